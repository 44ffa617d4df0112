import Derived.Test.YtlacjcdhfoeekaaTvJ
set_option linter.unusedSimpArgs false
set_option linter.unusedVariables false
namespace Go.Proofs.Ytlacjcdhfoeekaa
open Go Go.TV

theorem itrim (a : List Int) (ha : Short a) : fn Try.prog conv ext 178 [LI a] = some (LI (trimL a)) := by
  unfold Short at ha
  rw [fn_eq, ev_eqQ (rs := [.tmp 2]) [] rfl Try.func178 rfl rfl (by kernel_rfl) (by kernel_rfl)]
  simp only [go_sem]
  generalize hL : evLoopI _ _ = y
  obtain ⟨r, rfl, T', rfl, hT'⟩ := loop_rule hL (fun k st => ∃ T, st = ⟨T, noStore, 0⟩ ∧ T 0 = LI (a.take k) ∧ k ≤ a.length ∧ trimL (a.take k) = trimL a) (fun r => ∃ T, r = (.exit 0, ⟨T, noStore, 0⟩) ∧ T 0 = LI (trimL a)) (by
    clear hL
    rintro k _ ⟨T, rfl, h0, hk, ht⟩
    have hl : (a.take k).length = k := by rw [List.length_take, Nat.min_eq_left hk]
    cases k with
    | zero =>
      have h0' : T 0 = .ts [] 0 := h0
      have f0 : ¬(0 : Int) < 0 := by decide
      refine .inr ⟨_, by simp only [go_sem, h0', f0]; rfl, by simp, _, rfl, ?_⟩
      simp only [go_sem, h0']
      rw [← ht]; rfl
    | succ k =>
      have hlt : k < a.length := by omega
      have h0' : T 0 = .ts ((a.take (k + 1)).flatMap cI) (k + 1) := by rw [h0]; show V.ts _ (a.take (k + 1)).length = _; rw [hl]
      have f0 : (0 : Int) < ((k + 1 : Nat) : Int) := by omega
      have e5 : ((k + 1 : Nat) : Int) - 1 = (k : Int) := by omega
      have e2 := wrap_id (n := (k : Int)) (by omega) (by omega)
      have f1 : (0 : Int) ≤ (k : Int) := by omega
      have f2 : (k : Int) < ((k + 1 : Nat) : Int) := by omega
      have f5 := slot_ne (c := cI) (s := 1) (fun _ => rfl) (by omega) (a.take (k + 1)) k (by omega)
      have f6 := idx (xs := a.take (k + 1)) (k := k) (by omega)
      rw [List.getElem_take] at f6
      have f7 : k ≤ k + 1 := by omega
      have hts : ((a.take (k + 1)).flatMap cI).take k = (a.take k).flatMap cI := by rw [cI_take, List.take_take, Nat.min_eq_left f7]
      rw [take_succ_get hlt, trim_snoc] at ht
      by_cases hx : a[k] = 0
      · have fx : (a[k] == (0 : Int)) = true := by simpa using hx
        rw [if_pos hx] at ht
        refine .inl ⟨_, by simp only [go_sem, h0', f0, e5, e2, f1, f2, f5, f6, f7, hts, fx, Nat.zero_le]; rfl, k, by omega, _, rfl, ?_, by omega, ht⟩
        simp only [go_sem]
        show _ = V.ts _ (a.take k).length
        rw [List.length_take, Nat.min_eq_left (by omega)]
      · have fx : (a[k] == (0 : Int)) = false := by simpa using hx
        rw [if_neg hx] at ht
        refine .inr ⟨_, by simp only [go_sem, h0', f0, e5, e2, f1, f2, f5, f6, f7, fx]; rfl, by simp, _, rfl, ?_⟩
        simp only [go_sem]
        rw [h0, ← ht, take_succ_get hlt]) a.length ⟨_, rfl, by simp only [go_sem]; rw [List.take_length], Nat.le_refl _, by rw [List.take_length]⟩
  simp only [go_sem, hT']
theorem iSmall (n d : Nat) (hn : n < 1000000000000000000) (h0 : d ≠ 0) (hd : d < 1000000000) : fn Try.prog conv ext 194 [LI (dg n), I d] = some (.tup [LI (dg (n / d)), I (n % d : Nat)]) := by
  have hl := dg_few 2 n (by omega)
  have e1 : (8 : Int) * ((dg n).length : Int) ≤ 281474976710656 := by omega
  have e2 : ((dg n).length : Int) ≤ 9223372036854775807 := by omega
  have e3 : (0 : Int) ≤ ((dg n).length : Int) := by omega
  have e4 := wrap_id (n := ((dg n).length : Int) - 1) (by omega) (by omega)
  have ht := itrim (pad (n / d) (dg n).length) (by unfold Short; rw [pad_len]; omega)
  rw [trim_pad] at ht
  rw [fn_eq, ev_eqQ (rs := [.tmp 4, .tmp 5]) [7] rfl Try.func194 rfl rfl (by kernel_rfl) (by kernel_rfl)]
  simp only [go_sem, e1, e2, e3, e4]
  generalize hL : evLoopI _ _ = y
  obtain ⟨r, rfl, T', σ', nx', rfl, h6, h7, hσ⟩ := loop_rule hL (fun m st => st.T 0 = LI (dg n) ∧ st.T 1 = I d ∧ st.T 6 = .rs 0 0 (dg n).length ∧ st.T 8 = I ((m : Int) - 1) ∧ st.T 7 = I (n / 1000000000 ^ m % d : Nat) ∧ m ≤ (dg n).length ∧ 0 < st.nx ∧ st.σ 0 = some ⟨rep m [I 0] ++ ((pad (n / d) (dg n).length).drop m).flatMap cI, 1, true⟩)
    (fun r => ∃ T σ nx, r = (.exit 0, ⟨T, σ, nx⟩) ∧ T 6 = .rs 0 0 (dg n).length ∧ T 7 = I (n % d : Nat) ∧ σ 0 = some ⟨(pad (n / d) (dg n).length).flatMap cI, 1, true⟩) (by
      clear hL
      rintro m ⟨T, σ, nx⟩ ⟨t0, t1, t6, t8, t7, hm, hnx, hσ⟩
      simp only at t0 t1 t6 t8 t7 hnx hσ
      cases m with
      | zero =>
        have f0' : ¬(0 : Int) ≤ 0 - 1 := by omega
        rw [Nat.pow_zero, Nat.div_one] at t7
        refine .inr ⟨_, by simp only [go_sem, t8, f0']; rfl, by simp, _, _, _, rfl, by simp only [go_sem, t6], by simp only [go_sem, t7], ?_⟩
        rw [hσ, List.drop_zero]; rfl
      | succ m =>
        have hlt : m < (dg n).length := by omega
        have e5 : ((m + 1 : Nat) : Int) - 1 = (m : Int) := by omega
        rw [e5] at t8
        have f0 : (0 : Int) ≤ (m : Int) := by omega
        have f3 : (m : Int) < ((dg n).length : Int) := by omega
        have f5 := slot_ne (c := cI) (s := 1) (fun _ => rfl) (by omega) (dg n) m hlt
        have f6 := idx hlt
        rw [dg_get hlt] at f6
        have hdg := dg_shift n m
        have hpd := pad_drop (n := n / d) (k := (dg n).length) hlt
        have hq : n / d / 1000000000 ^ m = n / 1000000000 ^ m / d := by rw [Nat.div_div_eq_div_mul, Nat.div_div_eq_div_mul, Nat.mul_comm]
        rw [hq] at hpd
        have hle : n / 1000000000 ^ m ≤ n := Nat.div_le_self _ _
        obtain ⟨u, hu⟩ : ∃ u, n / 1000000000 ^ (m + 1) = u := ⟨_, rfl⟩
        obtain ⟨w, hw0⟩ : ∃ w, n / 1000000000 ^ m = w := ⟨_, rfl⟩
        rw [hu] at t7
        rw [hu, hw0] at hdg
        rw [hw0] at f6 hpd hle
        have hw : w % 1000000000 < 1000000000 := Nat.mod_lt _ (by decide)
        have hr : u % d < d := Nat.mod_lt _ (by omega)
        have hx : u % d * 1000000000 + w % 1000000000 < d * 1000000000 := by omega
        have hwu : w = d * 1000000000 * (u / d) + (u % d * 1000000000 + w % 1000000000) := by
          have := Nat.div_add_mod u d
          have h3 : d * (u / d) * 1000000000 = d * 1000000000 * (u / d) := by rw [Nat.mul_right_comm]
          omega
        obtain ⟨x, hxx⟩ : ∃ x, u % d * 1000000000 + w % 1000000000 = x := ⟨_, rfl⟩
        rw [hxx] at hwu hx
        have hdq : w / d % 1000000000 = x / d := by
          have h1 : w / d = 1000000000 * (u / d) + x / d := by
            rw [hwu, Nat.mul_assoc, Nat.add_comm, Nat.add_mul_div_left _ _ (by omega), Nat.add_comm]
          have h2 : x / d < 1000000000 := Nat.div_lt_of_lt_mul hx
          rw [h1]
          generalize x / d = q at h2 ⊢
          generalize u / d = p
          omega
        have hdr : w % d = x % d := by
          rw [hwu, Nat.mul_assoc, Nat.add_comm, Nat.add_mul_mod_self_left]
        have f7 := wrap_id (n := (m : Int) - 1) (by omega) (by omega)
        have f8 := wrap_id (n := ((u % d : Nat) : Int) * 1000000000) (by omega) (by omega)
        have g9 : ((u % d : Nat) : Int) * 1000000000 + ((w % 1000000000 : Nat) : Int) = (x : Int) := by omega
        have f9 := wrap_id (n := (x : Int)) (by omega) (by omega)
        have c1 : ¬(d : Int) = 0 := by omega
        have c2 : (x : Int).tdiv (d : Int) = ((x / d : Nat) : Int) := by rw [Int.tdiv_eq_ediv_of_nonneg (by omega)]; rfl
        have c3 : (x : Int).tmod (d : Int) = ((x % d : Nat) : Int) := by rw [Int.tmod_eq_emod_of_nonneg (by omega)]; rfl
        have hxd : x / d ≤ x := Nat.div_le_self _ _
        have c4 := wrap_id (n := ((x / d : Nat) : Int)) (by omega) (by omega)
        have c5 : m < (rep (m + 1) [I 0] ++ ((pad (n / d) (dg n).length).drop (m + 1)).flatMap cI).length := by rw [List.length_append, rep_len]; simp; omega
        have c6 := rep_set m (I 0) (I (x / d : Nat)) (((pad (n / d) (dg n).length).drop (m + 1)).flatMap cI)
        refine .inl ⟨_, by simp only [go_sem, t0, t1, t6, t8, t7, hσ, f0, f3, f5, f6, f7, f8, f9, g9, c1, c2, c3, c4, c5, c6, hnx]; rfl, m, by omega, ?_⟩
        simp only [go_sem, t0, t1, t6]
        refine ⟨by rw [hw0, hdr], by omega, hnx, ?_⟩
        rw [hpd, hdq]; rfl) (dg n).length ⟨by simp only [go_sem], by simp only [go_sem], by simp only [go_sem], by simp only [go_sem], by simp only [go_sem, dg_end, Nat.zero_mod], Nat.le_refl _, Nat.zero_lt_one, by simp only [go_sem]; rw [List.drop_of_length_le (by rw [pad_len]; exact Nat.le_refl _)]; simp⟩
  · have ht' : fn Try.prog conv ext 178 [.ts ((pad (n / d) (dg n).length).flatMap cI) (dg n).length] = some (LI (dg (n / d))) := by
      have hl : (pad (n / d) (dg n).length).length = (dg n).length := pad_len _ _
      unfold LI at ht
      rw [hl] at ht; exact ht
    have pl : (pad (n / d) (dg n).length).length = (dg n).length := pad_len _ _
    have tk : List.take (dg n).length ((pad (n / d) (dg n).length).flatMap cI) = (pad (n / d) (dg n).length).flatMap cI := by
      have := cI_takeall (pad (n / d) (dg n).length)
      rwa [pl] at this
    simp only [go_sem, h6, h7, hσ, pl, tk, ht']
  · exact Nat.lt_of_le_of_lt (Nat.div_le_self _ _) (by
      have := dg_end n
      exact (Nat.div_eq_zero_iff_lt (Nat.pow_pos (by decide))).mp this)
theorem iover (m n : Nat) (hm : m < 1000000000000000000) (h0 : n ≠ 0) (hn : n < 1000000000) : fn Try.prog conv ext 176 [LI (dg m), LI (dg n)] = some (.tup [LI (dg (m / n)), LI (dg (m % n))]) := by
  have k1 := icompare m n (by omega) (by omega)
  have k2 := iClone (dg m) (by have := dg_few 2 m (by omega); omega)
  have k3 := iSmall m n hm h0 hn
  have hr : m % n < n := Nat.mod_lt _ (by omega)
  have k4 := ilimbs (m % n) (by omega)
  have w1 := wrap_u64 (n := ((m % n : Nat) : Int)) (by omega) (by omega)
  have z1 : (0 : Int) < 1 := by decide
  have z2 : (0 : Int) ≤ 0 := by decide
  have z3 : (0 : Int).toNat = 0 := id rfl
  have m1 : (-1 : Int) < 0 := by decide
  rw [dg_one h0 hn] at k1
  have k1' : fn Try.prog conv ext 146 [LI (dg m), .ts [I n] 1] = some (I (cmpN m n)) := k1
  rw [dg_one h0 hn]
  rw [fn_eq, ev_eqQ (rs := [.tmp 4, .tmp 5]) [12,16,25] rfl Try.func176 rfl rfl (by kernel_rfl) (by kernel_rfl)]
  by_cases hmn : m < n
  · have hc : cmpN m n = -1 := by unfold cmpN; rw [if_pos hmn]
    rw [hc] at k1'
    rw [Nat.div_eq_of_lt hmn, Nat.mod_eq_of_lt hmn, dg_zero]
    (simp only [go_sem, k1', k2, m1]) <;> rfl
  · have hc : ¬cmpN m n < 0 := by unfold cmpN; rw [if_neg hmn]; split <;> decide
    simp only [go_sem, k1', hc, z1, z2, z3, k3, w1, k4]
theorem idivisor (m n : Nat) (hm : m < 1000000000000000000) (hn : n < 1000000000) : fn Try.prog conv ext 147 [LI (dg m), LI (dg n)] = some (LI (dg (Nat.gcd m n))) := by
  rw [fn_eq, ev_eqQ (rs := [.tmp 4]) [] rfl Try.func147 rfl rfl (by kernel_rfl) (by kernel_rfl)]
  simp only [go_sem]
  generalize hL : evLoopI _ _ = y
  obtain ⟨r, rfl, T', rfl, h0⟩ := loop_rule hL (fun b st => st.nx = 0 ∧ st.σ = noStore ∧ b < 1000000000 ∧ ∃ a : Nat, a < 1000000000000000000 ∧ st.T 0 = LI (dg a) ∧ st.T 1 = LI (dg b) ∧ Nat.gcd a b = Nat.gcd m n)
    (fun r => ∃ T, r = (.exit 0, ⟨T, noStore, 0⟩) ∧ T 0 = LI (dg (Nat.gcd m n))) (by
      clear hL
      rintro b ⟨T, σ, nx⟩ ⟨hnx, hσ, hb, a, ha, h0, h1, hg⟩
      simp only at hnx hσ h0 h1
      subst hnx hσ
      by_cases hz : b = 0
      · subst hz
        rw [dg_zero] at h1
        have h1' : T 1 = .ts [] 0 := h1
        have f0 : ¬(0 : Int) < 0 := by decide
        rw [Nat.gcd_zero_right] at hg
        exact .inr ⟨_, by simp only [go_sem, h1', f0]; rfl, by simp, _, rfl, by simp only [go_sem, h0, hg]⟩
      · have f0 : (0 : Int) < ((dg b).length : Int) := by have := List.length_pos_iff.mpr (dg_ne hz); omega
        have k1 := iover a b ha hz hb
        have hlt : a % b < b := Nat.mod_lt _ (by omega)
        refine .inl ⟨_, by simp only [go_sem, h0, h1, f0, k1]; rfl, a % b, hlt, ?_⟩
        simp only [go_sem]
        refine ⟨by omega, b, by omega, rfl, ?_⟩
        rw [← hg, Nat.gcd_comm a b, Nat.gcd_rec b a, Nat.gcd_comm]) n ⟨rfl, rfl, hn, m, hm, by simp only [go_sem], by simp only [go_sem], rfl⟩
  simp only [go_sem, h0]
theorem cmp_one {n : Nat} : (cmpN n 1 == 0) = decide (n = 1) := by
  unfold cmpN
  by_cases h : n < 1
  · rw [if_pos h, decide_eq_false (by omega)]; rfl
  · rw [if_neg h]
    by_cases h2 : n = 1
    · rw [if_pos h2, decide_eq_true h2]; rfl
    · rw [if_neg h2, decide_eq_false h2]; rfl
theorem icmp1 (n : Nat) (hn : n ≤ 9223372036854775807) : fn Try.prog conv ext 146 [LI (dg n), .ts [I 1] 1] = some (I (cmpN n 1)) := by
  have := icompare n 1 hn (by decide)
  rw [dg_one (d := 1) (by decide) (by decide)] at this
  exact this
/-- A fraction in lowest terms. -/
def lowD (neg : Bool) (m n : Nat) : List V := [Bo (neg && decide (0 < (dg (m / Nat.gcd m n)).length)), LI (dg (m / Nat.gcd m n)), LI (dg (n / Nat.gcd m n))]
theorem ilowest (neg : Bool) (m n : Nat) (hm : m < 1000000000000000000) (h0 : n ≠ 0) (hn : n < 1000000000) :
    fn Try.prog conv ext 143 [.agg [Bo (neg && decide (0 < (dg m).length)), LI (dg m)], LI (dg n)] = some (.tp (lowD neg m n) 0) := by
  have hg0 : Nat.gcd m n ≠ 0 := fun e => h0 (Nat.eq_zero_of_gcd_eq_zero_right e)
  have hgn : Nat.gcd m n ≤ n := Nat.gcd_le_right _ (by omega)
  have k1 := idivisor m n hm hn
  have k2 := icmp1 (Nat.gcd m n) (by omega)
  have k3 := iover m (Nat.gcd m n) hm hg0 (by omega)
  have k4 := iover n (Nat.gcd m n) (by omega) hg0 (by omega)
  have k5 := fun b => isigned b (dg (m / Nat.gcd m n))
  have hc := cmp_one (n := Nat.gcd m n)
  unfold lowD
  rw [fn_eq, ev_eqQ (rs := [.tmp 4]) [] rfl Try.func143 rfl rfl (by kernel_rfl) (by kernel_rfl)]
  by_cases hz : m = 0
  · subst hz
    rw [Nat.gcd_zero_left, Nat.zero_div, Nat.div_self (by omega), dg_zero, dg_one (d := 1) (by decide) (by decide)]
    (simp only [go_sem]) <;> rfl
  · have lz : (((dg m).length : Int) == 0) = false := by rw [beq_eq_false_iff_ne]; have := app_len (dg_ne hz); omega
    have lp : 0 < (dg m).length := List.length_pos_iff.mpr (dg_ne hz)
    have hmg : m / Nat.gcd m n ≠ 0 := by
      have := Nat.div_pos (Nat.gcd_le_left n (Nat.pos_of_ne_zero hz)) (by omega)
      omega
    have lq : 0 < (dg (m / Nat.gcd m n)).length := List.length_pos_iff.mpr (dg_ne hmg)
    by_cases hg1 : Nat.gcd m n = 1
    · rw [decide_eq_true hg1] at hc
      simp only [hg1, Nat.div_one] at k1 k2 hc ⊢
      (simp only [go_sem, lz, lp, k1, k2, hc]) <;> rfl
    · rw [decide_eq_false hg1] at hc
      (simp only [go_sem, lz, lp, lq, k1, k2, hc, k3, k4, k5]) <;> rfl
end Go.Proofs.Ytlacjcdhfoeekaa
