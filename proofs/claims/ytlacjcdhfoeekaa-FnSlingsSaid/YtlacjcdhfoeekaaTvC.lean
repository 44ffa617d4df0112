import Derived.Test.YtlacjcdhfoeekaaTvB
set_option linter.unusedSimpArgs false
set_option linter.unusedVariables false
namespace Go.Proofs.Ytlacjcdhfoeekaa
open Go Go.TV

/-! ### Digits -/
theorem dg_drop (n j : Nat) : (dg n).drop j = dg (n / 1000000000 ^ j) := by
  induction j generalizing n with
  | zero => simp
  | succ j ih =>
    by_cases h : n = 0
    · subst h; rw [Nat.zero_div, dg_zero]; rfl
    · rw [dg_pos h, List.drop_succ_cons, ih, Nat.div_div_eq_div_mul, Nat.pow_succ, Nat.mul_comm]
theorem dg_get {n j : Nat} (h : j < (dg n).length) : (dg n)[j] = ((n / 1000000000 ^ j % 1000000000 : Nat) : Int) := by
  have h1 := List.drop_eq_getElem_cons h
  rw [dg_drop] at h1
  have h2 : n / 1000000000 ^ j ≠ 0 := fun e => by rw [e, dg_zero] at h1; cases h1
  rw [dg_pos h2] at h1
  exact (List.cons.inj h1).1.symm
theorem dg_end (n : Nat) : n / 1000000000 ^ (dg n).length = 0 := by
  have h := dg_drop n (dg n).length
  rw [List.drop_length] at h
  exact Classical.byContradiction fun hn => dg_ne hn h.symm
theorem dg_shift (n j : Nat) : n / 1000000000 ^ (j + 1) * 1000000000 + n / 1000000000 ^ j % 1000000000 = n / 1000000000 ^ j := by
  rw [Nat.pow_succ, ← Nat.div_div_eq_div_mul]
  omega
theorem short_dg {n : Nat} (h : n ≤ 9223372036854775807) : Short (dg n) := by have := dg_three h; unfold Short; omega

theorem sCmp_ne (a b : List Int) (h : a.length < b.length) (hb : Short b) : fn Try.prog conv ext 192 [LI a, LI b] = some (I (-1)) := by
  unfold Short at hb
  have c1 : ((a.length : Int) != (b.length : Int)) = true := by rw [bne_iff_ne]; omega
  have c2 : (a.length : Int) < (b.length : Int) := by omega
  rw [fn_eq, ev_eqQ (rs := [.tmp 4]) [] rfl Try.func192 rfl rfl (by kernel_rfl) (by kernel_rfl)]
  simp only [go_sem, c1, c2]
theorem sNatToInt (n : Nat) (hn : n < 1000000000000000000) : fn Try.prog conv ext 189 [LI (dg n)] = some (.tup [I n, Bo true]) := by
  have hs := short_dg (n := n) (by omega)
  have h1 := sNatOk (dg n) hs
  rw [pb_true (natGood_dg (by omega))] at h1
  have hl2 : (dg n).length ≤ 2 := dg_few 2 n (by omega)
  have h2 : fn Try.prog conv ext 192 [LI (dg n), .ts [I 854775807, I 223372036, I 9] 3] = some (I (-1)) := sCmp_ne (dg n) [854775807, 223372036, 9] (by simp; omega) (by unfold Short; simp)
  have c0 : ¬(0 : Int) < -1 := by decide
  have e1 := wrap_id (n := ((dg n).length : Int) - 1) (by omega) (by omega)
  rw [fn_eq, ev_eqQ (rs := [.tmp 2, .tmp 3]) [] rfl Try.func189 rfl rfl (by kernel_rfl) (by kernel_rfl)]
  simp only [go_sem, h1, h2, c0, e1]
  generalize hL : evLoopI _ _ = y
  obtain ⟨r, rfl, T', σ', nx', rfl, h4⟩ := loop_rule hL (fun m st => st.T 0 = LI (dg n) ∧ st.T 5 = I ((m : Int) - 1) ∧ st.T 4 = I (n / 1000000000 ^ m : Nat) ∧ m ≤ (dg n).length)
    (fun r => ∃ T σ nx, r = (.exit 0, ⟨T, σ, nx⟩) ∧ T 4 = I n) (by
      clear hL
      rintro m ⟨T, σ, nx⟩ ⟨h0, h5, h4, hm⟩
      simp only at h0 h5 h4
      cases m with
      | zero =>
        have f0 : ¬(0 : Int) ≤ ((0 : Nat) : Int) - 1 := by omega
        have f0' : ¬(0 : Int) ≤ 0 - 1 := by omega
        rw [Nat.pow_zero, Nat.div_one] at h4
        exact .inr ⟨_, by simp only [go_sem, h0, h5, f0, f0']; rfl, by simp, _, _, _, rfl, by simp only [go_sem, h4]⟩
      | succ m =>
        have hlt : m < (dg n).length := by omega
        have e5 : ((m + 1 : Nat) : Int) - 1 = (m : Int) := by omega
        rw [e5] at h5
        have f0 : (0 : Int) ≤ (m : Int) := by omega
        have f3 : (m : Int) < ((dg n).length : Int) := by omega
        have f5 := slot_ne (c := cI) (s := 1) (fun _ => rfl) (by omega) (dg n) m hlt
        have f6 := idx hlt
        rw [dg_get hlt] at f6
        have hd := dg_shift n m
        have hle : n / 1000000000 ^ m ≤ n := Nat.div_le_self _ _
        generalize n / 1000000000 ^ (m + 1) = u at *
        generalize hw : n / 1000000000 ^ m = w at *
        have f7 := wrap_id (n := (m : Int) - 1) (by omega) (by omega)
        have f8 := wrap_id (n := (u : Int) * 1000000000) (by omega) (by omega)
        have f9 := wrap_id (n := (u : Int) * 1000000000 + ((w % 1000000000 : Nat) : Int)) (by omega) (by omega)
        refine .inl ⟨_, by simp only [go_sem, h0, h5, h4, f0, f3, f5, f6, f7, f8, f9]; rfl, m, by omega, ?_⟩
        simp only [go_sem, h0]
        refine ⟨?_, by omega⟩
        congr 3
        omega) (dg n).length ⟨by simp only [go_sem], by simp only [go_sem], by simp only [go_sem, dg_end], Nat.le_refl _⟩
  simp only [go_sem, h4]
theorem sPlain (x y : Nat) (hx : x ≤ 9223372036854775807) (hy : y ≤ 9223372036854775807) : fn Try.prog conv ext 190 [I x, I y] = some (LI (dg (Nat.gcd x y))) := by
  rw [fn_eq, ev_eqQ (rs := [.tmp 4]) [] rfl Try.func190 rfl rfl (by kernel_rfl) (by kernel_rfl)]
  simp only [go_sem]
  generalize hL : evLoopI _ _ = w
  obtain ⟨r, rfl, T', rfl, h0⟩ := loop_rule hL (fun b st => st.nx = 0 ∧ st.σ = noStore ∧ ∃ a : Nat, st.T 0 = I a ∧ st.T 1 = I b ∧ a ≤ 9223372036854775807 ∧ b ≤ 9223372036854775807 ∧ Nat.gcd a b = Nat.gcd x y)
    (fun r => ∃ T, r = (.exit 0, ⟨T, noStore, 0⟩) ∧ T 0 = I (Nat.gcd x y : Nat)) (by
      clear hL
      rintro b ⟨T, σ, nx⟩ ⟨hn, hσ, a, h0, h1, ha, hb, hg⟩
      simp only at hn hσ h0 h1
      subst hn hσ
      cases b with
      | zero =>
        have f0 : ¬(0 : Int) < 0 := by omega
        refine .inr ⟨_, by simp only [go_sem, h0, h1, f0]; rfl, by simp, _, rfl, ?_⟩
        rw [Nat.gcd_zero_right] at hg
        simp only [go_sem, h0, hg]
      | succ b =>
        have f0 : (0 : Int) < ((b + 1 : Nat) : Int) := by omega
        have f1 : ¬((b + 1 : Nat) : Int) = 0 := by omega
        have f2 : (a : Int).tmod ((b + 1 : Nat) : Int) = ((a % (b + 1) : Nat) : Int) := by rw [Int.tmod_eq_emod_of_nonneg (by omega)]; rfl
        have hlt : a % (b + 1) < b + 1 := Nat.mod_lt a (Nat.succ_pos b)
        refine .inl ⟨_, by simp only [go_sem, h0, h1, f0, f1, f2]; rfl, a % (b + 1), hlt, ?_⟩
        simp only [go_sem]
        refine ⟨b + 1, rfl, hb, by omega, ?_⟩
        rw [← hg, Nat.gcd_comm a (b + 1), Nat.gcd_rec (b + 1) a, Nat.gcd_comm]) y ⟨rfl, rfl, x, by simp only [go_sem], by simp only [go_sem], hx, hy, rfl⟩
  have hgl : Nat.gcd x y ≤ 9223372036854775807 := by
    rcases Nat.eq_zero_or_pos x with h | h
    · subst h; rw [Nat.gcd_zero_left]; exact hy
    · exact Nat.le_trans (Nat.gcd_le_left _ h) hx
  have h3 := sNatOf (Nat.gcd x y) hgl
  simp only [go_sem, h0, h3]

theorem app_len {xs : List Int} (h : xs ≠ []) : ¬xs.length = 0 := fun e => h (List.eq_nil_of_length_eq_zero e)
theorem sGcd (m n : Nat) (hm : m < 1000000000000000000) (hn : n < 1000000000000000000) (h0 : n ≠ 0) : fn Try.prog conv ext 173 [LI (dg m), LI (dg n)] = some (LI (dg (Nat.gcd m n))) := by
  have t1 := sNatToInt m hm
  have t2 := sNatToInt n hn
  have t3 := sPlain m n (by omega) (by omega)
  have l1 := dg_few 2 m (by omega)
  have l2 := dg_few 2 n (by omega)
  have p2 : (0 : Int) < ((dg n).length : Int) := by have := List.length_pos_iff.mpr (dg_ne h0); omega
  have z2 : ¬(dg n).length = 0 := app_len (dg_ne h0)
  have s2 : (dg n).length ≤ maxLen ∧ (dg n).length * 8 ≤ 140737488355328 := by unfold maxLen; omega
  have c1 : ((dg m).length : Int) < 3 := by omega
  have c2 : ((dg n).length : Int) < 3 := by omega
  rw [fn_eq, ev_eqQ (rs := [.tmp 4]) [] rfl Try.func173 rfl rfl (by kernel_rfl) (by kernel_rfl)]
  by_cases hz : m = 0
  · subst hz
    rw [dg_zero] at *
    have t1' : fn Try.prog conv ext 189 [.ts [] 0] = some (.tup [I 0, Bo true]) := t1
    have t3' : fn Try.prog conv ext 190 [I 0, I n] = some (LI (dg (Nat.gcd 0 n))) := t3
    have c1' : (0 : Int) < 3 := by decide
    simp only [go_sem, z2, s2]
    rw [evLoopI_eq]
    simp only [go_sem, p2, c1', c2, t1', t2, t3']
  · have z1 : ¬(dg m).length = 0 := app_len (dg_ne hz)
    have s1 : (dg m).length ≤ maxLen ∧ (dg m).length * 8 ≤ 140737488355328 := by unfold maxLen; omega
    simp only [go_sem, z2, s2, z1, s1]
    rw [evLoopI_eq]
    simp only [go_sem, p2, c1, c2, t1, t2, t3]

/-! ### Division by a digit -/
def pad (n k : Nat) : List Int := (List.range k).map fun j => ((n / 1000000000 ^ j % 1000000000 : Nat) : Int)
theorem pad_len (n k : Nat) : (pad n k).length = k := by simp [pad]
theorem pad_get (n k j : Nat) (h : j < (pad n k).length) : (pad n k)[j] = ((n / 1000000000 ^ j % 1000000000 : Nat) : Int) := by simp [pad]
theorem trim_zero (k : Nat) : trimL ((List.range k).map fun _ => (0 : Int)) = [] := by
  induction k with
  | zero => rfl
  | succ k ih => rw [List.range_succ, List.map_append, List.map_singleton, trim_snoc, if_pos rfl, ih]
theorem pad_succ (n k : Nat) : pad n (k + 1) = ((n % 1000000000 : Nat) : Int) :: pad (n / 1000000000) k := by
  unfold pad
  rw [List.range_succ_eq_map, List.map_cons, List.map_map]
  congr 1
  · rw [Nat.pow_zero, Nat.div_one]
  · refine List.map_congr_left fun j _ => ?_
    show (((n / 1000000000 ^ (j + 1) % 1000000000 : Nat)) : Int) = _
    rw [Nat.div_div_eq_div_mul, Nat.pow_succ, Nat.mul_comm]
theorem trim_pad (k : Nat) : ∀ n : Nat, n < 1000000000 ^ k → trimL (pad n k) = dg n := by
  induction k with
  | zero =>
    intro n h
    have : n = 0 := by simpa using h
    subst this; rw [dg_zero]; rfl
  | succ k ih =>
    intro n h
    have : n / 1000000000 < 1000000000 ^ k := Nat.div_lt_of_lt_mul (by rw [Nat.pow_succ, Nat.mul_comm] at h; exact h)
    rw [pad_succ, trim_cons, ih _ this]
    by_cases h0 : n = 0
    · subst h0
      rw [Nat.zero_div, dg_zero, if_pos rfl, if_pos (by decide)]
    · rw [dg_pos h0]
      by_cases h2 : n / 1000000000 = 0
      · rw [h2, dg_zero, if_pos rfl, if_neg (by omega)]
      · rw [if_neg (dg_ne h2)]
theorem rep_set (j : Nat) (z v : V) (r : List V) : (rep (j + 1) [z] ++ r).set j v = rep j [z] ++ v :: r := by
  induction j with
  | zero => rfl
  | succ j ih =>
    have h1 : rep (j + 1 + 1) [z] = z :: rep (j + 1) [z] := rep_succ _ _
    have h2 : rep (j + 1) [z] = z :: rep j [z] := rep_succ _ _
    rw [h1]
    show z :: ((rep (j + 1) [z] ++ r).set j v) = rep (j + 1) [z] ++ v :: r
    rw [ih, h2]; rfl
theorem pad_drop {n k m : Nat} (h : m < k) : (pad n k).drop m = ((n / 1000000000 ^ m % 1000000000 : Nat) : Int) :: (pad n k).drop (m + 1) := by
  rw [List.drop_eq_getElem_cons (by rw [pad_len]; exact h), pad_get]
theorem sSmall (n d : Nat) (hn : n < 1000000000000000000) (h0 : d ≠ 0) (hd : d < 1000000000) : fn Try.prog conv ext 197 [LI (dg n), I d] = some (.tup [LI (dg (n / d)), I (n % d : Nat)]) := by
  have hl := dg_few 2 n (by omega)
  have e1 : (8 : Int) * ((dg n).length : Int) ≤ 281474976710656 := by omega
  have e2 : ((dg n).length : Int) ≤ 9223372036854775807 := by omega
  have e3 : (0 : Int) ≤ ((dg n).length : Int) := by omega
  have e4 := wrap_id (n := ((dg n).length : Int) - 1) (by omega) (by omega)
  have ht := strim (pad (n / d) (dg n).length) (by unfold Short; rw [pad_len]; omega)
  rw [trim_pad] at ht
  rw [fn_eq, ev_eqQ (rs := [.tmp 4, .tmp 5]) [] rfl Try.func197 rfl rfl (by kernel_rfl) (by kernel_rfl)]
  simp only [go_sem, e1, e2, e3, e4]
  generalize hL : evLoopI _ _ = y
  obtain ⟨r, rfl, T', σ', nx', rfl, h6, h7, hσ⟩ := loop_rule hL (fun m st => st.T 0 = LI (dg n) ∧ st.T 1 = I d ∧ st.T 6 = .rs 0 0 (dg n).length ∧ st.T 8 = I ((m : Int) - 1) ∧ st.T 7 = I (n / 1000000000 ^ m % d : Nat) ∧ m ≤ (dg n).length ∧ st.σ 0 = some ⟨rep m [I 0] ++ ((pad (n / d) (dg n).length).drop m).flatMap cI, 1, true⟩)
    (fun r => ∃ T σ nx, r = (.exit 0, ⟨T, σ, nx⟩) ∧ T 6 = .rs 0 0 (dg n).length ∧ T 7 = I (n % d : Nat) ∧ σ 0 = some ⟨(pad (n / d) (dg n).length).flatMap cI, 1, true⟩) (by
      clear hL
      rintro m ⟨T, σ, nx⟩ ⟨t0, t1, t6, t8, t7, hm, hσ⟩
      simp only at t0 t1 t6 t8 t7 hσ
      cases m with
      | zero =>
        have f0' : ¬(0 : Int) ≤ 0 - 1 := by omega
        rw [Nat.pow_zero, Nat.div_one] at t7
        refine .inr ⟨_, by simp only [go_sem, t8, f0']; rfl, by simp, _, _, _, rfl, by simp only [go_sem, t6], by simp only [go_sem, t7], ?_⟩
        rw [hσ, List.drop_zero]; rfl
      | succ m =>
        have hlt : m < (dg n).length := by omega
        have e5 : ((m + 1 : Nat) : Int) - 1 = (m : Int) := by omega
        rw [e5] at t8
        have f0 : (0 : Int) ≤ (m : Int) := by omega
        have f3 : (m : Int) < ((dg n).length : Int) := by omega
        have f5 := slot_ne (c := cI) (s := 1) (fun _ => rfl) (by omega) (dg n) m hlt
        have f6 := idx hlt
        rw [dg_get hlt] at f6
        have hdg := dg_shift n m
        have hpd := pad_drop (n := n / d) (k := (dg n).length) hlt
        have hq : n / d / 1000000000 ^ m = n / 1000000000 ^ m / d := by rw [Nat.div_div_eq_div_mul, Nat.div_div_eq_div_mul, Nat.mul_comm]
        rw [hq] at hpd
        have hle : n / 1000000000 ^ m ≤ n := Nat.div_le_self _ _
        obtain ⟨u, hu⟩ : ∃ u, n / 1000000000 ^ (m + 1) = u := ⟨_, rfl⟩
        obtain ⟨w, hw0⟩ : ∃ w, n / 1000000000 ^ m = w := ⟨_, rfl⟩
        rw [hu] at t7
        rw [hu, hw0] at hdg
        rw [hw0] at f6 hpd hle
        have hw : w % 1000000000 < 1000000000 := Nat.mod_lt _ (by decide)
        have hr : u % d < d := Nat.mod_lt _ (by omega)
        have hx : u % d * 1000000000 + w % 1000000000 < d * 1000000000 := by omega
        have hwu : w = d * 1000000000 * (u / d) + (u % d * 1000000000 + w % 1000000000) := by
          have := Nat.div_add_mod u d
          have h3 : d * (u / d) * 1000000000 = d * 1000000000 * (u / d) := by rw [Nat.mul_right_comm]
          omega
        obtain ⟨x, hxx⟩ : ∃ x, u % d * 1000000000 + w % 1000000000 = x := ⟨_, rfl⟩
        rw [hxx] at hwu hx
        have hdq : w / d % 1000000000 = x / d := by
          have h1 : w / d = 1000000000 * (u / d) + x / d := by
            rw [hwu, Nat.mul_assoc, Nat.add_comm, Nat.add_mul_div_left _ _ (by omega), Nat.add_comm]
          have h2 : x / d < 1000000000 := Nat.div_lt_of_lt_mul hx
          rw [h1]
          generalize x / d = q at h2 ⊢
          generalize u / d = p
          omega
        have hdr : w % d = x % d := by
          rw [hwu, Nat.mul_assoc, Nat.add_comm, Nat.add_mul_mod_self_left]
        have f7 := wrap_id (n := (m : Int) - 1) (by omega) (by omega)
        have f8 := wrap_id (n := ((u % d : Nat) : Int) * 1000000000) (by omega) (by omega)
        have g9 : ((u % d : Nat) : Int) * 1000000000 + ((w % 1000000000 : Nat) : Int) = (x : Int) := by omega
        have f9 := wrap_id (n := (x : Int)) (by omega) (by omega)
        have c1 : ¬(d : Int) = 0 := by omega
        have c2 : (x : Int).tdiv (d : Int) = ((x / d : Nat) : Int) := by rw [Int.tdiv_eq_ediv_of_nonneg (by omega)]; rfl
        have c3 : (x : Int).tmod (d : Int) = ((x % d : Nat) : Int) := by rw [Int.tmod_eq_emod_of_nonneg (by omega)]; rfl
        have hxd : x / d ≤ x := Nat.div_le_self _ _
        have c4 := wrap_id (n := ((x / d : Nat) : Int)) (by omega) (by omega)
        have c5 : m < (rep (m + 1) [I 0] ++ ((pad (n / d) (dg n).length).drop (m + 1)).flatMap cI).length := by rw [List.length_append, rep_len]; simp; omega
        have c6 := rep_set m (I 0) (I (x / d : Nat)) (((pad (n / d) (dg n).length).drop (m + 1)).flatMap cI)
        refine .inl ⟨_, by simp only [go_sem, t0, t1, t6, t8, t7, hσ, f0, f3, f5, f6, f7, f8, f9, g9, c1, c2, c3, c4, c5, c6]; rfl, m, by omega, ?_⟩
        simp only [go_sem, t0, t1, t6]
        refine ⟨by rw [hw0, hdr], by omega, ?_⟩
        rw [hpd, hdq]; rfl) (dg n).length ⟨by simp only [go_sem], by simp only [go_sem], by simp only [go_sem], by simp only [go_sem], by simp only [go_sem, dg_end, Nat.zero_mod], Nat.le_refl _, by simp only [go_sem]; rw [List.drop_of_length_le (by rw [pad_len]; exact Nat.le_refl _)]; simp⟩
  · have ht' : fn Try.prog conv ext 186 [.ts ((pad (n / d) (dg n).length).flatMap cI) (dg n).length] = some (LI (dg (n / d))) := by
      have hl : (pad (n / d) (dg n).length).length = (dg n).length := pad_len _ _
      unfold LI at ht
      rw [hl] at ht; exact ht
    have pl : (pad (n / d) (dg n).length).length = (dg n).length := pad_len _ _
    have tk : List.take (dg n).length ((pad (n / d) (dg n).length).flatMap cI) = (pad (n / d) (dg n).length).flatMap cI := by
      have := cI_takeall (pad (n / d) (dg n).length)
      rwa [pl] at this
    simp only [go_sem, h6, h7, hσ, pl, tk, ht']
  · exact Nat.lt_of_le_of_lt (Nat.div_le_self _ _) (by
      have := dg_end n
      exact (Nat.div_eq_zero_iff_lt (Nat.pow_pos (by decide))).mp this)
end Go.Proofs.Ytlacjcdhfoeekaa
