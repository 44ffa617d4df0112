import Derived.Test.YtlacjcdhfoeekaaTvU
set_option linter.unusedSimpArgs false
set_option linter.unusedVariables false
namespace Go.Proofs.Ytlacjcdhfoeekaa
open Go Go.TV

/-! ### The reference's numbers -/
def dg (n : Nat) : List Int := if n = 0 then [] else ((n % 1000000000 : Nat) : Int) :: dg (n / 1000000000)
termination_by n
decreasing_by exact Nat.div_lt_self (by omega) (by decide)
theorem dg_zero : dg 0 = [] := by unfold dg; rfl
theorem dg_pos {n : Nat} (h : n ≠ 0) : dg n = ((n % 1000000000 : Nat) : Int) :: dg (n / 1000000000) := by rw [dg, if_neg h]
theorem pow_few {k m n : Nat} (h : 1000000000 ^ k * m ≤ n) (hm : 1 ≤ m) (hn : n ≤ 9223372036854775807) : k ≤ 2 := by
  rcases Nat.lt_or_ge k 3 with h1 | h1
  · omega
  · have := Nat.pow_le_pow_right (n := 1000000000) (by decide) h1
    have h2 : 1000000000 ^ k * 1 ≤ 1000000000 ^ k * m := Nat.mul_le_mul_left _ hm
    have h3 : (1000000000 : Nat) ^ 3 = 1000000000000000000000000000 := by decide
    omega
theorem sNatOf (n : Nat) (hn : n ≤ 9223372036854775807) : fn Try.prog conv ext 170 [I n] = some (LI (dg n)) := by
  rw [fn_eq, ev_eqQ (rs := [.tmp 2]) [] rfl Try.func170 rfl rfl (by kernel_rfl) (by kernel_rfl)]
  simp only [go_sem]
  generalize hL : evLoopI _ _ = y
  obtain ⟨r, rfl, T', σ', nx', rfl, hr⟩ := loop_rule hL (fun m st => st.T 0 = I m ∧ ∃ acc, Grow st.T st.σ st.nx 3 acc ∧ dg n = acc ++ dg m ∧ 1000000000 ^ acc.length * m ≤ n)
    (fun r => ∃ T σ nx, r = (.exit 0, ⟨T, σ, nx⟩) ∧ Grow T σ nx 3 (dg n)) (by
      clear hL
      rintro m ⟨T, σ, nx⟩ ⟨h0, acc, hacc, hd, hp⟩
      simp only at h0 hacc
      by_cases hm : m = 0
      · subst hm
        have f0 : ¬(0 : Int) < 0 := by omega
        refine .inr ⟨_, by simp only [go_sem, h0, f0]; rfl, by simp, _, _, _, rfl, ?_⟩
        rw [dg_zero, List.append_nil] at hd
        rw [hd]
        simpa only [Grow, go_sem] using hacc
      · have f0 : (0 : Int) < (m : Int) := by omega
        have hk := pow_few hp (by omega) hn
        have hmn : m ≤ n := Nat.le_trans (Nat.le_mul_of_pos_left _ (Nat.pow_pos (by decide))) hp
        have f1 : (m : Int).tmod 1000000000 = ((m % 1000000000 : Nat) : Int) := by rw [Int.tmod_eq_emod_of_nonneg (by omega)]; omega
        have f2 : IntKind.i64.wrap ((m : Int).tdiv 1000000000) = ((m / 1000000000 : Nat) : Int) := by
          rw [Int.tdiv_eq_ediv_of_nonneg (by omega)]
          rw [wrap_id (by omega) (by omega)]; omega
        have hd' : dg n = (acc ++ [((m % 1000000000 : Nat) : Int)]) ++ dg (m / 1000000000) := by rw [hd, dg_pos hm]; simp
        have hp' : 1000000000 ^ (acc ++ [((m % 1000000000 : Nat) : Int)]).length * (m / 1000000000) ≤ n := by
          rw [List.length_append, List.length_singleton, Nat.pow_succ, Nat.mul_assoc]
          exact Nat.le_trans (Nat.mul_le_mul_left _ (Nat.mul_div_le _ _)) hp
        have hlt : m / 1000000000 < m := Nat.div_lt_self (by omega) (by decide)
        obtain ⟨σ', ha, hs⟩ := grow_append hacc ((m % 1000000000 : Nat) : Int) (by omega)
        refine .inl ⟨_, by simp only [go_sem, h0, f0, f1, f2, ha]; rfl, _, hlt, ?_, _, ?_, hd', hp'⟩
        · simp only [go_sem]
        · exact grow_new hs (by simp [go_sem]) (by simp)) n ⟨by simp only [go_sem], [], .inl ⟨by simp only [go_sem], rfl⟩, rfl, by simp⟩
  obtain ⟨ids, h1⟩ := grow_strip hr 6
  simp only [go_sem, h1]

/-- The lists that the numbers' functions take: short. -/
def Short (xs : List Int) : Prop := xs.length ≤ 17592186044000
theorem idx {xs : List Int} {k : Nat} (h : k < xs.length) : (xs.flatMap cI)[k]? = some (I xs[k]) := slot1 I xs k h
theorem cI_take (xs : List Int) (k : Nat) : (xs.flatMap cI).take k = (xs.take k).flatMap cI := by
  induction xs generalizing k with
  | nil => simp
  | cons x xs ih =>
    cases k with
    | zero => rfl
    | succ k => simp [ih]
def trimL (a : List Int) : List Int := (a.reverse.dropWhile (· = 0)).reverse
theorem trim_snoc (a : List Int) (x : Int) : trimL (a ++ [x]) = if x = 0 then trimL a else a ++ [x] := by
  unfold trimL
  simp only [List.reverse_append, List.reverse_cons, List.reverse_nil, List.nil_append, List.singleton_append, List.dropWhile_cons, decide_eq_true_eq]
  split <;> simp
theorem take_succ_get {a : List Int} {k : Nat} (h : k < a.length) : a.take (k + 1) = a.take k ++ [a[k]] := by rw [List.take_add_one, List.getElem?_eq_getElem h]; rfl
theorem strim (a : List Int) (ha : Short a) : fn Try.prog conv ext 186 [LI a] = some (LI (trimL a)) := by
  unfold Short at ha
  rw [fn_eq, ev_eqQ (rs := [.tmp 2]) [] rfl Try.func186 rfl rfl (by kernel_rfl) (by kernel_rfl)]
  simp only [go_sem]
  generalize hL : evLoopI _ _ = y
  obtain ⟨r, rfl, T', k, rfl, h0, h3, hk, ht⟩ := loop_rule hL (fun k st => st.nx = 0 ∧ st.σ = noStore ∧ st.T 0 = LI a ∧ st.T 3 = I k ∧ k ≤ a.length ∧ trimL a = trimL (a.take k))
    (fun r => ∃ T k, r = (.exit 0, ⟨T, noStore, 0⟩) ∧ T 0 = LI a ∧ T 3 = I (k : Nat) ∧ k ≤ a.length ∧ trimL a = a.take k) (by
      clear hL
      rintro k ⟨T, σ, nx⟩ ⟨hn, hσ, h0, h3, hk, ht⟩
      simp only at hn hσ h0 h3
      subst hn hσ
      cases k with
      | zero =>
        have f0 : ¬(0 : Int) < 0 := by omega
        refine .inr ⟨_, by simp only [go_sem, h0, h3, f0]; rfl, by simp, _, 0, rfl, by simp only [go_sem, h0], by simp only [go_sem, h3], hk, ?_⟩
        rw [ht]; rfl
      | succ k =>
        have hlt : k < a.length := by omega
        have f0 : (0 : Int) < ((k + 1 : Nat) : Int) := by omega
        have f1 := wrap_id (n := ((k + 1 : Nat) : Int) - 1) (by omega) (by omega)
        have f2 : ((k + 1 : Nat) : Int) - 1 = (k : Int) := by omega
        have f3 : (k : Int) < (a.length : Int) := by omega
        have f4 : (0 : Int) ≤ (k : Int) := by omega
        have f5 := slot_ne (c := cI) (s := 1) (fun _ => rfl) (by omega) a k hlt
        have f6 := idx hlt
        rw [f2] at f1
        rw [take_succ_get hlt, trim_snoc] at ht
        by_cases hx : a[k] = 0
        · have fx : (a[k] == (0 : Int)) = true := by simpa using hx
          rw [if_pos hx] at ht
          refine .inl ⟨_, by simp only [go_sem, h0, h3, f0, f1, f2, f3, f4, f5, f6, fx]; rfl, k, by omega, ?_⟩
          simp only [go_sem, h0]
          exact ⟨by omega, ht⟩
        · have fx : (a[k] == (0 : Int)) = false := by simpa using hx
          rw [if_neg hx] at ht
          refine .inr ⟨_, by simp only [go_sem, h0, h3, f0, f1, f2, f3, f4, f5, f6, fx]; rfl, by simp, _, k + 1, rfl, by simp only [go_sem, h0], by simp only [go_sem, h3], hk, ?_⟩
          rw [ht, take_succ_get hlt]) a.length ⟨rfl, rfl, by simp only [go_sem], by simp only [go_sem], Nat.le_refl _, by rw [List.take_length]⟩
  have g1 : (0 : Int) ≤ (k : Int) := by omega
  have g2 : (a.take k).length = k := by rw [List.length_take, Nat.min_eq_left hk]
  simp only [go_sem, h0, h3, g1, hk, Nat.zero_le, cI_take, ht]
  show _ = some (V.ts _ (List.take k a).length)
  rw [g2]
theorem scap (a : List Int) (ha : Short a) (h : (trimL a).length ≤ 60) : fn Try.prog conv ext 188 [LI a] = some (LI (trimL a)) := by
  have h1 := strim a ha
  have h2 : ¬(60 : Int) < ((trimL a).length : Int) := by omega
  rw [fn_eq, ev_eqQ (rs := [.tmp 2]) [] rfl Try.func188 rfl rfl (by kernel_rfl) (by kernel_rfl)]
  simp only [go_sem, h1, h2]
theorem small_len {xs : List Int} (h : Short xs) : xs.length ≤ maxLen ∧ xs.length * 8 ≤ 140737488355328 := by
  unfold Short at h; unfold maxLen; omega
theorem trim_le (a : List Int) : (trimL a).length ≤ a.length := by
  unfold trimL
  rw [List.length_reverse]
  exact Nat.le_trans (List.dropWhile_suffix _).length_le (by rw [List.length_reverse]; exact Nat.le_refl _)
theorem smake (neg : Bool) (a : List Int) (ha : Short a) (h : (trimL a).length ≤ 60) : fn Try.prog conv ext 169 [Bo neg, LI a] = some (.agg [Bo (neg && decide (0 < (trimL a).length)), LI (trimL a)]) := by
  have h1 := scap a ha h
  rw [fn_eq, ev_eqQ (rs := [.cell 4 28]) [] rfl Try.func169 rfl rfl (by kernel_rfl) (by kernel_rfl)]
  generalize trimL a = m at *
  cases m with
  | nil => cases neg <;> simp only [go_sem, h1] <;> rfl
  | cons x m =>
    have hl : (m.length + 1) ≤ maxLen ∧ (m.length + 1) * 8 ≤ 140737488355328 := by simp only [List.length_cons] at h; unfold maxLen; omega
    have hz : ¬(m.length + 1 = 0) := by omega
    have hp : (0 : Int) < ((m.length + 1 : Nat) : Int) := by omega
    have hq : 0 < m.length + 1 := by omega
    cases neg <;> simp only [go_sem, h1, hl, hz, hp, hq] <;> rfl

/-! ### Good numbers -/
theorem trim_cons (d : Int) (xs : List Int) : trimL (d :: xs) = if trimL xs = [] then (if d = 0 then [] else [d]) else d :: trimL xs := by
  unfold trimL
  rw [List.reverse_cons, List.dropWhile_append]
  by_cases h : (xs.reverse.dropWhile fun x => decide (x = 0)) = []
  · rw [h]
    simp only [List.isEmpty_nil, if_true, List.reverse_nil, List.dropWhile_cons, List.dropWhile_nil, decide_eq_true_eq]
    split <;> simp_all
  · rw [if_neg (by simpa using h), if_neg (by simpa using h)]
    simp
theorem dg_ne {n : Nat} (h : n ≠ 0) : dg n ≠ [] := by rw [dg_pos h]; simp
theorem trim_dg (n : Nat) : trimL (dg n) = dg n := by
  induction n using Nat.strongRecOn with
  | _ n ih =>
    by_cases h : n = 0
    · subst h; rw [dg_zero]; rfl
    · rw [dg_pos h, trim_cons, ih _ (Nat.div_lt_self (by omega) (by decide))]
      by_cases h2 : n / 1000000000 = 0
      · rw [h2, dg_zero, if_pos rfl, if_neg (by omega)]
      · rw [if_neg (dg_ne h2)]
theorem dg_few (k : Nat) : ∀ n : Nat, n < 1000000000 ^ k → (dg n).length ≤ k := by
  induction k with
  | zero => intro n h; have : n = 0 := by simpa using h
            subst this; rw [dg_zero]; exact Nat.le_refl _
  | succ k ih =>
    intro n h
    by_cases h0 : n = 0
    · subst h0; rw [dg_zero]; exact Nat.zero_le _
    · rw [dg_pos h0, List.length_cons]
      have : n / 1000000000 < 1000000000 ^ k := Nat.div_lt_of_lt_mul (by rw [Nat.pow_succ, Nat.mul_comm] at h; exact h)
      have := ih _ this
      omega
theorem dg_three {n : Nat} (h : n ≤ 9223372036854775807) : (dg n).length ≤ 3 := dg_few 3 n (by omega)
theorem dg_mem (n : Nat) : ∀ x ∈ dg n, 0 ≤ x ∧ x ≤ 999999999 := by
  induction n using Nat.strongRecOn with
  | _ n ih =>
    intro x hx
    by_cases h : n = 0
    · subst h; rw [dg_zero] at hx; cases hx
    · rw [dg_pos h] at hx
      rcases List.mem_cons.mp hx with rfl | hx
      · omega
      · exact ih _ (Nat.div_lt_self (by omega) (by decide)) x hx
def NatGood (a : List Int) : Prop := (∀ x ∈ a, inB x 0 999999999 = true) ∧ a.length ≤ 60 ∧ trimL a = a
theorem natGood_dg {n : Nat} (h : n ≤ 9223372036854775807) : NatGood (dg n) :=
  ⟨fun x hx => by have := dg_mem n x hx; unfold inB; rw [decide_eq_true this.1, decide_eq_true this.2]; rfl, by have := dg_three h; omega, trim_dg n⟩
theorem trim_last {a : List Int} (h : a ≠ []) : trimL a = a ↔ a[a.length - 1]'(by have := List.length_pos_iff.mpr h; omega) ≠ 0 := by
  rcases List.eq_nil_or_concat a with rfl | ⟨b, x, e⟩
  · exact absurd rfl h
  · rw [List.concat_eq_append] at e
    subst e
    rw [trim_snoc]
    have : (b ++ [x])[(b ++ [x]).length - 1]'(by simp) = x := by simp
    rw [this]
    by_cases hx : x = 0
    · rw [if_pos hx]
      refine ⟨fun e => ?_, fun e => absurd hx e⟩
      have := congrArg List.length e
      have h2 := trim_le b
      rw [List.length_append, List.length_singleton] at this
      omega
    · rw [if_neg hx]; exact ⟨fun _ => hx, fun _ => rfl⟩
theorem sNatOk (a : List Int) (ha : Short a) : fn Try.prog conv ext 171 [LI a] = some (Bo (pb (NatGood a))) := by
  unfold Short at ha
  rw [fn_eq, ev_eqQ (rs := [.tmp 2]) [] rfl Try.func171 rfl rfl (by kernel_rfl) (by kernel_rfl)]
  simp only [go_sem]
  generalize hL : evLoopI _ _ = y
  obtain ⟨r, rfl, hr⟩ := count_rule hL a.length (fun k st => st.nx = 0 ∧ st.σ = noStore ∧ st.T 0 = LI a ∧ st.T 5 = LI a ∧ st.T 6 = I a.length ∧ st.T 7 = I k ∧ ∀ i (h : i < a.length), i < k → inB a[i] 0 999999999 = true)
    (fun r => (∃ T, r = (.exit 0, ⟨T, noStore, 0⟩) ∧ T 0 = LI a ∧ ∀ x ∈ a, inB x 0 999999999 = true) ∨ (∃ T, r = (.ret, ⟨T, noStore, 0⟩) ∧ T 2 = Bo false ∧ ¬NatGood a)) (by
      clear hL
      rintro k ⟨T, σ, nx⟩ hlt ⟨hn, hσ, h0, h19, h20, h21, hi⟩
      simp only at hn hσ h0 h19 h20 h21
      subst hn hσ
      have f1 : (k : Int) < (a.length : Int) := by omega
      have f2 : (0 : Int) ≤ (k : Int) := by omega
      have f3 := wrap_id (n := (k : Int) + 1) (by omega) (by omega)
      have f4 := idx hlt
      have f9 := slot_ne (c := cI) (s := 1) (fun _ => rfl) (by omega) a k hlt
      have t1 := l01In a[k] 0 999999999
      cases hb : inB a[k] 0 999999999 with
      | true =>
        rw [hb] at t1
        refine .inl ⟨_, by simp only [go_sem, h0, h19, h20, h21, f1, f2, f3, f4, f9, t1]; rfl, ?_⟩
        simp only [go_sem, h0, h19, h20]
        refine ⟨rfl, fun i hi' hik => ?_⟩
        rcases Nat.lt_or_eq_of_le (Nat.le_of_lt_succ hik) with q | q
        · exact hi i hi' q
        · subst q; exact hb
      | false =>
        rw [hb] at t1
        refine .inr ⟨_, by simp only [go_sem, h19, h20, h21, f1, f2, f4, f9, t1]; rfl, by simp, .inr ⟨_, rfl, by simp only [go_sem], fun hn => ?_⟩⟩
        have := hn.1 _ (List.getElem_mem hlt)
        rw [hb] at this; cases this) (by
      clear hL
      rintro ⟨T, σ, nx⟩ ⟨hn, hσ, h0, h19, h20, h21, hi⟩
      simp only at hn hσ h0 h19 h20 h21
      subst hn hσ
      exact ⟨_, by simp only [go_sem, h20, h21, Int.lt_irrefl]; rfl, by simp, .inl ⟨_, rfl, by simp only [go_sem, h0], fun x hx => by obtain ⟨i, hi', rfl⟩ := List.getElem_of_mem hx; exact hi i hi' hi'⟩⟩) (by
      simp only [go_sem]
      exact fun i _ h => absurd h (Nat.not_lt_zero _))
  rcases hr with ⟨T, rfl, h0, hm⟩ | ⟨T, rfl, h2, hn⟩
  · by_cases hl : (a.length : Int) ≤ 60
    · by_cases hz : a = []
      · subst hz
        have : NatGood [] := ⟨by simp, by simp, rfl⟩
        have h60 : (0 : Int) ≤ 60 := by decide
        simp only [go_sem, h0, pb_true this, h60]
      · have hz' : ((a.length : Int) == 0) = false := by simpa using hz
        have hpos : 0 < a.length := List.length_pos_iff.mpr hz
        have f1 := wrap_id (n := (a.length : Int) - 1) (by omega) (by omega)
        have f2 : (0 : Int) ≤ (a.length : Int) - 1 := by omega
        have f3 : (a.length : Int) - 1 < (a.length : Int) := by omega
        have f4 : ((a.length : Int) - 1).toNat = a.length - 1 := by omega
        have f5 := idx (xs := a) (k := a.length - 1) (by omega)
        have f9 := slot_ne (c := cI) (s := 1) (fun _ => rfl) (by omega) a 0 hpos
        have hg : pb (NatGood a) = (a[a.length - 1] != 0) := by
          refine (pb_eq ?_).symm
          rw [bne_iff_ne, ← trim_last hz]
          exact ⟨fun h => ⟨hm, by omega, h⟩, fun h => h.2.2⟩
        rw [hg]
        simp only [go_sem, h0, hl, hz', f1, f2, f3, f4, f5, f9]
    · rw [pb_false (fun hn : NatGood a => hl (by have := hn.2.1; omega))]
      simp only [go_sem, h0, hl]
  · simp only [go_sem, h2, pb_false hn]
theorem sBigIntOk (neg : Bool) (a : List Int) (ha : Short a) : fn Try.prog conv ext 167 [.agg [Bo neg, LI a]] = some (Bo (pb (NatGood a) && (!neg || decide (0 < a.length)))) := by
  have h1 := sNatOk a ha
  rw [fn_eq, ev_eqQ (rs := [.tmp 2]) [] rfl Try.func167 rfl rfl (by kernel_rfl) (by kernel_rfl)]
  generalize pb (NatGood a) = b at *
  cases b <;> cases neg <;> simp only [go_sem, h1]
  by_cases h : 0 < a.length
  · have h' : (0 : Int) < (a.length : Int) := by omega
    simp only [h, h']
  · have h' : ¬(0 : Int) < (a.length : Int) := by omega
    simp only [h, h']
theorem sOne (a : List Int) (ha : Short a) : fn Try.prog conv ext 172 [LI a] = some (Bo (decide (a = [1]))) := by
  unfold Short at ha
  have z1 : (0 : Int) < 1 := by decide
  have z2 : (0 : Int) ≤ 0 := by decide
  have z3 : (0 : Int).toNat = 0 := id rfl
  rw [fn_eq, ev_eqQ (rs := [.tmp 2]) [] rfl Try.func172 rfl rfl (by kernel_rfl) (by kernel_rfl)]
  match a with
  | [] => (simp only [go_sem]) <;> rfl
  | [x] =>
    by_cases hx : x = 1
    · subst hx; (simp only [go_sem, z1, z2, z3]) <;> rfl
    · have : (x == (1 : Int)) = false := by simpa using hx
      simp only [go_sem, this, z1, z2, z3]
      simp [hx]
  | x :: y :: l =>
    have : (((l.length + 1 + 1 : Nat) : Int) == 1) = false := by rw [beq_eq_false_iff_ne]; omega
    simp only [go_sem, this]
    simp
theorem sBigIntOf (n : Nat) (h : n ≤ 9223372036854775807) : fn Try.prog conv ext 134 [I n] = some (.agg [Bo false, LI (dg n)]) := by
  have h3 := dg_three h
  have h1 := sNatOf n h
  have h2 := smake false (dg n) (by unfold Short; omega) (by rw [trim_dg]; omega)
  rw [trim_dg] at h2
  have c1 : ((n : Int) == -9223372036854775808) = false := by rw [beq_eq_false_iff_ne]; omega
  have c2 : ¬(n : Int) < 0 := by omega
  rw [fn_eq, ev_eqQ (rs := [.cell 2 28]) [] rfl Try.func134 rfl rfl (by kernel_rfl) (by kernel_rfl)]
  simp only [go_sem, c1, c2, h1, h2]
end Go.Proofs.Ytlacjcdhfoeekaa
