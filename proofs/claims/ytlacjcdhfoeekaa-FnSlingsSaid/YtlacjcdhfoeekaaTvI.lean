import Derived.Test.YtlacjcdhfoeekaaTvL
set_option linter.unusedSimpArgs false
set_option linter.unusedVariables false
namespace Go.Proofs.Ytlacjcdhfoeekaa
open Go Go.TV

/-! ### The first index with a property -/
def ix {α : Type} (p : α → Bool) (xs : List α) : Int := if xs.findIdx p < xs.length then xs.findIdx p else -1
theorem ix_at {α : Type} {p : α → Bool} {xs : List α} {k : Nat} (hk : k < xs.length) (hl : ∀ i (h : i < xs.length), i < k → p xs[i] = false) (h : p xs[k] = true) : ix p xs = k := by
  have : xs.findIdx p = k := (List.findIdx_eq hk).mpr ⟨h, fun j hj => hl j (by omega) hj⟩
  unfold ix
  rw [this, if_pos hk]
theorem ix_none {α : Type} {p : α → Bool} {xs : List α} (hl : ∀ i (h : i < xs.length), p xs[i] = false) : ix p xs = -1 := by
  have : xs.findIdx p = xs.length := List.findIdx_eq_length.mpr fun x hx => by
    obtain ⟨i, hi, rfl⟩ := List.getElem_of_mem hx
    exact hl i hi
  unfold ix
  rw [this, if_neg (Nat.lt_irrefl _)]
theorem ix_step {α : Type} {p : α → Bool} {xs : List α} {k : Nat} (hk : k < xs.length) (hl : ∀ i (h : i < xs.length), i < k → p xs[i] = false) (h : p xs[k] = false) : ∀ i (h : i < xs.length), i < k + 1 → p xs[i] = false := by
  intro i hi hik
  rcases Nat.lt_or_eq_of_le (Nat.le_of_lt_succ hik) with h1 | h1
  · exact hl i hi h1
  · subst h1; exact h

theorem indexStance (xs : List Stance) (c : V) (g : FuncId) (p : Stance → Bool) (t : V) (h : xs.length ≤ maxLen) (hc : conv g = .imm) (ht : strip noStore 7 t = some (t, [])) (hg : ∀ x ∈ xs, fn Try.prog conv ext g [.agg (cStance x), t] = some (Bo (p x))) :
    fn Try.prog conv ext 68 [LL cStance xs, .clo g [t]] = some (I (ix p xs)) := by
  have e2 : (xs.length : Int) ≤ 9223372036854775807 := by unfold maxLen at h; omega
  rw [fn_eq, ev_eqQ (rs := [.tmp 4]) [] rfl Try.func68 rfl rfl (by kernel_rfl) (by kernel_rfl)]
  simp only [go_sem]
  generalize hL : evLoopI _ _ = y
  obtain ⟨r, rfl, hr⟩ := count_rule hL xs.length (fun k st => st.nx = 0 ∧ st.σ = noStore ∧ st.T 0 = LL cStance xs ∧ st.T 1 = .clo g [t] ∧ st.T 7 = I xs.length ∧ st.T 8 = I k ∧ ∀ i (h : i < xs.length), i < k → p xs[i] = false)
    (fun r => (∃ T, r = (.exit 0, ⟨T, noStore, 0⟩) ∧ ix p xs = -1) ∨ (∃ T, r = (.ret, ⟨T, noStore, 0⟩) ∧ T 4 = I (ix p xs))) (by
      clear hL
      rintro k ⟨T, σ, nx⟩ hlt ⟨hn, hσ, h0, h1, h7, h8, hi⟩
      simp only at hn hσ h0 h1 h7 h8
      subst hn hσ
      have f1 : (k : Int) < (xs.length : Int) := by omega
      have f2 : (0 : Int) ≤ (k : Int) := by omega
      have f3 := wrap_id (n := (k : Int) + 1) (by omega) (by omega)
      have f4 := slot (c := cStance) (s := 5) (fun _ => rfl) xs k hlt
      have f5 := slots_len (c := cStance) (s := 5) (fun _ => rfl) xs
      have f6 : k * 5 + 5 ≤ xs.length * 5 := by omega
      have f9 := slot_ne (c := cStance) (s := 5) (fun _ => rfl) (by omega) xs k hlt
      have f10 := hg xs[k] (List.getElem_mem hlt)
      cases hp : p xs[k] with
      | true =>
        rw [hp] at f10
        refine .inr ⟨_, by simp only [go_sem, h0, h1, h7, h8, f1, f2, f4, f5, f6, f9, f10, hc, ht]; rfl, by simp, .inr ⟨_, rfl, ?_⟩⟩
        simp only [go_sem]
        rw [ix_at hlt hi hp]
      | false =>
        rw [hp] at f10
        refine .inl ⟨_, by simp only [go_sem, h0, h1, h7, h8, f1, f2, f3, f4, f5, f6, f9, f10, hc, ht]; rfl, ?_⟩
        simp only [go_sem, h0, h1, h7]
        exact ⟨rfl, ix_step hlt hi hp⟩) (by
      clear hL
      rintro ⟨T, σ, nx⟩ ⟨hn, hσ, h0, h1, h7, h8, hi⟩
      simp only at hn hσ h0 h1 h7 h8
      subst hn hσ
      exact ⟨_, by simp only [go_sem, h7, h8, Int.lt_irrefl]; rfl, by simp, .inl ⟨_, rfl, ix_none fun i h => hi i h h⟩⟩) (by
      simp only [go_sem]
      exact fun i _ h => absurd h (Nat.not_lt_zero _))
  rcases hr with ⟨T, rfl, h1⟩ | ⟨T, rfl, h1⟩
  · simp only [go_sem, h1]
  · simp only [go_sem, h1]
theorem indexJoint (xs : List Joint) (c : V) (g : FuncId) (p : Joint → Bool) (t : V) (h : xs.length ≤ maxLen) (hc : conv g = .imm) (ht : strip noStore 7 t = some (t, [])) (hg : ∀ x ∈ xs, fn Try.prog conv ext g [.agg (cJoint x), t] = some (Bo (p x))) :
    fn Try.prog conv ext 180 [LL cJoint xs, .clo g [t]] = some (I (ix p xs)) := by
  have e2 : (xs.length : Int) ≤ 9223372036854775807 := by unfold maxLen at h; omega
  rw [fn_eq, ev_eqQ (rs := [.tmp 4]) [] rfl Try.func180 rfl rfl (by kernel_rfl) (by kernel_rfl)]
  simp only [go_sem]
  generalize hL : evLoopI _ _ = y
  obtain ⟨r, rfl, hr⟩ := count_rule hL xs.length (fun k st => st.nx = 0 ∧ st.σ = noStore ∧ st.T 0 = LL cJoint xs ∧ st.T 1 = .clo g [t] ∧ st.T 7 = I xs.length ∧ st.T 8 = I k ∧ ∀ i (h : i < xs.length), i < k → p xs[i] = false)
    (fun r => (∃ T, r = (.exit 0, ⟨T, noStore, 0⟩) ∧ ix p xs = -1) ∨ (∃ T, r = (.ret, ⟨T, noStore, 0⟩) ∧ T 4 = I (ix p xs))) (by
      clear hL
      rintro k ⟨T, σ, nx⟩ hlt ⟨hn, hσ, h0, h1, h7, h8, hi⟩
      simp only at hn hσ h0 h1 h7 h8
      subst hn hσ
      have f1 : (k : Int) < (xs.length : Int) := by omega
      have f2 : (0 : Int) ≤ (k : Int) := by omega
      have f3 := wrap_id (n := (k : Int) + 1) (by omega) (by omega)
      have f4 := slot (c := cJoint) (s := 4) (fun _ => rfl) xs k hlt
      have f5 := slots_len (c := cJoint) (s := 4) (fun _ => rfl) xs
      have f6 : k * 4 + 4 ≤ xs.length * 4 := by omega
      have f9 := slot_ne (c := cJoint) (s := 4) (fun _ => rfl) (by omega) xs k hlt
      have f10 := hg xs[k] (List.getElem_mem hlt)
      cases hp : p xs[k] with
      | true =>
        rw [hp] at f10
        refine .inr ⟨_, by simp only [go_sem, h0, h1, h7, h8, f1, f2, f4, f5, f6, f9, f10, hc, ht]; rfl, by simp, .inr ⟨_, rfl, ?_⟩⟩
        simp only [go_sem]
        rw [ix_at hlt hi hp]
      | false =>
        rw [hp] at f10
        refine .inl ⟨_, by simp only [go_sem, h0, h1, h7, h8, f1, f2, f3, f4, f5, f6, f9, f10, hc, ht]; rfl, ?_⟩
        simp only [go_sem, h0, h1, h7]
        exact ⟨rfl, ix_step hlt hi hp⟩) (by
      clear hL
      rintro ⟨T, σ, nx⟩ ⟨hn, hσ, h0, h1, h7, h8, hi⟩
      simp only at hn hσ h0 h1 h7 h8
      subst hn hσ
      exact ⟨_, by simp only [go_sem, h7, h8, Int.lt_irrefl]; rfl, by simp, .inl ⟨_, rfl, ix_none fun i h => hi i h h⟩⟩) (by
      simp only [go_sem]
      exact fun i _ h => absurd h (Nat.not_lt_zero _))
  rcases hr with ⟨T, rfl, h1⟩ | ⟨T, rfl, h1⟩
  · simp only [go_sem, h1]
  · simp only [go_sem, h1]
theorem indexMember (xs : List Member) (c : V) (g : FuncId) (p : Member → Bool) (t : V) (h : xs.length ≤ maxLen) (hc : conv g = .imm) (ht : strip noStore 7 t = some (t, [])) (hg : ∀ x ∈ xs, fn Try.prog conv ext g [.agg (cMember x), t] = some (Bo (p x))) :
    fn Try.prog conv ext 182 [LL cMember xs, .clo g [t]] = some (I (ix p xs)) := by
  have e2 : (xs.length : Int) ≤ 9223372036854775807 := by unfold maxLen at h; omega
  rw [fn_eq, ev_eqQ (rs := [.tmp 4]) [] rfl Try.func182 rfl rfl (by kernel_rfl) (by kernel_rfl)]
  simp only [go_sem]
  generalize hL : evLoopI _ _ = y
  obtain ⟨r, rfl, hr⟩ := count_rule hL xs.length (fun k st => st.nx = 0 ∧ st.σ = noStore ∧ st.T 0 = LL cMember xs ∧ st.T 1 = .clo g [t] ∧ st.T 7 = I xs.length ∧ st.T 8 = I k ∧ ∀ i (h : i < xs.length), i < k → p xs[i] = false)
    (fun r => (∃ T, r = (.exit 0, ⟨T, noStore, 0⟩) ∧ ix p xs = -1) ∨ (∃ T, r = (.ret, ⟨T, noStore, 0⟩) ∧ T 4 = I (ix p xs))) (by
      clear hL
      rintro k ⟨T, σ, nx⟩ hlt ⟨hn, hσ, h0, h1, h7, h8, hi⟩
      simp only at hn hσ h0 h1 h7 h8
      subst hn hσ
      have f1 : (k : Int) < (xs.length : Int) := by omega
      have f2 : (0 : Int) ≤ (k : Int) := by omega
      have f3 := wrap_id (n := (k : Int) + 1) (by omega) (by omega)
      have f4 := slot (c := cMember) (s := 3) (fun _ => rfl) xs k hlt
      have f5 := slots_len (c := cMember) (s := 3) (fun _ => rfl) xs
      have f6 : k * 3 + 3 ≤ xs.length * 3 := by omega
      have f9 := slot_ne (c := cMember) (s := 3) (fun _ => rfl) (by omega) xs k hlt
      have f10 := hg xs[k] (List.getElem_mem hlt)
      cases hp : p xs[k] with
      | true =>
        rw [hp] at f10
        refine .inr ⟨_, by simp only [go_sem, h0, h1, h7, h8, f1, f2, f4, f5, f6, f9, f10, hc, ht]; rfl, by simp, .inr ⟨_, rfl, ?_⟩⟩
        simp only [go_sem]
        rw [ix_at hlt hi hp]
      | false =>
        rw [hp] at f10
        refine .inl ⟨_, by simp only [go_sem, h0, h1, h7, h8, f1, f2, f3, f4, f5, f6, f9, f10, hc, ht]; rfl, ?_⟩
        simp only [go_sem, h0, h1, h7]
        exact ⟨rfl, ix_step hlt hi hp⟩) (by
      clear hL
      rintro ⟨T, σ, nx⟩ ⟨hn, hσ, h0, h1, h7, h8, hi⟩
      simp only at hn hσ h0 h1 h7 h8
      subst hn hσ
      exact ⟨_, by simp only [go_sem, h7, h8, Int.lt_irrefl]; rfl, by simp, .inl ⟨_, rfl, ix_none fun i h => hi i h h⟩⟩) (by
      simp only [go_sem]
      exact fun i _ h => absurd h (Nat.not_lt_zero _))
  rcases hr with ⟨T, rfl, h1⟩ | ⟨T, rfl, h1⟩
  · simp only [go_sem, h1]
  · simp only [go_sem, h1]
theorem indexInt (xs : List Int) (c : V) (g : FuncId) (p : Int → Bool) (h : xs.length ≤ maxLen) (hc : conv g = .imm) (hg : ∀ x ∈ xs, fn Try.prog conv ext g [I x] = some (Bo (p x))) :
    fn Try.prog conv ext 162 [LI xs, .clo g []] = some (I (ix p xs)) := by
  have e2 : (xs.length : Int) ≤ 9223372036854775807 := by unfold maxLen at h; omega
  rw [fn_eq, ev_eqQ (rs := [.tmp 4]) [] rfl Try.func162 rfl rfl (by kernel_rfl) (by kernel_rfl)]
  simp only [go_sem]
  generalize hL : evLoopI _ _ = y
  obtain ⟨r, rfl, hr⟩ := count_rule hL xs.length (fun k st => st.nx = 0 ∧ st.σ = noStore ∧ st.T 0 = LI xs ∧ st.T 1 = .clo g [] ∧ st.T 7 = I xs.length ∧ st.T 8 = I k ∧ ∀ i (h : i < xs.length), i < k → p xs[i] = false)
    (fun r => (∃ T, r = (.exit 0, ⟨T, noStore, 0⟩) ∧ ix p xs = -1) ∨ (∃ T, r = (.ret, ⟨T, noStore, 0⟩) ∧ T 4 = I (ix p xs))) (by
      clear hL
      rintro k ⟨T, σ, nx⟩ hlt ⟨hn, hσ, h0, h1, h7, h8, hi⟩
      simp only at hn hσ h0 h1 h7 h8
      subst hn hσ
      have f1 : (k : Int) < (xs.length : Int) := by omega
      have f2 : (0 : Int) ≤ (k : Int) := by omega
      have f3 := wrap_id (n := (k : Int) + 1) (by omega) (by omega)
      have f4 : (xs.flatMap cI)[k]? = some (I xs[k]) := slot1 I xs k hlt
      have f9 := slot_ne (c := cI) (s := 1) (fun _ => rfl) (by omega) xs k hlt
      have f10 := hg xs[k] (List.getElem_mem hlt)
      cases hp : p xs[k] with
      | true =>
        rw [hp] at f10
        refine .inr ⟨_, by simp only [go_sem, h0, h1, h7, h8, f1, f2, f4, f9, f10, hc]; rfl, by simp, .inr ⟨_, rfl, ?_⟩⟩
        simp only [go_sem]
        rw [ix_at hlt hi hp]
      | false =>
        rw [hp] at f10
        refine .inl ⟨_, by simp only [go_sem, h0, h1, h7, h8, f1, f2, f3, f4, f9, f10, hc]; rfl, ?_⟩
        simp only [go_sem, h0, h1, h7]
        exact ⟨rfl, ix_step hlt hi hp⟩) (by
      clear hL
      rintro ⟨T, σ, nx⟩ ⟨hn, hσ, h0, h1, h7, h8, hi⟩
      simp only at hn hσ h0 h1 h7 h8
      subst hn hσ
      exact ⟨_, by simp only [go_sem, h7, h8, Int.lt_irrefl]; rfl, by simp, .inl ⟨_, rfl, ix_none fun i h => hi i h h⟩⟩) (by
      simp only [go_sem]
      exact fun i _ h => absurd h (Nat.not_lt_zero _))
  rcases hr with ⟨T, rfl, h1⟩ | ⟨T, rfl, h1⟩
  · simp only [go_sem, h1]
  · simp only [go_sem, h1]

theorem ix_lt {α : Type} (p : α → Bool) (xs : List α) : ix p xs < 0 ↔ ∀ x ∈ xs, p x = false := by
  unfold ix
  by_cases h : xs.findIdx p < xs.length
  · rw [if_pos h]
    refine ⟨fun h2 => absurd h2 (by omega), fun h2 => ?_⟩
    have := List.findIdx_eq_length.mpr h2
    omega
  · rw [if_neg h]
    exact ⟨fun _ => List.findIdx_eq_length.mp (Nat.le_antisymm (List.findIdx_le_length) (by omega)), fun _ => by omega⟩
theorem hasMember (xs : List Member) (g : FuncId) (p : Member → Bool) (t : V) (h : xs.length ≤ maxLen) (hc : conv g = .imm) (ht : strip noStore 7 t = some (t, [])) (ht6 : strip noStore 6 t = some (t, [])) (hg : ∀ x ∈ xs, fn Try.prog conv ext g [.agg (cMember x), t] = some (Bo (p x))) :
    fn Try.prog conv ext 157 [LL cMember xs, .clo g [t]] = some (Bo (decide (0 ≤ ix p xs))) := by
  have h1 := indexMember xs (.clo g [t]) g p t h hc ht hg
  rw [fn_eq, ev_eqQ (rs := [.tmp 4]) [] rfl Try.func157 rfl rfl (by kernel_rfl) (by kernel_rfl)]
  simp only [go_sem, h1, ht, ht6]
theorem hasInt (xs : List Int) (g : FuncId) (p : Int → Bool) (h : xs.length ≤ maxLen) (hc : conv g = .imm) (hg : ∀ x ∈ xs, fn Try.prog conv ext g [I x] = some (Bo (p x))) :
    fn Try.prog conv ext 123 [LI xs, .clo g []] = some (Bo (decide (0 ≤ ix p xs))) := by
  have h1 := indexInt xs (.clo g []) g p h hc hg
  rw [fn_eq, ev_eqQ (rs := [.tmp 4]) [] rfl Try.func123 rfl rfl (by kernel_rfl) (by kernel_rfl)]
  simp only [go_sem, h1]
end Go.Proofs.Ytlacjcdhfoeekaa
