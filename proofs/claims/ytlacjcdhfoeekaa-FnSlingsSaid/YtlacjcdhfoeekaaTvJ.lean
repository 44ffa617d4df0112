import Derived.Test.YtlacjcdhfoeekaaTvH
set_option linter.unusedSimpArgs false
set_option linter.unusedVariables false
namespace Go.Proofs.Ytlacjcdhfoeekaa
open Go Go.TV

theorem iBigIntOk (neg : Bool) (a : List Int) (ha : Short a) : fn Try.prog conv ext 142 [.agg [Bo neg, LI a]] = some (Bo (pb (NatGood a) && !(neg && decide (a = [])))) := by
  have h1 := iNatOk a ha
  rw [fn_eq, ev_eqQ (rs := [.tmp 2]) [] rfl Try.func142 rfl rfl (by kernel_rfl) (by kernel_rfl)]
  generalize pb (NatGood a) = b at *
  by_cases h : a = []
  · subst h
    have h1' : fn Try.prog conv ext 145 [.ts [] 0] = some (Bo b) := h1
    cases b <;> cases neg <;> simp only [go_sem, h1'] <;> rfl
  · have h' : ((a.length : Int) == 0) = false := by simpa using h
    rw [decide_eq_false h]
    cases b <;> cases neg <;> simp only [go_sem, h1, h'] <;> rfl

/-! ### Order -/
def cmpN (m n : Nat) : Int := if m < n then -1 else if m = n then 0 else 1
theorem dg_lt {n : Nat} : n < 1000000000 ^ (dg n).length := (Nat.div_eq_zero_iff_lt (Nat.pow_pos (by decide))).mp (dg_end n)
theorem dg_ge {n k : Nat} (h : k < (dg n).length) : 1000000000 ^ k ≤ n := by
  have h1 := dg_drop n k
  rw [List.drop_eq_getElem_cons h] at h1
  have h2 : n / 1000000000 ^ k ≠ 0 := fun e => by rw [e, dg_zero] at h1; cases h1
  exact Classical.byContradiction fun hn => h2 (Nat.div_eq_of_lt (by omega))
theorem dg_len_lt {m n : Nat} (h : (dg m).length < (dg n).length) : m < n := Nat.lt_of_lt_of_le dg_lt (dg_ge h)
theorem lt_of_top {m n j : Nat} (h1 : m / 1000000000 ^ (j + 1) = n / 1000000000 ^ (j + 1)) (h2 : m / 1000000000 ^ j % 1000000000 < n / 1000000000 ^ j % 1000000000) : m < n := by
  have a := dg_shift m j
  have b := dg_shift n j
  rw [h1] at a
  have : m / 1000000000 ^ j < n / 1000000000 ^ j := by omega
  exact Classical.byContradiction fun hn => by
    have := Nat.div_le_div_right (c := 1000000000 ^ j) (show n ≤ m by omega)
    omega
theorem icompare (m n : Nat) (hm : m ≤ 9223372036854775807) (hn : n ≤ 9223372036854775807) : fn Try.prog conv ext 146 [LI (dg m), LI (dg n)] = some (I (cmpN m n)) := by
  have l1 := dg_three hm
  have l2 := dg_three hn
  rw [fn_eq, ev_eqQ (rs := [.tmp 4]) [] rfl Try.func146 rfl rfl (by kernel_rfl) (by kernel_rfl)]
  by_cases hl : (dg m).length = (dg n).length
  · have c1 : (((dg m).length : Int) != ((dg n).length : Int)) = false := by rw [hl]; simp
    have e1 := wrap_id (n := ((dg m).length : Int) - 1) (by omega) (by omega)
    simp only [go_sem, c1, e1]
    generalize hL : evLoopI _ _ = y
    obtain ⟨r, rfl, hr⟩ := loop_rule hL (fun k st => st.nx = 0 ∧ st.σ = noStore ∧ st.T 0 = LI (dg m) ∧ st.T 1 = LI (dg n) ∧ st.T 5 = I ((k : Int) - 1) ∧ k ≤ (dg m).length ∧ m / 1000000000 ^ k = n / 1000000000 ^ k)
      (fun r => (∃ T, r = (.exit 0, ⟨T, noStore, 0⟩) ∧ m = n) ∨ (∃ T, r = (.ret, ⟨T, noStore, 0⟩) ∧ T 4 = I (cmpN m n))) (by
        clear hL
        rintro k ⟨T, σ, nx⟩ ⟨hnx, hσ, h0, h1, h5, hk, he⟩
        simp only at hnx hσ h0 h1 h5
        subst hnx hσ
        cases k with
        | zero =>
          have f0' : ¬(0 : Int) ≤ 0 - 1 := by omega
          rw [Nat.pow_zero, Nat.div_one, Nat.div_one] at he
          exact .inr ⟨_, by simp only [go_sem, h5, f0']; rfl, by simp, .inl ⟨_, rfl, he⟩⟩
        | succ k =>
          have hlt : k < (dg m).length := by omega
          have hlt2 : k < (dg n).length := by omega
          have e5 : ((k + 1 : Nat) : Int) - 1 = (k : Int) := by omega
          rw [e5] at h5
          have f0 : (0 : Int) ≤ (k : Int) := by omega
          have f3 : (k : Int) < ((dg m).length : Int) := by omega
          have f3' : (k : Int) < ((dg n).length : Int) := by omega
          have f5 := slot_ne (c := cI) (s := 1) (fun _ => rfl) (by omega) (dg m) k hlt
          have f5' := slot_ne (c := cI) (s := 1) (fun _ => rfl) (by omega) (dg n) k hlt2
          have f6 := idx hlt
          have f6' := idx hlt2
          rw [dg_get hlt] at f6
          rw [dg_get hlt2] at f6'
          have f7 := wrap_id (n := (k : Int) - 1) (by omega) (by omega)
          by_cases q1 : ((m / 1000000000 ^ k % 1000000000 : Nat) : Int) < ((n / 1000000000 ^ k % 1000000000 : Nat) : Int)
          · have hmn : m < n := lt_of_top he (by omega)
            have hc : cmpN m n = -1 := by unfold cmpN; rw [if_pos hmn]
            exact .inr ⟨_, by simp only [go_sem, h0, h1, h5, f0, f3, f3', f5, f5', f6, f6', q1]; rfl, by simp, .inr ⟨_, rfl, by simp only [go_sem, hc]⟩⟩
          · by_cases q2 : ((n / 1000000000 ^ k % 1000000000 : Nat) : Int) < ((m / 1000000000 ^ k % 1000000000 : Nat) : Int)
            · have hmn : n < m := lt_of_top he.symm (by omega)
              have hc : cmpN m n = 1 := by unfold cmpN; rw [if_neg (by omega), if_neg (by omega)]
              exact .inr ⟨_, by simp only [go_sem, h0, h1, h5, f0, f3, f3', f5, f5', f6, f6', q1, q2]; rfl, by simp, .inr ⟨_, rfl, by simp only [go_sem, hc]⟩⟩
            · have heq : m / 1000000000 ^ k = n / 1000000000 ^ k := by
                have a := dg_shift m k
                have b := dg_shift n k
                rw [he] at a
                omega
              refine .inl ⟨_, by simp only [go_sem, h0, h1, h5, f0, f3, f3', f5, f5', f6, f6', f7, q1, q2]; rfl, k, by omega, ?_⟩
              simp only [go_sem, h0, h1]
              exact ⟨by omega, heq⟩) (dg m).length ⟨rfl, rfl, by simp only [go_sem], by simp only [go_sem], by simp only [go_sem], Nat.le_refl _, by rw [dg_end, hl, dg_end]⟩
    rcases hr with ⟨T, rfl, h⟩ | ⟨T, rfl, h⟩
    · have hc : cmpN m n = 0 := by unfold cmpN; rw [if_neg (by omega), if_pos h]
      simp only [go_sem, hc]
    · simp only [go_sem, h]
  · have c1 : (((dg m).length : Int) != ((dg n).length : Int)) = true := by rw [bne_iff_ne]; omega
    by_cases hlt : ((dg m).length : Int) < ((dg n).length : Int)
    · have hmn : m < n := dg_len_lt (by omega)
      have hc : cmpN m n = -1 := by unfold cmpN; rw [if_pos hmn]
      simp only [go_sem, c1, hlt, hc]
    · have hmn : n < m := dg_len_lt (by omega)
      have hc : cmpN m n = 1 := by unfold cmpN; rw [if_neg (by omega), if_neg (by omega)]
      simp only [go_sem, c1, hlt, hc]
end Go.Proofs.Ytlacjcdhfoeekaa
