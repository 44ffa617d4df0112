import Derived.Test.YtlacjcdhfoeekaaTvI
set_option linter.unusedSimpArgs false
set_option linter.unusedVariables false
namespace Go.Proofs.Ytlacjcdhfoeekaa
open Go Go.TV

/-- A statement's truth. -/
noncomputable def pb (p : Prop) : Bool := @decide p (Classical.propDecidable p)
theorem pb_true {p : Prop} (h : p) : pb p = true := by unfold pb; exact (@decide_eq_true_iff p (Classical.propDecidable p)).mpr h
theorem pb_false {p : Prop} (h : ¬p) : pb p = false := by unfold pb; exact (@decide_eq_false_iff_not p (Classical.propDecidable p)).mpr h
theorem pb_eq {p : Prop} {b : Bool} (h : b = true ↔ p) : b = pb p := by
  cases b with
  | true => exact (pb_true (h.mp rfl)).symm
  | false => exact (pb_false (fun hp => by cases h.mpr hp)).symm
theorem of_pb {p : Prop} (h : pb p = true) : p := by
  unfold pb at h
  exact (@decide_eq_true_iff p (Classical.propDecidable p)).mp h
theorem of_pb_false {p : Prop} (h : pb p = false) : ¬p := by
  unfold pb at h
  exact (@decide_eq_false_iff_not p (Classical.propDecidable p)).mp h

/-! ### Ranges -/
def inB (n a b : Int) : Bool := decide (a ≤ n) && decide (n ≤ b)
theorem l01In (n a b : Int) : fn Try.prog conv ext 53 [I n, I a, I b] = some (Bo (inB n a b)) := by
  unfold inB
  rw [fn_eq, ev_eqQ (rs := [.tmp 6]) [] rfl Try.func53 rfl rfl (by kernel_rfl) (by kernel_rfl)]
  by_cases h : a ≤ n <;> simp only [go_sem, h]
theorem isForce (n : Int) : fn Try.prog conv ext 161 [I n] = some (Bo (inB n (-100) 100)) := by
  unfold inB
  rw [fn_eq, ev_eqQ (rs := [.tmp 2]) [] rfl Try.func161 rfl rfl (by kernel_rfl) (by kernel_rfl)]
  by_cases h : -100 ≤ n <;> simp only [go_sem, h]
theorem isLimit (n : Int) : fn Try.prog conv ext 54 [I n] = some (Bo (inB n (0) 1000)) := by
  unfold inB
  rw [fn_eq, ev_eqQ (rs := [.tmp 2]) [] rfl Try.func54 rfl rfl (by kernel_rfl) (by kernel_rfl)]
  by_cases h : 0 ≤ n <;> simp only [go_sem, h]
theorem isPlace (n : Int) : fn Try.prog conv ext 179 [I n] = some (Bo (inB n (-50) 50)) := by
  unfold inB
  rw [fn_eq, ev_eqQ (rs := [.tmp 2]) [] rfl Try.func179 rfl rfl (by kernel_rfl) (by kernel_rfl)]
  by_cases h : -50 ≤ n <;> simp only [go_sem, h]
theorem isSpot (n : Int) : fn Try.prog conv ext 87 [I n] = some (Bo (inB n (-1000) 1000)) := by
  unfold inB
  rw [fn_eq, ev_eqQ (rs := [.tmp 2]) [] rfl Try.func87 rfl rfl (by kernel_rfl) (by kernel_rfl)]
  by_cases h : -1000 ≤ n <;> simp only [go_sem, h]
/-! ### Names -/
def letterB (b : UInt8) : Bool := decide (97 ≤ (b.toNat : Int)) && decide ((b.toNat : Int) ≤ 122)
def digitB (b : UInt8) : Bool := decide (48 ≤ (b.toNat : Int)) && decide ((b.toNat : Int) ≤ 57)
theorem isLetter (b : UInt8) : fn Try.prog conv ext 119 [.sc (.int .u8 b.toNat)] = some (Bo (letterB b)) := by
  unfold letterB
  rw [fn_eq, ev_eqQ (rs := [.tmp 2]) [] rfl Try.func119 rfl rfl (by kernel_rfl) (by kernel_rfl)]
  by_cases h : 97 ≤ (b.toNat : Int) <;> simp only [go_sem, h]
theorem isDigit (b : UInt8) : fn Try.prog conv ext 120 [.sc (.int .u8 b.toNat)] = some (Bo (digitB b)) := by
  unfold digitB
  rw [fn_eq, ev_eqQ (rs := [.tmp 2]) [] rfl Try.func120 rfl rfl (by kernel_rfl) (by kernel_rfl)]
  by_cases h : 48 ≤ (b.toNat : Int) <;> simp only [go_sem, h]
def charOk (k : Nat) (b : UInt8) : Prop := letterB b = true ∨ (k ≠ 0 ∧ digitB b = true)
def NameOk (s : ByteArray) : Prop := (∀ k b, s[k]? = some b → charOk k b) ∧ 1 ≤ s.size ∧ s.size ≤ 8
theorem charOk_or (k : Nat) (b : UInt8) : charOk k b ∨ ¬charOk k b := Classical.em _
theorem ba_get {s : ByteArray} {k : Nat} (h : k < s.size) : ∃ b, s[k]? = some b := ⟨s[k], by simp [h]⟩
theorem ba_none {s : ByteArray} {k : Nat} {b : UInt8} (h : s[k]? = some b) : k < s.size := by
  by_cases hk : k < s.size
  · exact hk
  · simp [hk] at h
theorem nameOk_all {s : ByteArray} (h : ∀ i b, s[i]? = some b → charOk i b) : pb (NameOk s) = inB s.size 1 8 := by
  unfold inB
  by_cases h1 : (1 : Int) ≤ s.size
  · by_cases h2 : (s.size : Int) ≤ 8
    · rw [pb_true ⟨h, by omega, by omega⟩, decide_eq_true h1, decide_eq_true h2]; rfl
    · rw [pb_false (fun hn => h2 (by have := hn.2.2; omega)), decide_eq_true h1, decide_eq_false h2]; rfl
  · rw [pb_false (fun hn => h1 (by have := hn.2.1; omega)), decide_eq_false h1]; rfl
theorem charOk_step {s : ByteArray} {k : Nat} {b : UInt8} (hi : ∀ i b, i < k → s[i]? = some b → charOk i b) (hb : s[k]? = some b) (h : charOk k b) : ∀ i b, i < k + 1 → s[i]? = some b → charOk i b := by
  intro i c hik hc
  rcases Nat.lt_or_eq_of_le (Nat.le_of_lt_succ hik) with h1 | h1
  · exact hi i c h1 hc
  · subst h1
    rw [hb] at hc
    cases hc
    exact h
theorem not_charOk {k : Nat} {b : UInt8} (h1 : letterB b = false) (h2 : k = 0 ∨ digitB b = false) : ¬charOk k b := by
  rintro (h | ⟨h, h'⟩)
  · rw [h1] at h; cases h
  · rcases h2 with h2 | h2
    · exact h h2
    · rw [h2] at h'; cases h'
theorem letter_no1 {b : UInt8} (h : ¬(97 ≤ (b.toNat : Int))) : letterB b = false := by unfold letterB; rw [decide_eq_false h]; rfl
theorem letter_no2 {b : UInt8} (h : ¬((b.toNat : Int) ≤ 122)) : letterB b = false := by unfold letterB; rw [decide_eq_false h, Bool.and_false]
theorem digit_no1 {b : UInt8} (h : (b.toNat : Int) < 48) : digitB b = false := by unfold digitB; rw [decide_eq_false (by omega)]; rfl
theorem digit_no2 {b : UInt8} (h : 57 < (b.toNat : Int)) : digitB b = false := by unfold digitB; rw [decide_eq_false (p := (b.toNat : Int) ≤ 57) (by omega), Bool.and_false]
theorem digit_yes {b : UInt8} (h : ¬(b.toNat : Int) < 48) (h' : ¬57 < (b.toNat : Int)) : digitB b = true := by unfold digitB; rw [decide_eq_true (by omega), decide_eq_true (by omega)]; rfl
theorem sIsName (s : ByteArray) (hs : okS s) : fn Try.prog conv ext 74 [Sg s] = some (Bo (pb (NameOk s))) := by
  have e2 : (s.size : Int) ≤ 9223372036854775807 := by unfold okS at hs; omega
  rw [fn_eq, ev_eqQ (rs := [.tmp 2]) [] rfl Try.func74 rfl rfl (by kernel_rfl) (by kernel_rfl)]
  simp only [go_sem]
  generalize hL : evLoopI _ _ = y
  obtain ⟨r, rfl, hr⟩ := count_rule hL s.size (fun k st => st.nx = 0 ∧ st.σ = noStore ∧ st.T 0 = Sg s ∧ st.T 3 = I k ∧ ∀ i b, i < k → s[i]? = some b → charOk i b)
    (fun r => (∃ T, r = (.exit 0, ⟨T, noStore, 0⟩) ∧ T 0 = Sg s ∧ ∀ i b, s[i]? = some b → charOk i b) ∨ (∃ T, r = (.ret, ⟨T, noStore, 0⟩) ∧ T 2 = Bo false ∧ ¬NameOk s)) (by
      clear hL
      rintro k ⟨T, σ, nx⟩ hlt ⟨hn, hσ, h0, h3, hi⟩
      simp only at hn hσ h0 h3
      subst hn hσ
      have f1 : (k : Int) < (s.size : Int) := by omega
      have f2 : (0 : Int) ≤ (k : Int) := by omega
      have f3 := wrap_id (n := (k : Int) + 1) (by omega) (by omega)
      obtain ⟨b, f4⟩ := ba_get hlt
      have no : ¬charOk k b → ¬NameOk s := fun h hn => h (hn.1 k b f4)
      by_cases c1 : 97 ≤ (b.toNat : Int)
      · by_cases c2 : (b.toNat : Int) ≤ 122
        · refine .inl ⟨_, by simp only [go_sem, h0, h3, f1, f2, f3, f4, c1, c2]; rfl, ?_⟩
          simp only [go_sem, h0]
          exact ⟨rfl, charOk_step hi f4 (.inl (by unfold letterB; rw [decide_eq_true c1, decide_eq_true c2]; rfl))⟩
        · have d1 : ¬(b.toNat : Int) < 48 := by omega
          have d2 : 57 < (b.toNat : Int) := by omega
          by_cases hz : k = 0
          · have f0 : ((k : Int) == 0) = true := by subst hz; rfl
            exact .inr ⟨_, by simp only [go_sem, h0, h3, f1, f2, f4, c1, c2, f0]; rfl, by simp, .inr ⟨_, rfl, by simp only [go_sem], no (not_charOk (letter_no2 c2) (.inl hz))⟩⟩
          · have f0 : ((k : Int) == 0) = false := by simpa using hz
            exact .inr ⟨_, by simp only [go_sem, h0, h3, f1, f2, f4, c1, c2, f0, d1, d2]; rfl, by simp, .inr ⟨_, rfl, by simp only [go_sem], no (not_charOk (letter_no2 c2) (.inr (digit_no2 d2)))⟩⟩
      · by_cases hz : k = 0
        · have f0 : ((k : Int) == 0) = true := by subst hz; rfl
          exact .inr ⟨_, by simp only [go_sem, h0, h3, f1, f2, f4, c1, f0]; rfl, by simp, .inr ⟨_, rfl, by simp only [go_sem], no (not_charOk (letter_no1 c1) (.inl hz))⟩⟩
        · have f0 : ((k : Int) == 0) = false := by simpa using hz
          by_cases d1 : (b.toNat : Int) < 48
          · exact .inr ⟨_, by simp only [go_sem, h0, h3, f1, f2, f4, c1, f0, d1]; rfl, by simp, .inr ⟨_, rfl, by simp only [go_sem], no (not_charOk (letter_no1 c1) (.inr (digit_no1 d1)))⟩⟩
          · by_cases d2 : 57 < (b.toNat : Int)
            · exact .inr ⟨_, by simp only [go_sem, h0, h3, f1, f2, f4, c1, f0, d1, d2]; rfl, by simp, .inr ⟨_, rfl, by simp only [go_sem], no (not_charOk (letter_no1 c1) (.inr (digit_no2 d2)))⟩⟩
            · refine .inl ⟨_, by simp only [go_sem, h0, h3, f1, f2, f3, f4, c1, f0, d1, d2]; rfl, ?_⟩
              simp only [go_sem, h0]
              exact ⟨rfl, charOk_step hi f4 (.inr ⟨hz, digit_yes d1 d2⟩)⟩) (by
      clear hL
      rintro ⟨T, σ, nx⟩ ⟨hn, hσ, h0, h3, hi⟩
      simp only at hn hσ h0 h3
      subst hn hσ
      refine ⟨_, by simp only [go_sem, h0, h3, Int.lt_irrefl]; rfl, by simp, .inl ⟨_, rfl, ?_, fun i b h => hi i b (ba_none h) h⟩⟩
      simp only [go_sem, h0]) (by
      simp only [go_sem]
      exact fun i b h => absurd h (Nat.not_lt_zero _))
  rcases hr with ⟨T, rfl, h0, h1⟩ | ⟨T, rfl, h0, h1⟩
  · have := l01In s.size 1 8
    simp only [go_sem, h0, nameOk_all h1, this]
  · simp only [go_sem, h0, pb_false h1]
theorem toList_empty (s : ByteArray) : (s.toList == ({ data := #[] } : ByteArray).toList) = decide (s.size = 0) := by
  have e : (s.toList = []) = (s.size = 0) := by
    rw [ByteArray.toList_eq]
    refine propext ⟨fun h => ?_, fun h => List.eq_nil_of_length_eq_zero (by rw [Array.length_toList]; exact h)⟩
    have := congrArg List.length h
    rw [Array.length_toList] at this
    exact this
  have e0 : ({ data := #[] } : ByteArray).toList = [] := ByteArray.toList_mk []
  rw [e0]
  by_cases h : s.size = 0
  · rw [e.mpr h, decide_eq_true h]; rfl
  · rw [decide_eq_false h]
    cases hl : s.toList with
    | nil => exact absurd (e.mp hl) h
    | cons a l => rfl
theorem iIsName (s : ByteArray) (hs : okS s) : fn Try.prog conv ext 79 [Sg s] = some (Bo (pb (NameOk s))) := by
  have e2 : (s.size : Int) ≤ 9223372036854775807 := by unfold okS at hs; omega
  rw [fn_eq, ev_eqQ (rs := [.tmp 2]) [] rfl Try.func79 rfl rfl (by kernel_rfl) (by kernel_rfl)]
  simp only [go_sem]
  generalize hL : evLoopI _ _ = y
  obtain ⟨r, rfl, hr⟩ := count_rule hL s.size (fun k st => st.nx = 0 ∧ st.σ = noStore ∧ st.T 0 = Sg s ∧ st.T 5 = I s.size ∧ st.T 6 = I k ∧ ∀ i b, i < k → s[i]? = some b → charOk i b)
    (fun r => (∃ T, r = (.exit 0, ⟨T, noStore, 0⟩) ∧ T 0 = Sg s ∧ ∀ i b, s[i]? = some b → charOk i b) ∨ (∃ T, r = (.ret, ⟨T, noStore, 0⟩) ∧ T 2 = Bo false ∧ ¬NameOk s)) (by
      clear hL
      rintro k ⟨T, σ, nx⟩ hlt ⟨hn, hσ, h0, h5, h3, hi⟩
      simp only at hn hσ h0 h5 h3
      subst hn hσ
      have f1 : (k : Int) < (s.size : Int) := by omega
      have f2 : (0 : Int) ≤ (k : Int) := by omega
      have f3 := wrap_id (n := (k : Int) + 1) (by omega) (by omega)
      obtain ⟨b, f4⟩ := ba_get hlt
      have no : ¬charOk k b → ¬NameOk s := fun h hn => h (hn.1 k b f4)
      have g1 := isLetter b
      have g2 := isDigit b
      cases hl : letterB b with
      | true =>
        rw [hl] at g1
        refine .inl ⟨_, by simp only [go_sem, h0, h3, h5, f1, f2, f3, f4, g1]; rfl, ?_⟩
        simp only [go_sem, h0, h5]
        exact ⟨rfl, charOk_step hi f4 (.inl hl)⟩
      | false =>
        rw [hl] at g1
        by_cases hz : k = 0
        · have f0 : ((k : Int) == 0) = true := by subst hz; rfl
          exact .inr ⟨_, by simp only [go_sem, h0, h3, h5, f1, f2, f4, g1, f0]; rfl, by simp, .inr ⟨_, rfl, by simp only [go_sem], no (not_charOk hl (.inl hz))⟩⟩
        · have f0 : ((k : Int) == 0) = false := by simpa using hz
          cases hd : digitB b with
          | true =>
            rw [hd] at g2
            refine .inl ⟨_, by simp only [go_sem, h0, h3, h5, f1, f2, f3, f4, g1, g2, f0]; rfl, ?_⟩
            simp only [go_sem, h0, h5]
            exact ⟨rfl, charOk_step hi f4 (.inr ⟨hz, hd⟩)⟩
          | false =>
            rw [hd] at g2
            exact .inr ⟨_, by simp only [go_sem, h0, h3, h5, f1, f2, f4, g1, g2, f0]; rfl, by simp, .inr ⟨_, rfl, by simp only [go_sem], no (not_charOk hl (.inr hd))⟩⟩) (by
      clear hL
      rintro ⟨T, σ, nx⟩ ⟨hn, hσ, h0, h5, h3, hi⟩
      simp only at hn hσ h0 h5 h3
      subst hn hσ
      refine ⟨_, by simp only [go_sem, h0, h3, h5, Int.lt_irrefl]; rfl, by simp, .inl ⟨_, rfl, ?_, fun i b h => hi i b (ba_none h) h⟩⟩
      simp only [go_sem, h0]) (by
      simp only [go_sem]
      exact fun i b h => absurd h (Nat.not_lt_zero _))
  rcases hr with ⟨T, rfl, h0, h1⟩ | ⟨T, rfl, h0, h1⟩
  · have he := toList_empty s
    rw [nameOk_all h1]
    unfold inB
    by_cases hz : s.size = 0
    · have : ¬(1 : Int) ≤ s.size := by omega
      rw [decide_eq_true hz] at he
      simp only [go_sem, h0, this, he]
    · have : (1 : Int) ≤ s.size := by omega
      rw [decide_eq_false hz] at he
      simp only [go_sem, h0, this, he]
  · simp only [go_sem, h0, pb_false h1]
end Go.Proofs.Ytlacjcdhfoeekaa
