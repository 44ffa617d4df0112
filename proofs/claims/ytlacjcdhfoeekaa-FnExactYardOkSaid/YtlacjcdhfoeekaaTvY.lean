import Derived.Test.YtlacjcdhfoeekaaTvE
set_option linter.unusedSimpArgs false
set_option linter.unusedVariables false
namespace Go.Proofs.Ytlacjcdhfoeekaa
open Go Go.TV

def sameM (m o : TV.Move) : Bool := (m.fr == o.fr) && (m.to == o.to)
theorem sameM_comm (m o : TV.Move) : sameM m o = sameM o m := by
  unfold sameM
  rw [Bool.beq_comm (a := m.fr), Bool.beq_comm (a := m.to)]
theorem indexMove (xs : List TV.Move) (m : TV.Move) (h : xs.length ≤ maxLen) : fn Try.prog conv ext 95 [LL cMove xs, .agg (cMove m)] = some (I (ix (sameM m) xs)) := by
  have e2 : (xs.length : Int) ≤ 9223372036854775807 := by unfold maxLen at h; omega
  rw [fn_eq, ev_eqQ (rs := [.tmp 4]) [] rfl Try.func95 rfl rfl (by kernel_rfl) (by kernel_rfl)]
  simp only [go_sem]
  generalize hL : evLoopI _ _ = y
  obtain ⟨r, rfl, hr⟩ := count_rule hL xs.length (fun k st => 0 < st.nx ∧ st.σ 0 = some ⟨cMove m, 0, true⟩ ∧ st.T 0 = LL cMove xs ∧ st.T 3 = .rp 0 0 ∧ st.T 7 = I xs.length ∧ st.T 8 = I k ∧ ∀ i (h : i < xs.length), i < k → sameM m xs[i] = false)
    (fun r => (∃ T σ nx, r = (.exit 0, ⟨T, σ, nx⟩) ∧ ix (sameM m) xs = -1) ∨ (∃ T σ nx, r = (.ret, ⟨T, σ, nx⟩) ∧ T 4 = I (ix (sameM m) xs))) (by
      clear hL
      rintro k ⟨T, σ, nx⟩ hlt ⟨hn, hσ, h0, h1, h7, h8, hi⟩
      simp only at hn hσ h0 h1 h7 h8
      have f1 : (k : Int) < (xs.length : Int) := by omega
      have f2 : (0 : Int) ≤ (k : Int) := by omega
      have f3 := wrap_id (n := (k : Int) + 1) (by omega) (by omega)
      have f4 := slot (c := cMove) (s := 2) (fun _ => rfl) xs k hlt
      have f5 := slots_len (c := cMove) (s := 2) (fun _ => rfl) xs
      have f6 : k * 2 + 2 ≤ xs.length * 2 := by omega
      have f9 := slot_ne (c := cMove) (s := 2) (fun _ => rfl) (by omega) xs k hlt
      cases hp : sameM m xs[k] with
      | true =>
        refine .inr ⟨_, by unfold sameM at hp; simp only [go_sem, h0, h1, h7, h8, hn, hσ, f1, f2, f4, f5, f6, f9, hp]; rfl, by simp, .inr ⟨_, _, _, rfl, ?_⟩⟩
        simp only [go_sem]
        rw [ix_at hlt hi hp]
      | false =>
        refine .inl ⟨_, by unfold sameM at hp; simp only [go_sem, h0, h1, h7, h8, hn, hσ, f1, f2, f3, f4, f5, f6, f9, hp]; rfl, ?_⟩
        simp only [go_sem, h0, h1, h7, hσ]
        exact ⟨hn, rfl, ix_step hlt hi hp⟩) (by
      clear hL
      rintro ⟨T, σ, nx⟩ ⟨hn, hσ, h0, h1, h7, h8, hi⟩
      simp only at h7 h8
      exact ⟨_, by simp only [go_sem, h7, h8, Int.lt_irrefl]; rfl, by simp, .inl ⟨_, _, _, rfl, ix_none fun i h => hi i h h⟩⟩) (by
      simp only [go_sem]
      exact fun i _ h => absurd h (Nat.not_lt_zero _))
  rcases hr with ⟨T, σ, nx, rfl, h1⟩ | ⟨T, σ, nx, rfl, h1⟩
  · simp only [go_sem, h1]
  · simp only [go_sem, h1]

def MoveGood (n : Nat) (m : TV.Move) : Prop := 0 ≤ m.fr ∧ m.fr < n ∧ 0 ≤ m.to ∧ m.to < n ∧ m.fr ≠ m.to
def YardGood (y : Yard) : Prop := y.stances.length ≤ 6 ∧ y.moves.length ≤ 12 ∧ (∀ i (h : i < y.stances.length), stanceB y.stances[i] = true ∧ ix (isNamed y.stances[i].name) y.stances = i) ∧ ∀ i (h : i < y.moves.length), MoveGood y.stances.length y.moves[i] ∧ ix (sameM y.moves[i]) y.moves = i
theorem iYardOk (s : Yard) (h : okYard s) : fn Try.prog conv ext 43 [.agg (cYard s)] = some (Bo (pb (YardGood s))) := by
  have e2 : (s.stances.length : Int) ≤ 9223372036854775807 := by have := h.1.2.1; omega
  have e3 : (s.moves.length : Int) ≤ 9223372036854775807 := by have := h.2.1.2.1; omega
  rw [fn_eq, ev_eqQ (rs := [.tmp 2]) [] rfl Try.func43 rfl rfl (by kernel_rfl) (by kernel_rfl)]
  by_cases c1 : (6 : Int) < s.stances.length
  · rw [pb_false (fun hn => by have := hn.1; omega)]
    simp only [go_sem, c1]
  by_cases c2 : (12 : Int) < s.moves.length
  · rw [pb_false (fun hn => by have := hn.2.1; omega)]
    simp only [go_sem, c1, c2]
  simp only [go_sem, c1, c2]
  generalize hL : evLoopI _ _ = y
  obtain ⟨r, rfl, hr⟩ := count_rule hL s.stances.length (fun k st => 0 < st.nx ∧ st.σ 0 = some ⟨cYard s, 0, true⟩ ∧ st.T 1 = .rp 0 0 ∧ st.T 20 = LL cStance s.stances ∧ st.T 21 = I s.stances.length ∧ st.T 22 = I k ∧ st.T 3 = I s.stances.length ∧ ∀ i (h : i < s.stances.length), i < k → stanceB s.stances[i] = true ∧ ix (isNamed s.stances[i].name) s.stances = i)
    (fun r => (∃ T σ nx, r = (.exit 0, ⟨T, σ, nx⟩) ∧ 0 < nx ∧ σ 0 = some ⟨cYard s, 0, true⟩ ∧ T 1 = .rp 0 0 ∧ T 3 = I s.stances.length ∧ ∀ i (h : i < s.stances.length), stanceB s.stances[i] = true ∧ ix (isNamed s.stances[i].name) s.stances = i) ∨ (∃ T σ nx, r = (.ret, ⟨T, σ, nx⟩) ∧ T 2 = Bo false ∧ ¬YardGood s)) (by
      clear hL
      rintro k ⟨T, σ, nx⟩ hlt ⟨hn, hσ, h1, h16, h17, h18, h3, hi⟩
      simp only at hn hσ h1 h16 h17 h18 h3
      have f1 : (k : Int) < (s.stances.length : Int) := by omega
      have f2 : (0 : Int) ≤ (k : Int) := by omega
      have f3 := wrap_id (n := (k : Int) + 1) (by omega) (by omega)
      have f4 := slot (c := cStance) (s := 5) (fun _ => rfl) s.stances k hlt
      have f5 := slots_len (c := cStance) (s := 5) (fun _ => rfl) s.stances
      have f6 : k * 5 + 5 ≤ s.stances.length * 5 := by omega
      have f9 := slot_ne (c := cStance) (s := 5) (fun _ => rfl) (by omega) s.stances k hlt
      have t1 := iStanceOk s.stances[k] (h.1.1 _ (List.getElem_mem hlt))
      have t2 := iStanceNamed s s.stances[k].name h.1.2.2
      have nz : ¬0 = nx := by omega
      cases hj : stanceB s.stances[k] with
      | false =>
        rw [hj] at t1
        refine .inr ⟨_, by simp only [go_sem, h1, h16, h17, h18, f1, f2, f4, f5, f6, f9, t1, nz]; rfl, by simp, .inr ⟨_, _, _, rfl, ?_, fun hn => ?_⟩⟩
        · simp only [go_sem]
        · have := (hn.2.2.1 k hlt).1
          rw [hj] at this; cases this
      | true =>
        rw [hj] at t1
        by_cases hk : ix (isNamed s.stances[k].name) s.stances = k
        · rw [hk] at t2
          refine .inl ⟨_, by simp only [go_sem, h1, h16, h17, h18, hσ, f1, f2, f3, f4, f5, f6, f9, t1, t2, nz]; rfl, ?_⟩
          simp only [go_sem, h1, h16, h17, hσ, nz, h3]
          refine ⟨by omega, rfl, fun i hi' hik => ?_⟩
          rcases Nat.lt_or_eq_of_le (Nat.le_of_lt_succ hik) with q | q
          · exact hi i hi' q
          · subst q; exact ⟨hj, hk⟩
        · have hk' : (ix (isNamed s.stances[k].name) s.stances != (k : Int)) = true := by simpa using hk
          refine .inr ⟨_, by simp only [go_sem, h1, h16, h17, h18, hσ, f1, f2, f4, f5, f6, f9, t1, t2, hk', nz]; rfl, by simp, .inr ⟨_, _, _, rfl, ?_, fun hn => hk (hn.2.2.1 k hlt).2⟩⟩
          simp only [go_sem]) (by
      clear hL
      rintro ⟨T, σ, nx⟩ ⟨hn, hσ, h1, h16, h17, h18, h3, hi⟩
      simp only at hn hσ h1 h16 h17 h18 h3
      exact ⟨_, by simp only [go_sem, h17, h18, Int.lt_irrefl]; rfl, by simp, .inl ⟨_, _, _, rfl, hn, hσ, by simp only [go_sem, h1], by simp only [go_sem, h3], fun i h => hi i h h⟩⟩) (by
      simp only [go_sem]
      exact fun i _ h => absurd h (Nat.not_lt_zero _))
  rcases hr with ⟨T, σ, nx, rfl, hnx, hσ, h1, h3, hj⟩ | ⟨T, σ, nx, rfl, h2, hn⟩
  · clear hL
    simp only [go_sem, hσ, h1]
    generalize hL : evLoopI _ _ = y
    obtain ⟨r, rfl, hr⟩ := count_rule hL s.moves.length (fun k st => 0 < st.nx ∧ st.σ 0 = some ⟨cYard s, 0, true⟩ ∧ st.T 1 = .rp 0 0 ∧ st.T 3 = I s.stances.length ∧ st.T 40 = LL cMove s.moves ∧ st.T 41 = I s.moves.length ∧ st.T 42 = I k ∧ ∀ i (h : i < s.moves.length), i < k → MoveGood s.stances.length s.moves[i] ∧ ix (sameM s.moves[i]) s.moves = i)
      (fun r => (∃ T σ nx, r = (.exit 2, ⟨T, σ, nx⟩) ∧ ∀ i (h : i < s.moves.length), MoveGood s.stances.length s.moves[i] ∧ ix (sameM s.moves[i]) s.moves = i) ∨ (∃ T σ nx, r = (.ret, ⟨T, σ, nx⟩) ∧ T 2 = Bo false ∧ ¬YardGood s)) (by
        clear hL
        rintro k ⟨T, σ, nx⟩ hlt ⟨hn, hσ, h1, h5, h45, h46, h47, hi⟩
        simp only at hn hσ h1 h5 h45 h46 h47
        have f1 : (k : Int) < (s.moves.length : Int) := by omega
        have f2 : (0 : Int) ≤ (k : Int) := by omega
        have f3 := wrap_id (n := (k : Int) + 1) (by omega) (by omega)
        have f4 := slot (c := cMove) (s := 2) (fun _ => rfl) s.moves k hlt
        have f5 := slots_len (c := cMove) (s := 2) (fun _ => rfl) s.moves
        have f6 : k * 2 + 2 ≤ s.moves.length * 2 := by omega
        have f9 := slot_ne (c := cMove) (s := 2) (fun _ => rfl) (by omega) s.moves k hlt
        have no : ¬MoveGood s.stances.length s.moves[k] → ¬YardGood s := fun hb hn => hb (hn.2.2.2 k hlt).1
        have no2 : ¬ix (sameM s.moves[k]) s.moves = k → ¬YardGood s := fun hb hn => hb (hn.2.2.2 k hlt).2
        have done : MoveGood s.stances.length s.moves[k] → ix (sameM s.moves[k]) s.moves = k → ∀ i (h : i < s.moves.length), i < k + 1 → MoveGood s.stances.length s.moves[i] ∧ ix (sameM s.moves[i]) s.moves = i := fun g1 g2 i hi' hik => by
          rcases Nat.lt_or_eq_of_le (Nat.le_of_lt_succ hik) with q | q
          · exact hi i hi' q
          · subst q; exact ⟨g1, g2⟩
        have nz : ¬0 = nx := by omega
        have t1 := indexMove s.moves s.moves[k] h.2.1.2.2
        generalize hix : ix (sameM s.moves[k]) s.moves = ii at t1 no2 done
        obtain ⟨m, hmk⟩ : ∃ m, m = s.moves[k] := ⟨_, rfl⟩
        rw [← hmk] at f4 no done t1
        by_cases c1 : m.fr < 0
        · refine .inr ⟨_, by simp only [go_sem, h1, h5, h45, h46, h47, hσ, f1, f2, f4, f5, f6, f9, nz, c1]; rfl, by simp, .inr ⟨_, _, _, rfl, by simp only [go_sem], no fun hm => ?_⟩⟩
          have := hm.1; omega
        by_cases c2 : (s.stances.length : Int) ≤ m.fr
        · refine .inr ⟨_, by simp only [go_sem, h1, h5, h45, h46, h47, hσ, f1, f2, f4, f5, f6, f9, nz, c1, c2]; rfl, by simp, .inr ⟨_, _, _, rfl, by simp only [go_sem], no fun hm => ?_⟩⟩
          have := hm.2.1; omega
        by_cases c3 : m.to < 0
        · refine .inr ⟨_, by simp only [go_sem, h1, h5, h45, h46, h47, hσ, f1, f2, f4, f5, f6, f9, nz, c1, c2, c3]; rfl, by simp, .inr ⟨_, _, _, rfl, by simp only [go_sem], no fun hm => ?_⟩⟩
          have := hm.2.2.1; omega
        by_cases c4 : (s.stances.length : Int) ≤ m.to
        · refine .inr ⟨_, by simp only [go_sem, h1, h5, h45, h46, h47, hσ, f1, f2, f4, f5, f6, f9, nz, c1, c2, c3, c4]; rfl, by simp, .inr ⟨_, _, _, rfl, by simp only [go_sem], no fun hm => ?_⟩⟩
          have := hm.2.2.2.1; omega
        by_cases c5 : m.fr = m.to
        · have c5' : (m.fr == m.to) = true := by simpa using c5
          exact .inr ⟨_, by simp only [go_sem, h1, h5, h45, h46, h47, hσ, f1, f2, f4, f5, f6, f9, nz, c1, c2, c3, c4, c5']; rfl, by simp, .inr ⟨_, _, _, rfl, by simp only [go_sem], no fun hm => hm.2.2.2.2 c5⟩⟩
        have c5' : (m.fr == m.to) = false := by simpa using c5
        by_cases c6 : ii = k
        · have c6' : (ii != (k : Int)) = false := by simpa using c6
          refine .inl ⟨_, by simp only [go_sem, h1, h5, h45, h46, h47, hσ, f1, f2, f3, f4, f5, f6, f9, nz, c1, c2, c3, c4, c5', c6', t1]; rfl, ?_⟩
          simp only [go_sem, h1, h5, h45, h46, hσ, nz]
          exact ⟨by omega, rfl, done ⟨by omega, by omega, by omega, by omega, c5⟩ c6⟩
        · have c6' : (ii != (k : Int)) = true := by simpa using c6
          exact .inr ⟨_, by simp only [go_sem, h1, h5, h45, h46, h47, hσ, f1, f2, f4, f5, f6, f9, nz, c1, c2, c3, c4, c5', c6', t1]; rfl, by simp, .inr ⟨_, _, _, rfl, by simp only [go_sem], no2 c6⟩⟩) (by
        clear hL
        rintro ⟨T, σ, nx⟩ ⟨hn, hσ, h1, h5, h45, h46, h47, hi⟩
        simp only at hn hσ h1 h46 h47
        exact ⟨_, by simp only [go_sem, h46, h47, Int.lt_irrefl]; rfl, by simp, .inl ⟨_, _, _, rfl, fun i h => hi i h h⟩⟩) (by
        simp only [go_sem, h1, hσ, h3]
        exact ⟨hnx, fun i _ h => absurd h (Nat.not_lt_zero _)⟩)
    rcases hr with ⟨T, σ, nx, rfl, hm⟩ | ⟨T, σ, nx, rfl, h2, hn⟩
    · have : YardGood s := ⟨by omega, by omega, hj, hm⟩
      simp only [go_sem, pb_true this]
    · simp only [go_sem, h2, pb_false hn]
  · simp only [go_sem, h2, pb_false hn]

theorem step_of {b : Option (Ex × St)} {J : St → Prop} {post : Ex × St → Prop} (h : ∃ x, b = some x ∧ ((∃ st', x = (.norm, st') ∧ J st') ∨ ((∀ s, x ≠ (.norm, s)) ∧ post x))) : (∃ st', b = some (.norm, st') ∧ J st') ∨ (∃ r, b = some r ∧ (∀ s, r ≠ (.norm, s)) ∧ post r) := by
  obtain ⟨x, rfl, ⟨st', rfl, h⟩ | ⟨h1, h2⟩⟩ := h
  · exact .inl ⟨st', rfl, h⟩
  · exact .inr ⟨x, rfl, h1, h2⟩
theorem ix_before {α : Type} {p : α → Bool} {xs : List α} {k : Nat} (h : ix p xs = k) (i : Nat) (hi : i < xs.length) (hik : i < k) : p xs[i] = false := by
  unfold ix at h
  split at h
  · have : i < xs.findIdx p := by omega
    simpa using List.not_of_lt_findIdx this
  · omega
theorem sYardOk (s : Yard) (h : okYard s) : fn Try.prog conv ext 42 [.agg (cYard s)] = some (Bo (pb (YardGood s))) := by
  have e2 : (s.stances.length : Int) ≤ 9223372036854775807 := by have := h.1.2.1; omega
  have e3 : (s.moves.length : Int) ≤ 9223372036854775807 := by have := h.2.1.2.1; omega
  rw [fn_eq, ev_eqQ (rs := [.tmp 2]) [] rfl Try.func42 rfl rfl (by kernel_rfl) (by kernel_rfl)]
  by_cases c1 : (6 : Int) < s.stances.length
  · rw [pb_false (fun hn => by have := hn.1; omega)]
    simp only [go_sem, c1]
  by_cases c2 : (12 : Int) < s.moves.length
  · rw [pb_false (fun hn => by have := hn.2.1; omega)]
    simp only [go_sem, c1, c2]
  simp only [go_sem, c1, c2]
  generalize hL : evLoopI _ _ = y
  obtain ⟨r, rfl, hr⟩ := count_rule hL s.stances.length (fun k st => 0 < st.nx ∧ st.σ 0 = some ⟨cYard s, 0, true⟩ ∧ st.T 1 = .rp 0 0 ∧ st.T 21 = LL cStance s.stances ∧ st.T 22 = I s.stances.length ∧ st.T 23 = I k ∧ ∀ i (h : i < s.stances.length), i < k → stanceB s.stances[i] = true ∧ ix (isNamed s.stances[i].name) s.stances = i)
    (fun r => (∃ T σ nx, r = (.exit 0, ⟨T, σ, nx⟩) ∧ 0 < nx ∧ σ 0 = some ⟨cYard s, 0, true⟩ ∧ T 1 = .rp 0 0 ∧ ∀ i (h : i < s.stances.length), stanceB s.stances[i] = true ∧ ix (isNamed s.stances[i].name) s.stances = i) ∨ (∃ T σ nx, r = (.ret, ⟨T, σ, nx⟩) ∧ T 2 = Bo false ∧ ¬YardGood s)) (by
      clear hL
      rintro k ⟨T, σ, nx⟩ hlt ⟨hn, hσ, h1, h16, h17, h18, hi⟩
      simp only at hn hσ h1 h16 h17 h18
      have f1 : (k : Int) < (s.stances.length : Int) := by omega
      have f2 : (0 : Int) ≤ (k : Int) := by omega
      have f3 := wrap_id (n := (k : Int) + 1) (by omega) (by omega)
      have f4 := slot (c := cStance) (s := 5) (fun _ => rfl) s.stances k hlt
      have f5 := slots_len (c := cStance) (s := 5) (fun _ => rfl) s.stances
      have f6 : k * 5 + 5 ≤ s.stances.length * 5 := by omega
      have f9 := slot_ne (c := cStance) (s := 5) (fun _ => rfl) (by omega) s.stances k hlt
      have t1 := sStanceOk s.stances[k] (h.1.1 _ (List.getElem_mem hlt))
      have t2 := sStanceNamed s s.stances[k].name h.1.2.2
      have nz : ¬0 = nx := by omega
      cases hj : stanceB s.stances[k] with
      | false =>
        rw [hj] at t1
        refine .inr ⟨_, by simp only [go_sem, h1, h16, h17, h18, f1, f2, f4, f5, f6, f9, t1, nz]; rfl, by simp, .inr ⟨_, _, _, rfl, ?_, fun hn => ?_⟩⟩
        · simp only [go_sem]
        · have := (hn.2.2.1 k hlt).1
          rw [hj] at this; cases this
      | true =>
        rw [hj] at t1
        by_cases hk : ix (isNamed s.stances[k].name) s.stances = k
        · rw [hk] at t2
          refine .inl ⟨_, by simp only [go_sem, h1, h16, h17, h18, hσ, f1, f2, f3, f4, f5, f6, f9, t1, t2, nz]; rfl, ?_⟩
          simp only [go_sem, h1, h16, h17, hσ, nz]
          refine ⟨by omega, rfl, fun i hi' hik => ?_⟩
          rcases Nat.lt_or_eq_of_le (Nat.le_of_lt_succ hik) with q | q
          · exact hi i hi' q
          · subst q; exact ⟨hj, hk⟩
        · have hk' : (ix (isNamed s.stances[k].name) s.stances != (k : Int)) = true := by simpa using hk
          refine .inr ⟨_, by simp only [go_sem, h1, h16, h17, h18, hσ, f1, f2, f4, f5, f6, f9, t1, t2, hk', nz]; rfl, by simp, .inr ⟨_, _, _, rfl, ?_, fun hn => hk (hn.2.2.1 k hlt).2⟩⟩
          simp only [go_sem]) (by
      clear hL
      rintro ⟨T, σ, nx⟩ ⟨hn, hσ, h1, h16, h17, h18, hi⟩
      simp only at hn hσ h1 h16 h17 h18
      exact ⟨_, by simp only [go_sem, h17, h18, Int.lt_irrefl]; rfl, by simp, .inl ⟨_, _, _, rfl, hn, hσ, by simp only [go_sem, h1], fun i h => hi i h h⟩⟩) (by
      simp only [go_sem]
      exact fun i _ h => absurd h (Nat.not_lt_zero _))
  rcases hr with ⟨T, σ, nx, rfl, hnx, hσ, h1, hj⟩ | ⟨T, σ, nx, rfl, h2, hn⟩
  · clear hL
    have e4 := wrap_id (n := (s.stances.length : Int) - 1) (by omega) (by omega)
    simp only [go_sem, hσ, h1, e4]
    generalize hL : evLoopI _ _ = y
    obtain ⟨r, rfl, hr⟩ := count_rule hL s.moves.length (fun k st => 0 < st.nx ∧ st.σ 0 = some ⟨cYard s, 0, true⟩ ∧ st.T 1 = .rp 0 0 ∧ st.T 5 = I ((s.stances.length : Int) - 1) ∧ st.T 45 = LL cMove s.moves ∧ st.T 46 = I s.moves.length ∧ st.T 47 = I k ∧ ∀ i (h : i < s.moves.length), i < k → MoveGood s.stances.length s.moves[i] ∧ ix (sameM s.moves[i]) s.moves = i)
      (fun r => (∃ T σ nx, r = (.exit 2, ⟨T, σ, nx⟩) ∧ ∀ i (h : i < s.moves.length), MoveGood s.stances.length s.moves[i] ∧ ix (sameM s.moves[i]) s.moves = i) ∨ (∃ T σ nx, r = (.ret, ⟨T, σ, nx⟩) ∧ T 2 = Bo false ∧ ¬YardGood s)) (by
        clear hL
        rintro k ⟨T, σ, nx⟩ hlt ⟨hn, hσ, h1, h5, h45, h46, h47, hi⟩
        simp only at hn hσ h1 h5 h45 h46 h47
        have f1 : (k : Int) < (s.moves.length : Int) := by omega
        have f2 : (0 : Int) ≤ (k : Int) := by omega
        have f3 := wrap_id (n := (k : Int) + 1) (by omega) (by omega)
        have f4 := slot (c := cMove) (s := 2) (fun _ => rfl) s.moves k hlt
        have f5 := slots_len (c := cMove) (s := 2) (fun _ => rfl) s.moves
        have f6 : k * 2 + 2 ≤ s.moves.length * 2 := by omega
        have f9 := slot_ne (c := cMove) (s := 2) (fun _ => rfl) (by omega) s.moves k hlt
        have no : ¬MoveGood s.stances.length s.moves[k] → ¬YardGood s := fun hb hn => hb (hn.2.2.2 k hlt).1
        have no2 : ∀ i (h : i < s.moves.length), i < k → sameM s.moves[i] s.moves[k] = true → ¬YardGood s := fun i hi' hik hb hn => by
          have := ix_before (hn.2.2.2 k hlt).2 i hi' hik
          rw [sameM_comm, hb] at this; cases this
        have done : MoveGood s.stances.length s.moves[k] → (∀ i (h : i < s.moves.length), i < k → sameM s.moves[i] s.moves[k] = false) → ∀ i (h : i < s.moves.length), i < k + 1 → MoveGood s.stances.length s.moves[i] ∧ ix (sameM s.moves[i]) s.moves = i := fun g1 g2 i hi' hik => by
          rcases Nat.lt_or_eq_of_le (Nat.le_of_lt_succ hik) with q | q
          · exact hi i hi' q
          · subst q
            exact ⟨g1, ix_at hi' (fun j hj hjk => by rw [sameM_comm]; exact g2 j hj hjk) (by unfold sameM; simp)⟩
        have nz : ¬0 = nx := by omega
        obtain ⟨m, hmk⟩ : ∃ m, m = s.moves[k] := ⟨_, rfl⟩
        rw [← hmk] at f4 no no2 done
        have t1 := l01In m.fr 0 ((s.stances.length : Int) - 1)
        have t2 := l01In m.to 0 ((s.stances.length : Int) - 1)
        cases ha : inB m.fr 0 ((s.stances.length : Int) - 1) with
        | false =>
          rw [ha] at t1
          refine .inr ⟨_, by simp only [go_sem, h1, h5, h45, h46, h47, hσ, f1, f2, f4, f5, f6, f9, nz, t1]; rfl, by simp, .inr ⟨_, _, _, rfl, by simp only [go_sem], no fun hm => ?_⟩⟩
          exact inB_false_l ha ⟨hm.1, by have := hm.2.1; omega⟩
        | true =>
        rw [ha] at t1
        cases hb : inB m.to 0 ((s.stances.length : Int) - 1) with
        | false =>
          rw [hb] at t2
          refine .inr ⟨_, by simp only [go_sem, h1, h5, h45, h46, h47, hσ, f1, f2, f4, f5, f6, f9, nz, t1, t2]; rfl, by simp, .inr ⟨_, _, _, rfl, by simp only [go_sem], no fun hm => ?_⟩⟩
          exact inB_false_l hb ⟨hm.2.2.1, by have := hm.2.2.2.1; omega⟩
        | true =>
        rw [hb] at t2
        by_cases c5 : m.fr = m.to
        · have c5' : (m.fr == m.to) = true := by simpa using c5
          exact .inr ⟨_, by simp only [go_sem, h1, h5, h45, h46, h47, hσ, f1, f2, f4, f5, f6, f9, nz, t1, t2, c5']; rfl, by simp, .inr ⟨_, _, _, rfl, by simp only [go_sem], no fun hm => hm.2.2.2.2 c5⟩⟩
        have c5' : (m.fr == m.to) = false := by simpa using c5
        have qa := inB_true ha
        have qb := inB_true hb
        have good : MoveGood s.stances.length m := ⟨by omega, by omega, by omega, by omega, c5⟩
        have g12 : k ≤ s.moves.length := by omega
        have g11 : (s.moves.flatMap cMove).take (k * 2) = (s.moves.take k).flatMap cMove := by
          have e := congrArg (fun l => l.take (k * 2)) (congrArg (fun l : List TV.Move => l.flatMap cMove) (List.take_append_drop k s.moves)).symm
          simp only [List.flatMap_append] at e
          rw [e, List.take_left']
          rw [slots_len (c := cMove) (s := 2) (fun _ => rfl), List.length_take, Nat.min_eq_left g12]
        refine step_of ?_
        conv =>
          enter [1, x, 1, 1]
          simp only [go_sem, h1, h5, h45, h46, h47, hσ, f1, f2, f4, f5, f6, f9, nz, t1, t2, c5', g11, g12, Nat.sub_zero, Nat.zero_le]
        generalize hL : evLoopI _ _ = z
        obtain ⟨r, rfl, hr⟩ := count_rule hL k (fun j st => nx < st.nx ∧ st.σ 0 = some ⟨cYard s, 0, true⟩ ∧ st.σ nx = some ⟨cMove m, 0, true⟩ ∧ st.T 1 = .rp 0 0 ∧ st.T 5 = I ((s.stances.length : Int) - 1) ∧ st.T 7 = .rp nx 0 ∧ st.T 45 = LL cMove s.moves ∧ st.T 46 = I s.moves.length ∧ st.T 47 = I k ∧ st.T 74 = .ts ((s.moves.take k).flatMap cMove) k ∧ st.T 75 = I k ∧ st.T 76 = I j ∧ ∀ i (h : i < s.moves.length), i < j → sameM s.moves[i] m = false)
          (fun r => (∃ T' σ' nx', r = (.exit 4, ⟨T', σ', nx'⟩) ∧ 0 < nx' ∧ σ' 0 = some ⟨cYard s, 0, true⟩ ∧ T' 1 = .rp 0 0 ∧ T' 5 = I ((s.stances.length : Int) - 1) ∧ T' 45 = LL cMove s.moves ∧ T' 46 = I s.moves.length ∧ T' 47 = I k ∧ ∀ i (h : i < s.moves.length), i < k → sameM s.moves[i] m = false) ∨ (∃ T' σ' nx', r = (.ret, ⟨T', σ', nx'⟩) ∧ T' 2 = Bo false ∧ ¬YardGood s)) (by
            clear hL
            rintro j ⟨T', σ', nx'⟩ hj' ⟨hn, hσ, hm7, h1, h5, h7, h45, h46, h47, h74, h75, h76, hi2⟩
            simp only at hn hσ hm7 h1 h5 h7 h45 h46 h47 h74 h75 h76
            have hl : (s.moves.take k).length = k := by rw [List.length_take, Nat.min_eq_left g12]
            have f1 : (j : Int) < (k : Int) := by omega
            have f2 : (0 : Int) ≤ (j : Int) := by omega
            have f3 := wrap_id (n := (j : Int) + 1) (by omega) (by omega)
            have f4 := slot (c := cMove) (s := 2) (fun _ => rfl) (s.moves.take k) j (by omega)
            rw [List.getElem_take] at f4
            have f5 := slots_len (c := cMove) (s := 2) (fun _ => rfl) (s.moves.take k)
            rw [hl] at f5
            have f6 : j * 2 + 2 ≤ k * 2 := by omega
            have f9 := slot_ne (c := cMove) (s := 2) (fun _ => rfl) (by omega) (s.moves.take k) j (by omega)
            have q1 : ¬nx = nx' := by omega
            have q2 : ¬0 = nx' := by omega
            have hjl : j < s.moves.length := by omega
            cases hp : sameM s.moves[j] m with
            | true =>
              have hp' := hp
              unfold sameM at hp
              exact .inr ⟨_, by simp only [go_sem, h1, h5, h7, h45, h46, h47, h74, h75, h76, hσ, hm7, f1, f2, f4, f5, f6, f9, q1, q2, hp]; rfl, by simp, .inr ⟨_, _, _, rfl, by simp only [go_sem], no2 j hjl hj' hp'⟩⟩
            | false =>
              have hp' := hp
              unfold sameM at hp
              refine .inl ⟨_, by simp only [go_sem, h1, h5, h7, h45, h46, h47, h74, h75, h76, hσ, hm7, f1, f2, f3, f4, f5, f6, f9, q1, q2, hp]; rfl, ?_⟩
              simp only [go_sem, h1, h5, h7, h45, h46, h47, h74, h75, hσ, hm7, q1, q2]
              refine ⟨by omega, rfl, fun i hi' hik => ?_⟩
              rcases Nat.lt_or_eq_of_le (Nat.le_of_lt_succ hik) with q | q
              · exact hi2 i hi' q
              · subst q; exact hp') (by
            clear hL
            rintro ⟨T', σ', nx'⟩ ⟨hn, hσ, hm7, h1, h5, h7, h45, h46, h47, h74, h75, h76, hi2⟩
            simp only at hn hσ hm7 h1 h5 h7 h45 h46 h47 h74 h75 h76
            refine ⟨_, by simp only [go_sem, h75, h76, Int.lt_irrefl]; rfl, by simp, .inl ⟨_, _, _, rfl, by omega, hσ, ?_, ?_, ?_, ?_, ?_, hi2⟩⟩ <;> simp only [go_sem, h1, h5, h45, h46, h47]) (by
            simp only [go_sem, h1, h5, h45, h46, h47, hσ, nz]
            exact ⟨by omega, fun i _ h => absurd h (Nat.not_lt_zero _)⟩)
        rcases hr with ⟨T', σ', nx', rfl, hn', hσ', h1', h5', h45', h46', h47', hi'⟩ | ⟨T', σ', nx', rfl, h2', hno⟩
        · refine ⟨_, by simp only [go_sem, h47', f3]; rfl, .inl ⟨_, rfl, ?_⟩⟩
          simp only [go_sem, h1', h5', h45', h46', hσ']
          exact ⟨hn', rfl, done good hi'⟩
        · exact ⟨_, by simp only [go_sem]; rfl, .inr ⟨by simp, .inr ⟨_, _, _, rfl, h2', hno⟩⟩⟩) (by
        clear hL
        rintro ⟨T, σ, nx⟩ ⟨hn, hσ, h1, h5, h45, h46, h47, hi⟩
        simp only at hn hσ h1 h46 h47
        exact ⟨_, by simp only [go_sem, h46, h47, Int.lt_irrefl]; rfl, by simp, .inl ⟨_, _, _, rfl, fun i h => hi i h h⟩⟩) (by
        simp only [go_sem, h1, hσ]
        exact ⟨hnx, fun i _ h => absurd h (Nat.not_lt_zero _)⟩)
    rcases hr with ⟨T, σ, nx, rfl, hm⟩ | ⟨T, σ, nx, rfl, h2, hn⟩
    · have : YardGood s := ⟨by omega, by omega, hj, hm⟩
      simp only [go_sem, pb_true this]
    · simp only [go_sem, h2, pb_false hn]
  · simp only [go_sem, h2, pb_false hn]
end Go.Proofs.Ytlacjcdhfoeekaa
