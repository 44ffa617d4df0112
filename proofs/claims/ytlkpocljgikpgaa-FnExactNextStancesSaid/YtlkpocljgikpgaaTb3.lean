import Derived.Test.YtlkpocljgikpgaaTb2
set_option linter.unusedSimpArgs false
set_option linter.unusedVariables false
namespace Go.Proofs.Ytlkpocljgikpgaa
open Go Go.TV
theorem u4 : Try.prog.underlying 4 = some .bool := Try.underlying4
attribute [go_sem] u4

theorem toJoint (j : Joint) : fn Try.prog conv ext 176 [.agg (cJoint j)] = some (.agg (cJoint j)) := by
  rw [fn_eq, ev_eqQ (rs := [.cell 2 157]) [] rfl Try.func176 rfl rfl (by kernel_rfl) (by kernel_rfl)]
  simp only [go_sem]
theorem toMember (j : Member) : fn Try.prog conv ext 177 [.agg (cMember j)] = some (.agg (cMember j)) := by
  rw [fn_eq, ev_eqQ (rs := [.cell 2 159]) [] rfl Try.func177 rfl rfl (by kernel_rfl) (by kernel_rfl)]
  simp only [go_sem]
theorem toMove (j : TV.Move) : fn Try.prog conv ext 98 [.agg (cMove j)] = some (.agg (cMove j)) := by
  rw [fn_eq, ev_eqQ (rs := [.cell 2 124]) [] rfl Try.func98 rfl rfl (by kernel_rfl) (by kernel_rfl)]
  simp only [go_sem]
abbrev zMove : List V := [I 0, I 0]
abbrev zJoint : List V := [Sg ByteArray.empty, I 0, I 0, Bo false]
abbrev zMember : List V := [I 0, I 0, I 0]
abbrev zStance : List V := [Sg ByteArray.empty, .nil, .nil, .nil, .nil]
/-- A copy of a list of rows, one by one. -/
theorem toMoveS (xs : List TV.Move) (h : okL 16 okMove xs) : fn Try.prog conv ext 68 [LL cMove xs] = some (LL cMove xs) := by
  have e1 : (16 : Int) * xs.length ≤ 281474976710656 := by have := h.2.1; omega
  have e2 : (xs.length : Int) ≤ 9223372036854775807 := by have := h.2.1; omega
  have e3 : (0 : Int) ≤ (xs.length : Int) := by omega
  rw [fn_eq, ev_eqQ (rs := [.tmp 2]) [] rfl Try.func68 rfl rfl (by kernel_rfl) (by kernel_rfl)]
  simp only [go_sem, e1, e2, e3, Int.le_refl]
  generalize hL : evLoopI _ _ = y
  obtain ⟨r, rfl, T', σ', rfl, hT', hs⟩ := count_rule hL xs.length (fun k st => st.nx = 1 ∧ st.σ = upd noStore 0 (some ⟨mix cMove zMove xs xs.length k, 2, true⟩) ∧ st.T 0 = LL cMove xs ∧ st.T 3 = .rs 0 0 xs.length ∧ st.T 4 = I k)
    (fun r => ∃ T σ, r = (.exit 0, ⟨T, σ, 1⟩) ∧ T 3 = .rs 0 0 xs.length ∧ σ = upd noStore 0 (some ⟨xs.flatMap cMove, 2, true⟩)) (by
      clear hL
      rintro k ⟨T, σ, nx⟩ hlt ⟨hn, hσ, h0, h3, h4⟩
      simp only at hn hσ h0 h3 h4
      subst hn hσ
      have f1 : (k : Int) < (xs.length : Int) := by omega
      have f2 : (0 : Int) ≤ (k : Int) := by omega
      have f3 := wrap_id (n := (k : Int) + 1) (by omega) (by omega)
      have f4 := slot (c := cMove) (s := 2) (fun _ => rfl) xs k hlt
      have f5 := slots_len (c := cMove) (s := 2) (fun _ => rfl) xs
      have f6 : k * 2 + 2 ≤ xs.length * 2 := by omega
      have f7 := mix_len (c := cMove) (s := 2) (fun _ => rfl) (z := zMove) rfl xs k (by omega)
      have f8 := mix_patch (c := cMove) (s := 2) (fun _ => rfl) (z := zMove) rfl xs k hlt
      have f9 := slot_ne (c := cMove) (s := 2) (fun _ => rfl) (by omega) xs k hlt
      have f10 : fn Try.prog conv ext 98 [.agg (cMove xs[k])] = some (.agg (cMove xs[k])) := by
        have hx := h.1 xs[k] (List.getElem_mem hlt)
        revert hx
        generalize xs[k] = x
        intro hx
        exact toMove x
      refine .inl ⟨_, by simp only [go_sem, h0, h3, h4, f1, f2, f3, f4, f5, f6, f7, f8, f9, f10]; rfl, ?_⟩
      simp only [go_sem, h0, h3]
      rfl) (by
      clear hL
      rintro ⟨T, σ, nx⟩ ⟨hn, hσ, h0, h3, h4⟩
      simp only at hn hσ h0 h3 h4
      subst hn hσ
      refine ⟨_, by simp only [go_sem, h0, h4, Int.lt_irrefl]; rfl, by simp, _, _, rfl, ?_, ?_⟩
      · simp only [go_sem, h3]
      · rw [mix_full]) (by
      (simp only [go_sem, ← mix_zero]) <;> trivial)
  have g1 := slots_len (c := cMove) (s := 2) (fun _ => rfl) xs
  have g2 : ∀ σ : Store, stripL (strip σ 6) (xs.flatMap cMove) = some (xs.flatMap cMove, []) := fun σ => stripL_slots (fun x => by simp only [go_sem]) xs
  have g3 : (xs.flatMap cMove).take (xs.length * 2) = xs.flatMap cMove := List.take_of_length_le (by omega)
  simp only [go_sem, hT', hs, g1, g2, g3, Nat.le_refl]
theorem toJointS (xs : List Joint) (h : okL 40 okJoint xs) : fn Try.prog conv ext 158 [LL cJoint xs] = some (LL cJoint xs) := by
  have e1 : (40 : Int) * xs.length ≤ 281474976710656 := by have := h.2.1; omega
  have e2 : (xs.length : Int) ≤ 9223372036854775807 := by have := h.2.1; omega
  have e3 : (0 : Int) ≤ (xs.length : Int) := by omega
  rw [fn_eq, ev_eqQ (rs := [.tmp 2]) [] rfl Try.func158 rfl rfl (by kernel_rfl) (by kernel_rfl)]
  simp only [go_sem, e1, e2, e3, Int.le_refl]
  generalize hL : evLoopI _ _ = y
  obtain ⟨r, rfl, T', σ', rfl, hT', hs⟩ := count_rule hL xs.length (fun k st => st.nx = 1 ∧ st.σ = upd noStore 0 (some ⟨mix cJoint zJoint xs xs.length k, 4, true⟩) ∧ st.T 0 = LL cJoint xs ∧ st.T 3 = .rs 0 0 xs.length ∧ st.T 4 = I k)
    (fun r => ∃ T σ, r = (.exit 0, ⟨T, σ, 1⟩) ∧ T 3 = .rs 0 0 xs.length ∧ σ = upd noStore 0 (some ⟨xs.flatMap cJoint, 4, true⟩)) (by
      clear hL
      rintro k ⟨T, σ, nx⟩ hlt ⟨hn, hσ, h0, h3, h4⟩
      simp only at hn hσ h0 h3 h4
      subst hn hσ
      have f1 : (k : Int) < (xs.length : Int) := by omega
      have f2 : (0 : Int) ≤ (k : Int) := by omega
      have f3 := wrap_id (n := (k : Int) + 1) (by omega) (by omega)
      have f4 := slot (c := cJoint) (s := 4) (fun _ => rfl) xs k hlt
      have f5 := slots_len (c := cJoint) (s := 4) (fun _ => rfl) xs
      have f6 : k * 4 + 4 ≤ xs.length * 4 := by omega
      have f7 := mix_len (c := cJoint) (s := 4) (fun _ => rfl) (z := zJoint) rfl xs k (by omega)
      have f8 := mix_patch (c := cJoint) (s := 4) (fun _ => rfl) (z := zJoint) rfl xs k hlt
      have f9 := slot_ne (c := cJoint) (s := 4) (fun _ => rfl) (by omega) xs k hlt
      have f10 : fn Try.prog conv ext 176 [.agg (cJoint xs[k])] = some (.agg (cJoint xs[k])) := by
        have hx := h.1 xs[k] (List.getElem_mem hlt)
        revert hx
        generalize xs[k] = x
        intro hx
        exact toJoint x
      refine .inl ⟨_, by simp only [go_sem, h0, h3, h4, f1, f2, f3, f4, f5, f6, f7, f8, f9, f10]; rfl, ?_⟩
      simp only [go_sem, h0, h3]
      rfl) (by
      clear hL
      rintro ⟨T, σ, nx⟩ ⟨hn, hσ, h0, h3, h4⟩
      simp only at hn hσ h0 h3 h4
      subst hn hσ
      refine ⟨_, by simp only [go_sem, h0, h4, Int.lt_irrefl]; rfl, by simp, _, _, rfl, ?_, ?_⟩
      · simp only [go_sem, h3]
      · rw [mix_full]) (by
      (simp only [go_sem, ← mix_zero]) <;> trivial)
  have g1 := slots_len (c := cJoint) (s := 4) (fun _ => rfl) xs
  have g2 : ∀ σ : Store, stripL (strip σ 6) (xs.flatMap cJoint) = some (xs.flatMap cJoint, []) := fun σ => stripL_slots (fun x => by simp only [go_sem]) xs
  have g3 : (xs.flatMap cJoint).take (xs.length * 4) = xs.flatMap cJoint := List.take_of_length_le (by omega)
  simp only [go_sem, hT', hs, g1, g2, g3, Nat.le_refl]
theorem toMemberS (xs : List Member) (h : okL 24 okMember xs) : fn Try.prog conv ext 159 [LL cMember xs] = some (LL cMember xs) := by
  have e1 : (24 : Int) * xs.length ≤ 281474976710656 := by have := h.2.1; omega
  have e2 : (xs.length : Int) ≤ 9223372036854775807 := by have := h.2.1; omega
  have e3 : (0 : Int) ≤ (xs.length : Int) := by omega
  rw [fn_eq, ev_eqQ (rs := [.tmp 2]) [] rfl Try.func159 rfl rfl (by kernel_rfl) (by kernel_rfl)]
  simp only [go_sem, e1, e2, e3, Int.le_refl]
  generalize hL : evLoopI _ _ = y
  obtain ⟨r, rfl, T', σ', rfl, hT', hs⟩ := count_rule hL xs.length (fun k st => st.nx = 1 ∧ st.σ = upd noStore 0 (some ⟨mix cMember zMember xs xs.length k, 3, true⟩) ∧ st.T 0 = LL cMember xs ∧ st.T 3 = .rs 0 0 xs.length ∧ st.T 4 = I k)
    (fun r => ∃ T σ, r = (.exit 0, ⟨T, σ, 1⟩) ∧ T 3 = .rs 0 0 xs.length ∧ σ = upd noStore 0 (some ⟨xs.flatMap cMember, 3, true⟩)) (by
      clear hL
      rintro k ⟨T, σ, nx⟩ hlt ⟨hn, hσ, h0, h3, h4⟩
      simp only at hn hσ h0 h3 h4
      subst hn hσ
      have f1 : (k : Int) < (xs.length : Int) := by omega
      have f2 : (0 : Int) ≤ (k : Int) := by omega
      have f3 := wrap_id (n := (k : Int) + 1) (by omega) (by omega)
      have f4 := slot (c := cMember) (s := 3) (fun _ => rfl) xs k hlt
      have f5 := slots_len (c := cMember) (s := 3) (fun _ => rfl) xs
      have f6 : k * 3 + 3 ≤ xs.length * 3 := by omega
      have f7 := mix_len (c := cMember) (s := 3) (fun _ => rfl) (z := zMember) rfl xs k (by omega)
      have f8 := mix_patch (c := cMember) (s := 3) (fun _ => rfl) (z := zMember) rfl xs k hlt
      have f9 := slot_ne (c := cMember) (s := 3) (fun _ => rfl) (by omega) xs k hlt
      have f10 : fn Try.prog conv ext 177 [.agg (cMember xs[k])] = some (.agg (cMember xs[k])) := by
        have hx := h.1 xs[k] (List.getElem_mem hlt)
        revert hx
        generalize xs[k] = x
        intro hx
        exact toMember x
      refine .inl ⟨_, by simp only [go_sem, h0, h3, h4, f1, f2, f3, f4, f5, f6, f7, f8, f9, f10]; rfl, ?_⟩
      simp only [go_sem, h0, h3]
      rfl) (by
      clear hL
      rintro ⟨T, σ, nx⟩ ⟨hn, hσ, h0, h3, h4⟩
      simp only at hn hσ h0 h3 h4
      subst hn hσ
      refine ⟨_, by simp only [go_sem, h0, h4, Int.lt_irrefl]; rfl, by simp, _, _, rfl, ?_, ?_⟩
      · simp only [go_sem, h3]
      · rw [mix_full]) (by
      (simp only [go_sem, ← mix_zero]) <;> trivial)
  have g1 := slots_len (c := cMember) (s := 3) (fun _ => rfl) xs
  have g2 : ∀ σ : Store, stripL (strip σ 6) (xs.flatMap cMember) = some (xs.flatMap cMember, []) := fun σ => stripL_slots (fun x => by simp only [go_sem]) xs
  have g3 : (xs.flatMap cMember).take (xs.length * 3) = xs.flatMap cMember := List.take_of_length_le (by omega)
  simp only [go_sem, hT', hs, g1, g2, g3, Nat.le_refl]
theorem toIntS (xs : List Int) (h : okL 8 okI xs) : fn Try.prog conv ext 133 [LI xs] = some (LI xs) := by
  have e1 : (8 : Int) * xs.length ≤ 281474976710656 := by have := h.2.1; omega
  have e2 : (xs.length : Int) ≤ 9223372036854775807 := by have := h.2.1; omega
  have e3 : (0 : Int) ≤ (xs.length : Int) := by omega
  rw [fn_eq, ev_eqQ (rs := [.tmp 2]) [] rfl Try.func133 rfl rfl (by kernel_rfl) (by kernel_rfl)]
  simp only [go_sem, e1, e2, e3, Int.le_refl]
  generalize hL : evLoopI _ _ = y
  obtain ⟨r, rfl, T', σ', rfl, hT', hs⟩ := count_rule hL xs.length (fun k st => st.nx = 1 ∧ st.σ = upd noStore 0 (some ⟨mix cI [I 0] xs xs.length k, 1, true⟩) ∧ st.T 0 = LI xs ∧ st.T 3 = .rs 0 0 xs.length ∧ st.T 4 = I k)
    (fun r => ∃ T σ, r = (.exit 0, ⟨T, σ, 1⟩) ∧ T 3 = .rs 0 0 xs.length ∧ σ = upd noStore 0 (some ⟨xs.flatMap cI, 1, true⟩)) (by
      clear hL
      rintro k ⟨T, σ, nx⟩ hlt ⟨hn, hσ, h0, h3, h4⟩
      simp only at hn hσ h0 h3 h4
      subst hn hσ
      have f1 : (k : Int) < (xs.length : Int) := by omega
      have f2 : (0 : Int) ≤ (k : Int) := by omega
      have f3 := wrap_id (n := (k : Int) + 1) (by omega) (by omega)
      have f4 : (xs.flatMap cI)[k]? = some (I xs[k]) := slot1 I xs k hlt
      have f7 := mix_len (c := cI) (s := 1) (fun _ => rfl) (z := [I 0]) rfl xs k (by omega)
      have f8 : (mix cI [I 0] xs xs.length k).set k (I xs[k]) = mix cI [I 0] xs xs.length (k + 1) := mix_set (c := I) xs k hlt
      have f9 := slot_ne (c := cI) (s := 1) (fun _ => rfl) (by omega) xs k hlt
      refine .inl ⟨_, by simp only [go_sem, h0, h3, h4, f1, f2, f3, f4, f7, f8, f9, hlt]; rfl, ?_⟩
      simp only [go_sem, h0, h3]
      rfl) (by
      clear hL
      rintro ⟨T, σ, nx⟩ ⟨hn, hσ, h0, h3, h4⟩
      simp only at hn hσ h0 h3 h4
      subst hn hσ
      refine ⟨_, by simp only [go_sem, h0, h4, Int.lt_irrefl]; rfl, by simp, _, _, rfl, ?_, ?_⟩
      · simp only [go_sem, h3]
      · rw [mix_full]) (by
      (simp only [go_sem, ← mix_zero]) <;> trivial)
  have g1 := slots_len (c := cI) (s := 1) (fun _ => rfl) xs
  have g2 : ∀ σ : Store, stripL (strip σ 6) (xs.flatMap cI) = some (xs.flatMap cI, []) := fun σ => stripL_slots (fun x => by simp only [go_sem]) xs
  have g3 : (xs.flatMap cI).take xs.length = xs.flatMap cI := List.take_of_length_le (by omega)
  simp only [go_sem, hT', hs, g1, g2, g3, Nat.le_refl]
theorem toStructure (s : Structure) (h : okStructure s) : fn Try.prog conv ext 132 [.agg (cStructure s)] = some (.agg (cStructure s)) := by
  have h1 := toJointS _ h.1
  have h2 := toMemberS _ h.2
  rw [fn_eq, ev_eqQ (rs := [.cell 2 118]) [] rfl Try.func132 rfl rfl (by kernel_rfl) (by kernel_rfl)]
  simp only [go_sem, h1, h2]
theorem toStance (s : Stance) (h : okStance s) : fn Try.prog conv ext 97 [.agg (cStance s)] = some (.agg (cStance s)) := by
  have h1 := toStructure _ h.2.1
  have h2 := toIntS _ h.2.2.1
  have h3 := toIntS _ h.2.2.2
  rw [fn_eq, ev_eqQ (rs := [.cell 2 120]) [] rfl Try.func97 rfl rfl (by kernel_rfl) (by kernel_rfl)]
  simp only [go_sem, h1, h2, h3]
theorem toStanceS (xs : List Stance) (h : okL 112 okStance xs) : fn Try.prog conv ext 67 [LL cStance xs] = some (LL cStance xs) := by
  have e1 : (112 : Int) * xs.length ≤ 281474976710656 := by have := h.2.1; omega
  have e2 : (xs.length : Int) ≤ 9223372036854775807 := by have := h.2.1; omega
  have e3 : (0 : Int) ≤ (xs.length : Int) := by omega
  rw [fn_eq, ev_eqQ (rs := [.tmp 2]) [] rfl Try.func67 rfl rfl (by kernel_rfl) (by kernel_rfl)]
  simp only [go_sem, e1, e2, e3, Int.le_refl]
  generalize hL : evLoopI _ _ = y
  obtain ⟨r, rfl, T', σ', rfl, hT', hs⟩ := count_rule hL xs.length (fun k st => st.nx = 1 ∧ st.σ = upd noStore 0 (some ⟨mix cStance zStance xs xs.length k, 5, true⟩) ∧ st.T 0 = LL cStance xs ∧ st.T 3 = .rs 0 0 xs.length ∧ st.T 4 = I k)
    (fun r => ∃ T σ, r = (.exit 0, ⟨T, σ, 1⟩) ∧ T 3 = .rs 0 0 xs.length ∧ σ = upd noStore 0 (some ⟨xs.flatMap cStance, 5, true⟩)) (by
      clear hL
      rintro k ⟨T, σ, nx⟩ hlt ⟨hn, hσ, h0, h3, h4⟩
      simp only at hn hσ h0 h3 h4
      subst hn hσ
      have f1 : (k : Int) < (xs.length : Int) := by omega
      have f2 : (0 : Int) ≤ (k : Int) := by omega
      have f3 := wrap_id (n := (k : Int) + 1) (by omega) (by omega)
      have f4 := slot (c := cStance) (s := 5) (fun _ => rfl) xs k hlt
      have f5 := slots_len (c := cStance) (s := 5) (fun _ => rfl) xs
      have f6 : k * 5 + 5 ≤ xs.length * 5 := by omega
      have f7 := mix_len (c := cStance) (s := 5) (fun _ => rfl) (z := zStance) rfl xs k (by omega)
      have f8 := mix_patch (c := cStance) (s := 5) (fun _ => rfl) (z := zStance) rfl xs k hlt
      have f9 := slot_ne (c := cStance) (s := 5) (fun _ => rfl) (by omega) xs k hlt
      have f10 : fn Try.prog conv ext 97 [.agg (cStance xs[k])] = some (.agg (cStance xs[k])) := by
        have hx := h.1 xs[k] (List.getElem_mem hlt)
        revert hx
        generalize xs[k] = x
        intro hx
        exact toStance x hx
      refine .inl ⟨_, by simp only [go_sem, h0, h3, h4, f1, f2, f3, f4, f5, f6, f7, f8, f9, f10]; rfl, ?_⟩
      simp only [go_sem, h0, h3]
      rfl) (by
      clear hL
      rintro ⟨T, σ, nx⟩ ⟨hn, hσ, h0, h3, h4⟩
      simp only at hn hσ h0 h3 h4
      subst hn hσ
      refine ⟨_, by simp only [go_sem, h0, h4, Int.lt_irrefl]; rfl, by simp, _, _, rfl, ?_, ?_⟩
      · simp only [go_sem, h3]
      · rw [mix_full]) (by
      (simp only [go_sem, ← mix_zero]) <;> trivial)
  have g1 := slots_len (c := cStance) (s := 5) (fun _ => rfl) xs
  have g2 : ∀ σ : Store, stripL (strip σ 6) (xs.flatMap cStance) = some (xs.flatMap cStance, []) := fun σ => stripL_slots (fun x => by simp only [go_sem]) xs
  have g3 : (xs.flatMap cStance).take (xs.length * 5) = xs.flatMap cStance := List.take_of_length_le (by omega)
  simp only [go_sem, hT', hs, g1, g2, g3, Nat.le_refl]
theorem toYard (s : Yard) (h : okYard s) : fn Try.prog conv ext 29 [.agg (cYard s)] = some (.agg (cYard s)) := by
  have h1 := toStanceS _ h.1
  have h2 := toMoveS _ h.2.1
  rw [fn_eq, ev_eqQ (rs := [.cell 2 59]) [] rfl Try.func29 rfl rfl (by kernel_rfl) (by kernel_rfl)]
  simp only [go_sem, h1, h2]

/-! ### Equal to itself -/
theorem eqJoint (x : Joint) : fn Try.prog conv ext 185 [.agg (cJoint x), .agg (cJoint x)] = some (Bo true) := by
  rw [fn_eq, ev_eqQ (rs := [.tmp 4]) [] rfl Try.func185 rfl rfl (by kernel_rfl) (by kernel_rfl)]
  simp only [go_sem]
theorem eqMember (x : Member) : fn Try.prog conv ext 186 [.agg (cMember x), .agg (cMember x)] = some (Bo true) := by
  rw [fn_eq, ev_eqQ (rs := [.tmp 4]) [] rfl Try.func186 rfl rfl (by kernel_rfl) (by kernel_rfl)]
  simp only [go_sem]
theorem eqMove (x : TV.Move) : fn Try.prog conv ext 104 [.agg (cMove x), .agg (cMove x)] = some (Bo true) := by
  rw [fn_eq, ev_eqQ (rs := [.tmp 4]) [] rfl Try.func104 rfl rfl (by kernel_rfl) (by kernel_rfl)]
  simp only [go_sem]
theorem eqMoveS (xs : List TV.Move) (h : xs.length ≤ maxLen) : fn Try.prog conv ext 72 [LL cMove xs, LL cMove xs] = some (Bo true) := by
  have e2 : (xs.length : Int) ≤ 9223372036854775807 := by unfold maxLen at h; omega
  rw [fn_eq, ev_eqQ (rs := [.tmp 4]) [] rfl Try.func72 rfl rfl (by kernel_rfl) (by kernel_rfl)]
  simp only [go_sem]
  generalize hL : evLoopI _ _ = y
  obtain ⟨r, rfl, T', rfl⟩ := count_rule hL xs.length (fun k st => st.nx = 0 ∧ st.σ = noStore ∧ st.T 0 = LL cMove xs ∧ st.T 1 = LL cMove xs ∧ st.T 5 = I k)
    (fun r => ∃ T, r = (.exit 0, ⟨T, noStore, 0⟩)) (by
      clear hL
      rintro k ⟨T, σ, nx⟩ hlt ⟨hn, hσ, h0, h3, h4⟩
      simp only at hn hσ h0 h3 h4
      subst hn hσ
      have f1 : (k : Int) < (xs.length : Int) := by omega
      have f2 : (0 : Int) ≤ (k : Int) := by omega
      have f3 := wrap_id (n := (k : Int) + 1) (by omega) (by omega)
      have f4 := slot (c := cMove) (s := 2) (fun _ => rfl) xs k hlt
      have f5 := slots_len (c := cMove) (s := 2) (fun _ => rfl) xs
      have f6 : k * 2 + 2 ≤ xs.length * 2 := by omega
      have f9 := slot_ne (c := cMove) (s := 2) (fun _ => rfl) (by omega) xs k hlt
      refine .inl ⟨_, by simp only [go_sem, h0, h3, h4, f1, f2, f3, f4, f5, f6, f9, eqMove]; rfl, ?_⟩
      simp only [go_sem, h0, h3]
      rfl) (by
      clear hL
      rintro ⟨T, σ, nx⟩ ⟨hn, hσ, h0, h3, h4⟩
      simp only at hn hσ h0 h3 h4
      subst hn hσ
      exact ⟨_, by simp only [go_sem, h0, h4, Int.lt_irrefl]; rfl, by simp, _, rfl⟩) (by
      (simp only [go_sem]) <;> trivial)
  simp only [go_sem]
theorem eqJointS (xs : List Joint) (h : xs.length ≤ maxLen) : fn Try.prog conv ext 165 [LL cJoint xs, LL cJoint xs] = some (Bo true) := by
  have e2 : (xs.length : Int) ≤ 9223372036854775807 := by unfold maxLen at h; omega
  rw [fn_eq, ev_eqQ (rs := [.tmp 4]) [] rfl Try.func165 rfl rfl (by kernel_rfl) (by kernel_rfl)]
  simp only [go_sem]
  generalize hL : evLoopI _ _ = y
  obtain ⟨r, rfl, T', rfl⟩ := count_rule hL xs.length (fun k st => st.nx = 0 ∧ st.σ = noStore ∧ st.T 0 = LL cJoint xs ∧ st.T 1 = LL cJoint xs ∧ st.T 5 = I k)
    (fun r => ∃ T, r = (.exit 0, ⟨T, noStore, 0⟩)) (by
      clear hL
      rintro k ⟨T, σ, nx⟩ hlt ⟨hn, hσ, h0, h3, h4⟩
      simp only at hn hσ h0 h3 h4
      subst hn hσ
      have f1 : (k : Int) < (xs.length : Int) := by omega
      have f2 : (0 : Int) ≤ (k : Int) := by omega
      have f3 := wrap_id (n := (k : Int) + 1) (by omega) (by omega)
      have f4 := slot (c := cJoint) (s := 4) (fun _ => rfl) xs k hlt
      have f5 := slots_len (c := cJoint) (s := 4) (fun _ => rfl) xs
      have f6 : k * 4 + 4 ≤ xs.length * 4 := by omega
      have f9 := slot_ne (c := cJoint) (s := 4) (fun _ => rfl) (by omega) xs k hlt
      refine .inl ⟨_, by simp only [go_sem, h0, h3, h4, f1, f2, f3, f4, f5, f6, f9, eqJoint]; rfl, ?_⟩
      simp only [go_sem, h0, h3]
      rfl) (by
      clear hL
      rintro ⟨T, σ, nx⟩ ⟨hn, hσ, h0, h3, h4⟩
      simp only at hn hσ h0 h3 h4
      subst hn hσ
      exact ⟨_, by simp only [go_sem, h0, h4, Int.lt_irrefl]; rfl, by simp, _, rfl⟩) (by
      (simp only [go_sem]) <;> trivial)
  simp only [go_sem]
theorem eqMemberS (xs : List Member) (h : xs.length ≤ maxLen) : fn Try.prog conv ext 166 [LL cMember xs, LL cMember xs] = some (Bo true) := by
  have e2 : (xs.length : Int) ≤ 9223372036854775807 := by unfold maxLen at h; omega
  rw [fn_eq, ev_eqQ (rs := [.tmp 4]) [] rfl Try.func166 rfl rfl (by kernel_rfl) (by kernel_rfl)]
  simp only [go_sem]
  generalize hL : evLoopI _ _ = y
  obtain ⟨r, rfl, T', rfl⟩ := count_rule hL xs.length (fun k st => st.nx = 0 ∧ st.σ = noStore ∧ st.T 0 = LL cMember xs ∧ st.T 1 = LL cMember xs ∧ st.T 5 = I k)
    (fun r => ∃ T, r = (.exit 0, ⟨T, noStore, 0⟩)) (by
      clear hL
      rintro k ⟨T, σ, nx⟩ hlt ⟨hn, hσ, h0, h3, h4⟩
      simp only at hn hσ h0 h3 h4
      subst hn hσ
      have f1 : (k : Int) < (xs.length : Int) := by omega
      have f2 : (0 : Int) ≤ (k : Int) := by omega
      have f3 := wrap_id (n := (k : Int) + 1) (by omega) (by omega)
      have f4 := slot (c := cMember) (s := 3) (fun _ => rfl) xs k hlt
      have f5 := slots_len (c := cMember) (s := 3) (fun _ => rfl) xs
      have f6 : k * 3 + 3 ≤ xs.length * 3 := by omega
      have f9 := slot_ne (c := cMember) (s := 3) (fun _ => rfl) (by omega) xs k hlt
      refine .inl ⟨_, by simp only [go_sem, h0, h3, h4, f1, f2, f3, f4, f5, f6, f9, eqMember]; rfl, ?_⟩
      simp only [go_sem, h0, h3]
      rfl) (by
      clear hL
      rintro ⟨T, σ, nx⟩ ⟨hn, hσ, h0, h3, h4⟩
      simp only at hn hσ h0 h3 h4
      subst hn hσ
      exact ⟨_, by simp only [go_sem, h0, h4, Int.lt_irrefl]; rfl, by simp, _, rfl⟩) (by
      (simp only [go_sem]) <;> trivial)
  simp only [go_sem]
theorem eqIntS (xs : List Int) (h : xs.length ≤ maxLen) : fn Try.prog conv ext 31 [LI xs, LI xs] = some (Bo true) := by
  have e2 : (xs.length : Int) ≤ 9223372036854775807 := by unfold maxLen at h; omega
  rw [fn_eq, ev_eqQ (rs := [.tmp 4]) [] rfl Try.func31 rfl rfl (by kernel_rfl) (by kernel_rfl)]
  simp only [go_sem]
  generalize hL : evLoopI _ _ = y
  obtain ⟨r, rfl, T', rfl⟩ := count_rule hL xs.length (fun k st => st.nx = 0 ∧ st.σ = noStore ∧ st.T 0 = LI xs ∧ st.T 1 = LI xs ∧ st.T 5 = I k)
    (fun r => ∃ T, r = (.exit 0, ⟨T, noStore, 0⟩)) (by
      clear hL
      rintro k ⟨T, σ, nx⟩ hlt ⟨hn, hσ, h0, h3, h4⟩
      simp only at hn hσ h0 h3 h4
      subst hn hσ
      have f1 : (k : Int) < (xs.length : Int) := by omega
      have f2 : (0 : Int) ≤ (k : Int) := by omega
      have f3 := wrap_id (n := (k : Int) + 1) (by omega) (by omega)
      have f4 : (xs.flatMap cI)[k]? = some (I xs[k]) := slot1 I xs k hlt
      have f9 := slot_ne (c := cI) (s := 1) (fun _ => rfl) (by omega) xs k hlt
      refine .inl ⟨_, by simp only [go_sem, h0, h3, h4, f1, f2, f3, f4, f9]; rfl, ?_⟩
      simp only [go_sem, h0, h3]
      rfl) (by
      clear hL
      rintro ⟨T, σ, nx⟩ ⟨hn, hσ, h0, h3, h4⟩
      simp only at hn hσ h0 h3 h4
      subst hn hσ
      exact ⟨_, by simp only [go_sem, h0, h4, Int.lt_irrefl]; rfl, by simp, _, rfl⟩) (by
      (simp only [go_sem]) <;> trivial)
  simp only [go_sem]
theorem eqStructure (x : Structure) (h : okStructure x) : fn Try.prog conv ext 139 [.agg (cStructure x), .agg (cStructure x)] = some (Bo true) := by
  have h1 := eqJointS _ h.1.2.2
  have h2 := eqMemberS _ h.2.2.2
  rw [fn_eq, ev_eqQ (rs := [.tmp 4]) [] rfl Try.func139 rfl rfl (by kernel_rfl) (by kernel_rfl)]
  simp only [go_sem, h1, h2]
theorem eqStance (x : Stance) (h : okStance x) : fn Try.prog conv ext 103 [.agg (cStance x), .agg (cStance x)] = some (Bo true) := by
  have h1 := eqStructure _ h.2.1
  have h2 := eqIntS _ h.2.2.1.2.2
  have h3 := eqIntS _ h.2.2.2.2.2
  rw [fn_eq, ev_eqQ (rs := [.tmp 4]) [] rfl Try.func103 rfl rfl (by kernel_rfl) (by kernel_rfl)]
  simp only [go_sem, h1, h2, h3]
theorem eqStanceS (xs : List Stance) (h' : okL 112 okStance xs) : fn Try.prog conv ext 71 [LL cStance xs, LL cStance xs] = some (Bo true) := by
  have e2 : (xs.length : Int) ≤ 9223372036854775807 := by have h := h'.2.2; unfold maxLen at h; omega
  rw [fn_eq, ev_eqQ (rs := [.tmp 4]) [] rfl Try.func71 rfl rfl (by kernel_rfl) (by kernel_rfl)]
  simp only [go_sem]
  generalize hL : evLoopI _ _ = y
  obtain ⟨r, rfl, T', rfl⟩ := count_rule hL xs.length (fun k st => st.nx = 0 ∧ st.σ = noStore ∧ st.T 0 = LL cStance xs ∧ st.T 1 = LL cStance xs ∧ st.T 5 = I k)
    (fun r => ∃ T, r = (.exit 0, ⟨T, noStore, 0⟩)) (by
      clear hL
      rintro k ⟨T, σ, nx⟩ hlt ⟨hn, hσ, h0, h3, h4⟩
      simp only at hn hσ h0 h3 h4
      subst hn hσ
      have f1 : (k : Int) < (xs.length : Int) := by omega
      have f2 : (0 : Int) ≤ (k : Int) := by omega
      have f3 := wrap_id (n := (k : Int) + 1) (by omega) (by omega)
      have f4 := slot (c := cStance) (s := 5) (fun _ => rfl) xs k hlt
      have f5 := slots_len (c := cStance) (s := 5) (fun _ => rfl) xs
      have f6 : k * 5 + 5 ≤ xs.length * 5 := by omega
      have f9 := slot_ne (c := cStance) (s := 5) (fun _ => rfl) (by omega) xs k hlt
      have f10 := eqStance xs[k] (h'.1 _ (List.getElem_mem hlt))
      refine .inl ⟨_, by simp only [go_sem, h0, h3, h4, f1, f2, f3, f4, f5, f6, f9, f10]; rfl, ?_⟩
      simp only [go_sem, h0, h3]
      rfl) (by
      clear hL
      rintro ⟨T, σ, nx⟩ ⟨hn, hσ, h0, h3, h4⟩
      simp only at hn hσ h0 h3 h4
      subst hn hσ
      exact ⟨_, by simp only [go_sem, h0, h4, Int.lt_irrefl]; rfl, by simp, _, rfl⟩) (by
      (simp only [go_sem]) <;> trivial)
  simp only [go_sem]
theorem eqYard (x : Yard) (h : okYard x) : fn Try.prog conv ext 32 [.agg (cYard x), .agg (cYard x)] = some (Bo true) := by
  have h1 := eqStanceS _ h.1
  have h2 := eqMoveS _ h.2.1.2.2
  rw [fn_eq, ev_eqQ (rs := [.tmp 4]) [] rfl Try.func32 rfl rfl (by kernel_rfl) (by kernel_rfl)]
  simp only [go_sem, h1, h2]

/-! ### Sizes -/
/-- What is left of `left` once `n` is gone. -/
def Szd (r left n : Int) : Prop := r = -1 ∨ (0 ≤ r ∧ r + n ≤ left)
theorem szIntS (xs : List Int) (left : Int) (h : okL 8 okI xs) (h0 : 0 ≤ left) (h1 : left ≤ 1048576) : ∃ r, fn Try.prog conv ext 128 [LI xs, I left] = some (I r) ∧ Szd r left xs.length := by
  have e1 : ((xs.length : Nat) : Int) ≤ 140737488351232 := by have := h.2.1; omega
  have e2 := wrap_id (n := left - (xs.length : Int)) (by omega) (by omega)
  by_cases hl : left - (xs.length : Int) < 0
  · refine ⟨-1, ?_, .inl rfl⟩
    rw [fn_eq, ev_eqQ (rs := [.tmp 4]) [] rfl Try.func128 rfl rfl (by kernel_rfl) (by kernel_rfl)]
    simp only [go_sem, e2, hl]
  · refine ⟨left - xs.length, ?_, .inr ⟨by omega, by omega⟩⟩
    rw [fn_eq, ev_eqQ (rs := [.tmp 4]) [] rfl Try.func128 rfl rfl (by kernel_rfl) (by kernel_rfl)]
    simp only [go_sem, e2, hl]
theorem szMemberS (xs : List Member) (left : Int) (h : okL 24 okMember xs) (h0 : 0 ≤ left) (h1 : left ≤ 1048576) : ∃ r, fn Try.prog conv ext 156 [LL cMember xs, I left] = some (I r) ∧ Szd r left xs.length := by
  have e1 : ((xs.length : Nat) : Int) ≤ 140737488351232 := by have := h.2.1; omega
  have e2 := wrap_id (n := left - (xs.length : Int)) (by omega) (by omega)
  by_cases hl : left - (xs.length : Int) < 0
  · refine ⟨-1, ?_, .inl rfl⟩
    rw [fn_eq, ev_eqQ (rs := [.tmp 4]) [] rfl Try.func156 rfl rfl (by kernel_rfl) (by kernel_rfl)]
    simp only [go_sem, e2, hl]
  · refine ⟨left - xs.length, ?_, .inr ⟨by omega, by omega⟩⟩
    rw [fn_eq, ev_eqQ (rs := [.tmp 4]) [] rfl Try.func156 rfl rfl (by kernel_rfl) (by kernel_rfl)]
    simp only [go_sem, e2, hl]
theorem szMoveS (xs : List TV.Move) (left : Int) (h : okL 16 okMove xs) (h0 : 0 ≤ left) (h1 : left ≤ 1048576) : ∃ r, fn Try.prog conv ext 64 [LL cMove xs, I left] = some (I r) ∧ Szd r left xs.length := by
  have e1 : ((xs.length : Nat) : Int) ≤ 140737488351232 := by have := h.2.1; omega
  have e2 := wrap_id (n := left - (xs.length : Int)) (by omega) (by omega)
  by_cases hl : left - (xs.length : Int) < 0
  · refine ⟨-1, ?_, .inl rfl⟩
    rw [fn_eq, ev_eqQ (rs := [.tmp 4]) [] rfl Try.func64 rfl rfl (by kernel_rfl) (by kernel_rfl)]
    simp only [go_sem, e2, hl]
  · refine ⟨left - xs.length, ?_, .inr ⟨by omega, by omega⟩⟩
    rw [fn_eq, ev_eqQ (rs := [.tmp 4]) [] rfl Try.func64 rfl rfl (by kernel_rfl) (by kernel_rfl)]
    simp only [go_sem, e2, hl]
theorem szJoint (x : Joint) (left : Int) (h : okJoint x) (h0 : 0 ≤ left) (h1 : left ≤ 1048576) : ∃ r, fn Try.prog conv ext 173 [.agg (cJoint x), I left] = some (I r) ∧ Szd r left x.name.size := by
  have e1 : ((x.name.size : Nat) : Int) ≤ 140737488351232 := by have := h.1; unfold okS at this; omega
  have e2 := wrap_id (n := left - (x.name.size : Int)) (by omega) (by omega)
  by_cases hl : left - (x.name.size : Int) < 0
  · refine ⟨-1, ?_, .inl rfl⟩
    rw [fn_eq, ev_eqQ (rs := [.tmp 4]) [] rfl Try.func173 rfl rfl (by kernel_rfl) (by kernel_rfl)]
    simp only [go_sem, e2, hl]
  · refine ⟨left - x.name.size, ?_, .inr ⟨by omega, by omega⟩⟩
    rw [fn_eq, ev_eqQ (rs := [.tmp 4]) [] rfl Try.func173 rfl rfl (by kernel_rfl) (by kernel_rfl)]
    simp only [go_sem, e2, hl]
theorem szJointS (xs : List Joint) (left : Int) (h : okL 40 okJoint xs) (g0 : 0 ≤ left) (g1 : left ≤ 1048576) : ∃ r, fn Try.prog conv ext 155 [LL cJoint xs, I left] = some (I r) ∧ Szd r left xs.length := by
  have e1 : ((xs.length : Nat) : Int) ≤ 140737488351232 := by have := h.2.1; omega
  have e2 := wrap_id (n := left - (xs.length : Int)) (by omega) (by omega)
  by_cases hl : left - (xs.length : Int) < 0
  · refine ⟨-1, ?_, .inl rfl⟩
    rw [fn_eq, ev_eqQ (rs := [.tmp 4]) [] rfl Try.func155 rfl rfl (by kernel_rfl) (by kernel_rfl)]
    simp only [go_sem, e2, hl]
  · suffices hz : ∃ r, fn Try.prog conv ext 155 [LL cJoint xs, I left] = some (I r) ∧ Szd r (left - xs.length) 0 by
      obtain ⟨r, h1, h2⟩ := hz
      exact ⟨r, h1, h2.imp id fun h => ⟨h.1, by have := h.2; omega⟩⟩
    rw [fn_eq, ev_eqQ (rs := [.tmp 4]) [] rfl Try.func155 rfl rfl (by kernel_rfl) (by kernel_rfl)]
    simp only [go_sem, e2, hl]
    generalize hL : evLoopI _ _ = y
    obtain ⟨r, rfl, hr⟩ := count_rule hL xs.length (fun k st => st.nx = 0 ∧ st.σ = noStore ∧ st.T 0 = LL cJoint xs ∧ st.T 5 = I k ∧ ∃ l, st.T 1 = I l ∧ 0 ≤ l ∧ l ≤ left - xs.length)
      (fun r => (∃ T l, r = (.exit 0, ⟨T, noStore, 0⟩) ∧ T 1 = I l ∧ 0 ≤ l ∧ l ≤ left - xs.length) ∨ (∃ T, r = (.ret, ⟨T, noStore, 0⟩) ∧ T 4 = I (-1))) (by
        clear hL
        rintro k ⟨T, σ, nx⟩ hlt ⟨hn, hσ, h0, h4, l, h1, hl0, hl1⟩
        simp only at hn hσ h0 h1 h4
        subst hn hσ
        have f1 : (k : Int) < (xs.length : Int) := by omega
        have f2 : (0 : Int) ≤ (k : Int) := by omega
        have f3 := wrap_id (n := (k : Int) + 1) (by omega) (by omega)
        have f4 := slot (c := cJoint) (s := 4) (fun _ => rfl) xs k hlt
        have f5 := slots_len (c := cJoint) (s := 4) (fun _ => rfl) xs
        have f6 : k * 4 + 4 ≤ xs.length * 4 := by omega
        have f9 := slot_ne (c := cJoint) (s := 4) (fun _ => rfl) (by omega) xs k hlt
        obtain ⟨q, f10, f11⟩ := szJoint xs[k] l (h.1 _ (List.getElem_mem hlt)) hl0 (by omega)
        by_cases hq : q < 0
        · refine .inr ⟨_, by simp only [go_sem, h0, h1, h4, f1, f2, f3, f4, f5, f6, f9, f10, hq]; rfl, by simp, .inr ⟨_, rfl, ?_⟩⟩
          simp only [go_sem]
        · have f12 : q ≤ l := by rcases f11 with h | ⟨_, h⟩ <;> omega
          refine .inl ⟨_, by simp only [go_sem, h0, h1, h4, f1, f2, f3, f4, f5, f6, f9, f10, hq]; rfl, ?_⟩
          simp only [go_sem, h0]
          exact ⟨rfl, q, rfl, by omega, by omega⟩) (by
        clear hL
        rintro ⟨T, σ, nx⟩ ⟨hn, hσ, h0, h4, l, h1, hl0, hl1⟩
        simp only at hn hσ h0 h1 h4
        subst hn hσ
        refine ⟨_, by simp only [go_sem, h0, h4, Int.lt_irrefl]; rfl, by simp, .inl ⟨_, l, rfl, ?_, hl0, hl1⟩⟩
        simp only [go_sem, h1]) (by
        simp only [go_sem]
        exact ⟨_, rfl, by omega, by omega⟩)
    rcases hr with ⟨T, l, rfl, h1, h2, h3⟩ | ⟨T, rfl, h1⟩
    · refine ⟨l, ?_, .inr ⟨h2, by omega⟩⟩
      simp only [go_sem, h1]
    · refine ⟨-1, ?_, .inl rfl⟩
      simp only [go_sem, h1]
theorem szStructure (x : Structure) (left : Int) (h : okStructure x) (h0 : 0 ≤ left) (h1 : left ≤ 1048576) : ∃ r, fn Try.prog conv ext 127 [.agg (cStructure x), I left] = some (I r) ∧ Szd r left (x.joints.length + x.members.length) := by
  obtain ⟨a, a1, a2⟩ := szJointS x.joints left h.1 h0 h1
  by_cases ha : a < 0
  · refine ⟨-1, ?_, .inl rfl⟩
    rw [fn_eq, ev_eqQ (rs := [.tmp 4]) [] rfl Try.func127 rfl rfl (by kernel_rfl) (by kernel_rfl)]
    simp only [go_sem, a1, ha]
  · rcases a2 with a2 | ⟨_, a2⟩
    · omega
    obtain ⟨b, b1, b2⟩ := szMemberS x.members a h.2 (by omega) (by omega)
    by_cases hb : b < 0
    · refine ⟨-1, ?_, .inl rfl⟩
      rw [fn_eq, ev_eqQ (rs := [.tmp 4]) [] rfl Try.func127 rfl rfl (by kernel_rfl) (by kernel_rfl)]
      simp only [go_sem, a1, ha, b1, hb]
    · rcases b2 with b2 | ⟨_, b2⟩
      · omega
      refine ⟨b, ?_, .inr ⟨by omega, by omega⟩⟩
      rw [fn_eq, ev_eqQ (rs := [.tmp 4]) [] rfl Try.func127 rfl rfl (by kernel_rfl) (by kernel_rfl)]
      simp only [go_sem, a1, ha, b1, hb]
theorem szStance (x : Stance) (left : Int) (h : okStance x) (h0 : 0 ≤ left) (h1 : left ≤ 1048576) : ∃ r, fn Try.prog conv ext 94 [.agg (cStance x), I left] = some (I r) ∧ Szd r left (x.name.size + x.st.joints.length + x.st.members.length + x.load.length + x.limits.length) := by
  have e1 : ((x.name.size : Nat) : Int) ≤ 140737488351232 := by have := h.1; unfold okS at this; omega
  have e2 := wrap_id (n := left - (x.name.size : Int)) (by omega) (by omega)
  by_cases hl : left - (x.name.size : Int) < 0
  · refine ⟨-1, ?_, .inl rfl⟩
    rw [fn_eq, ev_eqQ (rs := [.tmp 4]) [] rfl Try.func94 rfl rfl (by kernel_rfl) (by kernel_rfl)]
    simp only [go_sem, e2, hl]
  obtain ⟨a, a1, a2⟩ := szStructure x.st (left - x.name.size) h.2.1 (by omega) (by omega)
  by_cases ha : a < 0
  · refine ⟨-1, ?_, .inl rfl⟩
    rw [fn_eq, ev_eqQ (rs := [.tmp 4]) [] rfl Try.func94 rfl rfl (by kernel_rfl) (by kernel_rfl)]
    simp only [go_sem, e2, hl, a1, ha]
  rcases a2 with a2 | ⟨_, a2⟩
  · omega
  obtain ⟨b, b1, b2⟩ := szIntS x.load a h.2.2.1 (by omega) (by omega)
  by_cases hb : b < 0
  · refine ⟨-1, ?_, .inl rfl⟩
    rw [fn_eq, ev_eqQ (rs := [.tmp 4]) [] rfl Try.func94 rfl rfl (by kernel_rfl) (by kernel_rfl)]
    simp only [go_sem, e2, hl, a1, ha, b1, hb]
  rcases b2 with b2 | ⟨_, b2⟩
  · omega
  obtain ⟨d, d1, d2⟩ := szIntS x.limits b h.2.2.2 (by omega) (by omega)
  by_cases hd : d < 0
  · refine ⟨-1, ?_, .inl rfl⟩
    rw [fn_eq, ev_eqQ (rs := [.tmp 4]) [] rfl Try.func94 rfl rfl (by kernel_rfl) (by kernel_rfl)]
    simp only [go_sem, e2, hl, a1, ha, b1, hb, d1, hd]
  rcases d2 with d2 | ⟨_, d2⟩
  · omega
  refine ⟨d, ?_, .inr ⟨by omega, by omega⟩⟩
  rw [fn_eq, ev_eqQ (rs := [.tmp 4]) [] rfl Try.func94 rfl rfl (by kernel_rfl) (by kernel_rfl)]
  simp only [go_sem, e2, hl, a1, ha, b1, hb, d1, hd]
def stSmall (s : Stance) : Prop := s.st.joints.length ≤ 1048576 ∧ s.st.members.length ≤ 1048576 ∧ s.load.length ≤ 1048576 ∧ s.limits.length ≤ 1048576
theorem szStanceS (xs : List Stance) (left : Int) (h : okL 112 okStance xs) (g0 : 0 ≤ left) (g1 : left ≤ 1048576) : ∃ r, fn Try.prog conv ext 63 [LL cStance xs, I left] = some (I r) ∧ Szd r left xs.length ∧ (0 ≤ r → ∀ i (h : i < xs.length), stSmall xs[i]) := by
  have e1 : ((xs.length : Nat) : Int) ≤ 140737488351232 := by have := h.2.1; omega
  have e2 := wrap_id (n := left - (xs.length : Int)) (by omega) (by omega)
  by_cases hl : left - (xs.length : Int) < 0
  · refine ⟨-1, ?_, .inl rfl, fun h => absurd h (by decide)⟩
    rw [fn_eq, ev_eqQ (rs := [.tmp 4]) [] rfl Try.func63 rfl rfl (by kernel_rfl) (by kernel_rfl)]
    simp only [go_sem, e2, hl]
  · suffices hz : ∃ r, fn Try.prog conv ext 63 [LL cStance xs, I left] = some (I r) ∧ Szd r (left - xs.length) 0 ∧ (0 ≤ r → ∀ i (h : i < xs.length), stSmall xs[i]) by
      obtain ⟨r, h1, h2, h3⟩ := hz
      exact ⟨r, h1, h2.imp id fun h => ⟨h.1, by have := h.2; omega⟩, h3⟩
    rw [fn_eq, ev_eqQ (rs := [.tmp 4]) [] rfl Try.func63 rfl rfl (by kernel_rfl) (by kernel_rfl)]
    simp only [go_sem, e2, hl]
    generalize hL : evLoopI _ _ = y
    obtain ⟨r, rfl, hr⟩ := count_rule hL xs.length (fun k st => st.nx = 0 ∧ st.σ = noStore ∧ st.T 0 = LL cStance xs ∧ st.T 5 = I k ∧ ∃ l, st.T 1 = I l ∧ 0 ≤ l ∧ l ≤ left - xs.length ∧ ∀ i (h : i < xs.length), i < k → stSmall xs[i])
      (fun r => (∃ T l, r = (.exit 0, ⟨T, noStore, 0⟩) ∧ T 1 = I l ∧ 0 ≤ l ∧ l ≤ left - xs.length ∧ ∀ i (h : i < xs.length), stSmall xs[i]) ∨ (∃ T, r = (.ret, ⟨T, noStore, 0⟩) ∧ T 4 = I (-1))) (by
        clear hL
        rintro k ⟨T, σ, nx⟩ hlt ⟨hn, hσ, h0, h4, l, h1, hl0, hl1, hsm⟩
        simp only at hn hσ h0 h1 h4
        subst hn hσ
        have f1 : (k : Int) < (xs.length : Int) := by omega
        have f2 : (0 : Int) ≤ (k : Int) := by omega
        have f3 := wrap_id (n := (k : Int) + 1) (by omega) (by omega)
        have f4 := slot (c := cStance) (s := 5) (fun _ => rfl) xs k hlt
        have f5 := slots_len (c := cStance) (s := 5) (fun _ => rfl) xs
        have f6 : k * 5 + 5 ≤ xs.length * 5 := by omega
        have f9 := slot_ne (c := cStance) (s := 5) (fun _ => rfl) (by omega) xs k hlt
        obtain ⟨q, f10, f11⟩ := szStance xs[k] l (h.1 _ (List.getElem_mem hlt)) hl0 (by omega)
        by_cases hq : q < 0
        · refine .inr ⟨_, by simp only [go_sem, h0, h1, h4, f1, f2, f3, f4, f5, f6, f9, f10, hq]; rfl, by simp, .inr ⟨_, rfl, ?_⟩⟩
          simp only [go_sem]
        · have f12 : q ≤ l := by rcases f11 with h | ⟨_, h⟩ <;> omega
          refine .inl ⟨_, by simp only [go_sem, h0, h1, h4, f1, f2, f3, f4, f5, f6, f9, f10, hq]; rfl, ?_⟩
          simp only [go_sem, h0]
          refine ⟨rfl, q, rfl, by omega, by omega, fun i hi hik => ?_⟩
          by_cases hk : i < k
          · exact hsm i hi hk
          · have : i = k := by omega
            subst this
            rcases f11 with h | ⟨_, h⟩
            · omega
            · refine ⟨?_, ?_, ?_, ?_⟩ <;> omega) (by
        clear hL
        rintro ⟨T, σ, nx⟩ ⟨hn, hσ, h0, h4, l, h1, hl0, hl1, hsm⟩
        simp only at hn hσ h0 h1 h4
        subst hn hσ
        refine ⟨_, by simp only [go_sem, h0, h4, Int.lt_irrefl]; rfl, by simp, .inl ⟨_, l, rfl, ?_, hl0, hl1, fun i hi => hsm i hi hi⟩⟩
        simp only [go_sem, h1]) (by
        simp only [go_sem]
        exact ⟨_, rfl, by omega, by omega, fun i _ h => absurd h (Nat.not_lt_zero _)⟩)
    rcases hr with ⟨T, l, rfl, h1, h2, h3, h4⟩ | ⟨T, rfl, h1⟩
    · refine ⟨l, ?_, .inr ⟨h2, by omega⟩, fun _ => h4⟩
      simp only [go_sem, h1]
    · refine ⟨-1, ?_, .inl rfl, fun h => absurd h (by decide)⟩
      simp only [go_sem, h1]
theorem szYard (x : Yard) (left : Int) (h : okYard x) (h0 : 0 ≤ left) (h1 : left ≤ 1048576) : ∃ r, fn Try.prog conv ext 27 [.agg (cYard x), I left] = some (I r) ∧ Szd r left (x.stances.length + x.moves.length) ∧ (0 ≤ r → ∀ i (h : i < x.stances.length), stSmall x.stances[i]) := by
  obtain ⟨a, a1, a2, a3⟩ := szStanceS x.stances left h.1 h0 h1
  by_cases ha : a < 0
  · refine ⟨-1, ?_, .inl rfl, fun h => absurd h (by decide)⟩
    rw [fn_eq, ev_eqQ (rs := [.tmp 4]) [] rfl Try.func27 rfl rfl (by kernel_rfl) (by kernel_rfl)]
    simp only [go_sem, a1, ha]
  rcases a2 with a2 | ⟨_, a2⟩
  · omega
  obtain ⟨b, b1, b2⟩ := szMoveS x.moves a h.2.1 (by omega) (by omega)
  by_cases hb : b < 0
  · refine ⟨-1, ?_, .inl rfl, fun h => absurd h (by decide)⟩
    rw [fn_eq, ev_eqQ (rs := [.tmp 4]) [] rfl Try.func27 rfl rfl (by kernel_rfl) (by kernel_rfl)]
    simp only [go_sem, a1, ha, b1, hb]
  rcases b2 with b2 | ⟨_, b2⟩
  · omega
  refine ⟨b, ?_, .inr ⟨by omega, by omega⟩, fun _ => a3 (by omega)⟩
  rw [fn_eq, ev_eqQ (rs := [.tmp 4]) [] rfl Try.func27 rfl rfl (by kernel_rfl) (by kernel_rfl)]
  simp only [go_sem, a1, ha, b1, hb]
end Go.Proofs.Ytlkpocljgikpgaa
namespace Go.Proofs.Ytlkpocljgikpgaa
open Go Go.TV

/-! ### The first index with a property -/
def ix {α : Type} (p : α → Bool) (xs : List α) : Int := if xs.findIdx p < xs.length then xs.findIdx p else -1
theorem ix_at {α : Type} {p : α → Bool} {xs : List α} {k : Nat} (hk : k < xs.length) (hl : ∀ i (h : i < xs.length), i < k → p xs[i] = false) (h : p xs[k] = true) : ix p xs = k := by
  have : xs.findIdx p = k := (List.findIdx_eq hk).mpr ⟨h, fun j hj => hl j (by omega) hj⟩
  unfold ix
  rw [this, if_pos hk]
theorem ix_none {α : Type} {p : α → Bool} {xs : List α} (hl : ∀ i (h : i < xs.length), p xs[i] = false) : ix p xs = -1 := by
  have : xs.findIdx p = xs.length := List.findIdx_eq_length.mpr fun x hx => by
    obtain ⟨i, hi, rfl⟩ := List.getElem_of_mem hx
    exact hl i hi
  unfold ix
  rw [this, if_neg (Nat.lt_irrefl _)]
theorem ix_step {α : Type} {p : α → Bool} {xs : List α} {k : Nat} (hk : k < xs.length) (hl : ∀ i (h : i < xs.length), i < k → p xs[i] = false) (h : p xs[k] = false) : ∀ i (h : i < xs.length), i < k + 1 → p xs[i] = false := by
  intro i hi hik
  rcases Nat.lt_or_eq_of_le (Nat.le_of_lt_succ hik) with h1 | h1
  · exact hl i hi h1
  · subst h1; exact h

theorem indexStance (xs : List Stance) (c : V) (g : FuncId) (p : Stance → Bool) (t : V) (h : xs.length ≤ maxLen) (hc : conv g = .imm) (ht : strip noStore 7 t = some (t, [])) (hg : ∀ x ∈ xs, fn Try.prog conv ext g [.agg (cStance x), t] = some (Bo (p x))) :
    fn Try.prog conv ext 137 [LL cStance xs, .clo g [t]] = some (I (ix p xs)) := by
  have e2 : (xs.length : Int) ≤ 9223372036854775807 := by unfold maxLen at h; omega
  rw [fn_eq, ev_eqQ (rs := [.tmp 4]) [] rfl Try.func137 rfl rfl (by kernel_rfl) (by kernel_rfl)]
  simp only [go_sem]
  generalize hL : evLoopI _ _ = y
  obtain ⟨r, rfl, hr⟩ := count_rule hL xs.length (fun k st => st.nx = 0 ∧ st.σ = noStore ∧ st.T 0 = LL cStance xs ∧ st.T 1 = .clo g [t] ∧ st.T 7 = I xs.length ∧ st.T 8 = I k ∧ ∀ i (h : i < xs.length), i < k → p xs[i] = false)
    (fun r => (∃ T, r = (.exit 0, ⟨T, noStore, 0⟩) ∧ ix p xs = -1) ∨ (∃ T, r = (.ret, ⟨T, noStore, 0⟩) ∧ T 4 = I (ix p xs))) (by
      clear hL
      rintro k ⟨T, σ, nx⟩ hlt ⟨hn, hσ, h0, h1, h7, h8, hi⟩
      simp only at hn hσ h0 h1 h7 h8
      subst hn hσ
      have f1 : (k : Int) < (xs.length : Int) := by omega
      have f2 : (0 : Int) ≤ (k : Int) := by omega
      have f3 := wrap_id (n := (k : Int) + 1) (by omega) (by omega)
      have f4 := slot (c := cStance) (s := 5) (fun _ => rfl) xs k hlt
      have f5 := slots_len (c := cStance) (s := 5) (fun _ => rfl) xs
      have f6 : k * 5 + 5 ≤ xs.length * 5 := by omega
      have f9 := slot_ne (c := cStance) (s := 5) (fun _ => rfl) (by omega) xs k hlt
      have f10 := hg xs[k] (List.getElem_mem hlt)
      cases hp : p xs[k] with
      | true =>
        rw [hp] at f10
        refine .inr ⟨_, by simp only [go_sem, h0, h1, h7, h8, f1, f2, f4, f5, f6, f9, f10, hc, ht]; rfl, by simp, .inr ⟨_, rfl, ?_⟩⟩
        simp only [go_sem]
        rw [ix_at hlt hi hp]
      | false =>
        rw [hp] at f10
        refine .inl ⟨_, by simp only [go_sem, h0, h1, h7, h8, f1, f2, f3, f4, f5, f6, f9, f10, hc, ht]; rfl, ?_⟩
        simp only [go_sem, h0, h1, h7]
        exact ⟨rfl, ix_step hlt hi hp⟩) (by
      clear hL
      rintro ⟨T, σ, nx⟩ ⟨hn, hσ, h0, h1, h7, h8, hi⟩
      simp only at hn hσ h0 h1 h7 h8
      subst hn hσ
      exact ⟨_, by simp only [go_sem, h7, h8, Int.lt_irrefl]; rfl, by simp, .inl ⟨_, rfl, ix_none fun i h => hi i h h⟩⟩) (by
      simp only [go_sem]
      exact fun i _ h => absurd h (Nat.not_lt_zero _))
  rcases hr with ⟨T, rfl, h1⟩ | ⟨T, rfl, h1⟩
  · simp only [go_sem, h1]
  · simp only [go_sem, h1]
theorem indexJoint (xs : List Joint) (c : V) (g : FuncId) (p : Joint → Bool) (t : V) (h : xs.length ≤ maxLen) (hc : conv g = .imm) (ht : strip noStore 7 t = some (t, [])) (hg : ∀ x ∈ xs, fn Try.prog conv ext g [.agg (cJoint x), t] = some (Bo (p x))) :
    fn Try.prog conv ext 188 [LL cJoint xs, .clo g [t]] = some (I (ix p xs)) := by
  have e2 : (xs.length : Int) ≤ 9223372036854775807 := by unfold maxLen at h; omega
  rw [fn_eq, ev_eqQ (rs := [.tmp 4]) [] rfl Try.func188 rfl rfl (by kernel_rfl) (by kernel_rfl)]
  simp only [go_sem]
  generalize hL : evLoopI _ _ = y
  obtain ⟨r, rfl, hr⟩ := count_rule hL xs.length (fun k st => st.nx = 0 ∧ st.σ = noStore ∧ st.T 0 = LL cJoint xs ∧ st.T 1 = .clo g [t] ∧ st.T 7 = I xs.length ∧ st.T 8 = I k ∧ ∀ i (h : i < xs.length), i < k → p xs[i] = false)
    (fun r => (∃ T, r = (.exit 0, ⟨T, noStore, 0⟩) ∧ ix p xs = -1) ∨ (∃ T, r = (.ret, ⟨T, noStore, 0⟩) ∧ T 4 = I (ix p xs))) (by
      clear hL
      rintro k ⟨T, σ, nx⟩ hlt ⟨hn, hσ, h0, h1, h7, h8, hi⟩
      simp only at hn hσ h0 h1 h7 h8
      subst hn hσ
      have f1 : (k : Int) < (xs.length : Int) := by omega
      have f2 : (0 : Int) ≤ (k : Int) := by omega
      have f3 := wrap_id (n := (k : Int) + 1) (by omega) (by omega)
      have f4 := slot (c := cJoint) (s := 4) (fun _ => rfl) xs k hlt
      have f5 := slots_len (c := cJoint) (s := 4) (fun _ => rfl) xs
      have f6 : k * 4 + 4 ≤ xs.length * 4 := by omega
      have f9 := slot_ne (c := cJoint) (s := 4) (fun _ => rfl) (by omega) xs k hlt
      have f10 := hg xs[k] (List.getElem_mem hlt)
      cases hp : p xs[k] with
      | true =>
        rw [hp] at f10
        refine .inr ⟨_, by simp only [go_sem, h0, h1, h7, h8, f1, f2, f4, f5, f6, f9, f10, hc, ht]; rfl, by simp, .inr ⟨_, rfl, ?_⟩⟩
        simp only [go_sem]
        rw [ix_at hlt hi hp]
      | false =>
        rw [hp] at f10
        refine .inl ⟨_, by simp only [go_sem, h0, h1, h7, h8, f1, f2, f3, f4, f5, f6, f9, f10, hc, ht]; rfl, ?_⟩
        simp only [go_sem, h0, h1, h7]
        exact ⟨rfl, ix_step hlt hi hp⟩) (by
      clear hL
      rintro ⟨T, σ, nx⟩ ⟨hn, hσ, h0, h1, h7, h8, hi⟩
      simp only at hn hσ h0 h1 h7 h8
      subst hn hσ
      exact ⟨_, by simp only [go_sem, h7, h8, Int.lt_irrefl]; rfl, by simp, .inl ⟨_, rfl, ix_none fun i h => hi i h h⟩⟩) (by
      simp only [go_sem]
      exact fun i _ h => absurd h (Nat.not_lt_zero _))
  rcases hr with ⟨T, rfl, h1⟩ | ⟨T, rfl, h1⟩
  · simp only [go_sem, h1]
  · simp only [go_sem, h1]
theorem indexMember (xs : List Member) (c : V) (g : FuncId) (p : Member → Bool) (t : V) (h : xs.length ≤ maxLen) (hc : conv g = .imm) (ht : strip noStore 7 t = some (t, [])) (hg : ∀ x ∈ xs, fn Try.prog conv ext g [.agg (cMember x), t] = some (Bo (p x))) :
    fn Try.prog conv ext 190 [LL cMember xs, .clo g [t]] = some (I (ix p xs)) := by
  have e2 : (xs.length : Int) ≤ 9223372036854775807 := by unfold maxLen at h; omega
  rw [fn_eq, ev_eqQ (rs := [.tmp 4]) [] rfl Try.func190 rfl rfl (by kernel_rfl) (by kernel_rfl)]
  simp only [go_sem]
  generalize hL : evLoopI _ _ = y
  obtain ⟨r, rfl, hr⟩ := count_rule hL xs.length (fun k st => st.nx = 0 ∧ st.σ = noStore ∧ st.T 0 = LL cMember xs ∧ st.T 1 = .clo g [t] ∧ st.T 7 = I xs.length ∧ st.T 8 = I k ∧ ∀ i (h : i < xs.length), i < k → p xs[i] = false)
    (fun r => (∃ T, r = (.exit 0, ⟨T, noStore, 0⟩) ∧ ix p xs = -1) ∨ (∃ T, r = (.ret, ⟨T, noStore, 0⟩) ∧ T 4 = I (ix p xs))) (by
      clear hL
      rintro k ⟨T, σ, nx⟩ hlt ⟨hn, hσ, h0, h1, h7, h8, hi⟩
      simp only at hn hσ h0 h1 h7 h8
      subst hn hσ
      have f1 : (k : Int) < (xs.length : Int) := by omega
      have f2 : (0 : Int) ≤ (k : Int) := by omega
      have f3 := wrap_id (n := (k : Int) + 1) (by omega) (by omega)
      have f4 := slot (c := cMember) (s := 3) (fun _ => rfl) xs k hlt
      have f5 := slots_len (c := cMember) (s := 3) (fun _ => rfl) xs
      have f6 : k * 3 + 3 ≤ xs.length * 3 := by omega
      have f9 := slot_ne (c := cMember) (s := 3) (fun _ => rfl) (by omega) xs k hlt
      have f10 := hg xs[k] (List.getElem_mem hlt)
      cases hp : p xs[k] with
      | true =>
        rw [hp] at f10
        refine .inr ⟨_, by simp only [go_sem, h0, h1, h7, h8, f1, f2, f4, f5, f6, f9, f10, hc, ht]; rfl, by simp, .inr ⟨_, rfl, ?_⟩⟩
        simp only [go_sem]
        rw [ix_at hlt hi hp]
      | false =>
        rw [hp] at f10
        refine .inl ⟨_, by simp only [go_sem, h0, h1, h7, h8, f1, f2, f3, f4, f5, f6, f9, f10, hc, ht]; rfl, ?_⟩
        simp only [go_sem, h0, h1, h7]
        exact ⟨rfl, ix_step hlt hi hp⟩) (by
      clear hL
      rintro ⟨T, σ, nx⟩ ⟨hn, hσ, h0, h1, h7, h8, hi⟩
      simp only at hn hσ h0 h1 h7 h8
      subst hn hσ
      exact ⟨_, by simp only [go_sem, h7, h8, Int.lt_irrefl]; rfl, by simp, .inl ⟨_, rfl, ix_none fun i h => hi i h h⟩⟩) (by
      simp only [go_sem]
      exact fun i _ h => absurd h (Nat.not_lt_zero _))
  rcases hr with ⟨T, rfl, h1⟩ | ⟨T, rfl, h1⟩
  · simp only [go_sem, h1]
  · simp only [go_sem, h1]
theorem indexInt (xs : List Int) (c : V) (g : FuncId) (p : Int → Bool) (h : xs.length ≤ maxLen) (hc : conv g = .imm) (hg : ∀ x ∈ xs, fn Try.prog conv ext g [I x] = some (Bo (p x))) :
    fn Try.prog conv ext 170 [LI xs, .clo g []] = some (I (ix p xs)) := by
  have e2 : (xs.length : Int) ≤ 9223372036854775807 := by unfold maxLen at h; omega
  rw [fn_eq, ev_eqQ (rs := [.tmp 4]) [] rfl Try.func170 rfl rfl (by kernel_rfl) (by kernel_rfl)]
  simp only [go_sem]
  generalize hL : evLoopI _ _ = y
  obtain ⟨r, rfl, hr⟩ := count_rule hL xs.length (fun k st => st.nx = 0 ∧ st.σ = noStore ∧ st.T 0 = LI xs ∧ st.T 1 = .clo g [] ∧ st.T 7 = I xs.length ∧ st.T 8 = I k ∧ ∀ i (h : i < xs.length), i < k → p xs[i] = false)
    (fun r => (∃ T, r = (.exit 0, ⟨T, noStore, 0⟩) ∧ ix p xs = -1) ∨ (∃ T, r = (.ret, ⟨T, noStore, 0⟩) ∧ T 4 = I (ix p xs))) (by
      clear hL
      rintro k ⟨T, σ, nx⟩ hlt ⟨hn, hσ, h0, h1, h7, h8, hi⟩
      simp only at hn hσ h0 h1 h7 h8
      subst hn hσ
      have f1 : (k : Int) < (xs.length : Int) := by omega
      have f2 : (0 : Int) ≤ (k : Int) := by omega
      have f3 := wrap_id (n := (k : Int) + 1) (by omega) (by omega)
      have f4 : (xs.flatMap cI)[k]? = some (I xs[k]) := slot1 I xs k hlt
      have f9 := slot_ne (c := cI) (s := 1) (fun _ => rfl) (by omega) xs k hlt
      have f10 := hg xs[k] (List.getElem_mem hlt)
      cases hp : p xs[k] with
      | true =>
        rw [hp] at f10
        refine .inr ⟨_, by simp only [go_sem, h0, h1, h7, h8, f1, f2, f4, f9, f10, hc]; rfl, by simp, .inr ⟨_, rfl, ?_⟩⟩
        simp only [go_sem]
        rw [ix_at hlt hi hp]
      | false =>
        rw [hp] at f10
        refine .inl ⟨_, by simp only [go_sem, h0, h1, h7, h8, f1, f2, f3, f4, f9, f10, hc]; rfl, ?_⟩
        simp only [go_sem, h0, h1, h7]
        exact ⟨rfl, ix_step hlt hi hp⟩) (by
      clear hL
      rintro ⟨T, σ, nx⟩ ⟨hn, hσ, h0, h1, h7, h8, hi⟩
      simp only at hn hσ h0 h1 h7 h8
      subst hn hσ
      exact ⟨_, by simp only [go_sem, h7, h8, Int.lt_irrefl]; rfl, by simp, .inl ⟨_, rfl, ix_none fun i h => hi i h h⟩⟩) (by
      simp only [go_sem]
      exact fun i _ h => absurd h (Nat.not_lt_zero _))
  rcases hr with ⟨T, rfl, h1⟩ | ⟨T, rfl, h1⟩
  · simp only [go_sem, h1]
  · simp only [go_sem, h1]

theorem ix_lt {α : Type} (p : α → Bool) (xs : List α) : ix p xs < 0 ↔ ∀ x ∈ xs, p x = false := by
  unfold ix
  by_cases h : xs.findIdx p < xs.length
  · rw [if_pos h]
    refine ⟨fun h2 => absurd h2 (by omega), fun h2 => ?_⟩
    have := List.findIdx_eq_length.mpr h2
    omega
  · rw [if_neg h]
    exact ⟨fun _ => List.findIdx_eq_length.mp (Nat.le_antisymm (List.findIdx_le_length) (by omega)), fun _ => by omega⟩
theorem hasMember (xs : List Member) (g : FuncId) (p : Member → Bool) (t : V) (h : xs.length ≤ maxLen) (hc : conv g = .imm) (ht : strip noStore 7 t = some (t, [])) (ht6 : strip noStore 6 t = some (t, [])) (hg : ∀ x ∈ xs, fn Try.prog conv ext g [.agg (cMember x), t] = some (Bo (p x))) :
    fn Try.prog conv ext 180 [LL cMember xs, .clo g [t]] = some (Bo (decide (0 ≤ ix p xs))) := by
  have h1 := indexMember xs (.clo g [t]) g p t h hc ht hg
  rw [fn_eq, ev_eqQ (rs := [.tmp 4]) [] rfl Try.func180 rfl rfl (by kernel_rfl) (by kernel_rfl)]
  simp only [go_sem, h1, ht, ht6]
theorem hasInt (xs : List Int) (g : FuncId) (p : Int → Bool) (h : xs.length ≤ maxLen) (hc : conv g = .imm) (hg : ∀ x ∈ xs, fn Try.prog conv ext g [I x] = some (Bo (p x))) :
    fn Try.prog conv ext 145 [LI xs, .clo g []] = some (Bo (decide (0 ≤ ix p xs))) := by
  have h1 := indexInt xs (.clo g []) g p h hc hg
  rw [fn_eq, ev_eqQ (rs := [.tmp 4]) [] rfl Try.func145 rfl rfl (by kernel_rfl) (by kernel_rfl)]
  simp only [go_sem, h1]
end Go.Proofs.Ytlkpocljgikpgaa
namespace Go.Proofs.Ytlkpocljgikpgaa
open Go Go.TV

/-- A statement's truth. -/
noncomputable def pb (p : Prop) : Bool := @decide p (Classical.propDecidable p)
theorem pb_true {p : Prop} (h : p) : pb p = true := by unfold pb; exact (@decide_eq_true_iff p (Classical.propDecidable p)).mpr h
theorem pb_false {p : Prop} (h : ¬p) : pb p = false := by unfold pb; exact (@decide_eq_false_iff_not p (Classical.propDecidable p)).mpr h
theorem pb_eq {p : Prop} {b : Bool} (h : b = true ↔ p) : b = pb p := by
  cases b with
  | true => exact (pb_true (h.mp rfl)).symm
  | false => exact (pb_false (fun hp => by cases h.mpr hp)).symm
theorem of_pb {p : Prop} (h : pb p = true) : p := by
  unfold pb at h
  exact (@decide_eq_true_iff p (Classical.propDecidable p)).mp h
theorem of_pb_false {p : Prop} (h : pb p = false) : ¬p := by
  unfold pb at h
  exact (@decide_eq_false_iff_not p (Classical.propDecidable p)).mp h

/-! ### Ranges -/
def inB (n a b : Int) : Bool := decide (a ≤ n) && decide (n ≤ b)
theorem l01In (n a b : Int) : fn Try.prog conv ext 51 [I n, I a, I b] = some (Bo (inB n a b)) := by
  unfold inB
  rw [fn_eq, ev_eqQ (rs := [.tmp 6]) [] rfl Try.func51 rfl rfl (by kernel_rfl) (by kernel_rfl)]
  by_cases h : a ≤ n <;> simp only [go_sem, h]
theorem isForce (n : Int) : fn Try.prog conv ext 184 [I n] = some (Bo (inB n (-100) 100)) := by
  unfold inB
  rw [fn_eq, ev_eqQ (rs := [.tmp 2]) [] rfl Try.func184 rfl rfl (by kernel_rfl) (by kernel_rfl)]
  by_cases h : -100 ≤ n <;> simp only [go_sem, h]
theorem isLimit (n : Int) : fn Try.prog conv ext 45 [I n] = some (Bo (inB n (0) 1000)) := by
  unfold inB
  rw [fn_eq, ev_eqQ (rs := [.tmp 2]) [] rfl Try.func45 rfl rfl (by kernel_rfl) (by kernel_rfl)]
  by_cases h : 0 ≤ n <;> simp only [go_sem, h]
theorem isPlace (n : Int) : fn Try.prog conv ext 187 [I n] = some (Bo (inB n (-50) 50)) := by
  unfold inB
  rw [fn_eq, ev_eqQ (rs := [.tmp 2]) [] rfl Try.func187 rfl rfl (by kernel_rfl) (by kernel_rfl)]
  by_cases h : -50 ≤ n <;> simp only [go_sem, h]
theorem isSpot (n : Int) : fn Try.prog conv ext 44 [I n] = some (Bo (inB n (-1000) 1000)) := by
  unfold inB
  rw [fn_eq, ev_eqQ (rs := [.tmp 2]) [] rfl Try.func44 rfl rfl (by kernel_rfl) (by kernel_rfl)]
  by_cases h : -1000 ≤ n <;> simp only [go_sem, h]
/-! ### Names -/
def letterB (b : UInt8) : Bool := decide (97 ≤ (b.toNat : Int)) && decide ((b.toNat : Int) ≤ 122)
def digitB (b : UInt8) : Bool := decide (48 ≤ (b.toNat : Int)) && decide ((b.toNat : Int) ≤ 57)
theorem isLetter (b : UInt8) : fn Try.prog conv ext 160 [.sc (.int .u8 b.toNat)] = some (Bo (letterB b)) := by
  unfold letterB
  rw [fn_eq, ev_eqQ (rs := [.tmp 2]) [] rfl Try.func160 rfl rfl (by kernel_rfl) (by kernel_rfl)]
  by_cases h : 97 ≤ (b.toNat : Int) <;> simp only [go_sem, h]
theorem isDigit (b : UInt8) : fn Try.prog conv ext 161 [.sc (.int .u8 b.toNat)] = some (Bo (digitB b)) := by
  unfold digitB
  rw [fn_eq, ev_eqQ (rs := [.tmp 2]) [] rfl Try.func161 rfl rfl (by kernel_rfl) (by kernel_rfl)]
  by_cases h : 48 ≤ (b.toNat : Int) <;> simp only [go_sem, h]
def charOk (k : Nat) (b : UInt8) : Prop := letterB b = true ∨ (k ≠ 0 ∧ digitB b = true)
def NameOk (s : ByteArray) : Prop := (∀ k b, s[k]? = some b → charOk k b) ∧ 1 ≤ s.size ∧ s.size ≤ 8
theorem charOk_or (k : Nat) (b : UInt8) : charOk k b ∨ ¬charOk k b := Classical.em _
theorem ba_get {s : ByteArray} {k : Nat} (h : k < s.size) : ∃ b, s[k]? = some b := ⟨s[k], by simp [h]⟩
theorem ba_none {s : ByteArray} {k : Nat} {b : UInt8} (h : s[k]? = some b) : k < s.size := by
  by_cases hk : k < s.size
  · exact hk
  · simp [hk] at h
theorem nameOk_all {s : ByteArray} (h : ∀ i b, s[i]? = some b → charOk i b) : pb (NameOk s) = inB s.size 1 8 := by
  unfold inB
  by_cases h1 : (1 : Int) ≤ s.size
  · by_cases h2 : (s.size : Int) ≤ 8
    · rw [pb_true ⟨h, by omega, by omega⟩, decide_eq_true h1, decide_eq_true h2]; rfl
    · rw [pb_false (fun hn => h2 (by have := hn.2.2; omega)), decide_eq_true h1, decide_eq_false h2]; rfl
  · rw [pb_false (fun hn => h1 (by have := hn.2.1; omega)), decide_eq_false h1]; rfl
theorem charOk_step {s : ByteArray} {k : Nat} {b : UInt8} (hi : ∀ i b, i < k → s[i]? = some b → charOk i b) (hb : s[k]? = some b) (h : charOk k b) : ∀ i b, i < k + 1 → s[i]? = some b → charOk i b := by
  intro i c hik hc
  rcases Nat.lt_or_eq_of_le (Nat.le_of_lt_succ hik) with h1 | h1
  · exact hi i c h1 hc
  · subst h1
    rw [hb] at hc
    cases hc
    exact h
theorem not_charOk {k : Nat} {b : UInt8} (h1 : letterB b = false) (h2 : k = 0 ∨ digitB b = false) : ¬charOk k b := by
  rintro (h | ⟨h, h'⟩)
  · rw [h1] at h; cases h
  · rcases h2 with h2 | h2
    · exact h h2
    · rw [h2] at h'; cases h'
theorem letter_no1 {b : UInt8} (h : ¬(97 ≤ (b.toNat : Int))) : letterB b = false := by unfold letterB; rw [decide_eq_false h]; rfl
theorem letter_no2 {b : UInt8} (h : ¬((b.toNat : Int) ≤ 122)) : letterB b = false := by unfold letterB; rw [decide_eq_false h, Bool.and_false]
theorem digit_no1 {b : UInt8} (h : (b.toNat : Int) < 48) : digitB b = false := by unfold digitB; rw [decide_eq_false (by omega)]; rfl
theorem digit_no2 {b : UInt8} (h : 57 < (b.toNat : Int)) : digitB b = false := by unfold digitB; rw [decide_eq_false (p := (b.toNat : Int) ≤ 57) (by omega), Bool.and_false]
theorem digit_yes {b : UInt8} (h : ¬(b.toNat : Int) < 48) (h' : ¬57 < (b.toNat : Int)) : digitB b = true := by unfold digitB; rw [decide_eq_true (by omega), decide_eq_true (by omega)]; rfl
theorem sIsName (s : ByteArray) (hs : okS s) : fn Try.prog conv ext 129 [Sg s] = some (Bo (pb (NameOk s))) := by
  have e2 : (s.size : Int) ≤ 9223372036854775807 := by unfold okS at hs; omega
  rw [fn_eq, ev_eqQ (rs := [.tmp 2]) [] rfl Try.func129 rfl rfl (by kernel_rfl) (by kernel_rfl)]
  simp only [go_sem]
  generalize hL : evLoopI _ _ = y
  obtain ⟨r, rfl, hr⟩ := count_rule hL s.size (fun k st => st.nx = 0 ∧ st.σ = noStore ∧ st.T 0 = Sg s ∧ st.T 3 = I k ∧ ∀ i b, i < k → s[i]? = some b → charOk i b)
    (fun r => (∃ T, r = (.exit 0, ⟨T, noStore, 0⟩) ∧ T 0 = Sg s ∧ ∀ i b, s[i]? = some b → charOk i b) ∨ (∃ T, r = (.ret, ⟨T, noStore, 0⟩) ∧ T 2 = Bo false ∧ ¬NameOk s)) (by
      clear hL
      rintro k ⟨T, σ, nx⟩ hlt ⟨hn, hσ, h0, h3, hi⟩
      simp only at hn hσ h0 h3
      subst hn hσ
      have f1 : (k : Int) < (s.size : Int) := by omega
      have f2 : (0 : Int) ≤ (k : Int) := by omega
      have f3 := wrap_id (n := (k : Int) + 1) (by omega) (by omega)
      obtain ⟨b, f4⟩ := ba_get hlt
      have no : ¬charOk k b → ¬NameOk s := fun h hn => h (hn.1 k b f4)
      by_cases c1 : 97 ≤ (b.toNat : Int)
      · by_cases c2 : (b.toNat : Int) ≤ 122
        · refine .inl ⟨_, by simp only [go_sem, h0, h3, f1, f2, f3, f4, c1, c2]; rfl, ?_⟩
          simp only [go_sem, h0]
          exact ⟨rfl, charOk_step hi f4 (.inl (by unfold letterB; rw [decide_eq_true c1, decide_eq_true c2]; rfl))⟩
        · have d1 : ¬(b.toNat : Int) < 48 := by omega
          have d2 : 57 < (b.toNat : Int) := by omega
          by_cases hz : k = 0
          · have f0 : ((k : Int) == 0) = true := by subst hz; rfl
            exact .inr ⟨_, by simp only [go_sem, h0, h3, f1, f2, f4, c1, c2, f0]; rfl, by simp, .inr ⟨_, rfl, by simp only [go_sem], no (not_charOk (letter_no2 c2) (.inl hz))⟩⟩
          · have f0 : ((k : Int) == 0) = false := by simpa using hz
            exact .inr ⟨_, by simp only [go_sem, h0, h3, f1, f2, f4, c1, c2, f0, d1, d2]; rfl, by simp, .inr ⟨_, rfl, by simp only [go_sem], no (not_charOk (letter_no2 c2) (.inr (digit_no2 d2)))⟩⟩
      · by_cases hz : k = 0
        · have f0 : ((k : Int) == 0) = true := by subst hz; rfl
          exact .inr ⟨_, by simp only [go_sem, h0, h3, f1, f2, f4, c1, f0]; rfl, by simp, .inr ⟨_, rfl, by simp only [go_sem], no (not_charOk (letter_no1 c1) (.inl hz))⟩⟩
        · have f0 : ((k : Int) == 0) = false := by simpa using hz
          by_cases d1 : (b.toNat : Int) < 48
          · exact .inr ⟨_, by simp only [go_sem, h0, h3, f1, f2, f4, c1, f0, d1]; rfl, by simp, .inr ⟨_, rfl, by simp only [go_sem], no (not_charOk (letter_no1 c1) (.inr (digit_no1 d1)))⟩⟩
          · by_cases d2 : 57 < (b.toNat : Int)
            · exact .inr ⟨_, by simp only [go_sem, h0, h3, f1, f2, f4, c1, f0, d1, d2]; rfl, by simp, .inr ⟨_, rfl, by simp only [go_sem], no (not_charOk (letter_no1 c1) (.inr (digit_no2 d2)))⟩⟩
            · refine .inl ⟨_, by simp only [go_sem, h0, h3, f1, f2, f3, f4, c1, f0, d1, d2]; rfl, ?_⟩
              simp only [go_sem, h0]
              exact ⟨rfl, charOk_step hi f4 (.inr ⟨hz, digit_yes d1 d2⟩)⟩) (by
      clear hL
      rintro ⟨T, σ, nx⟩ ⟨hn, hσ, h0, h3, hi⟩
      simp only at hn hσ h0 h3
      subst hn hσ
      refine ⟨_, by simp only [go_sem, h0, h3, Int.lt_irrefl]; rfl, by simp, .inl ⟨_, rfl, ?_, fun i b h => hi i b (ba_none h) h⟩⟩
      simp only [go_sem, h0]) (by
      simp only [go_sem]
      exact fun i b h => absurd h (Nat.not_lt_zero _))
  rcases hr with ⟨T, rfl, h0, h1⟩ | ⟨T, rfl, h0, h1⟩
  · have := l01In s.size 1 8
    simp only [go_sem, h0, nameOk_all h1, this]
  · simp only [go_sem, h0, pb_false h1]
theorem toList_empty (s : ByteArray) : (s.toList == ({ data := #[] } : ByteArray).toList) = decide (s.size = 0) := by
  have e : (s.toList = []) = (s.size = 0) := by
    rw [ByteArray.toList_eq]
    refine propext ⟨fun h => ?_, fun h => List.eq_nil_of_length_eq_zero (by rw [Array.length_toList]; exact h)⟩
    have := congrArg List.length h
    rw [Array.length_toList] at this
    exact this
  have e0 : ({ data := #[] } : ByteArray).toList = [] := ByteArray.toList_mk []
  rw [e0]
  by_cases h : s.size = 0
  · rw [e.mpr h, decide_eq_true h]; rfl
  · rw [decide_eq_false h]
    cases hl : s.toList with
    | nil => exact absurd (e.mp hl) h
    | cons a l => rfl
theorem iIsName (s : ByteArray) (hs : okS s) : fn Try.prog conv ext 134 [Sg s] = some (Bo (pb (NameOk s))) := by
  have e2 : (s.size : Int) ≤ 9223372036854775807 := by unfold okS at hs; omega
  rw [fn_eq, ev_eqQ (rs := [.tmp 2]) [] rfl Try.func134 rfl rfl (by kernel_rfl) (by kernel_rfl)]
  simp only [go_sem]
  generalize hL : evLoopI _ _ = y
  obtain ⟨r, rfl, hr⟩ := count_rule hL s.size (fun k st => st.nx = 0 ∧ st.σ = noStore ∧ st.T 0 = Sg s ∧ st.T 5 = I s.size ∧ st.T 6 = I k ∧ ∀ i b, i < k → s[i]? = some b → charOk i b)
    (fun r => (∃ T, r = (.exit 0, ⟨T, noStore, 0⟩) ∧ T 0 = Sg s ∧ ∀ i b, s[i]? = some b → charOk i b) ∨ (∃ T, r = (.ret, ⟨T, noStore, 0⟩) ∧ T 2 = Bo false ∧ ¬NameOk s)) (by
      clear hL
      rintro k ⟨T, σ, nx⟩ hlt ⟨hn, hσ, h0, h5, h3, hi⟩
      simp only at hn hσ h0 h5 h3
      subst hn hσ
      have f1 : (k : Int) < (s.size : Int) := by omega
      have f2 : (0 : Int) ≤ (k : Int) := by omega
      have f3 := wrap_id (n := (k : Int) + 1) (by omega) (by omega)
      obtain ⟨b, f4⟩ := ba_get hlt
      have no : ¬charOk k b → ¬NameOk s := fun h hn => h (hn.1 k b f4)
      have g1 := isLetter b
      have g2 := isDigit b
      cases hl : letterB b with
      | true =>
        rw [hl] at g1
        refine .inl ⟨_, by simp only [go_sem, h0, h3, h5, f1, f2, f3, f4, g1]; rfl, ?_⟩
        simp only [go_sem, h0, h5]
        exact ⟨rfl, charOk_step hi f4 (.inl hl)⟩
      | false =>
        rw [hl] at g1
        by_cases hz : k = 0
        · have f0 : ((k : Int) == 0) = true := by subst hz; rfl
          exact .inr ⟨_, by simp only [go_sem, h0, h3, h5, f1, f2, f4, g1, f0]; rfl, by simp, .inr ⟨_, rfl, by simp only [go_sem], no (not_charOk hl (.inl hz))⟩⟩
        · have f0 : ((k : Int) == 0) = false := by simpa using hz
          cases hd : digitB b with
          | true =>
            rw [hd] at g2
            refine .inl ⟨_, by simp only [go_sem, h0, h3, h5, f1, f2, f3, f4, g1, g2, f0]; rfl, ?_⟩
            simp only [go_sem, h0, h5]
            exact ⟨rfl, charOk_step hi f4 (.inr ⟨hz, hd⟩)⟩
          | false =>
            rw [hd] at g2
            exact .inr ⟨_, by simp only [go_sem, h0, h3, h5, f1, f2, f4, g1, g2, f0]; rfl, by simp, .inr ⟨_, rfl, by simp only [go_sem], no (not_charOk hl (.inr hd))⟩⟩) (by
      clear hL
      rintro ⟨T, σ, nx⟩ ⟨hn, hσ, h0, h5, h3, hi⟩
      simp only at hn hσ h0 h5 h3
      subst hn hσ
      refine ⟨_, by simp only [go_sem, h0, h3, h5, Int.lt_irrefl]; rfl, by simp, .inl ⟨_, rfl, ?_, fun i b h => hi i b (ba_none h) h⟩⟩
      simp only [go_sem, h0]) (by
      simp only [go_sem]
      exact fun i b h => absurd h (Nat.not_lt_zero _))
  rcases hr with ⟨T, rfl, h0, h1⟩ | ⟨T, rfl, h0, h1⟩
  · have he := toList_empty s
    rw [nameOk_all h1]
    unfold inB
    by_cases hz : s.size = 0
    · have : ¬(1 : Int) ≤ s.size := by omega
      rw [decide_eq_true hz] at he
      simp only [go_sem, h0, this, he]
    · have : (1 : Int) ≤ s.size := by omega
      rw [decide_eq_false hz] at he
      simp only [go_sem, h0, this, he]
  · simp only [go_sem, h0, pb_false h1]
end Go.Proofs.Ytlkpocljgikpgaa
namespace Go.Proofs.Ytlkpocljgikpgaa
open Go Go.TV

/-! ### Joints and members -/
noncomputable def jointB (j : Joint) : Bool := pb (NameOk j.name) && (inB j.x (-50) 50 && inB j.y (-50) 50)
theorem sJointOk (j : Joint) (h : okJoint j) : fn Try.prog conv ext 174 [.agg (cJoint j)] = some (Bo (jointB j)) := by
  have t1 := sIsName j.name h.1
  have t2 := l01In j.x (-50) 50
  have t3 := l01In j.y (-50) 50
  unfold jointB
  generalize pb (NameOk j.name) = b1 at *
  generalize inB j.x (-50) 50 = b2 at *
  generalize inB j.y (-50) 50 = b3 at *
  rw [fn_eq, ev_eqQ (rs := [.tmp 2]) [] rfl Try.func174 rfl rfl (by kernel_rfl) (by kernel_rfl)]
  cases b1 <;> cases b2 <;> simp only [go_sem, t1, t2, t3]
theorem iJointOk (j : Joint) (h : okJoint j) : fn Try.prog conv ext 178 [.agg (cJoint j)] = some (Bo (jointB j)) := by
  have t1 := iIsName j.name h.1
  have t2 := isPlace j.x
  have t3 := isPlace j.y
  unfold jointB
  generalize pb (NameOk j.name) = b1 at *
  generalize inB j.x (-50) 50 = b2 at *
  generalize inB j.y (-50) 50 = b3 at *
  rw [fn_eq, ev_eqQ (rs := [.tmp 2]) [] rfl Try.func178 rfl rfl (by kernel_rfl) (by kernel_rfl)]
  cases b1 <;> cases b2 <;> simp only [go_sem, t1, t2, t3]

/-! ### By name -/
abbrev isNamed (name : ByteArray) (s : Stance) : Bool := s.name.toList == name.toList
abbrev isNamedJ (name : ByteArray) (s : Joint) : Bool := s.name.toList == name.toList
theorem closeStanceNamed (name : ByteArray) (s : Stance) : fn Try.prog conv ext 138 [.agg (cStance s), .tp [Sg name] 0] = some (Bo (isNamed name s)) := by
  rw [fn_eq, ev_eqQ (rs := [.tmp 3]) [] rfl Try.func138 rfl rfl (by kernel_rfl) (by kernel_rfl)]
  simp only [go_sem]
theorem iStanceNamed (y : Yard) (name : ByteArray) (h : y.stances.length ≤ maxLen) : fn Try.prog conv ext 100 [.agg (cYard y), Sg name] = some (I (ix (isNamed name) y.stances)) := by
  have h1 := indexStance y.stances (.tp [Sg name] 0) 138 (isNamed name) (.tp [Sg name] 0) h (by rfl) (by rfl) (fun x _ => closeStanceNamed name x)
  rw [fn_eq, ev_eqQ (rs := [.tmp 4]) [] rfl Try.func100 rfl rfl (by kernel_rfl) (by kernel_rfl)]
  simp only [go_sem, h1]
theorem sStanceNamed (y : Yard) (name : ByteArray) (h : y.stances.length ≤ maxLen) : fn Try.prog conv ext 96 [.agg (cYard y), Sg name] = some (I (ix (isNamed name) y.stances)) := by
  have e2 : (y.stances.length : Int) ≤ 9223372036854775807 := by unfold maxLen at h; omega
  rw [fn_eq, ev_eqQ (rs := [.tmp 4]) [] rfl Try.func96 rfl rfl (by kernel_rfl) (by kernel_rfl)]
  simp only [go_sem]
  generalize hL : evLoopI _ _ = z
  generalize hxs : y.stances = xs at *
  obtain ⟨r, rfl, hr⟩ := count_rule hL xs.length (fun k st => st.T 1 = Sg name ∧ st.T 8 = LL cStance xs ∧ st.T 9 = I xs.length ∧ st.T 10 = I k ∧ ∀ i (h : i < xs.length), i < k → isNamed name xs[i] = false)
    (fun r => (∃ st, r = (.exit 0, st) ∧ ix (isNamed name) xs = -1) ∨ (∃ st, r = (.ret, st) ∧ st.T 4 = I (ix (isNamed name) xs))) (by
      clear hL
      rintro k ⟨T, σ, nx⟩ hlt ⟨h1, h8, h9, h10, hi⟩
      simp only at h1 h8 h9 h10
      have f1 : (k : Int) < (xs.length : Int) := by omega
      have f2 : (0 : Int) ≤ (k : Int) := by omega
      have f3 := wrap_id (n := (k : Int) + 1) (by omega) (by omega)
      have f4 := slot (c := cStance) (s := 5) (fun _ => rfl) xs k hlt
      have f5 := slots_len (c := cStance) (s := 5) (fun _ => rfl) xs
      have f6 : k * 5 + 5 ≤ xs.length * 5 := by omega
      have f9 := slot_ne (c := cStance) (s := 5) (fun _ => rfl) (by omega) xs k hlt
      cases hp : isNamed name xs[k] with
      | true =>
        refine .inr ⟨_, by simp only [go_sem, h1, h8, h9, h10, f1, f2, f4, f5, f6, f9, hp]; rfl, by simp, .inr ⟨_, rfl, ?_⟩⟩
        simp only [go_sem]
        rw [ix_at hlt hi hp]
      | false =>
        refine .inl ⟨_, by simp only [go_sem, h1, h8, h9, h10, f1, f2, f3, f4, f5, f6, f9, hp]; rfl, ?_⟩
        simp only [go_sem, h1, h8, h9]
        exact ⟨rfl, ix_step hlt hi hp⟩) (by
      clear hL
      rintro ⟨T, σ, nx⟩ ⟨h1, h8, h9, h10, hi⟩
      simp only at h1 h8 h9 h10
      exact ⟨_, by simp only [go_sem, h9, h10, Int.lt_irrefl]; rfl, by simp, .inl ⟨_, rfl, ix_none fun i h => hi i h h⟩⟩) (by
      simp only [go_sem]
      exact fun i _ h => absurd h (Nat.not_lt_zero _))
  rcases hr with ⟨⟨T, σ, nx⟩, rfl, h1⟩ | ⟨⟨T, σ, nx⟩, rfl, h1⟩
  · simp only [go_sem, h1]
  · simp only at h1
    simp only [go_sem, h1]
theorem closeJointNamed (name : ByteArray) (s : Joint) : fn Try.prog conv ext 189 [.agg (cJoint s), .tp [Sg name] 0] = some (Bo (isNamedJ name s)) := by
  rw [fn_eq, ev_eqQ (rs := [.tmp 3]) [] rfl Try.func189 rfl rfl (by kernel_rfl) (by kernel_rfl)]
  simp only [go_sem]
theorem iJointNamed (y : Structure) (name : ByteArray) (h : y.joints.length ≤ maxLen) : fn Try.prog conv ext 179 [.agg (cStructure y), Sg name] = some (I (ix (isNamedJ name) y.joints)) := by
  have h1 := indexJoint y.joints (.tp [Sg name] 0) 189 (isNamedJ name) (.tp [Sg name] 0) h (by rfl) (by rfl) (fun x _ => closeJointNamed name x)
  rw [fn_eq, ev_eqQ (rs := [.tmp 4]) [] rfl Try.func179 rfl rfl (by kernel_rfl) (by kernel_rfl)]
  simp only [go_sem, h1]
theorem sJointNamed (y : Structure) (name : ByteArray) (h : y.joints.length ≤ maxLen) : fn Try.prog conv ext 175 [.agg (cStructure y), Sg name] = some (I (ix (isNamedJ name) y.joints)) := by
  have e2 : (y.joints.length : Int) ≤ 9223372036854775807 := by unfold maxLen at h; omega
  rw [fn_eq, ev_eqQ (rs := [.tmp 4]) [] rfl Try.func175 rfl rfl (by kernel_rfl) (by kernel_rfl)]
  simp only [go_sem]
  generalize hL : evLoopI _ _ = z
  generalize hxs : y.joints = xs at *
  obtain ⟨r, rfl, hr⟩ := count_rule hL xs.length (fun k st => st.T 1 = Sg name ∧ st.T 8 = LL cJoint xs ∧ st.T 9 = I xs.length ∧ st.T 10 = I k ∧ ∀ i (h : i < xs.length), i < k → isNamedJ name xs[i] = false)
    (fun r => (∃ st, r = (.exit 0, st) ∧ ix (isNamedJ name) xs = -1) ∨ (∃ st, r = (.ret, st) ∧ st.T 4 = I (ix (isNamedJ name) xs))) (by
      clear hL
      rintro k ⟨T, σ, nx⟩ hlt ⟨h1, h8, h9, h10, hi⟩
      simp only at h1 h8 h9 h10
      have f1 : (k : Int) < (xs.length : Int) := by omega
      have f2 : (0 : Int) ≤ (k : Int) := by omega
      have f3 := wrap_id (n := (k : Int) + 1) (by omega) (by omega)
      have f4 := slot (c := cJoint) (s := 4) (fun _ => rfl) xs k hlt
      have f5 := slots_len (c := cJoint) (s := 4) (fun _ => rfl) xs
      have f6 : k * 4 + 4 ≤ xs.length * 4 := by omega
      have f9 := slot_ne (c := cJoint) (s := 4) (fun _ => rfl) (by omega) xs k hlt
      cases hp : isNamedJ name xs[k] with
      | true =>
        refine .inr ⟨_, by simp only [go_sem, h1, h8, h9, h10, f1, f2, f4, f5, f6, f9, hp]; rfl, by simp, .inr ⟨_, rfl, ?_⟩⟩
        simp only [go_sem]
        rw [ix_at hlt hi hp]
      | false =>
        refine .inl ⟨_, by simp only [go_sem, h1, h8, h9, h10, f1, f2, f3, f4, f5, f6, f9, hp]; rfl, ?_⟩
        simp only [go_sem, h1, h8, h9]
        exact ⟨rfl, ix_step hlt hi hp⟩) (by
      clear hL
      rintro ⟨T, σ, nx⟩ ⟨h1, h8, h9, h10, hi⟩
      simp only at h1 h8 h9 h10
      exact ⟨_, by simp only [go_sem, h9, h10, Int.lt_irrefl]; rfl, by simp, .inl ⟨_, rfl, ix_none fun i h => hi i h h⟩⟩) (by
      simp only [go_sem]
      exact fun i _ h => absurd h (Nat.not_lt_zero _))
  rcases hr with ⟨⟨T, σ, nx⟩, rfl, h1⟩ | ⟨⟨T, σ, nx⟩, rfl, h1⟩
  · simp only [go_sem, h1]
  · simp only at h1
    simp only [go_sem, h1]

/-! ### A member -/
def pairB (a b : Joint) : Bool := (!(a.x == b.x) || !(a.y == b.y)) && !(a.fixed && b.fixed)
def MemRange (n : Nat) (m : Member) : Prop := 0 ≤ m.a ∧ m.a < n ∧ 0 ≤ m.b ∧ m.b < n ∧ 1 ≤ m.kind ∧ m.kind ≤ 3
noncomputable def memB (js : List Joint) (m : Member) : Bool := pb (MemRange js.length m ∧ ∀ a b, js[m.a.toNat]? = some a → js[m.b.toNat]? = some b → pairB a b = true)
theorem memB_no {js : List Joint} {m : Member} (h : ¬MemRange js.length m) : memB js m = false := pb_false fun hn => h hn.1
theorem memB_pair {js : List Joint} {m : Member} (h : MemRange js.length m) {a b : Joint} (ha : js[m.a.toNat]? = some a) (hb : js[m.b.toNat]? = some b) : memB js m = pairB a b := by
  refine (pb_eq ⟨fun hp => ⟨h, fun c d hc hd => ?_⟩, fun hn => hn.2 a b ha hb⟩).symm
  rw [ha] at hc; rw [hb] at hd; cases hc; cases hd; exact hp
set_option maxRecDepth 100000 in
theorem imemberOk (row : List V) (off : Nat) (js : List Joint) (m : Member) (hr : row[off]? = some (LL cJoint js)) (hl : js.length ≤ maxLen) : fn Try.prog conv ext 182 [.tp row off, .agg (cMember m)] = some (Bo (memB js m)) := by
  rw [fn_eq, ev_eqQ (rs := [.tmp 4]) [4] rfl Try.func182 rfl rfl (by kernel_rfl) (by kernel_rfl)]
  by_cases c1 : m.a < 0
  · rw [memB_no (fun h => by have := h.1; omega)]
    simp only [go_sem, hr, c1]
  by_cases c2 : (js.length : Int) ≤ m.a
  · rw [memB_no (fun h => by have := h.2.1; omega)]
    simp only [go_sem, hr, c1, c2]
  by_cases c3 : m.b < 0
  · rw [memB_no (fun h => by have := h.2.2.1; omega)]
    simp only [go_sem, hr, c1, c2, c3]
  by_cases c4 : (js.length : Int) ≤ m.b
  · rw [memB_no (fun h => by have := h.2.2.2.1; omega)]
    simp only [go_sem, hr, c1, c2, c3, c4]
  by_cases c5 : m.kind < 1
  · rw [memB_no (fun h => by have := h.2.2.2.2.1; omega)]
    simp only [go_sem, hr, c1, c2, c3, c4, c5]
  by_cases c6 : 3 < m.kind
  · rw [memB_no (fun h => by have := h.2.2.2.2.2; omega)]
    simp only [go_sem, hr, c1, c2, c3, c4, c5, c6]
  have a1 : 0 ≤ m.a := by omega
  have a2 : m.a < js.length := by omega
  have b1 : 0 ≤ m.b := by omega
  have b2 : m.b < js.length := by omega
  have a3 : m.a.toNat < js.length := by omega
  have b3 : m.b.toNat < js.length := by omega
  rw [memB_pair ⟨a1, a2, b1, b2, by omega, by omega⟩ (List.getElem?_eq_getElem a3) (List.getElem?_eq_getElem b3)]
  have f4 := slot (c := cJoint) (s := 4) (fun _ => rfl) js _ a3
  have g4 := slot (c := cJoint) (s := 4) (fun _ => rfl) js _ b3
  have f5 := slots_len (c := cJoint) (s := 4) (fun _ => rfl) js
  have f6 : m.a.toNat * 4 + 4 ≤ js.length * 4 := by omega
  have g6 : m.b.toNat * 4 + 4 ≤ js.length * 4 := by omega
  have f9 := slot_ne (c := cJoint) (s := 4) (fun _ => rfl) (by omega) js _ a3
  generalize js[m.a.toNat] = a at *
  generalize js[m.b.toNat] = b at *
  unfold pairB
  cases hx : (a.x == b.x) <;> cases hy : (a.y == b.y) <;> cases ha : a.fixed <;> cases hb : b.fixed <;>
    (simp only [go_sem, hr, c1, c2, c3, c4, c5, c6, a1, a2, b1, b2, f4, g4, f5, f6, g6, f9, hx, hy, ha, hb, bne]) <;> rfl

/-! ### A structure -/
def StrOk (s : Structure) : Prop := s.joints.length ≤ 6 ∧ s.members.length ≤ 8 ∧ (∀ i (h : i < s.joints.length), jointB s.joints[i] = true ∧ ix (isNamedJ s.joints[i].name) s.joints = i) ∧ ∀ m ∈ s.members, memB s.joints m = true
theorem closeStructureOk (s : Structure) (m : Member) (hl : s.joints.length ≤ maxLen) : fn Try.prog conv ext 181 [.agg (cMember m), .tp (cStructure s) 0] = some (Bo (!memB s.joints m)) := by
  have h1 := imemberOk (cStructure s) 0 s.joints m rfl hl
  rw [fn_eq, ev_eqQ (rs := [.tmp 3]) [] rfl Try.func181 rfl rfl (by kernel_rfl) (by kernel_rfl)]
  simp only [go_sem, h1]
theorem iStructureOk (s : Structure) (h : okStructure s) : fn Try.prog conv ext 162 [.agg (cStructure s)] = some (Bo (pb (StrOk s))) := by
  have e2 : (s.joints.length : Int) ≤ 9223372036854775807 := by have := h.1.2.1; omega
  have hm := hasMember s.members 181 (fun m => !memB s.joints m) (.tp (cStructure s) 0) h.2.2.2 (by rfl) (by rfl) (by rfl) (fun x _ => closeStructureOk s x h.1.2.2)
  rw [fn_eq, ev_eqQ (rs := [.tmp 2]) [] rfl Try.func162 rfl rfl (by kernel_rfl) (by kernel_rfl)]
  by_cases c1 : (6 : Int) < s.joints.length
  · rw [pb_false (fun hn => by have := hn.1; omega)]
    simp only [go_sem, c1]
  by_cases c2 : (8 : Int) < s.members.length
  · rw [pb_false (fun hn => by have := hn.2.1; omega)]
    simp only [go_sem, c1, c2]
  simp only [go_sem, c1, c2]
  generalize hL : evLoopI _ _ = y
  obtain ⟨r, rfl, hr⟩ := count_rule hL s.joints.length (fun k st => 0 < st.nx ∧ st.σ 0 = some ⟨cStructure s, 0, true⟩ ∧ st.T 1 = .rp 0 0 ∧ st.T 16 = LL cJoint s.joints ∧ st.T 17 = I s.joints.length ∧ st.T 18 = I k ∧ ∀ i (h : i < s.joints.length), i < k → jointB s.joints[i] = true ∧ ix (isNamedJ s.joints[i].name) s.joints = i)
    (fun r => (∃ T σ nx, r = (.exit 0, ⟨T, σ, nx⟩) ∧ σ 0 = some ⟨cStructure s, 0, true⟩ ∧ T 1 = .rp 0 0 ∧ ∀ i (h : i < s.joints.length), jointB s.joints[i] = true ∧ ix (isNamedJ s.joints[i].name) s.joints = i) ∨ (∃ T σ nx, r = (.ret, ⟨T, σ, nx⟩) ∧ T 2 = Bo false ∧ ¬StrOk s)) (by
      clear hL
      rintro k ⟨T, σ, nx⟩ hlt ⟨hn, hσ, h1, h16, h17, h18, hi⟩
      simp only at hn hσ h1 h16 h17 h18
      have f1 : (k : Int) < (s.joints.length : Int) := by omega
      have f2 : (0 : Int) ≤ (k : Int) := by omega
      have f3 := wrap_id (n := (k : Int) + 1) (by omega) (by omega)
      have f4 := slot (c := cJoint) (s := 4) (fun _ => rfl) s.joints k hlt
      have f5 := slots_len (c := cJoint) (s := 4) (fun _ => rfl) s.joints
      have f6 : k * 4 + 4 ≤ s.joints.length * 4 := by omega
      have f9 := slot_ne (c := cJoint) (s := 4) (fun _ => rfl) (by omega) s.joints k hlt
      have t1 := iJointOk s.joints[k] (h.1.1 _ (List.getElem_mem hlt))
      have t2 := iJointNamed s s.joints[k].name h.1.2.2
      have nz : ¬0 = nx := by omega
      cases hj : jointB s.joints[k] with
      | false =>
        rw [hj] at t1
        refine .inr ⟨_, by simp only [go_sem, h1, h16, h17, h18, f1, f2, f4, f5, f6, f9, t1, nz]; rfl, by simp, .inr ⟨_, _, _, rfl, ?_, fun hn => ?_⟩⟩
        · simp only [go_sem]
        · have := (hn.2.2.1 k hlt).1
          rw [hj] at this; cases this
      | true =>
        rw [hj] at t1
        by_cases hk : ix (isNamedJ s.joints[k].name) s.joints = k
        · rw [hk] at t2
          refine .inl ⟨_, by simp only [go_sem, h1, h16, h17, h18, hσ, f1, f2, f3, f4, f5, f6, f9, t1, t2, nz]; rfl, ?_⟩
          simp only [go_sem, h1, h16, h17, hσ, nz]
          refine ⟨by omega, rfl, fun i hi' hik => ?_⟩
          rcases Nat.lt_or_eq_of_le (Nat.le_of_lt_succ hik) with q | q
          · exact hi i hi' q
          · subst q; exact ⟨hj, hk⟩
        · have hk' : (ix (isNamedJ s.joints[k].name) s.joints != (k : Int)) = true := by simpa using hk
          refine .inr ⟨_, by simp only [go_sem, h1, h16, h17, h18, hσ, f1, f2, f4, f5, f6, f9, t1, t2, hk', nz]; rfl, by simp, .inr ⟨_, _, _, rfl, ?_, fun hn => hk (hn.2.2.1 k hlt).2⟩⟩
          simp only [go_sem]) (by
      clear hL
      rintro ⟨T, σ, nx⟩ ⟨hn, hσ, h1, h16, h17, h18, hi⟩
      simp only at hn hσ h1 h16 h17 h18
      exact ⟨_, by simp only [go_sem, h17, h18, Int.lt_irrefl]; rfl, by simp, .inl ⟨_, _, _, rfl, hσ, by simp only [go_sem, h1], fun i h => hi i h h⟩⟩) (by
      simp only [go_sem]
      exact fun i _ h => absurd h (Nat.not_lt_zero _))
  rcases hr with ⟨T, σ, nx, rfl, hσ, h1, hj⟩ | ⟨T, σ, nx, rfl, h2, hn⟩
  · have : pb (StrOk s) = !decide (0 ≤ ix (fun m => !memB s.joints m) s.members) := by
      refine (pb_eq ?_).symm
      rw [Bool.not_eq_true', decide_eq_false_iff_not, Int.not_le, ix_lt]
      exact ⟨fun hq => ⟨by omega, by omega, hj, fun m hm => by simpa using hq m hm⟩, fun hq m hm => by simp [hq.2.2.2 m hm]⟩
    rw [this]
    simp only [go_sem, hσ, h1, hm]
  · simp only [go_sem, h2, pb_false hn]
end Go.Proofs.Ytlkpocljgikpgaa
namespace Go.Proofs.Ytlkpocljgikpgaa
open Go Go.TV

theorem inB_false_l {n a b : Int} (h : inB n a b = false) : ¬(a ≤ n ∧ n ≤ b) := by
  unfold inB at h
  intro hn
  rw [decide_eq_true hn.1, decide_eq_true hn.2] at h
  cases h
theorem inB_true {n a b : Int} (h : inB n a b = true) : a ≤ n ∧ n ≤ b := by
  unfold inB at h
  rw [Bool.and_eq_true, decide_eq_true_eq, decide_eq_true_eq] at h
  exact h
theorem sStructureOk (s : Structure) (h : okStructure s) : fn Try.prog conv ext 157 [.agg (cStructure s)] = some (Bo (pb (StrOk s))) := by
  have e2 : (s.joints.length : Int) ≤ 9223372036854775807 := by have := h.1.2.1; omega
  have e3 : (s.members.length : Int) ≤ 9223372036854775807 := by have := h.2.2.1; omega
  rw [fn_eq, ev_eqQ (rs := [.tmp 2]) [] rfl Try.func157 rfl rfl (by kernel_rfl) (by kernel_rfl)]
  by_cases c1 : (6 : Int) < s.joints.length
  · rw [pb_false (fun hn => by have := hn.1; omega)]
    simp only [go_sem, c1]
  by_cases c2 : (8 : Int) < s.members.length
  · rw [pb_false (fun hn => by have := hn.2.1; omega)]
    simp only [go_sem, c1, c2]
  simp only [go_sem, c1, c2]
  generalize hL : evLoopI _ _ = y
  obtain ⟨r, rfl, hr⟩ := count_rule hL s.joints.length (fun k st => 0 < st.nx ∧ st.σ 0 = some ⟨cStructure s, 0, true⟩ ∧ st.T 1 = .rp 0 0 ∧ st.T 21 = LL cJoint s.joints ∧ st.T 22 = I s.joints.length ∧ st.T 23 = I k ∧ ∀ i (h : i < s.joints.length), i < k → jointB s.joints[i] = true ∧ ix (isNamedJ s.joints[i].name) s.joints = i)
    (fun r => (∃ T σ nx, r = (.exit 0, ⟨T, σ, nx⟩) ∧ 0 < nx ∧ σ 0 = some ⟨cStructure s, 0, true⟩ ∧ T 1 = .rp 0 0 ∧ ∀ i (h : i < s.joints.length), jointB s.joints[i] = true ∧ ix (isNamedJ s.joints[i].name) s.joints = i) ∨ (∃ T σ nx, r = (.ret, ⟨T, σ, nx⟩) ∧ T 2 = Bo false ∧ ¬StrOk s)) (by
      clear hL
      rintro k ⟨T, σ, nx⟩ hlt ⟨hn, hσ, h1, h16, h17, h18, hi⟩
      simp only at hn hσ h1 h16 h17 h18
      have f1 : (k : Int) < (s.joints.length : Int) := by omega
      have f2 : (0 : Int) ≤ (k : Int) := by omega
      have f3 := wrap_id (n := (k : Int) + 1) (by omega) (by omega)
      have f4 := slot (c := cJoint) (s := 4) (fun _ => rfl) s.joints k hlt
      have f5 := slots_len (c := cJoint) (s := 4) (fun _ => rfl) s.joints
      have f6 : k * 4 + 4 ≤ s.joints.length * 4 := by omega
      have f9 := slot_ne (c := cJoint) (s := 4) (fun _ => rfl) (by omega) s.joints k hlt
      have t1 := sJointOk s.joints[k] (h.1.1 _ (List.getElem_mem hlt))
      have t2 := sJointNamed s s.joints[k].name h.1.2.2
      have nz : ¬0 = nx := by omega
      cases hj : jointB s.joints[k] with
      | false =>
        rw [hj] at t1
        refine .inr ⟨_, by simp only [go_sem, h1, h16, h17, h18, f1, f2, f4, f5, f6, f9, t1, nz]; rfl, by simp, .inr ⟨_, _, _, rfl, ?_, fun hn => ?_⟩⟩
        · simp only [go_sem]
        · have := (hn.2.2.1 k hlt).1
          rw [hj] at this; cases this
      | true =>
        rw [hj] at t1
        by_cases hk : ix (isNamedJ s.joints[k].name) s.joints = k
        · rw [hk] at t2
          refine .inl ⟨_, by simp only [go_sem, h1, h16, h17, h18, hσ, f1, f2, f3, f4, f5, f6, f9, t1, t2, nz]; rfl, ?_⟩
          simp only [go_sem, h1, h16, h17, hσ, nz]
          refine ⟨by omega, rfl, fun i hi' hik => ?_⟩
          rcases Nat.lt_or_eq_of_le (Nat.le_of_lt_succ hik) with q | q
          · exact hi i hi' q
          · subst q; exact ⟨hj, hk⟩
        · have hk' : (ix (isNamedJ s.joints[k].name) s.joints != (k : Int)) = true := by simpa using hk
          refine .inr ⟨_, by simp only [go_sem, h1, h16, h17, h18, hσ, f1, f2, f4, f5, f6, f9, t1, t2, hk', nz]; rfl, by simp, .inr ⟨_, _, _, rfl, ?_, fun hn => hk (hn.2.2.1 k hlt).2⟩⟩
          simp only [go_sem]) (by
      clear hL
      rintro ⟨T, σ, nx⟩ ⟨hn, hσ, h1, h16, h17, h18, hi⟩
      simp only at hn hσ h1 h16 h17 h18
      exact ⟨_, by simp only [go_sem, h17, h18, Int.lt_irrefl]; rfl, by simp, .inl ⟨_, _, _, rfl, hn, hσ, by simp only [go_sem, h1], fun i h => hi i h h⟩⟩) (by
      simp only [go_sem]
      exact fun i _ h => absurd h (Nat.not_lt_zero _))
  rcases hr with ⟨T, σ, nx, rfl, hnx, hσ, h1, hj⟩ | ⟨T, σ, nx, rfl, h2, hn⟩
  · clear hL
    have e4 := wrap_id (n := (s.joints.length : Int) - 1) (by omega) (by omega)
    simp only [go_sem, hσ, h1, e4]
    generalize hL : evLoopI _ _ = y
    obtain ⟨r, rfl, hr⟩ := count_rule hL s.members.length (fun k st => 0 < st.nx ∧ st.σ 0 = some ⟨cStructure s, 0, true⟩ ∧ st.T 1 = .rp 0 0 ∧ st.T 5 = I ((s.joints.length : Int) - 1) ∧ st.T 45 = LL cMember s.members ∧ st.T 46 = I s.members.length ∧ st.T 47 = I k ∧ ∀ i (h : i < s.members.length), i < k → memB s.joints s.members[i] = true)
      (fun r => (∃ T σ nx, r = (.exit 2, ⟨T, σ, nx⟩) ∧ ∀ i (h : i < s.members.length), memB s.joints s.members[i] = true) ∨ (∃ T σ nx, r = (.ret, ⟨T, σ, nx⟩) ∧ T 2 = Bo false ∧ ¬StrOk s)) (by
        clear hL
        rintro k ⟨T, σ, nx⟩ hlt ⟨hn, hσ, h1, h5, h45, h46, h47, hi⟩
        simp only at hn hσ h1 h5 h45 h46 h47
        have f1 : (k : Int) < (s.members.length : Int) := by omega
        have f2 : (0 : Int) ≤ (k : Int) := by omega
        have f3 := wrap_id (n := (k : Int) + 1) (by omega) (by omega)
        have f4 := slot (c := cMember) (s := 3) (fun _ => rfl) s.members k hlt
        have f5 := slots_len (c := cMember) (s := 3) (fun _ => rfl) s.members
        have f6 : k * 3 + 3 ≤ s.members.length * 3 := by omega
        have f9 := slot_ne (c := cMember) (s := 3) (fun _ => rfl) (by omega) s.members k hlt
        have no : memB s.joints s.members[k] = false → ¬StrOk s := fun hb hn => by
          rw [hn.2.2.2 _ (List.getElem_mem hlt)] at hb; cases hb
        obtain ⟨m, hmk⟩ : ∃ m, m = s.members[k] := ⟨_, rfl⟩
        rw [← hmk] at f4 no
        have t1 := l01In m.a 0 ((s.joints.length : Int) - 1)
        have t2 := l01In m.b 0 ((s.joints.length : Int) - 1)
        have t3 := l01In m.kind 1 3
        have nz : ¬0 = nx := by omega
        cases ha : inB m.a 0 ((s.joints.length : Int) - 1) with
        | false =>
          rw [ha] at t1
          refine .inr ⟨_, by simp only [go_sem, h1, h5, h45, h46, h47, hσ, f1, f2, f4, f5, f6, f9, t1, nz]; rfl, by simp, .inr ⟨_, _, _, rfl, by simp only [go_sem], no (memB_no fun hm => ?_)⟩⟩
          exact inB_false_l ha ⟨hm.1, by have := hm.2.1; omega⟩
        | true =>
        rw [ha] at t1
        cases hb : inB m.b 0 ((s.joints.length : Int) - 1) with
        | false =>
          rw [hb] at t2
          refine .inr ⟨_, by simp only [go_sem, h1, h5, h45, h46, h47, hσ, f1, f2, f4, f5, f6, f9, t1, t2, nz]; rfl, by simp, .inr ⟨_, _, _, rfl, by simp only [go_sem], no (memB_no fun hm => ?_)⟩⟩
          exact inB_false_l hb ⟨hm.2.2.1, by have := hm.2.2.2.1; omega⟩
        | true =>
        rw [hb] at t2
        cases hc : inB m.kind 1 3 with
        | false =>
          rw [hc] at t3
          refine .inr ⟨_, by simp only [go_sem, h1, h5, h45, h46, h47, hσ, f1, f2, f4, f5, f6, f9, t1, t2, t3, nz]; rfl, by simp, .inr ⟨_, _, _, rfl, by simp only [go_sem], no (memB_no fun hm => ?_)⟩⟩
          exact inB_false_l hc ⟨hm.2.2.2.2.1, hm.2.2.2.2.2⟩
        | true =>
        rw [hc] at t3
        have qa := inB_true ha
        have qb := inB_true hb
        have qc := inB_true hc
        have a1 : 0 ≤ m.a := qa.1
        have a2 : m.a < s.joints.length := by omega
        have b1 : 0 ≤ m.b := qb.1
        have b2 : m.b < s.joints.length := by omega
        have a3 : m.a.toNat < s.joints.length := by omega
        have b3 : m.b.toNat < s.joints.length := by omega
        have hp := memB_pair ⟨a1, a2, b1, b2, qc.1, qc.2⟩ (List.getElem?_eq_getElem a3) (List.getElem?_eq_getElem b3)
        have k4 := slot (c := cJoint) (s := 4) (fun _ => rfl) s.joints _ a3
        have g4 := slot (c := cJoint) (s := 4) (fun _ => rfl) s.joints _ b3
        have k5 := slots_len (c := cJoint) (s := 4) (fun _ => rfl) s.joints
        have k6 : m.a.toNat * 4 + 4 ≤ s.joints.length * 4 := by omega
        have g6 : m.b.toNat * 4 + 4 ≤ s.joints.length * 4 := by omega
        have k9 := slot_ne (c := cJoint) (s := 4) (fun _ => rfl) (by omega) s.joints _ a3
        generalize s.joints[m.a.toNat] = a at *
        generalize s.joints[m.b.toNat] = b at *
        unfold pairB at hp
        have n1 : ¬nx = nx + 1 := by omega
        have n2 : ¬nx = nx + 1 + 1 := by omega
        have n3 : ¬nx + 1 = nx + 1 + 1 := by omega
        have n4 : ¬0 = nx + 1 := by omega
        have n5 : ¬0 = nx + 1 + 1 := by omega
        cases hx : (a.x == b.x) <;> cases hy : (a.y == b.y) <;> cases hfa : a.fixed <;> cases hfb : b.fixed <;> simp only [hx, hy, hfa, hfb, Bool.not_true, Bool.not_false, Bool.or_true, Bool.true_or, Bool.or_false, Bool.and_true, Bool.and_false, Bool.true_and, Bool.false_and] at hp <;>
        first
        | (refine .inl ⟨_, by simp only [go_sem, h1, h5, h45, h46, h47, hσ, f1, f2, f3, f4, f5, f6, f9, t1, t2, t3, nz, a1, a2, b1, b2, k4, g4, k5, k6, g6, k9, n1, n2, n3, n4, n5, hx, hy, hfa, hfb]; rfl, ?_⟩
           simp only [go_sem, h1, h5, h45, h46, hσ, nz, n4, n5]
           refine ⟨by omega, rfl, fun i hi' hik => ?_⟩
           rcases Nat.lt_or_eq_of_le (Nat.le_of_lt_succ hik) with q | q
           · exact hi i hi' q
           · subst q; rw [← hmk]; exact hp)
        | exact .inr ⟨_, by simp only [go_sem, h1, h5, h45, h46, h47, hσ, f1, f2, f4, f5, f6, f9, t1, t2, t3, nz, a1, a2, b1, b2, k4, g4, k5, k6, g6, k9, n1, n2, n3, n4, n5, hx, hy, hfa, hfb]; rfl, by simp, .inr ⟨_, _, _, rfl, by simp only [go_sem], no hp⟩⟩) (by
        clear hL
        rintro ⟨T, σ, nx⟩ ⟨hn, hσ, h1, h5, h45, h46, h47, hi⟩
        simp only at hn hσ h1 h46 h47
        exact ⟨_, by simp only [go_sem, h46, h47, Int.lt_irrefl]; rfl, by simp, .inl ⟨_, _, _, rfl, fun i h => hi i h h⟩⟩) (by
        simp only [go_sem, h1, hσ]
        exact ⟨hnx, fun i _ h => absurd h (Nat.not_lt_zero _)⟩)
    rcases hr with ⟨T, σ, nx, rfl, hm⟩ | ⟨T, σ, nx, rfl, h2, hn⟩
    · have : StrOk s := ⟨by omega, by omega, hj, fun m hmm => by obtain ⟨i, hi, rfl⟩ := List.getElem_of_mem hmm; exact hm i hi⟩
      simp only [go_sem, pb_true this]
    · simp only [go_sem, h2, pb_false hn]
  · simp only [go_sem, h2, pb_false hn]

/-! ### Loads and limits -/
def LoadGood (n : Nat) (l : List Int) : Prop := l.length = 2 * n ∧ ∀ x ∈ l, inB x (-100) 100 = true
def LimGood (n : Nat) (l : List Int) : Prop := l.length = n ∧ ∀ x ∈ l, inB x 0 1000 = true
theorem closefitsLoad (x : Int) : fn Try.prog conv ext 183 [I x] = some (Bo (!inB x (-100) 100)) := by
  have h1 := isForce x
  rw [fn_eq, ev_eqQ (rs := [.tmp 2]) [] rfl Try.func183 rfl rfl (by kernel_rfl) (by kernel_rfl)]
  simp only [go_sem, h1]
theorem closefitsLimits (x : Int) : fn Try.prog conv ext 164 [I x] = some (Bo (!inB x 0 1000)) := by
  have h1 := isLimit x
  rw [fn_eq, ev_eqQ (rs := [.tmp 2]) [] rfl Try.func164 rfl rfl (by kernel_rfl) (by kernel_rfl)]
  simp only [go_sem, h1]
theorem ifitsLoad (row : List V) (off : Nat) (js : List Joint) (l : List Int) (hr : row[off]? = some (LL cJoint js)) (hj : js.length ≤ 140737488351232) (hl : l.length ≤ maxLen) : fn Try.prog conv ext 163 [.tp row off, LI l] = some (Bo (pb (LoadGood js.length l))) := by
  have e1 := wrap_id (n := 2 * (js.length : Int)) (by omega) (by omega)
  have h1 := hasInt l 183 (fun x => !inB x (-100) 100) hl (by rfl) (fun x _ => closefitsLoad x)
  rw [fn_eq, ev_eqQ (rs := [.tmp 4]) [] rfl Try.func163 rfl rfl (by kernel_rfl) (by kernel_rfl)]
  by_cases h2 : (l.length : Int) = 2 * (js.length : Int)
  · have h2' : ((l.length : Int) == 2 * (js.length : Int)) = true := by simpa using h2
    have : pb (LoadGood js.length l) = !decide (0 ≤ ix (fun x => !inB x (-100) 100) l) := by
      refine (pb_eq ?_).symm
      rw [Bool.not_eq_true', decide_eq_false_iff_not, Int.not_le, ix_lt]
      exact ⟨fun hq => ⟨by omega, fun m hm => by simpa using hq m hm⟩, fun hq m hm => by simp [hq.2 m hm]⟩
    rw [this]
    simp only [go_sem, hr, e1, h1, h2']
  · have h2' : ((l.length : Int) == 2 * (js.length : Int)) = false := by simpa using h2
    rw [pb_false (fun hn => h2 (by have := hn.1; omega))]
    simp only [go_sem, hr, e1, h2']
theorem ifitsLimits (row : List V) (off : Nat) (ms : List Member) (l : List Int) (hr : row[off + 1]? = some (LL cMember ms)) (hl : l.length ≤ maxLen) : fn Try.prog conv ext 136 [.tp row off, LI l] = some (Bo (pb (LimGood ms.length l))) := by
  have h1 := hasInt l 164 (fun x => !inB x 0 1000) hl (by rfl) (fun x _ => closefitsLimits x)
  rw [fn_eq, ev_eqQ (rs := [.tmp 4]) [] rfl Try.func136 rfl rfl (by kernel_rfl) (by kernel_rfl)]
  by_cases h2 : (l.length : Int) = (ms.length : Int)
  · have h2' : ((l.length : Int) == (ms.length : Int)) = true := by simpa using h2
    have : pb (LimGood ms.length l) = !decide (0 ≤ ix (fun x => !inB x 0 1000) l) := by
      refine (pb_eq ?_).symm
      rw [Bool.not_eq_true', decide_eq_false_iff_not, Int.not_le, ix_lt]
      exact ⟨fun hq => ⟨by omega, fun m hm => by simpa using hq m hm⟩, fun hq m hm => by simp [hq.2 m hm]⟩
    rw [this]
    simp only [go_sem, hr, h1, h2']
  · have h2' : ((l.length : Int) == (ms.length : Int)) = false := by simpa using h2
    rw [pb_false (fun hn => h2 (by have := hn.1; omega))]
    simp only [go_sem, hr, h2']
theorem iLoadOk (s : Structure) (l : List Int) (h : okStructure s) (hl : l.length ≤ maxLen) : fn Try.prog conv ext 135 [.agg (cStructure s), LI l] = some (Bo (pb (StrOk s) && pb (LoadGood s.joints.length l))) := by
  have h1 := iStructureOk s h
  have h2 := ifitsLoad (cStructure s) 0 s.joints l rfl (by have := h.1.2.1; omega) hl
  rw [fn_eq, ev_eqQ (rs := [.tmp 4]) [] rfl Try.func135 rfl rfl (by kernel_rfl) (by kernel_rfl)]
  generalize pb (StrOk s) = b at *
  cases b <;> simp only [go_sem, h1, h2]
theorem sLoadOk (s : Structure) (l : List Int) (h : okStructure s) (hl : l.length ≤ maxLen) : fn Try.prog conv ext 130 [.agg (cStructure s), LI l] = some (Bo (pb (StrOk s) && pb (LoadGood s.joints.length l))) := by
  have h1 := sStructureOk s h
  have e2 : (l.length : Int) ≤ 9223372036854775807 := by unfold maxLen at hl; omega
  have e1 := wrap_id (n := 2 * (s.joints.length : Int)) (by have := h.1.2.1; have := h.2.2.1; omega) (by have := h.1.2.1; have := h.2.2.1; omega)
  rw [fn_eq, ev_eqQ (rs := [.tmp 4]) [] rfl Try.func130 rfl rfl (by kernel_rfl) (by kernel_rfl)]
  generalize pb (StrOk s) = b at *
  cases b with
  | false => simp only [go_sem, h1]
  | true =>
  by_cases h2 : (l.length : Int) = 2 * (s.joints.length : Int)
  · have h2' : ((l.length : Int) != 2 * (s.joints.length : Int)) = false := by simpa using h2
    simp only [go_sem, h1, e1, h2']
    generalize hL : evLoopI _ _ = y
    obtain ⟨r, rfl, hr⟩ := count_rule hL l.length (fun k st => st.T 19 = LI l ∧ st.T 20 = I l.length ∧ st.T 21 = I k ∧ ∀ i (h : i < l.length), i < k → inB l[i] (-100) 100 = true)
      (fun r => (∃ T σ nx, r = (.exit 0, ⟨T, σ, nx⟩) ∧ LoadGood s.joints.length l) ∨ (∃ T σ nx, r = (.ret, ⟨T, σ, nx⟩) ∧ T 4 = Bo false ∧ ¬LoadGood s.joints.length l)) (by
        clear hL
        rintro k ⟨T, σ, nx⟩ hlt ⟨h19, h20, h21, hi⟩
        simp only at h19 h20 h21
        have f1 : (k : Int) < (l.length : Int) := by omega
        have f2 : (0 : Int) ≤ (k : Int) := by omega
        have f3 := wrap_id (n := (k : Int) + 1) (by omega) (by omega)
        have f4 : (l.flatMap cI)[k]? = some (I l[k]) := slot1 I l k hlt
        have f9 := slot_ne (c := cI) (s := 1) (fun _ => rfl) (by omega) l k hlt
        have t1 := l01In l[k] (-100) 100
        cases hb : inB l[k] (-100) 100 with
        | true =>
          rw [hb] at t1
          refine .inl ⟨_, by simp only [go_sem, h19, h20, h21, f1, f2, f3, f4, f9, t1]; rfl, ?_⟩
          simp only [go_sem, h19, h20]
          refine ⟨rfl, fun i hi' hik => ?_⟩
          rcases Nat.lt_or_eq_of_le (Nat.le_of_lt_succ hik) with q | q
          · exact hi i hi' q
          · subst q; exact hb
        | false =>
          rw [hb] at t1
          refine .inr ⟨_, by simp only [go_sem, h19, h20, h21, f1, f2, f4, f9, t1]; rfl, by simp, .inr ⟨_, _, _, rfl, by simp only [go_sem], fun hn => ?_⟩⟩
          have := hn.2 _ (List.getElem_mem hlt)
          rw [hb] at this; cases this) (by
        clear hL
        rintro ⟨T, σ, nx⟩ ⟨h19, h20, h21, hi⟩
        simp only at h19 h20 h21
        exact ⟨_, by simp only [go_sem, h20, h21, Int.lt_irrefl]; rfl, by simp, .inl ⟨_, _, _, rfl, by omega, fun x hx => by obtain ⟨i, hi', rfl⟩ := List.getElem_of_mem hx; exact hi i hi' hi'⟩⟩) (by
        simp only [go_sem]
        exact fun i _ h => absurd h (Nat.not_lt_zero _))
    rcases hr with ⟨T, σ, nx, rfl, hm⟩ | ⟨T, σ, nx, rfl, h2, hn⟩
    · simp only [go_sem, pb_true hm]
    · simp only [go_sem, h2, pb_false hn]
  · have h2' : ((l.length : Int) != 2 * (s.joints.length : Int)) = true := by simpa using h2
    rw [pb_false (p := LoadGood s.joints.length l) (fun hn => h2 (by have := hn.1; omega))]
    simp only [go_sem, h1, e1, h2']
theorem sLimitsOk (s : Structure) (l : List Int) (h : okStructure s) (hl : l.length ≤ maxLen) : fn Try.prog conv ext 131 [.agg (cStructure s), LI l] = some (Bo (pb (StrOk s) && pb (LimGood s.members.length l))) := by
  have h1 := sStructureOk s h
  have e2 : (l.length : Int) ≤ 9223372036854775807 := by unfold maxLen at hl; omega
  have e1 := wrap_id (n := (s.members.length : Int)) (by have := h.1.2.1; have := h.2.2.1; omega) (by have := h.1.2.1; have := h.2.2.1; omega)
  rw [fn_eq, ev_eqQ (rs := [.tmp 4]) [] rfl Try.func131 rfl rfl (by kernel_rfl) (by kernel_rfl)]
  generalize pb (StrOk s) = b at *
  cases b with
  | false => simp only [go_sem, h1]
  | true =>
  by_cases h2 : (l.length : Int) = (s.members.length : Int)
  · have h2' : ((l.length : Int) != (s.members.length : Int)) = false := by simpa using h2
    simp only [go_sem, h1, e1, h2']
    generalize hL : evLoopI _ _ = y
    obtain ⟨r, rfl, hr⟩ := count_rule hL l.length (fun k st => st.T 18 = LI l ∧ st.T 19 = I l.length ∧ st.T 20 = I k ∧ ∀ i (h : i < l.length), i < k → inB l[i] 0 1000 = true)
      (fun r => (∃ T σ nx, r = (.exit 0, ⟨T, σ, nx⟩) ∧ LimGood s.members.length l) ∨ (∃ T σ nx, r = (.ret, ⟨T, σ, nx⟩) ∧ T 4 = Bo false ∧ ¬LimGood s.members.length l)) (by
        clear hL
        rintro k ⟨T, σ, nx⟩ hlt ⟨h19, h20, h21, hi⟩
        simp only at h19 h20 h21
        have f1 : (k : Int) < (l.length : Int) := by omega
        have f2 : (0 : Int) ≤ (k : Int) := by omega
        have f3 := wrap_id (n := (k : Int) + 1) (by omega) (by omega)
        have f4 : (l.flatMap cI)[k]? = some (I l[k]) := slot1 I l k hlt
        have f9 := slot_ne (c := cI) (s := 1) (fun _ => rfl) (by omega) l k hlt
        have t1 := l01In l[k] 0 1000
        cases hb : inB l[k] 0 1000 with
        | true =>
          rw [hb] at t1
          refine .inl ⟨_, by simp only [go_sem, h19, h20, h21, f1, f2, f3, f4, f9, t1]; rfl, ?_⟩
          simp only [go_sem, h19, h20]
          refine ⟨rfl, fun i hi' hik => ?_⟩
          rcases Nat.lt_or_eq_of_le (Nat.le_of_lt_succ hik) with q | q
          · exact hi i hi' q
          · subst q; exact hb
        | false =>
          rw [hb] at t1
          refine .inr ⟨_, by simp only [go_sem, h19, h20, h21, f1, f2, f4, f9, t1]; rfl, by simp, .inr ⟨_, _, _, rfl, by simp only [go_sem], fun hn => ?_⟩⟩
          have := hn.2 _ (List.getElem_mem hlt)
          rw [hb] at this; cases this) (by
        clear hL
        rintro ⟨T, σ, nx⟩ ⟨h19, h20, h21, hi⟩
        simp only at h19 h20 h21
        exact ⟨_, by simp only [go_sem, h20, h21, Int.lt_irrefl]; rfl, by simp, .inl ⟨_, _, _, rfl, by omega, fun x hx => by obtain ⟨i, hi', rfl⟩ := List.getElem_of_mem hx; exact hi i hi' hi'⟩⟩) (by
        simp only [go_sem]
        exact fun i _ h => absurd h (Nat.not_lt_zero _))
    rcases hr with ⟨T, σ, nx, rfl, hm⟩ | ⟨T, σ, nx, rfl, h2, hn⟩
    · simp only [go_sem, pb_true hm]
    · simp only [go_sem, h2, pb_false hn]
  · have h2' : ((l.length : Int) != (s.members.length : Int)) = true := by simpa using h2
    rw [pb_false (p := LimGood s.members.length l) (fun hn => h2 (by have := hn.1; omega))]
    simp only [go_sem, h1, e1, h2']
noncomputable def stanceB (t : Stance) : Bool := pb (NameOk t.name) && ((pb (StrOk t.st) && pb (LoadGood t.st.joints.length t.load)) && pb (LimGood t.st.members.length t.limits))
theorem iStanceOk (t : Stance) (h : okStance t) : fn Try.prog conv ext 99 [.agg (cStance t)] = some (Bo (stanceB t)) := by
  have h1 := iIsName t.name h.1
  have h2 := iLoadOk t.st t.load h.2.1 h.2.2.1.2.2
  have h3 := ifitsLimits (cStance t) 1 t.st.members t.limits rfl h.2.2.2.2.2
  unfold stanceB
  generalize pb (NameOk t.name) = b1 at *
  generalize (pb (StrOk t.st) && pb (LoadGood t.st.joints.length t.load)) = b2 at *
  rw [fn_eq, ev_eqQ (rs := [.tmp 2]) [] rfl Try.func99 rfl rfl (by kernel_rfl) (by kernel_rfl)]
  cases b1 <;> cases b2 <;> simp only [go_sem, h1, h2, h3]
theorem sStanceOk (t : Stance) (h : okStance t) : fn Try.prog conv ext 95 [.agg (cStance t)] = some (Bo (stanceB t)) := by
  have h1 := sIsName t.name h.1
  have h2 := sLoadOk t.st t.load h.2.1 h.2.2.1.2.2
  have h3 := sLimitsOk t.st t.limits h.2.1 h.2.2.2.2.2
  unfold stanceB
  generalize pb (NameOk t.name) = b1 at *
  generalize pb (StrOk t.st) = b2 at *
  generalize pb (LoadGood t.st.joints.length t.load) = b3 at *
  rw [fn_eq, ev_eqQ (rs := [.tmp 2]) [] rfl Try.func95 rfl rfl (by kernel_rfl) (by kernel_rfl)]
  cases b1 <;> cases b2 <;> cases b3 <;> simp only [go_sem, h1, h2, h3]
end Go.Proofs.Ytlkpocljgikpgaa
namespace Go.Proofs.Ytlkpocljgikpgaa
open Go Go.TV
set_option maxRecDepth 100000 in
theorem eqMoves (x y : Operand) (a b c d : Int) : evBin Try.prog .eql 124 x y (.agg [I a, I b]) (.agg [I c, I d]) = some (Bo ((a == c) && (b == d))) := by
  refine ev_eql_agg (us := [.int .i64 a, .int .i64 b]) (vs := [.int .i64 c, .int .i64 d]) (by kernel_rfl) Try.underlying124 (by kernel_rfl) rfl rfl ?_
  refine (ep_fields_cons (a := .int .i64 a) (b := .int .i64 c) (r := a == c) (by decide) (by kernel_rfl) (by kernel_rfl) (ep_equalIn_int _ _ _ _ _ _ Try.underlying3)).trans ?_
  cases (a == c)
  · rfl
  · refine (ep_fields_cons (a := .int .i64 b) (b := .int .i64 d) (r := b == d) (by decide) (by kernel_rfl) (by kernel_rfl) (ep_equalIn_int _ _ _ _ _ _ Try.underlying3)).trans ?_
    cases (b == d) <;> rfl
attribute [go_sem] eqMoves
end Go.Proofs.Ytlkpocljgikpgaa
namespace Go.Proofs.Ytlkpocljgikpgaa
open Go Go.TV

def sameM (m o : TV.Move) : Bool := (m.fr == o.fr) && (m.to == o.to)
theorem sameM_comm (m o : TV.Move) : sameM m o = sameM o m := by
  unfold sameM
  rw [Bool.beq_comm (a := m.fr), Bool.beq_comm (a := m.to)]
theorem indexMove (xs : List TV.Move) (m : TV.Move) (h : xs.length ≤ maxLen) : fn Try.prog conv ext 101 [LL cMove xs, .agg (cMove m)] = some (I (ix (sameM m) xs)) := by
  have e2 : (xs.length : Int) ≤ 9223372036854775807 := by unfold maxLen at h; omega
  rw [fn_eq, ev_eqQ (rs := [.tmp 4]) [] rfl Try.func101 rfl rfl (by kernel_rfl) (by kernel_rfl)]
  simp only [go_sem]
  generalize hL : evLoopI _ _ = y
  obtain ⟨r, rfl, hr⟩ := count_rule hL xs.length (fun k st => 0 < st.nx ∧ st.σ 0 = some ⟨cMove m, 0, true⟩ ∧ st.T 0 = LL cMove xs ∧ st.T 3 = .rp 0 0 ∧ st.T 7 = I xs.length ∧ st.T 8 = I k ∧ ∀ i (h : i < xs.length), i < k → sameM m xs[i] = false)
    (fun r => (∃ T σ nx, r = (.exit 0, ⟨T, σ, nx⟩) ∧ ix (sameM m) xs = -1) ∨ (∃ T σ nx, r = (.ret, ⟨T, σ, nx⟩) ∧ T 4 = I (ix (sameM m) xs))) (by
      clear hL
      rintro k ⟨T, σ, nx⟩ hlt ⟨hn, hσ, h0, h1, h7, h8, hi⟩
      simp only at hn hσ h0 h1 h7 h8
      have f1 : (k : Int) < (xs.length : Int) := by omega
      have f2 : (0 : Int) ≤ (k : Int) := by omega
      have f3 := wrap_id (n := (k : Int) + 1) (by omega) (by omega)
      have f4 := slot (c := cMove) (s := 2) (fun _ => rfl) xs k hlt
      have f5 := slots_len (c := cMove) (s := 2) (fun _ => rfl) xs
      have f6 : k * 2 + 2 ≤ xs.length * 2 := by omega
      have f9 := slot_ne (c := cMove) (s := 2) (fun _ => rfl) (by omega) xs k hlt
      cases hp : sameM m xs[k] with
      | true =>
        refine .inr ⟨_, by unfold sameM at hp; simp only [go_sem, h0, h1, h7, h8, hn, hσ, f1, f2, f4, f5, f6, f9, hp]; rfl, by simp, .inr ⟨_, _, _, rfl, ?_⟩⟩
        simp only [go_sem]
        rw [ix_at hlt hi hp]
      | false =>
        refine .inl ⟨_, by unfold sameM at hp; simp only [go_sem, h0, h1, h7, h8, hn, hσ, f1, f2, f3, f4, f5, f6, f9, hp]; rfl, ?_⟩
        simp only [go_sem, h0, h1, h7, hσ]
        exact ⟨hn, rfl, ix_step hlt hi hp⟩) (by
      clear hL
      rintro ⟨T, σ, nx⟩ ⟨hn, hσ, h0, h1, h7, h8, hi⟩
      simp only at h7 h8
      exact ⟨_, by simp only [go_sem, h7, h8, Int.lt_irrefl]; rfl, by simp, .inl ⟨_, _, _, rfl, ix_none fun i h => hi i h h⟩⟩) (by
      simp only [go_sem]
      exact fun i _ h => absurd h (Nat.not_lt_zero _))
  rcases hr with ⟨T, σ, nx, rfl, h1⟩ | ⟨T, σ, nx, rfl, h1⟩
  · simp only [go_sem, h1]
  · simp only [go_sem, h1]

def MoveGood (n : Nat) (m : TV.Move) : Prop := 0 ≤ m.fr ∧ m.fr < n ∧ 0 ≤ m.to ∧ m.to < n ∧ m.fr ≠ m.to
def YardGood (y : Yard) : Prop := y.stances.length ≤ 6 ∧ y.moves.length ≤ 12 ∧ (∀ i (h : i < y.stances.length), stanceB y.stances[i] = true ∧ ix (isNamed y.stances[i].name) y.stances = i) ∧ ∀ i (h : i < y.moves.length), MoveGood y.stances.length y.moves[i] ∧ ix (sameM y.moves[i]) y.moves = i
theorem iYardOk (s : Yard) (h : okYard s) : fn Try.prog conv ext 69 [.agg (cYard s)] = some (Bo (pb (YardGood s))) := by
  have e2 : (s.stances.length : Int) ≤ 9223372036854775807 := by have := h.1.2.1; omega
  have e3 : (s.moves.length : Int) ≤ 9223372036854775807 := by have := h.2.1.2.1; omega
  rw [fn_eq, ev_eqQ (rs := [.tmp 2]) [] rfl Try.func69 rfl rfl (by kernel_rfl) (by kernel_rfl)]
  by_cases c1 : (6 : Int) < s.stances.length
  · rw [pb_false (fun hn => by have := hn.1; omega)]
    simp only [go_sem, c1]
  by_cases c2 : (12 : Int) < s.moves.length
  · rw [pb_false (fun hn => by have := hn.2.1; omega)]
    simp only [go_sem, c1, c2]
  simp only [go_sem, c1, c2]
  generalize hL : evLoopI _ _ = y
  obtain ⟨r, rfl, hr⟩ := count_rule hL s.stances.length (fun k st => 0 < st.nx ∧ st.σ 0 = some ⟨cYard s, 0, true⟩ ∧ st.T 1 = .rp 0 0 ∧ st.T 20 = LL cStance s.stances ∧ st.T 21 = I s.stances.length ∧ st.T 22 = I k ∧ st.T 3 = I s.stances.length ∧ ∀ i (h : i < s.stances.length), i < k → stanceB s.stances[i] = true ∧ ix (isNamed s.stances[i].name) s.stances = i)
    (fun r => (∃ T σ nx, r = (.exit 0, ⟨T, σ, nx⟩) ∧ 0 < nx ∧ σ 0 = some ⟨cYard s, 0, true⟩ ∧ T 1 = .rp 0 0 ∧ T 3 = I s.stances.length ∧ ∀ i (h : i < s.stances.length), stanceB s.stances[i] = true ∧ ix (isNamed s.stances[i].name) s.stances = i) ∨ (∃ T σ nx, r = (.ret, ⟨T, σ, nx⟩) ∧ T 2 = Bo false ∧ ¬YardGood s)) (by
      clear hL
      rintro k ⟨T, σ, nx⟩ hlt ⟨hn, hσ, h1, h16, h17, h18, h3, hi⟩
      simp only at hn hσ h1 h16 h17 h18 h3
      have f1 : (k : Int) < (s.stances.length : Int) := by omega
      have f2 : (0 : Int) ≤ (k : Int) := by omega
      have f3 := wrap_id (n := (k : Int) + 1) (by omega) (by omega)
      have f4 := slot (c := cStance) (s := 5) (fun _ => rfl) s.stances k hlt
      have f5 := slots_len (c := cStance) (s := 5) (fun _ => rfl) s.stances
      have f6 : k * 5 + 5 ≤ s.stances.length * 5 := by omega
      have f9 := slot_ne (c := cStance) (s := 5) (fun _ => rfl) (by omega) s.stances k hlt
      have t1 := iStanceOk s.stances[k] (h.1.1 _ (List.getElem_mem hlt))
      have t2 := iStanceNamed s s.stances[k].name h.1.2.2
      have nz : ¬0 = nx := by omega
      cases hj : stanceB s.stances[k] with
      | false =>
        rw [hj] at t1
        refine .inr ⟨_, by simp only [go_sem, h1, h16, h17, h18, f1, f2, f4, f5, f6, f9, t1, nz]; rfl, by simp, .inr ⟨_, _, _, rfl, ?_, fun hn => ?_⟩⟩
        · simp only [go_sem]
        · have := (hn.2.2.1 k hlt).1
          rw [hj] at this; cases this
      | true =>
        rw [hj] at t1
        by_cases hk : ix (isNamed s.stances[k].name) s.stances = k
        · rw [hk] at t2
          refine .inl ⟨_, by simp only [go_sem, h1, h16, h17, h18, hσ, f1, f2, f3, f4, f5, f6, f9, t1, t2, nz]; rfl, ?_⟩
          simp only [go_sem, h1, h16, h17, hσ, nz, h3]
          refine ⟨by omega, rfl, fun i hi' hik => ?_⟩
          rcases Nat.lt_or_eq_of_le (Nat.le_of_lt_succ hik) with q | q
          · exact hi i hi' q
          · subst q; exact ⟨hj, hk⟩
        · have hk' : (ix (isNamed s.stances[k].name) s.stances != (k : Int)) = true := by simpa using hk
          refine .inr ⟨_, by simp only [go_sem, h1, h16, h17, h18, hσ, f1, f2, f4, f5, f6, f9, t1, t2, hk', nz]; rfl, by simp, .inr ⟨_, _, _, rfl, ?_, fun hn => hk (hn.2.2.1 k hlt).2⟩⟩
          simp only [go_sem]) (by
      clear hL
      rintro ⟨T, σ, nx⟩ ⟨hn, hσ, h1, h16, h17, h18, h3, hi⟩
      simp only at hn hσ h1 h16 h17 h18 h3
      exact ⟨_, by simp only [go_sem, h17, h18, Int.lt_irrefl]; rfl, by simp, .inl ⟨_, _, _, rfl, hn, hσ, by simp only [go_sem, h1], by simp only [go_sem, h3], fun i h => hi i h h⟩⟩) (by
      simp only [go_sem]
      exact fun i _ h => absurd h (Nat.not_lt_zero _))
  rcases hr with ⟨T, σ, nx, rfl, hnx, hσ, h1, h3, hj⟩ | ⟨T, σ, nx, rfl, h2, hn⟩
  · clear hL
    simp only [go_sem, hσ, h1]
    generalize hL : evLoopI _ _ = y
    obtain ⟨r, rfl, hr⟩ := count_rule hL s.moves.length (fun k st => 0 < st.nx ∧ st.σ 0 = some ⟨cYard s, 0, true⟩ ∧ st.T 1 = .rp 0 0 ∧ st.T 3 = I s.stances.length ∧ st.T 40 = LL cMove s.moves ∧ st.T 41 = I s.moves.length ∧ st.T 42 = I k ∧ ∀ i (h : i < s.moves.length), i < k → MoveGood s.stances.length s.moves[i] ∧ ix (sameM s.moves[i]) s.moves = i)
      (fun r => (∃ T σ nx, r = (.exit 2, ⟨T, σ, nx⟩) ∧ ∀ i (h : i < s.moves.length), MoveGood s.stances.length s.moves[i] ∧ ix (sameM s.moves[i]) s.moves = i) ∨ (∃ T σ nx, r = (.ret, ⟨T, σ, nx⟩) ∧ T 2 = Bo false ∧ ¬YardGood s)) (by
        clear hL
        rintro k ⟨T, σ, nx⟩ hlt ⟨hn, hσ, h1, h5, h45, h46, h47, hi⟩
        simp only at hn hσ h1 h5 h45 h46 h47
        have f1 : (k : Int) < (s.moves.length : Int) := by omega
        have f2 : (0 : Int) ≤ (k : Int) := by omega
        have f3 := wrap_id (n := (k : Int) + 1) (by omega) (by omega)
        have f4 := slot (c := cMove) (s := 2) (fun _ => rfl) s.moves k hlt
        have f5 := slots_len (c := cMove) (s := 2) (fun _ => rfl) s.moves
        have f6 : k * 2 + 2 ≤ s.moves.length * 2 := by omega
        have f9 := slot_ne (c := cMove) (s := 2) (fun _ => rfl) (by omega) s.moves k hlt
        have no : ¬MoveGood s.stances.length s.moves[k] → ¬YardGood s := fun hb hn => hb (hn.2.2.2 k hlt).1
        have no2 : ¬ix (sameM s.moves[k]) s.moves = k → ¬YardGood s := fun hb hn => hb (hn.2.2.2 k hlt).2
        have done : MoveGood s.stances.length s.moves[k] → ix (sameM s.moves[k]) s.moves = k → ∀ i (h : i < s.moves.length), i < k + 1 → MoveGood s.stances.length s.moves[i] ∧ ix (sameM s.moves[i]) s.moves = i := fun g1 g2 i hi' hik => by
          rcases Nat.lt_or_eq_of_le (Nat.le_of_lt_succ hik) with q | q
          · exact hi i hi' q
          · subst q; exact ⟨g1, g2⟩
        have nz : ¬0 = nx := by omega
        have t1 := indexMove s.moves s.moves[k] h.2.1.2.2
        generalize hix : ix (sameM s.moves[k]) s.moves = ii at t1 no2 done
        obtain ⟨m, hmk⟩ : ∃ m, m = s.moves[k] := ⟨_, rfl⟩
        rw [← hmk] at f4 no done t1
        by_cases c1 : m.fr < 0
        · refine .inr ⟨_, by simp only [go_sem, h1, h5, h45, h46, h47, hσ, f1, f2, f4, f5, f6, f9, nz, c1]; rfl, by simp, .inr ⟨_, _, _, rfl, by simp only [go_sem], no fun hm => ?_⟩⟩
          have := hm.1; omega
        by_cases c2 : (s.stances.length : Int) ≤ m.fr
        · refine .inr ⟨_, by simp only [go_sem, h1, h5, h45, h46, h47, hσ, f1, f2, f4, f5, f6, f9, nz, c1, c2]; rfl, by simp, .inr ⟨_, _, _, rfl, by simp only [go_sem], no fun hm => ?_⟩⟩
          have := hm.2.1; omega
        by_cases c3 : m.to < 0
        · refine .inr ⟨_, by simp only [go_sem, h1, h5, h45, h46, h47, hσ, f1, f2, f4, f5, f6, f9, nz, c1, c2, c3]; rfl, by simp, .inr ⟨_, _, _, rfl, by simp only [go_sem], no fun hm => ?_⟩⟩
          have := hm.2.2.1; omega
        by_cases c4 : (s.stances.length : Int) ≤ m.to
        · refine .inr ⟨_, by simp only [go_sem, h1, h5, h45, h46, h47, hσ, f1, f2, f4, f5, f6, f9, nz, c1, c2, c3, c4]; rfl, by simp, .inr ⟨_, _, _, rfl, by simp only [go_sem], no fun hm => ?_⟩⟩
          have := hm.2.2.2.1; omega
        by_cases c5 : m.fr = m.to
        · have c5' : (m.fr == m.to) = true := by simpa using c5
          exact .inr ⟨_, by simp only [go_sem, h1, h5, h45, h46, h47, hσ, f1, f2, f4, f5, f6, f9, nz, c1, c2, c3, c4, c5']; rfl, by simp, .inr ⟨_, _, _, rfl, by simp only [go_sem], no fun hm => hm.2.2.2.2 c5⟩⟩
        have c5' : (m.fr == m.to) = false := by simpa using c5
        by_cases c6 : ii = k
        · have c6' : (ii != (k : Int)) = false := by simpa using c6
          refine .inl ⟨_, by simp only [go_sem, h1, h5, h45, h46, h47, hσ, f1, f2, f3, f4, f5, f6, f9, nz, c1, c2, c3, c4, c5', c6', t1]; rfl, ?_⟩
          simp only [go_sem, h1, h5, h45, h46, hσ, nz]
          exact ⟨by omega, rfl, done ⟨by omega, by omega, by omega, by omega, c5⟩ c6⟩
        · have c6' : (ii != (k : Int)) = true := by simpa using c6
          exact .inr ⟨_, by simp only [go_sem, h1, h5, h45, h46, h47, hσ, f1, f2, f4, f5, f6, f9, nz, c1, c2, c3, c4, c5', c6', t1]; rfl, by simp, .inr ⟨_, _, _, rfl, by simp only [go_sem], no2 c6⟩⟩) (by
        clear hL
        rintro ⟨T, σ, nx⟩ ⟨hn, hσ, h1, h5, h45, h46, h47, hi⟩
        simp only at hn hσ h1 h46 h47
        exact ⟨_, by simp only [go_sem, h46, h47, Int.lt_irrefl]; rfl, by simp, .inl ⟨_, _, _, rfl, fun i h => hi i h h⟩⟩) (by
        simp only [go_sem, h1, hσ, h3]
        exact ⟨hnx, fun i _ h => absurd h (Nat.not_lt_zero _)⟩)
    rcases hr with ⟨T, σ, nx, rfl, hm⟩ | ⟨T, σ, nx, rfl, h2, hn⟩
    · have : YardGood s := ⟨by omega, by omega, hj, hm⟩
      simp only [go_sem, pb_true this]
    · simp only [go_sem, h2, pb_false hn]
  · simp only [go_sem, h2, pb_false hn]

theorem ix_before {α : Type} {p : α → Bool} {xs : List α} {k : Nat} (h : ix p xs = k) (i : Nat) (hi : i < xs.length) (hik : i < k) : p xs[i] = false := by
  unfold ix at h
  split at h
  · have : i < xs.findIdx p := by omega
    simpa using List.not_of_lt_findIdx this
  · omega
theorem sYardOk (s : Yard) (h : okYard s) : fn Try.prog conv ext 65 [.agg (cYard s)] = some (Bo (pb (YardGood s))) := by
  have e2 : (s.stances.length : Int) ≤ 9223372036854775807 := by have := h.1.2.1; omega
  have e3 : (s.moves.length : Int) ≤ 9223372036854775807 := by have := h.2.1.2.1; omega
  rw [fn_eq, ev_eqQ (rs := [.tmp 2]) [] rfl Try.func65 rfl rfl (by kernel_rfl) (by kernel_rfl)]
  by_cases c1 : (6 : Int) < s.stances.length
  · rw [pb_false (fun hn => by have := hn.1; omega)]
    simp only [go_sem, c1]
  by_cases c2 : (12 : Int) < s.moves.length
  · rw [pb_false (fun hn => by have := hn.2.1; omega)]
    simp only [go_sem, c1, c2]
  simp only [go_sem, c1, c2]
  generalize hL : evLoopI _ _ = y
  obtain ⟨r, rfl, hr⟩ := count_rule hL s.stances.length (fun k st => 0 < st.nx ∧ st.σ 0 = some ⟨cYard s, 0, true⟩ ∧ st.T 1 = .rp 0 0 ∧ st.T 21 = LL cStance s.stances ∧ st.T 22 = I s.stances.length ∧ st.T 23 = I k ∧ ∀ i (h : i < s.stances.length), i < k → stanceB s.stances[i] = true ∧ ix (isNamed s.stances[i].name) s.stances = i)
    (fun r => (∃ T σ nx, r = (.exit 0, ⟨T, σ, nx⟩) ∧ 0 < nx ∧ σ 0 = some ⟨cYard s, 0, true⟩ ∧ T 1 = .rp 0 0 ∧ ∀ i (h : i < s.stances.length), stanceB s.stances[i] = true ∧ ix (isNamed s.stances[i].name) s.stances = i) ∨ (∃ T σ nx, r = (.ret, ⟨T, σ, nx⟩) ∧ T 2 = Bo false ∧ ¬YardGood s)) (by
      clear hL
      rintro k ⟨T, σ, nx⟩ hlt ⟨hn, hσ, h1, h16, h17, h18, hi⟩
      simp only at hn hσ h1 h16 h17 h18
      have f1 : (k : Int) < (s.stances.length : Int) := by omega
      have f2 : (0 : Int) ≤ (k : Int) := by omega
      have f3 := wrap_id (n := (k : Int) + 1) (by omega) (by omega)
      have f4 := slot (c := cStance) (s := 5) (fun _ => rfl) s.stances k hlt
      have f5 := slots_len (c := cStance) (s := 5) (fun _ => rfl) s.stances
      have f6 : k * 5 + 5 ≤ s.stances.length * 5 := by omega
      have f9 := slot_ne (c := cStance) (s := 5) (fun _ => rfl) (by omega) s.stances k hlt
      have t1 := sStanceOk s.stances[k] (h.1.1 _ (List.getElem_mem hlt))
      have t2 := sStanceNamed s s.stances[k].name h.1.2.2
      have nz : ¬0 = nx := by omega
      cases hj : stanceB s.stances[k] with
      | false =>
        rw [hj] at t1
        refine .inr ⟨_, by simp only [go_sem, h1, h16, h17, h18, f1, f2, f4, f5, f6, f9, t1, nz]; rfl, by simp, .inr ⟨_, _, _, rfl, ?_, fun hn => ?_⟩⟩
        · simp only [go_sem]
        · have := (hn.2.2.1 k hlt).1
          rw [hj] at this; cases this
      | true =>
        rw [hj] at t1
        by_cases hk : ix (isNamed s.stances[k].name) s.stances = k
        · rw [hk] at t2
          refine .inl ⟨_, by simp only [go_sem, h1, h16, h17, h18, hσ, f1, f2, f3, f4, f5, f6, f9, t1, t2, nz]; rfl, ?_⟩
          simp only [go_sem, h1, h16, h17, hσ, nz]
          refine ⟨by omega, rfl, fun i hi' hik => ?_⟩
          rcases Nat.lt_or_eq_of_le (Nat.le_of_lt_succ hik) with q | q
          · exact hi i hi' q
          · subst q; exact ⟨hj, hk⟩
        · have hk' : (ix (isNamed s.stances[k].name) s.stances != (k : Int)) = true := by simpa using hk
          refine .inr ⟨_, by simp only [go_sem, h1, h16, h17, h18, hσ, f1, f2, f4, f5, f6, f9, t1, t2, hk', nz]; rfl, by simp, .inr ⟨_, _, _, rfl, ?_, fun hn => hk (hn.2.2.1 k hlt).2⟩⟩
          simp only [go_sem]) (by
      clear hL
      rintro ⟨T, σ, nx⟩ ⟨hn, hσ, h1, h16, h17, h18, hi⟩
      simp only at hn hσ h1 h16 h17 h18
      exact ⟨_, by simp only [go_sem, h17, h18, Int.lt_irrefl]; rfl, by simp, .inl ⟨_, _, _, rfl, hn, hσ, by simp only [go_sem, h1], fun i h => hi i h h⟩⟩) (by
      simp only [go_sem]
      exact fun i _ h => absurd h (Nat.not_lt_zero _))
  rcases hr with ⟨T, σ, nx, rfl, hnx, hσ, h1, hj⟩ | ⟨T, σ, nx, rfl, h2, hn⟩
  · clear hL
    have e4 := wrap_id (n := (s.stances.length : Int) - 1) (by omega) (by omega)
    simp only [go_sem, hσ, h1, e4]
    generalize hL : evLoopI _ _ = y
    obtain ⟨r, rfl, hr⟩ := count_rule hL s.moves.length (fun k st => 0 < st.nx ∧ st.σ 0 = some ⟨cYard s, 0, true⟩ ∧ st.T 1 = .rp 0 0 ∧ st.T 5 = I ((s.stances.length : Int) - 1) ∧ st.T 45 = LL cMove s.moves ∧ st.T 46 = I s.moves.length ∧ st.T 47 = I k ∧ ∀ i (h : i < s.moves.length), i < k → MoveGood s.stances.length s.moves[i] ∧ ix (sameM s.moves[i]) s.moves = i)
      (fun r => (∃ T σ nx, r = (.exit 2, ⟨T, σ, nx⟩) ∧ ∀ i (h : i < s.moves.length), MoveGood s.stances.length s.moves[i] ∧ ix (sameM s.moves[i]) s.moves = i) ∨ (∃ T σ nx, r = (.ret, ⟨T, σ, nx⟩) ∧ T 2 = Bo false ∧ ¬YardGood s)) (by
        clear hL
        rintro k ⟨T, σ, nx⟩ hlt ⟨hn, hσ, h1, h5, h45, h46, h47, hi⟩
        simp only at hn hσ h1 h5 h45 h46 h47
        have f1 : (k : Int) < (s.moves.length : Int) := by omega
        have f2 : (0 : Int) ≤ (k : Int) := by omega
        have f3 := wrap_id (n := (k : Int) + 1) (by omega) (by omega)
        have f4 := slot (c := cMove) (s := 2) (fun _ => rfl) s.moves k hlt
        have f5 := slots_len (c := cMove) (s := 2) (fun _ => rfl) s.moves
        have f6 : k * 2 + 2 ≤ s.moves.length * 2 := by omega
        have f9 := slot_ne (c := cMove) (s := 2) (fun _ => rfl) (by omega) s.moves k hlt
        have no : ¬MoveGood s.stances.length s.moves[k] → ¬YardGood s := fun hb hn => hb (hn.2.2.2 k hlt).1
        have no2 : ∀ i (h : i < s.moves.length), i < k → sameM s.moves[i] s.moves[k] = true → ¬YardGood s := fun i hi' hik hb hn => by
          have := ix_before (hn.2.2.2 k hlt).2 i hi' hik
          rw [sameM_comm, hb] at this; cases this
        have done : MoveGood s.stances.length s.moves[k] → (∀ i (h : i < s.moves.length), i < k → sameM s.moves[i] s.moves[k] = false) → ∀ i (h : i < s.moves.length), i < k + 1 → MoveGood s.stances.length s.moves[i] ∧ ix (sameM s.moves[i]) s.moves = i := fun g1 g2 i hi' hik => by
          rcases Nat.lt_or_eq_of_le (Nat.le_of_lt_succ hik) with q | q
          · exact hi i hi' q
          · subst q
            exact ⟨g1, ix_at hi' (fun j hj hjk => by rw [sameM_comm]; exact g2 j hj hjk) (by unfold sameM; simp)⟩
        have nz : ¬0 = nx := by omega
        obtain ⟨m, hmk⟩ : ∃ m, m = s.moves[k] := ⟨_, rfl⟩
        rw [← hmk] at f4 no no2 done
        have t1 := l01In m.fr 0 ((s.stances.length : Int) - 1)
        have t2 := l01In m.to 0 ((s.stances.length : Int) - 1)
        cases ha : inB m.fr 0 ((s.stances.length : Int) - 1) with
        | false =>
          rw [ha] at t1
          refine .inr ⟨_, by simp only [go_sem, h1, h5, h45, h46, h47, hσ, f1, f2, f4, f5, f6, f9, nz, t1]; rfl, by simp, .inr ⟨_, _, _, rfl, by simp only [go_sem], no fun hm => ?_⟩⟩
          exact inB_false_l ha ⟨hm.1, by have := hm.2.1; omega⟩
        | true =>
        rw [ha] at t1
        cases hb : inB m.to 0 ((s.stances.length : Int) - 1) with
        | false =>
          rw [hb] at t2
          refine .inr ⟨_, by simp only [go_sem, h1, h5, h45, h46, h47, hσ, f1, f2, f4, f5, f6, f9, nz, t1, t2]; rfl, by simp, .inr ⟨_, _, _, rfl, by simp only [go_sem], no fun hm => ?_⟩⟩
          exact inB_false_l hb ⟨hm.2.2.1, by have := hm.2.2.2.1; omega⟩
        | true =>
        rw [hb] at t2
        by_cases c5 : m.fr = m.to
        · have c5' : (m.fr == m.to) = true := by simpa using c5
          exact .inr ⟨_, by simp only [go_sem, h1, h5, h45, h46, h47, hσ, f1, f2, f4, f5, f6, f9, nz, t1, t2, c5']; rfl, by simp, .inr ⟨_, _, _, rfl, by simp only [go_sem], no fun hm => hm.2.2.2.2 c5⟩⟩
        have c5' : (m.fr == m.to) = false := by simpa using c5
        have qa := inB_true ha
        have qb := inB_true hb
        have good : MoveGood s.stances.length m := ⟨by omega, by omega, by omega, by omega, c5⟩
        have g12 : k ≤ s.moves.length := by omega
        have g11 : (s.moves.flatMap cMove).take (k * 2) = (s.moves.take k).flatMap cMove := by
          have e := congrArg (fun l => l.take (k * 2)) (congrArg (fun l : List TV.Move => l.flatMap cMove) (List.take_append_drop k s.moves)).symm
          simp only [List.flatMap_append] at e
          rw [e, List.take_left']
          rw [slots_len (c := cMove) (s := 2) (fun _ => rfl), List.length_take, Nat.min_eq_left g12]
        refine step_of ?_
        conv =>
          enter [1, x, 1, 1]
          simp only [go_sem, h1, h5, h45, h46, h47, hσ, f1, f2, f4, f5, f6, f9, nz, t1, t2, c5', g11, g12, Nat.sub_zero, Nat.zero_le]
        generalize hL : evLoopI _ _ = z
        obtain ⟨r, rfl, hr⟩ := count_rule hL k (fun j st => nx < st.nx ∧ st.σ 0 = some ⟨cYard s, 0, true⟩ ∧ st.σ nx = some ⟨cMove m, 0, true⟩ ∧ st.T 1 = .rp 0 0 ∧ st.T 5 = I ((s.stances.length : Int) - 1) ∧ st.T 7 = .rp nx 0 ∧ st.T 45 = LL cMove s.moves ∧ st.T 46 = I s.moves.length ∧ st.T 47 = I k ∧ st.T 74 = .ts ((s.moves.take k).flatMap cMove) k ∧ st.T 75 = I k ∧ st.T 76 = I j ∧ ∀ i (h : i < s.moves.length), i < j → sameM s.moves[i] m = false)
          (fun r => (∃ T' σ' nx', r = (.exit 4, ⟨T', σ', nx'⟩) ∧ 0 < nx' ∧ σ' 0 = some ⟨cYard s, 0, true⟩ ∧ T' 1 = .rp 0 0 ∧ T' 5 = I ((s.stances.length : Int) - 1) ∧ T' 45 = LL cMove s.moves ∧ T' 46 = I s.moves.length ∧ T' 47 = I k ∧ ∀ i (h : i < s.moves.length), i < k → sameM s.moves[i] m = false) ∨ (∃ T' σ' nx', r = (.ret, ⟨T', σ', nx'⟩) ∧ T' 2 = Bo false ∧ ¬YardGood s)) (by
            clear hL
            rintro j ⟨T', σ', nx'⟩ hj' ⟨hn, hσ, hm7, h1, h5, h7, h45, h46, h47, h74, h75, h76, hi2⟩
            simp only at hn hσ hm7 h1 h5 h7 h45 h46 h47 h74 h75 h76
            have hl : (s.moves.take k).length = k := by rw [List.length_take, Nat.min_eq_left g12]
            have f1 : (j : Int) < (k : Int) := by omega
            have f2 : (0 : Int) ≤ (j : Int) := by omega
            have f3 := wrap_id (n := (j : Int) + 1) (by omega) (by omega)
            have f4 := slot (c := cMove) (s := 2) (fun _ => rfl) (s.moves.take k) j (by omega)
            rw [List.getElem_take] at f4
            have f5 := slots_len (c := cMove) (s := 2) (fun _ => rfl) (s.moves.take k)
            rw [hl] at f5
            have f6 : j * 2 + 2 ≤ k * 2 := by omega
            have f9 := slot_ne (c := cMove) (s := 2) (fun _ => rfl) (by omega) (s.moves.take k) j (by omega)
            have q1 : ¬nx = nx' := by omega
            have q2 : ¬0 = nx' := by omega
            have hjl : j < s.moves.length := by omega
            cases hp : sameM s.moves[j] m with
            | true =>
              have hp' := hp
              unfold sameM at hp
              exact .inr ⟨_, by simp only [go_sem, h1, h5, h7, h45, h46, h47, h74, h75, h76, hσ, hm7, f1, f2, f4, f5, f6, f9, q1, q2, hp]; rfl, by simp, .inr ⟨_, _, _, rfl, by simp only [go_sem], no2 j hjl hj' hp'⟩⟩
            | false =>
              have hp' := hp
              unfold sameM at hp
              refine .inl ⟨_, by simp only [go_sem, h1, h5, h7, h45, h46, h47, h74, h75, h76, hσ, hm7, f1, f2, f3, f4, f5, f6, f9, q1, q2, hp]; rfl, ?_⟩
              simp only [go_sem, h1, h5, h7, h45, h46, h47, h74, h75, hσ, hm7, q1, q2]
              refine ⟨by omega, rfl, fun i hi' hik => ?_⟩
              rcases Nat.lt_or_eq_of_le (Nat.le_of_lt_succ hik) with q | q
              · exact hi2 i hi' q
              · subst q; exact hp') (by
            clear hL
            rintro ⟨T', σ', nx'⟩ ⟨hn, hσ, hm7, h1, h5, h7, h45, h46, h47, h74, h75, h76, hi2⟩
            simp only at hn hσ hm7 h1 h5 h7 h45 h46 h47 h74 h75 h76
            refine ⟨_, by simp only [go_sem, h75, h76, Int.lt_irrefl]; rfl, by simp, .inl ⟨_, _, _, rfl, by omega, hσ, ?_, ?_, ?_, ?_, ?_, hi2⟩⟩ <;> simp only [go_sem, h1, h5, h45, h46, h47]) (by
            simp only [go_sem, h1, h5, h45, h46, h47, hσ, nz]
            exact ⟨by omega, fun i _ h => absurd h (Nat.not_lt_zero _)⟩)
        rcases hr with ⟨T', σ', nx', rfl, hn', hσ', h1', h5', h45', h46', h47', hi'⟩ | ⟨T', σ', nx', rfl, h2', hno⟩
        · refine ⟨_, by simp only [go_sem, h47', f3]; rfl, .inl ⟨_, rfl, ?_⟩⟩
          simp only [go_sem, h1', h5', h45', h46', hσ']
          exact ⟨hn', rfl, done good hi'⟩
        · exact ⟨_, by simp only [go_sem]; rfl, .inr ⟨by simp, .inr ⟨_, _, _, rfl, h2', hno⟩⟩⟩) (by
        clear hL
        rintro ⟨T, σ, nx⟩ ⟨hn, hσ, h1, h5, h45, h46, h47, hi⟩
        simp only at hn hσ h1 h46 h47
        exact ⟨_, by simp only [go_sem, h46, h47, Int.lt_irrefl]; rfl, by simp, .inl ⟨_, _, _, rfl, fun i h => hi i h h⟩⟩) (by
        simp only [go_sem, h1, hσ]
        exact ⟨hnx, fun i _ h => absurd h (Nat.not_lt_zero _)⟩)
    rcases hr with ⟨T, σ, nx, rfl, hm⟩ | ⟨T, σ, nx, rfl, h2, hn⟩
    · have : YardGood s := ⟨by omega, by omega, hj, hm⟩
      simp only [go_sem, pb_true this]
    · simp only [go_sem, h2, pb_false hn]
  · simp only [go_sem, h2, pb_false hn]
end Go.Proofs.Ytlkpocljgikpgaa
namespace Go.Proofs.Ytlkpocljgikpgaa
open Go Go.TV

/-! ### The reference's numbers -/
def dg (n : Nat) : List Int := if n = 0 then [] else ((n % 1000000000 : Nat) : Int) :: dg (n / 1000000000)
termination_by n
decreasing_by exact Nat.div_lt_self (by omega) (by decide)
theorem dg_zero : dg 0 = [] := by unfold dg; rfl
theorem dg_pos {n : Nat} (h : n ≠ 0) : dg n = ((n % 1000000000 : Nat) : Int) :: dg (n / 1000000000) := by rw [dg, if_neg h]
theorem pow_few {k m n : Nat} (h : 1000000000 ^ k * m ≤ n) (hm : 1 ≤ m) (hn : n ≤ 18446744073709551615) : k ≤ 2 := by
  rcases Nat.lt_or_ge k 3 with h1 | h1
  · omega
  · have := Nat.pow_le_pow_right (n := 1000000000) (by decide) h1
    have h2 : 1000000000 ^ k * 1 ≤ 1000000000 ^ k * m := Nat.mul_le_mul_left _ hm
    have h3 : (1000000000 : Nat) ^ 3 = 1000000000000000000000000000 := by decide
    omega
theorem sNatOf (n : Nat) (hn : n ≤ 9223372036854775807) : fn Try.prog conv ext 121 [I n] = some (LI (dg n)) := by
  rw [fn_eq, ev_eqQ (rs := [.tmp 2]) [] rfl Try.func121 rfl rfl (by kernel_rfl) (by kernel_rfl)]
  simp only [go_sem]
  generalize hL : evLoopI _ _ = y
  obtain ⟨r, rfl, T', σ', nx', rfl, hr⟩ := loop_rule hL (fun m st => st.T 0 = I m ∧ ∃ acc, Grow st.T st.σ st.nx 3 acc ∧ dg n = acc ++ dg m ∧ 1000000000 ^ acc.length * m ≤ n)
    (fun r => ∃ T σ nx, r = (.exit 0, ⟨T, σ, nx⟩) ∧ Grow T σ nx 3 (dg n)) (by
      clear hL
      rintro m ⟨T, σ, nx⟩ ⟨h0, acc, hacc, hd, hp⟩
      simp only at h0 hacc
      by_cases hm : m = 0
      · subst hm
        have f0 : ¬(0 : Int) < 0 := by omega
        refine .inr ⟨_, by simp only [go_sem, h0, f0]; rfl, by simp, _, _, _, rfl, ?_⟩
        rw [dg_zero, List.append_nil] at hd
        rw [hd]
        simpa only [Grow, go_sem] using hacc
      · have f0 : (0 : Int) < (m : Int) := by omega
        have hk := pow_few hp (by omega) (by omega)
        have hmn : m ≤ n := Nat.le_trans (Nat.le_mul_of_pos_left _ (Nat.pow_pos (by decide))) hp
        have f1 : (m : Int).tmod 1000000000 = ((m % 1000000000 : Nat) : Int) := by rw [Int.tmod_eq_emod_of_nonneg (by omega)]; omega
        have f2 : IntKind.i64.wrap ((m : Int).tdiv 1000000000) = ((m / 1000000000 : Nat) : Int) := by
          rw [Int.tdiv_eq_ediv_of_nonneg (by omega)]
          rw [wrap_id (by omega) (by omega)]; omega
        have hd' : dg n = (acc ++ [((m % 1000000000 : Nat) : Int)]) ++ dg (m / 1000000000) := by rw [hd, dg_pos hm]; simp
        have hp' : 1000000000 ^ (acc ++ [((m % 1000000000 : Nat) : Int)]).length * (m / 1000000000) ≤ n := by
          rw [List.length_append, List.length_singleton, Nat.pow_succ, Nat.mul_assoc]
          exact Nat.le_trans (Nat.mul_le_mul_left _ (Nat.mul_div_le _ _)) hp
        have hlt : m / 1000000000 < m := Nat.div_lt_self (by omega) (by decide)
        obtain ⟨σ', ha, hs⟩ := grow_append hacc ((m % 1000000000 : Nat) : Int) (by omega)
        refine .inl ⟨_, by simp only [go_sem, h0, f0, f1, f2, ha]; rfl, _, hlt, ?_, _, ?_, hd', hp'⟩
        · simp only [go_sem]
        · exact grow_new hs (by simp [go_sem]) (by simp)) n ⟨by simp only [go_sem], [], .inl ⟨by simp only [go_sem], rfl⟩, rfl, by simp⟩
  obtain ⟨ids, h1⟩ := grow_strip hr 6
  simp only [go_sem, h1]

/-- The lists that the numbers' functions take: short. -/
def Short (xs : List Int) : Prop := xs.length ≤ 17592186044000
theorem idx {xs : List Int} {k : Nat} (h : k < xs.length) : (xs.flatMap cI)[k]? = some (I xs[k]) := slot1 I xs k h
theorem cI_take (xs : List Int) (k : Nat) : (xs.flatMap cI).take k = (xs.take k).flatMap cI := by
  induction xs generalizing k with
  | nil => simp
  | cons x xs ih =>
    cases k with
    | zero => rfl
    | succ k => simp [ih]
def trimL (a : List Int) : List Int := (a.reverse.dropWhile (· = 0)).reverse
theorem trim_snoc (a : List Int) (x : Int) : trimL (a ++ [x]) = if x = 0 then trimL a else a ++ [x] := by
  unfold trimL
  simp only [List.reverse_append, List.reverse_cons, List.reverse_nil, List.nil_append, List.singleton_append, List.dropWhile_cons, decide_eq_true_eq]
  split <;> simp
theorem take_succ_get {a : List Int} {k : Nat} (h : k < a.length) : a.take (k + 1) = a.take k ++ [a[k]] := by rw [List.take_add_one, List.getElem?_eq_getElem h]; rfl
theorem strim (a : List Int) (ha : Short a) : fn Try.prog conv ext 147 [LI a] = some (LI (trimL a)) := by
  unfold Short at ha
  rw [fn_eq, ev_eqQ (rs := [.tmp 2]) [] rfl Try.func147 rfl rfl (by kernel_rfl) (by kernel_rfl)]
  simp only [go_sem]
  generalize hL : evLoopI _ _ = y
  obtain ⟨r, rfl, T', k, rfl, h0, h3, hk, ht⟩ := loop_rule hL (fun k st => st.nx = 0 ∧ st.σ = noStore ∧ st.T 0 = LI a ∧ st.T 3 = I k ∧ k ≤ a.length ∧ trimL a = trimL (a.take k))
    (fun r => ∃ T k, r = (.exit 0, ⟨T, noStore, 0⟩) ∧ T 0 = LI a ∧ T 3 = I (k : Nat) ∧ k ≤ a.length ∧ trimL a = a.take k) (by
      clear hL
      rintro k ⟨T, σ, nx⟩ ⟨hn, hσ, h0, h3, hk, ht⟩
      simp only at hn hσ h0 h3
      subst hn hσ
      cases k with
      | zero =>
        have f0 : ¬(0 : Int) < 0 := by omega
        refine .inr ⟨_, by simp only [go_sem, h0, h3, f0]; rfl, by simp, _, 0, rfl, by simp only [go_sem, h0], by simp only [go_sem, h3], hk, ?_⟩
        rw [ht]; rfl
      | succ k =>
        have hlt : k < a.length := by omega
        have f0 : (0 : Int) < ((k + 1 : Nat) : Int) := by omega
        have f1 := wrap_id (n := ((k + 1 : Nat) : Int) - 1) (by omega) (by omega)
        have f2 : ((k + 1 : Nat) : Int) - 1 = (k : Int) := by omega
        have f3 : (k : Int) < (a.length : Int) := by omega
        have f4 : (0 : Int) ≤ (k : Int) := by omega
        have f5 := slot_ne (c := cI) (s := 1) (fun _ => rfl) (by omega) a k hlt
        have f6 := idx hlt
        rw [f2] at f1
        rw [take_succ_get hlt, trim_snoc] at ht
        by_cases hx : a[k] = 0
        · have fx : (a[k] == (0 : Int)) = true := by simpa using hx
          rw [if_pos hx] at ht
          refine .inl ⟨_, by simp only [go_sem, h0, h3, f0, f1, f2, f3, f4, f5, f6, fx]; rfl, k, by omega, ?_⟩
          simp only [go_sem, h0]
          exact ⟨by omega, ht⟩
        · have fx : (a[k] == (0 : Int)) = false := by simpa using hx
          rw [if_neg hx] at ht
          refine .inr ⟨_, by simp only [go_sem, h0, h3, f0, f1, f2, f3, f4, f5, f6, fx]; rfl, by simp, _, k + 1, rfl, by simp only [go_sem, h0], by simp only [go_sem, h3], hk, ?_⟩
          rw [ht, take_succ_get hlt]) a.length ⟨rfl, rfl, by simp only [go_sem], by simp only [go_sem], Nat.le_refl _, by rw [List.take_length]⟩
  have g1 : (0 : Int) ≤ (k : Int) := by omega
  have g2 : (a.take k).length = k := by rw [List.length_take, Nat.min_eq_left hk]
  simp only [go_sem, h0, h3, g1, hk, Nat.zero_le, cI_take, ht]
  show _ = some (V.ts _ (List.take k a).length)
  rw [g2]
theorem scap (a : List Int) (ha : Short a) (h : (trimL a).length ≤ 60) : fn Try.prog conv ext 149 [LI a] = some (LI (trimL a)) := by
  have h1 := strim a ha
  have h2 : ¬(60 : Int) < ((trimL a).length : Int) := by omega
  rw [fn_eq, ev_eqQ (rs := [.tmp 2]) [] rfl Try.func149 rfl rfl (by kernel_rfl) (by kernel_rfl)]
  simp only [go_sem, h1, h2]
theorem small_len {xs : List Int} (h : Short xs) : xs.length ≤ maxLen ∧ xs.length * 8 ≤ 140737488355328 := by
  unfold Short at h; unfold maxLen; omega
theorem trim_le (a : List Int) : (trimL a).length ≤ a.length := by
  unfold trimL
  rw [List.length_reverse]
  exact Nat.le_trans (List.dropWhile_suffix _).length_le (by rw [List.length_reverse]; exact Nat.le_refl _)
theorem smake (neg : Bool) (a : List Int) (ha : Short a) (h : (trimL a).length ≤ 60) : fn Try.prog conv ext 120 [Bo neg, LI a] = some (.agg [Bo (neg && decide (0 < (trimL a).length)), LI (trimL a)]) := by
  have h1 := scap a ha h
  rw [fn_eq, ev_eqQ (rs := [.cell 4 29]) [] rfl Try.func120 rfl rfl (by kernel_rfl) (by kernel_rfl)]
  generalize trimL a = m at *
  cases m with
  | nil => cases neg <;> simp only [go_sem, h1] <;> rfl
  | cons x m =>
    have hl : (m.length + 1) ≤ maxLen ∧ (m.length + 1) * 8 ≤ 140737488355328 := by simp only [List.length_cons] at h; unfold maxLen; omega
    have hz : ¬(m.length + 1 = 0) := by omega
    have hp : (0 : Int) < ((m.length + 1 : Nat) : Int) := by omega
    have hq : 0 < m.length + 1 := by omega
    cases neg <;> simp only [go_sem, h1, hl, hz, hp, hq] <;> rfl

/-! ### Good numbers -/
theorem trim_cons (d : Int) (xs : List Int) : trimL (d :: xs) = if trimL xs = [] then (if d = 0 then [] else [d]) else d :: trimL xs := by
  unfold trimL
  rw [List.reverse_cons, List.dropWhile_append]
  by_cases h : (xs.reverse.dropWhile fun x => decide (x = 0)) = []
  · rw [h]
    simp only [List.isEmpty_nil, if_true, List.reverse_nil, List.dropWhile_cons, List.dropWhile_nil, decide_eq_true_eq]
    split <;> simp_all
  · rw [if_neg (by simpa using h), if_neg (by simpa using h)]
    simp
theorem dg_ne {n : Nat} (h : n ≠ 0) : dg n ≠ [] := by rw [dg_pos h]; simp
theorem trim_dg (n : Nat) : trimL (dg n) = dg n := by
  induction n using Nat.strongRecOn with
  | _ n ih =>
    by_cases h : n = 0
    · subst h; rw [dg_zero]; rfl
    · rw [dg_pos h, trim_cons, ih _ (Nat.div_lt_self (by omega) (by decide))]
      by_cases h2 : n / 1000000000 = 0
      · rw [h2, dg_zero, if_pos rfl, if_neg (by omega)]
      · rw [if_neg (dg_ne h2)]
theorem dg_few (k : Nat) : ∀ n : Nat, n < 1000000000 ^ k → (dg n).length ≤ k := by
  induction k with
  | zero => intro n h; have : n = 0 := by simpa using h
            subst this; rw [dg_zero]; exact Nat.le_refl _
  | succ k ih =>
    intro n h
    by_cases h0 : n = 0
    · subst h0; rw [dg_zero]; exact Nat.zero_le _
    · rw [dg_pos h0, List.length_cons]
      have : n / 1000000000 < 1000000000 ^ k := Nat.div_lt_of_lt_mul (by rw [Nat.pow_succ, Nat.mul_comm] at h; exact h)
      have := ih _ this
      omega
theorem dg_three {n : Nat} (h : n ≤ 9223372036854775807) : (dg n).length ≤ 3 := dg_few 3 n (by omega)
theorem dg_mem (n : Nat) : ∀ x ∈ dg n, 0 ≤ x ∧ x ≤ 999999999 := by
  induction n using Nat.strongRecOn with
  | _ n ih =>
    intro x hx
    by_cases h : n = 0
    · subst h; rw [dg_zero] at hx; cases hx
    · rw [dg_pos h] at hx
      rcases List.mem_cons.mp hx with rfl | hx
      · omega
      · exact ih _ (Nat.div_lt_self (by omega) (by decide)) x hx
def NatGood (a : List Int) : Prop := (∀ x ∈ a, inB x 0 999999999 = true) ∧ a.length ≤ 60 ∧ trimL a = a
theorem natGood_dg {n : Nat} (h : n ≤ 9223372036854775807) : NatGood (dg n) :=
  ⟨fun x hx => by have := dg_mem n x hx; unfold inB; rw [decide_eq_true this.1, decide_eq_true this.2]; rfl, by have := dg_three h; omega, trim_dg n⟩
theorem trim_last {a : List Int} (h : a ≠ []) : trimL a = a ↔ a[a.length - 1]'(by have := List.length_pos_iff.mpr h; omega) ≠ 0 := by
  rcases List.eq_nil_or_concat a with rfl | ⟨b, x, e⟩
  · exact absurd rfl h
  · rw [List.concat_eq_append] at e
    subst e
    rw [trim_snoc]
    have : (b ++ [x])[(b ++ [x]).length - 1]'(by simp) = x := by simp
    rw [this]
    by_cases hx : x = 0
    · rw [if_pos hx]
      refine ⟨fun e => ?_, fun e => absurd hx e⟩
      have := congrArg List.length e
      have h2 := trim_le b
      rw [List.length_append, List.length_singleton] at this
      omega
    · rw [if_neg hx]; exact ⟨fun _ => hx, fun _ => rfl⟩
theorem sNatOk (a : List Int) (ha : Short a) : fn Try.prog conv ext 122 [LI a] = some (Bo (pb (NatGood a))) := by
  unfold Short at ha
  rw [fn_eq, ev_eqQ (rs := [.tmp 2]) [] rfl Try.func122 rfl rfl (by kernel_rfl) (by kernel_rfl)]
  simp only [go_sem]
  generalize hL : evLoopI _ _ = y
  obtain ⟨r, rfl, hr⟩ := count_rule hL a.length (fun k st => st.nx = 0 ∧ st.σ = noStore ∧ st.T 0 = LI a ∧ st.T 5 = LI a ∧ st.T 6 = I a.length ∧ st.T 7 = I k ∧ ∀ i (h : i < a.length), i < k → inB a[i] 0 999999999 = true)
    (fun r => (∃ T, r = (.exit 0, ⟨T, noStore, 0⟩) ∧ T 0 = LI a ∧ ∀ x ∈ a, inB x 0 999999999 = true) ∨ (∃ T, r = (.ret, ⟨T, noStore, 0⟩) ∧ T 2 = Bo false ∧ ¬NatGood a)) (by
      clear hL
      rintro k ⟨T, σ, nx⟩ hlt ⟨hn, hσ, h0, h19, h20, h21, hi⟩
      simp only at hn hσ h0 h19 h20 h21
      subst hn hσ
      have f1 : (k : Int) < (a.length : Int) := by omega
      have f2 : (0 : Int) ≤ (k : Int) := by omega
      have f3 := wrap_id (n := (k : Int) + 1) (by omega) (by omega)
      have f4 := idx hlt
      have f9 := slot_ne (c := cI) (s := 1) (fun _ => rfl) (by omega) a k hlt
      have t1 := l01In a[k] 0 999999999
      cases hb : inB a[k] 0 999999999 with
      | true =>
        rw [hb] at t1
        refine .inl ⟨_, by simp only [go_sem, h0, h19, h20, h21, f1, f2, f3, f4, f9, t1]; rfl, ?_⟩
        simp only [go_sem, h0, h19, h20]
        refine ⟨rfl, fun i hi' hik => ?_⟩
        rcases Nat.lt_or_eq_of_le (Nat.le_of_lt_succ hik) with q | q
        · exact hi i hi' q
        · subst q; exact hb
      | false =>
        rw [hb] at t1
        refine .inr ⟨_, by simp only [go_sem, h19, h20, h21, f1, f2, f4, f9, t1]; rfl, by simp, .inr ⟨_, rfl, by simp only [go_sem], fun hn => ?_⟩⟩
        have := hn.1 _ (List.getElem_mem hlt)
        rw [hb] at this; cases this) (by
      clear hL
      rintro ⟨T, σ, nx⟩ ⟨hn, hσ, h0, h19, h20, h21, hi⟩
      simp only at hn hσ h0 h19 h20 h21
      subst hn hσ
      exact ⟨_, by simp only [go_sem, h20, h21, Int.lt_irrefl]; rfl, by simp, .inl ⟨_, rfl, by simp only [go_sem, h0], fun x hx => by obtain ⟨i, hi', rfl⟩ := List.getElem_of_mem hx; exact hi i hi' hi'⟩⟩) (by
      simp only [go_sem]
      exact fun i _ h => absurd h (Nat.not_lt_zero _))
  rcases hr with ⟨T, rfl, h0, hm⟩ | ⟨T, rfl, h2, hn⟩
  · by_cases hl : (a.length : Int) ≤ 60
    · by_cases hz : a = []
      · subst hz
        have : NatGood [] := ⟨by simp, by simp, rfl⟩
        have h60 : (0 : Int) ≤ 60 := by decide
        simp only [go_sem, h0, pb_true this, h60]
      · have hz' : ((a.length : Int) == 0) = false := by simpa using hz
        have hpos : 0 < a.length := List.length_pos_iff.mpr hz
        have f1 := wrap_id (n := (a.length : Int) - 1) (by omega) (by omega)
        have f2 : (0 : Int) ≤ (a.length : Int) - 1 := by omega
        have f3 : (a.length : Int) - 1 < (a.length : Int) := by omega
        have f4 : ((a.length : Int) - 1).toNat = a.length - 1 := by omega
        have f5 := idx (xs := a) (k := a.length - 1) (by omega)
        have f9 := slot_ne (c := cI) (s := 1) (fun _ => rfl) (by omega) a 0 hpos
        have hg : pb (NatGood a) = (a[a.length - 1] != 0) := by
          refine (pb_eq ?_).symm
          rw [bne_iff_ne, ← trim_last hz]
          exact ⟨fun h => ⟨hm, by omega, h⟩, fun h => h.2.2⟩
        rw [hg]
        simp only [go_sem, h0, hl, hz', f1, f2, f3, f4, f5, f9]
    · rw [pb_false (fun hn : NatGood a => hl (by have := hn.2.1; omega))]
      simp only [go_sem, h0, hl]
  · simp only [go_sem, h2, pb_false hn]
theorem sBigIntOk (neg : Bool) (a : List Int) (ha : Short a) : fn Try.prog conv ext 118 [.agg [Bo neg, LI a]] = some (Bo (pb (NatGood a) && (!neg || decide (0 < a.length)))) := by
  have h1 := sNatOk a ha
  rw [fn_eq, ev_eqQ (rs := [.tmp 2]) [] rfl Try.func118 rfl rfl (by kernel_rfl) (by kernel_rfl)]
  generalize pb (NatGood a) = b at *
  cases b <;> cases neg <;> simp only [go_sem, h1]
  by_cases h : 0 < a.length
  · have h' : (0 : Int) < (a.length : Int) := by omega
    simp only [h, h']
  · have h' : ¬(0 : Int) < (a.length : Int) := by omega
    simp only [h, h']
theorem sOne (a : List Int) (ha : Short a) : fn Try.prog conv ext 123 [LI a] = some (Bo (decide (a = [1]))) := by
  unfold Short at ha
  have z1 : (0 : Int) < 1 := by decide
  have z2 : (0 : Int) ≤ 0 := by decide
  have z3 : (0 : Int).toNat = 0 := id rfl
  rw [fn_eq, ev_eqQ (rs := [.tmp 2]) [] rfl Try.func123 rfl rfl (by kernel_rfl) (by kernel_rfl)]
  match a with
  | [] => (simp only [go_sem]) <;> rfl
  | [x] =>
    by_cases hx : x = 1
    · subst hx; (simp only [go_sem, z1, z2, z3]) <;> rfl
    · have : (x == (1 : Int)) = false := by simpa using hx
      simp only [go_sem, this, z1, z2, z3]
      simp [hx]
  | x :: y :: l =>
    have : (((l.length + 1 + 1 : Nat) : Int) == 1) = false := by rw [beq_eq_false_iff_ne]; omega
    simp only [go_sem, this]
    simp
theorem sBigIntOf (n : Nat) (h : n ≤ 9223372036854775807) : fn Try.prog conv ext 88 [I n] = some (.agg [Bo false, LI (dg n)]) := by
  have h3 := dg_three h
  have h1 := sNatOf n h
  have h2 := smake false (dg n) (by unfold Short; omega) (by rw [trim_dg]; omega)
  rw [trim_dg] at h2
  have c1 : ((n : Int) == -9223372036854775808) = false := by rw [beq_eq_false_iff_ne]; omega
  have c2 : ¬(n : Int) < 0 := by omega
  rw [fn_eq, ev_eqQ (rs := [.cell 2 29]) [] rfl Try.func88 rfl rfl (by kernel_rfl) (by kernel_rfl)]
  simp only [go_sem, c1, c2, h1, h2]
end Go.Proofs.Ytlkpocljgikpgaa
namespace Go.Proofs.Ytlkpocljgikpgaa
open Go Go.TV

/-! ### Digits -/
theorem dg_drop (n j : Nat) : (dg n).drop j = dg (n / 1000000000 ^ j) := by
  induction j generalizing n with
  | zero => simp
  | succ j ih =>
    by_cases h : n = 0
    · subst h; rw [Nat.zero_div, dg_zero]; rfl
    · rw [dg_pos h, List.drop_succ_cons, ih, Nat.div_div_eq_div_mul, Nat.pow_succ, Nat.mul_comm]
theorem dg_get {n j : Nat} (h : j < (dg n).length) : (dg n)[j] = ((n / 1000000000 ^ j % 1000000000 : Nat) : Int) := by
  have h1 := List.drop_eq_getElem_cons h
  rw [dg_drop] at h1
  have h2 : n / 1000000000 ^ j ≠ 0 := fun e => by rw [e, dg_zero] at h1; cases h1
  rw [dg_pos h2] at h1
  exact (List.cons.inj h1).1.symm
theorem dg_end (n : Nat) : n / 1000000000 ^ (dg n).length = 0 := by
  have h := dg_drop n (dg n).length
  rw [List.drop_length] at h
  exact Classical.byContradiction fun hn => dg_ne hn h.symm
theorem dg_shift (n j : Nat) : n / 1000000000 ^ (j + 1) * 1000000000 + n / 1000000000 ^ j % 1000000000 = n / 1000000000 ^ j := by
  rw [Nat.pow_succ, ← Nat.div_div_eq_div_mul]
  omega
theorem short_dg {n : Nat} (h : n ≤ 9223372036854775807) : Short (dg n) := by have := dg_three h; unfold Short; omega

theorem sCmp_ne (a b : List Int) (h : a.length < b.length) (hb : Short b) : fn Try.prog conv ext 153 [LI a, LI b] = some (I (-1)) := by
  unfold Short at hb
  have c1 : ((a.length : Int) != (b.length : Int)) = true := by rw [bne_iff_ne]; omega
  have c2 : (a.length : Int) < (b.length : Int) := by omega
  rw [fn_eq, ev_eqQ (rs := [.tmp 4]) [] rfl Try.func153 rfl rfl (by kernel_rfl) (by kernel_rfl)]
  simp only [go_sem, c1, c2]
theorem sNatToInt (n : Nat) (hn : n < 1000000000000000000) : fn Try.prog conv ext 150 [LI (dg n)] = some (.tup [I n, Bo true]) := by
  have hs := short_dg (n := n) (by omega)
  have h1 := sNatOk (dg n) hs
  rw [pb_true (natGood_dg (by omega))] at h1
  have hl2 : (dg n).length ≤ 2 := dg_few 2 n (by omega)
  have h2 : fn Try.prog conv ext 153 [LI (dg n), .ts [I 854775807, I 223372036, I 9] 3] = some (I (-1)) := sCmp_ne (dg n) [854775807, 223372036, 9] (by simp; omega) (by unfold Short; simp)
  have c0 : ¬(0 : Int) < -1 := by decide
  have e1 := wrap_id (n := ((dg n).length : Int) - 1) (by omega) (by omega)
  rw [fn_eq, ev_eqQ (rs := [.tmp 2, .tmp 3]) [] rfl Try.func150 rfl rfl (by kernel_rfl) (by kernel_rfl)]
  simp only [go_sem, h1, h2, c0, e1]
  generalize hL : evLoopI _ _ = y
  obtain ⟨r, rfl, T', σ', nx', rfl, h4⟩ := loop_rule hL (fun m st => st.T 0 = LI (dg n) ∧ st.T 5 = I ((m : Int) - 1) ∧ st.T 4 = I (n / 1000000000 ^ m : Nat) ∧ m ≤ (dg n).length)
    (fun r => ∃ T σ nx, r = (.exit 0, ⟨T, σ, nx⟩) ∧ T 4 = I n) (by
      clear hL
      rintro m ⟨T, σ, nx⟩ ⟨h0, h5, h4, hm⟩
      simp only at h0 h5 h4
      cases m with
      | zero =>
        have f0 : ¬(0 : Int) ≤ ((0 : Nat) : Int) - 1 := by omega
        have f0' : ¬(0 : Int) ≤ 0 - 1 := by omega
        rw [Nat.pow_zero, Nat.div_one] at h4
        exact .inr ⟨_, by simp only [go_sem, h0, h5, f0, f0']; rfl, by simp, _, _, _, rfl, by simp only [go_sem, h4]⟩
      | succ m =>
        have hlt : m < (dg n).length := by omega
        have e5 : ((m + 1 : Nat) : Int) - 1 = (m : Int) := by omega
        rw [e5] at h5
        have f0 : (0 : Int) ≤ (m : Int) := by omega
        have f3 : (m : Int) < ((dg n).length : Int) := by omega
        have f5 := slot_ne (c := cI) (s := 1) (fun _ => rfl) (by omega) (dg n) m hlt
        have f6 := idx hlt
        rw [dg_get hlt] at f6
        have hd := dg_shift n m
        have hle : n / 1000000000 ^ m ≤ n := Nat.div_le_self _ _
        generalize n / 1000000000 ^ (m + 1) = u at *
        generalize hw : n / 1000000000 ^ m = w at *
        have f7 := wrap_id (n := (m : Int) - 1) (by omega) (by omega)
        have f8 := wrap_id (n := (u : Int) * 1000000000) (by omega) (by omega)
        have f9 := wrap_id (n := (u : Int) * 1000000000 + ((w % 1000000000 : Nat) : Int)) (by omega) (by omega)
        refine .inl ⟨_, by simp only [go_sem, h0, h5, h4, f0, f3, f5, f6, f7, f8, f9]; rfl, m, by omega, ?_⟩
        simp only [go_sem, h0]
        refine ⟨?_, by omega⟩
        congr 3
        omega) (dg n).length ⟨by simp only [go_sem], by simp only [go_sem], by simp only [go_sem, dg_end], Nat.le_refl _⟩
  simp only [go_sem, h4]
theorem sPlain (x y : Nat) (hx : x ≤ 9223372036854775807) (hy : y ≤ 9223372036854775807) : fn Try.prog conv ext 151 [I x, I y] = some (LI (dg (Nat.gcd x y))) := by
  rw [fn_eq, ev_eqQ (rs := [.tmp 4]) [] rfl Try.func151 rfl rfl (by kernel_rfl) (by kernel_rfl)]
  simp only [go_sem]
  generalize hL : evLoopI _ _ = w
  obtain ⟨r, rfl, T', rfl, h0⟩ := loop_rule hL (fun b st => st.nx = 0 ∧ st.σ = noStore ∧ ∃ a : Nat, st.T 0 = I a ∧ st.T 1 = I b ∧ a ≤ 9223372036854775807 ∧ b ≤ 9223372036854775807 ∧ Nat.gcd a b = Nat.gcd x y)
    (fun r => ∃ T, r = (.exit 0, ⟨T, noStore, 0⟩) ∧ T 0 = I (Nat.gcd x y : Nat)) (by
      clear hL
      rintro b ⟨T, σ, nx⟩ ⟨hn, hσ, a, h0, h1, ha, hb, hg⟩
      simp only at hn hσ h0 h1
      subst hn hσ
      cases b with
      | zero =>
        have f0 : ¬(0 : Int) < 0 := by omega
        refine .inr ⟨_, by simp only [go_sem, h0, h1, f0]; rfl, by simp, _, rfl, ?_⟩
        rw [Nat.gcd_zero_right] at hg
        simp only [go_sem, h0, hg]
      | succ b =>
        have f0 : (0 : Int) < ((b + 1 : Nat) : Int) := by omega
        have f1 : ¬((b + 1 : Nat) : Int) = 0 := by omega
        have f2 : (a : Int).tmod ((b + 1 : Nat) : Int) = ((a % (b + 1) : Nat) : Int) := by rw [Int.tmod_eq_emod_of_nonneg (by omega)]; rfl
        have hlt : a % (b + 1) < b + 1 := Nat.mod_lt a (Nat.succ_pos b)
        refine .inl ⟨_, by simp only [go_sem, h0, h1, f0, f1, f2]; rfl, a % (b + 1), hlt, ?_⟩
        simp only [go_sem]
        refine ⟨b + 1, rfl, hb, by omega, ?_⟩
        rw [← hg, Nat.gcd_comm a (b + 1), Nat.gcd_rec (b + 1) a, Nat.gcd_comm]) y ⟨rfl, rfl, x, by simp only [go_sem], by simp only [go_sem], hx, hy, rfl⟩
  have hgl : Nat.gcd x y ≤ 9223372036854775807 := by
    rcases Nat.eq_zero_or_pos x with h | h
    · subst h; rw [Nat.gcd_zero_left]; exact hy
    · exact Nat.le_trans (Nat.gcd_le_left _ h) hx
  have h3 := sNatOf (Nat.gcd x y) hgl
  simp only [go_sem, h0, h3]

theorem app_len {xs : List Int} (h : xs ≠ []) : ¬xs.length = 0 := fun e => h (List.eq_nil_of_length_eq_zero e)
theorem sGcd (m n : Nat) (hm : m < 1000000000000000000) (hn : n < 1000000000000000000) (h0 : n ≠ 0) : fn Try.prog conv ext 124 [LI (dg m), LI (dg n)] = some (LI (dg (Nat.gcd m n))) := by
  have t1 := sNatToInt m hm
  have t2 := sNatToInt n hn
  have t3 := sPlain m n (by omega) (by omega)
  have l1 := dg_few 2 m (by omega)
  have l2 := dg_few 2 n (by omega)
  have p2 : (0 : Int) < ((dg n).length : Int) := by have := List.length_pos_iff.mpr (dg_ne h0); omega
  have z2 : ¬(dg n).length = 0 := app_len (dg_ne h0)
  have s2 : (dg n).length ≤ maxLen ∧ (dg n).length * 8 ≤ 140737488355328 := by unfold maxLen; omega
  have c1 : ((dg m).length : Int) < 3 := by omega
  have c2 : ((dg n).length : Int) < 3 := by omega
  rw [fn_eq, ev_eqQ (rs := [.tmp 4]) [] rfl Try.func124 rfl rfl (by kernel_rfl) (by kernel_rfl)]
  by_cases hz : m = 0
  · subst hz
    rw [dg_zero] at *
    have t1' : fn Try.prog conv ext 150 [.ts [] 0] = some (.tup [I 0, Bo true]) := t1
    have t3' : fn Try.prog conv ext 151 [I 0, I n] = some (LI (dg (Nat.gcd 0 n))) := t3
    have c1' : (0 : Int) < 3 := by decide
    simp only [go_sem, z2, s2]
    rw [evLoopI_eq]
    simp only [go_sem, p2, c1', c2, t1', t2, t3']
  · have z1 : ¬(dg m).length = 0 := app_len (dg_ne hz)
    have s1 : (dg m).length ≤ maxLen ∧ (dg m).length * 8 ≤ 140737488355328 := by unfold maxLen; omega
    simp only [go_sem, z2, s2, z1, s1]
    rw [evLoopI_eq]
    simp only [go_sem, p2, c1, c2, t1, t2, t3]

/-! ### Division by a digit -/
def pad (n k : Nat) : List Int := (List.range k).map fun j => ((n / 1000000000 ^ j % 1000000000 : Nat) : Int)
theorem pad_len (n k : Nat) : (pad n k).length = k := by simp [pad]
theorem pad_get (n k j : Nat) (h : j < (pad n k).length) : (pad n k)[j] = ((n / 1000000000 ^ j % 1000000000 : Nat) : Int) := by simp [pad]
theorem trim_zero (k : Nat) : trimL ((List.range k).map fun _ => (0 : Int)) = [] := by
  induction k with
  | zero => rfl
  | succ k ih => rw [List.range_succ, List.map_append, List.map_singleton, trim_snoc, if_pos rfl, ih]
theorem pad_succ (n k : Nat) : pad n (k + 1) = ((n % 1000000000 : Nat) : Int) :: pad (n / 1000000000) k := by
  unfold pad
  rw [List.range_succ_eq_map, List.map_cons, List.map_map]
  congr 1
  · rw [Nat.pow_zero, Nat.div_one]
  · refine List.map_congr_left fun j _ => ?_
    show (((n / 1000000000 ^ (j + 1) % 1000000000 : Nat)) : Int) = _
    rw [Nat.div_div_eq_div_mul, Nat.pow_succ, Nat.mul_comm]
theorem trim_pad (k : Nat) : ∀ n : Nat, n < 1000000000 ^ k → trimL (pad n k) = dg n := by
  induction k with
  | zero =>
    intro n h
    have : n = 0 := by simpa using h
    subst this; rw [dg_zero]; rfl
  | succ k ih =>
    intro n h
    have : n / 1000000000 < 1000000000 ^ k := Nat.div_lt_of_lt_mul (by rw [Nat.pow_succ, Nat.mul_comm] at h; exact h)
    rw [pad_succ, trim_cons, ih _ this]
    by_cases h0 : n = 0
    · subst h0
      rw [Nat.zero_div, dg_zero, if_pos rfl, if_pos (by decide)]
    · rw [dg_pos h0]
      by_cases h2 : n / 1000000000 = 0
      · rw [h2, dg_zero, if_pos rfl, if_neg (by omega)]
      · rw [if_neg (dg_ne h2)]
theorem rep_set (j : Nat) (z v : V) (r : List V) : (rep (j + 1) [z] ++ r).set j v = rep j [z] ++ v :: r := by
  induction j with
  | zero => rfl
  | succ j ih =>
    have h1 : rep (j + 1 + 1) [z] = z :: rep (j + 1) [z] := rep_succ _ _
    have h2 : rep (j + 1) [z] = z :: rep j [z] := rep_succ _ _
    rw [h1]
    show z :: ((rep (j + 1) [z] ++ r).set j v) = rep (j + 1) [z] ++ v :: r
    rw [ih, h2]; rfl
theorem pad_drop {n k m : Nat} (h : m < k) : (pad n k).drop m = ((n / 1000000000 ^ m % 1000000000 : Nat) : Int) :: (pad n k).drop (m + 1) := by
  rw [List.drop_eq_getElem_cons (by rw [pad_len]; exact h), pad_get]
theorem sSmallL (n d : Nat) (hl : (dg n).length ≤ 1000000) (h0 : d ≠ 0) (hd : d < 1000000000) : fn Try.prog conv ext 171 [LI (dg n), I d] = some (.tup [LI (dg (n / d)), I (n % d : Nat)]) := by
  have e1 : (8 : Int) * ((dg n).length : Int) ≤ 281474976710656 := by omega
  have e2 : ((dg n).length : Int) ≤ 9223372036854775807 := by omega
  have e3 : (0 : Int) ≤ ((dg n).length : Int) := by omega
  have e4 := wrap_id (n := ((dg n).length : Int) - 1) (by omega) (by omega)
  have ht := strim (pad (n / d) (dg n).length) (by unfold Short; rw [pad_len]; omega)
  rw [trim_pad] at ht
  rw [fn_eq, ev_eqQ (rs := [.tmp 4, .tmp 5]) [] rfl Try.func171 rfl rfl (by kernel_rfl) (by kernel_rfl)]
  simp only [go_sem, e1, e2, e3, e4]
  generalize hL : evLoopI _ _ = y
  obtain ⟨r, rfl, T', σ', nx', rfl, h6, h7, hσ⟩ := loop_rule hL (fun m st => st.T 0 = LI (dg n) ∧ st.T 1 = I d ∧ st.T 6 = .rs 0 0 (dg n).length ∧ st.T 8 = I ((m : Int) - 1) ∧ st.T 7 = I (n / 1000000000 ^ m % d : Nat) ∧ m ≤ (dg n).length ∧ st.σ 0 = some ⟨rep m [I 0] ++ ((pad (n / d) (dg n).length).drop m).flatMap cI, 1, true⟩)
    (fun r => ∃ T σ nx, r = (.exit 0, ⟨T, σ, nx⟩) ∧ T 6 = .rs 0 0 (dg n).length ∧ T 7 = I (n % d : Nat) ∧ σ 0 = some ⟨(pad (n / d) (dg n).length).flatMap cI, 1, true⟩) (by
      clear hL
      rintro m ⟨T, σ, nx⟩ ⟨t0, t1, t6, t8, t7, hm, hσ⟩
      simp only at t0 t1 t6 t8 t7 hσ
      cases m with
      | zero =>
        have f0' : ¬(0 : Int) ≤ 0 - 1 := by omega
        rw [Nat.pow_zero, Nat.div_one] at t7
        refine .inr ⟨_, by simp only [go_sem, t8, f0']; rfl, by simp, _, _, _, rfl, by simp only [go_sem, t6], by simp only [go_sem, t7], ?_⟩
        rw [hσ, List.drop_zero]; rfl
      | succ m =>
        have hlt : m < (dg n).length := by omega
        have e5 : ((m + 1 : Nat) : Int) - 1 = (m : Int) := by omega
        rw [e5] at t8
        have f0 : (0 : Int) ≤ (m : Int) := by omega
        have f3 : (m : Int) < ((dg n).length : Int) := by omega
        have f5 := slot_ne (c := cI) (s := 1) (fun _ => rfl) (by omega) (dg n) m hlt
        have f6 := idx hlt
        rw [dg_get hlt] at f6
        have hdg := dg_shift n m
        have hpd := pad_drop (n := n / d) (k := (dg n).length) hlt
        have hq : n / d / 1000000000 ^ m = n / 1000000000 ^ m / d := by rw [Nat.div_div_eq_div_mul, Nat.div_div_eq_div_mul, Nat.mul_comm]
        rw [hq] at hpd
        have hle : n / 1000000000 ^ m ≤ n := Nat.div_le_self _ _
        obtain ⟨u, hu⟩ : ∃ u, n / 1000000000 ^ (m + 1) = u := ⟨_, rfl⟩
        obtain ⟨w, hw0⟩ : ∃ w, n / 1000000000 ^ m = w := ⟨_, rfl⟩
        rw [hu] at t7
        rw [hu, hw0] at hdg
        rw [hw0] at f6 hpd hle
        have hw : w % 1000000000 < 1000000000 := Nat.mod_lt _ (by decide)
        have hr : u % d < d := Nat.mod_lt _ (by omega)
        have hx : u % d * 1000000000 + w % 1000000000 < d * 1000000000 := by omega
        have hwu : w = d * 1000000000 * (u / d) + (u % d * 1000000000 + w % 1000000000) := by
          have := Nat.div_add_mod u d
          have h3 : d * (u / d) * 1000000000 = d * 1000000000 * (u / d) := by rw [Nat.mul_right_comm]
          omega
        obtain ⟨x, hxx⟩ : ∃ x, u % d * 1000000000 + w % 1000000000 = x := ⟨_, rfl⟩
        rw [hxx] at hwu hx
        have hdq : w / d % 1000000000 = x / d := by
          have h1 : w / d = 1000000000 * (u / d) + x / d := by
            rw [hwu, Nat.mul_assoc, Nat.add_comm, Nat.add_mul_div_left _ _ (by omega), Nat.add_comm]
          have h2 : x / d < 1000000000 := Nat.div_lt_of_lt_mul hx
          rw [h1]
          generalize x / d = q at h2 ⊢
          generalize u / d = p
          omega
        have hdr : w % d = x % d := by
          rw [hwu, Nat.mul_assoc, Nat.add_comm, Nat.add_mul_mod_self_left]
        have f7 := wrap_id (n := (m : Int) - 1) (by omega) (by omega)
        have f8 := wrap_id (n := ((u % d : Nat) : Int) * 1000000000) (by omega) (by omega)
        have g9 : ((u % d : Nat) : Int) * 1000000000 + ((w % 1000000000 : Nat) : Int) = (x : Int) := by omega
        have f9 := wrap_id (n := (x : Int)) (by omega) (by omega)
        have c1 : ¬(d : Int) = 0 := by omega
        have c2 : (x : Int).tdiv (d : Int) = ((x / d : Nat) : Int) := by rw [Int.tdiv_eq_ediv_of_nonneg (by omega)]; rfl
        have c3 : (x : Int).tmod (d : Int) = ((x % d : Nat) : Int) := by rw [Int.tmod_eq_emod_of_nonneg (by omega)]; rfl
        have hxd : x / d ≤ x := Nat.div_le_self _ _
        have c4 := wrap_id (n := ((x / d : Nat) : Int)) (by omega) (by omega)
        have c5 : m < (rep (m + 1) [I 0] ++ ((pad (n / d) (dg n).length).drop (m + 1)).flatMap cI).length := by rw [List.length_append, rep_len]; simp; omega
        have c6 := rep_set m (I 0) (I (x / d : Nat)) (((pad (n / d) (dg n).length).drop (m + 1)).flatMap cI)
        refine .inl ⟨_, by simp only [go_sem, t0, t1, t6, t8, t7, hσ, f0, f3, f5, f6, f7, f8, f9, g9, c1, c2, c3, c4, c5, c6]; rfl, m, by omega, ?_⟩
        simp only [go_sem, t0, t1, t6]
        refine ⟨by rw [hw0, hdr], by omega, ?_⟩
        rw [hpd, hdq]; rfl) (dg n).length ⟨by simp only [go_sem], by simp only [go_sem], by simp only [go_sem], by simp only [go_sem], by simp only [go_sem, dg_end, Nat.zero_mod], Nat.le_refl _, by simp only [go_sem]; rw [List.drop_of_length_le (by rw [pad_len]; exact Nat.le_refl _)]; simp⟩
  · have ht' : fn Try.prog conv ext 147 [.ts ((pad (n / d) (dg n).length).flatMap cI) (dg n).length] = some (LI (dg (n / d))) := by
      have hl : (pad (n / d) (dg n).length).length = (dg n).length := pad_len _ _
      unfold LI at ht
      rw [hl] at ht; exact ht
    have pl : (pad (n / d) (dg n).length).length = (dg n).length := pad_len _ _
    have tk : List.take (dg n).length ((pad (n / d) (dg n).length).flatMap cI) = (pad (n / d) (dg n).length).flatMap cI := by
      have := cI_takeall (pad (n / d) (dg n).length)
      rwa [pl] at this
    simp only [go_sem, h6, h7, hσ, pl, tk, ht']
  · exact Nat.lt_of_le_of_lt (Nat.div_le_self _ _) (by
      have := dg_end n
      exact (Nat.div_eq_zero_iff_lt (Nat.pow_pos (by decide))).mp this)
theorem sSmall (n d : Nat) (hn : n < 1000000000000000000) (h0 : d ≠ 0) (hd : d < 1000000000) : fn Try.prog conv ext 171 [LI (dg n), I d] = some (.tup [LI (dg (n / d)), I (n % d : Nat)]) :=
  sSmallL n d (by have := dg_few 2 n (by omega); omega) h0 hd
end Go.Proofs.Ytlkpocljgikpgaa
namespace Go.Proofs.Ytlkpocljgikpgaa
open Go Go.TV

theorem dg_one {d : Nat} (h0 : d ≠ 0) (h : d < 1000000000) : dg d = [(d : Int)] := by
  rw [dg_pos h0, Nat.div_eq_of_lt h, dg_zero, Nat.mod_eq_of_lt h]
theorem sDiv1 (n d : Nat) (hn : n < 1000000000000000000) (h0 : d ≠ 0) (hd : d < 1000000000) : fn Try.prog conv ext 148 [LI (dg n), LI (dg d)] = some (.tup [LI (dg (n / d)), LI (dg (n % d))]) := by
  have h1 := sSmall n d hn h0 hd
  have hr : n % d < d := Nat.mod_lt _ (by omega)
  have h2 := sNatOf (n % d) (by omega)
  have z1 : (0 : Int) < 1 := by decide
  have z3 : (0 : Int).toNat = 0 := id rfl
  rw [dg_one h0 hd]
  rw [fn_eq, ev_eqQ (rs := [.tmp 4, .tmp 5]) [] rfl Try.func148 rfl rfl (by kernel_rfl) (by kernel_rfl)]
  simp only [go_sem, z1, z3, h1, h2]
theorem dg_is_one (n : Nat) : (dg n = [1]) ↔ n = 1 := by
  constructor
  · intro h
    by_cases h0 : n = 0
    · subst h0; rw [dg_zero] at h; cases h
    · rw [dg_pos h0] at h
      obtain ⟨h1, h2⟩ := List.cons.inj h
      have : n / 1000000000 = 0 := Classical.byContradiction fun hn => dg_ne hn h2
      omega
  · rintro rfl; rw [dg_one (by decide) (by decide)]; rfl
theorem sLow (neg : Bool) (m n : Nat) (hm : m < 1000000000000000000) (h0 : n ≠ 0) (hn : n < 1000000000) :
    fn Try.prog conv ext 119 [Bo neg, LI (dg m), LI (dg n)] = some (.agg [Bo (neg && decide (0 < (dg (m / Nat.gcd m n)).length)), LI (dg (m / Nat.gcd m n)), LI (dg (n / Nat.gcd m n))]) := by
  have hg0 : Nat.gcd m n ≠ 0 := fun e => h0 (Nat.eq_zero_of_gcd_eq_zero_right e)
  have hgn : Nat.gcd m n ≤ n := Nat.gcd_le_right _ (by omega)
  have hyd : n / Nat.gcd m n ≠ 0 := by
    have := Nat.div_pos hgn (by omega)
    omega
  have hmx : m / Nat.gcd m n ≤ m := Nat.div_le_self _ _
  have hny : n / Nat.gcd m n ≤ n := Nat.div_le_self _ _
  have k1 := strim (dg m) (short_dg (by omega))
  have k2 := strim (dg n) (short_dg (by omega))
  rw [trim_dg] at k1 k2
  have k3 := sOne (dg n) (short_dg (by omega))
  have k4 := sGcd m n hm (by omega) h0
  have k5 := sOne (dg (Nat.gcd m n)) (short_dg (by omega))
  have k6 := sDiv1 m (Nat.gcd m n) hm hg0 (by omega)
  have k7 := sDiv1 n (Nat.gcd m n) (by omega) hg0 (by omega)
  have lx := dg_few 2 (m / Nat.gcd m n) (by omega)
  have ly := dg_few 2 (n / Nat.gcd m n) (by omega)
  have k8 := smake neg (dg (m / Nat.gcd m n)) (short_dg (by omega)) (by rw [trim_dg]; omega)
  rw [trim_dg] at k8
  have l0 : (((dg n).length : Int) == 0) = false := by rw [beq_eq_false_iff_ne]; have := app_len (dg_ne h0); omega
  have c1 : ¬(24 : Int) < ((dg (m / Nat.gcd m n)).length : Int) := by omega
  have c2 : ¬(24 : Int) < ((dg (n / Nat.gcd m n)).length : Int) := by omega
  have z1 : ¬(dg (n / Nat.gcd m n)).length = 0 := app_len (dg_ne hyd)
  have s1 : (dg (n / Nat.gcd m n)).length ≤ maxLen ∧ (dg (n / Nat.gcd m n)).length * 8 ≤ 140737488355328 := by unfold maxLen; omega
  rw [fn_eq, ev_eqQ (rs := [.cell 6 31]) [] rfl Try.func119 rfl rfl (by kernel_rfl) (by kernel_rfl)]
  by_cases h1 : n = 1
  · have hg1 : Nat.gcd m n = 1 := by rw [h1, Nat.gcd_one_right]
    simp only [hg1, Nat.div_one] at c1 c2 k8 z1 s1 ⊢
    rw [decide_eq_true ((dg_is_one n).mpr h1)] at k3
    simp only [go_sem, k1, k2, k3, k8, l0, c1, c2, z1, s1]
  · rw [decide_eq_false (mt (dg_is_one n).mp h1)] at k3
    by_cases hg1 : Nat.gcd m n = 1
    · rw [decide_eq_true ((dg_is_one _).mpr hg1)] at k5
      rw [hg1] at k4 k5
      simp only [hg1, Nat.div_one] at c1 c2 k8 z1 s1 ⊢
      simp only [go_sem, k1, k2, k3, k4, k5, k8, l0, c1, c2, z1, s1]
    · rw [decide_eq_false (mt (dg_is_one _).mp hg1)] at k5
      simp only [go_sem, k1, k2, k3, k4, k5, k6, k7, k8, l0, c1, c2, z1, s1]
def ratD (m n : Nat) : List V := [Bo false, LI (dg (m / Nat.gcd m n)), LI (dg (n / Nat.gcd m n))]
theorem sRatMake (m n : Nat) (hm : m < 1000000000000000000) (h0 : n ≠ 0) (hn : n < 1000000000) :
    fn Try.prog conv ext 87 [.agg [Bo false, LI (dg m)], .agg [Bo false, LI (dg n)]] = some (.agg (ratD m n)) := by
  have k1 := sBigIntOk false (dg m) (short_dg (by omega))
  have k2 := sBigIntOk false (dg n) (short_dg (by omega))
  have k3 := sLow false m n hm h0 hn
  rw [pb_true (natGood_dg (by omega))] at k1 k2
  unfold ratD
  rw [fn_eq, ev_eqQ (rs := [.cell 4 31]) [] rfl Try.func87 rfl rfl (by kernel_rfl) (by kernel_rfl)]
  simp only [go_sem, Bool.not_false, Bool.true_or] at k1 k2 k3
  simp only [go_sem, k1, k2, k3]
theorem sRatOf (m n : Nat) (hm : m < 1000000000000000000) (h0 : n ≠ 0) (hn : n < 1000000000) :
    fn Try.prog conv ext 52 [I m, I n] = some (.agg (ratD m n)) := by
  have k1 := sBigIntOf m (by omega)
  have k2 := sBigIntOf n (by omega)
  have k3 := sRatMake m n hm h0 hn
  unfold ratD at *
  rw [fn_eq, ev_eqQ (rs := [.cell 4 31]) [] rfl Try.func52 rfl rfl (by kernel_rfl) (by kernel_rfl)]
  simp only [go_sem, k1, k2, k3]
theorem sq_le {a b : Int} (h0 : 0 ≤ a) (h : a ≤ b) : 0 ≤ a * a ∧ a * a ≤ b * b := ⟨Int.mul_nonneg h0 h0, Int.mul_le_mul h h h0 (by omega)⟩
def slT (w half h : Int) : List V := if (inB w 0 1000 && (inB half 0 1000 && inB h 1 1000)) = true then ratD (w * w * (half * half + h * h)).toNat (4 * h * h).toNat else [Bo false, .ts [] 0, .ts [] 0]
theorem sSling (w half h : Int) : fn Try.prog conv ext 19 [I w, I half, I h] = some (.tup [.agg (slT w half h), Bo (inB w 0 1000 && (inB half 0 1000 && inB h 1 1000))]) := by
  have t1 := l01In w 0 1000
  have t2 := l01In half 0 1000
  have t3 := l01In h 1 1000
  unfold slT
  rw [fn_eq, ev_eqQ (rs := [.cell 6 31, .tmp 7]) [] rfl Try.func19 rfl rfl (by kernel_rfl) (by kernel_rfl)]
  cases hw : inB w 0 1000 with
  | false => rw [hw] at t1; simp only [go_sem, t1]
  | true =>
  cases hf : inB half 0 1000 with
  | false => rw [hw] at t1; rw [hf] at t2; simp only [go_sem, t1, t2]
  | true =>
  cases hh : inB h 1 1000 with
  | false => rw [hw] at t1; rw [hf] at t2; rw [hh] at t3; simp only [go_sem, t1, t2, t3]
  | true =>
  rw [hw] at t1; rw [hf] at t2; rw [hh] at t3
  have w1 := inB_true hw
  have f1 := inB_true hf
  have h1 := inB_true hh
  have w2 := sq_le w1.1 w1.2
  have f2 := sq_le f1.1 f1.2
  have h2 := sq_le (by omega : 0 ≤ h) h1.2
  have h2' : 0 < h * h := Int.mul_pos (by omega) (by omega)
  have p1 : 0 ≤ w * w * (half * half + h * h) := Int.mul_nonneg w2.1 (by omega)
  have p2 : w * w * (half * half + h * h) ≤ 1000000 * 2000000 := Int.mul_le_mul (by omega) (by omega) (by omega) (by omega)
  have e0 : 4 * h * h = 4 * (h * h) := Int.mul_assoc _ _ _
  have a1 := wrap_id (n := w * w) (by omega) (by omega)
  have a2 := wrap_id (n := half * half) (by omega) (by omega)
  have a3 := wrap_id (n := h * h) (by omega) (by omega)
  have a4 := wrap_id (n := half * half + h * h) (by omega) (by omega)
  have a5 := wrap_id (n := w * w * (half * half + h * h)) (by omega) (by omega)
  have b1 := wrap_id (n := 4 * h) (by omega) (by omega)
  have b2 := wrap_id (n := 4 * h * h) (by omega) (by omega)
  have k1 := sRatOf (w * w * (half * half + h * h)).toNat (4 * h * h).toNat (by omega) (by omega) (by omega)
  rw [Int.toNat_of_nonneg p1, Int.toNat_of_nonneg (by omega)] at k1
  unfold ratD at *
  simp only [go_sem, t1, t2, t3, a1, a2, a3, a4, a5, b1, b2, k1]

/-! ### The least height -/
def fitsB (w half limit : Int) (k : Nat) : Bool := decide (w * w * (half * half + ((k : Int) + 1) * ((k : Int) + 1)) ≤ 4 * ((k : Int) + 1) * ((k : Int) + 1) * limit * limit)
def leastH (w half limit : Int) : Int := if ix (fitsB w half limit) (List.range 1000) < 0 then -1 else ix (fitsB w half limit) (List.range 1000) + 1
structure Wraps (w half limit h : Int) : Prop where
  a1 : IntKind.i64.wrap (w * w) = w * w
  a2 : IntKind.i64.wrap (half * half) = half * half
  a3 : IntKind.i64.wrap (h * h) = h * h
  a4 : IntKind.i64.wrap (half * half + h * h) = half * half + h * h
  a5 : IntKind.i64.wrap (w * w * (half * half + h * h)) = w * w * (half * half + h * h)
  b1 : IntKind.i64.wrap (4 * h) = 4 * h
  b2 : IntKind.i64.wrap (4 * h * h) = 4 * h * h
  b3 : IntKind.i64.wrap (4 * h * h * limit) = 4 * h * h * limit
  b4 : IntKind.i64.wrap (4 * h * h * limit * limit) = 4 * h * h * limit * limit
theorem wraps {w half limit h : Int} (w1 : 0 ≤ w ∧ w ≤ 1000) (f1 : 0 ≤ half ∧ half ≤ 1000) (l1 : 0 ≤ limit ∧ limit ≤ 1000) (h1 : 1 ≤ h ∧ h ≤ 1000) : Wraps w half limit h := by
  have w2 := sq_le w1.1 w1.2
  have f2 := sq_le f1.1 f1.2
  have h2 := sq_le (by omega : 0 ≤ h) h1.2
  have p1 : 0 ≤ w * w * (half * half + h * h) := Int.mul_nonneg w2.1 (by omega)
  have p2 : w * w * (half * half + h * h) ≤ 1000000 * 2000000 := Int.mul_le_mul (by omega) (by omega) (by omega) (by omega)
  have e0 : 4 * h * h = 4 * (h * h) := Int.mul_assoc _ _ _
  have q0 : 0 ≤ 4 * h * h := by omega
  have q1 : 0 ≤ 4 * h * h * limit := Int.mul_nonneg q0 l1.1
  have q2 : 4 * h * h * limit ≤ 4000000 * 1000 := Int.mul_le_mul (by omega) l1.2 l1.1 (by omega)
  have q3 : 0 ≤ 4 * h * h * limit * limit := Int.mul_nonneg q1 l1.1
  have q4 : 4 * h * h * limit * limit ≤ 4000000 * 1000 * 1000 := Int.mul_le_mul q2 l1.2 l1.1 (by omega)
  exact ⟨wrap_id (by omega) (by omega), wrap_id (by omega) (by omega), wrap_id (by omega) (by omega), wrap_id (by omega) (by omega), wrap_id (by omega) (by omega), wrap_id (by omega) (by omega), wrap_id (by omega) (by omega), wrap_id (by omega) (by omega), wrap_id (by omega) (by omega)⟩
theorem range_get {k : Nat} (h : k < (List.range 1000).length) : (List.range 1000)[k] = k := List.getElem_range _
theorem least_at {w half limit : Int} {k : Nat} (hk : k < 1000) (hl : ∀ i, i < k → fitsB w half limit i = false) (h : fitsB w half limit k = true) : leastH w half limit = (k : Int) + 1 := by
  have hk' : k < (List.range 1000).length := by rw [List.length_range]; exact hk
  have := ix_at (p := fitsB w half limit) hk' (fun i hi hik => by rw [range_get]; exact hl i hik) (by rw [range_get]; exact h)
  unfold leastH
  rw [this, if_neg (by omega)]
theorem least_none {w half limit : Int} (hl : ∀ i, i < 1000 → fitsB w half limit i = false) : leastH w half limit = -1 := by
  have := ix_none (p := fitsB w half limit) (xs := List.range 1000) (fun i hi => by rw [range_get]; exact hl i (by rw [List.length_range] at hi; exact hi))
  unfold leastH
  rw [this, if_pos (by decide)]
def lhR (w half limit : Int) : Int := if (inB w 0 1000 && (inB half 0 1000 && inB limit 0 1000)) = true then leastH w half limit else -1
theorem isWidth (n : Int) : fn Try.prog conv ext 53 [I n] = some (Bo (inB n (0) 1000)) := by
  unfold inB
  rw [fn_eq, ev_eqQ (rs := [.tmp 2]) [] rfl Try.func53 rfl rfl (by kernel_rfl) (by kernel_rfl)]
  by_cases h : 0 ≤ n <;> simp only [go_sem, h]
theorem isHeight (n : Int) : fn Try.prog conv ext 54 [I n] = some (Bo (inB n (1) 1000)) := by
  unfold inB
  rw [fn_eq, ev_eqQ (rs := [.tmp 2]) [] rfl Try.func54 rfl rfl (by kernel_rfl) (by kernel_rfl)]
  by_cases h : 1 ≤ n <;> simp only [go_sem, h]
theorem slT_len (w half h : Int) : (slT w half h).length = 3 := by unfold slT ratD; split <;> rfl
theorem slT_cells (w half h : Int) : (slT w half h).all isCell = true := by unfold slT ratD; split <;> rfl
theorem slT_patch (w half h : Int) (a b c : V) : patch [a, b, c] 0 (slT w half h) = slT w half h := by
  unfold slT ratD; split <;> rfl
end Go.Proofs.Ytlkpocljgikpgaa
namespace Go.Proofs.Ytlkpocljgikpgaa
open Go Go.TV

theorem isigned (neg : Bool) (a : List Int) : fn Try.prog conv ext 109 [Bo neg, LI a] = some (.agg [Bo (neg && decide (0 < a.length)), LI a]) := by
  rw [fn_eq, ev_eqQ (rs := [.cell 4 29]) [] rfl Try.func109 rfl rfl (by kernel_rfl) (by kernel_rfl)]
  by_cases h : 0 < a.length
  · have h' : (0 : Int) < (a.length : Int) := by omega
    cases neg <;> simp only [go_sem, h, h']
  · have h' : ¬(0 : Int) < (a.length : Int) := by omega
    cases neg <;> simp only [go_sem, h, h']
theorem u3 : Try.prog.underlying 3 = some (.int .i64) := Try.underlying3
theorem u64t : Try.prog.underlying 141 = some (.int .u64) := Try.underlying141
theorem cvtU (k : IntKind) (n : Int) (σ : Store) : evConvert Try.prog 3 141 (.sc (.int k n)) σ = some (.sc (.int .u64 (IntKind.u64.wrap n))) := ev_cvt u3 u64t
theorem cvtI (k : IntKind) (n : Int) (σ : Store) : evConvert Try.prog 141 3 (.sc (.int k n)) σ = some (.sc (.int .i64 (IntKind.i64.wrap n))) := ev_cvt u64t u3
attribute [go_sem] cvtU cvtI
theorem ilimbs' (n : Nat) (hn : n ≤ 18446744073709551615) : fn Try.prog conv ext 111 [.sc (.int .u64 n)] = some (LI (dg n)) := by
  rw [fn_eq, ev_eqQ (rs := [.tmp 2]) [] rfl Try.func111 rfl rfl (by kernel_rfl) (by kernel_rfl)]
  simp only [go_sem]
  generalize hL : evLoopI _ _ = y
  obtain ⟨r, rfl, T', σ', nx', rfl, hr⟩ := loop_rule hL (fun m st => st.T 0 = .sc (.int .u64 m) ∧ ∃ acc, Grow st.T st.σ st.nx 3 acc ∧ dg n = acc ++ dg m ∧ 1000000000 ^ acc.length * m ≤ n)
    (fun r => ∃ T σ nx, r = (.exit 0, ⟨T, σ, nx⟩) ∧ Grow T σ nx 3 (dg n)) (by
      clear hL
      rintro m ⟨T, σ, nx⟩ ⟨h0, acc, hacc, hd, hp⟩
      simp only at h0 hacc
      by_cases hm : m = 0
      · subst hm
        have f0 : ¬(0 : Int) < 0 := by omega
        refine .inr ⟨_, by simp only [go_sem, h0, f0]; rfl, by simp, _, _, _, rfl, ?_⟩
        rw [dg_zero, List.append_nil] at hd
        rw [hd]
        simpa only [Grow, go_sem] using hacc
      · have f0 : (0 : Int) < (m : Int) := by omega
        have hk := pow_few hp (by omega) (by omega)
        have hmn : m ≤ n := Nat.le_trans (Nat.le_mul_of_pos_left _ (Nat.pow_pos (by decide))) hp
        have f1 : (m : Int).tmod 1000000000 = ((m % 1000000000 : Nat) : Int) := by rw [Int.tmod_eq_emod_of_nonneg (by omega)]; omega
        have f2 : IntKind.u64.wrap ((m : Int).tdiv 1000000000) = ((m / 1000000000 : Nat) : Int) := by
          rw [Int.tdiv_eq_ediv_of_nonneg (by omega)]
          rw [wrap_u64 (by omega) (by omega)]; omega
        have f3 := wrap_id (n := ((m % 1000000000 : Nat) : Int)) (by omega) (by omega)
        have hd' : dg n = (acc ++ [((m % 1000000000 : Nat) : Int)]) ++ dg (m / 1000000000) := by rw [hd, dg_pos hm]; simp
        have hp' : 1000000000 ^ (acc ++ [((m % 1000000000 : Nat) : Int)]).length * (m / 1000000000) ≤ n := by
          rw [List.length_append, List.length_singleton, Nat.pow_succ, Nat.mul_assoc]
          exact Nat.le_trans (Nat.mul_le_mul_left _ (Nat.mul_div_le _ _)) hp
        have hlt : m / 1000000000 < m := Nat.div_lt_self (by omega) (by decide)
        obtain ⟨σ', ha, hs⟩ := grow_append hacc ((m % 1000000000 : Nat) : Int) (by omega)
        refine .inl ⟨_, by simp only [go_sem, h0, f0, f1, f2, f3, ha]; rfl, _, hlt, ?_, _, ?_, hd', hp'⟩
        · simp only [go_sem]
        · exact grow_new hs (by simp [go_sem]) (by simp)) n ⟨by simp only [go_sem], [], .inl ⟨by simp only [go_sem], rfl⟩, rfl, by simp⟩
  obtain ⟨ids, h1⟩ := grow_strip hr 6
  simp only [go_sem, h1]
theorem ilimbs (n : Nat) (hn : n ≤ 9223372036854775807) : fn Try.prog conv ext 111 [.sc (.int .u64 n)] = some (LI (dg n)) := ilimbs' n (by omega)
theorem iinteger (n : Nat) (hn : n ≤ 9223372036854775807) : fn Try.prog conv ext 78 [I n] = some (.agg [Bo (false && decide (0 < (dg n).length)), LI (dg n)]) := by
  have h1 := ilimbs n hn
  have h2 := isigned false (dg n)
  have h3 := wrap_u64 (n := n) (by omega) (by omega)
  have c1 : ¬(n : Int) < 0 := by omega
  rw [fn_eq, ev_eqQ (rs := [.cell 2 29]) [] rfl Try.func78 rfl rfl (by kernel_rfl) (by kernel_rfl)]
  simp only [go_sem, c1, h3, h1, h2]
theorem iBigIntOf (n : Nat) (hn : n ≤ 9223372036854775807) : fn Try.prog conv ext 90 [I n] = some (.agg [Bo false, LI (dg n)]) := by
  have h1 := iinteger n hn
  rw [Bool.false_and] at h1
  rw [fn_eq, ev_eqQ (rs := [.cell 2 29]) [] rfl Try.func90 rfl rfl (by kernel_rfl) (by kernel_rfl)]
  simp only [go_sem, h1]
theorem closeNatOk (x : Int) : fn Try.prog conv ext 146 [I x] = some (Bo (!inB x 0 999999999)) := by
  rw [fn_eq, ev_eqQ (rs := [.tmp 2]) [] rfl Try.func146 rfl rfl (by kernel_rfl) (by kernel_rfl)]
  by_cases h : x < 0
  · have : inB x 0 999999999 = false := by unfold inB; rw [decide_eq_false (by omega)]; rfl
    rw [this]
    simp only [go_sem, h]
  · have : inB x 0 999999999 = decide (x ≤ 999999999) := by unfold inB; rw [decide_eq_true (by omega), Bool.true_and]
    rw [this]
    by_cases h2 : 1000000000 ≤ x
    · rw [decide_eq_false (by omega)]
      simp only [go_sem, h, h2]
    · rw [decide_eq_true (by omega)]
      simp only [go_sem, h, h2]
theorem iNatOk (a : List Int) (ha : Short a) : fn Try.prog conv ext 115 [LI a] = some (Bo (pb (NatGood a))) := by
  unfold Short at ha
  have hc := hasInt a 146 (fun x => !inB x 0 999999999) (by unfold maxLen; omega) (by rfl) (fun x _ => closeNatOk x)
  rw [fn_eq, ev_eqQ (rs := [.tmp 2]) [] rfl Try.func115 rfl rfl (by kernel_rfl) (by kernel_rfl)]
  by_cases h1 : (60 : Int) < (a.length : Int)
  · rw [pb_false (fun hn : NatGood a => by have := hn.2.1; omega)]
    simp only [go_sem, h1]
  have hg : (trimL a = a) → pb (NatGood a) = !decide (0 ≤ ix (fun x => !inB x 0 999999999) a) := fun ht => by
    refine (pb_eq ?_).symm
    rw [Bool.not_eq_true', decide_eq_false_iff_not, Int.not_le, ix_lt]
    exact ⟨fun hq => ⟨fun x hx => by simpa using hq x hx, by omega, ht⟩, fun hq m hm => by simp [hq.1 m hm]⟩
  by_cases hz : a = []
  · have ht : trimL a = a := by rw [hz]; rfl
    rw [hg ht]
    subst hz
    have : ¬(0 : Int) < 0 := by decide
    have h60 : ¬(60 : Int) < 0 := by decide
    have hc' : fn Try.prog conv ext 145 [.ts [] 0, .clo 146 []] = some (Bo (decide (0 ≤ ix (fun x => !inB x 0 999999999) []))) := hc
    simp only [go_sem, this, h60, hc']
  · have hpos : 0 < a.length := List.length_pos_iff.mpr hz
    have c0 : (0 : Int) < (a.length : Int) := by omega
    have f1 := wrap_id (n := (a.length : Int) - 1) (by omega) (by omega)
    have f2 : (0 : Int) ≤ (a.length : Int) - 1 := by omega
    have f3 : (a.length : Int) - 1 < (a.length : Int) := by omega
    have f4 : ((a.length : Int) - 1).toNat = a.length - 1 := by omega
    have f5 := idx (xs := a) (k := a.length - 1) (by omega)
    have f9 := slot_ne (c := cI) (s := 1) (fun _ => rfl) (by omega) a 0 hpos
    by_cases hl : a[a.length - 1] = 0
    · have hl' : (a[a.length - 1] == (0 : Int)) = true := by simpa using hl
      rw [pb_false (fun hn : NatGood a => (trim_last hz).mp hn.2.2 hl)]
      simp only [go_sem, h1, c0, f1, f2, f3, f4, f5, f9, hl']
    · have hl' : (a[a.length - 1] == (0 : Int)) = false := by simpa using hl
      rw [hg ((trim_last hz).mpr hl)]
      simp only [go_sem, h1, c0, f1, f2, f3, f4, f5, f9, hl', hc]
end Go.Proofs.Ytlkpocljgikpgaa
namespace Go.Proofs.Ytlkpocljgikpgaa
open Go Go.TV

theorem iBigIntOk (neg : Bool) (a : List Int) (ha : Short a) : fn Try.prog conv ext 114 [.agg [Bo neg, LI a]] = some (Bo (pb (NatGood a) && !(neg && decide (a = [])))) := by
  have h1 := iNatOk a ha
  rw [fn_eq, ev_eqQ (rs := [.tmp 2]) [] rfl Try.func114 rfl rfl (by kernel_rfl) (by kernel_rfl)]
  generalize pb (NatGood a) = b at *
  by_cases h : a = []
  · subst h
    have h1' : fn Try.prog conv ext 115 [.ts [] 0] = some (Bo b) := h1
    cases b <;> cases neg <;> simp only [go_sem, h1'] <;> rfl
  · have h' : ((a.length : Int) == 0) = false := by simpa using h
    rw [decide_eq_false h]
    cases b <;> cases neg <;> simp only [go_sem, h1, h'] <;> rfl

/-! ### Order -/
def cmpN (m n : Nat) : Int := if m < n then -1 else if m = n then 0 else 1
theorem dg_lt {n : Nat} : n < 1000000000 ^ (dg n).length := (Nat.div_eq_zero_iff_lt (Nat.pow_pos (by decide))).mp (dg_end n)
theorem dg_ge {n k : Nat} (h : k < (dg n).length) : 1000000000 ^ k ≤ n := by
  have h1 := dg_drop n k
  rw [List.drop_eq_getElem_cons h] at h1
  have h2 : n / 1000000000 ^ k ≠ 0 := fun e => by rw [e, dg_zero] at h1; cases h1
  exact Classical.byContradiction fun hn => h2 (Nat.div_eq_of_lt (by omega))
theorem dg_len_lt {m n : Nat} (h : (dg m).length < (dg n).length) : m < n := Nat.lt_of_lt_of_le dg_lt (dg_ge h)
theorem lt_of_top {m n j : Nat} (h1 : m / 1000000000 ^ (j + 1) = n / 1000000000 ^ (j + 1)) (h2 : m / 1000000000 ^ j % 1000000000 < n / 1000000000 ^ j % 1000000000) : m < n := by
  have a := dg_shift m j
  have b := dg_shift n j
  rw [h1] at a
  have : m / 1000000000 ^ j < n / 1000000000 ^ j := by omega
  exact Classical.byContradiction fun hn => by
    have := Nat.div_le_div_right (c := 1000000000 ^ j) (show n ≤ m by omega)
    omega
theorem icompareL (m n : Nat) (l1 : (dg m).length ≤ 1000000) (l2 : (dg n).length ≤ 1000000) : fn Try.prog conv ext 116 [LI (dg m), LI (dg n)] = some (I (cmpN m n)) := by
  rw [fn_eq, ev_eqQ (rs := [.tmp 4]) [] rfl Try.func116 rfl rfl (by kernel_rfl) (by kernel_rfl)]
  by_cases hl : (dg m).length = (dg n).length
  · have c1 : (((dg m).length : Int) != ((dg n).length : Int)) = false := by rw [hl]; simp
    have e1 := wrap_id (n := ((dg m).length : Int) - 1) (by omega) (by omega)
    simp only [go_sem, c1, e1]
    generalize hL : evLoopI _ _ = y
    obtain ⟨r, rfl, hr⟩ := loop_rule hL (fun k st => st.nx = 0 ∧ st.σ = noStore ∧ st.T 0 = LI (dg m) ∧ st.T 1 = LI (dg n) ∧ st.T 5 = I ((k : Int) - 1) ∧ k ≤ (dg m).length ∧ m / 1000000000 ^ k = n / 1000000000 ^ k)
      (fun r => (∃ T, r = (.exit 0, ⟨T, noStore, 0⟩) ∧ m = n) ∨ (∃ T, r = (.ret, ⟨T, noStore, 0⟩) ∧ T 4 = I (cmpN m n))) (by
        clear hL
        rintro k ⟨T, σ, nx⟩ ⟨hnx, hσ, h0, h1, h5, hk, he⟩
        simp only at hnx hσ h0 h1 h5
        subst hnx hσ
        cases k with
        | zero =>
          have f0' : ¬(0 : Int) ≤ 0 - 1 := by omega
          rw [Nat.pow_zero, Nat.div_one, Nat.div_one] at he
          exact .inr ⟨_, by simp only [go_sem, h5, f0']; rfl, by simp, .inl ⟨_, rfl, he⟩⟩
        | succ k =>
          have hlt : k < (dg m).length := by omega
          have hlt2 : k < (dg n).length := by omega
          have e5 : ((k + 1 : Nat) : Int) - 1 = (k : Int) := by omega
          rw [e5] at h5
          have f0 : (0 : Int) ≤ (k : Int) := by omega
          have f3 : (k : Int) < ((dg m).length : Int) := by omega
          have f3' : (k : Int) < ((dg n).length : Int) := by omega
          have f5 := slot_ne (c := cI) (s := 1) (fun _ => rfl) (by omega) (dg m) k hlt
          have f5' := slot_ne (c := cI) (s := 1) (fun _ => rfl) (by omega) (dg n) k hlt2
          have f6 := idx hlt
          have f6' := idx hlt2
          rw [dg_get hlt] at f6
          rw [dg_get hlt2] at f6'
          have f7 := wrap_id (n := (k : Int) - 1) (by omega) (by omega)
          by_cases q1 : ((m / 1000000000 ^ k % 1000000000 : Nat) : Int) < ((n / 1000000000 ^ k % 1000000000 : Nat) : Int)
          · have hmn : m < n := lt_of_top he (by omega)
            have hc : cmpN m n = -1 := by unfold cmpN; rw [if_pos hmn]
            exact .inr ⟨_, by simp only [go_sem, h0, h1, h5, f0, f3, f3', f5, f5', f6, f6', q1]; rfl, by simp, .inr ⟨_, rfl, by simp only [go_sem, hc]⟩⟩
          · by_cases q2 : ((n / 1000000000 ^ k % 1000000000 : Nat) : Int) < ((m / 1000000000 ^ k % 1000000000 : Nat) : Int)
            · have hmn : n < m := lt_of_top he.symm (by omega)
              have hc : cmpN m n = 1 := by unfold cmpN; rw [if_neg (by omega), if_neg (by omega)]
              exact .inr ⟨_, by simp only [go_sem, h0, h1, h5, f0, f3, f3', f5, f5', f6, f6', q1, q2]; rfl, by simp, .inr ⟨_, rfl, by simp only [go_sem, hc]⟩⟩
            · have heq : m / 1000000000 ^ k = n / 1000000000 ^ k := by
                have a := dg_shift m k
                have b := dg_shift n k
                rw [he] at a
                omega
              refine .inl ⟨_, by simp only [go_sem, h0, h1, h5, f0, f3, f3', f5, f5', f6, f6', f7, q1, q2]; rfl, k, by omega, ?_⟩
              simp only [go_sem, h0, h1]
              exact ⟨by omega, heq⟩) (dg m).length ⟨rfl, rfl, by simp only [go_sem], by simp only [go_sem], by simp only [go_sem], Nat.le_refl _, by rw [dg_end, hl, dg_end]⟩
    rcases hr with ⟨T, rfl, h⟩ | ⟨T, rfl, h⟩
    · have hc : cmpN m n = 0 := by unfold cmpN; rw [if_neg (by omega), if_pos h]
      simp only [go_sem, hc]
    · simp only [go_sem, h]
  · have c1 : (((dg m).length : Int) != ((dg n).length : Int)) = true := by rw [bne_iff_ne]; omega
    by_cases hlt : ((dg m).length : Int) < ((dg n).length : Int)
    · have hmn : m < n := dg_len_lt (by omega)
      have hc : cmpN m n = -1 := by unfold cmpN; rw [if_pos hmn]
      simp only [go_sem, c1, hlt, hc]
    · have hmn : n < m := dg_len_lt (by omega)
      have hc : cmpN m n = 1 := by unfold cmpN; rw [if_neg (by omega), if_neg (by omega)]
      simp only [go_sem, c1, hlt, hc]
theorem icompare (m n : Nat) (hm : m ≤ 9223372036854775807) (hn : n ≤ 9223372036854775807) : fn Try.prog conv ext 116 [LI (dg m), LI (dg n)] = some (I (cmpN m n)) :=
  icompareL m n (by have := dg_three hm; omega) (by have := dg_three hn; omega)
end Go.Proofs.Ytlkpocljgikpgaa
namespace Go.Proofs.Ytlkpocljgikpgaa
open Go Go.TV

theorem itrim (a : List Int) (ha : Short a) : fn Try.prog conv ext 141 [LI a] = some (LI (trimL a)) := by
  unfold Short at ha
  rw [fn_eq, ev_eqQ (rs := [.tmp 2]) [] rfl Try.func141 rfl rfl (by kernel_rfl) (by kernel_rfl)]
  simp only [go_sem]
  generalize hL : evLoopI _ _ = y
  obtain ⟨r, rfl, T', rfl, hT'⟩ := loop_rule hL (fun k st => ∃ T, st = ⟨T, noStore, 0⟩ ∧ T 0 = LI (a.take k) ∧ k ≤ a.length ∧ trimL (a.take k) = trimL a) (fun r => ∃ T, r = (.exit 0, ⟨T, noStore, 0⟩) ∧ T 0 = LI (trimL a)) (by
    clear hL
    rintro k _ ⟨T, rfl, h0, hk, ht⟩
    have hl : (a.take k).length = k := by rw [List.length_take, Nat.min_eq_left hk]
    cases k with
    | zero =>
      have h0' : T 0 = .ts [] 0 := h0
      have f0 : ¬(0 : Int) < 0 := by decide
      refine .inr ⟨_, by simp only [go_sem, h0', f0]; rfl, by simp, _, rfl, ?_⟩
      simp only [go_sem, h0']
      rw [← ht]; rfl
    | succ k =>
      have hlt : k < a.length := by omega
      have h0' : T 0 = .ts ((a.take (k + 1)).flatMap cI) (k + 1) := by rw [h0]; show V.ts _ (a.take (k + 1)).length = _; rw [hl]
      have f0 : (0 : Int) < ((k + 1 : Nat) : Int) := by omega
      have e5 : ((k + 1 : Nat) : Int) - 1 = (k : Int) := by omega
      have e2 := wrap_id (n := (k : Int)) (by omega) (by omega)
      have f1 : (0 : Int) ≤ (k : Int) := by omega
      have f2 : (k : Int) < ((k + 1 : Nat) : Int) := by omega
      have f5 := slot_ne (c := cI) (s := 1) (fun _ => rfl) (by omega) (a.take (k + 1)) k (by omega)
      have f6 := idx (xs := a.take (k + 1)) (k := k) (by omega)
      rw [List.getElem_take] at f6
      have f7 : k ≤ k + 1 := by omega
      have hts : ((a.take (k + 1)).flatMap cI).take k = (a.take k).flatMap cI := by rw [cI_take, List.take_take, Nat.min_eq_left f7]
      rw [take_succ_get hlt, trim_snoc] at ht
      by_cases hx : a[k] = 0
      · have fx : (a[k] == (0 : Int)) = true := by simpa using hx
        rw [if_pos hx] at ht
        refine .inl ⟨_, by simp only [go_sem, h0', f0, e5, e2, f1, f2, f5, f6, f7, hts, fx, Nat.zero_le]; rfl, k, by omega, _, rfl, ?_, by omega, ht⟩
        simp only [go_sem]
        show _ = V.ts _ (a.take k).length
        rw [List.length_take, Nat.min_eq_left (by omega)]
      · have fx : (a[k] == (0 : Int)) = false := by simpa using hx
        rw [if_neg hx] at ht
        refine .inr ⟨_, by simp only [go_sem, h0', f0, e5, e2, f1, f2, f5, f6, f7, fx]; rfl, by simp, _, rfl, ?_⟩
        simp only [go_sem]
        rw [h0, ← ht, take_succ_get hlt]) a.length ⟨_, rfl, by simp only [go_sem]; rw [List.take_length], Nat.le_refl _, by rw [List.take_length]⟩
  simp only [go_sem, hT']
theorem iSmallL (n d : Nat) (hl : (dg n).length ≤ 1000000) (h0 : d ≠ 0) (hd : d < 1000000000) : fn Try.prog conv ext 167 [LI (dg n), I d] = some (.tup [LI (dg (n / d)), I (n % d : Nat)]) := by
  have e1 : (8 : Int) * ((dg n).length : Int) ≤ 281474976710656 := by omega
  have e2 : ((dg n).length : Int) ≤ 9223372036854775807 := by omega
  have e3 : (0 : Int) ≤ ((dg n).length : Int) := by omega
  have e4 := wrap_id (n := ((dg n).length : Int) - 1) (by omega) (by omega)
  have ht := itrim (pad (n / d) (dg n).length) (by unfold Short; rw [pad_len]; omega)
  rw [trim_pad] at ht
  rw [fn_eq, ev_eqQ (rs := [.tmp 4, .tmp 5]) [7] rfl Try.func167 rfl rfl (by kernel_rfl) (by kernel_rfl)]
  simp only [go_sem, e1, e2, e3, e4]
  generalize hL : evLoopI _ _ = y
  obtain ⟨r, rfl, T', σ', nx', rfl, h6, h7, hσ⟩ := loop_rule hL (fun m st => st.T 0 = LI (dg n) ∧ st.T 1 = I d ∧ st.T 6 = .rs 0 0 (dg n).length ∧ st.T 8 = I ((m : Int) - 1) ∧ st.T 7 = I (n / 1000000000 ^ m % d : Nat) ∧ m ≤ (dg n).length ∧ 0 < st.nx ∧ st.σ 0 = some ⟨rep m [I 0] ++ ((pad (n / d) (dg n).length).drop m).flatMap cI, 1, true⟩)
    (fun r => ∃ T σ nx, r = (.exit 0, ⟨T, σ, nx⟩) ∧ T 6 = .rs 0 0 (dg n).length ∧ T 7 = I (n % d : Nat) ∧ σ 0 = some ⟨(pad (n / d) (dg n).length).flatMap cI, 1, true⟩) (by
      clear hL
      rintro m ⟨T, σ, nx⟩ ⟨t0, t1, t6, t8, t7, hm, hnx, hσ⟩
      simp only at t0 t1 t6 t8 t7 hnx hσ
      cases m with
      | zero =>
        have f0' : ¬(0 : Int) ≤ 0 - 1 := by omega
        rw [Nat.pow_zero, Nat.div_one] at t7
        refine .inr ⟨_, by simp only [go_sem, t8, f0']; rfl, by simp, _, _, _, rfl, by simp only [go_sem, t6], by simp only [go_sem, t7], ?_⟩
        rw [hσ, List.drop_zero]; rfl
      | succ m =>
        have hlt : m < (dg n).length := by omega
        have e5 : ((m + 1 : Nat) : Int) - 1 = (m : Int) := by omega
        rw [e5] at t8
        have f0 : (0 : Int) ≤ (m : Int) := by omega
        have f3 : (m : Int) < ((dg n).length : Int) := by omega
        have f5 := slot_ne (c := cI) (s := 1) (fun _ => rfl) (by omega) (dg n) m hlt
        have f6 := idx hlt
        rw [dg_get hlt] at f6
        have hdg := dg_shift n m
        have hpd := pad_drop (n := n / d) (k := (dg n).length) hlt
        have hq : n / d / 1000000000 ^ m = n / 1000000000 ^ m / d := by rw [Nat.div_div_eq_div_mul, Nat.div_div_eq_div_mul, Nat.mul_comm]
        rw [hq] at hpd
        have hle : n / 1000000000 ^ m ≤ n := Nat.div_le_self _ _
        obtain ⟨u, hu⟩ : ∃ u, n / 1000000000 ^ (m + 1) = u := ⟨_, rfl⟩
        obtain ⟨w, hw0⟩ : ∃ w, n / 1000000000 ^ m = w := ⟨_, rfl⟩
        rw [hu] at t7
        rw [hu, hw0] at hdg
        rw [hw0] at f6 hpd hle
        have hw : w % 1000000000 < 1000000000 := Nat.mod_lt _ (by decide)
        have hr : u % d < d := Nat.mod_lt _ (by omega)
        have hx : u % d * 1000000000 + w % 1000000000 < d * 1000000000 := by omega
        have hwu : w = d * 1000000000 * (u / d) + (u % d * 1000000000 + w % 1000000000) := by
          have := Nat.div_add_mod u d
          have h3 : d * (u / d) * 1000000000 = d * 1000000000 * (u / d) := by rw [Nat.mul_right_comm]
          omega
        obtain ⟨x, hxx⟩ : ∃ x, u % d * 1000000000 + w % 1000000000 = x := ⟨_, rfl⟩
        rw [hxx] at hwu hx
        have hdq : w / d % 1000000000 = x / d := by
          have h1 : w / d = 1000000000 * (u / d) + x / d := by
            rw [hwu, Nat.mul_assoc, Nat.add_comm, Nat.add_mul_div_left _ _ (by omega), Nat.add_comm]
          have h2 : x / d < 1000000000 := Nat.div_lt_of_lt_mul hx
          rw [h1]
          generalize x / d = q at h2 ⊢
          generalize u / d = p
          omega
        have hdr : w % d = x % d := by
          rw [hwu, Nat.mul_assoc, Nat.add_comm, Nat.add_mul_mod_self_left]
        have f7 := wrap_id (n := (m : Int) - 1) (by omega) (by omega)
        have f8 := wrap_id (n := ((u % d : Nat) : Int) * 1000000000) (by omega) (by omega)
        have g9 : ((u % d : Nat) : Int) * 1000000000 + ((w % 1000000000 : Nat) : Int) = (x : Int) := by omega
        have f9 := wrap_id (n := (x : Int)) (by omega) (by omega)
        have c1 : ¬(d : Int) = 0 := by omega
        have c2 : (x : Int).tdiv (d : Int) = ((x / d : Nat) : Int) := by rw [Int.tdiv_eq_ediv_of_nonneg (by omega)]; rfl
        have c3 : (x : Int).tmod (d : Int) = ((x % d : Nat) : Int) := by rw [Int.tmod_eq_emod_of_nonneg (by omega)]; rfl
        have hxd : x / d ≤ x := Nat.div_le_self _ _
        have c4 := wrap_id (n := ((x / d : Nat) : Int)) (by omega) (by omega)
        have c5 : m < (rep (m + 1) [I 0] ++ ((pad (n / d) (dg n).length).drop (m + 1)).flatMap cI).length := by rw [List.length_append, rep_len]; simp; omega
        have c6 := rep_set m (I 0) (I (x / d : Nat)) (((pad (n / d) (dg n).length).drop (m + 1)).flatMap cI)
        refine .inl ⟨_, by simp only [go_sem, t0, t1, t6, t8, t7, hσ, f0, f3, f5, f6, f7, f8, f9, g9, c1, c2, c3, c4, c5, c6, hnx]; rfl, m, by omega, ?_⟩
        simp only [go_sem, t0, t1, t6]
        refine ⟨by rw [hw0, hdr], by omega, hnx, ?_⟩
        rw [hpd, hdq]; rfl) (dg n).length ⟨by simp only [go_sem], by simp only [go_sem], by simp only [go_sem], by simp only [go_sem], by simp only [go_sem, dg_end, Nat.zero_mod], Nat.le_refl _, Nat.zero_lt_one, by simp only [go_sem]; rw [List.drop_of_length_le (by rw [pad_len]; exact Nat.le_refl _)]; simp⟩
  · have ht' : fn Try.prog conv ext 141 [.ts ((pad (n / d) (dg n).length).flatMap cI) (dg n).length] = some (LI (dg (n / d))) := by
      have hl : (pad (n / d) (dg n).length).length = (dg n).length := pad_len _ _
      unfold LI at ht
      rw [hl] at ht; exact ht
    have pl : (pad (n / d) (dg n).length).length = (dg n).length := pad_len _ _
    have tk : List.take (dg n).length ((pad (n / d) (dg n).length).flatMap cI) = (pad (n / d) (dg n).length).flatMap cI := by
      have := cI_takeall (pad (n / d) (dg n).length)
      rwa [pl] at this
    simp only [go_sem, h6, h7, hσ, pl, tk, ht']
  · exact Nat.lt_of_le_of_lt (Nat.div_le_self _ _) (by
      have := dg_end n
      exact (Nat.div_eq_zero_iff_lt (Nat.pow_pos (by decide))).mp this)
theorem iSmall (n d : Nat) (hn : n < 1000000000000000000) (h0 : d ≠ 0) (hd : d < 1000000000) : fn Try.prog conv ext 167 [LI (dg n), I d] = some (.tup [LI (dg (n / d)), I (n % d : Nat)]) :=
  iSmallL n d (by have := dg_few 2 n (by omega); omega) h0 hd
theorem iover (m n : Nat) (hm : m < 1000000000000000000) (h0 : n ≠ 0) (hn : n < 1000000000) : fn Try.prog conv ext 140 [LI (dg m), LI (dg n)] = some (.tup [LI (dg (m / n)), LI (dg (m % n))]) := by
  have k1 := icompare m n (by omega) (by omega)
  have k2 := iClone (dg m) (by have := dg_few 2 m (by omega); omega)
  have k3 := iSmall m n hm h0 hn
  have hr : m % n < n := Nat.mod_lt _ (by omega)
  have k4 := ilimbs (m % n) (by omega)
  have w1 := wrap_u64 (n := ((m % n : Nat) : Int)) (by omega) (by omega)
  have z1 : (0 : Int) < 1 := by decide
  have z2 : (0 : Int) ≤ 0 := by decide
  have z3 : (0 : Int).toNat = 0 := id rfl
  have m1 : (-1 : Int) < 0 := by decide
  rw [dg_one h0 hn] at k1
  have k1' : fn Try.prog conv ext 116 [LI (dg m), .ts [I n] 1] = some (I (cmpN m n)) := k1
  rw [dg_one h0 hn]
  rw [fn_eq, ev_eqQ (rs := [.tmp 4, .tmp 5]) [12,16,25] rfl Try.func140 rfl rfl (by kernel_rfl) (by kernel_rfl)]
  by_cases hmn : m < n
  · have hc : cmpN m n = -1 := by unfold cmpN; rw [if_pos hmn]
    rw [hc] at k1'
    rw [Nat.div_eq_of_lt hmn, Nat.mod_eq_of_lt hmn, dg_zero]
    (simp only [go_sem, k1', k2, m1]) <;> rfl
  · have hc : ¬cmpN m n < 0 := by unfold cmpN; rw [if_neg hmn]; split <;> decide
    simp only [go_sem, k1', hc, z1, z2, z3, k3, w1, k4]
theorem idivisor (m n : Nat) (hm : m < 1000000000000000000) (hn : n < 1000000000) : fn Try.prog conv ext 117 [LI (dg m), LI (dg n)] = some (LI (dg (Nat.gcd m n))) := by
  rw [fn_eq, ev_eqQ (rs := [.tmp 4]) [] rfl Try.func117 rfl rfl (by kernel_rfl) (by kernel_rfl)]
  simp only [go_sem]
  generalize hL : evLoopI _ _ = y
  obtain ⟨r, rfl, T', rfl, h0⟩ := loop_rule hL (fun b st => st.nx = 0 ∧ st.σ = noStore ∧ b < 1000000000 ∧ ∃ a : Nat, a < 1000000000000000000 ∧ st.T 0 = LI (dg a) ∧ st.T 1 = LI (dg b) ∧ Nat.gcd a b = Nat.gcd m n)
    (fun r => ∃ T, r = (.exit 0, ⟨T, noStore, 0⟩) ∧ T 0 = LI (dg (Nat.gcd m n))) (by
      clear hL
      rintro b ⟨T, σ, nx⟩ ⟨hnx, hσ, hb, a, ha, h0, h1, hg⟩
      simp only at hnx hσ h0 h1
      subst hnx hσ
      by_cases hz : b = 0
      · subst hz
        rw [dg_zero] at h1
        have h1' : T 1 = .ts [] 0 := h1
        have f0 : ¬(0 : Int) < 0 := by decide
        rw [Nat.gcd_zero_right] at hg
        exact .inr ⟨_, by simp only [go_sem, h1', f0]; rfl, by simp, _, rfl, by simp only [go_sem, h0, hg]⟩
      · have f0 : (0 : Int) < ((dg b).length : Int) := by have := List.length_pos_iff.mpr (dg_ne hz); omega
        have k1 := iover a b ha hz hb
        have hlt : a % b < b := Nat.mod_lt _ (by omega)
        refine .inl ⟨_, by simp only [go_sem, h0, h1, f0, k1]; rfl, a % b, hlt, ?_⟩
        simp only [go_sem]
        refine ⟨by omega, b, by omega, rfl, ?_⟩
        rw [← hg, Nat.gcd_comm a b, Nat.gcd_rec b a, Nat.gcd_comm]) n ⟨rfl, rfl, hn, m, hm, by simp only [go_sem], by simp only [go_sem], rfl⟩
  simp only [go_sem, h0]
theorem cmp_one {n : Nat} : (cmpN n 1 == 0) = decide (n = 1) := by
  unfold cmpN
  by_cases h : n < 1
  · rw [if_pos h, decide_eq_false (by omega)]; rfl
  · rw [if_neg h]
    by_cases h2 : n = 1
    · rw [if_pos h2, decide_eq_true h2]; rfl
    · rw [if_neg h2, decide_eq_false h2]; rfl
theorem icmp1 (n : Nat) (hn : n ≤ 9223372036854775807) : fn Try.prog conv ext 116 [LI (dg n), .ts [I 1] 1] = some (I (cmpN n 1)) := by
  have := icompare n 1 hn (by decide)
  rw [dg_one (d := 1) (by decide) (by decide)] at this
  exact this
/-- A fraction in lowest terms. -/
def lowD (neg : Bool) (m n : Nat) : List V := [Bo (neg && decide (0 < (dg (m / Nat.gcd m n)).length)), LI (dg (m / Nat.gcd m n)), LI (dg (n / Nat.gcd m n))]
theorem ilowest (neg : Bool) (m n : Nat) (hm : m < 1000000000000000000) (h0 : n ≠ 0) (hn : n < 1000000000) :
    fn Try.prog conv ext 108 [.agg [Bo (neg && decide (0 < (dg m).length)), LI (dg m)], LI (dg n)] = some (.tp (lowD neg m n) 0) := by
  have hg0 : Nat.gcd m n ≠ 0 := fun e => h0 (Nat.eq_zero_of_gcd_eq_zero_right e)
  have hgn : Nat.gcd m n ≤ n := Nat.gcd_le_right _ (by omega)
  have k1 := idivisor m n hm hn
  have k2 := icmp1 (Nat.gcd m n) (by omega)
  have k3 := iover m (Nat.gcd m n) hm hg0 (by omega)
  have k4 := iover n (Nat.gcd m n) (by omega) hg0 (by omega)
  have k5 := fun b => isigned b (dg (m / Nat.gcd m n))
  have hc := cmp_one (n := Nat.gcd m n)
  unfold lowD
  rw [fn_eq, ev_eqQ (rs := [.tmp 4]) [] rfl Try.func108 rfl rfl (by kernel_rfl) (by kernel_rfl)]
  by_cases hz : m = 0
  · subst hz
    rw [Nat.gcd_zero_left, Nat.zero_div, Nat.div_self (by omega), dg_zero, dg_one (d := 1) (by decide) (by decide)]
    (simp only [go_sem]) <;> rfl
  · have lz : (((dg m).length : Int) == 0) = false := by rw [beq_eq_false_iff_ne]; have := app_len (dg_ne hz); omega
    have lp : 0 < (dg m).length := List.length_pos_iff.mpr (dg_ne hz)
    have hmg : m / Nat.gcd m n ≠ 0 := by
      have := Nat.div_pos (Nat.gcd_le_left n (Nat.pos_of_ne_zero hz)) (by omega)
      omega
    have lq : 0 < (dg (m / Nat.gcd m n)).length := List.length_pos_iff.mpr (dg_ne hmg)
    by_cases hg1 : Nat.gcd m n = 1
    · rw [decide_eq_true hg1] at hc
      simp only [hg1, Nat.div_one] at k1 k2 hc ⊢
      (simp only [go_sem, lz, lp, k1, k2, hc]) <;> rfl
    · rw [decide_eq_false hg1] at hc
      (simp only [go_sem, lz, lp, lq, k1, k2, hc, k3, k4, k5]) <;> rfl
end Go.Proofs.Ytlkpocljgikpgaa
namespace Go.Proofs.Ytlkpocljgikpgaa
open Go Go.TV

theorem ev_ptr {P : Program} {t e : TypeId} {x y : Operand} {row : List V} {off : Nat} (h : P.underlying t = some (.pointer e)) : evBin P .eql t x y (.tp row off) (.sc (.pointer none)) = some (Bo false) := by
  simp only [evBin, toVal, h]
  rfl
theorem ptrEq (x y : Operand) (row : List V) (off : Nat) : evBin Try.prog .eql 71 x y (.tp row off) (.sc (.pointer none)) = some (Bo false) := ev_ptr Try.underlying71
attribute [go_sem] ptrEq
theorem ifit (b : Bool) (xs ys : List Int) (hx : xs.length ≤ 24) (hy : ys.length ≤ 24) : fn Try.prog conv ext 76 [.tp [Bo b, LI xs, LI ys] 0] = some (.tp [Bo b, LI xs, LI ys] 0) := by
  have c1 : ¬(24 : Int) < (xs.length : Int) := by omega
  have c2 : ¬(24 : Int) < (ys.length : Int) := by omega
  rw [fn_eq, ev_eqQ (rs := [.tmp 2]) [] rfl Try.func76 rfl rfl (by kernel_rfl) (by kernel_rfl)]
  simp only [go_sem, c1, c2]
theorem ifewer (b : Bool) (xs : List Int) (hx : xs.length ≤ 60) : fn Try.prog conv ext 79 [.agg [Bo b, LI xs]] = some (.agg [Bo b, LI xs]) := by
  have c1 : ¬(60 : Int) < (xs.length : Int) := by omega
  have k := iClone xs (by omega)
  rw [fn_eq, ev_eqQ (rs := [.cell 2 29]) [] rfl Try.func79 rfl rfl (by kernel_rfl) (by kernel_rfl)]
  simp only [go_sem, c1, k]
theorem istore (b : Bool) (xs ys : List Int) (hx : xs.length ≤ 24) (hy : ys.length ≤ 24) : fn Try.prog conv ext 42 [.tp [Bo b, LI xs, LI ys] 0] = some (.agg [Bo b, LI xs, LI ys]) := by
  have k1 := ifewer b xs (by omega)
  have k2 := iClone ys (by omega)
  rw [fn_eq, ev_eqQ (rs := [.cell 2 31]) [] rfl Try.func42 rfl rfl (by kernel_rfl) (by kernel_rfl)]
  simp only [go_sem, k1, k2]
theorem iRatMake (m n : Nat) (hm : m < 1000000000000000000) (h0 : n ≠ 0) (hn : n < 1000000000) :
    fn Try.prog conv ext 89 [.agg [Bo false, LI (dg m)], .agg [Bo false, LI (dg n)]] = some (.agg (ratD m n)) := by
  have lm := dg_three (n := m) (by omega)
  have ln := dg_three (n := n) (by omega)
  have gm : m / Nat.gcd m n ≤ m := Nat.div_le_self _ _
  have gn : n / Nat.gcd m n ≤ n := Nat.div_le_self _ _
  have l1 := dg_three (n := m / Nat.gcd m n) (by omega)
  have l2 := dg_three (n := n / Nat.gcd m n) (by omega)
  have k1 := iBigIntOk false (dg m) (by unfold Short; omega)
  have k2 := iBigIntOk false (dg n) (by unfold Short; omega)
  rw [pb_true (natGood_dg (by omega)), Bool.false_and] at k1 k2
  have k3 := isigned false (dg m)
  have k4 := ilowest false m n hm h0 hn
  unfold lowD at k4
  simp only [Bool.false_and] at k3 k4
  have k5 := ifit false (dg (m / Nat.gcd m n)) (dg (n / Nat.gcd m n)) (by omega) (by omega)
  have k6 := istore false (dg (m / Nat.gcd m n)) (dg (n / Nat.gcd m n)) (by omega) (by omega)
  have z : (((dg n).length : Int) == 0) = false := by rw [beq_eq_false_iff_ne]; have := app_len (dg_ne h0); omega
  unfold ratD
  rw [fn_eq, ev_eqQ (rs := [.cell 4 31]) [] rfl Try.func89 rfl rfl (by kernel_rfl) (by kernel_rfl)]
  simp only [go_sem] at k1 k2
  simp only [go_sem, k1, k2, k3, k4, k5, k6, z]
theorem iRatOf (m n : Nat) (hm : m < 1000000000000000000) (h0 : n ≠ 0) (hn : n < 1000000000) :
    fn Try.prog conv ext 55 [I m, I n] = some (.agg (ratD m n)) := by
  have k1 := iBigIntOf m (by omega)
  have k2 := iBigIntOf n (by omega)
  have k3 := iRatMake m n hm h0 hn
  unfold ratD at *
  rw [fn_eq, ev_eqQ (rs := [.cell 4 31]) [] rfl Try.func55 rfl rfl (by kernel_rfl) (by kernel_rfl)]
  simp only [go_sem, k1, k2, k3]
end Go.Proofs.Ytlkpocljgikpgaa
namespace Go.Proofs.Ytlkpocljgikpgaa
open Go Go.TV

theorem iSling (w half h : Int) : fn Try.prog conv ext 20 [I w, I half, I h] = some (.tup [.agg (slT w half h), Bo (inB w 0 1000 && (inB half 0 1000 && inB h 1 1000))]) := by
  have t1 := isLimit w
  have t2 := isWidth half
  have t3 := isHeight h
  unfold slT
  rw [fn_eq, ev_eqQ (rs := [.cell 6 31, .tmp 7]) [] rfl Try.func20 rfl rfl (by kernel_rfl) (by kernel_rfl)]
  cases hw : inB w 0 1000 with
  | false => rw [hw] at t1; simp only [go_sem, t1]
  | true =>
  cases hf : inB half 0 1000 with
  | false => rw [hw] at t1; rw [hf] at t2; simp only [go_sem, t1, t2]
  | true =>
  cases hh : inB h 1 1000 with
  | false => rw [hw] at t1; rw [hf] at t2; rw [hh] at t3; simp only [go_sem, t1, t2, t3]
  | true =>
  rw [hw] at t1; rw [hf] at t2; rw [hh] at t3
  have w1 := inB_true hw
  have f1 := inB_true hf
  have h1 := inB_true hh
  have w2 := sq_le w1.1 w1.2
  have f2 := sq_le f1.1 f1.2
  have h2 := sq_le (by omega : 0 ≤ h) h1.2
  have h2' : 0 < h * h := Int.mul_pos (by omega) (by omega)
  have p1 : 0 ≤ w * w * (half * half + h * h) := Int.mul_nonneg w2.1 (by omega)
  have p2 : w * w * (half * half + h * h) ≤ 1000000 * 2000000 := Int.mul_le_mul (by omega) (by omega) (by omega) (by omega)
  have e0 : 4 * h * h = 4 * (h * h) := Int.mul_assoc _ _ _
  have a1 := wrap_id (n := w * w) (by omega) (by omega)
  have a2 := wrap_id (n := half * half) (by omega) (by omega)
  have a3 := wrap_id (n := h * h) (by omega) (by omega)
  have a4 := wrap_id (n := half * half + h * h) (by omega) (by omega)
  have a5 := wrap_id (n := w * w * (half * half + h * h)) (by omega) (by omega)
  have b1 := wrap_id (n := 4 * h) (by omega) (by omega)
  have b2 := wrap_id (n := 4 * h * h) (by omega) (by omega)
  have k1 := iRatOf (w * w * (half * half + h * h)).toNat (4 * h * h).toNat (by omega) (by omega) (by omega)
  rw [Int.toNat_of_nonneg p1, Int.toNat_of_nonneg (by omega)] at k1
  unfold ratD at *
  simp only [go_sem, t1, t2, t3, a1, a2, a3, a4, a5, b1, b2, k1]

/-! ### Fractions held against each other -/
theorem iRatOk (b : Bool) (p q : Nat) (hp : p < 1000000000000000000) (hq : q < 1000000000) (h0 : q ≠ 0) (hg : Nat.gcd p q = 1) (hb : b = true → p ≠ 0) : fn Try.prog conv ext 83 [.agg [Bo b, LI (dg p), LI (dg q)]] = some (Bo true) := by
  have lm := dg_few 2 p (by omega)
  have ln := dg_few 2 q (by omega)
  have k1 := iBigIntOk b (dg p) (by unfold Short; omega)
  have hbb : (b && decide (dg p = [])) = false := by
    cases b with
    | false => rfl
    | true => rw [decide_eq_false (dg_ne (hb rfl))]; rfl
  rw [pb_true (natGood_dg (by omega)), hbb] at k1
  have k2 := iNatOk (dg q) (by unfold Short; omega)
  rw [pb_true (natGood_dg (by omega))] at k2
  have k3 := idivisor p q hp hq
  rw [hg, dg_one (d := 1) (by decide) (by decide)] at k3
  have k4 : fn Try.prog conv ext 116 [.ts [I 1] 1, .ts [I 1] 1] = some (I 0) := by
    have := icmp1 1 (by decide)
    rw [dg_one (d := 1) (by decide) (by decide)] at this
    exact this
  have k3' : fn Try.prog conv ext 117 [LI (dg p), LI (dg q)] = some (.ts [I 1] 1) := k3
  have c0 : (((dg q).length : Int) == 0) = false := by rw [beq_eq_false_iff_ne]; have := app_len (dg_ne h0); omega
  have c1 : ¬(24 : Int) < ((dg p).length : Int) := by omega
  have c2 : ¬(24 : Int) < ((dg q).length : Int) := by omega
  rw [fn_eq, ev_eqQ (rs := [.tmp 2]) [] rfl Try.func83 rfl rfl (by kernel_rfl) (by kernel_rfl)]
  simp only [go_sem] at k1
  simp only [go_sem, k1, k2, k3', k4, c0, c1, c2]
theorem iload (b : Bool) (p q : Nat) (hp : p < 1000000000000000000) (hq : q < 1000000000) (h0 : q ≠ 0) (hg : Nat.gcd p q = 1) (hb : b = true → p ≠ 0) : fn Try.prog conv ext 48 [.agg [Bo b, LI (dg p), LI (dg q)]] = some (.tp [Bo b, LI (dg p), LI (dg q)] 0) := by
  have k1 := iRatOk b p q hp hq h0 hg hb
  rw [fn_eq, ev_eqQ (rs := [.tmp 2]) [] rfl Try.func48 rfl rfl (by kernel_rfl) (by kernel_rfl)]
  simp only [go_sem, k1]
theorem iBigCmp (p q : Nat) (hp : p ≤ 9223372036854775807) (hq : q ≤ 9223372036854775807) : fn Try.prog conv ext 85 [.agg [Bo false, LI (dg p)], .agg [Bo false, LI (dg q)]] = some (I (cmpN p q)) := by
  have k := icompare p q hp hq
  rw [fn_eq, ev_eqQ (rs := [.tmp 4]) [] rfl Try.func85 rfl rfl (by kernel_rfl) (by kernel_rfl)]
  simp only [go_sem, k]
theorem iwhole (n : Nat) (hn : n ≤ 9223372036854775807) : fn Try.prog conv ext 41 [I n] = some (.tp [Bo false, LI (dg n), LI (dg 1)] 0) := by
  have k := iinteger n hn
  rw [Bool.false_and] at k
  rw [dg_one (d := 1) (by decide) (by decide)]
  rw [fn_eq, ev_eqQ (rs := [.tmp 2]) [] rfl Try.func41 rfl rfl (by kernel_rfl) (by kernel_rfl)]
  (simp only [go_sem, k]) <;> rfl
theorem iFromInt (n : Nat) (hn : n ≤ 9223372036854775807) : fn Try.prog conv ext 15 [I n] = some (.agg [Bo false, LI (dg n), LI (dg 1)]) := by
  have k := iwhole n hn
  have l := dg_three hn
  have k2 := istore false (dg n) (dg 1) (by omega) (by rw [dg_one (d := 1) (by decide) (by decide)]; decide)
  rw [fn_eq, ev_eqQ (rs := [.cell 2 31]) [] rfl Try.func15 rfl rfl (by kernel_rfl) (by kernel_rfl)]
  simp only [go_sem, k, k2]
end Go.Proofs.Ytlkpocljgikpgaa
namespace Go.Proofs.Ytlkpocljgikpgaa
open Go Go.TV

theorem itimes (m n : Nat) (hm : m < 1000000000) (hn : n < 1000000000) : fn Try.prog conv ext 110 [LI (dg m), LI (dg n)] = some (LI (dg (m * n))) := by
  rw [fn_eq, ev_eqQ (rs := [.tmp 4]) [] rfl Try.func110 rfl rfl (by kernel_rfl) (by kernel_rfl)]
  by_cases zm : m = 0
  · subst zm
    rw [Nat.zero_mul, dg_zero]
    (simp only [go_sem]) <;> rfl
  by_cases zn : n = 0
  · subst zn
    have c : ((((dg m).length : Nat) : Int) == 0) = false := by rw [beq_eq_false_iff_ne]; have := app_len (dg_ne zm); omega
    rw [Nat.mul_zero, dg_zero]
    (simp only [go_sem, c]) <;> rfl
  have hp : m * n < 1000000000 * 1000000000 := Nat.mul_lt_mul'' hm hn
  have hp' : ((m * n : Nat) : Int) = (m : Int) * (n : Int) := Int.natCast_mul m n
  have w1 := wrap_id (n := (m : Int) * (n : Int)) (by omega) (by omega)
  have w2 := wrap_id (n := 0 + (m : Int) * (n : Int)) (by omega) (by omega)
  have w3 := wrap_id (n := (m : Int) * (n : Int) + 0) (by omega) (by omega)
  have z0 : (0 : Int) + (m : Int) * (n : Int) = (m : Int) * (n : Int) := Int.zero_add _
  have z1 : (m : Int) * (n : Int) + 0 = (m : Int) * (n : Int) := Int.add_zero _
  have f1 : ((m : Int) * (n : Int)).tmod 1000000000 = ((m * n % 1000000000 : Nat) : Int) := by rw [← hp', Int.tmod_eq_emod_of_nonneg (by omega)]; omega
  have f2 : IntKind.i64.wrap (((m : Int) * (n : Int)).tdiv 1000000000) = ((m * n / 1000000000 : Nat) : Int) := by
    rw [← hp', Int.tdiv_eq_ediv_of_nonneg (by omega), wrap_id (by omega) (by omega)]; omega
  have ht := itrim [((m * n % 1000000000 : Nat) : Int), ((m * n / 1000000000 : Nat) : Int)] (by unfold Short; simp)
  have hpad : pad (m * n) 2 = [((m * n % 1000000000 : Nat) : Int), ((m * n / 1000000000 : Nat) : Int)] := by
    rw [pad_succ, pad_succ, Nat.mod_eq_of_lt (Nat.div_lt_of_lt_mul hp)]; rfl
  rw [← hpad, trim_pad 2 _ (by omega), hpad] at ht
  have ht' : fn Try.prog conv ext 141 [.ts [I (m * n % 1000000000 : Nat), I (m * n / 1000000000 : Nat)] 2] = some (LI (dg (m * n))) := ht
  have q0 : (0 : Int) < 1 := by decide
  have q1 : ¬(1 : Int) < 1 := by decide
  have q2 : IntKind.i64.wrap 1 = 1 := by decide
  have q3 : IntKind.i64.wrap 2 = 2 := by decide
  have q4 : IntKind.i64.wrap 0 = 0 := by decide
  have q5 : (1 : Int) + 1 = 2 := by decide
  have q6 : (0 : Int) + 1 = 1 := by decide
  have q7 : (0 : Int) + 0 = 0 := by decide
  have q8 : (0 : Int) < 2 := by decide
  have q9 : (1 : Int) < 2 := by decide
  have q10 : (0 : Int) ≤ 1 := by decide
  have q11 : (0 : Int) ≤ 2 := by decide
  have q12 : (0 : Int).toNat = 0 := id rfl
  have q13 : (1 : Int).toNat = 1 := id rfl
  have q14 : (2 : Int).toNat = 2 := id rfl
  have q15 : (8 : Int) * 2 ≤ 281474976710656 := by decide
  have q16 : (2 : Int) ≤ 9223372036854775807 := by decide
  have q17 : ((1 : Int) == 0) = false := by decide
  have r2 : rep 2 [V.sc (Value.int .i64 0)] = [V.sc (Value.int .i64 0), V.sc (Value.int .i64 0)] := id rfl
  rw [dg_one zm hm, dg_one zn hn]
  simp only [go_sem, r2, q2, q3, q5, q11, q14, q15, q16, q17]
  rw [evLoopI_eq]
  simp only [go_sem, q0, q4, q6, q7, q10, q12]
  rw [evLoopI_eq]
  simp only [go_sem, q0, q4, q6, q7, q8, q9, q10, q12, q13, w1, w2, w3, z0, z1, f1, f2]
  rw [evLoopI_eq]
  simp only [go_sem, q0, q1, q2, q3, q4, q5, q6, q7, q8, q9, q10, q12, q13, w1, w2, w3, z0, z1, f1, f2]
  rw [evLoopI_eq]
  simp only [go_sem, q0, q1, q2, q3, q4, q5, q6, q7, q8, q9, q10, q12, q13, ht']
theorem iscaled (p q d : Nat) (hp : p < 1000000000) (hd : d < 1000000000) : fn Try.prog conv ext 84 [.tp [Bo false, LI (dg p), LI (dg q)] 0, LI (dg d)] = some (.agg [Bo false, LI (dg (p * d))]) := by
  have k1 := itimes p d hp hd
  have k2 := isigned false (dg (p * d))
  rw [Bool.false_and] at k2
  rw [fn_eq, ev_eqQ (rs := [.cell 4 29]) [] rfl Try.func84 rfl rfl (by kernel_rfl) (by kernel_rfl)]
  simp only [go_sem, k1, k2]
theorem iCmp (p q p2 q2 : Nat) (hp : p < 1000000000) (hq : q < 1000000000) (hp2 : p2 < 1000000000) (hq2 : q2 < 1000000000) : fn Try.prog conv ext 49 [.tp [Bo false, LI (dg p), LI (dg q)] 0, .tp [Bo false, LI (dg p2), LI (dg q2)] 0] = some (I (cmpN (p * q2) (p2 * q))) := by
  have k1 := iscaled p q q2 hp hq2
  have k2 := iscaled p2 q2 q hp2 hq
  have b1 : p * q2 < 1000000000 * 1000000000 := Nat.mul_lt_mul'' hp hq2
  have b2 : p2 * q < 1000000000 * 1000000000 := Nat.mul_lt_mul'' hp2 hq
  have k3 := iBigCmp (p * q2) (p2 * q) (by omega) (by omega)
  rw [fn_eq, ev_eqQ (rs := [.tmp 4]) [] rfl Try.func49 rfl rfl (by kernel_rfl) (by kernel_rfl)]
  simp only [go_sem, k1, k2, k3]
theorem iRatCmp (p q p2 q2 : Nat) (hp : p < 1000000000) (hq : q < 1000000000) (hp2 : p2 < 1000000000) (hq2 : q2 < 1000000000) (z : q ≠ 0) (z2 : q2 ≠ 0) (g : Nat.gcd p q = 1) (g2 : Nat.gcd p2 q2 = 1) :
    fn Try.prog conv ext 16 [.agg [Bo false, LI (dg p), LI (dg q)], .agg [Bo false, LI (dg p2), LI (dg q2)]] = some (I (cmpN (p * q2) (p2 * q))) := by
  have k1 := iload false p q (by omega) hq z g (fun h => by cases h)
  have k2 := iload false p2 q2 (by omega) hq2 z2 g2 (fun h => by cases h)
  have k3 := iCmp p q p2 q2 hp hq hp2 hq2
  rw [fn_eq, ev_eqQ (rs := [.tmp 4]) [] rfl Try.func16 rfl rfl (by kernel_rfl) (by kernel_rfl)]
  simp only [go_sem, k1, k2, k3]
/-- Order does not see that a fraction is reduced. -/
theorem cmp_mul {a b k : Nat} (hk : 0 < k) : cmpN (a * k) (b * k) = cmpN a b := by
  unfold cmpN
  have h1 : a * k < b * k ↔ a < b := Nat.mul_lt_mul_right hk
  have h2 : a * k = b * k ↔ a = b := Nat.mul_left_inj (by omega)
  by_cases h : a < b
  · rw [if_pos h, if_pos (h1.mpr h)]
  · rw [if_neg h, if_neg (mt h1.mp h)]
    by_cases he : a = b
    · rw [if_pos he, if_pos (h2.mpr he)]
    · rw [if_neg he, if_neg (mt h2.mp he)]
theorem cmp_red {m n m2 n2 : Nat} (h : n ≠ 0) (h2 : n2 ≠ 0) : cmpN (m / Nat.gcd m n * (n2 / Nat.gcd m2 n2)) (m2 / Nat.gcd m2 n2 * (n / Nat.gcd m n)) = cmpN (m * n2) (m2 * n) := by
  have g1 : 0 < Nat.gcd m n := Nat.gcd_pos_of_pos_right _ (by omega)
  have g2 : 0 < Nat.gcd m2 n2 := Nat.gcd_pos_of_pos_right _ (by omega)
  rw [← cmp_mul (k := Nat.gcd m n * Nat.gcd m2 n2) (Nat.mul_pos g1 g2)]
  have e1 : m / Nat.gcd m n * (n2 / Nat.gcd m2 n2) * (Nat.gcd m n * Nat.gcd m2 n2) = m * n2 := by
    rw [Nat.mul_mul_mul_comm, Nat.div_mul_cancel (Nat.gcd_dvd_left m n), Nat.div_mul_cancel (Nat.gcd_dvd_right m2 n2)]
  have e2 : m2 / Nat.gcd m2 n2 * (n / Nat.gcd m n) * (Nat.gcd m n * Nat.gcd m2 n2) = m2 * n := by
    rw [Nat.mul_comm (Nat.gcd m n), Nat.mul_mul_mul_comm, Nat.div_mul_cancel (Nat.gcd_dvd_left m2 n2), Nat.div_mul_cancel (Nat.gcd_dvd_right m n)]
  rw [e1, e2]
theorem gcd_red {m n : Nat} (h : n ≠ 0) : Nat.gcd (m / Nat.gcd m n) (n / Nat.gcd m n) = 1 := by
  rw [Nat.gcd_div (Nat.gcd_dvd_left m n) (Nat.gcd_dvd_right m n), Nat.div_self (Nat.gcd_pos_of_pos_right _ (by omega))]
theorem iRatCmpD (m n m2 n2 : Nat) (hm : m < 1000000000) (hn : n < 1000000000) (hm2 : m2 < 1000000000) (hn2 : n2 < 1000000000) (z : n ≠ 0) (z2 : n2 ≠ 0) :
    fn Try.prog conv ext 16 [.agg (ratD m n), .agg (ratD m2 n2)] = some (I (cmpN (m * n2) (m2 * n))) := by
  have a1 : m / Nat.gcd m n ≤ m := Nat.div_le_self _ _
  have a2 : n / Nat.gcd m n ≤ n := Nat.div_le_self _ _
  have a3 : m2 / Nat.gcd m2 n2 ≤ m2 := Nat.div_le_self _ _
  have a4 : n2 / Nat.gcd m2 n2 ≤ n2 := Nat.div_le_self _ _
  have y1 : n / Nat.gcd m n ≠ 0 := by
    have := Nat.div_pos (Nat.gcd_le_right m (Nat.pos_of_ne_zero z)) (Nat.gcd_pos_of_pos_right m (Nat.pos_of_ne_zero z))
    omega
  have y2 : n2 / Nat.gcd m2 n2 ≠ 0 := by
    have := Nat.div_pos (Nat.gcd_le_right m2 (Nat.pos_of_ne_zero z2)) (Nat.gcd_pos_of_pos_right m2 (Nat.pos_of_ne_zero z2))
    omega
  have k := iRatCmp (m / Nat.gcd m n) (n / Nat.gcd m n) (m2 / Nat.gcd m2 n2) (n2 / Nat.gcd m2 n2) (by omega) (by omega) (by omega) (by omega) y1 y2 (gcd_red z) (gcd_red z2)
  rw [cmp_red z z2] at k
  exact k
end Go.Proofs.Ytlkpocljgikpgaa
namespace Go.Proofs.Ytlkpocljgikpgaa
open Go Go.TV

/-! ### Draws from a code -/
abbrev cB (n : Int) : List V := [.sc (.int .u8 n)]
theorem u8t : Try.prog.underlying 5 = some (.int .u8) := Try.underlying5
theorem cvt8 (k : IntKind) (n : Int) (σ : Store) : evConvert Try.prog 5 3 (.sc (.int k n)) σ = some (.sc (.int .i64 (IntKind.i64.wrap n))) := ev_cvt u8t u3
attribute [go_sem] cvt8
def Cur (xs : List Int) (i h : Int) (st : Nat) : Blk := ⟨[LL cB xs, I i, I h], st, true⟩
theorem sByteA (xs : List Int) (hx : ∀ x ∈ xs, 0 ≤ x ∧ x ≤ 255) (hl : xs.length ≤ 1048576) (i h : Int) (hi : 0 ≤ i ∧ i ≤ xs.length) :
    ∃ r i' h', (∀ (b st nx : Nat) (σ : Store), σ b = some (Cur xs i h st) → b < nx → ev Try.prog conv ext 39 [.rp b 0] σ nx = some (I r, upd σ b (some (Cur xs i' h' st)), nx)) ∧ (0 ≤ r ∧ r ≤ 255) ∧ 0 ≤ i' ∧ i' ≤ xs.length := by
  have z1 : ¬(33 : Int) < 0 := by decide
  have z2 : ¬(45 : Int) < 0 := by decide
  by_cases hlt : i < xs.length
  · obtain ⟨k, rfl⟩ : ∃ k : Nat, i = k := ⟨i.toNat, by omega⟩
    have hk : k < xs.length := by omega
    have f0 : (0 : Int) ≤ (k : Int) := by omega
    have f5 := slot_ne (c := cB) (s := 1) (fun _ => rfl) (by omega) xs k hk
    have f6 : (xs.flatMap cB)[k]? = some (.sc (.int .u8 xs[k])) := slot1 (fun n : Int => .sc (.int .u8 n)) xs k hk
    have hxk := hx xs[k] (List.getElem_mem hk)
    have w1 := wrap_id (n := xs[k]) (by omega) (by omega)
    have w2 := wrap_id (n := (k : Int) + 1) (by omega) (by omega)
    have w3 := fun a : Int => wrap_id (n := b255 a + xs[k]) (by have := b255_range a; omega) (by have := b255_range a; omega)
    exact ⟨_, (k : Int) + 1, _, fun b st nx σ hσ hb => by unfold Cur at hσ; rw [ev_eqQ (rs := [.tmp 2]) [] rfl Try.func39 rfl rfl (by kernel_rfl) (by kernel_rfl)]; simp only [go_sem, hσ, hb, z1, z2, hlt, f0, f5, f6, w1, w2, w3]; rfl, b255_range _, by omega, by omega⟩
  · exact ⟨_, i, _, fun b st nx σ hσ hb => by unfold Cur at hσ; rw [ev_eqQ (rs := [.tmp 2]) [] rfl Try.func39 rfl rfl (by kernel_rfl) (by kernel_rfl)]; simp only [go_sem, hσ, hb, z1, z2, hlt]; rfl, b255_range _, hi.1, hi.2⟩
theorem sByte (xs : List Int) (hx : ∀ x ∈ xs, 0 ≤ x ∧ x ≤ 255) (hl : xs.length ≤ 1048576) (i h : Int) (hi : 0 ≤ i ∧ i ≤ xs.length) (b st nx : Nat) (σ : Store) (hσ : σ b = some (Cur xs i h st)) (hb : b < nx) :
    ∃ r i' h', ev Try.prog conv ext 39 [.rp b 0] σ nx = some (I r, upd σ b (some (Cur xs i' h' st)), nx) ∧ (0 ≤ r ∧ r ≤ 255) ∧ 0 ≤ i' ∧ i' ≤ xs.length := by
  obtain ⟨r, i', h', k, hr⟩ := sByteA xs hx hl i h hi
  exact ⟨r, i', h', k b st nx σ hσ hb, hr⟩
theorem sNew (xs : List Int) (hx : ∀ x ∈ xs, 0 ≤ x ∧ x ≤ 255) (hl : xs.length ≤ 1048576) (nx : Nat) (σ : Store) :
    ∃ h, ev Try.prog conv ext 37 [LL cB xs] σ nx = some (.rp nx 0, upd σ nx (some (Cur xs 0 h 0)), nx + 1) := by
  have w0 := wrap_id (n := 1975 + (xs.length : Int)) (by omega) (by omega)
  rw [ev_eqQ (rs := [.tmp 2]) [] rfl Try.func37 rfl rfl (by kernel_rfl) (by kernel_rfl)]
  simp only [go_sem, w0]
  generalize hL : evLoopI _ _ = y
  obtain ⟨r, rfl, T', g, rfl, h0, h3⟩ := count_rule hL xs.length (fun k st => st.nx = nx ∧ st.σ = σ ∧ st.T 0 = LL cB xs ∧ (∃ g, st.T 3 = I g) ∧ st.T 4 = I k)
    (fun r => ∃ T g, r = (.exit 0, ⟨T, σ, nx⟩) ∧ T 0 = LL cB xs ∧ T 3 = I g) (by
      clear hL
      rintro k ⟨T, σ, nx⟩ hlt ⟨hn, hσ, h0, ⟨g, h3⟩, h4⟩
      simp only at hn hσ h0 h3 h4
      subst hn hσ
      have f1 : (k : Int) < (xs.length : Int) := by omega
      have f2 : (0 : Int) ≤ (k : Int) := by omega
      have f3 := wrap_id (n := (k : Int) + 1) (by omega) (by omega)
      have f5 := slot_ne (c := cB) (s := 1) (fun _ => rfl) (by omega) xs k hlt
      have f6 : (xs.flatMap cB)[k]? = some (.sc (.int .u8 xs[k])) := slot1 (fun n : Int => .sc (.int .u8 n)) xs k hlt
      have hxk := hx xs[k] (List.getElem_mem hlt)
      have w1 := wrap_id (n := xs[k]) (by omega) (by omega)
      by_cases h4000 : (k : Int) < 4000
      · refine .inl ⟨_, by simp only [go_sem, h0, h3, h4, f1, f2, f3, f5, f6, w1, h4000]; rfl, ?_⟩
        simp only [go_sem, h0]
        exact ⟨⟨_, rfl⟩, rfl⟩
      · refine .inr ⟨_, by simp only [go_sem, h0, h4, f1, h4000]; rfl, by simp, _, g, rfl, ?_, ?_⟩ <;> simp only [go_sem, h0, h3]) (by
      clear hL
      rintro ⟨T, σ, nx⟩ ⟨hn, hσ, h0, ⟨g, h3⟩, h4⟩
      simp only at hn hσ h0 h3 h4
      subst hn hσ
      refine ⟨_, by simp only [go_sem, h0, h4, Int.lt_irrefl]; rfl, by simp, _, g, rfl, ?_, ?_⟩ <;> simp only [go_sem, h0, h3]) (by
      simp only [go_sem]
      exact ⟨_, rfl⟩)
  refine ⟨g, ?_⟩
  unfold Cur
  simp only [go_sem, h0, h3]
theorem sNewN (xs : List Int) (hx : ∀ x ∈ xs, 0 ≤ x ∧ x ≤ 255) (hl : xs.length ≤ 1048576) (n : Nat) (hn : n ≤ 1000000) (nx : Nat) (σ : Store) :
    ∃ i h, ev Try.prog conv ext 38 [LL cB xs, I n] σ nx = some (.rp nx 0, upd σ nx (some (Cur xs i h 0)), nx + 1) ∧ 0 ≤ i ∧ i ≤ xs.length := by
  obtain ⟨h, k1⟩ := sNew xs hx hl nx σ
  rw [ev_eqQ (rs := [.tmp 4]) [] rfl Try.func38 rfl rfl (by kernel_rfl) (by kernel_rfl)]
  simp only [go_sem, call_inl, k1]
  generalize hL : evLoopI _ _ = y
  obtain ⟨r, rfl, T', i, h', rfl, h5, hi⟩ := count_rule hL n (fun k st => st.nx = nx + 1 ∧ st.T 1 = I n ∧ st.T 5 = .rp nx 0 ∧ st.T 6 = I k ∧ ∃ i h, st.σ = upd σ nx (some (Cur xs i h 0)) ∧ 0 ≤ i ∧ i ≤ xs.length)
    (fun r => ∃ T i h, r = (.exit 0, ⟨T, upd σ nx (some (Cur xs i h 0)), nx + 1⟩) ∧ T 5 = .rp nx 0 ∧ 0 ≤ i ∧ i ≤ xs.length) (by
      clear hL
      rintro k ⟨T, σ', nx'⟩ hlt ⟨hn', h1, h5, h6, i, h, hσ, hi⟩
      simp only at hn' h1 h5 h6 hσ
      subst hn' hσ
      have f1 : (k : Int) < (n : Int) := by omega
      have f3 := wrap_id (n := (k : Int) + 1) (by omega) (by omega)
      obtain ⟨r, i', h', k2, _, hi'⟩ := sByte xs hx hl i h hi nx 0 (nx + 1) (upd σ nx (some (Cur xs i h 0))) (by simp [upd]) (by omega)
      rw [upd_upd] at k2
      refine .inl ⟨_, by simp only [go_sem, call_inl, h1, h5, h6, f1, f3, k2]; rfl, ?_⟩
      simp only [go_sem, h1, h5]
      exact ⟨rfl, i', h', rfl, hi'⟩) (by
      clear hL
      rintro ⟨T, σ', nx'⟩ ⟨hn', h1, h5, h6, i, h, hσ, hi⟩
      simp only at hn' h1 h5 h6 hσ
      subst hn' hσ
      exact ⟨_, by simp only [go_sem, h1, h6, Int.lt_irrefl]; rfl, by simp, _, i, h, rfl, by simp only [go_sem, h5], hi⟩) (by
      simp only [go_sem]
      exact ⟨0, h, rfl, by omega, by omega⟩)
  refine ⟨i, h', ?_, hi⟩
  simp only [go_sem, h5]
theorem sMakeNum (xs : List Int) (hx : ∀ x ∈ xs, 0 ≤ x ∧ x ≤ 255) (hl : xs.length ≤ 1048576) (n : Nat) (hn : n ≤ 1000000) :
    ∃ r, fn Try.prog conv ext 9 [LL cB xs, I n] = some (I r) ∧ 0 ≤ r ∧ r ≤ 65535 := by
  obtain ⟨i, h, k1, hi⟩ := sNewN xs hx hl n hn 0 noStore
  obtain ⟨r1, i1, h1, k2, hr1, hi1⟩ := sByte xs hx hl i h hi 0 0 1 (upd noStore 0 (some (Cur xs i h 0))) (by simp [upd]) (by omega)
  rw [upd_upd] at k2
  obtain ⟨r2, i2, h2, k3, hr2, hi2⟩ := sByte xs hx hl i1 h1 hi1 0 0 1 (upd noStore 0 (some (Cur xs i1 h1 0))) (by simp [upd]) (by omega)
  rw [upd_upd] at k3
  have w1 := wrap_id (n := r1 * 256) (by omega) (by omega)
  have w2 := wrap_id (n := r1 * 256 + r2) (by omega) (by omega)
  refine ⟨r1 * 256 + r2, ?_, by omega, by omega⟩
  rw [fn_eq, ev_eqQ (rs := [.tmp 4]) [] rfl Try.func9 rfl rfl (by kernel_rfl) (by kernel_rfl)]
  simp only [go_sem, call_inl, k1, k2, k3, w1, w2]
end Go.Proofs.Ytlkpocljgikpgaa
namespace Go.Proofs.Ytlkpocljgikpgaa
open Go Go.TV

/-! ### The value of a list of limbs -/
def vl : List Int → Int
  | [] => 0
  | x :: xs => x + 1000000000 * vl xs
def bp (n : Nat) : Int := 1000000000 ^ n
theorem bp_zero : bp 0 = 1 := rfl
theorem bp_succ (n : Nat) : bp (n + 1) = 1000000000 * bp n := by unfold bp; rw [Int.pow_succ, Int.mul_comm]
theorem bp_pos (n : Nat) : 0 < bp n := Int.pow_pos (by decide)
theorem bp_add (m n : Nat) : bp (m + n) = bp m * bp n := by unfold bp; rw [Int.pow_add]
theorem bp_nat (n : Nat) : bp n = ((1000000000 ^ n : Nat) : Int) := by unfold bp; rw [Int.natCast_pow]; rfl
def Dg (xs : List Int) : Prop := ∀ x ∈ xs, 0 ≤ x ∧ x < 1000000000
theorem Dg.nil : Dg [] := fun x h => by cases h
theorem Dg.cons {x : Int} {xs : List Int} (h : Dg (x :: xs)) : (0 ≤ x ∧ x < 1000000000) ∧ Dg xs := ⟨h x List.mem_cons_self, fun y hy => h y (List.mem_cons_of_mem _ hy)⟩
theorem Dg.app {xs ys : List Int} (h : Dg xs) (h' : Dg ys) : Dg (xs ++ ys) := fun x hx => (List.mem_append.mp hx).elim (h x) (h' x)
theorem Dg.snoc {xs : List Int} {y : Int} (h : Dg xs) (h0 : 0 ≤ y) (h1 : y < 1000000000) : Dg (xs ++ [y]) := h.app fun x hx => by
  rw [List.mem_singleton] at hx; subst hx; exact ⟨h0, h1⟩
theorem Dg.take {xs : List Int} (h : Dg xs) (n : Nat) : Dg (xs.take n) := fun x hx => h x (List.mem_of_mem_take hx)
theorem Dg.drop {xs : List Int} (h : Dg xs) (n : Nat) : Dg (xs.drop n) := fun x hx => h x (List.mem_of_mem_drop hx)
theorem Dg.get {xs : List Int} (h : Dg xs) {k : Nat} (hk : k < xs.length) : 0 ≤ xs[k] ∧ xs[k] < 1000000000 := h _ (List.getElem_mem hk)
theorem dg_Dg (n : Nat) : Dg (dg n) := fun x hx => by have := dg_mem n x hx; omega
theorem vl_dg (n : Nat) : vl (dg n) = n := by
  induction n using Nat.strongRecOn with
  | _ n ih =>
    by_cases h : n = 0
    · subst h; rw [dg_zero]; rfl
    · rw [dg_pos h]
      show _ + 1000000000 * vl _ = _
      rw [ih _ (Nat.div_lt_self (by omega) (by decide))]
      omega
theorem vl_app (xs ys : List Int) : vl (xs ++ ys) = vl xs + bp xs.length * vl ys := by
  induction xs with
  | nil => simp [vl, bp_zero]
  | cons x xs ih =>
    rw [List.cons_append, List.length_cons, bp_succ]
    show _ + 1000000000 * vl _ = (_ + 1000000000 * vl xs) + _
    rw [ih, Int.mul_add, Int.mul_assoc]; omega
theorem vl_snoc (xs : List Int) (y : Int) : vl (xs ++ [y]) = vl xs + bp xs.length * y := by
  rw [vl_app]; simp [vl]
theorem vl_nonneg {xs : List Int} (h : Dg xs) : 0 ≤ vl xs := by
  induction xs with
  | nil => exact Int.le_refl _
  | cons x xs ih =>
    have := h.cons
    have := ih this.2
    show 0 ≤ x + 1000000000 * vl xs
    omega
theorem vl_lt {xs : List Int} (h : Dg xs) : vl xs < bp xs.length := by
  induction xs with
  | nil => exact bp_pos 0
  | cons x xs ih =>
    have := h.cons
    have := ih this.2
    rw [List.length_cons, bp_succ]
    show x + 1000000000 * vl xs < _
    omega
theorem vl_eq_zero {xs : List Int} (h : Dg xs) : vl xs = 0 → trimL xs = [] := by
  induction xs with
  | nil => intro _; rfl
  | cons x xs ih =>
    intro h0
    have h1 := h.cons
    have h2 := vl_nonneg h1.2
    have h3 : x + 1000000000 * vl xs = 0 := h0
    rw [trim_cons, ih h1.2 (by omega), if_pos rfl, if_pos (by omega)]
/-- Limbs without zeros at the end are those of the value. -/
theorem trim_vl {xs : List Int} (h : Dg xs) : trimL xs = dg (vl xs).toNat := by
  induction xs with
  | nil => show trimL [] = dg 0; rw [dg_zero]; rfl
  | cons x xs ih =>
    have h1 := h.cons
    have h2 := vl_nonneg h1.2
    have h3 : vl (x :: xs) = x + 1000000000 * vl xs := rfl
    rw [trim_cons, ih h1.2, h3]
    by_cases hz : vl xs = 0
    · rw [hz, show (0 : Int).toNat = 0 from rfl, dg_zero, if_pos rfl]
      by_cases hx : x = 0
      · subst hx; rw [if_pos rfl, Int.mul_zero, Int.add_zero]
        show _ = dg 0
        rw [dg_zero]
      · rw [if_neg hx, Int.mul_zero, Int.add_zero, dg_one (by omega) (by omega)]
        rw [Int.toNat_of_nonneg (by omega)]
    · rw [if_neg (dg_ne (by omega)), dg_pos (n := (x + 1000000000 * vl xs).toNat) (by omega)]
      have e1 : (((x + 1000000000 * vl xs).toNat % 1000000000 : Nat) : Int) = x := by omega
      have e2 : (x + 1000000000 * vl xs).toNat / 1000000000 = (vl xs).toNat := by omega
      rw [e1, e2]
theorem trim_vl' {xs : List Int} {n : Nat} (h : Dg xs) (hv : vl xs = n) : trimL xs = dg n := by rw [trim_vl h, hv]; rfl
theorem vl_rep (n : Nat) : vl (List.replicate n 0) = 0 := by
  induction n with
  | zero => rfl
  | succ n ih => rw [List.replicate_succ]; show 0 + 1000000000 * vl _ = 0; rw [ih]; rfl
theorem vl_take_succ {xs : List Int} {k : Nat} (h : k < xs.length) : vl (xs.take (k + 1)) = vl (xs.take k) + bp k * xs[k] := by
  rw [take_succ_get h, vl_snoc, List.length_take, Nat.min_eq_left (by omega)]
theorem vl_drop {xs : List Int} {k : Nat} (h : k < xs.length) : vl (xs.drop k) = xs[k] + 1000000000 * vl (xs.drop (k + 1)) := by
  rw [List.drop_eq_getElem_cons h]; rfl
theorem vl_take_drop (xs : List Int) {k : Nat} (h : k ≤ xs.length) : vl xs = vl (xs.take k) + bp k * vl (xs.drop k) := by
  have := vl_app (xs.take k) (xs.drop k)
  rw [List.take_append_drop, List.length_take, Nat.min_eq_left h] at this
  exact this
/-- How many limbs. -/
def ln (n : Nat) : Nat := (dg n).length
theorem ln_zero : ln 0 = 0 := by unfold ln; rw [dg_zero]; rfl
theorem ln_le_iff {n k : Nat} : ln n ≤ k ↔ (n : Int) < bp k := by
  constructor
  · intro h
    have h1 := vl_lt (dg_Dg n)
    rw [vl_dg] at h1
    have h2 : bp (dg n).length ≤ bp k := by
      rw [bp_nat, bp_nat]
      exact Int.ofNat_le.mpr (Nat.pow_le_pow_right (by decide) h)
    omega
  · intro h
    rw [bp_nat] at h
    exact dg_few k n (Int.ofNat_lt.mp h)
theorem ln_mono {m n : Nat} (h : m ≤ n) : ln m ≤ ln n := by
  have := (ln_le_iff (n := n)).mp (Nat.le_refl _)
  exact ln_le_iff.mpr (by omega)
theorem ln_mul (m n : Nat) : ln (m * n) ≤ ln m + ln n := by
  refine ln_le_iff.mpr ?_
  rw [bp_add, Int.natCast_mul]
  have h1 := (ln_le_iff (n := m)).mp (Nat.le_refl _)
  have h2 := (ln_le_iff (n := n)).mp (Nat.le_refl _)
  have h3 : (m : Int) * n ≤ (bp (ln m) - 1) * n := Int.mul_le_mul_of_nonneg_right (by omega) (by omega)
  have h4 := bp_pos (ln m)
  have h5 : (bp (ln m) - 1) * n ≤ (bp (ln m) - 1) * (bp (ln n) - 1) := Int.mul_le_mul_of_nonneg_left (by omega) (by omega)
  have h6 : (bp (ln m) - 1) * (bp (ln n) - 1) = bp (ln m) * bp (ln n) - bp (ln m) - bp (ln n) + 1 := by
    rw [Int.sub_mul, Int.mul_sub]; omega
  have h7 := bp_pos (ln n)
  omega
theorem ln_add (m n : Nat) : ln (m + n) ≤ max (ln m) (ln n) + 1 := by
  refine ln_le_iff.mpr ?_
  rw [bp_succ]
  have h1 := (ln_le_iff (n := m) (k := max (ln m) (ln n))).mp (Nat.le_max_left _ _)
  have h2 := (ln_le_iff (n := n) (k := max (ln m) (ln n))).mp (Nat.le_max_right _ _)
  omega
theorem ln_pos {n : Nat} (h : n ≠ 0) : 0 < ln n := List.length_pos_iff.mpr (dg_ne h)
theorem ln_small {n : Nat} (h : n < 1000000000) : ln n ≤ 1 := ln_le_iff.mpr (by show (n : Int) < 1000000000; omega)
theorem ln_int {n : Nat} (h : n ≤ 9223372036854775807) : ln n ≤ 3 := dg_three h
theorem short_ln {n : Nat} (h : ln n ≤ 1000000) : Short (dg n) := by unfold ln at h; unfold Short; omega
end Go.Proofs.Ytlkpocljgikpgaa
