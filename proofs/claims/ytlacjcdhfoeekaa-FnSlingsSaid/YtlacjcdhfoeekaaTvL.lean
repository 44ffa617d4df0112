import Derived.Test.YtlacjcdhfoeekaaTvG
set_option linter.unusedSimpArgs false
set_option linter.unusedVariables false
namespace Go.Proofs.Ytlacjcdhfoeekaa
open Go Go.TV
theorem u4 : Try.prog.underlying 4 = some .bool := Try.underlying4
attribute [go_sem] u4

theorem toJoint (j : Joint) : fn Try.prog conv ext 153 [.agg (cJoint j)] = some (.agg (cJoint j)) := by
  rw [fn_eq, ev_eqQ (rs := [.cell 2 170]) [] rfl Try.func153 rfl rfl (by kernel_rfl) (by kernel_rfl)]
  simp only [go_sem]
theorem toMember (j : Member) : fn Try.prog conv ext 154 [.agg (cMember j)] = some (.agg (cMember j)) := by
  rw [fn_eq, ev_eqQ (rs := [.cell 2 174]) [] rfl Try.func154 rfl rfl (by kernel_rfl) (by kernel_rfl)]
  simp only [go_sem]
theorem toMove (j : TV.Move) : fn Try.prog conv ext 112 [.agg (cMove j)] = some (.agg (cMove j)) := by
  rw [fn_eq, ev_eqQ (rs := [.cell 2 121]) [] rfl Try.func112 rfl rfl (by kernel_rfl) (by kernel_rfl)]
  simp only [go_sem]
abbrev zMove : List V := [I 0, I 0]
abbrev zJoint : List V := [Sg ByteArray.empty, I 0, I 0, Bo false]
abbrev zMember : List V := [I 0, I 0, I 0]
abbrev zStance : List V := [Sg ByteArray.empty, .nil, .nil, .nil, .nil]
/-- A copy of a list of rows, one by one. -/
theorem toMoveS (xs : List TV.Move) (h : okL 16 okMove xs) : fn Try.prog conv ext 67 [LL cMove xs] = some (LL cMove xs) := by
  have e1 : (16 : Int) * xs.length ≤ 281474976710656 := by have := h.2.1; omega
  have e2 : (xs.length : Int) ≤ 9223372036854775807 := by have := h.2.1; omega
  have e3 : (0 : Int) ≤ (xs.length : Int) := by omega
  rw [fn_eq, ev_eqQ (rs := [.tmp 2]) [] rfl Try.func67 rfl rfl (by kernel_rfl) (by kernel_rfl)]
  simp only [go_sem, e1, e2, e3, Int.le_refl]
  generalize hL : evLoopI _ _ = y
  obtain ⟨r, rfl, T', σ', rfl, hT', hs⟩ := count_rule hL xs.length (fun k st => st.nx = 1 ∧ st.σ = upd noStore 0 (some ⟨mix cMove zMove xs xs.length k, 2, true⟩) ∧ st.T 0 = LL cMove xs ∧ st.T 3 = .rs 0 0 xs.length ∧ st.T 4 = I k)
    (fun r => ∃ T σ, r = (.exit 0, ⟨T, σ, 1⟩) ∧ T 3 = .rs 0 0 xs.length ∧ σ = upd noStore 0 (some ⟨xs.flatMap cMove, 2, true⟩)) (by
      clear hL
      rintro k ⟨T, σ, nx⟩ hlt ⟨hn, hσ, h0, h3, h4⟩
      simp only at hn hσ h0 h3 h4
      subst hn hσ
      have f1 : (k : Int) < (xs.length : Int) := by omega
      have f2 : (0 : Int) ≤ (k : Int) := by omega
      have f3 := wrap_id (n := (k : Int) + 1) (by omega) (by omega)
      have f4 := slot (c := cMove) (s := 2) (fun _ => rfl) xs k hlt
      have f5 := slots_len (c := cMove) (s := 2) (fun _ => rfl) xs
      have f6 : k * 2 + 2 ≤ xs.length * 2 := by omega
      have f7 := mix_len (c := cMove) (s := 2) (fun _ => rfl) (z := zMove) rfl xs k (by omega)
      have f8 := mix_patch (c := cMove) (s := 2) (fun _ => rfl) (z := zMove) rfl xs k hlt
      have f9 := slot_ne (c := cMove) (s := 2) (fun _ => rfl) (by omega) xs k hlt
      have f10 : fn Try.prog conv ext 112 [.agg (cMove xs[k])] = some (.agg (cMove xs[k])) := by
        have hx := h.1 xs[k] (List.getElem_mem hlt)
        revert hx
        generalize xs[k] = x
        intro hx
        exact toMove x
      refine .inl ⟨_, by simp only [go_sem, h0, h3, h4, f1, f2, f3, f4, f5, f6, f7, f8, f9, f10]; rfl, ?_⟩
      simp only [go_sem, h0, h3]
      rfl) (by
      clear hL
      rintro ⟨T, σ, nx⟩ ⟨hn, hσ, h0, h3, h4⟩
      simp only at hn hσ h0 h3 h4
      subst hn hσ
      refine ⟨_, by simp only [go_sem, h0, h4, Int.lt_irrefl]; rfl, by simp, _, _, rfl, ?_, ?_⟩
      · simp only [go_sem, h3]
      · rw [mix_full]) (by
      (simp only [go_sem, ← mix_zero]) <;> trivial)
  have g1 := slots_len (c := cMove) (s := 2) (fun _ => rfl) xs
  have g2 : ∀ σ : Store, stripL (strip σ 6) (xs.flatMap cMove) = some (xs.flatMap cMove, []) := fun σ => stripL_slots (fun x => by simp only [go_sem]) xs
  have g3 : (xs.flatMap cMove).take (xs.length * 2) = xs.flatMap cMove := List.take_of_length_le (by omega)
  simp only [go_sem, hT', hs, g1, g2, g3, Nat.le_refl]
theorem toJointS (xs : List Joint) (h : okL 40 okJoint xs) : fn Try.prog conv ext 117 [LL cJoint xs] = some (LL cJoint xs) := by
  have e1 : (40 : Int) * xs.length ≤ 281474976710656 := by have := h.2.1; omega
  have e2 : (xs.length : Int) ≤ 9223372036854775807 := by have := h.2.1; omega
  have e3 : (0 : Int) ≤ (xs.length : Int) := by omega
  rw [fn_eq, ev_eqQ (rs := [.tmp 2]) [] rfl Try.func117 rfl rfl (by kernel_rfl) (by kernel_rfl)]
  simp only [go_sem, e1, e2, e3, Int.le_refl]
  generalize hL : evLoopI _ _ = y
  obtain ⟨r, rfl, T', σ', rfl, hT', hs⟩ := count_rule hL xs.length (fun k st => st.nx = 1 ∧ st.σ = upd noStore 0 (some ⟨mix cJoint zJoint xs xs.length k, 4, true⟩) ∧ st.T 0 = LL cJoint xs ∧ st.T 3 = .rs 0 0 xs.length ∧ st.T 4 = I k)
    (fun r => ∃ T σ, r = (.exit 0, ⟨T, σ, 1⟩) ∧ T 3 = .rs 0 0 xs.length ∧ σ = upd noStore 0 (some ⟨xs.flatMap cJoint, 4, true⟩)) (by
      clear hL
      rintro k ⟨T, σ, nx⟩ hlt ⟨hn, hσ, h0, h3, h4⟩
      simp only at hn hσ h0 h3 h4
      subst hn hσ
      have f1 : (k : Int) < (xs.length : Int) := by omega
      have f2 : (0 : Int) ≤ (k : Int) := by omega
      have f3 := wrap_id (n := (k : Int) + 1) (by omega) (by omega)
      have f4 := slot (c := cJoint) (s := 4) (fun _ => rfl) xs k hlt
      have f5 := slots_len (c := cJoint) (s := 4) (fun _ => rfl) xs
      have f6 : k * 4 + 4 ≤ xs.length * 4 := by omega
      have f7 := mix_len (c := cJoint) (s := 4) (fun _ => rfl) (z := zJoint) rfl xs k (by omega)
      have f8 := mix_patch (c := cJoint) (s := 4) (fun _ => rfl) (z := zJoint) rfl xs k hlt
      have f9 := slot_ne (c := cJoint) (s := 4) (fun _ => rfl) (by omega) xs k hlt
      have f10 : fn Try.prog conv ext 153 [.agg (cJoint xs[k])] = some (.agg (cJoint xs[k])) := by
        have hx := h.1 xs[k] (List.getElem_mem hlt)
        revert hx
        generalize xs[k] = x
        intro hx
        exact toJoint x
      refine .inl ⟨_, by simp only [go_sem, h0, h3, h4, f1, f2, f3, f4, f5, f6, f7, f8, f9, f10]; rfl, ?_⟩
      simp only [go_sem, h0, h3]
      rfl) (by
      clear hL
      rintro ⟨T, σ, nx⟩ ⟨hn, hσ, h0, h3, h4⟩
      simp only at hn hσ h0 h3 h4
      subst hn hσ
      refine ⟨_, by simp only [go_sem, h0, h4, Int.lt_irrefl]; rfl, by simp, _, _, rfl, ?_, ?_⟩
      · simp only [go_sem, h3]
      · rw [mix_full]) (by
      (simp only [go_sem, ← mix_zero]) <;> trivial)
  have g1 := slots_len (c := cJoint) (s := 4) (fun _ => rfl) xs
  have g2 : ∀ σ : Store, stripL (strip σ 6) (xs.flatMap cJoint) = some (xs.flatMap cJoint, []) := fun σ => stripL_slots (fun x => by simp only [go_sem]) xs
  have g3 : (xs.flatMap cJoint).take (xs.length * 4) = xs.flatMap cJoint := List.take_of_length_le (by omega)
  simp only [go_sem, hT', hs, g1, g2, g3, Nat.le_refl]
theorem toMemberS (xs : List Member) (h : okL 24 okMember xs) : fn Try.prog conv ext 118 [LL cMember xs] = some (LL cMember xs) := by
  have e1 : (24 : Int) * xs.length ≤ 281474976710656 := by have := h.2.1; omega
  have e2 : (xs.length : Int) ≤ 9223372036854775807 := by have := h.2.1; omega
  have e3 : (0 : Int) ≤ (xs.length : Int) := by omega
  rw [fn_eq, ev_eqQ (rs := [.tmp 2]) [] rfl Try.func118 rfl rfl (by kernel_rfl) (by kernel_rfl)]
  simp only [go_sem, e1, e2, e3, Int.le_refl]
  generalize hL : evLoopI _ _ = y
  obtain ⟨r, rfl, T', σ', rfl, hT', hs⟩ := count_rule hL xs.length (fun k st => st.nx = 1 ∧ st.σ = upd noStore 0 (some ⟨mix cMember zMember xs xs.length k, 3, true⟩) ∧ st.T 0 = LL cMember xs ∧ st.T 3 = .rs 0 0 xs.length ∧ st.T 4 = I k)
    (fun r => ∃ T σ, r = (.exit 0, ⟨T, σ, 1⟩) ∧ T 3 = .rs 0 0 xs.length ∧ σ = upd noStore 0 (some ⟨xs.flatMap cMember, 3, true⟩)) (by
      clear hL
      rintro k ⟨T, σ, nx⟩ hlt ⟨hn, hσ, h0, h3, h4⟩
      simp only at hn hσ h0 h3 h4
      subst hn hσ
      have f1 : (k : Int) < (xs.length : Int) := by omega
      have f2 : (0 : Int) ≤ (k : Int) := by omega
      have f3 := wrap_id (n := (k : Int) + 1) (by omega) (by omega)
      have f4 := slot (c := cMember) (s := 3) (fun _ => rfl) xs k hlt
      have f5 := slots_len (c := cMember) (s := 3) (fun _ => rfl) xs
      have f6 : k * 3 + 3 ≤ xs.length * 3 := by omega
      have f7 := mix_len (c := cMember) (s := 3) (fun _ => rfl) (z := zMember) rfl xs k (by omega)
      have f8 := mix_patch (c := cMember) (s := 3) (fun _ => rfl) (z := zMember) rfl xs k hlt
      have f9 := slot_ne (c := cMember) (s := 3) (fun _ => rfl) (by omega) xs k hlt
      have f10 : fn Try.prog conv ext 154 [.agg (cMember xs[k])] = some (.agg (cMember xs[k])) := by
        have hx := h.1 xs[k] (List.getElem_mem hlt)
        revert hx
        generalize xs[k] = x
        intro hx
        exact toMember x
      refine .inl ⟨_, by simp only [go_sem, h0, h3, h4, f1, f2, f3, f4, f5, f6, f7, f8, f9, f10]; rfl, ?_⟩
      simp only [go_sem, h0, h3]
      rfl) (by
      clear hL
      rintro ⟨T, σ, nx⟩ ⟨hn, hσ, h0, h3, h4⟩
      simp only at hn hσ h0 h3 h4
      subst hn hσ
      refine ⟨_, by simp only [go_sem, h0, h4, Int.lt_irrefl]; rfl, by simp, _, _, rfl, ?_, ?_⟩
      · simp only [go_sem, h3]
      · rw [mix_full]) (by
      (simp only [go_sem, ← mix_zero]) <;> trivial)
  have g1 := slots_len (c := cMember) (s := 3) (fun _ => rfl) xs
  have g2 : ∀ σ : Store, stripL (strip σ 6) (xs.flatMap cMember) = some (xs.flatMap cMember, []) := fun σ => stripL_slots (fun x => by simp only [go_sem]) xs
  have g3 : (xs.flatMap cMember).take (xs.length * 3) = xs.flatMap cMember := List.take_of_length_le (by omega)
  simp only [go_sem, hT', hs, g1, g2, g3, Nat.le_refl]
theorem toIntS (xs : List Int) (h : okL 8 okI xs) : fn Try.prog conv ext 78 [LI xs] = some (LI xs) := by
  have e1 : (8 : Int) * xs.length ≤ 281474976710656 := by have := h.2.1; omega
  have e2 : (xs.length : Int) ≤ 9223372036854775807 := by have := h.2.1; omega
  have e3 : (0 : Int) ≤ (xs.length : Int) := by omega
  rw [fn_eq, ev_eqQ (rs := [.tmp 2]) [] rfl Try.func78 rfl rfl (by kernel_rfl) (by kernel_rfl)]
  simp only [go_sem, e1, e2, e3, Int.le_refl]
  generalize hL : evLoopI _ _ = y
  obtain ⟨r, rfl, T', σ', rfl, hT', hs⟩ := count_rule hL xs.length (fun k st => st.nx = 1 ∧ st.σ = upd noStore 0 (some ⟨mix cI [I 0] xs xs.length k, 1, true⟩) ∧ st.T 0 = LI xs ∧ st.T 3 = .rs 0 0 xs.length ∧ st.T 4 = I k)
    (fun r => ∃ T σ, r = (.exit 0, ⟨T, σ, 1⟩) ∧ T 3 = .rs 0 0 xs.length ∧ σ = upd noStore 0 (some ⟨xs.flatMap cI, 1, true⟩)) (by
      clear hL
      rintro k ⟨T, σ, nx⟩ hlt ⟨hn, hσ, h0, h3, h4⟩
      simp only at hn hσ h0 h3 h4
      subst hn hσ
      have f1 : (k : Int) < (xs.length : Int) := by omega
      have f2 : (0 : Int) ≤ (k : Int) := by omega
      have f3 := wrap_id (n := (k : Int) + 1) (by omega) (by omega)
      have f4 : (xs.flatMap cI)[k]? = some (I xs[k]) := slot1 I xs k hlt
      have f7 := mix_len (c := cI) (s := 1) (fun _ => rfl) (z := [I 0]) rfl xs k (by omega)
      have f8 : (mix cI [I 0] xs xs.length k).set k (I xs[k]) = mix cI [I 0] xs xs.length (k + 1) := mix_set (c := I) xs k hlt
      have f9 := slot_ne (c := cI) (s := 1) (fun _ => rfl) (by omega) xs k hlt
      refine .inl ⟨_, by simp only [go_sem, h0, h3, h4, f1, f2, f3, f4, f7, f8, f9, hlt]; rfl, ?_⟩
      simp only [go_sem, h0, h3]
      rfl) (by
      clear hL
      rintro ⟨T, σ, nx⟩ ⟨hn, hσ, h0, h3, h4⟩
      simp only at hn hσ h0 h3 h4
      subst hn hσ
      refine ⟨_, by simp only [go_sem, h0, h4, Int.lt_irrefl]; rfl, by simp, _, _, rfl, ?_, ?_⟩
      · simp only [go_sem, h3]
      · rw [mix_full]) (by
      (simp only [go_sem, ← mix_zero]) <;> trivial)
  have g1 := slots_len (c := cI) (s := 1) (fun _ => rfl) xs
  have g2 : ∀ σ : Store, stripL (strip σ 6) (xs.flatMap cI) = some (xs.flatMap cI, []) := fun σ => stripL_slots (fun x => by simp only [go_sem]) xs
  have g3 : (xs.flatMap cI).take xs.length = xs.flatMap cI := List.take_of_length_le (by omega)
  simp only [go_sem, hT', hs, g1, g2, g3, Nat.le_refl]
theorem toStructure (s : Structure) (h : okStructure s) : fn Try.prog conv ext 77 [.agg (cStructure s)] = some (.agg (cStructure s)) := by
  have h1 := toJointS _ h.1
  have h2 := toMemberS _ h.2
  rw [fn_eq, ev_eqQ (rs := [.cell 2 61]) [] rfl Try.func77 rfl rfl (by kernel_rfl) (by kernel_rfl)]
  simp only [go_sem, h1, h2]
theorem toStance (s : Stance) (h : okStance s) : fn Try.prog conv ext 27 [.agg (cStance s)] = some (.agg (cStance s)) := by
  have h1 := toStructure _ h.2.1
  have h2 := toIntS _ h.2.2.1
  have h3 := toIntS _ h.2.2.2
  rw [fn_eq, ev_eqQ (rs := [.cell 2 63]) [] rfl Try.func27 rfl rfl (by kernel_rfl) (by kernel_rfl)]
  simp only [go_sem, h1, h2, h3]
theorem toStanceS (xs : List Stance) (h : okL 112 okStance xs) : fn Try.prog conv ext 66 [LL cStance xs] = some (LL cStance xs) := by
  have e1 : (112 : Int) * xs.length ≤ 281474976710656 := by have := h.2.1; omega
  have e2 : (xs.length : Int) ≤ 9223372036854775807 := by have := h.2.1; omega
  have e3 : (0 : Int) ≤ (xs.length : Int) := by omega
  rw [fn_eq, ev_eqQ (rs := [.tmp 2]) [] rfl Try.func66 rfl rfl (by kernel_rfl) (by kernel_rfl)]
  simp only [go_sem, e1, e2, e3, Int.le_refl]
  generalize hL : evLoopI _ _ = y
  obtain ⟨r, rfl, T', σ', rfl, hT', hs⟩ := count_rule hL xs.length (fun k st => st.nx = 1 ∧ st.σ = upd noStore 0 (some ⟨mix cStance zStance xs xs.length k, 5, true⟩) ∧ st.T 0 = LL cStance xs ∧ st.T 3 = .rs 0 0 xs.length ∧ st.T 4 = I k)
    (fun r => ∃ T σ, r = (.exit 0, ⟨T, σ, 1⟩) ∧ T 3 = .rs 0 0 xs.length ∧ σ = upd noStore 0 (some ⟨xs.flatMap cStance, 5, true⟩)) (by
      clear hL
      rintro k ⟨T, σ, nx⟩ hlt ⟨hn, hσ, h0, h3, h4⟩
      simp only at hn hσ h0 h3 h4
      subst hn hσ
      have f1 : (k : Int) < (xs.length : Int) := by omega
      have f2 : (0 : Int) ≤ (k : Int) := by omega
      have f3 := wrap_id (n := (k : Int) + 1) (by omega) (by omega)
      have f4 := slot (c := cStance) (s := 5) (fun _ => rfl) xs k hlt
      have f5 := slots_len (c := cStance) (s := 5) (fun _ => rfl) xs
      have f6 : k * 5 + 5 ≤ xs.length * 5 := by omega
      have f7 := mix_len (c := cStance) (s := 5) (fun _ => rfl) (z := zStance) rfl xs k (by omega)
      have f8 := mix_patch (c := cStance) (s := 5) (fun _ => rfl) (z := zStance) rfl xs k hlt
      have f9 := slot_ne (c := cStance) (s := 5) (fun _ => rfl) (by omega) xs k hlt
      have f10 : fn Try.prog conv ext 27 [.agg (cStance xs[k])] = some (.agg (cStance xs[k])) := by
        have hx := h.1 xs[k] (List.getElem_mem hlt)
        revert hx
        generalize xs[k] = x
        intro hx
        exact toStance x hx
      refine .inl ⟨_, by simp only [go_sem, h0, h3, h4, f1, f2, f3, f4, f5, f6, f7, f8, f9, f10]; rfl, ?_⟩
      simp only [go_sem, h0, h3]
      rfl) (by
      clear hL
      rintro ⟨T, σ, nx⟩ ⟨hn, hσ, h0, h3, h4⟩
      simp only at hn hσ h0 h3 h4
      subst hn hσ
      refine ⟨_, by simp only [go_sem, h0, h4, Int.lt_irrefl]; rfl, by simp, _, _, rfl, ?_, ?_⟩
      · simp only [go_sem, h3]
      · rw [mix_full]) (by
      (simp only [go_sem, ← mix_zero]) <;> trivial)
  have g1 := slots_len (c := cStance) (s := 5) (fun _ => rfl) xs
  have g2 : ∀ σ : Store, stripL (strip σ 6) (xs.flatMap cStance) = some (xs.flatMap cStance, []) := fun σ => stripL_slots (fun x => by simp only [go_sem]) xs
  have g3 : (xs.flatMap cStance).take (xs.length * 5) = xs.flatMap cStance := List.take_of_length_le (by omega)
  simp only [go_sem, hT', hs, g1, g2, g3, Nat.le_refl]
theorem toYard (s : Yard) (h : okYard s) : fn Try.prog conv ext 22 [.agg (cYard s)] = some (.agg (cYard s)) := by
  have h1 := toStanceS _ h.1
  have h2 := toMoveS _ h.2.1
  rw [fn_eq, ev_eqQ (rs := [.cell 2 46]) [] rfl Try.func22 rfl rfl (by kernel_rfl) (by kernel_rfl)]
  simp only [go_sem, h1, h2]

/-! ### Equal to itself -/
theorem eqJoint (x : Joint) : fn Try.prog conv ext 163 [.agg (cJoint x), .agg (cJoint x)] = some (Bo true) := by
  rw [fn_eq, ev_eqQ (rs := [.tmp 4]) [] rfl Try.func163 rfl rfl (by kernel_rfl) (by kernel_rfl)]
  simp only [go_sem]
theorem eqMember (x : Member) : fn Try.prog conv ext 164 [.agg (cMember x), .agg (cMember x)] = some (Bo true) := by
  rw [fn_eq, ev_eqQ (rs := [.tmp 4]) [] rfl Try.func164 rfl rfl (by kernel_rfl) (by kernel_rfl)]
  simp only [go_sem]
theorem eqMove (x : TV.Move) : fn Try.prog conv ext 113 [.agg (cMove x), .agg (cMove x)] = some (Bo true) := by
  rw [fn_eq, ev_eqQ (rs := [.tmp 4]) [] rfl Try.func113 rfl rfl (by kernel_rfl) (by kernel_rfl)]
  simp only [go_sem]
theorem eqMoveS (xs : List TV.Move) (h : xs.length ≤ maxLen) : fn Try.prog conv ext 71 [LL cMove xs, LL cMove xs] = some (Bo true) := by
  have e2 : (xs.length : Int) ≤ 9223372036854775807 := by unfold maxLen at h; omega
  rw [fn_eq, ev_eqQ (rs := [.tmp 4]) [] rfl Try.func71 rfl rfl (by kernel_rfl) (by kernel_rfl)]
  simp only [go_sem]
  generalize hL : evLoopI _ _ = y
  obtain ⟨r, rfl, T', rfl⟩ := count_rule hL xs.length (fun k st => st.nx = 0 ∧ st.σ = noStore ∧ st.T 0 = LL cMove xs ∧ st.T 1 = LL cMove xs ∧ st.T 5 = I k)
    (fun r => ∃ T, r = (.exit 0, ⟨T, noStore, 0⟩)) (by
      clear hL
      rintro k ⟨T, σ, nx⟩ hlt ⟨hn, hσ, h0, h3, h4⟩
      simp only at hn hσ h0 h3 h4
      subst hn hσ
      have f1 : (k : Int) < (xs.length : Int) := by omega
      have f2 : (0 : Int) ≤ (k : Int) := by omega
      have f3 := wrap_id (n := (k : Int) + 1) (by omega) (by omega)
      have f4 := slot (c := cMove) (s := 2) (fun _ => rfl) xs k hlt
      have f5 := slots_len (c := cMove) (s := 2) (fun _ => rfl) xs
      have f6 : k * 2 + 2 ≤ xs.length * 2 := by omega
      have f9 := slot_ne (c := cMove) (s := 2) (fun _ => rfl) (by omega) xs k hlt
      refine .inl ⟨_, by simp only [go_sem, h0, h3, h4, f1, f2, f3, f4, f5, f6, f9, eqMove]; rfl, ?_⟩
      simp only [go_sem, h0, h3]
      rfl) (by
      clear hL
      rintro ⟨T, σ, nx⟩ ⟨hn, hσ, h0, h3, h4⟩
      simp only at hn hσ h0 h3 h4
      subst hn hσ
      exact ⟨_, by simp only [go_sem, h0, h4, Int.lt_irrefl]; rfl, by simp, _, rfl⟩) (by
      (simp only [go_sem]) <;> trivial)
  simp only [go_sem]
theorem eqJointS (xs : List Joint) (h : xs.length ≤ maxLen) : fn Try.prog conv ext 125 [LL cJoint xs, LL cJoint xs] = some (Bo true) := by
  have e2 : (xs.length : Int) ≤ 9223372036854775807 := by unfold maxLen at h; omega
  rw [fn_eq, ev_eqQ (rs := [.tmp 4]) [] rfl Try.func125 rfl rfl (by kernel_rfl) (by kernel_rfl)]
  simp only [go_sem]
  generalize hL : evLoopI _ _ = y
  obtain ⟨r, rfl, T', rfl⟩ := count_rule hL xs.length (fun k st => st.nx = 0 ∧ st.σ = noStore ∧ st.T 0 = LL cJoint xs ∧ st.T 1 = LL cJoint xs ∧ st.T 5 = I k)
    (fun r => ∃ T, r = (.exit 0, ⟨T, noStore, 0⟩)) (by
      clear hL
      rintro k ⟨T, σ, nx⟩ hlt ⟨hn, hσ, h0, h3, h4⟩
      simp only at hn hσ h0 h3 h4
      subst hn hσ
      have f1 : (k : Int) < (xs.length : Int) := by omega
      have f2 : (0 : Int) ≤ (k : Int) := by omega
      have f3 := wrap_id (n := (k : Int) + 1) (by omega) (by omega)
      have f4 := slot (c := cJoint) (s := 4) (fun _ => rfl) xs k hlt
      have f5 := slots_len (c := cJoint) (s := 4) (fun _ => rfl) xs
      have f6 : k * 4 + 4 ≤ xs.length * 4 := by omega
      have f9 := slot_ne (c := cJoint) (s := 4) (fun _ => rfl) (by omega) xs k hlt
      refine .inl ⟨_, by simp only [go_sem, h0, h3, h4, f1, f2, f3, f4, f5, f6, f9, eqJoint]; rfl, ?_⟩
      simp only [go_sem, h0, h3]
      rfl) (by
      clear hL
      rintro ⟨T, σ, nx⟩ ⟨hn, hσ, h0, h3, h4⟩
      simp only at hn hσ h0 h3 h4
      subst hn hσ
      exact ⟨_, by simp only [go_sem, h0, h4, Int.lt_irrefl]; rfl, by simp, _, rfl⟩) (by
      (simp only [go_sem]) <;> trivial)
  simp only [go_sem]
theorem eqMemberS (xs : List Member) (h : xs.length ≤ maxLen) : fn Try.prog conv ext 126 [LL cMember xs, LL cMember xs] = some (Bo true) := by
  have e2 : (xs.length : Int) ≤ 9223372036854775807 := by unfold maxLen at h; omega
  rw [fn_eq, ev_eqQ (rs := [.tmp 4]) [] rfl Try.func126 rfl rfl (by kernel_rfl) (by kernel_rfl)]
  simp only [go_sem]
  generalize hL : evLoopI _ _ = y
  obtain ⟨r, rfl, T', rfl⟩ := count_rule hL xs.length (fun k st => st.nx = 0 ∧ st.σ = noStore ∧ st.T 0 = LL cMember xs ∧ st.T 1 = LL cMember xs ∧ st.T 5 = I k)
    (fun r => ∃ T, r = (.exit 0, ⟨T, noStore, 0⟩)) (by
      clear hL
      rintro k ⟨T, σ, nx⟩ hlt ⟨hn, hσ, h0, h3, h4⟩
      simp only at hn hσ h0 h3 h4
      subst hn hσ
      have f1 : (k : Int) < (xs.length : Int) := by omega
      have f2 : (0 : Int) ≤ (k : Int) := by omega
      have f3 := wrap_id (n := (k : Int) + 1) (by omega) (by omega)
      have f4 := slot (c := cMember) (s := 3) (fun _ => rfl) xs k hlt
      have f5 := slots_len (c := cMember) (s := 3) (fun _ => rfl) xs
      have f6 : k * 3 + 3 ≤ xs.length * 3 := by omega
      have f9 := slot_ne (c := cMember) (s := 3) (fun _ => rfl) (by omega) xs k hlt
      refine .inl ⟨_, by simp only [go_sem, h0, h3, h4, f1, f2, f3, f4, f5, f6, f9, eqMember]; rfl, ?_⟩
      simp only [go_sem, h0, h3]
      rfl) (by
      clear hL
      rintro ⟨T, σ, nx⟩ ⟨hn, hσ, h0, h3, h4⟩
      simp only at hn hσ h0 h3 h4
      subst hn hσ
      exact ⟨_, by simp only [go_sem, h0, h4, Int.lt_irrefl]; rfl, by simp, _, rfl⟩) (by
      (simp only [go_sem]) <;> trivial)
  simp only [go_sem]
theorem eqIntS (xs : List Int) (h : xs.length ≤ maxLen) : fn Try.prog conv ext 48 [LI xs, LI xs] = some (Bo true) := by
  have e2 : (xs.length : Int) ≤ 9223372036854775807 := by unfold maxLen at h; omega
  rw [fn_eq, ev_eqQ (rs := [.tmp 4]) [] rfl Try.func48 rfl rfl (by kernel_rfl) (by kernel_rfl)]
  simp only [go_sem]
  generalize hL : evLoopI _ _ = y
  obtain ⟨r, rfl, T', rfl⟩ := count_rule hL xs.length (fun k st => st.nx = 0 ∧ st.σ = noStore ∧ st.T 0 = LI xs ∧ st.T 1 = LI xs ∧ st.T 5 = I k)
    (fun r => ∃ T, r = (.exit 0, ⟨T, noStore, 0⟩)) (by
      clear hL
      rintro k ⟨T, σ, nx⟩ hlt ⟨hn, hσ, h0, h3, h4⟩
      simp only at hn hσ h0 h3 h4
      subst hn hσ
      have f1 : (k : Int) < (xs.length : Int) := by omega
      have f2 : (0 : Int) ≤ (k : Int) := by omega
      have f3 := wrap_id (n := (k : Int) + 1) (by omega) (by omega)
      have f4 : (xs.flatMap cI)[k]? = some (I xs[k]) := slot1 I xs k hlt
      have f9 := slot_ne (c := cI) (s := 1) (fun _ => rfl) (by omega) xs k hlt
      refine .inl ⟨_, by simp only [go_sem, h0, h3, h4, f1, f2, f3, f4, f9]; rfl, ?_⟩
      simp only [go_sem, h0, h3]
      rfl) (by
      clear hL
      rintro ⟨T, σ, nx⟩ ⟨hn, hσ, h0, h3, h4⟩
      simp only at hn hσ h0 h3 h4
      subst hn hσ
      exact ⟨_, by simp only [go_sem, h0, h4, Int.lt_irrefl]; rfl, by simp, _, rfl⟩) (by
      (simp only [go_sem]) <;> trivial)
  simp only [go_sem]
theorem eqStructure (x : Structure) (h : okStructure x) : fn Try.prog conv ext 82 [.agg (cStructure x), .agg (cStructure x)] = some (Bo true) := by
  have h1 := eqJointS _ h.1.2.2
  have h2 := eqMemberS _ h.2.2.2
  rw [fn_eq, ev_eqQ (rs := [.tmp 4]) [] rfl Try.func82 rfl rfl (by kernel_rfl) (by kernel_rfl)]
  simp only [go_sem, h1, h2]
theorem eqStance (x : Stance) (h : okStance x) : fn Try.prog conv ext 29 [.agg (cStance x), .agg (cStance x)] = some (Bo true) := by
  have h1 := eqStructure _ h.2.1
  have h2 := eqIntS _ h.2.2.1.2.2
  have h3 := eqIntS _ h.2.2.2.2.2
  rw [fn_eq, ev_eqQ (rs := [.tmp 4]) [] rfl Try.func29 rfl rfl (by kernel_rfl) (by kernel_rfl)]
  simp only [go_sem, h1, h2, h3]
theorem eqStanceS (xs : List Stance) (h' : okL 112 okStance xs) : fn Try.prog conv ext 70 [LL cStance xs, LL cStance xs] = some (Bo true) := by
  have e2 : (xs.length : Int) ≤ 9223372036854775807 := by have h := h'.2.2; unfold maxLen at h; omega
  rw [fn_eq, ev_eqQ (rs := [.tmp 4]) [] rfl Try.func70 rfl rfl (by kernel_rfl) (by kernel_rfl)]
  simp only [go_sem]
  generalize hL : evLoopI _ _ = y
  obtain ⟨r, rfl, T', rfl⟩ := count_rule hL xs.length (fun k st => st.nx = 0 ∧ st.σ = noStore ∧ st.T 0 = LL cStance xs ∧ st.T 1 = LL cStance xs ∧ st.T 5 = I k)
    (fun r => ∃ T, r = (.exit 0, ⟨T, noStore, 0⟩)) (by
      clear hL
      rintro k ⟨T, σ, nx⟩ hlt ⟨hn, hσ, h0, h3, h4⟩
      simp only at hn hσ h0 h3 h4
      subst hn hσ
      have f1 : (k : Int) < (xs.length : Int) := by omega
      have f2 : (0 : Int) ≤ (k : Int) := by omega
      have f3 := wrap_id (n := (k : Int) + 1) (by omega) (by omega)
      have f4 := slot (c := cStance) (s := 5) (fun _ => rfl) xs k hlt
      have f5 := slots_len (c := cStance) (s := 5) (fun _ => rfl) xs
      have f6 : k * 5 + 5 ≤ xs.length * 5 := by omega
      have f9 := slot_ne (c := cStance) (s := 5) (fun _ => rfl) (by omega) xs k hlt
      have f10 := eqStance xs[k] (h'.1 _ (List.getElem_mem hlt))
      refine .inl ⟨_, by simp only [go_sem, h0, h3, h4, f1, f2, f3, f4, f5, f6, f9, f10]; rfl, ?_⟩
      simp only [go_sem, h0, h3]
      rfl) (by
      clear hL
      rintro ⟨T, σ, nx⟩ ⟨hn, hσ, h0, h3, h4⟩
      simp only at hn hσ h0 h3 h4
      subst hn hσ
      exact ⟨_, by simp only [go_sem, h0, h4, Int.lt_irrefl]; rfl, by simp, _, rfl⟩) (by
      (simp only [go_sem]) <;> trivial)
  simp only [go_sem]
theorem eqYard (x : Yard) (h : okYard x) : fn Try.prog conv ext 24 [.agg (cYard x), .agg (cYard x)] = some (Bo true) := by
  have h1 := eqStanceS _ h.1
  have h2 := eqMoveS _ h.2.1.2.2
  rw [fn_eq, ev_eqQ (rs := [.tmp 4]) [] rfl Try.func24 rfl rfl (by kernel_rfl) (by kernel_rfl)]
  simp only [go_sem, h1, h2]

/-! ### Sizes -/
/-- What is left of `left` once `n` is gone. -/
def Szd (r left n : Int) : Prop := r = -1 ∨ (0 ≤ r ∧ r + n ≤ left)
theorem szIntS (xs : List Int) (left : Int) (h : okL 8 okI xs) (h0 : 0 ≤ left) (h1 : left ≤ 1048576) : ∃ r, fn Try.prog conv ext 73 [LI xs, I left] = some (I r) ∧ Szd r left xs.length := by
  have e1 : ((xs.length : Nat) : Int) ≤ 140737488351232 := by have := h.2.1; omega
  have e2 := wrap_id (n := left - (xs.length : Int)) (by omega) (by omega)
  by_cases hl : left - (xs.length : Int) < 0
  · refine ⟨-1, ?_, .inl rfl⟩
    rw [fn_eq, ev_eqQ (rs := [.tmp 4]) [] rfl Try.func73 rfl rfl (by kernel_rfl) (by kernel_rfl)]
    simp only [go_sem, e2, hl]
  · refine ⟨left - xs.length, ?_, .inr ⟨by omega, by omega⟩⟩
    rw [fn_eq, ev_eqQ (rs := [.tmp 4]) [] rfl Try.func73 rfl rfl (by kernel_rfl) (by kernel_rfl)]
    simp only [go_sem, e2, hl]
theorem szMemberS (xs : List Member) (left : Int) (h : okL 24 okMember xs) (h0 : 0 ≤ left) (h1 : left ≤ 1048576) : ∃ r, fn Try.prog conv ext 115 [LL cMember xs, I left] = some (I r) ∧ Szd r left xs.length := by
  have e1 : ((xs.length : Nat) : Int) ≤ 140737488351232 := by have := h.2.1; omega
  have e2 := wrap_id (n := left - (xs.length : Int)) (by omega) (by omega)
  by_cases hl : left - (xs.length : Int) < 0
  · refine ⟨-1, ?_, .inl rfl⟩
    rw [fn_eq, ev_eqQ (rs := [.tmp 4]) [] rfl Try.func115 rfl rfl (by kernel_rfl) (by kernel_rfl)]
    simp only [go_sem, e2, hl]
  · refine ⟨left - xs.length, ?_, .inr ⟨by omega, by omega⟩⟩
    rw [fn_eq, ev_eqQ (rs := [.tmp 4]) [] rfl Try.func115 rfl rfl (by kernel_rfl) (by kernel_rfl)]
    simp only [go_sem, e2, hl]
theorem szMoveS (xs : List TV.Move) (left : Int) (h : okL 16 okMove xs) (h0 : 0 ≤ left) (h1 : left ≤ 1048576) : ∃ r, fn Try.prog conv ext 65 [LL cMove xs, I left] = some (I r) ∧ Szd r left xs.length := by
  have e1 : ((xs.length : Nat) : Int) ≤ 140737488351232 := by have := h.2.1; omega
  have e2 := wrap_id (n := left - (xs.length : Int)) (by omega) (by omega)
  by_cases hl : left - (xs.length : Int) < 0
  · refine ⟨-1, ?_, .inl rfl⟩
    rw [fn_eq, ev_eqQ (rs := [.tmp 4]) [] rfl Try.func65 rfl rfl (by kernel_rfl) (by kernel_rfl)]
    simp only [go_sem, e2, hl]
  · refine ⟨left - xs.length, ?_, .inr ⟨by omega, by omega⟩⟩
    rw [fn_eq, ev_eqQ (rs := [.tmp 4]) [] rfl Try.func65 rfl rfl (by kernel_rfl) (by kernel_rfl)]
    simp only [go_sem, e2, hl]
theorem szJoint (x : Joint) (left : Int) (h : okJoint x) (h0 : 0 ≤ left) (h1 : left ≤ 1048576) : ∃ r, fn Try.prog conv ext 150 [.agg (cJoint x), I left] = some (I r) ∧ Szd r left x.name.size := by
  have e1 : ((x.name.size : Nat) : Int) ≤ 140737488351232 := by have := h.1; unfold okS at this; omega
  have e2 := wrap_id (n := left - (x.name.size : Int)) (by omega) (by omega)
  by_cases hl : left - (x.name.size : Int) < 0
  · refine ⟨-1, ?_, .inl rfl⟩
    rw [fn_eq, ev_eqQ (rs := [.tmp 4]) [] rfl Try.func150 rfl rfl (by kernel_rfl) (by kernel_rfl)]
    simp only [go_sem, e2, hl]
  · refine ⟨left - x.name.size, ?_, .inr ⟨by omega, by omega⟩⟩
    rw [fn_eq, ev_eqQ (rs := [.tmp 4]) [] rfl Try.func150 rfl rfl (by kernel_rfl) (by kernel_rfl)]
    simp only [go_sem, e2, hl]
theorem szJointS (xs : List Joint) (left : Int) (h : okL 40 okJoint xs) (g0 : 0 ≤ left) (g1 : left ≤ 1048576) : ∃ r, fn Try.prog conv ext 114 [LL cJoint xs, I left] = some (I r) ∧ Szd r left xs.length := by
  have e1 : ((xs.length : Nat) : Int) ≤ 140737488351232 := by have := h.2.1; omega
  have e2 := wrap_id (n := left - (xs.length : Int)) (by omega) (by omega)
  by_cases hl : left - (xs.length : Int) < 0
  · refine ⟨-1, ?_, .inl rfl⟩
    rw [fn_eq, ev_eqQ (rs := [.tmp 4]) [] rfl Try.func114 rfl rfl (by kernel_rfl) (by kernel_rfl)]
    simp only [go_sem, e2, hl]
  · suffices hz : ∃ r, fn Try.prog conv ext 114 [LL cJoint xs, I left] = some (I r) ∧ Szd r (left - xs.length) 0 by
      obtain ⟨r, h1, h2⟩ := hz
      exact ⟨r, h1, h2.imp id fun h => ⟨h.1, by have := h.2; omega⟩⟩
    rw [fn_eq, ev_eqQ (rs := [.tmp 4]) [] rfl Try.func114 rfl rfl (by kernel_rfl) (by kernel_rfl)]
    simp only [go_sem, e2, hl]
    generalize hL : evLoopI _ _ = y
    obtain ⟨r, rfl, hr⟩ := count_rule hL xs.length (fun k st => st.nx = 0 ∧ st.σ = noStore ∧ st.T 0 = LL cJoint xs ∧ st.T 5 = I k ∧ ∃ l, st.T 1 = I l ∧ 0 ≤ l ∧ l ≤ left - xs.length)
      (fun r => (∃ T l, r = (.exit 0, ⟨T, noStore, 0⟩) ∧ T 1 = I l ∧ 0 ≤ l ∧ l ≤ left - xs.length) ∨ (∃ T, r = (.ret, ⟨T, noStore, 0⟩) ∧ T 4 = I (-1))) (by
        clear hL
        rintro k ⟨T, σ, nx⟩ hlt ⟨hn, hσ, h0, h4, l, h1, hl0, hl1⟩
        simp only at hn hσ h0 h1 h4
        subst hn hσ
        have f1 : (k : Int) < (xs.length : Int) := by omega
        have f2 : (0 : Int) ≤ (k : Int) := by omega
        have f3 := wrap_id (n := (k : Int) + 1) (by omega) (by omega)
        have f4 := slot (c := cJoint) (s := 4) (fun _ => rfl) xs k hlt
        have f5 := slots_len (c := cJoint) (s := 4) (fun _ => rfl) xs
        have f6 : k * 4 + 4 ≤ xs.length * 4 := by omega
        have f9 := slot_ne (c := cJoint) (s := 4) (fun _ => rfl) (by omega) xs k hlt
        obtain ⟨q, f10, f11⟩ := szJoint xs[k] l (h.1 _ (List.getElem_mem hlt)) hl0 (by omega)
        by_cases hq : q < 0
        · refine .inr ⟨_, by simp only [go_sem, h0, h1, h4, f1, f2, f3, f4, f5, f6, f9, f10, hq]; rfl, by simp, .inr ⟨_, rfl, ?_⟩⟩
          simp only [go_sem]
        · have f12 : q ≤ l := by rcases f11 with h | ⟨_, h⟩ <;> omega
          refine .inl ⟨_, by simp only [go_sem, h0, h1, h4, f1, f2, f3, f4, f5, f6, f9, f10, hq]; rfl, ?_⟩
          simp only [go_sem, h0]
          exact ⟨rfl, q, rfl, by omega, by omega⟩) (by
        clear hL
        rintro ⟨T, σ, nx⟩ ⟨hn, hσ, h0, h4, l, h1, hl0, hl1⟩
        simp only at hn hσ h0 h1 h4
        subst hn hσ
        refine ⟨_, by simp only [go_sem, h0, h4, Int.lt_irrefl]; rfl, by simp, .inl ⟨_, l, rfl, ?_, hl0, hl1⟩⟩
        simp only [go_sem, h1]) (by
        simp only [go_sem]
        exact ⟨_, rfl, by omega, by omega⟩)
    rcases hr with ⟨T, l, rfl, h1, h2, h3⟩ | ⟨T, rfl, h1⟩
    · refine ⟨l, ?_, .inr ⟨h2, by omega⟩⟩
      simp only [go_sem, h1]
    · refine ⟨-1, ?_, .inl rfl⟩
      simp only [go_sem, h1]
theorem szStructure (x : Structure) (left : Int) (h : okStructure x) (h0 : 0 ≤ left) (h1 : left ≤ 1048576) : ∃ r, fn Try.prog conv ext 72 [.agg (cStructure x), I left] = some (I r) ∧ Szd r left (x.joints.length + x.members.length) := by
  obtain ⟨a, a1, a2⟩ := szJointS x.joints left h.1 h0 h1
  by_cases ha : a < 0
  · refine ⟨-1, ?_, .inl rfl⟩
    rw [fn_eq, ev_eqQ (rs := [.tmp 4]) [] rfl Try.func72 rfl rfl (by kernel_rfl) (by kernel_rfl)]
    simp only [go_sem, a1, ha]
  · rcases a2 with a2 | ⟨_, a2⟩
    · omega
    obtain ⟨b, b1, b2⟩ := szMemberS x.members a h.2 (by omega) (by omega)
    by_cases hb : b < 0
    · refine ⟨-1, ?_, .inl rfl⟩
      rw [fn_eq, ev_eqQ (rs := [.tmp 4]) [] rfl Try.func72 rfl rfl (by kernel_rfl) (by kernel_rfl)]
      simp only [go_sem, a1, ha, b1, hb]
    · rcases b2 with b2 | ⟨_, b2⟩
      · omega
      refine ⟨b, ?_, .inr ⟨by omega, by omega⟩⟩
      rw [fn_eq, ev_eqQ (rs := [.tmp 4]) [] rfl Try.func72 rfl rfl (by kernel_rfl) (by kernel_rfl)]
      simp only [go_sem, a1, ha, b1, hb]
theorem szStance (x : Stance) (left : Int) (h : okStance x) (h0 : 0 ≤ left) (h1 : left ≤ 1048576) : ∃ r, fn Try.prog conv ext 25 [.agg (cStance x), I left] = some (I r) ∧ Szd r left (x.name.size + x.st.joints.length + x.st.members.length + x.load.length + x.limits.length) := by
  have e1 : ((x.name.size : Nat) : Int) ≤ 140737488351232 := by have := h.1; unfold okS at this; omega
  have e2 := wrap_id (n := left - (x.name.size : Int)) (by omega) (by omega)
  by_cases hl : left - (x.name.size : Int) < 0
  · refine ⟨-1, ?_, .inl rfl⟩
    rw [fn_eq, ev_eqQ (rs := [.tmp 4]) [] rfl Try.func25 rfl rfl (by kernel_rfl) (by kernel_rfl)]
    simp only [go_sem, e2, hl]
  obtain ⟨a, a1, a2⟩ := szStructure x.st (left - x.name.size) h.2.1 (by omega) (by omega)
  by_cases ha : a < 0
  · refine ⟨-1, ?_, .inl rfl⟩
    rw [fn_eq, ev_eqQ (rs := [.tmp 4]) [] rfl Try.func25 rfl rfl (by kernel_rfl) (by kernel_rfl)]
    simp only [go_sem, e2, hl, a1, ha]
  rcases a2 with a2 | ⟨_, a2⟩
  · omega
  obtain ⟨b, b1, b2⟩ := szIntS x.load a h.2.2.1 (by omega) (by omega)
  by_cases hb : b < 0
  · refine ⟨-1, ?_, .inl rfl⟩
    rw [fn_eq, ev_eqQ (rs := [.tmp 4]) [] rfl Try.func25 rfl rfl (by kernel_rfl) (by kernel_rfl)]
    simp only [go_sem, e2, hl, a1, ha, b1, hb]
  rcases b2 with b2 | ⟨_, b2⟩
  · omega
  obtain ⟨d, d1, d2⟩ := szIntS x.limits b h.2.2.2 (by omega) (by omega)
  by_cases hd : d < 0
  · refine ⟨-1, ?_, .inl rfl⟩
    rw [fn_eq, ev_eqQ (rs := [.tmp 4]) [] rfl Try.func25 rfl rfl (by kernel_rfl) (by kernel_rfl)]
    simp only [go_sem, e2, hl, a1, ha, b1, hb, d1, hd]
  rcases d2 with d2 | ⟨_, d2⟩
  · omega
  refine ⟨d, ?_, .inr ⟨by omega, by omega⟩⟩
  rw [fn_eq, ev_eqQ (rs := [.tmp 4]) [] rfl Try.func25 rfl rfl (by kernel_rfl) (by kernel_rfl)]
  simp only [go_sem, e2, hl, a1, ha, b1, hb, d1, hd]
theorem szStanceS (xs : List Stance) (left : Int) (h : okL 112 okStance xs) (g0 : 0 ≤ left) (g1 : left ≤ 1048576) : ∃ r, fn Try.prog conv ext 64 [LL cStance xs, I left] = some (I r) ∧ Szd r left xs.length := by
  have e1 : ((xs.length : Nat) : Int) ≤ 140737488351232 := by have := h.2.1; omega
  have e2 := wrap_id (n := left - (xs.length : Int)) (by omega) (by omega)
  by_cases hl : left - (xs.length : Int) < 0
  · refine ⟨-1, ?_, .inl rfl⟩
    rw [fn_eq, ev_eqQ (rs := [.tmp 4]) [] rfl Try.func64 rfl rfl (by kernel_rfl) (by kernel_rfl)]
    simp only [go_sem, e2, hl]
  · suffices hz : ∃ r, fn Try.prog conv ext 64 [LL cStance xs, I left] = some (I r) ∧ Szd r (left - xs.length) 0 by
      obtain ⟨r, h1, h2⟩ := hz
      exact ⟨r, h1, h2.imp id fun h => ⟨h.1, by have := h.2; omega⟩⟩
    rw [fn_eq, ev_eqQ (rs := [.tmp 4]) [] rfl Try.func64 rfl rfl (by kernel_rfl) (by kernel_rfl)]
    simp only [go_sem, e2, hl]
    generalize hL : evLoopI _ _ = y
    obtain ⟨r, rfl, hr⟩ := count_rule hL xs.length (fun k st => st.nx = 0 ∧ st.σ = noStore ∧ st.T 0 = LL cStance xs ∧ st.T 5 = I k ∧ ∃ l, st.T 1 = I l ∧ 0 ≤ l ∧ l ≤ left - xs.length)
      (fun r => (∃ T l, r = (.exit 0, ⟨T, noStore, 0⟩) ∧ T 1 = I l ∧ 0 ≤ l ∧ l ≤ left - xs.length) ∨ (∃ T, r = (.ret, ⟨T, noStore, 0⟩) ∧ T 4 = I (-1))) (by
        clear hL
        rintro k ⟨T, σ, nx⟩ hlt ⟨hn, hσ, h0, h4, l, h1, hl0, hl1⟩
        simp only at hn hσ h0 h1 h4
        subst hn hσ
        have f1 : (k : Int) < (xs.length : Int) := by omega
        have f2 : (0 : Int) ≤ (k : Int) := by omega
        have f3 := wrap_id (n := (k : Int) + 1) (by omega) (by omega)
        have f4 := slot (c := cStance) (s := 5) (fun _ => rfl) xs k hlt
        have f5 := slots_len (c := cStance) (s := 5) (fun _ => rfl) xs
        have f6 : k * 5 + 5 ≤ xs.length * 5 := by omega
        have f9 := slot_ne (c := cStance) (s := 5) (fun _ => rfl) (by omega) xs k hlt
        obtain ⟨q, f10, f11⟩ := szStance xs[k] l (h.1 _ (List.getElem_mem hlt)) hl0 (by omega)
        by_cases hq : q < 0
        · refine .inr ⟨_, by simp only [go_sem, h0, h1, h4, f1, f2, f3, f4, f5, f6, f9, f10, hq]; rfl, by simp, .inr ⟨_, rfl, ?_⟩⟩
          simp only [go_sem]
        · have f12 : q ≤ l := by rcases f11 with h | ⟨_, h⟩ <;> omega
          refine .inl ⟨_, by simp only [go_sem, h0, h1, h4, f1, f2, f3, f4, f5, f6, f9, f10, hq]; rfl, ?_⟩
          simp only [go_sem, h0]
          exact ⟨rfl, q, rfl, by omega, by omega⟩) (by
        clear hL
        rintro ⟨T, σ, nx⟩ ⟨hn, hσ, h0, h4, l, h1, hl0, hl1⟩
        simp only at hn hσ h0 h1 h4
        subst hn hσ
        refine ⟨_, by simp only [go_sem, h0, h4, Int.lt_irrefl]; rfl, by simp, .inl ⟨_, l, rfl, ?_, hl0, hl1⟩⟩
        simp only [go_sem, h1]) (by
        simp only [go_sem]
        exact ⟨_, rfl, by omega, by omega⟩)
    rcases hr with ⟨T, l, rfl, h1, h2, h3⟩ | ⟨T, rfl, h1⟩
    · refine ⟨l, ?_, .inr ⟨h2, by omega⟩⟩
      simp only [go_sem, h1]
    · refine ⟨-1, ?_, .inl rfl⟩
      simp only [go_sem, h1]
theorem szYard (x : Yard) (left : Int) (h : okYard x) (h0 : 0 ≤ left) (h1 : left ≤ 1048576) : ∃ r, fn Try.prog conv ext 20 [.agg (cYard x), I left] = some (I r) ∧ Szd r left (x.stances.length + x.moves.length) := by
  obtain ⟨a, a1, a2⟩ := szStanceS x.stances left h.1 h0 h1
  by_cases ha : a < 0
  · refine ⟨-1, ?_, .inl rfl⟩
    rw [fn_eq, ev_eqQ (rs := [.tmp 4]) [] rfl Try.func20 rfl rfl (by kernel_rfl) (by kernel_rfl)]
    simp only [go_sem, a1, ha]
  rcases a2 with a2 | ⟨_, a2⟩
  · omega
  obtain ⟨b, b1, b2⟩ := szMoveS x.moves a h.2.1 (by omega) (by omega)
  by_cases hb : b < 0
  · refine ⟨-1, ?_, .inl rfl⟩
    rw [fn_eq, ev_eqQ (rs := [.tmp 4]) [] rfl Try.func20 rfl rfl (by kernel_rfl) (by kernel_rfl)]
    simp only [go_sem, a1, ha, b1, hb]
  rcases b2 with b2 | ⟨_, b2⟩
  · omega
  refine ⟨b, ?_, .inr ⟨by omega, by omega⟩⟩
  rw [fn_eq, ev_eqQ (rs := [.tmp 4]) [] rfl Try.func20 rfl rfl (by kernel_rfl) (by kernel_rfl)]
  simp only [go_sem, a1, ha, b1, hb]
end Go.Proofs.Ytlacjcdhfoeekaa
