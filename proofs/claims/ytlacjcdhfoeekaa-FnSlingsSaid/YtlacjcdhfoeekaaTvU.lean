import Derived.Test.YtlacjcdhfoeekaaTvT
set_option linter.unusedSimpArgs false
set_option linter.unusedVariables false
namespace Go.Proofs.Ytlacjcdhfoeekaa
open Go Go.TV

theorem inB_false_l {n a b : Int} (h : inB n a b = false) : ¬(a ≤ n ∧ n ≤ b) := by
  unfold inB at h
  intro hn
  rw [decide_eq_true hn.1, decide_eq_true hn.2] at h
  cases h
theorem inB_true {n a b : Int} (h : inB n a b = true) : a ≤ n ∧ n ≤ b := by
  unfold inB at h
  rw [Bool.and_eq_true, decide_eq_true_eq, decide_eq_true_eq] at h
  exact h
theorem sStructureOk (s : Structure) (h : okStructure s) : fn Try.prog conv ext 116 [.agg (cStructure s)] = some (Bo (pb (StrOk s))) := by
  have e2 : (s.joints.length : Int) ≤ 9223372036854775807 := by have := h.1.2.1; omega
  have e3 : (s.members.length : Int) ≤ 9223372036854775807 := by have := h.2.2.1; omega
  rw [fn_eq, ev_eqQ (rs := [.tmp 2]) [] rfl Try.func116 rfl rfl (by kernel_rfl) (by kernel_rfl)]
  by_cases c1 : (6 : Int) < s.joints.length
  · rw [pb_false (fun hn => by have := hn.1; omega)]
    simp only [go_sem, c1]
  by_cases c2 : (8 : Int) < s.members.length
  · rw [pb_false (fun hn => by have := hn.2.1; omega)]
    simp only [go_sem, c1, c2]
  simp only [go_sem, c1, c2]
  generalize hL : evLoopI _ _ = y
  obtain ⟨r, rfl, hr⟩ := count_rule hL s.joints.length (fun k st => 0 < st.nx ∧ st.σ 0 = some ⟨cStructure s, 0, true⟩ ∧ st.T 1 = .rp 0 0 ∧ st.T 21 = LL cJoint s.joints ∧ st.T 22 = I s.joints.length ∧ st.T 23 = I k ∧ ∀ i (h : i < s.joints.length), i < k → jointB s.joints[i] = true ∧ ix (isNamedJ s.joints[i].name) s.joints = i)
    (fun r => (∃ T σ nx, r = (.exit 0, ⟨T, σ, nx⟩) ∧ 0 < nx ∧ σ 0 = some ⟨cStructure s, 0, true⟩ ∧ T 1 = .rp 0 0 ∧ ∀ i (h : i < s.joints.length), jointB s.joints[i] = true ∧ ix (isNamedJ s.joints[i].name) s.joints = i) ∨ (∃ T σ nx, r = (.ret, ⟨T, σ, nx⟩) ∧ T 2 = Bo false ∧ ¬StrOk s)) (by
      clear hL
      rintro k ⟨T, σ, nx⟩ hlt ⟨hn, hσ, h1, h16, h17, h18, hi⟩
      simp only at hn hσ h1 h16 h17 h18
      have f1 : (k : Int) < (s.joints.length : Int) := by omega
      have f2 : (0 : Int) ≤ (k : Int) := by omega
      have f3 := wrap_id (n := (k : Int) + 1) (by omega) (by omega)
      have f4 := slot (c := cJoint) (s := 4) (fun _ => rfl) s.joints k hlt
      have f5 := slots_len (c := cJoint) (s := 4) (fun _ => rfl) s.joints
      have f6 : k * 4 + 4 ≤ s.joints.length * 4 := by omega
      have f9 := slot_ne (c := cJoint) (s := 4) (fun _ => rfl) (by omega) s.joints k hlt
      have t1 := sJointOk s.joints[k] (h.1.1 _ (List.getElem_mem hlt))
      have t2 := sJointNamed s s.joints[k].name h.1.2.2
      have nz : ¬0 = nx := by omega
      cases hj : jointB s.joints[k] with
      | false =>
        rw [hj] at t1
        refine .inr ⟨_, by simp only [go_sem, h1, h16, h17, h18, f1, f2, f4, f5, f6, f9, t1, nz]; rfl, by simp, .inr ⟨_, _, _, rfl, ?_, fun hn => ?_⟩⟩
        · simp only [go_sem]
        · have := (hn.2.2.1 k hlt).1
          rw [hj] at this; cases this
      | true =>
        rw [hj] at t1
        by_cases hk : ix (isNamedJ s.joints[k].name) s.joints = k
        · rw [hk] at t2
          refine .inl ⟨_, by simp only [go_sem, h1, h16, h17, h18, hσ, f1, f2, f3, f4, f5, f6, f9, t1, t2, nz]; rfl, ?_⟩
          simp only [go_sem, h1, h16, h17, hσ, nz]
          refine ⟨by omega, rfl, fun i hi' hik => ?_⟩
          rcases Nat.lt_or_eq_of_le (Nat.le_of_lt_succ hik) with q | q
          · exact hi i hi' q
          · subst q; exact ⟨hj, hk⟩
        · have hk' : (ix (isNamedJ s.joints[k].name) s.joints != (k : Int)) = true := by simpa using hk
          refine .inr ⟨_, by simp only [go_sem, h1, h16, h17, h18, hσ, f1, f2, f4, f5, f6, f9, t1, t2, hk', nz]; rfl, by simp, .inr ⟨_, _, _, rfl, ?_, fun hn => hk (hn.2.2.1 k hlt).2⟩⟩
          simp only [go_sem]) (by
      clear hL
      rintro ⟨T, σ, nx⟩ ⟨hn, hσ, h1, h16, h17, h18, hi⟩
      simp only at hn hσ h1 h16 h17 h18
      exact ⟨_, by simp only [go_sem, h17, h18, Int.lt_irrefl]; rfl, by simp, .inl ⟨_, _, _, rfl, hn, hσ, by simp only [go_sem, h1], fun i h => hi i h h⟩⟩) (by
      simp only [go_sem]
      exact fun i _ h => absurd h (Nat.not_lt_zero _))
  rcases hr with ⟨T, σ, nx, rfl, hnx, hσ, h1, hj⟩ | ⟨T, σ, nx, rfl, h2, hn⟩
  · clear hL
    have e4 := wrap_id (n := (s.joints.length : Int) - 1) (by omega) (by omega)
    simp only [go_sem, hσ, h1, e4]
    generalize hL : evLoopI _ _ = y
    obtain ⟨r, rfl, hr⟩ := count_rule hL s.members.length (fun k st => 0 < st.nx ∧ st.σ 0 = some ⟨cStructure s, 0, true⟩ ∧ st.T 1 = .rp 0 0 ∧ st.T 5 = I ((s.joints.length : Int) - 1) ∧ st.T 45 = LL cMember s.members ∧ st.T 46 = I s.members.length ∧ st.T 47 = I k ∧ ∀ i (h : i < s.members.length), i < k → memB s.joints s.members[i] = true)
      (fun r => (∃ T σ nx, r = (.exit 2, ⟨T, σ, nx⟩) ∧ ∀ i (h : i < s.members.length), memB s.joints s.members[i] = true) ∨ (∃ T σ nx, r = (.ret, ⟨T, σ, nx⟩) ∧ T 2 = Bo false ∧ ¬StrOk s)) (by
        clear hL
        rintro k ⟨T, σ, nx⟩ hlt ⟨hn, hσ, h1, h5, h45, h46, h47, hi⟩
        simp only at hn hσ h1 h5 h45 h46 h47
        have f1 : (k : Int) < (s.members.length : Int) := by omega
        have f2 : (0 : Int) ≤ (k : Int) := by omega
        have f3 := wrap_id (n := (k : Int) + 1) (by omega) (by omega)
        have f4 := slot (c := cMember) (s := 3) (fun _ => rfl) s.members k hlt
        have f5 := slots_len (c := cMember) (s := 3) (fun _ => rfl) s.members
        have f6 : k * 3 + 3 ≤ s.members.length * 3 := by omega
        have f9 := slot_ne (c := cMember) (s := 3) (fun _ => rfl) (by omega) s.members k hlt
        have no : memB s.joints s.members[k] = false → ¬StrOk s := fun hb hn => by
          rw [hn.2.2.2 _ (List.getElem_mem hlt)] at hb; cases hb
        obtain ⟨m, hmk⟩ : ∃ m, m = s.members[k] := ⟨_, rfl⟩
        rw [← hmk] at f4 no
        have t1 := l01In m.a 0 ((s.joints.length : Int) - 1)
        have t2 := l01In m.b 0 ((s.joints.length : Int) - 1)
        have t3 := l01In m.kind 1 3
        have nz : ¬0 = nx := by omega
        cases ha : inB m.a 0 ((s.joints.length : Int) - 1) with
        | false =>
          rw [ha] at t1
          refine .inr ⟨_, by simp only [go_sem, h1, h5, h45, h46, h47, hσ, f1, f2, f4, f5, f6, f9, t1, nz]; rfl, by simp, .inr ⟨_, _, _, rfl, by simp only [go_sem], no (memB_no fun hm => ?_)⟩⟩
          exact inB_false_l ha ⟨hm.1, by have := hm.2.1; omega⟩
        | true =>
        rw [ha] at t1
        cases hb : inB m.b 0 ((s.joints.length : Int) - 1) with
        | false =>
          rw [hb] at t2
          refine .inr ⟨_, by simp only [go_sem, h1, h5, h45, h46, h47, hσ, f1, f2, f4, f5, f6, f9, t1, t2, nz]; rfl, by simp, .inr ⟨_, _, _, rfl, by simp only [go_sem], no (memB_no fun hm => ?_)⟩⟩
          exact inB_false_l hb ⟨hm.2.2.1, by have := hm.2.2.2.1; omega⟩
        | true =>
        rw [hb] at t2
        cases hc : inB m.kind 1 3 with
        | false =>
          rw [hc] at t3
          refine .inr ⟨_, by simp only [go_sem, h1, h5, h45, h46, h47, hσ, f1, f2, f4, f5, f6, f9, t1, t2, t3, nz]; rfl, by simp, .inr ⟨_, _, _, rfl, by simp only [go_sem], no (memB_no fun hm => ?_)⟩⟩
          exact inB_false_l hc ⟨hm.2.2.2.2.1, hm.2.2.2.2.2⟩
        | true =>
        rw [hc] at t3
        have qa := inB_true ha
        have qb := inB_true hb
        have qc := inB_true hc
        have a1 : 0 ≤ m.a := qa.1
        have a2 : m.a < s.joints.length := by omega
        have b1 : 0 ≤ m.b := qb.1
        have b2 : m.b < s.joints.length := by omega
        have a3 : m.a.toNat < s.joints.length := by omega
        have b3 : m.b.toNat < s.joints.length := by omega
        have hp := memB_pair ⟨a1, a2, b1, b2, qc.1, qc.2⟩ (List.getElem?_eq_getElem a3) (List.getElem?_eq_getElem b3)
        have k4 := slot (c := cJoint) (s := 4) (fun _ => rfl) s.joints _ a3
        have g4 := slot (c := cJoint) (s := 4) (fun _ => rfl) s.joints _ b3
        have k5 := slots_len (c := cJoint) (s := 4) (fun _ => rfl) s.joints
        have k6 : m.a.toNat * 4 + 4 ≤ s.joints.length * 4 := by omega
        have g6 : m.b.toNat * 4 + 4 ≤ s.joints.length * 4 := by omega
        have k9 := slot_ne (c := cJoint) (s := 4) (fun _ => rfl) (by omega) s.joints _ a3
        generalize s.joints[m.a.toNat] = a at *
        generalize s.joints[m.b.toNat] = b at *
        unfold pairB at hp
        have n1 : ¬nx = nx + 1 := by omega
        have n2 : ¬nx = nx + 1 + 1 := by omega
        have n3 : ¬nx + 1 = nx + 1 + 1 := by omega
        have n4 : ¬0 = nx + 1 := by omega
        have n5 : ¬0 = nx + 1 + 1 := by omega
        cases hx : (a.x == b.x) <;> cases hy : (a.y == b.y) <;> cases hfa : a.fixed <;> cases hfb : b.fixed <;> simp only [hx, hy, hfa, hfb, Bool.not_true, Bool.not_false, Bool.or_true, Bool.true_or, Bool.or_false, Bool.and_true, Bool.and_false, Bool.true_and, Bool.false_and] at hp <;>
        first
        | (refine .inl ⟨_, by simp only [go_sem, h1, h5, h45, h46, h47, hσ, f1, f2, f3, f4, f5, f6, f9, t1, t2, t3, nz, a1, a2, b1, b2, k4, g4, k5, k6, g6, k9, n1, n2, n3, n4, n5, hx, hy, hfa, hfb]; rfl, ?_⟩
           simp only [go_sem, h1, h5, h45, h46, hσ, nz, n4, n5]
           refine ⟨by omega, rfl, fun i hi' hik => ?_⟩
           rcases Nat.lt_or_eq_of_le (Nat.le_of_lt_succ hik) with q | q
           · exact hi i hi' q
           · subst q; rw [← hmk]; exact hp)
        | exact .inr ⟨_, by simp only [go_sem, h1, h5, h45, h46, h47, hσ, f1, f2, f4, f5, f6, f9, t1, t2, t3, nz, a1, a2, b1, b2, k4, g4, k5, k6, g6, k9, n1, n2, n3, n4, n5, hx, hy, hfa, hfb]; rfl, by simp, .inr ⟨_, _, _, rfl, by simp only [go_sem], no hp⟩⟩) (by
        clear hL
        rintro ⟨T, σ, nx⟩ ⟨hn, hσ, h1, h5, h45, h46, h47, hi⟩
        simp only at hn hσ h1 h46 h47
        exact ⟨_, by simp only [go_sem, h46, h47, Int.lt_irrefl]; rfl, by simp, .inl ⟨_, _, _, rfl, fun i h => hi i h h⟩⟩) (by
        simp only [go_sem, h1, hσ]
        exact ⟨hnx, fun i _ h => absurd h (Nat.not_lt_zero _)⟩)
    rcases hr with ⟨T, σ, nx, rfl, hm⟩ | ⟨T, σ, nx, rfl, h2, hn⟩
    · have : StrOk s := ⟨by omega, by omega, hj, fun m hmm => by obtain ⟨i, hi, rfl⟩ := List.getElem_of_mem hmm; exact hm i hi⟩
      simp only [go_sem, pb_true this]
    · simp only [go_sem, h2, pb_false hn]
  · simp only [go_sem, h2, pb_false hn]

/-! ### Loads and limits -/
def LoadGood (n : Nat) (l : List Int) : Prop := l.length = 2 * n ∧ ∀ x ∈ l, inB x (-100) 100 = true
def LimGood (n : Nat) (l : List Int) : Prop := l.length = n ∧ ∀ x ∈ l, inB x 0 1000 = true
theorem closefitsLoad (x : Int) : fn Try.prog conv ext 160 [I x] = some (Bo (!inB x (-100) 100)) := by
  have h1 := isForce x
  rw [fn_eq, ev_eqQ (rs := [.tmp 2]) [] rfl Try.func160 rfl rfl (by kernel_rfl) (by kernel_rfl)]
  simp only [go_sem, h1]
theorem closefitsLimits (x : Int) : fn Try.prog conv ext 124 [I x] = some (Bo (!inB x 0 1000)) := by
  have h1 := isLimit x
  rw [fn_eq, ev_eqQ (rs := [.tmp 2]) [] rfl Try.func124 rfl rfl (by kernel_rfl) (by kernel_rfl)]
  simp only [go_sem, h1]
theorem ifitsLoad (row : List V) (off : Nat) (js : List Joint) (l : List Int) (hr : row[off]? = some (LL cJoint js)) (hj : js.length ≤ 140737488351232) (hl : l.length ≤ maxLen) : fn Try.prog conv ext 122 [.tp row off, LI l] = some (Bo (pb (LoadGood js.length l))) := by
  have e1 := wrap_id (n := 2 * (js.length : Int)) (by omega) (by omega)
  have h1 := hasInt l 160 (fun x => !inB x (-100) 100) hl (by rfl) (fun x _ => closefitsLoad x)
  rw [fn_eq, ev_eqQ (rs := [.tmp 4]) [] rfl Try.func122 rfl rfl (by kernel_rfl) (by kernel_rfl)]
  by_cases h2 : (l.length : Int) = 2 * (js.length : Int)
  · have h2' : ((l.length : Int) == 2 * (js.length : Int)) = true := by simpa using h2
    have : pb (LoadGood js.length l) = !decide (0 ≤ ix (fun x => !inB x (-100) 100) l) := by
      refine (pb_eq ?_).symm
      rw [Bool.not_eq_true', decide_eq_false_iff_not, Int.not_le, ix_lt]
      exact ⟨fun hq => ⟨by omega, fun m hm => by simpa using hq m hm⟩, fun hq m hm => by simp [hq.2 m hm]⟩
    rw [this]
    simp only [go_sem, hr, e1, h1, h2']
  · have h2' : ((l.length : Int) == 2 * (js.length : Int)) = false := by simpa using h2
    rw [pb_false (fun hn => h2 (by have := hn.1; omega))]
    simp only [go_sem, hr, e1, h2']
theorem ifitsLimits (row : List V) (off : Nat) (ms : List Member) (l : List Int) (hr : row[off + 1]? = some (LL cMember ms)) (hl : l.length ≤ maxLen) : fn Try.prog conv ext 81 [.tp row off, LI l] = some (Bo (pb (LimGood ms.length l))) := by
  have h1 := hasInt l 124 (fun x => !inB x 0 1000) hl (by rfl) (fun x _ => closefitsLimits x)
  rw [fn_eq, ev_eqQ (rs := [.tmp 4]) [] rfl Try.func81 rfl rfl (by kernel_rfl) (by kernel_rfl)]
  by_cases h2 : (l.length : Int) = (ms.length : Int)
  · have h2' : ((l.length : Int) == (ms.length : Int)) = true := by simpa using h2
    have : pb (LimGood ms.length l) = !decide (0 ≤ ix (fun x => !inB x 0 1000) l) := by
      refine (pb_eq ?_).symm
      rw [Bool.not_eq_true', decide_eq_false_iff_not, Int.not_le, ix_lt]
      exact ⟨fun hq => ⟨by omega, fun m hm => by simpa using hq m hm⟩, fun hq m hm => by simp [hq.2 m hm]⟩
    rw [this]
    simp only [go_sem, hr, h1, h2']
  · have h2' : ((l.length : Int) == (ms.length : Int)) = false := by simpa using h2
    rw [pb_false (fun hn => h2 (by have := hn.1; omega))]
    simp only [go_sem, hr, h2']
theorem iLoadOk (s : Structure) (l : List Int) (h : okStructure s) (hl : l.length ≤ maxLen) : fn Try.prog conv ext 80 [.agg (cStructure s), LI l] = some (Bo (pb (StrOk s) && pb (LoadGood s.joints.length l))) := by
  have h1 := iStructureOk s h
  have h2 := ifitsLoad (cStructure s) 0 s.joints l rfl (by have := h.1.2.1; omega) hl
  rw [fn_eq, ev_eqQ (rs := [.tmp 4]) [] rfl Try.func80 rfl rfl (by kernel_rfl) (by kernel_rfl)]
  generalize pb (StrOk s) = b at *
  cases b <;> simp only [go_sem, h1, h2]
theorem sLoadOk (s : Structure) (l : List Int) (h : okStructure s) (hl : l.length ≤ maxLen) : fn Try.prog conv ext 75 [.agg (cStructure s), LI l] = some (Bo (pb (StrOk s) && pb (LoadGood s.joints.length l))) := by
  have h1 := sStructureOk s h
  have e2 : (l.length : Int) ≤ 9223372036854775807 := by unfold maxLen at hl; omega
  have e1 := wrap_id (n := 2 * (s.joints.length : Int)) (by have := h.1.2.1; have := h.2.2.1; omega) (by have := h.1.2.1; have := h.2.2.1; omega)
  rw [fn_eq, ev_eqQ (rs := [.tmp 4]) [] rfl Try.func75 rfl rfl (by kernel_rfl) (by kernel_rfl)]
  generalize pb (StrOk s) = b at *
  cases b with
  | false => simp only [go_sem, h1]
  | true =>
  by_cases h2 : (l.length : Int) = 2 * (s.joints.length : Int)
  · have h2' : ((l.length : Int) != 2 * (s.joints.length : Int)) = false := by simpa using h2
    simp only [go_sem, h1, e1, h2']
    generalize hL : evLoopI _ _ = y
    obtain ⟨r, rfl, hr⟩ := count_rule hL l.length (fun k st => st.T 19 = LI l ∧ st.T 20 = I l.length ∧ st.T 21 = I k ∧ ∀ i (h : i < l.length), i < k → inB l[i] (-100) 100 = true)
      (fun r => (∃ T σ nx, r = (.exit 0, ⟨T, σ, nx⟩) ∧ LoadGood s.joints.length l) ∨ (∃ T σ nx, r = (.ret, ⟨T, σ, nx⟩) ∧ T 4 = Bo false ∧ ¬LoadGood s.joints.length l)) (by
        clear hL
        rintro k ⟨T, σ, nx⟩ hlt ⟨h19, h20, h21, hi⟩
        simp only at h19 h20 h21
        have f1 : (k : Int) < (l.length : Int) := by omega
        have f2 : (0 : Int) ≤ (k : Int) := by omega
        have f3 := wrap_id (n := (k : Int) + 1) (by omega) (by omega)
        have f4 : (l.flatMap cI)[k]? = some (I l[k]) := slot1 I l k hlt
        have f9 := slot_ne (c := cI) (s := 1) (fun _ => rfl) (by omega) l k hlt
        have t1 := l01In l[k] (-100) 100
        cases hb : inB l[k] (-100) 100 with
        | true =>
          rw [hb] at t1
          refine .inl ⟨_, by simp only [go_sem, h19, h20, h21, f1, f2, f3, f4, f9, t1]; rfl, ?_⟩
          simp only [go_sem, h19, h20]
          refine ⟨rfl, fun i hi' hik => ?_⟩
          rcases Nat.lt_or_eq_of_le (Nat.le_of_lt_succ hik) with q | q
          · exact hi i hi' q
          · subst q; exact hb
        | false =>
          rw [hb] at t1
          refine .inr ⟨_, by simp only [go_sem, h19, h20, h21, f1, f2, f4, f9, t1]; rfl, by simp, .inr ⟨_, _, _, rfl, by simp only [go_sem], fun hn => ?_⟩⟩
          have := hn.2 _ (List.getElem_mem hlt)
          rw [hb] at this; cases this) (by
        clear hL
        rintro ⟨T, σ, nx⟩ ⟨h19, h20, h21, hi⟩
        simp only at h19 h20 h21
        exact ⟨_, by simp only [go_sem, h20, h21, Int.lt_irrefl]; rfl, by simp, .inl ⟨_, _, _, rfl, by omega, fun x hx => by obtain ⟨i, hi', rfl⟩ := List.getElem_of_mem hx; exact hi i hi' hi'⟩⟩) (by
        simp only [go_sem]
        exact fun i _ h => absurd h (Nat.not_lt_zero _))
    rcases hr with ⟨T, σ, nx, rfl, hm⟩ | ⟨T, σ, nx, rfl, h2, hn⟩
    · simp only [go_sem, pb_true hm]
    · simp only [go_sem, h2, pb_false hn]
  · have h2' : ((l.length : Int) != 2 * (s.joints.length : Int)) = true := by simpa using h2
    rw [pb_false (p := LoadGood s.joints.length l) (fun hn => h2 (by have := hn.1; omega))]
    simp only [go_sem, h1, e1, h2']
theorem sLimitsOk (s : Structure) (l : List Int) (h : okStructure s) (hl : l.length ≤ maxLen) : fn Try.prog conv ext 76 [.agg (cStructure s), LI l] = some (Bo (pb (StrOk s) && pb (LimGood s.members.length l))) := by
  have h1 := sStructureOk s h
  have e2 : (l.length : Int) ≤ 9223372036854775807 := by unfold maxLen at hl; omega
  have e1 := wrap_id (n := (s.members.length : Int)) (by have := h.1.2.1; have := h.2.2.1; omega) (by have := h.1.2.1; have := h.2.2.1; omega)
  rw [fn_eq, ev_eqQ (rs := [.tmp 4]) [] rfl Try.func76 rfl rfl (by kernel_rfl) (by kernel_rfl)]
  generalize pb (StrOk s) = b at *
  cases b with
  | false => simp only [go_sem, h1]
  | true =>
  by_cases h2 : (l.length : Int) = (s.members.length : Int)
  · have h2' : ((l.length : Int) != (s.members.length : Int)) = false := by simpa using h2
    simp only [go_sem, h1, e1, h2']
    generalize hL : evLoopI _ _ = y
    obtain ⟨r, rfl, hr⟩ := count_rule hL l.length (fun k st => st.T 18 = LI l ∧ st.T 19 = I l.length ∧ st.T 20 = I k ∧ ∀ i (h : i < l.length), i < k → inB l[i] 0 1000 = true)
      (fun r => (∃ T σ nx, r = (.exit 0, ⟨T, σ, nx⟩) ∧ LimGood s.members.length l) ∨ (∃ T σ nx, r = (.ret, ⟨T, σ, nx⟩) ∧ T 4 = Bo false ∧ ¬LimGood s.members.length l)) (by
        clear hL
        rintro k ⟨T, σ, nx⟩ hlt ⟨h19, h20, h21, hi⟩
        simp only at h19 h20 h21
        have f1 : (k : Int) < (l.length : Int) := by omega
        have f2 : (0 : Int) ≤ (k : Int) := by omega
        have f3 := wrap_id (n := (k : Int) + 1) (by omega) (by omega)
        have f4 : (l.flatMap cI)[k]? = some (I l[k]) := slot1 I l k hlt
        have f9 := slot_ne (c := cI) (s := 1) (fun _ => rfl) (by omega) l k hlt
        have t1 := l01In l[k] 0 1000
        cases hb : inB l[k] 0 1000 with
        | true =>
          rw [hb] at t1
          refine .inl ⟨_, by simp only [go_sem, h19, h20, h21, f1, f2, f3, f4, f9, t1]; rfl, ?_⟩
          simp only [go_sem, h19, h20]
          refine ⟨rfl, fun i hi' hik => ?_⟩
          rcases Nat.lt_or_eq_of_le (Nat.le_of_lt_succ hik) with q | q
          · exact hi i hi' q
          · subst q; exact hb
        | false =>
          rw [hb] at t1
          refine .inr ⟨_, by simp only [go_sem, h19, h20, h21, f1, f2, f4, f9, t1]; rfl, by simp, .inr ⟨_, _, _, rfl, by simp only [go_sem], fun hn => ?_⟩⟩
          have := hn.2 _ (List.getElem_mem hlt)
          rw [hb] at this; cases this) (by
        clear hL
        rintro ⟨T, σ, nx⟩ ⟨h19, h20, h21, hi⟩
        simp only at h19 h20 h21
        exact ⟨_, by simp only [go_sem, h20, h21, Int.lt_irrefl]; rfl, by simp, .inl ⟨_, _, _, rfl, by omega, fun x hx => by obtain ⟨i, hi', rfl⟩ := List.getElem_of_mem hx; exact hi i hi' hi'⟩⟩) (by
        simp only [go_sem]
        exact fun i _ h => absurd h (Nat.not_lt_zero _))
    rcases hr with ⟨T, σ, nx, rfl, hm⟩ | ⟨T, σ, nx, rfl, h2, hn⟩
    · simp only [go_sem, pb_true hm]
    · simp only [go_sem, h2, pb_false hn]
  · have h2' : ((l.length : Int) != (s.members.length : Int)) = true := by simpa using h2
    rw [pb_false (p := LimGood s.members.length l) (fun hn => h2 (by have := hn.1; omega))]
    simp only [go_sem, h1, e1, h2']
noncomputable def stanceB (t : Stance) : Bool := pb (NameOk t.name) && ((pb (StrOk t.st) && pb (LoadGood t.st.joints.length t.load)) && pb (LimGood t.st.members.length t.limits))
theorem iStanceOk (t : Stance) (h : okStance t) : fn Try.prog conv ext 28 [.agg (cStance t)] = some (Bo (stanceB t)) := by
  have h1 := iIsName t.name h.1
  have h2 := iLoadOk t.st t.load h.2.1 h.2.2.1.2.2
  have h3 := ifitsLimits (cStance t) 1 t.st.members t.limits rfl h.2.2.2.2.2
  unfold stanceB
  generalize pb (NameOk t.name) = b1 at *
  generalize (pb (StrOk t.st) && pb (LoadGood t.st.joints.length t.load)) = b2 at *
  rw [fn_eq, ev_eqQ (rs := [.tmp 2]) [] rfl Try.func28 rfl rfl (by kernel_rfl) (by kernel_rfl)]
  cases b1 <;> cases b2 <;> simp only [go_sem, h1, h2, h3]
theorem sStanceOk (t : Stance) (h : okStance t) : fn Try.prog conv ext 26 [.agg (cStance t)] = some (Bo (stanceB t)) := by
  have h1 := sIsName t.name h.1
  have h2 := sLoadOk t.st t.load h.2.1 h.2.2.1.2.2
  have h3 := sLimitsOk t.st t.limits h.2.1 h.2.2.2.2.2
  unfold stanceB
  generalize pb (NameOk t.name) = b1 at *
  generalize pb (StrOk t.st) = b2 at *
  generalize pb (LoadGood t.st.joints.length t.load) = b3 at *
  rw [fn_eq, ev_eqQ (rs := [.tmp 2]) [] rfl Try.func26 rfl rfl (by kernel_rfl) (by kernel_rfl)]
  cases b1 <;> cases b2 <;> cases b3 <;> simp only [go_sem, h1, h2, h3]
end Go.Proofs.Ytlacjcdhfoeekaa
