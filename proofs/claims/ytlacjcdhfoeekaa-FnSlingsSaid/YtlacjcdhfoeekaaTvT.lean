import Derived.Test.YtlacjcdhfoeekaaTvS
set_option linter.unusedSimpArgs false
set_option linter.unusedVariables false
namespace Go.Proofs.Ytlacjcdhfoeekaa
open Go Go.TV

/-! ### Joints and members -/
noncomputable def jointB (j : Joint) : Bool := pb (NameOk j.name) && (inB j.x (-50) 50 && inB j.y (-50) 50)
theorem sJointOk (j : Joint) (h : okJoint j) : fn Try.prog conv ext 151 [.agg (cJoint j)] = some (Bo (jointB j)) := by
  have t1 := sIsName j.name h.1
  have t2 := l01In j.x (-50) 50
  have t3 := l01In j.y (-50) 50
  unfold jointB
  generalize pb (NameOk j.name) = b1 at *
  generalize inB j.x (-50) 50 = b2 at *
  generalize inB j.y (-50) 50 = b3 at *
  rw [fn_eq, ev_eqQ (rs := [.tmp 2]) [] rfl Try.func151 rfl rfl (by kernel_rfl) (by kernel_rfl)]
  cases b1 <;> cases b2 <;> simp only [go_sem, t1, t2, t3]
theorem iJointOk (j : Joint) (h : okJoint j) : fn Try.prog conv ext 155 [.agg (cJoint j)] = some (Bo (jointB j)) := by
  have t1 := iIsName j.name h.1
  have t2 := isPlace j.x
  have t3 := isPlace j.y
  unfold jointB
  generalize pb (NameOk j.name) = b1 at *
  generalize inB j.x (-50) 50 = b2 at *
  generalize inB j.y (-50) 50 = b3 at *
  rw [fn_eq, ev_eqQ (rs := [.tmp 2]) [] rfl Try.func155 rfl rfl (by kernel_rfl) (by kernel_rfl)]
  cases b1 <;> cases b2 <;> simp only [go_sem, t1, t2, t3]

/-! ### By name -/
abbrev isNamed (name : ByteArray) (s : Stance) : Bool := s.name.toList == name.toList
abbrev isNamedJ (name : ByteArray) (s : Joint) : Bool := s.name.toList == name.toList
theorem closeStanceNamed (name : ByteArray) (s : Stance) : fn Try.prog conv ext 69 [.agg (cStance s), .tp [Sg name] 0] = some (Bo (isNamed name s)) := by
  rw [fn_eq, ev_eqQ (rs := [.tmp 3]) [] rfl Try.func69 rfl rfl (by kernel_rfl) (by kernel_rfl)]
  simp only [go_sem]
theorem iStanceNamed (y : Yard) (name : ByteArray) (h : y.stances.length ≤ maxLen) : fn Try.prog conv ext 23 [.agg (cYard y), Sg name] = some (I (ix (isNamed name) y.stances)) := by
  have h1 := indexStance y.stances (.tp [Sg name] 0) 69 (isNamed name) (.tp [Sg name] 0) h (by rfl) (by rfl) (fun x _ => closeStanceNamed name x)
  rw [fn_eq, ev_eqQ (rs := [.tmp 4]) [] rfl Try.func23 rfl rfl (by kernel_rfl) (by kernel_rfl)]
  simp only [go_sem, h1]
theorem sStanceNamed (y : Yard) (name : ByteArray) (h : y.stances.length ≤ maxLen) : fn Try.prog conv ext 21 [.agg (cYard y), Sg name] = some (I (ix (isNamed name) y.stances)) := by
  have e2 : (y.stances.length : Int) ≤ 9223372036854775807 := by unfold maxLen at h; omega
  rw [fn_eq, ev_eqQ (rs := [.tmp 4]) [] rfl Try.func21 rfl rfl (by kernel_rfl) (by kernel_rfl)]
  simp only [go_sem]
  generalize hL : evLoopI _ _ = z
  generalize hxs : y.stances = xs at *
  obtain ⟨r, rfl, hr⟩ := count_rule hL xs.length (fun k st => st.T 1 = Sg name ∧ st.T 8 = LL cStance xs ∧ st.T 9 = I xs.length ∧ st.T 10 = I k ∧ ∀ i (h : i < xs.length), i < k → isNamed name xs[i] = false)
    (fun r => (∃ st, r = (.exit 0, st) ∧ ix (isNamed name) xs = -1) ∨ (∃ st, r = (.ret, st) ∧ st.T 4 = I (ix (isNamed name) xs))) (by
      clear hL
      rintro k ⟨T, σ, nx⟩ hlt ⟨h1, h8, h9, h10, hi⟩
      simp only at h1 h8 h9 h10
      have f1 : (k : Int) < (xs.length : Int) := by omega
      have f2 : (0 : Int) ≤ (k : Int) := by omega
      have f3 := wrap_id (n := (k : Int) + 1) (by omega) (by omega)
      have f4 := slot (c := cStance) (s := 5) (fun _ => rfl) xs k hlt
      have f5 := slots_len (c := cStance) (s := 5) (fun _ => rfl) xs
      have f6 : k * 5 + 5 ≤ xs.length * 5 := by omega
      have f9 := slot_ne (c := cStance) (s := 5) (fun _ => rfl) (by omega) xs k hlt
      cases hp : isNamed name xs[k] with
      | true =>
        refine .inr ⟨_, by simp only [go_sem, h1, h8, h9, h10, f1, f2, f4, f5, f6, f9, hp]; rfl, by simp, .inr ⟨_, rfl, ?_⟩⟩
        simp only [go_sem]
        rw [ix_at hlt hi hp]
      | false =>
        refine .inl ⟨_, by simp only [go_sem, h1, h8, h9, h10, f1, f2, f3, f4, f5, f6, f9, hp]; rfl, ?_⟩
        simp only [go_sem, h1, h8, h9]
        exact ⟨rfl, ix_step hlt hi hp⟩) (by
      clear hL
      rintro ⟨T, σ, nx⟩ ⟨h1, h8, h9, h10, hi⟩
      simp only at h1 h8 h9 h10
      exact ⟨_, by simp only [go_sem, h9, h10, Int.lt_irrefl]; rfl, by simp, .inl ⟨_, rfl, ix_none fun i h => hi i h h⟩⟩) (by
      simp only [go_sem]
      exact fun i _ h => absurd h (Nat.not_lt_zero _))
  rcases hr with ⟨⟨T, σ, nx⟩, rfl, h1⟩ | ⟨⟨T, σ, nx⟩, rfl, h1⟩
  · simp only [go_sem, h1]
  · simp only at h1
    simp only [go_sem, h1]
theorem closeJointNamed (name : ByteArray) (s : Joint) : fn Try.prog conv ext 181 [.agg (cJoint s), .tp [Sg name] 0] = some (Bo (isNamedJ name s)) := by
  rw [fn_eq, ev_eqQ (rs := [.tmp 3]) [] rfl Try.func181 rfl rfl (by kernel_rfl) (by kernel_rfl)]
  simp only [go_sem]
theorem iJointNamed (y : Structure) (name : ByteArray) (h : y.joints.length ≤ maxLen) : fn Try.prog conv ext 156 [.agg (cStructure y), Sg name] = some (I (ix (isNamedJ name) y.joints)) := by
  have h1 := indexJoint y.joints (.tp [Sg name] 0) 181 (isNamedJ name) (.tp [Sg name] 0) h (by rfl) (by rfl) (fun x _ => closeJointNamed name x)
  rw [fn_eq, ev_eqQ (rs := [.tmp 4]) [] rfl Try.func156 rfl rfl (by kernel_rfl) (by kernel_rfl)]
  simp only [go_sem, h1]
theorem sJointNamed (y : Structure) (name : ByteArray) (h : y.joints.length ≤ maxLen) : fn Try.prog conv ext 152 [.agg (cStructure y), Sg name] = some (I (ix (isNamedJ name) y.joints)) := by
  have e2 : (y.joints.length : Int) ≤ 9223372036854775807 := by unfold maxLen at h; omega
  rw [fn_eq, ev_eqQ (rs := [.tmp 4]) [] rfl Try.func152 rfl rfl (by kernel_rfl) (by kernel_rfl)]
  simp only [go_sem]
  generalize hL : evLoopI _ _ = z
  generalize hxs : y.joints = xs at *
  obtain ⟨r, rfl, hr⟩ := count_rule hL xs.length (fun k st => st.T 1 = Sg name ∧ st.T 8 = LL cJoint xs ∧ st.T 9 = I xs.length ∧ st.T 10 = I k ∧ ∀ i (h : i < xs.length), i < k → isNamedJ name xs[i] = false)
    (fun r => (∃ st, r = (.exit 0, st) ∧ ix (isNamedJ name) xs = -1) ∨ (∃ st, r = (.ret, st) ∧ st.T 4 = I (ix (isNamedJ name) xs))) (by
      clear hL
      rintro k ⟨T, σ, nx⟩ hlt ⟨h1, h8, h9, h10, hi⟩
      simp only at h1 h8 h9 h10
      have f1 : (k : Int) < (xs.length : Int) := by omega
      have f2 : (0 : Int) ≤ (k : Int) := by omega
      have f3 := wrap_id (n := (k : Int) + 1) (by omega) (by omega)
      have f4 := slot (c := cJoint) (s := 4) (fun _ => rfl) xs k hlt
      have f5 := slots_len (c := cJoint) (s := 4) (fun _ => rfl) xs
      have f6 : k * 4 + 4 ≤ xs.length * 4 := by omega
      have f9 := slot_ne (c := cJoint) (s := 4) (fun _ => rfl) (by omega) xs k hlt
      cases hp : isNamedJ name xs[k] with
      | true =>
        refine .inr ⟨_, by simp only [go_sem, h1, h8, h9, h10, f1, f2, f4, f5, f6, f9, hp]; rfl, by simp, .inr ⟨_, rfl, ?_⟩⟩
        simp only [go_sem]
        rw [ix_at hlt hi hp]
      | false =>
        refine .inl ⟨_, by simp only [go_sem, h1, h8, h9, h10, f1, f2, f3, f4, f5, f6, f9, hp]; rfl, ?_⟩
        simp only [go_sem, h1, h8, h9]
        exact ⟨rfl, ix_step hlt hi hp⟩) (by
      clear hL
      rintro ⟨T, σ, nx⟩ ⟨h1, h8, h9, h10, hi⟩
      simp only at h1 h8 h9 h10
      exact ⟨_, by simp only [go_sem, h9, h10, Int.lt_irrefl]; rfl, by simp, .inl ⟨_, rfl, ix_none fun i h => hi i h h⟩⟩) (by
      simp only [go_sem]
      exact fun i _ h => absurd h (Nat.not_lt_zero _))
  rcases hr with ⟨⟨T, σ, nx⟩, rfl, h1⟩ | ⟨⟨T, σ, nx⟩, rfl, h1⟩
  · simp only [go_sem, h1]
  · simp only at h1
    simp only [go_sem, h1]

/-! ### A member -/
def pairB (a b : Joint) : Bool := (!(a.x == b.x) || !(a.y == b.y)) && !(a.fixed && b.fixed)
def MemRange (n : Nat) (m : Member) : Prop := 0 ≤ m.a ∧ m.a < n ∧ 0 ≤ m.b ∧ m.b < n ∧ 1 ≤ m.kind ∧ m.kind ≤ 3
noncomputable def memB (js : List Joint) (m : Member) : Bool := pb (MemRange js.length m ∧ ∀ a b, js[m.a.toNat]? = some a → js[m.b.toNat]? = some b → pairB a b = true)
theorem memB_no {js : List Joint} {m : Member} (h : ¬MemRange js.length m) : memB js m = false := pb_false fun hn => h hn.1
theorem memB_pair {js : List Joint} {m : Member} (h : MemRange js.length m) {a b : Joint} (ha : js[m.a.toNat]? = some a) (hb : js[m.b.toNat]? = some b) : memB js m = pairB a b := by
  refine (pb_eq ⟨fun hp => ⟨h, fun c d hc hd => ?_⟩, fun hn => hn.2 a b ha hb⟩).symm
  rw [ha] at hc; rw [hb] at hd; cases hc; cases hd; exact hp
theorem imemberOk (row : List V) (off : Nat) (js : List Joint) (m : Member) (hr : row[off]? = some (LL cJoint js)) (hl : js.length ≤ maxLen) : fn Try.prog conv ext 159 [.tp row off, .agg (cMember m)] = some (Bo (memB js m)) := by
  rw [fn_eq, ev_eqQ (rs := [.tmp 4]) [4] rfl Try.func159 rfl rfl (by kernel_rfl) (by kernel_rfl)]
  by_cases c1 : m.a < 0
  · rw [memB_no (fun h => by have := h.1; omega)]
    simp only [go_sem, hr, c1]
  by_cases c2 : (js.length : Int) ≤ m.a
  · rw [memB_no (fun h => by have := h.2.1; omega)]
    simp only [go_sem, hr, c1, c2]
  by_cases c3 : m.b < 0
  · rw [memB_no (fun h => by have := h.2.2.1; omega)]
    simp only [go_sem, hr, c1, c2, c3]
  by_cases c4 : (js.length : Int) ≤ m.b
  · rw [memB_no (fun h => by have := h.2.2.2.1; omega)]
    simp only [go_sem, hr, c1, c2, c3, c4]
  by_cases c5 : m.kind < 1
  · rw [memB_no (fun h => by have := h.2.2.2.2.1; omega)]
    simp only [go_sem, hr, c1, c2, c3, c4, c5]
  by_cases c6 : 3 < m.kind
  · rw [memB_no (fun h => by have := h.2.2.2.2.2; omega)]
    simp only [go_sem, hr, c1, c2, c3, c4, c5, c6]
  have a1 : 0 ≤ m.a := by omega
  have a2 : m.a < js.length := by omega
  have b1 : 0 ≤ m.b := by omega
  have b2 : m.b < js.length := by omega
  have a3 : m.a.toNat < js.length := by omega
  have b3 : m.b.toNat < js.length := by omega
  rw [memB_pair ⟨a1, a2, b1, b2, by omega, by omega⟩ (List.getElem?_eq_getElem a3) (List.getElem?_eq_getElem b3)]
  have f4 := slot (c := cJoint) (s := 4) (fun _ => rfl) js _ a3
  have g4 := slot (c := cJoint) (s := 4) (fun _ => rfl) js _ b3
  have f5 := slots_len (c := cJoint) (s := 4) (fun _ => rfl) js
  have f6 : m.a.toNat * 4 + 4 ≤ js.length * 4 := by omega
  have g6 : m.b.toNat * 4 + 4 ≤ js.length * 4 := by omega
  have f9 := slot_ne (c := cJoint) (s := 4) (fun _ => rfl) (by omega) js _ a3
  generalize js[m.a.toNat] = a at *
  generalize js[m.b.toNat] = b at *
  unfold pairB
  cases hx : (a.x == b.x) <;> cases hy : (a.y == b.y) <;> cases ha : a.fixed <;> cases hb : b.fixed <;>
    (simp only [go_sem, hr, c1, c2, c3, c4, c5, c6, a1, a2, b1, b2, f4, g4, f5, f6, g6, f9, hx, hy, ha, hb, bne]) <;> rfl

/-! ### A structure -/
def StrOk (s : Structure) : Prop := s.joints.length ≤ 6 ∧ s.members.length ≤ 8 ∧ (∀ i (h : i < s.joints.length), jointB s.joints[i] = true ∧ ix (isNamedJ s.joints[i].name) s.joints = i) ∧ ∀ m ∈ s.members, memB s.joints m = true
theorem closeStructureOk (s : Structure) (m : Member) (hl : s.joints.length ≤ maxLen) : fn Try.prog conv ext 158 [.agg (cMember m), .tp (cStructure s) 0] = some (Bo (!memB s.joints m)) := by
  have h1 := imemberOk (cStructure s) 0 s.joints m rfl hl
  rw [fn_eq, ev_eqQ (rs := [.tmp 3]) [] rfl Try.func158 rfl rfl (by kernel_rfl) (by kernel_rfl)]
  simp only [go_sem, h1]
theorem iStructureOk (s : Structure) (h : okStructure s) : fn Try.prog conv ext 121 [.agg (cStructure s)] = some (Bo (pb (StrOk s))) := by
  have e2 : (s.joints.length : Int) ≤ 9223372036854775807 := by have := h.1.2.1; omega
  have hm := hasMember s.members 158 (fun m => !memB s.joints m) (.tp (cStructure s) 0) h.2.2.2 (by rfl) (by rfl) (by rfl) (fun x _ => closeStructureOk s x h.1.2.2)
  rw [fn_eq, ev_eqQ (rs := [.tmp 2]) [] rfl Try.func121 rfl rfl (by kernel_rfl) (by kernel_rfl)]
  by_cases c1 : (6 : Int) < s.joints.length
  · rw [pb_false (fun hn => by have := hn.1; omega)]
    simp only [go_sem, c1]
  by_cases c2 : (8 : Int) < s.members.length
  · rw [pb_false (fun hn => by have := hn.2.1; omega)]
    simp only [go_sem, c1, c2]
  simp only [go_sem, c1, c2]
  generalize hL : evLoopI _ _ = y
  obtain ⟨r, rfl, hr⟩ := count_rule hL s.joints.length (fun k st => 0 < st.nx ∧ st.σ 0 = some ⟨cStructure s, 0, true⟩ ∧ st.T 1 = .rp 0 0 ∧ st.T 16 = LL cJoint s.joints ∧ st.T 17 = I s.joints.length ∧ st.T 18 = I k ∧ ∀ i (h : i < s.joints.length), i < k → jointB s.joints[i] = true ∧ ix (isNamedJ s.joints[i].name) s.joints = i)
    (fun r => (∃ T σ nx, r = (.exit 0, ⟨T, σ, nx⟩) ∧ σ 0 = some ⟨cStructure s, 0, true⟩ ∧ T 1 = .rp 0 0 ∧ ∀ i (h : i < s.joints.length), jointB s.joints[i] = true ∧ ix (isNamedJ s.joints[i].name) s.joints = i) ∨ (∃ T σ nx, r = (.ret, ⟨T, σ, nx⟩) ∧ T 2 = Bo false ∧ ¬StrOk s)) (by
      clear hL
      rintro k ⟨T, σ, nx⟩ hlt ⟨hn, hσ, h1, h16, h17, h18, hi⟩
      simp only at hn hσ h1 h16 h17 h18
      have f1 : (k : Int) < (s.joints.length : Int) := by omega
      have f2 : (0 : Int) ≤ (k : Int) := by omega
      have f3 := wrap_id (n := (k : Int) + 1) (by omega) (by omega)
      have f4 := slot (c := cJoint) (s := 4) (fun _ => rfl) s.joints k hlt
      have f5 := slots_len (c := cJoint) (s := 4) (fun _ => rfl) s.joints
      have f6 : k * 4 + 4 ≤ s.joints.length * 4 := by omega
      have f9 := slot_ne (c := cJoint) (s := 4) (fun _ => rfl) (by omega) s.joints k hlt
      have t1 := iJointOk s.joints[k] (h.1.1 _ (List.getElem_mem hlt))
      have t2 := iJointNamed s s.joints[k].name h.1.2.2
      have nz : ¬0 = nx := by omega
      cases hj : jointB s.joints[k] with
      | false =>
        rw [hj] at t1
        refine .inr ⟨_, by simp only [go_sem, h1, h16, h17, h18, f1, f2, f4, f5, f6, f9, t1, nz]; rfl, by simp, .inr ⟨_, _, _, rfl, ?_, fun hn => ?_⟩⟩
        · simp only [go_sem]
        · have := (hn.2.2.1 k hlt).1
          rw [hj] at this; cases this
      | true =>
        rw [hj] at t1
        by_cases hk : ix (isNamedJ s.joints[k].name) s.joints = k
        · rw [hk] at t2
          refine .inl ⟨_, by simp only [go_sem, h1, h16, h17, h18, hσ, f1, f2, f3, f4, f5, f6, f9, t1, t2, nz]; rfl, ?_⟩
          simp only [go_sem, h1, h16, h17, hσ, nz]
          refine ⟨by omega, rfl, fun i hi' hik => ?_⟩
          rcases Nat.lt_or_eq_of_le (Nat.le_of_lt_succ hik) with q | q
          · exact hi i hi' q
          · subst q; exact ⟨hj, hk⟩
        · have hk' : (ix (isNamedJ s.joints[k].name) s.joints != (k : Int)) = true := by simpa using hk
          refine .inr ⟨_, by simp only [go_sem, h1, h16, h17, h18, hσ, f1, f2, f4, f5, f6, f9, t1, t2, hk', nz]; rfl, by simp, .inr ⟨_, _, _, rfl, ?_, fun hn => hk (hn.2.2.1 k hlt).2⟩⟩
          simp only [go_sem]) (by
      clear hL
      rintro ⟨T, σ, nx⟩ ⟨hn, hσ, h1, h16, h17, h18, hi⟩
      simp only at hn hσ h1 h16 h17 h18
      exact ⟨_, by simp only [go_sem, h17, h18, Int.lt_irrefl]; rfl, by simp, .inl ⟨_, _, _, rfl, hσ, by simp only [go_sem, h1], fun i h => hi i h h⟩⟩) (by
      simp only [go_sem]
      exact fun i _ h => absurd h (Nat.not_lt_zero _))
  rcases hr with ⟨T, σ, nx, rfl, hσ, h1, hj⟩ | ⟨T, σ, nx, rfl, h2, hn⟩
  · have : pb (StrOk s) = !decide (0 ≤ ix (fun m => !memB s.joints m) s.members) := by
      refine (pb_eq ?_).symm
      rw [Bool.not_eq_true', decide_eq_false_iff_not, Int.not_le, ix_lt]
      exact ⟨fun hq => ⟨by omega, by omega, hj, fun m hm => by simpa using hq m hm⟩, fun hq m hm => by simp [hq.2.2.2 m hm]⟩
    rw [this]
    simp only [go_sem, hσ, h1, hm]
  · simp only [go_sem, h2, pb_false hn]
end Go.Proofs.Ytlacjcdhfoeekaa
