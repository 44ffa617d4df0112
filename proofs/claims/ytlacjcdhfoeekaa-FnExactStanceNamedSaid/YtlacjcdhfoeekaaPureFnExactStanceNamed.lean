import Derived.Test.YtlacjcdhfoeekaaTvI
set_option linter.unusedSimpArgs false
set_option linter.unusedVariables false
namespace Go.Proofs.Ytlacjcdhfoeekaa
open Go Go.TV
abbrev isNamed (name : ByteArray) (s : Stance) : Bool := s.name.toList == name.toList
theorem closeStanceNamed (name : ByteArray) (s : Stance) : fn Try.prog conv ext 69 [.agg (cStance s), .tp [Sg name] 0] = some (Bo (isNamed name s)) := by
  rw [fn_eq, ev_eqQ (rs := [.tmp 3]) [] rfl Try.func69 rfl rfl (by kernel_rfl) (by kernel_rfl)]
  simp only [go_sem]
theorem iStanceNamed (y : Yard) (name : ByteArray) (h : y.stances.length ≤ maxLen) : fn Try.prog conv ext 23 [.agg (cYard y), Sg name] = some (I (ix (isNamed name) y.stances)) := by
  have h1 := indexStance y.stances (.tp [Sg name] 0) 69 (isNamed name) (.tp [Sg name] 0) h (by rfl) (by rfl) (fun x _ => closeStanceNamed name x)
  rw [fn_eq, ev_eqQ (rs := [.tmp 4]) [] rfl Try.func23 rfl rfl (by kernel_rfl) (by kernel_rfl)]
  simp only [go_sem, h1]
theorem sStanceNamed (y : Yard) (name : ByteArray) (h : y.stances.length ≤ maxLen) : fn Try.prog conv ext 21 [.agg (cYard y), Sg name] = some (I (ix (isNamed name) y.stances)) := by
  have e2 : (y.stances.length : Int) ≤ 9223372036854775807 := by unfold maxLen at h; omega
  rw [fn_eq, ev_eqQ (rs := [.tmp 4]) [] rfl Try.func21 rfl rfl (by kernel_rfl) (by kernel_rfl)]
  simp only [go_sem]
  generalize hL : evLoopI _ _ = z
  generalize hxs : y.stances = xs at *
  obtain ⟨r, rfl, hr⟩ := count_rule hL xs.length (fun k st => st.T 1 = Sg name ∧ st.T 8 = LL cStance xs ∧ st.T 9 = I xs.length ∧ st.T 10 = I k ∧ ∀ i (h : i < xs.length), i < k → isNamed name xs[i] = false)
    (fun r => (∃ st, r = (.exit 0, st) ∧ ix (isNamed name) xs = -1) ∨ (∃ st, r = (.ret, st) ∧ st.T 4 = I (ix (isNamed name) xs))) (by
      clear hL
      rintro k ⟨T, σ, nx⟩ hlt ⟨h1, h8, h9, h10, hi⟩
      simp only at h1 h8 h9 h10
      have f1 : (k : Int) < (xs.length : Int) := by omega
      have f2 : (0 : Int) ≤ (k : Int) := by omega
      have f3 := wrap_id (n := (k : Int) + 1) (by omega) (by omega)
      have f4 := slot (c := cStance) (s := 5) (fun _ => rfl) xs k hlt
      have f5 := slots_len (c := cStance) (s := 5) (fun _ => rfl) xs
      have f6 : k * 5 + 5 ≤ xs.length * 5 := by omega
      have f9 := slot_ne (c := cStance) (s := 5) (fun _ => rfl) (by omega) xs k hlt
      cases hp : isNamed name xs[k] with
      | true =>
        refine .inr ⟨_, by simp only [go_sem, h1, h8, h9, h10, f1, f2, f4, f5, f6, f9, hp]; rfl, by simp, .inr ⟨_, rfl, ?_⟩⟩
        simp only [go_sem]
        rw [ix_at hlt hi hp]
      | false =>
        refine .inl ⟨_, by simp only [go_sem, h1, h8, h9, h10, f1, f2, f3, f4, f5, f6, f9, hp]; rfl, ?_⟩
        simp only [go_sem, h1, h8, h9]
        exact ⟨rfl, ix_step hlt hi hp⟩) (by
      clear hL
      rintro ⟨T, σ, nx⟩ ⟨h1, h8, h9, h10, hi⟩
      simp only at h1 h8 h9 h10
      exact ⟨_, by simp only [go_sem, h9, h10, Int.lt_irrefl]; rfl, by simp, .inl ⟨_, rfl, ix_none fun i h => hi i h h⟩⟩) (by
      simp only [go_sem]
      exact fun i _ h => absurd h (Nat.not_lt_zero _))
  rcases hr with ⟨⟨T, σ, nx⟩, rfl, h1⟩ | ⟨⟨T, σ, nx⟩, rfl, h1⟩
  · simp only [go_sem, h1]
  · simp only at h1
    simp only [go_sem, h1]
namespace Pure
theorem FnExactStanceNamed (x0 : Yard) (h0 : okYard x0) (x1 : ByteArray) (h1 : okS x1) :
    fn Try.prog conv ext 5 [.agg (cYard x0), Sg x1] = some (Bo true) := by
  by_cases hs : (1048576 : Int) < (x1.size : Int)
  · rw [fn_eq, ev_eqQ (rs := [.tmp 4]) [] rfl Try.func5 rfl rfl (by kernel_rfl) (by kernel_rfl)]
    simp only [go_sem, hs]
  obtain ⟨r, r1, r2⟩ := szYard x0 1048576 h0 (by omega) (by omega)
  by_cases hr : r < 0
  · rw [fn_eq, ev_eqQ (rs := [.tmp 4]) [] rfl Try.func5 rfl rfl (by kernel_rfl) (by kernel_rfl)]
    simp only [go_sem, hs, r1, hr]
  have t1 := toYard x0 h0
  have t2 := eqYard x0 h0
  have t3 := iStanceNamed x0 x1 h0.1.2.2
  have t4 := sStanceNamed x0 x1 h0.1.2.2
  rw [fn_eq, ev_eqQ (rs := [.tmp 4]) [] rfl Try.func5 rfl rfl (by kernel_rfl) (by kernel_rfl)]
  simp only [go_sem, hs, r1, hr, t1, t2, t3, t4]
end Pure
end Go.Proofs.Ytlacjcdhfoeekaa
