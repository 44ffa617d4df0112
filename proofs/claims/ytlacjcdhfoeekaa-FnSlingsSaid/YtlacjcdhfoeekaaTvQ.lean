import Derived.Test.YtlacjcdhfoeekaaTvP
set_option linter.unusedSimpArgs false
set_option linter.unusedVariables false
namespace Go.Proofs.Ytlacjcdhfoeekaa
open Go Go.TV

/-! ### Draws from a code -/
abbrev cB (n : Int) : List V := [.sc (.int .u8 n)]
theorem u8t : Try.prog.underlying 5 = some (.int .u8) := Try.underlying5
theorem cvt8 (k : IntKind) (n : Int) (σ : Store) : evConvert Try.prog 5 3 (.sc (.int k n)) σ = some (.sc (.int .i64 (IntKind.i64.wrap n))) := ev_cvt u8t u3
attribute [go_sem] cvt8
def Cur (xs : List Int) (i h : Int) (st : Nat) : Blk := ⟨[LL cB xs, I i, I h], st, true⟩
theorem sByte (xs : List Int) (hx : ∀ x ∈ xs, 0 ≤ x ∧ x ≤ 255) (hl : xs.length ≤ 1048576) (i h : Int) (hi : 0 ≤ i ∧ i ≤ xs.length) (b st nx : Nat) (σ : Store) (hσ : σ b = some (Cur xs i h st)) (hb : b < nx) :
    ∃ r i' h', ev Try.prog conv ext 57 [.rp b 0] σ nx = some (I r, upd σ b (some (Cur xs i' h' st)), nx) ∧ (0 ≤ r ∧ r ≤ 255) ∧ 0 ≤ i' ∧ i' ≤ xs.length := by
  unfold Cur at hσ
  have z1 : ¬(33 : Int) < 0 := by decide
  have z2 : ¬(45 : Int) < 0 := by decide
  rw [ev_eqQ (rs := [.tmp 2]) [] rfl Try.func57 rfl rfl (by kernel_rfl) (by kernel_rfl)]
  by_cases hlt : i < xs.length
  · obtain ⟨k, rfl⟩ : ∃ k : Nat, i = k := ⟨i.toNat, by omega⟩
    have hk : k < xs.length := by omega
    have f0 : (0 : Int) ≤ (k : Int) := by omega
    have f5 := slot_ne (c := cB) (s := 1) (fun _ => rfl) (by omega) xs k hk
    have f6 : (xs.flatMap cB)[k]? = some (.sc (.int .u8 xs[k])) := slot1 (fun n : Int => .sc (.int .u8 n)) xs k hk
    have hxk := hx xs[k] (List.getElem_mem hk)
    have w1 := wrap_id (n := xs[k]) (by omega) (by omega)
    have w2 := wrap_id (n := (k : Int) + 1) (by omega) (by omega)
    have w3 := fun a : Int => wrap_id (n := b255 a + xs[k]) (by have := b255_range a; omega) (by have := b255_range a; omega)
    exact ⟨_, (k : Int) + 1, _, by simp only [go_sem, hσ, hb, z1, z2, hlt, f0, f5, f6, w1, w2, w3]; rfl, b255_range _, by omega, by omega⟩
  · exact ⟨_, i, _, by simp only [go_sem, hσ, hb, z1, z2, hlt]; rfl, b255_range _, hi.1, hi.2⟩
theorem sNew (xs : List Int) (hx : ∀ x ∈ xs, 0 ≤ x ∧ x ≤ 255) (hl : xs.length ≤ 1048576) (nx : Nat) (σ : Store) :
    ∃ h, ev Try.prog conv ext 84 [LL cB xs] σ nx = some (.rp nx 0, upd σ nx (some (Cur xs 0 h 0)), nx + 1) := by
  have w0 := wrap_id (n := 1975 + (xs.length : Int)) (by omega) (by omega)
  rw [ev_eqQ (rs := [.tmp 2]) [] rfl Try.func84 rfl rfl (by kernel_rfl) (by kernel_rfl)]
  simp only [go_sem, w0]
  generalize hL : evLoopI _ _ = y
  obtain ⟨r, rfl, T', g, rfl, h0, h3⟩ := count_rule hL xs.length (fun k st => st.nx = nx ∧ st.σ = σ ∧ st.T 0 = LL cB xs ∧ (∃ g, st.T 3 = I g) ∧ st.T 4 = I k)
    (fun r => ∃ T g, r = (.exit 0, ⟨T, σ, nx⟩) ∧ T 0 = LL cB xs ∧ T 3 = I g) (by
      clear hL
      rintro k ⟨T, σ, nx⟩ hlt ⟨hn, hσ, h0, ⟨g, h3⟩, h4⟩
      simp only at hn hσ h0 h3 h4
      subst hn hσ
      have f1 : (k : Int) < (xs.length : Int) := by omega
      have f2 : (0 : Int) ≤ (k : Int) := by omega
      have f3 := wrap_id (n := (k : Int) + 1) (by omega) (by omega)
      have f5 := slot_ne (c := cB) (s := 1) (fun _ => rfl) (by omega) xs k hlt
      have f6 : (xs.flatMap cB)[k]? = some (.sc (.int .u8 xs[k])) := slot1 (fun n : Int => .sc (.int .u8 n)) xs k hlt
      have hxk := hx xs[k] (List.getElem_mem hlt)
      have w1 := wrap_id (n := xs[k]) (by omega) (by omega)
      by_cases h4000 : (k : Int) < 4000
      · refine .inl ⟨_, by simp only [go_sem, h0, h3, h4, f1, f2, f3, f5, f6, w1, h4000]; rfl, ?_⟩
        simp only [go_sem, h0]
        exact ⟨⟨_, rfl⟩, rfl⟩
      · refine .inr ⟨_, by simp only [go_sem, h0, h4, f1, h4000]; rfl, by simp, _, g, rfl, ?_, ?_⟩ <;> simp only [go_sem, h0, h3]) (by
      clear hL
      rintro ⟨T, σ, nx⟩ ⟨hn, hσ, h0, ⟨g, h3⟩, h4⟩
      simp only at hn hσ h0 h3 h4
      subst hn hσ
      refine ⟨_, by simp only [go_sem, h0, h4, Int.lt_irrefl]; rfl, by simp, _, g, rfl, ?_, ?_⟩ <;> simp only [go_sem, h0, h3]) (by
      simp only [go_sem]
      exact ⟨_, rfl⟩)
  refine ⟨g, ?_⟩
  unfold Cur
  simp only [go_sem, h0, h3]
theorem sNewN (xs : List Int) (hx : ∀ x ∈ xs, 0 ≤ x ∧ x ≤ 255) (hl : xs.length ≤ 1048576) (n : Nat) (hn : n ≤ 1000000) (nx : Nat) (σ : Store) :
    ∃ i h, ev Try.prog conv ext 56 [LL cB xs, I n] σ nx = some (.rp nx 0, upd σ nx (some (Cur xs i h 0)), nx + 1) ∧ 0 ≤ i ∧ i ≤ xs.length := by
  obtain ⟨h, k1⟩ := sNew xs hx hl nx σ
  rw [ev_eqQ (rs := [.tmp 4]) [] rfl Try.func56 rfl rfl (by kernel_rfl) (by kernel_rfl)]
  simp only [go_sem, call_inl, k1]
  generalize hL : evLoopI _ _ = y
  obtain ⟨r, rfl, T', i, h', rfl, h5, hi⟩ := count_rule hL n (fun k st => st.nx = nx + 1 ∧ st.T 1 = I n ∧ st.T 5 = .rp nx 0 ∧ st.T 6 = I k ∧ ∃ i h, st.σ = upd σ nx (some (Cur xs i h 0)) ∧ 0 ≤ i ∧ i ≤ xs.length)
    (fun r => ∃ T i h, r = (.exit 0, ⟨T, upd σ nx (some (Cur xs i h 0)), nx + 1⟩) ∧ T 5 = .rp nx 0 ∧ 0 ≤ i ∧ i ≤ xs.length) (by
      clear hL
      rintro k ⟨T, σ', nx'⟩ hlt ⟨hn', h1, h5, h6, i, h, hσ, hi⟩
      simp only at hn' h1 h5 h6 hσ
      subst hn' hσ
      have f1 : (k : Int) < (n : Int) := by omega
      have f3 := wrap_id (n := (k : Int) + 1) (by omega) (by omega)
      obtain ⟨r, i', h', k2, _, hi'⟩ := sByte xs hx hl i h hi nx 0 (nx + 1) (upd σ nx (some (Cur xs i h 0))) (by simp [upd]) (by omega)
      rw [upd_upd] at k2
      refine .inl ⟨_, by simp only [go_sem, call_inl, h1, h5, h6, f1, f3, k2]; rfl, ?_⟩
      simp only [go_sem, h1, h5]
      exact ⟨rfl, i', h', rfl, hi'⟩) (by
      clear hL
      rintro ⟨T, σ', nx'⟩ ⟨hn', h1, h5, h6, i, h, hσ, hi⟩
      simp only at hn' h1 h5 h6 hσ
      subst hn' hσ
      exact ⟨_, by simp only [go_sem, h1, h6, Int.lt_irrefl]; rfl, by simp, _, i, h, rfl, by simp only [go_sem, h5], hi⟩) (by
      simp only [go_sem]
      exact ⟨0, h, rfl, by omega, by omega⟩)
  refine ⟨i, h', ?_, hi⟩
  simp only [go_sem, h5]
theorem sMakeNum (xs : List Int) (hx : ∀ x ∈ xs, 0 ≤ x ∧ x ≤ 255) (hl : xs.length ≤ 1048576) (n : Nat) (hn : n ≤ 1000000) :
    ∃ r, fn Try.prog conv ext 15 [LL cB xs, I n] = some (I r) ∧ 0 ≤ r ∧ r ≤ 65535 := by
  obtain ⟨i, h, k1, hi⟩ := sNewN xs hx hl n hn 0 noStore
  obtain ⟨r1, i1, h1, k2, hr1, hi1⟩ := sByte xs hx hl i h hi 0 0 1 (upd noStore 0 (some (Cur xs i h 0))) (by simp [upd]) (by omega)
  rw [upd_upd] at k2
  obtain ⟨r2, i2, h2, k3, hr2, hi2⟩ := sByte xs hx hl i1 h1 hi1 0 0 1 (upd noStore 0 (some (Cur xs i1 h1 0))) (by simp [upd]) (by omega)
  rw [upd_upd] at k3
  have w1 := wrap_id (n := r1 * 256) (by omega) (by omega)
  have w2 := wrap_id (n := r1 * 256 + r2) (by omega) (by omega)
  refine ⟨r1 * 256 + r2, ?_, by omega, by omega⟩
  rw [fn_eq, ev_eqQ (rs := [.tmp 4]) [] rfl Try.func15 rfl rfl (by kernel_rfl) (by kernel_rfl)]
  simp only [go_sem, call_inl, k1, k2, k3, w1, w2]
end Go.Proofs.Ytlacjcdhfoeekaa
