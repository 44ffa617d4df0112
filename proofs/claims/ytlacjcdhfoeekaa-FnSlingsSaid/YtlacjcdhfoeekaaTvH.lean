import Derived.Test.YtlacjcdhfoeekaaTvF
set_option linter.unusedSimpArgs false
set_option linter.unusedVariables false
namespace Go.Proofs.Ytlacjcdhfoeekaa
open Go Go.TV

theorem isigned (neg : Bool) (a : List Int) : fn Try.prog conv ext 144 [Bo neg, LI a] = some (.agg [Bo (neg && decide (0 < a.length)), LI a]) := by
  rw [fn_eq, ev_eqQ (rs := [.cell 4 28]) [] rfl Try.func144 rfl rfl (by kernel_rfl) (by kernel_rfl)]
  by_cases h : 0 < a.length
  · have h' : (0 : Int) < (a.length : Int) := by omega
    cases neg <;> simp only [go_sem, h, h']
  · have h' : ¬(0 : Int) < (a.length : Int) := by omega
    cases neg <;> simp only [go_sem, h, h']
theorem u3 : Try.prog.underlying 3 = some (.int .i64) := Try.underlying3
theorem u64t : Try.prog.underlying 166 = some (.int .u64) := Try.underlying166
theorem cvtU (k : IntKind) (n : Int) (σ : Store) : evConvert Try.prog 3 166 (.sc (.int k n)) σ = some (.sc (.int .u64 (IntKind.u64.wrap n))) := ev_cvt u3 u64t
theorem cvtI (k : IntKind) (n : Int) (σ : Store) : evConvert Try.prog 166 3 (.sc (.int k n)) σ = some (.sc (.int .i64 (IntKind.i64.wrap n))) := ev_cvt u64t u3
attribute [go_sem] cvtU cvtI
theorem ilimbs (n : Nat) (hn : n ≤ 9223372036854775807) : fn Try.prog conv ext 149 [.sc (.int .u64 n)] = some (LI (dg n)) := by
  rw [fn_eq, ev_eqQ (rs := [.tmp 2]) [] rfl Try.func149 rfl rfl (by kernel_rfl) (by kernel_rfl)]
  simp only [go_sem]
  generalize hL : evLoopI _ _ = y
  obtain ⟨r, rfl, T', σ', nx', rfl, hr⟩ := loop_rule hL (fun m st => st.T 0 = .sc (.int .u64 m) ∧ ∃ acc, Grow st.T st.σ st.nx 3 acc ∧ dg n = acc ++ dg m ∧ 1000000000 ^ acc.length * m ≤ n)
    (fun r => ∃ T σ nx, r = (.exit 0, ⟨T, σ, nx⟩) ∧ Grow T σ nx 3 (dg n)) (by
      clear hL
      rintro m ⟨T, σ, nx⟩ ⟨h0, acc, hacc, hd, hp⟩
      simp only at h0 hacc
      by_cases hm : m = 0
      · subst hm
        have f0 : ¬(0 : Int) < 0 := by omega
        refine .inr ⟨_, by simp only [go_sem, h0, f0]; rfl, by simp, _, _, _, rfl, ?_⟩
        rw [dg_zero, List.append_nil] at hd
        rw [hd]
        simpa only [Grow, go_sem] using hacc
      · have f0 : (0 : Int) < (m : Int) := by omega
        have hk := pow_few hp (by omega) hn
        have hmn : m ≤ n := Nat.le_trans (Nat.le_mul_of_pos_left _ (Nat.pow_pos (by decide))) hp
        have f1 : (m : Int).tmod 1000000000 = ((m % 1000000000 : Nat) : Int) := by rw [Int.tmod_eq_emod_of_nonneg (by omega)]; omega
        have f2 : IntKind.u64.wrap ((m : Int).tdiv 1000000000) = ((m / 1000000000 : Nat) : Int) := by
          rw [Int.tdiv_eq_ediv_of_nonneg (by omega)]
          rw [wrap_u64 (by omega) (by omega)]; omega
        have f3 := wrap_id (n := ((m % 1000000000 : Nat) : Int)) (by omega) (by omega)
        have hd' : dg n = (acc ++ [((m % 1000000000 : Nat) : Int)]) ++ dg (m / 1000000000) := by rw [hd, dg_pos hm]; simp
        have hp' : 1000000000 ^ (acc ++ [((m % 1000000000 : Nat) : Int)]).length * (m / 1000000000) ≤ n := by
          rw [List.length_append, List.length_singleton, Nat.pow_succ, Nat.mul_assoc]
          exact Nat.le_trans (Nat.mul_le_mul_left _ (Nat.mul_div_le _ _)) hp
        have hlt : m / 1000000000 < m := Nat.div_lt_self (by omega) (by decide)
        obtain ⟨σ', ha, hs⟩ := grow_append hacc ((m % 1000000000 : Nat) : Int) (by omega)
        refine .inl ⟨_, by simp only [go_sem, h0, f0, f1, f2, f3, ha]; rfl, _, hlt, ?_, _, ?_, hd', hp'⟩
        · simp only [go_sem]
        · exact grow_new hs (by simp [go_sem]) (by simp)) n ⟨by simp only [go_sem], [], .inl ⟨by simp only [go_sem], rfl⟩, rfl, by simp⟩
  obtain ⟨ids, h1⟩ := grow_strip hr 6
  simp only [go_sem, h1]
theorem iinteger (n : Nat) (hn : n ≤ 9223372036854775807) : fn Try.prog conv ext 111 [I n] = some (.agg [Bo (false && decide (0 < (dg n).length)), LI (dg n)]) := by
  have h1 := ilimbs n hn
  have h2 := isigned false (dg n)
  have h3 := wrap_u64 (n := n) (by omega) (by omega)
  have c1 : ¬(n : Int) < 0 := by omega
  rw [fn_eq, ev_eqQ (rs := [.cell 2 28]) [] rfl Try.func111 rfl rfl (by kernel_rfl) (by kernel_rfl)]
  simp only [go_sem, c1, h3, h1, h2]
theorem iBigIntOf (n : Nat) (hn : n ≤ 9223372036854775807) : fn Try.prog conv ext 105 [I n] = some (.agg [Bo false, LI (dg n)]) := by
  have h1 := iinteger n hn
  rw [Bool.false_and] at h1
  rw [fn_eq, ev_eqQ (rs := [.cell 2 28]) [] rfl Try.func105 rfl rfl (by kernel_rfl) (by kernel_rfl)]
  simp only [go_sem, h1]
theorem closeNatOk (x : Int) : fn Try.prog conv ext 177 [I x] = some (Bo (!inB x 0 999999999)) := by
  rw [fn_eq, ev_eqQ (rs := [.tmp 2]) [] rfl Try.func177 rfl rfl (by kernel_rfl) (by kernel_rfl)]
  by_cases h : x < 0
  · have : inB x 0 999999999 = false := by unfold inB; rw [decide_eq_false (by omega)]; rfl
    rw [this]
    simp only [go_sem, h]
  · have : inB x 0 999999999 = decide (x ≤ 999999999) := by unfold inB; rw [decide_eq_true (by omega), Bool.true_and]
    rw [this]
    by_cases h2 : 1000000000 ≤ x
    · rw [decide_eq_false (by omega)]
      simp only [go_sem, h, h2]
    · rw [decide_eq_true (by omega)]
      simp only [go_sem, h, h2]
theorem iNatOk (a : List Int) (ha : Short a) : fn Try.prog conv ext 145 [LI a] = some (Bo (pb (NatGood a))) := by
  unfold Short at ha
  have hc := hasInt a 177 (fun x => !inB x 0 999999999) (by unfold maxLen; omega) (by rfl) (fun x _ => closeNatOk x)
  rw [fn_eq, ev_eqQ (rs := [.tmp 2]) [] rfl Try.func145 rfl rfl (by kernel_rfl) (by kernel_rfl)]
  by_cases h1 : (60 : Int) < (a.length : Int)
  · rw [pb_false (fun hn : NatGood a => by have := hn.2.1; omega)]
    simp only [go_sem, h1]
  have hg : (trimL a = a) → pb (NatGood a) = !decide (0 ≤ ix (fun x => !inB x 0 999999999) a) := fun ht => by
    refine (pb_eq ?_).symm
    rw [Bool.not_eq_true', decide_eq_false_iff_not, Int.not_le, ix_lt]
    exact ⟨fun hq => ⟨fun x hx => by simpa using hq x hx, by omega, ht⟩, fun hq m hm => by simp [hq.1 m hm]⟩
  by_cases hz : a = []
  · have ht : trimL a = a := by rw [hz]; rfl
    rw [hg ht]
    subst hz
    have : ¬(0 : Int) < 0 := by decide
    have h60 : ¬(60 : Int) < 0 := by decide
    have hc' : fn Try.prog conv ext 123 [.ts [] 0, .clo 177 []] = some (Bo (decide (0 ≤ ix (fun x => !inB x 0 999999999) []))) := hc
    simp only [go_sem, this, h60, hc']
  · have hpos : 0 < a.length := List.length_pos_iff.mpr hz
    have c0 : (0 : Int) < (a.length : Int) := by omega
    have f1 := wrap_id (n := (a.length : Int) - 1) (by omega) (by omega)
    have f2 : (0 : Int) ≤ (a.length : Int) - 1 := by omega
    have f3 : (a.length : Int) - 1 < (a.length : Int) := by omega
    have f4 : ((a.length : Int) - 1).toNat = a.length - 1 := by omega
    have f5 := idx (xs := a) (k := a.length - 1) (by omega)
    have f9 := slot_ne (c := cI) (s := 1) (fun _ => rfl) (by omega) a 0 hpos
    by_cases hl : a[a.length - 1] = 0
    · have hl' : (a[a.length - 1] == (0 : Int)) = true := by simpa using hl
      rw [pb_false (fun hn : NatGood a => (trim_last hz).mp hn.2.2 hl)]
      simp only [go_sem, h1, c0, f1, f2, f3, f4, f5, f9, hl']
    · have hl' : (a[a.length - 1] == (0 : Int)) = false := by simpa using hl
      rw [hg ((trim_last hz).mpr hl)]
      simp only [go_sem, h1, c0, f1, f2, f3, f4, f5, f9, hl', hc]
end Go.Proofs.Ytlacjcdhfoeekaa
