import Derived.Test.YtlacjcdhfoeekaaTvN
set_option linter.unusedSimpArgs false
set_option linter.unusedVariables false
namespace Go.Proofs.Ytlacjcdhfoeekaa
open Go Go.TV

theorem iSling (w half h : Int) : fn Try.prog conv ext 16 [I w, I half, I h] = some (.tup [.agg (slT w half h), Bo (inB w 0 1000 && (inB half 0 1000 && inB h 1 1000))]) := by
  have t1 := isLimit w
  have t2 := isWidth half
  have t3 := isHeight h
  unfold slT
  rw [fn_eq, ev_eqQ (rs := [.cell 6 30, .tmp 7]) [] rfl Try.func16 rfl rfl (by kernel_rfl) (by kernel_rfl)]
  cases hw : inB w 0 1000 with
  | false => rw [hw] at t1; simp only [go_sem, t1]
  | true =>
  cases hf : inB half 0 1000 with
  | false => rw [hw] at t1; rw [hf] at t2; simp only [go_sem, t1, t2]
  | true =>
  cases hh : inB h 1 1000 with
  | false => rw [hw] at t1; rw [hf] at t2; rw [hh] at t3; simp only [go_sem, t1, t2, t3]
  | true =>
  rw [hw] at t1; rw [hf] at t2; rw [hh] at t3
  have w1 := inB_true hw
  have f1 := inB_true hf
  have h1 := inB_true hh
  have w2 := sq_le w1.1 w1.2
  have f2 := sq_le f1.1 f1.2
  have h2 := sq_le (by omega : 0 ≤ h) h1.2
  have h2' : 0 < h * h := Int.mul_pos (by omega) (by omega)
  have p1 : 0 ≤ w * w * (half * half + h * h) := Int.mul_nonneg w2.1 (by omega)
  have p2 : w * w * (half * half + h * h) ≤ 1000000 * 2000000 := Int.mul_le_mul (by omega) (by omega) (by omega) (by omega)
  have e0 : 4 * h * h = 4 * (h * h) := Int.mul_assoc _ _ _
  have a1 := wrap_id (n := w * w) (by omega) (by omega)
  have a2 := wrap_id (n := half * half) (by omega) (by omega)
  have a3 := wrap_id (n := h * h) (by omega) (by omega)
  have a4 := wrap_id (n := half * half + h * h) (by omega) (by omega)
  have a5 := wrap_id (n := w * w * (half * half + h * h)) (by omega) (by omega)
  have b1 := wrap_id (n := 4 * h) (by omega) (by omega)
  have b2 := wrap_id (n := 4 * h * h) (by omega) (by omega)
  have k1 := iRatOf (w * w * (half * half + h * h)).toNat (4 * h * h).toNat (by omega) (by omega) (by omega)
  rw [Int.toNat_of_nonneg p1, Int.toNat_of_nonneg (by omega)] at k1
  unfold ratD at *
  simp only [go_sem, t1, t2, t3, a1, a2, a3, a4, a5, b1, b2, k1]

/-! ### Fractions held against each other -/
theorem iRatOk (b : Bool) (p q : Nat) (hp : p < 1000000000000000000) (hq : q < 1000000000) (h0 : q ≠ 0) (hg : Nat.gcd p q = 1) (hb : b = true → p ≠ 0) : fn Try.prog conv ext 106 [.agg [Bo b, LI (dg p), LI (dg q)]] = some (Bo true) := by
  have lm := dg_few 2 p (by omega)
  have ln := dg_few 2 q (by omega)
  have k1 := iBigIntOk b (dg p) (by unfold Short; omega)
  have hbb : (b && decide (dg p = [])) = false := by
    cases b with
    | false => rfl
    | true => rw [decide_eq_false (dg_ne (hb rfl))]; rfl
  rw [pb_true (natGood_dg (by omega)), hbb] at k1
  have k2 := iNatOk (dg q) (by unfold Short; omega)
  rw [pb_true (natGood_dg (by omega))] at k2
  have k3 := idivisor p q hp hq
  rw [hg, dg_one (d := 1) (by decide) (by decide)] at k3
  have k4 : fn Try.prog conv ext 146 [.ts [I 1] 1, .ts [I 1] 1] = some (I 0) := by
    have := icmp1 1 (by decide)
    rw [dg_one (d := 1) (by decide) (by decide)] at this
    exact this
  have k3' : fn Try.prog conv ext 147 [LI (dg p), LI (dg q)] = some (.ts [I 1] 1) := k3
  have c0 : (((dg q).length : Int) == 0) = false := by rw [beq_eq_false_iff_ne]; have := app_len (dg_ne h0); omega
  have c1 : ¬(24 : Int) < ((dg p).length : Int) := by omega
  have c2 : ¬(24 : Int) < ((dg q).length : Int) := by omega
  rw [fn_eq, ev_eqQ (rs := [.tmp 2]) [] rfl Try.func106 rfl rfl (by kernel_rfl) (by kernel_rfl)]
  simp only [go_sem] at k1
  simp only [go_sem, k1, k2, k3', k4, c0, c1, c2]
theorem iload (b : Bool) (p q : Nat) (hp : p < 1000000000000000000) (hq : q < 1000000000) (h0 : q ≠ 0) (hg : Nat.gcd p q = 1) (hb : b = true → p ≠ 0) : fn Try.prog conv ext 60 [.agg [Bo b, LI (dg p), LI (dg q)]] = some (.tp [Bo b, LI (dg p), LI (dg q)] 0) := by
  have k1 := iRatOk b p q hp hq h0 hg hb
  rw [fn_eq, ev_eqQ (rs := [.tmp 2]) [] rfl Try.func60 rfl rfl (by kernel_rfl) (by kernel_rfl)]
  simp only [go_sem, k1]
theorem iBigCmp (p q : Nat) (hp : p ≤ 9223372036854775807) (hq : q ≤ 9223372036854775807) : fn Try.prog conv ext 108 [.agg [Bo false, LI (dg p)], .agg [Bo false, LI (dg q)]] = some (I (cmpN p q)) := by
  have k := icompare p q hp hq
  rw [fn_eq, ev_eqQ (rs := [.tmp 4]) [] rfl Try.func108 rfl rfl (by kernel_rfl) (by kernel_rfl)]
  simp only [go_sem, k]
theorem iwhole (n : Nat) (hn : n ≤ 9223372036854775807) : fn Try.prog conv ext 63 [I n] = some (.tp [Bo false, LI (dg n), LI (dg 1)] 0) := by
  have k := iinteger n hn
  rw [Bool.false_and] at k
  rw [dg_one (d := 1) (by decide) (by decide)]
  rw [fn_eq, ev_eqQ (rs := [.tmp 2]) [] rfl Try.func63 rfl rfl (by kernel_rfl) (by kernel_rfl)]
  (simp only [go_sem, k]) <;> rfl
theorem iFromInt (n : Nat) (hn : n ≤ 9223372036854775807) : fn Try.prog conv ext 19 [I n] = some (.agg [Bo false, LI (dg n), LI (dg 1)]) := by
  have k := iwhole n hn
  have l := dg_three hn
  have k2 := istore false (dg n) (dg 1) (by omega) (by rw [dg_one (d := 1) (by decide) (by decide)]; decide)
  rw [fn_eq, ev_eqQ (rs := [.cell 2 30]) [] rfl Try.func19 rfl rfl (by kernel_rfl) (by kernel_rfl)]
  simp only [go_sem, k, k2]
theorem iSteep (half h : Int) (h1 : inB half 0 1000 = true) (h2 : inB h 1 1000 = true) : fn Try.prog conv ext 18 [I half, I h, I half, I h] = some (Bo true) := by
  have k1 := isWidth half
  have k2 := isHeight h
  rw [h1] at k1
  rw [h2] at k2
  rw [fn_eq, ev_eqQ (rs := [.tmp 8]) [] rfl Try.func18 rfl rfl (by kernel_rfl) (by kernel_rfl)]
  simp only [go_sem, k1, k2]
end Go.Proofs.Ytlacjcdhfoeekaa
