import Derived.Test.YtlacjcdhfoeekaaTvO
set_option linter.unusedSimpArgs false
set_option linter.unusedVariables false
namespace Go.Proofs.Ytlacjcdhfoeekaa
open Go Go.TV

theorem itimes (m n : Nat) (hm : m < 1000000000) (hn : n < 1000000000) : fn Try.prog conv ext 148 [LI (dg m), LI (dg n)] = some (LI (dg (m * n))) := by
  rw [fn_eq, ev_eqQ (rs := [.tmp 4]) [] rfl Try.func148 rfl rfl (by kernel_rfl) (by kernel_rfl)]
  by_cases zm : m = 0
  · subst zm
    rw [Nat.zero_mul, dg_zero]
    (simp only [go_sem]) <;> rfl
  by_cases zn : n = 0
  · subst zn
    have c : ((((dg m).length : Nat) : Int) == 0) = false := by rw [beq_eq_false_iff_ne]; have := app_len (dg_ne zm); omega
    rw [Nat.mul_zero, dg_zero]
    (simp only [go_sem, c]) <;> rfl
  have hp : m * n < 1000000000 * 1000000000 := Nat.mul_lt_mul'' hm hn
  have hp' : ((m * n : Nat) : Int) = (m : Int) * (n : Int) := Int.natCast_mul m n
  have w1 := wrap_id (n := (m : Int) * (n : Int)) (by omega) (by omega)
  have w2 := wrap_id (n := 0 + (m : Int) * (n : Int)) (by omega) (by omega)
  have w3 := wrap_id (n := (m : Int) * (n : Int) + 0) (by omega) (by omega)
  have z0 : (0 : Int) + (m : Int) * (n : Int) = (m : Int) * (n : Int) := Int.zero_add _
  have z1 : (m : Int) * (n : Int) + 0 = (m : Int) * (n : Int) := Int.add_zero _
  have f1 : ((m : Int) * (n : Int)).tmod 1000000000 = ((m * n % 1000000000 : Nat) : Int) := by rw [← hp', Int.tmod_eq_emod_of_nonneg (by omega)]; omega
  have f2 : IntKind.i64.wrap (((m : Int) * (n : Int)).tdiv 1000000000) = ((m * n / 1000000000 : Nat) : Int) := by
    rw [← hp', Int.tdiv_eq_ediv_of_nonneg (by omega), wrap_id (by omega) (by omega)]; omega
  have ht := itrim [((m * n % 1000000000 : Nat) : Int), ((m * n / 1000000000 : Nat) : Int)] (by unfold Short; simp)
  have hpad : pad (m * n) 2 = [((m * n % 1000000000 : Nat) : Int), ((m * n / 1000000000 : Nat) : Int)] := by
    rw [pad_succ, pad_succ, Nat.mod_eq_of_lt (Nat.div_lt_of_lt_mul hp)]; rfl
  rw [← hpad, trim_pad 2 _ (by omega), hpad] at ht
  have ht' : fn Try.prog conv ext 178 [.ts [I (m * n % 1000000000 : Nat), I (m * n / 1000000000 : Nat)] 2] = some (LI (dg (m * n))) := ht
  have q0 : (0 : Int) < 1 := by decide
  have q1 : ¬(1 : Int) < 1 := by decide
  have q2 : IntKind.i64.wrap 1 = 1 := by decide
  have q3 : IntKind.i64.wrap 2 = 2 := by decide
  have q4 : IntKind.i64.wrap 0 = 0 := by decide
  have q5 : (1 : Int) + 1 = 2 := by decide
  have q6 : (0 : Int) + 1 = 1 := by decide
  have q7 : (0 : Int) + 0 = 0 := by decide
  have q8 : (0 : Int) < 2 := by decide
  have q9 : (1 : Int) < 2 := by decide
  have q10 : (0 : Int) ≤ 1 := by decide
  have q11 : (0 : Int) ≤ 2 := by decide
  have q12 : (0 : Int).toNat = 0 := id rfl
  have q13 : (1 : Int).toNat = 1 := id rfl
  have q14 : (2 : Int).toNat = 2 := id rfl
  have q15 : (8 : Int) * 2 ≤ 281474976710656 := by decide
  have q16 : (2 : Int) ≤ 9223372036854775807 := by decide
  have q17 : ((1 : Int) == 0) = false := by decide
  have r2 : rep 2 [V.sc (Value.int .i64 0)] = [V.sc (Value.int .i64 0), V.sc (Value.int .i64 0)] := id rfl
  rw [dg_one zm hm, dg_one zn hn]
  simp only [go_sem, r2, q2, q3, q5, q11, q14, q15, q16, q17]
  rw [evLoopI_eq]
  simp only [go_sem, q0, q4, q6, q7, q10, q12]
  rw [evLoopI_eq]
  simp only [go_sem, q0, q4, q6, q7, q8, q9, q10, q12, q13, w1, w2, w3, z0, z1, f1, f2]
  rw [evLoopI_eq]
  simp only [go_sem, q0, q1, q2, q3, q4, q5, q6, q7, q8, q9, q10, q12, q13, w1, w2, w3, z0, z1, f1, f2]
  rw [evLoopI_eq]
  simp only [go_sem, q0, q1, q2, q3, q4, q5, q6, q7, q8, q9, q10, q12, q13, ht']
theorem iscaled (p q d : Nat) (hp : p < 1000000000) (hd : d < 1000000000) : fn Try.prog conv ext 107 [.tp [Bo false, LI (dg p), LI (dg q)] 0, LI (dg d)] = some (.agg [Bo false, LI (dg (p * d))]) := by
  have k1 := itimes p d hp hd
  have k2 := isigned false (dg (p * d))
  rw [Bool.false_and] at k2
  rw [fn_eq, ev_eqQ (rs := [.cell 4 28]) [] rfl Try.func107 rfl rfl (by kernel_rfl) (by kernel_rfl)]
  simp only [go_sem, k1, k2]
theorem iCmp (p q p2 q2 : Nat) (hp : p < 1000000000) (hq : q < 1000000000) (hp2 : p2 < 1000000000) (hq2 : q2 < 1000000000) : fn Try.prog conv ext 61 [.tp [Bo false, LI (dg p), LI (dg q)] 0, .tp [Bo false, LI (dg p2), LI (dg q2)] 0] = some (I (cmpN (p * q2) (p2 * q))) := by
  have k1 := iscaled p q q2 hp hq2
  have k2 := iscaled p2 q2 q hp2 hq
  have b1 : p * q2 < 1000000000 * 1000000000 := Nat.mul_lt_mul'' hp hq2
  have b2 : p2 * q < 1000000000 * 1000000000 := Nat.mul_lt_mul'' hp2 hq
  have k3 := iBigCmp (p * q2) (p2 * q) (by omega) (by omega)
  rw [fn_eq, ev_eqQ (rs := [.tmp 4]) [] rfl Try.func61 rfl rfl (by kernel_rfl) (by kernel_rfl)]
  simp only [go_sem, k1, k2, k3]
theorem iRatCmp (p q p2 q2 : Nat) (hp : p < 1000000000) (hq : q < 1000000000) (hp2 : p2 < 1000000000) (hq2 : q2 < 1000000000) (z : q ≠ 0) (z2 : q2 ≠ 0) (g : Nat.gcd p q = 1) (g2 : Nat.gcd p2 q2 = 1) :
    fn Try.prog conv ext 17 [.agg [Bo false, LI (dg p), LI (dg q)], .agg [Bo false, LI (dg p2), LI (dg q2)]] = some (I (cmpN (p * q2) (p2 * q))) := by
  have k1 := iload false p q (by omega) hq z g (fun h => by cases h)
  have k2 := iload false p2 q2 (by omega) hq2 z2 g2 (fun h => by cases h)
  have k3 := iCmp p q p2 q2 hp hq hp2 hq2
  rw [fn_eq, ev_eqQ (rs := [.tmp 4]) [] rfl Try.func17 rfl rfl (by kernel_rfl) (by kernel_rfl)]
  simp only [go_sem, k1, k2, k3]
/-- Order does not see that a fraction is reduced. -/
theorem cmp_mul {a b k : Nat} (hk : 0 < k) : cmpN (a * k) (b * k) = cmpN a b := by
  unfold cmpN
  have h1 : a * k < b * k ↔ a < b := Nat.mul_lt_mul_right hk
  have h2 : a * k = b * k ↔ a = b := Nat.mul_left_inj (by omega)
  by_cases h : a < b
  · rw [if_pos h, if_pos (h1.mpr h)]
  · rw [if_neg h, if_neg (mt h1.mp h)]
    by_cases he : a = b
    · rw [if_pos he, if_pos (h2.mpr he)]
    · rw [if_neg he, if_neg (mt h2.mp he)]
theorem cmp_red {m n m2 n2 : Nat} (h : n ≠ 0) (h2 : n2 ≠ 0) : cmpN (m / Nat.gcd m n * (n2 / Nat.gcd m2 n2)) (m2 / Nat.gcd m2 n2 * (n / Nat.gcd m n)) = cmpN (m * n2) (m2 * n) := by
  have g1 : 0 < Nat.gcd m n := Nat.gcd_pos_of_pos_right _ (by omega)
  have g2 : 0 < Nat.gcd m2 n2 := Nat.gcd_pos_of_pos_right _ (by omega)
  rw [← cmp_mul (k := Nat.gcd m n * Nat.gcd m2 n2) (Nat.mul_pos g1 g2)]
  have e1 : m / Nat.gcd m n * (n2 / Nat.gcd m2 n2) * (Nat.gcd m n * Nat.gcd m2 n2) = m * n2 := by
    rw [Nat.mul_mul_mul_comm, Nat.div_mul_cancel (Nat.gcd_dvd_left m n), Nat.div_mul_cancel (Nat.gcd_dvd_right m2 n2)]
  have e2 : m2 / Nat.gcd m2 n2 * (n / Nat.gcd m n) * (Nat.gcd m n * Nat.gcd m2 n2) = m2 * n := by
    rw [Nat.mul_comm (Nat.gcd m n), Nat.mul_mul_mul_comm, Nat.div_mul_cancel (Nat.gcd_dvd_left m2 n2), Nat.div_mul_cancel (Nat.gcd_dvd_right m n)]
  rw [e1, e2]
theorem gcd_red {m n : Nat} (h : n ≠ 0) : Nat.gcd (m / Nat.gcd m n) (n / Nat.gcd m n) = 1 := by
  rw [Nat.gcd_div (Nat.gcd_dvd_left m n) (Nat.gcd_dvd_right m n), Nat.div_self (Nat.gcd_pos_of_pos_right _ (by omega))]
theorem iRatCmpD (m n m2 n2 : Nat) (hm : m < 1000000000) (hn : n < 1000000000) (hm2 : m2 < 1000000000) (hn2 : n2 < 1000000000) (z : n ≠ 0) (z2 : n2 ≠ 0) :
    fn Try.prog conv ext 17 [.agg (ratD m n), .agg (ratD m2 n2)] = some (I (cmpN (m * n2) (m2 * n))) := by
  have a1 : m / Nat.gcd m n ≤ m := Nat.div_le_self _ _
  have a2 : n / Nat.gcd m n ≤ n := Nat.div_le_self _ _
  have a3 : m2 / Nat.gcd m2 n2 ≤ m2 := Nat.div_le_self _ _
  have a4 : n2 / Nat.gcd m2 n2 ≤ n2 := Nat.div_le_self _ _
  have y1 : n / Nat.gcd m n ≠ 0 := by
    have := Nat.div_pos (Nat.gcd_le_right m (Nat.pos_of_ne_zero z)) (Nat.gcd_pos_of_pos_right m (Nat.pos_of_ne_zero z))
    omega
  have y2 : n2 / Nat.gcd m2 n2 ≠ 0 := by
    have := Nat.div_pos (Nat.gcd_le_right m2 (Nat.pos_of_ne_zero z2)) (Nat.gcd_pos_of_pos_right m2 (Nat.pos_of_ne_zero z2))
    omega
  have k := iRatCmp (m / Nat.gcd m n) (n / Nat.gcd m n) (m2 / Nat.gcd m2 n2) (n2 / Nat.gcd m2 n2) (by omega) (by omega) (by omega) (by omega) y1 y2 (gcd_red z) (gcd_red z2)
  rw [cmp_red z z2] at k
  exact k
end Go.Proofs.Ytlacjcdhfoeekaa
