import Derived.Test.YtlacjcdhfoeekaaTvK
set_option linter.unusedSimpArgs false
set_option linter.unusedVariables false
namespace Go.Proofs.Ytlacjcdhfoeekaa
open Go Go.TV

theorem ev_ptr {P : Program} {t e : TypeId} {x y : Operand} {row : List V} {off : Nat} (h : P.underlying t = some (.pointer e)) : evBin P .eql t x y (.tp row off) (.sc (.pointer none)) = some (Bo false) := by
  simp only [evBin, toVal, h]
  rfl
theorem ptrEq (x y : Operand) (row : List V) (off : Nat) : evBin Try.prog .eql 94 x y (.tp row off) (.sc (.pointer none)) = some (Bo false) := ev_ptr Try.underlying94
attribute [go_sem] ptrEq
theorem ifit (b : Bool) (xs ys : List Int) (hx : xs.length ≤ 24) (hy : ys.length ≤ 24) : fn Try.prog conv ext 128 [.tp [Bo b, LI xs, LI ys] 0] = some (.tp [Bo b, LI xs, LI ys] 0) := by
  have c1 : ¬(24 : Int) < (xs.length : Int) := by omega
  have c2 : ¬(24 : Int) < (ys.length : Int) := by omega
  rw [fn_eq, ev_eqQ (rs := [.tmp 2]) [] rfl Try.func128 rfl rfl (by kernel_rfl) (by kernel_rfl)]
  simp only [go_sem, c1, c2]
theorem ifewer (b : Bool) (xs : List Int) (hx : xs.length ≤ 60) : fn Try.prog conv ext 109 [.agg [Bo b, LI xs]] = some (.agg [Bo b, LI xs]) := by
  have c1 : ¬(60 : Int) < (xs.length : Int) := by omega
  have k := iClone xs (by omega)
  rw [fn_eq, ev_eqQ (rs := [.cell 2 28]) [] rfl Try.func109 rfl rfl (by kernel_rfl) (by kernel_rfl)]
  simp only [go_sem, c1, k]
theorem istore (b : Bool) (xs ys : List Int) (hx : xs.length ≤ 24) (hy : ys.length ≤ 24) : fn Try.prog conv ext 62 [.tp [Bo b, LI xs, LI ys] 0] = some (.agg [Bo b, LI xs, LI ys]) := by
  have k1 := ifewer b xs (by omega)
  have k2 := iClone ys (by omega)
  rw [fn_eq, ev_eqQ (rs := [.cell 2 30]) [] rfl Try.func62 rfl rfl (by kernel_rfl) (by kernel_rfl)]
  simp only [go_sem, k1, k2]
theorem iRatMake (m n : Nat) (hm : m < 1000000000000000000) (h0 : n ≠ 0) (hn : n < 1000000000) :
    fn Try.prog conv ext 104 [.agg [Bo false, LI (dg m)], .agg [Bo false, LI (dg n)]] = some (.agg (ratD m n)) := by
  have lm := dg_three (n := m) (by omega)
  have ln := dg_three (n := n) (by omega)
  have gm : m / Nat.gcd m n ≤ m := Nat.div_le_self _ _
  have gn : n / Nat.gcd m n ≤ n := Nat.div_le_self _ _
  have l1 := dg_three (n := m / Nat.gcd m n) (by omega)
  have l2 := dg_three (n := n / Nat.gcd m n) (by omega)
  have k1 := iBigIntOk false (dg m) (by unfold Short; omega)
  have k2 := iBigIntOk false (dg n) (by unfold Short; omega)
  rw [pb_true (natGood_dg (by omega)), Bool.false_and] at k1 k2
  have k3 := isigned false (dg m)
  have k4 := ilowest false m n hm h0 hn
  unfold lowD at k4
  simp only [Bool.false_and] at k3 k4
  have k5 := ifit false (dg (m / Nat.gcd m n)) (dg (n / Nat.gcd m n)) (by omega) (by omega)
  have k6 := istore false (dg (m / Nat.gcd m n)) (dg (n / Nat.gcd m n)) (by omega) (by omega)
  have z : (((dg n).length : Int) == 0) = false := by rw [beq_eq_false_iff_ne]; have := app_len (dg_ne h0); omega
  unfold ratD
  rw [fn_eq, ev_eqQ (rs := [.cell 4 30]) [] rfl Try.func104 rfl rfl (by kernel_rfl) (by kernel_rfl)]
  simp only [go_sem] at k1 k2
  simp only [go_sem, k1, k2, k3, k4, k5, k6, z]
theorem iRatOf (m n : Nat) (hm : m < 1000000000000000000) (h0 : n ≠ 0) (hn : n < 1000000000) :
    fn Try.prog conv ext 59 [I m, I n] = some (.agg (ratD m n)) := by
  have k1 := iBigIntOf m (by omega)
  have k2 := iBigIntOf n (by omega)
  have k3 := iRatMake m n hm h0 hn
  unfold ratD at *
  rw [fn_eq, ev_eqQ (rs := [.cell 4 30]) [] rfl Try.func59 rfl rfl (by kernel_rfl) (by kernel_rfl)]
  simp only [go_sem, k1, k2, k3]
end Go.Proofs.Ytlacjcdhfoeekaa
