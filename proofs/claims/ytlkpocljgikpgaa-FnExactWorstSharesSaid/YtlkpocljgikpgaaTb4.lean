import Derived.Test.YtlkpocljgikpgaaTb3
set_option linter.unusedSimpArgs false
set_option linter.unusedVariables false
namespace Go.Proofs.Ytlkpocljgikpgaa
open Go Go.TV

/-! ### The program's whole numbers -/
def cZ (z : Int) : List V := [Bo (decide (z < 0)), LI (dg z.natAbs)]
def sgnN (b : Bool) (n : Nat) : Int := if b = true then -(n : Int) else n
theorem cZ_sgn (b : Bool) (n : Nat) : cZ (sgnN b n) = [Bo (b && decide (0 < (dg n).length)), LI (dg n)] := by
  unfold cZ sgnN
  cases b with
  | false => simp
  | true =>
    have h1 : ((-(n : Int)).natAbs) = n := by simp
    have h2 : decide (-(n : Int) < 0) = decide (0 < (dg n).length) := by
      rw [decide_eq_decide]
      by_cases h : n = 0
      · subst h; rw [dg_zero]; simp
      · have := List.length_pos_iff.mpr (dg_ne h); omega
    simp only [if_true, Bool.true_and, h1, h2]
theorem sgn_abs (z : Int) : sgnN (decide (z < 0)) z.natAbs = z := by
  unfold sgnN
  by_cases h : z < 0
  · rw [decide_eq_true h, if_pos rfl]; omega
  · rw [decide_eq_false h, if_neg (by decide)]; omega
theorem isignedZ (b : Bool) (n : Nat) : fn Try.prog conv ext 109 [Bo b, LI (dg n)] = some (.agg (cZ (sgnN b n))) := by
  rw [isigned, cZ_sgn]
theorem iintegerZ (z : Int) (h0 : -9223372036854775808 ≤ z) (h1 : z ≤ 9223372036854775807) : fn Try.prog conv ext 78 [I z] = some (.agg (cZ z)) := by
  rw [fn_eq, ev_eqQ (rs := [.cell 2 29]) [] rfl Try.func78 rfl rfl (by kernel_rfl) (by kernel_rfl)]
  by_cases hz : z < 0
  · have w1 := wrap_id (n := z + 1) (by omega) (by omega)
    have w2 : IntKind.i64.wrap (0 - (z + 1)) = -(z + 1) := by rw [wrap_id (by omega) (by omega)]; omega
    have w3 := wrap_u64 (n := -(z + 1)) (by omega) (by omega)
    have w4 := wrap_u64 (n := -(z + 1) + 1) (by omega) (by omega)
    have e : -(z + 1) + 1 = ((z.natAbs : Nat) : Int) := by omega
    rw [e] at w4
    have k1 := ilimbs' z.natAbs (by omega)
    have k2 := isignedZ true z.natAbs
    have e2 : sgnN true z.natAbs = z := by unfold sgnN; rw [if_pos rfl]; omega
    rw [e2] at k2
    unfold cZ at *
    simp only [go_sem, hz, w1, w2, w3, e, w4, k1, k2]
  · have w3 := wrap_u64 (n := z) (by omega) (by omega)
    have e : z = ((z.natAbs : Nat) : Int) := by omega
    have k1 := ilimbs' z.natAbs (by omega)
    rw [← e] at k1
    have k2 := isignedZ false z.natAbs
    have e2 : sgnN false z.natAbs = z := by unfold sgnN; rw [if_neg (by decide)]; omega
    rw [e2] at k2
    unfold cZ at *
    simp only [go_sem, hz, w3, k1, k2]
theorem ioppositeZ (z : Int) : fn Try.prog conv ext 142 [.agg (cZ z)] = some (.agg (cZ (-z))) := by
  have k2 := isignedZ (!decide (z < 0)) z.natAbs
  have e : cZ (sgnN (!decide (z < 0)) z.natAbs) = cZ (-z) := by
    unfold sgnN
    by_cases h : z < 0
    · rw [decide_eq_true h, Bool.not_true, if_neg (by decide)]; congr 1; omega
    · rw [decide_eq_false h, Bool.not_false, if_pos rfl]; congr 1; omega
  rw [e] at k2
  unfold cZ at *
  rw [fn_eq, ev_eqQ (rs := [.cell 2 29]) [] rfl Try.func142 rfl rfl (by kernel_rfl) (by kernel_rfl)]
  simp only [go_sem, k2]
theorem cmpN_neg {m n : Nat} : cmpN m n < 0 ↔ m < n := by
  unfold cmpN
  by_cases h : m < n
  · rw [if_pos h]; simp [h]
  · rw [if_neg h]; split <;> simp [h]
theorem iBplus (x y : Int) (hx : ln x.natAbs ≤ 1000000) (hy : ln y.natAbs ≤ 1000000) : fn Try.prog conv ext 113 [.agg (cZ x), .agg (cZ y)] = some (.agg (cZ (x + y))) := by
  have k1 := icompareL x.natAbs y.natAbs hx hy
  have k2 := iplus x.natAbs y.natAbs hx hy
  have sg : ∀ b m, sgnN b m = x + y → fn Try.prog conv ext 109 [Bo b, LI (dg m)] = some (.agg (cZ (x + y))) := fun b m h => by rw [← h]; exact isignedZ b m
  rw [fn_eq, ev_eqQ (rs := [.cell 4 29]) [4,6,2] rfl Try.func113 rfl rfl (by kernel_rfl) (by kernel_rfl)]
  by_cases h1 : x < 0 <;> by_cases h2 : y < 0
  · have k3 := sg true (x.natAbs + y.natAbs) (by unfold sgnN; rw [if_pos rfl]; omega)
    unfold cZ at *
    rw [decide_eq_true h1, decide_eq_true h2]
    simp only [go_sem, k1, k2, k3]
  · unfold cZ at *
    rw [decide_eq_true h1, decide_eq_false h2]
    by_cases hc : x.natAbs < y.natAbs
    · have c1 : ¬0 ≤ cmpN x.natAbs y.natAbs := by have := cmpN_neg.mpr hc; omega
      have k4 := iminus y.natAbs x.natAbs hy (by omega)
      have k3 := sg false (y.natAbs - x.natAbs) (by unfold sgnN; rw [if_neg (by decide)]; omega)
      simp only [go_sem, k1, k3, k4, c1]
    · have c1 : 0 ≤ cmpN x.natAbs y.natAbs := by have := mt cmpN_neg.mp hc; omega
      have k4 := iminus x.natAbs y.natAbs hx (by omega)
      have k3 := sg true (x.natAbs - y.natAbs) (by unfold sgnN; rw [if_pos rfl]; omega)
      simp only [go_sem, k1, k3, k4, c1]
  · unfold cZ at *
    rw [decide_eq_false h1, decide_eq_true h2]
    by_cases hc : x.natAbs < y.natAbs
    · have c1 : ¬0 ≤ cmpN x.natAbs y.natAbs := by have := cmpN_neg.mpr hc; omega
      have k4 := iminus y.natAbs x.natAbs hy (by omega)
      have k3 := sg true (y.natAbs - x.natAbs) (by unfold sgnN; rw [if_pos rfl]; omega)
      simp only [go_sem, k1, k3, k4, c1]
    · have c1 : 0 ≤ cmpN x.natAbs y.natAbs := by have := mt cmpN_neg.mp hc; omega
      have k4 := iminus x.natAbs y.natAbs hx (by omega)
      have k3 := sg false (x.natAbs - y.natAbs) (by unfold sgnN; rw [if_neg (by decide)]; omega)
      simp only [go_sem, k1, k3, k4, c1]
  · have k3 := sg false (x.natAbs + y.natAbs) (by unfold sgnN; rw [if_neg (by decide)]; omega)
    unfold cZ at *
    rw [decide_eq_false h1, decide_eq_false h2]
    simp only [go_sem, k1, k2, k3]
theorem iBminus (x y : Int) (hx : ln x.natAbs ≤ 1000000) (hy : ln y.natAbs ≤ 1000000) : fn Try.prog conv ext 112 [.agg (cZ x), .agg (cZ y)] = some (.agg (cZ (x - y))) := by
  have k1 := ioppositeZ y
  have k2 := iBplus x (-y) hx (by rwa [Int.natAbs_neg])
  rw [← Int.sub_eq_add_neg] at k2
  unfold cZ at *
  rw [fn_eq, ev_eqQ (rs := [.cell 4 29]) [1] rfl Try.func112 rfl rfl (by kernel_rfl) (by kernel_rfl)]
  simp only [go_sem, k1, k2]
def cmpZ (x y : Int) : Int := if x < y then -1 else if x = y then 0 else 1
theorem cmpZ_pp {m n : Nat} : cmpN m n = cmpZ m n := by unfold cmpN cmpZ; split <;> split <;> first | rfl | (split <;> first | rfl | omega) | omega
theorem iBcompare (x y : Int) (hx : ln x.natAbs ≤ 1000000) (hy : ln y.natAbs ≤ 1000000) : fn Try.prog conv ext 85 [.agg (cZ x), .agg (cZ y)] = some (I (cmpZ x y)) := by
  have k1 := icompareL x.natAbs y.natAbs hx hy
  have k2 := icompareL y.natAbs x.natAbs hy hx
  rw [cmpZ_pp] at k1 k2
  unfold cZ
  rw [fn_eq, ev_eqQ (rs := [.tmp 4]) [] rfl Try.func85 rfl rfl (by kernel_rfl) (by kernel_rfl)]
  by_cases h1 : x < 0 <;> by_cases h2 : y < 0
  · have e : cmpZ ((y.natAbs : Nat) : Int) ((x.natAbs : Nat) : Int) = cmpZ x y := by unfold cmpZ; (repeat' split) <;> first | rfl | omega
    rw [decide_eq_true h1, decide_eq_true h2]
    simp only [go_sem, k2, e]
  · have e : cmpZ x y = -1 := by unfold cmpZ; rw [if_pos (by omega)]
    rw [decide_eq_true h1, decide_eq_false h2, e]
    simp only [go_sem]
  · have e : cmpZ x y = 1 := by unfold cmpZ; rw [if_neg (by omega), if_neg (by omega)]
    rw [decide_eq_false h1, decide_eq_true h2, e]
    simp only [go_sem]
  · have e : cmpZ ((x.natAbs : Nat) : Int) ((y.natAbs : Nat) : Int) = cmpZ x y := by unfold cmpZ; (repeat' split) <;> first | rfl | omega
    rw [decide_eq_false h1, decide_eq_false h2]
    simp only [go_sem, k1, e]
theorem isignZ (x : Int) : fn Try.prog conv ext 86 [.agg (cZ x)] = some (I (cmpZ x 0)) := by
  unfold cZ
  rw [fn_eq, ev_eqQ (rs := [.tmp 2]) [] rfl Try.func86 rfl rfl (by kernel_rfl) (by kernel_rfl)]
  by_cases h0 : x = 0
  · subst h0
    have e : cmpZ 0 0 = 0 := by decide
    rw [e, Int.natAbs_zero, dg_zero]
    (simp only [go_sem]) <;> rfl
  · have c1 : (((dg x.natAbs).length : Int) == 0) = false := by rw [beq_eq_false_iff_ne]; have := app_len (dg_ne (n := x.natAbs) (by omega)); omega
    by_cases h1 : x < 0
    · have e : cmpZ x 0 = -1 := by unfold cmpZ; rw [if_pos h1]
      rw [decide_eq_true h1, e]
      simp only [go_sem, c1]
    · have e : cmpZ x 0 = 1 := by unfold cmpZ; rw [if_neg h1, if_neg h0]
      rw [decide_eq_false h1, e]
      simp only [go_sem, c1]
end Go.Proofs.Ytlkpocljgikpgaa
namespace Go.Proofs.Ytlkpocljgikpgaa
open Go Go.TV

/-! ### The program's fractions (small ones) -/
def cQ (q : Rat) : List V := [Bo (decide (q.num < 0)), LI (dg q.num.natAbs), LI (dg q.den)]
def pQ : Option Rat → V
  | some q => .tp (cQ q) 0
  | none => .sc (.pointer none)
def zQ : List V := [Bo false, .ts [] 0, .ts [] 0]
theorem cQ_len (q : Rat) : (cQ q).length = 3 := rfl
theorem cQ_mk (z : Int) {d : Nat} (h : d ≠ 0) : cQ (mkRat z d) = lowD (decide (z < 0)) z.natAbs d := by
  have hg : Nat.gcd d z.natAbs = Nat.gcd z.natAbs d := Nat.gcd_comm _ _
  have hgp : 0 < Nat.gcd z.natAbs d := Nat.gcd_pos_of_pos_right _ (by omega)
  have hdv : Nat.gcd z.natAbs d ∣ z.natAbs := Nat.gcd_dvd_left _ _
  have hdvz : ((Nat.gcd z.natAbs d : Nat) : Int) ∣ z := Int.ofNat_dvd_left.mpr hdv
  unfold cQ lowD
  rw [Rat.num_mkRat, Rat.den_mkRat, if_neg h, if_neg h, hg]
  have e1 : (z / ((Nat.gcd z.natAbs d : Nat) : Int)).natAbs = z.natAbs / Nat.gcd z.natAbs d := by
    obtain ⟨k, hk⟩ := hdvz
    have e : z / ((Nat.gcd z.natAbs d : Nat) : Int) = k := Int.ediv_eq_of_eq_mul_right (by omega) hk
    have e2 : z.natAbs = Nat.gcd z.natAbs d * k.natAbs := by
      have := congrArg Int.natAbs hk
      rw [Int.natAbs_mul, Int.natAbs_natCast] at this
      exact this
    rw [e, Nat.div_eq_of_eq_mul_right hgp e2]
  have e2 : decide (z / ((Nat.gcd z.natAbs d : Nat) : Int) < 0) = (decide (z < 0) && decide (0 < (dg (z.natAbs / Nat.gcd z.natAbs d)).length)) := by
    have e3 : (z / ((Nat.gcd z.natAbs d : Nat) : Int) < 0) ↔ z < 0 := by
      obtain ⟨k, hk⟩ := hdvz
      have e : z / ((Nat.gcd z.natAbs d : Nat) : Int) = k := Int.ediv_eq_of_eq_mul_right (by omega) hk
      rw [e]
      have hG : (0 : Int) < ((Nat.gcd z.natAbs d : Nat) : Int) := by omega
      generalize ((Nat.gcd z.natAbs d : Nat) : Int) = G at *
      constructor
      · intro hkn; rw [hk]; exact Int.mul_neg_of_pos_of_neg hG hkn
      · intro hz
        refine Classical.byContradiction fun hn => ?_
        have := Int.mul_nonneg (Int.le_of_lt hG) (Int.not_lt.mp hn)
        rw [← hk] at this
        omega
    by_cases hz : z < 0
    · have hne : z.natAbs / Nat.gcd z.natAbs d ≠ 0 := by
        have := Nat.div_pos (Nat.gcd_le_left d (show 0 < z.natAbs by omega)) hgp
        omega
      rw [decide_eq_true (e3.mpr hz), decide_eq_true hz, decide_eq_true (List.length_pos_iff.mpr (dg_ne hne))]; rfl
    · rw [decide_eq_false (mt e3.mp hz), decide_eq_false hz]; rfl
  rw [e1, e2]
theorem ilowestQ (z : Int) (d : Nat) (hz : z.natAbs < 1000000000000000000) (h0 : d ≠ 0) (hd : d < 1000000000) : fn Try.prog conv ext 108 [.agg (cZ z), LI (dg d)] = some (.tp (cQ (mkRat z d)) 0) := by
  have k := ilowest (decide (z < 0)) z.natAbs d hz h0 hd
  rw [← cZ_sgn, sgn_abs, ← cQ_mk z h0] at k
  exact k
/-- Small fractions. -/
def Sm (q : Rat) : Prop := q.num.natAbs < 400000000 ∧ q.den < 30000
theorem lnS {n : Nat} (h : n < 1000000000000000000) : ln n ≤ 1000000 := by
  have := ln_le_iff (n := n) (k := 2) |>.mpr (by have : bp 2 = 1000000000000000000 := by decide
                                                 omega)
  omega
theorem ln2 {n : Nat} (h : n < 1000000000000000000) : ln n ≤ 2 := ln_le_iff.mpr (by have : bp 2 = 1000000000000000000 := by decide
                                                                                    omega)
theorem Sm.n {q : Rat} (h : Sm q) : ln q.num.natAbs ≤ 1000000 := lnS (by have := h.1; omega)
theorem Sm.d {q : Rat} (h : Sm q) : ln q.den ≤ 1000000 := lnS (by have := h.2; omega)
theorem Sm.dd {x y : Rat} (h : Sm x) (h' : Sm y) : x.den * y.den < 1000000000 := by
  have := Nat.mul_lt_mul'' h.2 h'.2
  omega
theorem Sm.nd {x y : Rat} (h : Sm x) (h' : Sm y) : (x.num * y.den).natAbs < 12000000000000 := by
  rw [Int.natAbs_mul, Int.natAbs_natCast]
  have := Nat.mul_lt_mul'' h.1 h'.2
  omega
theorem dd0 (x y : Rat) : x.den * y.den ≠ 0 := Nat.mul_ne_zero x.den_nz y.den_nz
theorem iscaledQ (x : Rat) (d : Nat) (hx : ln x.num.natAbs ≤ 1000000) (hd : ln d ≤ 1000000) : fn Try.prog conv ext 84 [.tp (cQ x) 0, LI (dg d)] = some (.agg (cZ (x.num * d))) := by
  have k1 := itimesL x.num.natAbs d hx hd
  have k2 := isignedZ (decide (x.num < 0)) (x.num.natAbs * d)
  have e : sgnN (decide (x.num < 0)) (x.num.natAbs * d) = x.num * d := by
    have h := sgn_abs x.num
    conv => rhs; rw [← h]
    unfold sgnN
    by_cases q : x.num < 0
    · rw [decide_eq_true q, if_pos rfl, if_pos rfl, Int.natCast_mul, Int.neg_mul]
    · rw [decide_eq_false q, if_neg (by decide), if_neg (by decide), Int.natCast_mul]
  rw [e] at k2
  unfold cQ
  unfold cZ at *
  rw [fn_eq, ev_eqQ (rs := [.cell 4 29]) [] rfl Try.func84 rfl rfl (by kernel_rfl) (by kernel_rfl)]
  simp only [go_sem, k1, k2]
theorem iqplus (x y : Rat) (hx : Sm x) (hy : Sm y) : fn Try.prog conv ext 82 [.tp (cQ x) 0, .tp (cQ y) 0] = some (.tp (cQ (x + y)) 0) := by
  have n1 := hx.nd hy
  have n2 := hy.nd hx
  have k1 := iscaledQ x y.den hx.n hy.d
  have k2 := iscaledQ y x.den hy.n hx.d
  have k3 := iBplus (x.num * y.den) (y.num * x.den) (lnS (by omega)) (lnS (by omega))
  have k4 := itimesL x.den y.den hx.d hy.d
  have k5 := ilowestQ (x.num * y.den + y.num * x.den) (x.den * y.den) (by omega) (dd0 x y) (hx.dd hy)
  rw [← Rat.add_def'] at k5
  unfold cQ at *
  unfold cZ at *
  rw [fn_eq, ev_eqQ (rs := [.tmp 4]) [] rfl Try.func82 rfl rfl (by kernel_rfl) (by kernel_rfl)]
  simp only [go_sem, k1, k2, k3, k4, k5]
theorem iqminus (x y : Rat) (hx : Sm x) (hy : Sm y) : fn Try.prog conv ext 81 [.tp (cQ x) 0, .tp (cQ y) 0] = some (.tp (cQ (x - y)) 0) := by
  have n1 := hx.nd hy
  have n2 := hy.nd hx
  have k1 := iscaledQ x y.den hx.n hy.d
  have k2 := iscaledQ y x.den hy.n hx.d
  have k3 := iBminus (x.num * y.den) (y.num * x.den) (lnS (by omega)) (lnS (by omega))
  have k4 := itimesL x.den y.den hx.d hy.d
  have k5 := ilowestQ (x.num * y.den - y.num * x.den) (x.den * y.den) (by omega) (dd0 x y) (hx.dd hy)
  rw [← Rat.sub_def'] at k5
  unfold cQ at *
  unfold cZ at *
  rw [fn_eq, ev_eqQ (rs := [.tmp 4]) [] rfl Try.func81 rfl rfl (by kernel_rfl) (by kernel_rfl)]
  simp only [go_sem, k1, k2, k3, k4, k5]
theorem div_mk (x y : Rat) (hy : y.num ≠ 0) : x / y = mkRat (sgnN (decide (x.num < 0) != decide (y.num < 0)) (x.num.natAbs * y.den)) (x.den * y.num.natAbs) := by
  have e1 : x / y = Rat.divInt (x.num * y.den) (x.den * y.num) := by
    rw [Rat.div_def]
    conv => lhs; rw [← Rat.num_divInt_den x, ← Rat.num_divInt_den y]
    rw [Rat.inv_divInt, Rat.divInt_mul_divInt]
  rw [e1, ← Rat.divInt_ofNat, Int.natCast_mul]
  have hx := sgn_abs x.num
  by_cases h1 : x.num < 0 <;> by_cases h2 : y.num < 0
  · have a1 : ((x.num.natAbs : Nat) : Int) = -x.num := by omega
    have a2 : ((y.num.natAbs : Nat) : Int) = -y.num := by omega
    rw [decide_eq_true h1, decide_eq_true h2]
    unfold sgnN
    rw [if_neg (by decide), Int.natCast_mul, a1, a2, Int.neg_mul, Int.mul_neg, Rat.neg_divInt_neg]
  · have a1 : ((x.num.natAbs : Nat) : Int) = -x.num := by omega
    have a2 : ((y.num.natAbs : Nat) : Int) = y.num := by omega
    rw [decide_eq_true h1, decide_eq_false h2]
    unfold sgnN
    rw [if_pos (by decide), Int.natCast_mul, a1, a2, Int.neg_mul, Int.neg_neg]
  · have a1 : ((x.num.natAbs : Nat) : Int) = x.num := by omega
    have a2 : ((y.num.natAbs : Nat) : Int) = -y.num := by omega
    rw [decide_eq_false h1, decide_eq_true h2]
    unfold sgnN
    rw [if_pos (by decide), Int.natCast_mul, a1, a2, Int.mul_neg]
    rw [← Rat.neg_divInt_neg (-(x.num * y.den)), Int.neg_neg, Int.neg_neg]
  · have a1 : ((x.num.natAbs : Nat) : Int) = x.num := by omega
    have a2 : ((y.num.natAbs : Nat) : Int) = y.num := by omega
    rw [decide_eq_false h1, decide_eq_false h2]
    unfold sgnN
    rw [if_neg (by decide), Int.natCast_mul, a1, a2]
theorem iqby (x y : Rat) (hx : x.num.natAbs < 1000000000) (hxd : x.den = 1) (hy : y.num.natAbs < 1000000000) (hyd : y.den = 1) (h0 : y.num ≠ 0) : fn Try.prog conv ext 77 [.tp (cQ x) 0, .tp (cQ y) 0] = some (.tp (cQ (x / y)) 0) := by
  have k1 := itimesL x.num.natAbs y.den (lnS (by omega)) (lnS (by omega))
  have k2 := isignedZ (decide (x.num < 0) != decide (y.num < 0)) (x.num.natAbs * y.den)
  have k3 := itimesL x.den y.num.natAbs (lnS (by omega)) (lnS (by omega))
  have hd : x.den * y.num.natAbs < 1000000000 := by rw [hxd]; omega
  have hn : (sgnN (decide (x.num < 0) != decide (y.num < 0)) (x.num.natAbs * y.den)).natAbs < 1000000000000000000 := by
    rw [hyd, Nat.mul_one]
    unfold sgnN
    split <;> omega
  have k4 := ilowestQ _ (x.den * y.num.natAbs) hn (Nat.mul_ne_zero x.den_nz (by omega)) hd
  rw [← div_mk x y h0] at k4
  rw [cZ_sgn] at k4 k2
  have e : ∀ a b : Bool, (!a == b) = (a != b) := by decide
  unfold cQ at *
  rw [fn_eq, ev_eqQ (rs := [.tmp 4]) [] rfl Try.func77 rfl rfl (by kernel_rfl) (by kernel_rfl)]
  simp only [go_sem, k1, k2, k3, k4, e]
theorem ifitQ (q : Rat) (h1 : ln q.num.natAbs ≤ 24) (h2 : ln q.den ≤ 24) : fn Try.prog conv ext 76 [.tp (cQ q) 0] = some (.tp (cQ q) 0) := ifit _ _ _ h1 h2
theorem istoreQ (q : Rat) (h1 : ln q.num.natAbs ≤ 24) (h2 : ln q.den ≤ 24) : fn Try.prog conv ext 42 [.tp (cQ q) 0] = some (.agg (cQ q)) := istore _ _ _ h1 h2
theorem mk_small (z : Int) {d : Nat} (h : d ≠ 0) : (mkRat z d).num.natAbs ≤ z.natAbs ∧ (mkRat z d).den ≤ d := by
  rw [Rat.num_mkRat, Rat.den_mkRat, if_neg h, if_neg h]
  exact ⟨Int.natAbs_ediv_le_natAbs _ _, Nat.div_le_self _ _⟩
theorem Sm.add {x y : Rat} (hx : Sm x) (hy : Sm y) : (x + y).num.natAbs < 1000000000000000000 ∧ (x + y).den < 1000000000 := by
  have n1 := hx.nd hy
  have n2 := hy.nd hx
  have := mk_small (x.num * y.den + y.num * x.den) (dd0 x y)
  rw [← Rat.add_def'] at this
  have h3 := hx.dd hy
  omega
theorem Sm.sub {x y : Rat} (hx : Sm x) (hy : Sm y) : (x - y).num.natAbs < 1000000000000000000 ∧ (x - y).den < 1000000000 := by
  have n1 := hx.nd hy
  have n2 := hy.nd hx
  have := mk_small (x.num * y.den - y.num * x.den) (dd0 x y)
  rw [← Rat.sub_def'] at this
  have h3 := hx.dd hy
  omega
theorem ln24 {n : Nat} (h : n < 1000000000000000000) : ln n ≤ 24 := by have := ln2 h; omega
theorem iadd (x y : Rat) (hx : Sm x) (hy : Sm y) : fn Try.prog conv ext 47 [.tp (cQ x) 0, .tp (cQ y) 0] = some (.tp (cQ (x + y)) 0) := by
  have h := hx.add hy
  have k1 := iqplus x y hx hy
  have k2 := ifitQ (x + y) (ln24 h.1) (ln24 (by have := h.2; omega))
  unfold cQ at *
  rw [fn_eq, ev_eqQ (rs := [.tmp 4]) [] rfl Try.func47 rfl rfl (by kernel_rfl) (by kernel_rfl)]
  simp only [go_sem, k1, k2]
theorem isub (x y : Rat) (hx : Sm x) (hy : Sm y) : fn Try.prog conv ext 43 [.tp (cQ x) 0, .tp (cQ y) 0] = some (.tp (cQ (x - y)) 0) := by
  have h := hx.sub hy
  have k1 := iqminus x y hx hy
  have k2 := ifitQ (x - y) (ln24 h.1) (ln24 (by have := h.2; omega))
  unfold cQ at *
  rw [fn_eq, ev_eqQ (rs := [.tmp 4]) [] rfl Try.func43 rfl rfl (by kernel_rfl) (by kernel_rfl)]
  simp only [go_sem, k1, k2]
theorem iSign (q : Rat) : fn Try.prog conv ext 50 [.tp (cQ q) 0] = some (I (cmpZ q.num 0)) := by
  have k := isignZ q.num
  unfold cQ
  unfold cZ at k
  rw [fn_eq, ev_eqQ (rs := [.tmp 2]) [] rfl Try.func50 rfl rfl (by kernel_rfl) (by kernel_rfl)]
  simp only [go_sem, k]
theorem iwholeZ (z : Int) (h0 : -9223372036854775808 ≤ z) (h1 : z ≤ 9223372036854775807) : fn Try.prog conv ext 41 [I z] = some (.tp (cQ (z : Rat)) 0) := by
  have k := iintegerZ z h0 h1
  have e1 : (z : Rat).num = z := rfl
  have e2 : (z : Rat).den = 1 := rfl
  unfold cQ
  rw [e1, e2, dg_one (d := 1) (by decide) (by decide)]
  unfold cZ at k
  rw [fn_eq, ev_eqQ (rs := [.tmp 2]) [] rfl Try.func41 rfl rfl (by kernel_rfl) (by kernel_rfl)]
  (simp only [go_sem, k]) <;> rfl
theorem den_div_small (x y : Int) (hy : y ≠ 0) : ((x : Rat) / (y : Rat)).num.natAbs ≤ x.natAbs ∧ ((x : Rat) / (y : Rat)).den ≤ y.natAbs := by
  have h0 : (y : Rat).num ≠ 0 := hy
  rw [div_mk _ _ h0]
  have e1 : (x : Rat).num = x := rfl
  have e2 : (x : Rat).den = 1 := rfl
  have e3 : (y : Rat).num = y := rfl
  have e4 : (y : Rat).den = 1 := rfl
  have := mk_small (sgnN (decide ((x : Rat).num < 0) != decide ((y : Rat).num < 0)) ((x : Rat).num.natAbs * (y : Rat).den)) (d := (x : Rat).den * (y : Rat).num.natAbs) (by rw [e2, e3]; omega)
  have e5 : (sgnN (decide ((x : Rat).num < 0) != decide ((y : Rat).num < 0)) ((x : Rat).num.natAbs * (y : Rat).den)).natAbs = x.natAbs := by
    rw [e1, e4, Nat.mul_one]; unfold sgnN; split <;> omega
  rw [e5, e2, e3, Nat.one_mul] at this
  rwa [e2, e3, Nat.one_mul]
theorem idivZ (x y : Int) (hx : x.natAbs < 1000000000) (hy : y.natAbs < 1000000000) (h0 : y ≠ 0) : fn Try.prog conv ext 40 [.tp (cQ (x : Rat)) 0, .tp (cQ (y : Rat)) 0] = some (.tp (cQ ((x : Rat) / (y : Rat))) 0) := by
  have k0 := iSign (y : Rat)
  have k1 := iqby x y hx rfl hy rfl h0
  have hs := den_div_small x y h0
  have k2 := ifitQ ((x : Rat) / (y : Rat)) (ln24 (by omega)) (ln24 (by omega))
  have c : (cmpZ (y : Rat).num 0 == 0) = false := by
    have e3 : (y : Rat).num = y := rfl
    rw [e3]; unfold cmpZ
    by_cases h : y < 0
    · rw [if_pos h]; rfl
    · rw [if_neg h, if_neg h0]; rfl
  unfold cQ at *
  rw [fn_eq, ev_eqQ (rs := [.tmp 4]) [] rfl Try.func40 rfl rfl (by kernel_rfl) (by kernel_rfl)]
  simp only [go_sem, k0, k1, k2, c]
theorem iRatOkQ (q : Rat) (h : q.num.natAbs < 1000000000000000000) (hd : q.den < 1000000000) : fn Try.prog conv ext 83 [.agg (cQ q)] = some (Bo true) :=
  iRatOk _ _ _ h hd q.den_nz q.reduced (fun hb => by have := of_decide_eq_true hb; omega)
theorem iloadQ (q : Rat) (h : q.num.natAbs < 1000000000000000000) (hd : q.den < 1000000000) : fn Try.prog conv ext 48 [.agg (cQ q)] = some (.tp (cQ q) 0) :=
  iload _ _ _ h hd q.den_nz q.reduced (fun hb => by have := of_decide_eq_true hb; omega)
theorem iRatAdd (x y : Rat) (hx : Sm x) (hy : Sm y) : fn Try.prog conv ext 14 [.agg (cQ x), .agg (cQ y)] = some (.agg (cQ (x + y))) := by
  have h := hx.add hy
  have k1 := iloadQ x (by have := hx.1; omega) (by have := hx.2; omega)
  have k2 := iloadQ y (by have := hy.1; omega) (by have := hy.2; omega)
  have k3 := iadd x y hx hy
  have k4 := istoreQ (x + y) (ln24 h.1) (ln24 (by have := h.2; omega))
  unfold cQ at *
  rw [fn_eq, ev_eqQ (rs := [.cell 4 31]) [] rfl Try.func14 rfl rfl (by kernel_rfl) (by kernel_rfl)]
  simp only [go_sem, k1, k2, k3, k4]
theorem iRatSign (q : Rat) (h : Sm q) : fn Try.prog conv ext 18 [.agg (cQ q)] = some (I (cmpZ q.num 0)) := by
  have k1 := iloadQ q (by have := h.1; omega) (by have := h.2; omega)
  have k2 := iSign q
  unfold cQ at *
  rw [fn_eq, ev_eqQ (rs := [.tmp 2]) [] rfl Try.func18 rfl rfl (by kernel_rfl) (by kernel_rfl)]
  simp only [go_sem, k1, k2]
theorem iRatFromIntZ (z : Int) (h : z.natAbs < 1000000000) : fn Try.prog conv ext 15 [I z] = some (.agg (cQ (z : Rat))) := by
  have k1 := iwholeZ z (by omega) (by omega)
  have e1 : (z : Rat).num = z := rfl
  have k2 := istoreQ (z : Rat) (ln24 (by rw [e1]; omega)) (ln24 (by show 1 < _; decide))
  unfold cQ at *
  rw [fn_eq, ev_eqQ (rs := [.cell 2 31]) [] rfl Try.func15 rfl rfl (by kernel_rfl) (by kernel_rfl)]
  simp only [go_sem, k1, k2]
theorem iCmpQ (x y : Rat) (hx : Sm x) (hy : Sm y) : fn Try.prog conv ext 49 [.tp (cQ x) 0, .tp (cQ y) 0] = some (I (cmpZ (x.num * y.den) (y.num * x.den))) := by
  have n1 := hx.nd hy
  have n2 := hy.nd hx
  have k1 := iscaledQ x y.den hx.n hy.d
  have k2 := iscaledQ y x.den hy.n hx.d
  have k3 := iBcompare (x.num * y.den) (y.num * x.den) (lnS (by omega)) (lnS (by omega))
  unfold cQ at *
  unfold cZ at *
  rw [fn_eq, ev_eqQ (rs := [.tmp 4]) [] rfl Try.func49 rfl rfl (by kernel_rfl) (by kernel_rfl)]
  simp only [go_sem, k1, k2, k3]
theorem iRatCmpQ (x y : Rat) (hx : Sm x) (hy : Sm y) : fn Try.prog conv ext 16 [.agg (cQ x), .agg (cQ y)] = some (I (cmpZ (x.num * y.den) (y.num * x.den))) := by
  have k1 := iloadQ x (by have := hx.1; omega) (by have := hx.2; omega)
  have k2 := iloadQ y (by have := hy.1; omega) (by have := hy.2; omega)
  have k3 := iCmpQ x y hx hy
  unfold cQ at *
  rw [fn_eq, ev_eqQ (rs := [.tmp 4]) [] rfl Try.func16 rfl rfl (by kernel_rfl) (by kernel_rfl)]
  simp only [go_sem, k1, k2, k3]
end Go.Proofs.Ytlkpocljgikpgaa
namespace Go.Proofs.Ytlkpocljgikpgaa
open Go Go.TV

/-! ### Beams -/
theorem islEqual (a b : List Int) (ha : Short a) (hb : Short b) : fn Try.prog conv ext 46 [LI a, LI b] = some (Bo (decide (a = b))) := by
  unfold Short at ha hb
  rw [fn_eq, ev_eqQ (rs := [.tmp 4]) [] rfl Try.func46 rfl rfl (by kernel_rfl) (by kernel_rfl)]
  by_cases hl : a.length = b.length
  · have c1 : ((a.length : Int) != (b.length : Int)) = false := by rw [hl]; simp
    simp only [go_sem, c1]
    generalize hL : evLoopI _ _ = y
    obtain ⟨r, rfl, hr⟩ := count_rule hL a.length (fun k st => st.nx = 0 ∧ st.σ = noStore ∧ st.T 0 = LI a ∧ st.T 1 = LI b ∧ st.T 12 = I a.length ∧ st.T 13 = I k ∧ ∀ i (h : i < a.length) (h' : i < b.length), i < k → a[i] = b[i])
      (fun r => (∃ T, r = (.exit 0, ⟨T, noStore, 0⟩) ∧ a = b) ∨ (∃ T, r = (.ret, ⟨T, noStore, 0⟩) ∧ T 4 = Bo false ∧ a ≠ b)) (by
        clear hL
        rintro k ⟨T, σ, nx⟩ hlt ⟨hn, hσ, h0, h1, h12, h13, hi⟩
        simp only at hn hσ h0 h1 h12 h13
        subst hn hσ
        have hlt2 : k < b.length := by omega
        have f1 : (k : Int) < (a.length : Int) := by omega
        have f1' : (k : Int) < (b.length : Int) := by omega
        have f2 : (0 : Int) ≤ (k : Int) := by omega
        have f3 := wrap_id (n := (k : Int) + 1) (by omega) (by omega)
        have f5 := slot_ne (c := cI) (s := 1) (fun _ => rfl) (by omega) a k hlt
        have f5' := slot_ne (c := cI) (s := 1) (fun _ => rfl) (by omega) b k hlt2
        have f6 := idx hlt
        have f6' := idx hlt2
        by_cases hx : a[k] = b[k]
        · have fx : (a[k] != b[k]) = false := by simpa using hx
          refine .inl ⟨_, by simp only [go_sem, h0, h1, h12, h13, f1, f1', f2, f3, f5, f5', f6, f6', fx]; rfl, ?_⟩
          simp only [go_sem, h0, h1, h12]
          refine ⟨rfl, fun i hi1 hi2 hik => ?_⟩
          rcases Nat.lt_or_eq_of_le (Nat.le_of_lt_succ hik) with q | q
          · exact hi i hi1 hi2 q
          · subst q; exact hx
        · have fx : (a[k] != b[k]) = true := by simpa using hx
          refine .inr ⟨_, by simp only [go_sem, h0, h1, h12, h13, f1, f1', f2, f5, f5', f6, f6', fx]; rfl, by simp, .inr ⟨_, rfl, by simp only [go_sem], fun e => ?_⟩⟩
          subst e; exact hx rfl) (by
        clear hL
        rintro ⟨T, σ, nx⟩ ⟨hn, hσ, h0, h1, h12, h13, hi⟩
        simp only at hn hσ h12 h13
        subst hn hσ
        exact ⟨_, by simp only [go_sem, h12, h13, Int.lt_irrefl]; rfl, by simp, .inl ⟨_, rfl, List.ext_getElem hl fun i h1 h2 => hi i h1 h2 h1⟩⟩) (by
        simp only [go_sem]
        exact fun i _ _ h => absurd h (Nat.not_lt_zero _))
    rcases hr with ⟨T, rfl, h⟩ | ⟨T, rfl, h4, h⟩
    · simp only [go_sem, decide_eq_true h]
    · simp only [go_sem, h4, decide_eq_false h]
  · have c1 : ((a.length : Int) != (b.length : Int)) = true := by rw [bne_iff_ne]; omega
    rw [decide_eq_false fun e => hl (by rw [e])]
    simp only [go_sem, c1]
theorem dg_inj {m n : Nat} (h : dg m = dg n) : m = n := by
  have := vl_dg m
  rw [h, vl_dg] at this
  omega
theorem iRatEqual (x y : Rat) (hx : Sm x) (hy : Sm y) : fn Try.prog conv ext 13 [.agg (cQ x), .agg (cQ y)] = some (Bo (decide (x = y))) := by
  have k1 := islEqual (dg x.num.natAbs) (dg y.num.natAbs) (short_ln hx.n) (short_ln hy.n)
  have k2 := islEqual (dg x.den) (dg y.den) (short_ln hx.d) (short_ln hy.d)
  have e : decide (x = y) = (decide (x.num < 0) == decide (y.num < 0) && (decide (dg x.num.natAbs = dg y.num.natAbs) && decide (dg x.den = dg y.den))) := by
    by_cases h : x = y
    · subst h; simp
    · rw [decide_eq_false h]
      by_cases h1 : dg x.num.natAbs = dg y.num.natAbs
      · by_cases h2 : dg x.den = dg y.den
        · have a1 := dg_inj h1
          have a2 := dg_inj h2
          by_cases h3 : x.num < 0 <;> by_cases h4 : y.num < 0
          · exact absurd (Rat.ext (by omega) a2) h
          · simp [h3, h4]
          · simp [h3, h4]
          · exact absurd (Rat.ext (by omega) a2) h
        · simp [h2]
      · simp [h1]
  rw [e]
  unfold cQ
  rw [fn_eq, ev_eqQ (rs := [.tmp 4]) [] rfl Try.func13 rfl rfl (by kernel_rfl) (by kernel_rfl)]
  generalize decide (dg x.num.natAbs = dg y.num.natAbs) = b1 at *
  generalize decide (dg x.den = dg y.den) = b2 at *
  cases h : (decide (x.num < 0) == decide (y.num < 0)) <;> cases b1 <;> cases b2 <;> simp only [go_sem, k1, k2, h] <;> rfl
def beamB (b : Beam) : Bool := inB b.left (-1000) 1000 && inB b.right (-1000) 1000 && inB b.low (-1000) 1000 && inB b.high (-1000) 1000 && decide (b.left < b.right) && decide (b.low ≤ b.high) && inB b.weight 0 1000
theorem iBeamOk (b : Beam) : fn Try.prog conv ext 12 [.agg (cBeam b)] = some (Bo (beamB b)) := by
  have k1 := isSpot b.left
  have k2 := isSpot b.right
  have k3 := isSpot b.low
  have k4 := isSpot b.high
  have k5 := isLimit b.weight
  unfold beamB
  rw [fn_eq, ev_eqQ (rs := [.tmp 2]) [] rfl Try.func12 rfl rfl (by kernel_rfl) (by kernel_rfl)]
  generalize inB b.left (-1000) 1000 = b1 at *
  generalize inB b.right (-1000) 1000 = b2 at *
  generalize inB b.low (-1000) 1000 = b3 at *
  generalize inB b.high (-1000) 1000 = b4 at *
  cases b1
  · simp only [go_sem, k1]
  cases b2
  · simp only [go_sem, k1, k2]
  cases b3
  · simp only [go_sem, k1, k2, k3]
  cases b4
  · simp only [go_sem, k1, k2, k3, k4]
  by_cases h1 : b.left < b.right
  · by_cases h2 : b.low ≤ b.high
    · simp only [go_sem, k1, k2, k3, k4, k5, h1, h2]
    · simp only [go_sem, k1, k2, k3, k4, h1, h2]
  · simp only [go_sem, k1, k2, k3, k4, h1]
structure BeamGood (b : Beam) : Prop where
  l : -1000 ≤ b.left ∧ b.left ≤ 1000
  r : -1000 ≤ b.right ∧ b.right ≤ 1000
  lo : -1000 ≤ b.low ∧ b.low ≤ 1000
  hi : -1000 ≤ b.high ∧ b.high ≤ 1000
  lr : b.left < b.right
  lh : b.low ≤ b.high
  w : 0 ≤ b.weight ∧ b.weight ≤ 1000
theorem beamGood {b : Beam} (h : beamB b = true) : BeamGood b := by
  unfold beamB at h
  simp only [Bool.and_eq_true, decide_eq_true_eq] at h
  exact ⟨inB_true h.1.1.1.1.1.1, inB_true h.1.1.1.1.1.2, inB_true h.1.1.1.1.2, inB_true h.1.1.1.2, h.1.1.2, h.1.2, inB_true h.2⟩
/-- The share of the right hook. -/
def rightQ (b : Beam) (p : Int) : Rat := ((b.weight * (p - b.left) : Int) : Rat) / ((b.right - b.left : Int) : Rat)
theorem right_small {b : Beam} (h : BeamGood b) {p : Int} (hp : -1000 ≤ p ∧ p ≤ 1000) : (b.weight * (p - b.left)).natAbs ≤ 2000000 ∧ Sm (rightQ b p) ∧ (rightQ b p).num.natAbs ≤ 2000000 ∧ (rightQ b p).den ≤ 2000 := by
  obtain ⟨⟨l0, l1⟩, ⟨r0, r1⟩, _, _, hlr, _, w0, w1⟩ := h
  have h1 : (b.weight * (p - b.left)).natAbs ≤ 1000 * 2000 := by
    rw [Int.natAbs_mul]
    exact Nat.mul_le_mul (by omega) (by omega)
  have h2 := den_div_small (b.weight * (p - b.left)) (b.right - b.left) (by omega)
  unfold rightQ Sm
  omega
theorem left_small {b : Beam} (h : BeamGood b) {p : Int} (hp : -1000 ≤ p ∧ p ≤ 1000) : Sm ((b.weight : Rat) - rightQ b p) := by
  have hs := right_small h hp
  have e := Rat.sub_def' (b.weight : Rat) (rightQ b p)
  have e1 : (b.weight : Rat).num = b.weight := rfl
  have e2 : (b.weight : Rat).den = 1 := rfl
  rw [e1, e2, Nat.one_mul] at e
  have h3 := mk_small (b.weight * (rightQ b p).den - (rightQ b p).num * (1 : Nat)) (rightQ b p).den_nz
  rw [← e] at h3
  have h4 : (b.weight * ((rightQ b p).den : Int)).natAbs ≤ 1000 * 2000 := by
    rw [Int.natAbs_mul, Int.natAbs_natCast]
    exact Nat.mul_le_mul (by have := h.w; omega) hs.2.2.2
  unfold Sm
  omega
theorem iShareAt (b : Beam) (p : Int) : fn Try.prog conv ext 10 [.agg (cBeam b), I p] = some (if (beamB b && decide (b.low ≤ p) && decide (p ≤ b.high)) = true then .tup [.agg (cQ ((b.weight : Rat) - rightQ b p)), .agg (cQ (rightQ b p)), Bo true] else .tup [.agg zQ, .agg zQ, Bo false]) := by
  have k1 := iBeamOk b
  unfold zQ
  rw [fn_eq, ev_eqQ (rs := [.cell 4 31, .cell 5 31, .tmp 6]) [] rfl Try.func10 rfl rfl (by kernel_rfl) (by kernel_rfl)]
  cases hb : beamB b with
  | false =>
    rw [hb] at k1
    (simp only [go_sem, k1]) <;> rfl
  | true =>
  rw [hb] at k1
  have hg := beamGood hb
  by_cases h1 : p < b.low
  · rw [if_neg (by simp; omega)]
    (simp only [go_sem, k1, h1]) <;> rfl
  by_cases h2 : b.high < p
  · rw [if_neg (by simp; omega)]
    (simp only [go_sem, k1, h1, h2]) <;> rfl
  rw [if_pos (by simp; omega)]
  have hp : -1000 ≤ p ∧ p ≤ 1000 := by have := hg.lo; have := hg.hi; omega
  have hs := right_small hg hp
  have hl := left_small hg hp
  obtain ⟨⟨l0, l1⟩, ⟨r0, r1⟩, _, _, hlr, _, w0, w1⟩ := hg
  have a1 := wrap_id (n := p - b.left) (by omega) (by omega)
  have a2 := wrap_id (n := b.weight * (p - b.left)) (by omega) (by omega)
  have a3 := wrap_id (n := b.right - b.left) (by omega) (by omega)
  have m1 := iwholeZ (b.weight * (p - b.left)) (by omega) (by omega)
  have m2 := iwholeZ (b.right - b.left) (by omega) (by omega)
  have m3 := idivZ (b.weight * (p - b.left)) (b.right - b.left) (by omega) (by omega) (by omega)
  have m4 := iwholeZ b.weight (by omega) (by omega)
  have e1 : (b.weight : Rat).num = b.weight := rfl
  have sw : Sm (b.weight : Rat) := ⟨by rw [e1]; omega, by show 1 < _; decide⟩
  have m5 := isub (b.weight : Rat) (rightQ b p) sw hs.2.1
  have m6 := istoreQ ((b.weight : Rat) - rightQ b p) (ln24 (by have := hl.1; omega)) (ln24 (by have := hl.2; omega))
  have m7 := istoreQ (rightQ b p) (ln24 (by have := hs.2.1.1; omega)) (ln24 (by have := hs.2.1.2; omega))
  have m3' : fn Try.prog conv ext 40 [.tp (cQ ((b.weight * (p - b.left) : Int) : Rat)) 0, .tp (cQ ((b.right - b.left : Int) : Rat)) 0] = some (.tp (cQ (rightQ b p)) 0) := m3
  generalize ((b.weight : Rat) - rightQ b p) = L at *
  generalize rightQ b p = R at *
  unfold cQ at *
  simp only [go_sem, k1, h1, h2, a1, a2, a3, m1, m2, m3', m4, m5, m6, m7]
end Go.Proofs.Ytlkpocljgikpgaa
namespace Go.Proofs.Ytlkpocljgikpgaa
open Go Go.TV

theorem iWorstShares (b : Beam) : fn Try.prog conv ext 11 [.agg (cBeam b)] = some (if beamB b = true then .tup [.agg (cQ ((b.weight : Rat) - rightQ b b.low)), .agg (cQ (rightQ b b.high)), Bo true] else .tup [.agg zQ, .agg zQ, Bo false]) := by
  have k1 := iShareAt b b.low
  have k2 := iShareAt b b.high
  unfold zQ at *
  rw [fn_eq, ev_eqQ (rs := [.cell 2 31, .cell 3 31, .tmp 4]) [5] rfl Try.func11 rfl rfl (by kernel_rfl) (by kernel_rfl)]
  cases hb : beamB b with
  | false =>
    rw [hb, if_neg (by simp)] at k1 k2
    (simp only [go_sem, k1, k2]) <;> rfl
  | true =>
    have hg := (beamGood hb).lh
    rw [hb, if_pos (by simp; exact hg)] at k1 k2
    generalize ((b.weight : Rat) - rightQ b b.low) = L1 at *
    generalize ((b.weight : Rat) - rightQ b b.high) = L2 at *
    generalize rightQ b b.low = R1 at *
    generalize rightQ b b.high = R2 at *
    unfold cQ at *
    simp only [go_sem, k1, k2]
theorem iIsSteady (b : Beam) : fn Try.prog conv ext 17 [.agg (cBeam b)] = some (Bo (beamB b && (decide (b.weight = 0) || decide (b.left ≤ b.low) && decide (b.high ≤ b.right)))) := by
  have k1 := iBeamOk b
  rw [fn_eq, ev_eqQ (rs := [.tmp 2]) [] rfl Try.func17 rfl rfl (by kernel_rfl) (by kernel_rfl)]
  cases hb : beamB b with
  | false => rw [hb] at k1; simp only [go_sem, k1]
  | true =>
    rw [hb] at k1
    by_cases h0 : b.weight = 0
    · have c : (b.weight == 0) = true := by simpa using h0
      rw [decide_eq_true h0]
      simp only [go_sem, k1, c]
    · have c : (b.weight == 0) = false := by simpa using h0
      rw [decide_eq_false h0]
      by_cases h1 : b.left ≤ b.low
      · by_cases h2 : b.high ≤ b.right <;> simp only [go_sem, k1, c, h1, h2]
      · simp only [go_sem, k1, c, h1]
theorem sBelow (xs : List Int) (hx : ∀ x ∈ xs, 0 ≤ x ∧ x ≤ 255) (hl : xs.length ≤ 1048576) (i h : Int) (hi : 0 ≤ i ∧ i ≤ xs.length) (n : Int) (h1 : 1 ≤ n) (h2 : n ≤ 256) :
    ∃ r i' h', (∀ (b st nx : Nat) (σ : Store), σ b = some (Cur xs i h st) → b < nx → ev Try.prog conv ext 75 [.rp b 0, I n] σ nx = some (I r, upd σ b (some (Cur xs i' h' st)), nx)) ∧ (0 ≤ r ∧ r < n) ∧ 0 ≤ i' ∧ i' ≤ xs.length := by
  obtain ⟨r, i', h', k, hr, hi'⟩ := sByteA xs hx hl i h hi
  have c1 : ¬n ≤ 0 := by omega
  have c2 : ¬n = 0 := by omega
  refine ⟨r.tmod n, i', h', fun b st nx σ hσ hb => ?_, ?_, hi'⟩
  · have k' := k b st nx σ hσ hb
    rw [ev_eqQ (rs := [.tmp 4]) [] rfl Try.func75 rfl rfl (by kernel_rfl) (by kernel_rfl)]
    simp only [go_sem, call_inl, k', c1, c2, h2]
  · rw [Int.tmod_eq_emod_of_nonneg hr.1]
    exact ⟨Int.emod_nonneg _ (by omega), Int.emod_lt_of_pos _ (by omega)⟩
theorem sl25Beam (xs : List Int) (hx : ∀ x ∈ xs, 0 ≤ x ∧ x ≤ 255) (hl : xs.length ≤ 1048576) (i h : Int) (hi : 0 ≤ i ∧ i ≤ xs.length) (c nx : Nat) (σ : Store) (hσ : σ c = some (Cur xs i h 0)) (hc : c < nx) :
    ∃ b σ', ev Try.prog conv ext 36 [.rp c 0] σ nx = some (.agg (cBeam b), σ', nx + 1 + 1) ∧ (-9 ≤ b.left ∧ b.left < 0) ∧ (0 ≤ b.weight ∧ b.weight < 50) ∧ (b.left + 1 ≤ b.right ∧ b.right ≤ b.left + 12) ∧ (b.left - 1 ≤ b.low ∧ b.low ≤ b.left + 3) ∧ (b.low ≤ b.high ∧ b.high ≤ b.low + 5) ∧ ∀ q, q < c → σ' q = σ q := by
  obtain ⟨r1, i1, g1, k1, b1, j1⟩ := sBelow xs hx hl i h hi 9 (by decide) (by decide)
  obtain ⟨r2, i2, g2, k2, b2, j2⟩ := sBelow xs hx hl i1 g1 j1 50 (by decide) (by decide)
  obtain ⟨r3, i3, g3, k3, b3, j3⟩ := sBelow xs hx hl i2 g2 j2 12 (by decide) (by decide)
  obtain ⟨r4, i4, g4, k4, b4, j4⟩ := sBelow xs hx hl i3 g3 j3 5 (by decide) (by decide)
  obtain ⟨r5, i5, g5, k5, b5, j5⟩ := sBelow xs hx hl i4 g4 j4 6 (by decide) (by decide)
  have q1 := fun (b nx : Nat) (σ : Store) => k1 b 0 nx σ
  have q2 := fun (b nx : Nat) (σ : Store) => k2 b 0 nx σ
  have q3 := fun (b nx : Nat) (σ : Store) => k3 b 0 nx σ
  have q4 := fun (b nx : Nat) (σ : Store) => k4 b 0 nx σ
  have q5 := fun (b nx : Nat) (σ : Store) => k5 b 0 nx σ
  have n1 : ¬c = nx := by omega
  have n2 : ¬c = nx + 1 := by omega
  have n3 : ¬nx = c := by omega
  have n4 : ¬nx + 1 = c := by omega
  have n5 : c < nx + 1 := by omega
  have n6 : c < nx + 1 + 1 := by omega
  have n7 : ¬nx + 1 = nx := by omega
  have n8 : ¬nx = nx + 1 := by omega
  have n9 : nx + 1 < nx + 1 + 1 := by omega
  have n10 : (nx + 1 == c) = false := by simpa using n4
  have n11 : (c == nx + 1) = false := by simpa using n2
  have w1 := wrap_id (n := r1 - 9) (by omega) (by omega)
  have w2 := wrap_id (n := r1 - 9 + 1) (by omega) (by omega)
  have w3 := wrap_id (n := r1 - 9 + 1 + r3) (by omega) (by omega)
  have w4 := wrap_id (n := r1 - 9 + r4) (by omega) (by omega)
  have w5 := wrap_id (n := r1 - 9 + r4 - 1) (by omega) (by omega)
  have w6 := wrap_id (n := r1 - 9 + r4 - 1 + r5) (by omega) (by omega)
  refine ⟨⟨r1 - 9, r1 - 9 + 1 + r3, r1 - 9 + r4 - 1, r1 - 9 + r4 - 1 + r5, r2⟩, ?_⟩
  rw [ev_eqQ (rs := [.cell 2 24]) [2,3,4] rfl Try.func36 rfl rfl (by kernel_rfl) (by kernel_rfl)]
  simp only [go_sem, call_inl, q1, q2, hσ, n1, n2, n3, n4, n5, n6, n7, n8, n9, n10, n11, w1, w2, w3, w4, w5, w6, q3, q4, q5]
  refine ⟨_, rfl, ⟨by omega, by omega⟩, ⟨by omega, by omega⟩, ⟨by omega, by omega⟩, ⟨by omega, by omega⟩, ⟨by omega, by omega⟩, fun q hq => ?_⟩
  have a1 : ¬q = nx := by omega
  have a2 : ¬q = nx + 1 := by omega
  have a3 : ¬q = c := by omega
  simp only [upd, a1, a2, a3, if_false]
theorem sMakeBeam (xs : List Int) (hx : ∀ x ∈ xs, 0 ≤ x ∧ x ≤ 255) (hl : xs.length ≤ 1048576) :
    ∃ b, fn Try.prog conv ext 8 [LL cB xs] = some (.agg (cBeam b)) ∧ (-9 ≤ b.left ∧ b.left < 0) ∧ (0 ≤ b.weight ∧ b.weight < 50) ∧ (b.left + 1 ≤ b.right ∧ b.right ≤ b.left + 12) ∧ (b.left - 1 ≤ b.low ∧ b.low ≤ b.left + 3) ∧ (b.low ≤ b.high ∧ b.high ≤ b.low + 5) := by
  obtain ⟨h0, k0⟩ := sNew xs hx hl 1 (upd noStore 0 (some ⟨[I 0, I 0, I 0, I 0, I 0], 0, true⟩))
  obtain ⟨b, σ', k1, e1, e2, e3, e4, e5, e6⟩ := sl25Beam xs hx hl 0 h0 ⟨by omega, by omega⟩ 1 2 (upd (upd noStore 0 (some ⟨[I 0, I 0, I 0, I 0, I 0], 0, true⟩)) 1 (some (Cur xs 0 h0 0))) (by simp [upd]) (by omega)
  refine ⟨b, ?_, e1, e2, e3, e4, e5⟩
  have hs := e6 0 (by omega)
  have hs' : σ' 0 = some ⟨[I 0, I 0, I 0, I 0, I 0], 0, true⟩ := by rw [hs]; simp [upd]
  rw [fn_eq, ev_eqQ (rs := [.cell 2 24]) [] rfl Try.func8 rfl rfl (by kernel_rfl) (by kernel_rfl)]
  simp only [go_sem, call_inl, k0, k1, hs']
end Go.Proofs.Ytlkpocljgikpgaa
namespace Go.Proofs.Ytlkpocljgikpgaa
open Go Go.TV

/-! ### The reference's numbers, of any size -/
theorem sCmpL (m n : Nat) (l1 : (dg m).length ≤ 1000000) (l2 : (dg n).length ≤ 1000000) : fn Try.prog conv ext 153 [LI (dg m), LI (dg n)] = some (I (cmpN m n)) := by
  rw [fn_eq, ev_eqQ (rs := [.tmp 4]) [] rfl Try.func153 rfl rfl (by kernel_rfl) (by kernel_rfl)]
  by_cases hl : (dg m).length = (dg n).length
  · have c1 : (((dg m).length : Int) != ((dg n).length : Int)) = false := by rw [hl]; simp
    have e1 := wrap_id (n := ((dg m).length : Int) - 1) (by omega) (by omega)
    simp only [go_sem, c1, e1]
    generalize hL : evLoopI _ _ = y
    obtain ⟨r, rfl, hr⟩ := loop_rule hL (fun k st => st.nx = 0 ∧ st.σ = noStore ∧ st.T 0 = LI (dg m) ∧ st.T 1 = LI (dg n) ∧ st.T 5 = I ((k : Int) - 1) ∧ k ≤ (dg m).length ∧ m / 1000000000 ^ k = n / 1000000000 ^ k)
      (fun r => (∃ T, r = (.exit 0, ⟨T, noStore, 0⟩) ∧ m = n) ∨ (∃ T, r = (.ret, ⟨T, noStore, 0⟩) ∧ T 4 = I (cmpN m n))) (by
        clear hL
        rintro k ⟨T, σ, nx⟩ ⟨hnx, hσ, h0, h1, h5, hk, he⟩
        simp only at hnx hσ h0 h1 h5
        subst hnx hσ
        cases k with
        | zero =>
          have f0' : ¬(0 : Int) ≤ 0 - 1 := by omega
          rw [Nat.pow_zero, Nat.div_one, Nat.div_one] at he
          exact .inr ⟨_, by simp only [go_sem, h5, f0']; rfl, by simp, .inl ⟨_, rfl, he⟩⟩
        | succ k =>
          have hlt : k < (dg m).length := by omega
          have hlt2 : k < (dg n).length := by omega
          have e5 : ((k + 1 : Nat) : Int) - 1 = (k : Int) := by omega
          rw [e5] at h5
          have f0 : (0 : Int) ≤ (k : Int) := by omega
          have f3 : (k : Int) < ((dg m).length : Int) := by omega
          have f3' : (k : Int) < ((dg n).length : Int) := by omega
          have f5 := slot_ne (c := cI) (s := 1) (fun _ => rfl) (by omega) (dg m) k hlt
          have f5' := slot_ne (c := cI) (s := 1) (fun _ => rfl) (by omega) (dg n) k hlt2
          have f6 := idx hlt
          have f6' := idx hlt2
          rw [dg_get hlt] at f6
          rw [dg_get hlt2] at f6'
          have f7 := wrap_id (n := (k : Int) - 1) (by omega) (by omega)
          by_cases q1 : ((m / 1000000000 ^ k % 1000000000 : Nat) : Int) < ((n / 1000000000 ^ k % 1000000000 : Nat) : Int)
          · have hmn : m < n := lt_of_top he (by omega)
            have hc : cmpN m n = -1 := by unfold cmpN; rw [if_pos hmn]
            exact .inr ⟨_, by simp only [go_sem, h0, h1, h5, f0, f3, f3', f5, f5', f6, f6', q1]; rfl, by simp, .inr ⟨_, rfl, by simp only [go_sem, hc]⟩⟩
          · by_cases q2 : ((n / 1000000000 ^ k % 1000000000 : Nat) : Int) < ((m / 1000000000 ^ k % 1000000000 : Nat) : Int)
            · have hmn : n < m := lt_of_top he.symm (by omega)
              have hc : cmpN m n = 1 := by unfold cmpN; rw [if_neg (by omega), if_neg (by omega)]
              exact .inr ⟨_, by simp only [go_sem, h0, h1, h5, f0, f3, f3', f5, f5', f6, f6', q1, q2]; rfl, by simp, .inr ⟨_, rfl, by simp only [go_sem, hc]⟩⟩
            · have heq : m / 1000000000 ^ k = n / 1000000000 ^ k := by
                have a := dg_shift m k
                have b := dg_shift n k
                rw [he] at a
                omega
              refine .inl ⟨_, by simp only [go_sem, h0, h1, h5, f0, f3, f3', f5, f5', f6, f6', f7, q1, q2]; rfl, k, by omega, ?_⟩
              simp only [go_sem, h0, h1]
              exact ⟨by omega, heq⟩) (dg m).length ⟨rfl, rfl, by simp only [go_sem], by simp only [go_sem], by simp only [go_sem], Nat.le_refl _, by rw [dg_end, hl, dg_end]⟩
    rcases hr with ⟨T, rfl, h⟩ | ⟨T, rfl, h⟩
    · have hc : cmpN m n = 0 := by unfold cmpN; rw [if_neg (by omega), if_pos h]
      simp only [go_sem, hc]
    · simp only [go_sem, h]
  · have c1 : (((dg m).length : Int) != ((dg n).length : Int)) = true := by rw [bne_iff_ne]; omega
    by_cases hlt : ((dg m).length : Int) < ((dg n).length : Int)
    · have hmn : m < n := dg_len_lt (by omega)
      have hc : cmpN m n = -1 := by unfold cmpN; rw [if_pos hmn]
      simp only [go_sem, c1, hlt, hc]
    · have hmn : n < m := dg_len_lt (by omega)
      have hc : cmpN m n = 1 := by unfold cmpN; rw [if_neg (by omega), if_neg (by omega)]
      simp only [go_sem, c1, hlt, hc]
theorem sMulL (m n : Nat) (hm : ln m ≤ 1000000) (hn : ln n ≤ 1000000) : fn Try.prog conv ext 126 [LI (dg m), LI (dg n)] = some (LI (dg (m * n))) := by
  unfold ln at hm hn
  rw [fn_eq, ev_eqQ (rs := [.tmp 4]) [] rfl Try.func126 rfl rfl (by kernel_rfl) (by kernel_rfl)]
  by_cases zm : m = 0
  · subst zm
    rw [Nat.zero_mul, dg_zero]
    (simp only [go_sem]) <;> rfl
  have cm : ((((dg m).length : Nat) : Int) == 0) = false := by rw [beq_eq_false_iff_ne]; have := app_len (dg_ne zm); omega
  by_cases zn : n = 0
  · subst zn
    rw [Nat.mul_zero, dg_zero]
    (simp only [go_sem, cm]) <;> rfl
  have cn : ((((dg n).length : Nat) : Int) == 0) = false := by rw [beq_eq_false_iff_ne]; have := app_len (dg_ne zn); omega
  have pn : 0 < (dg n).length := List.length_pos_iff.mpr (dg_ne zn)
  obtain ⟨e1, e2, e3⟩ := make_ok (k := (dg m).length + (dg n).length) (by omega)
  have e0 : ((dg m).length : Int) + ((dg n).length : Int) = (((dg m).length + (dg n).length : Nat) : Int) := by omega
  have e4 := wrap_id (n := (((dg m).length + (dg n).length : Nat) : Int)) (by omega) (by omega)
  simp only [go_sem, cm, cn, e0, e1, e2, e3, e4]
  generalize hL : evLoopI _ _ = y
  obtain ⟨r, rfl, T', σ', nx', P, rfl, h5, hnx, hσ, hP, hd, hv⟩ := count_rule hL (dg m).length (fun k st => st.T 1 = LI (dg n) ∧ st.T 5 = .rs 0 0 ((dg m).length + (dg n).length) ∧ st.T 26 = LI (dg m) ∧ st.T 27 = I (dg m).length ∧ st.T 28 = I k ∧ 0 < st.nx ∧ ∃ P, st.σ 0 = some ⟨fil P ((dg m).length - k), 1, true⟩ ∧ P.length = k + (dg n).length ∧ Dg P ∧ vl P = vl ((dg m).take k) * n)
    (fun r => ∃ T σ nx P, r = (.exit 0, ⟨T, σ, nx⟩) ∧ T 5 = .rs 0 0 ((dg m).length + (dg n).length) ∧ 0 < nx ∧ σ 0 = some ⟨P.flatMap cI, 1, true⟩ ∧ P.length = (dg m).length + (dg n).length ∧ Dg P ∧ vl P = (m * n : Nat)) (by
      clear hL
      rintro k ⟨T, σ, nx⟩ hlt ⟨h1, h5, h26, h27, h28, hnx, P, hσ, hP, hd, hv⟩
      simp only at h1 h5 h26 h27 h28 hnx hσ
      have f1 : (k : Int) < ((dg m).length : Int) := by omega
      have f2 : (0 : Int) ≤ (k : Int) := by omega
      have f3 := wrap_id (n := (k : Int) + 1) (by omega) (by omega)
      have f5 := slot_ne (c := cI) (s := 1) (fun _ => rfl) (by omega) (dg m) k hlt
      have f6 := idx hlt
      obtain ⟨x, hx⟩ : ∃ x, x = (dg m)[k] := ⟨_, rfl⟩
      have xr := (dg_Dg m).get hlt
      rw [← hx] at f6 xr
      have v1 := vl_take_succ hlt
      rw [← hx] at v1
      obtain ⟨g, hg⟩ : ∃ g, (dg m).length - k = g + 1 := ⟨(dg m).length - k - 1, by omega⟩
      have hg' : (dg m).length - (k + 1) = g := by omega
      rw [hg] at hσ
      refine step_of ?_
      conv =>
        enter [1, r, 1, 1]
        simp only [go_sem, h1, h5, h26, h27, h28, hnx, f1, f2, f5, f6]
      generalize hL : evLoopI _ _ = z
      obtain ⟨r, rfl, T', σ', nx', c, W, rfl, h1, h5, h6, h8, h26, h27, h28, hnx, hσ, hW, hd, hv, hc0, hc1⟩ := count_rule hL (dg n).length (fun j st => st.T 1 = LI (dg n) ∧ st.T 5 = .rs 0 0 ((dg m).length + (dg n).length) ∧ st.T 6 = I k ∧ st.T 7 = I x ∧ st.T 26 = LI (dg m) ∧ st.T 27 = I (dg m).length ∧ st.T 28 = I k ∧ st.T 33 = LI (dg n) ∧ st.T 34 = I (dg n).length ∧ st.T 35 = I j ∧ 0 < st.nx ∧ ∃ c W, st.T 8 = I c ∧ st.σ 0 = some ⟨fil W (g + 1), 1, true⟩ ∧ W.length = k + (dg n).length ∧ Dg W ∧ vl W + bp (k + j) * c = vl ((dg m).take k) * n + bp k * (x * vl ((dg n).take j)) ∧ 0 ≤ c ∧ c < 1000000000)
        (fun r => ∃ T σ nx c W, r = (.exit 2, ⟨T, σ, nx⟩) ∧ T 1 = LI (dg n) ∧ T 5 = .rs 0 0 ((dg m).length + (dg n).length) ∧ T 6 = I k ∧ T 8 = I c ∧ T 26 = LI (dg m) ∧ T 27 = I (dg m).length ∧ T 28 = I k ∧ 0 < nx ∧ σ 0 = some ⟨fil W (g + 1), 1, true⟩ ∧ W.length = k + (dg n).length ∧ Dg W ∧ vl W + bp (k + (dg n).length) * c = vl ((dg m).take k) * n + bp k * (x * n) ∧ 0 ≤ c ∧ c < 1000000000) (by
          clear hL
          rintro j ⟨T, σ, nx⟩ hj ⟨h1, h5, h6, h7, h26, h27, h28, h33, h34, h35, hnx, c, W, h8, hσ, hW, hd, hv, hc0, hc1⟩
          simp only at h1 h5 h6 h7 h8 h26 h27 h28 h33 h34 h35 hnx hσ
          have g1 : (j : Int) < ((dg n).length : Int) := by omega
          have g2 : (0 : Int) ≤ (j : Int) := by omega
          have g3 := wrap_id (n := (j : Int) + 1) (by omega) (by omega)
          have g5 := slot_ne (c := cI) (s := 1) (fun _ => rfl) (by omega) (dg n) j hj
          have g6 := idx hj
          obtain ⟨b, hb⟩ : ∃ b, b = (dg n)[j] := ⟨_, rfl⟩
          have br := (dg_Dg n).get hj
          rw [← hb] at g6 br
          have v2 := vl_take_succ hj
          rw [← hb] at v2
          have p0 : (k : Int) + (j : Int) = ((k + j : Nat) : Int) := by omega
          have p1 := wrap_id (n := ((k + j : Nat) : Int)) (by omega) (by omega)
          have p2 : (0 : Int) ≤ ((k + j : Nat) : Int) := by omega
          have p3 : ((k + j : Nat) : Int) < (((dg m).length + (dg n).length : Nat) : Int) := by omega
          have p4 : k + j < W.length := by omega
          have p5 := fil_get (o := W) (g + 1) p4
          have p6 : k + j < (fil W (g + 1)).length := by rw [fil_len]; omega
          obtain ⟨w, hw⟩ : ∃ w, w = W[k + j] := ⟨_, rfl⟩
          have wr := hd.get p4
          rw [← hw] at p5 wr
          have mm := mul_lt9 (x := x) (y := b) (c := c) (w := w) xr br ⟨hc0, hc1⟩ wr
          have w1 := wrap_id (n := x * b) (by omega) (by omega)
          have w2 := wrap_id (n := w + x * b) (by omega) (by omega)
          have w3 := wrap_id (n := w + x * b + c) (by omega) (by omega)
          obtain ⟨q1, q2⟩ := tdivmod (n := w + x * b + c) (by omega)
          have w4 := wrap_id (n := (w + x * b + c) / 1000000000) (by omega) (by omega)
          have c6 := fil_set_in (g + 1) ((w + x * b + c) % 1000000000) p4
          have vs := vl_set p4 ((w + x * b + c) % 1000000000)
          rw [← hw] at vs
          refine .inl ⟨_, by simp only [go_sem, h1, h5, h6, h7, h8, h26, h27, h28, h33, h34, h35, hnx, hσ, g1, g2, g3, g5, g6, p0, p1, p2, p3, p5, p6, w1, w2, w3, w4, q1, q2, c6]; rfl, ?_⟩
          simp only [go_sem, h1, h5, h6, h7, h26, h27, h28, h33, h34]
          refine ⟨rfl, hnx, _, _, rfl, rfl, by rw [List.length_set]; exact hW, hd.set _ (by omega) (by omega), ?_, by omega, by omega⟩
          rw [vs, show k + (j + 1) = k + j + 1 by omega, bp_succ, mul_inner (c := c) (x := x) (b := b) (by omega) hv (.inr trivial), v2, bp_add]
          grind) (by
          clear hL
          rintro ⟨T, σ, nx⟩ ⟨h1, h5, h6, h7, h26, h27, h28, h33, h34, h35, hnx, c, W, h8, hσ, hW, hd, hv, hc0, hc1⟩
          simp only at h1 h5 h6 h7 h8 h26 h27 h28 h33 h34 h35 hnx hσ
          rw [List.take_length, vl_dg] at hv
          refine ⟨_, by simp only [go_sem, h34, h35, Int.lt_irrefl]; rfl, by simp, _, _, _, c, W, rfl, ?_⟩
          simp only [go_sem, h1, h5, h6, h8, h26, h27, h28]
          exact ⟨hnx, hσ, hW, hd, hv, hc0, hc1⟩) (by
          simp only [go_sem, h1, h5, h26, h27, h28]
          exact ⟨hnx, 0, P, rfl, hσ, hP, hd, by rw [Int.mul_zero, hv]; simp [vl], Int.le_refl _, by decide⟩)
      have p0 : (k : Int) + ((dg n).length : Int) = ((k + (dg n).length : Nat) : Int) := by omega
      have p1 := wrap_id (n := ((k + (dg n).length : Nat) : Int)) (by omega) (by omega)
      have p2 : (0 : Int) ≤ ((k + (dg n).length : Nat) : Int) := by omega
      have p3 : ((k + (dg n).length : Nat) : Int) < (((dg m).length + (dg n).length : Nat) : Int) := by omega
      have p6 : k + (dg n).length < (fil W (g + 1)).length := by rw [fil_len]; omega
      have c6 := fil_set W g c hW
      refine ⟨_, by simp only [go_sem, h1, h5, h6, h8, h26, h27, h28, hnx, hσ, f3, p0, p1, p2, p3, p6, c6]; rfl, .inl ⟨_, rfl, ?_⟩⟩
      simp only [go_sem, h1, h5, h26, h27, hg']
      refine ⟨rfl, hnx, _, rfl, by simp [hW]; omega, hd.snoc hc0 hc1, ?_⟩
      rw [vl_snoc, hW, hv, v1]
      grind) (by
      clear hL
      rintro ⟨T, σ, nx⟩ ⟨h1, h5, h26, h27, h28, hnx, P, hσ, hP, hd, hv⟩
      simp only at h1 h5 h26 h27 h28 hnx hσ
      rw [Nat.sub_self, fil_full] at hσ
      refine ⟨_, by simp only [go_sem, h27, h28, Int.lt_irrefl]; rfl, by simp, _, _, _, P, rfl, by simp only [go_sem, h5], hnx, hσ, hP, hd, ?_⟩
      rw [hv, List.take_length, vl_dg, Int.natCast_mul]) (by
      simp only [go_sem]
      refine ⟨List.replicate (dg n).length 0, ?_, by simp, fun x hx => by rw [List.mem_replicate] at hx; omega, (vl_rep _).trans (by simp [vl])⟩
      congr 2
      unfold fil
      rw [show List.flatMap cI (List.replicate (dg n).length 0) = rep (dg n).length [I 0] by unfold rep; rw [List.flatMap_replicate]]
      unfold rep
      rw [← List.flatten_append, List.replicate_append_replicate, Nat.add_comm])
  have ht := strim P (by unfold Short; omega)
  rw [trim_vl' hd hv] at ht
  have ht' : fn Try.prog conv ext 147 [.ts (P.flatMap cI) ((dg m).length + (dg n).length)] = some (LI (dg (m * n))) := by rw [← hP]; exact ht
  have tk : List.take ((dg m).length + (dg n).length) (P.flatMap cI) = P.flatMap cI := by rw [← hP]; exact cI_takeall _
  have hl2 : (P.flatMap cI).length = (dg m).length + (dg n).length := by rw [cI_len, hP]
  simp only [go_sem, h5, hnx, hσ, hl2, tk, ht']
theorem ln_ge {n j : Nat} (h : bp j ≤ n) : j + 1 ≤ ln n := by
  refine Classical.byContradiction fun hn => ?_
  have := ln_le_iff.mp (show ln n ≤ j by omega)
  omega
theorem bp_ln {n : Nat} (h : n ≠ 0) : bp (ln n - 1) ≤ n := by
  refine Classical.byContradiction fun hn => ?_
  have := ln_le_iff.mpr (show (n : Int) < bp (ln n - 1) by omega)
  have := ln_pos h
  omega
theorem trim_prefix (o : List Int) : ∃ r, o = trimL o ++ r := by
  induction o with
  | nil => exact ⟨[], rfl⟩
  | cons x o ih =>
    obtain ⟨r, hr⟩ := ih
    rw [trim_cons]
    split
    · split
      · exact ⟨x :: o, rfl⟩
      · exact ⟨o, rfl⟩
    · exact ⟨r, by rw [List.cons_append, ← hr]⟩
theorem eq_dg_of_len {o : List Int} {n : Nat} (hd : Dg o) (hv : vl o = n) (hl : o.length ≤ ln n) : o = dg n := by
  obtain ⟨r, hr⟩ := trim_prefix o
  have ht := trim_vl' hd hv
  have : r = [] := by
    refine List.eq_nil_of_length_eq_zero ?_
    have h1 := congrArg List.length hr
    rw [List.length_append, ht] at h1
    unfold ln at hl
    omega
  rw [this, List.append_nil, ht] at hr
  exact hr
theorem sAddL (m n : Nat) (hm : ln m ≤ 1000000) (hn : ln n ≤ 1000000) : fn Try.prog conv ext 152 [LI (dg m), LI (dg n)] = some (LI (dg (m + n))) := by
  have hM1 : m ≠ 0 → bp (ln m - 1) ≤ m := bp_ln
  have hM2 : n ≠ 0 → bp (ln n - 1) ≤ n := bp_ln
  have hz1 : m = 0 → ln m = 0 := fun h => by rw [h, ln_zero]
  have hz2 : n = 0 → ln n = 0 := fun h => by rw [h, ln_zero]
  unfold ln at *
  rw [fn_eq, ev_eqQ (rs := [.tmp 4]) [] rfl Try.func152 rfl rfl (by kernel_rfl) (by kernel_rfl)]
  simp only [go_sem]
  generalize hL : evLoopI _ _ = y
  obtain ⟨M, hMm, hMn, hM⟩ : ∃ M, (dg m).length ≤ M ∧ (dg n).length ≤ M ∧ (M = (dg m).length ∨ M = (dg n).length) := by
    rcases Nat.le_total (dg m).length (dg n).length with h | h
    · exact ⟨_, h, Nat.le_refl _, .inr rfl⟩
    · exact ⟨_, Nat.le_refl _, h, .inl rfl⟩
  obtain ⟨r, rfl, T', σ', nx', rfl, hr⟩ := loop_rule hL (fun g st => ∃ k c o, g + k = M + 1 ∧ st.T 0 = LI (dg m) ∧ st.T 1 = LI (dg n) ∧ st.T 6 = I c ∧ st.T 7 = I (k : Nat) ∧ Grow st.T st.σ st.nx 5 o ∧ o.length = k ∧ Dg o ∧ vl o + bp k * c = vl ((dg m).take k) + vl ((dg n).take k) ∧ 0 ≤ c ∧ c ≤ 1 ∧ (k = M + 1 → c = 0 ∧ bp M ≤ (m + n : Nat)))
    (fun r => ∃ T σ nx, r = (.exit 0, ⟨T, σ, nx⟩) ∧ Grow T σ nx 5 (dg (m + n))) (by
      clear hL
      rintro g ⟨T, σ, nx⟩ ⟨k, c, o, hg, h0, h1, h6, h7, hG, ho, hd, hv, hc0, hc1, hk⟩
      simp only at h0 h1 h6 h7 hG
      have fin : (dg m).length ≤ k → (dg n).length ≤ k → c = 0 → o = dg (m + n) := by
        intro a1 a2 a3
        subst a3
        rw [List.take_of_length_le a1, List.take_of_length_le a2, vl_dg, vl_dg, Int.mul_zero, Int.add_zero] at hv
        refine eq_dg_of_len hd (by rw [hv]; omega) ?_
        by_cases hkM : k = M + 1
        · have := ln_ge (hk hkM).2
          omega
        · have hkM' : k = M := by omega
          by_cases hM0 : M = 0
          · omega
          · have : bp (M - 1) ≤ (m + n : Nat) := by
              rcases hM with e | e
              · have := hM1 (fun h => by have := hz1 h; omega)
                rw [← e] at this; omega
              · have := hM2 (fun h => by have := hz2 h; omega)
                rw [← e] at this; omega
            have := ln_ge this
            omega
      have go : ∀ x z : Int, 0 ≤ x → x < 1000000000 → 0 ≤ z → z < 1000000000 → vl ((dg m).take (k + 1)) = vl ((dg m).take k) + bp k * x → vl ((dg n).take (k + 1)) = vl ((dg n).take k) + bp k * z → (k = M → x = 0 ∧ z = 0) → k < M + 1 →
          vl (o ++ [(c + x + z) % 1000000000]) + bp (k + 1) * ((c + x + z) / 1000000000) = vl ((dg m).take (k + 1)) + vl ((dg n).take (k + 1)) := by
        intro x z x0 x1 z0 z1 e1 e2 _ _
        rw [vl_snoc, ho, bp_succ, e1, e2, carry_step (n := c + x + z) (by omega), Int.mul_add, Int.mul_add]
        omega
      have nz : ¬(0 : Int) < 0 := by decide
      by_cases hA : k < (dg m).length
      · have f1 : (k : Int) < ((dg m).length : Int) := by omega
        have f2 : (0 : Int) ≤ (k : Int) := by omega
        have f3 := wrap_id (n := (k : Int) + 1) (by omega) (by omega)
        have f5 := slot_ne (c := cI) (s := 1) (fun _ => rfl) (by omega) (dg m) k hA
        have f6 := idx hA
        obtain ⟨x, hx⟩ : ∃ x, x = (dg m)[k] := ⟨_, rfl⟩
        have xr := (dg_Dg m).get hA
        have v1 := vl_take_succ hA
        rw [← hx] at f6 xr v1
        have w1 := wrap_id (n := c + x) (by omega) (by omega)
        by_cases hB : k < (dg n).length
        · have f8 : (k : Int) < ((dg n).length : Int) := by omega
          have f9 := slot_ne (c := cI) (s := 1) (fun _ => rfl) (by omega) (dg n) k hB
          have f10 := idx hB
          obtain ⟨z, hz⟩ : ∃ z, z = (dg n)[k] := ⟨_, rfl⟩
          have zr := (dg_Dg n).get hB
          have v2 := vl_take_succ hB
          rw [← hz] at f10 zr v2
          have w2 := wrap_id (n := c + x + z) (by omega) (by omega)
          obtain ⟨q1, q2⟩ := tdivmod (n := c + x + z) (by omega)
          have w3 := wrap_id (n := (c + x + z) / 1000000000) (by omega) (by omega)
          obtain ⟨σ', ha, hs⟩ := grow_append hG ((c + x + z) % 1000000000) (by omega)
          refine .inl ⟨_, by simp only [go_sem, h0, h1, h6, h7, f1, f2, f3, f5, f6, f8, f9, f10, w1, w2, w3, q1, q2, ha]; rfl, g - 1, by omega, k + 1, (c + x + z) / 1000000000, o ++ [(c + x + z) % 1000000000], by omega, ?_, ?_, ?_, ?_, ?_, by simp [ho], hd.snoc (by omega) (by omega), ?_, by omega, by omega, fun h => by omega⟩
          · simp only [go_sem, h0]
          · simp only [go_sem, h1]
          · simp only [go_sem]
          · simp only [go_sem]; rfl
          · exact grow_new hs (by simp [go_sem]) (by simp)
          exact go x z xr.1 xr.2 zr.1 zr.2 v1 v2 (fun h => by omega) (by omega)
        · have f8 : ¬(k : Int) < ((dg n).length : Int) := by omega
          have v2 : vl ((dg n).take (k + 1)) = vl ((dg n).take k) + bp k * 0 := by rw [bp_take_all (by omega)]; omega
          obtain ⟨q1, q2⟩ := tdivmod (n := c + x) (by omega)
          have w3 := wrap_id (n := (c + x) / 1000000000) (by omega) (by omega)
          obtain ⟨σ', ha, hs⟩ := grow_append hG ((c + x) % 1000000000) (by omega)
          refine .inl ⟨_, by simp only [go_sem, h0, h1, h6, h7, f1, f2, f3, f5, f6, f8, w1, w3, q1, q2, ha]; rfl, g - 1, by omega, k + 1, (c + x) / 1000000000, o ++ [(c + x) % 1000000000], by omega, ?_, ?_, ?_, ?_, ?_, by simp [ho], hd.snoc (by omega) (by omega), ?_, by omega, by omega, fun h => by omega⟩
          · simp only [go_sem, h0]
          · simp only [go_sem, h1]
          · simp only [go_sem]
          · simp only [go_sem]; rfl
          · exact grow_new hs (by simp [go_sem]) (by simp)
          have := go x 0 xr.1 xr.2 (by decide) (by decide) v1 v2 (fun h => by omega) (by omega)
          rwa [Int.add_zero] at this
      · have f1 : ¬(k : Int) < ((dg m).length : Int) := by omega
        have f2 : (0 : Int) ≤ (k : Int) := by omega
        have f3 := wrap_id (n := (k : Int) + 1) (by omega) (by omega)
        have v1 : vl ((dg m).take (k + 1)) = vl ((dg m).take k) + bp k * 0 := by rw [bp_take_all (by omega)]; omega
        by_cases hB : k < (dg n).length
        · have f8 : (k : Int) < ((dg n).length : Int) := by omega
          have f9 := slot_ne (c := cI) (s := 1) (fun _ => rfl) (by omega) (dg n) k hB
          have f10 := idx hB
          obtain ⟨z, hz⟩ : ∃ z, z = (dg n)[k] := ⟨_, rfl⟩
          have zr := (dg_Dg n).get hB
          have v2 := vl_take_succ hB
          rw [← hz] at f10 zr v2
          have w2 := wrap_id (n := c + z) (by omega) (by omega)
          obtain ⟨q1, q2⟩ := tdivmod (n := c + z) (by omega)
          have w3 := wrap_id (n := (c + z) / 1000000000) (by omega) (by omega)
          obtain ⟨σ', ha, hs⟩ := grow_append hG ((c + z) % 1000000000) (by omega)
          refine .inl ⟨_, by simp only [go_sem, h0, h1, h6, h7, f1, f2, f3, f8, f9, f10, w2, w3, q1, q2, ha]; rfl, g - 1, by omega, k + 1, (c + z) / 1000000000, o ++ [(c + z) % 1000000000], by omega, ?_, ?_, ?_, ?_, ?_, by simp [ho], hd.snoc (by omega) (by omega), ?_, by omega, by omega, fun h => by omega⟩
          · simp only [go_sem, h0]
          · simp only [go_sem, h1]
          · simp only [go_sem]
          · simp only [go_sem]; rfl
          · exact grow_new hs (by simp [go_sem]) (by simp)
          have := go 0 z (by decide) (by decide) zr.1 zr.2 v1 v2 (fun h => by omega) (by omega)
          rwa [Int.add_zero] at this
        · have f8 : ¬(k : Int) < ((dg n).length : Int) := by omega
          have v2 : vl ((dg n).take (k + 1)) = vl ((dg n).take k) + bp k * 0 := by rw [bp_take_all (by omega)]; omega
          by_cases hc : c = 0
          · subst hc
            refine .inr ⟨_, by simp only [go_sem, h0, h1, h6, h7, f1, f8, nz]; rfl, by simp, _, _, _, rfl, ?_⟩
            rw [← fin (by omega) (by omega) rfl]
            exact grow_eq (by simp only [go_sem]) hG
          · have hc' : c = 1 := by omega
            subst hc'
            have hkM : k = M := by
              rcases Nat.lt_or_ge k (M + 1) with h | h
              · omega
              · have := (hk (by omega)).1; omega
            have p1 : (0 : Int) < 1 := by decide
            obtain ⟨q1, q2⟩ := tdivmod (n := 1) (by decide)
            have q3 : (1 : Int) % 1000000000 = 1 := by decide
            have q4 : (1 : Int) / 1000000000 = 0 := by decide
            have q5 : IntKind.i64.wrap 0 = 0 := by decide
            rw [q3] at q1
            rw [q4] at q2
            obtain ⟨σ', ha, hs⟩ := grow_append hG 1 (by omega)
            refine .inl ⟨_, by simp only [go_sem, h0, h1, h6, h7, f1, f2, f3, f8, p1, q1, q2, q5, ha]; rfl, g - 1, by omega, k + 1, 0, o ++ [1], by omega, ?_, ?_, ?_, ?_, ?_, by simp [ho], hd.snoc (by omega) (by omega), ?_, by omega, by omega, fun h => ⟨rfl, ?_⟩⟩
            · simp only [go_sem, h0]
            · simp only [go_sem, h1]
            · simp only [go_sem]
            · simp only [go_sem]; rfl
            · exact grow_new hs (by simp [go_sem]) (by simp)
            · have := go 0 0 (by decide) (by decide) (by decide) (by decide) v1 v2 (fun _ => ⟨rfl, rfl⟩) (by omega)
              rw [Int.add_zero, Int.add_zero, q3, q4] at this
              exact this
            · rw [List.take_of_length_le (by omega), List.take_of_length_le (by omega), vl_dg, vl_dg, Int.mul_one] at hv
              have := vl_nonneg hd
              rw [← hkM]; omega) (M + 1) ⟨0, 0, [], by omega, by simp only [go_sem], by simp only [go_sem], by simp only [go_sem], by simp only [go_sem], .inl ⟨by simp only [go_sem], rfl⟩, rfl, Dg.nil, by simp [vl], by decide, by decide, fun h => by omega⟩
  obtain ⟨ids, h1⟩ := grow_strip hr 6
  have h5 : ∃ u, T' 5 = u := ⟨_, rfl⟩
  simp only [go_sem, h1]
end Go.Proofs.Ytlkpocljgikpgaa
namespace Go.Proofs.Ytlkpocljgikpgaa
open Go Go.TV

theorem sSubL (m n : Nat) (hm : ln m ≤ 1000000) (hle : n ≤ m) : fn Try.prog conv ext 154 [LI (dg m), LI (dg n)] = some (LI (dg (m - n))) := by
  have hBA : (dg n).length ≤ (dg m).length := ln_mono hle
  unfold ln at hm
  rw [fn_eq, ev_eqQ (rs := [.tmp 4]) [] rfl Try.func154 rfl rfl (by kernel_rfl) (by kernel_rfl)]
  simp only [go_sem]
  generalize hL : evLoopI _ _ = y
  obtain ⟨r, rfl, T', σ', nx', o, rfl, hG, ho, hd, hv⟩ := count_rule hL (dg m).length (fun k st => st.T 0 = LI (dg m) ∧ st.T 1 = LI (dg n) ∧ st.T 10 = LI (dg m) ∧ st.T 11 = I (dg m).length ∧ st.T 12 = I k ∧ ∃ c o, st.T 6 = I c ∧ Grow st.T st.σ st.nx 5 o ∧ o.length = k ∧ Dg o ∧ vl o - bp k * c = vl ((dg m).take k) - vl ((dg n).take k) ∧ 0 ≤ c ∧ c ≤ 1)
    (fun r => ∃ T σ nx o, r = (.exit 0, ⟨T, σ, nx⟩) ∧ Grow T σ nx 5 o ∧ o.length = (dg m).length ∧ Dg o ∧ vl o = (m - n : Nat)) (by
      clear hL
      rintro k ⟨T, σ, nx⟩ hlt ⟨h0, h1, h10, h11, h12, c, o, h6, hG, ho, hd, hv, hc0, hc1⟩
      simp only at h0 h1 h10 h11 h12 h6 hG
      have f1 : (k : Int) < ((dg m).length : Int) := by omega
      have f2 : (0 : Int) ≤ (k : Int) := by omega
      have f3 := wrap_id (n := (k : Int) + 1) (by omega) (by omega)
      have f5 := slot_ne (c := cI) (s := 1) (fun _ => rfl) (by omega) (dg m) k hlt
      have f6 := idx hlt
      obtain ⟨x, hx⟩ : ∃ x, x = (dg m)[k] := ⟨_, rfl⟩
      have xr := (dg_Dg m).get hlt
      have v1 := vl_take_succ hlt
      rw [← hx] at f6 xr v1
      have w1 := wrap_id (n := x - c) (by omega) (by omega)
      obtain ⟨z, b, hzr, hb, hF⟩ : ∃ z b, (0 ≤ z ∧ z < 1000000000) ∧ vl ((dg n).take (k + 1)) = vl ((dg n).take k) + bp k * z ∧ ((b = true ∧ (k : Int) < ((dg n).length : Int) ∧ (dg n).flatMap cI ≠ [] ∧ ((dg n).flatMap cI)[k]? = some (I z)) ∨ (b = false ∧ ¬(k : Int) < ((dg n).length : Int) ∧ z = 0)) := by
        by_cases hB : k < (dg n).length
        · exact ⟨(dg n)[k], true, (dg_Dg n).get hB, vl_take_succ hB, .inl ⟨rfl, by omega, slot_ne (c := cI) (s := 1) (fun _ => rfl) (by omega) (dg n) k hB, idx hB⟩⟩
        · exact ⟨0, false, by decide, by rw [bp_take_all (by omega)]; omega, .inr ⟨rfl, by omega, rfl⟩⟩
      have w2 := wrap_id (n := x - c - z) (by omega) (by omega)
      have go : ∀ y q : Int, y = x - c - z + 1000000000 * q → vl (o ++ [y]) - bp (k + 1) * q = vl ((dg m).take (k + 1)) - vl ((dg n).take (k + 1)) := by
        intro y q hy
        rw [vl_snoc, ho, bp_succ, v1, hb, borrow_step hy, Int.mul_sub, Int.mul_sub]
        omega
      have w3 := wrap_id (n := x - c - z + 1000000000) (by omega) (by omega)
      obtain ⟨σ1, a1, s1⟩ := grow_append hG (x - c - z) (by omega)
      obtain ⟨σ2, a2, s2⟩ := grow_append hG (x - c - z + 1000000000) (by omega)
      rcases hF with ⟨_, f8, f9, f10⟩ | ⟨_, f8, rfl⟩
      · by_cases hneg : x - c - z < 0
        · refine .inl ⟨_, by simp only [go_sem, h0, h1, h6, h10, h11, h12, f1, f2, f3, f5, f6, f8, f9, f10, w1, w2, w3, hneg, a2]; rfl, ?_⟩
          simp only [go_sem, h0, h1, h10, h11]
          exact ⟨rfl, 1, o ++ [x - c - z + 1000000000], rfl, grow_new s2 (by simp [go_sem]) (by simp), by simp [ho], hd.snoc (by omega) (by omega), go _ 1 (by omega), by omega, by omega⟩
        · refine .inl ⟨_, by simp only [go_sem, h0, h1, h6, h10, h11, h12, f1, f2, f3, f5, f6, f8, f9, f10, w1, w2, hneg, a1]; rfl, ?_⟩
          simp only [go_sem, h0, h1, h10, h11]
          exact ⟨rfl, 0, o ++ [x - c - z], rfl, grow_new s1 (by simp [go_sem]) (by simp), by simp [ho], hd.snoc (by omega) (by omega), go _ 0 (by omega), by omega, by omega⟩
      · rw [Int.sub_zero] at *
        by_cases hneg : x - c < 0
        · refine .inl ⟨_, by simp only [go_sem, h0, h1, h6, h10, h11, h12, f1, f2, f3, f5, f6, f8, w1, w3, hneg, a2]; rfl, ?_⟩
          simp only [go_sem, h0, h1, h10, h11]
          exact ⟨rfl, 1, o ++ [x - c + 1000000000], rfl, grow_new s2 (by simp [go_sem]) (by simp), by simp [ho], hd.snoc (by omega) (by omega), go _ 1 (by omega), by omega, by omega⟩
        · refine .inl ⟨_, by simp only [go_sem, h0, h1, h6, h10, h11, h12, f1, f2, f3, f5, f6, f8, w1, hneg, a1]; rfl, ?_⟩
          simp only [go_sem, h0, h1, h10, h11]
          exact ⟨rfl, 0, o ++ [x - c], rfl, grow_new s1 (by simp [go_sem]) (by simp), by simp [ho], hd.snoc (by omega) (by omega), go _ 0 (by omega), by omega, by omega⟩) (by
      clear hL
      rintro ⟨T, σ, nx⟩ ⟨h0, h1, h10, h11, h12, c, o, h6, hG, ho, hd, hv, hc0, hc1⟩
      simp only at h0 h1 h10 h11 h12 h6 hG
      refine ⟨_, by simp only [go_sem, h11, h12, Int.lt_irrefl]; rfl, by simp, _, _, _, o, rfl, grow_eq (by simp only [go_sem]) hG, ho, hd, ?_⟩
      rw [List.take_length, List.take_of_length_le hBA, vl_dg, vl_dg, ← ho] at hv
      have h7 := vl_lt hd
      have h8 := vl_nonneg hd
      have h9 := bp_pos o.length
      have hc : c = 0 := Classical.byContradiction fun hne => by
        have : c = 1 := by omega
        subst this
        rw [Int.mul_one] at hv
        omega
      subst hc
      rw [Int.mul_zero] at hv
      omega) (by
      simp only [go_sem]
      exact ⟨0, [], rfl, .inl ⟨by simp only [go_sem], rfl⟩, rfl, Dg.nil, by simp [vl], Int.le_refl _, by decide⟩)
  have ht := strim o (by unfold Short; omega)
  rw [trim_vl' hd hv] at ht
  obtain ⟨ids, h1⟩ := grow_strip hG 6
  simp only [go_sem, h1, ht]
theorem smakeZ (b : Bool) (n : Nat) (h : ln n ≤ 60) : fn Try.prog conv ext 120 [Bo b, LI (dg n)] = some (.agg (cZ (sgnN b n))) := by
  have k := smake b (dg n) (short_ln (by omega)) (by rw [trim_dg]; exact h)
  rw [trim_dg] at k
  rw [cZ_sgn]; exact k
theorem sl03AddZ (x y : Int) (hx : ln x.natAbs ≤ 1000000) (hy : ln y.natAbs ≤ 1000000) (h : ln (x + y).natAbs ≤ 60) : fn Try.prog conv ext 125 [.agg (cZ x), .agg (cZ y)] = some (.agg (cZ (x + y))) := by
  have k1 := sCmpL x.natAbs y.natAbs hx hy
  have k2 := sAddL x.natAbs y.natAbs hx hy
  have sg : ∀ b m, sgnN b m = x + y → fn Try.prog conv ext 120 [Bo b, LI (dg m)] = some (.agg (cZ (x + y))) := fun b m hs => by
    have : (x + y).natAbs = m := by rw [← hs]; unfold sgnN; split <;> omega
    rw [← hs]; exact smakeZ b m (by rw [← this]; exact h)
  rw [fn_eq, ev_eqQ (rs := [.cell 4 29]) [2,4,5] rfl Try.func125 rfl rfl (by kernel_rfl) (by kernel_rfl)]
  by_cases h1 : x < 0 <;> by_cases h2 : y < 0
  · have k3 := sg true (x.natAbs + y.natAbs) (by unfold sgnN; rw [if_pos rfl]; omega)
    unfold cZ at *
    rw [decide_eq_true h1, decide_eq_true h2]
    simp only [go_sem, k1, k2, k3]
  · unfold cZ at *
    rw [decide_eq_true h1, decide_eq_false h2]
    by_cases hc : x.natAbs < y.natAbs
    · have c1 : ¬0 ≤ cmpN x.natAbs y.natAbs := by have := cmpN_neg.mpr hc; omega
      have k4 := sSubL y.natAbs x.natAbs hy (by omega)
      have k3 := sg false (y.natAbs - x.natAbs) (by unfold sgnN; rw [if_neg (by decide)]; omega)
      simp only [go_sem, k1, k3, k4, c1]
    · have c1 : 0 ≤ cmpN x.natAbs y.natAbs := by have := mt cmpN_neg.mp hc; omega
      have k4 := sSubL x.natAbs y.natAbs hx (by omega)
      have k3 := sg true (x.natAbs - y.natAbs) (by unfold sgnN; rw [if_pos rfl]; omega)
      simp only [go_sem, k1, k3, k4, c1]
  · unfold cZ at *
    rw [decide_eq_false h1, decide_eq_true h2]
    by_cases hc : x.natAbs < y.natAbs
    · have c1 : ¬0 ≤ cmpN x.natAbs y.natAbs := by have := cmpN_neg.mpr hc; omega
      have k4 := sSubL y.natAbs x.natAbs hy (by omega)
      have k3 := sg true (y.natAbs - x.natAbs) (by unfold sgnN; rw [if_pos rfl]; omega)
      simp only [go_sem, k1, k3, k4, c1]
    · have c1 : 0 ≤ cmpN x.natAbs y.natAbs := by have := mt cmpN_neg.mp hc; omega
      have k4 := sSubL x.natAbs y.natAbs hx (by omega)
      have k3 := sg false (x.natAbs - y.natAbs) (by unfold sgnN; rw [if_neg (by decide)]; omega)
      simp only [go_sem, k1, k3, k4, c1]
  · have k3 := sg false (x.natAbs + y.natAbs) (by unfold sgnN; rw [if_neg (by decide)]; omega)
    unfold cZ at *
    rw [decide_eq_false h1, decide_eq_false h2]
    simp only [go_sem, k1, k2, k3]
theorem sBigIntOfZ (z : Int) (h0 : -9223372036854775808 < z) (h1 : z ≤ 9223372036854775807) : fn Try.prog conv ext 88 [I z] = some (.agg (cZ z)) := by
  have c1 : (z == -9223372036854775808) = false := by rw [beq_eq_false_iff_ne]; omega
  have k1 := sNatOf z.natAbs (by omega)
  have hl : ln z.natAbs ≤ 60 := by have := ln_int (n := z.natAbs) (by omega); omega
  rw [fn_eq, ev_eqQ (rs := [.cell 2 29]) [] rfl Try.func88 rfl rfl (by kernel_rfl) (by kernel_rfl)]
  by_cases hz : z < 0
  · have k2 := smakeZ true z.natAbs hl
    have e : sgnN true z.natAbs = z := by unfold sgnN; rw [if_pos rfl]; omega
    have e1 : ((z.natAbs : Nat) : Int) = 0 - z := by omega
    have w := wrap_id (n := 0 - z) (by omega) (by omega)
    rw [e] at k2
    rw [e1] at k1
    unfold cZ at *
    simp only [go_sem, c1, hz, w, k1, k2]
  · have k2 := smakeZ false z.natAbs hl
    have e : sgnN false z.natAbs = z := by unfold sgnN; rw [if_neg (by decide)]; omega
    have e1 : ((z.natAbs : Nat) : Int) = z := by omega
    rw [e] at k2
    rw [e1] at k1
    unfold cZ at *
    simp only [go_sem, c1, hz, k1, k2]
theorem sLowQ (z : Int) (d : Nat) (hz : z.natAbs < 1000000000000000000) (h0 : d ≠ 0) (hd : d < 1000000000) (b : Bool) (n : Nat) (hb : sgnN b n = z) : fn Try.prog conv ext 119 [Bo b, LI (dg n), LI (dg d)] = some (.agg (cQ (mkRat z d))) := by
  have hn : n = z.natAbs := by rw [← hb]; unfold sgnN; split <;> omega
  subst hn
  have k := sLow b z.natAbs d hz h0 hd
  rw [k]
  have e : cQ (mkRat z d) = lowD (decide (z < 0)) z.natAbs d := cQ_mk z h0
  rw [e]
  unfold lowD
  by_cases hz0 : z.natAbs = 0
  · rw [hz0, Nat.zero_div, dg_zero]; simp
  · have : b = decide (z < 0) := by
      have h1 := hb
      unfold sgnN at h1
      cases b with
      | true => rw [if_pos rfl] at h1; rw [decide_eq_true (by omega)]
      | false => rw [if_neg (by decide)] at h1; rw [decide_eq_false (by omega)]
    rw [this]
theorem sRatOkQ (q : Rat) (h : q.num.natAbs < 1000000000000000000) (hd : q.den < 1000000000) : fn Try.prog conv ext 91 [.agg (cQ q)] = some (Bo true) := by
  have l1 := ln2 h
  have l2 := ln2 (show q.den < 1000000000000000000 by omega)
  unfold ln at l1 l2
  have k1 := sBigIntOk (decide (q.num < 0)) (dg q.num.natAbs) (short_dg (by omega))
  have hx : (!decide (q.num < 0) || decide (0 < (dg q.num.natAbs).length)) = true := by
    by_cases hn : q.num < 0
    · rw [decide_eq_true (List.length_pos_iff.mpr (dg_ne (by omega))), Bool.or_true]
    · rw [decide_eq_false hn]; rfl
  rw [pb_true (natGood_dg (by omega)), hx] at k1
  have k2 := sNatOk (dg q.den) (short_dg (by omega))
  rw [pb_true (natGood_dg (by omega))] at k2
  have k3 := sGcd q.num.natAbs q.den h (by omega) q.den_nz
  rw [q.reduced] at k3
  have k4 := sOne (dg 1) (short_dg (by decide))
  rw [decide_eq_true ((dg_is_one 1).mpr rfl)] at k4
  have c0 : (((dg q.den).length : Int) == 0) = false := by rw [beq_eq_false_iff_ne]; have := app_len (dg_ne q.den_nz); omega
  have c1 : ¬(24 : Int) < ((dg q.num.natAbs).length : Int) := by omega
  have c2 : ¬(24 : Int) < ((dg q.den).length : Int) := by omega
  unfold cQ
  rw [fn_eq, ev_eqQ (rs := [.tmp 2]) [] rfl Try.func91 rfl rfl (by kernel_rfl) (by kernel_rfl)]
  simp only [go_sem, Bool.true_and] at k1
  simp only [go_sem, k1, k2, k3, k4, c0, c1, c2]
theorem sRatMakeZ (x y : Int) (hx : x.natAbs < 1000000000000000000) (hy : y.natAbs < 1000000000) (h0 : y ≠ 0) : fn Try.prog conv ext 87 [.agg (cZ x), .agg (cZ y)] = some (.agg (cQ ((x : Rat) / (y : Rat)))) := by
  have big : ∀ z : Int, z.natAbs < 1000000000000000000 → fn Try.prog conv ext 118 [.agg (cZ z)] = some (Bo true) := fun z hz => by
    have k1 := sBigIntOk (decide (z < 0)) (dg z.natAbs) (short_dg (by omega))
    have hx : (!decide (z < 0) || decide (0 < (dg z.natAbs).length)) = true := by
      by_cases hn : z < 0
      · rw [decide_eq_true (List.length_pos_iff.mpr (dg_ne (by omega))), Bool.or_true]
      · rw [decide_eq_false hn]; rfl
    rw [pb_true (natGood_dg (by omega)), hx] at k1
    exact k1
  have k1 := big x hx
  have k2 := big y (by omega)
  have hd := div_mk (x : Rat) (y : Rat) h0
  have e1 : (x : Rat).num = x := rfl
  have e2 : (x : Rat).den = 1 := rfl
  have e3 : (y : Rat).num = y := rfl
  have e4 : (y : Rat).den = 1 := rfl
  rw [e1, e2, e3, e4, Nat.mul_one, Nat.one_mul] at hd
  have k3 := sLowQ (sgnN (decide (x < 0) != decide (y < 0)) x.natAbs) y.natAbs (by unfold sgnN; split <;> omega) (by omega) hy (decide (x < 0) != decide (y < 0)) x.natAbs rfl
  rw [← hd] at k3
  have e : ∀ a b : Bool, (!a == b) = (a != b) := by decide
  unfold cZ at *
  unfold cQ at *
  rw [fn_eq, ev_eqQ (rs := [.cell 4 31]) [] rfl Try.func87 rfl rfl (by kernel_rfl) (by kernel_rfl)]
  simp only [go_sem, k1, k2, k3, e]
theorem sRatOfZ (x y : Int) (hx : x.natAbs < 1000000000000000000) (hy : y.natAbs < 1000000000) (h0 : y ≠ 0) : fn Try.prog conv ext 52 [I x, I y] = some (.agg (cQ ((x : Rat) / (y : Rat)))) := by
  have k1 := sBigIntOfZ x (by omega) (by omega)
  have k2 := sBigIntOfZ y (by omega) (by omega)
  have k3 := sRatMakeZ x y hx hy h0
  unfold cZ at *
  unfold cQ at *
  rw [fn_eq, ev_eqQ (rs := [.cell 4 31]) [] rfl Try.func52 rfl rfl (by kernel_rfl) (by kernel_rfl)]
  simp only [go_sem, k1, k2, k3]
theorem sFromIntZ (z : Int) (h0 : -9223372036854775808 < z) (h1 : z ≤ 9223372036854775807) : fn Try.prog conv ext 62 [I z] = some (.agg (cQ (z : Rat))) := by
  have k1 := sBigIntOfZ z h0 h1
  have e1 : (z : Rat).num = z := rfl
  have e2 : (z : Rat).den = 1 := rfl
  unfold cZ at *
  unfold cQ
  rw [e1, e2, dg_one (d := 1) (by decide) (by decide), fn_eq, ev_eqQ (rs := [.cell 2 31]) [] rfl Try.func62 rfl rfl (by kernel_rfl) (by kernel_rfl)]
  (simp only [go_sem, k1]) <;> rfl
theorem sOneQ (n : Nat) (h : ln n ≤ 1000000) : fn Try.prog conv ext 123 [LI (dg n)] = some (Bo (decide (n = 1))) := by
  rw [sOne (dg n) (short_ln h), decide_eq_decide.mpr (dg_is_one n)]
theorem sNegQ (q : Rat) (h1 : ln q.num.natAbs ≤ 60) (h2 : ln q.den ≤ 60) : fn Try.prog conv ext 93 [.agg (cQ q)] = some (.agg (cQ (-q))) := by
  have k2 := smakeZ (!decide (q.num < 0)) q.num.natAbs h1
  have e : cZ (sgnN (!decide (q.num < 0)) q.num.natAbs) = cZ (-q.num) := by
    unfold sgnN
    by_cases h : q.num < 0
    · rw [decide_eq_true h, Bool.not_true, if_neg (by decide)]; congr 1; omega
    · rw [decide_eq_false h, Bool.not_false, if_pos rfl]; congr 1; omega
  rw [e] at k2
  have z1 : ¬(dg q.den).length = 0 := app_len (dg_ne q.den_nz)
  have s1 : (dg q.den).length ≤ maxLen ∧ (dg q.den).length * 8 ≤ 140737488355328 := by unfold ln at h2; unfold maxLen; omega
  unfold cZ at *
  unfold cQ
  rw [Rat.neg_num, Rat.neg_den, fn_eq, ev_eqQ (rs := [.cell 2 31]) [1] rfl Try.func93 rfl rfl (by kernel_rfl) (by kernel_rfl)]
  simp only [go_sem, k2, z1, s1]
theorem sAddQ (x y : Rat) (hx : Sm x) (hy : Sm y) : fn Try.prog conv ext 92 [.agg (cQ x), .agg (cQ y)] = some (.agg (cQ (x + y))) := by
  have n1 := hx.nd hy
  have n2 := hy.nd hx
  have hdd := hx.dd hy
  have o1 := sOneQ x.den hx.d
  have o2 := sOneQ y.den hy.d
  have k1 := sMulL x.num.natAbs y.den hx.n hy.d
  have k2 := sMulL y.num.natAbs x.den hy.n hx.d
  have k3 := sMulL x.den y.den hx.d hy.d
  have sc : ∀ (q : Rat) (d : Nat), (q.num * d).natAbs < 12000000000000 → fn Try.prog conv ext 120 [Bo (decide (q.num < 0)), LI (dg (q.num.natAbs * d))] = some (.agg (cZ (q.num * d))) := fun q d hb => by
    have e : sgnN (decide (q.num < 0)) (q.num.natAbs * d) = q.num * d := by
      have h := sgn_abs q.num
      conv => rhs; rw [← h]
      unfold sgnN
      by_cases q' : q.num < 0
      · rw [decide_eq_true q', if_pos rfl, if_pos rfl, Int.natCast_mul, Int.neg_mul]
      · rw [decide_eq_false q', if_neg (by decide), if_neg (by decide), Int.natCast_mul]
    have hl : ln (q.num.natAbs * d) ≤ 60 := by
      rw [Int.natAbs_mul, Int.natAbs_natCast] at hb
      have := ln2 (n := q.num.natAbs * d) (by omega)
      omega
    rw [smakeZ _ _ hl, e]
  have k4 := sc x y.den n1
  have k5 := sc y x.den n2
  have k6 := sl03AddZ (x.num * y.den) (y.num * x.den) (lnS (by omega)) (lnS (by omega)) (by have := ln2 (n := (x.num * y.den + y.num * x.den).natAbs) (by omega); omega)
  have k7 := sLowQ (x.num * y.den + y.num * x.den) (x.den * y.den) (by omega) (dd0 x y) hdd (decide (x.num * y.den + y.num * x.den < 0)) (x.num * y.den + y.num * x.den).natAbs (sgn_abs _)
  rw [← Rat.add_def'] at k7
  rw [fn_eq, ev_eqQ (rs := [.cell 4 31]) [] rfl Try.func92 rfl rfl (by kernel_rfl) (by kernel_rfl)]
  by_cases h1 : x.den = 1
  · by_cases h2 : y.den = 1
    · have hxn := hx.1
      have hyn := hy.1
      have m1 := sl03AddZ x.num y.num (lnS (by omega)) (lnS (by omega)) (by have := ln2 (n := (x.num + y.num).natAbs) (by omega); omega)
      have m2 := sLowQ (x.num + y.num) 1 (by omega) (by decide) (by decide) (decide (x.num + y.num < 0)) (x.num + y.num).natAbs (sgn_abs _)
      have e : mkRat (x.num + y.num) 1 = x + y := by rw [Rat.add_def', h1, h2]; simp
      rw [e, dg_one (d := 1) (by decide) (by decide)] at m2
      have m2' : fn Try.prog conv ext 119 [Bo (decide (x.num + y.num < 0)), LI (dg (x.num + y.num).natAbs), .ts [I 1] 1] = some (.agg (cQ (x + y))) := m2
      rw [decide_eq_true h1] at o1
      rw [decide_eq_true h2] at o2
      unfold cZ at *
      unfold cQ at *
      simp only [go_sem, o1, o2, m1, m2']
    · rw [decide_eq_true h1] at o1
      rw [decide_eq_false h2] at o2
      unfold cZ at *
      unfold cQ at *
      simp only [go_sem, o1, o2, k1, k2, k3, k4, k5, k6, k7]
  · rw [decide_eq_false h1] at o1
    unfold cZ at *
    unfold cQ at *
    simp only [go_sem, o1, k1, k2, k3, k4, k5, k6, k7]
theorem Sm.neg {q : Rat} (h : Sm q) : Sm (-q) := by
  unfold Sm at *
  rw [Rat.neg_num, Rat.neg_den, Int.natAbs_neg]; exact h
theorem sRatSub (x y : Rat) (hx : Sm x) (hy : Sm y) : fn Try.prog conv ext 61 [.agg (cQ x), .agg (cQ y)] = some (.agg (cQ (x - y))) := by
  have k1 := sRatOkQ x (by have := hx.1; omega) (by have := hx.2; omega)
  have k2 := sRatOkQ y (by have := hy.1; omega) (by have := hy.2; omega)
  have k3 := sNegQ y (by have := ln2 (n := y.num.natAbs) (by have := hy.1; omega); omega) (by have := ln2 (n := y.den) (by have := hy.2; omega); omega)
  have k4 := sAddQ x (-y) hx hy.neg
  rw [← Rat.sub_eq_add_neg] at k4
  unfold cQ at *
  rw [fn_eq, ev_eqQ (rs := [.cell 4 31]) [] rfl Try.func61 rfl rfl (by kernel_rfl) (by kernel_rfl)]
  simp only [go_sem, k1, k2, k3, k4]
end Go.Proofs.Ytlkpocljgikpgaa
namespace Go.Proofs.Ytlkpocljgikpgaa
open Go Go.TV

theorem sBeamOk (b : Beam) : fn Try.prog conv ext 59 [.agg (cBeam b)] = some (Bo (beamB b)) := by
  have k1 := l01In b.left (-1000) 1000
  have k2 := l01In b.right (-1000) 1000
  have k3 := l01In b.low (-1000) 1000
  have k4 := l01In b.high (-1000) 1000
  have k5 := l01In b.weight 0 1000
  unfold beamB
  rw [fn_eq, ev_eqQ (rs := [.tmp 2]) [] rfl Try.func59 rfl rfl (by kernel_rfl) (by kernel_rfl)]
  generalize inB b.left (-1000) 1000 = b1 at *
  generalize inB b.right (-1000) 1000 = b2 at *
  generalize inB b.low (-1000) 1000 = b3 at *
  generalize inB b.high (-1000) 1000 = b4 at *
  cases b1
  · simp only [go_sem, k1]
  cases b2
  · simp only [go_sem, k1, k2]
  cases b3
  · simp only [go_sem, k1, k2, k3]
  cases b4
  · simp only [go_sem, k1, k2, k3, k4]
  by_cases h1 : b.left < b.right
  · by_cases h2 : b.low ≤ b.high
    · simp only [go_sem, k1, k2, k3, k4, k5, h1, h2]
    · simp only [go_sem, k1, k2, k3, k4, h1, h2]
  · simp only [go_sem, k1, k2, k3, k4, h1]
theorem sRight (b : Beam) (h : BeamGood b) (p : Int) (hp : -1000 ≤ p ∧ p ≤ 1000) : fn Try.prog conv ext 60 [.agg (cBeam b), I p] = some (.agg (cQ (rightQ b p))) := by
  have hs := right_small h hp
  obtain ⟨⟨l0, l1⟩, ⟨r0, r1⟩, _, _, hlr, _, w0, w1⟩ := h
  have a1 := wrap_id (n := p - b.left) (by omega) (by omega)
  have a2 := wrap_id (n := b.weight * (p - b.left)) (by omega) (by omega)
  have a3 := wrap_id (n := b.right - b.left) (by omega) (by omega)
  have k1 : fn Try.prog conv ext 52 [I (b.weight * (p - b.left)), I (b.right - b.left)] = some (.agg (cQ (rightQ b p))) := sRatOfZ (b.weight * (p - b.left)) (b.right - b.left) (by omega) (by omega) (by omega)
  generalize rightQ b p = R at *
  unfold cQ at *
  rw [fn_eq, ev_eqQ (rs := [.cell 4 31]) [] rfl Try.func60 rfl rfl (by kernel_rfl) (by kernel_rfl)]
  simp only [go_sem, a1, a2, a3, k1]
theorem sLeftQ (b : Beam) (h : BeamGood b) (p : Int) (hp : -1000 ≤ p ∧ p ≤ 1000) : fn Try.prog conv ext 61 [.agg (cQ (b.weight : Rat)), .agg (cQ (rightQ b p))] = some (.agg (cQ ((b.weight : Rat) - rightQ b p))) := by
  have hs := right_small h hp
  have e1 : (b.weight : Rat).num = b.weight := rfl
  exact sRatSub (b.weight : Rat) (rightQ b p) ⟨by rw [e1]; have := h.w; omega, by show 1 < _; decide⟩ hs.2.1
/-- The two shares as a tree. -/
def shT (b : Beam) (p q : Int) (ok : Bool) : V := if ok = true then .tup [.agg (cQ ((b.weight : Rat) - rightQ b p)), .agg (cQ (rightQ b q)), Bo true] else .tup [.agg zQ, .agg zQ, Bo false]
theorem sShareAt (b : Beam) (p : Int) : fn Try.prog conv ext 24 [.agg (cBeam b), I p] = some (shT b p p (beamB b && decide (b.low ≤ p) && decide (p ≤ b.high))) := by
  have k1 := sBeamOk b
  have k0 := l01In p b.low b.high
  unfold shT zQ
  rw [fn_eq, ev_eqQ (rs := [.cell 4 31, .cell 5 31, .tmp 6]) [4] rfl Try.func24 rfl rfl (by kernel_rfl) (by kernel_rfl)]
  cases hb : beamB b with
  | false =>
    rw [hb] at k1
    (simp only [go_sem, k1]) <;> rfl
  | true =>
  rw [hb] at k1
  have hg := beamGood hb
  cases hi : inB p b.low b.high with
  | false =>
    rw [hi] at k0
    have : (true && decide (b.low ≤ p) && decide (p ≤ b.high)) = false := by rw [Bool.true_and]; exact hi
    rw [this]
    (simp only [go_sem, k1, k0]) <;> rfl
  | true =>
  rw [hi] at k0
  have hin := inB_true hi
  have : (true && decide (b.low ≤ p) && decide (p ≤ b.high)) = true := by rw [Bool.true_and]; exact hi
  rw [this]
  have hp : -1000 ≤ p ∧ p ≤ 1000 := by have := hg.lo; have := hg.hi; omega
  have m1 := sRight b hg p hp
  have m2 := sFromIntZ b.weight (by have := hg.w; omega) (by have := hg.w; omega)
  have m3 := sLeftQ b hg p hp
  generalize ((b.weight : Rat) - rightQ b p) = L at *
  generalize rightQ b p = R at *
  generalize (b.weight : Rat) = B at *
  unfold cQ at *
  simp only [go_sem, k1, k0, m1, m2, m3]
theorem sWorstShares (b : Beam) : fn Try.prog conv ext 26 [.agg (cBeam b)] = some (shT b b.low b.high (beamB b)) := by
  have k1 := sBeamOk b
  unfold shT zQ
  rw [fn_eq, ev_eqQ (rs := [.cell 2 31, .cell 3 31, .tmp 4]) [3] rfl Try.func26 rfl rfl (by kernel_rfl) (by kernel_rfl)]
  cases hb : beamB b with
  | false =>
    rw [hb] at k1
    (simp only [go_sem, k1]) <;> rfl
  | true =>
  rw [hb] at k1
  have hg := beamGood hb
  have m1 := sRight b hg b.low (by have := hg.lo; omega)
  have m2 := sFromIntZ b.weight (by have := hg.w; omega) (by have := hg.w; omega)
  have m3 := sLeftQ b hg b.low (by have := hg.lo; omega)
  have m4 := sRight b hg b.high (by have := hg.hi; omega)
  generalize ((b.weight : Rat) - rightQ b b.low) = L at *
  generalize rightQ b b.low = R at *
  generalize rightQ b b.high = R2 at *
  generalize (b.weight : Rat) = B at *
  unfold cQ at *
  simp only [go_sem, k1, m1, m2, m3, m4]
theorem toBeam (b : Beam) : fn Try.prog conv ext 25 [.agg (cBeam b)] = some (.agg (cBeam b)) := by
  rw [fn_eq, ev_eqQ (rs := [.cell 2 24]) [] rfl Try.func25 rfl rfl (by kernel_rfl) (by kernel_rfl)]
  simp only [go_sem]
end Go.Proofs.Ytlkpocljgikpgaa
namespace Go.TV

/-! ### Memory of one's own: a value whose blocks are all its own, writable, each reached once -/
def ownL (f : V → Option (V × List Nat)) : List V → Option (List V × List Nat)
  | [] => some ([], [])
  | v :: vs => match f v, ownL f vs with
    | some (t, i), some (ts, j) => some (t :: ts, i ++ j)
    | _, _ => none
def own (σ : Store) : Nat → V → Option (V × List Nat)
  | 0, v => match v with
    | .sc u => some (.sc u, [])
    | .nil => some (.ts [] 0, [])
    | _ => none
  | d + 1, v => match v with
    | .sc u => some (.sc u, [])
    | .nil => some (.ts [] 0, [])
    | .agg vs => match ownL (own σ d) vs with
      | some (ts, ids) => some (.agg ts, ids)
      | none => none
    | .rs b off len => match σ b with
      | some B => if off = 0 ∧ B.wr = true ∧ len * B.st = B.cells.length then
          match ownL (own σ d) B.cells with
          | some (ts, ids) => some (.ts ts len, b :: ids)
          | none => none
        else none
      | none => none
    | _ => none
/-- An own value that reads as the tree t, by the blocks ids. -/
def Own (σ : Store) (d : Nat) (v t : V) (ids : List Nat) : Prop := own σ d v = some (t, ids) ∧ ids.Nodup

theorem ownL_congr {f g : V → Option (V × List Nat)} : ∀ {vs ts : List V} {ids : List Nat}, (∀ v t i, f v = some (t, i) → (∀ b ∈ i, b ∈ ids) → g v = some (t, i)) → ownL f vs = some (ts, ids) → ownL g vs = some (ts, ids)
  | [], ts, ids, _, h => h
  | v :: vs, ts, ids, hfg, h => by
    unfold ownL at h ⊢
    split at h
    · rename_i t i ts' j e1 e2
      simp only [Option.some.injEq, Prod.mk.injEq] at h
      obtain ⟨rfl, rfl⟩ := h
      rw [hfg v t i e1 (fun b hb => List.mem_append_left _ hb), ownL_congr (fun v t i h hi => hfg v t i h (fun b hb => List.mem_append_right _ (hi b hb))) e2]
    · cases h
theorem own_frame {σ σ' : Store} : ∀ (d : Nat) (v t : V) (ids : List Nat), own σ d v = some (t, ids) → (∀ b ∈ ids, σ' b = σ b) → own σ' d v = some (t, ids)
  | 0, v, t, ids, h, _ => by cases v <;> simp [own] at h ⊢ <;> exact h
  | d + 1, v, t, ids, h, hb => by
    cases v <;> simp only [own] at h ⊢ <;> try exact h
    · split at h
      · rename_i ts i e
        simp only [Option.some.injEq, Prod.mk.injEq] at h
        obtain ⟨rfl, rfl⟩ := h
        rw [ownL_congr (fun v t i h hi => own_frame d v t i h fun b hb' => hb b (hi b hb')) e]
      · cases h
    · rename_i b off len
      split at h
      · rename_i B hB
        split at h
        · rename_i hc
          split at h
          · rename_i ts i e
            simp only [Option.some.injEq, Prod.mk.injEq] at h
            obtain ⟨rfl, rfl⟩ := h
            rw [hb b List.mem_cons_self, hB]
            simp only
            rw [if_pos hc, ownL_congr (fun v t i h hi => own_frame d v t i h fun b hb' => hb b (List.mem_cons_of_mem _ (hi b hb'))) e]
          · cases h
        · cases h
      · cases h
theorem ownL_strip {σ : Store} {f g : V → Option (V × List Nat)} (hfg : ∀ v t i, f v = some (t, i) → g v = some (t, i)) : ∀ {vs ts : List V} {ids : List Nat}, ownL f vs = some (ts, ids) → stripL g vs = some (ts, ids)
  | [], ts, ids, h => h
  | v :: vs, ts, ids, h => by
    unfold ownL at h
    unfold stripL
    split at h
    · rename_i t i ts' j e1 e2
      simp only [Option.some.injEq, Prod.mk.injEq] at h
      obtain ⟨rfl, rfl⟩ := h
      rw [hfg v t i e1, ownL_strip (σ := σ) hfg e2]
    · cases h
theorem own_strip {σ : Store} : ∀ (d : Nat) (v t : V) (ids : List Nat), own σ d v = some (t, ids) → ∀ d', d ≤ d' → strip σ d' v = some (t, ids)
  | 0, v, t, ids, h, d', _ => by
    cases v <;> simp [own] at h
    · rename_i u; obtain ⟨rfl, rfl⟩ := h; exact strip_sc _ _ _
    · obtain ⟨rfl, rfl⟩ := h; exact strip_nil _ _
  | d + 1, v, t, ids, h, d', hd => by
    obtain ⟨e, rfl⟩ : ∃ e, d' = e + 1 := ⟨d' - 1, by omega⟩
    cases v <;> simp only [own] at h
    · simp only [Option.some.injEq, Prod.mk.injEq] at h; obtain ⟨rfl, rfl⟩ := h; exact strip_sc _ _ _
    · simp only [Option.some.injEq, Prod.mk.injEq] at h; obtain ⟨rfl, rfl⟩ := h; exact strip_nil _ _
    · cases h
    · split at h
      · rename_i ts i e1
        simp only [Option.some.injEq, Prod.mk.injEq] at h
        obtain ⟨rfl, rfl⟩ := h
        rw [strip_agg, ownL_strip (σ := σ) (fun v t i h => own_strip d v t i h e (by omega)) e1]; rfl
      · cases h
    · cases h
    · cases h
    · cases h
    · cases h
    · cases h
    · rename_i b off len
      split at h
      · rename_i B hB
        split at h
        · rename_i hc
          split at h
          · rename_i ts i e1
            simp only [Option.some.injEq, Prod.mk.injEq] at h
            obtain ⟨rfl, rfl⟩ := h
            obtain ⟨rfl, _, hl⟩ := hc
            rw [strip_rs, hB]
            simp only [Option.bind_some]
            rw [if_pos (by omega), List.drop_zero, List.take_of_length_le (by omega), ownL_strip (σ := σ) (fun v t i h => own_strip d v t i h e (by omega)) e1]; rfl
          · cases h
        · cases h
      · cases h
theorem ownL_gather {f : V → Option (V × List Nat)} {g : V → Option (List Nat)} (hfg : ∀ v t i, f v = some (t, i) → g v = some i) : ∀ {vs ts : List V} {ids : List Nat}, ownL f vs = some (ts, ids) → gatherL g vs = some ids
  | [], ts, ids, h => by simp only [ownL, Option.some.injEq, Prod.mk.injEq] at h; rw [← h.2]; rfl
  | v :: vs, ts, ids, h => by
    unfold ownL at h
    unfold gatherL
    split at h
    · rename_i t i ts' j e1 e2
      simp only [Option.some.injEq, Prod.mk.injEq] at h
      obtain ⟨rfl, rfl⟩ := h
      rw [hfg v t i e1, ownL_gather hfg e2]
    · cases h
theorem own_gather {σ : Store} : ∀ (d : Nat) (v t : V) (ids : List Nat), own σ d v = some (t, ids) → ∀ d', d ≤ d' → gather σ d' v = some ids
  | 0, v, t, ids, h, d', _ => by
    cases v <;> simp [own] at h
    · obtain ⟨rfl, rfl⟩ := h; cases d' <;> rfl
    · obtain ⟨rfl, rfl⟩ := h; cases d' <;> rfl
  | d + 1, v, t, ids, h, d', hd => by
    obtain ⟨e, rfl⟩ : ∃ e, d' = e + 1 := ⟨d' - 1, by omega⟩
    cases v <;> simp only [own] at h
    · simp only [Option.some.injEq, Prod.mk.injEq] at h; rw [← h.2]; rfl
    · simp only [Option.some.injEq, Prod.mk.injEq] at h; rw [← h.2]; rfl
    · cases h
    · split at h
      · rename_i ts i e1
        simp only [Option.some.injEq, Prod.mk.injEq] at h
        obtain ⟨rfl, rfl⟩ := h
        unfold gather
        exact ownL_gather (fun v t i h => own_gather d v t i h e (by omega)) e1
      · cases h
    · cases h
    · cases h
    · cases h
    · cases h
    · cases h
    · rename_i b off len
      split at h
      · rename_i B hB
        split at h
        · rename_i hc
          split at h
          · rename_i ts i e1
            simp only [Option.some.injEq, Prod.mk.injEq] at h
            obtain ⟨rfl, rfl⟩ := h
            unfold gather
            simp only [hB]
            rw [ownL_gather (fun v t i h => own_gather d v t i h e (by omega)) e1]
          · cases h
        · cases h
      · cases h
theorem own_mem {σ : Store} : ∀ (d : Nat) (v t : V) (ids : List Nat), own σ d v = some (t, ids) → ∀ b ∈ ids, ∃ B, σ b = some B := by
  have L : ∀ (f : V → Option (V × List Nat)) (p : Nat → Prop), (∀ v t i, f v = some (t, i) → ∀ b ∈ i, p b) → ∀ (vs ts : List V) (ids : List Nat), ownL f vs = some (ts, ids) → ∀ b ∈ ids, p b := by
    intro f p hf vs
    induction vs with
    | nil => intro ts ids h b hb; simp only [ownL, Option.some.injEq, Prod.mk.injEq] at h; rw [← h.2] at hb; cases hb
    | cons v vs ih =>
      intro ts ids h b hb
      unfold ownL at h
      split at h
      · rename_i t i ts' j e1 e2
        simp only [Option.some.injEq, Prod.mk.injEq] at h
        obtain ⟨rfl, rfl⟩ := h
        rcases List.mem_append.mp hb with hb | hb
        · exact hf v t i e1 b hb
        · exact ih _ _ e2 b hb
      · cases h
  intro d
  induction d with
  | zero =>
    intro v t ids h b hb
    cases v <;> simp [own] at h
    · rw [h.2] at hb; cases hb
    · rw [h.2] at hb; cases hb
  | succ d ih =>
    intro v t ids h b hb
    cases v <;> simp only [own] at h
    · simp only [Option.some.injEq, Prod.mk.injEq] at h; rw [← h.2] at hb; cases hb
    · simp only [Option.some.injEq, Prod.mk.injEq] at h; rw [← h.2] at hb; cases hb
    · cases h
    · split at h
      · rename_i ts i e1
        simp only [Option.some.injEq, Prod.mk.injEq] at h
        obtain ⟨rfl, rfl⟩ := h
        exact L _ _ (fun v t i h => ih v t i h) _ _ _ e1 b hb
      · cases h
    · cases h
    · cases h
    · cases h
    · cases h
    · cases h
    · rename_i b' off len
      split at h
      · rename_i B hB
        split at h
        · split at h
          · rename_i ts i e1
            simp only [Option.some.injEq, Prod.mk.injEq] at h
            obtain ⟨rfl, rfl⟩ := h
            rcases List.mem_cons.mp hb with rfl | hb
            · exact ⟨B, hB⟩
            · exact L _ _ (fun v t i h => ih v t i h) _ _ _ e1 b hb
          · cases h
        · cases h
      · cases h
theorem Own.frame {σ σ' : Store} {d : Nat} {v t : V} {ids : List Nat} (h : Own σ d v t ids) (hb : ∀ b ∈ ids, σ' b = σ b) : Own σ' d v t ids := ⟨own_frame d v t ids h.1 hb, h.2⟩
theorem Own.upd {σ : Store} {d : Nat} {v t : V} {ids : List Nat} {c : Nat} {x : Option Blk} (hc : ¬c ∈ ids) : Own (upd σ c x) d v t ids = Own σ d v t ids := by
  refine propext ⟨fun h => h.frame fun b hb => ?_, fun h => h.frame fun b hb => ?_⟩
  · exact (upd_ne _ _ (fun e => hc (by rw [← e]; exact hb))).symm
  · exact upd_ne _ _ (fun e => hc (by rw [← e]; exact hb))
theorem join_in {n : Nat} {σ σ1 : Store} {ids : List Nat} {b : Nat} (hn : ¬b < n) (hb : b ∈ ids) : joinS n σ σ1 ids b = σ1 b := by
  unfold joinS; rw [if_neg hn, if_pos hb]
theorem join_lt {n : Nat} {σ σ1 : Store} {ids : List Nat} {b : Nat} (hn : b < n) : joinS n σ σ1 ids b = σ b := by
  unfold joinS; rw [if_pos hn]
theorem Own.join {n : Nat} {σ σ1 : Store} {d : Nat} {v t : V} {ids : List Nat} (h : Own σ1 d v t ids) (hn : ∀ b ∈ ids, n ≤ b) : Own (joinS n σ σ1 ids) d v t ids :=
  h.frame fun b hb => join_in (by have := hn b hb; omega) hb
theorem Own.joinLow {n : Nat} {σ σ1 : Store} {ids' : List Nat} {d : Nat} {v t : V} {ids : List Nat} (h : Own σ d v t ids) (hn : ∀ b ∈ ids, b < n) : Own (joinS n σ σ1 ids') d v t ids :=
  h.frame fun b hb => join_lt (hn b hb)
theorem Own.strip {σ : Store} {d : Nat} {v t : V} {ids : List Nat} (h : Own σ d v t ids) {d' : Nat} (hd : d ≤ d') : TV.strip σ d' v = some (t, ids) := own_strip d v t ids h.1 d' hd
theorem Own.gather {σ : Store} {d : Nat} {v t : V} {ids : List Nat} (h : Own σ d v t ids) {d' : Nat} (hd : d ≤ d') : TV.gather σ d' v = some ids := own_gather d v t ids h.1 d' hd
/-- Own ints: the two ways they lie. -/
theorem ownL_ints {σ : Store} {d : Nat} : ∀ {cells : List V} {xs : List Int} {ids : List Nat}, ownL (own σ d) cells = some (xs.flatMap cI, ids) → cells = xs.flatMap cI ∧ ids = []
  | [], xs, ids, h => by
    simp only [ownL, Option.some.injEq, Prod.mk.injEq] at h
    exact ⟨h.1, h.2.symm⟩
  | v :: vs, xs, ids, h => by
    unfold ownL at h
    split at h
    · rename_i t i ts' j e1 e2
      simp only [Option.some.injEq, Prod.mk.injEq] at h
      obtain ⟨h1, rfl⟩ := h
      cases xs with
      | nil => cases h1
      | cons x xs =>
        have h1' : t :: ts' = I x :: xs.flatMap cI := h1
        obtain ⟨rfl, rfl⟩ := List.cons.inj h1'
        obtain ⟨rfl, rfl⟩ := ownL_ints e2
        have : v = I x ∧ i = [] := by
          cases d with
          | zero => cases v <;> simp [own] at e1; exact ⟨by rw [e1.1], e1.2⟩
          | succ d =>
            cases v <;> simp only [own] at e1
            · simp only [Option.some.injEq, Prod.mk.injEq] at e1; exact ⟨by rw [e1.1], e1.2.symm⟩
            · simp at e1
            · cases e1
            · split at e1 <;> simp at e1
            · cases e1
            · cases e1
            · cases e1
            · cases e1
            · cases e1
            · split at e1
              · split at e1
                · split at e1 <;> simp at e1
                · cases e1
              · cases e1
        exact ⟨by rw [this.1]; rfl, by rw [this.2]; rfl⟩
    · cases h
theorem own_ints {σ : Store} {d : Nat} {v : V} {xs : List Int} {ids : List Nat} (h : Own σ (d + 1) v (LI xs) ids) : (v = .nil ∧ xs = [] ∧ ids = []) ∨ ∃ b st, v = .rs b 0 xs.length ∧ ids = [b] ∧ σ b = some ⟨xs.flatMap cI, st, true⟩ ∧ xs.length * st = xs.length := by
  obtain ⟨h, _⟩ := h
  cases v <;> simp only [own] at h
  · simp at h
  · simp only [Option.some.injEq, Prod.mk.injEq] at h
    refine .inl ⟨rfl, ?_, h.2.symm⟩
    have h1 := h.1
    simp only [LI, V.ts.injEq] at h1
    exact List.eq_nil_of_length_eq_zero h1.2.symm
  · cases h
  · split at h <;> simp at h
  · cases h
  · cases h
  · cases h
  · cases h
  · cases h
  · rename_i b off len
    split at h
    · rename_i B hB
      split at h
      · rename_i hc
        obtain ⟨rfl, hw, hl⟩ := hc
        split at h
        · rename_i ts i e1
          simp only [Option.some.injEq, Prod.mk.injEq, LI, V.ts.injEq] at h
          obtain ⟨⟨rfl, rfl⟩, rfl⟩ := h
          obtain ⟨h1, rfl⟩ := ownL_ints e1
          obtain ⟨cells, st, wr⟩ := B
          simp only at hw hl h1
          subst hw h1
          exact .inr ⟨b, st, rfl, rfl, hB, by rw [hl, cI_len]⟩
        · cases h
      · cases h
    · cases h
theorem ownL_cI (σ : Store) (d : Nat) (xs : List Int) : ownL (own σ d) (xs.flatMap cI) = some (xs.flatMap cI, []) := by
  induction xs with
  | nil => rfl
  | cons x xs ih =>
    show ownL (own σ d) (I x :: xs.flatMap cI) = _
    unfold ownL
    rw [ih]
    cases d <;> rfl
theorem own_of_rs {σ : Store} {d b st : Nat} {xs : List Int} (h : σ b = some ⟨xs.flatMap cI, st, true⟩) (hl : xs.length * st = xs.length) : Own σ (d + 1) (.rs b 0 xs.length) (LI xs) [b] := by
  refine ⟨?_, by simp⟩
  simp only [own, h]
  rw [if_pos ⟨trivial, trivial, by rw [cI_len]; exact hl⟩, ownL_cI]
theorem own_of_nil (σ : Store) (d : Nat) : Own σ d .nil (LI []) [] := ⟨by cases d <;> rfl, by simp⟩
/-- What marking writes. -/
def marks (k : Int) : Nat → List Int
  | 0 => []
  | n + 1 => k :: marks (k + 1) n
theorem marks_len (k : Int) (n : Nat) : (marks k n).length = n := by
  induction n generalizing k with
  | zero => rfl
  | succ n ih => simp [marks, ih]
theorem marks_get (k : Int) (n i : Nat) (h : i < (marks k n).length) : (marks k n)[i] = k + i := by
  induction n generalizing k i with
  | zero => simp [marks] at h
  | succ n ih =>
    cases i with
    | zero => simp [marks]
    | succ i =>
      have := ih (k + 1) i (by simpa [marks] using h)
      simp only [marks, List.getElem_cons_succ, this]
      omega

/-! ### Calls that hand memory over -/
def drawJ (nx nx1 : Nat) (σ σ1 : Store) (ids : List Nat) : Store := patchS [] nx nx1 σ (joinS nx (restrict σ []) σ1 ids)
theorem opD_own {P : Program} {conv : FuncId → Conv} {call : Call} {d : Option Tmp} {ty : TypeId} {ps : String} {af : Array Edge} {gd : Option (Nat × Bool)} {T : Nat → V} {σ : Store} {nx : Nat} {g : FuncId} (h : conv g = .own) (args : Array Operand) (ts : Array TypeId) :
    evOpD P conv call ⟨d, .call ⟨.value (.func g), args, ts⟩, ty, ps, af, gd⟩ T σ nx = (stripL (strip (restrict σ []) depth) (args.toList.map (val T))).bind fun p => (call g p.1 noStore nx).bind fun q => (gather q.2.1 depth q.1).map fun ids => (q.1, drawJ nx q.2.2 σ q.2.1 ids, q.2.2) := by
  unfold evOpD
  have hf : footIds conv T (⟨d, .call ⟨.value (.func g), args, ts⟩, ty, ps, af, gd⟩ : Oper) = [] := by
    simp only [footIds, val, h]
  rw [hf]
  simp only [List.all_nil, if_true]
  have e := op_call (P := P) (conv := conv) (call := call) d ty ps af gd T (restrict σ []) nx (.func g) args ts
  rw [e]
  simp only [val, callV_clo, List.append_nil, call_own h]
  cases stripL (strip (restrict σ []) depth) (args.toList.map (val T)) with
  | none => rfl
  | some p =>
    simp only [Option.bind_some]
    cases call g p.1 noStore nx with
    | none => rfl
    | some q =>
      simp only [Option.bind_some]
      cases gather q.2.1 depth q.1 <;> rfl
theorem w_own {conv : FuncId → Conv} {d : Option Tmp} {ty : TypeId} {ps : String} {af : Array Edge} {gd : Option (Nat × Bool)} {g : FuncId} (h : conv g = .own) (args : Array Operand) (ts : Array TypeId) : writer conv ⟨d, .call ⟨.value (.func g), args, ts⟩, ty, ps, af, gd⟩ = false := by unfold writer; simp only [h]
theorem foot_own {conv : FuncId → Conv} {d : Option Tmp} {ty : TypeId} {ps : String} {af : Array Edge} {gd : Option (Nat × Bool)} {T : Nat → V} {g : FuncId} (h : conv g = .own) (args : Array Operand) (ts : Array TypeId) : footIds conv T ⟨d, .call ⟨.value (.func g), args, ts⟩, ty, ps, af, gd⟩ = [] := by
  simp only [footIds, val, h]
theorem dj_in {nx nx1 : Nat} {σ σ1 : Store} {ids : List Nat} {b : Nat} (h0 : nx ≤ b) (h1 : b < nx1) (hb : b ∈ ids) : drawJ nx nx1 σ σ1 ids b = σ1 b := by
  unfold drawJ patchS
  rw [if_pos (.inr ⟨h0, h1⟩), join_in (by omega) hb]
theorem dj_lt {nx nx1 : Nat} {σ σ1 : Store} {ids : List Nat} {b : Nat} (h : b < nx) : drawJ nx nx1 σ σ1 ids b = σ b := by
  unfold drawJ patchS
  rw [if_neg (by simp; omega)]
theorem Own.draw {nx nx1 : Nat} {σ σ1 : Store} {d : Nat} {v t : V} {ids : List Nat} (h : Own σ1 d v t ids) (hn : ∀ b ∈ ids, nx ≤ b ∧ b < nx1) : Own (drawJ nx nx1 σ σ1 ids) d v t ids :=
  h.frame fun b hb => dj_in (hn b hb).1 (hn b hb).2 hb
theorem Own.drawLow {nx nx1 : Nat} {σ σ1 : Store} {ids' : List Nat} {d : Nat} {v t : V} {ids : List Nat} (h : Own σ d v t ids) (hn : ∀ b ∈ ids, b < nx) : Own (drawJ nx nx1 σ σ1 ids') d v t ids :=
  h.frame fun b hb => dj_lt (hn b hb)
theorem gather_sc (σ : Store) (d : Nat) (u : Value) : gather σ d (.sc u) = some [] := by cases d <;> rfl
theorem gather_nil (σ : Store) (d : Nat) : gather σ d .nil = some [] := by cases d <;> rfl
theorem gather_agg (σ : Store) (d : Nat) (vs : List V) : gather σ (d + 1) (.agg vs) = gatherL (gather σ d) vs := rfl
theorem gather_tup (σ : Store) (d : Nat) (vs : List V) : gather σ (d + 1) (.tup vs) = gatherL (gather σ d) vs := rfl
theorem gatherL_nil (f : V → Option (List Nat)) : gatherL f [] = some [] := rfl
theorem gatherL_cons (f : V → Option (List Nat)) (v : V) (vs : List V) : gatherL f (v :: vs) = (f v).bind fun i => (gatherL f vs).map fun j => i ++ j := by
  show (match f v, gatherL f vs with | some i, some j => some (i ++ j) | _, _ => none) = _
  cases f v <;> cases gatherL f vs <;> rfl
attribute [go_sem] opD_own w_own foot_own gather_sc gather_nil gather_agg gather_tup gatherL_nil gatherL_cons call_own
theorem Own.cell {σ : Store} {d : Nat} {v : V} {xs : List Int} {ids : List Nat} (h : Own σ (d + 1) v (LI xs) ids) : isCell v = true := by
  rcases own_ints h with ⟨rfl, _⟩ | ⟨b, st, rfl, _⟩ <;> rfl
theorem cells_of_cell {v : V} (h : isCell v = true) : cellsOfV v = some [v] := by cases v <;> simp_all [cellsOfV, isCell]
end Go.TV
namespace Go.Proofs.Ytlkpocljgikpgaa
open Go Go.TV

/-! ### The layer of the laws that mark their results: what builds a result hands its memory over -/
def convM : FuncId → Conv := fun f => if f ∈ ([20, 10, 11, 55, 89, 42, 79, 80] : List Nat) then .own else if f ∈ ([34, 57, 22] : List Nat) then .inl else .imm
abbrev tops : List Nat := [20, 10, 11, 55, 89, 42, 79, 34, 57, 22, 4, 5, 6]
noncomputable def extM : Ext := fun f => if f = 80 then some cloneG else if f ∈ tops then none else some fun args σ nx => ev Try.prog conv ext f args σ nx
theorem extMOk : ExtOk Try.prog extM := fun f g h args σ nx v σ' nx' hg => by
  unfold extM at h
  split at h
  · rename_i hf
    subst hf
    cases h
    exact clone_sound args σ nx v σ' nx' hg
  · split at h
    · cases h
    · cases h
      exact ev_sound (by kernel_rfl) extOk f args σ nx v σ' nx' hg
theorem fnM {f : FuncId} (h : List.contains (80 :: tops) f = false) (ts : List V) : fn Try.prog convM extM f ts = fn Try.prog conv ext f ts := by
  have hc : ¬f = 80 := fun e => by subst e; simp at h
  have ht : ¬f ∈ tops := fun e => by
    rw [List.contains_cons, Bool.or_eq_false_iff] at h
    rw [List.contains_iff_mem.mpr e] at h
    cases h.2
  rw [fn_eq, fn_eq, ev_ext (g := fun args σ nx => ev Try.prog conv ext f args σ nx) (by unfold extM; rw [if_neg hc, if_neg ht])]
theorem cvM {f : FuncId} (h : List.contains (80 :: tops) f = false) : convM f = .imm := by
  have hc : ¬f = 80 := fun e => by subst e; simp at h
  have ht : ¬f ∈ tops := fun e => by
    rw [List.contains_cons, Bool.or_eq_false_iff] at h
    rw [List.contains_iff_mem.mpr e] at h
    cases h.2
  unfold convM
  simp only [tops, List.mem_cons, List.not_mem_nil, or_false, not_or] at ht
  rw [if_neg (by simp only [List.mem_cons, List.not_mem_nil, or_false, not_or]; simp only [ht, hc, not_false_eq_true, and_self]), if_neg (by simp only [List.mem_cons, List.not_mem_nil, or_false, not_or]; simp only [ht, not_false_eq_true, and_self])]
theorem own_slg : convM 20 = .own := id rfl
theorem own_sha : convM 10 = .own := id rfl
theorem own_wsh : convM 11 = .own := id rfl
theorem own_rof : convM 55 = .own := id rfl
theorem own_rmk : convM 89 = .own := id rfl
theorem own_sto : convM 42 = .own := id rfl
theorem own_few : convM 79 = .own := id rfl
theorem inl_ints : convM 34 = .inl := id rfl
theorem inl_big : convM 57 = .inl := id rfl
theorem inl_rat : convM 22 = .inl := id rfl
theorem own_cln : convM 80 = .own := id rfl
attribute [go_sem] cvM own_slg own_sha own_wsh own_rof own_rmk own_sto own_few own_cln inl_ints inl_big inl_rat fnM
end Go.Proofs.Ytlkpocljgikpgaa
namespace Go.Proofs.Ytlkpocljgikpgaa
open Go Go.TV

/-! ### Fractions whose memory is handed over -/
theorem cloneO (xs : List Int) (h : xs.length ≤ 17592186044000) (nx : Nat) : ∃ v σ1 nx1 ids, ev Try.prog convM extM 80 [LI xs] noStore nx = some (v, σ1, nx1) ∧ nx ≤ nx1 ∧ Own σ1 1 v (LI xs) ids ∧ ∀ b ∈ ids, nx ≤ b ∧ b < nx1 := by
  rw [ev_ext (g := cloneG) rfl]
  have hg : cloneG [LI xs] noStore nx = if xs.length = 0 then some (.nil, noStore, nx) else some (.rs nx 0 xs.length, evBox noStore nx (xs.flatMap cI) 1, nx + 1) := by
    show (if (xs.flatMap cI).length = xs.length ∧ xs.length ≤ 17592186044000 ∧ (xs.flatMap cI).all isCell = true then _ else none) = _
    rw [if_pos ⟨cI_len xs, h, cI_cells xs⟩]
  rw [hg]
  by_cases hz : xs.length = 0
  · rw [if_pos hz]
    have : xs = [] := List.eq_nil_of_length_eq_zero hz
    subst this
    exact ⟨_, _, _, [], rfl, Nat.le_refl _, own_of_nil _ _, by simp⟩
  · rw [if_neg hz]
    exact ⟨_, _, _, [nx], rfl, by omega, own_of_rs (st := 1) (by simp [evBox, upd]) (by omega), by simp⟩
theorem fewerO (b : Bool) (xs : List Int) (h : xs.length ≤ 60) (nx : Nat) : ∃ v σ1 nx1 ids, ev Try.prog convM extM 79 [.agg [Bo b, LI xs]] noStore nx = some (.agg [Bo b, v], σ1, nx1) ∧ nx ≤ nx1 ∧ Own σ1 1 v (LI xs) ids ∧ ∀ b ∈ ids, nx ≤ b ∧ b < nx1 := by
  have c1 : ¬(60 : Int) < (xs.length : Int) := by omega
  obtain ⟨v, σ1, nx1, ids, k, hn, ho, hi⟩ := cloneO xs (by omega) (nx + 1 + 1)
  have hg := fun d => ho.gather (d' := d + 1) (by omega)
  have hc := ho.cell
  have n1 : nx + 1 < nx1 := by omega
  have n2 : ¬nx + 1 = nx := by omega
  have n5 : ¬nx = nx + 1 := by omega
  have n3 : nx < nx + 1 + 1 := by omega
  have n4 : nx + 1 < nx + 1 + 1 := by omega
  have j1 : ∀ σ, drawJ (nx + 1 + 1) nx1 σ σ1 ids (nx + 1) = σ (nx + 1) := fun σ => dj_lt (by omega)
  refine ⟨v, ?_⟩
  rw [ev_eqQ (rs := [.cell 2 29]) [] rfl Try.func79 rfl rfl (by kernel_rfl) (by kernel_rfl)]
  simp only [go_sem, c1, k, hg, hc, cells_of_cell, n1, n2, n3, n4, n5, j1]
  refine ⟨_, _, ids, rfl, by omega, ?_, fun b hb => by have := hi b hb; omega⟩
  rw [Own.upd (fun hb => by have := hi _ hb; omega)]
  exact ho.draw hi
/-- A call that hands over a fraction. -/
def R3 (f : FuncId) (ts : List V) (nx : Nat) (neg : Bool) (xs ys : List Int) : Prop :=
  ∃ v w σ1 nx1 i j, ev Try.prog convM extM f ts noStore nx = some (.agg [Bo neg, v, w], σ1, nx1) ∧ nx ≤ nx1 ∧ Own σ1 1 v (LI xs) i ∧ Own σ1 1 w (LI ys) j ∧ (∀ b ∈ i, nx ≤ b ∧ b < nx1) ∧ (∀ b ∈ j, nx ≤ b ∧ b < nx1) ∧ ∀ b ∈ i, ¬b ∈ j
theorem storeO (neg : Bool) (xs ys : List Int) (hx : xs.length ≤ 24) (hy : ys.length ≤ 24) (nx : Nat) : R3 42 [.tp [Bo neg, LI xs, LI ys] 0] nx neg xs ys := by
  obtain ⟨v, σ1, n1, i, k1, hn1, ho1, hi1⟩ := fewerO neg xs (by omega) (nx + 1)
  obtain ⟨w, σ2, n2, j, k2, hn2, ho2, hi2⟩ := cloneO ys (by omega) n1
  have g1 := fun d => ho1.gather (d' := d + 1) (by omega)
  have g2 := fun d => ho2.gather (d' := d + 1) (by omega)
  have c1 := cells_of_cell ho1.cell
  have c2 := cells_of_cell ho2.cell
  have c1' := ho1.cell
  have c2' := ho2.cell
  have m1 : nx < n1 := by omega
  have m2 : nx < n2 := by omega
  have m3 : nx < nx + 1 := by omega
  have j1 : ∀ σ, drawJ (nx + 1) n1 σ σ1 i nx = σ nx := fun σ => dj_lt (by omega)
  have j2 : ∀ σ, drawJ n1 n2 σ σ2 j nx = σ nx := fun σ => dj_lt (by omega)
  refine ⟨v, w, ?_⟩
  rw [ev_eqQ (rs := [.cell 2 31]) [] rfl Try.func42 rfl rfl (by kernel_rfl) (by kernel_rfl)]
  simp only [go_sem, k1, k2, g1, g2, c1, c2, c1', c2', m1, m2, m3, j1, j2]
  refine ⟨_, _, i, j, rfl, by omega, ?_, ?_, fun b hb => by have := hi1 b hb; omega, fun b hb => by have := hi2 b hb; omega, fun b hb hb' => by have := hi1 b hb; have := hi2 b hb'; omega⟩
  · rw [Own.upd (fun hb => by have := hi1 _ hb; omega)]
    exact (ho1.draw hi1).drawLow fun b hb => (hi1 b hb).2
  · rw [Own.upd (fun hb => by have := hi2 _ hb; omega)]
    exact ho2.draw hi2
theorem makeO (m n : Nat) (hm : m < 1000000000000000000) (h0 : n ≠ 0) (hn : n < 1000000000) (nx : Nat) : R3 89 [.agg [Bo false, LI (dg m)], .agg [Bo false, LI (dg n)]] nx false (dg (m / Nat.gcd m n)) (dg (n / Nat.gcd m n)) := by
  have lm := dg_three (n := m) (by omega)
  have ln := dg_three (n := n) (by omega)
  have gm : m / Nat.gcd m n ≤ m := Nat.div_le_self _ _
  have gn : n / Nat.gcd m n ≤ n := Nat.div_le_self _ _
  have l1 := dg_three (n := m / Nat.gcd m n) (by omega)
  have l2 := dg_three (n := n / Nat.gcd m n) (by omega)
  have k1 := iBigIntOk false (dg m) (by unfold Short; omega)
  have k2 := iBigIntOk false (dg n) (by unfold Short; omega)
  rw [pb_true (natGood_dg (by omega)), Bool.false_and] at k1 k2
  have k3 := isigned false (dg m)
  have k4 := ilowest false m n hm h0 hn
  unfold lowD at k4
  simp only [Bool.false_and] at k3 k4
  have k5 := ifit false (dg (m / Nat.gcd m n)) (dg (n / Nat.gcd m n)) (by omega) (by omega)
  have z : (((dg n).length : Int) == 0) = false := by rw [beq_eq_false_iff_ne]; have := app_len (dg_ne h0); omega
  obtain ⟨v, w, σ1, n1, i, j, k6, hn1, ho1, ho2, hi1, hi2, hd⟩ := storeO false (dg (m / Nat.gcd m n)) (dg (n / Nat.gcd m n)) (by omega) (by omega) (nx + 1 + 1 + 1)
  have g1 := fun d => ho1.gather (d' := d + 1) (by omega)
  have g2 := fun d => ho2.gather (d' := d + 1) (by omega)
  have c1 := cells_of_cell ho1.cell
  have c2 := cells_of_cell ho2.cell
  have c1' := ho1.cell
  have c2' := ho2.cell
  have e1 : ¬nx = nx + 1 := by omega
  have e2 : ¬nx = nx + 1 + 1 := by omega
  have e3 : ¬nx + 1 = nx + 1 + 1 := by omega
  have e4 : nx < nx + 1 + 1 + 1 := by omega
  have e5 : nx + 1 < nx + 1 + 1 + 1 := by omega
  have e6 : nx + 1 + 1 < nx + 1 + 1 + 1 := by omega
  have e7 : nx + 1 + 1 < n1 := by omega
  have j1 : ∀ σ, drawJ (nx + 1 + 1 + 1) n1 σ σ1 (i ++ j) (nx + 1 + 1) = σ (nx + 1 + 1) := fun σ => dj_lt (by omega)
  refine ⟨v, w, ?_⟩
  rw [ev_eqQ (rs := [.cell 4 31]) [] rfl Try.func89 rfl rfl (by kernel_rfl) (by kernel_rfl)]
  simp only [go_sem] at k1 k2
  simp only [go_sem, k1, k2, k3, k4, k5, k6, z, g1, g2, c1, c2, c1', c2', e1, e2, e3, e4, e5, e6, e7, j1]
  refine ⟨_, _, i, j, rfl, by omega, ?_, ?_, fun b hb => by have := hi1 b hb; omega, fun b hb => by have := hi2 b hb; omega, hd⟩
  · rw [Own.upd (fun hb => by have := hi1 _ hb; omega)]
    exact ho1.frame fun b hb => dj_in (hi1 b hb).1 (hi1 b hb).2 (List.mem_append_left _ hb)
  · rw [Own.upd (fun hb => by have := hi2 _ hb; omega)]
    exact ho2.frame fun b hb => dj_in (hi2 b hb).1 (hi2 b hb).2 (List.mem_append_right _ hb)
theorem ratOfO (m n : Nat) (hm : m < 1000000000000000000) (h0 : n ≠ 0) (hn : n < 1000000000) (nx : Nat) : R3 55 [I m, I n] nx false (dg (m / Nat.gcd m n)) (dg (n / Nat.gcd m n)) := by
  have k1 := iBigIntOf m (by omega)
  have k2 := iBigIntOf n (by omega)
  obtain ⟨v, w, σ1, n1, i, j, k3, hn1, ho1, ho2, hi1, hi2, hd⟩ := makeO m n hm h0 hn (nx + 1)
  have g1 := fun d => ho1.gather (d' := d + 1) (by omega)
  have g2 := fun d => ho2.gather (d' := d + 1) (by omega)
  have c1 := cells_of_cell ho1.cell
  have c2 := cells_of_cell ho2.cell
  have c1' := ho1.cell
  have c2' := ho2.cell
  have j1 : ∀ σ, joinS (nx + 1) σ σ1 (i ++ j) nx = σ nx := fun σ => join_lt (by omega)
  have e1 : nx < n1 := by omega
  refine ⟨v, w, ?_⟩
  rw [ev_eqQ (rs := [.cell 4 31]) [] rfl Try.func55 rfl rfl (by kernel_rfl) (by kernel_rfl)]
  simp only [go_sem, k1, k2, k3, g1, g2, c1, c2, c1', c2', j1, e1]
  refine ⟨_, _, i, j, rfl, by omega, ?_, ?_, fun b hb => by have := hi1 b hb; omega, fun b hb => by have := hi2 b hb; omega, hd⟩
  · rw [Own.upd (fun hb => by have := hi1 _ hb; omega)]
    exact ho1.frame fun b hb => join_in (by have := hi1 b hb; omega) (List.mem_append_left _ hb)
  · rw [Own.upd (fun hb => by have := hi2 _ hb; omega)]
    exact ho2.frame fun b hb => join_in (by have := hi2 b hb; omega) (List.mem_append_right _ hb)
end Go.Proofs.Ytlkpocljgikpgaa
namespace Go.Proofs.Ytlkpocljgikpgaa
open Go Go.TV

/-! ### Marks -/
theorem mark_set {k : Int} {xs : List Int} {n i : Nat} (hn : n = xs.length) (hi : i < n) : ((marks k i ++ xs.drop i).flatMap cI).set i (I (k + i)) = (marks k (i + 1) ++ xs.drop (i + 1)).flatMap cI := by
  rw [cI_set, List.set_append_right _ _ (by rw [marks_len]; exact Nat.le_refl _), marks_len, Nat.sub_self, List.drop_eq_getElem_cons (by omega), List.set_cons_zero]
  have : marks k (i + 1) = marks k i ++ [k + i] := by
    refine List.ext_getElem (by simp [marks_len]) fun j h1 h2 => ?_
    rw [marks_get]
    rw [marks_len] at h1
    by_cases hj : j < i
    · rw [List.getElem_append_left (by rw [marks_len]; exact hj), marks_get]
    · have : j = i := by omega
      subst this
      rw [List.getElem_append_right (by rw [marks_len]; exact Nat.le_refl _)]
      simp [marks_len]
  rw [this, List.append_assoc]; rfl
theorem markIntS {σ : Store} {nx : Nat} {v : V} {xs : List Int} {ids : List Nat} (ho : Own σ 1 v (LI xs) ids) (hl : xs.length ≤ 1000000000000) (k : Int) (hk : 0 ≤ k ∧ k ≤ 1000000000000) :
    ∃ σ', ev Try.prog convM extM 34 [v, I k] σ nx = some (I (k + xs.length), σ', nx) ∧ Own σ' 1 v (LI (marks k xs.length)) ids ∧ ∀ b, ¬b ∈ ids → σ' b = σ b := by
  rw [ev_eqQ (rs := [.tmp 4]) [] rfl Try.func34 rfl rfl (by kernel_rfl) (by kernel_rfl)]
  rcases own_ints ho with ⟨rfl, rfl, rfl⟩ | ⟨b, st, rfl, rfl, hb, hst⟩
  · simp only [go_sem]
    rw [evLoopI_eq]
    have f0 : ¬(0 : Int) < 0 := by decide
    simp only [go_sem, f0]
    exact ⟨σ, by simp, own_of_nil _ _, fun _ _ => rfl⟩
  · simp only [go_sem]
    generalize hL : evLoopI _ _ = y
    obtain ⟨r, rfl, T', σ', rfl, h1, h2, h3⟩ := count_rule hL xs.length (fun i s => s.nx = nx ∧ s.T 0 = .rs b 0 xs.length ∧ s.T 1 = I (k + i) ∧ s.T 5 = I i ∧ s.σ b = some ⟨(marks k i ++ xs.drop i).flatMap cI, st, true⟩ ∧ ∀ c, ¬c = b → s.σ c = σ c)
      (fun r => ∃ T σ', r = (.exit 0, ⟨T, σ', nx⟩) ∧ T 1 = I (k + xs.length) ∧ σ' b = some ⟨(marks k xs.length).flatMap cI, st, true⟩ ∧ ∀ c, ¬c = b → σ' c = σ c) (by
        clear hL
        rintro i ⟨T, τ, m⟩ hlt ⟨hn, h0, h1, h5, hs, hf⟩
        simp only at hn h0 h1 h5 hs hf
        subst hn
        have f1 : (i : Int) < (xs.length : Int) := by omega
        have f2 : (0 : Int) ≤ (i : Int) := by omega
        have f3 := wrap_id (n := (i : Int) + 1) (by omega) (by omega)
        have f4 := wrap_id (n := k + (i : Int) + 1) (by omega) (by omega)
        have c5 : i < (marks k i ++ xs.drop i).length := by rw [List.length_append, marks_len, List.length_drop]; omega
        have c6 := mark_set (k := k) (xs := xs) rfl hlt
        refine .inl ⟨_, by simp only [go_sem, h0, h1, h5, hs, f1, f2, f3, f4, c5, c6]; rfl, ?_⟩
        simp only [go_sem, h0]
        refine ⟨by rw [show k + (i : Int) + 1 = k + ((i + 1 : Nat) : Int) by omega], rfl, fun c hc => ?_⟩
        rw [upd_ne _ _ hc]; exact hf c hc) (by
        clear hL
        rintro ⟨T, τ, m⟩ ⟨hn, h0, h1, h5, hs, hf⟩
        simp only at hn h0 h1 h5 hs hf
        subst hn
        refine ⟨_, by simp only [go_sem, h0, h5, Int.lt_irrefl]; rfl, by simp, _, _, rfl, by simp only [go_sem, h1], ?_, hf⟩
        rw [hs, List.drop_length, List.append_nil]) (by
        simp only [go_sem]
        exact ⟨by simp, by rw [hb]; rfl, fun _ _ => trivial⟩)
    simp only [go_sem, h1]
    refine ⟨_, rfl, ?_, fun c hc => h3 c (by simpa using hc)⟩
    have := own_of_rs (σ := σ') (d := 0) (b := b) (st := st) (xs := marks k xs.length) h2 (by rw [marks_len]; exact hst)
    rwa [marks_len] at this
theorem heldIntS (k : Int) (n : Nat) (hk : 0 ≤ k ∧ k ≤ 1000000000000) (hn : n ≤ 1000000000000) : fn Try.prog conv ext 35 [LI (marks k n), I k] = some (I (k + n)) := by
  rw [fn_eq, ev_eqQ (rs := [.tmp 4]) [] rfl Try.func35 rfl rfl (by kernel_rfl) (by kernel_rfl)]
  simp only [go_sem]
  generalize hL : evLoopI _ _ = y
  have hml := marks_len k n
  obtain ⟨r, rfl, T', rfl, h1⟩ := count_rule hL n (fun i s => s.nx = 0 ∧ s.σ = noStore ∧ s.T 0 = LI (marks k n) ∧ s.T 1 = I (k + i) ∧ s.T 5 = I i)
    (fun r => ∃ T, r = (.exit 0, ⟨T, noStore, 0⟩) ∧ T 1 = I (k + n)) (by
      clear hL
      rintro i ⟨T, τ, m⟩ hlt ⟨hn', hσ, h0, h1, h5⟩
      simp only at hn' hσ h0 h1 h5
      subst hn' hσ
      have hlt' : i < (marks k n).length := by omega
      have f1 : (i : Int) < ((marks k n).length : Int) := by omega
      have f2 : (0 : Int) ≤ (i : Int) := by omega
      have f3 := wrap_id (n := (i : Int) + 1) (by omega) (by omega)
      have f4 := wrap_id (n := k + (i : Int) + 1) (by omega) (by omega)
      have f5 := slot_ne (c := cI) (s := 1) (fun _ => rfl) (by omega) (marks k n) i hlt'
      have f6 := idx hlt'
      rw [marks_get] at f6
      refine .inl ⟨_, by simp only [go_sem, h0, h1, h5, f1, f2, f3, f4, f5, f6]; rfl, ?_⟩
      simp only [go_sem, h0]
      exact ⟨by rw [show k + (i : Int) + 1 = k + ((i + 1 : Nat) : Int) by omega], rfl⟩) (by
      clear hL
      rintro ⟨T, τ, m⟩ ⟨hn', hσ, h0, h1, h5⟩
      simp only at hn' hσ h0 h1 h5
      subst hn' hσ
      have f1 : ¬(n : Int) < ((marks k n).length : Int) := by omega
      exact ⟨_, by simp only [go_sem, h0, h5, f1]; rfl, by simp, _, rfl, by simp only [go_sem, h1]⟩) (by
      simp only [go_sem]
      simp)
  simp only [go_sem, h1]
end Go.Proofs.Ytlkpocljgikpgaa
namespace Go.Proofs.Ytlkpocljgikpgaa
open Go Go.TV

theorem markBigInt {σ : Store} {nx : Nat} {v : V} {neg : Bool} {xs : List Int} {ids : List Nat} (ho : Own σ 1 v (LI xs) ids) (hi : ∀ b ∈ ids, b < nx) (hl : xs.length ≤ 1000000000000) (k : Int) (hk : 0 ≤ k ∧ k ≤ 1000000000000) :
    ∃ σ', ev Try.prog convM extM 57 [.agg [Bo neg, v], I k] σ nx = some (I (k + xs.length), σ', nx + 1) ∧ Own σ' 1 v (LI (marks k xs.length)) ids ∧ ∀ b, ¬b ∈ ids → b < nx → σ' b = σ b := by
  have hnx : ¬nx ∈ ids := fun h => by have := hi _ h; omega
  have ho1 : Own (upd σ nx (some ⟨[Bo neg, v], 0, true⟩)) 1 v (LI xs) ids := by rw [Own.upd hnx]; exact ho
  obtain ⟨σ', k1, o1, f1⟩ := markIntS (nx := nx + 1) ho1 hl k hk
  refine ⟨σ', ?_, o1, fun b hb hlt => ?_⟩
  · have c := cells_of_cell ho.cell
    have c' := ho.cell
    rw [ev_eqQ (rs := [.tmp 4]) [] rfl Try.func57 rfl rfl (by kernel_rfl) (by kernel_rfl)]
    simp only [go_sem, c, c', call_inl, k1]
  · rw [f1 b hb, upd_ne _ _ (by omega)]
theorem markRat {σ : Store} {nx : Nat} {v w : V} {neg : Bool} {xs ys : List Int} {i j : List Nat} (ho : Own σ 1 v (LI xs) i) (ho2 : Own σ 1 w (LI ys) j) (hi : ∀ b ∈ i, b < nx) (hj : ∀ b ∈ j, b < nx) (hd : ∀ b ∈ i, ¬b ∈ j) (hl : xs.length ≤ 1000) (hl2 : ys.length ≤ 1000) (k : Int) (hk : 0 ≤ k ∧ k ≤ 1000000) :
    ∃ σ', ev Try.prog convM extM 22 [.agg [Bo neg, v, w], I k] σ nx = some (I (k + xs.length + ys.length), σ', nx + 1 + 1) ∧ Own σ' 1 v (LI (marks k xs.length)) i ∧ Own σ' 1 w (LI (marks (k + xs.length) ys.length)) j ∧ ∀ b, ¬b ∈ i → ¬b ∈ j → b < nx → σ' b = σ b := by
  have hnx : ¬nx ∈ i := fun h => by have := hi _ h; omega
  have hnx2 : ¬nx ∈ j := fun h => by have := hj _ h; omega
  have ho1 : Own (upd σ nx (some ⟨[Bo neg, v, w], 0, true⟩)) 1 v (LI xs) i := by rw [Own.upd hnx]; exact ho
  have ho3 : Own (upd σ nx (some ⟨[Bo neg, v, w], 0, true⟩)) 1 w (LI ys) j := by rw [Own.upd hnx2]; exact ho2
  obtain ⟨σ1, k1, o1, f1⟩ := markBigInt (nx := nx + 1) (neg := neg) ho1 (fun b hb => by have := hi b hb; omega) (by omega) k (by omega)
  have o2 : Own σ1 1 w (LI ys) j := ho3.frame fun b hb => f1 b (fun h => hd b h hb) (by have := hj b hb; omega)
  obtain ⟨σ2, k2, o3, f2⟩ := markIntS (nx := nx + 1 + 1) o2 (by omega) (k + xs.length) (by omega)
  have hb : σ1 nx = some ⟨[Bo neg, v, w], 0, true⟩ := by rw [f1 nx hnx (by omega)]; exact upd_same _ _ _
  refine ⟨σ2, ?_, o1.frame fun b hb => f2 b (hd b hb), o3, fun b h1 h2 hlt => ?_⟩
  · have c := cells_of_cell ho.cell
    have c' := ho.cell
    have d := cells_of_cell ho2.cell
    have d' := ho2.cell
    rw [ev_eqQ (rs := [.tmp 4]) [] rfl Try.func22 rfl rfl (by kernel_rfl) (by kernel_rfl)]
    simp only [go_sem, c, c', d, d', call_inl, k1, hb, k2]
  · rw [f2 b h2, f1 b h1 (by omega), upd_ne _ _ (by omega)]
theorem heldBigInt (neg : Bool) (k : Int) (n : Nat) (hk : 0 ≤ k ∧ k ≤ 1000000000000) (hn : n ≤ 1000000000000) : fn Try.prog conv ext 58 [.agg [Bo neg, LI (marks k n)], I k] = some (I (k + n)) := by
  have k1 := heldIntS k n hk hn
  have c : ¬k + (n : Int) < 0 := by omega
  rw [fn_eq, ev_eqQ (rs := [.tmp 4]) [] rfl Try.func58 rfl rfl (by kernel_rfl) (by kernel_rfl)]
  simp only [go_sem, k1, c]
theorem heldRat (neg : Bool) (k : Int) (n m : Nat) (hk : 0 ≤ k ∧ k ≤ 1000000) (hn : n ≤ 1000) (hm : m ≤ 1000) : fn Try.prog conv ext 23 [.agg [Bo neg, LI (marks k n), LI (marks (k + n) m)], I k] = some (I (k + n + m)) := by
  have k1 := heldBigInt neg k n (by omega) (by omega)
  have k2 := heldIntS (k + n) m (by omega) (by omega)
  have c1 : ¬k + (n : Int) < 0 := by omega
  have c2 : ¬k + (n : Int) + m < 0 := by omega
  rw [fn_eq, ev_eqQ (rs := [.tmp 4]) [] rfl Try.func23 rfl rfl (by kernel_rfl) (by kernel_rfl)]
  simp only [go_sem, k1, k2, c1, c2]
theorem eqBigInt (neg : Bool) (xs : List Int) (h : xs.length ≤ maxLen) : fn Try.prog conv ext 56 [.agg [Bo neg, LI xs], .agg [Bo neg, LI xs]] = some (Bo true) := by
  have k1 := eqIntS xs h
  rw [fn_eq, ev_eqQ (rs := [.tmp 4]) [] rfl Try.func56 rfl rfl (by kernel_rfl) (by kernel_rfl)]
  cases neg <;> simp only [go_sem, k1]
theorem eqRat (neg : Bool) (xs ys : List Int) (h : xs.length ≤ maxLen) (h' : ys.length ≤ maxLen) : fn Try.prog conv ext 21 [.agg [Bo neg, LI xs, LI ys], .agg [Bo neg, LI xs, LI ys]] = some (Bo true) := by
  have k1 := eqBigInt neg xs h
  have k2 := eqIntS ys h'
  rw [fn_eq, ev_eqQ (rs := [.tmp 4]) [] rfl Try.func21 rfl rfl (by kernel_rfl) (by kernel_rfl)]
  simp only [go_sem, k1, k2]
end Go.Proofs.Ytlkpocljgikpgaa
namespace Go.Proofs.Ytlkpocljgikpgaa
open Go Go.TV

/-! ### The shares, handed over -/
/-- The parts of two fractions. -/
structure Pr where
  n1 : Bool
  x1 : List Int
  y1 : List Int
  n2 : Bool
  x2 : List Int
  y2 : List Int
def Pr.t (p : Pr) (ok : Bool) : V := .tup [.agg [Bo p.n1, LI p.x1, LI p.y1], .agg [Bo p.n2, LI p.x2, LI p.y2], Bo ok]
def Pr.small (p : Pr) : Prop := p.x1.length ≤ 24 ∧ p.y1.length ≤ 24 ∧ p.x2.length ≤ 24 ∧ p.y2.length ≤ 24
structure PrO (σ : Store) (lo hi : Nat) (p : Pr) (a b c d : V) (i j k l : List Nat) : Prop where
  oa : Own σ 1 a (LI p.x1) i
  ob : Own σ 1 b (LI p.y1) j
  oc : Own σ 1 c (LI p.x2) k
  od : Own σ 1 d (LI p.y2) l
  oi : ∀ x ∈ i, lo ≤ x ∧ x < hi
  oj : ∀ x ∈ j, lo ≤ x ∧ x < hi
  ok : ∀ x ∈ k, lo ≤ x ∧ x < hi
  ol : ∀ x ∈ l, lo ≤ x ∧ x < hi
  ij : ∀ x ∈ i, ¬x ∈ j
  ik : ∀ x ∈ i, ¬x ∈ k
  il : ∀ x ∈ i, ¬x ∈ l
  jk : ∀ x ∈ j, ¬x ∈ k
  jl : ∀ x ∈ j, ¬x ∈ l
  kl : ∀ x ∈ k, ¬x ∈ l
def PrRes (f : FuncId) (ts : List V) (nx : Nat) (p : Pr) (ok : Bool) : Prop :=
  ∃ a b c d σ1 nx1 i j k l, ev Try.prog convM extM f ts noStore nx = some (.tup [.agg [Bo p.n1, a, b], .agg [Bo p.n2, c, d], Bo ok], σ1, nx1) ∧ nx ≤ nx1 ∧ PrO σ1 nx nx1 p a b c d i j k l
theorem PrO.frame {σ σ' : Store} {lo hi lo' hi' : Nat} {p : Pr} {a b c d : V} {i j k l : List Nat} (h : PrO σ lo hi p a b c d i j k l) (hl : lo' ≤ lo) (hh : hi ≤ hi') (hs : ∀ x, x ∈ i ∨ x ∈ j ∨ x ∈ k ∨ x ∈ l → σ' x = σ x) : PrO σ' lo' hi' p a b c d i j k l :=
  ⟨h.oa.frame fun x hx => hs x (.inl hx), h.ob.frame fun x hx => hs x (.inr (.inl hx)), h.oc.frame fun x hx => hs x (.inr (.inr (.inl hx))), h.od.frame fun x hx => hs x (.inr (.inr (.inr hx))),
    fun x hx => by have := h.oi x hx; omega, fun x hx => by have := h.oj x hx; omega, fun x hx => by have := h.ok x hx; omega, fun x hx => by have := h.ol x hx; omega, h.ij, h.ik, h.il, h.jk, h.jl, h.kl⟩
def shP (b : Beam) (p q : Int) (ok : Bool) : Pr := if ok = true then ⟨decide (((b.weight : Rat) - rightQ b p).num < 0), dg ((b.weight : Rat) - rightQ b p).num.natAbs, dg ((b.weight : Rat) - rightQ b p).den, decide ((rightQ b q).num < 0), dg (rightQ b q).num.natAbs, dg (rightQ b q).den⟩ else ⟨false, [], [], false, [], []⟩
theorem shP_t (b : Beam) (p q : Int) (ok : Bool) : shT b p q ok = (shP b p q ok).t ok := by cases ok <;> rfl
theorem shareO (b : Beam) (p : Int) (nx : Nat) : PrRes 10 [.agg (cBeam b), I p] nx (shP b p p (beamB b && decide (b.low ≤ p) && decide (p ≤ b.high))) (beamB b && decide (b.low ≤ p) && decide (p ≤ b.high)) ∧ (shP b p p (beamB b && decide (b.low ≤ p) && decide (p ≤ b.high))).small := by
  have k1 := iBeamOk b
  have e1 : ¬nx = nx + 1 := by omega
  have e2 : ¬nx = nx + 1 + 1 := by omega
  have e3 : ¬nx + 1 = nx + 1 + 1 := by omega
  have e4 : ¬nx + 1 + 1 = nx + 1 := by omega
  have e5 : ¬nx + 1 = nx := by omega
  have e6 : nx < nx + 1 + 1 + 1 := by omega
  have e7 : nx + 1 < nx + 1 + 1 + 1 := by omega
  have e8 : nx + 1 + 1 < nx + 1 + 1 + 1 := by omega
  cases hb : beamB b with
  | false =>
    rw [hb] at k1
    refine ⟨?_, by refine ⟨?_, ?_, ?_, ?_⟩ <;> exact Nat.zero_le _⟩
    refine ⟨.nil, .nil, .nil, .nil, ?_⟩
    rw [ev_eqQ (rs := [.cell 4 31, .cell 5 31, .tmp 6]) [] rfl Try.func10 rfl rfl (by kernel_rfl) (by kernel_rfl)]
    simp only [go_sem, k1, e1, e2, e3, e4, e5, e6, e7, e8]
    exact ⟨_, _, [], [], [], [], rfl, by omega, own_of_nil _ _, own_of_nil _ _, own_of_nil _ _, own_of_nil _ _, by simp, by simp, by simp, by simp, by simp, by simp, by simp, by simp, by simp, by simp⟩
  | true =>
  rw [hb] at k1
  have hg := beamGood hb
  by_cases h1 : p < b.low
  · have : (true && decide (b.low ≤ p) && decide (p ≤ b.high)) = false := by rw [decide_eq_false (by omega : ¬b.low ≤ p)]; rfl
    rw [this]
    refine ⟨?_, by refine ⟨?_, ?_, ?_, ?_⟩ <;> exact Nat.zero_le _⟩
    refine ⟨.nil, .nil, .nil, .nil, ?_⟩
    rw [ev_eqQ (rs := [.cell 4 31, .cell 5 31, .tmp 6]) [] rfl Try.func10 rfl rfl (by kernel_rfl) (by kernel_rfl)]
    simp only [go_sem, k1, h1, e1, e2, e3, e4, e5, e6, e7, e8]
    exact ⟨_, _, [], [], [], [], rfl, by omega, own_of_nil _ _, own_of_nil _ _, own_of_nil _ _, own_of_nil _ _, by simp, by simp, by simp, by simp, by simp, by simp, by simp, by simp, by simp, by simp⟩
  by_cases h2 : b.high < p
  · have : (true && decide (b.low ≤ p) && decide (p ≤ b.high)) = false := by rw [decide_eq_false (by omega : ¬p ≤ b.high), Bool.and_false]
    rw [this]
    refine ⟨?_, by refine ⟨?_, ?_, ?_, ?_⟩ <;> exact Nat.zero_le _⟩
    refine ⟨.nil, .nil, .nil, .nil, ?_⟩
    rw [ev_eqQ (rs := [.cell 4 31, .cell 5 31, .tmp 6]) [] rfl Try.func10 rfl rfl (by kernel_rfl) (by kernel_rfl)]
    simp only [go_sem, k1, h1, h2, e1, e2, e3, e4, e5, e6, e7, e8]
    exact ⟨_, _, [], [], [], [], rfl, by omega, own_of_nil _ _, own_of_nil _ _, own_of_nil _ _, own_of_nil _ _, by simp, by simp, by simp, by simp, by simp, by simp, by simp, by simp, by simp, by simp⟩
  have : (true && decide (b.low ≤ p) && decide (p ≤ b.high)) = true := by rw [decide_eq_true (by omega : b.low ≤ p), decide_eq_true (by omega : p ≤ b.high)]; rfl
  rw [this]
  have hp : -1000 ≤ p ∧ p ≤ 1000 := by have := hg.lo; have := hg.hi; omega
  have hs := right_small hg hp
  have hl := left_small hg hp
  obtain ⟨⟨l0, l1⟩, ⟨r0, r1⟩, _, _, hlr, _, w0, w1⟩ := hg
  have a1 := wrap_id (n := p - b.left) (by omega) (by omega)
  have a2 := wrap_id (n := b.weight * (p - b.left)) (by omega) (by omega)
  have a3 := wrap_id (n := b.right - b.left) (by omega) (by omega)
  have m1 := iwholeZ (b.weight * (p - b.left)) (by omega) (by omega)
  have m2 := iwholeZ (b.right - b.left) (by omega) (by omega)
  have m3 := idivZ (b.weight * (p - b.left)) (b.right - b.left) (by omega) (by omega) (by omega)
  have m4 := iwholeZ b.weight (by omega) (by omega)
  have f1 : (b.weight : Rat).num = b.weight := rfl
  have sw : Sm (b.weight : Rat) := ⟨by rw [f1]; omega, by show 1 < _; decide⟩
  have m5 := isub (b.weight : Rat) (rightQ b p) sw hs.2.1
  have m3' : fn Try.prog conv ext 40 [.tp (cQ ((b.weight * (p - b.left) : Int) : Rat)) 0, .tp (cQ ((b.right - b.left : Int) : Rat)) 0] = some (.tp (cQ (rightQ b p)) 0) := m3
  have s1 : ln ((b.weight : Rat) - rightQ b p).num.natAbs ≤ 24 := ln24 (by have := hl.1; omega)
  have s2 : ln ((b.weight : Rat) - rightQ b p).den ≤ 24 := ln24 (by have := hl.2; omega)
  have s3 : ln (rightQ b p).num.natAbs ≤ 24 := ln24 (by have := hs.2.1.1; omega)
  have s4 : ln (rightQ b p).den ≤ 24 := ln24 (by have := hs.2.1.2; omega)
  refine ⟨?_, s1, s2, s3, s4⟩
  unfold shP
  rw [if_pos rfl]
  generalize ((b.weight : Rat) - rightQ b p) = L at *
  generalize rightQ b p = R at *
  obtain ⟨v, w, σ1, n1, i, j, k6, hn1, ov, ow, hi, hj, hd⟩ := storeO (decide (L.num < 0)) (dg L.num.natAbs) (dg L.den) s1 s2 (nx + 1 + 1 + 1)
  obtain ⟨v', w', σ2, n2, i', j', k7, hn2, ov', ow', hi', hj', hd'⟩ := storeO (decide (R.num < 0)) (dg R.num.natAbs) (dg R.den) s3 s4 n1
  have g1 := fun d => ov.gather (d' := d + 1) (by omega)
  have g2 := fun d => ow.gather (d' := d + 1) (by omega)
  have g3 := fun d => ov'.gather (d' := d + 1) (by omega)
  have g4 := fun d => ow'.gather (d' := d + 1) (by omega)
  have c1 := cells_of_cell ov.cell; have c2 := cells_of_cell ow.cell; have c3 := cells_of_cell ov'.cell; have c4 := cells_of_cell ow'.cell
  have d1 := ov.cell; have d2 := ow.cell; have d3 := ov'.cell; have d4 := ow'.cell
  have j1 : ∀ σ x, x < nx + 1 + 1 + 1 → joinS (nx + 1 + 1 + 1) σ σ1 (i ++ j) x = σ x := fun σ x h => join_lt h
  have j2 : ∀ σ x, x < nx + 1 + 1 + 1 → joinS n1 σ σ2 (i' ++ j') x = σ x := fun σ x h => join_lt (by omega)
  refine ⟨v, w, v', w', ?_⟩
  rw [ev_eqQ (rs := [.cell 4 31, .cell 5 31, .tmp 6]) [] rfl Try.func10 rfl rfl (by kernel_rfl) (by kernel_rfl)]
  unfold cQ at *
  simp only [go_sem, k1, h1, h2, a1, a2, a3, m1, m2, m3', m4, m5, k6, k7, g1, g2, g3, g4, c1, c2, c3, c4, d1, d2, d3, d4, j1, j2, e1, e2, e3, e4, e5, e6, e7, e8]
  have t1 : ∀ x, nx + 1 + 1 + 1 ≤ x → ¬x = nx + 1 ∧ ¬x = nx + 1 + 1 := fun x h => by omega
  refine ⟨_, _, i, j, i', j', rfl, by omega, ?_, ?_, ?_, ?_, fun x hx => by have := hi x hx; omega, fun x hx => by have := hj x hx; omega, fun x hx => by have := hi' x hx; omega, fun x hx => by have := hj' x hx; omega, hd,
    fun x hx hx' => by have := hi x hx; have := hi' x hx'; omega, fun x hx hx' => by have := hi x hx; have := hj' x hx'; omega, fun x hx hx' => by have := hj x hx; have := hi' x hx'; omega, fun x hx hx' => by have := hj x hx; have := hj' x hx'; omega, hd'⟩
  · refine ov.frame fun x hx => ?_
    have := hi x hx
    rw [upd_ne _ _ (t1 x this.1).2, upd_ne _ _ (t1 x this.1).1, join_lt (by omega), join_in (by omega) (List.mem_append_left _ hx)]
  · refine ow.frame fun x hx => ?_
    have := hj x hx
    rw [upd_ne _ _ (t1 x this.1).2, upd_ne _ _ (t1 x this.1).1, join_lt (by omega), join_in (by omega) (List.mem_append_right _ hx)]
  · refine ov'.frame fun x hx => ?_
    have := hi' x hx
    rw [upd_ne _ _ (t1 x (by omega)).2, upd_ne _ _ (t1 x (by omega)).1, join_in (by omega) (List.mem_append_left _ hx)]
  · refine ow'.frame fun x hx => ?_
    have := hj' x hx
    rw [upd_ne _ _ (t1 x (by omega)).2, upd_ne _ _ (t1 x (by omega)).1, join_in (by omega) (List.mem_append_right _ hx)]
end Go.Proofs.Ytlkpocljgikpgaa
namespace Go.Proofs.Ytlkpocljgikpgaa
open Go Go.TV

theorem markRat_at {σ : Store} {nx : Nat} {v w : V} {neg : Bool} {xs ys : List Int} {i j : List Nat} {k : Int} {y : Option (V × Store × Nat)} (hE : ev Try.prog convM extM 22 [.agg [Bo neg, v, w], I k] σ nx = y) (ho : Own σ 1 v (LI xs) i) (ho2 : Own σ 1 w (LI ys) j) (hi : ∀ b ∈ i, b < nx) (hj : ∀ b ∈ j, b < nx) (hd : ∀ b ∈ i, ¬b ∈ j) (hl : xs.length ≤ 1000) (hl2 : ys.length ≤ 1000) (hk : 0 ≤ k ∧ k ≤ 1000000) :
    ∃ σ', y = some (I (k + xs.length + ys.length), σ', nx + 1 + 1) ∧ Own σ' 1 v (LI (marks k xs.length)) i ∧ Own σ' 1 w (LI (marks (k + xs.length) ys.length)) j ∧ ∀ b, ¬b ∈ i → ¬b ∈ j → b < nx → σ' b = σ b := by
  obtain ⟨σ', h1, h2⟩ := markRat (neg := neg) ho ho2 hi hj hd hl hl2 k hk
  exact ⟨σ', by rw [← hE, h1], h2⟩
theorem not_in {lo hi : Nat} {ids : List Nat} (h : ∀ b ∈ ids, lo ≤ b ∧ b < hi) (c : Nat) (hc : c < lo ∨ hi ≤ c) : (c ∈ ids) = False := by
  simp only [eq_iff_iff, iff_false]; intro h'; have := h c h'; omega
theorem shP_mix (b : Beam) (p q : Int) : shP b p q true = ⟨(shP b p p true).n1, (shP b p p true).x1, (shP b p p true).y1, (shP b q q true).n2, (shP b q q true).x2, (shP b q q true).y2⟩ := rfl
theorem shP_no (b : Beam) (p q : Int) : shP b p q false = ⟨false, [], [], false, [], []⟩ := rfl
theorem worstO (b : Beam) (nx : Nat) : PrRes 11 [.agg (cBeam b)] nx (shP b b.low b.high (beamB b)) (beamB b) ∧ (shP b b.low b.high (beamB b)).small := by
  have hO1 := shareO b b.low (nx + 1 + 1 + 1)
  obtain ⟨hO1, sm1⟩ := hO1
  have q1 : (beamB b && decide (b.low ≤ b.low) && decide (b.low ≤ b.high)) = beamB b := by
    cases hb : beamB b with
    | false => rfl
    | true => have := (beamGood hb).lh; rw [decide_eq_true (Int.le_refl _), decide_eq_true this]; rfl
  have q2 : (beamB b && decide (b.low ≤ b.high) && decide (b.high ≤ b.high)) = beamB b := by
    cases hb : beamB b with
    | false => rfl
    | true => have := (beamGood hb).lh; rw [decide_eq_true (Int.le_refl b.high), decide_eq_true this]; rfl
  rw [q1] at hO1 sm1
  obtain ⟨a, b', c, d, σ1, n1, i, j, k, l, K1, hn1, P1⟩ := hO1
  obtain ⟨hO2, sm2⟩ := shareO b b.high (n1 + 1 + 1)
  rw [q2] at hO2 sm2
  obtain ⟨a2, b2, c2, d2, σ2, n2, i2, j2, k2, l2, K2, hn2, P2⟩ := hO2

  have Goa1 := fun d => P1.oa.gather (d' := d + 1) (by omega)
  have Coa1 := cells_of_cell P1.oa.cell
  have Doa1 := P1.oa.cell
  have Gob1 := fun d => P1.ob.gather (d' := d + 1) (by omega)
  have Cob1 := cells_of_cell P1.ob.cell
  have Dob1 := P1.ob.cell
  have Goc1 := fun d => P1.oc.gather (d' := d + 1) (by omega)
  have Coc1 := cells_of_cell P1.oc.cell
  have Doc1 := P1.oc.cell
  have God1 := fun d => P1.od.gather (d' := d + 1) (by omega)
  have Cod1 := cells_of_cell P1.od.cell
  have Dod1 := P1.od.cell
  have Goa2 := fun d => P2.oa.gather (d' := d + 1) (by omega)
  have Coa2 := cells_of_cell P2.oa.cell
  have Doa2 := P2.oa.cell
  have Gob2 := fun d => P2.ob.gather (d' := d + 1) (by omega)
  have Cob2 := cells_of_cell P2.ob.cell
  have Dob2 := P2.ob.cell
  have Goc2 := fun d => P2.oc.gather (d' := d + 1) (by omega)
  have Coc2 := cells_of_cell P2.oc.cell
  have Doc2 := P2.oc.cell
  have God2 := fun d => P2.od.gather (d' := d + 1) (by omega)
  have Cod2 := cells_of_cell P2.od.cell
  have Dod2 := P2.od.cell
  have e0 : ¬nx = nx + 1 := by omega
  have e1 : ¬nx = nx + 1 + 1 := by omega
  have e2 : ¬nx = n1 := by omega
  have e3 : ¬nx = n1 + 1 := by omega
  have e4 : ¬nx = n2 := by omega
  have e5 : ¬nx = n2 + 1 := by omega
  have e6 : ¬nx + 1 = nx := by omega
  have e7 : ¬nx + 1 = nx + 1 + 1 := by omega
  have e8 : ¬nx + 1 = n1 := by omega
  have e9 : ¬nx + 1 = n1 + 1 := by omega
  have e10 : ¬nx + 1 = n2 := by omega
  have e11 : ¬nx + 1 = n2 + 1 := by omega
  have e12 : ¬nx + 1 + 1 = nx := by omega
  have e13 : ¬nx + 1 + 1 = nx + 1 := by omega
  have e14 : ¬nx + 1 + 1 = n1 := by omega
  have e15 : ¬nx + 1 + 1 = n1 + 1 := by omega
  have e16 : ¬nx + 1 + 1 = n2 := by omega
  have e17 : ¬nx + 1 + 1 = n2 + 1 := by omega
  have e18 : ¬n1 = nx := by omega
  have e19 : ¬n1 = nx + 1 := by omega
  have e20 : ¬n1 = nx + 1 + 1 := by omega
  have e21 : ¬n1 = n1 + 1 := by omega
  have e22 : ¬n1 = n2 := by omega
  have e23 : ¬n1 = n2 + 1 := by omega
  have e24 : ¬n1 + 1 = nx := by omega
  have e25 : ¬n1 + 1 = nx + 1 := by omega
  have e26 : ¬n1 + 1 = nx + 1 + 1 := by omega
  have e27 : ¬n1 + 1 = n1 := by omega
  have e28 : ¬n1 + 1 = n2 := by omega
  have e29 : ¬n1 + 1 = n2 + 1 := by omega
  have e30 : ¬n2 = nx := by omega
  have e31 : ¬n2 = nx + 1 := by omega
  have e32 : ¬n2 = nx + 1 + 1 := by omega
  have e33 : ¬n2 = n1 := by omega
  have e34 : ¬n2 = n1 + 1 := by omega
  have e35 : ¬n2 = n2 + 1 := by omega
  have e36 : ¬n2 + 1 = nx := by omega
  have e37 : ¬n2 + 1 = nx + 1 := by omega
  have e38 : ¬n2 + 1 = nx + 1 + 1 := by omega
  have e39 : ¬n2 + 1 = n1 := by omega
  have e40 : ¬n2 + 1 = n1 + 1 := by omega
  have e41 : ¬n2 + 1 = n2 := by omega
  have e42 : (nx + 1 == nx + 1 + 1) = false := by simp only [beq_eq_false_iff_ne]; omega
  have e43 : (nx + 1 == n1) = false := by simp only [beq_eq_false_iff_ne]; omega
  have e44 : (nx + 1 == n2 + 1) = false := by simp only [beq_eq_false_iff_ne]; omega
  have e45 : (nx + 1 + 1 == nx + 1) = false := by simp only [beq_eq_false_iff_ne]; omega
  have e46 : (nx + 1 + 1 == n1) = false := by simp only [beq_eq_false_iff_ne]; omega
  have e47 : (nx + 1 + 1 == n2 + 1) = false := by simp only [beq_eq_false_iff_ne]; omega
  have e48 : (n1 == nx + 1) = false := by simp only [beq_eq_false_iff_ne]; omega
  have e49 : (n1 == nx + 1 + 1) = false := by simp only [beq_eq_false_iff_ne]; omega
  have e50 : (n1 == n2 + 1) = false := by simp only [beq_eq_false_iff_ne]; omega
  have e51 : (n2 + 1 == nx + 1) = false := by simp only [beq_eq_false_iff_ne]; omega
  have e52 : (n2 + 1 == nx + 1 + 1) = false := by simp only [beq_eq_false_iff_ne]; omega
  have e53 : (n2 + 1 == n1) = false := by simp only [beq_eq_false_iff_ne]; omega
  have L1 : ∀ σ x, x < nx + 1 + 1 + 1 → joinS (nx + 1 + 1 + 1) σ σ1 (i ++ j ++ (k ++ l)) x = σ x := fun σ x h => join_lt h
  have L2 : ∀ σ x, x < n1 + 1 + 1 → joinS (n1 + 1 + 1) σ σ2 (i2 ++ j2 ++ (k2 ++ l2)) x = σ x := fun σ x h => join_lt h
  have lt0 : nx < nx + 1 + 1 + 1 := by omega
  have lt1 : nx + 1 < nx + 1 + 1 + 1 := by omega
  have lt2 : nx + 1 + 1 < nx + 1 + 1 + 1 := by omega
  have lt3 : nx < n1 + 1 + 1 := by omega
  have lt4 : nx + 1 < n1 + 1 + 1 := by omega
  have lt5 : nx + 1 + 1 < n1 + 1 + 1 := by omega
  have lt6 : n1 < n1 + 1 + 1 := by omega
  have lt7 : n1 + 1 < n1 + 1 + 1 := by omega
  have lt8 : nx + 1 < n2 + 1 + 1 := by omega
  have lt9 : nx + 1 + 1 < n2 + 1 + 1 := by omega
  have lt10 : n1 < n2 + 1 + 1 := by omega
  have lt11 : n2 + 1 < n2 + 1 + 1 := by omega
  have lt12 : nx < n2 + 1 + 1 := by omega
  cases hb : beamB b with
  | false =>
    rw [hb] at K1 K2
    refine ⟨?_, by refine ⟨?_, ?_, ?_, ?_⟩ <;> exact Nat.zero_le _⟩
    refine ⟨.nil, .nil, .nil, .nil, ?_⟩
    rw [ev_eqQ (rs := [.cell 2 31, .cell 3 31, .tmp 4]) [5] rfl Try.func11 rfl rfl (by kernel_rfl) (by kernel_rfl)]
    simp only [go_sem, K1, K2, L1, L2, Goa1, Coa1, Doa1, Gob1, Cob1, Dob1, Goc1, Coc1, Doc1, God1, Cod1, Dod1, Goa2, Coa2, Doa2, Gob2, Cob2, Dob2, Goc2, Coc2, Doc2, God2, Cod2, Dod2, e0, e1, e2, e3, e4, e5, e6, e7, e8, e9, e10, e11, e12, e13, e14, e15, e16, e17, e18, e19, e20, e21, e22, e23, e24, e25, e26, e27, e28, e29, e30, e31, e32, e33, e34, e35, e36, e37, e38, e39, e40, e41, e42, e43, e44, e45, e46, e47, e48, e49, e50, e51, e52, e53, lt0, lt1, lt2, lt3, lt4, lt5, lt6, lt7, lt8, lt9, lt10, lt11, lt12]
    exact ⟨_, _, [], [], [], [], rfl, by omega, own_of_nil _ _, own_of_nil _ _, own_of_nil _ _, own_of_nil _ _, by simp, by simp, by simp, by simp, by simp, by simp, by simp, by simp, by simp, by simp⟩
  | true =>
    rw [hb] at K1 K2 P1 P2 sm1 sm2
    rw [shP_mix]
    obtain ⟨z1, z2, z3, z4⟩ := sm1
    obtain ⟨y1, y2, y3, y4⟩ := sm2
    refine ⟨?_, z1, z2, y3, y4⟩
    refine ⟨a, b', c2, d2, ?_⟩
    rw [ev_eqQ (rs := [.cell 2 31, .cell 3 31, .tmp 4]) [5] rfl Try.func11 rfl rfl (by kernel_rfl) (by kernel_rfl)]
    simp only [go_sem, K1, K2, L1, L2, Goa1, Coa1, Doa1, Gob1, Cob1, Dob1, Goc1, Coc1, Doc1, God1, Cod1, Dod1, Goa2, Coa2, Doa2, Gob2, Cob2, Dob2, Goc2, Coc2, Doc2, God2, Cod2, Dod2, e0, e1, e2, e3, e4, e5, e6, e7, e8, e9, e10, e11, e12, e13, e14, e15, e16, e17, e18, e19, e20, e21, e22, e23, e24, e25, e26, e27, e28, e29, e30, e31, e32, e33, e34, e35, e36, e37, e38, e39, e40, e41, e42, e43, e44, e45, e46, e47, e48, e49, e50, e51, e52, e53, lt0, lt1, lt2, lt3, lt4, lt5, lt6, lt7, lt8, lt9, lt10, lt11, lt12]
    refine ⟨_, _, i, j, k2, l2, rfl, by omega, ?_, ?_, ?_, ?_, fun x hx => by have := P1.oi x hx; omega, fun x hx => by have := P1.oj x hx; omega, fun x hx => by have := P2.ok x hx; omega, fun x hx => by have := P2.ol x hx; omega, P1.ij,
      fun x hx hx' => by have := P1.oi x hx; have := P2.ok x hx'; omega, fun x hx hx' => by have := P1.oi x hx; have := P2.ol x hx'; omega, fun x hx hx' => by have := P1.oj x hx; have := P2.ok x hx'; omega, fun x hx hx' => by have := P1.oj x hx; have := P2.ol x hx'; omega, P2.kl⟩
    · refine P1.oa.frame fun x hx => ?_
      have hx' := P1.oi x hx
      simp only [upd_ne _ _ (show x ≠ nx + 1 by omega), upd_ne _ _ (show x ≠ nx + 1 + 1 by omega), upd_ne _ _ (show x ≠ n1 by omega), upd_ne _ _ (show x ≠ n1 + 1 by omega), upd_ne _ _ (show x ≠ n2 by omega), upd_ne _ _ (show x ≠ n2 + 1 by omega), join_lt (show x < n1 + 1 + 1 by omega)]
      exact join_in (by omega) (by simp only [List.mem_append, hx, true_or, or_true])
    · refine P1.ob.frame fun x hx => ?_
      have hx' := P1.oj x hx
      simp only [upd_ne _ _ (show x ≠ nx + 1 by omega), upd_ne _ _ (show x ≠ nx + 1 + 1 by omega), upd_ne _ _ (show x ≠ n1 by omega), upd_ne _ _ (show x ≠ n1 + 1 by omega), upd_ne _ _ (show x ≠ n2 by omega), upd_ne _ _ (show x ≠ n2 + 1 by omega), join_lt (show x < n1 + 1 + 1 by omega)]
      exact join_in (by omega) (by simp only [List.mem_append, hx, true_or, or_true])
    · refine P2.oc.frame fun x hx => ?_
      have hx' := P2.ok x hx
      simp only [upd_ne _ _ (show x ≠ nx + 1 by omega), upd_ne _ _ (show x ≠ nx + 1 + 1 by omega), upd_ne _ _ (show x ≠ n1 by omega), upd_ne _ _ (show x ≠ n1 + 1 by omega), upd_ne _ _ (show x ≠ n2 by omega), upd_ne _ _ (show x ≠ n2 + 1 by omega)]
      exact join_in (by omega) (by simp only [List.mem_append, hx, true_or, or_true])
    · refine P2.od.frame fun x hx => ?_
      have hx' := P2.ol x hx
      simp only [upd_ne _ _ (show x ≠ nx + 1 by omega), upd_ne _ _ (show x ≠ nx + 1 + 1 by omega), upd_ne _ _ (show x ≠ n1 by omega), upd_ne _ _ (show x ≠ n1 + 1 by omega), upd_ne _ _ (show x ≠ n2 by omega), upd_ne _ _ (show x ≠ n2 + 1 by omega)]
      exact join_in (by omega) (by simp only [List.mem_append, hx, true_or, or_true])
end Go.Proofs.Ytlkpocljgikpgaa
