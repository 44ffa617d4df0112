import Derived.Test.YtlkpocljgikpgaaTb3
set_option linter.unusedSimpArgs false
set_option linter.unusedVariables false
namespace Go.Proofs.Ytlkpocljgikpgaa
open Go Go.TV

/-! ### The program's whole numbers -/
def cZ (z : Int) : List V := [Bo (decide (z < 0)), LI (dg z.natAbs)]
def sgnN (b : Bool) (n : Nat) : Int := if b = true then -(n : Int) else n
theorem cZ_sgn (b : Bool) (n : Nat) : cZ (sgnN b n) = [Bo (b && decide (0 < (dg n).length)), LI (dg n)] := by
  unfold cZ sgnN
  cases b with
  | false => simp
  | true =>
    have h1 : ((-(n : Int)).natAbs) = n := by simp
    have h2 : decide (-(n : Int) < 0) = decide (0 < (dg n).length) := by
      rw [decide_eq_decide]
      by_cases h : n = 0
      · subst h; rw [dg_zero]; simp
      · have := List.length_pos_iff.mpr (dg_ne h); omega
    simp only [if_true, Bool.true_and, h1, h2]
theorem sgn_abs (z : Int) : sgnN (decide (z < 0)) z.natAbs = z := by
  unfold sgnN
  by_cases h : z < 0
  · rw [decide_eq_true h, if_pos rfl]; omega
  · rw [decide_eq_false h, if_neg (by decide)]; omega
theorem isignedZ (b : Bool) (n : Nat) : fn Try.prog conv ext 109 [Bo b, LI (dg n)] = some (.agg (cZ (sgnN b n))) := by
  rw [isigned, cZ_sgn]
theorem iintegerZ (z : Int) (h0 : -9223372036854775808 ≤ z) (h1 : z ≤ 9223372036854775807) : fn Try.prog conv ext 78 [I z] = some (.agg (cZ z)) := by
  rw [fn_eq, ev_eqQ (rs := [.cell 2 29]) [] rfl Try.func78 rfl rfl (by kernel_rfl) (by kernel_rfl)]
  by_cases hz : z < 0
  · have w1 := wrap_id (n := z + 1) (by omega) (by omega)
    have w2 : IntKind.i64.wrap (0 - (z + 1)) = -(z + 1) := by rw [wrap_id (by omega) (by omega)]; omega
    have w3 := wrap_u64 (n := -(z + 1)) (by omega) (by omega)
    have w4 := wrap_u64 (n := -(z + 1) + 1) (by omega) (by omega)
    have e : -(z + 1) + 1 = ((z.natAbs : Nat) : Int) := by omega
    rw [e] at w4
    have k1 := ilimbs' z.natAbs (by omega)
    have k2 := isignedZ true z.natAbs
    have e2 : sgnN true z.natAbs = z := by unfold sgnN; rw [if_pos rfl]; omega
    rw [e2] at k2
    unfold cZ at *
    simp only [go_sem, hz, w1, w2, w3, e, w4, k1, k2]
  · have w3 := wrap_u64 (n := z) (by omega) (by omega)
    have e : z = ((z.natAbs : Nat) : Int) := by omega
    have k1 := ilimbs' z.natAbs (by omega)
    rw [← e] at k1
    have k2 := isignedZ false z.natAbs
    have e2 : sgnN false z.natAbs = z := by unfold sgnN; rw [if_neg (by decide)]; omega
    rw [e2] at k2
    unfold cZ at *
    simp only [go_sem, hz, w3, k1, k2]
theorem ioppositeZ (z : Int) : fn Try.prog conv ext 142 [.agg (cZ z)] = some (.agg (cZ (-z))) := by
  have k2 := isignedZ (!decide (z < 0)) z.natAbs
  have e : cZ (sgnN (!decide (z < 0)) z.natAbs) = cZ (-z) := by
    unfold sgnN
    by_cases h : z < 0
    · rw [decide_eq_true h, Bool.not_true, if_neg (by decide)]; congr 1; omega
    · rw [decide_eq_false h, Bool.not_false, if_pos rfl]; congr 1; omega
  rw [e] at k2
  unfold cZ at *
  rw [fn_eq, ev_eqQ (rs := [.cell 2 29]) [] rfl Try.func142 rfl rfl (by kernel_rfl) (by kernel_rfl)]
  simp only [go_sem, k2]
theorem cmpN_neg {m n : Nat} : cmpN m n < 0 ↔ m < n := by
  unfold cmpN
  by_cases h : m < n
  · rw [if_pos h]; simp [h]
  · rw [if_neg h]; split <;> simp [h]
theorem iBplus (x y : Int) (hx : ln x.natAbs ≤ 1000000) (hy : ln y.natAbs ≤ 1000000) : fn Try.prog conv ext 113 [.agg (cZ x), .agg (cZ y)] = some (.agg (cZ (x + y))) := by
  have k1 := icompareL x.natAbs y.natAbs hx hy
  have k2 := iplus x.natAbs y.natAbs hx hy
  have sg : ∀ b m, sgnN b m = x + y → fn Try.prog conv ext 109 [Bo b, LI (dg m)] = some (.agg (cZ (x + y))) := fun b m h => by rw [← h]; exact isignedZ b m
  rw [fn_eq, ev_eqQ (rs := [.cell 4 29]) [4,6,2] rfl Try.func113 rfl rfl (by kernel_rfl) (by kernel_rfl)]
  by_cases h1 : x < 0 <;> by_cases h2 : y < 0
  · have k3 := sg true (x.natAbs + y.natAbs) (by unfold sgnN; rw [if_pos rfl]; omega)
    unfold cZ at *
    rw [decide_eq_true h1, decide_eq_true h2]
    simp only [go_sem, k1, k2, k3]
  · unfold cZ at *
    rw [decide_eq_true h1, decide_eq_false h2]
    by_cases hc : x.natAbs < y.natAbs
    · have c1 : ¬0 ≤ cmpN x.natAbs y.natAbs := by have := cmpN_neg.mpr hc; omega
      have k4 := iminus y.natAbs x.natAbs hy (by omega)
      have k3 := sg false (y.natAbs - x.natAbs) (by unfold sgnN; rw [if_neg (by decide)]; omega)
      simp only [go_sem, k1, k3, k4, c1]
    · have c1 : 0 ≤ cmpN x.natAbs y.natAbs := by have := mt cmpN_neg.mp hc; omega
      have k4 := iminus x.natAbs y.natAbs hx (by omega)
      have k3 := sg true (x.natAbs - y.natAbs) (by unfold sgnN; rw [if_pos rfl]; omega)
      simp only [go_sem, k1, k3, k4, c1]
  · unfold cZ at *
    rw [decide_eq_false h1, decide_eq_true h2]
    by_cases hc : x.natAbs < y.natAbs
    · have c1 : ¬0 ≤ cmpN x.natAbs y.natAbs := by have := cmpN_neg.mpr hc; omega
      have k4 := iminus y.natAbs x.natAbs hy (by omega)
      have k3 := sg true (y.natAbs - x.natAbs) (by unfold sgnN; rw [if_pos rfl]; omega)
      simp only [go_sem, k1, k3, k4, c1]
    · have c1 : 0 ≤ cmpN x.natAbs y.natAbs := by have := mt cmpN_neg.mp hc; omega
      have k4 := iminus x.natAbs y.natAbs hx (by omega)
      have k3 := sg false (x.natAbs - y.natAbs) (by unfold sgnN; rw [if_neg (by decide)]; omega)
      simp only [go_sem, k1, k3, k4, c1]
  · have k3 := sg false (x.natAbs + y.natAbs) (by unfold sgnN; rw [if_neg (by decide)]; omega)
    unfold cZ at *
    rw [decide_eq_false h1, decide_eq_false h2]
    simp only [go_sem, k1, k2, k3]
theorem iBminus (x y : Int) (hx : ln x.natAbs ≤ 1000000) (hy : ln y.natAbs ≤ 1000000) : fn Try.prog conv ext 112 [.agg (cZ x), .agg (cZ y)] = some (.agg (cZ (x - y))) := by
  have k1 := ioppositeZ y
  have k2 := iBplus x (-y) hx (by rwa [Int.natAbs_neg])
  rw [← Int.sub_eq_add_neg] at k2
  unfold cZ at *
  rw [fn_eq, ev_eqQ (rs := [.cell 4 29]) [1] rfl Try.func112 rfl rfl (by kernel_rfl) (by kernel_rfl)]
  simp only [go_sem, k1, k2]
def cmpZ (x y : Int) : Int := if x < y then -1 else if x = y then 0 else 1
theorem cmpZ_pp {m n : Nat} : cmpN m n = cmpZ m n := by unfold cmpN cmpZ; split <;> split <;> first | rfl | (split <;> first | rfl | omega) | omega
theorem iBcompare (x y : Int) (hx : ln x.natAbs ≤ 1000000) (hy : ln y.natAbs ≤ 1000000) : fn Try.prog conv ext 85 [.agg (cZ x), .agg (cZ y)] = some (I (cmpZ x y)) := by
  have k1 := icompareL x.natAbs y.natAbs hx hy
  have k2 := icompareL y.natAbs x.natAbs hy hx
  rw [cmpZ_pp] at k1 k2
  unfold cZ
  rw [fn_eq, ev_eqQ (rs := [.tmp 4]) [] rfl Try.func85 rfl rfl (by kernel_rfl) (by kernel_rfl)]
  by_cases h1 : x < 0 <;> by_cases h2 : y < 0
  · have e : cmpZ ((y.natAbs : Nat) : Int) ((x.natAbs : Nat) : Int) = cmpZ x y := by unfold cmpZ; (repeat' split) <;> first | rfl | omega
    rw [decide_eq_true h1, decide_eq_true h2]
    simp only [go_sem, k2, e]
  · have e : cmpZ x y = -1 := by unfold cmpZ; rw [if_pos (by omega)]
    rw [decide_eq_true h1, decide_eq_false h2, e]
    simp only [go_sem]
  · have e : cmpZ x y = 1 := by unfold cmpZ; rw [if_neg (by omega), if_neg (by omega)]
    rw [decide_eq_false h1, decide_eq_true h2, e]
    simp only [go_sem]
  · have e : cmpZ ((x.natAbs : Nat) : Int) ((y.natAbs : Nat) : Int) = cmpZ x y := by unfold cmpZ; (repeat' split) <;> first | rfl | omega
    rw [decide_eq_false h1, decide_eq_false h2]
    simp only [go_sem, k1, e]
theorem isignZ (x : Int) : fn Try.prog conv ext 86 [.agg (cZ x)] = some (I (cmpZ x 0)) := by
  unfold cZ
  rw [fn_eq, ev_eqQ (rs := [.tmp 2]) [] rfl Try.func86 rfl rfl (by kernel_rfl) (by kernel_rfl)]
  by_cases h0 : x = 0
  · subst h0
    have e : cmpZ 0 0 = 0 := by decide
    rw [e, Int.natAbs_zero, dg_zero]
    (simp only [go_sem]) <;> rfl
  · have c1 : (((dg x.natAbs).length : Int) == 0) = false := by rw [beq_eq_false_iff_ne]; have := app_len (dg_ne (n := x.natAbs) (by omega)); omega
    by_cases h1 : x < 0
    · have e : cmpZ x 0 = -1 := by unfold cmpZ; rw [if_pos h1]
      rw [decide_eq_true h1, e]
      simp only [go_sem, c1]
    · have e : cmpZ x 0 = 1 := by unfold cmpZ; rw [if_neg h1, if_neg h0]
      rw [decide_eq_false h1, e]
      simp only [go_sem, c1]
end Go.Proofs.Ytlkpocljgikpgaa
namespace Go.Proofs.Ytlkpocljgikpgaa
open Go Go.TV

/-! ### The program's fractions (small ones) -/
def cQ (q : Rat) : List V := [Bo (decide (q.num < 0)), LI (dg q.num.natAbs), LI (dg q.den)]
def pQ : Option Rat → V
  | some q => .tp (cQ q) 0
  | none => .sc (.pointer none)
def zQ : List V := [Bo false, .ts [] 0, .ts [] 0]
theorem cQ_len (q : Rat) : (cQ q).length = 3 := rfl
theorem cQ_mk (z : Int) {d : Nat} (h : d ≠ 0) : cQ (mkRat z d) = lowD (decide (z < 0)) z.natAbs d := by
  have hg : Nat.gcd d z.natAbs = Nat.gcd z.natAbs d := Nat.gcd_comm _ _
  have hgp : 0 < Nat.gcd z.natAbs d := Nat.gcd_pos_of_pos_right _ (by omega)
  have hdv : Nat.gcd z.natAbs d ∣ z.natAbs := Nat.gcd_dvd_left _ _
  have hdvz : ((Nat.gcd z.natAbs d : Nat) : Int) ∣ z := Int.ofNat_dvd_left.mpr hdv
  unfold cQ lowD
  rw [Rat.num_mkRat, Rat.den_mkRat, if_neg h, if_neg h, hg]
  have e1 : (z / ((Nat.gcd z.natAbs d : Nat) : Int)).natAbs = z.natAbs / Nat.gcd z.natAbs d := by
    obtain ⟨k, hk⟩ := hdvz
    have e : z / ((Nat.gcd z.natAbs d : Nat) : Int) = k := Int.ediv_eq_of_eq_mul_right (by omega) hk
    have e2 : z.natAbs = Nat.gcd z.natAbs d * k.natAbs := by
      have := congrArg Int.natAbs hk
      rw [Int.natAbs_mul, Int.natAbs_natCast] at this
      exact this
    rw [e, Nat.div_eq_of_eq_mul_right hgp e2]
  have e2 : decide (z / ((Nat.gcd z.natAbs d : Nat) : Int) < 0) = (decide (z < 0) && decide (0 < (dg (z.natAbs / Nat.gcd z.natAbs d)).length)) := by
    have e3 : (z / ((Nat.gcd z.natAbs d : Nat) : Int) < 0) ↔ z < 0 := by
      obtain ⟨k, hk⟩ := hdvz
      have e : z / ((Nat.gcd z.natAbs d : Nat) : Int) = k := Int.ediv_eq_of_eq_mul_right (by omega) hk
      rw [e]
      have hG : (0 : Int) < ((Nat.gcd z.natAbs d : Nat) : Int) := by omega
      generalize ((Nat.gcd z.natAbs d : Nat) : Int) = G at *
      constructor
      · intro hkn; rw [hk]; exact Int.mul_neg_of_pos_of_neg hG hkn
      · intro hz
        refine Classical.byContradiction fun hn => ?_
        have := Int.mul_nonneg (Int.le_of_lt hG) (Int.not_lt.mp hn)
        rw [← hk] at this
        omega
    by_cases hz : z < 0
    · have hne : z.natAbs / Nat.gcd z.natAbs d ≠ 0 := by
        have := Nat.div_pos (Nat.gcd_le_left d (show 0 < z.natAbs by omega)) hgp
        omega
      rw [decide_eq_true (e3.mpr hz), decide_eq_true hz, decide_eq_true (List.length_pos_iff.mpr (dg_ne hne))]; rfl
    · rw [decide_eq_false (mt e3.mp hz), decide_eq_false hz]; rfl
  rw [e1, e2]
theorem ilowestQ (z : Int) (d : Nat) (hz : z.natAbs < 1000000000000000000) (h0 : d ≠ 0) (hd : d < 1000000000) : fn Try.prog conv ext 108 [.agg (cZ z), LI (dg d)] = some (.tp (cQ (mkRat z d)) 0) := by
  have k := ilowest (decide (z < 0)) z.natAbs d hz h0 hd
  rw [← cZ_sgn, sgn_abs, ← cQ_mk z h0] at k
  exact k
/-- Small fractions. -/
def Sm (q : Rat) : Prop := q.num.natAbs < 400000000 ∧ q.den < 30000
theorem lnS {n : Nat} (h : n < 1000000000000000000) : ln n ≤ 1000000 := by
  have := ln_le_iff (n := n) (k := 2) |>.mpr (by have : bp 2 = 1000000000000000000 := by decide
                                                 omega)
  omega
theorem ln2 {n : Nat} (h : n < 1000000000000000000) : ln n ≤ 2 := ln_le_iff.mpr (by have : bp 2 = 1000000000000000000 := by decide
                                                                                    omega)
theorem Sm.n {q : Rat} (h : Sm q) : ln q.num.natAbs ≤ 1000000 := lnS (by have := h.1; omega)
theorem Sm.d {q : Rat} (h : Sm q) : ln q.den ≤ 1000000 := lnS (by have := h.2; omega)
theorem Sm.dd {x y : Rat} (h : Sm x) (h' : Sm y) : x.den * y.den < 1000000000 := by
  have := Nat.mul_lt_mul'' h.2 h'.2
  omega
theorem Sm.nd {x y : Rat} (h : Sm x) (h' : Sm y) : (x.num * y.den).natAbs < 12000000000000 := by
  rw [Int.natAbs_mul, Int.natAbs_natCast]
  have := Nat.mul_lt_mul'' h.1 h'.2
  omega
theorem dd0 (x y : Rat) : x.den * y.den ≠ 0 := Nat.mul_ne_zero x.den_nz y.den_nz
theorem iscaledQ (x : Rat) (d : Nat) (hx : ln x.num.natAbs ≤ 1000000) (hd : ln d ≤ 1000000) : fn Try.prog conv ext 84 [.tp (cQ x) 0, LI (dg d)] = some (.agg (cZ (x.num * d))) := by
  have k1 := itimesL x.num.natAbs d hx hd
  have k2 := isignedZ (decide (x.num < 0)) (x.num.natAbs * d)
  have e : sgnN (decide (x.num < 0)) (x.num.natAbs * d) = x.num * d := by
    have h := sgn_abs x.num
    conv => rhs; rw [← h]
    unfold sgnN
    by_cases q : x.num < 0
    · rw [decide_eq_true q, if_pos rfl, if_pos rfl, Int.natCast_mul, Int.neg_mul]
    · rw [decide_eq_false q, if_neg (by decide), if_neg (by decide), Int.natCast_mul]
  rw [e] at k2
  unfold cQ
  unfold cZ at *
  rw [fn_eq, ev_eqQ (rs := [.cell 4 29]) [] rfl Try.func84 rfl rfl (by kernel_rfl) (by kernel_rfl)]
  simp only [go_sem, k1, k2]
theorem iqplus (x y : Rat) (hx : Sm x) (hy : Sm y) : fn Try.prog conv ext 82 [.tp (cQ x) 0, .tp (cQ y) 0] = some (.tp (cQ (x + y)) 0) := by
  have n1 := hx.nd hy
  have n2 := hy.nd hx
  have k1 := iscaledQ x y.den hx.n hy.d
  have k2 := iscaledQ y x.den hy.n hx.d
  have k3 := iBplus (x.num * y.den) (y.num * x.den) (lnS (by omega)) (lnS (by omega))
  have k4 := itimesL x.den y.den hx.d hy.d
  have k5 := ilowestQ (x.num * y.den + y.num * x.den) (x.den * y.den) (by omega) (dd0 x y) (hx.dd hy)
  rw [← Rat.add_def'] at k5
  unfold cQ at *
  unfold cZ at *
  rw [fn_eq, ev_eqQ (rs := [.tmp 4]) [] rfl Try.func82 rfl rfl (by kernel_rfl) (by kernel_rfl)]
  simp only [go_sem, k1, k2, k3, k4, k5]
theorem iqminus (x y : Rat) (hx : Sm x) (hy : Sm y) : fn Try.prog conv ext 81 [.tp (cQ x) 0, .tp (cQ y) 0] = some (.tp (cQ (x - y)) 0) := by
  have n1 := hx.nd hy
  have n2 := hy.nd hx
  have k1 := iscaledQ x y.den hx.n hy.d
  have k2 := iscaledQ y x.den hy.n hx.d
  have k3 := iBminus (x.num * y.den) (y.num * x.den) (lnS (by omega)) (lnS (by omega))
  have k4 := itimesL x.den y.den hx.d hy.d
  have k5 := ilowestQ (x.num * y.den - y.num * x.den) (x.den * y.den) (by omega) (dd0 x y) (hx.dd hy)
  rw [← Rat.sub_def'] at k5
  unfold cQ at *
  unfold cZ at *
  rw [fn_eq, ev_eqQ (rs := [.tmp 4]) [] rfl Try.func81 rfl rfl (by kernel_rfl) (by kernel_rfl)]
  simp only [go_sem, k1, k2, k3, k4, k5]
theorem div_mk (x y : Rat) (hy : y.num ≠ 0) : x / y = mkRat (sgnN (decide (x.num < 0) != decide (y.num < 0)) (x.num.natAbs * y.den)) (x.den * y.num.natAbs) := by
  have e1 : x / y = Rat.divInt (x.num * y.den) (x.den * y.num) := by
    rw [Rat.div_def]
    conv => lhs; rw [← Rat.num_divInt_den x, ← Rat.num_divInt_den y]
    rw [Rat.inv_divInt, Rat.divInt_mul_divInt]
  rw [e1, ← Rat.divInt_ofNat, Int.natCast_mul]
  have hx := sgn_abs x.num
  by_cases h1 : x.num < 0 <;> by_cases h2 : y.num < 0
  · have a1 : ((x.num.natAbs : Nat) : Int) = -x.num := by omega
    have a2 : ((y.num.natAbs : Nat) : Int) = -y.num := by omega
    rw [decide_eq_true h1, decide_eq_true h2]
    unfold sgnN
    rw [if_neg (by decide), Int.natCast_mul, a1, a2, Int.neg_mul, Int.mul_neg, Rat.neg_divInt_neg]
  · have a1 : ((x.num.natAbs : Nat) : Int) = -x.num := by omega
    have a2 : ((y.num.natAbs : Nat) : Int) = y.num := by omega
    rw [decide_eq_true h1, decide_eq_false h2]
    unfold sgnN
    rw [if_pos (by decide), Int.natCast_mul, a1, a2, Int.neg_mul, Int.neg_neg]
  · have a1 : ((x.num.natAbs : Nat) : Int) = x.num := by omega
    have a2 : ((y.num.natAbs : Nat) : Int) = -y.num := by omega
    rw [decide_eq_false h1, decide_eq_true h2]
    unfold sgnN
    rw [if_pos (by decide), Int.natCast_mul, a1, a2, Int.mul_neg]
    rw [← Rat.neg_divInt_neg (-(x.num * y.den)), Int.neg_neg, Int.neg_neg]
  · have a1 : ((x.num.natAbs : Nat) : Int) = x.num := by omega
    have a2 : ((y.num.natAbs : Nat) : Int) = y.num := by omega
    rw [decide_eq_false h1, decide_eq_false h2]
    unfold sgnN
    rw [if_neg (by decide), Int.natCast_mul, a1, a2]
theorem iqby (x y : Rat) (hx : x.num.natAbs < 1000000000) (hxd : x.den = 1) (hy : y.num.natAbs < 1000000000) (hyd : y.den = 1) (h0 : y.num ≠ 0) : fn Try.prog conv ext 77 [.tp (cQ x) 0, .tp (cQ y) 0] = some (.tp (cQ (x / y)) 0) := by
  have k1 := itimesL x.num.natAbs y.den (lnS (by omega)) (lnS (by omega))
  have k2 := isignedZ (decide (x.num < 0) != decide (y.num < 0)) (x.num.natAbs * y.den)
  have k3 := itimesL x.den y.num.natAbs (lnS (by omega)) (lnS (by omega))
  have hd : x.den * y.num.natAbs < 1000000000 := by rw [hxd]; omega
  have hn : (sgnN (decide (x.num < 0) != decide (y.num < 0)) (x.num.natAbs * y.den)).natAbs < 1000000000000000000 := by
    rw [hyd, Nat.mul_one]
    unfold sgnN
    split <;> omega
  have k4 := ilowestQ _ (x.den * y.num.natAbs) hn (Nat.mul_ne_zero x.den_nz (by omega)) hd
  rw [← div_mk x y h0] at k4
  rw [cZ_sgn] at k4 k2
  have e : ∀ a b : Bool, (!a == b) = (a != b) := by decide
  unfold cQ at *
  rw [fn_eq, ev_eqQ (rs := [.tmp 4]) [] rfl Try.func77 rfl rfl (by kernel_rfl) (by kernel_rfl)]
  simp only [go_sem, k1, k2, k3, k4, e]
theorem ifitQ (q : Rat) (h1 : ln q.num.natAbs ≤ 24) (h2 : ln q.den ≤ 24) : fn Try.prog conv ext 76 [.tp (cQ q) 0] = some (.tp (cQ q) 0) := ifit _ _ _ h1 h2
theorem istoreQ (q : Rat) (h1 : ln q.num.natAbs ≤ 24) (h2 : ln q.den ≤ 24) : fn Try.prog conv ext 42 [.tp (cQ q) 0] = some (.agg (cQ q)) := istore _ _ _ h1 h2
theorem mk_small (z : Int) {d : Nat} (h : d ≠ 0) : (mkRat z d).num.natAbs ≤ z.natAbs ∧ (mkRat z d).den ≤ d := by
  rw [Rat.num_mkRat, Rat.den_mkRat, if_neg h, if_neg h]
  exact ⟨Int.natAbs_ediv_le_natAbs _ _, Nat.div_le_self _ _⟩
theorem Sm.add {x y : Rat} (hx : Sm x) (hy : Sm y) : (x + y).num.natAbs < 1000000000000000000 ∧ (x + y).den < 1000000000 := by
  have n1 := hx.nd hy
  have n2 := hy.nd hx
  have := mk_small (x.num * y.den + y.num * x.den) (dd0 x y)
  rw [← Rat.add_def'] at this
  have h3 := hx.dd hy
  omega
theorem Sm.sub {x y : Rat} (hx : Sm x) (hy : Sm y) : (x - y).num.natAbs < 1000000000000000000 ∧ (x - y).den < 1000000000 := by
  have n1 := hx.nd hy
  have n2 := hy.nd hx
  have := mk_small (x.num * y.den - y.num * x.den) (dd0 x y)
  rw [← Rat.sub_def'] at this
  have h3 := hx.dd hy
  omega
theorem ln24 {n : Nat} (h : n < 1000000000000000000) : ln n ≤ 24 := by have := ln2 h; omega
theorem iadd (x y : Rat) (hx : Sm x) (hy : Sm y) : fn Try.prog conv ext 47 [.tp (cQ x) 0, .tp (cQ y) 0] = some (.tp (cQ (x + y)) 0) := by
  have h := hx.add hy
  have k1 := iqplus x y hx hy
  have k2 := ifitQ (x + y) (ln24 h.1) (ln24 (by have := h.2; omega))
  unfold cQ at *
  rw [fn_eq, ev_eqQ (rs := [.tmp 4]) [] rfl Try.func47 rfl rfl (by kernel_rfl) (by kernel_rfl)]
  simp only [go_sem, k1, k2]
theorem isub (x y : Rat) (hx : Sm x) (hy : Sm y) : fn Try.prog conv ext 43 [.tp (cQ x) 0, .tp (cQ y) 0] = some (.tp (cQ (x - y)) 0) := by
  have h := hx.sub hy
  have k1 := iqminus x y hx hy
  have k2 := ifitQ (x - y) (ln24 h.1) (ln24 (by have := h.2; omega))
  unfold cQ at *
  rw [fn_eq, ev_eqQ (rs := [.tmp 4]) [] rfl Try.func43 rfl rfl (by kernel_rfl) (by kernel_rfl)]
  simp only [go_sem, k1, k2]
theorem iSign (q : Rat) : fn Try.prog conv ext 50 [.tp (cQ q) 0] = some (I (cmpZ q.num 0)) := by
  have k := isignZ q.num
  unfold cQ
  unfold cZ at k
  rw [fn_eq, ev_eqQ (rs := [.tmp 2]) [] rfl Try.func50 rfl rfl (by kernel_rfl) (by kernel_rfl)]
  simp only [go_sem, k]
theorem iwholeZ (z : Int) (h0 : -9223372036854775808 ≤ z) (h1 : z ≤ 9223372036854775807) : fn Try.prog conv ext 41 [I z] = some (.tp (cQ (z : Rat)) 0) := by
  have k := iintegerZ z h0 h1
  have e1 : (z : Rat).num = z := rfl
  have e2 : (z : Rat).den = 1 := rfl
  unfold cQ
  rw [e1, e2, dg_one (d := 1) (by decide) (by decide)]
  unfold cZ at k
  rw [fn_eq, ev_eqQ (rs := [.tmp 2]) [] rfl Try.func41 rfl rfl (by kernel_rfl) (by kernel_rfl)]
  (simp only [go_sem, k]) <;> rfl
theorem den_div_small (x y : Int) (hy : y ≠ 0) : ((x : Rat) / (y : Rat)).num.natAbs ≤ x.natAbs ∧ ((x : Rat) / (y : Rat)).den ≤ y.natAbs := by
  have h0 : (y : Rat).num ≠ 0 := hy
  rw [div_mk _ _ h0]
  have e1 : (x : Rat).num = x := rfl
  have e2 : (x : Rat).den = 1 := rfl
  have e3 : (y : Rat).num = y := rfl
  have e4 : (y : Rat).den = 1 := rfl
  have := mk_small (sgnN (decide ((x : Rat).num < 0) != decide ((y : Rat).num < 0)) ((x : Rat).num.natAbs * (y : Rat).den)) (d := (x : Rat).den * (y : Rat).num.natAbs) (by rw [e2, e3]; omega)
  have e5 : (sgnN (decide ((x : Rat).num < 0) != decide ((y : Rat).num < 0)) ((x : Rat).num.natAbs * (y : Rat).den)).natAbs = x.natAbs := by
    rw [e1, e4, Nat.mul_one]; unfold sgnN; split <;> omega
  rw [e5, e2, e3, Nat.one_mul] at this
  rwa [e2, e3, Nat.one_mul]
theorem idivZ (x y : Int) (hx : x.natAbs < 1000000000) (hy : y.natAbs < 1000000000) (h0 : y ≠ 0) : fn Try.prog conv ext 40 [.tp (cQ (x : Rat)) 0, .tp (cQ (y : Rat)) 0] = some (.tp (cQ ((x : Rat) / (y : Rat))) 0) := by
  have k0 := iSign (y : Rat)
  have k1 := iqby x y hx rfl hy rfl h0
  have hs := den_div_small x y h0
  have k2 := ifitQ ((x : Rat) / (y : Rat)) (ln24 (by omega)) (ln24 (by omega))
  have c : (cmpZ (y : Rat).num 0 == 0) = false := by
    have e3 : (y : Rat).num = y := rfl
    rw [e3]; unfold cmpZ
    by_cases h : y < 0
    · rw [if_pos h]; rfl
    · rw [if_neg h, if_neg h0]; rfl
  unfold cQ at *
  rw [fn_eq, ev_eqQ (rs := [.tmp 4]) [] rfl Try.func40 rfl rfl (by kernel_rfl) (by kernel_rfl)]
  simp only [go_sem, k0, k1, k2, c]
theorem iRatOkQ (q : Rat) (h : q.num.natAbs < 1000000000000000000) (hd : q.den < 1000000000) : fn Try.prog conv ext 83 [.agg (cQ q)] = some (Bo true) :=
  iRatOk _ _ _ h hd q.den_nz q.reduced (fun hb => by have := of_decide_eq_true hb; omega)
theorem iloadQ (q : Rat) (h : q.num.natAbs < 1000000000000000000) (hd : q.den < 1000000000) : fn Try.prog conv ext 48 [.agg (cQ q)] = some (.tp (cQ q) 0) :=
  iload _ _ _ h hd q.den_nz q.reduced (fun hb => by have := of_decide_eq_true hb; omega)
theorem iRatAdd (x y : Rat) (hx : Sm x) (hy : Sm y) : fn Try.prog conv ext 14 [.agg (cQ x), .agg (cQ y)] = some (.agg (cQ (x + y))) := by
  have h := hx.add hy
  have k1 := iloadQ x (by have := hx.1; omega) (by have := hx.2; omega)
  have k2 := iloadQ y (by have := hy.1; omega) (by have := hy.2; omega)
  have k3 := iadd x y hx hy
  have k4 := istoreQ (x + y) (ln24 h.1) (ln24 (by have := h.2; omega))
  unfold cQ at *
  rw [fn_eq, ev_eqQ (rs := [.cell 4 31]) [] rfl Try.func14 rfl rfl (by kernel_rfl) (by kernel_rfl)]
  simp only [go_sem, k1, k2, k3, k4]
theorem iRatSign (q : Rat) (h : Sm q) : fn Try.prog conv ext 18 [.agg (cQ q)] = some (I (cmpZ q.num 0)) := by
  have k1 := iloadQ q (by have := h.1; omega) (by have := h.2; omega)
  have k2 := iSign q
  unfold cQ at *
  rw [fn_eq, ev_eqQ (rs := [.tmp 2]) [] rfl Try.func18 rfl rfl (by kernel_rfl) (by kernel_rfl)]
  simp only [go_sem, k1, k2]
theorem iRatFromIntZ (z : Int) (h : z.natAbs < 1000000000) : fn Try.prog conv ext 15 [I z] = some (.agg (cQ (z : Rat))) := by
  have k1 := iwholeZ z (by omega) (by omega)
  have e1 : (z : Rat).num = z := rfl
  have k2 := istoreQ (z : Rat) (ln24 (by rw [e1]; omega)) (ln24 (by show 1 < _; decide))
  unfold cQ at *
  rw [fn_eq, ev_eqQ (rs := [.cell 2 31]) [] rfl Try.func15 rfl rfl (by kernel_rfl) (by kernel_rfl)]
  simp only [go_sem, k1, k2]
theorem iCmpQ (x y : Rat) (hx : Sm x) (hy : Sm y) : fn Try.prog conv ext 49 [.tp (cQ x) 0, .tp (cQ y) 0] = some (I (cmpZ (x.num * y.den) (y.num * x.den))) := by
  have n1 := hx.nd hy
  have n2 := hy.nd hx
  have k1 := iscaledQ x y.den hx.n hy.d
  have k2 := iscaledQ y x.den hy.n hx.d
  have k3 := iBcompare (x.num * y.den) (y.num * x.den) (lnS (by omega)) (lnS (by omega))
  unfold cQ at *
  unfold cZ at *
  rw [fn_eq, ev_eqQ (rs := [.tmp 4]) [] rfl Try.func49 rfl rfl (by kernel_rfl) (by kernel_rfl)]
  simp only [go_sem, k1, k2, k3]
theorem iRatCmpQ (x y : Rat) (hx : Sm x) (hy : Sm y) : fn Try.prog conv ext 16 [.agg (cQ x), .agg (cQ y)] = some (I (cmpZ (x.num * y.den) (y.num * x.den))) := by
  have k1 := iloadQ x (by have := hx.1; omega) (by have := hx.2; omega)
  have k2 := iloadQ y (by have := hy.1; omega) (by have := hy.2; omega)
  have k3 := iCmpQ x y hx hy
  unfold cQ at *
  rw [fn_eq, ev_eqQ (rs := [.tmp 4]) [] rfl Try.func16 rfl rfl (by kernel_rfl) (by kernel_rfl)]
  simp only [go_sem, k1, k2, k3]
end Go.Proofs.Ytlkpocljgikpgaa
namespace Go.Proofs.Ytlkpocljgikpgaa
open Go Go.TV

/-! ### Beams -/
theorem islEqual (a b : List Int) (ha : Short a) (hb : Short b) : fn Try.prog conv ext 46 [LI a, LI b] = some (Bo (decide (a = b))) := by
  unfold Short at ha hb
  rw [fn_eq, ev_eqQ (rs := [.tmp 4]) [] rfl Try.func46 rfl rfl (by kernel_rfl) (by kernel_rfl)]
  by_cases hl : a.length = b.length
  · have c1 : ((a.length : Int) != (b.length : Int)) = false := by rw [hl]; simp
    simp only [go_sem, c1]
    generalize hL : evLoopI _ _ = y
    obtain ⟨r, rfl, hr⟩ := count_rule hL a.length (fun k st => st.nx = 0 ∧ st.σ = noStore ∧ st.T 0 = LI a ∧ st.T 1 = LI b ∧ st.T 12 = I a.length ∧ st.T 13 = I k ∧ ∀ i (h : i < a.length) (h' : i < b.length), i < k → a[i] = b[i])
      (fun r => (∃ T, r = (.exit 0, ⟨T, noStore, 0⟩) ∧ a = b) ∨ (∃ T, r = (.ret, ⟨T, noStore, 0⟩) ∧ T 4 = Bo false ∧ a ≠ b)) (by
        clear hL
        rintro k ⟨T, σ, nx⟩ hlt ⟨hn, hσ, h0, h1, h12, h13, hi⟩
        simp only at hn hσ h0 h1 h12 h13
        subst hn hσ
        have hlt2 : k < b.length := by omega
        have f1 : (k : Int) < (a.length : Int) := by omega
        have f1' : (k : Int) < (b.length : Int) := by omega
        have f2 : (0 : Int) ≤ (k : Int) := by omega
        have f3 := wrap_id (n := (k : Int) + 1) (by omega) (by omega)
        have f5 := slot_ne (c := cI) (s := 1) (fun _ => rfl) (by omega) a k hlt
        have f5' := slot_ne (c := cI) (s := 1) (fun _ => rfl) (by omega) b k hlt2
        have f6 := idx hlt
        have f6' := idx hlt2
        by_cases hx : a[k] = b[k]
        · have fx : (a[k] != b[k]) = false := by simpa using hx
          refine .inl ⟨_, by simp only [go_sem, h0, h1, h12, h13, f1, f1', f2, f3, f5, f5', f6, f6', fx]; rfl, ?_⟩
          simp only [go_sem, h0, h1, h12]
          refine ⟨rfl, fun i hi1 hi2 hik => ?_⟩
          rcases Nat.lt_or_eq_of_le (Nat.le_of_lt_succ hik) with q | q
          · exact hi i hi1 hi2 q
          · subst q; exact hx
        · have fx : (a[k] != b[k]) = true := by simpa using hx
          refine .inr ⟨_, by simp only [go_sem, h0, h1, h12, h13, f1, f1', f2, f5, f5', f6, f6', fx]; rfl, by simp, .inr ⟨_, rfl, by simp only [go_sem], fun e => ?_⟩⟩
          subst e; exact hx rfl) (by
        clear hL
        rintro ⟨T, σ, nx⟩ ⟨hn, hσ, h0, h1, h12, h13, hi⟩
        simp only at hn hσ h12 h13
        subst hn hσ
        exact ⟨_, by simp only [go_sem, h12, h13, Int.lt_irrefl]; rfl, by simp, .inl ⟨_, rfl, List.ext_getElem hl fun i h1 h2 => hi i h1 h2 h1⟩⟩) (by
        simp only [go_sem]
        exact fun i _ _ h => absurd h (Nat.not_lt_zero _))
    rcases hr with ⟨T, rfl, h⟩ | ⟨T, rfl, h4, h⟩
    · simp only [go_sem, decide_eq_true h]
    · simp only [go_sem, h4, decide_eq_false h]
  · have c1 : ((a.length : Int) != (b.length : Int)) = true := by rw [bne_iff_ne]; omega
    rw [decide_eq_false fun e => hl (by rw [e])]
    simp only [go_sem, c1]
theorem dg_inj {m n : Nat} (h : dg m = dg n) : m = n := by
  have := vl_dg m
  rw [h, vl_dg] at this
  omega
theorem iRatEqual (x y : Rat) (hx : Sm x) (hy : Sm y) : fn Try.prog conv ext 13 [.agg (cQ x), .agg (cQ y)] = some (Bo (decide (x = y))) := by
  have k1 := islEqual (dg x.num.natAbs) (dg y.num.natAbs) (short_ln hx.n) (short_ln hy.n)
  have k2 := islEqual (dg x.den) (dg y.den) (short_ln hx.d) (short_ln hy.d)
  have e : decide (x = y) = (decide (x.num < 0) == decide (y.num < 0) && (decide (dg x.num.natAbs = dg y.num.natAbs) && decide (dg x.den = dg y.den))) := by
    by_cases h : x = y
    · subst h; simp
    · rw [decide_eq_false h]
      by_cases h1 : dg x.num.natAbs = dg y.num.natAbs
      · by_cases h2 : dg x.den = dg y.den
        · have a1 := dg_inj h1
          have a2 := dg_inj h2
          by_cases h3 : x.num < 0 <;> by_cases h4 : y.num < 0
          · exact absurd (Rat.ext (by omega) a2) h
          · simp [h3, h4]
          · simp [h3, h4]
          · exact absurd (Rat.ext (by omega) a2) h
        · simp [h2]
      · simp [h1]
  rw [e]
  unfold cQ
  rw [fn_eq, ev_eqQ (rs := [.tmp 4]) [] rfl Try.func13 rfl rfl (by kernel_rfl) (by kernel_rfl)]
  generalize decide (dg x.num.natAbs = dg y.num.natAbs) = b1 at *
  generalize decide (dg x.den = dg y.den) = b2 at *
  cases h : (decide (x.num < 0) == decide (y.num < 0)) <;> cases b1 <;> cases b2 <;> simp only [go_sem, k1, k2, h] <;> rfl
def beamB (b : Beam) : Bool := inB b.left (-1000) 1000 && inB b.right (-1000) 1000 && inB b.low (-1000) 1000 && inB b.high (-1000) 1000 && decide (b.left < b.right) && decide (b.low ≤ b.high) && inB b.weight 0 1000
theorem iBeamOk (b : Beam) : fn Try.prog conv ext 12 [.agg (cBeam b)] = some (Bo (beamB b)) := by
  have k1 := isSpot b.left
  have k2 := isSpot b.right
  have k3 := isSpot b.low
  have k4 := isSpot b.high
  have k5 := isLimit b.weight
  unfold beamB
  rw [fn_eq, ev_eqQ (rs := [.tmp 2]) [] rfl Try.func12 rfl rfl (by kernel_rfl) (by kernel_rfl)]
  generalize inB b.left (-1000) 1000 = b1 at *
  generalize inB b.right (-1000) 1000 = b2 at *
  generalize inB b.low (-1000) 1000 = b3 at *
  generalize inB b.high (-1000) 1000 = b4 at *
  cases b1
  · simp only [go_sem, k1]
  cases b2
  · simp only [go_sem, k1, k2]
  cases b3
  · simp only [go_sem, k1, k2, k3]
  cases b4
  · simp only [go_sem, k1, k2, k3, k4]
  by_cases h1 : b.left < b.right
  · by_cases h2 : b.low ≤ b.high
    · simp only [go_sem, k1, k2, k3, k4, k5, h1, h2]
    · simp only [go_sem, k1, k2, k3, k4, h1, h2]
  · simp only [go_sem, k1, k2, k3, k4, h1]
structure BeamGood (b : Beam) : Prop where
  l : -1000 ≤ b.left ∧ b.left ≤ 1000
  r : -1000 ≤ b.right ∧ b.right ≤ 1000
  lo : -1000 ≤ b.low ∧ b.low ≤ 1000
  hi : -1000 ≤ b.high ∧ b.high ≤ 1000
  lr : b.left < b.right
  lh : b.low ≤ b.high
  w : 0 ≤ b.weight ∧ b.weight ≤ 1000
theorem beamGood {b : Beam} (h : beamB b = true) : BeamGood b := by
  unfold beamB at h
  simp only [Bool.and_eq_true, decide_eq_true_eq] at h
  exact ⟨inB_true h.1.1.1.1.1.1, inB_true h.1.1.1.1.1.2, inB_true h.1.1.1.1.2, inB_true h.1.1.1.2, h.1.1.2, h.1.2, inB_true h.2⟩
/-- The share of the right hook. -/
def rightQ (b : Beam) (p : Int) : Rat := ((b.weight * (p - b.left) : Int) : Rat) / ((b.right - b.left : Int) : Rat)
theorem right_small {b : Beam} (h : BeamGood b) {p : Int} (hp : -1000 ≤ p ∧ p ≤ 1000) : (b.weight * (p - b.left)).natAbs ≤ 2000000 ∧ Sm (rightQ b p) ∧ (rightQ b p).num.natAbs ≤ 2000000 ∧ (rightQ b p).den ≤ 2000 := by
  obtain ⟨⟨l0, l1⟩, ⟨r0, r1⟩, _, _, hlr, _, w0, w1⟩ := h
  have h1 : (b.weight * (p - b.left)).natAbs ≤ 1000 * 2000 := by
    rw [Int.natAbs_mul]
    exact Nat.mul_le_mul (by omega) (by omega)
  have h2 := den_div_small (b.weight * (p - b.left)) (b.right - b.left) (by omega)
  unfold rightQ Sm
  omega
theorem left_small {b : Beam} (h : BeamGood b) {p : Int} (hp : -1000 ≤ p ∧ p ≤ 1000) : Sm ((b.weight : Rat) - rightQ b p) := by
  have hs := right_small h hp
  have e := Rat.sub_def' (b.weight : Rat) (rightQ b p)
  have e1 : (b.weight : Rat).num = b.weight := rfl
  have e2 : (b.weight : Rat).den = 1 := rfl
  rw [e1, e2, Nat.one_mul] at e
  have h3 := mk_small (b.weight * (rightQ b p).den - (rightQ b p).num * (1 : Nat)) (rightQ b p).den_nz
  rw [← e] at h3
  have h4 : (b.weight * ((rightQ b p).den : Int)).natAbs ≤ 1000 * 2000 := by
    rw [Int.natAbs_mul, Int.natAbs_natCast]
    exact Nat.mul_le_mul (by have := h.w; omega) hs.2.2.2
  unfold Sm
  omega
theorem iShareAt (b : Beam) (p : Int) : fn Try.prog conv ext 10 [.agg (cBeam b), I p] = some (if (beamB b && decide (b.low ≤ p) && decide (p ≤ b.high)) = true then .tup [.agg (cQ ((b.weight : Rat) - rightQ b p)), .agg (cQ (rightQ b p)), Bo true] else .tup [.agg zQ, .agg zQ, Bo false]) := by
  have k1 := iBeamOk b
  unfold zQ
  rw [fn_eq, ev_eqQ (rs := [.cell 4 31, .cell 5 31, .tmp 6]) [] rfl Try.func10 rfl rfl (by kernel_rfl) (by kernel_rfl)]
  cases hb : beamB b with
  | false =>
    rw [hb] at k1
    (simp only [go_sem, k1]) <;> rfl
  | true =>
  rw [hb] at k1
  have hg := beamGood hb
  by_cases h1 : p < b.low
  · rw [if_neg (by simp; omega)]
    (simp only [go_sem, k1, h1]) <;> rfl
  by_cases h2 : b.high < p
  · rw [if_neg (by simp; omega)]
    (simp only [go_sem, k1, h1, h2]) <;> rfl
  rw [if_pos (by simp; omega)]
  have hp : -1000 ≤ p ∧ p ≤ 1000 := by have := hg.lo; have := hg.hi; omega
  have hs := right_small hg hp
  have hl := left_small hg hp
  obtain ⟨⟨l0, l1⟩, ⟨r0, r1⟩, _, _, hlr, _, w0, w1⟩ := hg
  have a1 := wrap_id (n := p - b.left) (by omega) (by omega)
  have a2 := wrap_id (n := b.weight * (p - b.left)) (by omega) (by omega)
  have a3 := wrap_id (n := b.right - b.left) (by omega) (by omega)
  have m1 := iwholeZ (b.weight * (p - b.left)) (by omega) (by omega)
  have m2 := iwholeZ (b.right - b.left) (by omega) (by omega)
  have m3 := idivZ (b.weight * (p - b.left)) (b.right - b.left) (by omega) (by omega) (by omega)
  have m4 := iwholeZ b.weight (by omega) (by omega)
  have e1 : (b.weight : Rat).num = b.weight := rfl
  have sw : Sm (b.weight : Rat) := ⟨by rw [e1]; omega, by show 1 < _; decide⟩
  have m5 := isub (b.weight : Rat) (rightQ b p) sw hs.2.1
  have m6 := istoreQ ((b.weight : Rat) - rightQ b p) (ln24 (by have := hl.1; omega)) (ln24 (by have := hl.2; omega))
  have m7 := istoreQ (rightQ b p) (ln24 (by have := hs.2.1.1; omega)) (ln24 (by have := hs.2.1.2; omega))
  have m3' : fn Try.prog conv ext 40 [.tp (cQ ((b.weight * (p - b.left) : Int) : Rat)) 0, .tp (cQ ((b.right - b.left : Int) : Rat)) 0] = some (.tp (cQ (rightQ b p)) 0) := m3
  generalize ((b.weight : Rat) - rightQ b p) = L at *
  generalize rightQ b p = R at *
  unfold cQ at *
  simp only [go_sem, k1, h1, h2, a1, a2, a3, m1, m2, m3', m4, m5, m6, m7]
end Go.Proofs.Ytlkpocljgikpgaa
namespace Go.Proofs.Ytlkpocljgikpgaa
open Go Go.TV

theorem iWorstShares (b : Beam) : fn Try.prog conv ext 11 [.agg (cBeam b)] = some (if beamB b = true then .tup [.agg (cQ ((b.weight : Rat) - rightQ b b.low)), .agg (cQ (rightQ b b.high)), Bo true] else .tup [.agg zQ, .agg zQ, Bo false]) := by
  have k1 := iShareAt b b.low
  have k2 := iShareAt b b.high
  unfold zQ at *
  rw [fn_eq, ev_eqQ (rs := [.cell 2 31, .cell 3 31, .tmp 4]) [5] rfl Try.func11 rfl rfl (by kernel_rfl) (by kernel_rfl)]
  cases hb : beamB b with
  | false =>
    rw [hb, if_neg (by simp)] at k1 k2
    (simp only [go_sem, k1, k2]) <;> rfl
  | true =>
    have hg := (beamGood hb).lh
    rw [hb, if_pos (by simp; exact hg)] at k1 k2
    generalize ((b.weight : Rat) - rightQ b b.low) = L1 at *
    generalize ((b.weight : Rat) - rightQ b b.high) = L2 at *
    generalize rightQ b b.low = R1 at *
    generalize rightQ b b.high = R2 at *
    unfold cQ at *
    simp only [go_sem, k1, k2]
theorem iIsSteady (b : Beam) : fn Try.prog conv ext 17 [.agg (cBeam b)] = some (Bo (beamB b && (decide (b.weight = 0) || decide (b.left ≤ b.low) && decide (b.high ≤ b.right)))) := by
  have k1 := iBeamOk b
  rw [fn_eq, ev_eqQ (rs := [.tmp 2]) [] rfl Try.func17 rfl rfl (by kernel_rfl) (by kernel_rfl)]
  cases hb : beamB b with
  | false => rw [hb] at k1; simp only [go_sem, k1]
  | true =>
    rw [hb] at k1
    by_cases h0 : b.weight = 0
    · have c : (b.weight == 0) = true := by simpa using h0
      rw [decide_eq_true h0]
      simp only [go_sem, k1, c]
    · have c : (b.weight == 0) = false := by simpa using h0
      rw [decide_eq_false h0]
      by_cases h1 : b.left ≤ b.low
      · by_cases h2 : b.high ≤ b.right <;> simp only [go_sem, k1, c, h1, h2]
      · simp only [go_sem, k1, c, h1]
theorem sBelow (xs : List Int) (hx : ∀ x ∈ xs, 0 ≤ x ∧ x ≤ 255) (hl : xs.length ≤ 1048576) (i h : Int) (hi : 0 ≤ i ∧ i ≤ xs.length) (n : Int) (h1 : 1 ≤ n) (h2 : n ≤ 256) :
    ∃ r i' h', (∀ (b st nx : Nat) (σ : Store), σ b = some (Cur xs i h st) → b < nx → ev Try.prog conv ext 75 [.rp b 0, I n] σ nx = some (I r, upd σ b (some (Cur xs i' h' st)), nx)) ∧ (0 ≤ r ∧ r < n) ∧ 0 ≤ i' ∧ i' ≤ xs.length := by
  obtain ⟨r, i', h', k, hr, hi'⟩ := sByteA xs hx hl i h hi
  have c1 : ¬n ≤ 0 := by omega
  have c2 : ¬n = 0 := by omega
  refine ⟨r.tmod n, i', h', fun b st nx σ hσ hb => ?_, ?_, hi'⟩
  · have k' := k b st nx σ hσ hb
    rw [ev_eqQ (rs := [.tmp 4]) [] rfl Try.func75 rfl rfl (by kernel_rfl) (by kernel_rfl)]
    simp only [go_sem, call_inl, k', c1, c2, h2]
  · rw [Int.tmod_eq_emod_of_nonneg hr.1]
    exact ⟨Int.emod_nonneg _ (by omega), Int.emod_lt_of_pos _ (by omega)⟩
theorem sl25Beam (xs : List Int) (hx : ∀ x ∈ xs, 0 ≤ x ∧ x ≤ 255) (hl : xs.length ≤ 1048576) (i h : Int) (hi : 0 ≤ i ∧ i ≤ xs.length) (c nx : Nat) (σ : Store) (hσ : σ c = some (Cur xs i h 0)) (hc : c < nx) :
    ∃ b σ', ev Try.prog conv ext 36 [.rp c 0] σ nx = some (.agg (cBeam b), σ', nx + 1 + 1) ∧ (-9 ≤ b.left ∧ b.left < 0) ∧ (0 ≤ b.weight ∧ b.weight < 50) ∧ (b.left + 1 ≤ b.right ∧ b.right ≤ b.left + 12) ∧ (b.left - 1 ≤ b.low ∧ b.low ≤ b.left + 3) ∧ (b.low ≤ b.high ∧ b.high ≤ b.low + 5) ∧ ∀ q, q < c → σ' q = σ q := by
  obtain ⟨r1, i1, g1, k1, b1, j1⟩ := sBelow xs hx hl i h hi 9 (by decide) (by decide)
  obtain ⟨r2, i2, g2, k2, b2, j2⟩ := sBelow xs hx hl i1 g1 j1 50 (by decide) (by decide)
  obtain ⟨r3, i3, g3, k3, b3, j3⟩ := sBelow xs hx hl i2 g2 j2 12 (by decide) (by decide)
  obtain ⟨r4, i4, g4, k4, b4, j4⟩ := sBelow xs hx hl i3 g3 j3 5 (by decide) (by decide)
  obtain ⟨r5, i5, g5, k5, b5, j5⟩ := sBelow xs hx hl i4 g4 j4 6 (by decide) (by decide)
  have q1 := fun (b nx : Nat) (σ : Store) => k1 b 0 nx σ
  have q2 := fun (b nx : Nat) (σ : Store) => k2 b 0 nx σ
  have q3 := fun (b nx : Nat) (σ : Store) => k3 b 0 nx σ
  have q4 := fun (b nx : Nat) (σ : Store) => k4 b 0 nx σ
  have q5 := fun (b nx : Nat) (σ : Store) => k5 b 0 nx σ
  have n1 : ¬c = nx := by omega
  have n2 : ¬c = nx + 1 := by omega
  have n3 : ¬nx = c := by omega
  have n4 : ¬nx + 1 = c := by omega
  have n5 : c < nx + 1 := by omega
  have n6 : c < nx + 1 + 1 := by omega
  have n7 : ¬nx + 1 = nx := by omega
  have n8 : ¬nx = nx + 1 := by omega
  have n9 : nx + 1 < nx + 1 + 1 := by omega
  have n10 : (nx + 1 == c) = false := by simpa using n4
  have n11 : (c == nx + 1) = false := by simpa using n2
  have w1 := wrap_id (n := r1 - 9) (by omega) (by omega)
  have w2 := wrap_id (n := r1 - 9 + 1) (by omega) (by omega)
  have w3 := wrap_id (n := r1 - 9 + 1 + r3) (by omega) (by omega)
  have w4 := wrap_id (n := r1 - 9 + r4) (by omega) (by omega)
  have w5 := wrap_id (n := r1 - 9 + r4 - 1) (by omega) (by omega)
  have w6 := wrap_id (n := r1 - 9 + r4 - 1 + r5) (by omega) (by omega)
  refine ⟨⟨r1 - 9, r1 - 9 + 1 + r3, r1 - 9 + r4 - 1, r1 - 9 + r4 - 1 + r5, r2⟩, ?_⟩
  rw [ev_eqQ (rs := [.cell 2 24]) [2,3,4] rfl Try.func36 rfl rfl (by kernel_rfl) (by kernel_rfl)]
  simp only [go_sem, call_inl, q1, q2, hσ, n1, n2, n3, n4, n5, n6, n7, n8, n9, n10, n11, w1, w2, w3, w4, w5, w6, q3, q4, q5]
  refine ⟨_, rfl, ⟨by omega, by omega⟩, ⟨by omega, by omega⟩, ⟨by omega, by omega⟩, ⟨by omega, by omega⟩, ⟨by omega, by omega⟩, fun q hq => ?_⟩
  have a1 : ¬q = nx := by omega
  have a2 : ¬q = nx + 1 := by omega
  have a3 : ¬q = c := by omega
  simp only [upd, a1, a2, a3, if_false]
theorem sMakeBeam (xs : List Int) (hx : ∀ x ∈ xs, 0 ≤ x ∧ x ≤ 255) (hl : xs.length ≤ 1048576) :
    ∃ b, fn Try.prog conv ext 8 [LL cB xs] = some (.agg (cBeam b)) ∧ (-9 ≤ b.left ∧ b.left < 0) ∧ (0 ≤ b.weight ∧ b.weight < 50) ∧ (b.left + 1 ≤ b.right ∧ b.right ≤ b.left + 12) ∧ (b.left - 1 ≤ b.low ∧ b.low ≤ b.left + 3) ∧ (b.low ≤ b.high ∧ b.high ≤ b.low + 5) := by
  obtain ⟨h0, k0⟩ := sNew xs hx hl 1 (upd noStore 0 (some ⟨[I 0, I 0, I 0, I 0, I 0], 0, true⟩))
  obtain ⟨b, σ', k1, e1, e2, e3, e4, e5, e6⟩ := sl25Beam xs hx hl 0 h0 ⟨by omega, by omega⟩ 1 2 (upd (upd noStore 0 (some ⟨[I 0, I 0, I 0, I 0, I 0], 0, true⟩)) 1 (some (Cur xs 0 h0 0))) (by simp [upd]) (by omega)
  refine ⟨b, ?_, e1, e2, e3, e4, e5⟩
  have hs := e6 0 (by omega)
  have hs' : σ' 0 = some ⟨[I 0, I 0, I 0, I 0, I 0], 0, true⟩ := by rw [hs]; simp [upd]
  rw [fn_eq, ev_eqQ (rs := [.cell 2 24]) [] rfl Try.func8 rfl rfl (by kernel_rfl) (by kernel_rfl)]
  simp only [go_sem, call_inl, k0, k1, hs']
end Go.Proofs.Ytlkpocljgikpgaa
