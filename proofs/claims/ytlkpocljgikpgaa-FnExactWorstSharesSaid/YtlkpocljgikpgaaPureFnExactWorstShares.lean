import Derived.Test.YtlkpocljgikpgaaTb4
set_option linter.unusedSimpArgs false
set_option linter.unusedVariables false
namespace Go.Proofs.Ytlkpocljgikpgaa
open Go Go.TV

namespace Pure
set_option maxHeartbeats 1000000 in
theorem FnExactWorstShares (x0 : Beam) (h0 : okBeam x0) :
    fn Try.prog convM extM 6 [.agg (cBeam x0)] = some (Bo true) := by
  have kb := toBeam x0
  have k1 := sWorstShares x0
  rw [shP_t] at k1
  obtain ⟨okB, hok⟩ : ∃ okB, okB = (beamB x0) := ⟨_, rfl⟩
  rw [← hok] at k1
  obtain ⟨hO1, hsm⟩ := worstO x0 3
  obtain ⟨p, hp⟩ : ∃ p, p = shP x0 x0.low x0.high okB := ⟨_, rfl⟩
  rw [← hok, ← hp] at hO1 hsm
  rw [← hp] at k1
  obtain ⟨s1, s2, s3, s4⟩ := hsm
  obtain ⟨a, b, c, d, σ1, n1, i, j, k, l, K1, hn1, P1⟩ := hO1
  have hO2 := (worstO x0 (n1 + 1 + 1 + 1 + 1 + 1 + 1)).1
  rw [← hok, ← hp] at hO2
  obtain ⟨a2, b2, c2, d2, σ2, n2, i2, j2, k2, l2, K2, hn2, P2⟩ := hO2
  unfold Pr.t at k1
  have Goa1 := fun d => P1.oa.gather (d' := d + 1) (by omega)
  have Coa1 := cells_of_cell P1.oa.cell
  have Doa1 := P1.oa.cell
  have Soa1 : ∀ σ dp, Own σ 1 a (LI p.x1) i → strip σ (dp + 1) a = some (LI p.x1, i) := fun σ dp h => h.strip (by omega)
  have Joa1 : ∀ σ, Own (joinS (3) σ σ1 (i ++ j ++ (k ++ l))) 1 a (LI p.x1) i := fun σ => P1.oa.frame fun b hb => join_in (by have := P1.oi b hb; omega) (by simp only [List.mem_append, hb, true_or, or_true])
  have Noa1_0 := not_in P1.oi (0) (by omega)
  have Noa1_1 := not_in P1.oi (1) (by omega)
  have Noa1_2 := not_in P1.oi (2) (by omega)
  have Noa1_3 := not_in P1.oi (n1) (by omega)
  have Noa1_4 := not_in P1.oi (n1 + 1) (by omega)
  have Noa1_5 := not_in P1.oi (n2) (by omega)
  have Noa1_6 := not_in P1.oi (n2 + 1) (by omega)
  have Gob1 := fun d => P1.ob.gather (d' := d + 1) (by omega)
  have Cob1 := cells_of_cell P1.ob.cell
  have Dob1 := P1.ob.cell
  have Sob1 : ∀ σ dp, Own σ 1 b (LI p.y1) j → strip σ (dp + 1) b = some (LI p.y1, j) := fun σ dp h => h.strip (by omega)
  have Job1 : ∀ σ, Own (joinS (3) σ σ1 (i ++ j ++ (k ++ l))) 1 b (LI p.y1) j := fun σ => P1.ob.frame fun b hb => join_in (by have := P1.oj b hb; omega) (by simp only [List.mem_append, hb, true_or, or_true])
  have Nob1_0 := not_in P1.oj (0) (by omega)
  have Nob1_1 := not_in P1.oj (1) (by omega)
  have Nob1_2 := not_in P1.oj (2) (by omega)
  have Nob1_3 := not_in P1.oj (n1) (by omega)
  have Nob1_4 := not_in P1.oj (n1 + 1) (by omega)
  have Nob1_5 := not_in P1.oj (n2) (by omega)
  have Nob1_6 := not_in P1.oj (n2 + 1) (by omega)
  have Goc1 := fun d => P1.oc.gather (d' := d + 1) (by omega)
  have Coc1 := cells_of_cell P1.oc.cell
  have Doc1 := P1.oc.cell
  have Soc1 : ∀ σ dp, Own σ 1 c (LI p.x2) k → strip σ (dp + 1) c = some (LI p.x2, k) := fun σ dp h => h.strip (by omega)
  have Joc1 : ∀ σ, Own (joinS (3) σ σ1 (i ++ j ++ (k ++ l))) 1 c (LI p.x2) k := fun σ => P1.oc.frame fun b hb => join_in (by have := P1.ok b hb; omega) (by simp only [List.mem_append, hb, true_or, or_true])
  have Noc1_0 := not_in P1.ok (0) (by omega)
  have Noc1_1 := not_in P1.ok (1) (by omega)
  have Noc1_2 := not_in P1.ok (2) (by omega)
  have Noc1_3 := not_in P1.ok (n1) (by omega)
  have Noc1_4 := not_in P1.ok (n1 + 1) (by omega)
  have Noc1_5 := not_in P1.ok (n2) (by omega)
  have Noc1_6 := not_in P1.ok (n2 + 1) (by omega)
  have God1 := fun d => P1.od.gather (d' := d + 1) (by omega)
  have Cod1 := cells_of_cell P1.od.cell
  have Dod1 := P1.od.cell
  have Sod1 : ∀ σ dp, Own σ 1 d (LI p.y2) l → strip σ (dp + 1) d = some (LI p.y2, l) := fun σ dp h => h.strip (by omega)
  have Jod1 : ∀ σ, Own (joinS (3) σ σ1 (i ++ j ++ (k ++ l))) 1 d (LI p.y2) l := fun σ => P1.od.frame fun b hb => join_in (by have := P1.ol b hb; omega) (by simp only [List.mem_append, hb, true_or, or_true])
  have Nod1_0 := not_in P1.ol (0) (by omega)
  have Nod1_1 := not_in P1.ol (1) (by omega)
  have Nod1_2 := not_in P1.ol (2) (by omega)
  have Nod1_3 := not_in P1.ol (n1) (by omega)
  have Nod1_4 := not_in P1.ol (n1 + 1) (by omega)
  have Nod1_5 := not_in P1.ol (n2) (by omega)
  have Nod1_6 := not_in P1.ol (n2 + 1) (by omega)
  have Goa2 := fun d => P2.oa.gather (d' := d + 1) (by omega)
  have Coa2 := cells_of_cell P2.oa.cell
  have Doa2 := P2.oa.cell
  have Soa2 : ∀ σ dp, Own σ 1 a2 (LI p.x1) i2 → strip σ (dp + 1) a2 = some (LI p.x1, i2) := fun σ dp h => h.strip (by omega)
  have Joa2 : ∀ σ, Own (joinS (n1 + 1 + 1 + 1 + 1 + 1 + 1) σ σ2 (i2 ++ j2 ++ (k2 ++ l2))) 1 a2 (LI p.x1) i2 := fun σ => P2.oa.frame fun b hb => join_in (by have := P2.oi b hb; omega) (by simp only [List.mem_append, hb, true_or, or_true])
  have Noa2_0 := not_in P2.oi (n2) (by omega)
  have Noa2_1 := not_in P2.oi (n2 + 1) (by omega)
  have Gob2 := fun d => P2.ob.gather (d' := d + 1) (by omega)
  have Cob2 := cells_of_cell P2.ob.cell
  have Dob2 := P2.ob.cell
  have Sob2 : ∀ σ dp, Own σ 1 b2 (LI p.y1) j2 → strip σ (dp + 1) b2 = some (LI p.y1, j2) := fun σ dp h => h.strip (by omega)
  have Job2 : ∀ σ, Own (joinS (n1 + 1 + 1 + 1 + 1 + 1 + 1) σ σ2 (i2 ++ j2 ++ (k2 ++ l2))) 1 b2 (LI p.y1) j2 := fun σ => P2.ob.frame fun b hb => join_in (by have := P2.oj b hb; omega) (by simp only [List.mem_append, hb, true_or, or_true])
  have Nob2_0 := not_in P2.oj (n2) (by omega)
  have Nob2_1 := not_in P2.oj (n2 + 1) (by omega)
  have Goc2 := fun d => P2.oc.gather (d' := d + 1) (by omega)
  have Coc2 := cells_of_cell P2.oc.cell
  have Doc2 := P2.oc.cell
  have Soc2 : ∀ σ dp, Own σ 1 c2 (LI p.x2) k2 → strip σ (dp + 1) c2 = some (LI p.x2, k2) := fun σ dp h => h.strip (by omega)
  have Joc2 : ∀ σ, Own (joinS (n1 + 1 + 1 + 1 + 1 + 1 + 1) σ σ2 (i2 ++ j2 ++ (k2 ++ l2))) 1 c2 (LI p.x2) k2 := fun σ => P2.oc.frame fun b hb => join_in (by have := P2.ok b hb; omega) (by simp only [List.mem_append, hb, true_or, or_true])
  have Noc2_0 := not_in P2.ok (n2) (by omega)
  have Noc2_1 := not_in P2.ok (n2 + 1) (by omega)
  have God2 := fun d => P2.od.gather (d' := d + 1) (by omega)
  have Cod2 := cells_of_cell P2.od.cell
  have Dod2 := P2.od.cell
  have Sod2 : ∀ σ dp, Own σ 1 d2 (LI p.y2) l2 → strip σ (dp + 1) d2 = some (LI p.y2, l2) := fun σ dp h => h.strip (by omega)
  have Jod2 : ∀ σ, Own (joinS (n1 + 1 + 1 + 1 + 1 + 1 + 1) σ σ2 (i2 ++ j2 ++ (k2 ++ l2))) 1 d2 (LI p.y2) l2 := fun σ => P2.od.frame fun b hb => join_in (by have := P2.ol b hb; omega) (by simp only [List.mem_append, hb, true_or, or_true])
  have Nod2_0 := not_in P2.ol (n2) (by omega)
  have Nod2_1 := not_in P2.ol (n2 + 1) (by omega)
  have e0 : ¬0 = n1 := by omega
  have e1 : ¬0 = n1 + 1 := by omega
  have e2 : ¬0 = n2 := by omega
  have e3 : ¬0 = n2 + 1 := by omega
  have e4 : ¬1 = n1 := by omega
  have e5 : ¬1 = n1 + 1 := by omega
  have e6 : ¬1 = n2 := by omega
  have e7 : ¬1 = n2 + 1 := by omega
  have e8 : ¬2 = n1 := by omega
  have e9 : ¬2 = n1 + 1 := by omega
  have e10 : ¬2 = n2 := by omega
  have e11 : ¬2 = n2 + 1 := by omega
  have e12 : ¬n1 = 0 := by omega
  have e13 : ¬n1 = 1 := by omega
  have e14 : ¬n1 = 2 := by omega
  have e15 : ¬n1 = n1 + 1 := by omega
  have e16 : ¬n1 = n2 := by omega
  have e17 : ¬n1 = n2 + 1 := by omega
  have e18 : ¬n1 + 1 = 0 := by omega
  have e19 : ¬n1 + 1 = 1 := by omega
  have e20 : ¬n1 + 1 = 2 := by omega
  have e21 : ¬n1 + 1 = n1 := by omega
  have e22 : ¬n1 + 1 = n2 := by omega
  have e23 : ¬n1 + 1 = n2 + 1 := by omega
  have e24 : ¬n2 = 0 := by omega
  have e25 : ¬n2 = 1 := by omega
  have e26 : ¬n2 = 2 := by omega
  have e27 : ¬n2 = n1 := by omega
  have e28 : ¬n2 = n1 + 1 := by omega
  have e29 : ¬n2 = n2 + 1 := by omega
  have e30 : ¬n2 + 1 = 0 := by omega
  have e31 : ¬n2 + 1 = 1 := by omega
  have e32 : ¬n2 + 1 = 2 := by omega
  have e33 : ¬n2 + 1 = n1 := by omega
  have e34 : ¬n2 + 1 = n1 + 1 := by omega
  have e35 : ¬n2 + 1 = n2 := by omega
  have La0 : ∀ σ, joinS 3 σ σ1 (i ++ j ++ (k ++ l)) 0 = σ 0 := fun σ => join_lt (by omega)
  have Lb0 : ∀ σ, joinS (n1 + 1 + 1 + 1 + 1 + 1 + 1) σ σ2 (i2 ++ j2 ++ (k2 ++ l2)) 0 = σ 0 := fun σ => join_lt (by omega)
  have La1 : ∀ σ, joinS 3 σ σ1 (i ++ j ++ (k ++ l)) 1 = σ 1 := fun σ => join_lt (by omega)
  have Lb1 : ∀ σ, joinS (n1 + 1 + 1 + 1 + 1 + 1 + 1) σ σ2 (i2 ++ j2 ++ (k2 ++ l2)) 1 = σ 1 := fun σ => join_lt (by omega)
  have La2 : ∀ σ, joinS 3 σ σ1 (i ++ j ++ (k ++ l)) 2 = σ 2 := fun σ => join_lt (by omega)
  have Lb2 : ∀ σ, joinS (n1 + 1 + 1 + 1 + 1 + 1 + 1) σ σ2 (i2 ++ j2 ++ (k2 ++ l2)) 2 = σ 2 := fun σ => join_lt (by omega)
  have Lc2 : ∀ σ, joinS (n1 + 1 + 1 + 1 + 1 + 1 + 1) σ σ2 (i2 ++ j2 ++ (k2 ++ l2)) (n1) = σ (n1) := fun σ => join_lt (by omega)
  have Lc6 : ∀ σ, joinS (n1 + 1 + 1 + 1 + 1 + 1 + 1) σ σ2 (i2 ++ j2 ++ (k2 ++ l2)) (n1 + 1) = σ (n1 + 1) := fun σ => join_lt (by omega)
  have Koa : ∀ σ t, Own σ 1 a t i → Own (joinS (n1 + 1 + 1 + 1 + 1 + 1 + 1) σ σ2 (i2 ++ j2 ++ (k2 ++ l2))) 1 a t i := fun σ t h => h.joinLow fun b hb => by have := P1.oi b hb; omega
  have Kob : ∀ σ t, Own σ 1 b t j → Own (joinS (n1 + 1 + 1 + 1 + 1 + 1 + 1) σ σ2 (i2 ++ j2 ++ (k2 ++ l2))) 1 b t j := fun σ t h => h.joinLow fun b hb => by have := P1.oj b hb; omega
  have Koc : ∀ σ t, Own σ 1 c t k → Own (joinS (n1 + 1 + 1 + 1 + 1 + 1 + 1) σ σ2 (i2 ++ j2 ++ (k2 ++ l2))) 1 c t k := fun σ t h => h.joinLow fun b hb => by have := P1.ok b hb; omega
  have Kod : ∀ σ t, Own σ 1 d t l → Own (joinS (n1 + 1 + 1 + 1 + 1 + 1 + 1) σ σ2 (i2 ++ j2 ++ (k2 ++ l2))) 1 d t l := fun σ t h => h.joinLow fun b hb => by have := P1.ol b hb; omega
  have ml : 24 ≤ maxLen := by decide
  have r1 := eqRat p.n1 p.x1 p.y1 (by omega) (by omega)
  have r2 := eqRat p.n2 p.x2 p.y2 (by omega) (by omega)
  have h1 := heldRat p.n1 1 p.x1.length p.y1.length (by omega) (by omega) (by omega)
  have h2 := heldRat p.n2 (1 + p.x1.length + p.y1.length) p.x2.length p.y2.length (by omega) (by omega) (by omega)
  have z1 : ¬(1 : Int) + (p.x1.length : Int) + (p.y1.length : Int) < 0 := by omega
  have z2 : ¬(1 : Int) + (p.x1.length : Int) + (p.y1.length : Int) + (p.x2.length : Int) + (p.y2.length : Int) < 0 := by omega
  have lt0 : 0 < n1 + 1 + 1 := by omega
  have lt1 : 1 < n1 + 1 + 1 := by omega
  have lt2 : 2 < n1 + 1 + 1 := by omega
  have lt3 : n1 < n1 + 1 + 1 := by omega
  have lt4 : n1 + 1 < n1 + 1 + 1 := by omega
  have lt5 : 0 < n1 + 1 + 1 + 1 + 1 := by omega
  have lt6 : 1 < n1 + 1 + 1 + 1 + 1 := by omega
  have lt7 : 2 < n1 + 1 + 1 + 1 + 1 := by omega
  have lt8 : n1 < n1 + 1 + 1 + 1 + 1 := by omega
  have lt9 : n1 + 1 < n1 + 1 + 1 + 1 + 1 := by omega
  have Ma : ∀ σ dp, Own σ 1 a (LI (marks 1 p.x1.length)) i → strip σ (dp + 1) a = some (LI (marks 1 p.x1.length), i) := fun σ dp h => h.strip (by omega)
  have Mb : ∀ σ dp, Own σ 1 b (LI (marks (1 + p.x1.length) p.y1.length)) j → strip σ (dp + 1) b = some (LI (marks (1 + p.x1.length) p.y1.length), j) := fun σ dp h => h.strip (by omega)
  have Mc : ∀ σ dp, Own σ 1 c (LI (marks (1 + p.x1.length + p.y1.length) p.x2.length)) k → strip σ (dp + 1) c = some (LI (marks (1 + p.x1.length + p.y1.length) p.x2.length), k) := fun σ dp h => h.strip (by omega)
  have Md : ∀ σ dp, Own σ 1 d (LI (marks (1 + p.x1.length + p.y1.length + p.x2.length) p.y2.length)) l → strip σ (dp + 1) d = some (LI (marks (1 + p.x1.length + p.y1.length + p.x2.length) p.y2.length), l) := fun σ dp h => h.strip (by omega)
  rw [fn_eq, ev_eqQ (rs := [.tmp 2]) [] rfl Try.func6 rfl rfl (by kernel_rfl) (by kernel_rfl)]
  clear hok
  cases okB <;>
  (simp (maxDischargeDepth := 9) only [go_sem, call_inl, kb, k1, K1, Own.upd, Goa1, Coa1, Doa1, Soa1, Joa1, Noa1_0, Noa1_1, Noa1_2, Noa1_3, Noa1_4, Noa1_5, Noa1_6, Gob1, Cob1, Dob1, Sob1, Job1, Nob1_0, Nob1_1, Nob1_2, Nob1_3, Nob1_4, Nob1_5, Nob1_6, Goc1, Coc1, Doc1, Soc1, Joc1, Noc1_0, Noc1_1, Noc1_2, Noc1_3, Noc1_4, Noc1_5, Noc1_6, God1, Cod1, Dod1, Sod1, Jod1, Nod1_0, Nod1_1, Nod1_2, Nod1_3, Nod1_4, Nod1_5, Nod1_6, Goa2, Coa2, Doa2, Soa2, Joa2, Noa2_0, Noa2_1, Gob2, Cob2, Dob2, Sob2, Job2, Nob2_0, Nob2_1, Goc2, Coc2, Doc2, Soc2, Joc2, Noc2_0, Noc2_1, God2, Cod2, Dod2, Sod2, Jod2, Nod2_0, Nod2_1, e0, e1, e2, e3, e4, e5, e6, e7, e8, e9, e10, e11, e12, e13, e14, e15, e16, e17, e18, e19, e20, e21, e22, e23, e24, e25, e26, e27, e28, e29, e30, e31, e32, e33, e34, e35, La0, Lb0, La1, Lb1, La2, Lb2, Lc2, Lc6, Koa, Kob, Koc, Kod, r1, r2]
   generalize hE : ev Try.prog convM extM 22 _ _ _ = y
   obtain ⟨τ, rfl, t1, t2, t3⟩ := markRat_at (xs := p.x1) (ys := p.y1) hE (by simp (maxDischargeDepth := 9) only [go_sem, Own.upd, Goa1, Coa1, Doa1, Soa1, Joa1, Noa1_0, Noa1_1, Noa1_2, Noa1_3, Noa1_4, Noa1_5, Noa1_6, Gob1, Cob1, Dob1, Sob1, Job1, Nob1_0, Nob1_1, Nob1_2, Nob1_3, Nob1_4, Nob1_5, Nob1_6, Goc1, Coc1, Doc1, Soc1, Joc1, Noc1_0, Noc1_1, Noc1_2, Noc1_3, Noc1_4, Noc1_5, Noc1_6, God1, Cod1, Dod1, Sod1, Jod1, Nod1_0, Nod1_1, Nod1_2, Nod1_3, Nod1_4, Nod1_5, Nod1_6, e0, e1, e2, e3, e4, e5, e6, e7, e8, e9, e10, e11, e12, e13, e14, e15, e16, e17, e18, e19, e20, e21, e22, e23, e24, e25, e26, e27, e28, e29, e30, e31, e32, e33, e34, e35, La0, Lb0, La1, Lb1, La2, Lb2, Lc2, Lc6, Koa, Kob, Koc, Kod]) (by simp (maxDischargeDepth := 9) only [go_sem, Own.upd, Goa1, Coa1, Doa1, Soa1, Joa1, Noa1_0, Noa1_1, Noa1_2, Noa1_3, Noa1_4, Noa1_5, Noa1_6, Gob1, Cob1, Dob1, Sob1, Job1, Nob1_0, Nob1_1, Nob1_2, Nob1_3, Nob1_4, Nob1_5, Nob1_6, Goc1, Coc1, Doc1, Soc1, Joc1, Noc1_0, Noc1_1, Noc1_2, Noc1_3, Noc1_4, Noc1_5, Noc1_6, God1, Cod1, Dod1, Sod1, Jod1, Nod1_0, Nod1_1, Nod1_2, Nod1_3, Nod1_4, Nod1_5, Nod1_6, e0, e1, e2, e3, e4, e5, e6, e7, e8, e9, e10, e11, e12, e13, e14, e15, e16, e17, e18, e19, e20, e21, e22, e23, e24, e25, e26, e27, e28, e29, e30, e31, e32, e33, e34, e35, La0, Lb0, La1, Lb1, La2, Lb2, Lc2, Lc6, Koa, Kob, Koc, Kod]) (fun x hx => by have := P1.oi x hx; omega) (fun x hx => by have := P1.oj x hx; omega) P1.ij (by omega) (by omega) (by omega)
   have oc : Own τ 1 c (LI p.x2) k := Own.frame (by simp (maxDischargeDepth := 9) only [go_sem, Own.upd, Goa1, Coa1, Doa1, Soa1, Joa1, Noa1_0, Noa1_1, Noa1_2, Noa1_3, Noa1_4, Noa1_5, Noa1_6, Gob1, Cob1, Dob1, Sob1, Job1, Nob1_0, Nob1_1, Nob1_2, Nob1_3, Nob1_4, Nob1_5, Nob1_6, Goc1, Coc1, Doc1, Soc1, Joc1, Noc1_0, Noc1_1, Noc1_2, Noc1_3, Noc1_4, Noc1_5, Noc1_6, God1, Cod1, Dod1, Sod1, Jod1, Nod1_0, Nod1_1, Nod1_2, Nod1_3, Nod1_4, Nod1_5, Nod1_6, e0, e1, e2, e3, e4, e5, e6, e7, e8, e9, e10, e11, e12, e13, e14, e15, e16, e17, e18, e19, e20, e21, e22, e23, e24, e25, e26, e27, e28, e29, e30, e31, e32, e33, e34, e35, La0, Lb0, La1, Lb1, La2, Lb2, Lc2, Lc6, Koa, Kob, Koc, Kod]) fun x hx => t3 x (fun h' => P1.ik x h' hx) (fun h' => P1.jk x h' hx) (by have := P1.ok x hx; omega)
   have od : Own τ 1 d (LI p.y2) l := Own.frame (by simp (maxDischargeDepth := 9) only [go_sem, Own.upd, Goa1, Coa1, Doa1, Soa1, Joa1, Noa1_0, Noa1_1, Noa1_2, Noa1_3, Noa1_4, Noa1_5, Noa1_6, Gob1, Cob1, Dob1, Sob1, Job1, Nob1_0, Nob1_1, Nob1_2, Nob1_3, Nob1_4, Nob1_5, Nob1_6, Goc1, Coc1, Doc1, Soc1, Joc1, Noc1_0, Noc1_1, Noc1_2, Noc1_3, Noc1_4, Noc1_5, Noc1_6, God1, Cod1, Dod1, Sod1, Jod1, Nod1_0, Nod1_1, Nod1_2, Nod1_3, Nod1_4, Nod1_5, Nod1_6, e0, e1, e2, e3, e4, e5, e6, e7, e8, e9, e10, e11, e12, e13, e14, e15, e16, e17, e18, e19, e20, e21, e22, e23, e24, e25, e26, e27, e28, e29, e30, e31, e32, e33, e34, e35, La0, Lb0, La1, Lb1, La2, Lb2, Lc2, Lc6, Koa, Kob, Koc, Kod]) fun x hx => t3 x (fun h' => P1.il x h' hx) (fun h' => P1.jl x h' hx) (by have := P1.ol x hx; omega)
   simp (maxDischargeDepth := 9) only [t3, go_sem, call_inl, kb, k1, K1, Own.upd, Goa1, Coa1, Doa1, Soa1, Joa1, Noa1_0, Noa1_1, Noa1_2, Noa1_3, Noa1_4, Noa1_5, Noa1_6, Gob1, Cob1, Dob1, Sob1, Job1, Nob1_0, Nob1_1, Nob1_2, Nob1_3, Nob1_4, Nob1_5, Nob1_6, Goc1, Coc1, Doc1, Soc1, Joc1, Noc1_0, Noc1_1, Noc1_2, Noc1_3, Noc1_4, Noc1_5, Noc1_6, God1, Cod1, Dod1, Sod1, Jod1, Nod1_0, Nod1_1, Nod1_2, Nod1_3, Nod1_4, Nod1_5, Nod1_6, Goa2, Coa2, Doa2, Soa2, Joa2, Noa2_0, Noa2_1, Gob2, Cob2, Dob2, Sob2, Job2, Nob2_0, Nob2_1, Goc2, Coc2, Doc2, Soc2, Joc2, Noc2_0, Noc2_1, God2, Cod2, Dod2, Sod2, Jod2, Nod2_0, Nod2_1, e0, e1, e2, e3, e4, e5, e6, e7, e8, e9, e10, e11, e12, e13, e14, e15, e16, e17, e18, e19, e20, e21, e22, e23, e24, e25, e26, e27, e28, e29, e30, e31, e32, e33, e34, e35, La0, Lb0, La1, Lb1, La2, Lb2, Lc2, Lc6, Koa, Kob, Koc, Kod, r1, r2, lt0, lt1, lt2, lt3, lt4, lt5, lt6, lt7, lt8, lt9]
   generalize hE2 : ev Try.prog convM extM 22 _ _ _ = y
   obtain ⟨υ, rfl, u1, u2, u3⟩ := markRat_at (xs := p.x2) (ys := p.y2) hE2 oc od (fun x hx => by have := P1.ok x hx; omega) (fun x hx => by have := P1.ol x hx; omega) P1.kl (by omega) (by omega) (by omega)
   have oa : Own υ 1 a (LI (marks 1 p.x1.length)) i := t1.frame fun x hx => u3 x (P1.ik x hx) (P1.il x hx) (by have := P1.oi x hx; omega)
   have ob : Own υ 1 b (LI (marks (1 + p.x1.length) p.y1.length)) j := t2.frame fun x hx => u3 x (P1.jk x hx) (P1.jl x hx) (by have := P1.oj x hx; omega)
   simp (maxDischargeDepth := 9) only [u3, t3, oa, ob, u1, u2, go_sem, call_inl, kb, k1, K1, Own.upd, Goa1, Coa1, Doa1, Soa1, Joa1, Noa1_0, Noa1_1, Noa1_2, Noa1_3, Noa1_4, Noa1_5, Noa1_6, Gob1, Cob1, Dob1, Sob1, Job1, Nob1_0, Nob1_1, Nob1_2, Nob1_3, Nob1_4, Nob1_5, Nob1_6, Goc1, Coc1, Doc1, Soc1, Joc1, Noc1_0, Noc1_1, Noc1_2, Noc1_3, Noc1_4, Noc1_5, Noc1_6, God1, Cod1, Dod1, Sod1, Jod1, Nod1_0, Nod1_1, Nod1_2, Nod1_3, Nod1_4, Nod1_5, Nod1_6, Goa2, Coa2, Doa2, Soa2, Joa2, Noa2_0, Noa2_1, Gob2, Cob2, Dob2, Sob2, Job2, Nob2_0, Nob2_1, Goc2, Coc2, Doc2, Soc2, Joc2, Noc2_0, Noc2_1, God2, Cod2, Dod2, Sod2, Jod2, Nod2_0, Nod2_1, e0, e1, e2, e3, e4, e5, e6, e7, e8, e9, e10, e11, e12, e13, e14, e15, e16, e17, e18, e19, e20, e21, e22, e23, e24, e25, e26, e27, e28, e29, e30, e31, e32, e33, e34, e35, La0, Lb0, La1, Lb1, La2, Lb2, Lc2, Lc6, Koa, Kob, Koc, Kod, r1, r2, K2, h1, h2, z1, z2, lt0, lt1, lt2, lt3, lt4, lt5, lt6, lt7, lt8, lt9, Ma, Mb, Mc, Md])
end Pure
end Go.Proofs.Ytlkpocljgikpgaa
