import Derived.Test.YtlkpocljgikpgaaTb4
set_option linter.unusedSimpArgs false
set_option linter.unusedVariables false
namespace Go.Proofs.Ytlkpocljgikpgaa
open Go Go.TV

theorem YardAt.stripL {σ : Store} {n : Nat} {y : Yard} (h : YardAt σ n y) (d : Nat) : TV.stripL (TV.strip σ (d + 2)) (yardV n y) = some (cYard y, yardI n y) := by
  have := h.strip d
  rw [strip_agg] at this
  obtain ⟨p, hp, e⟩ := map_some' this
  obtain ⟨a, b⟩ := p
  simp only [Prod.mk.injEq, V.agg.injEq] at e
  rw [hp, ← e.1, ← e.2]
theorem yardI_no {n : Nat} {y : Yard} {b : Nat} (h : b < n ∨ n + 2 + 10 * y.stances.length ≤ b) : (yardI n y).contains b = false := by
  rw [Bool.eq_false_iff]
  intro hc
  have := yardI_in (List.contains_iff_mem.mp hc)
  omega
theorem yardI_all {n m : Nat} {y : Yard} (h : n + 2 + 10 * y.stances.length ≤ m) : ((yardI n y).all fun b => decide (b < m)) = true := by
  rw [List.all_eq_true]
  intro b hb
  have := yardI_in hb
  simp only [decide_eq_true_eq]
  omega
theorem patch_in {σ τ : Store} {lo hi b : Nat} (h0 : lo ≤ b) (h1 : b < hi) : patchS [] lo hi σ τ b = τ b := by
  unfold patchS
  rw [if_pos (.inr ⟨h0, h1⟩)]
theorem patch_out {σ τ : Store} {lo hi b : Nat} (h : b < lo) : patchS [] lo hi σ τ b = σ b := by
  unfold patchS
  rw [if_neg (by simp; omega)]
theorem okG_read {af : Array Edge} {ids : List Nat} : ∀ {acc : List (Nat × Bool × List Nat)}, (acc.all fun p => !p.2.1) = true → okG af false ids acc = true
  | [], _ => rfl
  | p :: acc, h => by
    rw [List.all_cons, Bool.and_eq_true] at h
    have h1 : p.2.1 = false := by simpa using h.1
    unfold okG
    rw [h1, okG_read h.2]
    rfl
/-- Who reads stands beside readers. -/
theorem okF_read {af : Array Edge} {ids : List Nat} {acc : List (Nat × Bool × List Nat)} (h : (acc.all fun p => !p.2.1) = true) : okF af acc false ids = true := by
  cases ids with
  | nil => rfl
  | cons b bs => exact okG_read h
namespace Pure
set_option maxHeartbeats 1000000 in
theorem FnExactNextStances (y : Yard) (h0 : okYard y) (i : Int) (h1 : okI i) :
    fn Try.prog convM extM 7 [.agg (cYard y), I i] = some (Bo true) := by
  obtain ⟨r, r1, r2, r3⟩ := szYard y 1048576 h0 (by omega) (by omega)
  by_cases hr : r < 0
  · rw [fn_eq, ev_eqQ (rs := [.tmp 4]) [10] rfl Try.func7 rfl rfl (by kernel_rfl) (by kernel_rfl)]
    simp only [go_sem, r1, hr]
  have sm := r3 (by omega)
  obtain ⟨hL, hM⟩ : y.stances.length ≤ 1048576 ∧ y.moves.length ≤ 1048576 := by rcases r2 with h | ⟨_, h⟩ <;> constructor <;> omega
  have k1 := sNextStances y h0 i
  have keq : fn Try.prog conv ext 32 [.agg (cYard y), .agg (cYard y)] = some (Bo true) := eqYard y h0
  obtain ⟨w, hw⟩ : ∃ w, w = nextL y i := ⟨_, rfl⟩
  have hwl : w.length ≤ 6 := by
    rw [hw]
    unfold nextL
    split
    · rename_i c
      exact Nat.le_trans (tru_len _ _) (of_pb c.1).1
    · exact Nat.zero_le _
  have ke := eqIntS w (by unfold maxLen; omega)
  rw [← hw] at k1
  -- the blocks, step by step
  obtain ⟨σ0, s0⟩ : ∃ σ0, σ0 = upd noStore 0 (some ⟨cYard y, 0, true⟩) := ⟨_, rfl⟩
  have b0 : σ0 0 = some ⟨cYard y, 0, true⟩ := by rw [s0, upd_same]
  obtain ⟨σ1, e1, y1, f1⟩ := toYardM y h0 σ0 1
  obtain ⟨n1, hn1⟩ : ∃ n1, n1 = 1 + 5 + 10 * y.stances.length := ⟨_, rfl⟩
  rw [← hn1] at e1
  have b1 : σ1 0 = some ⟨cYard y, 0, true⟩ := by rw [f1 0 (by omega), b0]
  have t1 := fun d => y1.stripL d
  obtain ⟨τ1, q1⟩ : ∃ τ1, τ1 = behind σ1 (yardI (1 + 3) y) (LI w) := ⟨_, rfl⟩
  have c1 : τ1 0 = some ⟨cYard y, 0, true⟩ := by rw [q1, behind_ne (yardI_no (by omega)), b1]
  obtain ⟨σ2, e2, y2, f2⟩ := toYardM y h0 τ1 n1
  obtain ⟨n2, hn2⟩ : ∃ n2, n2 = n1 + 5 + 10 * y.stances.length := ⟨_, rfl⟩
  rw [← hn2] at e2
  have b2 : σ2 0 = some ⟨cYard y, 0, true⟩ := by rw [f2 0 (by omega), c1]
  obtain ⟨σ3, s3⟩ : ∃ σ3, σ3 = upd σ2 n2 (some ⟨yardV (n1 + 3) y, 0, true⟩) := ⟨_, rfl⟩
  have b3 : σ3 0 = some ⟨cYard y, 0, true⟩ := by rw [s3, upd_ne _ _ (by omega), b2]
  have p3 : σ3 n2 = some ⟨yardV (n1 + 3) y, 0, true⟩ := by rw [s3, upd_same]
  have y3 : YardAt σ3 (n1 + 3) y := y2.frame fun c h1 h2 => by rw [s3, upd_ne _ _ (by omega)]
  have t3 := fun d => y3.stripL d
  obtain ⟨v, ρ, n3, ids, e3, hn3, o3, hi3⟩ := nextStancesO y h0 i (n2 + 1)
  rw [← hw] at o3
  have g3 := fun d => o3.gather (d' := d + 1) (by omega)
  obtain ⟨σ4, s4⟩ : ∃ σ4, σ4 = joinS (n2 + 1) σ3 ρ ids := ⟨_, rfl⟩
  have l4 : ∀ c, c < n2 + 1 → σ4 c = σ3 c := fun c hc => by rw [s4, join_lt hc]
  have b4 : σ4 0 = some ⟨cYard y, 0, true⟩ := by rw [l4 0 (by omega), b3]
  have p4 : σ4 n2 = some ⟨yardV (n1 + 3) y, 0, true⟩ := by rw [l4 n2 (by omega), p3]
  have y4 : YardAt σ4 (n1 + 3) y := y3.frame fun c h1 h2 => l4 c (by omega)
  have o4 : Own σ4 1 v (LI w) ids := by rw [s4]; exact o3.join fun b hb => (hi3 b hb).1
  have t4 := fun d => o4.strip (d' := d + 1) (by omega)
  obtain ⟨ρ5, e5, y5, _⟩ := toYardM y h0 (restrict σ4 []) n3
  obtain ⟨n4, hn4⟩ : ∃ n4, n4 = n3 + 5 + 10 * y.stances.length := ⟨_, rfl⟩
  rw [← hn4] at e5
  obtain ⟨σ5, s5⟩ : ∃ σ5, σ5 = patchS [] n3 n4 σ4 ρ5 := ⟨_, rfl⟩
  have l5 : ∀ c, c < n3 → σ5 c = σ4 c := fun c hc => by rw [s5, patch_out hc]
  have b5 : σ5 0 = some ⟨cYard y, 0, true⟩ := by rw [l5 0 (by omega), b4]
  have p5 : σ5 n2 = some ⟨yardV (n1 + 3) y, 0, true⟩ := by rw [l5 n2 (by omega), p4]
  have y5a : YardAt σ5 (n1 + 3) y := y4.frame fun c h1 h2 => l5 c (by omega)
  have y5b : YardAt σ5 (n3 + 3) y := y5.frame fun c h1 h2 => by rw [s5, patch_in (by omega) (by omega)]
  have t5a := fun d => y5a.stripL d
  have t5b := fun d => y5b.stripL d
  have a5a : ((yardI (n1 + 3) y).all fun b => decide (b < n4)) = true := yardI_all (by omega)
  have a5b : ((yardI (n3 + 3) y).all fun b => decide (b < n4)) = true := yardI_all (by omega)
  have o5 : Own σ5 1 v (LI w) ids := o4.frame fun b hb => l5 b (hi3 b hb).2
  obtain ⟨k', σ6, e6, f6⟩ := markYard (nx := n4) y y5a (by omega) sm hL hM
  have l6 : ∀ c, n2 ≤ c → c < n4 → σ6 c = σ5 c := fun c h1 h2 => f6 c (by omega) h2
  have b6 : σ6 0 = some ⟨cYard y, 0, true⟩ := by rw [f6 0 (by omega) (by omega), b5]
  have o6 : Own σ6 1 v (LI w) ids := o5.frame fun b hb => l6 b (by have := hi3 b hb; omega) (by have := hi3 b hb; omega)
  have t6 := fun d => o6.strip (d' := d + 1) (by omega)
  obtain ⟨σ7, e7, o7, f7⟩ := markIntS (nx := n4 + 1) o6 (by omega) 1 (by omega)
  have b7 : σ7 0 = some ⟨cYard y, 0, true⟩ := by rw [f7 0 (fun hb => by have := hi3 0 hb; omega), b6]
  have t7 := fun d => o7.strip (d' := d + 1) (by omega)
  have kh := heldIntS 1 w.length (by omega) (by omega)
  obtain ⟨σ8, e8, y8, f8⟩ := toYardM y h0 σ7 (n4 + 1)
  obtain ⟨n5, hn5⟩ : ∃ n5, n5 = n4 + 1 + 5 + 10 * y.stances.length := ⟨_, rfl⟩
  rw [← hn5] at e8
  have t8 := fun d => y8.stripL d
  obtain ⟨v', ρ9, n6, ids', e9, hn6, o9, hi9⟩ := nextStancesO y h0 i n5
  rw [← hw] at o9
  have g9 := fun d => o9.gather (d' := d + 1) (by omega)
  obtain ⟨σ9, s9⟩ : ∃ σ9, σ9 = joinS n5 σ8 ρ9 ids' := ⟨_, rfl⟩
  have o9a : Own σ9 1 v' (LI w) ids' := by rw [s9]; exact o9.join fun b hb => (hi9 b hb).1
  have o9b : Own σ9 1 v (LI (marks 1 w.length)) ids := o7.frame fun b hb => by have := hi3 b hb; rw [s9, join_lt (by omega), f8 b (by omega)]
  have t9a := fun d => o9a.strip (d' := d + 1) (by omega)
  have t9b := fun d => o9b.strip (d' := d + 1) (by omega)
  have d1 : cellsOfV v = some [v] := cells_of_cell o3.cell
  have v1 : (yardV (n1 + 3) y).length = 3 := rfl
  have v2 : (yardV (n1 + 3) y).all isCell = true := rfl
  have v3 : patch [V.nil, V.nil, Bo false] 0 (yardV (n1 + 3) y) = yardV (n1 + 3) y := rfl
  have v4 : (yardV (n1 + 3) y).take 3 = yardV (n1 + 3) y := rfl
  have z1 : ¬n2 = 0 := by omega
  have z2 : ¬0 = n2 := by omega
  have z3 : n2 < n3 := by omega
  have z4 : 0 < n3 := by omega
  have z5 : ¬(k' : Int) < 0 := by omega
  have z6 : ¬(1 : Int) + (w.length : Int) < 0 := by omega
  rw [fn_eq, ev_eqQ (rs := [.tmp 4]) [10] rfl Try.func7 rfl rfl (by kernel_rfl) (by kernel_rfl)]
  simp (maxDischargeDepth := 9) only [go_sem, call_inl, r1, hr, ← s0, b0, e1, b1, t1, k1, ← q1, c1, e2, b2, v1, v2, v3, v4, ← s3, b3, p3, t3, e3, g3, ← s4, b4, p4, t4, ke, e5, ← s5, b5, p5, t5a, t5b, a5a, a5b, List.all_append, keq, e6, b6, t6, e7, b7, t7, kh, e8, t8, e9, g9, ← s9, t9a, t9b, okF_read, Bool.not_false, d1, z1, z2, z3, z4, z5, z6]
end Pure
end Go.Proofs.Ytlkpocljgikpgaa
