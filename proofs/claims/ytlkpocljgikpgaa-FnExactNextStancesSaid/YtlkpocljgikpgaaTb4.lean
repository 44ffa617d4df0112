import Derived.Test.YtlkpocljgikpgaaTb3
set_option linter.unusedSimpArgs false
set_option linter.unusedVariables false
namespace Go.Proofs.Ytlkpocljgikpgaa
open Go Go.TV

/-! ### Numbers of any size: the program's sum, difference, product -/
/-- A row of which the first places are written. -/
def fil (o : List Int) (k : Nat) : List V := o.flatMap cI ++ rep k [I 0]
theorem fil_len (o : List Int) (k : Nat) : (fil o k).length = o.length + k := by unfold fil; rw [List.length_append, cI_len, rep_len]; simp
theorem fil_zero (k : Nat) : rep k [I 0] = fil [] k := rfl
theorem fil_full (o : List Int) : fil o 0 = o.flatMap cI := by simp [fil, rep]
theorem fil_set (o : List Int) (k : Nat) (x : Int) {i : Nat} (h : o.length = i) : (fil o (k + 1)).set i (I x) = fil (o ++ [x]) k := by
  subst h
  unfold fil
  rw [List.set_append_right _ _ (by rw [cI_len]; exact Nat.le_refl _), cI_len, Nat.sub_self, rep_succ, List.flatMap_append]
  simp
theorem carry_step {P x q n v : Int} (h : x + 1000000000 * q = n) : v + P * x + 1000000000 * P * q = v + P * n := by subst h; grind
theorem tdivmod {n : Int} (h : 0 ≤ n) : n.tmod 1000000000 = n % 1000000000 ∧ n.tdiv 1000000000 = n / 1000000000 :=
  ⟨Int.tmod_eq_emod_of_nonneg h, Int.tdiv_eq_ediv_of_nonneg h⟩
theorem make_ok {k : Nat} (h : k ≤ 3000000) : (8 : Int) * (k : Int) ≤ 281474976710656 ∧ (k : Int) ≤ 9223372036854775807 ∧ (0 : Int) ≤ (k : Int) := by omega
theorem bp_take_all {xs : List Int} {k : Nat} (h : xs.length ≤ k) : xs.take (k + 1) = xs.take k := by rw [List.take_of_length_le (by omega), List.take_of_length_le h]
theorem iplus (m n : Nat) (hm : ln m ≤ 1000000) (hn : ln n ≤ 1000000) : fn Try.prog conv ext 143 [LI (dg m), LI (dg n)] = some (LI (dg (m + n))) := by
  unfold ln at hm hn
  rw [fn_eq, ev_eqQ (rs := [.tmp 4]) [] rfl Try.func143 rfl rfl (by kernel_rfl) (by kernel_rfl)]
  by_cases hc : ((dg m).length : Int) < ((dg n).length : Int)
  · have hBA : (dg m).length ≤ (dg n).length := by omega
    obtain ⟨e1, e2, e3⟩ := make_ok (k := (dg n).length + 1) (by omega)
    have e0 : ((dg n).length : Int) + 1 = (((dg n).length + 1 : Nat) : Int) := by omega
    have e4 := wrap_id (n := (((dg n).length + 1 : Nat) : Int)) (by omega) (by omega)
    simp only [go_sem, hc, e0, e1, e2, e3, e4]
    generalize hL : evLoopI _ _ = y
    obtain ⟨r, rfl, T', σ', nx', c, o, rfl, h0, h5, h6, hnx, hσ, ho, hd, hv, hc0, hc1⟩ := count_rule hL (dg n).length (fun k st => st.T 0 = LI (dg n) ∧ st.T 1 = LI (dg m) ∧ st.T 5 = .rs 0 0 ((dg n).length + 1) ∧ st.T 20 = LI (dg n) ∧ st.T 21 = I (dg n).length ∧ st.T 22 = I k ∧ 0 < st.nx ∧ ∃ c o, st.T 6 = I c ∧ st.σ 0 = some ⟨fil o ((dg n).length + 1 - k), 1, true⟩ ∧ o.length = k ∧ Dg o ∧ vl o + bp k * c = vl ((dg n).take k) + vl ((dg m).take k) ∧ 0 ≤ c ∧ c ≤ 1)
      (fun r => ∃ T σ nx c o, r = (.exit 0, ⟨T, σ, nx⟩) ∧ T 0 = LI (dg n) ∧ T 5 = .rs 0 0 ((dg n).length + 1) ∧ T 6 = I c ∧ 0 < nx ∧ σ 0 = some ⟨fil o 1, 1, true⟩ ∧ o.length = (dg n).length ∧ Dg o ∧ vl o + bp (dg n).length * c = (m + n : Nat) ∧ 0 ≤ c ∧ c ≤ 1) (by
        clear hL
        rintro k ⟨T, σ, nx⟩ hlt ⟨h0, h1, h5, h20, h21, h22, hnx, c, o, h6, hσ, ho, hd, hv, hc0, hc1⟩
        simp only at h0 h1 h5 h20 h21 h22 hnx h6 hσ
        have f1 : (k : Int) < ((dg n).length : Int) := by omega
        have f2 : (0 : Int) ≤ (k : Int) := by omega
        have f3 := wrap_id (n := (k : Int) + 1) (by omega) (by omega)
        have f5 := slot_ne (c := cI) (s := 1) (fun _ => rfl) (by omega) (dg n) k hlt
        have f6 := idx hlt
        have f7 : (k : Int) < (((dg n).length + 1 : Nat) : Int) := by omega
        obtain ⟨x, hx⟩ : ∃ x, x = (dg n)[k] := ⟨_, rfl⟩
        have xr := (dg_Dg n).get hlt
        rw [← hx] at f6 xr
        obtain ⟨g, hg⟩ : ∃ g, (dg n).length + 1 - k = g + 1 := ⟨(dg n).length - k, by omega⟩
        have hg' : (dg n).length + 1 - (k + 1) = g := by omega
        rw [hg] at hσ
        have c5 : k < (fil o (g + 1)).length := by rw [fil_len]; omega
        have v1 := vl_take_succ hlt
        rw [← hx] at v1
        by_cases hB : k < (dg m).length
        · have f8 : (k : Int) < ((dg m).length : Int) := by omega
          have f9 := slot_ne (c := cI) (s := 1) (fun _ => rfl) (by omega) (dg m) k hB
          have f10 := idx hB
          obtain ⟨z, hz⟩ : ∃ z, z = (dg m)[k] := ⟨_, rfl⟩
          have zr := (dg_Dg m).get hB
          rw [← hz] at f10 zr
          have v2 := vl_take_succ hB
          rw [← hz] at v2
          have w1 := wrap_id (n := x + c) (by omega) (by omega)
          have w2 := wrap_id (n := x + c + z) (by omega) (by omega)
          obtain ⟨q1, q2⟩ := tdivmod (n := x + c + z) (by omega)
          have w3 := wrap_id (n := (x + c + z) / 1000000000) (by omega) (by omega)
          have c6 := fil_set o g ((x + c + z) % 1000000000) ho
          refine .inl ⟨_, by simp only [go_sem, h0, h1, h5, h6, h20, h21, h22, hnx, hσ, f1, f2, f3, f5, f6, f7, f8, f9, f10, w1, w2, w3, q1, q2, c5, c6]; rfl, ?_⟩
          simp only [go_sem, h0, h1, h5, h20, h21, hg']
          refine ⟨rfl, hnx, _, _, rfl, rfl, by simp [ho], hd.snoc (by omega) (by omega), ?_, by omega, by omega⟩
          rw [vl_snoc, ho, bp_succ, v1, v2, carry_step (n := x + c + z) (by omega), Int.mul_add, Int.mul_add]
          omega
        · have f8 : ¬(k : Int) < ((dg m).length : Int) := by omega
          have v2 := bp_take_all (xs := dg m) (k := k) (by omega)
          have w1 := wrap_id (n := x + c) (by omega) (by omega)
          obtain ⟨q1, q2⟩ := tdivmod (n := x + c) (by omega)
          have w3 := wrap_id (n := (x + c) / 1000000000) (by omega) (by omega)
          have c6 := fil_set o g ((x + c) % 1000000000) ho
          refine .inl ⟨_, by simp only [go_sem, h0, h1, h5, h6, h20, h21, h22, hnx, hσ, f1, f2, f3, f5, f6, f7, f8, w1, w3, q1, q2, c5, c6]; rfl, ?_⟩
          simp only [go_sem, h0, h1, h5, h20, h21, hg']
          refine ⟨rfl, hnx, _, _, rfl, rfl, by simp [ho], hd.snoc (by omega) (by omega), ?_, by omega, by omega⟩
          rw [vl_snoc, ho, bp_succ, v1, v2, carry_step (n := x + c) (by omega), Int.mul_add]
          omega) (by
        clear hL
        rintro ⟨T, σ, nx⟩ ⟨h0, h1, h5, h20, h21, h22, hnx, c, o, h6, hσ, ho, hd, hv, hc0, hc1⟩
        simp only at h0 h1 h5 h20 h21 h22 hnx h6 hσ
        refine ⟨_, by simp only [go_sem, h21, h22, Int.lt_irrefl]; rfl, by simp, _, _, _, c, o, rfl, by simp only [go_sem, h0], by simp only [go_sem, h5], by simp only [go_sem, h6], hnx, ?_, ho, hd, ?_, hc0, hc1⟩
        · rw [hσ, show (dg n).length + 1 - (dg n).length = 1 by omega]
        · rw [hv, List.take_length, List.take_of_length_le hBA, vl_dg, vl_dg]; omega) (by
        simp only [go_sem]
        exact ⟨0, [], rfl, rfl, rfl, Dg.nil, by simp [vl], Int.le_refl _, by decide⟩)
    have c5 : (dg n).length < (fil o (0 + 1)).length := by rw [fil_len]; omega
    have c6 := fil_set o 0 c ho
    have f2 : (0 : Int) ≤ ((dg n).length : Int) := by omega
    have f7 : ((dg n).length : Int) < (((dg n).length + 1 : Nat) : Int) := by omega
    have hD : Dg (o ++ [c]) := hd.snoc hc0 (by omega)
    have ht := itrim (o ++ [c]) (by unfold Short; simp; omega)
    rw [trim_vl' (n := m + n) hD (by rw [vl_snoc, ho, hv])] at ht
    have hl : (o ++ [c]).length = (dg n).length + 1 := by simp [ho]
    have ht' : fn Try.prog conv ext 141 [.ts ((o ++ [c]).flatMap cI) ((dg n).length + 1)] = some (LI (dg (m + n))) := by rw [← hl]; exact ht
    have tk : List.take ((dg n).length + 1) ((o ++ [c]).flatMap cI) = (o ++ [c]).flatMap cI := by rw [← hl]; exact cI_takeall _
    have hl2 : ((o ++ [c]).flatMap cI).length = (dg n).length + 1 := by rw [cI_len, hl]
    have hσ' : σ' 0 = some ⟨fil o (0 + 1), 1, true⟩ := hσ
    simp only [go_sem, h0, h5, h6, hnx, hσ', f2, f7, c5, c6, fil_full, hl2, tk, ht']
  · have hBA : (dg n).length ≤ (dg m).length := by omega
    obtain ⟨e1, e2, e3⟩ := make_ok (k := (dg m).length + 1) (by omega)
    have e0 : ((dg m).length : Int) + 1 = (((dg m).length + 1 : Nat) : Int) := by omega
    have e4 := wrap_id (n := (((dg m).length + 1 : Nat) : Int)) (by omega) (by omega)
    simp only [go_sem, hc, e0, e1, e2, e3, e4]
    generalize hL : evLoopI _ _ = y
    obtain ⟨r, rfl, T', σ', nx', c, o, rfl, h0, h5, h6, hnx, hσ, ho, hd, hv, hc0, hc1⟩ := count_rule hL (dg m).length (fun k st => st.T 0 = LI (dg m) ∧ st.T 1 = LI (dg n) ∧ st.T 5 = .rs 0 0 ((dg m).length + 1) ∧ st.T 20 = LI (dg m) ∧ st.T 21 = I (dg m).length ∧ st.T 22 = I k ∧ 0 < st.nx ∧ ∃ c o, st.T 6 = I c ∧ st.σ 0 = some ⟨fil o ((dg m).length + 1 - k), 1, true⟩ ∧ o.length = k ∧ Dg o ∧ vl o + bp k * c = vl ((dg m).take k) + vl ((dg n).take k) ∧ 0 ≤ c ∧ c ≤ 1)
      (fun r => ∃ T σ nx c o, r = (.exit 0, ⟨T, σ, nx⟩) ∧ T 0 = LI (dg m) ∧ T 5 = .rs 0 0 ((dg m).length + 1) ∧ T 6 = I c ∧ 0 < nx ∧ σ 0 = some ⟨fil o 1, 1, true⟩ ∧ o.length = (dg m).length ∧ Dg o ∧ vl o + bp (dg m).length * c = (m + n : Nat) ∧ 0 ≤ c ∧ c ≤ 1) (by
        clear hL
        rintro k ⟨T, σ, nx⟩ hlt ⟨h0, h1, h5, h20, h21, h22, hnx, c, o, h6, hσ, ho, hd, hv, hc0, hc1⟩
        simp only at h0 h1 h5 h20 h21 h22 hnx h6 hσ
        have f1 : (k : Int) < ((dg m).length : Int) := by omega
        have f2 : (0 : Int) ≤ (k : Int) := by omega
        have f3 := wrap_id (n := (k : Int) + 1) (by omega) (by omega)
        have f5 := slot_ne (c := cI) (s := 1) (fun _ => rfl) (by omega) (dg m) k hlt
        have f6 := idx hlt
        have f7 : (k : Int) < (((dg m).length + 1 : Nat) : Int) := by omega
        obtain ⟨x, hx⟩ : ∃ x, x = (dg m)[k] := ⟨_, rfl⟩
        have xr := (dg_Dg m).get hlt
        rw [← hx] at f6 xr
        obtain ⟨g, hg⟩ : ∃ g, (dg m).length + 1 - k = g + 1 := ⟨(dg m).length - k, by omega⟩
        have hg' : (dg m).length + 1 - (k + 1) = g := by omega
        rw [hg] at hσ
        have c5 : k < (fil o (g + 1)).length := by rw [fil_len]; omega
        have v1 := vl_take_succ hlt
        rw [← hx] at v1
        by_cases hB : k < (dg n).length
        · have f8 : (k : Int) < ((dg n).length : Int) := by omega
          have f9 := slot_ne (c := cI) (s := 1) (fun _ => rfl) (by omega) (dg n) k hB
          have f10 := idx hB
          obtain ⟨z, hz⟩ : ∃ z, z = (dg n)[k] := ⟨_, rfl⟩
          have zr := (dg_Dg n).get hB
          rw [← hz] at f10 zr
          have v2 := vl_take_succ hB
          rw [← hz] at v2
          have w1 := wrap_id (n := x + c) (by omega) (by omega)
          have w2 := wrap_id (n := x + c + z) (by omega) (by omega)
          obtain ⟨q1, q2⟩ := tdivmod (n := x + c + z) (by omega)
          have w3 := wrap_id (n := (x + c + z) / 1000000000) (by omega) (by omega)
          have c6 := fil_set o g ((x + c + z) % 1000000000) ho
          refine .inl ⟨_, by simp only [go_sem, h0, h1, h5, h6, h20, h21, h22, hnx, hσ, f1, f2, f3, f5, f6, f7, f8, f9, f10, w1, w2, w3, q1, q2, c5, c6]; rfl, ?_⟩
          simp only [go_sem, h0, h1, h5, h20, h21, hg']
          refine ⟨rfl, hnx, _, _, rfl, rfl, by simp [ho], hd.snoc (by omega) (by omega), ?_, by omega, by omega⟩
          rw [vl_snoc, ho, bp_succ, v1, v2, carry_step (n := x + c + z) (by omega), Int.mul_add, Int.mul_add]
          omega
        · have f8 : ¬(k : Int) < ((dg n).length : Int) := by omega
          have v2 := bp_take_all (xs := dg n) (k := k) (by omega)
          have w1 := wrap_id (n := x + c) (by omega) (by omega)
          obtain ⟨q1, q2⟩ := tdivmod (n := x + c) (by omega)
          have w3 := wrap_id (n := (x + c) / 1000000000) (by omega) (by omega)
          have c6 := fil_set o g ((x + c) % 1000000000) ho
          refine .inl ⟨_, by simp only [go_sem, h0, h1, h5, h6, h20, h21, h22, hnx, hσ, f1, f2, f3, f5, f6, f7, f8, w1, w3, q1, q2, c5, c6]; rfl, ?_⟩
          simp only [go_sem, h0, h1, h5, h20, h21, hg']
          refine ⟨rfl, hnx, _, _, rfl, rfl, by simp [ho], hd.snoc (by omega) (by omega), ?_, by omega, by omega⟩
          rw [vl_snoc, ho, bp_succ, v1, v2, carry_step (n := x + c) (by omega), Int.mul_add]
          omega) (by
        clear hL
        rintro ⟨T, σ, nx⟩ ⟨h0, h1, h5, h20, h21, h22, hnx, c, o, h6, hσ, ho, hd, hv, hc0, hc1⟩
        simp only at h0 h1 h5 h20 h21 h22 hnx h6 hσ
        refine ⟨_, by simp only [go_sem, h21, h22, Int.lt_irrefl]; rfl, by simp, _, _, _, c, o, rfl, by simp only [go_sem, h0], by simp only [go_sem, h5], by simp only [go_sem, h6], hnx, ?_, ho, hd, ?_, hc0, hc1⟩
        · rw [hσ, show (dg m).length + 1 - (dg m).length = 1 by omega]
        · rw [hv, List.take_length, List.take_of_length_le hBA, vl_dg, vl_dg]; omega) (by
        simp only [go_sem]
        exact ⟨0, [], rfl, rfl, rfl, Dg.nil, by simp [vl], Int.le_refl _, by decide⟩)
    have c5 : (dg m).length < (fil o (0 + 1)).length := by rw [fil_len]; omega
    have c6 := fil_set o 0 c ho
    have f2 : (0 : Int) ≤ ((dg m).length : Int) := by omega
    have f7 : ((dg m).length : Int) < (((dg m).length + 1 : Nat) : Int) := by omega
    have hD : Dg (o ++ [c]) := hd.snoc hc0 (by omega)
    have ht := itrim (o ++ [c]) (by unfold Short; simp; omega)
    rw [trim_vl' (n := m + n) hD (by rw [vl_snoc, ho, hv])] at ht
    have hl : (o ++ [c]).length = (dg m).length + 1 := by simp [ho]
    have ht' : fn Try.prog conv ext 141 [.ts ((o ++ [c]).flatMap cI) ((dg m).length + 1)] = some (LI (dg (m + n))) := by rw [← hl]; exact ht
    have tk : List.take ((dg m).length + 1) ((o ++ [c]).flatMap cI) = (o ++ [c]).flatMap cI := by rw [← hl]; exact cI_takeall _
    have hl2 : ((o ++ [c]).flatMap cI).length = (dg m).length + 1 := by rw [cI_len, hl]
    have hσ' : σ' 0 = some ⟨fil o (0 + 1), 1, true⟩ := hσ
    simp only [go_sem, h0, h5, h6, hnx, hσ', f2, f7, c5, c6, fil_full, hl2, tk, ht']
end Go.Proofs.Ytlkpocljgikpgaa
namespace Go.Proofs.Ytlkpocljgikpgaa
open Go Go.TV

theorem borrow_step {P x q n v : Int} (h : x = n + 1000000000 * q) : v + P * x - 1000000000 * P * q = v + P * n := by subst h; grind
theorem iminus (m n : Nat) (hm : ln m ≤ 1000000) (hle : n ≤ m) : fn Try.prog conv ext 144 [LI (dg m), LI (dg n)] = some (LI (dg (m - n))) := by
  have hBA : (dg n).length ≤ (dg m).length := ln_mono hle
  unfold ln at hm
  rw [fn_eq, ev_eqQ (rs := [.tmp 4]) [] rfl Try.func144 rfl rfl (by kernel_rfl) (by kernel_rfl)]
  obtain ⟨e1, e2, e3⟩ := make_ok (k := (dg m).length) (by omega)
  simp only [go_sem, e1, e2, e3]
  generalize hL : evLoopI _ _ = y
  obtain ⟨r, rfl, T', σ', nx', o, rfl, h5, hnx, hσ, ho, hd, hv⟩ := count_rule hL (dg m).length (fun k st => st.T 0 = LI (dg m) ∧ st.T 1 = LI (dg n) ∧ st.T 5 = .rs 0 0 (dg m).length ∧ st.T 12 = LI (dg m) ∧ st.T 13 = I (dg m).length ∧ st.T 14 = I k ∧ 0 < st.nx ∧ ∃ c o, st.T 6 = I c ∧ st.σ 0 = some ⟨fil o ((dg m).length - k), 1, true⟩ ∧ o.length = k ∧ Dg o ∧ vl o - bp k * c = vl ((dg m).take k) - vl ((dg n).take k) ∧ 0 ≤ c ∧ c ≤ 1)
    (fun r => ∃ T σ nx o, r = (.exit 0, ⟨T, σ, nx⟩) ∧ T 5 = .rs 0 0 (dg m).length ∧ 0 < nx ∧ σ 0 = some ⟨o.flatMap cI, 1, true⟩ ∧ o.length = (dg m).length ∧ Dg o ∧ vl o = (m - n : Nat)) (by
      clear hL
      rintro k ⟨T, σ, nx⟩ hlt ⟨h0, h1, h5, h12, h13, h14, hnx, c, o, h6, hσ, ho, hd, hv, hc0, hc1⟩
      simp only at h0 h1 h5 h12 h13 h14 hnx h6 hσ
      have f1 : (k : Int) < ((dg m).length : Int) := by omega
      have f2 : (0 : Int) ≤ (k : Int) := by omega
      have f3 := wrap_id (n := (k : Int) + 1) (by omega) (by omega)
      have f5 := slot_ne (c := cI) (s := 1) (fun _ => rfl) (by omega) (dg m) k hlt
      have f6 := idx hlt
      obtain ⟨x, hx⟩ : ∃ x, x = (dg m)[k] := ⟨_, rfl⟩
      have xr := (dg_Dg m).get hlt
      rw [← hx] at f6 xr
      obtain ⟨g, hg⟩ : ∃ g, (dg m).length - k = g + 1 := ⟨(dg m).length - k - 1, by omega⟩
      have hg' : (dg m).length - (k + 1) = g := by omega
      rw [hg] at hσ
      have c5 : k < (fil o (g + 1)).length := by rw [fil_len]; omega
      have v1 := vl_take_succ hlt
      rw [← hx] at v1
      have nf : ¬(0 : Int) < 0 := by decide
      have w1 := wrap_id (n := x - c) (by omega) (by omega)
      by_cases hB : k < (dg n).length
      · have f8 : (k : Int) < ((dg n).length : Int) := by omega
        have f9 := slot_ne (c := cI) (s := 1) (fun _ => rfl) (by omega) (dg n) k hB
        have f10 := idx hB
        obtain ⟨z, hz⟩ : ∃ z, z = (dg n)[k] := ⟨_, rfl⟩
        have zr := (dg_Dg n).get hB
        rw [← hz] at f10 zr
        have v2 := vl_take_succ hB
        rw [← hz] at v2
        have w2 := wrap_id (n := x - c - z) (by omega) (by omega)
        by_cases hneg : x - c - z < 0
        · have w3 := wrap_id (n := x - c - z + 1000000000) (by omega) (by omega)
          have c6 := fil_set o g (x - c - z + 1000000000) ho
          refine .inl ⟨_, by simp only [go_sem, h0, h1, h5, h6, h12, h13, h14, hnx, hσ, f1, f2, f3, f5, f6, f8, f9, f10, w1, w2, w3, hneg, c5, c6]; rfl, ?_⟩
          simp only [go_sem, h0, h1, h5, h12, h13, hg']
          refine ⟨rfl, hnx, _, _, rfl, rfl, by simp [ho], hd.snoc (by omega) (by omega), ?_, by omega, by omega⟩
          rw [vl_snoc, ho, bp_succ, v1, v2, borrow_step (n := x - c - z) (by omega), Int.mul_sub, Int.mul_sub]
          omega
        · have c6 := fil_set o g (x - c - z) ho
          refine .inl ⟨_, by simp only [go_sem, h0, h1, h5, h6, h12, h13, h14, hnx, hσ, f1, f2, f3, f5, f6, f8, f9, f10, w1, w2, hneg, c5, c6]; rfl, ?_⟩
          simp only [go_sem, h0, h1, h5, h12, h13, hg']
          refine ⟨rfl, hnx, _, _, rfl, rfl, by simp [ho], hd.snoc (by omega) (by omega), ?_, by omega, by omega⟩
          rw [vl_snoc, ho, bp_succ, v1, v2, borrow_step (n := x - c - z) (by omega), Int.mul_sub, Int.mul_sub]
          omega
      · have f8 : ¬(k : Int) < ((dg n).length : Int) := by omega
        have v2 := bp_take_all (xs := dg n) (k := k) (by omega)
        by_cases hneg : x - c < 0
        · have w3 := wrap_id (n := x - c + 1000000000) (by omega) (by omega)
          have c6 := fil_set o g (x - c + 1000000000) ho
          refine .inl ⟨_, by simp only [go_sem, h0, h1, h5, h6, h12, h13, h14, hnx, hσ, f1, f2, f3, f5, f6, f8, w1, w3, hneg, c5, c6]; rfl, ?_⟩
          simp only [go_sem, h0, h1, h5, h12, h13, hg']
          refine ⟨rfl, hnx, _, _, rfl, rfl, by simp [ho], hd.snoc (by omega) (by omega), ?_, by omega, by omega⟩
          rw [vl_snoc, ho, bp_succ, v1, v2, borrow_step (n := x - c) (by omega), Int.mul_sub]
          omega
        · have c6 := fil_set o g (x - c) ho
          refine .inl ⟨_, by simp only [go_sem, h0, h1, h5, h6, h12, h13, h14, hnx, hσ, f1, f2, f3, f5, f6, f8, w1, hneg, c5, c6]; rfl, ?_⟩
          simp only [go_sem, h0, h1, h5, h12, h13, hg']
          refine ⟨rfl, hnx, _, _, rfl, rfl, by simp [ho], hd.snoc (by omega) (by omega), ?_, by omega, by omega⟩
          rw [vl_snoc, ho, bp_succ, v1, v2, borrow_step (n := x - c) (by omega), Int.mul_sub]
          omega) (by
      clear hL
      rintro ⟨T, σ, nx⟩ ⟨h0, h1, h5, h12, h13, h14, hnx, c, o, h6, hσ, ho, hd, hv, hc0, hc1⟩
      simp only at h0 h1 h5 h12 h13 h14 hnx h6 hσ
      rw [Nat.sub_self, fil_full] at hσ
      refine ⟨_, by simp only [go_sem, h13, h14, Int.lt_irrefl]; rfl, by simp, _, _, _, o, rfl, by simp only [go_sem, h5], hnx, hσ, ho, hd, ?_⟩
      rw [List.take_length, List.take_of_length_le hBA, vl_dg, vl_dg, ← ho] at hv
      have h7 := vl_lt hd
      have h8 := vl_nonneg hd
      have h9 := bp_pos o.length
      have hc : c = 0 := Classical.byContradiction fun hne => by
        have : c = 1 := by omega
        subst this
        rw [Int.mul_one] at hv
        omega
      subst hc
      rw [Int.mul_zero] at hv
      omega) (by
      simp only [go_sem]
      exact ⟨0, [], rfl, rfl, rfl, Dg.nil, by simp [vl], Int.le_refl _, by decide⟩)
  have ht := itrim o (by unfold Short; omega)
  rw [trim_vl' hd hv] at ht
  have ht' : fn Try.prog conv ext 141 [.ts (o.flatMap cI) (dg m).length] = some (LI (dg (m - n))) := by rw [← ho]; exact ht
  have tk : List.take (dg m).length (o.flatMap cI) = o.flatMap cI := by rw [← ho]; exact cI_takeall _
  have hl2 : (o.flatMap cI).length = (dg m).length := by rw [cI_len, ho]
  simp only [go_sem, h5, hnx, hσ, hl2, tk, ht']
theorem vl_set {xs : List Int} {k : Nat} (h : k < xs.length) (y : Int) : vl (xs.set k y) = vl xs + bp k * (y - xs[k]) := by
  induction xs generalizing k with
  | nil => cases h
  | cons x xs ih =>
    cases k with
    | zero =>
      rw [List.set_cons_zero, bp_zero]
      show y + 1000000000 * vl xs = x + 1000000000 * vl xs + 1 * (y - x)
      omega
    | succ k =>
      have h' : k < xs.length := by simpa using h
      rw [List.set_cons_succ, bp_succ]
      show x + 1000000000 * vl (xs.set k y) = x + 1000000000 * vl xs + 1000000000 * bp k * (y - xs[k])
      rw [ih h', Int.mul_add, Int.mul_assoc]
      omega
theorem Dg.set {xs : List Int} (h : Dg xs) (k : Nat) {y : Int} (h0 : 0 ≤ y) (h1 : y < 1000000000) : Dg (xs.set k y) := fun x hx => by
  rcases List.mem_or_eq_of_mem_set hx with h2 | h2
  · exact h x h2
  · rw [h2]; exact ⟨h0, h1⟩
theorem cI_set (xs : List Int) (k : Nat) (y : Int) : (xs.flatMap cI).set k (I y) = (xs.set k y).flatMap cI := by
  induction xs generalizing k with
  | nil => rfl
  | cons x xs ih =>
    cases k with
    | zero => rfl
    | succ k =>
      show I x :: (xs.flatMap cI).set k (I y) = I x :: (xs.set k y).flatMap cI
      rw [ih]
theorem fil_set_in {o : List Int} {k : Nat} (r : Nat) (y : Int) (h : k < o.length) : (fil o r).set k (I y) = fil (o.set k y) r := by
  unfold fil
  rw [List.set_append_left _ _ (by rw [cI_len]; exact h), cI_set]
theorem fil_get {o : List Int} {k : Nat} (r : Nat) (h : k < o.length) : (fil o r)[k]? = some (I o[k]) := by
  unfold fil
  rw [List.getElem?_append_left (by rw [cI_len]; exact h), idx h]
theorem mul_lt9 {x y c w : Int} (hx : 0 ≤ x ∧ x < 1000000000) (hy : 0 ≤ y ∧ y < 1000000000) (hc : 0 ≤ c ∧ c < 1000000000) (hw : 0 ≤ w ∧ w < 1000000000) : 0 ≤ x * y ∧ x * y ≤ 999999998000000001 ∧ (w + x * y + c) / 1000000000 < 1000000000 := by
  have h1 := Int.mul_nonneg hx.1 hy.1
  have h2 : x * y ≤ 999999999 * 999999999 := Int.mul_le_mul (by omega) (by omega) hy.1 (by omega)
  omega
end Go.Proofs.Ytlkpocljgikpgaa
namespace Go.Proofs.Ytlkpocljgikpgaa
open Go Go.TV

theorem mul_inner {W bi bij w x b c y q v0 t : Int} (hq : y + 1000000000 * q = w + x * b + c) (hv : W + bij * c = v0 + bi * (x * t)) (hb : bij * (x * b) = bi * (x * (bij * b)) ∨ True) :
    W + bij * (y - w) + 1000000000 * bij * q = v0 + bi * (x * t) + bij * (x * b) := by
  have : 1000000000 * bij * q = bij * (1000000000 * q) := by grind
  rw [this]
  have e : bij * (y - w) + bij * (1000000000 * q) = bij * (x * b + c) := by rw [← Int.mul_add]; congr 1; omega
  rw [Int.mul_add] at e
  omega
theorem itimesL (m n : Nat) (hm : ln m ≤ 1000000) (hn : ln n ≤ 1000000) : fn Try.prog conv ext 110 [LI (dg m), LI (dg n)] = some (LI (dg (m * n))) := by
  unfold ln at hm hn
  rw [fn_eq, ev_eqQ (rs := [.tmp 4]) [] rfl Try.func110 rfl rfl (by kernel_rfl) (by kernel_rfl)]
  by_cases zm : m = 0
  · subst zm
    rw [Nat.zero_mul, dg_zero]
    (simp only [go_sem]) <;> rfl
  have cm : ((((dg m).length : Nat) : Int) == 0) = false := by rw [beq_eq_false_iff_ne]; have := app_len (dg_ne zm); omega
  by_cases zn : n = 0
  · subst zn
    rw [Nat.mul_zero, dg_zero]
    (simp only [go_sem, cm]) <;> rfl
  have cn : ((((dg n).length : Nat) : Int) == 0) = false := by rw [beq_eq_false_iff_ne]; have := app_len (dg_ne zn); omega
  have pn : 0 < (dg n).length := List.length_pos_iff.mpr (dg_ne zn)
  obtain ⟨e1, e2, e3⟩ := make_ok (k := (dg m).length + (dg n).length) (by omega)
  have e0 : ((dg m).length : Int) + ((dg n).length : Int) = (((dg m).length + (dg n).length : Nat) : Int) := by omega
  have e4 := wrap_id (n := (((dg m).length + (dg n).length : Nat) : Int)) (by omega) (by omega)
  simp only [go_sem, cm, cn, e0, e1, e2, e3, e4]
  generalize hL : evLoopI _ _ = y
  obtain ⟨r, rfl, T', σ', nx', P, rfl, h5, hnx, hσ, hP, hd, hv⟩ := count_rule hL (dg m).length (fun k st => st.T 1 = LI (dg n) ∧ st.T 5 = .rs 0 0 ((dg m).length + (dg n).length) ∧ st.T 26 = LI (dg m) ∧ st.T 27 = I (dg m).length ∧ st.T 28 = I k ∧ 0 < st.nx ∧ ∃ P, st.σ 0 = some ⟨fil P ((dg m).length - k), 1, true⟩ ∧ P.length = k + (dg n).length ∧ Dg P ∧ vl P = vl ((dg m).take k) * n)
    (fun r => ∃ T σ nx P, r = (.exit 0, ⟨T, σ, nx⟩) ∧ T 5 = .rs 0 0 ((dg m).length + (dg n).length) ∧ 0 < nx ∧ σ 0 = some ⟨P.flatMap cI, 1, true⟩ ∧ P.length = (dg m).length + (dg n).length ∧ Dg P ∧ vl P = (m * n : Nat)) (by
      clear hL
      rintro k ⟨T, σ, nx⟩ hlt ⟨h1, h5, h26, h27, h28, hnx, P, hσ, hP, hd, hv⟩
      simp only at h1 h5 h26 h27 h28 hnx hσ
      have f1 : (k : Int) < ((dg m).length : Int) := by omega
      have f2 : (0 : Int) ≤ (k : Int) := by omega
      have f3 := wrap_id (n := (k : Int) + 1) (by omega) (by omega)
      have f5 := slot_ne (c := cI) (s := 1) (fun _ => rfl) (by omega) (dg m) k hlt
      have f6 := idx hlt
      obtain ⟨x, hx⟩ : ∃ x, x = (dg m)[k] := ⟨_, rfl⟩
      have xr := (dg_Dg m).get hlt
      rw [← hx] at f6 xr
      have v1 := vl_take_succ hlt
      rw [← hx] at v1
      obtain ⟨g, hg⟩ : ∃ g, (dg m).length - k = g + 1 := ⟨(dg m).length - k - 1, by omega⟩
      have hg' : (dg m).length - (k + 1) = g := by omega
      rw [hg] at hσ
      refine step_of ?_
      conv =>
        enter [1, r, 1, 1]
        simp only [go_sem, h1, h5, h26, h27, h28, hnx, f1, f2, f5, f6]
      generalize hL : evLoopI _ _ = z
      obtain ⟨r, rfl, T', σ', nx', c, W, rfl, h1, h5, h6, h8, h26, h27, h28, hnx, hσ, hW, hd, hv, hc0, hc1⟩ := count_rule hL (dg n).length (fun j st => st.T 1 = LI (dg n) ∧ st.T 5 = .rs 0 0 ((dg m).length + (dg n).length) ∧ st.T 6 = I k ∧ st.T 7 = I x ∧ st.T 26 = LI (dg m) ∧ st.T 27 = I (dg m).length ∧ st.T 28 = I k ∧ st.T 33 = LI (dg n) ∧ st.T 34 = I (dg n).length ∧ st.T 35 = I j ∧ 0 < st.nx ∧ ∃ c W, st.T 8 = I c ∧ st.σ 0 = some ⟨fil W (g + 1), 1, true⟩ ∧ W.length = k + (dg n).length ∧ Dg W ∧ vl W + bp (k + j) * c = vl ((dg m).take k) * n + bp k * (x * vl ((dg n).take j)) ∧ 0 ≤ c ∧ c < 1000000000)
        (fun r => ∃ T σ nx c W, r = (.exit 2, ⟨T, σ, nx⟩) ∧ T 1 = LI (dg n) ∧ T 5 = .rs 0 0 ((dg m).length + (dg n).length) ∧ T 6 = I k ∧ T 8 = I c ∧ T 26 = LI (dg m) ∧ T 27 = I (dg m).length ∧ T 28 = I k ∧ 0 < nx ∧ σ 0 = some ⟨fil W (g + 1), 1, true⟩ ∧ W.length = k + (dg n).length ∧ Dg W ∧ vl W + bp (k + (dg n).length) * c = vl ((dg m).take k) * n + bp k * (x * n) ∧ 0 ≤ c ∧ c < 1000000000) (by
          clear hL
          rintro j ⟨T, σ, nx⟩ hj ⟨h1, h5, h6, h7, h26, h27, h28, h33, h34, h35, hnx, c, W, h8, hσ, hW, hd, hv, hc0, hc1⟩
          simp only at h1 h5 h6 h7 h8 h26 h27 h28 h33 h34 h35 hnx hσ
          have g1 : (j : Int) < ((dg n).length : Int) := by omega
          have g2 : (0 : Int) ≤ (j : Int) := by omega
          have g3 := wrap_id (n := (j : Int) + 1) (by omega) (by omega)
          have g5 := slot_ne (c := cI) (s := 1) (fun _ => rfl) (by omega) (dg n) j hj
          have g6 := idx hj
          obtain ⟨b, hb⟩ : ∃ b, b = (dg n)[j] := ⟨_, rfl⟩
          have br := (dg_Dg n).get hj
          rw [← hb] at g6 br
          have v2 := vl_take_succ hj
          rw [← hb] at v2
          have p0 : (k : Int) + (j : Int) = ((k + j : Nat) : Int) := by omega
          have p1 := wrap_id (n := ((k + j : Nat) : Int)) (by omega) (by omega)
          have p2 : (0 : Int) ≤ ((k + j : Nat) : Int) := by omega
          have p3 : ((k + j : Nat) : Int) < (((dg m).length + (dg n).length : Nat) : Int) := by omega
          have p4 : k + j < W.length := by omega
          have p5 := fil_get (o := W) (g + 1) p4
          have p6 : k + j < (fil W (g + 1)).length := by rw [fil_len]; omega
          obtain ⟨w, hw⟩ : ∃ w, w = W[k + j] := ⟨_, rfl⟩
          have wr := hd.get p4
          rw [← hw] at p5 wr
          have mm := mul_lt9 (x := x) (y := b) (c := c) (w := w) xr br ⟨hc0, hc1⟩ wr
          have w1 := wrap_id (n := x * b) (by omega) (by omega)
          have w2 := wrap_id (n := w + x * b) (by omega) (by omega)
          have w3 := wrap_id (n := w + x * b + c) (by omega) (by omega)
          obtain ⟨q1, q2⟩ := tdivmod (n := w + x * b + c) (by omega)
          have w4 := wrap_id (n := (w + x * b + c) / 1000000000) (by omega) (by omega)
          have c6 := fil_set_in (g + 1) ((w + x * b + c) % 1000000000) p4
          have vs := vl_set p4 ((w + x * b + c) % 1000000000)
          rw [← hw] at vs
          refine .inl ⟨_, by simp only [go_sem, h1, h5, h6, h7, h8, h26, h27, h28, h33, h34, h35, hnx, hσ, g1, g2, g3, g5, g6, p0, p1, p2, p3, p5, p6, w1, w2, w3, w4, q1, q2, c6]; rfl, ?_⟩
          simp only [go_sem, h1, h5, h6, h7, h26, h27, h28, h33, h34]
          refine ⟨rfl, hnx, _, _, rfl, rfl, by rw [List.length_set]; exact hW, hd.set _ (by omega) (by omega), ?_, by omega, by omega⟩
          rw [vs, show k + (j + 1) = k + j + 1 by omega, bp_succ, mul_inner (c := c) (x := x) (b := b) (by omega) hv (.inr trivial), v2, bp_add]
          grind) (by
          clear hL
          rintro ⟨T, σ, nx⟩ ⟨h1, h5, h6, h7, h26, h27, h28, h33, h34, h35, hnx, c, W, h8, hσ, hW, hd, hv, hc0, hc1⟩
          simp only at h1 h5 h6 h7 h8 h26 h27 h28 h33 h34 h35 hnx hσ
          rw [List.take_length, vl_dg] at hv
          refine ⟨_, by simp only [go_sem, h34, h35, Int.lt_irrefl]; rfl, by simp, _, _, _, c, W, rfl, ?_⟩
          simp only [go_sem, h1, h5, h6, h8, h26, h27, h28]
          exact ⟨hnx, hσ, hW, hd, hv, hc0, hc1⟩) (by
          simp only [go_sem, h1, h5, h26, h27, h28]
          exact ⟨hnx, 0, P, rfl, hσ, hP, hd, by rw [Int.mul_zero, hv]; simp [vl], Int.le_refl _, by decide⟩)
      have p0 : (k : Int) + ((dg n).length : Int) = ((k + (dg n).length : Nat) : Int) := by omega
      have p1 := wrap_id (n := ((k + (dg n).length : Nat) : Int)) (by omega) (by omega)
      have p2 : (0 : Int) ≤ ((k + (dg n).length : Nat) : Int) := by omega
      have p3 : ((k + (dg n).length : Nat) : Int) < (((dg m).length + (dg n).length : Nat) : Int) := by omega
      have p6 : k + (dg n).length < (fil W (g + 1)).length := by rw [fil_len]; omega
      have c6 := fil_set W g c hW
      refine ⟨_, by simp only [go_sem, h1, h5, h6, h8, h26, h27, h28, hnx, hσ, f3, p0, p1, p2, p3, p6, c6]; rfl, .inl ⟨_, rfl, ?_⟩⟩
      simp only [go_sem, h1, h5, h26, h27, hg']
      refine ⟨rfl, hnx, _, rfl, by simp [hW]; omega, hd.snoc hc0 hc1, ?_⟩
      rw [vl_snoc, hW, hv, v1]
      grind) (by
      clear hL
      rintro ⟨T, σ, nx⟩ ⟨h1, h5, h26, h27, h28, hnx, P, hσ, hP, hd, hv⟩
      simp only at h1 h5 h26 h27 h28 hnx hσ
      rw [Nat.sub_self, fil_full] at hσ
      refine ⟨_, by simp only [go_sem, h27, h28, Int.lt_irrefl]; rfl, by simp, _, _, _, P, rfl, by simp only [go_sem, h5], hnx, hσ, hP, hd, ?_⟩
      rw [hv, List.take_length, vl_dg, Int.natCast_mul]) (by
      simp only [go_sem]
      refine ⟨List.replicate (dg n).length 0, ?_, by simp, fun x hx => by rw [List.mem_replicate] at hx; omega, (vl_rep _).trans (by simp [vl])⟩
      congr 2
      unfold fil
      rw [show List.flatMap cI (List.replicate (dg n).length 0) = rep (dg n).length [I 0] by unfold rep; rw [List.flatMap_replicate]]
      unfold rep
      rw [← List.flatten_append, List.replicate_append_replicate, Nat.add_comm])
  have ht := itrim P (by unfold Short; omega)
  rw [trim_vl' hd hv] at ht
  have ht' : fn Try.prog conv ext 141 [.ts (P.flatMap cI) ((dg m).length + (dg n).length)] = some (LI (dg (m * n))) := by rw [← hP]; exact ht
  have tk : List.take ((dg m).length + (dg n).length) (P.flatMap cI) = P.flatMap cI := by rw [← hP]; exact cI_takeall _
  have hl2 : (P.flatMap cI).length = (dg m).length + (dg n).length := by rw [cI_len, hP]
  simp only [go_sem, h5, hnx, hσ, hl2, tk, ht']
end Go.Proofs.Ytlkpocljgikpgaa
namespace Go.Proofs.Ytlkpocljgikpgaa
open Go Go.TV

/-! ### The program's whole numbers -/
def cZ (z : Int) : List V := [Bo (decide (z < 0)), LI (dg z.natAbs)]
def sgnN (b : Bool) (n : Nat) : Int := if b = true then -(n : Int) else n
theorem cZ_sgn (b : Bool) (n : Nat) : cZ (sgnN b n) = [Bo (b && decide (0 < (dg n).length)), LI (dg n)] := by
  unfold cZ sgnN
  cases b with
  | false => simp
  | true =>
    have h1 : ((-(n : Int)).natAbs) = n := by simp
    have h2 : decide (-(n : Int) < 0) = decide (0 < (dg n).length) := by
      rw [decide_eq_decide]
      by_cases h : n = 0
      · subst h; rw [dg_zero]; simp
      · have := List.length_pos_iff.mpr (dg_ne h); omega
    simp only [if_true, Bool.true_and, h1, h2]
theorem sgn_abs (z : Int) : sgnN (decide (z < 0)) z.natAbs = z := by
  unfold sgnN
  by_cases h : z < 0
  · rw [decide_eq_true h, if_pos rfl]; omega
  · rw [decide_eq_false h, if_neg (by decide)]; omega
theorem isignedZ (b : Bool) (n : Nat) : fn Try.prog conv ext 109 [Bo b, LI (dg n)] = some (.agg (cZ (sgnN b n))) := by
  rw [isigned, cZ_sgn]
theorem iintegerZ (z : Int) (h0 : -9223372036854775808 ≤ z) (h1 : z ≤ 9223372036854775807) : fn Try.prog conv ext 78 [I z] = some (.agg (cZ z)) := by
  rw [fn_eq, ev_eqQ (rs := [.cell 2 29]) [] rfl Try.func78 rfl rfl (by kernel_rfl) (by kernel_rfl)]
  by_cases hz : z < 0
  · have w1 := wrap_id (n := z + 1) (by omega) (by omega)
    have w2 : IntKind.i64.wrap (0 - (z + 1)) = -(z + 1) := by rw [wrap_id (by omega) (by omega)]; omega
    have w3 := wrap_u64 (n := -(z + 1)) (by omega) (by omega)
    have w4 := wrap_u64 (n := -(z + 1) + 1) (by omega) (by omega)
    have e : -(z + 1) + 1 = ((z.natAbs : Nat) : Int) := by omega
    rw [e] at w4
    have k1 := ilimbs' z.natAbs (by omega)
    have k2 := isignedZ true z.natAbs
    have e2 : sgnN true z.natAbs = z := by unfold sgnN; rw [if_pos rfl]; omega
    rw [e2] at k2
    unfold cZ at *
    simp only [go_sem, hz, w1, w2, w3, e, w4, k1, k2]
  · have w3 := wrap_u64 (n := z) (by omega) (by omega)
    have e : z = ((z.natAbs : Nat) : Int) := by omega
    have k1 := ilimbs' z.natAbs (by omega)
    rw [← e] at k1
    have k2 := isignedZ false z.natAbs
    have e2 : sgnN false z.natAbs = z := by unfold sgnN; rw [if_neg (by decide)]; omega
    rw [e2] at k2
    unfold cZ at *
    simp only [go_sem, hz, w3, k1, k2]
theorem ioppositeZ (z : Int) : fn Try.prog conv ext 142 [.agg (cZ z)] = some (.agg (cZ (-z))) := by
  have k2 := isignedZ (!decide (z < 0)) z.natAbs
  have e : cZ (sgnN (!decide (z < 0)) z.natAbs) = cZ (-z) := by
    unfold sgnN
    by_cases h : z < 0
    · rw [decide_eq_true h, Bool.not_true, if_neg (by decide)]; congr 1; omega
    · rw [decide_eq_false h, Bool.not_false, if_pos rfl]; congr 1; omega
  rw [e] at k2
  unfold cZ at *
  rw [fn_eq, ev_eqQ (rs := [.cell 2 29]) [] rfl Try.func142 rfl rfl (by kernel_rfl) (by kernel_rfl)]
  simp only [go_sem, k2]
theorem cmpN_neg {m n : Nat} : cmpN m n < 0 ↔ m < n := by
  unfold cmpN
  by_cases h : m < n
  · rw [if_pos h]; simp [h]
  · rw [if_neg h]; split <;> simp [h]
theorem iBplus (x y : Int) (hx : ln x.natAbs ≤ 1000000) (hy : ln y.natAbs ≤ 1000000) : fn Try.prog conv ext 113 [.agg (cZ x), .agg (cZ y)] = some (.agg (cZ (x + y))) := by
  have k1 := icompareL x.natAbs y.natAbs hx hy
  have k2 := iplus x.natAbs y.natAbs hx hy
  have sg : ∀ b m, sgnN b m = x + y → fn Try.prog conv ext 109 [Bo b, LI (dg m)] = some (.agg (cZ (x + y))) := fun b m h => by rw [← h]; exact isignedZ b m
  rw [fn_eq, ev_eqQ (rs := [.cell 4 29]) [4,6,2] rfl Try.func113 rfl rfl (by kernel_rfl) (by kernel_rfl)]
  by_cases h1 : x < 0 <;> by_cases h2 : y < 0
  · have k3 := sg true (x.natAbs + y.natAbs) (by unfold sgnN; rw [if_pos rfl]; omega)
    unfold cZ at *
    rw [decide_eq_true h1, decide_eq_true h2]
    simp only [go_sem, k1, k2, k3]
  · unfold cZ at *
    rw [decide_eq_true h1, decide_eq_false h2]
    by_cases hc : x.natAbs < y.natAbs
    · have c1 : ¬0 ≤ cmpN x.natAbs y.natAbs := by have := cmpN_neg.mpr hc; omega
      have k4 := iminus y.natAbs x.natAbs hy (by omega)
      have k3 := sg false (y.natAbs - x.natAbs) (by unfold sgnN; rw [if_neg (by decide)]; omega)
      simp only [go_sem, k1, k3, k4, c1]
    · have c1 : 0 ≤ cmpN x.natAbs y.natAbs := by have := mt cmpN_neg.mp hc; omega
      have k4 := iminus x.natAbs y.natAbs hx (by omega)
      have k3 := sg true (x.natAbs - y.natAbs) (by unfold sgnN; rw [if_pos rfl]; omega)
      simp only [go_sem, k1, k3, k4, c1]
  · unfold cZ at *
    rw [decide_eq_false h1, decide_eq_true h2]
    by_cases hc : x.natAbs < y.natAbs
    · have c1 : ¬0 ≤ cmpN x.natAbs y.natAbs := by have := cmpN_neg.mpr hc; omega
      have k4 := iminus y.natAbs x.natAbs hy (by omega)
      have k3 := sg true (y.natAbs - x.natAbs) (by unfold sgnN; rw [if_pos rfl]; omega)
      simp only [go_sem, k1, k3, k4, c1]
    · have c1 : 0 ≤ cmpN x.natAbs y.natAbs := by have := mt cmpN_neg.mp hc; omega
      have k4 := iminus x.natAbs y.natAbs hx (by omega)
      have k3 := sg false (x.natAbs - y.natAbs) (by unfold sgnN; rw [if_neg (by decide)]; omega)
      simp only [go_sem, k1, k3, k4, c1]
  · have k3 := sg false (x.natAbs + y.natAbs) (by unfold sgnN; rw [if_neg (by decide)]; omega)
    unfold cZ at *
    rw [decide_eq_false h1, decide_eq_false h2]
    simp only [go_sem, k1, k2, k3]
theorem iBminus (x y : Int) (hx : ln x.natAbs ≤ 1000000) (hy : ln y.natAbs ≤ 1000000) : fn Try.prog conv ext 112 [.agg (cZ x), .agg (cZ y)] = some (.agg (cZ (x - y))) := by
  have k1 := ioppositeZ y
  have k2 := iBplus x (-y) hx (by rwa [Int.natAbs_neg])
  rw [← Int.sub_eq_add_neg] at k2
  unfold cZ at *
  rw [fn_eq, ev_eqQ (rs := [.cell 4 29]) [1] rfl Try.func112 rfl rfl (by kernel_rfl) (by kernel_rfl)]
  simp only [go_sem, k1, k2]
def cmpZ (x y : Int) : Int := if x < y then -1 else if x = y then 0 else 1
theorem cmpZ_pp {m n : Nat} : cmpN m n = cmpZ m n := by unfold cmpN cmpZ; split <;> split <;> first | rfl | (split <;> first | rfl | omega) | omega
theorem iBcompare (x y : Int) (hx : ln x.natAbs ≤ 1000000) (hy : ln y.natAbs ≤ 1000000) : fn Try.prog conv ext 85 [.agg (cZ x), .agg (cZ y)] = some (I (cmpZ x y)) := by
  have k1 := icompareL x.natAbs y.natAbs hx hy
  have k2 := icompareL y.natAbs x.natAbs hy hx
  rw [cmpZ_pp] at k1 k2
  unfold cZ
  rw [fn_eq, ev_eqQ (rs := [.tmp 4]) [] rfl Try.func85 rfl rfl (by kernel_rfl) (by kernel_rfl)]
  by_cases h1 : x < 0 <;> by_cases h2 : y < 0
  · have e : cmpZ ((y.natAbs : Nat) : Int) ((x.natAbs : Nat) : Int) = cmpZ x y := by unfold cmpZ; (repeat' split) <;> first | rfl | omega
    rw [decide_eq_true h1, decide_eq_true h2]
    simp only [go_sem, k2, e]
  · have e : cmpZ x y = -1 := by unfold cmpZ; rw [if_pos (by omega)]
    rw [decide_eq_true h1, decide_eq_false h2, e]
    simp only [go_sem]
  · have e : cmpZ x y = 1 := by unfold cmpZ; rw [if_neg (by omega), if_neg (by omega)]
    rw [decide_eq_false h1, decide_eq_true h2, e]
    simp only [go_sem]
  · have e : cmpZ ((x.natAbs : Nat) : Int) ((y.natAbs : Nat) : Int) = cmpZ x y := by unfold cmpZ; (repeat' split) <;> first | rfl | omega
    rw [decide_eq_false h1, decide_eq_false h2]
    simp only [go_sem, k1, e]
theorem isignZ (x : Int) : fn Try.prog conv ext 86 [.agg (cZ x)] = some (I (cmpZ x 0)) := by
  unfold cZ
  rw [fn_eq, ev_eqQ (rs := [.tmp 2]) [] rfl Try.func86 rfl rfl (by kernel_rfl) (by kernel_rfl)]
  by_cases h0 : x = 0
  · subst h0
    have e : cmpZ 0 0 = 0 := by decide
    rw [e, Int.natAbs_zero, dg_zero]
    (simp only [go_sem]) <;> rfl
  · have c1 : (((dg x.natAbs).length : Int) == 0) = false := by rw [beq_eq_false_iff_ne]; have := app_len (dg_ne (n := x.natAbs) (by omega)); omega
    by_cases h1 : x < 0
    · have e : cmpZ x 0 = -1 := by unfold cmpZ; rw [if_pos h1]
      rw [decide_eq_true h1, e]
      simp only [go_sem, c1]
    · have e : cmpZ x 0 = 1 := by unfold cmpZ; rw [if_neg h1, if_neg h0]
      rw [decide_eq_false h1, e]
      simp only [go_sem, c1]
end Go.Proofs.Ytlkpocljgikpgaa
namespace Go.Proofs.Ytlkpocljgikpgaa
open Go Go.TV

/-! ### The program's fractions (small ones) -/
def cQ (q : Rat) : List V := [Bo (decide (q.num < 0)), LI (dg q.num.natAbs), LI (dg q.den)]
def pQ : Option Rat → V
  | some q => .tp (cQ q) 0
  | none => .sc (.pointer none)
def zQ : List V := [Bo false, .ts [] 0, .ts [] 0]
theorem cQ_len (q : Rat) : (cQ q).length = 3 := rfl
theorem cQ_mk (z : Int) {d : Nat} (h : d ≠ 0) : cQ (mkRat z d) = lowD (decide (z < 0)) z.natAbs d := by
  have hg : Nat.gcd d z.natAbs = Nat.gcd z.natAbs d := Nat.gcd_comm _ _
  have hgp : 0 < Nat.gcd z.natAbs d := Nat.gcd_pos_of_pos_right _ (by omega)
  have hdv : Nat.gcd z.natAbs d ∣ z.natAbs := Nat.gcd_dvd_left _ _
  have hdvz : ((Nat.gcd z.natAbs d : Nat) : Int) ∣ z := Int.ofNat_dvd_left.mpr hdv
  unfold cQ lowD
  rw [Rat.num_mkRat, Rat.den_mkRat, if_neg h, if_neg h, hg]
  have e1 : (z / ((Nat.gcd z.natAbs d : Nat) : Int)).natAbs = z.natAbs / Nat.gcd z.natAbs d := by
    obtain ⟨k, hk⟩ := hdvz
    have e : z / ((Nat.gcd z.natAbs d : Nat) : Int) = k := Int.ediv_eq_of_eq_mul_right (by omega) hk
    have e2 : z.natAbs = Nat.gcd z.natAbs d * k.natAbs := by
      have := congrArg Int.natAbs hk
      rw [Int.natAbs_mul, Int.natAbs_natCast] at this
      exact this
    rw [e, Nat.div_eq_of_eq_mul_right hgp e2]
  have e2 : decide (z / ((Nat.gcd z.natAbs d : Nat) : Int) < 0) = (decide (z < 0) && decide (0 < (dg (z.natAbs / Nat.gcd z.natAbs d)).length)) := by
    have e3 : (z / ((Nat.gcd z.natAbs d : Nat) : Int) < 0) ↔ z < 0 := by
      obtain ⟨k, hk⟩ := hdvz
      have e : z / ((Nat.gcd z.natAbs d : Nat) : Int) = k := Int.ediv_eq_of_eq_mul_right (by omega) hk
      rw [e]
      have hG : (0 : Int) < ((Nat.gcd z.natAbs d : Nat) : Int) := by omega
      generalize ((Nat.gcd z.natAbs d : Nat) : Int) = G at *
      constructor
      · intro hkn; rw [hk]; exact Int.mul_neg_of_pos_of_neg hG hkn
      · intro hz
        refine Classical.byContradiction fun hn => ?_
        have := Int.mul_nonneg (Int.le_of_lt hG) (Int.not_lt.mp hn)
        rw [← hk] at this
        omega
    by_cases hz : z < 0
    · have hne : z.natAbs / Nat.gcd z.natAbs d ≠ 0 := by
        have := Nat.div_pos (Nat.gcd_le_left d (show 0 < z.natAbs by omega)) hgp
        omega
      rw [decide_eq_true (e3.mpr hz), decide_eq_true hz, decide_eq_true (List.length_pos_iff.mpr (dg_ne hne))]; rfl
    · rw [decide_eq_false (mt e3.mp hz), decide_eq_false hz]; rfl
  rw [e1, e2]
theorem ilowestQ (z : Int) (d : Nat) (hz : z.natAbs < 1000000000000000000) (h0 : d ≠ 0) (hd : d < 1000000000) : fn Try.prog conv ext 108 [.agg (cZ z), LI (dg d)] = some (.tp (cQ (mkRat z d)) 0) := by
  have k := ilowest (decide (z < 0)) z.natAbs d hz h0 hd
  rw [← cZ_sgn, sgn_abs, ← cQ_mk z h0] at k
  exact k
/-- Small fractions. -/
def Sm (q : Rat) : Prop := q.num.natAbs < 400000000 ∧ q.den < 30000
theorem lnS {n : Nat} (h : n < 1000000000000000000) : ln n ≤ 1000000 := by
  have := ln_le_iff (n := n) (k := 2) |>.mpr (by have : bp 2 = 1000000000000000000 := by decide
                                                 omega)
  omega
theorem ln2 {n : Nat} (h : n < 1000000000000000000) : ln n ≤ 2 := ln_le_iff.mpr (by have : bp 2 = 1000000000000000000 := by decide
                                                                                    omega)
theorem Sm.n {q : Rat} (h : Sm q) : ln q.num.natAbs ≤ 1000000 := lnS (by have := h.1; omega)
theorem Sm.d {q : Rat} (h : Sm q) : ln q.den ≤ 1000000 := lnS (by have := h.2; omega)
theorem Sm.dd {x y : Rat} (h : Sm x) (h' : Sm y) : x.den * y.den < 1000000000 := by
  have := Nat.mul_lt_mul'' h.2 h'.2
  omega
theorem Sm.nd {x y : Rat} (h : Sm x) (h' : Sm y) : (x.num * y.den).natAbs < 12000000000000 := by
  rw [Int.natAbs_mul, Int.natAbs_natCast]
  have := Nat.mul_lt_mul'' h.1 h'.2
  omega
theorem dd0 (x y : Rat) : x.den * y.den ≠ 0 := Nat.mul_ne_zero x.den_nz y.den_nz
theorem iscaledQ (x : Rat) (d : Nat) (hx : ln x.num.natAbs ≤ 1000000) (hd : ln d ≤ 1000000) : fn Try.prog conv ext 84 [.tp (cQ x) 0, LI (dg d)] = some (.agg (cZ (x.num * d))) := by
  have k1 := itimesL x.num.natAbs d hx hd
  have k2 := isignedZ (decide (x.num < 0)) (x.num.natAbs * d)
  have e : sgnN (decide (x.num < 0)) (x.num.natAbs * d) = x.num * d := by
    have h := sgn_abs x.num
    conv => rhs; rw [← h]
    unfold sgnN
    by_cases q : x.num < 0
    · rw [decide_eq_true q, if_pos rfl, if_pos rfl, Int.natCast_mul, Int.neg_mul]
    · rw [decide_eq_false q, if_neg (by decide), if_neg (by decide), Int.natCast_mul]
  rw [e] at k2
  unfold cQ
  unfold cZ at *
  rw [fn_eq, ev_eqQ (rs := [.cell 4 29]) [] rfl Try.func84 rfl rfl (by kernel_rfl) (by kernel_rfl)]
  simp only [go_sem, k1, k2]
theorem iqplus (x y : Rat) (hx : Sm x) (hy : Sm y) : fn Try.prog conv ext 82 [.tp (cQ x) 0, .tp (cQ y) 0] = some (.tp (cQ (x + y)) 0) := by
  have n1 := hx.nd hy
  have n2 := hy.nd hx
  have k1 := iscaledQ x y.den hx.n hy.d
  have k2 := iscaledQ y x.den hy.n hx.d
  have k3 := iBplus (x.num * y.den) (y.num * x.den) (lnS (by omega)) (lnS (by omega))
  have k4 := itimesL x.den y.den hx.d hy.d
  have k5 := ilowestQ (x.num * y.den + y.num * x.den) (x.den * y.den) (by omega) (dd0 x y) (hx.dd hy)
  rw [← Rat.add_def'] at k5
  unfold cQ at *
  unfold cZ at *
  rw [fn_eq, ev_eqQ (rs := [.tmp 4]) [] rfl Try.func82 rfl rfl (by kernel_rfl) (by kernel_rfl)]
  simp only [go_sem, k1, k2, k3, k4, k5]
theorem iqminus (x y : Rat) (hx : Sm x) (hy : Sm y) : fn Try.prog conv ext 81 [.tp (cQ x) 0, .tp (cQ y) 0] = some (.tp (cQ (x - y)) 0) := by
  have n1 := hx.nd hy
  have n2 := hy.nd hx
  have k1 := iscaledQ x y.den hx.n hy.d
  have k2 := iscaledQ y x.den hy.n hx.d
  have k3 := iBminus (x.num * y.den) (y.num * x.den) (lnS (by omega)) (lnS (by omega))
  have k4 := itimesL x.den y.den hx.d hy.d
  have k5 := ilowestQ (x.num * y.den - y.num * x.den) (x.den * y.den) (by omega) (dd0 x y) (hx.dd hy)
  rw [← Rat.sub_def'] at k5
  unfold cQ at *
  unfold cZ at *
  rw [fn_eq, ev_eqQ (rs := [.tmp 4]) [] rfl Try.func81 rfl rfl (by kernel_rfl) (by kernel_rfl)]
  simp only [go_sem, k1, k2, k3, k4, k5]
theorem div_mk (x y : Rat) (hy : y.num ≠ 0) : x / y = mkRat (sgnN (decide (x.num < 0) != decide (y.num < 0)) (x.num.natAbs * y.den)) (x.den * y.num.natAbs) := by
  have e1 : x / y = Rat.divInt (x.num * y.den) (x.den * y.num) := by
    rw [Rat.div_def]
    conv => lhs; rw [← Rat.num_divInt_den x, ← Rat.num_divInt_den y]
    rw [Rat.inv_divInt, Rat.divInt_mul_divInt]
  rw [e1, ← Rat.divInt_ofNat, Int.natCast_mul]
  have hx := sgn_abs x.num
  by_cases h1 : x.num < 0 <;> by_cases h2 : y.num < 0
  · have a1 : ((x.num.natAbs : Nat) : Int) = -x.num := by omega
    have a2 : ((y.num.natAbs : Nat) : Int) = -y.num := by omega
    rw [decide_eq_true h1, decide_eq_true h2]
    unfold sgnN
    rw [if_neg (by decide), Int.natCast_mul, a1, a2, Int.neg_mul, Int.mul_neg, Rat.neg_divInt_neg]
  · have a1 : ((x.num.natAbs : Nat) : Int) = -x.num := by omega
    have a2 : ((y.num.natAbs : Nat) : Int) = y.num := by omega
    rw [decide_eq_true h1, decide_eq_false h2]
    unfold sgnN
    rw [if_pos (by decide), Int.natCast_mul, a1, a2, Int.neg_mul, Int.neg_neg]
  · have a1 : ((x.num.natAbs : Nat) : Int) = x.num := by omega
    have a2 : ((y.num.natAbs : Nat) : Int) = -y.num := by omega
    rw [decide_eq_false h1, decide_eq_true h2]
    unfold sgnN
    rw [if_pos (by decide), Int.natCast_mul, a1, a2, Int.mul_neg]
    rw [← Rat.neg_divInt_neg (-(x.num * y.den)), Int.neg_neg, Int.neg_neg]
  · have a1 : ((x.num.natAbs : Nat) : Int) = x.num := by omega
    have a2 : ((y.num.natAbs : Nat) : Int) = y.num := by omega
    rw [decide_eq_false h1, decide_eq_false h2]
    unfold sgnN
    rw [if_neg (by decide), Int.natCast_mul, a1, a2]
theorem iqby (x y : Rat) (hx : x.num.natAbs < 1000000000) (hxd : x.den = 1) (hy : y.num.natAbs < 1000000000) (hyd : y.den = 1) (h0 : y.num ≠ 0) : fn Try.prog conv ext 77 [.tp (cQ x) 0, .tp (cQ y) 0] = some (.tp (cQ (x / y)) 0) := by
  have k1 := itimesL x.num.natAbs y.den (lnS (by omega)) (lnS (by omega))
  have k2 := isignedZ (decide (x.num < 0) != decide (y.num < 0)) (x.num.natAbs * y.den)
  have k3 := itimesL x.den y.num.natAbs (lnS (by omega)) (lnS (by omega))
  have hd : x.den * y.num.natAbs < 1000000000 := by rw [hxd]; omega
  have hn : (sgnN (decide (x.num < 0) != decide (y.num < 0)) (x.num.natAbs * y.den)).natAbs < 1000000000000000000 := by
    rw [hyd, Nat.mul_one]
    unfold sgnN
    split <;> omega
  have k4 := ilowestQ _ (x.den * y.num.natAbs) hn (Nat.mul_ne_zero x.den_nz (by omega)) hd
  rw [← div_mk x y h0] at k4
  rw [cZ_sgn] at k4 k2
  have e : ∀ a b : Bool, (!a == b) = (a != b) := by decide
  unfold cQ at *
  rw [fn_eq, ev_eqQ (rs := [.tmp 4]) [] rfl Try.func77 rfl rfl (by kernel_rfl) (by kernel_rfl)]
  simp only [go_sem, k1, k2, k3, k4, e]
theorem ifitQ (q : Rat) (h1 : ln q.num.natAbs ≤ 24) (h2 : ln q.den ≤ 24) : fn Try.prog conv ext 76 [.tp (cQ q) 0] = some (.tp (cQ q) 0) := ifit _ _ _ h1 h2
theorem istoreQ (q : Rat) (h1 : ln q.num.natAbs ≤ 24) (h2 : ln q.den ≤ 24) : fn Try.prog conv ext 42 [.tp (cQ q) 0] = some (.agg (cQ q)) := istore _ _ _ h1 h2
theorem mk_small (z : Int) {d : Nat} (h : d ≠ 0) : (mkRat z d).num.natAbs ≤ z.natAbs ∧ (mkRat z d).den ≤ d := by
  rw [Rat.num_mkRat, Rat.den_mkRat, if_neg h, if_neg h]
  exact ⟨Int.natAbs_ediv_le_natAbs _ _, Nat.div_le_self _ _⟩
theorem Sm.add {x y : Rat} (hx : Sm x) (hy : Sm y) : (x + y).num.natAbs < 1000000000000000000 ∧ (x + y).den < 1000000000 := by
  have n1 := hx.nd hy
  have n2 := hy.nd hx
  have := mk_small (x.num * y.den + y.num * x.den) (dd0 x y)
  rw [← Rat.add_def'] at this
  have h3 := hx.dd hy
  omega
theorem Sm.sub {x y : Rat} (hx : Sm x) (hy : Sm y) : (x - y).num.natAbs < 1000000000000000000 ∧ (x - y).den < 1000000000 := by
  have n1 := hx.nd hy
  have n2 := hy.nd hx
  have := mk_small (x.num * y.den - y.num * x.den) (dd0 x y)
  rw [← Rat.sub_def'] at this
  have h3 := hx.dd hy
  omega
theorem ln24 {n : Nat} (h : n < 1000000000000000000) : ln n ≤ 24 := by have := ln2 h; omega
theorem iadd (x y : Rat) (hx : Sm x) (hy : Sm y) : fn Try.prog conv ext 47 [.tp (cQ x) 0, .tp (cQ y) 0] = some (.tp (cQ (x + y)) 0) := by
  have h := hx.add hy
  have k1 := iqplus x y hx hy
  have k2 := ifitQ (x + y) (ln24 h.1) (ln24 (by have := h.2; omega))
  unfold cQ at *
  rw [fn_eq, ev_eqQ (rs := [.tmp 4]) [] rfl Try.func47 rfl rfl (by kernel_rfl) (by kernel_rfl)]
  simp only [go_sem, k1, k2]
theorem isub (x y : Rat) (hx : Sm x) (hy : Sm y) : fn Try.prog conv ext 43 [.tp (cQ x) 0, .tp (cQ y) 0] = some (.tp (cQ (x - y)) 0) := by
  have h := hx.sub hy
  have k1 := iqminus x y hx hy
  have k2 := ifitQ (x - y) (ln24 h.1) (ln24 (by have := h.2; omega))
  unfold cQ at *
  rw [fn_eq, ev_eqQ (rs := [.tmp 4]) [] rfl Try.func43 rfl rfl (by kernel_rfl) (by kernel_rfl)]
  simp only [go_sem, k1, k2]
theorem iSign (q : Rat) : fn Try.prog conv ext 50 [.tp (cQ q) 0] = some (I (cmpZ q.num 0)) := by
  have k := isignZ q.num
  unfold cQ
  unfold cZ at k
  rw [fn_eq, ev_eqQ (rs := [.tmp 2]) [] rfl Try.func50 rfl rfl (by kernel_rfl) (by kernel_rfl)]
  simp only [go_sem, k]
theorem iwholeZ (z : Int) (h0 : -9223372036854775808 ≤ z) (h1 : z ≤ 9223372036854775807) : fn Try.prog conv ext 41 [I z] = some (.tp (cQ (z : Rat)) 0) := by
  have k := iintegerZ z h0 h1
  have e1 : (z : Rat).num = z := rfl
  have e2 : (z : Rat).den = 1 := rfl
  unfold cQ
  rw [e1, e2, dg_one (d := 1) (by decide) (by decide)]
  unfold cZ at k
  rw [fn_eq, ev_eqQ (rs := [.tmp 2]) [] rfl Try.func41 rfl rfl (by kernel_rfl) (by kernel_rfl)]
  (simp only [go_sem, k]) <;> rfl
theorem den_div_small (x y : Int) (hy : y ≠ 0) : ((x : Rat) / (y : Rat)).num.natAbs ≤ x.natAbs ∧ ((x : Rat) / (y : Rat)).den ≤ y.natAbs := by
  have h0 : (y : Rat).num ≠ 0 := hy
  rw [div_mk _ _ h0]
  have e1 : (x : Rat).num = x := rfl
  have e2 : (x : Rat).den = 1 := rfl
  have e3 : (y : Rat).num = y := rfl
  have e4 : (y : Rat).den = 1 := rfl
  have := mk_small (sgnN (decide ((x : Rat).num < 0) != decide ((y : Rat).num < 0)) ((x : Rat).num.natAbs * (y : Rat).den)) (d := (x : Rat).den * (y : Rat).num.natAbs) (by rw [e2, e3]; omega)
  have e5 : (sgnN (decide ((x : Rat).num < 0) != decide ((y : Rat).num < 0)) ((x : Rat).num.natAbs * (y : Rat).den)).natAbs = x.natAbs := by
    rw [e1, e4, Nat.mul_one]; unfold sgnN; split <;> omega
  rw [e5, e2, e3, Nat.one_mul] at this
  rwa [e2, e3, Nat.one_mul]
theorem idivZ (x y : Int) (hx : x.natAbs < 1000000000) (hy : y.natAbs < 1000000000) (h0 : y ≠ 0) : fn Try.prog conv ext 40 [.tp (cQ (x : Rat)) 0, .tp (cQ (y : Rat)) 0] = some (.tp (cQ ((x : Rat) / (y : Rat))) 0) := by
  have k0 := iSign (y : Rat)
  have k1 := iqby x y hx rfl hy rfl h0
  have hs := den_div_small x y h0
  have k2 := ifitQ ((x : Rat) / (y : Rat)) (ln24 (by omega)) (ln24 (by omega))
  have c : (cmpZ (y : Rat).num 0 == 0) = false := by
    have e3 : (y : Rat).num = y := rfl
    rw [e3]; unfold cmpZ
    by_cases h : y < 0
    · rw [if_pos h]; rfl
    · rw [if_neg h, if_neg h0]; rfl
  unfold cQ at *
  rw [fn_eq, ev_eqQ (rs := [.tmp 4]) [] rfl Try.func40 rfl rfl (by kernel_rfl) (by kernel_rfl)]
  simp only [go_sem, k0, k1, k2, c]
theorem iRatOkQ (q : Rat) (h : q.num.natAbs < 1000000000000000000) (hd : q.den < 1000000000) : fn Try.prog conv ext 83 [.agg (cQ q)] = some (Bo true) :=
  iRatOk _ _ _ h hd q.den_nz q.reduced (fun hb => by have := of_decide_eq_true hb; omega)
theorem iloadQ (q : Rat) (h : q.num.natAbs < 1000000000000000000) (hd : q.den < 1000000000) : fn Try.prog conv ext 48 [.agg (cQ q)] = some (.tp (cQ q) 0) :=
  iload _ _ _ h hd q.den_nz q.reduced (fun hb => by have := of_decide_eq_true hb; omega)
theorem iRatAdd (x y : Rat) (hx : Sm x) (hy : Sm y) : fn Try.prog conv ext 14 [.agg (cQ x), .agg (cQ y)] = some (.agg (cQ (x + y))) := by
  have h := hx.add hy
  have k1 := iloadQ x (by have := hx.1; omega) (by have := hx.2; omega)
  have k2 := iloadQ y (by have := hy.1; omega) (by have := hy.2; omega)
  have k3 := iadd x y hx hy
  have k4 := istoreQ (x + y) (ln24 h.1) (ln24 (by have := h.2; omega))
  unfold cQ at *
  rw [fn_eq, ev_eqQ (rs := [.cell 4 31]) [] rfl Try.func14 rfl rfl (by kernel_rfl) (by kernel_rfl)]
  simp only [go_sem, k1, k2, k3, k4]
theorem iRatSign (q : Rat) (h : Sm q) : fn Try.prog conv ext 18 [.agg (cQ q)] = some (I (cmpZ q.num 0)) := by
  have k1 := iloadQ q (by have := h.1; omega) (by have := h.2; omega)
  have k2 := iSign q
  unfold cQ at *
  rw [fn_eq, ev_eqQ (rs := [.tmp 2]) [] rfl Try.func18 rfl rfl (by kernel_rfl) (by kernel_rfl)]
  simp only [go_sem, k1, k2]
theorem iRatFromIntZ (z : Int) (h : z.natAbs < 1000000000) : fn Try.prog conv ext 15 [I z] = some (.agg (cQ (z : Rat))) := by
  have k1 := iwholeZ z (by omega) (by omega)
  have e1 : (z : Rat).num = z := rfl
  have k2 := istoreQ (z : Rat) (ln24 (by rw [e1]; omega)) (ln24 (by show 1 < _; decide))
  unfold cQ at *
  rw [fn_eq, ev_eqQ (rs := [.cell 2 31]) [] rfl Try.func15 rfl rfl (by kernel_rfl) (by kernel_rfl)]
  simp only [go_sem, k1, k2]
theorem iCmpQ (x y : Rat) (hx : Sm x) (hy : Sm y) : fn Try.prog conv ext 49 [.tp (cQ x) 0, .tp (cQ y) 0] = some (I (cmpZ (x.num * y.den) (y.num * x.den))) := by
  have n1 := hx.nd hy
  have n2 := hy.nd hx
  have k1 := iscaledQ x y.den hx.n hy.d
  have k2 := iscaledQ y x.den hy.n hx.d
  have k3 := iBcompare (x.num * y.den) (y.num * x.den) (lnS (by omega)) (lnS (by omega))
  unfold cQ at *
  unfold cZ at *
  rw [fn_eq, ev_eqQ (rs := [.tmp 4]) [] rfl Try.func49 rfl rfl (by kernel_rfl) (by kernel_rfl)]
  simp only [go_sem, k1, k2, k3]
theorem iRatCmpQ (x y : Rat) (hx : Sm x) (hy : Sm y) : fn Try.prog conv ext 16 [.agg (cQ x), .agg (cQ y)] = some (I (cmpZ (x.num * y.den) (y.num * x.den))) := by
  have k1 := iloadQ x (by have := hx.1; omega) (by have := hx.2; omega)
  have k2 := iloadQ y (by have := hy.1; omega) (by have := hy.2; omega)
  have k3 := iCmpQ x y hx hy
  unfold cQ at *
  rw [fn_eq, ev_eqQ (rs := [.tmp 4]) [] rfl Try.func16 rfl rfl (by kernel_rfl) (by kernel_rfl)]
  simp only [go_sem, k1, k2, k3]
end Go.Proofs.Ytlkpocljgikpgaa
namespace Go.Proofs.Ytlkpocljgikpgaa
open Go Go.TV

/-! ### Beams -/
theorem islEqual (a b : List Int) (ha : Short a) (hb : Short b) : fn Try.prog conv ext 46 [LI a, LI b] = some (Bo (decide (a = b))) := by
  unfold Short at ha hb
  rw [fn_eq, ev_eqQ (rs := [.tmp 4]) [] rfl Try.func46 rfl rfl (by kernel_rfl) (by kernel_rfl)]
  by_cases hl : a.length = b.length
  · have c1 : ((a.length : Int) != (b.length : Int)) = false := by rw [hl]; simp
    simp only [go_sem, c1]
    generalize hL : evLoopI _ _ = y
    obtain ⟨r, rfl, hr⟩ := count_rule hL a.length (fun k st => st.nx = 0 ∧ st.σ = noStore ∧ st.T 0 = LI a ∧ st.T 1 = LI b ∧ st.T 12 = I a.length ∧ st.T 13 = I k ∧ ∀ i (h : i < a.length) (h' : i < b.length), i < k → a[i] = b[i])
      (fun r => (∃ T, r = (.exit 0, ⟨T, noStore, 0⟩) ∧ a = b) ∨ (∃ T, r = (.ret, ⟨T, noStore, 0⟩) ∧ T 4 = Bo false ∧ a ≠ b)) (by
        clear hL
        rintro k ⟨T, σ, nx⟩ hlt ⟨hn, hσ, h0, h1, h12, h13, hi⟩
        simp only at hn hσ h0 h1 h12 h13
        subst hn hσ
        have hlt2 : k < b.length := by omega
        have f1 : (k : Int) < (a.length : Int) := by omega
        have f1' : (k : Int) < (b.length : Int) := by omega
        have f2 : (0 : Int) ≤ (k : Int) := by omega
        have f3 := wrap_id (n := (k : Int) + 1) (by omega) (by omega)
        have f5 := slot_ne (c := cI) (s := 1) (fun _ => rfl) (by omega) a k hlt
        have f5' := slot_ne (c := cI) (s := 1) (fun _ => rfl) (by omega) b k hlt2
        have f6 := idx hlt
        have f6' := idx hlt2
        by_cases hx : a[k] = b[k]
        · have fx : (a[k] != b[k]) = false := by simpa using hx
          refine .inl ⟨_, by simp only [go_sem, h0, h1, h12, h13, f1, f1', f2, f3, f5, f5', f6, f6', fx]; rfl, ?_⟩
          simp only [go_sem, h0, h1, h12]
          refine ⟨rfl, fun i hi1 hi2 hik => ?_⟩
          rcases Nat.lt_or_eq_of_le (Nat.le_of_lt_succ hik) with q | q
          · exact hi i hi1 hi2 q
          · subst q; exact hx
        · have fx : (a[k] != b[k]) = true := by simpa using hx
          refine .inr ⟨_, by simp only [go_sem, h0, h1, h12, h13, f1, f1', f2, f5, f5', f6, f6', fx]; rfl, by simp, .inr ⟨_, rfl, by simp only [go_sem], fun e => ?_⟩⟩
          subst e; exact hx rfl) (by
        clear hL
        rintro ⟨T, σ, nx⟩ ⟨hn, hσ, h0, h1, h12, h13, hi⟩
        simp only at hn hσ h12 h13
        subst hn hσ
        exact ⟨_, by simp only [go_sem, h12, h13, Int.lt_irrefl]; rfl, by simp, .inl ⟨_, rfl, List.ext_getElem hl fun i h1 h2 => hi i h1 h2 h1⟩⟩) (by
        simp only [go_sem]
        exact fun i _ _ h => absurd h (Nat.not_lt_zero _))
    rcases hr with ⟨T, rfl, h⟩ | ⟨T, rfl, h4, h⟩
    · simp only [go_sem, decide_eq_true h]
    · simp only [go_sem, h4, decide_eq_false h]
  · have c1 : ((a.length : Int) != (b.length : Int)) = true := by rw [bne_iff_ne]; omega
    rw [decide_eq_false fun e => hl (by rw [e])]
    simp only [go_sem, c1]
theorem dg_inj {m n : Nat} (h : dg m = dg n) : m = n := by
  have := vl_dg m
  rw [h, vl_dg] at this
  omega
theorem iRatEqual (x y : Rat) (hx : Sm x) (hy : Sm y) : fn Try.prog conv ext 13 [.agg (cQ x), .agg (cQ y)] = some (Bo (decide (x = y))) := by
  have k1 := islEqual (dg x.num.natAbs) (dg y.num.natAbs) (short_ln hx.n) (short_ln hy.n)
  have k2 := islEqual (dg x.den) (dg y.den) (short_ln hx.d) (short_ln hy.d)
  have e : decide (x = y) = (decide (x.num < 0) == decide (y.num < 0) && (decide (dg x.num.natAbs = dg y.num.natAbs) && decide (dg x.den = dg y.den))) := by
    by_cases h : x = y
    · subst h; simp
    · rw [decide_eq_false h]
      by_cases h1 : dg x.num.natAbs = dg y.num.natAbs
      · by_cases h2 : dg x.den = dg y.den
        · have a1 := dg_inj h1
          have a2 := dg_inj h2
          by_cases h3 : x.num < 0 <;> by_cases h4 : y.num < 0
          · exact absurd (Rat.ext (by omega) a2) h
          · simp [h3, h4]
          · simp [h3, h4]
          · exact absurd (Rat.ext (by omega) a2) h
        · simp [h2]
      · simp [h1]
  rw [e]
  unfold cQ
  rw [fn_eq, ev_eqQ (rs := [.tmp 4]) [] rfl Try.func13 rfl rfl (by kernel_rfl) (by kernel_rfl)]
  generalize decide (dg x.num.natAbs = dg y.num.natAbs) = b1 at *
  generalize decide (dg x.den = dg y.den) = b2 at *
  cases h : (decide (x.num < 0) == decide (y.num < 0)) <;> cases b1 <;> cases b2 <;> simp only [go_sem, k1, k2, h] <;> rfl
def beamB (b : Beam) : Bool := inB b.left (-1000) 1000 && inB b.right (-1000) 1000 && inB b.low (-1000) 1000 && inB b.high (-1000) 1000 && decide (b.left < b.right) && decide (b.low ≤ b.high) && inB b.weight 0 1000
theorem iBeamOk (b : Beam) : fn Try.prog conv ext 12 [.agg (cBeam b)] = some (Bo (beamB b)) := by
  have k1 := isSpot b.left
  have k2 := isSpot b.right
  have k3 := isSpot b.low
  have k4 := isSpot b.high
  have k5 := isLimit b.weight
  unfold beamB
  rw [fn_eq, ev_eqQ (rs := [.tmp 2]) [] rfl Try.func12 rfl rfl (by kernel_rfl) (by kernel_rfl)]
  generalize inB b.left (-1000) 1000 = b1 at *
  generalize inB b.right (-1000) 1000 = b2 at *
  generalize inB b.low (-1000) 1000 = b3 at *
  generalize inB b.high (-1000) 1000 = b4 at *
  cases b1
  · simp only [go_sem, k1]
  cases b2
  · simp only [go_sem, k1, k2]
  cases b3
  · simp only [go_sem, k1, k2, k3]
  cases b4
  · simp only [go_sem, k1, k2, k3, k4]
  by_cases h1 : b.left < b.right
  · by_cases h2 : b.low ≤ b.high
    · simp only [go_sem, k1, k2, k3, k4, k5, h1, h2]
    · simp only [go_sem, k1, k2, k3, k4, h1, h2]
  · simp only [go_sem, k1, k2, k3, k4, h1]
structure BeamGood (b : Beam) : Prop where
  l : -1000 ≤ b.left ∧ b.left ≤ 1000
  r : -1000 ≤ b.right ∧ b.right ≤ 1000
  lo : -1000 ≤ b.low ∧ b.low ≤ 1000
  hi : -1000 ≤ b.high ∧ b.high ≤ 1000
  lr : b.left < b.right
  lh : b.low ≤ b.high
  w : 0 ≤ b.weight ∧ b.weight ≤ 1000
theorem beamGood {b : Beam} (h : beamB b = true) : BeamGood b := by
  unfold beamB at h
  simp only [Bool.and_eq_true, decide_eq_true_eq] at h
  exact ⟨inB_true h.1.1.1.1.1.1, inB_true h.1.1.1.1.1.2, inB_true h.1.1.1.1.2, inB_true h.1.1.1.2, h.1.1.2, h.1.2, inB_true h.2⟩
/-- The share of the right hook. -/
def rightQ (b : Beam) (p : Int) : Rat := ((b.weight * (p - b.left) : Int) : Rat) / ((b.right - b.left : Int) : Rat)
theorem right_small {b : Beam} (h : BeamGood b) {p : Int} (hp : -1000 ≤ p ∧ p ≤ 1000) : (b.weight * (p - b.left)).natAbs ≤ 2000000 ∧ Sm (rightQ b p) ∧ (rightQ b p).num.natAbs ≤ 2000000 ∧ (rightQ b p).den ≤ 2000 := by
  obtain ⟨⟨l0, l1⟩, ⟨r0, r1⟩, _, _, hlr, _, w0, w1⟩ := h
  have h1 : (b.weight * (p - b.left)).natAbs ≤ 1000 * 2000 := by
    rw [Int.natAbs_mul]
    exact Nat.mul_le_mul (by omega) (by omega)
  have h2 := den_div_small (b.weight * (p - b.left)) (b.right - b.left) (by omega)
  unfold rightQ Sm
  omega
theorem left_small {b : Beam} (h : BeamGood b) {p : Int} (hp : -1000 ≤ p ∧ p ≤ 1000) : Sm ((b.weight : Rat) - rightQ b p) := by
  have hs := right_small h hp
  have e := Rat.sub_def' (b.weight : Rat) (rightQ b p)
  have e1 : (b.weight : Rat).num = b.weight := rfl
  have e2 : (b.weight : Rat).den = 1 := rfl
  rw [e1, e2, Nat.one_mul] at e
  have h3 := mk_small (b.weight * (rightQ b p).den - (rightQ b p).num * (1 : Nat)) (rightQ b p).den_nz
  rw [← e] at h3
  have h4 : (b.weight * ((rightQ b p).den : Int)).natAbs ≤ 1000 * 2000 := by
    rw [Int.natAbs_mul, Int.natAbs_natCast]
    exact Nat.mul_le_mul (by have := h.w; omega) hs.2.2.2
  unfold Sm
  omega
theorem iShareAt (b : Beam) (p : Int) : fn Try.prog conv ext 10 [.agg (cBeam b), I p] = some (if (beamB b && decide (b.low ≤ p) && decide (p ≤ b.high)) = true then .tup [.agg (cQ ((b.weight : Rat) - rightQ b p)), .agg (cQ (rightQ b p)), Bo true] else .tup [.agg zQ, .agg zQ, Bo false]) := by
  have k1 := iBeamOk b
  unfold zQ
  rw [fn_eq, ev_eqQ (rs := [.cell 4 31, .cell 5 31, .tmp 6]) [] rfl Try.func10 rfl rfl (by kernel_rfl) (by kernel_rfl)]
  cases hb : beamB b with
  | false =>
    rw [hb] at k1
    (simp only [go_sem, k1]) <;> rfl
  | true =>
  rw [hb] at k1
  have hg := beamGood hb
  by_cases h1 : p < b.low
  · rw [if_neg (by simp; omega)]
    (simp only [go_sem, k1, h1]) <;> rfl
  by_cases h2 : b.high < p
  · rw [if_neg (by simp; omega)]
    (simp only [go_sem, k1, h1, h2]) <;> rfl
  rw [if_pos (by simp; omega)]
  have hp : -1000 ≤ p ∧ p ≤ 1000 := by have := hg.lo; have := hg.hi; omega
  have hs := right_small hg hp
  have hl := left_small hg hp
  obtain ⟨⟨l0, l1⟩, ⟨r0, r1⟩, _, _, hlr, _, w0, w1⟩ := hg
  have a1 := wrap_id (n := p - b.left) (by omega) (by omega)
  have a2 := wrap_id (n := b.weight * (p - b.left)) (by omega) (by omega)
  have a3 := wrap_id (n := b.right - b.left) (by omega) (by omega)
  have m1 := iwholeZ (b.weight * (p - b.left)) (by omega) (by omega)
  have m2 := iwholeZ (b.right - b.left) (by omega) (by omega)
  have m3 := idivZ (b.weight * (p - b.left)) (b.right - b.left) (by omega) (by omega) (by omega)
  have m4 := iwholeZ b.weight (by omega) (by omega)
  have e1 : (b.weight : Rat).num = b.weight := rfl
  have sw : Sm (b.weight : Rat) := ⟨by rw [e1]; omega, by show 1 < _; decide⟩
  have m5 := isub (b.weight : Rat) (rightQ b p) sw hs.2.1
  have m6 := istoreQ ((b.weight : Rat) - rightQ b p) (ln24 (by have := hl.1; omega)) (ln24 (by have := hl.2; omega))
  have m7 := istoreQ (rightQ b p) (ln24 (by have := hs.2.1.1; omega)) (ln24 (by have := hs.2.1.2; omega))
  have m3' : fn Try.prog conv ext 40 [.tp (cQ ((b.weight * (p - b.left) : Int) : Rat)) 0, .tp (cQ ((b.right - b.left : Int) : Rat)) 0] = some (.tp (cQ (rightQ b p)) 0) := m3
  generalize ((b.weight : Rat) - rightQ b p) = L at *
  generalize rightQ b p = R at *
  unfold cQ at *
  simp only [go_sem, k1, h1, h2, a1, a2, a3, m1, m2, m3', m4, m5, m6, m7]
end Go.Proofs.Ytlkpocljgikpgaa
namespace Go.Proofs.Ytlkpocljgikpgaa
open Go Go.TV

theorem iWorstShares (b : Beam) : fn Try.prog conv ext 11 [.agg (cBeam b)] = some (if beamB b = true then .tup [.agg (cQ ((b.weight : Rat) - rightQ b b.low)), .agg (cQ (rightQ b b.high)), Bo true] else .tup [.agg zQ, .agg zQ, Bo false]) := by
  have k1 := iShareAt b b.low
  have k2 := iShareAt b b.high
  unfold zQ at *
  rw [fn_eq, ev_eqQ (rs := [.cell 2 31, .cell 3 31, .tmp 4]) [5] rfl Try.func11 rfl rfl (by kernel_rfl) (by kernel_rfl)]
  cases hb : beamB b with
  | false =>
    rw [hb, if_neg (by simp)] at k1 k2
    (simp only [go_sem, k1, k2]) <;> rfl
  | true =>
    have hg := (beamGood hb).lh
    rw [hb, if_pos (by simp; exact hg)] at k1 k2
    generalize ((b.weight : Rat) - rightQ b b.low) = L1 at *
    generalize ((b.weight : Rat) - rightQ b b.high) = L2 at *
    generalize rightQ b b.low = R1 at *
    generalize rightQ b b.high = R2 at *
    unfold cQ at *
    simp only [go_sem, k1, k2]
theorem iIsSteady (b : Beam) : fn Try.prog conv ext 17 [.agg (cBeam b)] = some (Bo (beamB b && (decide (b.weight = 0) || decide (b.left ≤ b.low) && decide (b.high ≤ b.right)))) := by
  have k1 := iBeamOk b
  rw [fn_eq, ev_eqQ (rs := [.tmp 2]) [] rfl Try.func17 rfl rfl (by kernel_rfl) (by kernel_rfl)]
  cases hb : beamB b with
  | false => rw [hb] at k1; simp only [go_sem, k1]
  | true =>
    rw [hb] at k1
    by_cases h0 : b.weight = 0
    · have c : (b.weight == 0) = true := by simpa using h0
      rw [decide_eq_true h0]
      simp only [go_sem, k1, c]
    · have c : (b.weight == 0) = false := by simpa using h0
      rw [decide_eq_false h0]
      by_cases h1 : b.left ≤ b.low
      · by_cases h2 : b.high ≤ b.right <;> simp only [go_sem, k1, c, h1, h2]
      · simp only [go_sem, k1, c, h1]
theorem sBelow (xs : List Int) (hx : ∀ x ∈ xs, 0 ≤ x ∧ x ≤ 255) (hl : xs.length ≤ 1048576) (i h : Int) (hi : 0 ≤ i ∧ i ≤ xs.length) (n : Int) (h1 : 1 ≤ n) (h2 : n ≤ 256) :
    ∃ r i' h', (∀ (b st nx : Nat) (σ : Store), σ b = some (Cur xs i h st) → b < nx → ev Try.prog conv ext 75 [.rp b 0, I n] σ nx = some (I r, upd σ b (some (Cur xs i' h' st)), nx)) ∧ (0 ≤ r ∧ r < n) ∧ 0 ≤ i' ∧ i' ≤ xs.length := by
  obtain ⟨r, i', h', k, hr, hi'⟩ := sByteA xs hx hl i h hi
  have c1 : ¬n ≤ 0 := by omega
  have c2 : ¬n = 0 := by omega
  refine ⟨r.tmod n, i', h', fun b st nx σ hσ hb => ?_, ?_, hi'⟩
  · have k' := k b st nx σ hσ hb
    rw [ev_eqQ (rs := [.tmp 4]) [] rfl Try.func75 rfl rfl (by kernel_rfl) (by kernel_rfl)]
    simp only [go_sem, call_inl, k', c1, c2, h2]
  · rw [Int.tmod_eq_emod_of_nonneg hr.1]
    exact ⟨Int.emod_nonneg _ (by omega), Int.emod_lt_of_pos _ (by omega)⟩
theorem sl25Beam (xs : List Int) (hx : ∀ x ∈ xs, 0 ≤ x ∧ x ≤ 255) (hl : xs.length ≤ 1048576) (i h : Int) (hi : 0 ≤ i ∧ i ≤ xs.length) (c nx : Nat) (σ : Store) (hσ : σ c = some (Cur xs i h 0)) (hc : c < nx) :
    ∃ b σ', ev Try.prog conv ext 36 [.rp c 0] σ nx = some (.agg (cBeam b), σ', nx + 1 + 1) ∧ (-9 ≤ b.left ∧ b.left < 0) ∧ (0 ≤ b.weight ∧ b.weight < 50) ∧ (b.left + 1 ≤ b.right ∧ b.right ≤ b.left + 12) ∧ (b.left - 1 ≤ b.low ∧ b.low ≤ b.left + 3) ∧ (b.low ≤ b.high ∧ b.high ≤ b.low + 5) ∧ ∀ q, q < c → σ' q = σ q := by
  obtain ⟨r1, i1, g1, k1, b1, j1⟩ := sBelow xs hx hl i h hi 9 (by decide) (by decide)
  obtain ⟨r2, i2, g2, k2, b2, j2⟩ := sBelow xs hx hl i1 g1 j1 50 (by decide) (by decide)
  obtain ⟨r3, i3, g3, k3, b3, j3⟩ := sBelow xs hx hl i2 g2 j2 12 (by decide) (by decide)
  obtain ⟨r4, i4, g4, k4, b4, j4⟩ := sBelow xs hx hl i3 g3 j3 5 (by decide) (by decide)
  obtain ⟨r5, i5, g5, k5, b5, j5⟩ := sBelow xs hx hl i4 g4 j4 6 (by decide) (by decide)
  have q1 := fun (b nx : Nat) (σ : Store) => k1 b 0 nx σ
  have q2 := fun (b nx : Nat) (σ : Store) => k2 b 0 nx σ
  have q3 := fun (b nx : Nat) (σ : Store) => k3 b 0 nx σ
  have q4 := fun (b nx : Nat) (σ : Store) => k4 b 0 nx σ
  have q5 := fun (b nx : Nat) (σ : Store) => k5 b 0 nx σ
  have n1 : ¬c = nx := by omega
  have n2 : ¬c = nx + 1 := by omega
  have n3 : ¬nx = c := by omega
  have n4 : ¬nx + 1 = c := by omega
  have n5 : c < nx + 1 := by omega
  have n6 : c < nx + 1 + 1 := by omega
  have n7 : ¬nx + 1 = nx := by omega
  have n8 : ¬nx = nx + 1 := by omega
  have n9 : nx + 1 < nx + 1 + 1 := by omega
  have n10 : (nx + 1 == c) = false := by simpa using n4
  have n11 : (c == nx + 1) = false := by simpa using n2
  have w1 := wrap_id (n := r1 - 9) (by omega) (by omega)
  have w2 := wrap_id (n := r1 - 9 + 1) (by omega) (by omega)
  have w3 := wrap_id (n := r1 - 9 + 1 + r3) (by omega) (by omega)
  have w4 := wrap_id (n := r1 - 9 + r4) (by omega) (by omega)
  have w5 := wrap_id (n := r1 - 9 + r4 - 1) (by omega) (by omega)
  have w6 := wrap_id (n := r1 - 9 + r4 - 1 + r5) (by omega) (by omega)
  refine ⟨⟨r1 - 9, r1 - 9 + 1 + r3, r1 - 9 + r4 - 1, r1 - 9 + r4 - 1 + r5, r2⟩, ?_⟩
  rw [ev_eqQ (rs := [.cell 2 24]) [2,3,4] rfl Try.func36 rfl rfl (by kernel_rfl) (by kernel_rfl)]
  simp only [go_sem, call_inl, q1, q2, hσ, n1, n2, n3, n4, n5, n6, n7, n8, n9, n10, n11, w1, w2, w3, w4, w5, w6, q3, q4, q5]
  refine ⟨_, rfl, ⟨by omega, by omega⟩, ⟨by omega, by omega⟩, ⟨by omega, by omega⟩, ⟨by omega, by omega⟩, ⟨by omega, by omega⟩, fun q hq => ?_⟩
  have a1 : ¬q = nx := by omega
  have a2 : ¬q = nx + 1 := by omega
  have a3 : ¬q = c := by omega
  simp only [upd, a1, a2, a3, if_false]
theorem sMakeBeam (xs : List Int) (hx : ∀ x ∈ xs, 0 ≤ x ∧ x ≤ 255) (hl : xs.length ≤ 1048576) :
    ∃ b, fn Try.prog conv ext 8 [LL cB xs] = some (.agg (cBeam b)) ∧ (-9 ≤ b.left ∧ b.left < 0) ∧ (0 ≤ b.weight ∧ b.weight < 50) ∧ (b.left + 1 ≤ b.right ∧ b.right ≤ b.left + 12) ∧ (b.left - 1 ≤ b.low ∧ b.low ≤ b.left + 3) ∧ (b.low ≤ b.high ∧ b.high ≤ b.low + 5) := by
  obtain ⟨h0, k0⟩ := sNew xs hx hl 1 (upd noStore 0 (some ⟨[I 0, I 0, I 0, I 0, I 0], 0, true⟩))
  obtain ⟨b, σ', k1, e1, e2, e3, e4, e5, e6⟩ := sl25Beam xs hx hl 0 h0 ⟨by omega, by omega⟩ 1 2 (upd (upd noStore 0 (some ⟨[I 0, I 0, I 0, I 0, I 0], 0, true⟩)) 1 (some (Cur xs 0 h0 0))) (by simp [upd]) (by omega)
  refine ⟨b, ?_, e1, e2, e3, e4, e5⟩
  have hs := e6 0 (by omega)
  have hs' : σ' 0 = some ⟨[I 0, I 0, I 0, I 0, I 0], 0, true⟩ := by rw [hs]; simp [upd]
  rw [fn_eq, ev_eqQ (rs := [.cell 2 24]) [] rfl Try.func8 rfl rfl (by kernel_rfl) (by kernel_rfl)]
  simp only [go_sem, call_inl, k0, k1, hs']
end Go.Proofs.Ytlkpocljgikpgaa
namespace Go.TV

/-! ### Memory of one's own: a value whose blocks are all its own, writable, each reached once -/
def ownL (f : V → Option (V × List Nat)) : List V → Option (List V × List Nat)
  | [] => some ([], [])
  | v :: vs => match f v, ownL f vs with
    | some (t, i), some (ts, j) => some (t :: ts, i ++ j)
    | _, _ => none
def own (σ : Store) : Nat → V → Option (V × List Nat)
  | 0, v => match v with
    | .sc u => some (.sc u, [])
    | .nil => some (.ts [] 0, [])
    | _ => none
  | d + 1, v => match v with
    | .sc u => some (.sc u, [])
    | .nil => some (.ts [] 0, [])
    | .agg vs => match ownL (own σ d) vs with
      | some (ts, ids) => some (.agg ts, ids)
      | none => none
    | .rs b off len => match σ b with
      | some B => if off = 0 ∧ B.wr = true ∧ len * B.st = B.cells.length then
          match ownL (own σ d) B.cells with
          | some (ts, ids) => some (.ts ts len, b :: ids)
          | none => none
        else none
      | none => none
    | _ => none
/-- An own value that reads as the tree t, by the blocks ids. -/
def Own (σ : Store) (d : Nat) (v t : V) (ids : List Nat) : Prop := own σ d v = some (t, ids) ∧ ids.Nodup

theorem ownL_congr {f g : V → Option (V × List Nat)} : ∀ {vs ts : List V} {ids : List Nat}, (∀ v t i, f v = some (t, i) → (∀ b ∈ i, b ∈ ids) → g v = some (t, i)) → ownL f vs = some (ts, ids) → ownL g vs = some (ts, ids)
  | [], ts, ids, _, h => h
  | v :: vs, ts, ids, hfg, h => by
    unfold ownL at h ⊢
    split at h
    · rename_i t i ts' j e1 e2
      simp only [Option.some.injEq, Prod.mk.injEq] at h
      obtain ⟨rfl, rfl⟩ := h
      rw [hfg v t i e1 (fun b hb => List.mem_append_left _ hb), ownL_congr (fun v t i h hi => hfg v t i h (fun b hb => List.mem_append_right _ (hi b hb))) e2]
    · cases h
theorem own_frame {σ σ' : Store} : ∀ (d : Nat) (v t : V) (ids : List Nat), own σ d v = some (t, ids) → (∀ b ∈ ids, σ' b = σ b) → own σ' d v = some (t, ids)
  | 0, v, t, ids, h, _ => by cases v <;> simp [own] at h ⊢ <;> exact h
  | d + 1, v, t, ids, h, hb => by
    cases v <;> simp only [own] at h ⊢ <;> try exact h
    · split at h
      · rename_i ts i e
        simp only [Option.some.injEq, Prod.mk.injEq] at h
        obtain ⟨rfl, rfl⟩ := h
        rw [ownL_congr (fun v t i h hi => own_frame d v t i h fun b hb' => hb b (hi b hb')) e]
      · cases h
    · rename_i b off len
      split at h
      · rename_i B hB
        split at h
        · rename_i hc
          split at h
          · rename_i ts i e
            simp only [Option.some.injEq, Prod.mk.injEq] at h
            obtain ⟨rfl, rfl⟩ := h
            rw [hb b List.mem_cons_self, hB]
            simp only
            rw [if_pos hc, ownL_congr (fun v t i h hi => own_frame d v t i h fun b hb' => hb b (List.mem_cons_of_mem _ (hi b hb'))) e]
          · cases h
        · cases h
      · cases h
theorem ownL_strip {σ : Store} {f g : V → Option (V × List Nat)} (hfg : ∀ v t i, f v = some (t, i) → g v = some (t, i)) : ∀ {vs ts : List V} {ids : List Nat}, ownL f vs = some (ts, ids) → stripL g vs = some (ts, ids)
  | [], ts, ids, h => h
  | v :: vs, ts, ids, h => by
    unfold ownL at h
    unfold stripL
    split at h
    · rename_i t i ts' j e1 e2
      simp only [Option.some.injEq, Prod.mk.injEq] at h
      obtain ⟨rfl, rfl⟩ := h
      rw [hfg v t i e1, ownL_strip (σ := σ) hfg e2]
    · cases h
theorem own_strip {σ : Store} : ∀ (d : Nat) (v t : V) (ids : List Nat), own σ d v = some (t, ids) → ∀ d', d ≤ d' → strip σ d' v = some (t, ids)
  | 0, v, t, ids, h, d', _ => by
    cases v <;> simp [own] at h
    · rename_i u; obtain ⟨rfl, rfl⟩ := h; exact strip_sc _ _ _
    · obtain ⟨rfl, rfl⟩ := h; exact strip_nil _ _
  | d + 1, v, t, ids, h, d', hd => by
    obtain ⟨e, rfl⟩ : ∃ e, d' = e + 1 := ⟨d' - 1, by omega⟩
    cases v <;> simp only [own] at h
    · simp only [Option.some.injEq, Prod.mk.injEq] at h; obtain ⟨rfl, rfl⟩ := h; exact strip_sc _ _ _
    · simp only [Option.some.injEq, Prod.mk.injEq] at h; obtain ⟨rfl, rfl⟩ := h; exact strip_nil _ _
    · cases h
    · split at h
      · rename_i ts i e1
        simp only [Option.some.injEq, Prod.mk.injEq] at h
        obtain ⟨rfl, rfl⟩ := h
        rw [strip_agg, ownL_strip (σ := σ) (fun v t i h => own_strip d v t i h e (by omega)) e1]; rfl
      · cases h
    · cases h
    · cases h
    · cases h
    · cases h
    · cases h
    · rename_i b off len
      split at h
      · rename_i B hB
        split at h
        · rename_i hc
          split at h
          · rename_i ts i e1
            simp only [Option.some.injEq, Prod.mk.injEq] at h
            obtain ⟨rfl, rfl⟩ := h
            obtain ⟨rfl, _, hl⟩ := hc
            rw [strip_rs, hB]
            simp only [Option.bind_some]
            rw [if_pos (by omega), List.drop_zero, List.take_of_length_le (by omega), ownL_strip (σ := σ) (fun v t i h => own_strip d v t i h e (by omega)) e1]; rfl
          · cases h
        · cases h
      · cases h
theorem ownL_gather {f : V → Option (V × List Nat)} {g : V → Option (List Nat)} (hfg : ∀ v t i, f v = some (t, i) → g v = some i) : ∀ {vs ts : List V} {ids : List Nat}, ownL f vs = some (ts, ids) → gatherL g vs = some ids
  | [], ts, ids, h => by simp only [ownL, Option.some.injEq, Prod.mk.injEq] at h; rw [← h.2]; rfl
  | v :: vs, ts, ids, h => by
    unfold ownL at h
    unfold gatherL
    split at h
    · rename_i t i ts' j e1 e2
      simp only [Option.some.injEq, Prod.mk.injEq] at h
      obtain ⟨rfl, rfl⟩ := h
      rw [hfg v t i e1, ownL_gather hfg e2]
    · cases h
theorem own_gather {σ : Store} : ∀ (d : Nat) (v t : V) (ids : List Nat), own σ d v = some (t, ids) → ∀ d', d ≤ d' → gather σ d' v = some ids
  | 0, v, t, ids, h, d', _ => by
    cases v <;> simp [own] at h
    · obtain ⟨rfl, rfl⟩ := h; cases d' <;> rfl
    · obtain ⟨rfl, rfl⟩ := h; cases d' <;> rfl
  | d + 1, v, t, ids, h, d', hd => by
    obtain ⟨e, rfl⟩ : ∃ e, d' = e + 1 := ⟨d' - 1, by omega⟩
    cases v <;> simp only [own] at h
    · simp only [Option.some.injEq, Prod.mk.injEq] at h; rw [← h.2]; rfl
    · simp only [Option.some.injEq, Prod.mk.injEq] at h; rw [← h.2]; rfl
    · cases h
    · split at h
      · rename_i ts i e1
        simp only [Option.some.injEq, Prod.mk.injEq] at h
        obtain ⟨rfl, rfl⟩ := h
        unfold gather
        exact ownL_gather (fun v t i h => own_gather d v t i h e (by omega)) e1
      · cases h
    · cases h
    · cases h
    · cases h
    · cases h
    · cases h
    · rename_i b off len
      split at h
      · rename_i B hB
        split at h
        · rename_i hc
          split at h
          · rename_i ts i e1
            simp only [Option.some.injEq, Prod.mk.injEq] at h
            obtain ⟨rfl, rfl⟩ := h
            unfold gather
            simp only [hB]
            rw [ownL_gather (fun v t i h => own_gather d v t i h e (by omega)) e1]
          · cases h
        · cases h
      · cases h
theorem own_mem {σ : Store} : ∀ (d : Nat) (v t : V) (ids : List Nat), own σ d v = some (t, ids) → ∀ b ∈ ids, ∃ B, σ b = some B := by
  have L : ∀ (f : V → Option (V × List Nat)) (p : Nat → Prop), (∀ v t i, f v = some (t, i) → ∀ b ∈ i, p b) → ∀ (vs ts : List V) (ids : List Nat), ownL f vs = some (ts, ids) → ∀ b ∈ ids, p b := by
    intro f p hf vs
    induction vs with
    | nil => intro ts ids h b hb; simp only [ownL, Option.some.injEq, Prod.mk.injEq] at h; rw [← h.2] at hb; cases hb
    | cons v vs ih =>
      intro ts ids h b hb
      unfold ownL at h
      split at h
      · rename_i t i ts' j e1 e2
        simp only [Option.some.injEq, Prod.mk.injEq] at h
        obtain ⟨rfl, rfl⟩ := h
        rcases List.mem_append.mp hb with hb | hb
        · exact hf v t i e1 b hb
        · exact ih _ _ e2 b hb
      · cases h
  intro d
  induction d with
  | zero =>
    intro v t ids h b hb
    cases v <;> simp [own] at h
    · rw [h.2] at hb; cases hb
    · rw [h.2] at hb; cases hb
  | succ d ih =>
    intro v t ids h b hb
    cases v <;> simp only [own] at h
    · simp only [Option.some.injEq, Prod.mk.injEq] at h; rw [← h.2] at hb; cases hb
    · simp only [Option.some.injEq, Prod.mk.injEq] at h; rw [← h.2] at hb; cases hb
    · cases h
    · split at h
      · rename_i ts i e1
        simp only [Option.some.injEq, Prod.mk.injEq] at h
        obtain ⟨rfl, rfl⟩ := h
        exact L _ _ (fun v t i h => ih v t i h) _ _ _ e1 b hb
      · cases h
    · cases h
    · cases h
    · cases h
    · cases h
    · cases h
    · rename_i b' off len
      split at h
      · rename_i B hB
        split at h
        · split at h
          · rename_i ts i e1
            simp only [Option.some.injEq, Prod.mk.injEq] at h
            obtain ⟨rfl, rfl⟩ := h
            rcases List.mem_cons.mp hb with rfl | hb
            · exact ⟨B, hB⟩
            · exact L _ _ (fun v t i h => ih v t i h) _ _ _ e1 b hb
          · cases h
        · cases h
      · cases h
theorem Own.frame {σ σ' : Store} {d : Nat} {v t : V} {ids : List Nat} (h : Own σ d v t ids) (hb : ∀ b ∈ ids, σ' b = σ b) : Own σ' d v t ids := ⟨own_frame d v t ids h.1 hb, h.2⟩
theorem Own.upd {σ : Store} {d : Nat} {v t : V} {ids : List Nat} {c : Nat} {x : Option Blk} (hc : ¬c ∈ ids) : Own (upd σ c x) d v t ids = Own σ d v t ids := by
  refine propext ⟨fun h => h.frame fun b hb => ?_, fun h => h.frame fun b hb => ?_⟩
  · exact (upd_ne _ _ (fun e => hc (by rw [← e]; exact hb))).symm
  · exact upd_ne _ _ (fun e => hc (by rw [← e]; exact hb))
theorem join_in {n : Nat} {σ σ1 : Store} {ids : List Nat} {b : Nat} (hn : ¬b < n) (hb : b ∈ ids) : joinS n σ σ1 ids b = σ1 b := by
  unfold joinS; rw [if_neg hn, if_pos hb]
theorem join_lt {n : Nat} {σ σ1 : Store} {ids : List Nat} {b : Nat} (hn : b < n) : joinS n σ σ1 ids b = σ b := by
  unfold joinS; rw [if_pos hn]
theorem Own.join {n : Nat} {σ σ1 : Store} {d : Nat} {v t : V} {ids : List Nat} (h : Own σ1 d v t ids) (hn : ∀ b ∈ ids, n ≤ b) : Own (joinS n σ σ1 ids) d v t ids :=
  h.frame fun b hb => join_in (by have := hn b hb; omega) hb
theorem Own.joinLow {n : Nat} {σ σ1 : Store} {ids' : List Nat} {d : Nat} {v t : V} {ids : List Nat} (h : Own σ d v t ids) (hn : ∀ b ∈ ids, b < n) : Own (joinS n σ σ1 ids') d v t ids :=
  h.frame fun b hb => join_lt (hn b hb)
theorem Own.strip {σ : Store} {d : Nat} {v t : V} {ids : List Nat} (h : Own σ d v t ids) {d' : Nat} (hd : d ≤ d') : TV.strip σ d' v = some (t, ids) := own_strip d v t ids h.1 d' hd
theorem Own.gather {σ : Store} {d : Nat} {v t : V} {ids : List Nat} (h : Own σ d v t ids) {d' : Nat} (hd : d ≤ d') : TV.gather σ d' v = some ids := own_gather d v t ids h.1 d' hd
/-- Own ints: the two ways they lie. -/
theorem ownL_ints {σ : Store} {d : Nat} : ∀ {cells : List V} {xs : List Int} {ids : List Nat}, ownL (own σ d) cells = some (xs.flatMap cI, ids) → cells = xs.flatMap cI ∧ ids = []
  | [], xs, ids, h => by
    simp only [ownL, Option.some.injEq, Prod.mk.injEq] at h
    exact ⟨h.1, h.2.symm⟩
  | v :: vs, xs, ids, h => by
    unfold ownL at h
    split at h
    · rename_i t i ts' j e1 e2
      simp only [Option.some.injEq, Prod.mk.injEq] at h
      obtain ⟨h1, rfl⟩ := h
      cases xs with
      | nil => cases h1
      | cons x xs =>
        have h1' : t :: ts' = I x :: xs.flatMap cI := h1
        obtain ⟨rfl, rfl⟩ := List.cons.inj h1'
        obtain ⟨rfl, rfl⟩ := ownL_ints e2
        have : v = I x ∧ i = [] := by
          cases d with
          | zero => cases v <;> simp [own] at e1; exact ⟨by rw [e1.1], e1.2⟩
          | succ d =>
            cases v <;> simp only [own] at e1
            · simp only [Option.some.injEq, Prod.mk.injEq] at e1; exact ⟨by rw [e1.1], e1.2.symm⟩
            · simp at e1
            · cases e1
            · split at e1 <;> simp at e1
            · cases e1
            · cases e1
            · cases e1
            · cases e1
            · cases e1
            · split at e1
              · split at e1
                · split at e1 <;> simp at e1
                · cases e1
              · cases e1
        exact ⟨by rw [this.1]; rfl, by rw [this.2]; rfl⟩
    · cases h
theorem own_ints {σ : Store} {d : Nat} {v : V} {xs : List Int} {ids : List Nat} (h : Own σ (d + 1) v (LI xs) ids) : (v = .nil ∧ xs = [] ∧ ids = []) ∨ ∃ b st, v = .rs b 0 xs.length ∧ ids = [b] ∧ σ b = some ⟨xs.flatMap cI, st, true⟩ ∧ xs.length * st = xs.length := by
  obtain ⟨h, _⟩ := h
  cases v <;> simp only [own] at h
  · simp at h
  · simp only [Option.some.injEq, Prod.mk.injEq] at h
    refine .inl ⟨rfl, ?_, h.2.symm⟩
    have h1 := h.1
    simp only [LI, V.ts.injEq] at h1
    exact List.eq_nil_of_length_eq_zero h1.2.symm
  · cases h
  · split at h <;> simp at h
  · cases h
  · cases h
  · cases h
  · cases h
  · cases h
  · rename_i b off len
    split at h
    · rename_i B hB
      split at h
      · rename_i hc
        obtain ⟨rfl, hw, hl⟩ := hc
        split at h
        · rename_i ts i e1
          simp only [Option.some.injEq, Prod.mk.injEq, LI, V.ts.injEq] at h
          obtain ⟨⟨rfl, rfl⟩, rfl⟩ := h
          obtain ⟨h1, rfl⟩ := ownL_ints e1
          obtain ⟨cells, st, wr⟩ := B
          simp only at hw hl h1
          subst hw h1
          exact .inr ⟨b, st, rfl, rfl, hB, by rw [hl, cI_len]⟩
        · cases h
      · cases h
    · cases h
theorem ownL_cI (σ : Store) (d : Nat) (xs : List Int) : ownL (own σ d) (xs.flatMap cI) = some (xs.flatMap cI, []) := by
  induction xs with
  | nil => rfl
  | cons x xs ih =>
    show ownL (own σ d) (I x :: xs.flatMap cI) = _
    unfold ownL
    rw [ih]
    cases d <;> rfl
theorem own_of_rs {σ : Store} {d b st : Nat} {xs : List Int} (h : σ b = some ⟨xs.flatMap cI, st, true⟩) (hl : xs.length * st = xs.length) : Own σ (d + 1) (.rs b 0 xs.length) (LI xs) [b] := by
  refine ⟨?_, by simp⟩
  simp only [own, h]
  rw [if_pos ⟨trivial, trivial, by rw [cI_len]; exact hl⟩, ownL_cI]
theorem own_of_nil (σ : Store) (d : Nat) : Own σ d .nil (LI []) [] := ⟨by cases d <;> rfl, by simp⟩
/-- What marking writes. -/
def marks (k : Int) : Nat → List Int
  | 0 => []
  | n + 1 => k :: marks (k + 1) n
theorem marks_len (k : Int) (n : Nat) : (marks k n).length = n := by
  induction n generalizing k with
  | zero => rfl
  | succ n ih => simp [marks, ih]
theorem marks_get (k : Int) (n i : Nat) (h : i < (marks k n).length) : (marks k n)[i] = k + i := by
  induction n generalizing k i with
  | zero => simp [marks] at h
  | succ n ih =>
    cases i with
    | zero => simp [marks]
    | succ i =>
      have := ih (k + 1) i (by simpa [marks] using h)
      simp only [marks, List.getElem_cons_succ, this]
      omega

/-! ### Calls that hand memory over -/
def drawJ (nx nx1 : Nat) (σ σ1 : Store) (ids : List Nat) : Store := patchS [] nx nx1 σ (joinS nx (restrict σ []) σ1 ids)
theorem opD_own {P : Program} {conv : FuncId → Conv} {call : Call} {d : Option Tmp} {ty : TypeId} {ps : String} {af : Array Edge} {gd : Option (Nat × Bool)} {T : Nat → V} {σ : Store} {nx : Nat} {g : FuncId} (h : conv g = .own) (args : Array Operand) (ts : Array TypeId) :
    evOpD P conv call ⟨d, .call ⟨.value (.func g), args, ts⟩, ty, ps, af, gd⟩ T σ nx = (stripL (strip σ depth) (args.toList.map (val T))).bind fun p => if (p.2.all fun b => decide (b < nx)) = true then (call g p.1 noStore nx).bind fun q => (gather q.2.1 depth q.1).map fun ids => (q.1, drawJ nx q.2.2 σ q.2.1 ids, q.2.2) else none := by
  unfold evOpD
  rw [foot_deep d ty ps af gd T σ (by rw [h]; exact fun e => by cases e)]
  cases hst : stripL (strip σ depth) (args.toList.map (val T)) with
  | none => rfl
  | some p =>
    obtain ⟨us, F⟩ := p
    simp only [Option.map_some, Option.bind_some]
    by_cases hall : (F.all fun b => decide (b < nx)) = true
    · rw [if_pos hall, if_pos hall]
      have e := op_call (P := P) (conv := conv) (call := call) d ty ps af gd T (restrict σ F) nx (.func g) args ts
      rw [e]
      have hst' : stripL (strip (restrict σ F) depth) (args.toList.map (val T)) = some (us, F) :=
        stripL_congr (fun v t i h hi => strip_congr _ v t i h fun b hb => by unfold restrict; rw [if_pos (hi b hb)]) hst
      simp only [val, callV_clo, List.append_nil, call_own h, hst', Option.bind_some]
      cases call g us noStore nx with
      | none => rfl
      | some q =>
        simp only [Option.bind_some]
        cases gather q.2.1 depth q.1 with
        | none => rfl
        | some ids =>
          simp only [Option.map_some, keeps, val, h, if_true, Option.some.injEq, Prod.mk.injEq, true_and, and_true]
          have hlt : ∀ b ∈ F, b < nx := fun b hb => by simpa using List.all_eq_true.1 hall b hb
          unfold drawJ
          funext b
          unfold patchS
          by_cases h1 : nx ≤ b ∧ b < q.2.2
          · rw [if_pos (.inr h1), if_pos (.inr h1)]
            unfold joinS
            simp only [if_neg (show ¬b < nx by omega)]
          · by_cases h2 : b ∈ F
            · rw [if_pos (.inl h2), if_neg (fun e => e.elim (fun e => by cases e) h1)]
              unfold joinS restrict
              rw [if_pos (hlt b h2), if_pos h2]
            · rw [if_neg (fun e => e.elim h2 h1), if_neg (fun e => e.elim (fun e => by cases e) h1)]
    · rw [if_neg hall, if_neg hall]
theorem w_own {conv : FuncId → Conv} {d : Option Tmp} {ty : TypeId} {ps : String} {af : Array Edge} {gd : Option (Nat × Bool)} {g : FuncId} (h : conv g = .own) (args : Array Operand) (ts : Array TypeId) : writer conv ⟨d, .call ⟨.value (.func g), args, ts⟩, ty, ps, af, gd⟩ = false := by unfold writer; simp only [h]
theorem foot_own {conv : FuncId → Conv} {d : Option Tmp} {ty : TypeId} {ps : String} {af : Array Edge} {gd : Option (Nat × Bool)} {T : Nat → V} {σ : Store} {g : FuncId} (h : conv g = .own) (args : Array Operand) (ts : Array TypeId) : footIds conv T σ ⟨d, .call ⟨.value (.func g), args, ts⟩, ty, ps, af, gd⟩ = ((stripL (strip σ depth) (args.toList.map (val T))).map (·.2)).getD [] := by
  unfold footIds
  rw [foot_deep d ty ps af gd T σ (by rw [h]; exact fun e => by cases e)]
theorem dj_in {nx nx1 : Nat} {σ σ1 : Store} {ids : List Nat} {b : Nat} (h0 : nx ≤ b) (h1 : b < nx1) (hb : b ∈ ids) : drawJ nx nx1 σ σ1 ids b = σ1 b := by
  unfold drawJ patchS
  rw [if_pos (.inr ⟨h0, h1⟩), join_in (by omega) hb]
theorem dj_lt {nx nx1 : Nat} {σ σ1 : Store} {ids : List Nat} {b : Nat} (h : b < nx) : drawJ nx nx1 σ σ1 ids b = σ b := by
  unfold drawJ patchS
  rw [if_neg (by simp; omega)]
theorem Own.draw {nx nx1 : Nat} {σ σ1 : Store} {d : Nat} {v t : V} {ids : List Nat} (h : Own σ1 d v t ids) (hn : ∀ b ∈ ids, nx ≤ b ∧ b < nx1) : Own (drawJ nx nx1 σ σ1 ids) d v t ids :=
  h.frame fun b hb => dj_in (hn b hb).1 (hn b hb).2 hb
theorem Own.drawLow {nx nx1 : Nat} {σ σ1 : Store} {ids' : List Nat} {d : Nat} {v t : V} {ids : List Nat} (h : Own σ d v t ids) (hn : ∀ b ∈ ids, b < nx) : Own (drawJ nx nx1 σ σ1 ids') d v t ids :=
  h.frame fun b hb => dj_lt (hn b hb)
theorem gather_sc (σ : Store) (d : Nat) (u : Value) : gather σ d (.sc u) = some [] := by cases d <;> rfl
theorem gather_nil (σ : Store) (d : Nat) : gather σ d .nil = some [] := by cases d <;> rfl
theorem gather_agg (σ : Store) (d : Nat) (vs : List V) : gather σ (d + 1) (.agg vs) = gatherL (gather σ d) vs := rfl
theorem gather_tup (σ : Store) (d : Nat) (vs : List V) : gather σ (d + 1) (.tup vs) = gatherL (gather σ d) vs := rfl
theorem gatherL_nil (f : V → Option (List Nat)) : gatherL f [] = some [] := rfl
theorem gatherL_cons (f : V → Option (List Nat)) (v : V) (vs : List V) : gatherL f (v :: vs) = (f v).bind fun i => (gatherL f vs).map fun j => i ++ j := by
  show (match f v, gatherL f vs with | some i, some j => some (i ++ j) | _, _ => none) = _
  cases f v <;> cases gatherL f vs <;> rfl
attribute [go_sem] opD_own w_own foot_own gather_sc gather_nil gather_agg gather_tup gatherL_nil gatherL_cons call_own
theorem Own.cell {σ : Store} {d : Nat} {v : V} {xs : List Int} {ids : List Nat} (h : Own σ (d + 1) v (LI xs) ids) : isCell v = true := by
  rcases own_ints h with ⟨rfl, _⟩ | ⟨b, st, rfl, _⟩ <;> rfl
theorem cells_of_cell {v : V} (h : isCell v = true) : cellsOfV v = some [v] := by cases v <;> simp_all [cellsOfV, isCell]
end Go.TV
namespace Go.Proofs.Ytlkpocljgikpgaa
open Go Go.TV

/-! ### The layer of the laws that mark their results: what builds a result hands its memory over -/
def convM : FuncId → Conv := fun f => if f ∈ ([20, 10, 11, 55, 89, 42, 79, 30, 70, 102, 80] : List Nat) then .own else if f ∈ ([34, 57, 22, 29, 67, 97, 132, 158, 159, 133, 68, 106, 107, 901929, 73, 901558, 74, 33] : List Nat) then .inl else .imm
abbrev tops : List Nat := [20, 10, 11, 55, 89, 42, 79, 30, 70, 102, 34, 57, 22, 29, 67, 97, 132, 158, 159, 133, 68, 106, 107, 901929, 73, 901558, 74, 33, 4, 5, 6, 7]
noncomputable def extM : Ext := fun f => if f = 80 then some cloneG else if f ∈ tops then none else some fun args σ nx => ev Try.prog conv ext f args σ nx
theorem extMOk : ExtOk Try.prog extM := fun f g h args σ nx v σ' nx' hg => by
  unfold extM at h
  split at h
  · rename_i hf
    subst hf
    cases h
    exact clone_sound args σ nx v σ' nx' hg
  · split at h
    · cases h
    · cases h
      exact ev_sound (by kernel_rfl) extOk f args σ nx v σ' nx' hg
theorem fnM {f : FuncId} (h : List.contains (80 :: tops) f = false) (ts : List V) : fn Try.prog convM extM f ts = fn Try.prog conv ext f ts := by
  have hc : ¬f = 80 := fun e => by subst e; simp at h
  have ht : ¬f ∈ tops := fun e => by
    rw [List.contains_cons, Bool.or_eq_false_iff] at h
    rw [List.contains_iff_mem.mpr e] at h
    cases h.2
  rw [fn_eq, fn_eq, ev_ext (g := fun args σ nx => ev Try.prog conv ext f args σ nx) (by unfold extM; rw [if_neg hc, if_neg ht])]
theorem cvM {f : FuncId} (h : List.contains (80 :: tops) f = false) : convM f = .imm := by
  have hc : ¬f = 80 := fun e => by subst e; simp at h
  have ht : ¬f ∈ tops := fun e => by
    rw [List.contains_cons, Bool.or_eq_false_iff] at h
    rw [List.contains_iff_mem.mpr e] at h
    cases h.2
  unfold convM
  simp only [tops, List.mem_cons, List.not_mem_nil, or_false, not_or] at ht
  rw [if_neg (by simp only [List.mem_cons, List.not_mem_nil, or_false, not_or]; simp only [ht, hc, not_false_eq_true, and_self]), if_neg (by simp only [List.mem_cons, List.not_mem_nil, or_false, not_or]; simp only [ht, not_false_eq_true, and_self])]
theorem own_slg : convM 20 = .own := id rfl
theorem own_sha : convM 10 = .own := id rfl
theorem own_wsh : convM 11 = .own := id rfl
theorem own_rof : convM 55 = .own := id rfl
theorem own_rmk : convM 89 = .own := id rfl
theorem own_sto : convM 42 = .own := id rfl
theorem own_few : convM 79 = .own := id rfl
theorem own_nxt : convM 30 = .own := id rfl
theorem own_ynx : convM 70 = .own := id rfl
theorem own_mkd : convM 102 = .own := id rfl
theorem inl_ints : convM 34 = .inl := id rfl
theorem inl_big : convM 57 = .inl := id rfl
theorem inl_rat : convM 22 = .inl := id rfl
theorem inl_tyd : convM 29 = .inl := id rfl
theorem inl_tss : convM 67 = .inl := id rfl
theorem inl_tst : convM 97 = .inl := id rfl
theorem inl_tsu : convM 132 = .inl := id rfl
theorem inl_tjs : convM 158 = .inl := id rfl
theorem inl_tms : convM 159 = .inl := id rfl
theorem inl_tis : convM 133 = .inl := id rfl
theorem inl_tmv : convM 68 = .inl := id rfl
theorem inl_kjs : convM 106 = .inl := id rfl
theorem inl_kms : convM 107 = .inl := id rfl
theorem inl_ksu : convM 901929 = .inl := id rfl
theorem inl_kss : convM 73 = .inl := id rfl
theorem inl_kst : convM 901558 = .inl := id rfl
theorem inl_kmv : convM 74 = .inl := id rfl
theorem inl_kyd : convM 33 = .inl := id rfl
theorem own_cln : convM 80 = .own := id rfl
attribute [go_sem] cvM own_slg own_sha own_wsh own_rof own_rmk own_sto own_few own_cln inl_ints inl_big inl_rat own_nxt own_ynx own_mkd inl_tyd inl_tss inl_tst inl_tsu inl_tjs inl_tms inl_tis inl_tmv inl_kjs inl_kms inl_ksu inl_kss inl_kst inl_kmv inl_kyd fnM
end Go.Proofs.Ytlkpocljgikpgaa
namespace Go.Proofs.Ytlkpocljgikpgaa
open Go Go.TV

/-! ### Fractions whose memory is handed over -/
theorem cloneO (xs : List Int) (h : xs.length ≤ 17592186044000) (nx : Nat) : ∃ v σ1 nx1 ids, ev Try.prog convM extM 80 [LI xs] noStore nx = some (v, σ1, nx1) ∧ nx ≤ nx1 ∧ Own σ1 1 v (LI xs) ids ∧ ∀ b ∈ ids, nx ≤ b ∧ b < nx1 := by
  rw [ev_ext (g := cloneG) rfl]
  have hg : cloneG [LI xs] noStore nx = if xs.length = 0 then some (.nil, noStore, nx) else some (.rs nx 0 xs.length, evBox noStore nx (xs.flatMap cI) 1, nx + 1) := by
    show (if (xs.flatMap cI).length = xs.length ∧ xs.length ≤ 17592186044000 ∧ (xs.flatMap cI).all isCell = true then _ else none) = _
    rw [if_pos ⟨cI_len xs, h, cI_cells xs⟩]
  rw [hg]
  by_cases hz : xs.length = 0
  · rw [if_pos hz]
    have : xs = [] := List.eq_nil_of_length_eq_zero hz
    subst this
    exact ⟨_, _, _, [], rfl, Nat.le_refl _, own_of_nil _ _, by simp⟩
  · rw [if_neg hz]
    exact ⟨_, _, _, [nx], rfl, by omega, own_of_rs (st := 1) (by simp [evBox, upd]) (by omega), by simp⟩
theorem fewerO (b : Bool) (xs : List Int) (h : xs.length ≤ 60) (nx : Nat) : ∃ v σ1 nx1 ids, ev Try.prog convM extM 79 [.agg [Bo b, LI xs]] noStore nx = some (.agg [Bo b, v], σ1, nx1) ∧ nx ≤ nx1 ∧ Own σ1 1 v (LI xs) ids ∧ ∀ b ∈ ids, nx ≤ b ∧ b < nx1 := by
  have c1 : ¬(60 : Int) < (xs.length : Int) := by omega
  obtain ⟨v, σ1, nx1, ids, k, hn, ho, hi⟩ := cloneO xs (by omega) (nx + 1 + 1)
  have hg := fun d => ho.gather (d' := d + 1) (by omega)
  have hc := ho.cell
  have n1 : nx + 1 < nx1 := by omega
  have n2 : ¬nx + 1 = nx := by omega
  have n5 : ¬nx = nx + 1 := by omega
  have n3 : nx < nx + 1 + 1 := by omega
  have n4 : nx + 1 < nx + 1 + 1 := by omega
  have j1 : ∀ σ, drawJ (nx + 1 + 1) nx1 σ σ1 ids (nx + 1) = σ (nx + 1) := fun σ => dj_lt (by omega)
  refine ⟨v, ?_⟩
  rw [ev_eqQ (rs := [.cell 2 29]) [] rfl Try.func79 rfl rfl (by kernel_rfl) (by kernel_rfl)]
  simp only [go_sem, c1, k, hg, hc, cells_of_cell, n1, n2, n3, n4, n5, j1]
  refine ⟨_, _, ids, rfl, by omega, ?_, fun b hb => by have := hi b hb; omega⟩
  rw [Own.upd (fun hb => by have := hi _ hb; omega)]
  exact ho.draw hi
/-- A call that hands over a fraction. -/
def R3 (f : FuncId) (ts : List V) (nx : Nat) (neg : Bool) (xs ys : List Int) : Prop :=
  ∃ v w σ1 nx1 i j, ev Try.prog convM extM f ts noStore nx = some (.agg [Bo neg, v, w], σ1, nx1) ∧ nx ≤ nx1 ∧ Own σ1 1 v (LI xs) i ∧ Own σ1 1 w (LI ys) j ∧ (∀ b ∈ i, nx ≤ b ∧ b < nx1) ∧ (∀ b ∈ j, nx ≤ b ∧ b < nx1) ∧ ∀ b ∈ i, ¬b ∈ j
theorem storeO (neg : Bool) (xs ys : List Int) (hx : xs.length ≤ 24) (hy : ys.length ≤ 24) (nx : Nat) : R3 42 [.tp [Bo neg, LI xs, LI ys] 0] nx neg xs ys := by
  obtain ⟨v, σ1, n1, i, k1, hn1, ho1, hi1⟩ := fewerO neg xs (by omega) (nx + 1)
  obtain ⟨w, σ2, n2, j, k2, hn2, ho2, hi2⟩ := cloneO ys (by omega) n1
  have g1 := fun d => ho1.gather (d' := d + 1) (by omega)
  have g2 := fun d => ho2.gather (d' := d + 1) (by omega)
  have c1 := cells_of_cell ho1.cell
  have c2 := cells_of_cell ho2.cell
  have c1' := ho1.cell
  have c2' := ho2.cell
  have m1 : nx < n1 := by omega
  have m2 : nx < n2 := by omega
  have m3 : nx < nx + 1 := by omega
  have j1 : ∀ σ, drawJ (nx + 1) n1 σ σ1 i nx = σ nx := fun σ => dj_lt (by omega)
  have j2 : ∀ σ, drawJ n1 n2 σ σ2 j nx = σ nx := fun σ => dj_lt (by omega)
  refine ⟨v, w, ?_⟩
  rw [ev_eqQ (rs := [.cell 2 31]) [] rfl Try.func42 rfl rfl (by kernel_rfl) (by kernel_rfl)]
  simp only [go_sem, k1, k2, g1, g2, c1, c2, c1', c2', m1, m2, m3, j1, j2]
  refine ⟨_, _, i, j, rfl, by omega, ?_, ?_, fun b hb => by have := hi1 b hb; omega, fun b hb => by have := hi2 b hb; omega, fun b hb hb' => by have := hi1 b hb; have := hi2 b hb'; omega⟩
  · rw [Own.upd (fun hb => by have := hi1 _ hb; omega)]
    exact (ho1.draw hi1).drawLow fun b hb => (hi1 b hb).2
  · rw [Own.upd (fun hb => by have := hi2 _ hb; omega)]
    exact ho2.draw hi2
theorem makeO (m n : Nat) (hm : m < 1000000000000000000) (h0 : n ≠ 0) (hn : n < 1000000000) (nx : Nat) : R3 89 [.agg [Bo false, LI (dg m)], .agg [Bo false, LI (dg n)]] nx false (dg (m / Nat.gcd m n)) (dg (n / Nat.gcd m n)) := by
  have lm := dg_three (n := m) (by omega)
  have ln := dg_three (n := n) (by omega)
  have gm : m / Nat.gcd m n ≤ m := Nat.div_le_self _ _
  have gn : n / Nat.gcd m n ≤ n := Nat.div_le_self _ _
  have l1 := dg_three (n := m / Nat.gcd m n) (by omega)
  have l2 := dg_three (n := n / Nat.gcd m n) (by omega)
  have k1 := iBigIntOk false (dg m) (by unfold Short; omega)
  have k2 := iBigIntOk false (dg n) (by unfold Short; omega)
  rw [pb_true (natGood_dg (by omega)), Bool.false_and] at k1 k2
  have k3 := isigned false (dg m)
  have k4 := ilowest false m n hm h0 hn
  unfold lowD at k4
  simp only [Bool.false_and] at k3 k4
  have k5 := ifit false (dg (m / Nat.gcd m n)) (dg (n / Nat.gcd m n)) (by omega) (by omega)
  have z : (((dg n).length : Int) == 0) = false := by rw [beq_eq_false_iff_ne]; have := app_len (dg_ne h0); omega
  obtain ⟨v, w, σ1, n1, i, j, k6, hn1, ho1, ho2, hi1, hi2, hd⟩ := storeO false (dg (m / Nat.gcd m n)) (dg (n / Nat.gcd m n)) (by omega) (by omega) (nx + 1 + 1 + 1)
  have g1 := fun d => ho1.gather (d' := d + 1) (by omega)
  have g2 := fun d => ho2.gather (d' := d + 1) (by omega)
  have c1 := cells_of_cell ho1.cell
  have c2 := cells_of_cell ho2.cell
  have c1' := ho1.cell
  have c2' := ho2.cell
  have e1 : ¬nx = nx + 1 := by omega
  have e2 : ¬nx = nx + 1 + 1 := by omega
  have e3 : ¬nx + 1 = nx + 1 + 1 := by omega
  have e4 : nx < nx + 1 + 1 + 1 := by omega
  have e5 : nx + 1 < nx + 1 + 1 + 1 := by omega
  have e6 : nx + 1 + 1 < nx + 1 + 1 + 1 := by omega
  have e7 : nx + 1 + 1 < n1 := by omega
  have j1 : ∀ σ, drawJ (nx + 1 + 1 + 1) n1 σ σ1 (i ++ j) (nx + 1 + 1) = σ (nx + 1 + 1) := fun σ => dj_lt (by omega)
  refine ⟨v, w, ?_⟩
  rw [ev_eqQ (rs := [.cell 4 31]) [] rfl Try.func89 rfl rfl (by kernel_rfl) (by kernel_rfl)]
  simp only [go_sem] at k1 k2
  simp only [go_sem, k1, k2, k3, k4, k5, k6, z, g1, g2, c1, c2, c1', c2', e1, e2, e3, e4, e5, e6, e7, j1]
  refine ⟨_, _, i, j, rfl, by omega, ?_, ?_, fun b hb => by have := hi1 b hb; omega, fun b hb => by have := hi2 b hb; omega, hd⟩
  · rw [Own.upd (fun hb => by have := hi1 _ hb; omega)]
    exact ho1.frame fun b hb => dj_in (hi1 b hb).1 (hi1 b hb).2 (List.mem_append_left _ hb)
  · rw [Own.upd (fun hb => by have := hi2 _ hb; omega)]
    exact ho2.frame fun b hb => dj_in (hi2 b hb).1 (hi2 b hb).2 (List.mem_append_right _ hb)
theorem ratOfO (m n : Nat) (hm : m < 1000000000000000000) (h0 : n ≠ 0) (hn : n < 1000000000) (nx : Nat) : R3 55 [I m, I n] nx false (dg (m / Nat.gcd m n)) (dg (n / Nat.gcd m n)) := by
  have k1 := iBigIntOf m (by omega)
  have k2 := iBigIntOf n (by omega)
  obtain ⟨v, w, σ1, n1, i, j, k3, hn1, ho1, ho2, hi1, hi2, hd⟩ := makeO m n hm h0 hn (nx + 1)
  have g1 := fun d => ho1.gather (d' := d + 1) (by omega)
  have g2 := fun d => ho2.gather (d' := d + 1) (by omega)
  have c1 := cells_of_cell ho1.cell
  have c2 := cells_of_cell ho2.cell
  have c1' := ho1.cell
  have c2' := ho2.cell
  have j1 : ∀ σ, joinS (nx + 1) σ σ1 (i ++ j) nx = σ nx := fun σ => join_lt (by omega)
  have e1 : nx < n1 := by omega
  refine ⟨v, w, ?_⟩
  rw [ev_eqQ (rs := [.cell 4 31]) [] rfl Try.func55 rfl rfl (by kernel_rfl) (by kernel_rfl)]
  simp only [go_sem, k1, k2, k3, g1, g2, c1, c2, c1', c2', j1, e1]
  refine ⟨_, _, i, j, rfl, by omega, ?_, ?_, fun b hb => by have := hi1 b hb; omega, fun b hb => by have := hi2 b hb; omega, hd⟩
  · rw [Own.upd (fun hb => by have := hi1 _ hb; omega)]
    exact ho1.frame fun b hb => join_in (by have := hi1 b hb; omega) (List.mem_append_left _ hb)
  · rw [Own.upd (fun hb => by have := hi2 _ hb; omega)]
    exact ho2.frame fun b hb => join_in (by have := hi2 b hb; omega) (List.mem_append_right _ hb)
end Go.Proofs.Ytlkpocljgikpgaa
namespace Go.Proofs.Ytlkpocljgikpgaa
open Go Go.TV

/-! ### Marks -/
theorem mark_set {k : Int} {xs : List Int} {n i : Nat} (hn : n = xs.length) (hi : i < n) : ((marks k i ++ xs.drop i).flatMap cI).set i (I (k + i)) = (marks k (i + 1) ++ xs.drop (i + 1)).flatMap cI := by
  rw [cI_set, List.set_append_right _ _ (by rw [marks_len]; exact Nat.le_refl _), marks_len, Nat.sub_self, List.drop_eq_getElem_cons (by omega), List.set_cons_zero]
  have : marks k (i + 1) = marks k i ++ [k + i] := by
    refine List.ext_getElem (by simp [marks_len]) fun j h1 h2 => ?_
    rw [marks_get]
    rw [marks_len] at h1
    by_cases hj : j < i
    · rw [List.getElem_append_left (by rw [marks_len]; exact hj), marks_get]
    · have : j = i := by omega
      subst this
      rw [List.getElem_append_right (by rw [marks_len]; exact Nat.le_refl _)]
      simp [marks_len]
  rw [this, List.append_assoc]; rfl
theorem markIntS {σ : Store} {nx : Nat} {v : V} {xs : List Int} {ids : List Nat} (ho : Own σ 1 v (LI xs) ids) (hl : xs.length ≤ 1000000000000) (k : Int) (hk : 0 ≤ k ∧ k ≤ 10000000000000000) :
    ∃ σ', ev Try.prog convM extM 34 [v, I k] σ nx = some (I (k + xs.length), σ', nx) ∧ Own σ' 1 v (LI (marks k xs.length)) ids ∧ ∀ b, ¬b ∈ ids → σ' b = σ b := by
  rw [ev_eqQ (rs := [.tmp 4]) [] rfl Try.func34 rfl rfl (by kernel_rfl) (by kernel_rfl)]
  rcases own_ints ho with ⟨rfl, rfl, rfl⟩ | ⟨b, st, rfl, rfl, hb, hst⟩
  · simp only [go_sem]
    rw [evLoopI_eq]
    have f0 : ¬(0 : Int) < 0 := by decide
    simp only [go_sem, f0]
    exact ⟨σ, by simp, own_of_nil _ _, fun _ _ => rfl⟩
  · simp only [go_sem]
    generalize hL : evLoopI _ _ = y
    obtain ⟨r, rfl, T', σ', rfl, h1, h2, h3⟩ := count_rule hL xs.length (fun i s => s.nx = nx ∧ s.T 0 = .rs b 0 xs.length ∧ s.T 1 = I (k + i) ∧ s.T 5 = I i ∧ s.σ b = some ⟨(marks k i ++ xs.drop i).flatMap cI, st, true⟩ ∧ ∀ c, ¬c = b → s.σ c = σ c)
      (fun r => ∃ T σ', r = (.exit 0, ⟨T, σ', nx⟩) ∧ T 1 = I (k + xs.length) ∧ σ' b = some ⟨(marks k xs.length).flatMap cI, st, true⟩ ∧ ∀ c, ¬c = b → σ' c = σ c) (by
        clear hL
        rintro i ⟨T, τ, m⟩ hlt ⟨hn, h0, h1, h5, hs, hf⟩
        simp only at hn h0 h1 h5 hs hf
        subst hn
        have f1 : (i : Int) < (xs.length : Int) := by omega
        have f2 : (0 : Int) ≤ (i : Int) := by omega
        have f3 := wrap_id (n := (i : Int) + 1) (by omega) (by omega)
        have f4 := wrap_id (n := k + (i : Int) + 1) (by omega) (by omega)
        have c5 : i < (marks k i ++ xs.drop i).length := by rw [List.length_append, marks_len, List.length_drop]; omega
        have c6 := mark_set (k := k) (xs := xs) rfl hlt
        refine .inl ⟨_, by simp only [go_sem, h0, h1, h5, hs, f1, f2, f3, f4, c5, c6]; rfl, ?_⟩
        simp only [go_sem, h0]
        refine ⟨by rw [show k + (i : Int) + 1 = k + ((i + 1 : Nat) : Int) by omega], rfl, fun c hc => ?_⟩
        rw [upd_ne _ _ hc]; exact hf c hc) (by
        clear hL
        rintro ⟨T, τ, m⟩ ⟨hn, h0, h1, h5, hs, hf⟩
        simp only at hn h0 h1 h5 hs hf
        subst hn
        refine ⟨_, by simp only [go_sem, h0, h5, Int.lt_irrefl]; rfl, by simp, _, _, rfl, by simp only [go_sem, h1], ?_, hf⟩
        rw [hs, List.drop_length, List.append_nil]) (by
        simp only [go_sem]
        exact ⟨by simp, by rw [hb]; rfl, fun _ _ => trivial⟩)
    simp only [go_sem, h1]
    refine ⟨_, rfl, ?_, fun c hc => h3 c (by simpa using hc)⟩
    have := own_of_rs (σ := σ') (d := 0) (b := b) (st := st) (xs := marks k xs.length) h2 (by rw [marks_len]; exact hst)
    rwa [marks_len] at this
theorem heldIntS (k : Int) (n : Nat) (hk : 0 ≤ k ∧ k ≤ 1000000000000) (hn : n ≤ 1000000000000) : fn Try.prog conv ext 35 [LI (marks k n), I k] = some (I (k + n)) := by
  rw [fn_eq, ev_eqQ (rs := [.tmp 4]) [] rfl Try.func35 rfl rfl (by kernel_rfl) (by kernel_rfl)]
  simp only [go_sem]
  generalize hL : evLoopI _ _ = y
  have hml := marks_len k n
  obtain ⟨r, rfl, T', rfl, h1⟩ := count_rule hL n (fun i s => s.nx = 0 ∧ s.σ = noStore ∧ s.T 0 = LI (marks k n) ∧ s.T 1 = I (k + i) ∧ s.T 5 = I i)
    (fun r => ∃ T, r = (.exit 0, ⟨T, noStore, 0⟩) ∧ T 1 = I (k + n)) (by
      clear hL
      rintro i ⟨T, τ, m⟩ hlt ⟨hn', hσ, h0, h1, h5⟩
      simp only at hn' hσ h0 h1 h5
      subst hn' hσ
      have hlt' : i < (marks k n).length := by omega
      have f1 : (i : Int) < ((marks k n).length : Int) := by omega
      have f2 : (0 : Int) ≤ (i : Int) := by omega
      have f3 := wrap_id (n := (i : Int) + 1) (by omega) (by omega)
      have f4 := wrap_id (n := k + (i : Int) + 1) (by omega) (by omega)
      have f5 := slot_ne (c := cI) (s := 1) (fun _ => rfl) (by omega) (marks k n) i hlt'
      have f6 := idx hlt'
      rw [marks_get] at f6
      refine .inl ⟨_, by simp only [go_sem, h0, h1, h5, f1, f2, f3, f4, f5, f6]; rfl, ?_⟩
      simp only [go_sem, h0]
      exact ⟨by rw [show k + (i : Int) + 1 = k + ((i + 1 : Nat) : Int) by omega], rfl⟩) (by
      clear hL
      rintro ⟨T, τ, m⟩ ⟨hn', hσ, h0, h1, h5⟩
      simp only at hn' hσ h0 h1 h5
      subst hn' hσ
      have f1 : ¬(n : Int) < ((marks k n).length : Int) := by omega
      exact ⟨_, by simp only [go_sem, h0, h5, f1]; rfl, by simp, _, rfl, by simp only [go_sem, h1]⟩) (by
      simp only [go_sem]
      simp)
  simp only [go_sem, h1]
end Go.Proofs.Ytlkpocljgikpgaa
namespace Go.Proofs.Ytlkpocljgikpgaa
open Go Go.TV

/-! ### Copies in one's own memory -/
theorem toMoveSM (xs : List TV.Move) (h : okL 16 okMove xs) (σ0 : Store) (n : Nat) : ev Try.prog convM extM 68 [LL cMove xs] σ0 n = some (.rs n 0 xs.length, upd σ0 n (some ⟨xs.flatMap cMove, 2, true⟩), n + 1) := by
  have e1 : (16 : Int) * xs.length ≤ 281474976710656 := by have := h.2.1; omega
  have e2 : (xs.length : Int) ≤ 9223372036854775807 := by have := h.2.1; omega
  have e3 : (0 : Int) ≤ (xs.length : Int) := by omega
  rw [ev_eqQ (rs := [.tmp 2]) [] rfl Try.func68 rfl rfl (by kernel_rfl) (by kernel_rfl)]
  simp only [go_sem, e1, e2, e3, Int.le_refl]
  generalize hL : evLoopI _ _ = y
  obtain ⟨r, rfl, T', σ', rfl, hT', hs⟩ := count_rule hL xs.length (fun k st => st.nx = n + 1 ∧ st.σ = upd σ0 n (some ⟨mix cMove zMove xs xs.length k, 2, true⟩) ∧ st.T 0 = LL cMove xs ∧ st.T 3 = .rs n 0 xs.length ∧ st.T 4 = I k)
    (fun r => ∃ T σ, r = (.exit 0, ⟨T, σ, n + 1⟩) ∧ T 3 = .rs n 0 xs.length ∧ σ = upd σ0 n (some ⟨xs.flatMap cMove, 2, true⟩)) (by
      clear hL
      rintro k ⟨T, σ, nx⟩ hlt ⟨hn, hσ, h0, h3, h4⟩
      simp only at hn hσ h0 h3 h4
      subst hn hσ
      have f1 : (k : Int) < (xs.length : Int) := by omega
      have f2 : (0 : Int) ≤ (k : Int) := by omega
      have f3 := wrap_id (n := (k : Int) + 1) (by omega) (by omega)
      have f4 := slot (c := cMove) (s := 2) (fun _ => rfl) xs k hlt
      have f5 := slots_len (c := cMove) (s := 2) (fun _ => rfl) xs
      have f6 : k * 2 + 2 ≤ xs.length * 2 := by omega
      have f7 := mix_len (c := cMove) (s := 2) (fun _ => rfl) (z := zMove) rfl xs k (by omega)
      have f8 := mix_patch (c := cMove) (s := 2) (fun _ => rfl) (z := zMove) rfl xs k hlt
      have f9 := slot_ne (c := cMove) (s := 2) (fun _ => rfl) (by omega) xs k hlt
      have f10 : fn Try.prog conv ext 98 [.agg (cMove xs[k])] = some (.agg (cMove xs[k])) := by
        have hx := h.1 xs[k] (List.getElem_mem hlt)
        revert hx
        generalize xs[k] = x
        intro hx
        exact toMove x
      refine .inl ⟨_, by simp only [go_sem, h0, h3, h4, f1, f2, f3, f4, f5, f6, f7, f8, f9, f10]; rfl, ?_⟩
      simp only [go_sem, h0, h3]
      rfl) (by
      clear hL
      rintro ⟨T, σ, nx⟩ ⟨hn, hσ, h0, h3, h4⟩
      simp only at hn hσ h0 h3 h4
      subst hn hσ
      refine ⟨_, by simp only [go_sem, h0, h4, Int.lt_irrefl]; rfl, by simp, _, _, rfl, ?_, ?_⟩
      · simp only [go_sem, h3]
      · rw [mix_full]) (by
      (simp only [go_sem, ← mix_zero]) <;> trivial)
  simp only [go_sem, hT', hs]
theorem toJointSM (xs : List Joint) (h : okL 40 okJoint xs) (σ0 : Store) (n : Nat) : ev Try.prog convM extM 158 [LL cJoint xs] σ0 n = some (.rs n 0 xs.length, upd σ0 n (some ⟨xs.flatMap cJoint, 4, true⟩), n + 1) := by
  have e1 : (40 : Int) * xs.length ≤ 281474976710656 := by have := h.2.1; omega
  have e2 : (xs.length : Int) ≤ 9223372036854775807 := by have := h.2.1; omega
  have e3 : (0 : Int) ≤ (xs.length : Int) := by omega
  rw [ev_eqQ (rs := [.tmp 2]) [] rfl Try.func158 rfl rfl (by kernel_rfl) (by kernel_rfl)]
  simp only [go_sem, e1, e2, e3, Int.le_refl]
  generalize hL : evLoopI _ _ = y
  obtain ⟨r, rfl, T', σ', rfl, hT', hs⟩ := count_rule hL xs.length (fun k st => st.nx = n + 1 ∧ st.σ = upd σ0 n (some ⟨mix cJoint zJoint xs xs.length k, 4, true⟩) ∧ st.T 0 = LL cJoint xs ∧ st.T 3 = .rs n 0 xs.length ∧ st.T 4 = I k)
    (fun r => ∃ T σ, r = (.exit 0, ⟨T, σ, n + 1⟩) ∧ T 3 = .rs n 0 xs.length ∧ σ = upd σ0 n (some ⟨xs.flatMap cJoint, 4, true⟩)) (by
      clear hL
      rintro k ⟨T, σ, nx⟩ hlt ⟨hn, hσ, h0, h3, h4⟩
      simp only at hn hσ h0 h3 h4
      subst hn hσ
      have f1 : (k : Int) < (xs.length : Int) := by omega
      have f2 : (0 : Int) ≤ (k : Int) := by omega
      have f3 := wrap_id (n := (k : Int) + 1) (by omega) (by omega)
      have f4 := slot (c := cJoint) (s := 4) (fun _ => rfl) xs k hlt
      have f5 := slots_len (c := cJoint) (s := 4) (fun _ => rfl) xs
      have f6 : k * 4 + 4 ≤ xs.length * 4 := by omega
      have f7 := mix_len (c := cJoint) (s := 4) (fun _ => rfl) (z := zJoint) rfl xs k (by omega)
      have f8 := mix_patch (c := cJoint) (s := 4) (fun _ => rfl) (z := zJoint) rfl xs k hlt
      have f9 := slot_ne (c := cJoint) (s := 4) (fun _ => rfl) (by omega) xs k hlt
      have f10 : fn Try.prog conv ext 176 [.agg (cJoint xs[k])] = some (.agg (cJoint xs[k])) := by
        have hx := h.1 xs[k] (List.getElem_mem hlt)
        revert hx
        generalize xs[k] = x
        intro hx
        exact toJoint x
      refine .inl ⟨_, by simp only [go_sem, h0, h3, h4, f1, f2, f3, f4, f5, f6, f7, f8, f9, f10]; rfl, ?_⟩
      simp only [go_sem, h0, h3]
      rfl) (by
      clear hL
      rintro ⟨T, σ, nx⟩ ⟨hn, hσ, h0, h3, h4⟩
      simp only at hn hσ h0 h3 h4
      subst hn hσ
      refine ⟨_, by simp only [go_sem, h0, h4, Int.lt_irrefl]; rfl, by simp, _, _, rfl, ?_, ?_⟩
      · simp only [go_sem, h3]
      · rw [mix_full]) (by
      (simp only [go_sem, ← mix_zero]) <;> trivial)
  simp only [go_sem, hT', hs]
theorem toMemberSM (xs : List Member) (h : okL 24 okMember xs) (σ0 : Store) (n : Nat) : ev Try.prog convM extM 159 [LL cMember xs] σ0 n = some (.rs n 0 xs.length, upd σ0 n (some ⟨xs.flatMap cMember, 3, true⟩), n + 1) := by
  have e1 : (24 : Int) * xs.length ≤ 281474976710656 := by have := h.2.1; omega
  have e2 : (xs.length : Int) ≤ 9223372036854775807 := by have := h.2.1; omega
  have e3 : (0 : Int) ≤ (xs.length : Int) := by omega
  rw [ev_eqQ (rs := [.tmp 2]) [] rfl Try.func159 rfl rfl (by kernel_rfl) (by kernel_rfl)]
  simp only [go_sem, e1, e2, e3, Int.le_refl]
  generalize hL : evLoopI _ _ = y
  obtain ⟨r, rfl, T', σ', rfl, hT', hs⟩ := count_rule hL xs.length (fun k st => st.nx = n + 1 ∧ st.σ = upd σ0 n (some ⟨mix cMember zMember xs xs.length k, 3, true⟩) ∧ st.T 0 = LL cMember xs ∧ st.T 3 = .rs n 0 xs.length ∧ st.T 4 = I k)
    (fun r => ∃ T σ, r = (.exit 0, ⟨T, σ, n + 1⟩) ∧ T 3 = .rs n 0 xs.length ∧ σ = upd σ0 n (some ⟨xs.flatMap cMember, 3, true⟩)) (by
      clear hL
      rintro k ⟨T, σ, nx⟩ hlt ⟨hn, hσ, h0, h3, h4⟩
      simp only at hn hσ h0 h3 h4
      subst hn hσ
      have f1 : (k : Int) < (xs.length : Int) := by omega
      have f2 : (0 : Int) ≤ (k : Int) := by omega
      have f3 := wrap_id (n := (k : Int) + 1) (by omega) (by omega)
      have f4 := slot (c := cMember) (s := 3) (fun _ => rfl) xs k hlt
      have f5 := slots_len (c := cMember) (s := 3) (fun _ => rfl) xs
      have f6 : k * 3 + 3 ≤ xs.length * 3 := by omega
      have f7 := mix_len (c := cMember) (s := 3) (fun _ => rfl) (z := zMember) rfl xs k (by omega)
      have f8 := mix_patch (c := cMember) (s := 3) (fun _ => rfl) (z := zMember) rfl xs k hlt
      have f9 := slot_ne (c := cMember) (s := 3) (fun _ => rfl) (by omega) xs k hlt
      have f10 : fn Try.prog conv ext 177 [.agg (cMember xs[k])] = some (.agg (cMember xs[k])) := by
        have hx := h.1 xs[k] (List.getElem_mem hlt)
        revert hx
        generalize xs[k] = x
        intro hx
        exact toMember x
      refine .inl ⟨_, by simp only [go_sem, h0, h3, h4, f1, f2, f3, f4, f5, f6, f7, f8, f9, f10]; rfl, ?_⟩
      simp only [go_sem, h0, h3]
      rfl) (by
      clear hL
      rintro ⟨T, σ, nx⟩ ⟨hn, hσ, h0, h3, h4⟩
      simp only at hn hσ h0 h3 h4
      subst hn hσ
      refine ⟨_, by simp only [go_sem, h0, h4, Int.lt_irrefl]; rfl, by simp, _, _, rfl, ?_, ?_⟩
      · simp only [go_sem, h3]
      · rw [mix_full]) (by
      (simp only [go_sem, ← mix_zero]) <;> trivial)
  simp only [go_sem, hT', hs]
theorem toIntSM (xs : List Int) (h : okL 8 okI xs) (σ0 : Store) (n : Nat) : ev Try.prog convM extM 133 [LI xs] σ0 n = some (.rs n 0 xs.length, upd σ0 n (some ⟨xs.flatMap cI, 1, true⟩), n + 1) := by
  have e1 : (8 : Int) * xs.length ≤ 281474976710656 := by have := h.2.1; omega
  have e2 : (xs.length : Int) ≤ 9223372036854775807 := by have := h.2.1; omega
  have e3 : (0 : Int) ≤ (xs.length : Int) := by omega
  rw [ev_eqQ (rs := [.tmp 2]) [] rfl Try.func133 rfl rfl (by kernel_rfl) (by kernel_rfl)]
  simp only [go_sem, e1, e2, e3, Int.le_refl]
  generalize hL : evLoopI _ _ = y
  obtain ⟨r, rfl, T', σ', rfl, hT', hs⟩ := count_rule hL xs.length (fun k st => st.nx = n + 1 ∧ st.σ = upd σ0 n (some ⟨mix cI [I 0] xs xs.length k, 1, true⟩) ∧ st.T 0 = LI xs ∧ st.T 3 = .rs n 0 xs.length ∧ st.T 4 = I k)
    (fun r => ∃ T σ, r = (.exit 0, ⟨T, σ, n + 1⟩) ∧ T 3 = .rs n 0 xs.length ∧ σ = upd σ0 n (some ⟨xs.flatMap cI, 1, true⟩)) (by
      clear hL
      rintro k ⟨T, σ, nx⟩ hlt ⟨hn, hσ, h0, h3, h4⟩
      simp only at hn hσ h0 h3 h4
      subst hn hσ
      have f1 : (k : Int) < (xs.length : Int) := by omega
      have f2 : (0 : Int) ≤ (k : Int) := by omega
      have f3 := wrap_id (n := (k : Int) + 1) (by omega) (by omega)
      have f4 : (xs.flatMap cI)[k]? = some (I xs[k]) := slot1 I xs k hlt
      have f7 := mix_len (c := cI) (s := 1) (fun _ => rfl) (z := [I 0]) rfl xs k (by omega)
      have f8 : (mix cI [I 0] xs xs.length k).set k (I xs[k]) = mix cI [I 0] xs xs.length (k + 1) := mix_set (c := I) xs k hlt
      have f9 := slot_ne (c := cI) (s := 1) (fun _ => rfl) (by omega) xs k hlt
      refine .inl ⟨_, by simp only [go_sem, h0, h3, h4, f1, f2, f3, f4, f7, f8, f9, hlt]; rfl, ?_⟩
      simp only [go_sem, h0, h3]
      rfl) (by
      clear hL
      rintro ⟨T, σ, nx⟩ ⟨hn, hσ, h0, h3, h4⟩
      simp only at hn hσ h0 h3 h4
      subst hn hσ
      refine ⟨_, by simp only [go_sem, h0, h4, Int.lt_irrefl]; rfl, by simp, _, _, rfl, ?_, ?_⟩
      · simp only [go_sem, h3]
      · rw [mix_full]) (by
      (simp only [go_sem, ← mix_zero]) <;> trivial)
  simp only [go_sem, hT', hs]
/-- A structure that lies in the blocks b and b + 1. -/
structure StrAt (σ : Store) (b : Nat) (s : Structure) : Prop where
  j : σ b = some ⟨s.joints.flatMap cJoint, 4, true⟩
  m : σ (b + 1) = some ⟨s.members.flatMap cMember, 3, true⟩
def strV (b : Nat) (s : Structure) : List V := [.rs b 0 s.joints.length, .rs (b + 1) 0 s.members.length]
theorem toStructureM (s : Structure) (h : okStructure s) (σ0 : Store) (n : Nat) : ∃ σ, ev Try.prog convM extM 132 [.agg (cStructure s)] σ0 n = some (.agg (strV (n + 3) s), σ, n + 5) ∧ StrAt σ (n + 3) s ∧ ∀ b, b < n → σ b = σ0 b := by
  have h1 := fun σ n => toJointSM _ h.1 σ n
  have h2 := fun σ n => toMemberSM _ h.2 σ n
  have e1 : ¬n = n + 1 := by omega
  have e2 : ¬n = n + 1 + 1 := by omega
  have e3 : ¬n + 1 = n + 1 + 1 := by omega
  have e4 : ¬n = n + 1 + 1 + 1 := by omega
  have e5 : ¬n + 1 = n + 1 + 1 + 1 := by omega
  have e6 : ¬n + 1 + 1 = n + 1 + 1 + 1 := by omega
  have e7 : ¬n = n + 1 + 1 + 1 + 1 := by omega
  have e8 : ¬n + 1 = n + 1 + 1 + 1 + 1 := by omega
  have e9 : ¬n + 1 + 1 = n + 1 + 1 + 1 + 1 := by omega
  rw [ev_eqQ (rs := [.cell 2 118]) [] rfl Try.func132 rfl rfl (by kernel_rfl) (by kernel_rfl)]
  simp only [go_sem, call_inl, h1, h2, e1, e2, e3, e4, e5, e6, e7, e8, e9]
  refine ⟨_, rfl, ⟨?_, ?_⟩, fun b hb => ?_⟩
  · simp [upd]
  · simp [upd]
  · simp only [upd]
    repeat' rw [if_neg (by omega)]
end Go.Proofs.Ytlkpocljgikpgaa
namespace Go.Proofs.Ytlkpocljgikpgaa
open Go Go.TV

/-- A stance whose parts lie in the blocks b .. b + 3. -/
structure StaAt (σ : Store) (b : Nat) (s : Stance) : Prop where
  j : σ b = some ⟨s.st.joints.flatMap cJoint, 4, true⟩
  m : σ (b + 1) = some ⟨s.st.members.flatMap cMember, 3, true⟩
  l : σ (b + 2) = some ⟨s.load.flatMap cI, 1, true⟩
  x : σ (b + 3) = some ⟨s.limits.flatMap cI, 1, true⟩
abbrev staV (b : Nat) (s : Stance) : List V := [Sg s.name, .rs b 0 s.st.joints.length, .rs (b + 1) 0 s.st.members.length, .rs (b + 2) 0 s.load.length, .rs (b + 3) 0 s.limits.length]
theorem StaAt.frame {σ σ' : Store} {b : Nat} {s : Stance} (h : StaAt σ b s) (hs : ∀ c, b ≤ c → c < b + 4 → σ' c = σ c) : StaAt σ' b s :=
  ⟨by rw [hs _ (by omega) (by omega)]; exact h.j, by rw [hs _ (by omega) (by omega)]; exact h.m, by rw [hs _ (by omega) (by omega)]; exact h.l, by rw [hs _ (by omega) (by omega)]; exact h.x⟩
theorem toStanceM (s : Stance) (h : okStance s) (σ0 : Store) (n : Nat) : ∃ σ, ev Try.prog convM extM 97 [.agg (cStance s)] σ0 n = some (.agg (staV (n + 6) s), σ, n + 10) ∧ StaAt σ (n + 6) s ∧ ∀ b, b < n → σ b = σ0 b := by
  have h1 := toStructureM _ h.2.1
  have h2 := fun σ n => toIntSM _ h.2.2.1 σ n
  have h3 := fun σ n => toIntSM _ h.2.2.2 σ n
  have e1 : ¬n = n + 1 := by omega
  have e2 : ¬n = n + 1 + 1 := by omega
  have e3 : ¬n + 1 = n + 1 + 1 := by omega
  have e4 : ¬n + 1 = n + 8 := by omega
  have e5 : ¬n + 1 + 1 = n + 8 := by omega
  have e6 : ¬n = n + 8 := by omega
  have e7 : ¬n = n + 9 := by omega
  have e8 : ¬n + 1 = n + 9 := by omega
  have e9 : ¬n + 1 + 1 = n + 9 := by omega
  obtain ⟨σ1, hs⟩ : ∃ σ1, σ1 = upd (upd (upd σ0 n (some ⟨cStance s, 0, true⟩)) (n + 1) (some ⟨zStance, 0, true⟩)) (n + 1 + 1) (some ⟨[Sg s.name, .nil, .nil, .nil, .nil], 0, true⟩) := ⟨_, rfl⟩
  obtain ⟨σ2, k1, s1, f1⟩ := h1 σ1 (n + 1 + 1 + 1)
  have q0 : σ1 n = some ⟨cStance s, 0, true⟩ := by rw [hs]; simp [upd, e1, e2]
  have q1 : σ1 (n + 1) = some ⟨zStance, 0, true⟩ := by rw [hs]; simp [upd, e3]
  have q2 : σ1 (n + 1 + 1) = some ⟨[Sg s.name, .nil, .nil, .nil, .nil], 0, true⟩ := by rw [hs]; simp [upd]
  have g0 : σ2 n = some ⟨cStance s, 0, true⟩ := by rw [f1 n (by omega), q0]
  have g1 : σ2 (n + 1) = some ⟨zStance, 0, true⟩ := by rw [f1 (n + 1) (by omega), q1]
  have g2 : σ2 (n + 1 + 1) = some ⟨[Sg s.name, .nil, .nil, .nil, .nil], 0, true⟩ := by rw [f1 (n + 1 + 1) (by omega), q2]
  have n1 : n + 1 + 1 + 1 + 5 = n + 8 := rfl
  have n2 : n + 1 + 1 + 1 + 3 = n + 6 := rfl
  rw [n1, n2] at k1
  rw [n2] at s1
  unfold strV at k1
  rw [ev_eqQ (rs := [.cell 2 120]) [] rfl Try.func97 rfl rfl (by kernel_rfl) (by kernel_rfl)]
  simp only [go_sem, call_inl, e1, e2, e3, e4, e5, e6, e7, e8, e9, ← hs, k1, h2, h3, g0, g1, g2, q0, q1, q2]
  refine ⟨_, rfl, ⟨?_, ?_, ?_, ?_⟩, fun b hb => ?_⟩
  · simp only [upd]
    repeat' rw [if_neg (by omega)]
    exact s1.j
  · simp only [upd]
    repeat' rw [if_neg (by omega)]
    exact s1.m
  · simp [upd]
  · simp [upd]
  · simp only [upd]
    repeat' rw [if_neg (by omega)]
    rw [f1 b (by omega), hs]
    simp only [upd]
    repeat' rw [if_neg (by omega)]
end Go.Proofs.Ytlkpocljgikpgaa
namespace Go.Proofs.Ytlkpocljgikpgaa
open Go Go.TV

abbrev staC (n : Nat) : Stance × Nat → List V := fun p => staV (n + 7 + 10 * p.2) p.1
/-- Stances that lie in the blocks from n on. -/
structure StasAt (σ : Store) (n : Nat) (xs : List Stance) : Prop where
  b : σ n = some ⟨xs.zipIdx.flatMap (staC n), 5, true⟩
  s : ∀ j (h : j < xs.length), StaAt σ (n + 7 + 10 * j) xs[j]
theorem toStanceSM (xs : List Stance) (h : okL 112 okStance xs) (σ0 : Store) (n : Nat) : ∃ σ, ev Try.prog convM extM 67 [LL cStance xs] σ0 n = some (.rs n 0 xs.length, σ, n + 1 + 10 * xs.length) ∧ StasAt σ n xs ∧ ∀ b, b < n → σ b = σ0 b := by
  have e1 : (112 : Int) * xs.length ≤ 281474976710656 := by have := h.2.1; omega
  have e2 : (xs.length : Int) ≤ 9223372036854775807 := by have := h.2.1; omega
  have e3 : (0 : Int) ≤ (xs.length : Int) := by omega
  have hz : xs.zipIdx.length = xs.length := List.length_zipIdx
  rw [ev_eqQ (rs := [.tmp 2]) [] rfl Try.func67 rfl rfl (by kernel_rfl) (by kernel_rfl)]
  simp only [go_sem, e1, e2, e3, Int.le_refl]
  generalize hL : evLoopI _ _ = y
  obtain ⟨r, rfl, T', σ', rfl, hT', hs, hf, hst⟩ := count_rule hL xs.length (fun k st => st.nx = n + 1 + 10 * k ∧ (st.σ n = some ⟨mix (staC n) zStance xs.zipIdx xs.zipIdx.length k, 5, true⟩ ∧ (∀ j (h : j < xs.length), j < k → StaAt st.σ (n + 7 + 10 * j) xs[j]) ∧ ∀ b, b < n → st.σ b = σ0 b) ∧ st.T 0 = LL cStance xs ∧ st.T 3 = .rs n 0 xs.length ∧ st.T 4 = I k)
    (fun r => ∃ T σ, r = (.exit 0, ⟨T, σ, n + 1 + 10 * xs.length⟩) ∧ T 3 = .rs n 0 xs.length ∧ σ n = some ⟨xs.zipIdx.flatMap (staC n), 5, true⟩ ∧ (∀ b, b < n → σ b = σ0 b) ∧ ∀ j (h : j < xs.length), StaAt σ (n + 7 + 10 * j) xs[j]) (by
      clear hL
      rintro k ⟨T, σ, nx⟩ hlt ⟨hn, ⟨hσ, hst, hfr⟩, h0, h3, h4⟩
      simp only at hn hσ hst hfr h0 h3 h4
      subst hn
      have f1 : (k : Int) < (xs.length : Int) := by omega
      have f2 : (0 : Int) ≤ (k : Int) := by omega
      have f3 := wrap_id (n := (k : Int) + 1) (by omega) (by omega)
      have f4 := slot (c := cStance) (s := 5) (fun _ => rfl) xs k hlt
      have f5 := slots_len (c := cStance) (s := 5) (fun _ => rfl) xs
      have f6 : k * 5 + 5 ≤ xs.length * 5 := by omega
      have f7 : (mix (staC n) zStance xs.zipIdx xs.zipIdx.length k).length = xs.length * 5 := by rw [mix_len (c := staC n) (s := 5) (fun _ => rfl) (z := zStance) rfl xs.zipIdx k (by omega), hz]
      have f8 := mix_patch (c := staC n) (s := 5) (fun _ => rfl) (z := zStance) rfl xs.zipIdx k (by omega)
      have f9 := slot_ne (c := cStance) (s := 5) (fun _ => rfl) (by omega) xs k hlt
      have fz : staC n (xs.zipIdx[k]'(by omega)) = staV (n + 1 + 10 * k + 6) xs[k] := by
        rw [List.getElem_zipIdx, Nat.zero_add, show n + 1 + 10 * k + 6 = n + 7 + 10 * k by omega]
      rw [fz] at f8
      obtain ⟨σ2, k1, s1, f10⟩ := toStanceM xs[k] (h.1 xs[k] (List.getElem_mem hlt)) σ (n + 1 + 10 * k)
      have g0 := f10 n (by omega)
      rw [hσ] at g0
      refine .inl ⟨_, by simp only [go_sem, call_inl, h0, h3, h4, f1, f2, f3, f4, f5, f6, f7, f8, f9, k1, g0]; rfl, ?_⟩
      simp only [go_sem, h0, h3]
      refine ⟨by omega, ⟨fun j hj hjk => ?_, fun b hb => ?_⟩, rfl⟩
      · by_cases hjk2 : j < k
        · refine (hst j hj hjk2).frame fun c h1 h2 => ?_
          rw [upd_ne _ _ (by omega), f10 c (by omega)]
        · have : j = k := by omega
          subst this
          rw [show n + 1 + 10 * j + 6 = n + 7 + 10 * j by omega] at s1
          refine s1.frame fun c h1 h2 => ?_
          rw [upd_ne _ _ (by omega)]
      · rw [upd_ne _ _ (by omega), f10 b (by omega), hfr b hb]) (by
      clear hL
      rintro ⟨T, σ, nx⟩ ⟨hn, ⟨hσ, hst, hfr⟩, h0, h3, h4⟩
      simp only at hn hσ hst hfr h0 h3 h4
      subst hn
      refine ⟨_, by simp only [go_sem, h0, h4, Int.lt_irrefl]; rfl, by simp, _, _, rfl, ?_, ?_, hfr, fun j hj => hst j hj hj⟩
      · simp only [go_sem, h3]
      · rw [hσ, ← hz, mix_full]) (by
      simp only [go_sem, hz]
      refine ⟨by rw [← mix_zero], fun j _ hj => absurd hj (Nat.not_lt_zero j), fun b hb => ?_⟩
      rw [upd_ne _ _ (by omega)])
  simp only [go_sem, hT']
  exact ⟨_, rfl, ⟨hs, hst⟩, hf⟩
end Go.Proofs.Ytlkpocljgikpgaa
namespace Go.Proofs.Ytlkpocljgikpgaa
open Go Go.TV

theorem ownL_sc (f : V → Option (V × List Nat)) (hf : ∀ u, f (.sc u) = some (.sc u, [])) : ∀ cells : List V, (∀ v ∈ cells, ∃ u, v = .sc u) → ownL f cells = some (cells, [])
  | [], _ => rfl
  | v :: vs, h => by
    obtain ⟨u, rfl⟩ := h v List.mem_cons_self
    unfold ownL
    rw [hf, ownL_sc f hf vs fun w hw => h w (List.mem_cons_of_mem _ hw)]
    rfl
theorem own_sc (σ : Store) (d : Nat) (u : Value) : own σ d (.sc u) = some (.sc u, []) := by cases d <;> rfl
theorem ownL_app {f : V → Option (V × List Nat)} {a b ta tb : List V} {ia ib : List Nat} (ha : ownL f a = some (ta, ia)) (hb : ownL f b = some (tb, ib)) : ownL f (a ++ b) = some (ta ++ tb, ia ++ ib) := by
  induction a generalizing ta ia with
  | nil => simp only [ownL, Option.some.injEq, Prod.mk.injEq] at ha; obtain ⟨rfl, rfl⟩ := ha; exact hb
  | cons v a ih =>
    unfold ownL at ha
    split at ha
    · rename_i t i ts' j e1 e2
      simp only [Option.some.injEq, Prod.mk.injEq] at ha
      obtain ⟨rfl, rfl⟩ := ha
      rw [List.cons_append]
      unfold ownL
      rw [e1, ih e2]
      simp
    · cases ha
theorem ownL_flat {α : Type} {f : V → Option (V × List Nat)} {c c' : α → List V} {g : α → List Nat} : ∀ {ys : List α}, (∀ y ∈ ys, ownL f (c y) = some (c' y, g y)) → ownL f (ys.flatMap c) = some (ys.flatMap c', ys.flatMap g)
  | [], _ => rfl
  | y :: ys, h => by
    rw [List.flatMap_cons, List.flatMap_cons, List.flatMap_cons]
    exact ownL_app (h y List.mem_cons_self) (ownL_flat fun z hz => h z (List.mem_cons_of_mem _ hz))
theorem own_rs {σ : Store} {d b n s : Nat} {cells ts : List V} {ids : List Nat} (h : σ b = some ⟨cells, s, true⟩) (hl : n * s = cells.length) (ho : ownL (own σ d) cells = some (ts, ids)) : own σ (d + 1) (.rs b 0 n) = some (.ts ts n, b :: ids) := by
  simp only [own, h]
  rw [if_pos ⟨trivial, trivial, hl⟩, ho]
theorem own_rows {α : Type} {σ : Store} {d b s : Nat} {c : α → List V} {xs : List α} (h : σ b = some ⟨xs.flatMap c, s, true⟩) (hc : ∀ x, (c x).length = s) (hs : ∀ x, ∀ v ∈ c x, ∃ u, v = .sc u) : own σ (d + 1) (.rs b 0 xs.length) = some (LL c xs, [b]) :=
  own_rs h (slots_len hc xs).symm (ownL_sc _ (own_sc σ d) _ fun v hv => by obtain ⟨x, _, hx⟩ := List.mem_flatMap.mp hv; exact hs x v hx)
theorem sc_joint : ∀ x : Joint, ∀ v ∈ cJoint x, ∃ u, v = .sc u := by intro x v hv; simp only [List.mem_cons, List.not_mem_nil, or_false] at hv; rcases hv with rfl | rfl | rfl | rfl <;> exact ⟨_, rfl⟩
theorem sc_member : ∀ x : Member, ∀ v ∈ cMember x, ∃ u, v = .sc u := by intro x v hv; simp only [List.mem_cons, List.not_mem_nil, or_false] at hv; rcases hv with rfl | rfl | rfl <;> exact ⟨_, rfl⟩
theorem sc_move : ∀ x : TV.Move, ∀ v ∈ cMove x, ∃ u, v = .sc u := by intro x v hv; simp only [List.mem_cons, List.not_mem_nil, or_false] at hv; rcases hv with rfl | rfl <;> exact ⟨_, rfl⟩
theorem sc_int : ∀ x : Int, ∀ v ∈ cI x, ∃ u, v = .sc u := by intro x v hv; simp only [List.mem_cons, List.not_mem_nil, or_false] at hv; subst hv; exact ⟨_, rfl⟩
theorem StaAt.own {σ : Store} {b : Nat} {s : Stance} (h : StaAt σ b s) (d : Nat) : ownL (own σ (d + 1)) (staV b s) = some (cStance s, [b, b + 1, b + 2, b + 3]) := by
  unfold staV
  simp only [ownL, own_sc, own_rows (d := d) h.j (fun _ => rfl) sc_joint, own_rows (d := d) h.m (fun _ => rfl) sc_member, own_rows (d := d) h.l (fun _ => rfl) sc_int, own_rows (d := d) h.x (fun _ => rfl) sc_int]
  rfl
abbrev staI (n : Nat) : Stance × Nat → List Nat := fun p => [n + 7 + 10 * p.2, n + 7 + 10 * p.2 + 1, n + 7 + 10 * p.2 + 2, n + 7 + 10 * p.2 + 3]
theorem flat_idx {α β : Type} (c : α → List β) (xs : List α) (k : Nat) : (xs.zipIdx k).flatMap (fun p => c p.1) = xs.flatMap c := by
  induction xs generalizing k with
  | nil => rfl
  | cons x xs ih => rw [List.zipIdx_cons, List.flatMap_cons, List.flatMap_cons, ih]
theorem StasAt.own {σ : Store} {n : Nat} {xs : List Stance} (h : StasAt σ n xs) (d : Nat) : own σ (d + 2) (.rs n 0 xs.length) = some (LL cStance xs, n :: xs.zipIdx.flatMap (staI n)) := by
  have hl := slots_len (c := staC n) (s := 5) (fun _ => rfl) xs.zipIdx
  rw [List.length_zipIdx] at hl
  refine own_rs h.b hl.symm ?_
  have := flat_idx cStance xs 0
  rw [← this]
  refine ownL_flat fun p hp => ?_
  obtain ⟨s, i⟩ := p
  have hp' := List.mem_zipIdx hp
  have hi : i < xs.length := by omega
  have hs := h.s i hi
  have he : xs[i] = s := by rw [hp'.2.2]; simp
  rw [he] at hs
  exact hs.own d
theorem StasAt.frame {σ σ' : Store} {n : Nat} {xs : List Stance} (h : StasAt σ n xs) (hs : ∀ c, n ≤ c → c < n + 1 + 10 * xs.length → σ' c = σ c) : StasAt σ' n xs :=
  ⟨by rw [hs _ (by omega) (by omega)]; exact h.b, fun j hj => (h.s j hj).frame fun c h1 h2 => hs c (by omega) (by omega)⟩
/-- A yard that lies in the blocks from n on. -/
structure YardAt (σ : Store) (n : Nat) (y : Yard) : Prop where
  s : StasAt σ n y.stances
  m : σ (n + 1 + 10 * y.stances.length) = some ⟨y.moves.flatMap cMove, 2, true⟩
def yardV (n : Nat) (y : Yard) : List V := [.rs n 0 y.stances.length, .rs (n + 1 + 10 * y.stances.length) 0 y.moves.length, Bo y.strict]
def yardI (n : Nat) (y : Yard) : List Nat := (n :: y.stances.zipIdx.flatMap (staI n)) ++ [n + 1 + 10 * y.stances.length]
theorem yardI_in {n : Nat} {y : Yard} {b : Nat} (h : b ∈ yardI n y) : n ≤ b ∧ b < n + 2 + 10 * y.stances.length := by
  unfold yardI at h
  rcases List.mem_append.mp h with h | h
  · rcases List.mem_cons.mp h with rfl | h
    · omega
    · obtain ⟨p, hp, hb⟩ := List.mem_flatMap.mp h
      have := List.mem_zipIdx hp
      simp only [List.mem_cons, List.not_mem_nil, or_false] at hb
      omega
  · simp only [List.mem_singleton] at h; omega
theorem YardAt.frame {σ σ' : Store} {n : Nat} {y : Yard} (h : YardAt σ n y) (hs : ∀ c, n ≤ c → c < n + 2 + 10 * y.stances.length → σ' c = σ c) : YardAt σ' n y :=
  ⟨h.s.frame fun c h1 h2 => hs c h1 (by omega), by rw [hs _ (by omega) (by omega)]; exact h.m⟩
theorem YardAt.own {σ : Store} {n : Nat} {y : Yard} (h : YardAt σ n y) (d : Nat) : own σ (d + 3) (.agg (yardV n y)) = some (.agg (cYard y), yardI n y) := by
  have h1 := h.s.own d
  have h2 := own_rows (d := d + 1) h.m (fun _ => rfl) sc_move
  unfold yardV yardI
  unfold TV.own
  simp only [ownL, h1, h2, own_sc]
  simp
theorem YardAt.strip {σ : Store} {n : Nat} {y : Yard} (h : YardAt σ n y) (d : Nat) : TV.strip σ (d + 3) (.agg (yardV n y)) = some (.agg (cYard y), yardI n y) := own_strip 3 _ _ _ (h.own 0) _ (by omega)
theorem toYardM (y : Yard) (h : okYard y) (σ0 : Store) (n : Nat) : ∃ σ, ev Try.prog convM extM 29 [.agg (cYard y)] σ0 n = some (.agg (yardV (n + 3) y), σ, n + 5 + 10 * y.stances.length) ∧ YardAt σ (n + 3) y ∧ ∀ b, b < n → σ b = σ0 b := by
  have h2 := fun σ n => toMoveSM _ h.2.1 σ n
  have e1 : ¬n = n + 1 := by omega
  have e2 : ¬n = n + 1 + 1 := by omega
  have e3 : ¬n + 1 = n + 1 + 1 := by omega
  have e4 : ¬n + 1 = n + 4 + 10 * y.stances.length := by omega
  have e5 : ¬n + 1 + 1 = n + 4 + 10 * y.stances.length := by omega
  have e6 : ¬n = n + 4 + 10 * y.stances.length := by omega
  obtain ⟨σ1, hs⟩ : ∃ σ1, σ1 = upd (upd (upd σ0 n (some ⟨cYard y, 0, true⟩)) (n + 1) (some ⟨[.nil, .nil, Bo false], 0, true⟩)) (n + 1 + 1) (some ⟨[.nil, .nil, Bo false], 0, true⟩) := ⟨_, rfl⟩
  have q0 : σ1 n = some ⟨cYard y, 0, true⟩ := by rw [hs]; simp [upd, e1, e2]
  have q1 : σ1 (n + 1) = some ⟨[.nil, .nil, Bo false], 0, true⟩ := by rw [hs]; simp [upd, e3]
  have q2 : σ1 (n + 1 + 1) = some ⟨[.nil, .nil, Bo false], 0, true⟩ := by rw [hs]; simp [upd]
  obtain ⟨σ2, k1, s1, f1⟩ := toStanceSM _ h.1 σ1 (n + 1 + 1 + 1)
  have g0 : σ2 n = some ⟨cYard y, 0, true⟩ := by rw [f1 n (by omega), q0]
  have g1 : σ2 (n + 1) = some ⟨[.nil, .nil, Bo false], 0, true⟩ := by rw [f1 (n + 1) (by omega), q1]
  have g2 : σ2 (n + 1 + 1) = some ⟨[.nil, .nil, Bo false], 0, true⟩ := by rw [f1 (n + 1 + 1) (by omega), q2]
  have n1 : n + 1 + 1 + 1 + 1 = n + 4 := rfl
  rw [n1] at k1
  rw [ev_eqQ (rs := [.cell 2 59]) [] rfl Try.func29 rfl rfl (by kernel_rfl) (by kernel_rfl)]
  simp only [go_sem, call_inl, e1, e2, e3, e4, e5, e6, ← hs, k1, h2, g0, g1, g2, q0, q1, q2]
  have z1 : n + 3 + 1 + 10 * y.stances.length = n + 4 + 10 * y.stances.length := by omega
  refine ⟨_, by unfold yardV; rw [z1, show n + 4 + 10 * y.stances.length + 1 = n + 5 + 10 * y.stances.length by omega], ⟨s1.frame fun c h1 h2 => ?_, ?_⟩, fun b hb => ?_⟩
  · simp only [upd]
    repeat' rw [if_neg (by omega)]
  · rw [z1]
    simp [upd]
    repeat' rw [if_neg (by omega)]
  · simp only [upd]
    repeat' rw [if_neg (by omega)]
    rw [f1 b (by omega), hs]
    simp only [upd]
    repeat' rw [if_neg (by omega)]
end Go.Proofs.Ytlkpocljgikpgaa
namespace Go.Proofs.Ytlkpocljgikpgaa
open Go Go.TV

/-! ### Marks of rows -/
theorem cvt8i (k : IntKind) (n : Int) (σ : Store) : evConvert Try.prog 3 5 (.sc (.int k n)) σ = some (.sc (.int .u8 (IntKind.u8.wrap n))) := ev_cvt u3 u8t
attribute [go_sem] cvt8i
theorem wrap_u8 {n : Int} (h0 : 0 ≤ n) (h1 : n < 256) : IntKind.u8.wrap n = n := by
  unfold IntKind.wrap
  have e1 : IntKind.u8.signed = false := by decide
  have e2 : IntKind.u8.bits = 8 := by decide
  simp only [e1, e2, Bool.false_and]
  rw [if_neg (by simp)]
  omega
theorem markText (k : Nat) (h0 : 0 < k) (hk : k ≤ 100000000000000000) : fn Try.prog conv ext 105 [I k] = some (Sg (mT k)) := by
  have c1 : ¬(k : Int) ≤ 0 := by omega
  have k0 : 0 ≤ k := by omega
  rw [fn_eq, ev_eqQ (rs := [.tmp 2]) [] rfl Try.func105 rfl rfl (by kernel_rfl) (by kernel_rfl)]
  simp only [go_sem, c1]
  generalize hL : evLoopI _ _ = y
  obtain ⟨r, rfl, T', σ', nx', rfl, h1⟩ := loop_rule hL (fun n s => ∃ acc : ByteArray, s.T 0 = I n ∧ s.T 3 = Sg acc ∧ mTd n acc = mTd k ⟨#[]⟩ ∧ acc.size + n ≤ k)
    (fun r => ∃ T σ nx, r = (.exit 0, ⟨T, σ, nx⟩) ∧ T 3 = Sg (mTd k ⟨#[]⟩)) (by
      clear hL
      rintro n ⟨T, σ, nx⟩ ⟨acc, h0, h3, hm, hs⟩
      simp only at h0 h3
      by_cases hn : n = 0
      · subst hn
        right
        have f1 : ¬(0 : Int) < ((0 : Nat) : Int) := by omega
        refine ⟨_, by simp only [go_sem, h0, f1]; rfl, by simp, _, _, _, rfl, ?_⟩
        simp only [go_sem, h3]
        have e0 : mTd 0 acc = acc := by unfold mTd; rw [dif_pos rfl]
        rw [← hm, e0]
      · left
        have f1 : (0 : Int) < (n : Int) := by omega
        have f2 : ((n : Int).tmod 10) = ((n % 10 : Nat) : Int) := by rw [Int.tmod_eq_emod_of_nonneg (by omega)]; omega
        have f3 : ((n : Int).tdiv 10) = ((n / 10 : Nat) : Int) := by rw [Int.tdiv_eq_ediv_of_nonneg (by omega)]; omega
        have f4 := wrap_id (n := 48 + ((n % 10 : Nat) : Int)) (by omega) (by omega)
        have f5 := wrap_u8 (n := 48 + ((n % 10 : Nat) : Int)) (by omega) (by omega)
        have f6 := wrap_id (n := ((n / 10 : Nat) : Int)) (by omega) (by omega)
        have f7 : (0 : Int) ≤ 48 + ((n % 10 : Nat) : Int) := by omega
        have f8 : 48 + ((n % 10 : Nat) : Int) < 256 := by omega
        have f9 : (48 + ((n % 10 : Nat) : Int)).toNat = 48 + n % 10 := by omega
        have f10 : (⟨#[UInt8.ofNat (48 + n % 10)]⟩ : ByteArray).size + acc.size ≤ 9223372036854775807 := by
          have : (⟨#[UInt8.ofNat (48 + n % 10)]⟩ : ByteArray).size = 1 := rfl
          omega
        have f11 : (10 : Int) ≠ 0 := by decide
        refine ⟨_, by simp only [go_sem, h0, h3, f1, f2, f3, f4, f5, f6, f7, f8, f9, f10, f11]; rfl, n / 10, by omega, ⟨#[UInt8.ofNat (48 + n % 10)]⟩ ++ acc, ?_, ?_, ?_, ?_⟩
        · simp only [go_sem]
        · simp only [go_sem]
        · rw [← hm]
          conv => rhs; unfold mTd
          rw [dif_neg hn]
        · rw [size_app]
          have : (⟨#[UInt8.ofNat (48 + n % 10)]⟩ : ByteArray).size = 1 := rfl
          omega) k ⟨⟨#[]⟩, by simp only [go_sem], by simp only [go_sem], rfl, by simp [ByteArray.size]⟩
  have g1 : (⟨#[109]⟩ : ByteArray).size + (mTd k ⟨#[]⟩).size ≤ 9223372036854775807 := by
    have := mTd_size k ⟨#[]⟩
    have e : (⟨#[109]⟩ : ByteArray).size = 1 := rfl
    have e2 : (⟨#[]⟩ : ByteArray).size = 0 := rfl
    omega
  simp only [go_sem, h1, g1]
  rfl
/-- What marking writes into joints and members. -/
def mJ1 (k : Nat) : Joint := ⟨mT k, ((k + 1 : Nat) : Int), ((k + 2 : Nat) : Int), (((k + 3 : Nat) : Int).tmod 3 == 0)⟩
def mM1 (k : Nat) : Member := ⟨(k : Int), ((k + 1 : Nat) : Int), ((k + 2 : Nat) : Int)⟩
def mV1 (k : Nat) : TV.Move := ⟨(k : Int), ((k + 1 : Nat) : Int)⟩
def mRow {α : Type} (f : Nat → α) (s k n : Nat) : List α := (List.range n).map fun i => f (k + s * i)
theorem mRow_len {α : Type} (f : Nat → α) (s k n : Nat) : (mRow f s k n).length = n := by simp [mRow]
theorem mRow_succ {α : Type} (f : Nat → α) (s k n : Nat) : mRow f s k (n + 1) = mRow f s k n ++ [f (k + s * n)] := by simp [mRow, List.range_succ]
theorem mRow_get {α : Type} (f : Nat → α) (s k n i : Nat) (h : i < (mRow f s k n).length) : (mRow f s k n)[i] = f (k + s * i) := by simp [mRow]
theorem set_at {P Q : List V} {n : Nat} (hP : P.length = n) (j : Nat) (v : V) : (P ++ Q).set (n + j) v = P ++ Q.set j v := by
  rw [List.set_append_right _ _ (by omega), hP]
  congr 2
  omega
theorem row_split {α : Type} {c : α → List V} {s : Nat} (hc : ∀ x, (c x).length = s) (f : Nat → α) (t k : Nat) (xs : List α) (i : Nat) (h : i < xs.length) :
    (mRow f t k i ++ xs.drop i).flatMap c = (mRow f t k i).flatMap c ++ (c xs[i] ++ (xs.drop (i + 1)).flatMap c) ∧ ((mRow f t k i).flatMap c).length = i * s ∧
    (mRow f t k (i + 1) ++ xs.drop (i + 1)).flatMap c = (mRow f t k i).flatMap c ++ (c (f (k + t * i)) ++ (xs.drop (i + 1)).flatMap c) := by
  refine ⟨?_, ?_, ?_⟩
  · rw [List.flatMap_append, List.drop_eq_getElem_cons h, List.flatMap_cons]
  · rw [slots_len hc, mRow_len]
  · rw [mRow_succ, List.flatMap_append, List.flatMap_append, List.append_assoc]
    simp
theorem markJointS {σ : Store} {nx b : Nat} (xs : List Joint) (hb : σ b = some ⟨xs.flatMap cJoint, 4, true⟩) (hl : xs.length ≤ 1000000000000) (k : Nat) (h0 : 0 < k) (hk : k ≤ 10000000000000000) :
    ∃ σ', ev Try.prog convM extM 106 [.rs b 0 xs.length, I k] σ nx = some (I ((k + 4 * xs.length : Nat) : Int), σ', nx) ∧ σ' b = some ⟨(mRow mJ1 4 k xs.length).flatMap cJoint, 4, true⟩ ∧ ∀ c, ¬c = b → σ' c = σ c := by
  rw [ev_eqQ (rs := [.tmp 4]) [] rfl Try.func106 rfl rfl (by kernel_rfl) (by kernel_rfl)]
  simp only [go_sem]
  generalize hL : evLoopI _ _ = y
  obtain ⟨r, rfl, T', σ', rfl, h1, h2, h3⟩ := count_rule hL xs.length (fun i s => s.nx = nx ∧ s.T 0 = .rs b 0 xs.length ∧ s.T 1 = I ((k + 4 * i : Nat) : Int) ∧ s.T 5 = I i ∧ s.σ b = some ⟨(mRow mJ1 4 k i ++ xs.drop i).flatMap cJoint, 4, true⟩ ∧ ∀ c, ¬c = b → s.σ c = σ c)
    (fun r => ∃ T σ', r = (.exit 0, ⟨T, σ', nx⟩) ∧ T 1 = I ((k + 4 * xs.length : Nat) : Int) ∧ σ' b = some ⟨(mRow mJ1 4 k xs.length).flatMap cJoint, 4, true⟩ ∧ ∀ c, ¬c = b → σ' c = σ c) (by
      clear hL
      rintro i ⟨T, τ, m⟩ hlt ⟨hn, h0', h1, h5, hs, hf⟩
      simp only at hn h0' h1 h5 hs hf
      subst hn
      have f1 : (i : Int) < (xs.length : Int) := by omega
      have f2 : (0 : Int) ≤ (i : Int) := by omega
      have f3 := wrap_id (n := (i : Int) + 1) (by omega) (by omega)
      have t1 : ((k + 4 * i : Nat) : Int) + 1 = ((k + 4 * i + 1 : Nat) : Int) := by omega
      have t2 : ((k + 4 * i + 1 : Nat) : Int) + 1 = ((k + 4 * i + 2 : Nat) : Int) := by omega
      have t3 : ((k + 4 * i + 2 : Nat) : Int) + 1 = ((k + 4 * i + 3 : Nat) : Int) := by omega
      have t4 : ((k + 4 * i + 3 : Nat) : Int) + 1 = ((k + 4 * i + 4 : Nat) : Int) := by omega
      have w1 := wrap_id (n := ((k + 4 * i + 1 : Nat) : Int)) (by omega) (by omega)
      have w2 := wrap_id (n := ((k + 4 * i + 2 : Nat) : Int)) (by omega) (by omega)
      have w3 := wrap_id (n := ((k + 4 * i + 3 : Nat) : Int)) (by omega) (by omega)
      have w4 := wrap_id (n := ((k + 4 * i + 4 : Nat) : Int)) (by omega) (by omega)
      have m1 := markText (k + 4 * i) (by omega) (by omega)
      obtain ⟨q1, q2, q3⟩ := row_split (c := cJoint) (s := 4) (fun _ => rfl) mJ1 4 k xs i hlt
      rw [q1] at hs
      rw [q3]
      generalize (mRow mJ1 4 k i).flatMap cJoint = P at *
      generalize (xs.drop (i + 1)).flatMap cJoint = Q at *
      have p0 : ∀ (R : List V) (v : V), (P ++ R).set (i * 4) v = P ++ R.set 0 v := fun R v => set_at q2 0 v
      have p1 : ∀ (R : List V) (j : Nat) (v : V), (P ++ R).set (i * 4 + j) v = P ++ R.set j v := fun R j v => set_at q2 j v
      have p2 : ∀ R : List V, (P ++ R).length = i * 4 + R.length := fun R => by rw [List.length_append, q2]
      have c0 : i * 4 < i * 4 + (Q.length + 1 + 1 + 1 + 1) := by omega
      have c1 : i * 4 + 1 < i * 4 + (Q.length + 1 + 1 + 1 + 1) := by omega
      have c2 : i * 4 + 2 < i * 4 + (Q.length + 1 + 1 + 1 + 1) := by omega
      have c3 : i * 4 + 3 < i * 4 + (Q.length + 1 + 1 + 1 + 1) := by omega
      have c4 : (3 : Int) ≠ 0 := by decide
      refine .inl ⟨_, by simp only [go_sem, h0', h1, h5, hs, f1, f2, f3, t1, t2, t3, t4, w1, w2, w3, w4, m1, p0, p1, p2, c0, c1, c2, c3, c4]; rfl, ?_⟩
      simp only [go_sem, h0']
      refine ⟨by rw [show k + 4 * (i + 1) = k + 4 * i + 4 by omega], rfl, rfl, fun c hc => ?_⟩
      rw [upd_ne _ _ hc]; exact hf c hc) (by
      clear hL
      rintro ⟨T, τ, m⟩ ⟨hn, h0', h1, h5, hs, hf⟩
      simp only at hn h0' h1 h5 hs hf
      subst hn
      refine ⟨_, by simp only [go_sem, h0', h5, Int.lt_irrefl]; rfl, by simp, _, _, rfl, by simp only [go_sem, h1], ?_, hf⟩
      rw [hs, List.drop_length, List.append_nil]) (by
      simp only [go_sem]
      rw [hb]

      exact ⟨by first | rfl | trivial, fun _ _ => trivial⟩)
  simp only [go_sem, h1]
  exact ⟨_, rfl, h2, h3⟩
theorem markMemberS {σ : Store} {nx b : Nat} (xs : List Member) (hb : σ b = some ⟨xs.flatMap cMember, 3, true⟩) (hl : xs.length ≤ 1000000000000) (k : Nat) (h0 : 0 < k) (hk : k ≤ 10000000000000000) :
    ∃ σ', ev Try.prog convM extM 107 [.rs b 0 xs.length, I k] σ nx = some (I ((k + 3 * xs.length : Nat) : Int), σ', nx) ∧ σ' b = some ⟨(mRow mM1 3 k xs.length).flatMap cMember, 3, true⟩ ∧ ∀ c, ¬c = b → σ' c = σ c := by
  rw [ev_eqQ (rs := [.tmp 4]) [] rfl Try.func107 rfl rfl (by kernel_rfl) (by kernel_rfl)]
  simp only [go_sem]
  generalize hL : evLoopI _ _ = y
  obtain ⟨r, rfl, T', σ', rfl, h1, h2, h3⟩ := count_rule hL xs.length (fun i s => s.nx = nx ∧ s.T 0 = .rs b 0 xs.length ∧ s.T 1 = I ((k + 3 * i : Nat) : Int) ∧ s.T 5 = I i ∧ s.σ b = some ⟨(mRow mM1 3 k i ++ xs.drop i).flatMap cMember, 3, true⟩ ∧ ∀ c, ¬c = b → s.σ c = σ c)
    (fun r => ∃ T σ', r = (.exit 0, ⟨T, σ', nx⟩) ∧ T 1 = I ((k + 3 * xs.length : Nat) : Int) ∧ σ' b = some ⟨(mRow mM1 3 k xs.length).flatMap cMember, 3, true⟩ ∧ ∀ c, ¬c = b → σ' c = σ c) (by
      clear hL
      rintro i ⟨T, τ, m⟩ hlt ⟨hn, h0', h1, h5, hs, hf⟩
      simp only at hn h0' h1 h5 hs hf
      subst hn
      have f1 : (i : Int) < (xs.length : Int) := by omega
      have f2 : (0 : Int) ≤ (i : Int) := by omega
      have f3 := wrap_id (n := (i : Int) + 1) (by omega) (by omega)
      have t1 : ((k + 3 * i : Nat) : Int) + 1 = ((k + 3 * i + 1 : Nat) : Int) := by omega
      have t2 : ((k + 3 * i + 1 : Nat) : Int) + 1 = ((k + 3 * i + 2 : Nat) : Int) := by omega
      have t3 : ((k + 3 * i + 2 : Nat) : Int) + 1 = ((k + 3 * i + 3 : Nat) : Int) := by omega
      have w1 := wrap_id (n := ((k + 3 * i + 1 : Nat) : Int)) (by omega) (by omega)
      have w2 := wrap_id (n := ((k + 3 * i + 2 : Nat) : Int)) (by omega) (by omega)
      have w3 := wrap_id (n := ((k + 3 * i + 3 : Nat) : Int)) (by omega) (by omega)
      obtain ⟨q1, q2, q3⟩ := row_split (c := cMember) (s := 3) (fun _ => rfl) mM1 3 k xs i hlt
      rw [q1] at hs
      rw [q3]
      generalize (mRow mM1 3 k i).flatMap cMember = P at *
      generalize (xs.drop (i + 1)).flatMap cMember = Q at *
      have p0 : ∀ (R : List V) (v : V), (P ++ R).set (i * 3) v = P ++ R.set 0 v := fun R v => set_at q2 0 v
      have p1 : ∀ (R : List V) (j : Nat) (v : V), (P ++ R).set (i * 3 + j) v = P ++ R.set j v := fun R j v => set_at q2 j v
      have p2 : ∀ R : List V, (P ++ R).length = i * 3 + R.length := fun R => by rw [List.length_append, q2]
      have c0 : i * 3 < i * 3 + (Q.length + 1 + 1 + 1) := by omega
      have c1 : i * 3 + 1 < i * 3 + (Q.length + 1 + 1 + 1) := by omega
      have c2 : i * 3 + 2 < i * 3 + (Q.length + 1 + 1 + 1) := by omega
      refine .inl ⟨_, by simp only [go_sem, h0', h1, h5, hs, f1, f2, f3, t1, t2, t3, w1, w2, w3, p0, p1, p2, c0, c1, c2]; rfl, ?_⟩
      simp only [go_sem, h0']
      refine ⟨by rw [show k + 3 * (i + 1) = k + 3 * i + 3 by omega], rfl, rfl, fun c hc => ?_⟩
      rw [upd_ne _ _ hc]; exact hf c hc) (by
      clear hL
      rintro ⟨T, τ, m⟩ ⟨hn, h0', h1, h5, hs, hf⟩
      simp only at hn h0' h1 h5 hs hf
      subst hn
      refine ⟨_, by simp only [go_sem, h0', h5, Int.lt_irrefl]; rfl, by simp, _, _, rfl, by simp only [go_sem, h1], ?_, hf⟩
      rw [hs, List.drop_length, List.append_nil]) (by
      simp only [go_sem]
      rw [hb]

      exact ⟨by first | rfl | trivial, fun _ _ => trivial⟩)
  simp only [go_sem, h1]
  exact ⟨_, rfl, h2, h3⟩
theorem markMoveS {σ : Store} {nx b : Nat} (xs : List TV.Move) (hb : σ b = some ⟨xs.flatMap cMove, 2, true⟩) (hl : xs.length ≤ 1000000000000) (k : Nat) (h0 : 0 < k) (hk : k ≤ 10000000000000000) :
    ∃ σ', ev Try.prog convM extM 74 [.rs b 0 xs.length, I k] σ nx = some (I ((k + 2 * xs.length : Nat) : Int), σ', nx) ∧ σ' b = some ⟨(mRow mV1 2 k xs.length).flatMap cMove, 2, true⟩ ∧ ∀ c, ¬c = b → σ' c = σ c := by
  rw [ev_eqQ (rs := [.tmp 4]) [] rfl Try.func74 rfl rfl (by kernel_rfl) (by kernel_rfl)]
  simp only [go_sem]
  generalize hL : evLoopI _ _ = y
  obtain ⟨r, rfl, T', σ', rfl, h1, h2, h3⟩ := count_rule hL xs.length (fun i s => s.nx = nx ∧ s.T 0 = .rs b 0 xs.length ∧ s.T 1 = I ((k + 2 * i : Nat) : Int) ∧ s.T 5 = I i ∧ s.σ b = some ⟨(mRow mV1 2 k i ++ xs.drop i).flatMap cMove, 2, true⟩ ∧ ∀ c, ¬c = b → s.σ c = σ c)
    (fun r => ∃ T σ', r = (.exit 0, ⟨T, σ', nx⟩) ∧ T 1 = I ((k + 2 * xs.length : Nat) : Int) ∧ σ' b = some ⟨(mRow mV1 2 k xs.length).flatMap cMove, 2, true⟩ ∧ ∀ c, ¬c = b → σ' c = σ c) (by
      clear hL
      rintro i ⟨T, τ, m⟩ hlt ⟨hn, h0', h1, h5, hs, hf⟩
      simp only at hn h0' h1 h5 hs hf
      subst hn
      have f1 : (i : Int) < (xs.length : Int) := by omega
      have f2 : (0 : Int) ≤ (i : Int) := by omega
      have f3 := wrap_id (n := (i : Int) + 1) (by omega) (by omega)
      have t1 : ((k + 2 * i : Nat) : Int) + 1 = ((k + 2 * i + 1 : Nat) : Int) := by omega
      have t2 : ((k + 2 * i + 1 : Nat) : Int) + 1 = ((k + 2 * i + 2 : Nat) : Int) := by omega
      have w1 := wrap_id (n := ((k + 2 * i + 1 : Nat) : Int)) (by omega) (by omega)
      have w2 := wrap_id (n := ((k + 2 * i + 2 : Nat) : Int)) (by omega) (by omega)
      obtain ⟨q1, q2, q3⟩ := row_split (c := cMove) (s := 2) (fun _ => rfl) mV1 2 k xs i hlt
      rw [q1] at hs
      rw [q3]
      generalize (mRow mV1 2 k i).flatMap cMove = P at *
      generalize (xs.drop (i + 1)).flatMap cMove = Q at *
      have p0 : ∀ (R : List V) (v : V), (P ++ R).set (i * 2) v = P ++ R.set 0 v := fun R v => set_at q2 0 v
      have p1 : ∀ (R : List V) (j : Nat) (v : V), (P ++ R).set (i * 2 + j) v = P ++ R.set j v := fun R j v => set_at q2 j v
      have p2 : ∀ R : List V, (P ++ R).length = i * 2 + R.length := fun R => by rw [List.length_append, q2]
      have c0 : i * 2 < i * 2 + (Q.length + 1 + 1) := by omega
      have c1 : i * 2 + 1 < i * 2 + (Q.length + 1 + 1) := by omega
      refine .inl ⟨_, by simp only [go_sem, h0', h1, h5, hs, f1, f2, f3, t1, t2, w1, w2, p0, p1, p2, c0, c1]; rfl, ?_⟩
      simp only [go_sem, h0']
      refine ⟨by rw [show k + 2 * (i + 1) = k + 2 * i + 2 by omega], rfl, rfl, fun c hc => ?_⟩
      rw [upd_ne _ _ hc]; exact hf c hc) (by
      clear hL
      rintro ⟨T, τ, m⟩ ⟨hn, h0', h1, h5, hs, hf⟩
      simp only at hn h0' h1 h5 hs hf
      subst hn
      refine ⟨_, by simp only [go_sem, h0', h5, Int.lt_irrefl]; rfl, by simp, _, _, rfl, by simp only [go_sem, h1], ?_, hf⟩
      rw [hs, List.drop_length, List.append_nil]) (by
      simp only [go_sem]
      rw [hb]

      exact ⟨by first | rfl | trivial, fun _ _ => trivial⟩)
  simp only [go_sem, h1]
  exact ⟨_, rfl, h2, h3⟩
end Go.Proofs.Ytlkpocljgikpgaa
namespace Go.Proofs.Ytlkpocljgikpgaa
open Go Go.TV

/-! ### Marks of a yard: only what stays is told -/
theorem markInts_at {σ : Store} {nx b : Nat} {xs : List Int} (hb : σ b = some ⟨xs.flatMap cI, 1, true⟩) (hl : xs.length ≤ 1000000000000) (k : Nat) (hk : k ≤ 10000000000000000) :
    ∃ σ', ev Try.prog convM extM 34 [.rs b 0 xs.length, I k] σ nx = some (I ((k + xs.length : Nat) : Int), σ', nx) ∧ ∀ c, ¬c = b → σ' c = σ c := by
  obtain ⟨σ', h1, _, h2⟩ := markIntS (nx := nx) (own_of_rs (d := 0) hb (by omega)) hl k (by omega)
  refine ⟨σ', by rw [h1, show (k : Int) + (xs.length : Int) = ((k + xs.length : Nat) : Int) by omega], fun c hc => h2 c (by simpa using hc)⟩
theorem markStanceS {σ : Store} {nx n : Nat} (xs : List Stance) (hx : StasAt σ n xs) (hs : ∀ i (h : i < xs.length), stSmall xs[i]) (hl : xs.length ≤ 1048576) (k : Nat) (h0 : 0 < k) (hk : k ≤ 1000000) :
    ∃ (k' : Nat) (σ' : Store), ev Try.prog convM extM 73 [.rs n 0 xs.length, I k] σ nx = some (I k', σ', nx) ∧ k ≤ k' ∧ k' ≤ k + 9437185 * xs.length ∧ ∀ c, c < n ∨ n + 1 + 10 * xs.length ≤ c → σ' c = σ c := by
  rw [ev_eqQ (rs := [.tmp 4]) [] rfl Try.func73 rfl rfl (by kernel_rfl) (by kernel_rfl)]
  simp only [go_sem]
  generalize hL : evLoopI _ _ = y
  have hz : xs.zipIdx.length = xs.length := List.length_zipIdx
  obtain ⟨r, rfl, k', T', σ', rfl, h1, h2, h3, h4⟩ := count_rule hL xs.length (fun i s => ∃ (kk : Nat) (A : List V), s.nx = nx ∧ s.T 0 = .rs n 0 xs.length ∧ s.T 1 = I kk ∧ s.T 5 = I i ∧ k ≤ kk ∧ kk ≤ k + 9437185 * i ∧ A.length = i * 5 ∧ s.σ n = some ⟨A ++ (xs.zipIdx.drop i).flatMap (staC n), 5, true⟩ ∧ (∀ c, n + 7 + 10 * i ≤ c → s.σ c = σ c) ∧ ∀ c, c < n ∨ n + 1 + 10 * xs.length ≤ c → s.σ c = σ c)
    (fun r => ∃ (k' : Nat) (T : Nat → V) (σ' : Store), r = (.exit 0, ⟨T, σ', nx⟩) ∧ T 1 = I k' ∧ k ≤ k' ∧ k' ≤ k + 9437185 * xs.length ∧ ∀ c, c < n ∨ n + 1 + 10 * xs.length ≤ c → σ' c = σ c) (by
      clear hL
      rintro i ⟨T, τ, m⟩ hlt ⟨kk, A, hn, h0', h1, h5, g1, g2, hA, hs', hf, hg⟩
      simp only at hn h0' h1 h5 hs' hf hg
      subst hn
      have f1 : (i : Int) < (xs.length : Int) := by omega
      have f2 : (0 : Int) ≤ (i : Int) := by omega
      have f3 := wrap_id (n := (i : Int) + 1) (by omega) (by omega)
      have sm := hs i hlt
      obtain ⟨s1, s2, s3, s4⟩ := sm
      have sa := hx.s i hlt
      have hd : (xs.zipIdx.drop i).flatMap (staC n) = staV (n + 7 + 10 * i) xs[i] ++ (xs.zipIdx.drop (i + 1)).flatMap (staC n) := by
        rw [List.drop_eq_getElem_cons (by omega), List.flatMap_cons, List.getElem_zipIdx, Nat.zero_add]
      rw [hd] at hs'
      generalize (xs.zipIdx.drop (i + 1)).flatMap (staC n) = Q at *
      generalize xs[i] = s at *
      have a1 : τ (n + 7 + 10 * i) = some ⟨s.st.joints.flatMap cJoint, 4, true⟩ := by rw [hf _ (by omega)]; exact sa.j
      have a2 : τ (n + 7 + 10 * i + 1) = some ⟨s.st.members.flatMap cMember, 3, true⟩ := by rw [hf _ (by omega)]; exact sa.m
      have a3 : τ (n + 7 + 10 * i + 2) = some ⟨s.load.flatMap cI, 1, true⟩ := by rw [hf _ (by omega)]; exact sa.l
      have a4 : τ (n + 7 + 10 * i + 3) = some ⟨s.limits.flatMap cI, 1, true⟩ := by rw [hf _ (by omega)]; exact sa.x
      have t1 : (kk : Int) + 1 = ((kk + 1 : Nat) : Int) := by omega
      have w1 := wrap_id (n := ((kk + 1 : Nat) : Int)) (by omega) (by omega)
      have m0 := markText kk (by omega) (by omega)
      obtain ⟨τ1, ht1⟩ : ∃ τ1, τ1 = upd τ n (some ⟨A ++ (Sg (mT kk) :: .rs (n + 7 + 10 * i) 0 s.st.joints.length :: .rs (n + 7 + 10 * i + 1) 0 s.st.members.length :: .rs (n + 7 + 10 * i + 2) 0 s.load.length :: .rs (n + 7 + 10 * i + 3) 0 s.limits.length :: Q), 5, true⟩) := ⟨_, rfl⟩
      have b1 : τ1 n = some ⟨A ++ (Sg (mT kk) :: .rs (n + 7 + 10 * i) 0 s.st.joints.length :: .rs (n + 7 + 10 * i + 1) 0 s.st.members.length :: .rs (n + 7 + 10 * i + 2) 0 s.load.length :: .rs (n + 7 + 10 * i + 3) 0 s.limits.length :: Q), 5, true⟩ := by rw [ht1, upd_same]
      have u1 : ∀ c, ¬c = n → τ1 c = τ c := fun c hc => by rw [ht1, upd_ne _ _ hc]
      obtain ⟨τ2, k2, _, u2⟩ := markJointS (σ := τ1) (b := n + 7 + 10 * i) (nx := m) s.st.joints (by rw [u1 _ (by omega)]; exact a1) (by omega) (kk + 1) (by omega) (by omega)
      have b2 := u2 n (by omega)
      rw [b1] at b2
      obtain ⟨τ3, k3, _, u3⟩ := markMemberS (σ := τ2) (b := n + 7 + 10 * i + 1) (nx := m) s.st.members (by rw [u2 _ (by omega), u1 _ (by omega)]; exact a2) (by omega) (kk + 1 + 4 * s.st.joints.length) (by omega) (by omega)
      have b3 := u3 n (by omega)
      rw [b2] at b3
      obtain ⟨τ4, k4, u4⟩ := markInts_at (σ := τ3) (b := n + 7 + 10 * i + 2) (nx := m) (xs := s.load) (by rw [u3 _ (by omega), u2 _ (by omega), u1 _ (by omega)]; exact a3) (by omega) (kk + 1 + 4 * s.st.joints.length + 3 * s.st.members.length) (by omega)
      have b4 := u4 n (by omega)
      rw [b3] at b4
      obtain ⟨τ5, k5, u5⟩ := markInts_at (σ := τ4) (b := n + 7 + 10 * i + 3) (nx := m) (xs := s.limits) (by rw [u4 _ (by omega), u3 _ (by omega), u2 _ (by omega), u1 _ (by omega)]; exact a4) (by omega) (kk + 1 + 4 * s.st.joints.length + 3 * s.st.members.length + s.load.length) (by omega)
      have b5 := u5 n (by omega)
      rw [b4] at b5
      have p0 : ∀ (R : List V) (v : V), (A ++ R).set (i * 5) v = A ++ R.set 0 v := fun R v => set_at hA 0 v
      have p2 : ∀ R : List V, (A ++ R).length = i * 5 + R.length := fun R => by rw [List.length_append, hA]
      have p3 : ∀ (R : List V) (j : Nat), (A ++ R)[i * 5 + j]? = R[j]? := fun R j => by rw [List.getElem?_append_right (by omega), hA]; congr 1; omega
      have p4 : ∀ R : List V, (A ++ R)[i * 5 + 1 + 1]? = R[2]? := fun R => p3 R 2
      have c0 : i * 5 < i * 5 + (Q.length + 1 + 1 + 1 + 1 + 1) := by omega
      have e0 : A ++ (staV (n + 7 + 10 * i) s ++ Q) = A ++ (Sg s.name :: .rs (n + 7 + 10 * i) 0 s.st.joints.length :: .rs (n + 7 + 10 * i + 1) 0 s.st.members.length :: .rs (n + 7 + 10 * i + 2) 0 s.load.length :: .rs (n + 7 + 10 * i + 3) 0 s.limits.length :: Q) := rfl
      rw [e0] at hs'
      refine .inl ⟨_, by simp only [go_sem, call_inl, h0', h1, h5, hs', f1, f2, f3, t1, w1, m0, p0, p2, p3, p4, c0, ← ht1, b1, k2, b2, k3, b3, k4, b4, k5]; rfl, ?_⟩
      simp only [go_sem, h0']
      refine ⟨_, A ++ [Sg (mT kk), .rs (n + 7 + 10 * i) 0 s.st.joints.length, .rs (n + 7 + 10 * i + 1) 0 s.st.members.length, .rs (n + 7 + 10 * i + 2) 0 s.load.length, .rs (n + 7 + 10 * i + 3) 0 s.limits.length], rfl, rfl, by omega, by omega, ?_, ?_, fun c hc => ?_, fun c hc => ?_⟩
      · rw [List.length_append, hA]; simp; omega
      · rw [b5]; simp
      · rw [u5 c (by omega), u4 c (by omega), u3 c (by omega), u2 c (by omega), u1 c (by omega), hf c (by omega)]
      · rw [u5 c (by omega), u4 c (by omega), u3 c (by omega), u2 c (by omega), u1 c (by omega), hg c hc]) (by
      clear hL
      rintro ⟨T, τ, m⟩ ⟨kk, A, hn, h0', h1, h5, g1, g2, hA, hs', hf, hg⟩
      simp only at hn h0' h1 h5 hs' hf hg
      subst hn
      exact ⟨_, by simp only [go_sem, h0', h5, Int.lt_irrefl]; rfl, by simp, kk, _, _, rfl, by simp only [go_sem, h1], g1, g2, hg⟩) (by
      simp only [go_sem]
      refine ⟨k, [], ?_⟩
      rw [hx.b]
      simp)
  simp only [go_sem, h1]
  exact ⟨k', _, rfl, h2, h3, h4⟩
theorem markMoveS_at {σ : Store} {nx b : Nat} (xs : List TV.Move) (hb : σ b = some ⟨xs.flatMap cMove, 2, true⟩) (hl : xs.length ≤ 1048576) (k : Nat) (h0 : 0 < k) (hk : k ≤ 1000000000000000) :
    ∃ σ', ev Try.prog convM extM 74 [.rs b 0 xs.length, I k] σ nx = some (I ((k + 2 * xs.length : Nat) : Int), σ', nx) ∧ ∀ c, ¬c = b → σ' c = σ c := by
  obtain ⟨σ', h1, _, h2⟩ := markMoveS (nx := nx) xs hb (by omega) k h0 (by omega)
  exact ⟨σ', h1, h2⟩
theorem markYard {σ : Store} {nx n : Nat} (y : Yard) (hy : YardAt σ n y) (hn : n + 2 + 10 * y.stances.length ≤ nx) (hs : ∀ i (h : i < y.stances.length), stSmall y.stances[i]) (hl : y.stances.length ≤ 1048576) (hm : y.moves.length ≤ 1048576) :
    ∃ (k' : Nat) (σ' : Store), ev Try.prog convM extM 33 [.agg (yardV n y), I 1] σ nx = some (I k', σ', nx + 1) ∧ ∀ c, (c < n ∨ n + 2 + 10 * y.stances.length ≤ c) → c < nx → σ' c = σ c := by
  obtain ⟨σ0, h0⟩ : ∃ σ0, σ0 = upd σ nx (some ⟨[.rs n 0 y.stances.length, .rs (n + 1 + 10 * y.stances.length) 0 y.moves.length, Bo y.strict], 0, true⟩) := ⟨_, rfl⟩
  have u0 : ∀ c, c < nx → σ0 c = σ c := fun c hc => by rw [h0, upd_ne _ _ (by omega)]
  have y0 : YardAt σ0 n y := hy.frame fun c h1 h2 => u0 c (by omega)
  have b0 : σ0 nx = some ⟨[.rs n 0 y.stances.length, .rs (n + 1 + 10 * y.stances.length) 0 y.moves.length, Bo y.strict], 0, true⟩ := by rw [h0, upd_same]
  obtain ⟨k1, σ1, e1, g1, g2, f1⟩ := markStanceS (nx := nx + 1) y.stances y0.s hs hl 1 (by omega) (by omega)
  have b1 : σ1 nx = some ⟨[.rs n 0 y.stances.length, .rs (n + 1 + 10 * y.stances.length) 0 y.moves.length, Bo y.strict], 0, true⟩ := by rw [f1 nx (.inr (by omega))]; exact b0
  obtain ⟨σ2, e2, f2⟩ := markMoveS_at (σ := σ1) (b := n + 1 + 10 * y.stances.length) (nx := nx + 1) y.moves (by rw [f1 (n + 1 + 10 * y.stances.length) (.inr (Nat.le_refl _))]; exact y0.m) hm k1 (by omega) (by omega)
  have e1' : ev Try.prog convM extM 73 [.rs n 0 y.stances.length, I 1] σ0 (nx + 1) = some (I k1, σ1, nx + 1) := e1
  refine ⟨k1 + 2 * y.moves.length, σ2, ?_, fun c hc hlt => by rw [f2 c (by omega), f1 c (by omega), u0 c hlt]⟩
  rw [ev_eqQ (rs := [.tmp 4]) [] rfl Try.func33 rfl rfl (by kernel_rfl) (by kernel_rfl)]
  unfold yardV
  simp only [go_sem, call_inl, ← h0, b0, e1', b1, e2]
end Go.Proofs.Ytlkpocljgikpgaa
namespace Go.Proofs.Ytlkpocljgikpgaa
open Go Go.TV

/-! ### The next stances -/
abbrev cBo (b : Bool) : List V := [Bo b]
/-- The indices below n at which p holds. -/
def tru (p : Nat → Bool) (n : Nat) : List Int := ((List.range n).filter p).map fun (i : Nat) => (i : Int)
theorem tru_zero (p : Nat → Bool) : tru p 0 = [] := rfl
theorem tru_yes {p : Nat → Bool} {k : Nat} (h : p k = true) : tru p (k + 1) = tru p k ++ [(k : Int)] := by simp [tru, List.range_succ, List.filter_append, h]
theorem tru_no {p : Nat → Bool} {k : Nat} (h : p k = false) : tru p (k + 1) = tru p k := by simp [tru, List.range_succ, List.filter_append, h]
theorem tru_len (p : Nat → Bool) (n : Nat) : (tru p n).length ≤ n := by
  unfold tru
  rw [List.length_map]
  exact Nat.le_trans (List.length_filter_le _ _) (by simp)
theorem tru_congr {p q : Nat → Bool} {n : Nat} (h : ∀ i, i < n → p i = q i) : tru p n = tru q n := by
  unfold tru
  congr 1
  exact List.filter_congr fun i hi => h i (by simpa using hi)
/-- A grown slice of one's own. -/
theorem grow_own {T : Nat → V} {σ : Store} {nx t n0 : Nat} {acc : List Int} (h : Grow T σ nx t acc) (hb : ∀ b o l, T t = .rs b o l → n0 ≤ b) : ∃ ids, Own σ 1 (T t) (LI acc) ids ∧ ∀ b ∈ ids, n0 ≤ b ∧ b < nx := by
  rcases h with ⟨h1, rfl⟩ | ⟨b, h1, _, h2, h3⟩
  · rw [h1]; exact ⟨[], own_of_nil _ _, by simp⟩
  · rw [h1]
    exact ⟨[b], own_of_rs h2 (by omega), fun c hc => by have := hb _ _ _ h1; simp only [List.mem_singleton] at hc; omega⟩
theorem markedO (bs : List Bool) (hl : bs.length ≤ 1000) (nx : Nat) : ∃ v σ1 nx1 ids, ev Try.prog convM extM 102 [LL cBo bs] noStore nx = some (v, σ1, nx1) ∧ nx ≤ nx1 ∧ Own σ1 1 v (LI (tru (fun i => bs[i]? == some true) bs.length)) ids ∧ ∀ b ∈ ids, nx ≤ b ∧ b < nx1 := by
  rw [ev_eqQ (rs := [.tmp 2]) [] rfl Try.func102 rfl rfl (by kernel_rfl) (by kernel_rfl)]
  simp only [go_sem]
  generalize hL : evLoopI _ _ = y
  obtain ⟨r, rfl, T', σ', nx', rfl, h1, h2, h3⟩ := count_rule hL bs.length (fun k s => nx ≤ s.nx ∧ s.T 6 = LL cBo bs ∧ s.T 7 = I bs.length ∧ s.T 8 = I k ∧ Grow s.T s.σ s.nx 3 (tru (fun i => bs[i]? == some true) k) ∧ ∀ b o l, s.T 3 = .rs b o l → nx ≤ b)
    (fun r => ∃ T σ nx', r = (.exit 0, ⟨T, σ, nx'⟩) ∧ nx ≤ nx' ∧ Grow T σ nx' 3 (tru (fun i => bs[i]? == some true) bs.length) ∧ ∀ b o l, T 3 = .rs b o l → nx ≤ b) (by
      clear hL
      rintro k ⟨T, σ, m⟩ hlt ⟨hn, h6, h7, h8, hg, hb⟩
      simp only at hn h6 h7 h8 hg hb
      have f1 : (k : Int) < (bs.length : Int) := by omega
      have f2 : (0 : Int) ≤ (k : Int) := by omega
      have f3 := wrap_id (n := (k : Int) + 1) (by omega) (by omega)
      have f4 : (bs.flatMap cBo)[k]? = some (Bo bs[k]) := slot1 (fun b => Bo b) bs k hlt
      have f5 := slots_len (c := cBo) (s := 1) (fun _ => rfl) bs
      have f9 := slot_ne (c := cBo) (s := 1) (fun _ => rfl) (by omega) bs k hlt
      have hle := tru_len (fun i => bs[i]? == some true) k
      cases hp : bs[k] with
      | true =>
        have hq : (fun i => bs[i]? == some true) k = true := by simp [List.getElem?_eq_getElem hlt, hp]
        obtain ⟨σ', ha, hs⟩ := grow_append hg (k : Int) (by omega)
        refine .inl ⟨_, by simp only [go_sem, h6, h7, h8, f1, f2, f3, f4, f5, f9, hp, hlt, ha]; rfl, ?_⟩
        simp only [go_sem, h6, h7]
        rw [tru_yes hq]
        refine ⟨by omega, rfl, grow_new hs (by simp [go_sem]) (by simp), fun b o l h => ?_⟩
        simp only [V.rs.injEq] at h
        omega
      | false =>
        have hq : (fun i => bs[i]? == some true) k = false := by simp [List.getElem?_eq_getElem hlt, hp]
        refine .inl ⟨_, by simp only [go_sem, h6, h7, h8, f1, f2, f3, f4, f5, f9, hp, hlt]; rfl, ?_⟩
        simp only [go_sem, h6, h7]
        rw [tru_no hq]
        exact ⟨hn, rfl, grow_eq (by simp only [go_sem]) hg, hb⟩) (by
      clear hL
      rintro ⟨T, σ, m⟩ ⟨hn, h6, h7, h8, hg, hb⟩
      simp only at hn h6 h7 h8 hg hb
      exact ⟨_, by simp only [go_sem, h7, h8, Int.lt_irrefl]; rfl, by simp, _, _, _, rfl, hn, grow_eq (by simp only [go_sem]) hg, by simpa only [go_sem] using hb⟩) (by
      simp only [go_sem]
      exact ⟨.inl ⟨by simp only [go_sem], rfl⟩, by simp⟩)
  obtain ⟨ids, ho, hi⟩ := grow_own h2 h3
  simp only [go_sem]
  exact ⟨_, _, _, ids, rfl, h1, ho, hi⟩
/-- The stances to which a move leads from i. -/
def movesTo (ms : List TV.Move) (i : Int) (k : Nat) : Bool := ms.any fun m => (m.fr == i) && (m.to == (k : Int))
def flags (ms : List TV.Move) (i : Int) (n : Nat) : List Bool := (List.range n).map (movesTo ms i)
theorem flags_len (ms : List TV.Move) (i : Int) (n : Nat) : (flags ms i n).length = n := by simp [flags]
theorem flags_yes {ms : List TV.Move} {i : Int} {n : Nat} {m : TV.Move} (h : m.fr = i) (h0 : 0 ≤ m.to) : flags (ms ++ [m]) i n = (flags ms i n).set m.to.toNat true := by
  refine List.ext_getElem (by simp [flags]) fun j h1 h2 => ?_
  rw [List.getElem_set]
  simp only [flags, List.getElem_map, List.getElem_range, movesTo, List.any_append, List.any_cons, List.any_nil, h, BEq.rfl, Bool.true_and, Bool.or_false]
  split
  · rename_i e
    have : m.to = (j : Int) := by omega
    simp [this]
  · rename_i e
    have : ¬m.to = (j : Int) := by omega
    simp [this]
theorem flags_no {ms : List TV.Move} {i : Int} {n : Nat} {m : TV.Move} (h : ¬m.fr = i) : flags (ms ++ [m]) i n = flags ms i n := by
  refine List.ext_getElem (by simp [flags]) fun j h1 h2 => ?_
  simp only [flags, List.getElem_map, List.getElem_range, movesTo, List.any_append, List.any_cons, List.any_nil]
  have : (m.fr == i) = false := by simpa using h
  simp [this]
theorem flags_nil (i : Int) (n : Nat) : flags [] i n = List.replicate n false := by
  refine List.ext_getElem (by simp [flags]) fun j h1 h2 => ?_
  simp [flags, movesTo]
theorem rep_flags (n : Nat) : rep n [Bo false] = (List.replicate n false).flatMap cBo := by
  induction n with
  | zero => rfl
  | succ n ih => rw [rep_succ, ih, List.replicate_succ]; rfl
theorem cBo_set (xs : List Bool) (k : Nat) (b : Bool) : (xs.flatMap cBo).set k (Bo b) = (xs.set k b).flatMap cBo := by
  induction xs generalizing k with
  | nil => rfl
  | cons x xs ih =>
    cases k with
    | zero => rfl
    | succ k =>
      show Bo x :: (xs.flatMap cBo).set k (Bo b) = _
      rw [ih]; rfl
theorem yardNextO (y : Yard) (hg : YardGood y) (i : Int) (nx : Nat) : ∃ v σ1 nx1 ids, ev Try.prog convM extM 70 [.tp (cYard y) 0, I i] noStore nx = some (v, σ1, nx1) ∧ nx ≤ nx1 ∧ Own σ1 1 v (LI (tru (movesTo y.moves i) y.stances.length)) ids ∧ ∀ b ∈ ids, nx ≤ b ∧ b < nx1 := by
  obtain ⟨h6, h12, _, hm⟩ := hg
  have e1 : 1 * (y.stances.length : Int) ≤ 281474976710656 := by omega
  have e2 : (y.stances.length : Int) ≤ 9223372036854775807 := by omega
  have e3 : (0 : Int) ≤ (y.stances.length : Int) := by omega
  rw [ev_eqQ (rs := [.tmp 4]) [] rfl Try.func70 rfl rfl (by kernel_rfl) (by kernel_rfl)]
  simp only [go_sem, e1, e2, e3, Int.le_refl]
  generalize hL : evLoopI _ _ = z
  obtain ⟨r, rfl, T', σ', nx', rfl, h1, h2, h3⟩ := count_rule hL y.moves.length (fun k s => nx + 1 ≤ s.nx ∧ s.T 1 = I i ∧ s.T 5 = .rs nx 0 y.stances.length ∧ s.T 17 = LL cMove y.moves ∧ s.T 18 = I y.moves.length ∧ s.T 19 = I k ∧ s.σ nx = some ⟨(flags (y.moves.take k) i y.stances.length).flatMap cBo, 1, true⟩)
    (fun r => ∃ T σ nx', r = (.exit 0, ⟨T, σ, nx'⟩) ∧ nx + 1 ≤ nx' ∧ T 5 = .rs nx 0 y.stances.length ∧ σ nx = some ⟨(flags y.moves i y.stances.length).flatMap cBo, 1, true⟩) (by
      clear hL
      rintro k ⟨T, σ, m⟩ hlt ⟨hn, h1, h5, h17, h18, h19, hs⟩
      simp only at hn h1 h5 h17 h18 h19 hs
      have f1 : (k : Int) < (y.moves.length : Int) := by omega
      have f2 : (0 : Int) ≤ (k : Int) := by omega
      have f3 := wrap_id (n := (k : Int) + 1) (by omega) (by omega)
      have f4 := slot (c := cMove) (s := 2) (fun _ => rfl) y.moves k hlt
      have f5 := slots_len (c := cMove) (s := 2) (fun _ => rfl) y.moves
      have f6 : k * 2 + 2 ≤ y.moves.length * 2 := by omega
      have f9 := slot_ne (c := cMove) (s := 2) (fun _ => rfl) (by omega) y.moves k hlt
      have nz : ¬nx = m := by omega
      have nz' : ¬m = nx := by omega
      have ht : y.moves.take (k + 1) = y.moves.take k ++ [y.moves[k]] := by rw [List.take_add_one, List.getElem?_eq_getElem hlt]; rfl
      obtain ⟨_, _, m1, m2, _⟩ := (hm k hlt).1
      by_cases hp : y.moves[k].fr = i
      · have hp' : (y.moves[k].fr == i) = true := by simpa using hp
        have b1 : y.moves[k].to < (y.stances.length : Int) := m2
        have b2 : y.moves[k].to.toNat < y.stances.length := by omega
        have f7 : ((flags (y.moves.take k) i y.stances.length).flatMap cBo).length = y.stances.length := by rw [slots_len (c := cBo) (s := 1) (fun _ => rfl), flags_len, Nat.mul_one]
        have f8 := cBo_set (flags (y.moves.take k) i y.stances.length) y.moves[k].to.toNat true
        refine .inl ⟨_, by simp only [go_sem, h1, h5, h17, h18, h19, hs, f1, f2, f3, f4, f5, f6, f7, f8, f9, hp', m1, b1, b2, nz, nz']; rfl, ?_⟩
        simp only [go_sem, h1, h5, h17, h18]
        refine ⟨by omega, ?_⟩
        rw [ht, flags_yes hp m1]
        exact ⟨rfl, rfl⟩
      · have hp' : (y.moves[k].fr == i) = false := by simpa using hp
        refine .inl ⟨_, by simp only [go_sem, h1, h5, h17, h18, h19, hs, f1, f2, f3, f4, f5, f6, f9, hp', nz, nz']; rfl, ?_⟩
        simp only [go_sem, h1, h5, h17, h18, nz, hs]
        refine ⟨by omega, ?_⟩
        rw [ht, flags_no hp]
        exact ⟨rfl, rfl⟩) (by
      clear hL
      rintro ⟨T, σ, m⟩ ⟨hn, h1, h5, h17, h18, h19, hs⟩
      simp only at hn h1 h5 h17 h18 h19 hs
      rw [List.take_length] at hs
      exact ⟨_, by simp only [go_sem, h18, h19, Int.lt_irrefl]; rfl, by simp, _, _, _, rfl, hn, by simp only [go_sem, h5], hs⟩) (by
      simp only [go_sem]
      rw [flags_nil, ← rep_flags])
  obtain ⟨v, σ1, nx1, ids, k1, hn1, ho, hi⟩ := markedO (flags y.moves i y.stances.length) (by rw [flags_len]; omega) nx'
  rw [flags_len] at ho
  have k1' : ev Try.prog convM extM 102 [.ts ((flags y.moves i y.stances.length).flatMap cBo) y.stances.length] noStore nx' = some (v, σ1, nx1) := by
    rw [← k1]
    show _ = ev _ _ _ _ [.ts _ (flags y.moves i y.stances.length).length] _ _
    rw [flags_len]
  have g0 : ((flags y.moves i y.stances.length).flatMap cBo).length = y.stances.length := by rw [slots_len (c := cBo) (s := 1) (fun _ => rfl), flags_len, Nat.mul_one]
  have g1 : ((flags y.moves i y.stances.length).flatMap cBo).take y.stances.length = (flags y.moves i y.stances.length).flatMap cBo := List.take_of_length_le (by omega)
  have g2 : ∀ (σ : Store) (d : Nat), stripL (strip σ d) ((flags y.moves i y.stances.length).flatMap cBo) = some ((flags y.moves i y.stances.length).flatMap cBo, []) := fun σ d => stripL_slots (fun x => by rw [stripL_cons, strip_sc, stripL_nil]; rfl) _
  have g3 := fun d => ho.gather (d' := d + 1) (by omega)
  simp only [go_sem, h2, h3, g0, g1, g2, g3, k1', Nat.le_refl]
  refine ⟨v, _, nx1, ids, rfl, by omega, ?_, fun b hb => ⟨by have := (hi b hb).1; omega, (hi b hb).2⟩⟩
  have : tru (fun j => (flags y.moves i y.stances.length)[j]? == some true) y.stances.length = tru (movesTo y.moves i) y.stances.length := by
    refine tru_congr fun j hj => ?_
    have : (flags y.moves i y.stances.length)[j]? = some (movesTo y.moves i j) := by simp [flags, hj]
    rw [this]
    cases movesTo y.moves i j <;> rfl
  rw [this] at ho
  exact ho.join fun b hb => (hi b hb).1
end Go.Proofs.Ytlkpocljgikpgaa
namespace Go.Proofs.Ytlkpocljgikpgaa
open Go Go.TV

theorem grow_append2 {T : Nat → V} {σ : Store} {nx t : Nat} {acc : List Int} (hg : Grow T σ nx t acc) (x : Int) (hl : acc.length < 17592186044415) :
    ∃ σ', appendTo (upd σ nx (some ⟨[I x], 1, true⟩)) (nx + 1) 1 8 (T t) [I x] 1 = some (.rs (nx + 1) 0 (acc.length + 1), σ', nx + 1 + 1) ∧ σ' (nx + 1) = some ⟨(acc ++ [x]).flatMap cI, 1, true⟩ ∧ ∀ c, c < nx → (∀ b o l, T t = .rs b o l → ¬c = b) → σ' c = σ c := by
  have hm : acc.length + 1 ≤ maxLen := by unfold maxLen; omega
  rcases hg with ⟨h1, rfl⟩ | ⟨b, h1, hne, hb, hbn⟩
  · refine ⟨_, by rw [h1, app_nil, if_neg (by decide), if_pos (by decide)]; rfl, ?_, fun c hc _ => ?_⟩
    · simp [evBox, upd]
    · simp only [evBox, upd]
      rw [if_neg (by omega), if_neg (by omega)]
  · refine ⟨_, by rw [h1, app_full (B := ⟨acc.flatMap cI, 1, true⟩) (by rw [upd_ne _ _ (by omega)]; exact hb) (cI_len acc) rfl (by decide) hm (by omega) rfl], ?_, fun c hc hcb => ?_⟩
    · simp [upd]
    · have := hcb _ _ _ h1
      simp only [upd]
      rw [if_neg (by omega), if_neg (by omega), if_neg (by omega)]
theorem take_snoc {α : Type} {xs : List α} {k : Nat} (h : k < xs.length) : xs.take (k + 1) = xs.take k ++ [xs[k]] := by rw [List.take_add_one, List.getElem?_eq_getElem h]; rfl
theorem movesTo_snoc (ms : List TV.Move) (m : TV.Move) (i : Int) (k : Nat) : movesTo (ms ++ [m]) i k = (movesTo ms i k || ((m.fr == i) && (m.to == (k : Int)))) := by simp [movesTo]
theorem sNext (y : Yard) (h : okYard y) (hg : YardGood y) (i : Int) : fn Try.prog conv ext 66 [.agg (cYard y), I i] = some (LI (tru (movesTo y.moves i) y.stances.length)) := by
  obtain ⟨h6, h12, _, hm⟩ := hg
  have once : ∀ j (hj : j < y.moves.length) (k : Nat), y.moves[j].fr = i → y.moves[j].to = (k : Int) → movesTo (y.moves.take j) i k = false := by
    intro j hj k e1 e2
    have hb := (hm j hj).2
    refine Bool.eq_false_iff.mpr fun ht => ?_
    obtain ⟨m, hmem, hp⟩ := List.any_eq_true.mp ht
    obtain ⟨l, hl, rfl⟩ := List.getElem_of_mem hmem
    rw [List.length_take] at hl
    have hlj : l < j := by omega
    have hx := ix_before hb l (by omega) hlj
    rw [List.getElem_take] at hp
    unfold sameM at hx
    rw [e1, e2, Bool.beq_comm (a := i), Bool.beq_comm (a := (k : Int))] at hx
    rw [hx] at hp
    cases hp
  rw [fn_eq, ev_eqQ (rs := [.tmp 4]) [] rfl Try.func66 rfl rfl (by kernel_rfl) (by kernel_rfl)]
  simp only [go_sem]
  generalize hL : evLoopI _ _ = z
  obtain ⟨r, rfl, T', σ', nx', rfl, hr⟩ := count_rule hL y.stances.length (fun k st => 0 < st.nx ∧ st.σ 0 = some ⟨cYard y, 0, true⟩ ∧ st.T 1 = I i ∧ st.T 2 = .rp 0 0 ∧ st.T 12 = I y.stances.length ∧ st.T 13 = I k ∧ Grow st.T st.σ st.nx 5 (tru (movesTo y.moves i) k) ∧ ∀ b o l, st.T 5 = .rs b o l → 1 ≤ b)
    (fun r => ∃ T σ nx, r = (.exit 0, ⟨T, σ, nx⟩) ∧ Grow T σ nx 5 (tru (movesTo y.moves i) y.stances.length)) (by
      clear hL
      rintro k ⟨T, σ, nx⟩ hlt ⟨hnx, hσ, h1, h2, h12', h13, hG, hB⟩
      simp only at hnx hσ h1 h2 h12' h13 hG hB
      have f1 : (k : Int) < (y.stances.length : Int) := by omega
      have f2 : (0 : Int) ≤ (k : Int) := by omega
      have f3 := wrap_id (n := (k : Int) + 1) (by omega) (by omega)
      refine step_of ?_
      conv =>
        enter [1, r, 1, 1]
        simp only [go_sem, h1, h2, h12', h13, hσ, hnx, f1, f2]
      generalize hL : evLoopI _ _ = w
      obtain ⟨r, rfl, T', σ', nx', rfl, hnx', hσ', g1, g2, g12, g13, g6, hG', hB'⟩ := count_rule hL y.moves.length (fun j st => 0 < st.nx ∧ st.σ 0 = some ⟨cYard y, 0, true⟩ ∧ st.T 1 = I i ∧ st.T 2 = .rp 0 0 ∧ st.T 6 = I k ∧ st.T 12 = I y.stances.length ∧ st.T 13 = I k ∧ st.T 17 = LL cMove y.moves ∧ st.T 18 = I y.moves.length ∧ st.T 19 = I j ∧ Grow st.T st.σ st.nx 5 (tru (movesTo y.moves i) k ++ if movesTo (y.moves.take j) i k = true then [(k : Int)] else []) ∧ ∀ b o l, st.T 5 = .rs b o l → 1 ≤ b)
        (fun r => ∃ T σ nx, r = (.exit 2, ⟨T, σ, nx⟩) ∧ 0 < nx ∧ σ 0 = some ⟨cYard y, 0, true⟩ ∧ T 1 = I i ∧ T 2 = .rp 0 0 ∧ T 12 = I y.stances.length ∧ T 13 = I k ∧ T 6 = I k ∧ Grow T σ nx 5 (tru (movesTo y.moves i) k ++ if movesTo y.moves i k = true then [(k : Int)] else []) ∧ ∀ b o l, T 5 = .rs b o l → 1 ≤ b) (by
          clear hL
          rintro j ⟨T, σ, nx⟩ hj ⟨hnx, hσ, h1, h2, h6', h12', h13, h17, h18, h19, hG, hB⟩
          simp only at hnx hσ h1 h2 h6' h12' h13 h17 h18 h19 hG hB
          have q1 : (j : Int) < (y.moves.length : Int) := by omega
          have q2 : (0 : Int) ≤ (j : Int) := by omega
          have q3 := wrap_id (n := (j : Int) + 1) (by omega) (by omega)
          have q4 := slot (c := cMove) (s := 2) (fun _ => rfl) y.moves j hj
          have q5 := slots_len (c := cMove) (s := 2) (fun _ => rfl) y.moves
          have q6 : j * 2 + 2 ≤ y.moves.length * 2 := by omega
          have q9 := slot_ne (c := cMove) (s := 2) (fun _ => rfl) (by omega) y.moves j hj
          have nz : ¬0 = nx := by omega
          have tk := take_snoc hj
          have ms := movesTo_snoc (y.moves.take j) y.moves[j] i k
          rw [← tk] at ms
          have on := once j hj k
          obtain ⟨σ0, hσ0⟩ : ∃ σ0, σ0 = upd σ nx (some ⟨cMove y.moves[j], 0, true⟩) := ⟨_, rfl⟩
          have hG0 : Grow T σ0 (nx + 1) 5 (tru (movesTo y.moves i) k ++ if movesTo (y.moves.take j) i k = true then [(k : Int)] else []) := by
            rcases hG with h | ⟨b, a1, a2, a3, a4⟩
            · exact .inl h
            · exact .inr ⟨b, a1, a2, by rw [hσ0, upd_ne _ _ (by omega)]; exact a3, by omega⟩
          have b0 : σ0 0 = some ⟨cYard y, 0, true⟩ := by rw [hσ0, upd_ne _ _ nz]; exact hσ
          have b1 : σ0 nx = some ⟨cMove y.moves[j], 0, true⟩ := by rw [hσ0, upd_same]
          by_cases p1 : y.moves[j].fr = i
          · have p1' : (y.moves[j].fr == i) = true := by simpa using p1
            by_cases p2 : y.moves[j].to = (k : Int)
            · have p2' : (y.moves[j].to == (k : Int)) = true := by simpa using p2
              rw [on p1 p2] at hG0 ms
              simp only [Bool.false_eq_true, if_false, List.append_nil] at hG0
              rw [p1', p2', Bool.and_self, Bool.or_true] at ms
              have tl := tru_len (movesTo y.moves i) k
              obtain ⟨σ', ha, hs, hfr⟩ := grow_append2 hG0 (k : Int) (by omega)
              refine .inl ⟨_, by simp only [go_sem, h1, h2, h6', h17, h18, h19, hσ, q1, q2, q3, q4, q5, q6, q9, p1', p2', nz, ← hσ0, b0, b1, ha]; rfl, ?_⟩
              simp only [go_sem, h1, h2, h6', h12', h13, h17, h18]
              rw [ms, if_pos rfl]
              refine ⟨by omega, by rw [hfr 0 (by omega) (fun b o l hb => by have := hB b o l hb; omega)]; exact b0, rfl, ?_, fun b o l hb => ?_⟩
              · exact grow_new hs (by simp [go_sem]) (by simp)
              · simp only [V.rs.injEq] at hb
                omega
            · have p2' : (y.moves[j].to == (k : Int)) = false := by simpa using p2
              rw [p2', Bool.and_false, Bool.or_false] at ms
              refine .inl ⟨_, by simp only [go_sem, h1, h2, h6', h17, h18, h19, hσ, q1, q2, q3, q4, q5, q6, q9, p1', p2', nz, ← hσ0, b0, b1]; rfl, ?_⟩
              simp only [go_sem, h1, h2, h6', h12', h13, h17, h18]
              rw [ms]
              exact ⟨by omega, b0, rfl, grow_eq (by simp only [go_sem]) hG0, hB⟩
          · have p1' : (y.moves[j].fr == i) = false := by simpa using p1
            rw [p1', Bool.false_and, Bool.or_false] at ms
            refine .inl ⟨_, by simp only [go_sem, h1, h2, h6', h17, h18, h19, hσ, q1, q2, q3, q4, q5, q6, q9, p1', nz, ← hσ0, b0, b1]; rfl, ?_⟩
            simp only [go_sem, h1, h2, h6', h12', h13, h17, h18]
            rw [ms]
            exact ⟨by omega, b0, rfl, grow_eq (by simp only [go_sem]) hG0, hB⟩) (by
          clear hL
          rintro ⟨T, σ, nx⟩ ⟨hnx, hσ, h1, h2, h6', h12', h13, h17, h18, h19, hG, hB⟩
          simp only at hnx hσ h1 h2 h6' h12' h13 h17 h18 h19 hG hB
          rw [List.take_length] at hG
          refine ⟨_, by simp only [go_sem, h18, h19, Int.lt_irrefl]; rfl, by simp, _, _, _, rfl, hnx, hσ, ?_, ?_, ?_, ?_, ?_, grow_eq (by simp only [go_sem]) hG, by simpa only [go_sem] using hB⟩
          all_goals simp only [go_sem, h1, h2, h6', h12', h13]) (by
          simp only [go_sem, h1, h2, h12', h13, hσ, hnx]
          refine ⟨?_, by simpa only [go_sem] using hB⟩
          simp only [movesTo, List.take_zero, List.any_nil, Bool.false_eq_true, if_false, List.append_nil]
          exact grow_eq (by simp only [go_sem]) hG)
      refine ⟨_, by simp only [go_sem, g13, f3]; rfl, .inl ⟨_, rfl, ?_⟩⟩
      simp only [go_sem, g1, g2, g12, hσ', hnx']
      have hst : tru (movesTo y.moves i) (k + 1) = tru (movesTo y.moves i) k ++ if movesTo y.moves i k = true then [(k : Int)] else [] := by
        cases hp : movesTo y.moves i k with
        | true => rw [tru_yes hp]; rfl
        | false => rw [tru_no hp]; simp
      rw [hst]
      exact ⟨rfl, grow_eq (by simp only [go_sem]) hG', by simpa only [go_sem] using hB'⟩) (by
      clear hL
      rintro ⟨T, σ, nx⟩ ⟨hnx, hσ, h1, h2, h12', h13, hG, hB⟩
      simp only at hnx hσ h1 h2 h12' h13 hG hB
      exact ⟨_, by simp only [go_sem, h12', h13, Int.lt_irrefl]; rfl, by simp, _, _, _, rfl, grow_eq (by simp only [go_sem]) hG⟩) (by
      simp only [go_sem]
      exact ⟨.inl ⟨by simp only [go_sem], rfl⟩, by simp⟩)
  obtain ⟨ids, h1⟩ := grow_strip hr 6
  simp only [go_sem, h1]
/-- What both sides answer. -/
noncomputable def nextL (y : Yard) (i : Int) : List Int := if pb (YardGood y) = true ∧ 0 ≤ i ∧ i < (y.stances.length : Int) then tru (movesTo y.moves i) y.stances.length else []
theorem sNextStances (y : Yard) (h : okYard y) (i : Int) : fn Try.prog conv ext 28 [.agg (cYard y), I i] = some (LI (nextL y i)) := by
  have k1 := sYardOk y h
  have k2 := l01In i 0 ((y.stances.length : Int) - 1)
  have e2 : (y.stances.length : Int) ≤ 9223372036854775807 := by have := h.1.2.1; omega
  have w := wrap_id (n := (y.stances.length : Int) - 1) (by omega) (by omega)
  unfold nextL
  rw [fn_eq, ev_eqQ (rs := [.tmp 4]) [] rfl Try.func28 rfl rfl (by kernel_rfl) (by kernel_rfl)]
  cases hp : pb (YardGood y) with
  | false =>
    rw [hp] at k1
    rw [if_neg (by simp)]
    (simp only [go_sem, k1]) <;> rfl
  | true =>
    rw [hp] at k1
    by_cases c : 0 ≤ i ∧ i < (y.stances.length : Int)
    · rw [if_pos ⟨rfl, c.1, c.2⟩]
      have k3 := sNext y h (of_pb hp) i
      have : inB i 0 ((y.stances.length : Int) - 1) = true := by unfold inB; rw [decide_eq_true (by omega), decide_eq_true (by omega)]; rfl
      rw [this] at k2
      simp only [go_sem, k1, k2, k3, w]
    · rw [if_neg (fun hh => c hh.2)]
      have : inB i 0 ((y.stances.length : Int) - 1) = false := by
        unfold inB
        by_cases c1 : 0 ≤ i
        · rw [decide_eq_false (p := i ≤ _) (by omega), Bool.and_false]
        · rw [decide_eq_false (p := 0 ≤ i) c1, Bool.false_and]
      rw [this] at k2
      (simp only [go_sem, k1, k2, w]) <;> rfl
theorem nextStancesO (y : Yard) (h : okYard y) (i : Int) (nx : Nat) : ∃ v σ1 nx1 ids, ev Try.prog convM extM 30 [.agg (cYard y), I i] noStore nx = some (v, σ1, nx1) ∧ nx ≤ nx1 ∧ Own σ1 1 v (LI (nextL y i)) ids ∧ ∀ b ∈ ids, nx ≤ b ∧ b < nx1 := by
  have k1 := iYardOk y h
  unfold nextL
  rw [ev_eqQ (rs := [.tmp 4]) [] rfl Try.func30 rfl rfl (by kernel_rfl) (by kernel_rfl)]
  cases hp : pb (YardGood y) with
  | false =>
    rw [hp] at k1
    rw [if_neg (by simp)]
    simp only [go_sem, k1]
    exact ⟨_, _, _, [], rfl, by omega, own_of_nil _ _, by simp⟩
  | true =>
    rw [hp] at k1
    by_cases c1 : i < 0
    · rw [if_neg (by omega)]
      simp only [go_sem, k1, c1]
      exact ⟨_, _, _, [], rfl, by omega, own_of_nil _ _, by simp⟩
    by_cases c2 : (y.stances.length : Int) ≤ i
    · rw [if_neg (by omega)]
      simp only [go_sem, k1, c1, c2]
      exact ⟨_, _, _, [], rfl, by omega, own_of_nil _ _, by simp⟩
    rw [if_pos ⟨rfl, by omega, by omega⟩]
    obtain ⟨v, σ1, nx1, ids, k2, hn, ho, hi⟩ := yardNextO y (of_pb hp) i (nx + 1)
    have g3 := fun d => ho.gather (d' := d + 1) (by omega)
    simp only [go_sem, k1, c1, c2, k2, g3]
    exact ⟨v, _, nx1, ids, rfl, by omega, ho.join fun b hb => (hi b hb).1, fun b hb => ⟨by have := (hi b hb).1; omega, (hi b hb).2⟩⟩
end Go.Proofs.Ytlkpocljgikpgaa
