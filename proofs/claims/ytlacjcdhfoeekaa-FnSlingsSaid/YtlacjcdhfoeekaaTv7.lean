import Derived.Test.YtlacjcdhfoeekaaTv6
set_option linter.unusedSimpArgs false
set_option linter.unusedVariables false
namespace Go.TV
open Go.RowKit
set_option linter.unusedVariables false

section
variable {P : Program}

theorem make_sound {s : Sit} {σ : Store} (hi : Inv s σ) {nx nx' : Nat} {σ' : Store} {t : TypeId} {l c v : V} {xl xc : Value} (h : evMake P t l c σ nx = some (v, σ', nx')) (hn : Fresh s nx nx') (hxl : VR s l xl) (hxc : VR s c xc) :
    ∃ s' y, (Instr.makeSlice t xl xc).run P s.w = .ok y s'.w ∧ Out s σ nx s' v y σ' nx' := by
  unfold evMake at h
  split at h
  · rename_i elem l c hund
    split at h
    · rename_i i hinf
      split at h
      · rename_i z hz
        split at h
        · rename_i hc
          obtain ⟨h0, hlc, hby, h63, hs0, hzs⟩ := hc
          simp only [Option.some.injEq, Prod.mk.injEq] at h
          obtain ⟨rfl, rfl, rfl⟩ := h
          unfold VR at hxl hxc
          obtain ⟨rfl, _⟩ := hxl
          obtain ⟨rfl, _⟩ := hxc
          have hrun := run_make (P := P) s.w t elem i z hund hinf hz .i64 .i64 l c h0 hlc hby h63
          have hrep := VRs_rep (s := s) (n := c.toNat) hzs hs0
          have hle : l.toNat ≤ c.toNat := by omega
          have e1 : z.cells.toList.length = i.size := by rw [← hzs]; exact Array.length_toList
          obtain ⟨s', g1, g2, g3, g4, g5⟩ := alloc_out hi hn (w1 := s.w) (Below.refl _ _) rfl (rep l.toNat (z.cells.toList.map ofCell)) i.size (c.toNat * i.size) elem (madeCells z.cells (c.toNat * i.size))
            (size_madeCells _ _).symm (by rw [length_rep, List.length_map, e1]; exact Nat.mul_le_mul_right _ hle) (fun j v hv => by
              have : (rep c.toNat (z.cells.toList.map ofCell))[j]? = some v := by
                rw [getElem?_rep] at hv ⊢
                split at hv
                · rename_i hj
                  rw [if_pos (Nat.lt_of_lt_of_le hj (Nat.mul_le_mul_right _ hle))]; exact hv
                · cases hv
              obtain ⟨y, hy, hr⟩ := VRs_get hrep this
              exact ⟨y, by rw [← hy, Array.getElem?_toList]; rfl, hr⟩)
          refine ⟨s', _, by rw [g1]; exact hrun, ⟨?_, g3, g4, g5⟩⟩
          unfold VR; exact ⟨_, _, g2, rfl, hle, by simp⟩
        · cases h
      · cases h
    · cases h
  · cases h

theorem bnd_sound {s : Sit} {o : Option V} {ox : Option Value} {d n : Nat} (h : bnd o d = some n) (ho : ∀ v, o = some v → ∃ x, ox = some x ∧ VR s v x) (hn : o = none → ox = none) :
    (ox = none ∧ n = d) ∨ ∃ k i, ox = some (.int k i) ∧ 0 ≤ i ∧ i.toNat = n := by
  unfold bnd at h
  split at h
  · simp only [Option.some.injEq] at h; exact .inl ⟨hn rfl, h.symm⟩
  · rename_i k i
    split at h
    · rename_i h0
      simp only [Option.some.injEq] at h
      obtain ⟨x, hx, hr⟩ := ho _ rfl
      unfold VR at hr
      exact .inr ⟨k, i, by rw [hx, hr.1], h0, h⟩
    · cases h
  · cases h

theorem run_bounds2 (isSlice : Bool) (len cap : Nat) {lo hi : Option Value} {l h : Nat} (hlo : (lo = none ∧ l = 0) ∨ ∃ k i, lo = some (.int k i) ∧ 0 ≤ i ∧ i.toNat = l)
    (hhi : (hi = none ∧ h = len) ∨ ∃ k i, hi = some (.int k i) ∧ 0 ≤ i ∧ i.toNat = h) (h1 : l ≤ h) (h2 : h ≤ cap) (w : World) :
    (Instr.sliceBounds isSlice len cap lo hi none).run P w = .ok (l, h, cap) w := by
  rcases hhi with ⟨rfl, rfl⟩ | ⟨k, i, rfl, hi0, rfl⟩
  · rcases hlo with ⟨rfl, rfl⟩ | ⟨k', i', rfl, hi0', rfl⟩
    · simp [Instr.sliceBounds]
    · have : 0 ≤ i' ∧ i' ≤ (h : Int) := ⟨hi0', by omega⟩
      simp [Instr.sliceBounds, Instr.sliceBound, asIntOf, this]
  · have hh : 0 ≤ i ∧ i ≤ (cap : Int) := ⟨hi0, by omega⟩
    rcases hlo with ⟨rfl, rfl⟩ | ⟨k', i', rfl, hi0', rfl⟩
    · simp [Instr.sliceBounds, Instr.sliceBound, asIntOf, hh]
    · have h3 : 0 ≤ i' ∧ i' ≤ i := ⟨hi0', by omega⟩
      have h4 : i' ≤ max i 0 := by omega
      simp [Instr.sliceBounds, Instr.sliceBound, asIntOf, hh, h3, h4]

theorem run_bounds3 (len cap : Nat) {lo hi mx : Option Value} {l h m : Nat} (hlo : (lo = none ∧ l = 0) ∨ ∃ k i, lo = some (.int k i) ∧ 0 ≤ i ∧ i.toNat = l)
    (hhi : ∃ k i, hi = some (.int k i) ∧ 0 ≤ i ∧ i.toNat = h) (hmx : ∃ k i, mx = some (.int k i) ∧ 0 ≤ i ∧ i.toNat = m) (h1 : l ≤ h) (h2 : h ≤ m) (h3 : m ≤ cap) (w : World) :
    (Instr.sliceBounds true len cap lo hi mx).run P w = .ok (l, h, m) w := by
  obtain ⟨k, i, rfl, hi0, rfl⟩ := hhi
  obtain ⟨k2, j, rfl, hj0, rfl⟩ := hmx
  have hh : 0 ≤ j ∧ j ≤ (cap : Int) := ⟨hj0, by omega⟩
  have hh2 : 0 ≤ i ∧ i ≤ max j 0 := ⟨hi0, by omega⟩
  have hh4 : i ≤ j := by omega
  rcases hlo with ⟨rfl, rfl⟩ | ⟨k', i', rfl, hi0', rfl⟩
  · simp [Instr.sliceBounds, Instr.sliceBound, asIntOf, hh, hh2, hh4]
  · have h5 : 0 ≤ i' ∧ i' ≤ i := ⟨hi0', by omega⟩
    have h6 : i' ≤ max i 0 := by omega
    simp [Instr.sliceBounds, Instr.sliceBound, asIntOf, hh, hh2, hh4, h5, h6]

theorem VR_ts_nil {s : Sit} {a : Option Addr} {cap : Nat} : VR s (.ts [] 0) (.slice a 0 cap) := by
  unfold VR; exact ⟨a, cap, rfl, Nat.zero_le _, .inl rfl⟩

theorem bnd_some {v : V} {d n : Nat} (h : bnd (some v) d = some n) : ∃ k i, v = .sc (.int k i) ∧ 0 ≤ i ∧ i.toNat = n := by
  unfold bnd at h
  split at h
  · rename_i e; cases e
  · rename_i k i e
    cases e
    split at h
    · rename_i h0; simp only [Option.some.injEq] at h; exact ⟨k, i, rfl, h0, h⟩
    · cases h
  · cases h

theorem slice_sound {s : Sit} {σ : Store} (hi : Inv s σ) {t : TypeId} {x : V} {lo hi' mx : Option V} {v : V} {y : Value} {ylo yhi ymx : Option Value} (h : evSlice P t x lo hi' mx σ = some v) (hx : VR s x y)
    (hlo : ∀ v, lo = some v → ∃ x, ylo = some x ∧ VR s v x) (hlon : lo = none → ylo = none) (hhi : ∀ v, hi' = some v → ∃ x, yhi = some x ∧ VR s v x) (hhin : hi' = none → yhi = none)
    (hmx : ∀ v, mx = some v → ∃ x, ymx = some x ∧ VR s v x) (hmxn : mx = none → ymx = none) :
    ∃ z, (Instr.sliceAt t y ylo yhi ymx).run P s.w = .ok z s.w ∧ VR s v z := by
  unfold evSlice at h
  split at h
  · rename_i hund
    split at h
    · rename_i str
      unfold VR at hx
      obtain ⟨rfl, _⟩ := hx
      split at h
      · rename_i l hh e1 e2
        have b1 := bnd_sound e1 hlo hlon
        have b2 := bnd_sound e2 hhi hhin
        have := hmxn rfl; subst this
        split at h
        · rename_i hc
          simp only [Option.some.injEq] at h; subst h
          refine ⟨.string (str.extract l hh), ?_, VR_sc rfl⟩
          simp [Instr.sliceAt, run_underlying hund, Instr.slice, run_bounds2 (P := P) false str.size str.size b1 b2 hc.1 hc.2]
        · cases h
      · cases h
    · cases h
  · rename_i elem hund
    split at h
    · rename_i i hinf
      have := hmxn rfl; subst this
      split at h
      · -- nil
        unfold VR at hx
        obtain ⟨a, rfl⟩ := hx
        split at h
        · rename_i l hh e1 e2
          split at h
          · rename_i hc
            simp only [Option.some.injEq] at h; subst h
            have b1 := bnd_sound e1 hlo hlon
            have b2 := bnd_sound e2 hhi hhin
            have hb := run_bounds2 (P := P) true 0 0 b1 b2 hc.1 hc.2 s.w
            obtain ⟨rfl, rfl⟩ : l = 0 ∧ hh = 0 := by omega
            refine ⟨.slice a 0 0, ?_, by unfold VR; exact ⟨a, rfl⟩⟩
            simp [Instr.sliceAt, run_underlying hund, Instr.slice, hb, run_sizeOf hinf]
          · cases h
        · cases h
      · -- ts
        rename_i row len
        unfold VR at hx
        obtain ⟨a, cap, rfl, hcap, hr⟩ := hx
        split at h
        · rename_i l hh e1 e2
          have b1 := bnd_sound e1 hlo hlon
          have b2 := bnd_sound e2 hhi hhin
          split at h
          · rename_i hc
            simp only [Option.some.injEq] at h; subst h
            have hb := run_bounds2 (P := P) true len cap b1 b2 hc.1 (by omega) s.w
            refine ⟨.slice (if cap = l then a else a.map (·.add (l * i.size))) (hh - l) (cap - l), ?_, ?_⟩
            · simp [Instr.sliceAt, run_underlying hund, Instr.slice, hb, run_sizeOf hinf]
            · unfold VR
              refine ⟨_, _, rfl, by omega, ?_⟩
              rcases hr with rfl | ⟨k, o, rfl, hr⟩
              · exact .inl (by simp)
              · by_cases he : hh = l
                · subst he; exact .inl (by simp)
                · refine .inr ⟨k, o + l * i.size, ?_, VRow_take (VRow_drop hr _) _⟩
                  rw [if_neg (by omega)]
                  simp [Addr.add_lit]
          · cases h
        · cases h
      · -- rs
        rename_i b off len
        unfold VR at hx
        obtain ⟨l0, cap, hl0, rfl, hcap, hend⟩ := hx
        split at h
        · rename_i l hh B e1 e2 hb
          have b1 := bnd_sound e1 hlo hlon
          have b2 := bnd_sound e2 hhi hhin
          split at h
          · rename_i hc
            obtain ⟨hlh, hs0, hst, hfit⟩ := hc
            obtain ⟨l1, c, e, h1, h2, h3, h4, h5, _⟩ := hi.blk b B hb
            rw [hl0] at h1; cases h1
            have hcap2 : hh ≤ cap := by
              have : hh * i.size ≤ cap * i.size := by rw [← hst, ← h5] at hfit ⊢; omega
              exact Nat.le_of_mul_le_mul_right this hs0
            have hbd := run_bounds2 (P := P) true len cap b1 b2 hlh hcap2 s.w
            refine ⟨.slice (if cap = l then some ⟨l0.k, l0.o + off, none⟩ else some ⟨l0.k, l0.o + off + l * i.size, none⟩) (hh - l) (cap - l), ?_, ?_⟩
            · simp only [Instr.sliceAt, Sem.run_bind, run_underlying hund, Result.andThen_ok, Instr.slice, hbd, run_sizeOf hinf, Sem.run_pure, Option.map_some, Addr.add_lit]
            · split at h
              · rename_i hl
                simp only [Option.some.injEq] at h; subst h; subst hl
                unfold VR
                refine ⟨l0, cap, hl0, ?_, hcap2, hend⟩
                simp
              · split at h
                · rename_i hl hlh2
                  simp only [Option.some.injEq] at h; subst h; subst hlh2
                  rw [Nat.sub_self]
                  exact VR_ts_nil
                · rename_i hl hlh2
                  simp only [Option.some.injEq] at h; subst h
                  unfold VR
                  refine ⟨l0, cap - l, hl0, ?_, by omega, ?_⟩
                  · rw [if_neg (by omega), Nat.add_assoc]
                  · rw [h5, hst, Nat.sub_mul]
                    rw [h5, hst] at hend
                    have : l * i.size ≤ cap * i.size := Nat.mul_le_mul_right _ (by omega)
                    omega
          · cases h
        · cases h
      · cases h
    · rename_i i m hinf
      split at h
      · cases h
      · rename_i hv
        split at h
        · rename_i l hh m' e1 e2 e3
          obtain ⟨x3, hx3, hr3⟩ := hmx _ rfl
          obtain ⟨k3, i3, hm3, h30, h31⟩ := bnd_some e3
          rw [hm3] at hr3; unfold VR at hr3; obtain ⟨rfl, _⟩ := hr3
          obtain ⟨x2, hx2, hr2⟩ := hhi _ rfl
          obtain ⟨k2, i2, hm2, h20, h21⟩ := bnd_some e2
          rw [hm2] at hr2; unfold VR at hr2; obtain ⟨rfl, _⟩ := hr2
          have b1 := bnd_sound e1 hlo hlon
          split at h
          · rename_i row len
            unfold VR at hx
            obtain ⟨a, cap, rfl, hcap, hr⟩ := hx
            split at h
            · rename_i hc
              simp only [Option.some.injEq] at h; subst h
              have hb := run_bounds3 (P := P) len cap b1 ⟨k2, i2, hx2, h20, h21⟩ ⟨k3, i3, hx3, h30, h31⟩ hc.1 hc.2.1 (by omega) s.w
              exact ⟨_, by simp only [Instr.sliceAt, Sem.run_bind, run_underlying hund, Result.andThen_ok, Instr.slice, hb, run_sizeOf hinf, Sem.run_pure]; rfl, by unfold VR; trivial⟩
            · cases h
          · rename_i b off len
            unfold VR at hx
            obtain ⟨l0, cap, hl0, rfl, hcap, hend⟩ := hx
            split at h
            · rename_i hc
              simp only [Option.some.injEq] at h; subst h
              have hb := run_bounds3 (P := P) len cap b1 ⟨k2, i2, hx2, h20, h21⟩ ⟨k3, i3, hx3, h30, h31⟩ hc.1 hc.2.1 (by omega) s.w
              exact ⟨_, by simp only [Instr.sliceAt, Sem.run_bind, run_underlying hund, Result.andThen_ok, Instr.slice, hb, run_sizeOf hinf, Sem.run_pure]; rfl, by unfold VR; trivial⟩
            · cases h
          · cases h
        · cases h
    · cases h
  · cases h

end
end Go.TV
