import Derived.Test.YtlacjcdhfoeekaaTv5
set_option linter.unusedSimpArgs false
set_option linter.unusedVariables false
namespace Go.TV
open Go.RowKit
set_option linter.unusedVariables false

section
variable {P : Program}

theorem zeroOf {t : TypeId} {i : TypeInfo} {z : Value} (h : P.info? t = some i) (hz : i.zero = some z) (w : World) : (zeroValue t).run P w = .ok z w := by
  simp [zeroValue, typeInfo, h, hz]

/-- A new variable. -/
theorem box_sound {s : Sit} {σ : Store} (hi : Inv s σ) {nx : Nat} (hn : Fresh s nx (nx + 1)) {t : TypeId} {x : Value} {cells : List V} (hr : VRs s cells x.cells.toList) :
    ∃ s' y, (Instr.box t x).run P s.w = .ok y s'.w ∧ Out s σ nx s' (.rp nx 0) y (evBox σ nx cells 0) (nx + 1) := by
  have hl := VRs_length hr
  obtain ⟨s', h1, h2, h3, h4, h5⟩ := alloc_out hi hn (w1 := s.w) (Below.refl _ _) rfl cells 0 x.cells.size t x.cells rfl (by rw [hl, Array.length_toList]; exact Nat.le_refl _)
    (fun i v hv => by obtain ⟨y, hy, hr⟩ := VRs_get hr hv; exact ⟨y, by simpa using hy, hr⟩)
  refine ⟨s', .pointer (some ⟨s.w.heap.size, 0, none⟩), ?_, ⟨?_, h3, h4, h5⟩⟩
  · rw [h1]; simp [Instr.box, newVar, newRow]
  · unfold VR; exact ⟨_, h2, rfl⟩

theorem alloc_sound {s : Sit} {σ : Store} (hi : Inv s σ) {nx : Nat} (hn : Fresh s nx (nx + 1)) {t : TypeId} {i : TypeInfo} {z : Value} (hinf : P.info? t = some i) (hz : i.zero = some z) :
    ∃ s' y, (Instr.alloc t true (.tuple #[])).run P s.w = .ok y s'.w ∧ Out s σ nx s' (.rp nx 0) y (evBox σ nx (z.cells.toList.map ofCell) 0) (nx + 1) := by
  obtain ⟨s', y, h1, h2⟩ := box_sound (P := P) hi hn (t := t) (x := z) (VRs_map _)
  refine ⟨s', y, ?_, h2⟩
  rw [← h1]
  simp [Instr.alloc, Instr.box, zeroOf hinf hz]

theorem build_sound {s : Sit} {t : TypeId} {parts : List (Nat × V)} {ps : Array (Nat × Value)} {v : V} (h : evBuild P t parts = some v) (hm : parts.map (·.1) = ps.toList.map (·.1))
    (hp : ∀ (i : Nat) (p : Nat × V) (q : Nat × Value), parts[i]? = some p → ps.toList[i]? = some q → VR s p.2 q.2) :
    ∃ y, (Instr.build t ps).run P s.w = .ok y s.w ∧ VR s v y := by
  unfold evBuild at h
  split at h
  · rename_i i pl hinf hpl
    split at h
    · rename_i z hz
      cases hf : evFill pl (z.cells.toList.map ofCell) parts with
      | none => rw [hf] at h; cases h
      | some out =>
        rw [hf] at h
        simp only [Option.map_some, Option.some.injEq] at h; subst h
        obtain ⟨cs', h1, h2⟩ := fill_sound (cs := z.cells) hf hm hp (VRs_map _)
        refine ⟨.agg cs', ?_, by unfold VR; exact ⟨_, rfl, h2⟩⟩
        unfold places at hpl
        split at hpl
        · rename_i fields hund
          cases he : evPure P (fields.mapM fun f => do pure (f.offset, ← sizeOf f.type)) with
          | none => rw [he] at hpl; cases hpl
          | some a =>
            rw [he] at hpl
            simp only [Option.map_some, Option.some.injEq] at hpl; subst hpl
            have hrun := run_of_evPure _ he s.w
            unfold Instr.build
            simp only [Sem.run_bind, zeroOf hinf hz, Result.andThen_ok, run_underlying hund, hrun]
            simp only [h1]
            rfl
        · rename_i n elem hund
          cases he : P.info? elem with
          | none => rw [he] at hpl; cases hpl
          | some e =>
            rw [he] at hpl
            simp only [Option.map_some, Option.some.injEq] at hpl; subst hpl
            unfold Instr.build
            simp only [Sem.run_bind, zeroOf hinf hz, Result.andThen_ok, run_underlying hund, run_sizeOf he]
            simp only [h1]
            rfl
        · cases hpl
    · cases h
  · cases h

theorem length_patch (cells : List V) (off : Nat) (vs : List V) (h : off + vs.length ≤ cells.length) : (patch cells off vs).length = cells.length := by
  rw [patch_eq _ _ _ h]
  simp only [List.length_append, List.length_take, List.length_drop]
  omega

theorem evFill_length {place : Nat → Option (Nat × Nat)} : ∀ {parts : List (Nat × V)} {cells out : List V}, evFill place cells parts = some out → out.length = cells.length
  | [], cells, out, h => by simp only [evFill, Option.some.injEq] at h; rw [h]
  | (i, v) :: rest, cells, out, h => by
    unfold evFill at h
    split at h
    · split at h
      · rename_i hc
        rw [evFill_length h, length_patch _ _ _ hc.2]
      · cases h
    · cases h

theorem getElem?_rep (z : List V) : ∀ (n i : Nat), (rep n z)[i]? = if i < n * z.length then z[i % z.length]? else none := by
  intro n
  induction n with
  | zero => intro i; simp [rep]
  | succ n ih =>
    intro i
    have e : rep (n + 1) z = z ++ rep n z := by simp [rep, List.replicate_succ]
    have e2 : (n + 1) * z.length = z.length + n * z.length := by rw [Nat.add_mul]; omega
    rw [e, e2]
    by_cases hi : i < z.length
    · rw [List.getElem?_append_left hi, if_pos (by omega), Nat.mod_eq_of_lt hi]
    · rw [List.getElem?_append_right (by omega), ih]
      by_cases h : i - z.length < n * z.length
      · rw [if_pos h, if_pos (by omega), ← Nat.mod_eq_sub_mod (by omega)]
      · rw [if_neg h, if_neg (by omega)]

theorem length_rep (z : List V) (n : Nat) : (rep n z).length = n * z.length := by simp [rep]

theorem VRs_rep {s : Sit} {z : Array Value} {size n : Nat} (hz : z.size = size) (hs : 0 < size) :
    VRs s (rep n (z.toList.map ofCell)) ((Array.range (n * size)).map (z[· % z.size]!)).toList := by
  refine VRs_of (by simp [length_rep, hz]) fun i v x hv hx => ?_
  rw [getElem?_rep] at hv
  simp only [List.length_map, Array.length_toList, hz] at hv
  split at hv
  · rename_i hi
    have hlt : i % size < z.size := by rw [hz]; exact Nat.mod_lt _ hs
    simp [hi, hz] at hx
    simp [hlt] at hv
    subst hx; subst hv
    rw [getElem!_pos z (i % size) hlt]
    exact VR_ofCell s _
  · cases hv

theorem buildSlice_sound {s : Sit} {σ : Store} (hi : Inv s σ) {nx nx' : Nat} {σ' : Store} {t : TypeId} {len : Nat} {parts : List (Nat × V)} {ps : Array (Nat × Value)} {v : V} (h : evBuildSlice P t len parts σ nx = some (v, σ', nx'))
    (hn : Fresh s nx nx') (hm : parts.map (·.1) = ps.toList.map (·.1)) (hp : ∀ (i : Nat) (p : Nat × V) (q : Nat × Value), parts[i]? = some p → ps.toList[i]? = some q → VR s p.2 q.2) (hlen0 : len = 0 → ps = #[]) :
    ∃ s' y, (Instr.buildSlice t len ps).run P s.w = .ok y s'.w ∧ Out s σ nx s' v y σ' nx' := by
  unfold evBuildSlice at h
  split at h
  · rename_i elem hund
    split at h
    · rename_i i hinf
      split at h
      · rename_i z hz
        split at h
        · rename_i hl0
          simp only [Option.some.injEq, Prod.mk.injEq] at h
          obtain ⟨rfl, rfl, rfl⟩ := h
          have := hlen0 hl0
          subst this; subst hl0
          obtain ⟨hle, hinv, hnxt⟩ := hi.grow ((Below.refl _ s.w).alloc (Nat.le_refl _) (.cells #[] elem))
          refine ⟨{ s with w := s.w.alloc (.cells #[] elem) }, .slice (some ⟨s.w.heap.size, 0, none⟩) 0 0, ?_, ⟨by unfold VR; exact ⟨_, rfl⟩, hinv, hnxt, fun i h => .inl h⟩⟩
          unfold Instr.buildSlice
          simp [run_underlying hund, run_sizeOf hinf, Instr.fill, newRow, Array.range_zero']
        · rename_i hl0
          split at h
          · rename_i hc
            obtain ⟨hs0, h1000, hzs⟩ := hc
            split at h
            · rename_i out hf
              simp only [Option.some.injEq, Prod.mk.injEq] at h
              obtain ⟨rfl, rfl, rfl⟩ := h
              obtain ⟨cs', h1, h2⟩ := fill_sound (cs := (Array.range (len * i.size)).map (z.cells[· % z.cells.size]!)) hf hm hp (VRs_rep hzs hs0)
              have hl := VRs_length h2
              have hsz : cs'.size = len * i.size := by
                have h0 := evFill_length hf
                have e1 : z.cells.toList.length = i.size := by rw [← hzs]; exact Array.length_toList
                have e2 : cs'.toList.length = cs'.size := Array.length_toList
                rw [length_rep, List.length_map, e1] at h0
                omega
              obtain ⟨s', g1, g2, g3, g4, g5⟩ := alloc_out hi hn (w1 := s.w) (Below.refl _ _) rfl out i.size cs'.size elem cs' rfl (by rw [hl, Array.length_toList]; exact Nat.le_refl _)
                (fun i v hv => by obtain ⟨y, hy, hr⟩ := VRs_get h2 hv; exact ⟨y, by simpa using hy, hr⟩)
              have hne : ¬ (len * i.size = 0) := by
                intro e
                rcases Nat.mul_eq_zero.1 e with e | e <;> omega
              refine ⟨s', .slice (some ⟨s.w.heap.size, 0, none⟩) len len, ?_, ⟨?_, g3, g4, g5⟩⟩
              · rw [g1]
                unfold Instr.buildSlice
                simp only [Sem.run_bind, run_underlying hund, Result.andThen_ok, run_sizeOf hinf]
                rw [if_neg (by omega)]
                simp only [Sem.run_bind, Result.andThen_ok, hne, if_false, zeroOf hinf hz, Sem.run_pure, h1, newRow]
                simp
              · unfold VR; exact ⟨_, _, g2, rfl, Nat.le_refl _, by rw [hsz]; simp⟩
            · cases h
          · cases h
      · cases h
    · cases h
  · cases h

end
end Go.TV
