import Derived.Test.YtlacjcdhfoeekaaTv4
set_option linter.unusedSimpArgs false
set_option linter.unusedVariables false
namespace Go.TV
open Go.RowKit
set_option linter.unusedVariables false

theorem foldl_set {α : Type} : ∀ (vs : List α) (j off : Nat) (cs : Array α), off + j + vs.length ≤ cs.size →
    ((vs.zipIdx j).foldl (fun (cs : Array α) (p : α × Nat) => cs.setIfInBounds (off + p.2) p.1) cs).toList = cs.toList.take (off + j) ++ vs ++ cs.toList.drop (off + j + vs.length)
  | [], j, off, cs, _ => by simp
  | v :: vs, j, off, cs, h => by
    simp only [List.length_cons] at h
    rw [List.zipIdx_cons, List.foldl_cons, foldl_set vs (j + 1) off _ (by simp; omega)]
    simp only [Array.toList_setIfInBounds, List.length_cons]
    apply List.ext_getElem?
    intro i
    have e1 : (List.take (off + (j + 1)) (cs.toList.set (off + j) v)).length = off + (j + 1) := by simp; omega
    have e2 : (List.take (off + j) cs.toList).length = off + j := by simp; omega
    by_cases h1 : i < off + j
    · rw [List.append_assoc, List.append_assoc, List.getElem?_append_left (by omega), List.getElem?_append_left (by omega), List.getElem?_take, List.getElem?_take, if_pos (by omega), if_pos h1, List.getElem?_set_ne (by omega)]
    · by_cases h2 : i = off + j
      · subst h2
        rw [List.append_assoc, List.append_assoc, List.getElem?_append_left (by omega), List.getElem?_append_right (by omega), List.getElem?_take, if_pos (by omega), List.getElem?_set_self (by simp; omega), e2]
        simp
      · rw [List.append_assoc, List.append_assoc, List.getElem?_append_right (l₁ := (cs.toList.set (off + j) v).take (off + (j + 1))) (by omega), List.getElem?_append_right (l₁ := cs.toList.take (off + j)) (by omega), e1, e2]
        rw [show i - (off + j) = (i - (off + (j + 1))) + 1 by omega, List.cons_append, List.getElem?_cons_succ]
        by_cases h3 : i - (off + (j + 1)) < vs.length
        · rw [List.getElem?_append_left h3, List.getElem?_append_left h3]
        · rw [List.getElem?_append_right (l₁ := vs) (by omega), List.getElem?_append_right (l₁ := vs) (by omega), List.getElem?_drop, List.getElem?_drop, List.getElem?_set_ne (by omega)]
          congr 1; omega

theorem fill_sound {s : Sit} {place : Nat → Option (Nat × Nat)} : ∀ {parts : List (Nat × V)} {ps : List (Nat × Value)} {cells out : List V} {cs : Array Value},
    evFill place cells parts = some out → parts.map (·.1) = ps.map (·.1) → (∀ (i : Nat) (p : Nat × V) (q : Nat × Value), parts[i]? = some p → ps[i]? = some q → VR s p.2 q.2) → VRs s cells cs.toList →
    ∃ cs', Instr.fill place cs ps = some cs' ∧ VRs s out cs'.toList
  | [], ps, cells, out, cs, h, hm, _, hr => by
    have : ps = [] := by simpa using hm.symm
    subst this
    simp only [evFill, Option.some.injEq] at h; subst h
    exact ⟨cs, rfl, hr⟩
  | (i, v) :: rest, [], cells, out, cs, h, hm, _, hr => by simp at hm
  | (i, v) :: rest, (i', y) :: ps, cells, out, cs, h, hm, hp, hr => by
    simp only [List.map_cons, List.cons.injEq] at hm
    obtain ⟨rfl, hm⟩ := hm
    unfold evFill at h
    split at h
    · rename_i off size vs hpl hcv
      split at h
      · rename_i hc
        obtain ⟨hsz, hfit⟩ := hc
        rw [patch_eq _ _ _ hfit] at h
        have hv := hp 0 (i, v) (i, y) rfl rfl
        have hvs := cellsOfV_sound hcv hv
        have hl := VRs_length hvs
        have hlc := VRs_length hr
        simp only [Array.length_toList] at hl hlc
        have hcs : y.cells.size = size := by omega
        have hstep := foldl_set y.cells.toList 0 off cs (by simp; omega)
        simp only [Nat.add_zero, Array.length_toList] at hstep
        obtain ⟨cs', h1, h2⟩ := fill_sound (cs := y.cells.zipIdx.foldl (fun cs (p : Value × Nat) => cs.setIfInBounds (off + p.2) p.1) cs) h hm (fun j p q h1 h2 => hp (j + 1) p q (by simpa using h1) (by simpa using h2)) (by
          have e : (y.cells.zipIdx.foldl (fun cs (p : Value × Nat) => cs.setIfInBounds (off + p.2) p.1) cs) = ((y.cells.toList.zipIdx 0).foldl (fun (cs : Array Value) (p : Value × Nat) => cs.setIfInBounds (off + p.2) p.1) cs) := by
            rw [← Array.foldl_toList, Array.toList_zipIdx]
          rw [e, hstep, hl]
          exact VRs_append (VRs_append (VRs_take hr _) hvs) (VRs_drop hr _))
        refine ⟨cs', ?_, h2⟩
        unfold Instr.fill
        simp only [hpl]
        rw [if_neg (by simp; omega)]
        exact h1
      · cases h
    · cases h

end Go.TV
