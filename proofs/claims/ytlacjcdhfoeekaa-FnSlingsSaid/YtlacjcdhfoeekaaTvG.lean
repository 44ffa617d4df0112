import Derived.Test.YtlacjcdhfoeekaaTvSeat
set_option linter.unusedSimpArgs false
set_option linter.unusedVariables false
namespace Go.Proofs.Ytlacjcdhfoeekaa
open Go Go.TV

/-- A copy of a slice of ints, as an own block. -/
def cloneG : List V → Store → Nat → Option (V × Store × Nat)
  | [.ts row len], σ, nx => if row.length = len ∧ len ≤ 17592186044000 ∧ row.all isCell = true then (if len = 0 then some (.nil, σ, nx) else some (.rs nx 0 len, evBox σ nx row 1, nx + 1)) else none
  | _, _, _ => none
def noCall : List V → Store → Nat → Option (V × Store × Nat) := fun _ _ _ => none
theorem clone_sound (args : List V) (σ : Store) (nx : Nat) (v : V) (σ' : Store) (nx' : Nat) (h : cloneG args σ nx = some (v, σ', nx')) : SoundAt Try.prog 110 args σ nx v σ' nx' := by
  unfold cloneG at h
  split at h
  · rename_i row len
    split at h
    · rename_i hc
      obtain ⟨hl, hs, hcell⟩ := hc
      refine fork_sound (call := fun _ _ _ _ => none) (conv := fun _ => .imm) (fun _ _ _ _ _ _ _ h => by cases h) (by kernel_rfl) Try.func110 rfl Try.underlying26 (n := 0) (by kernel_rfl) (st1 := ⟨upd (argsT [.ts row len]) 2 .nil, σ, nx⟩) (T2 := upd (upd (argsT [.ts row len]) 2 .nil) 3 (.ts row len)) (v1 := .ts row len) (row := row) (len := len) (vs := [v]) ?_ rfl ?_ rfl ?_ ?_
      · rfl
      · rfl
      · rfl
      · intro b hb
        cases b with
        | true =>
          have hr := hb rfl
          subst hr
          have hz : len = 0 := by simpa using hl.symm
          subst hz
          simp only [if_true, Option.some.injEq, Prod.mk.injEq] at h
          obtain ⟨rfl, rfl, rfl⟩ := h
          exact ⟨.ret, _, rfl, .inr rfl, rfl, rfl, rfl⟩
        | false =>
          by_cases hz : len = 0
          · subst hz
            have hr : row = [] := List.eq_nil_of_length_eq_zero hl
            subst hr
            simp only [if_true, Option.some.injEq, Prod.mk.injEq] at h
            obtain ⟨rfl, rfl, rfl⟩ := h
            refine ⟨.ret, ?_, ?_, .inr rfl, ?_, ?_, ?_⟩
            · exact ⟨upd (upd (upd (upd (upd (upd (upd (upd (argsT [.ts [] 0]) 2 .nil) 3 (.ts [] 0)) 4 (.sc (.bool false))) 5 .nil) 6 (.ts [] 0)) 7 .nil) 2 .nil) 2 .nil, σ, nx⟩
            · simp only [evCode, go_sem]
            · rfl
            · rfl
            · rfl
          · rw [if_neg hz] at h
            simp only [Option.some.injEq, Prod.mk.injEq] at h
            obtain ⟨rfl, rfl, rfl⟩ := h
            have q1 : len ≤ maxLen ∧ len * 8 ≤ 140737488355328 := by unfold maxLen; omega
            refine ⟨.ret, ?_, ?_, .inr rfl, ?_, ?_, ?_⟩
            · exact ⟨upd (upd (upd (upd (upd (upd (upd (argsT [.ts row len]) 2 .nil) 3 (.ts row len)) 4 (.sc (.bool false))) 5 .nil) 6 (.ts row len)) 7 (.rs nx 0 len)) 2 (.rs nx 0 len), evBox σ nx row 1, nx + 1⟩
            · simp only [evCode, go_sem, hl, hz, q1]
            · rfl
            · rfl
            · rfl
    · cases h
  · cases h
/-- Functions that are known otherwise. -/
def ext : Ext := fun f => if f = 110 then some cloneG else none
theorem extOk : ExtOk Try.prog ext := fun f g h args σ nx v σ' nx' hg => by
  unfold ext at h
  split at h
  · rename_i hf
    subst hf
    cases h
    exact clone_sound args σ nx v σ' nx' hg
  · cases h
theorem iClone (xs : List Int) (h : xs.length ≤ 17592186044000) : fn Try.prog conv ext 110 [LI xs] = some (LI xs) := by
  have hg : cloneG [LI xs] noStore 0 = if xs.length = 0 then some (.nil, noStore, 0) else some (.rs 0 0 xs.length, evBox noStore 0 (xs.flatMap cI) 1, 0 + 1) := by
    show (if (xs.flatMap cI).length = xs.length ∧ xs.length ≤ 17592186044000 ∧ (xs.flatMap cI).all isCell = true then _ else none) = _
    rw [if_pos ⟨cI_len xs, h, cI_cells xs⟩]
  rw [fn_eq, ev_ext (g := cloneG) rfl, hg]
  by_cases hz : xs.length = 0
  · rw [if_pos hz]
    have : xs = [] := List.eq_nil_of_length_eq_zero hz
    subst this
    (simp only [go_sem]) <;> rfl
  · rw [if_neg hz]
    simp only [go_sem]
end Go.Proofs.Ytlacjcdhfoeekaa
