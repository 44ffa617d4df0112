import Derived.Test.YtlacjcdhfoeekaaTv13
set_option linter.unusedSimpArgs false
set_option linter.unusedVariables false
namespace Go.TV
open Go.RowKit
set_option linter.unusedVariables false
set_option linter.unusedSimpArgs false

section
variable {P : Program} {conv : FuncId → Conv} {call : Call}

/-- A state of the frame. -/
structure Sim (nt nxE : Nat) (s0 : Sit) (σ0 : Store) (nx0 : Nat) (T : Nat → V) (σ : Store) (nx : Nat) (s : Sit) (a : Act) : Prop where
  inv : Inv s σ
  tr : TR s T a.tmps
  size : a.tmps.size = nt
  defers : a.defers = []
  nxt : Nxt s0 σ0 s σ
  dom : Dom s0 s nx0 nx
  fresh : Fresh s nx nxE
  nx0 : nx0 ≤ nx

theorem evOp_mono (hc : CallOk P call) {o : Oper} {T : Nat → V} {σ σ' : Store} {nx nx' : Nat} {v : V} (h : evOp P conv call o T σ nx = some (v, σ', nx')) : nx ≤ nx' := by
  obtain ⟨dst, op, type, pos, after, guard⟩ := o
  cases op <;> simp only [evOp] at h
  case call c =>
    obtain ⟨callee, args, ts⟩ := c
    cases callee with
    | value f =>
      simp only at h
      split at h
      · exact (evCall_sound hc h).1
      · cases h
    | builtin b =>
      simp only at h
      unfold evBuiltin at h
      split at h
      · split at h
        · obtain ⟨_, _, e⟩ := map_some' h; cases e; exact Nat.le_refl _
        · cases h
      · split at h
        · unfold evAppend at h
          split at h
          · split at h
            · split at h
              · split at h
                · split at h
                  · split at h
                    · unfold appendTo at h
                      split at h
                      · split at h
                        · cases h; exact Nat.le_refl _
                        · split at h
                          · cases h; exact Nat.le_succ _
                          · cases h
                      · split at h
                        · split at h
                          · cases h; exact Nat.le_refl _
                          · split at h
                            · split at h
                              · cases h; exact Nat.le_refl _
                              · cases h
                            · split at h
                              · cases h; exact Nat.le_succ _
                              · cases h
                        · cases h
                      · cases h
                    · cases h
                  · cases h
                · cases h
              · cases h
            · cases h
          · cases h
        · cases h
      · split at h
        · cases hp : evPure P (Builtin.min_ ts type _) with
          | none => rw [hp] at h; cases h
          | some r => rw [hp] at h; simp only [Option.bind_some] at h; split at h; cases h; exact Nat.le_refl _; cases h
        · cases h
      · split at h
        · cases hp : evPure P (Builtin.max_ ts type _) with
          | none => rw [hp] at h; cases h
          | some r => rw [hp] at h; simp only [Option.bind_some] at h; split at h; cases h; exact Nat.le_refl _; cases h
        · cases h
      · cases h
    | invoke r m => simp only at h; cases h
  case makeSlice t l c =>
    unfold evMake at h
    split at h
    · split at h
      · split at h
        · split at h
          · cases h; exact Nat.le_succ _
          · cases h
        · cases h
      · cases h
    · cases h
  case buildSlice t l c =>
    split at h
    · cases h
    · unfold evBuildSlice at h
      split at h
      · split at h
        · split at h
          · split at h
            · cases h; exact Nat.le_refl _
            · split at h
              · split at h
                · cases h; exact Nat.le_succ _
                · cases h
              · cases h
          · cases h
        · cases h
      · cases h
  case makeFunc fn f c =>
    split at h
    · split at h
      · cases h; exact Nat.le_refl _
      · cases h
    · cases h
  case move x => cases h; exact Nat.le_refl _
  case assign x => cases h; exact Nat.le_refl _
  case pick c x y =>
    split at h
    · cases h; exact Nat.le_refl _
    · cases h
  case alloc t =>
    split at h
    · split at h
      · cases h; exact Nat.le_succ _
      · cases h
    · cases h
  case box t x =>
    split at h
    · cases h; exact Nat.le_succ _
    · cases h
  case nilCheck x =>
    split at h
    · cases h; exact Nat.le_refl _
    · cases h; exact Nat.le_refl _
    · cases h
  case extract t i =>
    split at h
    · obtain ⟨_, _, e⟩ := map_some' h; cases e; exact Nat.le_refl _
    · cases h
  all_goals first | (obtain ⟨_, _, e⟩ := map_some' h; cases e; exact Nat.le_refl _) | cases h

theorem TR_put {s : Sit} {T : Nat → V} {a : Act} {dst : Option Tmp} {v : V} {x : Value} (h : TR s T a.tmps) (hd : ∀ d, dst = some d → d < a.tmps.size) (hv : VR s v x) : TR s (putT T dst v) (a.put dst x).tmps := by
  cases dst with
  | none => exact h
  | some d =>
    intro t
    have hlt := hd d rfl
    by_cases ht : t = d
    · subst ht
      simp only [putT, upd_same, Act.put, Array.getD_eq_getD_getElem?, Array.getElem?_setIfInBounds_self, hlt, if_true, Option.getD_some]
      exact hv
    · simp only [putT, upd_ne _ _ ht, Act.put, Array.getD_eq_getD_getElem?]
      rw [Array.getElem?_setIfInBounds_ne (fun e => ht e.symm)]
      have := h t
      rwa [Array.getD_eq_getD_getElem?] at this

theorem put_size (a : Act) (dst : Option Tmp) (x : Value) : (a.put dst x).tmps.size = a.tmps.size := by
  cases dst <;> simp [Act.put]
theorem put_defers (a : Act) (dst : Option Tmp) (x : Value) : (a.put dst x).defers = a.defers := by
  cases dst <;> rfl

theorem VR_undef (s : Sit) : VR s (.tup []) undef := by unfold VR; exact ⟨#[], rfl, by unfold VRs; rfl⟩

theorem wantedB_sound {ops : Array Oper} {T : Nat → V} {o : Oper} {b : Bool} (h : wantedB ops T o = some b) {s : Sit} {tmps : Array Value} (hT : TR s T tmps) : Region.wanted o (yielded ops tmps) = b := by
  unfold wantedB at h
  unfold Region.wanted
  split at h
  · rename_i hg
    simp only [hg]
    simpa using h
  · rename_i j want hg
    simp only [hg, yielded]
    split at h
    · rename_i d hd
      rw [hd]
      have ht := hT d
      simp only [Option.bind_some]
      rw [Array.getD_eq_getD_getElem?] at ht
      split at h
      · rename_i b' hb
        rw [hb] at ht
        unfold VR at ht
        simp only [Option.some.injEq] at h
        cases hq : tmps[d]? with
        | none => rw [hq] at ht; simp [undef] at ht
        | some y =>
          rw [hq] at ht
          simp only [Option.getD_some] at ht
          rw [ht.1]
          simp [← h]
      · rename_i hb
        rw [hb] at ht
        unfold VR VRs at ht
        simp only [Option.some.injEq] at h
        obtain ⟨xs, hx, hxs⟩ := ht
        cases hq : tmps[d]? with
        | none => simp [← h]
        | some y =>
          rw [hq] at hx
          simp only [Option.getD_some] at hx
          simp [hx, ← h]
      · cases h
    · rename_i hd
      rw [hd]
      simp only [Option.some.injEq] at h
      simp [← h]

theorem Sim.step {nt nxE : Nat} {s0 : Sit} {σ0 : Store} {nx0 : Nat} {T : Nat → V} {σ : Store} {nx : Nat} {s : Sit} {a : Act} (h : Sim nt nxE s0 σ0 nx0 T σ nx s a) {v : V} {x : Value} {σ' : Store} {nx' : Nat} {s' : Sit} (ho : Out s σ nx s' v x σ' nx')
    (hle : nx ≤ nx') {dst : Option Tmp} (hd : ∀ d, dst = some d → d < nt) : Sim nt nxE s0 σ0 nx0 (putT T dst v) σ' nx' s' (a.put dst x) := by
  refine ⟨ho.inv, TR_put (h.tr.mono ho.nxt.le) (fun d e => by rw [h.size]; exact hd d e) ho.vr, by rw [put_size]; exact h.size, by rw [put_defers]; exact h.defers, h.nxt.trans ho.nxt, fun i hi => ?_, fun i h1 h2 => ?_, Nat.le_trans h.nx0 hle⟩
  · rcases ho.dom i hi with h1 | h1
    · rcases h.dom i h1 with h2 | h2
      · exact .inl h2
      · exact .inr ⟨h2.1, by omega⟩
    · exact .inr ⟨by have := h.nx0; omega, h1.2⟩
  · cases he : s'.β i with
    | none => rfl
    | some l =>
      exfalso
      rcases ho.dom i (by rw [he]; simp) with h3 | h3
      · exact h3 (h.fresh i (by omega) h2)
      · omega

theorem Sim.skip {nt nxE : Nat} {s0 : Sit} {σ0 : Store} {nx0 : Nat} {T : Nat → V} {σ : Store} {nx : Nat} {s : Sit} {a : Act} (h : Sim nt nxE s0 σ0 nx0 T σ nx s a) {dst : Option Tmp} (hd : ∀ d, dst = some d → d < nt) :
    Sim nt nxE s0 σ0 nx0 (putT T dst (.tup [])) σ nx s (a.put dst undef) :=
  h.step (Out.same h.inv (VR_undef s)) (Nat.le_refl _) hd

theorem evOps_mono (hc : CallOk P call) {ops : Array Oper} : ∀ (l : List Oper) (st st' : St), evOps P conv call ops l st = some st' → st.nx ≤ st'.nx
  | [], st, st', h => by simp only [evOps, Option.some.injEq] at h; rw [h]; exact Nat.le_refl _
  | o :: l, st, st', h => by
    unfold evOps at h
    split at h
    · split at h
      · rename_i v σ' nx' e
        exact Nat.le_trans (evOp_mono hc e) (evOps_mono hc l _ st' h)
      · cases h
    · exact evOps_mono hc l ⟨putT st.T o.dst (.tup []), st.σ, st.nx⟩ st' h
    · cases h

theorem ops_sound (hc : CallOk P call) {ops : Array Oper} {nt nxE : Nat} {s0 : Sit} {σ0 : Store} {nx0 : Nat} (hd : ∀ o ∈ ops.toList, ∀ d, o.dst = some d → d < nt) {Q : Exit → Act → World → Prop} :
    ∀ (l : List Oper) (i : Nat) (st st' : St), ops.toList.drop i = l → evOps P conv call ops l st = some st' → st'.nx ≤ nxE → (∀ s a, Sim nt nxE s0 σ0 nx0 st'.T st'.σ st'.nx s a → Q .normal a s.w) →
    ∀ (s : Sit) (a : Act), Sim nt nxE s0 σ0 nx0 st.T st.σ st.nx s a → wpOps P ops Q (List.range' i l.length) a s.w
  | [], i, st, st', _, h, _, hQ, s, a, hs => by
    simp only [evOps, Option.some.injEq] at h; subst h
    simp only [List.length_nil, List.range'_zero, wpOps]
    exact hQ s a hs
  | o :: l, i, st, st', hl, h, hE, hQ, s, a, hs => by
    have h0 : ops[i]? = some o := by
      rw [← Array.getElem?_toList, show ops.toList[i]? = (ops.toList.drop i)[0]? by simp, hl]; rfl
    have hmem : o ∈ ops.toList := by rw [← Array.getElem?_toList] at h0; exact List.mem_of_getElem? h0
    have hl' : ops.toList.drop (i + 1) = l := by rw [← List.drop_drop, hl]; rfl
    rw [List.length_cons, List.range'_succ, wpOps_cons]
    unfold wpOp
    simp only [h0]
    unfold evOps at h
    split at h
    · rename_i hw
      rw [wantedB_sound hw hs.tr, if_pos rfl]
      split at h
      · rename_i v σ' nx' e
        have hm := evOps_mono hc l _ st' h
        have hm0 := evOp_mono hc e
        refine .inl (op_sound hc e hs.inv hs.tr (fun i h1 h2 => hs.fresh i h1 (by simp only at hm; omega)) fun s' x ho => ?_)
        exact ops_sound hc hd l (i + 1) _ st' hl' h hE hQ s' _ (hs.step ho hm0 (hd o hmem))
      · cases h
    · rename_i hw
      rw [wantedB_sound hw hs.tr, if_neg (by simp)]
      exact ops_sound hc hd l (i + 1) _ st' hl' h hE hQ s _ (hs.skip (hd o hmem))
    · cases h

end
end Go.TV
