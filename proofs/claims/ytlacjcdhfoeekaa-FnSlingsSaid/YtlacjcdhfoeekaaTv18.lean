import Derived.Test.YtlacjcdhfoeekaaTv17
set_option linter.unusedSimpArgs false
set_option linter.unusedVariables false
namespace Go.TV
open Go.RowKit
set_option linter.unusedVariables false
set_option linter.unusedSimpArgs false

section
variable {P : Program} {conv : FuncId → Conv} {call : Call}

theorem evDraw_mono (hc : CallOk P call) {ops : Array Oper} {st st' : St} (h : evDraw P conv call ops st = some st') : st.nx ≤ st'.nx := by
  unfold evDraw at h
  split at h
  · split at h
    · rename_i s' fs hrun
      split at h
      · simp only [Option.some.injEq] at h; subst h
        obtain ⟨L, _, _, _, h4, _⟩ := recs_of hc ops.toList 0 st s' fs hrun
        exact h4
      · cases h
    · cases h
  · cases h

theorem evLoop_mono {body : St → Option (Ex × St)} (hb : ∀ st e st', body st = some (e, st') → st.nx ≤ st'.nx) : ∀ (n : Nat) (st st' : St) (e : Ex), evLoop body n st = some (e, st') → st.nx ≤ st'.nx
  | 0, st, st', e, h => by cases h
  | n + 1, st, st', e, h => by
    unfold evLoop at h
    split at h
    · rename_i s1 h1
      exact Nat.le_trans (hb _ _ _ h1) (evLoop_mono hb n s1 st' e h)
    · exact hb _ _ _ h

theorem evCode_mono (hc : CallOk P call) (n : Nat) : ∀ (c : Code) (st st' : St) (e : Ex), evCode P conv call n c st = some (e, st') → st.nx ≤ st'.nx := by
  intro c
  induction c with
  | skip => intro st st' e h; simp only [evCode, Option.some.injEq, Prod.mk.injEq] at h; rw [h.2]; exact Nat.le_refl _
  | region id ops draw =>
    intro st st' e h
    simp only [evCode] at h
    split at h
    · rename_i s' hs
      simp only [Option.some.injEq, Prod.mk.injEq] at h
      obtain ⟨_, rfl⟩ := h
      split at hs
      · exact evDraw_mono hc hs
      · exact evOps_mono hc _ _ _ hs
    · cases h
  | seq a b iha ihb =>
    intro st st' e h
    simp only [evCode] at h
    split at h
    · rename_i s1 h1
      exact Nat.le_trans (iha _ _ _ h1) (ihb _ _ _ h)
    · exact iha _ _ _ h
  | cond c a b iha ihb =>
    intro st st' e h
    simp only [evCode] at h
    split at h
    · exact iha _ _ _ h
    · exact ihb _ _ _ h
    · cases h
  | block id c ih =>
    intro st st' e h
    simp only [evCode] at h
    split at h
    · rename_i j s1 h1
      split at h <;> (simp only [Option.some.injEq, Prod.mk.injEq] at h; obtain ⟨_, rfl⟩ := h; exact ih _ _ _ h1)
    · exact ih _ _ _ h
  | loop c ih => intro st st' e h; exact evLoop_mono (fun st e st' h => ih st st' e h) n st st' e h
  | exit id => intro st st' e h; simp only [evCode, Option.some.injEq, Prod.mk.injEq] at h; rw [h.2]; exact Nat.le_refl _
  | ret => intro st st' e h; simp only [evCode, Option.some.injEq, Prod.mk.injEq] at h; rw [h.2]; exact Nat.le_refl _
  | _ => intro st st' e h; simp only [evCode] at h; cases h

def toExit : Ex → Exit
  | .norm => .normal
  | .exit id => .exit id
  | .ret => .ret

/-- A loop whose rounds are counted. -/
theorem wp_loop_idx {c : Code} {Q : Exit → Act → World → Prop} (I : Nat → Act → World → Prop) (round : ∀ n a w, I n a w → c.wp P (Exit.then (fun a' w' => ∃ m, m < n ∧ I m a' w') Q) a w) :
    ∀ n a w, I n a w → (Code.loop c).wp P Q a w := by
  intro n a w h b k cs
  suffices key : ∀ n a w, I n a w → ∃ e a' w', Q e a' w' ∧ Arrives P (lone (b.at a (.code c :: .inLoop c :: k)) cs w) b k cs e a' w' by
    obtain ⟨e, a', w', hq, har⟩ := key n a w h
    exact ⟨e, a', w', hq, .of_steps (.one step_loop) har⟩
  intro n
  induction n using Nat.strongRecOn with
  | _ n ih =>
    intro a w h
    obtain ⟨e, a', w', hq, har⟩ := round n a w h b (.inLoop c :: k) cs
    have leave : ∀ e', e = e' → e' ≠ .normal → ∃ e a' w', Q e a' w' ∧ Arrives P (lone (b.at a (.code c :: .inLoop c :: k)) cs w) b k cs e a' w' := by
      rintro e' rfl hne
      refine ⟨e, a', w', ?_, .pass (x := .inLoop c) rfl (fun _ _ => .inl hne) har⟩
      cases e <;> first | exact hq | exact absurd rfl hne
    cases e with
    | normal =>
      obtain ⟨m, hm, hI⟩ := hq
      obtain ⟨e2, a2, w2, hq2, har2⟩ := ih m hm a' w' hI
      exact ⟨e2, a2, w2, hq2, .of_steps (Steps.trans har (.one step_inLoop)) har2⟩
    | exit id => exact leave _ rfl (by simp)
    | goto l => exact leave _ rfl (by simp)
    | ret => exact leave _ rfl (by simp)
    | panic ch => exact leave _ rfl (by simp)
    | outgrown => exact leave _ rfl (by simp)

theorem code_sound (hc : CallOk P call) (hm : P.follows .mixedOrders = true) {nt nxE : Nat} {s0 : Sit} {σ0 : Store} {nx0 : Nat} (n : Nat) :
    ∀ (c : Code) (st st' : St) (e : Ex) (Q : Exit → Act → World → Prop), evCode P conv call n c st = some (e, st') → dstOk nt c = true → st'.nx ≤ nxE → (∀ s a, Sim nt nxE s0 σ0 nx0 st'.T st'.σ st'.nx s a → Q (toExit e) a s.w) →
    ∀ (s : Sit) (a : Act), Sim nt nxE s0 σ0 nx0 st.T st.σ st.nx s a → c.wp P Q a s.w := by
  intro c
  induction c with
  | skip =>
    intro st st' e Q h hd hE hQ s a hs
    simp only [evCode, Option.some.injEq, Prod.mk.injEq] at h
    obtain ⟨rfl, rfl⟩ := h
    exact wp_skip (hQ s a hs)
  | region id ops draw =>
    intro st st' e Q h hd hE hQ s a hs
    have hdd : ∀ o ∈ ops.toList, ∀ d, o.dst = some d → d < nt := fun o ho d hod => by
      have := Array.all_eq_true'.1 hd o (by simpa using ho)
      rw [hod] at this
      simpa using this
    simp only [evCode] at h
    split at h
    · rename_i s' hs'
      simp only [Option.some.injEq, Prod.mk.injEq] at h
      obtain ⟨rfl, rfl⟩ := h
      cases draw with
      | true => exact draw_sound hc hm hdd hs' hE hQ hs
      | false =>
        refine wp_region ?_
        have := ops_sound hc hdd ops.toList 0 st s' rfl hs' hE hQ s a hs
        rw [Array.length_toList, ← List.range_eq_range'] at this
        exact this
    · cases h
  | seq x y ihx ihy =>
    intro st st' e Q h hd hE hQ s a hs
    simp only [dstOk, Bool.and_eq_true] at hd
    simp only [evCode] at h
    refine wp_seq ?_
    split at h
    · rename_i s1 h1
      refine ihx st s1 .norm _ h1 hd.1 (Nat.le_trans (evCode_mono hc n y _ _ _ h) hE) (fun s2 a2 hs2 => ?_) s a hs
      exact ihy s1 st' e Q h hd.2 hE hQ s2 a2 hs2
    · rename_i r hne
      refine ihx st st' e _ h hd.1 hE (fun s2 a2 hs2 => ?_) s a hs
      cases e with
      | norm => exact absurd h (hne st')
      | exit id => exact hQ s2 a2 hs2
      | ret => exact hQ s2 a2 hs2
  | cond c x y ihx ihy =>
    intro st st' e Q h hd hE hQ s a hs
    simp only [dstOk, Bool.and_eq_true] at hd
    simp only [evCode] at h
    have hv := val_sound hs.tr c
    split at h
    · rename_i hcv
      rw [hcv] at hv; unfold VR at hv
      exact wp_cond_true hv.1 (ihx st st' e Q h hd.1 hE hQ s a hs)
    · rename_i hcv
      rw [hcv] at hv; unfold VR at hv
      exact wp_cond_false hv.1 (ihy st st' e Q h hd.2 hE hQ s a hs)
    · cases h
  | block id c ih =>
    intro st st' e Q h hd hE hQ s a hs
    simp only [dstOk] at hd
    simp only [evCode] at h
    refine wp_block ?_
    split at h
    · rename_i j s1 h1
      split at h
      · rename_i hj
        simp only [Option.some.injEq, Prod.mk.injEq] at h
        obtain ⟨rfl, rfl⟩ := h
        exact ih st s1 _ _ h1 hd hE (fun s2 a2 hs2 => by simp only [toExit, Exit.inBlock, hj, if_true]; exact hQ s2 a2 hs2) s a hs
      · rename_i hj
        simp only [Option.some.injEq, Prod.mk.injEq] at h
        obtain ⟨rfl, rfl⟩ := h
        exact ih st s1 _ _ h1 hd hE (fun s2 a2 hs2 => by simp only [toExit, Exit.inBlock, hj, if_false]; exact hQ s2 a2 hs2) s a hs
    · rename_i r hne
      refine ih st st' e _ h hd hE (fun s2 a2 hs2 => ?_) s a hs
      cases e with
      | norm => exact hQ s2 a2 hs2
      | exit id => exact absurd h (hne id st')
      | ret => exact hQ s2 a2 hs2
  | loop c ih =>
    intro st st' e Q h hd hE hQ s a hs
    simp only [dstOk] at hd
    simp only [evCode] at h
    refine wp_loop_idx (fun k a w => ∃ st1 s1, s1.w = w ∧ Sim nt nxE s0 σ0 nx0 st1.T st1.σ st1.nx s1 a ∧ evLoop (evCode P conv call n c) k st1 = some (e, st')) (fun k a w => ?_) n a s.w ⟨st, s, rfl, hs, h⟩
    rintro ⟨st1, s1, rfl, hs1, h1⟩
    cases k with
    | zero => cases h1
    | succ k =>
      unfold evLoop at h1
      split at h1
      · rename_i s2 hb
        exact ih st1 s2 .norm _ hb hd (Nat.le_trans (evLoop_mono (fun st e st' h => evCode_mono hc n c st st' e h) k s2 st' e h1) hE) (fun s3 a3 hs3 => ⟨k, Nat.lt_succ_self k, s2, s3, rfl, hs3, h1⟩) s1 a hs1
      · rename_i r hne
        refine ih st1 st' e _ h1 hd hE (fun s2 a2 hs2 => ?_) s1 a hs1
        cases e with
        | norm => exact absurd h1 (hne st')
        | exit id => exact hQ s2 a2 hs2
        | ret => exact hQ s2 a2 hs2
  | exit id =>
    intro st st' e Q h hd hE hQ s a hs
    simp only [evCode, Option.some.injEq, Prod.mk.injEq] at h
    obtain ⟨rfl, rfl⟩ := h
    exact wp_exit (hQ s a hs)
  | ret =>
    intro st st' e Q h hd hE hQ s a hs
    simp only [evCode, Option.some.injEq, Prod.mk.injEq] at h
    obtain ⟨rfl, rfl⟩ := h
    exact wp_ret (hQ s a hs)
  | _ => intro st st' e Q h; simp only [evCode] at h; cases h

def resF (tmps : Array Value) : ResultVar → Sem Value
  | .tmp t => pure (tmps.getD t undef)
  | .cell a t => do loadVar t (← asAddr (tmps.getD a undef))

theorem results_eq (fn : Func) (tmps : Array Value) : results fn tmps = (do let vs ← fn.results.mapM (resF tmps); pure (if h : vs.size = 1 then vs[0] else .tuple vs)) := by
  unfold results
  congr 1

theorem results_sound {s : Sit} {σ : Store} (hi : Inv s σ) {T : Nat → V} {tmps : Array Value} (hT : TR s T tmps) : ∀ (rs : List ResultVar) (vs : List V), evResults P T σ rs = some vs →
    ∃ xs : List Value, (rs.mapM (resF tmps)).run P s.w = .ok xs s.w ∧ VRs s vs xs
  | [], vs, h => by
    simp only [evResults, Option.some.injEq] at h; subst h
    exact ⟨[], by simp, by unfold VRs; rfl⟩
  | .tmp t :: rs, vs, h => by
    unfold evResults at h
    split at h
    · rename_i vs' e
      simp only [Option.some.injEq] at h; subst h
      obtain ⟨xs, h1, h2⟩ := results_sound hi hT rs vs' e
      exact ⟨tmps.getD t undef :: xs, by simp only [List.mapM_cons, resF, Sem.run_bind, Sem.run_pure, Result.andThen_ok, h1], by unfold VRs; exact ⟨_, _, rfl, hT t, h2⟩⟩
    · cases h
  | .cell a t :: rs, vs, h => by
    unfold evResults at h
    split at h
    · rename_i v vs' e1 e
      simp only [Option.some.injEq] at h; subst h
      obtain ⟨xs, h1, h2⟩ := results_sound hi hT rs vs' e
      obtain ⟨y, h3, h4⟩ := load_sound hi (hT a) e1
      refine ⟨y :: xs, ?_, by unfold VRs; exact ⟨_, _, rfl, h4, h2⟩⟩
      have hp : ∃ p, tmps.getD a undef = .pointer (some p) := by
        unfold Instr.loadAt at h3
        generalize tmps.getD a undef = z at h3
        cases z <;> first | (simp [Instr.sureAddr, stuck, Sem.run] at h3; done) | skip
        rename_i p
        cases p with
        | none => simp [Instr.sureAddr, stuck, Sem.run] at h3
        | some p => exact ⟨p, rfl⟩
      obtain ⟨p, hp⟩ := hp
      rw [hp] at h3
      have h5 : (loadVar t p).run P s.w = .ok y s.w := by simpa [Instr.loadAt, Instr.sureAddr] using h3
      simp only [List.mapM_cons, resF, Sem.run_bind, hp, asAddr, Sem.run_pure, Result.andThen_ok, h5, h1]
    · cases h

theorem args_tr {s : Sit} {args : List V} {vals : List Value} (h : VRs s args vals) (n : Nat) : TR s (argsT args) (vals.toArray ++ Array.replicate n undef) := by
  intro t
  unfold argsT
  have hl := VRs_length h
  by_cases ht : t < args.length
  · have h1 := List.getElem?_eq_getElem ht
    obtain ⟨x, hx, hr⟩ := VRs_get h h1
    rw [h1, Array.getD_eq_getD_getElem?, Array.getElem?_append_left (by simp; omega), List.getElem?_toArray, hx]
    exact hr
  · rw [List.getElem?_eq_none (by omega), Array.getD_eq_getD_getElem?, Array.getElem?_append_right (by simp; omega)]
    simp only [Option.getD_none]
    have : ((Array.replicate n undef)[t - vals.toArray.size]?).getD undef = undef := by
      rw [Array.getElem?_replicate]; split <;> rfl
    rw [this]
    exact VR_undef s

theorem VR_oneOf {s : Sit} {vs : List V} {xs : List Value} (h : VRs s vs xs) : VR s (oneOf vs) (if h : xs.toArray.size = 1 then xs.toArray[0] else .tuple xs.toArray) := by
  have hl := VRs_length h
  unfold oneOf
  split
  · rename_i v
    unfold VRs at h
    obtain ⟨y, ys, rfl, h1, h2⟩ := h
    unfold VRs at h2
    subst h2
    simpa using h1
  · rename_i hne
    have : ¬ xs.toArray.size = 1 := by
      intro e
      have hv : vs.length = 1 := by rw [hl]; simpa using e
      match vs, hv with
      | [v], _ => exact hne v rfl
    rw [dif_neg this]
    unfold VR
    exact ⟨_, rfl, h⟩

theorem body_sound (hc : CallOk P call) (hm : P.follows .mixedOrders = true) {f : FuncId} {fn : Func} {body : Code} (hf : P.funcs[f]? = some fn) (hb : fn.body = some body) {n : Nat} {args : List V} (hok : fnOk fn body args.length = true) {σ σ' : Store} {nx nx' : Nat} {v : V}
    (h : evBody P conv call n fn body args σ nx = some (v, σ', nx')) : SoundAt P f args σ nx v σ' nx' := by
  unfold fnOk at hok
  simp only [Bool.and_eq_true, decide_eq_true_eq, Bool.not_eq_true'] at hok
  obtain ⟨⟨hname, hsz⟩, hdst⟩ := hok
  have main : ∀ (e : Ex) (st : St) (vs : List V), evCode P conv call n body ⟨argsT args, σ, nx⟩ = some (e, st) → (e = .norm ∨ e = .ret) → evResults P st.T st.σ fn.results.toList = some vs → SoundAt P f args σ nx (oneOf vs) st.σ st.nx := by
    intro e st vs hcode he hres
    refine ⟨evCode_mono hc n body _ _ _ hcode, ⟨fn, hf, by rw [hb]; rfl, hname⟩, fun s vals hi hfr hargs => ?_⟩
    have hl := VRs_length hargs
    refine calls_of_wp hf hb ?_
    refine code_sound hc hm (nt := fn.ntmps) (nxE := st.nx) (s0 := s) (σ0 := σ) (nx0 := nx) n body ⟨argsT args, σ, nx⟩ st e _ hcode hdst (Nat.le_refl _) (fun s1 a1 hs1 => ?_) s _
      ⟨hi, args_tr hargs _, by simp; omega, rfl, .refl s σ, .refl s nx nx, hfr, Nat.le_refl _⟩
    obtain ⟨xs, h1, h2⟩ := results_sound hs1.inv hs1.tr fn.results.toList vs hres
    have hrun : (results fn a1.tmps).run P s1.w = .ok (if h : xs.toArray.size = 1 then xs.toArray[0] else .tuple xs.toArray) s1.w := by
      rw [results_eq]
      have e1 : fn.results = fn.results.toList.toArray := by simp
      rw [e1, List.mapM_toArray]
      simp only [Sem.run_bind, Sem.run_map, h1, Result.andThen_ok, Sem.run_pure]
    have hpost : bodyPost P fn (fun e w' => ∃ s' x, s'.w = w' ∧ e = .returned x ∧ Out s σ nx s' (oneOf vs) x st.σ st.nx) .normal a1 s1.w :=
      ⟨hs1.defers, _, hrun, s1, _, rfl, rfl, ⟨VR_oneOf h2, hs1.inv, hs1.nxt, hs1.dom⟩⟩
    rcases he with rfl | rfl
    · exact hpost
    · exact hpost
  unfold evBody at h
  split at h
  · rename_i st hcode
    split at h
    · rename_i vs hres
      simp only [Option.some.injEq, Prod.mk.injEq] at h
      obtain ⟨rfl, rfl, rfl⟩ := h
      exact main _ st vs hcode (.inl rfl) hres
    · cases h
  · rename_i st hcode
    split at h
    · rename_i vs hres
      simp only [Option.some.injEq, Prod.mk.injEq] at h
      obtain ⟨rfl, rfl, rfl⟩ := h
      exact main _ st vs hcode (.inr rfl) hres
    · cases h
  · cases h

/-- Functions that are known otherwise. -/
def ExtOk (P : Program) (ext : Ext) : Prop := ∀ f g, ext f = some g → ∀ args σ nx v σ' nx', g args σ nx = some (v, σ', nx') → SoundAt P f args σ nx v σ' nx'

/-- **What the interpreter tells holds of the program.** -/
theorem evF_sound (hm : P.follows .mixedOrders = true) {ext : Ext} (he : ExtOk P ext) : ∀ k, CallOk P (evF P conv ext k)
  | 0 => fun f args σ nx v σ' nx' h => by cases h
  | k + 1 => fun f args σ nx v σ' nx' h => by
    unfold evF at h
    split at h
    · rename_i g hg
      exact he f g hg args σ nx v σ' nx' h
    · split at h
      · rename_i fn hf
        split at h
        · rename_i body hb
          split at h
          · rename_i hok
            exact body_sound (evF_sound hm he k) hm hf hb hok h
          · cases h
        · cases h
      · cases h

end
end Go.TV
