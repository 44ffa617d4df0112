import Derived.Test.YtlkpocljgikpgaaTb1
import Derived.SizedLaws
import Derived.ChangeArms
import Derived.Deep.Slices
import Derived.OpenShut
import Derived.ChangeOld
import Derived.Laws.StructEq
import Derived.Test.YtlkpocljgikpgaaProg
import Derived.KernelRfl
set_option linter.unusedSimpArgs false
set_option linter.unusedVariables false
namespace Go.TV
open Go.RowKit
set_option linter.unusedVariables false
set_option linter.unusedSimpArgs false

section
variable {P : Program} {conv : FuncId → Conv} {call : Call}

theorem evDraw_mono (hc : CallOk P call) {ops : Array Oper} {st st' : St} (h : evDraw P conv call ops st = some st') : st.nx ≤ st'.nx := by
  unfold evDraw at h
  split at h
  · split at h
    · rename_i s' fs hrun
      split at h
      · simp only [Option.some.injEq] at h; subst h
        obtain ⟨L, _, _, _, h4, _⟩ := recs_of hc ops.toList 0 st s' fs hrun
        exact h4
      · cases h
    · cases h
  · cases h

theorem evLoop_mono {body : St → Option (Ex × St)} (hb : ∀ st e st', body st = some (e, st') → st.nx ≤ st'.nx) : ∀ (n : Nat) (st st' : St) (e : Ex), evLoop body n st = some (e, st') → st.nx ≤ st'.nx
  | 0, st, st', e, h => by cases h
  | n + 1, st, st', e, h => by
    unfold evLoop at h
    split at h
    · rename_i s1 h1
      exact Nat.le_trans (hb _ _ _ h1) (evLoop_mono hb n s1 st' e h)
    · exact hb _ _ _ h

theorem evCode_mono (hc : CallOk P call) (n : Nat) : ∀ (c : Code) (st st' : St) (e : Ex), evCode P conv call n c st = some (e, st') → st.nx ≤ st'.nx := by
  intro c
  induction c with
  | skip => intro st st' e h; simp only [evCode, Option.some.injEq, Prod.mk.injEq] at h; rw [h.2]; exact Nat.le_refl _
  | region id ops draw =>
    intro st st' e h
    simp only [evCode] at h
    split at h
    · rename_i s' hs
      simp only [Option.some.injEq, Prod.mk.injEq] at h
      obtain ⟨_, rfl⟩ := h
      split at hs
      · exact evDraw_mono hc hs
      · exact evOps_mono hc _ _ _ hs
    · cases h
  | seq a b iha ihb =>
    intro st st' e h
    simp only [evCode] at h
    split at h
    · rename_i s1 h1
      exact Nat.le_trans (iha _ _ _ h1) (ihb _ _ _ h)
    · exact iha _ _ _ h
  | cond c a b iha ihb =>
    intro st st' e h
    simp only [evCode] at h
    split at h
    · exact iha _ _ _ h
    · exact ihb _ _ _ h
    · cases h
  | block id c ih =>
    intro st st' e h
    simp only [evCode] at h
    split at h
    · rename_i j s1 h1
      split at h <;> (simp only [Option.some.injEq, Prod.mk.injEq] at h; obtain ⟨_, rfl⟩ := h; exact ih _ _ _ h1)
    · exact ih _ _ _ h
  | loop c ih => intro st st' e h; exact evLoop_mono (fun st e st' h => ih st st' e h) n st st' e h
  | exit id => intro st st' e h; simp only [evCode, Option.some.injEq, Prod.mk.injEq] at h; rw [h.2]; exact Nat.le_refl _
  | ret => intro st st' e h; simp only [evCode, Option.some.injEq, Prod.mk.injEq] at h; rw [h.2]; exact Nat.le_refl _
  | _ => intro st st' e h; simp only [evCode] at h; cases h

def toExit : Ex → Exit
  | .norm => .normal
  | .exit id => .exit id
  | .ret => .ret

/-- A loop whose rounds are counted. -/
theorem wp_loop_idx {c : Code} {Q : Exit → Act → World → Prop} (I : Nat → Act → World → Prop) (round : ∀ n a w, I n a w → c.wp P (Exit.then (fun a' w' => ∃ m, m < n ∧ I m a' w') Q) a w) :
    ∀ n a w, I n a w → (Code.loop c).wp P Q a w := by
  intro n a w h b k cs
  suffices key : ∀ n a w, I n a w → ∃ e a' w', Q e a' w' ∧ Arrives P (lone (b.at a (.code c :: .inLoop c :: k)) cs w) b k cs e a' w' by
    obtain ⟨e, a', w', hq, har⟩ := key n a w h
    exact ⟨e, a', w', hq, .of_steps (.one step_loop) har⟩
  intro n
  induction n using Nat.strongRecOn with
  | _ n ih =>
    intro a w h
    obtain ⟨e, a', w', hq, har⟩ := round n a w h b (.inLoop c :: k) cs
    have leave : ∀ e', e = e' → e' ≠ .normal → ∃ e a' w', Q e a' w' ∧ Arrives P (lone (b.at a (.code c :: .inLoop c :: k)) cs w) b k cs e a' w' := by
      rintro e' rfl hne
      refine ⟨e, a', w', ?_, .pass (x := .inLoop c) rfl (fun _ _ => .inl hne) har⟩
      cases e <;> first | exact hq | exact absurd rfl hne
    cases e with
    | normal =>
      obtain ⟨m, hm, hI⟩ := hq
      obtain ⟨e2, a2, w2, hq2, har2⟩ := ih m hm a' w' hI
      exact ⟨e2, a2, w2, hq2, .of_steps (Steps.trans har (.one step_inLoop)) har2⟩
    | exit id => exact leave _ rfl (by simp)
    | goto l => exact leave _ rfl (by simp)
    | ret => exact leave _ rfl (by simp)
    | panic ch => exact leave _ rfl (by simp)
    | outgrown => exact leave _ rfl (by simp)

theorem code_sound (hc : CallOk P call) (hm : P.follows .mixedOrders = true) {nt nxE : Nat} {s0 : Sit} {σ0 : Store} {nx0 : Nat} (n : Nat) :
    ∀ (c : Code) (st st' : St) (e : Ex) (Q : Exit → Act → World → Prop), evCode P conv call n c st = some (e, st') → dstOk nt c = true → st'.nx ≤ nxE → (∀ s a, Sim nt nxE s0 σ0 nx0 st'.T st'.σ st'.nx s a → Q (toExit e) a s.w) →
    ∀ (s : Sit) (a : Act), Sim nt nxE s0 σ0 nx0 st.T st.σ st.nx s a → c.wp P Q a s.w := by
  intro c
  induction c with
  | skip =>
    intro st st' e Q h hd hE hQ s a hs
    simp only [evCode, Option.some.injEq, Prod.mk.injEq] at h
    obtain ⟨rfl, rfl⟩ := h
    exact wp_skip (hQ s a hs)
  | region id ops draw =>
    intro st st' e Q h hd hE hQ s a hs
    have hdd : ∀ o ∈ ops.toList, ∀ d, o.dst = some d → d < nt := fun o ho d hod => by
      have := Array.all_eq_true'.1 hd o (by simpa using ho)
      rw [hod] at this
      simpa using this
    simp only [evCode] at h
    split at h
    · rename_i s' hs'
      simp only [Option.some.injEq, Prod.mk.injEq] at h
      obtain ⟨rfl, rfl⟩ := h
      cases draw with
      | true => exact draw_sound hc hm hdd hs' hE hQ hs
      | false =>
        refine wp_region ?_
        have := ops_sound hc hdd ops.toList 0 st s' rfl hs' hE hQ s a hs
        rw [Array.length_toList, ← List.range_eq_range'] at this
        exact this
    · cases h
  | seq x y ihx ihy =>
    intro st st' e Q h hd hE hQ s a hs
    simp only [dstOk, Bool.and_eq_true] at hd
    simp only [evCode] at h
    refine wp_seq ?_
    split at h
    · rename_i s1 h1
      refine ihx st s1 .norm _ h1 hd.1 (Nat.le_trans (evCode_mono hc n y _ _ _ h) hE) (fun s2 a2 hs2 => ?_) s a hs
      exact ihy s1 st' e Q h hd.2 hE hQ s2 a2 hs2
    · rename_i r hne
      refine ihx st st' e _ h hd.1 hE (fun s2 a2 hs2 => ?_) s a hs
      cases e with
      | norm => exact absurd h (hne st')
      | exit id => exact hQ s2 a2 hs2
      | ret => exact hQ s2 a2 hs2
  | cond c x y ihx ihy =>
    intro st st' e Q h hd hE hQ s a hs
    simp only [dstOk, Bool.and_eq_true] at hd
    simp only [evCode] at h
    have hv := val_sound hs.tr c
    split at h
    · rename_i hcv
      rw [hcv] at hv; unfold VR at hv
      exact wp_cond_true hv.1 (ihx st st' e Q h hd.1 hE hQ s a hs)
    · rename_i hcv
      rw [hcv] at hv; unfold VR at hv
      exact wp_cond_false hv.1 (ihy st st' e Q h hd.2 hE hQ s a hs)
    · cases h
  | block id c ih =>
    intro st st' e Q h hd hE hQ s a hs
    simp only [dstOk] at hd
    simp only [evCode] at h
    refine wp_block ?_
    split at h
    · rename_i j s1 h1
      split at h
      · rename_i hj
        simp only [Option.some.injEq, Prod.mk.injEq] at h
        obtain ⟨rfl, rfl⟩ := h
        exact ih st s1 _ _ h1 hd hE (fun s2 a2 hs2 => by simp only [toExit, Exit.inBlock, hj, if_true]; exact hQ s2 a2 hs2) s a hs
      · rename_i hj
        simp only [Option.some.injEq, Prod.mk.injEq] at h
        obtain ⟨rfl, rfl⟩ := h
        exact ih st s1 _ _ h1 hd hE (fun s2 a2 hs2 => by simp only [toExit, Exit.inBlock, hj, if_false]; exact hQ s2 a2 hs2) s a hs
    · rename_i r hne
      refine ih st st' e _ h hd hE (fun s2 a2 hs2 => ?_) s a hs
      cases e with
      | norm => exact hQ s2 a2 hs2
      | exit id => exact absurd h (hne id st')
      | ret => exact hQ s2 a2 hs2
  | loop c ih =>
    intro st st' e Q h hd hE hQ s a hs
    simp only [dstOk] at hd
    simp only [evCode] at h
    refine wp_loop_idx (fun k a w => ∃ st1 s1, s1.w = w ∧ Sim nt nxE s0 σ0 nx0 st1.T st1.σ st1.nx s1 a ∧ evLoop (evCode P conv call n c) k st1 = some (e, st')) (fun k a w => ?_) n a s.w ⟨st, s, rfl, hs, h⟩
    rintro ⟨st1, s1, rfl, hs1, h1⟩
    cases k with
    | zero => cases h1
    | succ k =>
      unfold evLoop at h1
      split at h1
      · rename_i s2 hb
        exact ih st1 s2 .norm _ hb hd (Nat.le_trans (evLoop_mono (fun st e st' h => evCode_mono hc n c st st' e h) k s2 st' e h1) hE) (fun s3 a3 hs3 => ⟨k, Nat.lt_succ_self k, s2, s3, rfl, hs3, h1⟩) s1 a hs1
      · rename_i r hne
        refine ih st1 st' e _ h1 hd hE (fun s2 a2 hs2 => ?_) s1 a hs1
        cases e with
        | norm => exact absurd h1 (hne st')
        | exit id => exact hQ s2 a2 hs2
        | ret => exact hQ s2 a2 hs2
  | exit id =>
    intro st st' e Q h hd hE hQ s a hs
    simp only [evCode, Option.some.injEq, Prod.mk.injEq] at h
    obtain ⟨rfl, rfl⟩ := h
    exact wp_exit (hQ s a hs)
  | ret =>
    intro st st' e Q h hd hE hQ s a hs
    simp only [evCode, Option.some.injEq, Prod.mk.injEq] at h
    obtain ⟨rfl, rfl⟩ := h
    exact wp_ret (hQ s a hs)
  | _ => intro st st' e Q h; simp only [evCode] at h; cases h

def resF (tmps : Array Value) : ResultVar → Sem Value
  | .tmp t => pure (tmps.getD t undef)
  | .cell a t => do loadVar t (← asAddr (tmps.getD a undef))

theorem results_eq (fn : Func) (tmps : Array Value) : results fn tmps = (do let vs ← fn.results.mapM (resF tmps); pure (if h : vs.size = 1 then vs[0] else .tuple vs)) := by
  unfold results
  congr 1

theorem results_sound {s : Sit} {σ : Store} (hi : Inv s σ) {T : Nat → V} {tmps : Array Value} (hT : TR s T tmps) : ∀ (rs : List ResultVar) (vs : List V), evResults P T σ rs = some vs →
    ∃ xs : List Value, (rs.mapM (resF tmps)).run P s.w = .ok xs s.w ∧ VRs s vs xs
  | [], vs, h => by
    simp only [evResults, Option.some.injEq] at h; subst h
    exact ⟨[], by simp, by unfold VRs; rfl⟩
  | .tmp t :: rs, vs, h => by
    unfold evResults at h
    split at h
    · rename_i vs' e
      simp only [Option.some.injEq] at h; subst h
      obtain ⟨xs, h1, h2⟩ := results_sound hi hT rs vs' e
      exact ⟨tmps.getD t undef :: xs, by simp only [List.mapM_cons, resF, Sem.run_bind, Sem.run_pure, Result.andThen_ok, h1], by unfold VRs; exact ⟨_, _, rfl, hT t, h2⟩⟩
    · cases h
  | .cell a t :: rs, vs, h => by
    unfold evResults at h
    split at h
    · rename_i v vs' e1 e
      simp only [Option.some.injEq] at h; subst h
      obtain ⟨xs, h1, h2⟩ := results_sound hi hT rs vs' e
      obtain ⟨y, h3, h4⟩ := load_sound hi (hT a) e1
      refine ⟨y :: xs, ?_, by unfold VRs; exact ⟨_, _, rfl, h4, h2⟩⟩
      have hp : ∃ p, tmps.getD a undef = .pointer (some p) := by
        unfold Instr.loadAt at h3
        generalize tmps.getD a undef = z at h3
        cases z <;> first | (simp [Instr.sureAddr, stuck, Sem.run] at h3; done) | skip
        rename_i p
        cases p with
        | none => simp [Instr.sureAddr, stuck, Sem.run] at h3
        | some p => exact ⟨p, rfl⟩
      obtain ⟨p, hp⟩ := hp
      rw [hp] at h3
      have h5 : (loadVar t p).run P s.w = .ok y s.w := by simpa [Instr.loadAt, Instr.sureAddr] using h3
      simp only [List.mapM_cons, resF, Sem.run_bind, hp, asAddr, Sem.run_pure, Result.andThen_ok, h5, h1]
    · cases h

theorem args_tr {s : Sit} {args : List V} {vals : List Value} (h : VRs s args vals) (n : Nat) : TR s (argsT args) (vals.toArray ++ Array.replicate n undef) := by
  intro t
  unfold argsT
  have hl := VRs_length h
  by_cases ht : t < args.length
  · have h1 := List.getElem?_eq_getElem ht
    obtain ⟨x, hx, hr⟩ := VRs_get h h1
    rw [h1, Array.getD_eq_getD_getElem?, Array.getElem?_append_left (by simp; omega), List.getElem?_toArray, hx]
    exact hr
  · rw [List.getElem?_eq_none (by omega), Array.getD_eq_getD_getElem?, Array.getElem?_append_right (by simp; omega)]
    simp only [Option.getD_none]
    have : ((Array.replicate n undef)[t - vals.toArray.size]?).getD undef = undef := by
      rw [Array.getElem?_replicate]; split <;> rfl
    rw [this]
    exact VR_undef s

theorem VR_oneOf {s : Sit} {vs : List V} {xs : List Value} (h : VRs s vs xs) : VR s (oneOf vs) (if h : xs.toArray.size = 1 then xs.toArray[0] else .tuple xs.toArray) := by
  have hl := VRs_length h
  unfold oneOf
  split
  · rename_i v
    unfold VRs at h
    obtain ⟨y, ys, rfl, h1, h2⟩ := h
    unfold VRs at h2
    subst h2
    simpa using h1
  · rename_i hne
    have : ¬ xs.toArray.size = 1 := by
      intro e
      have hv : vs.length = 1 := by rw [hl]; simpa using e
      match vs, hv with
      | [v], _ => exact hne v rfl
    rw [dif_neg this]
    unfold VR
    exact ⟨_, rfl, h⟩

theorem body_sound (hc : CallOk P call) (hm : P.follows .mixedOrders = true) {f : FuncId} {fn : Func} {body : Code} (hf : P.funcs[f]? = some fn) (hb : fn.body = some body) {n : Nat} {args : List V} (hok : fnOk fn body args.length = true) {σ σ' : Store} {nx nx' : Nat} {v : V}
    (h : evBody P conv call n fn body args σ nx = some (v, σ', nx')) : SoundAt P f args σ nx v σ' nx' := by
  unfold fnOk at hok
  simp only [Bool.and_eq_true, decide_eq_true_eq, Bool.not_eq_true'] at hok
  obtain ⟨⟨hname, hsz⟩, hdst⟩ := hok
  have main : ∀ (e : Ex) (st : St) (vs : List V), evCode P conv call n body ⟨argsT args, σ, nx⟩ = some (e, st) → (e = .norm ∨ e = .ret) → evResults P st.T st.σ fn.results.toList = some vs → SoundAt P f args σ nx (oneOf vs) st.σ st.nx := by
    intro e st vs hcode he hres
    refine ⟨evCode_mono hc n body _ _ _ hcode, ⟨fn, hf, by rw [hb]; rfl, hname⟩, fun s vals hi hfr hargs => ?_⟩
    have hl := VRs_length hargs
    refine calls_of_wp hf hb ?_
    refine code_sound hc hm (nt := fn.ntmps) (nxE := st.nx) (s0 := s) (σ0 := σ) (nx0 := nx) n body ⟨argsT args, σ, nx⟩ st e _ hcode hdst (Nat.le_refl _) (fun s1 a1 hs1 => ?_) s _
      ⟨hi, args_tr hargs _, by simp; omega, rfl, .refl s σ, .refl s nx nx, hfr, Nat.le_refl _⟩
    obtain ⟨xs, h1, h2⟩ := results_sound hs1.inv hs1.tr fn.results.toList vs hres
    have hrun : (results fn a1.tmps).run P s1.w = .ok (if h : xs.toArray.size = 1 then xs.toArray[0] else .tuple xs.toArray) s1.w := by
      rw [results_eq]
      have e1 : fn.results = fn.results.toList.toArray := by simp
      rw [e1, List.mapM_toArray]
      simp only [Sem.run_bind, Sem.run_map, h1, Result.andThen_ok, Sem.run_pure]
    have hpost : bodyPost P fn (fun e w' => ∃ s' x, s'.w = w' ∧ e = .returned x ∧ Out s σ nx s' (oneOf vs) x st.σ st.nx) .normal a1 s1.w :=
      ⟨hs1.defers, _, hrun, s1, _, rfl, rfl, ⟨VR_oneOf h2, hs1.inv, hs1.nxt, hs1.dom⟩⟩
    rcases he with rfl | rfl
    · exact hpost
    · exact hpost
  unfold evBody at h
  split at h
  · rename_i st hcode
    split at h
    · rename_i vs hres
      simp only [Option.some.injEq, Prod.mk.injEq] at h
      obtain ⟨rfl, rfl, rfl⟩ := h
      exact main _ st vs hcode (.inl rfl) hres
    · cases h
  · rename_i st hcode
    split at h
    · rename_i vs hres
      simp only [Option.some.injEq, Prod.mk.injEq] at h
      obtain ⟨rfl, rfl, rfl⟩ := h
      exact main _ st vs hcode (.inr rfl) hres
    · cases h
  · cases h

/-- Functions that are known otherwise. -/
def ExtOk (P : Program) (ext : Ext) : Prop := ∀ f g, ext f = some g → ∀ args σ nx v σ' nx', g args σ nx = some (v, σ', nx') → SoundAt P f args σ nx v σ' nx'

/-- **What the interpreter tells holds of the program.** -/
theorem evF_sound (hm : P.follows .mixedOrders = true) {ext : Ext} (he : ExtOk P ext) : ∀ k, CallOk P (evF P conv ext k)
  | 0 => fun f args σ nx v σ' nx' h => by cases h
  | k + 1 => fun f args σ nx v σ' nx' h => by
    unfold evF at h
    split at h
    · rename_i g hg
      exact he f g hg args σ nx v σ' nx' h
    · split at h
      · rename_i fn hf
        split at h
        · rename_i body hb
          split at h
          · rename_i hok
            exact body_sound (evF_sound hm he k) hm hf hb hok h
          · cases h
        · cases h
      · cases h

end
end Go.TV
namespace Go.TV
open Go.RowKit
set_option linter.unusedVariables false
set_option linter.unusedSimpArgs false

def CLe (c c' : Call) : Prop := ∀ f args σ nx r, c f args σ nx = some r → c' f args σ nx = some r

section
variable {P : Program} {conv : FuncId → Conv}

theorem evCall_le {c c' : Call} (h : CLe c c') {f : FuncId} {args : List V} {σ : Store} {nx : Nat} {r : V × Store × Nat} (e : evCall conv c f args σ nx = some r) : evCall conv c' f args σ nx = some r := by
  unfold evCall at *
  split at e
  · exact h _ _ _ _ _ e
  · split at e
    · rename_i ts ids h1
      try simp only [h1]
      cases h2 : c f ts noStore 0 with
      | none => rw [h2] at e; cases e
      | some q => rw [h2] at e; rw [h _ _ _ _ _ h2]; exact e
    · cases e
  · split at e
    · rename_i ts ids h1
      try simp only [h1]
      cases h2 : c f ts noStore nx with
      | none => rw [h2] at e; cases e
      | some q => rw [h2] at e; rw [h _ _ _ _ _ h2]; exact e
    · cases e

/-- An operation asks the calls at one place at most. -/
theorem evOp_le {c c' : Call} {o : Oper} {T : Nat → V} {σ : Store} {nx : Nat} {r : V × Store × Nat} (h : ∀ f args σ r, evCall conv c f args σ nx = some r → evCall conv c' f args σ nx = some r) (e : evOp P conv c o T σ nx = some r) : evOp P conv c' o T σ nx = some r := by
  obtain ⟨dst, op, type, pos, after, guard⟩ := o
  cases op <;> simp only [evOp] at e ⊢ <;> first | exact e | skip
  rename_i c0
  obtain ⟨callee, args, ts⟩ := c0
  cases callee with
  | value f =>
    simp only at e ⊢
    split at e
    · rename_i h1
      try simp only [h1]
      exact h _ _ _ _ e
    · cases e
  | builtin b => exact e
  | invoke r m => exact e

theorem evOp_calls {c : Call} {o : Oper} {T : Nat → V} {σ : Store} {nx : Nat} {r : V × Store × Nat} (e : evOp P conv c o T σ nx = some r) :
    (∀ c', evOp P conv c' o T σ nx = some r) ∨ ∃ f args, evCall conv c f args σ nx = some r ∧ ∀ c', evCall conv c' f args σ nx = some r → evOp P conv c' o T σ nx = some r := by
  obtain ⟨dst, op, type, pos, after, guard⟩ := o
  cases op <;> simp only [evOp] at e ⊢ <;> first | exact .inl fun _ => e | skip
  rename_i c0
  obtain ⟨callee, args, ts⟩ := c0
  cases callee with
  | value f =>
    simp only at e ⊢
    split at e
    · rename_i h1
      try simp only [h1]
      exact .inr ⟨_, _, e, fun c' h => h⟩
    · cases e
  | builtin b => exact .inl fun _ => e
  | invoke r m => exact .inl fun _ => e

theorem evOpD_le {c c' : Call} (h : CLe c c') {o : Oper} {T : Nat → V} {σ : Store} {nx : Nat} {r : V × Store × Nat} (e : evOpD P conv c o T σ nx = some r) : evOpD P conv c' o T σ nx = some r := by
  unfold evOpD at *
  split at e
  · rename_i F hF
    try simp only [hF]
    split at e
    · rename_i h1
      rw [if_pos h1]
      cases h2 : evOp P conv c o T (restrict σ F) nx with
      | none => rw [h2] at e; cases e
      | some q => rw [h2] at e; rw [evOp_le (fun f args σ r => evCall_le h) h2]; exact e
    · cases e
  · cases e

theorem evOps_le {c c' : Call} (h : CLe c c') {ops : Array Oper} : ∀ (l : List Oper) (s s' : St), evOps P conv c ops l s = some s' → evOps P conv c' ops l s = some s'
  | [], s, s', e => e
  | o :: l, s, s', e => by
    unfold evOps at *
    split at e
    · rename_i h1
      try simp only [h1]
      cases h2 : evOp P conv c o s.T s.σ s.nx with
      | none => rw [h2] at e; cases e
      | some q =>
        rw [h2] at e
        rw [evOp_le (fun f args σ r => evCall_le h) h2]
        exact evOps_le h l _ _ e
    · rename_i h1
      try simp only [h1]
      exact evOps_le h l _ _ e
    · cases e

theorem evOpsD_le {c c' : Call} (h : CLe c c') {ops : Array Oper} : ∀ (l : List Oper) (s : St) (r : St × List (List Nat)), evOpsD P conv c ops l s = some r → evOpsD P conv c' ops l s = some r
  | [], s, r, e => e
  | o :: l, s, r, e => by
    unfold evOpsD at *
    split at e
    · rename_i h1
      try simp only [h1]
      cases h2 : evOpD P conv c o s.T s.σ s.nx with
      | none => rw [h2] at e; cases e
      | some q =>
        rw [h2] at e
        rw [evOpD_le h h2]
        simp only at e ⊢
        cases h3 : evOpsD P conv c ops l ⟨putT s.T o.dst q.1, q.2.1, q.2.2⟩ with
        | none => rw [h3] at e; cases e
        | some q3 => rw [h3] at e; rw [evOpsD_le h l _ _ h3]; exact e
    · rename_i h1
      try simp only [h1]
      cases h3 : evOpsD P conv c ops l ⟨putT s.T o.dst (.tup []), s.σ, s.nx⟩ with
      | none => rw [h3] at e; cases e
      | some q3 => rw [h3] at e; rw [evOpsD_le h l _ _ h3]; exact e
    · cases e

theorem evDraw_le {c c' : Call} (h : CLe c c') {ops : Array Oper} {s s' : St} (e : evDraw P conv c ops s = some s') : evDraw P conv c' ops s = some s' := by
  unfold evDraw at *
  split at e
  · rename_i h1
    rw [if_pos h1]
    cases h2 : evOpsD P conv c ops ops.toList s with
    | none => rw [h2] at e; cases e
    | some q => rw [h2] at e; rw [evOpsD_le h _ _ _ h2]; exact e
  · cases e

/-- The loop without a bound on its rounds. -/
noncomputable def evLoopI (body : St → Option (Ex × St)) (s : St) : Option (Ex × St) :=
  open Classical in if h : ∃ r, ∃ n, evLoop body n s = some r then some h.choose else none

theorem evLoop_more {body : St → Option (Ex × St)} : ∀ (n : Nat) (s : St) (r : Ex × St), evLoop body n s = some r → evLoop body (n + 1) s = some r
  | 0, s, r, h => by cases h
  | n + 1, s, r, h => by
    unfold evLoop at h ⊢
    split at h
    · exact evLoop_more n _ r h
    · exact h

theorem evLoop_mono' {body : St → Option (Ex × St)} {n m : Nat} (hnm : n ≤ m) {s : St} {r : Ex × St} (h : evLoop body n s = some r) : evLoop body m s = some r := by
  induction hnm with
  | refl => exact h
  | step _ ih => exact evLoop_more _ _ _ ih

theorem evLoopI_some {body : St → Option (Ex × St)} {s : St} {r : Ex × St} : evLoopI body s = some r ↔ ∃ n, evLoop body n s = some r := by
  unfold evLoopI
  constructor
  · intro h
    split at h
    · rename_i hex
      simp only [Option.some.injEq] at h; subst h
      exact hex.choose_spec
    · cases h
  · rintro ⟨n, hn⟩
    have hex : ∃ r, ∃ n, evLoop body n s = some r := ⟨r, n, hn⟩
    rw [dif_pos hex]
    obtain ⟨m, hm⟩ := hex.choose_spec
    have h1 := evLoop_mono' (Nat.le_max_left n m) hn
    have h2 := evLoop_mono' (Nat.le_max_right n m) hm
    rw [h1] at h2
    exact h2.symm

/-- A round more. -/
theorem evLoopI_eq (body : St → Option (Ex × St)) (s : St) : evLoopI body s = match body s with
    | some (.norm, s') => evLoopI body s'
    | r => r := by
  apply Option.ext
  intro r
  rw [evLoopI_some]
  constructor
  · rintro ⟨n, hn⟩
    cases n with
    | zero => cases hn
    | succ n =>
      unfold evLoop at hn
      cases hb : body s with
      | none => rw [hb] at hn; cases hn
      | some q =>
        rw [hb] at hn
        obtain ⟨ex, s1⟩ := q
        cases ex with
        | norm => exact evLoopI_some.2 ⟨n, hn⟩
        | exit id => exact hn
        | ret => exact hn
  · intro h
    split at h
    · rename_i s' hb
      obtain ⟨n, hn⟩ := evLoopI_some.1 h
      exact ⟨n + 1, by unfold evLoop; simp only [hb]; exact hn⟩
    · rename_i hne
      refine ⟨1, ?_⟩
      unfold evLoop
      split
      · rename_i s' hb; exact absurd hb (hne s')
      · exact h

noncomputable def evCodeI (P : Program) (conv : FuncId → Conv) (call : Call) : Code → St → Option (Ex × St)
  | .skip, s => some (.norm, s)
  | .region _ ops draw, s => match (if draw then evDraw P conv call ops s else evOps P conv call ops ops.toList s) with
    | some s' => some (.norm, s')
    | none => none
  | .seq a b, s => match evCodeI P conv call a s with
    | some (.norm, s') => evCodeI P conv call b s'
    | r => r
  | .cond c a b, s => match val s.T c with
    | .sc (.bool true) => evCodeI P conv call a s
    | .sc (.bool false) => evCodeI P conv call b s
    | _ => none
  | .block id c, s => match evCodeI P conv call c s with
    | some (.exit j, s') => if j = id then some (.norm, s') else some (.exit j, s')
    | r => r
  | .loop c, s => evLoopI (evCodeI P conv call c) s
  | .exit id, s => some (.exit id, s)
  | .ret, s => some (.ret, s)
  | _, _ => none

theorem evLoop_le {b b' : St → Option (Ex × St)} (h : ∀ s r, b s = some r → b' s = some r) : ∀ (n : Nat) (s : St) (r : Ex × St), evLoop b n s = some r → evLoop b' n s = some r
  | 0, s, r, e => by cases e
  | n + 1, s, r, e => by
    unfold evLoop at *
    split at e
    · rename_i s' hb; simp only [h _ _ hb]; exact evLoop_le h n s' r e
    · cases hbs : b s with
      | none => rw [hbs] at e; cases e
      | some q =>
        rw [hbs] at e
        rw [h _ _ hbs]
        obtain ⟨ex, s1⟩ := q
        cases ex with
        | norm => rename_i hne; exact absurd hbs (hne s1)
        | exit id => exact e
        | ret => exact e

theorem evCode_le {c c' : Call} (h : CLe c c') {n m : Nat} (hnm : n ≤ m) : ∀ (cd : Code) (s : St) (r : Ex × St), evCode P conv c n cd s = some r → evCode P conv c' m cd s = some r := by
  intro cd
  induction cd with
  | region id ops draw =>
    intro s r e
    simp only [evCode] at *
    cases draw with
    | true =>
      simp only [if_true] at *
      cases h2 : evDraw P conv c ops s with
      | none => rw [h2] at e; cases e
      | some q => rw [h2] at e; rw [evDraw_le h h2]; exact e
    | false =>
      simp only [Bool.false_eq_true, if_false] at *
      cases h2 : evOps P conv c ops ops.toList s with
      | none => rw [h2] at e; cases e
      | some q => rw [h2] at e; rw [evOps_le h _ _ _ h2]; exact e
  | seq a b iha ihb =>
    intro s r e
    simp only [evCode] at *
    cases h2 : evCode P conv c n a s with
    | none => rw [h2] at e; cases e
    | some q =>
      rw [h2] at e
      rw [iha _ _ h2]
      obtain ⟨ex, s1⟩ := q
      cases ex <;> first | exact ihb _ _ e | exact e
  | cond v a b iha ihb =>
    intro s r e
    simp only [evCode] at *
    split at e
    · exact iha _ _ e
    · exact ihb _ _ e
    · cases e
  | block id cd ih =>
    intro s r e
    simp only [evCode] at *
    cases h2 : evCode P conv c n cd s with
    | none => rw [h2] at e; cases e
    | some q => rw [h2] at e; rw [ih _ _ h2]; exact e
  | loop cd ih =>
    intro s r e
    simp only [evCode] at *
    exact evLoop_mono' hnm (evLoop_le (fun s r => ih s r) n s r e)
  | skip => intro s r e; exact e
  | exit id => intro s r e; exact e
  | ret => intro s r e; exact e
  | _ => intro s r e; simp only [evCode] at e; cases e

theorem evCodeI_of {c c' : Call} (h : CLe c c') {n : Nat} : ∀ (cd : Code) (s : St) (r : Ex × St), evCode P conv c n cd s = some r → evCodeI P conv c' cd s = some r := by
  intro cd
  induction cd with
  | region id ops draw =>
    intro s r e
    simp only [evCode, evCodeI] at *
    cases draw with
    | true =>
      simp only [if_true] at *
      cases h2 : evDraw P conv c ops s with
      | none => rw [h2] at e; cases e
      | some q => rw [h2] at e; rw [evDraw_le h h2]; exact e
    | false =>
      simp only [Bool.false_eq_true, if_false] at *
      cases h2 : evOps P conv c ops ops.toList s with
      | none => rw [h2] at e; cases e
      | some q => rw [h2] at e; rw [evOps_le h _ _ _ h2]; exact e
  | seq a b iha ihb =>
    intro s r e
    simp only [evCode, evCodeI] at *
    cases h2 : evCode P conv c n a s with
    | none => rw [h2] at e; cases e
    | some q =>
      rw [h2] at e
      rw [iha _ _ h2]
      obtain ⟨ex, s1⟩ := q
      cases ex <;> first | exact ihb _ _ e | exact e
  | cond v a b iha ihb =>
    intro s r e
    simp only [evCode, evCodeI] at *
    split at e
    · rename_i hv; simp only [hv]; exact iha _ _ e
    · rename_i hv; simp only [hv]; exact ihb _ _ e
    · cases e
  | block id cd ih =>
    intro s r e
    simp only [evCode, evCodeI] at *
    cases h2 : evCode P conv c n cd s with
    | none => rw [h2] at e; cases e
    | some q => rw [h2] at e; rw [ih _ _ h2]; exact e
  | loop cd ih =>
    intro s r e
    simp only [evCode, evCodeI] at *
    exact evLoopI_some.2 ⟨n, evLoop_le (fun s r => ih s r) n s r e⟩
  | skip => intro s r e; exact e
  | exit id => intro s r e; exact e
  | ret => intro s r e; exact e
  | _ => intro s r e; simp only [evCode] at e; cases e

/-! ### Calls without a bound -/

def Chain (C : Nat → Call) : Prop := ∀ k, CLe (C k) (C (k + 1))

theorem Chain.le {C : Nat → Call} (h : Chain C) {k m : Nat} (hkm : k ≤ m) : CLe (C k) (C m) := by
  induction hkm with
  | refl => exact fun _ _ _ _ _ e => e
  | step _ ih => exact fun f args σ nx r e => h _ f args σ nx r (ih f args σ nx r e)

noncomputable def sup (C : Nat → Call) : Call := fun f args σ nx =>
  open Classical in if h : ∃ r, ∃ k, C k f args σ nx = some r then some h.choose else none

theorem sup_some {C : Nat → Call} (hC : Chain C) {f : FuncId} {args : List V} {σ : Store} {nx : Nat} {r : V × Store × Nat} : sup C f args σ nx = some r ↔ ∃ k, C k f args σ nx = some r := by
  unfold sup
  constructor
  · intro h
    split at h
    · rename_i hex
      simp only [Option.some.injEq] at h; subst h
      exact hex.choose_spec
    · cases h
  · rintro ⟨n, hn⟩
    have hex : ∃ r, ∃ k, C k f args σ nx = some r := ⟨r, n, hn⟩
    rw [dif_pos hex]
    obtain ⟨m, hm⟩ := hex.choose_spec
    have h1 := hC.le (Nat.le_max_left n m) _ _ _ _ _ hn
    have h2 := hC.le (Nat.le_max_right n m) _ _ _ _ _ hm
    rw [h1] at h2
    exact h2.symm

theorem evCall_sup {C : Nat → Call} (hC : Chain C) {f : FuncId} {args : List V} {σ : Store} {nx : Nat} {r : V × Store × Nat} (e : evCall conv (sup C) f args σ nx = some r) : ∃ k, evCall conv (C k) f args σ nx = some r := by
  unfold evCall at *
  split at e
  · exact (sup_some hC).1 e
  · split at e
    · rename_i ts ids h1
      try simp only [h1]
      cases h2 : sup C f ts noStore 0 with
      | none => rw [h2] at e; cases e
      | some q =>
        obtain ⟨k, hk⟩ := (sup_some hC).1 h2
        rw [h2] at e
        exact ⟨k, by rw [hk]; exact e⟩
    · cases e
  · split at e
    · rename_i ts ids h1
      try simp only [h1]
      cases h2 : sup C f ts noStore nx with
      | none => rw [h2] at e; cases e
      | some q =>
        obtain ⟨k, hk⟩ := (sup_some hC).1 h2
        rw [h2] at e
        exact ⟨k, by rw [hk]; exact e⟩
    · cases e

theorem evOp_sup {C : Nat → Call} (hC : Chain C) {o : Oper} {T : Nat → V} {σ : Store} {nx : Nat} {r : V × Store × Nat} (e : evOp P conv (sup C) o T σ nx = some r) : ∃ k, evOp P conv (C k) o T σ nx = some r := by
  rcases evOp_calls e with h | ⟨f, args, h1, h2⟩
  · exact ⟨0, h _⟩
  · obtain ⟨k, hk⟩ := evCall_sup hC h1
    exact ⟨k, h2 _ hk⟩

theorem evOpD_sup {C : Nat → Call} (hC : Chain C) {o : Oper} {T : Nat → V} {σ : Store} {nx : Nat} {r : V × Store × Nat} (e : evOpD P conv (sup C) o T σ nx = some r) : ∃ k, evOpD P conv (C k) o T σ nx = some r := by
  unfold evOpD at *
  split at e
  · rename_i F hF
    try simp only [hF]
    split at e
    · rename_i h1
      simp only [h1, if_true]
      cases h2 : evOp P conv (sup C) o T (restrict σ F) nx with
      | none => rw [h2] at e; cases e
      | some q =>
        obtain ⟨k, hk⟩ := evOp_sup hC h2
        rw [h2] at e
        exact ⟨k, by rw [hk]; exact e⟩
    · cases e
  · cases e

theorem evOps_sup {C : Nat → Call} (hC : Chain C) {ops : Array Oper} : ∀ (l : List Oper) (s s' : St), evOps P conv (sup C) ops l s = some s' → ∃ k, evOps P conv (C k) ops l s = some s'
  | [], s, s', e => ⟨0, e⟩
  | o :: l, s, s', e => by
    unfold evOps at e
    split at e
    · rename_i h1
      cases h2 : evOp P conv (sup C) o s.T s.σ s.nx with
      | none => rw [h2] at e; cases e
      | some q =>
        rw [h2] at e
        obtain ⟨k, hk⟩ := evOp_sup hC h2
        obtain ⟨m, hm⟩ := evOps_sup hC l _ _ e
        refine ⟨max k m, ?_⟩
        unfold evOps
        simp only [h1, evOp_le (fun f args σ r => evCall_le (hC.le (Nat.le_max_left k m))) hk]
        exact evOps_le (hC.le (Nat.le_max_right k m)) _ _ _ hm
    · rename_i h1
      obtain ⟨m, hm⟩ := evOps_sup hC l _ _ e
      exact ⟨m, by unfold evOps; simp only [h1]; exact hm⟩
    · cases e

theorem evOpsD_sup {C : Nat → Call} (hC : Chain C) {ops : Array Oper} : ∀ (l : List Oper) (s : St) (r : St × List (List Nat)), evOpsD P conv (sup C) ops l s = some r → ∃ k, evOpsD P conv (C k) ops l s = some r
  | [], s, r, e => ⟨0, e⟩
  | o :: l, s, r, e => by
    unfold evOpsD at e
    split at e
    · rename_i h1
      cases h2 : evOpD P conv (sup C) o s.T s.σ s.nx with
      | none => rw [h2] at e; cases e
      | some q =>
        rw [h2] at e
        simp only at e
        cases h3 : evOpsD P conv (sup C) ops l ⟨putT s.T o.dst q.1, q.2.1, q.2.2⟩ with
        | none => rw [h3] at e; cases e
        | some q3 =>
          rw [h3] at e
          obtain ⟨k, hk⟩ := evOpD_sup hC h2
          obtain ⟨m, hm⟩ := evOpsD_sup hC l _ _ h3
          refine ⟨max k m, ?_⟩
          unfold evOpsD
          simp only [h1, evOpD_le (hC.le (Nat.le_max_left k m)) hk, evOpsD_le (hC.le (Nat.le_max_right k m)) _ _ _ hm]
          exact e
    · rename_i h1
      cases h3 : evOpsD P conv (sup C) ops l ⟨putT s.T o.dst (.tup []), s.σ, s.nx⟩ with
      | none => rw [h3] at e; cases e
      | some q3 =>
        rw [h3] at e
        obtain ⟨m, hm⟩ := evOpsD_sup hC l _ _ h3
        refine ⟨m, ?_⟩
        unfold evOpsD
        simp only [h1, hm]
        exact e
    · cases e

theorem evDraw_sup {C : Nat → Call} (hC : Chain C) {ops : Array Oper} {s s' : St} (e : evDraw P conv (sup C) ops s = some s') : ∃ k, evDraw P conv (C k) ops s = some s' := by
  unfold evDraw at *
  split at e
  · rename_i h1
    simp only [h1, if_true]
    cases h2 : evOpsD P conv (sup C) ops ops.toList s with
    | none => rw [h2] at e; cases e
    | some q =>
      obtain ⟨k, hk⟩ := evOpsD_sup hC _ _ _ h2
      rw [h2] at e
      exact ⟨k, by rw [hk]; exact e⟩
  · cases e

theorem evLoop_sup {B : Nat → St → Option (Ex × St)} {b : St → Option (Ex × St)} (hB : ∀ k m, k ≤ m → ∀ s r, B k s = some r → B m s = some r) (h : ∀ s r, b s = some r → ∃ k, B k s = some r) :
    ∀ (n : Nat) (s : St) (r : Ex × St), evLoop b n s = some r → ∃ k, evLoop (B k) n s = some r
  | 0, s, r, e => by cases e
  | n + 1, s, r, e => by
    unfold evLoop at e
    split at e
    · rename_i s' hb
      obtain ⟨k, hk⟩ := h _ _ hb
      obtain ⟨m, hm⟩ := evLoop_sup hB h n s' r e
      refine ⟨max k m, ?_⟩
      unfold evLoop
      simp only [hB k _ (Nat.le_max_left k m) _ _ hk]
      exact evLoop_le (hB m _ (Nat.le_max_right k m)) n s' r hm
    · rename_i hne
      obtain ⟨k, hk⟩ := h _ _ e
      refine ⟨k, ?_⟩
      unfold evLoop
      rw [hk]
      obtain ⟨ex, s1⟩ := r
      cases ex with
      | norm => exact absurd e (hne s1)
      | exit id => rfl
      | ret => rfl

theorem evCodeI_sup {C : Nat → Call} (hC : Chain C) : ∀ (cd : Code) (s : St) (r : Ex × St), evCodeI P conv (sup C) cd s = some r → ∃ k, evCode P conv (C k) k cd s = some r := by
  intro cd
  induction cd with
  | region id ops draw =>
    intro s r e
    simp only [evCode, evCodeI] at *
    cases draw with
    | true =>
      simp only [if_true] at *
      cases h2 : evDraw P conv (sup C) ops s with
      | none => rw [h2] at e; cases e
      | some q => obtain ⟨k, hk⟩ := evDraw_sup hC h2; rw [h2] at e; exact ⟨k, by rw [hk]; exact e⟩
    | false =>
      simp only [Bool.false_eq_true, if_false] at *
      cases h2 : evOps P conv (sup C) ops ops.toList s with
      | none => rw [h2] at e; cases e
      | some q => obtain ⟨k, hk⟩ := evOps_sup hC _ _ _ h2; rw [h2] at e; exact ⟨k, by rw [hk]; exact e⟩
  | seq a b iha ihb =>
    intro s r e
    simp only [evCode, evCodeI] at *
    cases h2 : evCodeI P conv (sup C) a s with
    | none => rw [h2] at e; cases e
    | some q =>
      rw [h2] at e
      obtain ⟨k, hk⟩ := iha _ _ h2
      obtain ⟨ex, s1⟩ := q
      cases ex with
      | norm =>
        obtain ⟨m, hm⟩ := ihb _ _ e
        exact ⟨max k m, by rw [evCode_le (hC.le (Nat.le_max_left k m)) (Nat.le_max_left k m) _ _ _ hk]; exact evCode_le (hC.le (Nat.le_max_right k m)) (Nat.le_max_right k m) _ _ _ hm⟩
      | exit id => exact ⟨k, by rw [hk]; exact e⟩
      | ret => exact ⟨k, by rw [hk]; exact e⟩
  | cond v a b iha ihb =>
    intro s r e
    simp only [evCode, evCodeI] at *
    split at e
    · rename_i hv; simp only [hv]; exact iha _ _ e
    · rename_i hv; simp only [hv]; exact ihb _ _ e
    · cases e
  | block id cd ih =>
    intro s r e
    simp only [evCode, evCodeI] at *
    cases h2 : evCodeI P conv (sup C) cd s with
    | none => rw [h2] at e; cases e
    | some q => obtain ⟨k, hk⟩ := ih _ _ h2; rw [h2] at e; exact ⟨k, by rw [hk]; exact e⟩
  | loop cd ih =>
    intro s r e
    simp only [evCode, evCodeI] at *
    obtain ⟨n, hn⟩ := evLoopI_some.1 e
    obtain ⟨k, hk⟩ := evLoop_sup (B := fun k => evCode P conv (C k) k cd) (fun k m hkm s r => evCode_le (hC.le hkm) hkm cd s r) (fun s r h => ih s r h) n s r hn
    refine ⟨max n k, ?_⟩
    exact evLoop_mono' (Nat.le_max_left n k) (evLoop_le (fun s r => evCode_le (hC.le (Nat.le_max_right n k)) (Nat.le_max_right n k) cd s r) n s r hk)
  | skip => intro s r e; exact ⟨0, e⟩
  | exit id => intro s r e; exact ⟨0, e⟩
  | ret => intro s r e; exact ⟨0, e⟩
  | _ => intro s r e; simp only [evCodeI] at e; cases e

theorem evBody_le {c c' : Call} (h : CLe c c') {n m : Nat} (hnm : n ≤ m) {fn : Func} {body : Code} {args : List V} {σ : Store} {nx : Nat} {r : V × Store × Nat} (e : evBody P conv c n fn body args σ nx = some r) : evBody P conv c' m fn body args σ nx = some r := by
  unfold evBody at *
  cases h2 : evCode P conv c n body ⟨argsT args, σ, nx⟩ with
  | none => rw [h2] at e; cases e
  | some q => rw [h2] at e; rw [evCode_le h hnm _ _ _ h2]; exact e

theorem evF_chain (ext : Ext) : Chain (evF P conv ext) := by
  intro k
  induction k with
  | zero => intro f args σ nx r e; cases e
  | succ k ih =>
    intro f args σ nx r e
    unfold evF at e ⊢
    split at e
    · exact e
    · rename_i hg
      split at e
      · rename_i fn hf
        try simp only [hg]
        split at e
        · rename_i body hb
          try simp only [hb]
          split at e
          · rename_i hok
            rw [if_pos hok]
            exact evBody_le ih (Nat.le_succ k) e
          · cases e
        · cases e
      · cases e

/-- **The interpreter.** -/
noncomputable def ev (P : Program) (conv : FuncId → Conv) (ext : Ext) : Call := sup (evF P conv ext)

/-- **What the interpreter tells holds of the program.** -/
theorem ev_sound (hm : P.follows .mixedOrders = true) {ext : Ext} (he : ExtOk P ext) : CallOk P (ev P conv ext) := fun f args σ nx v σ' nx' h => by
  obtain ⟨k, hk⟩ := (sup_some (evF_chain ext)).1 h
  exact evF_sound hm he k f args σ nx v σ' nx' hk

/-- How a function's code comes to be told. -/
noncomputable def bodyI (P : Program) (conv : FuncId → Conv) (call : Call) (rs : List ResultVar) (body : Code) (s : St) : Res :=
  match evCodeI P conv call body s with
  | some (.norm, st) => match evResults P st.T st.σ rs with
    | some vs => some (oneOf vs, st.σ, st.nx)
    | none => none
  | some (.ret, st) => match evResults P st.T st.σ rs with
    | some vs => some (oneOf vs, st.σ, st.nx)
    | none => none
  | _ => none

theorem ev_ext {ext : Ext} {f : FuncId} {g : List V → Store → Nat → Res} (hg : ext f = some g) (args : List V) (σ : Store) (nx : Nat) : ev P conv ext f args σ nx = g args σ nx := by
  apply Option.ext
  intro r
  unfold ev
  rw [sup_some (evF_chain ext)]
  constructor
  · rintro ⟨k, hk⟩
    cases k with
    | zero => cases hk
    | succ k => unfold evF at hk; simpa only [hg] using hk
  · intro h
    exact ⟨1, by unfold evF; simpa only [hg] using h⟩

theorem ev_eq {ext : Ext} {f : FuncId} {fn : Func} {body : Code} {rs : List ResultVar} (hg : ext f = none) (hf : P.funcs[f]? = some fn) (hb : fn.body = some body) (hr : fn.results.toList = rs) {args : List V} (hok : fnOk fn body args.length = true) (σ : Store) (nx : Nat) :
    ev P conv ext f args σ nx = bodyI P conv (ev P conv ext) rs body ⟨argsT args, σ, nx⟩ := by
  apply Option.ext
  intro r
  unfold ev
  rw [sup_some (evF_chain ext)]
  constructor
  · rintro ⟨k, hk⟩
    cases k with
    | zero => cases hk
    | succ k =>
      unfold evF at hk
      simp only [hg, hf, hb, hok, if_true] at hk
      unfold evBody at hk
      unfold bodyI
      cases h2 : evCode P conv (evF P conv ext k) k body ⟨argsT args, σ, nx⟩ with
      | none => rw [h2] at hk; cases hk
      | some q =>
        rw [h2] at hk
        rw [evCodeI_of (c' := sup (evF P conv ext)) (fun f args σ nx r e => (sup_some (evF_chain ext)).2 ⟨k, e⟩) _ _ _ h2, ← hr]
        exact hk
  · intro h
    unfold bodyI at h
    cases h2 : evCodeI P conv (sup (evF P conv ext)) body ⟨argsT args, σ, nx⟩ with
    | none => rw [h2] at h; cases h
    | some q =>
      rw [h2] at h
      obtain ⟨k, hk⟩ := evCodeI_sup (evF_chain ext) _ _ _ h2
      refine ⟨k + 1, ?_⟩
      unfold evF
      simp only [hg, hf, hb, hok, if_true]
      unfold evBody
      rw [hk, hr]
      exact h

end
end Go.TV
namespace Go.TV
set_option linter.unusedVariables false
set_option linter.unusedSimpArgs false

/-- What the equations ask of a type. -/
structure TyI where
  ok : Bool
  agg : Bool
  size : Nat
  zero : List V
  slice : Bool
  str : Bool
  ptr : Bool
  esz : Nat
  ebytes : Nat
  ezero : List V
  eok : Bool
  flds : List (Nat × Nat × Option Bool)
  plc : List (Nat × Nat)
  bok : Bool
  u8 : Bool

def zeroV (i : TypeInfo) : List V :=
  match i.zero with
  | some z => if z.cells.size = i.size then z.cells.toList.map ofCell else []
  | none => []
def zeroOk (i : TypeInfo) : Bool :=
  match i.zero with
  | some z => z.cells.size = i.size
  | none => false

def tyI0 (P : Program) (t : TypeId) : Option Bool := (P.underlying t).map isAggD

def tyI (P : Program) (t : TypeId) : TyI :=
  match P.info? t, P.underlying t with
  | some i, some d =>
    let e := match d with
      | .slice e => P.info? e
      | _ => none
    { ok := true, agg := isAggD d, size := i.size, zero := if zeroOk i then zeroV i else [], slice := d matches .slice _, str := d matches .string, ptr := d matches .pointer _,
      esz := (e.map (·.size)).getD 0, ebytes := (e.map (·.bytes)).getD 0, ezero := (e.map zeroV).getD [], eok := (e.map zeroOk).getD false,
      flds := match d with
        | .struct fs => fs.toList.map fun f => (f.offset, ((P.info? f.type).map (·.size)).getD 0, (tyI0 P f.type))
        | _ => []
      plc := match d with
        | .struct fs => ((evPure P (fs.mapM fun f => do pure (f.offset, ← sizeOf f.type))).map (·.toList)).getD []
        | _ => []
      bok := match d with
        | .struct fs => (evPure P (fs.mapM fun f => do pure (f.offset, ← sizeOf f.type))).isSome && zeroOk i
        | _ => false
      u8 := match d with
        | .slice e => (P.underlying e matches some (.int .u8)) && ((P.info? e).map (·.size)) == some 1
        | _ => false }
  | _, _ => ⟨false, false, 0, [], false, false, false, 0, 0, [], false, [], [], false, false⟩

section
variable {P : Program} {conv : FuncId → Conv} {call : Call} {σ : Store} {nx : Nat}

theorem tyI_ok {t : TypeId} (h : (tyI P t).ok = true) : ∃ i d, P.info? t = some i ∧ P.underlying t = some d ∧ (tyI P t).agg = isAggD d ∧ (tyI P t).size = i.size := by
  unfold tyI at h ⊢
  cases hi : P.info? t with
  | none => simp [hi] at h
  | some i =>
    cases hd : P.underlying t with
    | none => simp [hi, hd] at h
    | some d => exact ⟨i, d, rfl, rfl, rfl, rfl⟩

theorem tyI_slice {t : TypeId} (h : (tyI P t).slice = true) (he : (tyI P t).eok = true) : ∃ e i z, P.underlying t = some (.slice e) ∧ P.info? e = some i ∧ i.zero = some z ∧ z.cells.size = i.size ∧ (tyI P t).esz = i.size ∧ (tyI P t).ebytes = i.bytes ∧ (tyI P t).ezero = z.cells.toList.map ofCell := by
  unfold tyI at h he ⊢
  cases hi : P.info? t with
  | none => simp [hi] at h
  | some i =>
    cases hd : P.underlying t with
    | none => simp [hi, hd] at h
    | some d =>
      simp only [hi, hd] at h he ⊢
      cases d <;> simp at h
      rename_i e
      simp only at he ⊢
      cases hei : P.info? e with
      | none => simp [hei] at he
      | some ei =>
        simp only [hei, Option.map_some, Option.getD_some] at he ⊢
        unfold zeroOk at he
        cases hz : ei.zero with
        | none => simp [hz] at he
        | some z =>
          simp only [hz, decide_eq_true_eq] at he
          exact ⟨e, ei, z, rfl, hei, hz, he, rfl, rfl, by simp [zeroV, hz, he]⟩

theorem evLoad_tp {t : TypeId} {row : List V} {off : Nat} (h : (tyI P t).ok = true) (ha : (tyI P t).agg = false) : evLoad P σ t (.tp row off) = row[off]? := by
  obtain ⟨i, d, h1, h2, h3, h4⟩ := tyI_ok h
  rw [ha] at h3
  unfold evLoad
  simp only [h1, h2, ← h3, Bool.false_eq_true, if_false, cellsAt]
  by_cases hl : off < row.length
  · rw [if_pos (by omega), List.getElem?_eq_getElem hl]
    have : (row.drop off).take 1 = [row[off]] := by
      rw [List.drop_eq_getElem_cons hl]; rfl
    rw [this]
  · rw [if_neg (by omega), List.getElem?_eq_none (by omega)]

theorem evLoad_tpa {t : TypeId} {row : List V} {off : Nat} (h : (tyI P t).ok = true) (ha : (tyI P t).agg = true) : evLoad P σ t (.tp row off) = if off + (tyI P t).size ≤ row.length then some (.agg ((row.drop off).take (tyI P t).size)) else none := by
  obtain ⟨i, d, h1, h2, h3, h4⟩ := tyI_ok h
  rw [ha] at h3
  unfold evLoad
  simp only [h1, h2, ← h3, if_true, cellsAt, h4]
  split <;> rfl

theorem evLoad_rp {t : TypeId} {b off : Nat} (h : (tyI P t).ok = true) (ha : (tyI P t).agg = false) : evLoad P σ t (.rp b off) = (σ b).bind fun B => B.cells[off]? := by
  obtain ⟨i, d, h1, h2, h3, h4⟩ := tyI_ok h
  rw [ha] at h3
  unfold evLoad
  simp only [h1, h2, ← h3, Bool.false_eq_true, if_false, cellsAt]
  cases σ b with
  | none => rfl
  | some B =>
    simp only [Option.bind_some]
    by_cases hl : off < B.cells.length
    · rw [if_pos (by omega), List.getElem?_eq_getElem hl]
      have : (B.cells.drop off).take 1 = [B.cells[off]] := by
        rw [List.drop_eq_getElem_cons hl]; rfl
      rw [this]
    · rw [if_neg (by omega), List.getElem?_eq_none (by omega)]

theorem evLoad_rpa {t : TypeId} {b off : Nat} (h : (tyI P t).ok = true) (ha : (tyI P t).agg = true) : evLoad P σ t (.rp b off) = (σ b).bind fun B => if off + (tyI P t).size ≤ B.cells.length then some (.agg ((B.cells.drop off).take (tyI P t).size)) else none := by
  obtain ⟨i, d, h1, h2, h3, h4⟩ := tyI_ok h
  rw [ha] at h3
  unfold evLoad
  simp only [h1, h2, ← h3, if_true, cellsAt, h4]
  cases σ b with
  | none => rfl
  | some B => simp only [Option.bind_some]; split <;> rfl

theorem evStore_rp {t : TypeId} {b off : Nat} {v : V} (h : (tyI P t).ok = true) (hc : isCell v = true) (hs : (tyI P t).size = 1) : evStore P σ t (.rp b off) v = (σ b).bind fun B => if B.wr = true ∧ off < B.cells.length then some (upd σ b (some { B with cells := B.cells.set off v })) else none := by
  obtain ⟨i, d, h1, h2, h3, h4⟩ := tyI_ok h
  rw [hs] at h4
  have hv : cellsOfV v = some [v] := by cases v <;> simp_all [cellsOfV, isCell]
  unfold evStore
  simp only [h1, hv, ← h4, List.length_singleton, List.all_cons, List.all_nil, hc, Bool.and_true, and_true, true_and, patch]
  cases σ b with
  | none => rfl
  | some B => simp only [Option.bind_some]; rfl

theorem evStore_agg {t : TypeId} {b off : Nat} {vs : List V} (h : (tyI P t).ok = true) : evStore P σ t (.rp b off) (.agg vs) = (σ b).bind fun B => if B.wr = true ∧ vs.length = (tyI P t).size ∧ off + vs.length ≤ B.cells.length ∧ vs.all isCell = true then some (upd σ b (some { B with cells := patch B.cells off vs })) else none := by
  obtain ⟨i, d, h1, h2, h3, h4⟩ := tyI_ok h
  unfold evStore
  simp only [h1, h4, cellsOfV]
  cases σ b with
  | none => rfl
  | some B => simp only [Option.bind_some]

theorem flds_spec {t : TypeId} {f : Nat} (h : (tyI P t).ok = true) :
    (∃ fields fd, P.underlying t = some (.struct fields) ∧ fields[f]? = some fd ∧ (tyI P t).flds[f]? = some (fd.offset, ((P.info? fd.type).map (·.size)).getD 0, tyI0 P fd.type)) ∨
    ((tyI P t).flds[f]? = none ∧ ∀ fields, P.underlying t = some (.struct fields) → fields[f]? = none) := by
  obtain ⟨i, d, h1, h2, h3, h4⟩ := tyI_ok h
  unfold tyI
  simp only [h1, h2]
  cases d <;> try (refine .inr ⟨rfl, fun fields e => by cases e⟩)
  rename_i fs
  simp only [List.getElem?_map, Array.getElem?_toList]
  cases hf : fs[f]? with
  | none => exact .inr ⟨rfl, fun fields e => by cases e; exact hf⟩
  | some fd => exact .inl ⟨fs, fd, rfl, hf, rfl⟩

theorem evField_tp {t : TypeId} {row : List V} {off f : Nat} (h : (tyI P t).ok = true) : evFieldAddr P t (.tp row off) f = ((tyI P t).flds[f]?).bind fun p => if p.2.1 = 0 then none else some (.tp row (off + p.1)) := by
  rcases flds_spec (f := f) h with ⟨fields, fd, h1, h2, h3⟩ | ⟨h1, h2⟩
  · unfold evFieldAddr
    simp only [h1, h2, h3, Option.bind_some]
    cases P.info? fd.type <;> rfl
  · unfold evFieldAddr
    rw [h1]
    cases hu : P.underlying t with
    | none => rfl
    | some d => cases d <;> first | (simp; done) | (rename_i fs; simp [h2 fs hu])

theorem evField_rp {t : TypeId} {b off f : Nat} (h : (tyI P t).ok = true) : evFieldAddr P t (.rp b off) f = ((tyI P t).flds[f]?).bind fun p => if p.2.1 = 0 then none else some (.rp b (off + p.1)) := by
  rcases flds_spec (f := f) h with ⟨fields, fd, h1, h2, h3⟩ | ⟨h1, h2⟩
  · unfold evFieldAddr
    simp only [h1, h2, h3, Option.bind_some]
    cases P.info? fd.type <;> rfl
  · unfold evFieldAddr
    rw [h1]
    cases hu : P.underlying t with
    | none => rfl
    | some d => cases d <;> first | (simp; done) | (rename_i fs; simp [h2 fs hu])

theorem evField_agg {t : TypeId} {cs : List V} {f : Nat} (h : (tyI P t).ok = true) (hk : ((tyI P t).flds.all fun p => decide (0 < p.2.1)) = true) : evField P t (.agg cs) f = ((tyI P t).flds[f]?).bind fun p => match p.2.2 with
    | some true => some (.agg ((cs.drop p.1).take p.2.1))
    | some false => cs[p.1]?
    | none => none := by
  rcases flds_spec (f := f) h with ⟨fields, fd, h1, h2, h3⟩ | ⟨h1, h2⟩
  · unfold evField
    simp only [h1, h2, h3, Option.bind_some]
    have hp := List.all_eq_true.1 hk _ (List.mem_of_getElem? h3)
    simp only [decide_eq_true_eq] at hp
    unfold evPart tyI0
    cases hi : P.info? fd.type with
    | none => simp [hi] at hp
    | some i =>
      cases hu : P.underlying fd.type with
      | none => simp
      | some d => cases hd : isAggD d <;> simp [hd]
  · unfold evField
    rw [h1]
    cases hu : P.underlying t with
    | none => simp
    | some d => cases d <;> first | (simp; done) | (rename_i fs; simp [h2 fs hu])

theorem evIndex_ts {t : TypeId} {row : List V} {len : Nat} {k : IntKind} {i : Int} (h : (tyI P t).slice = true) (he : (tyI P t).eok = true) : evIndexAddr P t (.ts row len) (.sc (.int k i)) = if 0 ≤ i ∧ i < len ∧ row ≠ [] then some (.tp row (i.toNat * (tyI P t).esz)) else none := by
  obtain ⟨e, ei, z, h1, h2, _, _, h5, _, _⟩ := tyI_slice h he
  unfold evIndexAddr
  simp only [h1, h2, h5]

theorem evIndex_rs {t : TypeId} {b off len : Nat} {k : IntKind} {i : Int} (h : (tyI P t).slice = true) (he : (tyI P t).eok = true) : evIndexAddr P t (.rs b off len) (.sc (.int k i)) = if 0 ≤ i ∧ i < len then some (.rp b (off + i.toNat * (tyI P t).esz)) else none := by
  obtain ⟨e, ei, z, h1, h2, _, _, h5, _, _⟩ := tyI_slice h he
  unfold evIndexAddr
  simp only [h1, h2, h5]

theorem evMake_eq {t : TypeId} {l c : Int} (h : (tyI P t).slice = true) (he : (tyI P t).eok = true) : evMake P t (.sc (.int .i64 l)) (.sc (.int .i64 c)) σ nx =
    if 0 ≤ l ∧ l ≤ c ∧ ((tyI P t).ebytes : Int) * c ≤ 281474976710656 ∧ c ≤ 9223372036854775807 ∧ 0 < (tyI P t).esz then some (.rs nx 0 l.toNat, evBox σ nx (rep l.toNat (tyI P t).ezero) (tyI P t).esz, nx + 1) else none := by
  obtain ⟨e, ei, z, h1, h2, h3, h4, h5, h6, h7⟩ := tyI_slice h he
  unfold evMake
  simp only [h1, h2, h3, h5, h6, h7, h4, and_true]

theorem evBuildSlice_eq {t : TypeId} {len : Nat} {parts : List (Nat × V)} (h : (tyI P t).slice = true) (he : (tyI P t).eok = true) : evBuildSlice P t len parts σ nx =
    if len = 0 then some (.nil, σ, nx) else if 0 < (tyI P t).esz ∧ len * (tyI P t).esz ≤ 1000 then
      match evFill (fun j => some (j * (tyI P t).esz, (tyI P t).esz)) (rep len (tyI P t).ezero) parts with
      | some cells => some (.rs nx 0 len, evBox σ nx cells (tyI P t).esz, nx + 1)
      | none => none
    else none := by
  obtain ⟨e, ei, z, h1, h2, h3, h4, h5, h6, h7⟩ := tyI_slice h he
  unfold evBuildSlice
  simp only [h1, h2, h3, h5, h6, h7, h4, and_true]
  cases evFill (fun j => some (j * ei.size, ei.size)) (rep len (z.cells.toList.map ofCell)) parts <;> rfl

theorem evBuild_eq {t : TypeId} {parts : List (Nat × V)} (h : (tyI P t).bok = true) : evBuild P t parts = (evFill (fun i => (tyI P t).plc[i]?) (tyI P t).zero parts).map .agg := by
  unfold tyI at h ⊢
  cases hi : P.info? t with
  | none => simp [hi] at h
  | some i =>
    cases hd : P.underlying t with
    | none => simp [hi, hd] at h
    | some d =>
      simp only [hi, hd] at h ⊢
      cases d <;> simp only [Bool.false_eq_true] at h
      rename_i fs
      rw [Bool.and_eq_true] at h
      obtain ⟨h1, h2⟩ := h
      simp only [h2, if_true]
      cases hm : evPure P (fs.mapM fun f => do pure (f.offset, ← sizeOf f.type)) with
      | none => rw [hm] at h1; cases h1
      | some a =>
        unfold zeroOk at h2
        cases hz : i.zero with
        | none => simp [hz] at h2
        | some z =>
          simp only [hz, decide_eq_true_eq] at h2
          unfold evBuild places
          simp only [hi, hd, hm, Option.map_some, Option.getD_some, hz, zeroV, h2, if_true, Array.getElem?_toList]

theorem evAppend_eq {t : TypeId} {s x : V} (h : (tyI P t).slice = true) (he : (tyI P t).eok = true) (hs : decide (0 < (tyI P t).esz) = true) : evAppend P #[t, t] s x σ nx =
    (rowOf σ (tyI P t).esz x).bind fun p => appendTo σ nx (tyI P t).esz (tyI P t).ebytes s p.1 p.2 := by
  obtain ⟨e, ei, z, h1, h2, h3, h4, h5, h6, h7⟩ := tyI_slice h he
  rw [h5] at hs
  simp only [decide_eq_true_eq] at hs
  unfold evAppend
  simp only [List.getElem?_toArray, List.getElem?_cons_zero, List.getElem?_cons_succ, h1, beq_self_eq_true, h2, h3, h5, h6, h4, hs, and_self, if_true]
  cases rowOf σ ei.size x <;> rfl

theorem evLen_ts {t : TypeId} {row : List V} {len : Nat} (h : (tyI P t).slice = true) : evLen P t (.ts row len) = some (.sc (.int .i64 len)) := by
  unfold tyI at h
  cases hi : P.info? t with
  | none => simp [hi] at h
  | some i =>
    cases hd : P.underlying t with
    | none => simp [hi, hd] at h
    | some d => simp only [hi, hd] at h; cases d <;> simp at h; simp [evLen, hd]
theorem evLen_rs {t : TypeId} {b off len : Nat} (h : (tyI P t).slice = true) : evLen P t (.rs b off len) = some (.sc (.int .i64 len)) := by
  unfold tyI at h
  cases hi : P.info? t with
  | none => simp [hi] at h
  | some i =>
    cases hd : P.underlying t with
    | none => simp [hi, hd] at h
    | some d => simp only [hi, hd] at h; cases d <;> simp at h; simp [evLen, hd]
theorem evLen_nil {t : TypeId} (h : (tyI P t).slice = true) : evLen P t .nil = some (.sc (.int .i64 0)) := by
  unfold tyI at h
  cases hi : P.info? t with
  | none => simp [hi] at h
  | some i =>
    cases hd : P.underlying t with
    | none => simp [hi, hd] at h
    | some d => simp only [hi, hd] at h; cases d <;> simp at h; simp [evLen, hd]
theorem tyI_str {t : TypeId} (h : (tyI P t).str = true) : P.underlying t = some .string := by
  unfold tyI at h
  cases hi : P.info? t with
  | none => simp [hi] at h
  | some i =>
    cases hd : P.underlying t with
    | none => simp [hi, hd] at h
    | some d => simp only [hi, hd] at h; cases d <;> simp at h; rfl
theorem evLen_str {t : TypeId} {s : ByteArray} (h : (tyI P t).str = true) : evLen P t (.sc (.string s)) = some (.sc (.int .i64 s.size)) := by
  simp [evLen, tyI_str h]

theorem evIdx_str {t : TypeId} {s : ByteArray} {k : IntKind} {i : Int} (h : (tyI P t).str = true) : evIndex P t (.sc (.string s)) (.sc (.int k i)) = (if 0 ≤ i then s[i.toNat]? else none).map fun b => .sc (.int .u8 b.toNat) := by
  unfold evIndex
  simp only [tyI_str h]
  split <;> rename_i e <;> rw [e] <;> rfl

theorem evSlice_str {t : TypeId} {s : ByteArray} {lo hi : Option V} (h : (tyI P t).str = true) : evSlice P t (.sc (.string s)) lo hi none σ = (bnd lo 0).bind fun l => (bnd hi s.size).bind fun h => if l ≤ h ∧ h ≤ s.size then some (.sc (.string (s.extract l h))) else none := by
  unfold evSlice
  simp only [tyI_str h]
  cases bnd lo 0 <;> cases bnd hi s.size <;> rfl

theorem evSlice_ts {t : TypeId} {row : List V} {len : Nat} {lo hi : Option V} (h : (tyI P t).slice = true) (he : (tyI P t).eok = true) : evSlice P t (.ts row len) lo hi none σ = (bnd lo 0).bind fun l => (bnd hi len).bind fun h => if l ≤ h ∧ h ≤ len then some (.ts ((row.drop (l * (tyI P t).esz)).take ((h - l) * (tyI P t).esz)) (h - l)) else none := by
  obtain ⟨e, ei, z, h1, h2, h3, h4, h5, h6, h7⟩ := tyI_slice h he
  unfold evSlice
  simp only [h1, h2, h5]
  cases bnd lo 0 <;> cases bnd hi len <;> rfl

theorem evSlice_rs {t : TypeId} {b off len : Nat} {lo hi : Option V} (h : (tyI P t).slice = true) (he : (tyI P t).eok = true) : evSlice P t (.rs b off len) lo hi none σ = (bnd lo 0).bind fun l => (bnd hi len).bind fun h => (σ b).bind fun B =>
    if l ≤ h ∧ 0 < (tyI P t).esz ∧ B.st = (tyI P t).esz ∧ off + h * (tyI P t).esz ≤ B.cells.length then
      if l = 0 then some (.rs b off h) else if l = h then some (.ts [] 0) else some (.rs b (off + l * (tyI P t).esz) (h - l)) else none := by
  obtain ⟨e, ei, z, h1, h2, h3, h4, h5, h6, h7⟩ := tyI_slice h he
  unfold evSlice
  simp only [h1, h2, h5]
  cases bnd lo 0 <;> cases bnd hi len <;> cases σ b <;> rfl

/-! ### Operations on numbers, bools, strings -/

theorem toVal_sc (v : Value) : toVal (.sc v) = some v := rfl

section
variable {t : TypeId} {x y : Operand} {k : IntKind} {a b : Int}
theorem ev_add : evBin P .add t x y (.sc (.int k a)) (.sc (.int k b)) = some (.sc (.int k (k.wrap (a + b)))) := by
  simp only [evBin, toVal, eqGuard_add, binOp_add, Op.intArith]; rfl
theorem ev_sub : evBin P .sub t x y (.sc (.int k a)) (.sc (.int k b)) = some (.sc (.int k (k.wrap (a - b)))) := by
  simp only [evBin, toVal, eqGuard_sub, binOp_sub, Op.intArith]; rfl
theorem ev_mul : evBin P .mul t x y (.sc (.int k a)) (.sc (.int k b)) = some (.sc (.int k (k.wrap (a * b)))) := by
  simp only [evBin, toVal, eqGuard_mul, binOp_mul, Op.intArith]; rfl
theorem ev_quo (h : b ≠ 0) : evBin P .quo t x y (.sc (.int k a)) (.sc (.int k b)) = some (.sc (.int k (k.wrap (a.tdiv b)))) := by
  simp only [evBin, toVal, eqGuard_quo, binOp_quo, Op.intDiv, if_neg h]; rfl
theorem ev_rem (h : b ≠ 0) : evBin P .rem t x y (.sc (.int k a)) (.sc (.int k b)) = some (.sc (.int k (a.tmod b))) := by
  simp only [evBin, toVal, eqGuard_rem, binOp_rem, Op.intDiv, if_neg h]; rfl
theorem ev_eql : evBin P .eql t x y (.sc (.int k a)) (.sc (.int k b)) = some (.sc (.bool (a == b))) := by
  simp only [evBin, toVal, eqGuard_at_int, binOp_eql]; rfl
theorem ev_neq : evBin P .neq t x y (.sc (.int k a)) (.sc (.int k b)) = some (.sc (.bool (a != b))) := by
  simp only [evBin, toVal, eqGuard_at_int, binOp_neq]; rfl
theorem ev_lss : evBin P .lss t x y (.sc (.int k a)) (.sc (.int k b)) = some (.sc (.bool (decide (a < b)))) := by
  simp only [evBin, toVal, eqGuard_lss, binOp_lss]; rfl
theorem ev_leq : evBin P .leq t x y (.sc (.int k a)) (.sc (.int k b)) = some (.sc (.bool (decide (a ≤ b)))) := by
  simp only [evBin, toVal, eqGuard_leq, binOp_leq]; rfl
theorem ev_gtr : evBin P .gtr t x y (.sc (.int k a)) (.sc (.int k b)) = some (.sc (.bool (decide (b < a)))) := by
  simp only [evBin, toVal, eqGuard_gtr, binOp_gtr]; rfl
theorem ev_geq : evBin P .geq t x y (.sc (.int k a)) (.sc (.int k b)) = some (.sc (.bool (decide (b ≤ a)))) := by
  simp only [evBin, toVal, eqGuard_geq, binOp_geq]; rfl
theorem ev_not {p : Bool} : evUn P .not (.sc (.bool p)) = some (.sc (.bool !p)) := rfl
theorem ev_neg : evUn P .neg (.sc (.int k a)) = some (.sc (.int k (k.wrap (0 - a)))) := rfl
end

end
end Go.TV
namespace Go.TV
set_option linter.unusedVariables false
set_option linter.unusedSimpArgs false

section
variable {P : Program} {conv : FuncId → Conv} {call : Call}

/-- What follows an operation. -/
def opsK (P : Program) (conv : FuncId → Conv) (call : Call) (ops : Array Oper) (rest : List Oper) (T : Nat → V) (d : Option Tmp) : Res → Option St
  | some (v, σ, nx) => evOps P conv call ops rest ⟨putT T d v, σ, nx⟩
  | none => none
def opsW (P : Program) (conv : FuncId → Conv) (call : Call) (ops : Array Oper) (rest : List Oper) (o : Oper) (s : St) : Option Bool → Option St
  | some true => opsK P conv call ops rest s.T o.dst (evOp P conv call o s.T s.σ s.nx)
  | some false => evOps P conv call ops rest ⟨putT s.T o.dst (.tup []), s.σ, s.nx⟩
  | none => none

theorem evOps_nil (ops : Array Oper) (s : St) : evOps P conv call ops [] s = some s := rfl
theorem evOps_cons (ops : Array Oper) (d : Option Tmp) (op : Op) (ty : TypeId) (ps : String) (af : Array Edge) (rest : List Oper) (T : Nat → V) (σ : Store) (nx : Nat) :
    evOps P conv call ops (⟨d, op, ty, ps, af, none⟩ :: rest) ⟨T, σ, nx⟩ = opsK P conv call ops rest T d (evOp P conv call ⟨d, op, ty, ps, af, none⟩ T σ nx) := by
  show (match evOp P conv call ⟨d, op, ty, ps, af, none⟩ T σ nx with | some (v, σ', nx') => _ | none => none) = _
  cases evOp P conv call ⟨d, op, ty, ps, af, none⟩ T σ nx <;> rfl
theorem evOps_guard (ops : Array Oper) (d : Option Tmp) (op : Op) (ty : TypeId) (ps : String) (af : Array Edge) (g : Nat × Bool) (rest : List Oper) (T : Nat → V) (σ : Store) (nx : Nat) :
    evOps P conv call ops (⟨d, op, ty, ps, af, some g⟩ :: rest) ⟨T, σ, nx⟩ = opsW P conv call ops rest ⟨d, op, ty, ps, af, some g⟩ ⟨T, σ, nx⟩ (wantedB ops T ⟨d, op, ty, ps, af, some g⟩) := by
  show (match wantedB ops T ⟨d, op, ty, ps, af, some g⟩ with | some true => _ | some false => _ | none => none) = _
  cases wantedB ops T ⟨d, op, ty, ps, af, some g⟩ with
  | none => rfl
  | some b =>
    cases b with
    | false => rfl
    | true =>
      simp only [opsW]
      cases evOp P conv call ⟨d, op, ty, ps, af, some g⟩ T σ nx <;> rfl
theorem opsK_some (ops : Array Oper) (rest : List Oper) (T : Nat → V) (d : Tmp) (v : V) (σ : Store) (nx : Nat) : opsK P conv call ops rest T (some d) (some (v, σ, nx)) = evOps P conv call ops rest ⟨upd T d v, σ, nx⟩ := rfl
theorem opsK_none (ops : Array Oper) (rest : List Oper) (T : Nat → V) (v : V) (σ : Store) (nx : Nat) : opsK P conv call ops rest T none (some (v, σ, nx)) = evOps P conv call ops rest ⟨T, σ, nx⟩ := rfl
theorem opsW_true (ops : Array Oper) (rest : List Oper) (d : Option Tmp) (op : Op) (ty : TypeId) (ps : String) (af : Array Edge) (g : Option (Nat × Bool)) (T : Nat → V) (σ : Store) (nx : Nat) :
    opsW P conv call ops rest ⟨d, op, ty, ps, af, g⟩ ⟨T, σ, nx⟩ (some true) = opsK P conv call ops rest T d (evOp P conv call ⟨d, op, ty, ps, af, g⟩ T σ nx) := rfl
theorem opsW_false (ops : Array Oper) (rest : List Oper) (d : Tmp) (op : Op) (ty : TypeId) (ps : String) (af : Array Edge) (g : Option (Nat × Bool)) (T : Nat → V) (σ : Store) (nx : Nat) :
    opsW P conv call ops rest ⟨some d, op, ty, ps, af, g⟩ ⟨T, σ, nx⟩ (some false) = evOps P conv call ops rest ⟨upd T d (.tup []), σ, nx⟩ := rfl

/-- What a guard's value tells. -/
def guardB (want : Bool) : V → Option Bool
  | .sc (.bool b) => some (b == want)
  | .tup [] => some false
  | _ => none
theorem wantedB_some (ops : Array Oper) (d : Option Tmp) (op : Op) (ty : TypeId) (ps : String) (af : Array Edge) (j : Nat) (want : Bool) (T : Nat → V) :
    wantedB ops T ⟨d, op, ty, ps, af, some (j, want)⟩ = match (ops[j]?).bind (·.dst) with | some d => guardB want (T d) | none => some false := by
  unfold wantedB guardB
  rfl
theorem guardB_bool (want b : Bool) : guardB want (.sc (.bool b)) = some (b == want) := rfl
theorem guardB_undef (want : Bool) : guardB want (.tup []) = some false := rfl

theorem val_tmp (T : Nat → V) (t : Tmp) : val T (.tmp t) = T t := rfl
theorem val_const (T : Nat → V) (v : Value) : val T (.const v) = ofVal v := rfl
theorem val_func (T : Nat → V) (f : FuncId) : val T (.func f) = .clo f [] := rfl

section
variable (d : Option Tmp) (ty : TypeId) (ps : String) (af : Array Edge) (gd : Option (Nat × Bool)) (T : Nat → V) (σ : Store) (nx : Nat)
theorem op_move (x : Operand) : evOp P conv call ⟨d, .move x, ty, ps, af, gd⟩ T σ nx = some (val T x, σ, nx) := rfl
theorem op_assign (x : Operand) : evOp P conv call ⟨d, .assign x, ty, ps, af, gd⟩ T σ nx = some (val T x, σ, nx) := rfl
def pickV (a b : V) : V → Option V
  | .sc (.bool t) => some (if t then a else b)
  | _ => none
theorem op_pick (c a b : Operand) : evOp P conv call ⟨d, .pick c a b, ty, ps, af, gd⟩ T σ nx = (pickV (val T a) (val T b) (val T c)).map (·, σ, nx) := by
  simp only [evOp]
  unfold pickV
  split <;> simp_all
theorem pickV_bool (a b : V) (t : Bool) : pickV a b (.sc (.bool t)) = some (if t then a else b) := rfl
theorem op_alloc (t : TypeId) (h : (tyI P t).ok = true) (hz : decide ((tyI P t).zero.length = (tyI P t).size) = true) (h0 : decide (0 < (tyI P t).size) = true) : evOp P conv call ⟨d, .alloc t, ty, ps, af, gd⟩ T σ nx = some (.rp nx 0, evBox σ nx (tyI P t).zero 0, nx + 1) := by
  obtain ⟨i, dd, h1, h2, h3, h4⟩ := tyI_ok h
  simp only [evOp, h1]
  unfold tyI at hz h0 ⊢
  simp only [h1, h2, decide_eq_true_eq] at hz h0 ⊢
  unfold zeroOk zeroV at *
  cases hzz : i.zero with
  | none => simp [hzz] at hz; omega
  | some z =>
    simp only [hzz] at hz ⊢
    by_cases hs : z.cells.size = i.size
    · simp [hs]
    · simp [hs] at hz; omega
theorem op_box (t : TypeId) (x : Operand) : evOp P conv call ⟨d, .box t x, ty, ps, af, gd⟩ T σ nx = (cellsOfV (val T x)).map fun cs => (.rp nx 0, evBox σ nx cs 0, nx + 1) := by
  simp only [evOp]
  cases cellsOfV (val T x) <;> rfl
theorem op_build (t : TypeId) (parts : Array (Nat × Operand)) : evOp P conv call ⟨d, .build t parts, ty, ps, af, gd⟩ T σ nx = (evBuild P t (parts.toList.map fun p => (p.1, val T p.2))).map (·, σ, nx) := rfl
theorem op_buildSlice (t : TypeId) (len : Nat) (parts : Array (Nat × Operand)) (h : (decide (len = 0) && !parts.isEmpty) = false) : evOp P conv call ⟨d, .buildSlice t len parts, ty, ps, af, gd⟩ T σ nx = evBuildSlice P t len (parts.toList.map fun p => (p.1, val T p.2)) σ nx := by
  simp only [evOp, h, Bool.false_eq_true, if_false]
theorem op_load (t : TypeId) (a : Operand) : evOp P conv call ⟨d, .load t a, ty, ps, af, gd⟩ T σ nx = (evLoad P σ t (val T a)).map (·, σ, nx) := rfl
theorem op_store (t : TypeId) (a x : Operand) : evOp P conv call ⟨d, .store t a x, ty, ps, af, gd⟩ T σ nx = (evStore P σ t (val T a) (val T x)).map (.tup [], ·, nx) := rfl
def nilV : V → Option V
  | .tp row off => some (.tp row off)
  | .rp b off => some (.rp b off)
  | _ => none
theorem op_nilCheck (x : Operand) : evOp P conv call ⟨d, .nilCheck x, ty, ps, af, gd⟩ T σ nx = (nilV (val T x)).map (·, σ, nx) := by
  simp only [evOp]
  unfold nilV
  split <;> simp_all
theorem nilV_tp (row : List V) (off : Nat) : nilV (.tp row off) = some (.tp row off) := rfl
theorem nilV_rp (b off : Nat) : nilV (.rp b off) = some (.rp b off) := rfl
theorem op_binOp (op : BinOp) (t : TypeId) (x y : Operand) (yt : TypeId) : evOp P conv call ⟨d, .binOp op t x y yt, ty, ps, af, gd⟩ T σ nx = (evBin P op t x y (val T x) (val T y)).map (·, σ, nx) := rfl
theorem op_unOp (op : UnOp) (t : TypeId) (x : Operand) : evOp P conv call ⟨d, .unOp op t x, ty, ps, af, gd⟩ T σ nx = (evUn P op (val T x)).map (·, σ, nx) := rfl
theorem op_convert (s e : TypeId) (x : Operand) : evOp P conv call ⟨d, .convert s e x, ty, ps, af, gd⟩ T σ nx = (evConvert P s e (val T x) σ).map (·, σ, nx) := rfl
theorem op_makeFunc (f : FuncId) (cap : Array Operand) : evOp P conv call ⟨d, .makeFunc (.func f) #[] cap, ty, ps, af, gd⟩ T σ nx = some (.clo f (cap.toList.map (val T)), σ, nx) := rfl
theorem op_makeSlice (t : TypeId) (l c : Operand) : evOp P conv call ⟨d, .makeSlice t l c, ty, ps, af, gd⟩ T σ nx = evMake P t (val T l) (val T c) σ nx := rfl
theorem op_slice (t : TypeId) (x : Operand) (lo hi mx : Option Operand) : evOp P conv call ⟨d, .slice t x lo hi mx, ty, ps, af, gd⟩ T σ nx = (evSlice P t (val T x) (lo.map (val T)) (hi.map (val T)) (mx.map (val T)) σ).map (·, σ, nx) := rfl
theorem op_fieldAddr (t : TypeId) (x : Operand) (f : Nat) : evOp P conv call ⟨d, .fieldAddr t x f, ty, ps, af, gd⟩ T σ nx = (evFieldAddr P t (val T x) f).map (·, σ, nx) := rfl
theorem op_field (t : TypeId) (x : Operand) (f : Nat) : evOp P conv call ⟨d, .field t x f, ty, ps, af, gd⟩ T σ nx = (evField P t (val T x) f).map (·, σ, nx) := rfl
theorem op_indexAddr (t : TypeId) (x i : Operand) : evOp P conv call ⟨d, .indexAddr t x i, ty, ps, af, gd⟩ T σ nx = (evIndexAddr P t (val T x) (val T i)).map (·, σ, nx) := rfl
theorem op_index (t : TypeId) (x i : Operand) : evOp P conv call ⟨d, .index t x i, ty, ps, af, gd⟩ T σ nx = (evIndex P t (val T x) (val T i)).map (·, σ, nx) := rfl
def extV (i : Nat) : V → Option V
  | .tup vs => vs[i]?
  | _ => none
theorem op_extract (x : Operand) (i : Nat) : evOp P conv call ⟨d, .extract x i, ty, ps, af, gd⟩ T σ nx = (extV i (val T x)).map (·, σ, nx) := by
  simp only [evOp]
  unfold extV
  split <;> simp_all
theorem extV_tup (i : Nat) (vs : List V) : extV i (.tup vs) = vs[i]? := rfl
def callV (conv : FuncId → Conv) (call : Call) (args : List V) (σ : Store) (nx : Nat) : V → Res
  | .clo g cs => evCall conv call g (args ++ cs) σ nx
  | _ => none
theorem op_call (f : Operand) (args : Array Operand) (ts : Array TypeId) : evOp P conv call ⟨d, .call ⟨.value f, args, ts⟩, ty, ps, af, gd⟩ T σ nx = callV conv call (args.toList.map (val T)) σ nx (val T f) := by
  simp only [evOp]
  unfold callV
  rfl
theorem callV_clo (args : List V) (σ : Store) (nx : Nat) (g : FuncId) (cs : List V) : callV conv call args σ nx (.clo g cs) = evCall conv call g (args ++ cs) σ nx := rfl
theorem op_len (x : Operand) (t : TypeId) : evOp P conv call ⟨d, .call ⟨.builtin .len, #[x], #[t]⟩, ty, ps, af, gd⟩ T σ nx = (evLen P t (val T x)).map (·, σ, nx) := rfl
theorem op_append (a x : Operand) (t u : TypeId) : evOp P conv call ⟨d, .call ⟨.builtin .append, #[a, x], #[t, u]⟩, ty, ps, af, gd⟩ T σ nx = evAppend P #[t, u] (val T a) (val T x) σ nx := rfl
end

/-! ### Code -/

noncomputable def seqK (P : Program) (conv : FuncId → Conv) (call : Call) (b : Code) : Option (Ex × St) → Option (Ex × St)
  | some (.norm, s) => evCodeI P conv call b s
  | r => r
theorem code_seq (a b : Code) (s : St) : evCodeI P conv call (.seq a b) s = seqK P conv call b (evCodeI P conv call a s) := by
  show (match evCodeI P conv call a s with | some (.norm, s') => evCodeI P conv call b s' | r => r) = _
  unfold seqK
  rfl
theorem seqK_norm (b : Code) (s : St) : seqK P conv call b (some (.norm, s)) = evCodeI P conv call b s := rfl
theorem seqK_ret (b : Code) (s : St) : seqK P conv call b (some (.ret, s)) = some (.ret, s) := rfl
theorem seqK_exit (b : Code) (i : Nat) (s : St) : seqK P conv call b (some (.exit i, s)) = some (.exit i, s) := rfl
def norm1 : Option St → Option (Ex × St)
  | some s => some (.norm, s)
  | none => none
theorem norm1_some (s : St) : norm1 (some s) = some (.norm, s) := rfl
theorem code_region (id : Nat) (l : List Oper) (s : St) : evCodeI P conv call (.region id l.toArray false) s = norm1 (evOps P conv call l.toArray l s) := by
  show (match evOps P conv call l.toArray l.toArray.toList s with | some s' => some (Ex.norm, s') | none => none) = _
  unfold norm1
  rfl
theorem code_draw (id : Nat) (l : List Oper) (s : St) : evCodeI P conv call (.region id l.toArray true) s = norm1 (evDraw P conv call l.toArray s) := by
  show (match evDraw P conv call l.toArray s with | some s' => some (Ex.norm, s') | none => none) = _
  unfold norm1
  rfl
theorem code_skip (s : St) : evCodeI P conv call .skip s = some (.norm, s) := rfl
theorem code_ret (s : St) : evCodeI P conv call .ret s = some (.ret, s) := rfl
theorem code_exit (i : Nat) (s : St) : evCodeI P conv call (.exit i) s = some (.exit i, s) := rfl
noncomputable def condK (P : Program) (conv : FuncId → Conv) (call : Call) (a b : Code) (s : St) : V → Option (Ex × St)
  | .sc (.bool true) => evCodeI P conv call a s
  | .sc (.bool false) => evCodeI P conv call b s
  | _ => none
theorem code_cond (c : Operand) (a b : Code) (s : St) : evCodeI P conv call (.cond c a b) s = condK P conv call a b s (val s.T c) := by
  show (match val s.T c with | .sc (.bool true) => _ | .sc (.bool false) => _ | _ => none) = _
  unfold condK
  rfl
theorem condK_true (a b : Code) (s : St) : condK P conv call a b s (.sc (.bool true)) = evCodeI P conv call a s := rfl
theorem condK_false (a b : Code) (s : St) : condK P conv call a b s (.sc (.bool false)) = evCodeI P conv call b s := rfl
theorem condK_bool (a b : Code) (s : St) (t : Bool) : condK P conv call a b s (.sc (.bool t)) = if t = true then evCodeI P conv call a s else evCodeI P conv call b s := by cases t <;> rfl
def blockK (id : Nat) : Option (Ex × St) → Option (Ex × St)
  | some (.exit j, s) => if j = id then some (.norm, s) else some (.exit j, s)
  | r => r
theorem code_block (id : Nat) (c : Code) (s : St) : evCodeI P conv call (.block id c) s = blockK id (evCodeI P conv call c s) := by
  show (match evCodeI P conv call c s with | some (.exit j, s') => _ | r => r) = _
  unfold blockK
  rfl
theorem blockK_norm (id : Nat) (s : St) : blockK id (some (.norm, s)) = some (.norm, s) := rfl
theorem blockK_ret (id : Nat) (s : St) : blockK id (some (.ret, s)) = some (.ret, s) := rfl
theorem blockK_exit (id j : Nat) (s : St) : blockK id (some (.exit j, s)) = if j = id then some (.norm, s) else some (.exit j, s) := rfl
theorem code_loop (c : Code) (s : St) : evCodeI P conv call (.loop c) s = evLoopI (evCodeI P conv call c) s := rfl
noncomputable def loopK (body : St → Option (Ex × St)) : Option (Ex × St) → Option (Ex × St)
  | some (.norm, s) => evLoopI body s
  | r => r
theorem loop_step (body : St → Option (Ex × St)) (s : St) : evLoopI body s = loopK body (body s) := by
  rw [evLoopI_eq]
  unfold loopK
  rfl
theorem loopK_norm (body : St → Option (Ex × St)) (s : St) : loopK body (some (.norm, s)) = evLoopI body s := rfl
theorem loopK_ret (body : St → Option (Ex × St)) (s : St) : loopK body (some (.ret, s)) = some (.ret, s) := rfl
theorem loopK_exit (body : St → Option (Ex × St)) (i : Nat) (s : St) : loopK body (some (.exit i, s)) = some (.exit i, s) := rfl

def resK (P : Program) (rs : List ResultVar) : Option (Ex × St) → Res
  | some (.norm, st) => (evResults P st.T st.σ rs).map fun vs => (oneOf vs, st.σ, st.nx)
  | some (.ret, st) => (evResults P st.T st.σ rs).map fun vs => (oneOf vs, st.σ, st.nx)
  | _ => none
theorem bodyI_eq (rs : List ResultVar) (body : Code) (s : St) : bodyI P conv call rs body s = resK P rs (evCodeI P conv call body s) := by
  unfold bodyI resK
  cases evCodeI P conv call body s with
  | none => rfl
  | some q =>
    obtain ⟨e, st⟩ := q
    cases e <;> simp only <;> cases evResults P st.T st.σ rs <;> rfl
theorem resK_norm (rs : List ResultVar) (T : Nat → V) (σ : Store) (nx : Nat) : resK P rs (some (.norm, ⟨T, σ, nx⟩)) = (evResults P T σ rs).map fun vs => (oneOf vs, σ, nx) := rfl
theorem resK_ret (rs : List ResultVar) (T : Nat → V) (σ : Store) (nx : Nat) : resK P rs (some (.ret, ⟨T, σ, nx⟩)) = (evResults P T σ rs).map fun vs => (oneOf vs, σ, nx) := rfl
theorem res_tmp1 (T : Nat → V) (σ : Store) (t : Tmp) : evResults P T σ [.tmp t] = some [T t] := rfl
theorem res_nil (T : Nat → V) (σ : Store) : evResults P T σ [] = some [] := rfl
theorem res_tmp2 (T : Nat → V) (σ : Store) (t u : Tmp) : evResults P T σ [.tmp t, .tmp u] = some [T t, T u] := rfl
theorem res_tmp3 (T : Nat → V) (σ : Store) (t u v : Tmp) : evResults P T σ [.tmp t, .tmp u, .tmp v] = some [T t, T u, T v] := rfl
theorem res_cell1 (T : Nat → V) (σ : Store) (a : Tmp) (t : TypeId) : evResults P T σ [.cell a t] = (evLoad P σ t (T a)).map fun v => [v] := by
  simp only [evResults]
  cases evLoad P σ t (T a) <;> rfl
theorem oneOf_one (v : V) : oneOf [v] = v := rfl
theorem oneOf_two (u v : V) : oneOf [u, v] = .tup [u, v] := rfl
theorem oneOf_three (u v w : V) : oneOf [u, v, w] = .tup [u, v, w] := rfl
theorem oneOf_zero : oneOf [] = .tup [] := rfl

theorem argsT0 : argsT [] = fun _ => V.tup [] := by funext i; simp [argsT]
theorem argsT_get (l : List V) (i : Nat) : argsT l i = (l[i]?).getD (.tup []) := rfl

theorem ofVal_int (k : IntKind) (n : Int) : ofVal (.int k n) = .sc (.int k n) := rfl
theorem ofVal_bool (b : Bool) : ofVal (.bool b) = .sc (.bool b) := rfl
theorem ofVal_string (s : ByteArray) : ofVal (.string s) = .sc (.string s) := rfl
theorem ofVal_nilp : ofVal (.pointer none) = .sc (.pointer none) := rfl
theorem ofVal_nils : ofVal (.slice none 0 0) = .nil := rfl
theorem ofVal_agg (l : List Value) : ofVal (.agg l.toArray) = .agg (l.map ofCell) := rfl

end
end Go.TV
namespace Go.TV
set_option linter.unusedVariables false
set_option linter.unusedSimpArgs false

section
variable {P : Program} {conv : FuncId → Conv} {call : Call}

/-! ### Regions that draw, without the bookkeeping -/

def evOpsQ (P : Program) (conv : FuncId → Conv) (call : Call) (ops : Array Oper) : List Oper → St → Option St
  | [], s => some s
  | o :: rest, s => match wantedB ops s.T o with
    | some true => match evOpD P conv call o s.T s.σ s.nx with
      | some (v, σ', nx') => evOpsQ P conv call ops rest ⟨putT s.T o.dst v, σ', nx'⟩
      | none => none
    | some false => evOpsQ P conv call ops rest ⟨putT s.T o.dst (.tup []), s.σ, s.nx⟩
    | none => none

theorem evOpsQ_eq (ops : Array Oper) : ∀ (l : List Oper) (s : St), evOpsQ P conv call ops l s = (evOpsD P conv call ops l s).map (·.1)
  | [], s => rfl
  | o :: l, s => by
    unfold evOpsQ evOpsD
    cases wantedB ops s.T o with
    | none => rfl
    | some b =>
      cases b with
      | true =>
        simp only
        cases evOpD P conv call o s.T s.σ s.nx with
        | none => rfl
        | some q =>
          obtain ⟨v, σ', nx'⟩ := q
          simp only
          rw [evOpsQ_eq ops l]
          cases evOpsD P conv call ops l ⟨putT s.T o.dst v, σ', nx'⟩ <;> rfl
      | false =>
        simp only
        rw [evOpsQ_eq ops l]
        cases evOpsD P conv call ops l ⟨putT s.T o.dst (.tup []), s.σ, s.nx⟩ <;> rfl

def quietB (conv : FuncId → Conv) (ops : Array Oper) : Bool := ordOk ops && (wpairs conv ops.toList).isEmpty

theorem evDraw_quiet {ops : Array Oper} (h : quietB conv ops = true) (s : St) : evDraw P conv call ops s = evOpsQ P conv call ops ops.toList s := by
  unfold quietB at h
  rw [Bool.and_eq_true] at h
  have hw : wpairs conv ops.toList = [] := by simpa using h.2
  unfold evDraw
  rw [if_pos h.1, evOpsQ_eq, hw]
  cases evOpsD P conv call ops ops.toList s with
  | none => rfl
  | some q => obtain ⟨s', fs⟩ := q; rfl

/-! ### Regions that draw, with the blocks that are touched -/
/-- Whether an edge leads to an operation. -/
def edgeA (af : Array Edge) (i : Nat) : Bool := af.any fun e => Region.binds .any e && e.on == i
/-- An operation beside the earlier ones (each with its place, whether it writes, its blocks): no edge between them, and one of them writes: their blocks are apart. -/
def okG (af : Array Edge) (w : Bool) (ids : List Nat) : List (Nat × Bool × List Nat) → Bool
  | [] => true
  | p :: acc => (if (w || p.2.1) = true then (if edgeA af p.1 = true then true else p.2.2.all fun b => !ids.contains b) else true) && okG af w ids acc
def okF (af : Array Edge) (acc : List (Nat × Bool × List Nat)) (w : Bool) : List Nat → Bool
  | [] => true
  | b :: bs => okG af w (b :: bs) acc
def addF (acc : List (Nat × Bool × List Nat)) (k : Nat) (w : Bool) : List Nat → List (Nat × Bool × List Nat)
  | [] => acc
  | b :: bs => acc ++ [(k, w, b :: bs)]
def evOpsF (P : Program) (conv : FuncId → Conv) (call : Call) (ops : Array Oper) : List Oper → Nat → List (Nat × Bool × List Nat) → St → Option St
  | [], _, _, s => some s
  | o :: rest, k, acc, s => match wantedB ops s.T o with
    | some true => if okF o.after acc (writer conv o) (footIds conv s.T s.σ o) = true then (match evOpD P conv call o s.T s.σ s.nx with
      | some (v, σ', nx') => evOpsF P conv call ops rest (k + 1) (addF acc k (writer conv o) (footIds conv s.T s.σ o)) ⟨putT s.T o.dst v, σ', nx'⟩
      | none => none) else none
    | some false => evOpsF P conv call ops rest (k + 1) acc ⟨putT s.T o.dst (.tup []), s.σ, s.nx⟩
    | none => none

/-- Apart: of two that touch one block and between which no edge stands, none writes. -/
def Apart (l : List Oper) (ws : List (Bool × List Nat)) : Prop := ∀ (i j : Nat) o p q, i < j → l[j]? = some o → ws[i]? = some p → ws[j]? = some q → (q.1 || p.1) = true → edgeOn o i ≠ true → ∀ b ∈ p.2, b ∉ q.2
/-- The list of places tells all that touch blocks. -/
def Told (ws : List (Bool × List Nat)) (acc : List (Nat × Bool × List Nat)) : Prop := ∀ (i : Nat) p, ws[i]? = some p → p.2 ≠ [] → (i, p.1, p.2) ∈ acc
theorem okG_spec {af : Array Edge} {w : Bool} {ids : List Nat} : ∀ {acc : List (Nat × Bool × List Nat)}, okG af w ids acc = true → ∀ p ∈ acc, (w || p.2.1) = true → edgeA af p.1 ≠ true → ∀ b ∈ p.2.2, b ∉ ids
  | [], _, p, hp, _, _, _, _ => by cases hp
  | q :: acc, h, p, hp, hw, he, b, hb => by
    unfold okG at h
    rw [Bool.and_eq_true] at h
    rcases List.mem_cons.mp hp with rfl | hp
    · have h1 := h.1
      rw [if_pos hw, if_neg he] at h1
      have := List.all_eq_true.mp h1 b hb
      simpa using this
    · exact okG_spec h.2 p hp hw he b hb
theorem apart_snoc {l : List Oper} {o : Oper} {ws : List (Bool × List Nat)} {acc : List (Nat × Bool × List Nat)} {w : Bool} {ids : List Nat} (hl : l.length = ws.length) (h : Apart l ws) (ht : Told ws acc) (ho : okF o.after acc w ids = true) : Apart (l ++ [o]) (ws ++ [(w, ids)]) := by
  intro i j o' p q hij ho' hp hq hw he b hb hb'
  rcases Nat.lt_trichotomy j ws.length with hj | hj | hj
  · rw [List.getElem?_append_left hj] at hq
    rw [List.getElem?_append_left (by omega)] at hp
    rw [List.getElem?_append_left (by omega)] at ho'
    exact h i j o' p q hij ho' hp hq hw he b hb hb'
  · subst hj
    rw [List.getElem?_append_right (Nat.le_refl _), Nat.sub_self] at hq
    simp only [List.getElem?_cons_zero, Option.some.injEq] at hq
    subst hq
    rw [List.getElem?_append_left hij] at hp
    rw [List.getElem?_append_right (by omega), hl, Nat.sub_self] at ho'
    simp only [List.getElem?_cons_zero, Option.some.injEq] at ho'
    subst ho'
    cases ids with
    | nil => cases hb'
    | cons c cs => exact okG_spec ho _ (ht i p hp (fun e => by rw [e] at hb; cases hb)) hw he b hb hb'
  · rw [List.getElem?_eq_none (by simp; omega)] at hq
    cases hq
theorem told_snoc {ws : List (Bool × List Nat)} {acc : List (Nat × Bool × List Nat)} (ht : Told ws acc) (w : Bool) (ids : List Nat) : Told (ws ++ [(w, ids)]) (addF acc ws.length w ids) := by
  intro i p hp hne
  have hsub : ∀ x, x ∈ acc → x ∈ addF acc ws.length w ids := fun x hx => by cases ids with
    | nil => exact hx
    | cons c cs => exact List.mem_append_left _ hx
  rcases Nat.lt_trichotomy i ws.length with hi | hi | hi
  · rw [List.getElem?_append_left hi] at hp
    exact hsub _ (ht i p hp hne)
  · subst hi
    rw [List.getElem?_append_right (Nat.le_refl _), Nat.sub_self] at hp
    simp only [List.getElem?_cons_zero, Option.some.injEq] at hp
    subst hp
    cases ids with
    | nil => exact absurd rfl hne
    | cons c cs => exact List.mem_append_right _ (by simp)
  · rw [List.getElem?_eq_none (by simp; omega)] at hp
    cases hp

theorem evOpsF_spec (ops : Array Oper) : ∀ (l pre : List Oper) (k : Nat) (ws : List (Bool × List Nat)) (acc : List (Nat × Bool × List Nat)) (s s' : St), k = ws.length → pre.length = ws.length → Apart pre ws → Told ws acc → evOpsF P conv call ops l k acc s = some s' →
    ∃ fs, evOpsD P conv call ops l s = some (s', fs) ∧ fs.length = l.length ∧ Apart (pre ++ l) (ws ++ (l.zip fs).map fun p => (writer conv p.1, p.2))
  | [], pre, k, ws, acc, s, s', hk, hl, ha, ht, h => by
    unfold evOpsF at h
    cases h
    exact ⟨[], rfl, rfl, by simpa using ha⟩
  | o :: l, pre, k, ws, acc, s, s', hk, hl, ha, ht, h => by
    unfold evOpsF at h
    unfold evOpsD
    cases hw : wantedB ops s.T o with
    | none => rw [hw] at h; cases h
    | some b =>
      rw [hw] at h
      cases b with
      | true =>
        simp only at h ⊢
        by_cases ho : okF o.after acc (writer conv o) (footIds conv s.T s.σ o) = true
        · rw [if_pos ho] at h
          cases hr : evOpD P conv call o s.T s.σ s.nx with
          | none => rw [hr] at h; cases h
          | some q =>
            obtain ⟨v, σ', nx'⟩ := q
            rw [hr] at h
            subst hk
            obtain ⟨fs, h1, h2, h3⟩ := evOpsF_spec ops l (pre ++ [o]) _ (ws ++ [(writer conv o, footIds conv s.T s.σ o)]) _ _ s' (by simp) (by simp [hl]) (apart_snoc hl ha ht ho) (told_snoc ht _ _) h
            refine ⟨footIds conv s.T s.σ o :: fs, ?_, by simp [h2], by simpa using h3⟩
            simp only
            rw [h1]
        · rw [if_neg ho] at h; cases h
      | false =>
        simp only at h ⊢
        subst hk
        obtain ⟨fs, h1, h2, h3⟩ := evOpsF_spec ops l (pre ++ [o]) _ (ws ++ [(writer conv o, [])]) _ _ s' (by simp) (by simp [hl]) (apart_snoc hl ha ht rfl) (told_snoc ht _ []) h
        refine ⟨[] :: fs, ?_, by simp [h2], by simpa using h3⟩
        rw [h1]

theorem pairsOk_apart {l : List Oper} {fs : List (List Nat)} (hl : fs.length = l.length) (h : Apart l ((l.zip fs).map fun p => (writer conv p.1, p.2))) : pairsOk fs (wpairs conv l) = true := by
  unfold pairsOk
  refine List.all_eq_true.mpr ?_
  rintro ⟨i, j⟩ hm
  unfold wpairs at hm
  simp only [List.mem_flatMap, List.mem_filterMap] at hm
  obtain ⟨⟨o, j'⟩, hj, ⟨p, i'⟩, hi, he⟩ := hm
  simp only at he
  split at he
  · cases he
  · rename_i hnoe
    split at he
    · rename_i hwr
      simp only [Option.some.injEq, Prod.mk.injEq] at he
      obtain ⟨rfl, rfl⟩ := he
      have hj2 := List.mem_zipIdx' hj
      have hi2 := List.mem_zipIdx' hi
      obtain ⟨hj3, hj4⟩ := hj2
      obtain ⟨hi3, hi4⟩ := hi2
      simp only [List.length_take] at hi3
      refine List.all_eq_true.mpr fun b hb => ?_
      have hif : i' < fs.length := by omega
      have hjf : j' < fs.length := by omega
      rw [List.getElem?_eq_getElem hif, Option.getD_some] at hb
      rw [List.getElem?_eq_getElem hjf, Option.getD_some]
      have hz : ∀ (k : Nat) (h1 : k < l.length) (h2 : k < fs.length), ((l.zip fs).map fun p => (writer conv p.1, p.2))[k]? = some (writer conv l[k], fs[k]) := by
        intro k h1 h2
        rw [List.getElem?_map, List.getElem?_eq_getElem (by simp; omega)]
        simp
      have := h i' j' o _ _ (by omega) (by rw [List.getElem?_eq_getElem hj3, hj4]) (hz i' (by omega) hif) (hz j' hj3 hjf) (by
        rw [List.getElem_take] at hi4
        rw [← hj4, ← hi4]; exact hwr) hnoe b hb
      simpa using this
    · cases he

def drawK (P : Program) (conv : FuncId → Conv) (call : Call) (ops : Array Oper) (s0 : St) : Option St → Option St
  | some s => some s
  | none => evDraw P conv call ops s0
theorem drawK_eq {ops : Array Oper} (ho : ordOk ops = true) (s : St) : drawK P conv call ops s (evOpsF P conv call ops ops.toList 0 [] s) = evDraw P conv call ops s := by
  cases h : evOpsF P conv call ops ops.toList 0 [] s with
  | none => rfl
  | some s' =>
    obtain ⟨fs, h1, h2, h3⟩ := evOpsF_spec ops ops.toList [] 0 [] [] s s' rfl rfl (by intro i j o p q _ _ hp; simp at hp) (by intro i p hp; simp at hp) h
    unfold drawK evDraw
    rw [if_pos ho, h1]
    simp only
    rw [if_pos (pairsOk_apart h2 (by simpa using h3))]

/-- The regions but those that are named draw without harm. -/
def quietCode (conv : FuncId → Conv) (ex : List Nat) : Code → Bool
  | .region id ops draw => !draw || (ex.contains id && ordOk ops) || quietB conv ops
  | .seq a b => quietCode conv ex a && quietCode conv ex b
  | .cond _ a b => quietCode conv ex a && quietCode conv ex b
  | .block _ c => quietCode conv ex c
  | .loop c => quietCode conv ex c
  | _ => true

noncomputable def evC (P : Program) (conv : FuncId → Conv) (call : Call) (ex : List Nat) : Code → St → Option (Ex × St)
  | .skip, s => some (.norm, s)
  | .region id ops draw, s => norm1 (if draw then (if id ∈ ex then drawK P conv call ops s (evOpsF P conv call ops ops.toList 0 [] s) else evOpsQ P conv call ops ops.toList s) else evOps P conv call ops ops.toList s)
  | .seq a b, s => match evC P conv call ex a s with
    | some (.norm, s') => evC P conv call ex b s'
    | r => r
  | .cond c a b, s => match val s.T c with
    | .sc (.bool true) => evC P conv call ex a s
    | .sc (.bool false) => evC P conv call ex b s
    | _ => none
  | .block id c, s => blockK id (evC P conv call ex c s)
  | .loop c, s => evLoopI (evC P conv call ex c) s
  | .exit id, s => some (.exit id, s)
  | .ret, s => some (.ret, s)
  | _, _ => none

theorem evC_eq {ex : List Nat} : ∀ (c : Code), quietCode conv ex c = true → ∀ s, evCodeI P conv call c s = evC P conv call ex c s := by
  intro c
  induction c with
  | region id ops draw =>
    intro h s
    simp only [quietCode, evC, evCodeI] at *
    cases draw with
    | false => simp only [Bool.false_eq_true, if_false]; cases evOps P conv call ops ops.toList s <;> rfl
    | true =>
      simp only [if_true]
      by_cases hid : id ∈ ex
      · rw [if_pos hid]
        by_cases ho : ordOk ops = true
        · rw [drawK_eq ho]; cases evDraw P conv call ops s <;> rfl
        · have hq : quietB conv ops = true := by simpa [ho] using h
          unfold quietB at hq
          rw [Bool.and_eq_true] at hq
          exact absurd hq.1 ho
      · rw [if_neg hid]
        have hq : quietB conv ops = true := by simpa [hid] using h
        rw [evDraw_quiet hq]
        cases evOpsQ P conv call ops ops.toList s <;> rfl
  | seq a b iha ihb =>
    intro h s
    simp only [quietCode, Bool.and_eq_true] at h
    simp only [evC, evCodeI]
    rw [iha h.1]
    cases evC P conv call ex a s with
    | none => rfl
    | some q => obtain ⟨e, s'⟩ := q; cases e <;> first | exact ihb h.2 s' | rfl
  | cond v a b iha ihb =>
    intro h s
    simp only [quietCode, Bool.and_eq_true] at h
    simp only [evC, evCodeI, iha h.1, ihb h.2]
    all_goals rfl
  | block id c ih =>
    intro h s
    simp only [quietCode] at h
    simp only [evC, evCodeI, blockK]
    rw [ih h]
    all_goals rfl
  | loop c ih =>
    intro h s
    simp only [quietCode] at h
    simp only [evC, evCodeI]
    rw [show evCodeI P conv call c = evC P conv call ex c from funext (ih h)]
  | _ => intro h s; rfl

noncomputable def sK (P : Program) (conv : FuncId → Conv) (call : Call) (ex : List Nat) (b : Code) : Option (Ex × St) → Option (Ex × St)
  | some (.norm, s) => evC P conv call ex b s
  | r => r
variable {ex : List Nat}
theorem c_seq (a b : Code) (s : St) : evC P conv call ex (.seq a b) s = sK P conv call ex b (evC P conv call ex a s) := by
  show (match evC P conv call ex a s with | some (.norm, s') => evC P conv call ex b s' | r => r) = _
  unfold sK
  rfl
theorem sK_norm (b : Code) (s : St) : sK P conv call ex b (some (.norm, s)) = evC P conv call ex b s := rfl
theorem sK_ret (b : Code) (s : St) : sK P conv call ex b (some (.ret, s)) = some (.ret, s) := rfl
theorem sK_exit (b : Code) (i : Nat) (s : St) : sK P conv call ex b (some (.exit i, s)) = some (.exit i, s) := rfl
theorem c_region (id : Nat) (l : List Oper) (s : St) : evC P conv call ex (.region id l.toArray false) s = norm1 (evOps P conv call l.toArray l s) := rfl
theorem c_draw (id : Nat) (l : List Oper) (s : St) : evC P conv call [] (.region id l.toArray true) s = norm1 (evOpsQ P conv call l.toArray l s) := rfl
theorem c_skip (s : St) : evC P conv call ex .skip s = some (.norm, s) := rfl
theorem c_ret (s : St) : evC P conv call ex .ret s = some (.ret, s) := rfl
theorem c_exit (i : Nat) (s : St) : evC P conv call ex (.exit i) s = some (.exit i, s) := rfl
noncomputable def cK (P : Program) (conv : FuncId → Conv) (call : Call) (ex : List Nat) (a b : Code) (s : St) : V → Option (Ex × St)
  | .sc (.bool true) => evC P conv call ex a s
  | .sc (.bool false) => evC P conv call ex b s
  | _ => none
theorem c_cond (c : Operand) (a b : Code) (T : Nat → V) (σ : Store) (nx : Nat) : evC P conv call ex (.cond c a b) ⟨T, σ, nx⟩ = cK P conv call ex a b ⟨T, σ, nx⟩ (val T c) := by
  show (match val T c with | .sc (.bool true) => _ | .sc (.bool false) => _ | _ => none) = _
  unfold cK
  rfl
theorem cK_true (a b : Code) (s : St) : cK P conv call ex a b s (.sc (.bool true)) = evC P conv call ex a s := rfl
theorem cK_false (a b : Code) (s : St) : cK P conv call ex a b s (.sc (.bool false)) = evC P conv call ex b s := rfl
theorem c_block (id : Nat) (c : Code) (s : St) : evC P conv call ex (.block id c) s = blockK id (evC P conv call ex c s) := rfl
theorem c_loop (c : Code) (s : St) : evC P conv call ex (.loop c) s = evLoopI (evC P conv call ex c) s := rfl

theorem ev_eqQ {ext : Ext} {f : FuncId} {fn : Func} {body : Code} {rs : List ResultVar} (ex : List Nat) (hg : ext f = none) (hf : P.funcs[f]? = some fn) (hb : fn.body = some body) (hr : fn.results.toList = rs) {args : List V} (hok : fnOk fn body args.length = true) (hq : quietCode conv ex body = true) (σ : Store) (nx : Nat) :
    ev P conv ext f args σ nx = resK P rs (evC P conv (ev P conv ext) ex body ⟨argsT args, σ, nx⟩) := by
  rw [ev_eq hg hf hb hr hok, bodyI_eq, evC_eq body hq]

/-! ### Steps of a region that draws and writes -/
theorem drawK_some (ops : Array Oper) (s0 s : St) : drawK P conv call ops s0 (some s) = some s := rfl
theorem c_draw1 (i id : Nat) (l : List Oper) (s : St) : evC P conv call [i] (.region id l.toArray true) s = norm1 (if id = i then drawK P conv call l.toArray s (evOpsF P conv call l.toArray l 0 [] s) else evOpsQ P conv call l.toArray l s) := by
  show norm1 (if id ∈ [i] then _ else _) = _
  simp only [List.mem_singleton]
theorem c_draw2 (i j id : Nat) (l : List Oper) (s : St) : evC P conv call [i, j] (.region id l.toArray true) s = norm1 (if id = i then drawK P conv call l.toArray s (evOpsF P conv call l.toArray l 0 [] s) else if id = j then drawK P conv call l.toArray s (evOpsF P conv call l.toArray l 0 [] s) else evOpsQ P conv call l.toArray l s) := by
  show norm1 (if id ∈ [i, j] then _ else _) = _
  by_cases h1 : id = i
  · rw [if_pos h1, if_pos (by simp [h1])]
  · rw [if_neg h1]
    by_cases h2 : id = j
    · rw [if_pos h2, if_pos (by simp [h2])]
    · rw [if_neg h2, if_neg (by simp [h1, h2])]
/-- A drawn region, held against the named ones one by one. -/
def drawS (P : Program) (conv : FuncId → Conv) (call : Call) (id : Nat) (l : List Oper) (s : St) : List Nat → Option St
  | [] => evOpsQ P conv call l.toArray l s
  | i :: ex => if id = i then drawK P conv call l.toArray s (evOpsF P conv call l.toArray l 0 [] s) else drawS P conv call id l s ex
theorem drawS_eq (id : Nat) (l : List Oper) (s : St) : ∀ ex : List Nat, drawS P conv call id l s ex = if id ∈ ex then drawK P conv call l.toArray s (evOpsF P conv call l.toArray l 0 [] s) else evOpsQ P conv call l.toArray l s
  | [] => by simp [drawS]
  | i :: ex => by
    unfold drawS
    rw [drawS_eq id l s ex]
    by_cases h : id = i
    · rw [if_pos h, if_pos (by simp [h])]
    · rw [if_neg h]
      by_cases h2 : id ∈ ex
      · rw [if_pos h2, if_pos (by simp [h2])]
      · rw [if_neg h2, if_neg (by simp [h, h2])]
theorem c_drawG (i : Nat) (ex : List Nat) (id : Nat) (l : List Oper) (s : St) : evC P conv call (i :: ex) (.region id l.toArray true) s = norm1 (drawS P conv call id l s (i :: ex)) := by
  rw [drawS_eq]
  rfl
theorem drawS_nil (id : Nat) (l : List Oper) (s : St) : drawS P conv call id l s [] = evOpsQ P conv call l.toArray l s := rfl
theorem drawS_cons (id : Nat) (l : List Oper) (s : St) (i : Nat) (ex : List Nat) : drawS P conv call id l s (i :: ex) = if id = i then drawK P conv call l.toArray s (evOpsF P conv call l.toArray l 0 [] s) else drawS P conv call id l s ex := rfl
def opsKF (P : Program) (conv : FuncId → Conv) (call : Call) (ops : Array Oper) (rest : List Oper) (k : Nat) (acc : List (Nat × Bool × List Nat)) (T : Nat → V) (d : Option Tmp) : Res → Option St
  | some (v, σ, nx) => evOpsF P conv call ops rest k acc ⟨putT T d v, σ, nx⟩
  | none => none
def opsWF (P : Program) (conv : FuncId → Conv) (call : Call) (ops : Array Oper) (rest : List Oper) (k : Nat) (acc : List (Nat × Bool × List Nat)) (o : Oper) (s : St) : Option Bool → Option St
  | some true => if okF o.after acc (writer conv o) (footIds conv s.T s.σ o) = true then opsKF P conv call ops rest (k + 1) (addF acc k (writer conv o) (footIds conv s.T s.σ o)) s.T o.dst (evOpD P conv call o s.T s.σ s.nx) else none
  | some false => evOpsF P conv call ops rest (k + 1) acc ⟨putT s.T o.dst (.tup []), s.σ, s.nx⟩
  | none => none
theorem evOpsF_nil (ops : Array Oper) (k : Nat) (acc : List (Nat × Bool × List Nat)) (s : St) : evOpsF P conv call ops [] k acc s = some s := rfl
theorem evOpsF_cons (ops : Array Oper) (k : Nat) (acc : List (Nat × Bool × List Nat)) (d : Option Tmp) (op : Op) (ty : TypeId) (ps : String) (af : Array Edge) (rest : List Oper) (T : Nat → V) (σ : Store) (nx : Nat) :
    evOpsF P conv call ops (⟨d, op, ty, ps, af, none⟩ :: rest) k acc ⟨T, σ, nx⟩ = if okF af acc (writer conv ⟨d, op, ty, ps, af, none⟩) (footIds conv T σ ⟨d, op, ty, ps, af, none⟩) = true then opsKF P conv call ops rest (k + 1) (addF acc k (writer conv ⟨d, op, ty, ps, af, none⟩) (footIds conv T σ ⟨d, op, ty, ps, af, none⟩)) T d (evOpD P conv call ⟨d, op, ty, ps, af, none⟩ T σ nx) else none := by
  show (if okF af acc (writer conv ⟨d, op, ty, ps, af, none⟩) (footIds conv T σ ⟨d, op, ty, ps, af, none⟩) = true then (match evOpD P conv call ⟨d, op, ty, ps, af, none⟩ T σ nx with | some (v, σ', nx') => _ | none => none) else none) = _
  cases evOpD P conv call ⟨d, op, ty, ps, af, none⟩ T σ nx <;> rfl
theorem evOpsF_guard (ops : Array Oper) (k : Nat) (acc : List (Nat × Bool × List Nat)) (d : Option Tmp) (op : Op) (ty : TypeId) (ps : String) (af : Array Edge) (g : Nat × Bool) (rest : List Oper) (T : Nat → V) (σ : Store) (nx : Nat) :
    evOpsF P conv call ops (⟨d, op, ty, ps, af, some g⟩ :: rest) k acc ⟨T, σ, nx⟩ = opsWF P conv call ops rest k acc ⟨d, op, ty, ps, af, some g⟩ ⟨T, σ, nx⟩ (wantedB ops T ⟨d, op, ty, ps, af, some g⟩) := by
  show (match wantedB ops T ⟨d, op, ty, ps, af, some g⟩ with | some true => _ | some false => _ | none => none) = _
  cases wantedB ops T ⟨d, op, ty, ps, af, some g⟩ with
  | none => rfl
  | some b =>
    cases b with
    | false => rfl
    | true =>
      simp only [opsWF]
      cases evOpD P conv call ⟨d, op, ty, ps, af, some g⟩ T σ nx <;> rfl
theorem opsKF_some (ops : Array Oper) (rest : List Oper) (k : Nat) (acc : List (Nat × Bool × List Nat)) (T : Nat → V) (d : Tmp) (v : V) (σ : Store) (nx : Nat) : opsKF P conv call ops rest k acc T (some d) (some (v, σ, nx)) = evOpsF P conv call ops rest k acc ⟨upd T d v, σ, nx⟩ := rfl
theorem opsKF_none (ops : Array Oper) (rest : List Oper) (k : Nat) (acc : List (Nat × Bool × List Nat)) (T : Nat → V) (v : V) (σ : Store) (nx : Nat) : opsKF P conv call ops rest k acc T none (some (v, σ, nx)) = evOpsF P conv call ops rest k acc ⟨T, σ, nx⟩ := rfl
theorem opsWF_true (ops : Array Oper) (rest : List Oper) (k : Nat) (acc : List (Nat × Bool × List Nat)) (d : Option Tmp) (op : Op) (ty : TypeId) (ps : String) (af : Array Edge) (g : Option (Nat × Bool)) (T : Nat → V) (σ : Store) (nx : Nat) :
    opsWF P conv call ops rest k acc ⟨d, op, ty, ps, af, g⟩ ⟨T, σ, nx⟩ (some true) = if okF af acc (writer conv ⟨d, op, ty, ps, af, g⟩) (footIds conv T σ ⟨d, op, ty, ps, af, g⟩) = true then opsKF P conv call ops rest (k + 1) (addF acc k (writer conv ⟨d, op, ty, ps, af, g⟩) (footIds conv T σ ⟨d, op, ty, ps, af, g⟩)) T d (evOpD P conv call ⟨d, op, ty, ps, af, g⟩ T σ nx) else none := rfl
theorem opsWF_false (ops : Array Oper) (rest : List Oper) (k : Nat) (acc : List (Nat × Bool × List Nat)) (d : Tmp) (op : Op) (ty : TypeId) (ps : String) (af : Array Edge) (g : Option (Nat × Bool)) (T : Nat → V) (σ : Store) (nx : Nat) :
    opsWF P conv call ops rest k acc ⟨some d, op, ty, ps, af, g⟩ ⟨T, σ, nx⟩ (some false) = evOpsF P conv call ops rest (k + 1) acc ⟨upd T d (.tup []), σ, nx⟩ := rfl
theorem okF_nil (af : Array Edge) (acc : List (Nat × Bool × List Nat)) (w : Bool) : okF af acc w [] = true := id rfl
theorem okF_cons (af : Array Edge) (acc : List (Nat × Bool × List Nat)) (w : Bool) (b : Nat) (bs : List Nat) : okF af acc w (b :: bs) = okG af w (b :: bs) acc := id rfl
theorem okG_nil (af : Array Edge) (w : Bool) (ids : List Nat) : okG af w ids [] = true := id rfl
theorem okG_cons (af : Array Edge) (w : Bool) (ids : List Nat) (i : Nat) (v : Bool) (js : List Nat) (acc : List (Nat × Bool × List Nat)) : okG af w ids ((i, v, js) :: acc) = ((if (w || v) = true then (if edgeA af i = true then true else js.all fun b => !ids.contains b) else true) && okG af w ids acc) := id rfl
theorem addF_nil (acc : List (Nat × Bool × List Nat)) (k : Nat) (w : Bool) : addF acc k w [] = acc := id rfl
theorem addF_cons (acc : List (Nat × Bool × List Nat)) (k : Nat) (w : Bool) (b : Nat) (bs : List Nat) : addF acc k w (b :: bs) = acc ++ [(k, w, b :: bs)] := id rfl
theorem edgeA_nil (i : Nat) : edgeA #[] i = false := by simp [edgeA]
theorem edgeA_cons (e : Edge) (es : List Edge) (i : Nat) : edgeA (e :: es).toArray i = if (e.on == i) = true then (if Region.binds .any e = true then true else edgeA es.toArray i) else edgeA es.toArray i := by
  unfold edgeA
  rw [List.any_toArray, List.any_toArray, List.any_cons]
  cases e.on == i <;> cases Region.binds .any e <;> simp
theorem binds_data (i : Nat) : Region.binds .any ⟨i, .data⟩ = true := id rfl
theorem binds_phase (i : Nat) : Region.binds .any ⟨i, .phase⟩ = true := id rfl
theorem binds_chain (i : Nat) : Region.binds .any ⟨i, .chain⟩ = true := id rfl
theorem binds_guard (i : Nat) : Region.binds .any ⟨i, .guard⟩ = true := id rfl
theorem binds_text (i : Nat) (d : Departure) : Region.binds .any ⟨i, .textOnly d⟩ = false := id rfl
theorem binds_gc (i : Nat) (d : Departure) : Region.binds .any ⟨i, .gcOnly d⟩ = false := id rfl
section
variable (d : Option Tmp) (ty : TypeId) (ps : String) (af : Array Edge) (gd : Option (Nat × Bool)) (T : Nat → V) (σ : Store)
theorem w_store (t : TypeId) (a x : Operand) : writer conv ⟨d, .store t a x, ty, ps, af, gd⟩ = true := id rfl
theorem foot_store (t : TypeId) (a x : Operand) : footIds conv T σ ⟨d, .store t a x, ty, ps, af, gd⟩ = refsC (val T a) := rfl
theorem foot_load (t : TypeId) (a : Operand) : footIds conv T σ ⟨d, .load t a, ty, ps, af, gd⟩ = refsC (val T a) := rfl
theorem w_load (t : TypeId) (a : Operand) : writer conv ⟨d, .load t a, ty, ps, af, gd⟩ = false := id rfl
theorem refs_rp (b off : Nat) : refsC (.rp b off) = [b] := rfl
theorem refs_rs (b off len : Nat) : refsC (.rs b off len) = [b] := rfl
theorem refs_tp (row : List V) (off : Nat) : refsC (.tp row off) = [] := rfl
theorem refs_ts (row : List V) (off : Nat) : refsC (.ts row off) = [] := rfl
theorem refs_sc (v : Value) : refsC (.sc v) = [] := rfl
theorem refs_nil : refsC .nil = [] := rfl
theorem refs_agg (vs : List V) : refsC (.agg vs) = [] := rfl
theorem foot_move (x : Operand) : footIds conv T σ ⟨d, .move x, ty, ps, af, gd⟩ = [] := rfl
theorem w_move (x : Operand) : writer conv ⟨d, .move x, ty, ps, af, gd⟩ = false := id rfl
theorem foot_assign (x : Operand) : footIds conv T σ ⟨d, .assign x, ty, ps, af, gd⟩ = [] := rfl
theorem w_assign (x : Operand) : writer conv ⟨d, .assign x, ty, ps, af, gd⟩ = false := id rfl
theorem foot_pick (c a b : Operand) : footIds conv T σ ⟨d, .pick c a b, ty, ps, af, gd⟩ = [] := rfl
theorem w_pick (c a b : Operand) : writer conv ⟨d, .pick c a b, ty, ps, af, gd⟩ = false := id rfl
theorem foot_nilCheck (x : Operand) : footIds conv T σ ⟨d, .nilCheck x, ty, ps, af, gd⟩ = [] := rfl
theorem w_nilCheck (x : Operand) : writer conv ⟨d, .nilCheck x, ty, ps, af, gd⟩ = false := id rfl
theorem foot_binOp (op : BinOp) (t : TypeId) (x y : Operand) (yt : TypeId) : footIds conv T σ ⟨d, .binOp op t x y yt, ty, ps, af, gd⟩ = [] := rfl
theorem w_binOp (op : BinOp) (t : TypeId) (x y : Operand) (yt : TypeId) : writer conv ⟨d, .binOp op t x y yt, ty, ps, af, gd⟩ = false := id rfl
theorem foot_unOp (op : UnOp) (t : TypeId) (x : Operand) : footIds conv T σ ⟨d, .unOp op t x, ty, ps, af, gd⟩ = [] := rfl
theorem w_unOp (op : UnOp) (t : TypeId) (x : Operand) : writer conv ⟨d, .unOp op t x, ty, ps, af, gd⟩ = false := id rfl
theorem foot_fieldAddr (t : TypeId) (x : Operand) (f : Nat) : footIds conv T σ ⟨d, .fieldAddr t x f, ty, ps, af, gd⟩ = [] := rfl
theorem w_fieldAddr (t : TypeId) (x : Operand) (f : Nat) : writer conv ⟨d, .fieldAddr t x f, ty, ps, af, gd⟩ = false := id rfl
theorem foot_field (t : TypeId) (x : Operand) (f : Nat) : footIds conv T σ ⟨d, .field t x f, ty, ps, af, gd⟩ = [] := rfl
theorem w_field (t : TypeId) (x : Operand) (f : Nat) : writer conv ⟨d, .field t x f, ty, ps, af, gd⟩ = false := id rfl
theorem foot_indexAddr (t : TypeId) (x i : Operand) : footIds conv T σ ⟨d, .indexAddr t x i, ty, ps, af, gd⟩ = [] := rfl
theorem w_indexAddr (t : TypeId) (x i : Operand) : writer conv ⟨d, .indexAddr t x i, ty, ps, af, gd⟩ = false := id rfl
theorem foot_index (t : TypeId) (x i : Operand) : footIds conv T σ ⟨d, .index t x i, ty, ps, af, gd⟩ = [] := rfl
theorem w_index (t : TypeId) (x i : Operand) : writer conv ⟨d, .index t x i, ty, ps, af, gd⟩ = false := id rfl
theorem foot_extract (x : Operand) (i : Nat) : footIds conv T σ ⟨d, .extract x i, ty, ps, af, gd⟩ = [] := rfl
theorem w_extract (x : Operand) (i : Nat) : writer conv ⟨d, .extract x i, ty, ps, af, gd⟩ = false := id rfl
theorem foot_len (x : Operand) (t : TypeId) : footIds conv T σ ⟨d, .call ⟨.builtin .len, #[x], #[t]⟩, ty, ps, af, gd⟩ = [] := rfl
theorem w_len (x : Operand) (t : TypeId) : writer conv ⟨d, .call ⟨.builtin .len, #[x], #[t]⟩, ty, ps, af, gd⟩ = false := id rfl
theorem foot_build (t : TypeId) (parts : Array (Nat × Operand)) : footIds conv T σ ⟨d, .build t parts, ty, ps, af, gd⟩ = [] := rfl
theorem w_build (t : TypeId) (parts : Array (Nat × Operand)) : writer conv ⟨d, .build t parts, ty, ps, af, gd⟩ = false := id rfl
theorem foot_makeFunc (f : FuncId) (cap : Array Operand) : footIds conv T σ ⟨d, .makeFunc (.func f) #[] cap, ty, ps, af, gd⟩ = [] := rfl
theorem w_makeFunc (f : FuncId) (cap : Array Operand) : writer conv ⟨d, .makeFunc (.func f) #[] cap, ty, ps, af, gd⟩ = false := id rfl
theorem foot_alloc (t : TypeId) : footIds conv T σ ⟨d, .alloc t, ty, ps, af, gd⟩ = [] := rfl
theorem w_alloc (t : TypeId) : writer conv ⟨d, .alloc t, ty, ps, af, gd⟩ = false := id rfl
theorem foot_box (t : TypeId) (x : Operand) : footIds conv T σ ⟨d, .box t x, ty, ps, af, gd⟩ = [] := rfl
theorem w_box (t : TypeId) (x : Operand) : writer conv ⟨d, .box t x, ty, ps, af, gd⟩ = false := id rfl
theorem w_call {g : FuncId} (h : conv g = .imm) (args : Array Operand) (ts : Array TypeId) : writer conv ⟨d, .call ⟨.value (.func g), args, ts⟩, ty, ps, af, gd⟩ = false := by unfold writer; simp only [h]
theorem foot_deep {g : FuncId} (h : conv g ≠ .inl) (args : Array Operand) (ts : Array TypeId) : footO conv T σ ⟨d, .call ⟨.value (.func g), args, ts⟩, ty, ps, af, gd⟩ = (stripL (strip σ depth) (args.toList.map (val T))).map (·.2) := by
  simp only [footO, val, List.append_nil, deepO]
  cases hc : conv g with
  | inl => exact absurd hc h
  | own => cases stripL (strip σ depth) (args.toList.map (val T)) <;> rfl
  | imm => cases stripL (strip σ depth) (args.toList.map (val T)) <;> rfl
theorem foot_call {g : FuncId} (h : conv g = .imm) (args : Array Operand) (ts : Array TypeId) : footIds conv T σ ⟨d, .call ⟨.value (.func g), args, ts⟩, ty, ps, af, gd⟩ = ((stripL (strip σ depth) (args.toList.map (val T))).map (·.2)).getD [] := by
  unfold footIds
  rw [foot_deep d ty ps af gd T σ (by rw [h]; exact fun e => by cases e)]
end

/-! ### Steps of a region that draws -/

def opsKQ (P : Program) (conv : FuncId → Conv) (call : Call) (ops : Array Oper) (rest : List Oper) (T : Nat → V) (d : Option Tmp) : Res → Option St
  | some (v, σ, nx) => evOpsQ P conv call ops rest ⟨putT T d v, σ, nx⟩
  | none => none
def opsWQ (P : Program) (conv : FuncId → Conv) (call : Call) (ops : Array Oper) (rest : List Oper) (o : Oper) (s : St) : Option Bool → Option St
  | some true => opsKQ P conv call ops rest s.T o.dst (evOpD P conv call o s.T s.σ s.nx)
  | some false => evOpsQ P conv call ops rest ⟨putT s.T o.dst (.tup []), s.σ, s.nx⟩
  | none => none
theorem evOpsQ_nil (ops : Array Oper) (s : St) : evOpsQ P conv call ops [] s = some s := rfl
theorem evOpsQ_cons (ops : Array Oper) (d : Option Tmp) (op : Op) (ty : TypeId) (ps : String) (af : Array Edge) (rest : List Oper) (T : Nat → V) (σ : Store) (nx : Nat) :
    evOpsQ P conv call ops (⟨d, op, ty, ps, af, none⟩ :: rest) ⟨T, σ, nx⟩ = opsKQ P conv call ops rest T d (evOpD P conv call ⟨d, op, ty, ps, af, none⟩ T σ nx) := by
  show (match evOpD P conv call ⟨d, op, ty, ps, af, none⟩ T σ nx with | some (v, σ', nx') => _ | none => none) = _
  cases evOpD P conv call ⟨d, op, ty, ps, af, none⟩ T σ nx <;> rfl
theorem evOpsQ_guard (ops : Array Oper) (d : Option Tmp) (op : Op) (ty : TypeId) (ps : String) (af : Array Edge) (g : Nat × Bool) (rest : List Oper) (T : Nat → V) (σ : Store) (nx : Nat) :
    evOpsQ P conv call ops (⟨d, op, ty, ps, af, some g⟩ :: rest) ⟨T, σ, nx⟩ = opsWQ P conv call ops rest ⟨d, op, ty, ps, af, some g⟩ ⟨T, σ, nx⟩ (wantedB ops T ⟨d, op, ty, ps, af, some g⟩) := by
  show (match wantedB ops T ⟨d, op, ty, ps, af, some g⟩ with | some true => _ | some false => _ | none => none) = _
  cases wantedB ops T ⟨d, op, ty, ps, af, some g⟩ with
  | none => rfl
  | some b =>
    cases b with
    | false => rfl
    | true =>
      simp only [opsWQ]
      cases evOpD P conv call ⟨d, op, ty, ps, af, some g⟩ T σ nx <;> rfl
theorem opsKQ_some (ops : Array Oper) (rest : List Oper) (T : Nat → V) (d : Tmp) (v : V) (σ : Store) (nx : Nat) : opsKQ P conv call ops rest T (some d) (some (v, σ, nx)) = evOpsQ P conv call ops rest ⟨upd T d v, σ, nx⟩ := rfl
theorem opsKQ_none (ops : Array Oper) (rest : List Oper) (T : Nat → V) (v : V) (σ : Store) (nx : Nat) : opsKQ P conv call ops rest T none (some (v, σ, nx)) = evOpsQ P conv call ops rest ⟨T, σ, nx⟩ := rfl
theorem opsWQ_true (ops : Array Oper) (rest : List Oper) (d : Option Tmp) (op : Op) (ty : TypeId) (ps : String) (af : Array Edge) (g : Option (Nat × Bool)) (T : Nat → V) (σ : Store) (nx : Nat) :
    opsWQ P conv call ops rest ⟨d, op, ty, ps, af, g⟩ ⟨T, σ, nx⟩ (some true) = opsKQ P conv call ops rest T d (evOpD P conv call ⟨d, op, ty, ps, af, g⟩ T σ nx) := rfl
theorem opsWQ_false (ops : Array Oper) (rest : List Oper) (d : Tmp) (op : Op) (ty : TypeId) (ps : String) (af : Array Edge) (g : Option (Nat × Bool)) (T : Nat → V) (σ : Store) (nx : Nat) :
    opsWQ P conv call ops rest ⟨some d, op, ty, ps, af, g⟩ ⟨T, σ, nx⟩ (some false) = evOpsQ P conv call ops rest ⟨upd T d (.tup []), σ, nx⟩ := rfl

theorem patchS_box {σ : Store} {nx : Nat} {cells : List V} {st : Nat} : patchS [] nx (nx + 1) σ (evBox (restrict σ []) nx cells st) = evBox σ nx cells st := by
  funext b
  unfold patchS evBox upd restrict
  by_cases h : b = nx
  · subst h; simp
  · rw [if_neg (by simp; omega), if_neg h]

section
variable (d : Option Tmp) (ty : TypeId) (ps : String) (af : Array Edge) (gd : Option (Nat × Bool)) (T : Nat → V) (σ : Store) (nx : Nat)

omit d ty ps af gd T σ nx in
theorem keeps_nil (T : Nat → V) (o : Oper) (v : V) : keeps conv T o [] v = true := by
  obtain ⟨dst, op, type, pos, after, guard⟩ := o
  cases op <;> simp only [keeps]
  rename_i c
  obtain ⟨callee, args, ts⟩ := c
  cases callee with
  | value f =>
    cases hv : val T f <;> simp only [hv]
    rename_i g cs
    cases hc : conv g <;> simp
  | builtin b => rfl
  | invoke r m => rfl
theorem evOpD_of {o : Oper} {F : List Nat} (hf : footO conv T σ o = some F) (hk : ∀ v, keeps conv T o F v = true) : evOpD P conv call o T σ nx = if (F.all fun b => decide (b < nx)) = true then match evOp P conv call o T (restrict σ F) nx with | some (v, σ1, nx1) => some (v, patchS F nx nx1 σ σ1, nx1) | none => none else none := by
  unfold evOpD
  simp only [hf, hk, if_true]
  cases evOp P conv call o T (restrict σ F) nx with
  | none => rfl
  | some r => rfl
/-- An operation that does not look into the store. -/
theorem opD_nil {o : Oper} (hf : footO conv T σ o = some []) {v : V} (h : ∀ σ, evOp P conv call o T σ nx = some (v, σ, nx)) : evOpD P conv call o T σ nx = some (v, σ, nx) := by
  rw [evOpD_of T σ nx hf (keeps_nil T o)]
  simp only [List.all_nil, if_true, h]
  rw [patchS_nil]
theorem opD_map {o : Oper} (hf : footO conv T σ o = some []) {m : Option V} (h : ∀ σ, evOp P conv call o T σ nx = m.map (·, σ, nx)) : evOpD P conv call o T σ nx = m.map (·, σ, nx) := by
  cases m with
  | some v => exact opD_nil T σ nx hf h
  | none =>
    rw [evOpD_of T σ nx hf (keeps_nil T o)]
    simp only [List.all_nil, if_true, h, Option.map_none]
theorem opD_new {o : Oper} (hf : footO conv T σ o = some []) {m : Option (List V × Nat × V)} (h : ∀ σ, evOp P conv call o T σ nx = m.map fun p => (p.2.2, evBox σ nx p.1 p.2.1, nx + 1)) : evOpD P conv call o T σ nx = m.map fun p => (p.2.2, evBox σ nx p.1 p.2.1, nx + 1) := by
  rw [evOpD_of T σ nx hf (keeps_nil T o)]
  simp only [List.all_nil, if_true, h]
  cases m with
  | none => rfl
  | some p => simp only [Option.map_some]; rw [patchS_box]

theorem opD_move (x : Operand) : evOpD P conv call ⟨d, .move x, ty, ps, af, gd⟩ T σ nx = some (val T x, σ, nx) := opD_nil T σ nx rfl fun _ => rfl
theorem opD_assign (x : Operand) : evOpD P conv call ⟨d, .assign x, ty, ps, af, gd⟩ T σ nx = some (val T x, σ, nx) := opD_nil T σ nx rfl fun _ => rfl
theorem opD_pick (c a b : Operand) : evOpD P conv call ⟨d, .pick c a b, ty, ps, af, gd⟩ T σ nx = (pickV (val T a) (val T b) (val T c)).map (·, σ, nx) := opD_map T σ nx rfl fun σ => op_pick d ty ps af gd T σ nx c a b
theorem opD_nilCheck (x : Operand) : evOpD P conv call ⟨d, .nilCheck x, ty, ps, af, gd⟩ T σ nx = (nilV (val T x)).map (·, σ, nx) := opD_map T σ nx rfl fun σ => op_nilCheck d ty ps af gd T σ nx x
theorem opD_binOp (op : BinOp) (t : TypeId) (x y : Operand) (yt : TypeId) : evOpD P conv call ⟨d, .binOp op t x y yt, ty, ps, af, gd⟩ T σ nx = (evBin P op t x y (val T x) (val T y)).map (·, σ, nx) := opD_map T σ nx rfl fun _ => rfl
theorem opD_unOp (op : UnOp) (t : TypeId) (x : Operand) : evOpD P conv call ⟨d, .unOp op t x, ty, ps, af, gd⟩ T σ nx = (evUn P op (val T x)).map (·, σ, nx) := opD_map T σ nx rfl fun _ => rfl
theorem opD_fieldAddr (t : TypeId) (x : Operand) (f : Nat) : evOpD P conv call ⟨d, .fieldAddr t x f, ty, ps, af, gd⟩ T σ nx = (evFieldAddr P t (val T x) f).map (·, σ, nx) := opD_map T σ nx rfl fun _ => rfl
theorem opD_field (t : TypeId) (x : Operand) (f : Nat) : evOpD P conv call ⟨d, .field t x f, ty, ps, af, gd⟩ T σ nx = (evField P t (val T x) f).map (·, σ, nx) := opD_map T σ nx rfl fun _ => rfl
theorem opD_indexAddr (t : TypeId) (x i : Operand) : evOpD P conv call ⟨d, .indexAddr t x i, ty, ps, af, gd⟩ T σ nx = (evIndexAddr P t (val T x) (val T i)).map (·, σ, nx) := opD_map T σ nx rfl fun _ => rfl
theorem opD_index (t : TypeId) (x i : Operand) : evOpD P conv call ⟨d, .index t x i, ty, ps, af, gd⟩ T σ nx = (evIndex P t (val T x) (val T i)).map (·, σ, nx) := opD_map T σ nx rfl fun _ => rfl
theorem opD_extract (x : Operand) (i : Nat) : evOpD P conv call ⟨d, .extract x i, ty, ps, af, gd⟩ T σ nx = (extV i (val T x)).map (·, σ, nx) := opD_map T σ nx rfl fun σ => op_extract d ty ps af gd T σ nx x i
theorem opD_len (x : Operand) (t : TypeId) : evOpD P conv call ⟨d, .call ⟨.builtin .len, #[x], #[t]⟩, ty, ps, af, gd⟩ T σ nx = (evLen P t (val T x)).map (·, σ, nx) := opD_map T σ nx rfl fun _ => rfl
theorem opD_build (t : TypeId) (parts : Array (Nat × Operand)) : evOpD P conv call ⟨d, .build t parts, ty, ps, af, gd⟩ T σ nx = (evBuild P t (parts.toList.map fun p => (p.1, val T p.2))).map (·, σ, nx) := opD_map T σ nx rfl fun _ => rfl
theorem opD_makeFunc (f : FuncId) (cap : Array Operand) : evOpD P conv call ⟨d, .makeFunc (.func f) #[] cap, ty, ps, af, gd⟩ T σ nx = some (.clo f (cap.toList.map (val T)), σ, nx) := opD_nil T σ nx rfl fun _ => rfl
theorem opD_alloc (t : TypeId) (h : (tyI P t).ok = true) (hz : decide ((tyI P t).zero.length = (tyI P t).size) = true) (h0 : decide (0 < (tyI P t).size) = true) : evOpD P conv call ⟨d, .alloc t, ty, ps, af, gd⟩ T σ nx = some (.rp nx 0, evBox σ nx (tyI P t).zero 0, nx + 1) :=
  opD_new (m := some ((tyI P t).zero, 0, .rp nx 0)) T σ nx rfl fun σ => op_alloc d ty ps af gd T σ nx t h hz h0
theorem opD_box (t : TypeId) (x : Operand) : evOpD P conv call ⟨d, .box t x, ty, ps, af, gd⟩ T σ nx = (cellsOfV (val T x)).map fun cs => (.rp nx 0, evBox σ nx cs 0, nx + 1) := by
  have := opD_new (P := P) (conv := conv) (call := call) (o := ⟨d, .box t x, ty, ps, af, gd⟩) (m := (cellsOfV (val T x)).map fun cs => (cs, 0, V.rp nx 0)) T σ nx rfl fun σ => by rw [op_box]; cases cellsOfV (val T x) <;> rfl
  rw [this]
  cases cellsOfV (val T x) <;> rfl

/-- .. a load .. -/
def loadD (P : Program) (σ : Store) (nx : Nat) (t : TypeId) : V → Option V
  | .rp b off => if b < nx then evLoad P σ t (.rp b off) else none
  | v => evLoad P σ t v
theorem opD_load (t : TypeId) (a : Operand) : evOpD P conv call ⟨d, .load t a, ty, ps, af, gd⟩ T σ nx = (loadD P σ nx t (val T a)).map (·, σ, nx) := by
  have key : ∀ b off, evLoad P (restrict σ [b]) t (.rp b off) = evLoad P σ t (.rp b off) := fun b off => by
    unfold evLoad cellsAt restrict
    simp
  rw [evOpD_of (F := refsC (val T a)) T σ nx rfl (fun _ => rfl)]
  show (if ((refsC (val T a)).all fun b => decide (b < nx)) = true then match (evLoad P (restrict σ (refsC (val T a))) t (val T a)).map (·, restrict σ (refsC (val T a)), nx) with | some (v, σ1, nx1) => some (v, patchS (refsC (val T a)) nx nx1 σ σ1, nx1) | none => none else none) = _
  cases hv : val T a with
  | rp b off =>
    simp only [refsC, List.all_cons, List.all_nil, Bool.and_true, decide_eq_true_eq, loadD, key]
    by_cases hb : b < nx
    · rw [if_pos hb, if_pos hb]
      cases evLoad P σ t (.rp b off) with
      | none => rfl
      | some v => simp only [Option.map_some, patchS_eq_self]
    · rw [if_neg hb, if_neg hb]; rfl
  | tp row off =>
    simp only [refsC, List.all_nil, if_true, loadD]
    have : evLoad P (restrict σ []) t (.tp row off) = evLoad P σ t (.tp row off) := by unfold evLoad cellsAt; rfl
    rw [this]
    cases evLoad P σ t (.tp row off) with
    | none => rfl
    | some v => simp only [Option.map_some, patchS_nil]
  | rs b off len =>
    have e : ∀ σ, evLoad P σ t (.rs b off len) = none := fun σ => by unfold evLoad cellsAt; split <;> simp
    simp only [loadD, e, Option.map_none]
    split <;> rfl
  | _ =>
    simp only [refsC, List.all_nil, if_true, loadD]
    unfold evLoad cellsAt
    cases P.info? t <;> cases P.underlying t <;> simp

theorem loadD_tp (σ : Store) (nx : Nat) (t : TypeId) (row : List V) (off : Nat) : loadD P σ nx t (.tp row off) = evLoad P σ t (.tp row off) := rfl
theorem loadD_rp (σ : Store) (nx : Nat) (t : TypeId) (b off : Nat) : loadD P σ nx t (.rp b off) = if b < nx then evLoad P σ t (.rp b off) else none := rfl

/-- .. a store .. -/
def storeD (P : Program) (σ : Store) (nx : Nat) (t : TypeId) (v : V) : V → Option Store
  | .rp b off => if b < nx then evStore P σ t (.rp b off) v else none
  | _ => none
theorem opD_store (t : TypeId) (a x : Operand) : evOpD P conv call ⟨d, .store t a x, ty, ps, af, gd⟩ T σ nx = (storeD P σ nx t (val T x) (val T a)).map (.tup [], ·, nx) := by
  rw [evOpD_of (F := refsC (val T a)) T σ nx rfl (fun _ => rfl)]
  show (if ((refsC (val T a)).all fun b => decide (b < nx)) = true then match (evStore P (restrict σ (refsC (val T a))) t (val T a) (val T x)).map (V.tup [], ·, nx) with | some (v, σ1, nx1) => some (v, patchS (refsC (val T a)) nx nx1 σ σ1, nx1) | none => none else none) = _
  cases hv : val T a with
  | rp b off =>
    simp only [refsC, List.all_cons, List.all_nil, Bool.and_true, decide_eq_true_eq, storeD]
    by_cases hb : b < nx
    · rw [if_pos hb, if_pos hb]
      unfold evStore
      have hr : restrict σ [b] b = σ b := by unfold restrict; simp
      cases P.info? t with
      | none => rfl
      | some i =>
        cases cellsOfV (val T x) with
        | none => rfl
        | some vs =>
          simp only [hr]
          cases σ b with
          | none => rfl
          | some B =>
            by_cases hc : B.wr = true ∧ vs.length = i.size ∧ off + vs.length ≤ B.cells.length ∧ vs.all isCell = true
            · simp only [if_pos hc, Option.map_some]
              congr 2
              congr 1
              funext c
              unfold patchS upd restrict
              by_cases hcb : c = b
              · subst hcb; simp
              · rw [if_neg (by simp [hcb]), if_neg hcb]
            · simp only [if_neg hc, Option.map_none]
    · rw [if_neg hb, if_neg hb]; rfl
  | _ =>
    simp only [storeD]
    have : evStore P (restrict σ (refsC (val T a))) t (val T a) (val T x) = none := by
      rw [hv]; unfold evStore; cases P.info? t <;> cases cellsOfV (val T x) <;> rfl
    rw [hv] at this
    rw [this]
    simp
theorem storeD_rp (σ : Store) (nx : Nat) (t : TypeId) (v : V) (b off : Nat) : storeD P σ nx t v (.rp b off) = if b < nx then evStore P σ t (.rp b off) v else none := rfl
end

end
end Go.TV
namespace Go.TV
set_option linter.unusedVariables false
set_option linter.unusedSimpArgs false

/-- What a function tells of trees. -/
noncomputable def fn (P : Program) (conv : FuncId → Conv) (ext : Ext) (f : FuncId) (ts : List V) : Option V :=
  match ev P conv ext f ts noStore 0 with
  | some (v, σ1, _) => (strip σ1 depth v).map (·.1)
  | none => none

section
variable {P : Program} {conv : FuncId → Conv} {ext : Ext}

theorem fn_of {f : FuncId} {ts : List V} {v t : V} {σ1 : Store} {n : Nat} {ids : List Nat} (h : ev P conv ext f ts noStore 0 = some (v, σ1, n)) (hs : strip σ1 depth v = some (t, ids)) : fn P conv ext f ts = some t := by
  unfold fn
  simp only [h, hs, Option.map_some]

/-- The caller's store behind a call. -/
def behind (σ : Store) (ids : List Nat) (t : V) : Store := if ids.isEmpty || flat depth t then σ else freezeL σ ids

theorem call_imm {f : FuncId} (h : conv f = .imm) (args : List V) (σ : Store) (nx : Nat) : evCall conv (ev P conv ext) f args σ nx =
    (stripL (strip σ depth) args).bind fun p => (fn P conv ext f p.1).map fun t => (t, behind σ p.2 t, nx) := by
  unfold evCall fn behind
  rw [h]
  simp only
  cases stripL (strip σ depth) args with
  | none => rfl
  | some p =>
    obtain ⟨ts, ids⟩ := p
    simp only [Option.bind_some]
    cases ev P conv ext f ts noStore 0 with
    | none => rfl
    | some q =>
      obtain ⟨v, σ1, n⟩ := q
      simp only
      cases strip σ1 depth v with
      | none => rfl
      | some r =>
        obtain ⟨t, j⟩ := r
        simp only [Option.map_some]
        split <;> rfl

theorem behind_nil (σ : Store) (t : V) : behind σ [] t = σ := rfl
theorem behind_sc (σ : Store) (ids : List Nat) (v : Value) : behind σ ids (.sc v) = σ := by
  unfold behind depth flat
  simp
theorem behind_tup2 (σ : Store) (ids : List Nat) (v w : Value) : behind σ ids (.tup [.sc v, .sc w]) = σ := by
  have : flat depth (.tup [.sc v, .sc w]) = true := rfl
  unfold behind
  rw [this]
  simp

theorem call_inl {call : Call} {f : FuncId} (h : conv f = .inl) (args : List V) (σ : Store) (nx : Nat) : evCall conv call f args σ nx = call f args σ nx := by
  unfold evCall; rw [h]

theorem call_own {call : Call} {f : FuncId} (h : conv f = .own) (args : List V) (σ : Store) (nx : Nat) : evCall conv call f args σ nx =
    (stripL (strip σ depth) args).bind fun p => (call f p.1 noStore nx).bind fun q => (gather q.2.1 depth q.1).map fun ids => (q.1, joinS nx σ q.2.1 ids, q.2.2) := by
  unfold evCall
  rw [h]
  simp only
  cases stripL (strip σ depth) args with
  | none => rfl
  | some p =>
    simp only [Option.bind_some]
    cases call f p.1 noStore nx with
    | none => rfl
    | some q =>
      simp only [Option.bind_some]
      cases gather q.2.1 depth q.1 <;> rfl

/-! ### Trees of arguments -/
theorem stripL_nil (f : V → Option (V × List Nat)) : stripL f [] = some ([], []) := rfl
theorem stripL_cons (f : V → Option (V × List Nat)) (v : V) (vs : List V) : stripL f (v :: vs) = (f v).bind fun p => (stripL f vs).map fun q => (p.1 :: q.1, p.2 ++ q.2) := by
  show (match f v, stripL f vs with | some (t, i), some (ts, j) => some (t :: ts, i ++ j) | _, _ => none) = _
  cases f v <;> cases stripL f vs <;> rfl
theorem strip_sc (σ : Store) (d : Nat) (v : Value) : strip σ d (.sc v) = some (.sc v, []) := by cases d <;> rfl
theorem strip_nil (σ : Store) (d : Nat) : strip σ d .nil = some (.ts [] 0, []) := by cases d <;> rfl
theorem strip_junk (σ : Store) (d : Nat) : strip σ d .junk = some (.junk, []) := by cases d <;> rfl
theorem strip_tp (σ : Store) (d : Nat) (row : List V) (off : Nat) : strip σ d (.tp row off) = some (.tp row off, []) := by cases d <;> rfl
theorem strip_ts (σ : Store) (d : Nat) (row : List V) (len : Nat) : strip σ d (.ts row len) = some (.ts row len, []) := by cases d <;> rfl
theorem strip_agg (σ : Store) (d : Nat) (vs : List V) : strip σ (d + 1) (.agg vs) = (stripL (strip σ d) vs).map fun p => (.agg p.1, p.2) := by
  show (match stripL (strip σ d) vs with | some (ts, ids) => some (V.agg ts, ids) | none => none) = _
  cases stripL (strip σ d) vs <;> rfl
theorem strip_tup (σ : Store) (d : Nat) (vs : List V) : strip σ (d + 1) (.tup vs) = (stripL (strip σ d) vs).map fun p => (.tup p.1, p.2) := by
  show (match stripL (strip σ d) vs with | some (ts, ids) => some (V.tup ts, ids) | none => none) = _
  cases stripL (strip σ d) vs <;> rfl
theorem strip_clo (σ : Store) (d : Nat) (f : FuncId) (vs : List V) : strip σ (d + 1) (.clo f vs) = (stripL (strip σ d) vs).map fun p => (.clo f p.1, p.2) := by
  show (match stripL (strip σ d) vs with | some (ts, ids) => some (V.clo f ts, ids) | none => none) = _
  cases stripL (strip σ d) vs <;> rfl
theorem strip_rp (σ : Store) (d b off : Nat) : strip σ (d + 1) (.rp b off) = (σ b).bind fun B => (stripL (strip σ d) B.cells).map fun p => (.tp p.1 off, b :: p.2) := by
  show (match σ b with | some B => (match stripL (strip σ d) B.cells with | some (ts, ids) => some (V.tp ts off, b :: ids) | none => none) | none => none) = _
  cases σ b with
  | none => rfl
  | some B => simp only [Option.bind_some]; cases stripL (strip σ d) B.cells <;> rfl
theorem strip_rs (σ : Store) (d b off len : Nat) : strip σ (d + 1) (.rs b off len) = (σ b).bind fun B => if off + len * B.st ≤ B.cells.length then (stripL (strip σ d) ((B.cells.drop off).take (len * B.st))).map fun p => (.ts p.1 len, b :: p.2) else none := by
  show (match σ b with | some B => (if off + len * B.st ≤ B.cells.length then (match stripL (strip σ d) ((B.cells.drop off).take (len * B.st)) with | some (ts, ids) => some (V.ts ts len, b :: ids) | none => none) else none) | none => none) = _
  cases σ b with
  | none => rfl
  | some B =>
    simp only [Option.bind_some]
    split
    · cases stripL (strip σ d) ((B.cells.drop off).take (len * B.st)) <;> rfl
    · rfl
/-- Cells that hold no references stay as they are. -/
theorem stripL_flat {α : Type} (σ : Store) (d : Nat) (g : α → V) (hg : ∀ x, strip σ d (g x) = some (g x, [])) : ∀ xs : List α, stripL (strip σ d) (xs.map g) = some (xs.map g, [])
  | [] => rfl
  | x :: xs => by rw [List.map_cons, stripL_cons, hg, stripL_flat σ d g hg xs]; rfl

/-! ### Calls in regions that draw -/

/-- A call of trees. -/
def callD (P : Program) (conv : FuncId → Conv) (ext : Ext) (f : FuncId) (args : List V) : Option V → Option V := id

/-- What a call of a region that draws hands back: what it read stays as it is. -/
def drawC (ids : List Nat) (t : V) (σ : Store) (nx : Nat) : Res := if (ids.isEmpty || flat depth t) = true then some (t, σ, nx) else none
theorem drawC_nil (t : V) (σ : Store) (nx : Nat) : drawC [] t σ nx = some (t, σ, nx) := rfl
theorem drawC_sc (ids : List Nat) (v : Value) (σ : Store) (nx : Nat) : drawC ids (.sc v) σ nx = some (.sc v, σ, nx) := by
  unfold drawC depth flat
  simp
theorem opD_call {d : Option Tmp} {ty : TypeId} {ps : String} {af : Array Edge} {gd : Option (Nat × Bool)} {T : Nat → V} {σ : Store} {nx : Nat} {g : FuncId} (h : conv g = .imm) (args : Array Operand) (ts : Array TypeId) :
    evOpD P conv (ev P conv ext) ⟨d, .call ⟨.value (.func g), args, ts⟩, ty, ps, af, gd⟩ T σ nx = (stripL (strip σ depth) (args.toList.map (val T))).bind fun p => if (p.2.all fun b => decide (b < nx)) = true then (fn P conv ext g p.1).bind fun t => drawC p.2 t σ nx else none := by
  unfold evOpD
  rw [foot_deep d ty ps af gd T σ (by rw [h]; exact fun e => by cases e)]
  cases hst : stripL (strip σ depth) (args.toList.map (val T)) with
  | none => rfl
  | some p =>
    obtain ⟨us, ids⟩ := p
    simp only [Option.map_some, Option.bind_some]
    by_cases hall : (ids.all fun b => decide (b < nx)) = true
    · rw [if_pos hall, if_pos hall]
      have e := op_call (P := P) (conv := conv) (call := ev P conv ext) d ty ps af gd T (restrict σ ids) nx (.func g) args ts
      rw [e]
      have hst' : stripL (strip (restrict σ ids) depth) (args.toList.map (val T)) = some (us, ids) :=
        stripL_congr (fun v t i h hi => strip_congr _ v t i h fun b hb => by unfold restrict; rw [if_pos (hi b hb)]) hst
      simp only [val, callV_clo, List.append_nil, call_imm h, hst', Option.bind_some]
      cases fn P conv ext g us with
      | none => rfl
      | some t =>
        simp only [Option.map_some, Option.bind_some, keeps, val, h, drawC, behind]
        by_cases hk : (ids.isEmpty || flat depth t) = true
        · rw [if_pos hk, if_pos hk, if_pos hk, patchS_eq_self]
        · rw [if_neg hk, if_neg hk]
    · rw [if_neg hall, if_neg hall]

end

/-! ### Short words for data -/
abbrev I (n : Int) : V := .sc (.int .i64 n)
abbrev Bo (b : Bool) : V := .sc (.bool b)
abbrev Sg (s : ByteArray) : V := .sc (.string s)
abbrev L (xs : List Int) : V := .ts (xs.map I) xs.length

theorem wrap_id {n : Int} (h0 : -9223372036854775808 ≤ n) (h1 : n ≤ 9223372036854775807) : IntKind.i64.wrap n = n := by
  rw [IntKind.wrap_i64]; omega

end Go.TV
namespace Go.TV
attribute [go_sem low] op_buildSlice
attribute [go_sem] drawK_some c_drawG drawS_nil drawS_cons evOpsF_nil evOpsF_cons evOpsF_guard opsKF_some opsKF_none opsWF_true opsWF_false okF_nil okF_cons okG_nil okG_cons addF_nil addF_cons edgeA_nil edgeA_cons binds_data binds_phase binds_chain binds_guard binds_text binds_gc w_store foot_store foot_load w_load refs_rp refs_rs refs_tp refs_ts refs_sc refs_nil refs_agg foot_move w_move foot_assign w_assign foot_pick w_pick foot_nilCheck w_nilCheck foot_binOp w_binOp foot_unOp w_unOp foot_fieldAddr w_fieldAddr foot_field w_field foot_indexAddr w_indexAddr foot_index w_index foot_extract w_extract foot_len w_len foot_build w_build foot_makeFunc w_makeFunc foot_alloc w_alloc foot_box w_box w_call foot_call List.contains_cons List.contains_nil Bool.or_false Bool.false_or Bool.true_or Nat.reduceBEq
  evOps_nil evOps_cons evOps_guard opsK_some opsK_none opsW_true opsW_false wantedB_some guardB_bool guardB_undef val_tmp val_const val_func
  op_move op_assign op_pick pickV_bool op_alloc op_box op_build op_load op_store op_nilCheck nilV_tp nilV_rp op_binOp op_unOp op_convert op_makeFunc op_makeSlice op_slice op_fieldAddr op_field op_indexAddr op_index op_extract extV_tup
  op_call callV_clo op_len op_append norm1_some blockK_norm blockK_ret blockK_exit loopK_norm loopK_ret loopK_exit resK_norm resK_ret res_nil res_tmp1 res_tmp2 res_tmp3 res_cell1 oneOf_zero oneOf_one oneOf_two oneOf_three
  argsT_get ofVal_int ofVal_bool ofVal_string ofVal_nilp ofVal_nils ofVal_agg
  c_seq sK_norm sK_ret sK_exit c_region c_draw c_skip c_ret c_exit c_cond cK_true cK_false c_block c_loop
  evOpsQ_nil evOpsQ_cons evOpsQ_guard opsKQ_some opsKQ_none opsWQ_true opsWQ_false
  opD_move opD_assign opD_pick opD_nilCheck opD_binOp opD_unOp opD_fieldAddr opD_field opD_indexAddr opD_index opD_extract opD_len opD_build opD_makeFunc opD_alloc opD_box opD_load loadD_tp loadD_rp opD_store storeD_rp opD_call drawC_nil drawC_sc Option.getD_some Option.getD_none
  evLoad_tp evLoad_tpa evLoad_rp evLoad_rpa evStore_rp evStore_agg evField_tp evField_rp evField_agg evIndex_ts evIndex_rs evMake_eq evBuildSlice_eq evBuild_eq evAppend_eq evLen_ts evLen_rs evLen_nil evLen_str evIdx_str evSlice_str evSlice_ts evSlice_rs
  ev_add ev_sub ev_mul ev_quo ev_rem ev_eql ev_neq ev_lss ev_leq ev_gtr ev_geq ev_not ev_neg
  call_imm behind_nil behind_sc behind_tup2 stripL_nil stripL_cons strip_sc strip_nil strip_tp strip_ts strip_agg strip_tup strip_clo strip_rp strip_rs
  upd_same upd_ne ne_eq List.getElem?_cons_zero List.getElem?_cons_succ Option.getD_some Option.map_some Option.bind_some List.getElem?_toArray not_false_eq_true reduceCtorEq beq_self_eq_true if_true if_false Bool.false_eq_true List.map_cons List.map_nil List.nil_append List.cons_append Nat.reduceEqDiff
  decide_true decide_false Bool.true_and Bool.false_and Bool.not_true Bool.not_false Bool.and_true Bool.or_true Bool.and_false bnd and_true true_and
end Go.TV
namespace Go.TV
/-- A loop, by an invariant that counts down. -/
theorem loop_rule {body : St → Option (Ex × St)} {st0 : St} {x : Option (Ex × St)} (hL : evLoopI body st0 = x) (J : Nat → St → Prop) (post : Ex × St → Prop)
    (step : ∀ n st, J n st → (∃ st', body st = some (.norm, st') ∧ ∃ m, m < n ∧ J m st') ∨ (∃ r, body st = some r ∧ (∀ s, r ≠ (.norm, s)) ∧ post r)) (n : Nat) (h0 : J n st0) : ∃ r, x = some r ∧ post r := by
  subst hL
  induction n using Nat.strongRecOn generalizing st0 with
  | _ n ih =>
    rcases step n st0 h0 with ⟨st', h1, m, hm, hJ⟩ | ⟨r, h1, h2, h3⟩
    · obtain ⟨r, hr, hp⟩ := ih m hm hJ
      exact ⟨r, by rw [evLoopI_eq, h1]; exact hr, hp⟩
    · refine ⟨r, ?_, h3⟩
      rw [evLoopI_eq, h1]
      obtain ⟨e, s⟩ := r
      cases e with
      | norm => exact absurd rfl (h2 s)
      | exit i => rfl
      | ret => rfl
end Go.TV
namespace Go.TV
open Go.ChangeShapes Go.WideShapes Go.RowKit
set_option linter.unusedVariables false

/-- The situation at a call of trees: whatever lies in memory may be read. -/
def start (W : World) : Sit := ⟨fun k _ => k < W.heap.size, fun _ => none, W⟩

theorem start_inv (W : World) : Inv (start W) noStore := Inv.none _ (fun _ _ h => h)

/-- A reading at type t is one of the trees c x, of which ok holds. -/
structure OpensV {α : Type} (P : Program) (t : TypeId) (c : α → List V) (ok : α → Prop) : Prop where
  out : ∀ {H : Type} {enc : TypeId × Value → H} {W : World} {base : Nat} {spare : Nat → Bool} {held : Bool} {fuel : Nat} {cs : List Value} {y : DataW H × List MemPlace},
    DataW.trod enc P W base spare held fuel t cs = some y → (∀ n ∈ DataW.weights P t y.1, n ≤ reachBytes) → ∃ x, VRs (start W) (c x) cs ∧ ok x

theorem VRs_one {s : Sit} {v : V} {x : Value} (h : VR s v x) : VRs s [v] [x] := by
  unfold VRs
  exact ⟨x, [], rfl, h, by unfold VRs; rfl⟩

theorem opensV_int {P : Program} {t : TypeId} {k : IntKind} (ht : P.underlying t = some (.int k)) : OpensV P t (fun n : Int => [.sc (.int k n)]) (fun n => (Lit.int k n).wf = true) :=
  ⟨fun h _ => by
    obtain ⟨n, rfl, _, hw⟩ := DataW.trod_int ht h
    exact ⟨n, VRs_one (VR_sc rfl), hw⟩⟩

theorem opensV_bool {P : Program} {t : TypeId} (ht : P.underlying t = some .bool) : OpensV P t (fun b : Bool => [.sc (.bool b)]) (fun _ => True) :=
  ⟨fun h _ => by
    obtain ⟨b, rfl, _⟩ := DataW.trod_bool ht h
    exact ⟨b, VRs_one (VR_sc rfl), trivial⟩⟩

theorem opensV_string {P : Program} {t : TypeId} (ht : P.underlying t = some .string) : OpensV P t (fun s : ByteArray => [.sc (.string s)]) (fun s => s.size ≤ 140737488351232) :=
  ⟨fun h hw => by
    obtain ⟨s, rfl, rfl, _⟩ := DataW.trod_string ht h
    refine ⟨s, VRs_one (VR_sc rfl), ?_⟩
    have := hw s.data.toList.length (by simp [DataW.weights])
    rw [Array.length_toList] at this
    exact this⟩

theorem weights_of_all {H : Type} {P : Program} {e : TypeId} : ∀ {l : List (DataW H)} {d : DataW H}, d ∈ l → ∀ n ∈ d.weights P e, n ∈ DataW.weightsAll P e l
  | c :: l, d, hd, n, hn => by
    unfold DataW.weightsAll
    rcases List.mem_cons.1 hd with rfl | hd
    · exact List.mem_append_left _ hn
    · exact List.mem_append_right _ (weights_of_all hd n hn)

theorem choose_list {α : Type} {p : Nat → α → Prop} : ∀ n, (∀ i, i < n → ∃ x, p i x) → ∃ l : List α, l.length = n ∧ ∀ i x, l[i]? = some x → p i x
  | 0, _ => ⟨[], rfl, fun i x h => by simp at h⟩
  | n + 1, h => by
    obtain ⟨l, hl, hp⟩ := choose_list n (fun i hi => h i (by omega))
    obtain ⟨x, hx⟩ := h n (by omega)
    refine ⟨l ++ [x], by simp [hl], fun i y hy => ?_⟩
    rcases Nat.lt_or_ge i n with hi | hi
    · rw [List.getElem?_append_left (by omega)] at hy
      exact hp i y hy
    · rw [List.getElem?_append_right (by omega), hl] at hy
      have h0 : i - n = 0 := by
        rcases Nat.eq_zero_or_pos (i - n) with h0 | h0
        · exact h0
        · rw [List.getElem?_eq_none (by simp; omega)] at hy
          cases hy
      rw [h0] at hy
      have : x = y := by simpa using hy
      subst this
      have : i = n := by omega
      subst this
      exact hx

theorem VRow_flatMap {s : Sit} {α : Type} {c : α → List V} {k size : Nat} (hc : ∀ x, (c x).length = size) : ∀ (xs : List α) (o : Nat), (∀ i x, xs[i]? = some x → VRow s (c x) k (o + i * size)) → VRow s (xs.flatMap c) k o
  | [], o, _ => by rw [List.flatMap_nil]; unfold VRow; trivial
  | x :: xs, o, h => by
    rw [List.flatMap_cons]
    have h0 := h 0 x rfl
    rw [Nat.zero_mul, Nat.add_zero] at h0
    have h1 := VRow_flatMap hc xs (o + size) (fun i y hy => by
      have := h (i + 1) y (by simpa using hy)
      rw [Nat.add_mul, Nat.one_mul] at this
      rwa [show o + size + i * size = o + (i * size + size) by omega])
    have app : ∀ (a b : List V) (o : Nat), VRow s a k o → VRow s b k (o + a.length) → VRow s (a ++ b) k o := by
      intro a
      induction a with
      | nil => intro b o _ hb; simpa using hb
      | cons v a ih =>
        intro b o ha hb
        rw [List.cons_append]
        unfold VRow at ha ⊢
        refine ⟨ha.1, ha.2.1, ih b (o + 1) ha.2.2 ?_⟩
        rwa [show o + 1 + a.length = o + (v :: a).length by simp; omega]
    exact app _ _ o h0 (by rw [hc]; exact h1)

theorem opensV_slice {P : Program} {t e : TypeId} {α : Type} {c : α → List V} {ok : α → Prop} {B size : Nat} (ht : P.underlying t = some (.slice e)) (hd : OpensV P e c ok) (hcs : ∀ x, (c x).length = size) (hc : P.cellsOf e = size) (hB : P.bytesOf e = B) :
    OpensV P t (fun xs : List α => [.ts (xs.flatMap c) xs.length]) (fun xs => (∀ x ∈ xs, ok x) ∧ xs.length * B ≤ 140737488351232 ∧ xs.length ≤ maxLen) :=
  ⟨fun {H enc W base spare held fuel cs y} h hw => by
    rcases Go.Deep.open_slice ht h with ⟨rfl, rfl⟩ | ⟨a, len, cap, m, n, D, Pl, rfl, _, hl, hm, hmm, rfl, hx⟩
    · exact ⟨[], VRs_one (by unfold VR; exact ⟨none, 0, rfl, Nat.le_refl _, .inl rfl⟩), fun x hx => by simp at hx, by simp, Nat.zero_le _⟩
    · have hlm : len ≤ m := by rw [hmm]; split <;> omega
      simp only [DataW.weights, ht, List.length_map, List.length_range] at hw
      obtain ⟨xs, hxl, hxs⟩ := choose_list (p := fun i x => ∃ cc : List Value, cc.length = size ∧ VRs (start W) (c x) cc ∧ ok x ∧ ∀ (j : Nat) (u : Value), cc[j]? = some u → W.cell? (a.add (i * size + j)) = some u) len (fun i hi => by
        obtain ⟨cs', hcs', htr⟩ := hx i (by omega)
        obtain ⟨x, hK, hok⟩ := hd.out htr (fun k hk => hw k (List.mem_cons_of_mem _ (List.mem_append_left _ (weights_of_all (d := D i) (List.mem_map.2 ⟨i, List.mem_range.2 hi, rfl⟩) k hk))))
        obtain ⟨_, hcl, hat⟩ := World.cells?_some hcs'
        refine ⟨x, cs', by rw [← VRs_length hK, hcs], hK, hok, fun j u hu => ?_⟩
        have hj : j < P.cellsOf e := by rw [← hcl]; exact (List.getElem?_eq_some_iff.1 hu).1
        have := hat j hj
        rw [hc, Go.Deep.add_add] at this
        rw [this, hu])
      have hlen : len ≤ 9223372036854775807 := by
        unfold maxLen at hm
        omega
      refine ⟨xs, VRs_one ?_, fun x hx' => ?_, ?_, by omega⟩
      · unfold VR
        refine ⟨some a, cap, by rw [hxl], by omega, ?_⟩
        by_cases hne : xs.flatMap c = []
        · exact .inl hne
        · obtain ⟨x0, hx0⟩ : ∃ x0, xs[0]? = some x0 := by
            cases xs with
            | nil => exact absurd rfl hne
            | cons x0 r => exact ⟨x0, rfl⟩
          have hspot : a.spot = none ∧ a.block < W.heap.size := by
            obtain ⟨cc, k1, k2, k3, k4⟩ := hxs 0 x0 hx0
            have hne2 : cc ≠ [] := by
              rintro rfl
              have : size = 0 := by simpa using k1.symm
              apply hne
              rw [List.flatMap_eq_nil_iff]
              intro x _
              exact List.eq_nil_of_length_eq_zero (by rw [hcs, this])
            cases cc with
            | nil => exact absurd rfl hne2
            | cons u r =>
              have := k4 0 u rfl
              rw [Nat.zero_mul, Nat.zero_add] at this
              have ha0 : a.add 0 = a := by simp [Addr.add]
              rw [ha0] at this
              refine ⟨?_, World.block_lt_of_cell? W a this⟩
              unfold World.cell? at this
              split at this
              · split at this
                · cases this
                · rename_i hs; simpa using hs
              · cases this
          obtain ⟨hs1, hs2⟩ := hspot
          obtain ⟨ab, ao, asp⟩ := a
          simp only at hs1 hs2
          subst hs1
          refine .inr ⟨ab, ao, rfl, VRow_flatMap hcs xs ao fun i x hx => VRow_of fun j v hv => ⟨hs2, ?_⟩⟩
          obtain ⟨cc, k1, k2, k3, k4⟩ := hxs i x hx
          obtain ⟨u, hu, hr⟩ := VRs_get k2 hv
          refine ⟨u, ?_, hr⟩
          have := k4 j u hu
          rw [Addr.add_lit] at this
          rw [Nat.add_assoc]
          exact this
      · obtain ⟨i, hi⟩ := List.mem_iff_getElem?.1 hx'
        obtain ⟨_, _, _, h3, _⟩ := hxs i x hi
        exact h3
      · have := hw _ List.mem_cons_self
        rw [hB] at this
        rw [hxl]
        exact Nat.le_trans (Nat.mul_le_mul_right _ (by omega)) this⟩

/-- The fields of a struct from one on, whose first cell is at off. -/
structure OpensVF {α : Type} (P : Program) (fs : List Field) (off sz : Nat) (c : α → List V) (ok : α → Prop) : Prop where
  out : ∀ {H : Type} {enc : TypeId × Value → H} {W : World} {base : Nat} {spare : Nat → Bool} {held : Bool} {n : Nat} {cs : List Value} {xs : List (DataW H × List MemPlace)},
    xs.length = fs.length → (∀ (i : Nat) (f : Field), fs[i]? = some f → DataW.trod enc P W base spare held n f.type ((cs.drop f.offset).take (P.cellsOf f.type)) = xs[i]?) →
    (∀ n ∈ DataW.weightsEach P (fs.map (·.type)) (xs.map (·.1)), n ≤ reachBytes) → ∃ x, VRs (start W) (c x) ((cs.drop off).take sz) ∧ ok x

theorem opensVF_one {P : Program} {f : Field} {off sz : Nat} {α : Type} {c : α → List V} {ok : α → Prop} {t : TypeId} (ho : f.offset = off) (hf : f.type = t) (h : OpensV P t c ok) (hc : P.cellsOf t = sz) : OpensVF P [f] off sz c ok :=
  ⟨fun {H enc W base spare held n cs xs} hl hx hw => by
    match xs, hl with
    | [y], _ =>
      have h0 := hx 0 f rfl
      rw [hf] at h0
      obtain ⟨x, hK, hok⟩ := h.out (y := y) (by simpa using h0) (fun n hn => hw n (by simp [DataW.weightsEach, hf]; exact hn))
      rw [ho, hc] at hK
      exact ⟨x, hK, hok⟩⟩

theorem opensVF_cons {P : Program} {f : Field} {fs : List Field} {off off' sz sz' : Nat} {α β : Type} {a : α → List V} {b : β → List V} {oka : α → Prop} {okb : β → Prop} {t : TypeId} (ho : f.offset = off) (hf : f.type = t) (h : OpensV P t a oka) (hc : P.cellsOf t = sz)
    (hr : OpensVF P fs off' sz' b okb) (ho' : off' = off + sz) : OpensVF P (f :: fs) off (sz + sz') (fun x : α × β => a x.1 ++ b x.2) (fun x => oka x.1 ∧ okb x.2) :=
  ⟨fun {H enc W base spare held n cs xs} hl hx hw => by
    match xs, hl with
    | y :: ys, hl =>
      have h0 := hx 0 f rfl
      rw [hf] at h0
      obtain ⟨x, hK, hok⟩ := h.out (y := y) (by simpa using h0) (fun n hn => hw n (by simp only [List.map_cons, DataW.weightsEach, hf]; exact List.mem_append_left _ hn))
      obtain ⟨z, hZ, hokz⟩ := hr.out (cs := cs) (xs := ys) (by simpa using hl) (fun i g hg => hx (i + 1) g hg) (fun n hn => hw n (by simp only [List.map_cons, DataW.weightsEach]; exact List.mem_append_right _ hn))
      rw [ho, hc] at hK
      rw [ho', ← List.drop_drop] at hZ
      refine ⟨(x, z), ?_, hok, hokz⟩
      rw [List.take_add]
      exact VRs_append hK hZ⟩

theorem opensV_struct {P : Program} {t : TypeId} {fs : Array Field} {α : Type} {c : α → List V} {ok : α → Prop} {sz : Nat} (ht : P.underlying t = some (.struct fs)) (h : OpensVF P fs.toList 0 sz c ok) (hc : P.cellsOf t = sz) : OpensV P t c ok :=
  ⟨fun {H enc W base spare held fuel cs y} hy hw => by
    obtain ⟨xs, n, _, rfl, hcl, hl, hx⟩ := DataW.trod_struct ht hy
    simp only [DataW.weights, ht] at hw
    obtain ⟨x, hK, hok⟩ := h.out (cs := cs) (xs := xs) (by simpa using hl) (fun i f hf => hx i f (by simpa using hf)) hw
    rw [List.drop_zero, List.take_of_length_le (by omega)] at hK
    exact ⟨x, hK, hok⟩⟩

/-- The same data under another name. -/
theorem opensV_iso {P : Program} {t : TypeId} {α β : Type} {c : α → List V} {ok : α → Prop} (f : β → α) (g : α → β) (hg : ∀ x, f (g x) = x) (h : OpensV P t c ok) : OpensV P t (fun y => c (f y)) (fun y => ok (f y)) :=
  ⟨fun hy hw => by
    obtain ⟨x, hK, hok⟩ := h.out hy hw
    exact ⟨g x, by show VRs _ (c (f (g x))) _; rw [hg]; exact hK, by show ok (f (g x)); rw [hg]; exact hok⟩⟩

/-- A parameter that is read. -/
theorem opensV_param {P : Program} {t : TypeId} {α : Type} {c : α → List V} {ok : α → Prop} (h : OpensV P t c ok) {H : Type} {enc : TypeId × Value → H} {W : World} {base : Nat} {spare : Nat → Bool} {held : Bool} {v : Value} {y : DataW H} {p : List MemPlace}
    (hd : DataW.Trod enc P W base spare held t v y p) {ts : List TypeId} {ds : List (DataW H)} {j : Nat} (hsz : (DataW.weightsEach P ts ds).all (· ≤ reachBytes) = true) (htj : ts[j]? = some t) (hdj : ds[j]? = some y) :
    ∃ x, VRs (start W) (c x) v.cells.toList ∧ ok x := by
  obtain ⟨fuel, hf⟩ := hd
  exact h.out hf (fun n hn => by
    have := List.all_eq_true.1 hsz n (DataW.weights_mem_each htj hdj n hn)
    simpa using this)

theorem VR_cell {s : Sit} {v : V} {x : Value} (hc : x.cells = #[x]) (h : VRs s [v] x.cells.toList) : VR s v x := by
  rw [hc] at h
  unfold VRs at h
  obtain ⟨y, ys, e, h1, _⟩ := h
  simp only [List.cons.injEq] at e
  rw [e.1]
  exact h1

theorem VR_aggv {s : Sit} {vs : List V} {cs : Array Value} (h : VRs s vs (Value.agg cs).cells.toList) : VR s (.agg vs) (.agg cs) := by
  unfold VR
  exact ⟨cs, rfl, h⟩

/-- What a law's equation tells of its call. -/
theorem calls_of_fn {P : Program} {conv : FuncId → Conv} {ext : Ext} (hm : P.follows .mixedOrders = true) (he : ExtOk P ext) {f : FuncId} {args : List V} {vals : List Value} {W : World} (hv : VRs (start W) args vals) (h : fn P conv ext f args = some (.sc (.bool true))) :
    Calls P f vals.toArray W (fun e w' => e = .returned (.bool true) ∧ Below W.heap.size W w') := by
  unfold fn at h
  split at h
  · rename_i v σ1 n hev
    obtain ⟨p, hp, e⟩ := map_some' h
    obtain ⟨_, _, hsnd⟩ := ev_sound hm he _ _ _ _ _ _ _ hev
    refine (hsnd (start W) vals (start_inv W) (fun _ _ _ => rfl) hv).mono ?_
    rintro e' w' ⟨s', x, rfl, rfl, ho⟩
    refine ⟨?_, ho.nxt.below⟩
    have := strip_sound ho.inv depth v p.1 p.2 x _ hp ho.vr (covers_covered s' σ1 p.2)
    rw [e] at this
    unfold VR at this
    rw [this.1]
  · cases h

end Go.TV
namespace Go.TV
theorem evPure_bind {α β : Type} {P : Program} (m : Sem α) (f : α → Sem β) : evPure P (m >>= f) = (evPure P m).bind fun a => evPure P (f a) := by
  show evPure P (m.bind f) = _
  induction m with
  | pure a => rfl
  | program k ih => exact ih P
  | mark m k ih => exact ih
  | _ => rfl
theorem evPure_pure {α : Type} {P : Program} (a : α) : evPure P (pure a : Sem α) = some a := rfl
theorem evPure_program {P : Program} : evPure P program = some P := rfl
theorem evPure_ite {α : Type} {P : Program} (c : Prop) [Decidable c] (a b : Sem α) : evPure P (if c then a else b) = if c then evPure P a else evPure P b := by split <;> rfl
theorem ep_underlying {P : Program} {t : TypeId} {d : TypeDesc} (h : P.underlying t = some d) : evPure P (underlying t) = some d := by
  unfold underlying
  rw [evPure_bind, evPure_program]
  simp only [Option.bind_some, h]
  rfl
theorem ep_equalIn_int {P : Program} (d : Nat) (t : TypeId) (k k' : IntKind) (a b : Int) (h : P.underlying t = some (.int k')) : evPure P (Op.equalIn (d + 1) t (.int k a) (.int k b)) = some (a == b) := by
  unfold Op.equalIn
  rw [evPure_bind, ep_underlying h]
  simp only [Option.bind_some, if_true]
  rfl
theorem ep_equalIn_struct {P : Program} (d : Nat) (t : TypeId) (xs ys : Array Value) (ht : P.underlying t = some (.struct (P.fieldsOf t))) (hp : P.stoodInHeld t = false) :
    evPure P (Op.equalIn (d + 1) t (.agg xs) (.agg ys)) = evPure P (Op.eqFields d xs ys (P.fieldsOf t).toList) := by
  unfold Op.equalIn
  rw [evPure_bind, ep_underlying ht]
  simp only [Option.bind_some, evPure_bind, evPure_program, hp, Bool.false_eq_true, if_false, evPure_pure]
  rw [← Array.forIn_toList]
  generalize (P.fieldsOf t).toList = fs
  clear ht
  induction fs with
  | nil => rfl
  | cons f fs ih =>
    simp only [List.forIn_cons, Op.eqFields, evPure_bind, evPure_ite]
    split
    · cases evPure P (part f.type xs f.offset) with
      | none => rfl
      | some a =>
        cases evPure P (part f.type ys f.offset) with
        | none => rfl
        | some b =>
          simp only [Option.bind_some]
          cases evPure P (Op.equalIn d f.type a b) with
          | none => rfl
          | some r =>
            cases r
            · rfl
            · exact ih
    · exact ih
theorem ep_fields_cons {P : Program} {d : Nat} {xs ys : Array Value} {f : Field} {fs : List Field} {a b : Value} {r : Bool} (hn : f.name ≠ "_") (ha : evPure P (part f.type xs f.offset) = some a) (hb : evPure P (part f.type ys f.offset) = some b) (hr : evPure P (Op.equalIn d f.type a b) = some r) :
    evPure P (Op.eqFields d xs ys (f :: fs)) = if r = true then evPure P (Op.eqFields d xs ys fs) else some false := by
  conv => lhs; rw [Op.eqFields]
  rw [if_pos hn, evPure_bind, ha]
  simp only [Option.bind_some, evPure_bind, hb, hr, evPure_ite]
  cases r <;> rfl
theorem ev_eql_agg {P : Program} {t : TypeId} {x y : Operand} {cs ds : List V} {us vs : List Value} {r : Bool} {fs : Array Field} (hm : P.eqGuardType P.depth t = false) (hf : P.underlying t = some (.struct fs)) (hp : P.stoodInHeld t = false)
    (hu : toCells cs = some us) (hv : toCells ds = some vs) (h : evPure P (Op.eqFields 9999 us.toArray vs.toArray fs.toList) = some r) : evBin P .eql t x y (.agg cs) (.agg ds) = some (.sc (.bool r)) := by
  have hfo : P.fieldsOf t = fs := by unfold Program.fieldsOf; rw [hf]
  have hg : evPure P (eqGuard .eql t x y (.agg us.toArray) (.agg vs.toArray)) = some () := by
    unfold eqGuard
    rw [if_neg (by simp)]
    simp only [evPure_bind, evPure_program, Option.bind_some, hm, Bool.not_false, if_true]
    rfl
  have he : evPure P (binOp .eql t (.agg us.toArray) (.agg vs.toArray)) = some (Value.bool r) := by
    have h1 : binOp .eql t (.agg us.toArray) (.agg vs.toArray) = (Op.equal t (.agg us.toArray) (.agg vs.toArray) >>= fun b => pure (Value.bool b)) := by simp only [binOp]
    have h2 : evPure P (Op.equal t (.agg us.toArray) (.agg vs.toArray)) = some r := (ep_equalIn_struct 9999 t _ _ (by rw [hfo]; exact hf) hp).trans (by rw [hfo]; exact h)
    rw [h1, evPure_bind, h2]; rfl
  simp only [evBin, toVal, hu, hv, Option.map_some, evPure_bind, hg, he, Option.bind_some]
  rfl
end Go.TV
namespace Go.TV
open Go.RowKit

section
variable {P : Program} {conv : FuncId → Conv} {call : Call}

/-- A slice held against nil. -/
theorem run_nil_test {t e : TypeId} {x y : Operand} {p : Option Addr} {len cap : Nat} (h : P.underlying t = some (.slice e)) (w : World) :
    ((do eqGuard .eql t x y (.slice p len cap) (.slice none 0 0); binOp .eql t (.slice p len cap) (.slice none 0 0)) : Sem Value).run P w = .ok (.bool p.isNone) w := by
  refine run_of_evPure _ ?_ w
  rw [evPure_bind, eqGuard_at_slice]
  simp only [evPure_pure, Option.bind_some]
  have h1 : binOp .eql t (.slice p len cap) (.slice none 0 0) = (Op.equal t (.slice p len cap) (.slice none 0 0) >>= fun b => pure (Value.bool b)) := by simp only [binOp]
  rw [h1, evPure_bind]
  have h2 : evPure P (Op.equal t (.slice p len cap) (.slice none 0 0)) = some p.isNone := by
    show evPure P (Op.equalIn (9999 + 1) t _ _) = _
    unfold Op.equalIn
    rw [evPure_bind, ep_underlying h]
    simp only [Option.bind_some]
    cases p <;> rfl
  rw [h2]; rfl

/-- A function that holds a slice against nil once, where both answers lead to one result. -/
theorem fork_sound (hc : CallOk P call) (hm : P.follows .mixedOrders = true) {f : FuncId} {fn : Func} {A B C D : Code} {id t u : Nat} {o1 : Oper} {ty yt oty e : TypeId} {ps : String} {af : Array Edge} (hf : P.funcs[f]? = some fn)
    (hb : fn.body = some (.seq A (.seq (.seq (.region id #[o1, ⟨some t, .binOp .eql ty (.tmp u) (.const (.slice none 0 0)) yt, oty, ps, af, none⟩] false) (.cond (.tmp t) B C)) D)))
    (hty : P.underlying ty = some (.slice e)) {n : Nat} {args : List V}
    (hok : fnOk fn (.seq A (.seq (.seq (.region id #[o1, ⟨some t, .binOp .eql ty (.tmp u) (.const (.slice none 0 0)) yt, oty, ps, af, none⟩] false) (.cond (.tmp t) B C)) D)) args.length = true)
    {σ σ' : Store} {nx nx' : Nat} {vs : List V} {st1 : St} (hA : evCode P conv call n A ⟨argsT args, σ, nx⟩ = some (.norm, st1)) {T2 : Nat → V}
    (hg : o1.guard = none) {v1 : V} (h1 : evOp P conv call o1 st1.T st1.σ st1.nx = some (v1, st1.σ, st1.nx)) (hT2 : T2 = putT st1.T o1.dst v1) {row : List V} {len : Nat} (hu : T2 u = .ts row len)
    (hboth : ∀ b : Bool, (b = true → row = []) → ∃ ex st3, evCode P conv call n (.seq (.cond (.tmp t) B C) D) ⟨upd T2 t (.sc (.bool b)), st1.σ, st1.nx⟩ = some (ex, st3) ∧ (ex = .norm ∨ ex = .ret) ∧ evResults P st3.T st3.σ fn.results.toList = some vs ∧ st3.σ = σ' ∧ st3.nx = nx') :
    SoundAt P f args σ nx (oneOf vs) σ' nx' := by
  unfold fnOk at hok
  simp only [Bool.and_eq_true, decide_eq_true_eq, Bool.not_eq_true'] at hok
  obtain ⟨⟨hname, hsz⟩, hdst⟩ := hok
  simp only [dstOk, Bool.and_eq_true] at hdst
  obtain ⟨hdA, ⟨hdR, hdB, hdC⟩, hdD⟩ := hdst
  have hmA := evCode_mono hc n A _ _ _ hA
  obtain ⟨ex0, st30, hx0, _, _, _, hn0⟩ := hboth false (fun h => by cases h)
  have hm0 : st1.nx ≤ nx' := by have := evCode_mono hc n _ _ _ _ hx0; simp only at this; omega
  have hdd : ∀ o ∈ [o1, (⟨some t, .binOp .eql ty (.tmp u) (.const (.slice none 0 0)) yt, oty, ps, af, none⟩ : Oper)], ∀ d, o.dst = some d → d < fn.ntmps := fun o ho d hod => by
    have := Array.all_eq_true'.1 hdR o (by simpa using ho)
    rw [hod] at this
    simpa using this
  refine ⟨by simp only at hmA; omega, ⟨fn, hf, by rw [hb]; rfl, hname⟩, fun s vals hi hfr hargs => ?_⟩
  have hl := VRs_length hargs
  refine calls_of_wp hf hb ?_
  refine wp_seq (code_sound hc hm (nt := fn.ntmps) (nxE := nx') (s0 := s) (σ0 := σ) (nx0 := nx) n A ⟨argsT args, σ, nx⟩ st1 .norm _ hA hdA (by omega) (fun s1 a1 hs1 => ?_) s _
    ⟨hi, args_tr hargs _, by simp; omega, rfl, .refl s σ, .refl s nx nx, hfr, Nat.le_refl _⟩)
  refine wp_seq (wp_seq (wp_region ?_))
  show wpOps P _ _ [0, 1] a1 s1.w
  have hw : ∀ (o : Oper) (tm : Array Value), o.guard = none → Region.wanted o (yielded #[o1, (⟨some t, .binOp .eql ty (.tmp u) (.const (.slice none 0 0)) yt, oty, ps, af, none⟩ : Oper)] tm) = true := fun o tm h => by unfold Region.wanted; rw [h]
  rw [wpOps_cons]
  unfold wpOp
  rw [show (#[o1, (⟨some t, .binOp .eql ty (.tmp u) (.const (.slice none 0 0)) yt, oty, ps, af, none⟩ : Oper)])[0]? = some o1 from rfl]
  simp only [hw o1 _ hg, if_true]
  refine .inl (op_sound hc h1 hs1.inv hs1.tr (fun i h1 h2 => absurd h2 (by omega)) fun s2 x2 ho2 => ?_)
  have hs2 := hs1.step ho2 (Nat.le_refl _) (hdd o1 (by simp))
  rw [← hT2] at hs2
  generalize a1.put o1.dst x2 = a2 at hs2 ⊢
  rw [wpOps_cons]
  unfold wpOp
  rw [show (#[o1, (⟨some t, .binOp .eql ty (.tmp u) (.const (.slice none 0 0)) yt, oty, ps, af, none⟩ : Oper)])[1]? = some ⟨some t, .binOp .eql ty (.tmp u) (.const (.slice none 0 0)) yt, oty, ps, af, none⟩ from rfl]
  simp only [hw ⟨some t, .binOp .eql ty (.tmp u) (.const (.slice none 0 0)) yt, oty, ps, af, none⟩ _ rfl, if_true]
  have hx := hs2.tr u
  rw [hu] at hx
  unfold VR at hx
  obtain ⟨p, cap, hxe, _, hrow⟩ := hx
  refine .inl (wp_value (w' := s2.w) (x := .bool p.isNone) ?_ ?_)
  · have he : execOp a2.eval ⟨some t, .binOp .eql ty (.tmp u) (.const (.slice none 0 0)) yt, oty, ps, af, none⟩ = (do pure (.value (← (do eqGuard .eql ty (.tmp u) (.const (.slice none 0 0)) (a2.tmps.getD u undef) (.slice none 0 0); binOp .eql ty (a2.tmps.getD u undef) (.slice none 0 0)))) : Sem Next) := rfl
    rw [he, hxe]
    simp only [Sem.run_bind, Sem.run_pure]
    have := run_nil_test (P := P) (x := .tmp u) (y := .const (.slice none 0 0)) (p := p) (len := len) (cap := cap) hty s2.w
    simp only [Sem.run_bind] at this
    rw [this]; rfl
  · obtain ⟨ex, st3, hx3, hex, hres, hσ3, hn3⟩ := hboth p.isNone (fun hp => by
      rcases hrow with h | ⟨k, o, h, _⟩
      · exact h
      · rw [h] at hp; cases hp)
    have hs3 : Sim fn.ntmps nx' s σ nx (upd T2 t (.sc (.bool p.isNone))) st1.σ st1.nx s2 (a2.put (some t) (.bool p.isNone)) :=
      hs2.step (Out.same hs2.inv (by unfold VR; exact ⟨rfl, rfl⟩)) (Nat.le_refl _) (hdd ⟨some t, .binOp .eql ty (.tmp u) (.const (.slice none 0 0)) yt, oty, ps, af, none⟩ (by simp))
    simp only [wpOps]
    show Code.wp P (Code.cond (.tmp t) B C) _ _ _
    have fin : ∀ s3 a3, Sim fn.ntmps nx' s σ nx st3.T st3.σ st3.nx s3 a3 → bodyPost P fn (fun e w' => ∃ s' x, s'.w = w' ∧ e = .returned x ∧ Out s σ nx s' (oneOf vs) x σ' nx') (toExit ex) a3 s3.w := fun s3 a3 hs3 => by
      obtain ⟨xs, g1, g2⟩ := results_sound hs3.inv hs3.tr fn.results.toList vs hres
      have hrun : (results fn a3.tmps).run P s3.w = .ok (if h : xs.toArray.size = 1 then xs.toArray[0] else .tuple xs.toArray) s3.w := by
        rw [results_eq]
        have e1 : fn.results = fn.results.toList.toArray := by simp
        rw [e1, List.mapM_toArray]
        simp only [Sem.run_bind, Sem.run_map, g1, Result.andThen_ok, Sem.run_pure]
      have hpost : bodyPost P fn (fun e w' => ∃ s' x, s'.w = w' ∧ e = .returned x ∧ Out s σ nx s' (oneOf vs) x σ' nx') .normal a3 s3.w := by
        subst hσ3 hn3
        exact ⟨hs3.defers, _, hrun, s3, _, rfl, rfl, ⟨VR_oneOf g2, hs3.inv, hs3.nxt, hs3.dom⟩⟩
      rcases hex with rfl | rfl
      · exact hpost
      · exact hpost
    simp only [evCode] at hx3
    have hdK : dstOk fn.ntmps (Code.cond (.tmp t) B C) = true := by simp only [dstOk, Bool.and_eq_true]; exact ⟨hdB, hdC⟩
    have hcond : ∀ st e st', (match val (St.T st) (.tmp t) with | .sc (.bool true) => evCode P conv call n B st | .sc (.bool false) => evCode P conv call n C st | _ => none) = some (e, st') → evCode P conv call n (.cond (.tmp t) B C) st = some (e, st') := fun _ _ _ h => h
    split at hx3
    · rename_i s1' h1'
      have hmm := evCode_mono hc n D _ _ _ hx3
      refine code_sound hc hm (nxE := nx') n (.cond (.tmp t) B C) ⟨upd T2 t (.sc (.bool p.isNone)), st1.σ, st1.nx⟩ s1' .norm _ (hcond _ _ _ h1') hdK (Nat.le_trans hmm (Nat.le_of_eq hn3)) (fun s3 a3 hs4 => ?_) s2 _ hs3
      exact code_sound hc hm (nxE := nx') n D s1' st3 ex _ hx3 hdD (Nat.le_of_eq hn3) fin s3 a3 hs4
    · rename_i r hne
      refine code_sound hc hm (nxE := nx') n (.cond (.tmp t) B C) ⟨upd T2 t (.sc (.bool p.isNone)), st1.σ, st1.nx⟩ st3 ex _ (hcond _ _ _ hx3) hdK (Nat.le_of_eq hn3) (fun s3 a3 hs4 => ?_) s2 _ hs3
      cases ex with
      | norm => exact absurd hx3 (hne st3)
      | exit id => rcases hex with h | h <;> cases h
      | ret => exact fin s3 a3 hs4
end
end Go.TV
namespace Go.TV

/-! ### The data of the laws -/
structure Item where
  name : ByteArray
  limit : Int
  expires : Int
structure Joint where
  name : ByteArray
  x : Int
  y : Int
  fixed : Bool
structure Member where
  a : Int
  b : Int
  kind : Int
structure Structure where
  joints : List Joint
  members : List Member
structure Stance where
  name : ByteArray
  st : Structure
  load : List Int
  limits : List Int
structure Move where
  fr : Int
  to : Int
structure Yard where
  stances : List Stance
  moves : List Move
  strict : Bool
structure Beam where
  left : Int
  right : Int
  low : Int
  high : Int
  weight : Int
structure BigInt where
  neg : Bool
  mag : List Int
structure Ratio where
  num : BigInt
  den : List Int
structure Console where
  st : Structure
  load : List Int
  limits : List Int
  items : List Item

abbrev cI (n : Int) : List V := [I n]
abbrev cItem (i : Item) : List V := [Sg i.name, I i.limit, I i.expires]
abbrev cJoint (j : Joint) : List V := [Sg j.name, I j.x, I j.y, Bo j.fixed]
abbrev cMember (m : Member) : List V := [I m.a, I m.b, I m.kind]
abbrev LL {α : Type} (c : α → List V) (xs : List α) : V := .ts (xs.flatMap c) xs.length
abbrev LI (xs : List Int) : V := .ts (xs.flatMap cI) xs.length
abbrev cStructure (s : Structure) : List V := [LL cJoint s.joints, LL cMember s.members]
abbrev cStance (t : Stance) : List V := [Sg t.name, LL cJoint t.st.joints, LL cMember t.st.members, LI t.load, LI t.limits]
abbrev cMove (m : Move) : List V := [I m.fr, I m.to]
abbrev cYard (y : Yard) : List V := [LL cStance y.stances, LL cMove y.moves, Bo y.strict]
abbrev cBeam (b : Beam) : List V := [I b.left, I b.right, I b.low, I b.high, I b.weight]
abbrev cBigInt (x : BigInt) : List V := [Bo x.neg, LI x.mag]
abbrev cRatio (r : Ratio) : List V := [Bo r.num.neg, LI r.num.mag, LI r.den]
abbrev cConsole (c : Console) : List V := [LL cJoint c.st.joints, LL cMember c.st.members, LI c.load, LI c.limits, LL cItem c.items]

def okI (n : Int) : Prop := (Lit.int .i64 n).wf = true
def okS (s : ByteArray) : Prop := s.size ≤ 140737488351232
def okL {α : Type} (B : Nat) (ok : α → Prop) (xs : List α) : Prop := (∀ x ∈ xs, ok x) ∧ xs.length * B ≤ 140737488351232 ∧ xs.length ≤ maxLen
def okItem (i : Item) : Prop := okS i.name ∧ okI i.limit ∧ okI i.expires
def okJoint (j : Joint) : Prop := okS j.name ∧ okI j.x ∧ okI j.y ∧ True
def okMember (m : Member) : Prop := okI m.a ∧ okI m.b ∧ okI m.kind
def okStructure (s : Structure) : Prop := okL 40 okJoint s.joints ∧ okL 24 okMember s.members
def okStance (t : Stance) : Prop := okS t.name ∧ okStructure t.st ∧ okL 8 okI t.load ∧ okL 8 okI t.limits
def okMove (m : Move) : Prop := okI m.fr ∧ okI m.to
def okYard (y : Yard) : Prop := okL 112 okStance y.stances ∧ okL 16 okMove y.moves ∧ True
def okBeam (b : Beam) : Prop := okI b.left ∧ okI b.right ∧ okI b.low ∧ okI b.high ∧ okI b.weight
def okBigInt (x : BigInt) : Prop := True ∧ okL 8 okI x.mag
def okRatio (r : Ratio) : Prop := okBigInt r.num ∧ okL 8 okI r.den
def okConsole (c : Console) : Prop := okStructure c.st ∧ okL 8 okI c.load ∧ okL 8 okI c.limits ∧ okL 32 okItem c.items

theorem okI_iff {n : Int} : okI n ↔ -9223372036854775808 ≤ n ∧ n ≤ 9223372036854775807 := by
  unfold okI
  simp only [Lit.wf, Bool.and_eq_true, decide_eq_true_eq]
  have h1 : IntKind.i64.min = -9223372036854775808 := by decide
  have h2 : IntKind.i64.max = 9223372036854775807 := by decide
  rw [h1, h2]

end Go.TV
namespace Go.TV
theorem fn_eq {P : Program} {conv : FuncId → Conv} {ext : Ext} (f : FuncId) (ts : List V) : fn P conv ext f ts = (ev P conv ext f ts noStore 0).bind fun q => (strip q.2.1 depth q.1).map (·.1) := by
  unfold fn
  cases ev P conv ext f ts noStore 0 with
  | none => rfl
  | some q => rfl
theorem strip_tup0 (σ : Store) : strip σ depth (.tup []) = some (.tup [], []) := rfl
section
variable (v : Value) (row : List V) (a b c : Nat) (f : FuncId) (vs : List V)
theorem isCell_sc : isCell (.sc v) = true := id rfl
theorem isCell_nil : isCell .nil = true := id rfl
theorem isCell_tp : isCell (.tp row a) = true := id rfl
theorem isCell_ts : isCell (.ts row a) = true := id rfl
theorem isCell_rp : isCell (.rp a b) = true := id rfl
theorem isCell_rs : isCell (.rs a b c) = true := id rfl
theorem isCell_clo : isCell (.clo f vs) = true := id rfl
theorem cells_agg : cellsOfV (.agg vs) = some vs := id rfl
theorem cells_sc : cellsOfV (.sc v) = some [.sc v] := id rfl
theorem cells_nil : cellsOfV .nil = some [.nil] := id rfl
theorem cells_tp : cellsOfV (.tp row a) = some [.tp row a] := id rfl
theorem cells_ts : cellsOfV (.ts row a) = some [.ts row a] := id rfl
theorem cells_rp : cellsOfV (.rp a b) = some [.rp a b] := id rfl
theorem cells_rs : cellsOfV (.rs a b c) = some [.rs a b c] := id rfl
theorem cells_clo : cellsOfV (.clo f vs) = some [.clo f vs] := id rfl
theorem fill_nil (pl : Nat → Option (Nat × Nat)) (cells : List V) : evFill pl cells [] = some cells := rfl
theorem fill_cons (pl : Nat → Option (Nat × Nat)) (cells : List V) (i : Nat) (v : V) (rest : List (Nat × V)) : evFill pl cells ((i, v) :: rest) = (pl i).bind fun p => (cellsOfV v).bind fun vs => if vs.length = p.2 ∧ p.1 + vs.length ≤ cells.length then evFill pl (patch cells p.1 vs) rest else none := by
  show (match pl i, cellsOfV v with | some (off, size), some vs => _ | _, _ => none) = _
  cases pl i <;> cases cellsOfV v <;> rfl
theorem patch_one (cells : List V) (off : Nat) (v : V) : patch cells off [v] = cells.set off v := rfl
theorem patch_nil (u : V) (cells : List V) (off : Nat) : patch (u :: cells) off [] = (u :: cells).take off ++ [] ++ (u :: cells).drop (off + 0) := rfl
theorem patch_two (u : V) (cells : List V) (off : Nat) (v w : V) (vs : List V) : patch (u :: cells) off (v :: w :: vs) = (u :: cells).take off ++ (v :: w :: vs) ++ (u :: cells).drop (off + (v :: w :: vs).length) := rfl
end
attribute [go_sem] isCell_sc isCell_nil isCell_tp isCell_ts isCell_rp isCell_rs isCell_clo cells_agg cells_sc cells_nil cells_tp cells_ts cells_rp cells_rs cells_clo fill_nil fill_cons patch_one patch_nil patch_two
attribute [go_sem] depth List.append_nil List.flatMap_cons List.flatMap_nil evBox List.set_cons_zero List.set_cons_succ List.length_cons List.length_nil List.length_set Nat.reduceAdd Nat.reduceLT Nat.reduceLeDiff List.all_cons List.all_nil Nat.zero_add Nat.add_zero List.drop_zero List.drop_succ_cons List.take_succ_cons List.take_zero Nat.reduceMul Nat.zero_mul Nat.one_mul Nat.mul_one ofCell
end Go.TV
namespace Go.TV

/-! ### Lists in rows -/
section
variable {α : Type} {c : α → List V} {s : Nat}
theorem slots_len (hc : ∀ x, (c x).length = s) (xs : List α) : (xs.flatMap c).length = xs.length * s := by
  induction xs with
  | nil => simp
  | cons x xs ih => rw [List.flatMap_cons, List.length_append, ih, hc, List.length_cons, Nat.succ_mul, Nat.add_comm]
theorem slot_drop (hc : ∀ x, (c x).length = s) (xs : List α) (k : Nat) : (xs.flatMap c).drop (k * s) = (xs.drop k).flatMap c := by
  induction xs generalizing k with
  | nil => simp
  | cons x xs ih =>
    cases k with
    | zero => simp
    | succ k =>
      rw [List.flatMap_cons, Nat.succ_mul, Nat.add_comm, ← List.drop_drop]
      rw [show s = (c x).length from (hc x).symm, List.drop_left, hc x, ih, List.drop_succ_cons]
theorem slot (hc : ∀ x, (c x).length = s) (xs : List α) (k : Nat) (h : k < xs.length) : ((xs.flatMap c).drop (k * s)).take s = c xs[k] := by
  rw [slot_drop hc, List.drop_eq_getElem_cons h, List.flatMap_cons, show s = (c xs[k]).length from (hc _).symm, List.take_left]
theorem slot1 (c : α → V) (xs : List α) (k : Nat) (h : k < xs.length) : (xs.flatMap fun x => [c x])[k]? = some (c xs[k]) := by
  induction xs generalizing k with
  | nil => cases h
  | cons x xs ih =>
    cases k with
    | zero => rfl
    | succ k => exact ih k (by simpa using h)
theorem slot_ne (hc : ∀ x, (c x).length = s) (hs : 0 < s) (xs : List α) (k : Nat) (h : k < xs.length) : xs.flatMap c ≠ [] := by
  intro e
  have := slots_len hc xs
  rw [e] at this
  have h2 : 0 < xs.length * s := Nat.mul_pos (by omega) hs
  simp at this
  omega

/-- The first `k` of `n` places written. -/
def mix (c : α → List V) (z : List V) (xs : List α) (n k : Nat) : List V := (xs.take k).flatMap c ++ rep (n - k) z
theorem rep_len (n : Nat) (z : List V) : (rep n z).length = n * z.length := by simp [rep]
theorem mix_zero (c : α → List V) (z : List V) (xs : List α) (n : Nat) : rep n z = mix c z xs n 0 := by simp [mix]
theorem mix_full (c : α → List V) (z : List V) (xs : List α) : mix c z xs xs.length xs.length = xs.flatMap c := by simp [mix, rep]
theorem mix_len (hc : ∀ x, (c x).length = s) {z : List V} (hz : z.length = s) (xs : List α) (k : Nat) (h : k ≤ xs.length) : (mix c z xs xs.length k).length = xs.length * s := by
  unfold mix
  rw [List.length_append, slots_len hc, rep_len, hz, List.length_take, Nat.min_eq_left h, ← Nat.add_mul]
  congr 1; omega
theorem rep_succ (n : Nat) (z : List V) : rep (n + 1) z = z ++ rep n z := by simp [rep, List.replicate_succ]
theorem mix_cells (hc : ∀ x, (c x).length = s) {z : List V} (hz : z.length = s) (xs : List α) (k : Nat) (h : k < xs.length) :
    (mix c z xs xs.length k).take (k * s) ++ c xs[k] ++ (mix c z xs xs.length k).drop (k * s + s) = mix c z xs xs.length (k + 1) := by
  have e1 : ((xs.take k).flatMap c).length = k * s := by rw [slots_len hc, List.length_take, Nat.min_eq_left (by omega)]
  have e2 : xs.length - k = (xs.length - (k + 1)) + 1 := by omega
  unfold mix
  rw [List.take_left' e1, ← List.drop_drop, List.drop_left' e1, e2, rep_succ, List.drop_left' hz, List.take_add_one, List.getElem?_eq_getElem h]
  simp only [List.flatMap_append, Option.toList_some, List.flatMap_cons, List.flatMap_nil, List.append_nil, List.append_assoc]
theorem mix_patch (hc : ∀ x, (c x).length = s) {z : List V} (hz : z.length = s) (xs : List α) (k : Nat) (h : k < xs.length) :
    patch (mix c z xs xs.length k) (k * s) (c xs[k]) = mix c z xs xs.length (k + 1) := by
  have h1 := mix_cells hc hz xs k h
  have h2 : ∀ (cells : List V) (off : Nat) (vs : List V), vs.length = s → (s = 1 → off < cells.length) → patch cells off vs = cells.take off ++ vs ++ cells.drop (off + s) := by
    intro cells off vs hv hs
    unfold patch
    split
    · rename_i v
      have : s = 1 := by simpa using hv.symm
      subst this
      rw [List.set_eq_take_append_cons_drop, if_pos (hs rfl)]
      simp
    · rw [hv]
  rw [h2 _ _ _ (hc _) (fun e => ?_), h1]
  rw [mix_len hc hz xs k (by omega), e]; omega
theorem mix_set {c : α → V} {z : V} (xs : List α) (k : Nat) (h : k < xs.length) :
    (mix (fun x => [c x]) [z] xs xs.length k).set k (c xs[k]) = mix (fun x => [c x]) [z] xs xs.length (k + 1) := by
  have := mix_patch (c := fun x => [c x]) (s := 1) (fun _ => rfl) (z := [z]) rfl xs k h
  rwa [Nat.mul_one] at this
theorem stripL_app (f : V → Option (V × List Nat)) (a b : List V) (ha : stripL f a = some (a, [])) (hb : stripL f b = some (b, [])) : stripL f (a ++ b) = some (a ++ b, []) := by
  induction a with
  | nil => exact hb
  | cons v a ih =>
    rw [stripL_cons] at ha
    rw [List.cons_append, stripL_cons]
    cases hf : f v with
    | none => rw [hf] at ha; cases ha
    | some p =>
      rw [hf] at ha
      cases hg : stripL f a with
      | none => rw [hg] at ha; cases ha
      | some q =>
        rw [hg] at ha
        simp only [Option.bind_some, Option.map_some, Option.some.injEq, Prod.mk.injEq, List.cons.injEq, List.append_eq_nil_iff] at ha
        obtain ⟨⟨e1, e2⟩, e3, e4⟩ := ha
        obtain ⟨p1, p2⟩ := p
        obtain ⟨q1, q2⟩ := q
        simp only at e1 e2 e3 e4
        subst e1 e2 e3 e4
        rw [ih hg]
        simp
theorem stripL_slots {f : V → Option (V × List Nat)} (h : ∀ x, stripL f (c x) = some (c x, [])) (xs : List α) : stripL f (xs.flatMap c) = some (xs.flatMap c, []) := by
  induction xs with
  | nil => rfl
  | cons x xs ih => rw [List.flatMap_cons]; exact stripL_app f _ _ (h x) ih
end

/-! ### Comparisons of strings and bools -/
section
variable {P : Program} {t : TypeId} {x y : Operand}
theorem ev_eqls {a b : ByteArray} : evBin P .eql t x y (.sc (.string a)) (.sc (.string b)) = some (.sc (.bool (a.toList == b.toList))) := by
  simp only [evBin, toVal, eqGuard_at_string, binOp_string_eql]; rfl
theorem ev_neqs {a b : ByteArray} : evBin P .neq t x y (.sc (.string a)) (.sc (.string b)) = some (.sc (.bool !(a.toList == b.toList))) := by
  simp only [evBin, toVal, eqGuard_at_string, binOp_string_neq]; rfl
theorem evPure_equal {a b : Bool} (h : P.underlying t = some .bool) (f : Bool → Value) : evPure P ((Op.equal t (.bool a) (.bool b)).bind fun r => pure (f r)) = some (f (a == b)) := by
  show evPure P ((Op.equalIn (9999 + 1) t _ _).bind fun r => pure (f r)) = _
  unfold Op.equalIn underlying
  show evPure P (.program fun p => _) = _
  simp only [evPure]
  have pb : ∀ {β γ : Type} (a : β) (f : β → Sem γ), (Sem.pure a).bind f = f a := fun _ _ => rfl
  have pb' : ∀ {β γ : Type} (a : β) (f : β → Sem γ), (pure a : Sem β).bind f = f a := fun _ _ => rfl
  simp only [h, pb, pb']
  rfl
theorem ev_eqlb {a b : Bool} (h : P.underlying t = some .bool) : evBin P .eql t x y (.sc (.bool a)) (.sc (.bool b)) = some (.sc (.bool (a == b))) := by
  simp only [evBin, toVal, eqGuard_at_bool, pure_bind, binOp]; first | (erw [evPure_equal h (fun r => .bool r)]; rfl) | (erw [evPure_equal h (fun r => .bool !r)]; rfl)
theorem ev_neqb {a b : Bool} (h : P.underlying t = some .bool) : evBin P .neq t x y (.sc (.bool a)) (.sc (.bool b)) = some (.sc (.bool !(a == b))) := by
  simp only [evBin, toVal, eqGuard_at_bool, pure_bind, binOp]; first | (erw [evPure_equal h (fun r => .bool r)]; rfl) | (erw [evPure_equal h (fun r => .bool !r)]; rfl)
end
attribute [go_sem] ev_eqls ev_neqs ev_eqlb ev_neqb bne_self_eq_false BEq.rfl

/-- A loop that counts up. -/
theorem count_rule {body : St → Option (Ex × St)} {st0 : St} {x : Option (Ex × St)} (hL : evLoopI body st0 = x) (N : Nat) (J : Nat → St → Prop) (post : Ex × St → Prop)
    (step : ∀ k st, k < N → J k st → (∃ st', body st = some (.norm, st') ∧ J (k + 1) st') ∨ (∃ r, body st = some r ∧ (∀ s, r ≠ (.norm, s)) ∧ post r))
    (last : ∀ st, J N st → ∃ r, body st = some r ∧ (∀ s, r ≠ (.norm, s)) ∧ post r) (h0 : J 0 st0) : ∃ r, x = some r ∧ post r := by
  refine loop_rule hL (fun n st => n ≤ N ∧ J (N - n) st) post ?_ N ⟨Nat.le_refl _, by rwa [Nat.sub_self]⟩
  rintro n st ⟨hn, hJ⟩
  cases n with
  | zero => exact .inr (last st hJ)
  | succ n =>
    rcases step _ st (by omega) hJ with ⟨st', h1, h2⟩ | h
    · exact .inl ⟨st', h1, n, by omega, by omega, by rwa [show N - n = N - (n + 1) + 1 by omega]⟩
    · exact .inr h
theorem upd_upd {α : Type} (σ : Nat → α) (b : Nat) (x y : α) : upd (upd σ b x) b y = upd σ b y := by
  funext i
  unfold upd
  split <;> rfl
theorem beq_ft : (false == true) = false := id rfl
theorem beq_tf : (true == false) = false := id rfl
attribute [go_sem] beq_ft beq_tf Option.map_none upd_upd List.isEmpty_nil Int.cast_ofNat_Int Int.toNat_natCast
theorem evSlice_nil {P : Program} {t : TypeId} {lo hi : Option V} {σ : Store} (h : (tyI P t).slice = true) (he : (tyI P t).eok = true) : evSlice P t .nil lo hi none σ = (bnd lo 0).bind fun l => (bnd hi 0).bind fun h => if l ≤ h ∧ h ≤ 0 then some .nil else none := by
  obtain ⟨e, ei, z, h1, h2, h3, h4, h5, h6, h7⟩ := tyI_slice h he
  unfold evSlice
  simp only [h1, h2]
  cases bnd lo 0 <;> cases bnd hi 0 <;> rfl
theorem row_nil (σ : Store) (s : Nat) : rowOf σ s .nil = some ([], 0) := rfl
theorem row_ts (σ : Store) (s : Nat) (row : List V) (len : Nat) : rowOf σ s (.ts row len) = if row.length = len * s then some (row, len) else none := rfl
theorem row_rs (σ : Store) (s b off len : Nat) : rowOf σ s (.rs b off len) = (σ b).bind fun B => if off + len * s ≤ B.cells.length then some ((B.cells.drop off).take (len * s), len) else none := by
  show (match σ b with | some B => _ | none => none) = _
  cases σ b <;> rfl
theorem app_nil (σ : Store) (nx size bytes : Nat) (row : List V) (m : Nat) : appendTo σ nx size bytes .nil row m = if m = 0 then some (.nil, σ, nx) else if m ≤ maxLen ∧ m * bytes ≤ 140737488355328 then some (.rs nx 0 m, evBox σ nx row size, nx + 1) else none := rfl
/-- An append to a slice that fills its block. -/
theorem app_full {σ : Store} {nx bytes b len m : Nat} {B : Blk} {row : List V} (hb : σ b = some B) (hl : B.cells.length = len) (hs : B.st = 1) (hm : m ≠ 0) (h1 : len + m ≤ maxLen) (h2 : (len + m) * bytes ≤ 140737488355328) (hr : row.all isCell = true) :
    appendTo σ nx 1 bytes (.rs b 0 len) row m = some (.rs nx 0 (len + m), upd (upd σ b none) nx (some ⟨B.cells ++ row, 1, B.wr⟩), nx + 1) := by
  unfold appendTo
  simp only [hb, hm, if_false, hl, hs, h1, h2, hr]
  rw [if_neg (by omega), if_pos (by simp)]
  simp
theorem billion : ¬(1000000000 : Int) = 0 := by decide
attribute [go_sem] billion
theorem op_buildSlice0 {P : Program} {conv : FuncId → Conv} {call : Call} (d : Option Tmp) (ty : TypeId) (ps : String) (af : Array Edge) (gd : Option (Nat × Bool)) (T : Nat → V) (σ : Store) (nx : Nat) (t : TypeId) (h : (tyI P t).slice = true) (he : (tyI P t).eok = true) : evOp P conv call ⟨d, .buildSlice t 0 #[], ty, ps, af, gd⟩ T σ nx = some (.nil, σ, nx) := by
  rw [op_buildSlice d ty ps af gd T σ nx t 0 #[] (by rfl)]
  have := evBuildSlice_eq (P := P) (t := t) (len := 0) (parts := ([] : List (Nat × V))) (σ := σ) (nx := nx) h he
  simpa using this
theorem op_buildSlice1 {P : Program} {conv : FuncId → Conv} {call : Call} (d : Option Tmp) (ty : TypeId) (ps : String) (af : Array Edge) (gd : Option (Nat × Bool)) (T : Nat → V) (σ : Store) (nx : Nat) (t : TypeId) (x : Operand) (h : (tyI P t).slice = true) (he : (tyI P t).eok = true) (hs : (tyI P t).esz = 1) (hz : (tyI P t).ezero.length = 1) (hc : isCell (val T x) = true) :
    evOp P conv call ⟨d, .buildSlice t 1 #[(0, x)], ty, ps, af, gd⟩ T σ nx = some (.rs nx 0 1, upd σ nx (some ⟨[val T x], 1, true⟩), nx + 1) := by
  rw [op_buildSlice d ty ps af gd T σ nx t 1 _ (by rfl), evBuildSlice_eq h he, if_neg (by decide), hs, if_pos (by decide)]
  have hv : cellsOfV (val T x) = some [val T x] := by generalize val T x = v at *; cases v <;> simp_all [cellsOfV, isCell]
  have hr : (rep 1 (tyI P t).ezero).length = 1 := by rw [rep_len, hz]
  have hset : (rep 1 (tyI P t).ezero).set 0 (val T x) = [val T x] := by
    generalize rep 1 (tyI P t).ezero = l at *
    match l, hr with
    | [a], _ => rfl
  show (match evFill (fun j => some (j * 1, 1)) (rep 1 (tyI P t).ezero) [(0, val T x)] with | some cells => some (V.rs nx 0 1, evBox σ nx cells 1, nx + 1) | none => none) = _
  rw [fill_cons]
  simp only [Option.bind_some, hv, List.length_singleton, hr, Nat.zero_mul, Nat.zero_add, Nat.le_refl, and_self, if_true, patch_one, hset, fill_nil]
  rfl
attribute [go_sem] op_buildSlice0 op_buildSlice1 evSlice_nil row_nil row_ts row_rs app_nil Nat.sub_zero List.isEmpty_cons
/-- A slice of ints that is grown by appending. -/
def Grow (T : Nat → V) (σ : Store) (nx t : Nat) (acc : List Int) : Prop := (T t = .nil ∧ acc = []) ∨ ∃ b, T t = .rs b 0 acc.length ∧ acc ≠ [] ∧ σ b = some ⟨acc.flatMap cI, 1, true⟩ ∧ b < nx
theorem one_le_maxLen : 1 ≤ maxLen := by decide
attribute [go_sem] one_le_maxLen
theorem cI_len (xs : List Int) : (xs.flatMap cI).length = xs.length := by rw [slots_len (c := cI) (s := 1) (fun _ => rfl), Nat.mul_one]
theorem grow_append {T : Nat → V} {σ : Store} {nx t : Nat} {acc : List Int} (hg : Grow T σ nx t acc) (x : Int) (hl : acc.length < 17592186044415) :
    ∃ σ', appendTo (upd σ nx (some ⟨[I x], 1, true⟩)) (nx + 1) 1 8 (T t) [I x] 1 = some (.rs (nx + 1) 0 (acc.length + 1), σ', nx + 1 + 1) ∧ σ' (nx + 1) = some ⟨(acc ++ [x]).flatMap cI, 1, true⟩ := by
  have hm : acc.length + 1 ≤ maxLen := by unfold maxLen; omega
  rcases hg with ⟨h1, rfl⟩ | ⟨b, h1, hne, hb, hbn⟩
  · refine ⟨_, by rw [h1, app_nil, if_neg (by decide), if_pos (by decide)]; rfl, ?_⟩
    simp [evBox, upd]
  · refine ⟨_, by rw [h1, app_full (B := ⟨acc.flatMap cI, 1, true⟩) (by rw [upd_ne _ _ (by omega)]; exact hb) (cI_len acc) rfl (by decide) hm (by omega) rfl], ?_⟩
    simp [upd]
theorem grow_new {T : Nat → V} {σ' : Store} {nx t : Nat} {acc : List Int} (h : σ' (nx + 1) = some ⟨acc.flatMap cI, 1, true⟩) (ht : T t = .rs (nx + 1) 0 acc.length) (hne : acc ≠ []) : Grow T σ' (nx + 1 + 1) t acc := .inr ⟨nx + 1, ht, hne, h, by omega⟩
theorem grow_eq {T T' : Nat → V} {σ : Store} {nx t t' : Nat} {acc : List Int} (h : T' t' = T t) (hg : Grow T σ nx t acc) : Grow T' σ nx t' acc := by
  unfold Grow at *
  rw [h]; exact hg
theorem cI_strip (f : V → Option (V × List Nat)) (h : ∀ n, f (I n) = some (I n, [])) (xs : List Int) : stripL f (xs.flatMap cI) = some (xs.flatMap cI, []) :=
  stripL_slots (fun x => by rw [stripL_cons, h, stripL_nil]; rfl) xs
theorem grow_strip {T : Nat → V} {σ : Store} {nx t : Nat} {acc : List Int} (hg : Grow T σ nx t acc) (d : Nat) : ∃ ids, strip σ (d + 1) (T t) = some (LI acc, ids) := by
  rcases hg with ⟨h1, rfl⟩ | ⟨b, h1, hne, hb, hbn⟩
  · exact ⟨[], by rw [h1, strip_nil]; rfl⟩
  · refine ⟨[b], ?_⟩
    · rw [h1, strip_rs, hb]
      simp only [Option.bind_some, cI_len, Nat.mul_one, Nat.zero_add, Nat.le_refl, if_true, List.drop_zero]
      rw [List.take_of_length_le (by rw [cI_len]; exact Nat.le_refl _), cI_strip _ (fun n => strip_sc _ _ _)]
      rfl
theorem cI_takeall (xs : List Int) : (xs.flatMap cI).take xs.length = xs.flatMap cI := List.take_of_length_le (by rw [cI_len]; exact Nat.le_refl _)
theorem cI_strip' (σ : Store) (d : Nat) (xs : List Int) : stripL (strip σ d) (xs.flatMap cI) = some (xs.flatMap cI, []) := cI_strip _ (fun n => strip_sc _ _ _) xs
theorem cI_cells (xs : List Int) : (xs.flatMap cI).all isCell = true := by
  induction xs with
  | nil => rfl
  | cons x xs ih => rw [List.flatMap_cons]; simp [isCell]
attribute [go_sem] Int.le_refl cI_len cI_takeall cI_strip' cI_cells Nat.le_refl
theorem op_buildSlice3 {P : Program} {conv : FuncId → Conv} {call : Call} (d : Option Tmp) (ty : TypeId) (ps : String) (af : Array Edge) (gd : Option (Nat × Bool)) (T : Nat → V) (σ : Store) (nx : Nat) (t : TypeId) (x y z : Operand) (h : (tyI P t).slice = true) (he : (tyI P t).eok = true) (hs : (tyI P t).esz = 1) (hz : (tyI P t).ezero.length = 1) (hx : isCell (val T x) = true) (hy : isCell (val T y) = true) (hw : isCell (val T z) = true) :
    evOp P conv call ⟨d, .buildSlice t 3 #[(0, x), (1, y), (2, z)], ty, ps, af, gd⟩ T σ nx = some (.rs nx 0 3, upd σ nx (some ⟨[val T x, val T y, val T z], 1, true⟩), nx + 1) := by
  rw [op_buildSlice d ty ps af gd T σ nx t 3 _ (by rfl), evBuildSlice_eq h he, if_neg (by decide), hs, if_pos (by decide)]
  have hv : ∀ v, isCell v = true → cellsOfV v = some [v] := by intro v hv; cases v <;> simp_all [cellsOfV, isCell]
  have hr : (rep 3 (tyI P t).ezero).length = 3 := by rw [rep_len, hz]
  obtain ⟨a, b, c, e⟩ : ∃ a b c, rep 3 (tyI P t).ezero = [a, b, c] := by
    generalize rep 3 (tyI P t).ezero = l at *
    match l, hr with
    | [a, b, c], _ => exact ⟨a, b, c, rfl⟩
  show (match evFill (fun j => some (j * 1, 1)) (rep 3 (tyI P t).ezero) [(0, val T x), (1, val T y), (2, val T z)] with | some cells => some (V.rs nx 0 3, evBox σ nx cells 1, nx + 1) | none => none) = _
  rw [e]
  simp [fill_cons, fill_nil, hv _ hx, hv _ hy, hv _ hw, patch_one, evBox]
attribute [go_sem] op_buildSlice3
theorem res_tmpc {P : Program} (T : Nat → V) (σ : Store) (t : Tmp) (r : ResultVar) (rs : List ResultVar) : evResults P T σ (.tmp t :: r :: rs) = (evResults P T σ (r :: rs)).map fun vs => T t :: vs := by
  rw [evResults]
  cases evResults P T σ (r :: rs) <;> rfl
theorem res_cellc {P : Program} (T : Nat → V) (σ : Store) (a : Tmp) (t : TypeId) (r : ResultVar) (rs : List ResultVar) : evResults P T σ (.cell a t :: r :: rs) = (evLoad P σ t (T a)).bind fun v => (evResults P T σ (r :: rs)).map fun vs => v :: vs := by
  rw [evResults]
  cases evLoad P σ t (T a) <;> cases evResults P T σ (r :: rs) <;> rfl
attribute [go_sem] res_tmpc res_cellc
theorem ev_cvt {P : Program} {s e : TypeId} {k1 k2 k : IntKind} {n : Int} {σ : Store} (hs : P.underlying s = some (.int k1)) (he : P.underlying e = some (.int k2)) : evConvert P s e (.sc (.int k n)) σ = some (.sc (.int k2 (k2.wrap n))) := by
  have h : evPure P (convert s e (.int k n)) = some (.int k2 (k2.wrap n)) := by
    unfold convert
    rw [evPure_bind, ep_underlying hs]
    simp only [Option.bind_some]
    rw [evPure_bind, ep_underlying he]
    rfl
  simp only [evConvert, toVal, h, Option.bind_some]
  rfl
theorem wrap_u64 {n : Int} (h0 : 0 ≤ n) (h1 : n ≤ 18446744073709551615) : IntKind.u64.wrap n = n := by
  unfold IntKind.wrap
  have e1 : IntKind.u64.signed = false := by decide
  have e2 : IntKind.u64.bits = 64 := by decide
  simp only [e1, e2, Bool.false_and]
  rw [if_neg (by simp)]
  omega

/-- The low byte. -/
def b255 (a : Int) : Int := ((BitVec.ofInt 64 a &&& BitVec.ofInt 64 255).toNat : Nat)
theorem b255_range (a : Int) : 0 ≤ b255 a ∧ b255 a ≤ 255 := by
  unfold b255
  rw [BitVec.toNat_and]
  have h : (BitVec.ofInt 64 255).toNat = 255 := by decide
  rw [h]
  have := Nat.and_le_right (n := (BitVec.ofInt 64 a).toNat) (m := 255)
  omega
def xorI (a b : Int) : Int := IntKind.i64.wrap ((BitVec.ofInt 64 a ^^^ BitVec.ofInt 64 b).toNat : Nat)
section
variable {P : Program} {t : TypeId} {x y : Operand}
theorem ev_and255 {a : Int} : evBin P .and t x y (.sc (.int .i64 a)) (.sc (.int .i64 255)) = some (.sc (.int .i64 (b255 a))) := by
  have h : (Op.intBits .and .i64 a 255) = (pure (.int .i64 (b255 a)) : Sem Value) := by
    show (pure (.int .i64 (IntKind.i64.wrap (b255 a))) : Sem Value) = _
    rw [wrap_id (by have := b255_range a; omega) (by have := b255_range a; omega)]
  simp only [evBin, toVal, eqGuard_at_int, binOp_and, h]
  rfl
theorem ev_xor {a b : Int} : evBin P .xor t x y (.sc (.int .i64 a)) (.sc (.int .i64 b)) = some (.sc (.int .i64 (xorI a b))) := by
  simp only [evBin, toVal, eqGuard_at_int, binOp_xor]
  rfl
theorem ev_shr {k yk : IntKind} {a n : Int} (h : ¬n < 0) : evBin P .shr t x y (.sc (.int k a)) (.sc (.int yk n)) = some (.sc (.int k (a.fdiv (2 ^ min n.toNat k.bits)))) := by
  have hs : Op.shift .shr k a yk n = (pure (.int k (a.fdiv (2 ^ min n.toNat k.bits))) : Sem Value) := by
    unfold Op.shift
    rw [if_neg h]
  simp only [evBin, toVal, eqGuard_at_int, binOp_shr, hs]
  rfl
end
def andI (a b : Int) : Int := IntKind.i64.wrap ((BitVec.ofInt 64 a &&& BitVec.ofInt 64 b).toNat : Nat)
theorem ev_and {P : Program} {t : TypeId} {x y : Operand} {a b : Int} : evBin P .and t x y (.sc (.int .i64 a)) (.sc (.int .i64 b)) = some (.sc (.int .i64 (andI a b))) := by
  simp only [evBin, toVal, eqGuard_at_int, binOp_and]
  rfl
attribute [go_sem] ev_and255 ev_xor ev_shr
attribute [go_sem low] ev_and
def isSc : V → Bool
  | .sc _ => true
  | _ => false
theorem isSc_sc (v : Value) : isSc (.sc v) = true := id rfl
theorem opD_convert {P : Program} {conv : FuncId → Conv} {call : Call} (d : Option Tmp) (ty : TypeId) (ps : String) (af : Array Edge) (gd : Option (Nat × Bool)) (T : Nat → V) (σ : Store) (nx : Nat) (s e : TypeId) (x : Operand) (hx : isSc (val T x) = true) :
    evOpD P conv call ⟨d, .convert s e x, ty, ps, af, gd⟩ T σ nx = (evConvert P s e (val T x) noStore).map (·, σ, nx) := by
  obtain ⟨u, hu⟩ : ∃ u, val T x = .sc u := by
    cases hv : val T x <;> rw [hv] at hx <;> first | exact ⟨_, rfl⟩ | cases hx
  refine opD_map T σ nx (by show some (refsC (val T x)) = some []; rw [hu]; rfl) fun σ => ?_
  show (evConvert P s e (val T x) σ).map _ = _
  rw [hu]
  rfl
attribute [go_sem] isSc_sc opD_convert
theorem step_of {b : Option (Ex × St)} {J : St → Prop} {post : Ex × St → Prop} (h : ∃ x, b = some x ∧ ((∃ st', x = (.norm, st') ∧ J st') ∨ ((∀ s, x ≠ (.norm, s)) ∧ post x))) : (∃ st', b = some (.norm, st') ∧ J st') ∨ (∃ r, b = some r ∧ (∀ s, r ≠ (.norm, s)) ∧ post r) := by
  obtain ⟨x, rfl, ⟨st', rfl, h⟩ | ⟨h1, h2⟩⟩ := h
  · exact .inl ⟨st', rfl, h⟩
  · exact .inr ⟨x, rfl, h1, h2⟩
/-! ### A call that writes the caller's blocks, in a region that draws -/
theorem opD_inl {P : Program} {conv : FuncId → Conv} {call : Call} {d : Option Tmp} {ty : TypeId} {ps : String} {af : Array Edge} {gd : Option (Nat × Bool)} {T : Nat → V} {σ : Store} {nx : Nat} {g : FuncId} (h : conv g = .inl) (args : Array Operand) (ts : Array TypeId) :
    evOpD P conv call ⟨d, .call ⟨.value (.func g), args, ts⟩, ty, ps, af, gd⟩ T σ nx = if (((args.toList.map (val T)).flatMap refsV).all fun b => decide (b < nx)) = true then
      (call g (args.toList.map (val T)) (restrict σ ((args.toList.map (val T)).flatMap refsV)) nx).map fun r => (r.1, patchS ((args.toList.map (val T)).flatMap refsV) nx r.2.2 σ r.2.1, r.2.2) else none := by
  have hf : footO conv T σ (⟨d, .call ⟨.value (.func g), args, ts⟩, ty, ps, af, gd⟩ : Oper) = some ((args.toList.map (val T)).flatMap refsV) := by
    simp only [footO, val, h, List.flatMap_nil, List.append_nil]
  rw [evOpD_of T σ nx hf (fun v => by simp only [keeps, val, h])]
  split
  · have e := op_call (P := P) (conv := conv) (call := call) d ty ps af gd T (restrict σ ((args.toList.map (val T)).flatMap refsV)) nx (.func g) args ts
    rw [e]
    simp only [val, callV_clo, List.append_nil, call_inl h]
    cases call g (args.toList.map (val T)) (restrict σ ((args.toList.map (val T)).flatMap refsV)) nx <;> rfl
  · rfl
theorem w_inl {conv : FuncId → Conv} {d : Option Tmp} {ty : TypeId} {ps : String} {af : Array Edge} {gd : Option (Nat × Bool)} {g : FuncId} (h : conv g = .inl) (args : Array Operand) (ts : Array TypeId) : writer conv ⟨d, .call ⟨.value (.func g), args, ts⟩, ty, ps, af, gd⟩ = true := by unfold writer; simp only [h]
theorem foot_inl {conv : FuncId → Conv} {d : Option Tmp} {ty : TypeId} {ps : String} {af : Array Edge} {gd : Option (Nat × Bool)} {T : Nat → V} {σ : Store} {g : FuncId} (h : conv g = .inl) (args : Array Operand) (ts : Array TypeId) : footIds conv T σ ⟨d, .call ⟨.value (.func g), args, ts⟩, ty, ps, af, gd⟩ = (args.toList.map (val T)).flatMap refsV := by
  simp only [footIds, footO, val, h, List.flatMap_nil, List.append_nil, Option.getD_some]
theorem refsV_sc (v : Value) : refsV (.sc v) = [] := rfl
theorem refsV_rp (b off : Nat) : refsV (.rp b off) = [b] := rfl
theorem refsV_rs (b off len : Nat) : refsV (.rs b off len) = [b] := rfl
theorem refsV_ts (row : List V) (len : Nat) : refsV (.ts row len) = [] := rfl
theorem refsV_tp (row : List V) (off : Nat) : refsV (.tp row off) = [] := rfl
theorem refsV_nil : refsV .nil = [] := rfl
theorem refsV_agg (vs : List V) : refsV (.agg vs) = vs.flatMap refsC := rfl
theorem restrict_one (σ : Store) (b : Nat) : restrict σ [b] b = σ b := by unfold restrict; simp
theorem patch_upd_one (σ : Store) (b nx : Nat) (x : Option Blk) : patchS [b] nx nx σ (upd (restrict σ [b]) b x) = upd σ b x := by
  funext i
  unfold patchS upd restrict
  by_cases h : i = b
  · simp [h]
  · rw [if_neg (by simp only [List.mem_singleton, h, false_or]; omega), if_neg h]
attribute [go_sem] opD_inl w_inl foot_inl refsV_sc refsV_rp refsV_rs refsV_ts refsV_tp refsV_nil refsV_agg restrict_one patch_upd_one
/-! ### append and empty slices in a region that draws -/
theorem opD_append {P : Program} {conv : FuncId → Conv} {call : Call} {d : Option Tmp} {ty : TypeId} {ps : String} {af : Array Edge} {gd : Option (Nat × Bool)} {T : Nat → V} {σ : Store} {nx : Nat} (a x : Operand) (t u : TypeId) :
    evOpD P conv call ⟨d, .call ⟨.builtin .append, #[a, x], #[t, u]⟩, ty, ps, af, gd⟩ T σ nx = if ((refsC (val T a) ++ refsC (val T x)).all fun b => decide (b < nx)) = true then
      (evAppend P #[t, u] (val T a) (val T x) (restrict σ (refsC (val T a) ++ refsC (val T x))) nx).map fun r => (r.1, patchS (refsC (val T a) ++ refsC (val T x)) nx r.2.2 σ r.2.1, r.2.2) else none := by
  have hf : footO conv T σ (⟨d, .call ⟨.builtin .append, #[a, x], #[t, u]⟩, ty, ps, af, gd⟩ : Oper) = some (refsC (val T a) ++ refsC (val T x)) := by
    simp [footO]
  rw [evOpD_of T σ nx hf (fun v => rfl)]
  split
  · rw [op_append]
    cases evAppend P #[t, u] (val T a) (val T x) (restrict σ (refsC (val T a) ++ refsC (val T x))) nx <;> rfl
  · rfl
theorem w_append {conv : FuncId → Conv} {d : Option Tmp} {ty : TypeId} {ps : String} {af : Array Edge} {gd : Option (Nat × Bool)} (args : Array Operand) (ts : Array TypeId) : writer conv ⟨d, .call ⟨.builtin .append, args, ts⟩, ty, ps, af, gd⟩ = true := id rfl
theorem foot_append {conv : FuncId → Conv} {d : Option Tmp} {ty : TypeId} {ps : String} {af : Array Edge} {gd : Option (Nat × Bool)} {T : Nat → V} {σ : Store} (a x : Operand) (ts : Array TypeId) : footIds conv T σ ⟨d, .call ⟨.builtin .append, #[a, x], ts⟩, ty, ps, af, gd⟩ = refsC (val T a) ++ refsC (val T x) := by
  simp [footIds, footO]
theorem opD_buildSlice0 {P : Program} {conv : FuncId → Conv} {call : Call} (d : Option Tmp) (ty : TypeId) (ps : String) (af : Array Edge) (gd : Option (Nat × Bool)) (T : Nat → V) (σ : Store) (nx : Nat) (t : TypeId) (h : (tyI P t).slice = true) (he : (tyI P t).eok = true) : evOpD P conv call ⟨d, .buildSlice t 0 #[], ty, ps, af, gd⟩ T σ nx = some (.nil, σ, nx) :=
  opD_nil T σ nx rfl fun σ => op_buildSlice0 d ty ps af gd T σ nx t h he
theorem w_buildSlice {conv : FuncId → Conv} {d : Option Tmp} {ty : TypeId} {ps : String} {af : Array Edge} {gd : Option (Nat × Bool)} (t : TypeId) (n : Nat) (parts : Array (Nat × Operand)) : writer conv ⟨d, .buildSlice t n parts, ty, ps, af, gd⟩ = false := id rfl
theorem foot_buildSlice {conv : FuncId → Conv} {d : Option Tmp} {ty : TypeId} {ps : String} {af : Array Edge} {gd : Option (Nat × Bool)} {T : Nat → V} {σ : Store} (t : TypeId) (n : Nat) (parts : Array (Nat × Operand)) : footIds conv T σ ⟨d, .buildSlice t n parts, ty, ps, af, gd⟩ = [] := rfl
theorem patch_new (σ : Store) (nx : Nat) (x : Option Blk) : patchS [] nx (nx + 1) σ (upd (restrict σ []) nx x) = upd σ nx x := by
  funext i
  unfold patchS upd restrict
  by_cases h : i = nx
  · simp [h]
  · rw [if_neg (by simp only [List.not_mem_nil, false_or]; omega), if_neg h]
attribute [go_sem] opD_append w_append foot_append opD_buildSlice0 w_buildSlice foot_buildSlice patch_new patchS_nil List.append_nil
theorem freezeL_ne : ∀ (ids : List Nat) (σ : Store) (b : Nat), ids.contains b = false → freezeL σ ids b = σ b
  | [], σ, b, _ => rfl
  | i :: ids, σ, b, h => by
    rw [List.contains_cons, Bool.or_eq_false_iff] at h
    have hne : b ≠ i := by simpa using h.1
    unfold freezeL
    rw [freezeL_ne ids _ b h.2, upd_ne _ _ hne]
theorem behind_ne {σ : Store} {ids : List Nat} {t : V} {b : Nat} (h : ids.contains b = false) : behind σ ids t b = σ b := by
  unfold behind
  split
  · rfl
  · exact freezeL_ne ids σ b h
attribute [go_sem] behind_ne
end Go.TV
namespace Go.TV

/-! ### Strings -/
theorem ev_adds {P : Program} {t : TypeId} {x y : Operand} {a b : ByteArray} (h : a.size + b.size ≤ 9223372036854775807) : evBin P .add t x y (.sc (.string a)) (.sc (.string b)) = some (.sc (.string (a ++ b))) := by
  have hm : IntKind.i64.max = 9223372036854775807 := rfl
  have : Op.stringOp .add a b = (pure (.string (a ++ b)) : Sem Value) := by
    unfold Op.stringOp
    rw [if_neg (by rw [hm]; omega)]
  simp only [evBin, toVal, eqGuard_add]
  show (evPure P (Op.stringOp .add a b)).bind _ = _
  rw [this]
  rfl
theorem bytes_nil : bytesOfRow [] = some [] := rfl
theorem bytes_cons (n : Int) (vs : List V) : bytesOfRow (.sc (.int .u8 n) :: vs) = if 0 ≤ n ∧ n < 256 then (bytesOfRow vs).map (UInt8.ofNat n.toNat :: ·) else none := rfl
theorem tyI_u8 {P : Program} {t : TypeId} (h : (tyI P t).u8 = true) : ∃ e i, P.underlying t = some (.slice e) ∧ P.underlying e = some (.int .u8) ∧ P.info? e = some i ∧ i.size = 1 := by
  unfold tyI at h
  cases hi : P.info? t with
  | none => simp [hi] at h
  | some i =>
    cases hd : P.underlying t with
    | none => simp [hi, hd] at h
    | some d =>
      simp only [hi, hd] at h
      cases d <;> simp at h
      rename_i e
      obtain ⟨h1, h2⟩ := h
      have h3 : P.underlying e = some (.int .u8) := by
        revert h1
        cases P.underlying e with
        | none => simp
        | some d => cases d <;> simp; rename_i k; cases k <;> simp
      cases hj : P.info? e with
      | none => simp [hj] at h2
      | some j => simp [hj] at h2; exact ⟨e, j, rfl, h3, hj, h2⟩
theorem evCvs {P : Program} {s d : TypeId} (hs : (tyI P s).u8 = true) (hd : (tyI P d).str = true) (b off len : Nat) (σ : Store) : evConvert P s d (.rs b off len) σ = (rowOf σ 1 (.rs b off len)).bind fun p => (bytesOfRow p.1).map fun l => .sc (.string ⟨l.toArray⟩) := by
  obtain ⟨e, i, h1, h2, h3, h4⟩ := tyI_u8 hs
  unfold evConvert
  simp only [toVal, h1, tyI_str hd, h2, h3, h4, if_true]
  cases rowOf σ 1 (.rs b off len) with
  | none => rfl
  | some p => obtain ⟨r, n⟩ := p; rfl
attribute [go_sem] ev_adds bytes_nil bytes_cons evCvs
/-- The digits of a number, ahead of acc. -/
def mTd (n : Nat) (acc : ByteArray) : ByteArray := if h : n = 0 then acc else mTd (n / 10) (⟨#[UInt8.ofNat (48 + n % 10)]⟩ ++ acc)
termination_by n
decreasing_by omega
def mT (n : Nat) : ByteArray := ⟨#[109]⟩ ++ mTd n ⟨#[]⟩
theorem size_app (a b : ByteArray) : (a ++ b).size = a.size + b.size := ByteArray.size_append
theorem mTd_size (n : Nat) (acc : ByteArray) : (mTd n acc).size ≤ acc.size + n := by
  fun_induction mTd n acc with
  | case1 => omega
  | case2 n acc h ih => 
    rw [size_app] at ih
    have : (⟨#[UInt8.ofNat (48 + n % 10)]⟩ : ByteArray).size = 1 := rfl
    omega
end Go.TV
namespace Go.Proofs.Ytlkpocljgikpgaa
open Go Go.TV
/-- How calls pass their arguments. -/
def conv : FuncId → Conv := fun f => if f ∈ ([] : List Nat) then .own else if f ∈ ([39, 37, 38, 36, 75] : List Nat) then .inl else .imm
theorem cv3 : conv 3 = .imm := id rfl
theorem cv4 : conv 4 = .imm := id rfl
theorem cv5 : conv 5 = .imm := id rfl
theorem cv6 : conv 6 = .imm := id rfl
theorem cv7 : conv 7 = .imm := id rfl
theorem cv8 : conv 8 = .imm := id rfl
theorem cv9 : conv 9 = .imm := id rfl
theorem cv10 : conv 10 = .imm := id rfl
theorem cv11 : conv 11 = .imm := id rfl
theorem cv12 : conv 12 = .imm := id rfl
theorem cv13 : conv 13 = .imm := id rfl
theorem cv14 : conv 14 = .imm := id rfl
theorem cv15 : conv 15 = .imm := id rfl
theorem cv16 : conv 16 = .imm := id rfl
theorem cv17 : conv 17 = .imm := id rfl
theorem cv18 : conv 18 = .imm := id rfl
theorem cv19 : conv 19 = .imm := id rfl
theorem cv20 : conv 20 = .imm := id rfl
theorem cv21 : conv 21 = .imm := id rfl
theorem cv22 : conv 22 = .imm := id rfl
theorem cv23 : conv 23 = .imm := id rfl
theorem cv24 : conv 24 = .imm := id rfl
theorem cv25 : conv 25 = .imm := id rfl
theorem cv26 : conv 26 = .imm := id rfl
theorem cv27 : conv 27 = .imm := id rfl
theorem cv28 : conv 28 = .imm := id rfl
theorem cv29 : conv 29 = .imm := id rfl
theorem cv30 : conv 30 = .imm := id rfl
theorem cv31 : conv 31 = .imm := id rfl
theorem cv32 : conv 32 = .imm := id rfl
theorem cv33 : conv 33 = .imm := id rfl
theorem cv34 : conv 34 = .imm := id rfl
theorem cv35 : conv 35 = .imm := id rfl
theorem cv36 : conv 36 = .inl := id rfl
theorem cv37 : conv 37 = .inl := id rfl
theorem cv38 : conv 38 = .inl := id rfl
theorem cv39 : conv 39 = .inl := id rfl
theorem cv40 : conv 40 = .imm := id rfl
theorem cv41 : conv 41 = .imm := id rfl
theorem cv42 : conv 42 = .imm := id rfl
theorem cv43 : conv 43 = .imm := id rfl
theorem cv44 : conv 44 = .imm := id rfl
theorem cv45 : conv 45 = .imm := id rfl
theorem cv46 : conv 46 = .imm := id rfl
theorem cv47 : conv 47 = .imm := id rfl
theorem cv48 : conv 48 = .imm := id rfl
theorem cv49 : conv 49 = .imm := id rfl
theorem cv50 : conv 50 = .imm := id rfl
theorem cv51 : conv 51 = .imm := id rfl
theorem cv52 : conv 52 = .imm := id rfl
theorem cv53 : conv 53 = .imm := id rfl
theorem cv54 : conv 54 = .imm := id rfl
theorem cv55 : conv 55 = .imm := id rfl
theorem cv56 : conv 56 = .imm := id rfl
theorem cv57 : conv 57 = .imm := id rfl
theorem cv58 : conv 58 = .imm := id rfl
theorem cv59 : conv 59 = .imm := id rfl
theorem cv60 : conv 60 = .imm := id rfl
theorem cv61 : conv 61 = .imm := id rfl
theorem cv62 : conv 62 = .imm := id rfl
theorem cv63 : conv 63 = .imm := id rfl
theorem cv64 : conv 64 = .imm := id rfl
theorem cv65 : conv 65 = .imm := id rfl
theorem cv66 : conv 66 = .imm := id rfl
theorem cv67 : conv 67 = .imm := id rfl
theorem cv68 : conv 68 = .imm := id rfl
theorem cv69 : conv 69 = .imm := id rfl
theorem cv70 : conv 70 = .imm := id rfl
theorem cv71 : conv 71 = .imm := id rfl
theorem cv72 : conv 72 = .imm := id rfl
theorem cv73 : conv 73 = .imm := id rfl
theorem cv74 : conv 74 = .imm := id rfl
theorem cv75 : conv 75 = .inl := id rfl
theorem cv76 : conv 76 = .imm := id rfl
theorem cv77 : conv 77 = .imm := id rfl
theorem cv78 : conv 78 = .imm := id rfl
theorem cv79 : conv 79 = .imm := id rfl
theorem cv80 : conv 80 = .imm := id rfl
theorem cv81 : conv 81 = .imm := id rfl
theorem cv82 : conv 82 = .imm := id rfl
theorem cv83 : conv 83 = .imm := id rfl
theorem cv84 : conv 84 = .imm := id rfl
theorem cv85 : conv 85 = .imm := id rfl
theorem cv86 : conv 86 = .imm := id rfl
theorem cv87 : conv 87 = .imm := id rfl
theorem cv88 : conv 88 = .imm := id rfl
theorem cv89 : conv 89 = .imm := id rfl
theorem cv90 : conv 90 = .imm := id rfl
theorem cv91 : conv 91 = .imm := id rfl
theorem cv92 : conv 92 = .imm := id rfl
theorem cv93 : conv 93 = .imm := id rfl
theorem cv94 : conv 94 = .imm := id rfl
theorem cv95 : conv 95 = .imm := id rfl
theorem cv96 : conv 96 = .imm := id rfl
theorem cv97 : conv 97 = .imm := id rfl
theorem cv98 : conv 98 = .imm := id rfl
theorem cv99 : conv 99 = .imm := id rfl
theorem cv100 : conv 100 = .imm := id rfl
theorem cv101 : conv 101 = .imm := id rfl
theorem cv102 : conv 102 = .imm := id rfl
theorem cv103 : conv 103 = .imm := id rfl
theorem cv104 : conv 104 = .imm := id rfl
theorem cv105 : conv 105 = .imm := id rfl
theorem cv106 : conv 106 = .imm := id rfl
theorem cv107 : conv 107 = .imm := id rfl
theorem cv108 : conv 108 = .imm := id rfl
theorem cv109 : conv 109 = .imm := id rfl
theorem cv110 : conv 110 = .imm := id rfl
theorem cv111 : conv 111 = .imm := id rfl
theorem cv112 : conv 112 = .imm := id rfl
theorem cv113 : conv 113 = .imm := id rfl
theorem cv114 : conv 114 = .imm := id rfl
theorem cv115 : conv 115 = .imm := id rfl
theorem cv116 : conv 116 = .imm := id rfl
theorem cv117 : conv 117 = .imm := id rfl
theorem cv118 : conv 118 = .imm := id rfl
theorem cv119 : conv 119 = .imm := id rfl
theorem cv120 : conv 120 = .imm := id rfl
theorem cv121 : conv 121 = .imm := id rfl
theorem cv122 : conv 122 = .imm := id rfl
theorem cv123 : conv 123 = .imm := id rfl
theorem cv124 : conv 124 = .imm := id rfl
theorem cv125 : conv 125 = .imm := id rfl
theorem cv126 : conv 126 = .imm := id rfl
theorem cv127 : conv 127 = .imm := id rfl
theorem cv128 : conv 128 = .imm := id rfl
theorem cv129 : conv 129 = .imm := id rfl
theorem cv130 : conv 130 = .imm := id rfl
theorem cv131 : conv 131 = .imm := id rfl
theorem cv132 : conv 132 = .imm := id rfl
theorem cv133 : conv 133 = .imm := id rfl
theorem cv134 : conv 134 = .imm := id rfl
theorem cv135 : conv 135 = .imm := id rfl
theorem cv136 : conv 136 = .imm := id rfl
theorem cv137 : conv 137 = .imm := id rfl
theorem cv138 : conv 138 = .imm := id rfl
theorem cv139 : conv 139 = .imm := id rfl
theorem cv140 : conv 140 = .imm := id rfl
theorem cv141 : conv 141 = .imm := id rfl
theorem cv142 : conv 142 = .imm := id rfl
theorem cv143 : conv 143 = .imm := id rfl
theorem cv144 : conv 144 = .imm := id rfl
theorem cv145 : conv 145 = .imm := id rfl
theorem cv146 : conv 146 = .imm := id rfl
theorem cv147 : conv 147 = .imm := id rfl
theorem cv148 : conv 148 = .imm := id rfl
theorem cv149 : conv 149 = .imm := id rfl
theorem cv150 : conv 150 = .imm := id rfl
theorem cv151 : conv 151 = .imm := id rfl
theorem cv152 : conv 152 = .imm := id rfl
theorem cv153 : conv 153 = .imm := id rfl
theorem cv154 : conv 154 = .imm := id rfl
theorem cv155 : conv 155 = .imm := id rfl
theorem cv156 : conv 156 = .imm := id rfl
theorem cv157 : conv 157 = .imm := id rfl
theorem cv158 : conv 158 = .imm := id rfl
theorem cv159 : conv 159 = .imm := id rfl
theorem cv160 : conv 160 = .imm := id rfl
theorem cv161 : conv 161 = .imm := id rfl
theorem cv162 : conv 162 = .imm := id rfl
theorem cv163 : conv 163 = .imm := id rfl
theorem cv164 : conv 164 = .imm := id rfl
theorem cv165 : conv 165 = .imm := id rfl
theorem cv166 : conv 166 = .imm := id rfl
theorem cv167 : conv 167 = .imm := id rfl
theorem cv168 : conv 168 = .imm := id rfl
theorem cv169 : conv 169 = .imm := id rfl
theorem cv170 : conv 170 = .imm := id rfl
theorem cv171 : conv 171 = .imm := id rfl
theorem cv172 : conv 172 = .imm := id rfl
theorem cv173 : conv 173 = .imm := id rfl
theorem cv174 : conv 174 = .imm := id rfl
theorem cv175 : conv 175 = .imm := id rfl
theorem cv176 : conv 176 = .imm := id rfl
theorem cv177 : conv 177 = .imm := id rfl
theorem cv178 : conv 178 = .imm := id rfl
theorem cv179 : conv 179 = .imm := id rfl
theorem cv180 : conv 180 = .imm := id rfl
theorem cv181 : conv 181 = .imm := id rfl
theorem cv182 : conv 182 = .imm := id rfl
theorem cv183 : conv 183 = .imm := id rfl
theorem cv184 : conv 184 = .imm := id rfl
theorem cv185 : conv 185 = .imm := id rfl
theorem cv186 : conv 186 = .imm := id rfl
theorem cv187 : conv 187 = .imm := id rfl
theorem cv188 : conv 188 = .imm := id rfl
theorem cv189 : conv 189 = .imm := id rfl
theorem cv190 : conv 190 = .imm := id rfl
theorem cv206 : conv 206 = .imm := id rfl
theorem cv207 : conv 207 = .imm := id rfl
theorem cv208 : conv 208 = .imm := id rfl
theorem cv209 : conv 209 = .imm := id rfl
attribute [go_sem] cv3 cv4 cv5 cv6 cv7 cv8 cv9 cv10 cv11 cv12 cv13 cv14 cv15 cv16 cv17 cv18 cv19 cv20 cv21 cv22 cv23 cv24 cv25 cv26 cv27 cv28 cv29 cv30 cv31 cv32 cv33 cv34 cv35 cv36 cv37 cv38 cv39 cv40 cv41 cv42 cv43 cv44 cv45 cv46 cv47 cv48 cv49 cv50 cv51 cv52 cv53 cv54 cv55 cv56 cv57 cv58 cv59 cv60 cv61 cv62 cv63 cv64 cv65 cv66 cv67 cv68 cv69 cv70 cv71 cv72 cv73 cv74 cv75 cv76 cv77 cv78 cv79 cv80 cv81 cv82 cv83 cv84 cv85 cv86 cv87 cv88 cv89 cv90 cv91 cv92 cv93 cv94 cv95 cv96 cv97 cv98 cv99 cv100 cv101 cv102 cv103 cv104 cv105 cv106 cv107 cv108 cv109 cv110 cv111 cv112 cv113 cv114 cv115 cv116 cv117 cv118 cv119 cv120 cv121 cv122 cv123 cv124 cv125 cv126 cv127 cv128 cv129 cv130 cv131 cv132 cv133 cv134 cv135 cv136 cv137 cv138 cv139 cv140 cv141 cv142 cv143 cv144 cv145 cv146 cv147 cv148 cv149 cv150 cv151 cv152 cv153 cv154 cv155 cv156 cv157 cv158 cv159 cv160 cv161 cv162 cv163 cv164 cv165 cv166 cv167 cv168 cv169 cv170 cv171 cv172 cv173 cv174 cv175 cv176 cv177 cv178 cv179 cv180 cv181 cv182 cv183 cv184 cv185 cv186 cv187 cv188 cv189 cv190 cv206 cv207 cv208 cv209
theorem ty2 : tyI Try.prog 2 = ⟨true, false, 1, [.sc (.int .i64 0)], false, false, false, 0, 0, [], false, [], [], false, false⟩ := by kernel_rfl
theorem ty3 : tyI Try.prog 3 = ⟨true, false, 1, [.sc (.int .i64 0)], false, false, false, 0, 0, [], false, [], [], false, false⟩ := by kernel_rfl
theorem ty4 : tyI Try.prog 4 = ⟨true, false, 1, [.sc (.bool false)], false, false, false, 0, 0, [], false, [], [], false, false⟩ := by kernel_rfl
theorem ty5 : tyI Try.prog 5 = ⟨true, false, 1, [.sc (.int .u8 0)], false, false, false, 0, 0, [], false, [], [], false, false⟩ := by kernel_rfl
theorem ty7 : tyI Try.prog 7 = ⟨true, true, 4, [.sc (.int .i64 0), .sc (.int .i64 0), .sc (.bool false), .sc (.int .u8 0)], false, false, false, 0, 0, [], false, [(0, 1, some false), (1, 1, some false), (2, 1, some false), (3, 1, some false)], [(0, 1), (1, 1), (2, 1), (3, 1)], true, false⟩ := by kernel_rfl
theorem ty9 : tyI Try.prog 9 = ⟨true, false, 1, [.sc (.string ByteArray.empty)], false, true, false, 0, 0, [], false, [], [], false, false⟩ := by kernel_rfl
theorem ty12 : tyI Try.prog 12 = ⟨true, false, 1, [.sc (.int .u64 0)], false, false, false, 0, 0, [], false, [], [], false, false⟩ := by kernel_rfl
theorem ty13 : tyI Try.prog 13 = ⟨true, true, 2, [.sc (.string ByteArray.empty), .sc (.int .u64 0)], false, false, false, 0, 0, [], false, [(0, 1, some false), (1, 1, some false)], [(0, 1), (1, 1)], true, false⟩ := by kernel_rfl
theorem ty21 : tyI Try.prog 21 = ⟨true, false, 1, [.sc (.int .i32 0)], false, false, false, 0, 0, [], false, [], [], false, false⟩ := by kernel_rfl
theorem ty22 : tyI Try.prog 22 = ⟨true, false, 1, [.nil], true, false, false, 1, 1, [.sc (.int .u8 0)], true, [], [], false, true⟩ := by kernel_rfl
theorem ty23 : tyI Try.prog 23 = ⟨true, true, 5, [.sc (.int .i64 0), .sc (.int .i64 0), .sc (.int .i64 0), .sc (.int .i64 0), .sc (.int .i64 0)], false, false, false, 0, 0, [], false, [(0, 1, some false), (1, 1, some false), (2, 1, some false), (3, 1, some false), (4, 1, some false)], [(0, 1), (1, 1), (2, 1), (3, 1), (4, 1)], true, false⟩ := by kernel_rfl
theorem ty24 : tyI Try.prog 24 = ⟨true, true, 5, [.sc (.int .i64 0), .sc (.int .i64 0), .sc (.int .i64 0), .sc (.int .i64 0), .sc (.int .i64 0)], false, false, false, 0, 0, [], false, [(0, 1, some false), (1, 1, some false), (2, 1, some false), (3, 1, some false), (4, 1, some false)], [(0, 1), (1, 1), (2, 1), (3, 1), (4, 1)], true, false⟩ := by kernel_rfl
theorem ty27 : tyI Try.prog 27 = ⟨true, false, 1, [.nil], true, false, false, 1, 8, [.sc (.int .i64 0)], true, [], [], false, false⟩ := by kernel_rfl
theorem ty28 : tyI Try.prog 28 = ⟨true, true, 2, [.sc (.bool false), .nil], false, false, false, 0, 0, [], false, [(0, 1, some false), (1, 1, some false)], [(0, 1), (1, 1)], true, false⟩ := by kernel_rfl
theorem ty29 : tyI Try.prog 29 = ⟨true, true, 2, [.sc (.bool false), .nil], false, false, false, 0, 0, [], false, [(0, 1, some false), (1, 1, some false)], [(0, 1), (1, 1)], true, false⟩ := by kernel_rfl
theorem ty30 : tyI Try.prog 30 = ⟨true, true, 3, [.sc (.bool false), .nil, .nil], false, false, false, 0, 0, [], false, [(0, 2, some true), (2, 1, some false)], [(0, 2), (2, 1)], true, false⟩ := by kernel_rfl
theorem ty31 : tyI Try.prog 31 = ⟨true, true, 3, [.sc (.bool false), .nil, .nil], false, false, false, 0, 0, [], false, [(0, 2, some true), (2, 1, some false)], [(0, 2), (2, 1)], true, false⟩ := by kernel_rfl
theorem ty46 : tyI Try.prog 46 = ⟨true, true, 5, [.sc (.int .i64 0), .sc (.int .i64 0), .sc (.int .i64 0), .sc (.int .i64 0), .sc (.int .i64 0)], false, false, false, 0, 0, [], false, [(0, 1, some false), (1, 1, some false), (2, 1, some false), (3, 1, some false), (4, 1, some false)], [(0, 1), (1, 1), (2, 1), (3, 1), (4, 1)], true, false⟩ := by kernel_rfl
theorem ty50 : tyI Try.prog 50 = ⟨true, false, 1, [.nil], true, false, false, 5, 112, [.sc (.string ByteArray.empty), .nil, .nil, .nil, .nil], true, [], [], false, false⟩ := by kernel_rfl
theorem ty51 : tyI Try.prog 51 = ⟨true, false, 1, [.nil], true, false, false, 2, 16, [.sc (.int .i64 0), .sc (.int .i64 0)], true, [], [], false, false⟩ := by kernel_rfl
theorem ty52 : tyI Try.prog 52 = ⟨true, true, 3, [.nil, .nil, .sc (.bool false)], false, false, false, 0, 0, [], false, [(0, 1, some false), (1, 1, some false), (2, 1, some false)], [(0, 1), (1, 1), (2, 1)], true, false⟩ := by kernel_rfl
theorem ty53 : tyI Try.prog 53 = ⟨true, true, 3, [.nil, .nil, .sc (.bool false)], false, false, false, 0, 0, [], false, [(0, 1, some false), (1, 1, some false), (2, 1, some false)], [(0, 1), (1, 1), (2, 1)], true, false⟩ := by kernel_rfl
theorem ty56 : tyI Try.prog 56 = ⟨true, false, 1, [.nil], true, false, false, 5, 112, [.sc (.string ByteArray.empty), .nil, .nil, .nil, .nil], true, [], [], false, false⟩ := by kernel_rfl
theorem ty57 : tyI Try.prog 57 = ⟨true, false, 1, [.nil], true, false, false, 2, 16, [.sc (.int .i64 0), .sc (.int .i64 0)], true, [], [], false, false⟩ := by kernel_rfl
theorem ty58 : tyI Try.prog 58 = ⟨true, true, 3, [.nil, .nil, .sc (.bool false)], false, false, false, 0, 0, [], false, [(0, 1, some false), (1, 1, some false), (2, 1, some false)], [(0, 1), (1, 1), (2, 1)], true, false⟩ := by kernel_rfl
theorem ty59 : tyI Try.prog 59 = ⟨true, true, 3, [.nil, .nil, .sc (.bool false)], false, false, false, 0, 0, [], false, [(0, 1, some false), (1, 1, some false), (2, 1, some false)], [(0, 1), (1, 1), (2, 1)], true, false⟩ := by kernel_rfl
theorem ty67 : tyI Try.prog 67 = ⟨true, false, 1, [.sc (.pointer none)], false, false, true, 0, 0, [], false, [], [], false, false⟩ := by kernel_rfl
theorem ty71 : tyI Try.prog 71 = ⟨true, false, 1, [.sc (.pointer none)], false, false, true, 0, 0, [], false, [], [], false, false⟩ := by kernel_rfl
theorem ty94 : tyI Try.prog 94 = ⟨true, true, 3, [.nil, .sc (.int .i64 0), .sc (.int .i64 0)], false, false, false, 0, 0, [], false, [(0, 1, some false), (1, 1, some false), (2, 1, some false)], [(0, 1), (1, 1), (2, 1)], true, false⟩ := by kernel_rfl
theorem ty95 : tyI Try.prog 95 = ⟨true, true, 3, [.nil, .sc (.int .i64 0), .sc (.int .i64 0)], false, false, false, 0, 0, [], false, [(0, 1, some false), (1, 1, some false), (2, 1, some false)], [(0, 1), (1, 1), (2, 1)], true, false⟩ := by kernel_rfl
theorem ty96 : tyI Try.prog 96 = ⟨true, false, 1, [.sc (.int .u64 0)], false, false, false, 0, 0, [], false, [], [], false, false⟩ := by kernel_rfl
theorem ty99 : tyI Try.prog 99 = ⟨true, true, 3, [.sc (.bool false), .nil, .nil], false, false, false, 0, 0, [], false, [(0, 2, some true), (2, 1, some false)], [(0, 2), (2, 1)], true, false⟩ := by kernel_rfl
theorem ty100 : tyI Try.prog 100 = ⟨true, true, 3, [.sc (.bool false), .nil, .nil], false, false, false, 0, 0, [], false, [(0, 2, some true), (2, 1, some false)], [(0, 2), (2, 1)], true, false⟩ := by kernel_rfl
theorem ty109 : tyI Try.prog 109 = ⟨true, false, 1, [.nil], true, false, false, 4, 40, [.sc (.string ByteArray.empty), .sc (.int .i64 0), .sc (.int .i64 0), .sc (.bool false)], true, [], [], false, false⟩ := by kernel_rfl
theorem ty110 : tyI Try.prog 110 = ⟨true, false, 1, [.nil], true, false, false, 3, 24, [.sc (.int .i64 0), .sc (.int .i64 0), .sc (.int .i64 0)], true, [], [], false, false⟩ := by kernel_rfl
theorem ty111 : tyI Try.prog 111 = ⟨true, true, 2, [.nil, .nil], false, false, false, 0, 0, [], false, [(0, 1, some false), (1, 1, some false)], [(0, 1), (1, 1)], true, false⟩ := by kernel_rfl
theorem ty112 : tyI Try.prog 112 = ⟨true, true, 2, [.nil, .nil], false, false, false, 0, 0, [], false, [(0, 1, some false), (1, 1, some false)], [(0, 1), (1, 1)], true, false⟩ := by kernel_rfl
theorem ty113 : tyI Try.prog 113 = ⟨true, true, 5, [.sc (.string ByteArray.empty), .nil, .nil, .nil, .nil], false, false, false, 0, 0, [], false, [(0, 1, some false), (1, 2, some true), (3, 1, some false), (4, 1, some false)], [(0, 1), (1, 2), (3, 1), (4, 1)], true, false⟩ := by kernel_rfl
theorem ty114 : tyI Try.prog 114 = ⟨true, true, 5, [.sc (.string ByteArray.empty), .nil, .nil, .nil, .nil], false, false, false, 0, 0, [], false, [(0, 1, some false), (1, 2, some true), (3, 1, some false), (4, 1, some false)], [(0, 1), (1, 2), (3, 1), (4, 1)], true, false⟩ := by kernel_rfl
theorem ty115 : tyI Try.prog 115 = ⟨true, false, 1, [.nil], true, false, false, 4, 40, [.sc (.string ByteArray.empty), .sc (.int .i64 0), .sc (.int .i64 0), .sc (.bool false)], true, [], [], false, false⟩ := by kernel_rfl
theorem ty116 : tyI Try.prog 116 = ⟨true, false, 1, [.nil], true, false, false, 3, 24, [.sc (.int .i64 0), .sc (.int .i64 0), .sc (.int .i64 0)], true, [], [], false, false⟩ := by kernel_rfl
theorem ty117 : tyI Try.prog 117 = ⟨true, true, 2, [.nil, .nil], false, false, false, 0, 0, [], false, [(0, 1, some false), (1, 1, some false)], [(0, 1), (1, 1)], true, false⟩ := by kernel_rfl
theorem ty118 : tyI Try.prog 118 = ⟨true, true, 2, [.nil, .nil], false, false, false, 0, 0, [], false, [(0, 1, some false), (1, 1, some false)], [(0, 1), (1, 1)], true, false⟩ := by kernel_rfl
theorem ty119 : tyI Try.prog 119 = ⟨true, true, 5, [.sc (.string ByteArray.empty), .nil, .nil, .nil, .nil], false, false, false, 0, 0, [], false, [(0, 1, some false), (1, 2, some true), (3, 1, some false), (4, 1, some false)], [(0, 1), (1, 2), (3, 1), (4, 1)], true, false⟩ := by kernel_rfl
theorem ty120 : tyI Try.prog 120 = ⟨true, true, 5, [.sc (.string ByteArray.empty), .nil, .nil, .nil, .nil], false, false, false, 0, 0, [], false, [(0, 1, some false), (1, 2, some true), (3, 1, some false), (4, 1, some false)], [(0, 1), (1, 2), (3, 1), (4, 1)], true, false⟩ := by kernel_rfl
theorem ty123 : tyI Try.prog 123 = ⟨true, true, 2, [.sc (.int .i64 0), .sc (.int .i64 0)], false, false, false, 0, 0, [], false, [(0, 1, some false), (1, 1, some false)], [(0, 1), (1, 1)], true, false⟩ := by kernel_rfl
theorem ty124 : tyI Try.prog 124 = ⟨true, true, 2, [.sc (.int .i64 0), .sc (.int .i64 0)], false, false, false, 0, 0, [], false, [(0, 1, some false), (1, 1, some false)], [(0, 1), (1, 1)], true, false⟩ := by kernel_rfl
theorem ty127 : tyI Try.prog 127 = ⟨true, true, 2, [.sc (.int .i64 0), .sc (.int .i64 0)], false, false, false, 0, 0, [], false, [(0, 1, some false), (1, 1, some false)], [(0, 1), (1, 1)], true, false⟩ := by kernel_rfl
theorem ty129 : tyI Try.prog 129 = ⟨true, false, 1, [.sc (.pointer none)], false, false, true, 0, 0, [], false, [], [], false, false⟩ := by kernel_rfl
theorem ty130 : tyI Try.prog 130 = ⟨true, false, 1, [.nil], true, false, false, 1, 1, [.sc (.bool false)], true, [], [], false, false⟩ := by kernel_rfl
theorem ty141 : tyI Try.prog 141 = ⟨true, false, 1, [.sc (.int .u64 0)], false, false, false, 0, 0, [], false, [], [], false, false⟩ := by kernel_rfl
theorem ty153 : tyI Try.prog 153 = ⟨true, false, 1, [.sc (.pointer none)], false, false, true, 0, 0, [], false, [], [], false, false⟩ := by kernel_rfl
theorem ty156 : tyI Try.prog 156 = ⟨true, true, 4, [.sc (.string ByteArray.empty), .sc (.int .i64 0), .sc (.int .i64 0), .sc (.bool false)], false, false, false, 0, 0, [], false, [(0, 1, some false), (1, 1, some false), (2, 1, some false), (3, 1, some false)], [(0, 1), (1, 1), (2, 1), (3, 1)], true, false⟩ := by kernel_rfl
theorem ty157 : tyI Try.prog 157 = ⟨true, true, 4, [.sc (.string ByteArray.empty), .sc (.int .i64 0), .sc (.int .i64 0), .sc (.bool false)], false, false, false, 0, 0, [], false, [(0, 1, some false), (1, 1, some false), (2, 1, some false), (3, 1, some false)], [(0, 1), (1, 1), (2, 1), (3, 1)], true, false⟩ := by kernel_rfl
theorem ty158 : tyI Try.prog 158 = ⟨true, true, 3, [.sc (.int .i64 0), .sc (.int .i64 0), .sc (.int .i64 0)], false, false, false, 0, 0, [], false, [(0, 1, some false), (1, 1, some false), (2, 1, some false)], [(0, 1), (1, 1), (2, 1)], true, false⟩ := by kernel_rfl
theorem ty159 : tyI Try.prog 159 = ⟨true, true, 3, [.sc (.int .i64 0), .sc (.int .i64 0), .sc (.int .i64 0)], false, false, false, 0, 0, [], false, [(0, 1, some false), (1, 1, some false), (2, 1, some false)], [(0, 1), (1, 1), (2, 1)], true, false⟩ := by kernel_rfl
theorem ty180 : tyI Try.prog 180 = ⟨true, true, 4, [.sc (.string ByteArray.empty), .sc (.int .i64 0), .sc (.int .i64 0), .sc (.bool false)], false, false, false, 0, 0, [], false, [(0, 1, some false), (1, 1, some false), (2, 1, some false), (3, 1, some false)], [(0, 1), (1, 1), (2, 1), (3, 1)], true, false⟩ := by kernel_rfl
theorem ty185 : tyI Try.prog 185 = ⟨true, true, 3, [.sc (.int .i64 0), .sc (.int .i64 0), .sc (.int .i64 0)], false, false, false, 0, 0, [], false, [(0, 1, some false), (1, 1, some false), (2, 1, some false)], [(0, 1), (1, 1), (2, 1)], true, false⟩ := by kernel_rfl
theorem ty193 : tyI Try.prog 193 = ⟨true, true, 4, [.sc (.pointer none), .sc (.pointer none), .sc (.pointer none), .sc (.string ByteArray.empty)], false, false, false, 0, 0, [], false, [(0, 1, some false), (1, 1, some false), (2, 1, some false), (3, 1, some false)], [(0, 1), (1, 1), (2, 1), (3, 1)], true, false⟩ := by kernel_rfl
theorem ty195 : tyI Try.prog 195 = ⟨true, true, 0, [], false, false, false, 0, 0, [], false, [], [], false, false⟩ := by kernel_rfl
theorem ty196 : tyI Try.prog 196 = ⟨true, true, 0, [], false, false, false, 0, 0, [], false, [(0, 0, some true)], [(0, 0)], true, false⟩ := by kernel_rfl
theorem ty198 : tyI Try.prog 198 = ⟨true, false, 1, [.sc (.int .u32 0)], false, false, false, 0, 0, [], false, [], [], false, false⟩ := by kernel_rfl
theorem ty202 : tyI Try.prog 202 = ⟨true, false, 1, [.sc (.pointer none)], false, false, true, 0, 0, [], false, [], [], false, false⟩ := by kernel_rfl
attribute [go_sem] ty2 ty3 ty4 ty5 ty7 ty9 ty12 ty13 ty21 ty22 ty23 ty24 ty27 ty28 ty29 ty30 ty31 ty46 ty50 ty51 ty52 ty53 ty56 ty57 ty58 ty59 ty67 ty71 ty94 ty95 ty96 ty99 ty100 ty109 ty110 ty111 ty112 ty113 ty114 ty115 ty116 ty117 ty118 ty119 ty120 ty123 ty124 ty127 ty129 ty130 ty141 ty153 ty156 ty157 ty158 ty159 ty180 ty185 ty193 ty195 ty196 ty198 ty202
end Go.Proofs.Ytlkpocljgikpgaa
namespace Go.Proofs.Ytlkpocljgikpgaa
open Go Go.TV

/-- A copy of a slice of ints, as an own block. -/
def cloneG : List V → Store → Nat → Option (V × Store × Nat)
  | [.ts row len], σ, nx => if row.length = len ∧ len ≤ 17592186044000 ∧ row.all isCell = true then (if len = 0 then some (.nil, σ, nx) else some (.rs nx 0 len, evBox σ nx row 1, nx + 1)) else none
  | _, _, _ => none
def noCall : List V → Store → Nat → Option (V × Store × Nat) := fun _ _ _ => none
theorem clone_sound (args : List V) (σ : Store) (nx : Nat) (v : V) (σ' : Store) (nx' : Nat) (h : cloneG args σ nx = some (v, σ', nx')) : SoundAt Try.prog 80 args σ nx v σ' nx' := by
  unfold cloneG at h
  split at h
  · rename_i row len
    split at h
    · rename_i hc
      obtain ⟨hl, hs, hcell⟩ := hc
      refine fork_sound (call := fun _ _ _ _ => none) (conv := fun _ => .imm) (fun _ _ _ _ _ _ _ h => by cases h) (by kernel_rfl) Try.func80 rfl Try.underlying27 (n := 0) (by kernel_rfl) (st1 := ⟨upd (argsT [.ts row len]) 2 .nil, σ, nx⟩) (T2 := upd (upd (argsT [.ts row len]) 2 .nil) 3 (.ts row len)) (v1 := .ts row len) (row := row) (len := len) (vs := [v]) ?_ rfl ?_ rfl ?_ ?_
      · rfl
      · rfl
      · rfl
      · intro b hb
        cases b with
        | true =>
          have hr := hb rfl
          subst hr
          have hz : len = 0 := by simpa using hl.symm
          subst hz
          simp only [if_true, Option.some.injEq, Prod.mk.injEq] at h
          obtain ⟨rfl, rfl, rfl⟩ := h
          exact ⟨.ret, _, rfl, .inr rfl, rfl, rfl, rfl⟩
        | false =>
          by_cases hz : len = 0
          · subst hz
            have hr : row = [] := List.eq_nil_of_length_eq_zero hl
            subst hr
            simp only [if_true, Option.some.injEq, Prod.mk.injEq] at h
            obtain ⟨rfl, rfl, rfl⟩ := h
            refine ⟨.ret, ?_, ?_, .inr rfl, ?_, ?_, ?_⟩
            · exact ⟨upd (upd (upd (upd (upd (upd (upd (upd (argsT [.ts [] 0]) 2 .nil) 3 (.ts [] 0)) 4 (.sc (.bool false))) 5 .nil) 6 (.ts [] 0)) 7 .nil) 2 .nil) 2 .nil, σ, nx⟩
            · simp only [evCode, go_sem]
            · rfl
            · rfl
            · rfl
          · rw [if_neg hz] at h
            simp only [Option.some.injEq, Prod.mk.injEq] at h
            obtain ⟨rfl, rfl, rfl⟩ := h
            have q1 : len ≤ maxLen ∧ len * 8 ≤ 140737488355328 := by unfold maxLen; omega
            refine ⟨.ret, ?_, ?_, .inr rfl, ?_, ?_, ?_⟩
            · exact ⟨upd (upd (upd (upd (upd (upd (upd (argsT [.ts row len]) 2 .nil) 3 (.ts row len)) 4 (.sc (.bool false))) 5 .nil) 6 (.ts row len)) 7 (.rs nx 0 len)) 2 (.rs nx 0 len), evBox σ nx row 1, nx + 1⟩
            · simp only [evCode, go_sem, hl, hz, q1]
            · rfl
            · rfl
            · rfl
    · cases h
  · cases h
/-- Functions that are known otherwise. -/
def ext : Ext := fun f => if f = 80 then some cloneG else none
theorem extOk : ExtOk Try.prog ext := fun f g h args σ nx v σ' nx' hg => by
  unfold ext at h
  split at h
  · rename_i hf
    subst hf
    cases h
    exact clone_sound args σ nx v σ' nx' hg
  · cases h
theorem iClone (xs : List Int) (h : xs.length ≤ 17592186044000) : fn Try.prog conv ext 80 [LI xs] = some (LI xs) := by
  have hg : cloneG [LI xs] noStore 0 = if xs.length = 0 then some (.nil, noStore, 0) else some (.rs 0 0 xs.length, evBox noStore 0 (xs.flatMap cI) 1, 0 + 1) := by
    show (if (xs.flatMap cI).length = xs.length ∧ xs.length ≤ 17592186044000 ∧ (xs.flatMap cI).all isCell = true then _ else none) = _
    rw [if_pos ⟨cI_len xs, h, cI_cells xs⟩]
  rw [fn_eq, ev_ext (g := cloneG) rfl, hg]
  by_cases hz : xs.length = 0
  · rw [if_pos hz]
    have : xs = [] := List.eq_nil_of_length_eq_zero hz
    subst this
    (simp only [go_sem]) <;> rfl
  · rw [if_neg hz]
    simp only [go_sem]
end Go.Proofs.Ytlkpocljgikpgaa
