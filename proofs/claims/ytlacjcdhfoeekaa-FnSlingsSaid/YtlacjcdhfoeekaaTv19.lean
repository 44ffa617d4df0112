import Derived.Test.YtlacjcdhfoeekaaTv18
set_option linter.unusedSimpArgs false
set_option linter.unusedVariables false
namespace Go.TV
open Go.RowKit
set_option linter.unusedVariables false
set_option linter.unusedSimpArgs false

def CLe (c c' : Call) : Prop := ∀ f args σ nx r, c f args σ nx = some r → c' f args σ nx = some r

section
variable {P : Program} {conv : FuncId → Conv}

theorem evCall_le {c c' : Call} (h : CLe c c') {f : FuncId} {args : List V} {σ : Store} {nx : Nat} {r : V × Store × Nat} (e : evCall conv c f args σ nx = some r) : evCall conv c' f args σ nx = some r := by
  unfold evCall at *
  split at e
  · exact h _ _ _ _ _ e
  · split at e
    · rename_i ts ids h1
      try simp only [h1]
      cases h2 : c f ts noStore 0 with
      | none => rw [h2] at e; cases e
      | some q => rw [h2] at e; rw [h _ _ _ _ _ h2]; exact e
    · cases e
  · split at e
    · rename_i ts ids h1
      try simp only [h1]
      cases h2 : c f ts noStore nx with
      | none => rw [h2] at e; cases e
      | some q => rw [h2] at e; rw [h _ _ _ _ _ h2]; exact e
    · cases e

/-- An operation asks the calls at one place at most. -/
theorem evOp_le {c c' : Call} {o : Oper} {T : Nat → V} {σ : Store} {nx : Nat} {r : V × Store × Nat} (h : ∀ f args σ r, evCall conv c f args σ nx = some r → evCall conv c' f args σ nx = some r) (e : evOp P conv c o T σ nx = some r) : evOp P conv c' o T σ nx = some r := by
  obtain ⟨dst, op, type, pos, after, guard⟩ := o
  cases op <;> simp only [evOp] at e ⊢ <;> first | exact e | skip
  rename_i c0
  obtain ⟨callee, args, ts⟩ := c0
  cases callee with
  | value f =>
    simp only at e ⊢
    split at e
    · rename_i h1
      try simp only [h1]
      exact h _ _ _ _ e
    · cases e
  | builtin b => exact e
  | invoke r m => exact e

theorem evOp_calls {c : Call} {o : Oper} {T : Nat → V} {σ : Store} {nx : Nat} {r : V × Store × Nat} (e : evOp P conv c o T σ nx = some r) :
    (∀ c', evOp P conv c' o T σ nx = some r) ∨ ∃ f args, evCall conv c f args σ nx = some r ∧ ∀ c', evCall conv c' f args σ nx = some r → evOp P conv c' o T σ nx = some r := by
  obtain ⟨dst, op, type, pos, after, guard⟩ := o
  cases op <;> simp only [evOp] at e ⊢ <;> first | exact .inl fun _ => e | skip
  rename_i c0
  obtain ⟨callee, args, ts⟩ := c0
  cases callee with
  | value f =>
    simp only at e ⊢
    split at e
    · rename_i h1
      try simp only [h1]
      exact .inr ⟨_, _, e, fun c' h => h⟩
    · cases e
  | builtin b => exact .inl fun _ => e
  | invoke r m => exact .inl fun _ => e

theorem evOpD_le {c c' : Call} (h : CLe c c') {o : Oper} {T : Nat → V} {σ : Store} {nx : Nat} {r : V × Store × Nat} (e : evOpD P conv c o T σ nx = some r) : evOpD P conv c' o T σ nx = some r := by
  unfold evOpD at *
  split at e
  · rename_i h1
    rw [if_pos h1]
    cases h2 : evOp P conv c o T (restrict σ (footIds conv T o)) nx with
    | none => rw [h2] at e; cases e
    | some q => rw [h2] at e; rw [evOp_le (fun f args σ r => evCall_le h) h2]; exact e
  · cases e

theorem evOps_le {c c' : Call} (h : CLe c c') {ops : Array Oper} : ∀ (l : List Oper) (s s' : St), evOps P conv c ops l s = some s' → evOps P conv c' ops l s = some s'
  | [], s, s', e => e
  | o :: l, s, s', e => by
    unfold evOps at *
    split at e
    · rename_i h1
      try simp only [h1]
      cases h2 : evOp P conv c o s.T s.σ s.nx with
      | none => rw [h2] at e; cases e
      | some q =>
        rw [h2] at e
        rw [evOp_le (fun f args σ r => evCall_le h) h2]
        exact evOps_le h l _ _ e
    · rename_i h1
      try simp only [h1]
      exact evOps_le h l _ _ e
    · cases e

theorem evOpsD_le {c c' : Call} (h : CLe c c') {ops : Array Oper} : ∀ (l : List Oper) (s : St) (r : St × List (List Nat)), evOpsD P conv c ops l s = some r → evOpsD P conv c' ops l s = some r
  | [], s, r, e => e
  | o :: l, s, r, e => by
    unfold evOpsD at *
    split at e
    · rename_i h1
      try simp only [h1]
      cases h2 : evOpD P conv c o s.T s.σ s.nx with
      | none => rw [h2] at e; cases e
      | some q =>
        rw [h2] at e
        rw [evOpD_le h h2]
        simp only at e ⊢
        cases h3 : evOpsD P conv c ops l ⟨putT s.T o.dst q.1, q.2.1, q.2.2⟩ with
        | none => rw [h3] at e; cases e
        | some q3 => rw [h3] at e; rw [evOpsD_le h l _ _ h3]; exact e
    · rename_i h1
      try simp only [h1]
      cases h3 : evOpsD P conv c ops l ⟨putT s.T o.dst (.tup []), s.σ, s.nx⟩ with
      | none => rw [h3] at e; cases e
      | some q3 => rw [h3] at e; rw [evOpsD_le h l _ _ h3]; exact e
    · cases e

theorem evDraw_le {c c' : Call} (h : CLe c c') {ops : Array Oper} {s s' : St} (e : evDraw P conv c ops s = some s') : evDraw P conv c' ops s = some s' := by
  unfold evDraw at *
  split at e
  · rename_i h1
    rw [if_pos h1]
    cases h2 : evOpsD P conv c ops ops.toList s with
    | none => rw [h2] at e; cases e
    | some q => rw [h2] at e; rw [evOpsD_le h _ _ _ h2]; exact e
  · cases e

/-- The loop without a bound on its rounds. -/
noncomputable def evLoopI (body : St → Option (Ex × St)) (s : St) : Option (Ex × St) :=
  open Classical in if h : ∃ r, ∃ n, evLoop body n s = some r then some h.choose else none

theorem evLoop_more {body : St → Option (Ex × St)} : ∀ (n : Nat) (s : St) (r : Ex × St), evLoop body n s = some r → evLoop body (n + 1) s = some r
  | 0, s, r, h => by cases h
  | n + 1, s, r, h => by
    unfold evLoop at h ⊢
    split at h
    · exact evLoop_more n _ r h
    · exact h

theorem evLoop_mono' {body : St → Option (Ex × St)} {n m : Nat} (hnm : n ≤ m) {s : St} {r : Ex × St} (h : evLoop body n s = some r) : evLoop body m s = some r := by
  induction hnm with
  | refl => exact h
  | step _ ih => exact evLoop_more _ _ _ ih

theorem evLoopI_some {body : St → Option (Ex × St)} {s : St} {r : Ex × St} : evLoopI body s = some r ↔ ∃ n, evLoop body n s = some r := by
  unfold evLoopI
  constructor
  · intro h
    split at h
    · rename_i hex
      simp only [Option.some.injEq] at h; subst h
      exact hex.choose_spec
    · cases h
  · rintro ⟨n, hn⟩
    have hex : ∃ r, ∃ n, evLoop body n s = some r := ⟨r, n, hn⟩
    rw [dif_pos hex]
    obtain ⟨m, hm⟩ := hex.choose_spec
    have h1 := evLoop_mono' (Nat.le_max_left n m) hn
    have h2 := evLoop_mono' (Nat.le_max_right n m) hm
    rw [h1] at h2
    exact h2.symm

/-- A round more. -/
theorem evLoopI_eq (body : St → Option (Ex × St)) (s : St) : evLoopI body s = match body s with
    | some (.norm, s') => evLoopI body s'
    | r => r := by
  apply Option.ext
  intro r
  rw [evLoopI_some]
  constructor
  · rintro ⟨n, hn⟩
    cases n with
    | zero => cases hn
    | succ n =>
      unfold evLoop at hn
      cases hb : body s with
      | none => rw [hb] at hn; cases hn
      | some q =>
        rw [hb] at hn
        obtain ⟨ex, s1⟩ := q
        cases ex with
        | norm => exact evLoopI_some.2 ⟨n, hn⟩
        | exit id => exact hn
        | ret => exact hn
  · intro h
    split at h
    · rename_i s' hb
      obtain ⟨n, hn⟩ := evLoopI_some.1 h
      exact ⟨n + 1, by unfold evLoop; simp only [hb]; exact hn⟩
    · rename_i hne
      refine ⟨1, ?_⟩
      unfold evLoop
      split
      · rename_i s' hb; exact absurd hb (hne s')
      · exact h

noncomputable def evCodeI (P : Program) (conv : FuncId → Conv) (call : Call) : Code → St → Option (Ex × St)
  | .skip, s => some (.norm, s)
  | .region _ ops draw, s => match (if draw then evDraw P conv call ops s else evOps P conv call ops ops.toList s) with
    | some s' => some (.norm, s')
    | none => none
  | .seq a b, s => match evCodeI P conv call a s with
    | some (.norm, s') => evCodeI P conv call b s'
    | r => r
  | .cond c a b, s => match val s.T c with
    | .sc (.bool true) => evCodeI P conv call a s
    | .sc (.bool false) => evCodeI P conv call b s
    | _ => none
  | .block id c, s => match evCodeI P conv call c s with
    | some (.exit j, s') => if j = id then some (.norm, s') else some (.exit j, s')
    | r => r
  | .loop c, s => evLoopI (evCodeI P conv call c) s
  | .exit id, s => some (.exit id, s)
  | .ret, s => some (.ret, s)
  | _, _ => none

theorem evLoop_le {b b' : St → Option (Ex × St)} (h : ∀ s r, b s = some r → b' s = some r) : ∀ (n : Nat) (s : St) (r : Ex × St), evLoop b n s = some r → evLoop b' n s = some r
  | 0, s, r, e => by cases e
  | n + 1, s, r, e => by
    unfold evLoop at *
    split at e
    · rename_i s' hb; simp only [h _ _ hb]; exact evLoop_le h n s' r e
    · cases hbs : b s with
      | none => rw [hbs] at e; cases e
      | some q =>
        rw [hbs] at e
        rw [h _ _ hbs]
        obtain ⟨ex, s1⟩ := q
        cases ex with
        | norm => rename_i hne; exact absurd hbs (hne s1)
        | exit id => exact e
        | ret => exact e

theorem evCode_le {c c' : Call} (h : CLe c c') {n m : Nat} (hnm : n ≤ m) : ∀ (cd : Code) (s : St) (r : Ex × St), evCode P conv c n cd s = some r → evCode P conv c' m cd s = some r := by
  intro cd
  induction cd with
  | region id ops draw =>
    intro s r e
    simp only [evCode] at *
    cases draw with
    | true =>
      simp only [if_true] at *
      cases h2 : evDraw P conv c ops s with
      | none => rw [h2] at e; cases e
      | some q => rw [h2] at e; rw [evDraw_le h h2]; exact e
    | false =>
      simp only [Bool.false_eq_true, if_false] at *
      cases h2 : evOps P conv c ops ops.toList s with
      | none => rw [h2] at e; cases e
      | some q => rw [h2] at e; rw [evOps_le h _ _ _ h2]; exact e
  | seq a b iha ihb =>
    intro s r e
    simp only [evCode] at *
    cases h2 : evCode P conv c n a s with
    | none => rw [h2] at e; cases e
    | some q =>
      rw [h2] at e
      rw [iha _ _ h2]
      obtain ⟨ex, s1⟩ := q
      cases ex <;> first | exact ihb _ _ e | exact e
  | cond v a b iha ihb =>
    intro s r e
    simp only [evCode] at *
    split at e
    · exact iha _ _ e
    · exact ihb _ _ e
    · cases e
  | block id cd ih =>
    intro s r e
    simp only [evCode] at *
    cases h2 : evCode P conv c n cd s with
    | none => rw [h2] at e; cases e
    | some q => rw [h2] at e; rw [ih _ _ h2]; exact e
  | loop cd ih =>
    intro s r e
    simp only [evCode] at *
    exact evLoop_mono' hnm (evLoop_le (fun s r => ih s r) n s r e)
  | skip => intro s r e; exact e
  | exit id => intro s r e; exact e
  | ret => intro s r e; exact e
  | _ => intro s r e; simp only [evCode] at e; cases e

theorem evCodeI_of {c c' : Call} (h : CLe c c') {n : Nat} : ∀ (cd : Code) (s : St) (r : Ex × St), evCode P conv c n cd s = some r → evCodeI P conv c' cd s = some r := by
  intro cd
  induction cd with
  | region id ops draw =>
    intro s r e
    simp only [evCode, evCodeI] at *
    cases draw with
    | true =>
      simp only [if_true] at *
      cases h2 : evDraw P conv c ops s with
      | none => rw [h2] at e; cases e
      | some q => rw [h2] at e; rw [evDraw_le h h2]; exact e
    | false =>
      simp only [Bool.false_eq_true, if_false] at *
      cases h2 : evOps P conv c ops ops.toList s with
      | none => rw [h2] at e; cases e
      | some q => rw [h2] at e; rw [evOps_le h _ _ _ h2]; exact e
  | seq a b iha ihb =>
    intro s r e
    simp only [evCode, evCodeI] at *
    cases h2 : evCode P conv c n a s with
    | none => rw [h2] at e; cases e
    | some q =>
      rw [h2] at e
      rw [iha _ _ h2]
      obtain ⟨ex, s1⟩ := q
      cases ex <;> first | exact ihb _ _ e | exact e
  | cond v a b iha ihb =>
    intro s r e
    simp only [evCode, evCodeI] at *
    split at e
    · rename_i hv; simp only [hv]; exact iha _ _ e
    · rename_i hv; simp only [hv]; exact ihb _ _ e
    · cases e
  | block id cd ih =>
    intro s r e
    simp only [evCode, evCodeI] at *
    cases h2 : evCode P conv c n cd s with
    | none => rw [h2] at e; cases e
    | some q => rw [h2] at e; rw [ih _ _ h2]; exact e
  | loop cd ih =>
    intro s r e
    simp only [evCode, evCodeI] at *
    exact evLoopI_some.2 ⟨n, evLoop_le (fun s r => ih s r) n s r e⟩
  | skip => intro s r e; exact e
  | exit id => intro s r e; exact e
  | ret => intro s r e; exact e
  | _ => intro s r e; simp only [evCode] at e; cases e

/-! ### Calls without a bound -/

def Chain (C : Nat → Call) : Prop := ∀ k, CLe (C k) (C (k + 1))

theorem Chain.le {C : Nat → Call} (h : Chain C) {k m : Nat} (hkm : k ≤ m) : CLe (C k) (C m) := by
  induction hkm with
  | refl => exact fun _ _ _ _ _ e => e
  | step _ ih => exact fun f args σ nx r e => h _ f args σ nx r (ih f args σ nx r e)

noncomputable def sup (C : Nat → Call) : Call := fun f args σ nx =>
  open Classical in if h : ∃ r, ∃ k, C k f args σ nx = some r then some h.choose else none

theorem sup_some {C : Nat → Call} (hC : Chain C) {f : FuncId} {args : List V} {σ : Store} {nx : Nat} {r : V × Store × Nat} : sup C f args σ nx = some r ↔ ∃ k, C k f args σ nx = some r := by
  unfold sup
  constructor
  · intro h
    split at h
    · rename_i hex
      simp only [Option.some.injEq] at h; subst h
      exact hex.choose_spec
    · cases h
  · rintro ⟨n, hn⟩
    have hex : ∃ r, ∃ k, C k f args σ nx = some r := ⟨r, n, hn⟩
    rw [dif_pos hex]
    obtain ⟨m, hm⟩ := hex.choose_spec
    have h1 := hC.le (Nat.le_max_left n m) _ _ _ _ _ hn
    have h2 := hC.le (Nat.le_max_right n m) _ _ _ _ _ hm
    rw [h1] at h2
    exact h2.symm

theorem evCall_sup {C : Nat → Call} (hC : Chain C) {f : FuncId} {args : List V} {σ : Store} {nx : Nat} {r : V × Store × Nat} (e : evCall conv (sup C) f args σ nx = some r) : ∃ k, evCall conv (C k) f args σ nx = some r := by
  unfold evCall at *
  split at e
  · exact (sup_some hC).1 e
  · split at e
    · rename_i ts ids h1
      try simp only [h1]
      cases h2 : sup C f ts noStore 0 with
      | none => rw [h2] at e; cases e
      | some q =>
        obtain ⟨k, hk⟩ := (sup_some hC).1 h2
        rw [h2] at e
        exact ⟨k, by rw [hk]; exact e⟩
    · cases e
  · split at e
    · rename_i ts ids h1
      try simp only [h1]
      cases h2 : sup C f ts noStore nx with
      | none => rw [h2] at e; cases e
      | some q =>
        obtain ⟨k, hk⟩ := (sup_some hC).1 h2
        rw [h2] at e
        exact ⟨k, by rw [hk]; exact e⟩
    · cases e

theorem evOp_sup {C : Nat → Call} (hC : Chain C) {o : Oper} {T : Nat → V} {σ : Store} {nx : Nat} {r : V × Store × Nat} (e : evOp P conv (sup C) o T σ nx = some r) : ∃ k, evOp P conv (C k) o T σ nx = some r := by
  rcases evOp_calls e with h | ⟨f, args, h1, h2⟩
  · exact ⟨0, h _⟩
  · obtain ⟨k, hk⟩ := evCall_sup hC h1
    exact ⟨k, h2 _ hk⟩

theorem evOpD_sup {C : Nat → Call} (hC : Chain C) {o : Oper} {T : Nat → V} {σ : Store} {nx : Nat} {r : V × Store × Nat} (e : evOpD P conv (sup C) o T σ nx = some r) : ∃ k, evOpD P conv (C k) o T σ nx = some r := by
  unfold evOpD at *
  split at e
  · rename_i h1
    simp only [h1, if_true]
    cases h2 : evOp P conv (sup C) o T (restrict σ (footIds conv T o)) nx with
    | none => rw [h2] at e; cases e
    | some q =>
      obtain ⟨k, hk⟩ := evOp_sup hC h2
      rw [h2] at e
      exact ⟨k, by rw [hk]; exact e⟩
  · cases e

theorem evOps_sup {C : Nat → Call} (hC : Chain C) {ops : Array Oper} : ∀ (l : List Oper) (s s' : St), evOps P conv (sup C) ops l s = some s' → ∃ k, evOps P conv (C k) ops l s = some s'
  | [], s, s', e => ⟨0, e⟩
  | o :: l, s, s', e => by
    unfold evOps at e
    split at e
    · rename_i h1
      cases h2 : evOp P conv (sup C) o s.T s.σ s.nx with
      | none => rw [h2] at e; cases e
      | some q =>
        rw [h2] at e
        obtain ⟨k, hk⟩ := evOp_sup hC h2
        obtain ⟨m, hm⟩ := evOps_sup hC l _ _ e
        refine ⟨max k m, ?_⟩
        unfold evOps
        simp only [h1, evOp_le (fun f args σ r => evCall_le (hC.le (Nat.le_max_left k m))) hk]
        exact evOps_le (hC.le (Nat.le_max_right k m)) _ _ _ hm
    · rename_i h1
      obtain ⟨m, hm⟩ := evOps_sup hC l _ _ e
      exact ⟨m, by unfold evOps; simp only [h1]; exact hm⟩
    · cases e

theorem evOpsD_sup {C : Nat → Call} (hC : Chain C) {ops : Array Oper} : ∀ (l : List Oper) (s : St) (r : St × List (List Nat)), evOpsD P conv (sup C) ops l s = some r → ∃ k, evOpsD P conv (C k) ops l s = some r
  | [], s, r, e => ⟨0, e⟩
  | o :: l, s, r, e => by
    unfold evOpsD at e
    split at e
    · rename_i h1
      cases h2 : evOpD P conv (sup C) o s.T s.σ s.nx with
      | none => rw [h2] at e; cases e
      | some q =>
        rw [h2] at e
        simp only at e
        cases h3 : evOpsD P conv (sup C) ops l ⟨putT s.T o.dst q.1, q.2.1, q.2.2⟩ with
        | none => rw [h3] at e; cases e
        | some q3 =>
          rw [h3] at e
          obtain ⟨k, hk⟩ := evOpD_sup hC h2
          obtain ⟨m, hm⟩ := evOpsD_sup hC l _ _ h3
          refine ⟨max k m, ?_⟩
          unfold evOpsD
          simp only [h1, evOpD_le (hC.le (Nat.le_max_left k m)) hk, evOpsD_le (hC.le (Nat.le_max_right k m)) _ _ _ hm]
          exact e
    · rename_i h1
      cases h3 : evOpsD P conv (sup C) ops l ⟨putT s.T o.dst (.tup []), s.σ, s.nx⟩ with
      | none => rw [h3] at e; cases e
      | some q3 =>
        rw [h3] at e
        obtain ⟨m, hm⟩ := evOpsD_sup hC l _ _ h3
        refine ⟨m, ?_⟩
        unfold evOpsD
        simp only [h1, hm]
        exact e
    · cases e

theorem evDraw_sup {C : Nat → Call} (hC : Chain C) {ops : Array Oper} {s s' : St} (e : evDraw P conv (sup C) ops s = some s') : ∃ k, evDraw P conv (C k) ops s = some s' := by
  unfold evDraw at *
  split at e
  · rename_i h1
    simp only [h1, if_true]
    cases h2 : evOpsD P conv (sup C) ops ops.toList s with
    | none => rw [h2] at e; cases e
    | some q =>
      obtain ⟨k, hk⟩ := evOpsD_sup hC _ _ _ h2
      rw [h2] at e
      exact ⟨k, by rw [hk]; exact e⟩
  · cases e

theorem evLoop_sup {B : Nat → St → Option (Ex × St)} {b : St → Option (Ex × St)} (hB : ∀ k m, k ≤ m → ∀ s r, B k s = some r → B m s = some r) (h : ∀ s r, b s = some r → ∃ k, B k s = some r) :
    ∀ (n : Nat) (s : St) (r : Ex × St), evLoop b n s = some r → ∃ k, evLoop (B k) n s = some r
  | 0, s, r, e => by cases e
  | n + 1, s, r, e => by
    unfold evLoop at e
    split at e
    · rename_i s' hb
      obtain ⟨k, hk⟩ := h _ _ hb
      obtain ⟨m, hm⟩ := evLoop_sup hB h n s' r e
      refine ⟨max k m, ?_⟩
      unfold evLoop
      simp only [hB k _ (Nat.le_max_left k m) _ _ hk]
      exact evLoop_le (hB m _ (Nat.le_max_right k m)) n s' r hm
    · rename_i hne
      obtain ⟨k, hk⟩ := h _ _ e
      refine ⟨k, ?_⟩
      unfold evLoop
      rw [hk]
      obtain ⟨ex, s1⟩ := r
      cases ex with
      | norm => exact absurd e (hne s1)
      | exit id => rfl
      | ret => rfl

theorem evCodeI_sup {C : Nat → Call} (hC : Chain C) : ∀ (cd : Code) (s : St) (r : Ex × St), evCodeI P conv (sup C) cd s = some r → ∃ k, evCode P conv (C k) k cd s = some r := by
  intro cd
  induction cd with
  | region id ops draw =>
    intro s r e
    simp only [evCode, evCodeI] at *
    cases draw with
    | true =>
      simp only [if_true] at *
      cases h2 : evDraw P conv (sup C) ops s with
      | none => rw [h2] at e; cases e
      | some q => obtain ⟨k, hk⟩ := evDraw_sup hC h2; rw [h2] at e; exact ⟨k, by rw [hk]; exact e⟩
    | false =>
      simp only [Bool.false_eq_true, if_false] at *
      cases h2 : evOps P conv (sup C) ops ops.toList s with
      | none => rw [h2] at e; cases e
      | some q => obtain ⟨k, hk⟩ := evOps_sup hC _ _ _ h2; rw [h2] at e; exact ⟨k, by rw [hk]; exact e⟩
  | seq a b iha ihb =>
    intro s r e
    simp only [evCode, evCodeI] at *
    cases h2 : evCodeI P conv (sup C) a s with
    | none => rw [h2] at e; cases e
    | some q =>
      rw [h2] at e
      obtain ⟨k, hk⟩ := iha _ _ h2
      obtain ⟨ex, s1⟩ := q
      cases ex with
      | norm =>
        obtain ⟨m, hm⟩ := ihb _ _ e
        exact ⟨max k m, by rw [evCode_le (hC.le (Nat.le_max_left k m)) (Nat.le_max_left k m) _ _ _ hk]; exact evCode_le (hC.le (Nat.le_max_right k m)) (Nat.le_max_right k m) _ _ _ hm⟩
      | exit id => exact ⟨k, by rw [hk]; exact e⟩
      | ret => exact ⟨k, by rw [hk]; exact e⟩
  | cond v a b iha ihb =>
    intro s r e
    simp only [evCode, evCodeI] at *
    split at e
    · rename_i hv; simp only [hv]; exact iha _ _ e
    · rename_i hv; simp only [hv]; exact ihb _ _ e
    · cases e
  | block id cd ih =>
    intro s r e
    simp only [evCode, evCodeI] at *
    cases h2 : evCodeI P conv (sup C) cd s with
    | none => rw [h2] at e; cases e
    | some q => obtain ⟨k, hk⟩ := ih _ _ h2; rw [h2] at e; exact ⟨k, by rw [hk]; exact e⟩
  | loop cd ih =>
    intro s r e
    simp only [evCode, evCodeI] at *
    obtain ⟨n, hn⟩ := evLoopI_some.1 e
    obtain ⟨k, hk⟩ := evLoop_sup (B := fun k => evCode P conv (C k) k cd) (fun k m hkm s r => evCode_le (hC.le hkm) hkm cd s r) (fun s r h => ih s r h) n s r hn
    refine ⟨max n k, ?_⟩
    exact evLoop_mono' (Nat.le_max_left n k) (evLoop_le (fun s r => evCode_le (hC.le (Nat.le_max_right n k)) (Nat.le_max_right n k) cd s r) n s r hk)
  | skip => intro s r e; exact ⟨0, e⟩
  | exit id => intro s r e; exact ⟨0, e⟩
  | ret => intro s r e; exact ⟨0, e⟩
  | _ => intro s r e; simp only [evCodeI] at e; cases e

theorem evBody_le {c c' : Call} (h : CLe c c') {n m : Nat} (hnm : n ≤ m) {fn : Func} {body : Code} {args : List V} {σ : Store} {nx : Nat} {r : V × Store × Nat} (e : evBody P conv c n fn body args σ nx = some r) : evBody P conv c' m fn body args σ nx = some r := by
  unfold evBody at *
  cases h2 : evCode P conv c n body ⟨argsT args, σ, nx⟩ with
  | none => rw [h2] at e; cases e
  | some q => rw [h2] at e; rw [evCode_le h hnm _ _ _ h2]; exact e

theorem evF_chain (ext : Ext) : Chain (evF P conv ext) := by
  intro k
  induction k with
  | zero => intro f args σ nx r e; cases e
  | succ k ih =>
    intro f args σ nx r e
    unfold evF at e ⊢
    split at e
    · exact e
    · rename_i hg
      split at e
      · rename_i fn hf
        try simp only [hg]
        split at e
        · rename_i body hb
          try simp only [hb]
          split at e
          · rename_i hok
            rw [if_pos hok]
            exact evBody_le ih (Nat.le_succ k) e
          · cases e
        · cases e
      · cases e

/-- **The interpreter.** -/
noncomputable def ev (P : Program) (conv : FuncId → Conv) (ext : Ext) : Call := sup (evF P conv ext)

/-- **What the interpreter tells holds of the program.** -/
theorem ev_sound (hm : P.follows .mixedOrders = true) {ext : Ext} (he : ExtOk P ext) : CallOk P (ev P conv ext) := fun f args σ nx v σ' nx' h => by
  obtain ⟨k, hk⟩ := (sup_some (evF_chain ext)).1 h
  exact evF_sound hm he k f args σ nx v σ' nx' hk

/-- How a function's code comes to be told. -/
noncomputable def bodyI (P : Program) (conv : FuncId → Conv) (call : Call) (rs : List ResultVar) (body : Code) (s : St) : Res :=
  match evCodeI P conv call body s with
  | some (.norm, st) => match evResults P st.T st.σ rs with
    | some vs => some (oneOf vs, st.σ, st.nx)
    | none => none
  | some (.ret, st) => match evResults P st.T st.σ rs with
    | some vs => some (oneOf vs, st.σ, st.nx)
    | none => none
  | _ => none

theorem ev_ext {ext : Ext} {f : FuncId} {g : List V → Store → Nat → Res} (hg : ext f = some g) (args : List V) (σ : Store) (nx : Nat) : ev P conv ext f args σ nx = g args σ nx := by
  apply Option.ext
  intro r
  unfold ev
  rw [sup_some (evF_chain ext)]
  constructor
  · rintro ⟨k, hk⟩
    cases k with
    | zero => cases hk
    | succ k => unfold evF at hk; simpa only [hg] using hk
  · intro h
    exact ⟨1, by unfold evF; simpa only [hg] using h⟩

theorem ev_eq {ext : Ext} {f : FuncId} {fn : Func} {body : Code} {rs : List ResultVar} (hg : ext f = none) (hf : P.funcs[f]? = some fn) (hb : fn.body = some body) (hr : fn.results.toList = rs) {args : List V} (hok : fnOk fn body args.length = true) (σ : Store) (nx : Nat) :
    ev P conv ext f args σ nx = bodyI P conv (ev P conv ext) rs body ⟨argsT args, σ, nx⟩ := by
  apply Option.ext
  intro r
  unfold ev
  rw [sup_some (evF_chain ext)]
  constructor
  · rintro ⟨k, hk⟩
    cases k with
    | zero => cases hk
    | succ k =>
      unfold evF at hk
      simp only [hg, hf, hb, hok, if_true] at hk
      unfold evBody at hk
      unfold bodyI
      cases h2 : evCode P conv (evF P conv ext k) k body ⟨argsT args, σ, nx⟩ with
      | none => rw [h2] at hk; cases hk
      | some q =>
        rw [h2] at hk
        rw [evCodeI_of (c' := sup (evF P conv ext)) (fun f args σ nx r e => (sup_some (evF_chain ext)).2 ⟨k, e⟩) _ _ _ h2, ← hr]
        exact hk
  · intro h
    unfold bodyI at h
    cases h2 : evCodeI P conv (sup (evF P conv ext)) body ⟨argsT args, σ, nx⟩ with
    | none => rw [h2] at h; cases h
    | some q =>
      rw [h2] at h
      obtain ⟨k, hk⟩ := evCodeI_sup (evF_chain ext) _ _ _ h2
      refine ⟨k + 1, ?_⟩
      unfold evF
      simp only [hg, hf, hb, hok, if_true]
      unfold evBody
      rw [hk, hr]
      exact h

end
end Go.TV
