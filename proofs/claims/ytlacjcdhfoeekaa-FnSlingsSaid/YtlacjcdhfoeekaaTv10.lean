import Derived.Test.YtlacjcdhfoeekaaTv9
set_option linter.unusedSimpArgs false
set_option linter.unusedVariables false
namespace Go.TV
open Go.RowKit
set_option linter.unusedVariables false
set_option linter.unusedSimpArgs false

def stripL (f : V → Option (V × List Nat)) : List V → Option (List V × List Nat)
  | [] => some ([], [])
  | v :: vs => match f v, stripL f vs with
    | some (t, i), some (ts, j) => some (t :: ts, i ++ j)
    | _, _ => none

/-- The tree that a value reads as, and the blocks that it reads. -/
def strip (σ : Store) : Nat → V → Option (V × List Nat)
  | 0, v => match v with
    | .sc u => some (.sc u, [])
    | .nil => some (.ts [] 0, [])
    | .junk => some (.junk, [])
    | .tp row off => some (.tp row off, [])
    | .ts row len => some (.ts row len, [])
    | _ => none
  | d + 1, v => match v with
    | .sc u => some (.sc u, [])
    | .nil => some (.ts [] 0, [])
    | .junk => some (.junk, [])
    | .tp row off => some (.tp row off, [])
    | .ts row len => some (.ts row len, [])
    | .agg vs => match stripL (strip σ d) vs with
      | some (ts, ids) => some (.agg ts, ids)
      | none => none
    | .tup vs => match stripL (strip σ d) vs with
      | some (ts, ids) => some (.tup ts, ids)
      | none => none
    | .clo f vs => match stripL (strip σ d) vs with
      | some (ts, ids) => some (.clo f ts, ids)
      | none => none
    | .rp b off => match σ b with
      | some B => match stripL (strip σ d) B.cells with
        | some (ts, ids) => some (.tp ts off, b :: ids)
        | none => none
      | none => none
    | .rs b off len => match σ b with
      | some B => if off + len * B.st ≤ B.cells.length then
          match stripL (strip σ d) ((B.cells.drop off).take (len * B.st)) with
          | some (ts, ids) => some (.ts ts len, b :: ids)
          | none => none
        else none
      | none => none

/-- The situation in which the blocks' cells have become part of the trees. -/
def Covers (s : Sit) (σ : Store) (ids : List Nat) (s' : Sit) : Prop :=
  s'.w = s.w ∧ (∀ k o, s.Z k o → s'.Z k o) ∧ ∀ b ∈ ids, ∀ B l, σ b = some B → s.β b = some l → ∀ i, i < B.cells.length → s'.Z l.k (l.o + i)

theorem Covers.mono {s : Sit} {σ : Store} {ids ids' : List Nat} {s' : Sit} (h : Covers s σ ids s') (hs : ∀ b ∈ ids', b ∈ ids) : Covers s σ ids' s' :=
  ⟨h.1, h.2.1, fun b hb => h.2.2 b (hs b hb)⟩

theorem Covers.le_nb {s : Sit} {σ : Store} {ids : List Nat} {s' : Sit} (h : Covers s σ ids s') : Le s.nb s'.nb :=
  ⟨h.2.1, fun k o _ => by show s'.w.cell? _ = s.w.cell? _; rw [h.1], fun _ _ e => by cases e⟩

theorem stripL_sound {s : Sit} {σ : Store} {f : V → Option (V × List Nat)}
    (hf : ∀ (v t : V) (ids : List Nat) (x : Value) (s' : Sit), f v = some (t, ids) → VR s v x → Covers s σ ids s' → VR s'.nb t x) :
    ∀ {vs ts : List V} {ids : List Nat} {xs : List Value} {s' : Sit}, stripL f vs = some (ts, ids) → VRs s vs xs → Covers s σ ids s' → VRs s'.nb ts xs
  | [], ts, ids, xs, s', h, hx, hc => by
    simp only [stripL, Option.some.injEq, Prod.mk.injEq] at h
    obtain ⟨rfl, rfl⟩ := h
    unfold VRs at hx ⊢; exact hx
  | v :: vs, ts, ids, xs, s', h, hx, hc => by
    unfold stripL at h
    split at h
    · rename_i t i ts' j e1 e2
      simp only [Option.some.injEq, Prod.mk.injEq] at h
      obtain ⟨rfl, rfl⟩ := h
      unfold VRs at hx ⊢
      obtain ⟨y, ys, rfl, h1, h2⟩ := hx
      exact ⟨y, ys, rfl, hf v t i y s' e1 h1 (hc.mono fun b hb => List.mem_append_left _ hb), stripL_sound hf e2 h2 (hc.mono fun b hb => List.mem_append_right _ hb)⟩
    · cases h

theorem stripL_length {f : V → Option (V × List Nat)} : ∀ {vs ts : List V} {ids : List Nat}, stripL f vs = some (ts, ids) → ts.length = vs.length
  | [], ts, ids, h => by simp only [stripL, Option.some.injEq, Prod.mk.injEq] at h; rw [← h.1]
  | v :: vs, ts, ids, h => by
    unfold stripL at h
    split at h
    · rename_i e1 e2
      simp only [Option.some.injEq, Prod.mk.injEq] at h
      rw [← h.1, List.length_cons, stripL_length e2, List.length_cons]
    · cases h

theorem VRow_of_cover {s s' : Sit} {σ : Store} {ids : List Nat} (hi : Inv s σ) (hc : Covers s σ ids s') {b : Nat} (hb : b ∈ ids) {B : Blk} (hB : σ b = some B) {l : Loc} (hl : s.β b = some l) {off n : Nat} {ts : List V} (hn : off + n ≤ B.cells.length)
    (h : ∀ xs, VRs s ((B.cells.drop off).take n) xs → VRs s'.nb ts xs) (hlen : ts.length = n) : VRow s'.nb ts l.k (l.o + off) := by
  obtain ⟨cs, hcs, hrd⟩ := ((hi.reads hB hl).drop off).take n
  have h1 := h cs hcs
  refine VRow_of fun i v hv => ?_
  have hi' : i < n := by rw [← hlen]; exact (List.getElem?_eq_some_iff.1 hv).1
  obtain ⟨x, hx, hr⟩ := VRs_get h1 hv
  refine ⟨by rw [Nat.add_assoc]; exact hc.2.2 b hb B l hB hl (off + i) (by omega), x, ?_, hr⟩
  show s'.w.cell? _ = _
  rw [hc.1]
  exact hrd i x hx

theorem strip_sound {s : Sit} {σ : Store} (hi : Inv s σ) : ∀ (d : Nat) (v t : V) (ids : List Nat) (x : Value) (s' : Sit), strip σ d v = some (t, ids) → VR s v x → Covers s σ ids s' → VR s'.nb t x := by
  have base : ∀ (v t : V) (ids : List Nat) (x : Value) (s' : Sit), strip σ 0 v = some (t, ids) → VR s v x → Covers s σ ids s' → VR s'.nb t x := by
    intro v t ids x s' h hx hc
    unfold strip at h
    split at h <;> first | (simp only [Option.some.injEq, Prod.mk.injEq] at h; obtain ⟨rfl, rfl⟩ := h) | cases h
    · unfold VR at *; exact hx
    · unfold VR at hx; obtain ⟨a, rfl⟩ := hx; exact VR_ts_nil
    · unfold VR; trivial
    · unfold VR at *; obtain ⟨k, o, e, hr⟩ := hx; exact ⟨k, o, e, VRow_mono hc.le_nb _ _ _ hr⟩
    · unfold VR at *
      obtain ⟨a, cap, e, hcap, hr⟩ := hx
      exact ⟨a, cap, e, hcap, hr.imp id fun ⟨k, o, e, hr⟩ => ⟨k, o, e, VRow_mono hc.le_nb _ _ _ hr⟩⟩
  intro d
  induction d with
  | zero => exact base
  | succ d ih =>
    intro v t ids x s' h hx hc
    cases v with
    | sc u => exact base (.sc u) _ _ _ _ h hx hc
    | nil => exact base (.nil) _ _ _ _ h hx hc
    | junk => exact base (.junk) _ _ _ _ h hx hc
    | tp row off => exact base (.tp row off) _ _ _ _ h hx hc
    | ts row len => exact base (.ts row len) _ _ _ _ h hx hc
    | agg vs =>
      simp only [strip] at h
      split at h
      · rename_i ts ids' e
        simp only [Option.some.injEq, Prod.mk.injEq] at h; obtain ⟨rfl, rfl⟩ := h
        unfold VR at hx ⊢
        obtain ⟨xs, rfl, hr⟩ := hx
        exact ⟨xs, rfl, stripL_sound (fun v t ids x s' => ih v t ids x s') e hr hc⟩
      · cases h
    | tup vs =>
      simp only [strip] at h
      split at h
      · rename_i ts ids' e
        simp only [Option.some.injEq, Prod.mk.injEq] at h; obtain ⟨rfl, rfl⟩ := h
        unfold VR at hx ⊢
        obtain ⟨xs, rfl, hr⟩ := hx
        exact ⟨xs, rfl, stripL_sound (fun v t ids x s' => ih v t ids x s') e hr hc⟩
      · cases h
    | clo f vs =>
      simp only [strip] at h
      split at h
      · rename_i ts ids' e
        simp only [Option.some.injEq, Prod.mk.injEq] at h; obtain ⟨rfl, rfl⟩ := h
        unfold VR at hx ⊢
        obtain ⟨xs, rfl, hr⟩ := hx
        exact ⟨xs, rfl, stripL_sound (fun v t ids x s' => ih v t ids x s') e hr hc⟩
      · cases h
    | rp b off =>
      simp only [strip] at h
      split at h
      · rename_i B hB
        split at h
        · rename_i ts ids' e
          simp only [Option.some.injEq, Prod.mk.injEq] at h; obtain ⟨rfl, rfl⟩ := h
          unfold VR at hx ⊢
          obtain ⟨l, hl, rfl⟩ := hx
          refine ⟨l.k, l.o, rfl, ?_⟩
          have := VRow_of_cover hi hc (List.mem_cons_self) hB hl (off := 0) (n := B.cells.length) (ts := ts) (by omega) (fun xs hxs => by
            rw [List.drop_zero, List.take_length] at hxs
            exact stripL_sound (fun v t ids x s' => ih v t ids x s') e hxs (hc.mono fun b hb => List.mem_cons_of_mem _ hb)) (stripL_length e)
          exact this
        · cases h
      · cases h
    | rs b off len =>
      simp only [strip] at h
      split at h
      · rename_i B hB
        split at h
        · rename_i hfit
          split at h
          · rename_i ts ids' e
            simp only [Option.some.injEq, Prod.mk.injEq] at h; obtain ⟨rfl, rfl⟩ := h
            unfold VR at hx ⊢
            obtain ⟨l, cap, hl, rfl, hcap, hend⟩ := hx
            refine ⟨_, cap, rfl, hcap, .inr ⟨l.k, l.o + off, rfl, ?_⟩⟩
            exact VRow_of_cover hi hc (List.mem_cons_self) hB hl hfit (fun xs hxs => stripL_sound (fun v t ids x s' => ih v t ids x s') e hxs (hc.mono fun b hb => List.mem_cons_of_mem _ hb))
              (by rw [stripL_length e]; simp; omega)
          · cases h
        · cases h
      · cases h

def flatL (f : V → Bool) (vs : List V) : Bool := vs.all f
/-- No tree, no reference: nothing of it lies in memory. -/
def flat : Nat → V → Bool
  | 0, v => match v with
    | .sc _ | .nil | .junk => true
    | .ts row _ => row.isEmpty
    | _ => false
  | d + 1, v => match v with
    | .sc _ | .nil | .junk => true
    | .ts row _ => row.isEmpty
    | .agg vs | .tup vs | .clo _ vs => flatL (flat d) vs
    | _ => false

theorem flatL_sound {s s' : Sit} {f : V → Bool} (hf : ∀ (v : V) (x : Value), f v = true → VR s v x → VR s' v x) : ∀ {vs : List V} {xs : List Value}, flatL f vs = true → VRs s vs xs → VRs s' vs xs
  | [], xs, _, h => by unfold VRs at *; exact h
  | v :: vs, xs, hfl, h => by
    unfold flatL at hfl
    rw [List.all_cons, Bool.and_eq_true] at hfl
    unfold VRs at *
    obtain ⟨y, ys, rfl, h1, h2⟩ := h
    exact ⟨y, ys, rfl, hf v y hfl.1 h1, flatL_sound hf hfl.2 h2⟩

theorem flat_sound {s s' : Sit} : ∀ (d : Nat) (v : V) (x : Value), flat d v = true → VR s v x → VR s' v x := by
  have base : ∀ (v : V) (x : Value), flat 0 v = true → VR s v x → VR s' v x := by
    intro v x h hx
    unfold flat at h
    split at h
    · unfold VR at *; exact hx
    · unfold VR at *; exact hx
    · unfold VR; trivial
    · rename_i row len
      have : row = [] := by simpa using h
      subst this
      unfold VR at *
      obtain ⟨a, cap, e, hc, _⟩ := hx
      exact ⟨a, cap, e, hc, .inl rfl⟩
    · cases h
  intro d
  induction d with
  | zero => exact base
  | succ d ih =>
    intro v x h hx
    cases v with
    | sc u => exact base (.sc u) _ h hx
    | nil => exact base (.nil) _ h hx
    | junk => exact base (.junk) _ h hx
    | ts row len => exact base (.ts row len) _ h hx
    | tp row off => cases h
    | rp b off => cases h
    | rs b off len => cases h
    | agg vs => unfold VR at hx ⊢; obtain ⟨xs, rfl, hr⟩ := hx; exact ⟨xs, rfl, flatL_sound (ih) h hr⟩
    | tup vs => unfold VR at hx ⊢; obtain ⟨xs, rfl, hr⟩ := hx; exact ⟨xs, rfl, flatL_sound (ih) h hr⟩
    | clo f vs => unfold VR at hx ⊢; obtain ⟨xs, rfl, hr⟩ := hx; exact ⟨xs, rfl, flatL_sound (ih) h hr⟩

def gatherL (f : V → Option (List Nat)) : List V → Option (List Nat)
  | [] => some []
  | v :: vs => match f v, gatherL f vs with
    | some i, some j => some (i ++ j)
    | _, _ => none

/-- The blocks that a value of the call's own reaches; none if a tree is among them. -/
def gather (σ : Store) : Nat → V → Option (List Nat)
  | 0, v => match v with
    | .sc _ | .nil | .junk => some []
    | .ts row _ => if row.isEmpty then some [] else none
    | _ => none
  | d + 1, v => match v with
    | .sc _ | .nil | .junk => some []
    | .ts row _ => if row.isEmpty then some [] else none
    | .agg vs | .tup vs | .clo _ vs => gatherL (gather σ d) vs
    | .rp b _ | .rs b _ _ => match σ b with
      | some B => match gatherL (gather σ d) B.cells with
        | some ids => some (b :: ids)
        | none => none
      | none => none
    | _ => none

theorem gatherL_vr {s s' : Sit} {f : V → Option (List Nat)} (hf : ∀ (v : V) (x : Value) ids, f v = some ids → VR s v x → VR s' v x) : ∀ {vs : List V} {xs : List Value} {ids : List Nat}, gatherL f vs = some ids → VRs s vs xs → VRs s' vs xs
  | [], xs, ids, _, h => by unfold VRs at *; exact h
  | v :: vs, xs, ids, hg, h => by
    unfold gatherL at hg
    split at hg
    · rename_i i j e1 e2
      unfold VRs at *
      obtain ⟨y, ys, rfl, h1, h2⟩ := h
      exact ⟨y, ys, rfl, hf v y i e1 h1, gatherL_vr hf e2 h2⟩
    · cases hg

theorem gather_vr {s s' : Sit} {σ : Store} (hb : ∀ b l, s.β b = some l → s'.β b = some l) : ∀ (d : Nat) (v : V) (x : Value) (ids : List Nat), gather σ d v = some ids → VR s v x → VR s' v x := by
  have base : ∀ (v : V) (x : Value) (ids : List Nat), gather σ 0 v = some ids → VR s v x → VR s' v x := by
    intro v x ids h hx
    unfold gather at h
    split at h
    · unfold VR at *; exact hx
    · unfold VR at *; exact hx
    · unfold VR; trivial
    · rename_i row len
      split at h
      · rename_i he
        have : row = [] := by simpa using he
        subst this
        unfold VR at *
        obtain ⟨a, cap, e, hc, _⟩ := hx
        exact ⟨a, cap, e, hc, .inl rfl⟩
      · cases h
    · cases h
  intro d
  induction d with
  | zero => exact base
  | succ d ih =>
    intro v x ids h hx
    cases v with
    | sc u => exact base (.sc u) _ _ h hx
    | nil => exact base (.nil) _ _ h hx
    | junk => exact base (.junk) _ _ h hx
    | ts row len => exact base (.ts row len) _ _ h hx
    | tp row off => cases h
    | rp b off => unfold VR at hx ⊢; obtain ⟨l, hl, e⟩ := hx; exact ⟨l, hb _ _ hl, e⟩
    | rs b off len => unfold VR at hx ⊢; obtain ⟨l, cap, hl, e⟩ := hx; exact ⟨l, cap, hb _ _ hl, e⟩
    | agg vs => unfold VR at hx ⊢; obtain ⟨xs, rfl, hr⟩ := hx; exact ⟨xs, rfl, gatherL_vr ih h hr⟩
    | tup vs => unfold VR at hx ⊢; obtain ⟨xs, rfl, hr⟩ := hx; exact ⟨xs, rfl, gatherL_vr ih h hr⟩
    | clo f vs => unfold VR at hx ⊢; obtain ⟨xs, rfl, hr⟩ := hx; exact ⟨xs, rfl, gatherL_vr ih h hr⟩

theorem gatherL_mem {σ : Store} {f : V → Option (List Nat)} {d : Nat}
    (hf : ∀ (v : V) ids, f v = some ids → ∀ b ∈ ids, ∃ B d' ids', σ b = some B ∧ gatherL (gather σ d') B.cells = some ids' ∧ ∀ c ∈ ids', c ∈ ids) :
    ∀ {vs : List V} {ids : List Nat}, gatherL f vs = some ids → ∀ b ∈ ids, ∃ B d' ids', σ b = some B ∧ gatherL (gather σ d') B.cells = some ids' ∧ ∀ c ∈ ids', c ∈ ids
  | [], ids, h, b, hb => by simp only [gatherL, Option.some.injEq] at h; subst h; cases hb
  | v :: vs, ids, h, b, hb => by
    unfold gatherL at h
    split at h
    · rename_i i j e1 e2
      simp only [Option.some.injEq] at h; subst h
      rcases List.mem_append.1 hb with hb | hb
      · obtain ⟨B, d', ids', h1, h2, h3⟩ := hf v i e1 b hb
        exact ⟨B, d', ids', h1, h2, fun c hc => List.mem_append_left _ (h3 c hc)⟩
      · obtain ⟨B, d', ids', h1, h2, h3⟩ := gatherL_mem (d := d) hf e2 b hb
        exact ⟨B, d', ids', h1, h2, fun c hc => List.mem_append_right _ (h3 c hc)⟩
    · cases h

theorem gather_mem {σ : Store} : ∀ (d : Nat) (v : V) (ids : List Nat), gather σ d v = some ids → ∀ b ∈ ids, ∃ B d' ids', σ b = some B ∧ gatherL (gather σ d') B.cells = some ids' ∧ ∀ c ∈ ids', c ∈ ids := by
  intro d
  induction d with
  | zero =>
    intro v ids h b hb
    unfold gather at h
    split at h <;> first | (simp only [Option.some.injEq] at h; subst h; cases hb) | skip
    · split at h
      · simp only [Option.some.injEq] at h; subst h; cases hb
      · cases h
    · cases h
  | succ d ih =>
    intro v ids h b hb
    have ref : ∀ i, (match σ i with
        | some B => match gatherL (gather σ d) B.cells with
          | some ids => some (i :: ids)
          | none => none
        | none => none) = some ids → ∃ B d' ids', σ b = some B ∧ gatherL (gather σ d') B.cells = some ids' ∧ ∀ c ∈ ids', c ∈ ids := by
      intro i h
      split at h
      · rename_i B hB
        split at h
        · rename_i ids' e
          simp only [Option.some.injEq] at h; subst h
          rcases List.mem_cons.1 hb with rfl | hb
          · exact ⟨B, d, ids', hB, e, fun c hc => List.mem_cons_of_mem _ hc⟩
          · obtain ⟨B', d', ids2, h1, h2, h3⟩ := gatherL_mem (d := d) ih e b hb
            exact ⟨B', d', ids2, h1, h2, fun c hc => List.mem_cons_of_mem _ (h3 c hc)⟩
        · cases h
      · cases h
    cases v with
    | sc u => simp only [gather, Option.some.injEq] at h; subst h; cases hb
    | nil => simp only [gather, Option.some.injEq] at h; subst h; cases hb
    | junk => simp only [gather, Option.some.injEq] at h; subst h; cases hb
    | ts row len =>
      simp only [gather] at h
      split at h
      · simp only [Option.some.injEq] at h; subst h; cases hb
      · cases h
    | tp row off => simp [gather] at h
    | rp i off => exact ref i h
    | rs i off len => exact ref i h
    | agg vs => exact gatherL_mem (d := d) ih h b hb
    | tup vs => exact gatherL_mem (d := d) ih h b hb
    | clo f vs => exact gatherL_mem (d := d) ih h b hb

end Go.TV
