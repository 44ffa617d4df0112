import Derived.Test.YtlacjcdhfoeekaaTv2
set_option linter.unusedSimpArgs false
set_option linter.unusedVariables false
namespace Go.TV
open Go.RowKit

theorem VRs_length {s : Sit} : ∀ {vs : List V} {xs : List Value}, VRs s vs xs → vs.length = xs.length
  | [], xs, h => by unfold VRs at h; subst h; rfl
  | v :: vs, xs, h => by
    unfold VRs at h
    obtain ⟨y, ys, rfl, _, h2⟩ := h
    simp [VRs_length h2]

theorem VRs_get {s : Sit} : ∀ {vs : List V} {xs : List Value}, VRs s vs xs → ∀ {i : Nat} {v : V}, vs[i]? = some v → ∃ x, xs[i]? = some x ∧ VR s v x
  | [], xs, h, i, v, hv => by simp at hv
  | w :: vs, xs, h, i, v, hv => by
    unfold VRs at h
    obtain ⟨y, ys, rfl, h1, h2⟩ := h
    cases i with
    | zero => simp at hv; subst hv; exact ⟨y, rfl, h1⟩
    | succ i => simp at hv; obtain ⟨x, hx, hr⟩ := VRs_get h2 hv; exact ⟨x, by simpa using hx, hr⟩

theorem VRs_of {s : Sit} : ∀ {vs : List V} {xs : List Value}, vs.length = xs.length → (∀ (i : Nat) (v : V) (x : Value), vs[i]? = some v → xs[i]? = some x → VR s v x) → VRs s vs xs
  | [], xs, hl, _ => by unfold VRs; exact List.eq_nil_of_length_eq_zero (by simpa using hl.symm)
  | v :: vs, [], hl, _ => by simp at hl
  | v :: vs, x :: xs, hl, h => by
    unfold VRs
    exact ⟨x, xs, rfl, h 0 v x rfl rfl, VRs_of (by simpa using hl) fun i u y hu hy => h (i + 1) u y (by simpa using hu) (by simpa using hy)⟩

theorem VRs_append {s : Sit} {vs us : List V} {xs ys : List Value} (h : VRs s vs xs) (h' : VRs s us ys) : VRs s (vs ++ us) (xs ++ ys) := by
  have hl := VRs_length h
  have hl' := VRs_length h'
  refine VRs_of (by simp [hl, hl']) fun i v x hv hx => ?_
  rcases Nat.lt_or_ge i vs.length with hi | hi
  · rw [List.getElem?_append_left hi] at hv
    rw [List.getElem?_append_left (by omega)] at hx
    obtain ⟨y, hy, hr⟩ := VRs_get h hv
    rw [hx] at hy; cases hy; exact hr
  · rw [List.getElem?_append_right hi] at hv
    rw [List.getElem?_append_right (by omega), ← hl] at hx
    obtain ⟨y, hy, hr⟩ := VRs_get h' hv
    rw [hx] at hy; cases hy; exact hr

theorem VRs_take {s : Sit} {vs : List V} {xs : List Value} (h : VRs s vs xs) (n : Nat) : VRs s (vs.take n) (xs.take n) := by
  have hl := VRs_length h
  refine VRs_of (by simp [hl]) fun i v x hv hx => ?_
  rw [List.getElem?_take] at hv hx
  split at hv
  · rename_i hi
    rw [if_pos hi] at hx
    obtain ⟨y, hy, hr⟩ := VRs_get h hv
    rw [hx] at hy; cases hy; exact hr
  · cases hv

theorem VRs_drop {s : Sit} {vs : List V} {xs : List Value} (h : VRs s vs xs) (n : Nat) : VRs s (vs.drop n) (xs.drop n) := by
  have hl := VRs_length h
  refine VRs_of (by simp [hl]) fun i v x hv hx => ?_
  rw [List.getElem?_drop] at hv hx
  obtain ⟨y, hy, hr⟩ := VRs_get h hv
  rw [hx] at hy; cases hy; exact hr

theorem VRow_get {s : Sit} : ∀ {row : List V} {k o : Nat}, VRow s row k o → ∀ {i : Nat} {v : V}, row[i]? = some v → s.Z k (o + i) ∧ ∃ x, s.w.cell? ⟨k, o + i, none⟩ = some x ∧ VR s v x
  | [], k, o, h, i, v, hv => by simp at hv
  | w :: vs, k, o, h, i, v, hv => by
    unfold VRow at h
    obtain ⟨hz, ⟨c, hc, h1⟩, h2⟩ := h
    cases i with
    | zero => simp at hv; subst hv; exact ⟨hz, c, hc, h1⟩
    | succ i =>
      simp at hv
      have := VRow_get h2 hv
      rwa [show o + 1 + i = o + (i + 1) by omega] at this

theorem VRow_of {s : Sit} : ∀ {row : List V} {k o : Nat}, (∀ (i : Nat) (v : V), row[i]? = some v → s.Z k (o + i) ∧ ∃ x, s.w.cell? ⟨k, o + i, none⟩ = some x ∧ VR s v x) → VRow s row k o
  | [], k, o, _ => by unfold VRow; trivial
  | v :: vs, k, o, h => by
    unfold VRow
    obtain ⟨hz, hc⟩ := h 0 v rfl
    refine ⟨hz, hc, VRow_of fun i u hu => ?_⟩
    have := h (i + 1) u (by simpa using hu)
    rwa [show o + 1 + i = o + (i + 1) by omega]

theorem VRow_drop {s : Sit} {row : List V} {k o : Nat} (h : VRow s row k o) (n : Nat) : VRow s (row.drop n) k (o + n) :=
  VRow_of fun i v hv => by
    rw [List.getElem?_drop] at hv
    have := VRow_get h hv
    rwa [show o + n + i = o + (n + i) by omega]

theorem VRow_take {s : Sit} {row : List V} {k o : Nat} (h : VRow s row k o) (n : Nat) : VRow s (row.take n) k o :=
  VRow_of fun i v hv => by
    rw [List.getElem?_take] at hv
    split at hv
    · exact VRow_get h hv
    · cases hv

/-- The cells from one on read as these trees. -/
def Reads (s : Sit) (vs : List V) (k o : Nat) : Prop := ∃ cs : List Value, VRs s vs cs ∧ ∀ (j : Nat) (u : Value), cs[j]? = some u → s.w.cell? ⟨k, o + j, none⟩ = some u

theorem Reads.of {s : Sit} {vs : List V} {k o : Nat} (h : ∀ (i : Nat) (v : V), vs[i]? = some v → ∃ x, s.w.cell? ⟨k, o + i, none⟩ = some x ∧ VR s v x) : Reads s vs k o := by
  refine ⟨(List.range vs.length).map fun i => (s.w.cell? ⟨k, o + i, none⟩).getD undef, VRs_of (by simp) fun i v x hv hx => ?_, fun j u hu => ?_⟩
  · have hi : i < vs.length := (List.getElem?_eq_some_iff.1 hv).1
    obtain ⟨y, hy, hr⟩ := h i v hv
    simp [hi, hy] at hx
    subst hx; exact hr
  · have hj : j < vs.length := by have := (List.getElem?_eq_some_iff.1 hu).1; simpa using this
    obtain ⟨y, hy, _⟩ := h j vs[j] (by simp [hj])
    simp [hj, hy] at hu
    rw [hy, hu]

theorem Reads.tree {s : Sit} {vs : List V} {k o : Nat} (h : VRow s vs k o) : Reads s vs k o := .of fun _ _ hv => (VRow_get h hv).2

theorem cell_at {w : World} {k o : Nat} {c : Array Value} {e : TypeId} {fr : Nat × Nat} (h : w.heap[k]? = some (.cells c e fr)) : w.cell? ⟨k, o, none⟩ = c[o]? := by
  simp [World.cell?, h]

theorem Inv.reads {s : Sit} {σ : Store} (h : Inv s σ) {b : Nat} {B : Blk} (hb : σ b = some B) {l : Loc} (hl : s.β b = some l) : Reads s B.cells l.k l.o := by
  obtain ⟨l', c, e, h1, h2, _, _, _, h6, _⟩ := h.blk b B hb
  rw [hl] at h1; cases h1
  exact .of fun i v hv => by
    obtain ⟨x, hx, hr⟩ := h6 i v hv
    exact ⟨x, by rw [cell_at h2]; exact hx, hr⟩

theorem Reads.drop {s : Sit} {vs : List V} {k o : Nat} (h : Reads s vs k o) (n : Nat) : Reads s (vs.drop n) k (o + n) := by
  obtain ⟨cs, h1, h2⟩ := h
  exact ⟨cs.drop n, VRs_drop h1 n, fun j u hu => by rw [List.getElem?_drop] at hu; rw [Nat.add_assoc]; exact h2 _ _ hu⟩
theorem Reads.take {s : Sit} {vs : List V} {k o : Nat} (h : Reads s vs k o) (n : Nat) : Reads s (vs.take n) k o := by
  obtain ⟨cs, h1, h2⟩ := h
  exact ⟨cs.take n, VRs_take h1 n, fun j u hu => by rw [List.getElem?_take] at hu; split at hu; exact h2 _ _ hu; cases hu⟩

theorem cellsAt_sound {s : Sit} {σ : Store} (hi : Inv s σ) {a : V} {x : Value} (hx : VR s a x) {n : Nat} {vs : List V} (h : cellsAt σ a n = some vs) :
    ∃ k o, x = .pointer (some ⟨k, o, none⟩) ∧ vs.length = n ∧ Reads s vs k o := by
  unfold cellsAt at h
  split at h
  · rename_i row off
    split at h
    · rename_i hle
      simp only [Option.some.injEq] at h; subst h
      unfold VR at hx
      obtain ⟨k, o, rfl, hr⟩ := hx
      exact ⟨k, o + off, rfl, by simp; omega, ((Reads.tree (VRow_mono (.of_nb s) _ _ _ hr)).drop off).take n⟩
    · cases h
  · rename_i b off
    split at h
    · rename_i B hb
      split at h
      · simp only [Option.some.injEq] at h; subst h
        unfold VR at hx
        obtain ⟨l, hl, rfl⟩ := hx
        exact ⟨l.k, l.o + off, rfl, by simp; omega, ((hi.reads hb hl).drop off).take n⟩
      · cases h
    · cases h
  · cases h

theorem rowOf_sound {s : Sit} {σ : Store} (hi : Inv s σ) {a : V} {x : Value} (hx : VR s a x) {size : Nat} {row : List V} {len : Nat} (h : rowOf σ size a = some (row, len)) :
    ∃ ao cap, x = .slice ao len cap ∧ len ≤ cap ∧ row.length = len * size ∧ (row = [] ∨ ∃ k o, ao = some ⟨k, o, none⟩ ∧ Reads s row k o) := by
  unfold rowOf at h
  split at h
  · simp only [Option.some.injEq, Prod.mk.injEq] at h; obtain ⟨rfl, rfl⟩ := h
    unfold VR at hx
    obtain ⟨a, rfl⟩ := hx
    exact ⟨a, 0, rfl, Nat.le_refl _, by simp, .inl rfl⟩
  · split at h
    · rename_i hl
      simp only [Option.some.injEq, Prod.mk.injEq] at h; obtain ⟨rfl, rfl⟩ := h
      unfold VR at hx
      obtain ⟨ao, cap, rfl, hc, hr⟩ := hx
      exact ⟨ao, cap, rfl, hc, hl, hr.imp id fun ⟨k, o, e, hr⟩ => ⟨k, o, e, .tree (VRow_mono (.of_nb s) _ _ _ hr)⟩⟩
    · cases h
  · rename_i b off len'
    split at h
    · rename_i B hb
      split at h
      · simp only [Option.some.injEq, Prod.mk.injEq] at h; obtain ⟨rfl, rfl⟩ := h
        unfold VR at hx
        obtain ⟨l, cap, hl, rfl, hc, _⟩ := hx
        exact ⟨_, cap, rfl, hc, by simp; omega, .inr ⟨l.k, l.o + off, rfl, ((hi.reads hb hl).drop off).take _⟩⟩
      · cases h
    · cases h
  · cases h

/-- Nothing that was there has changed. -/
theorem Inv.grow {s : Sit} {σ : Store} (h : Inv s σ) {w' : World} (hb : Below s.w.heap.size s.w w') : Le s { s with w := w' } ∧ Inv { s with w := w' } σ ∧ Nxt s σ { s with w := w' } σ := by
  have hle : Le s { s with w := w' } := ⟨fun _ _ z => z, fun k o z => hb.cell (p := ⟨k, o, none⟩) (h.zb k o z), fun _ _ e => e⟩
  refine ⟨hle, ⟨fun b B hB => ?_, h.dis, fun k o z => Nat.lt_of_lt_of_le (h.zb k o z) hb.size⟩, ⟨hle, fun k o z => .inl z, fun k hk _ => hb.block k hk, fun b B l h1 h2 => .inr ⟨b, B, l, h1, h2, rfl⟩, hb.size, hb.os, hb.tape, hb.output⟩⟩
  obtain ⟨l, c, e, h1, h2, h3, h4, h5, h6, h7⟩ := h.blk b B hB
  have hk : l.k < s.w.heap.size := (Array.getElem?_eq_some_iff.1 h2).1
  exact ⟨l, c, e, h1, (hb.block _ hk).trans h2, h3, h4, h5, fun i v hv => let ⟨x, hx, hr⟩ := h6 i v hv; ⟨x, hx, VR_mono hle v x hr⟩, h7⟩

/-- A further block of the store. -/
theorem Inv.add {s : Sit} {σ : Store} (h : Inv s σ) {nx : Nat} (hn : s.β nx = none) {k o cap st : Nat} {c : Array Value} {e : TypeId} {cells : List V} {wr : Bool} (hk : s.w.heap[k]? = some (.cells c e (0, 0)))
    (hfree : ∀ b B l, σ b = some B → s.β b = some l → l.k ≠ k) (hz : ∀ o', s.Z k o' → wr = false ∧ o' < o + cells.length) (hcap : o + cap ≤ c.size) (hlen : cells.length ≤ cap)
    (hc : ∀ (i : Nat) (v : V), cells[i]? = some v → ∃ x, c[o + i]? = some x ∧ VR s v x) :
    Le s { s with β := upd s.β nx (some ⟨k, o, cap, st⟩) } ∧ Inv { s with β := upd s.β nx (some ⟨k, o, cap, st⟩) } (upd σ nx (some ⟨cells, st, wr⟩)) := by
  have hle : Le s { s with β := upd s.β nx (some ⟨k, o, cap, st⟩) } := ⟨fun _ _ z => z, fun _ _ _ => rfl, fun b l hb => by
    show upd s.β nx _ b = _
    rw [upd_ne _ _ (fun e => by rw [e, hn] at hb; cases hb)]; exact hb⟩
  refine ⟨hle, ⟨fun b B hB => ?_, fun b b' B B' l l' hb hb' hl hl' hkk => ?_, h.zb⟩⟩
  · by_cases hbn : b = nx
    · subst hbn
      rw [upd_same] at hB; cases hB
      exact ⟨⟨k, o, cap, st⟩, c, e, upd_same _ _ _, hk, hcap, hlen, rfl, fun i v hv => let ⟨x, hx, hr⟩ := hc i v hv; ⟨x, hx, VR_mono hle v x hr⟩, hz⟩
    · rw [upd_ne _ _ hbn] at hB
      obtain ⟨l, c, e, h1, h2, h3, h4, h5, h6, h7⟩ := h.blk b B hB
      exact ⟨l, c, e, hle.bb _ _ h1, h2, h3, h4, h5, fun i v hv => let ⟨x, hx, hr⟩ := h6 i v hv; ⟨x, hx, VR_mono hle v x hr⟩, h7⟩
  · by_cases hbn : b = nx <;> by_cases hbn' : b' = nx
    · rw [hbn, hbn']
    · subst hbn
      rw [upd_ne _ _ hbn'] at hb'
      have hl2 : s.β b' = some l' := by simpa only [upd_ne _ _ hbn'] using hl'
      have : l = ⟨k, o, cap, st⟩ := by simpa only [upd_same, Option.some.injEq, eq_comm] using hl
      subst this
      exact absurd hkk.symm (hfree b' B' l' hb' hl2)
    · subst hbn'
      rw [upd_ne _ _ hbn] at hb
      have hl2 : s.β b = some l := by simpa only [upd_ne _ _ hbn] using hl
      have : l' = ⟨k, o, cap, st⟩ := by simpa only [upd_same, Option.some.injEq, eq_comm] using hl'
      subst this
      exact absurd hkk (hfree b B l hb hl2)
    · rw [upd_ne _ _ hbn] at hb
      rw [upd_ne _ _ hbn'] at hb'
      exact h.dis b b' B B' l l' hb hb' (by simpa only [upd_ne _ _ hbn] using hl) (by simpa only [upd_ne _ _ hbn'] using hl') hkk

def Fresh (s : Sit) (nx nx' : Nat) : Prop := ∀ i, nx ≤ i → i < nx' → s.β i = none
def Dom (s s' : Sit) (nx nx' : Nat) : Prop := ∀ i, s'.β i ≠ none → s.β i ≠ none ∨ (nx ≤ i ∧ i < nx')

theorem Dom.refl (s : Sit) (nx nx' : Nat) : Dom s s nx nx' := fun _ h => .inl h

/-- The step's outcome. -/
structure Out (s : Sit) (σ : Store) (nx : Nat) (s' : Sit) (v : V) (x : Value) (σ' : Store) (nx' : Nat) : Prop where
  vr : VR s' v x
  inv : Inv s' σ'
  nxt : Nxt s σ s' σ'
  dom : Dom s s' nx nx'

theorem Out.same {s : Sit} {σ : Store} {nx nx' : Nat} {v : V} {x : Value} (hi : Inv s σ) (h : VR s v x) : Out s σ nx s v x σ nx' := ⟨h, hi, .refl s σ, .refl s nx nx'⟩

/-- New memory, all of it the store's. -/
theorem alloc_out {s : Sit} {σ : Store} (hi : Inv s σ) {nx : Nat} (hn : Fresh s nx (nx + 1)) {w1 : World} (hb1 : Below s.w.heap.size s.w w1) (hsz : w1.heap.size = s.w.heap.size) (cells : List V) (st cap : Nat) (e : TypeId) (c : Array Value)
    (hcap : cap = c.size) (hlen : cells.length ≤ cap) (hc : ∀ (i : Nat) (v : V), cells[i]? = some v → ∃ x, c[i]? = some x ∧ VR s v x) :
    ∃ s' : Sit, s'.w = w1.alloc (.cells c e) ∧ s'.β nx = some ⟨s.w.heap.size, 0, cap, st⟩ ∧ Inv s' (evBox σ nx cells st) ∧ Nxt s σ s' (evBox σ nx cells st) ∧ Dom s s' nx (nx + 1) := by
  have hb : Below s.w.heap.size s.w (w1.alloc (.cells c e)) := hb1.alloc (by omega) _
  obtain ⟨hle, hinv, hnxt⟩ := hi.grow hb
  have hnn : s.β nx = none := hn nx (Nat.le_refl _) (by omega)
  have hfree : ∀ b B l, σ b = some B → s.β b = some l → l.k ≠ s.w.heap.size := fun b B l h1 h2 => by
    obtain ⟨l', c, e, h3, h4, _⟩ := hi.blk b B h1
    rw [h2] at h3; cases h3
    have := (Array.getElem?_eq_some_iff.1 h4).1
    omega
  obtain ⟨hle2, hinv2⟩ := hinv.add (nx := nx) hnn (k := s.w.heap.size) (o := 0) (cap := cap) (st := st) (c := c) (e := e) (cells := cells) (wr := true)
    (by show (w1.alloc _).heap[_]? = _; rw [← hsz]; exact heap_alloc_new w1 _) hfree (fun o' z => absurd (hi.zb _ _ z) (by omega)) (by omega) hlen
    (fun i v hv => by rw [Nat.zero_add]; obtain ⟨x, hx, hr⟩ := hc i v hv; exact ⟨x, hx, VR_mono hle v x hr⟩)
  refine ⟨_, rfl, upd_same _ _ _, hinv2, ⟨hle.trans hle2, fun k o z => .inl z, hnxt.kb, fun b B l h1 h2 => ?_, hb.size, hb.os, hb.tape, hb.output⟩, fun i h => ?_⟩
  · by_cases hbn : b = nx
    · subst hbn
      have : l = ⟨s.w.heap.size, 0, cap, st⟩ := by simpa only [upd_same, Option.some.injEq, eq_comm] using h2
      subst this
      exact .inl (Nat.le_refl _)
    · unfold evBox at h1
      rw [upd_ne _ _ hbn] at h1
      exact .inr ⟨b, B, l, h1, by simpa only [upd_ne _ _ hbn] using h2, rfl⟩
  · by_cases hbn : i = nx
    · subst hbn; exact .inr ⟨Nat.le_refl _, by omega⟩
    · exact .inl (by simpa only [upd_ne _ _ hbn] using h)

end Go.TV
