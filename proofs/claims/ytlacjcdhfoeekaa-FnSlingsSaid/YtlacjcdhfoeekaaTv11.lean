import Derived.Test.YtlacjcdhfoeekaaTv10
set_option linter.unusedSimpArgs false
set_option linter.unusedVariables false
namespace Go.TV
open Go.RowKit
set_option linter.unusedVariables false
set_option linter.unusedSimpArgs false

inductive Conv where
  | inl | own | imm

abbrev Call := FuncId → List V → Store → Nat → Res

def callable (P : Program) (f : FuncId) : Prop := ∃ fn, P.funcs[f]? = some fn ∧ fn.body.isNone = false ∧ (fn.name == "runtime.NumGoroutine") = false

/-- What a call tells. -/
def SoundAt (P : Program) (f : FuncId) (args : List V) (σ : Store) (nx : Nat) (v : V) (σ' : Store) (nx' : Nat) : Prop :=
  nx ≤ nx' ∧ callable P f ∧ ∀ (s : Sit) (vals : List Value), Inv s σ → Fresh s nx nx' → VRs s args vals →
    Calls P f vals.toArray s.w (fun e w' => ∃ s' x, s'.w = w' ∧ e = .returned x ∧ Out s σ nx s' v x σ' nx')

def CallOk (P : Program) (call : Call) : Prop := ∀ f args σ nx v σ' nx', call f args σ nx = some (v, σ', nx') → SoundAt P f args σ nx v σ' nx'

def freezeL (σ : Store) : List Nat → Store
  | [] => σ
  | b :: bs => freezeL (upd σ b ((σ b).map fun B => { B with wr := false })) bs

theorem freezeL_spec : ∀ (ids : List Nat) (σ : Store) (b : Nat) (B' : Blk), freezeL σ ids b = some B' → ∃ B, σ b = some B ∧ B'.cells = B.cells ∧ B'.st = B.st ∧ (b ∈ ids → B'.wr = false) ∧ (B'.wr = true → B.wr = true)
  | [], σ, b, B', h => ⟨B', h, rfl, rfl, (fun h => by cases h), id⟩
  | i :: ids, σ, b, B', h => by
    unfold freezeL at h
    obtain ⟨B, h1, h2, h3, h4, h5⟩ := freezeL_spec ids _ b B' h
    by_cases hb : b = i
    · subst hb
      rw [upd_same] at h1
      cases hs : σ b with
      | none => rw [hs] at h1; cases h1
      | some A =>
        rw [hs] at h1
        simp only [Option.map_some, Option.some.injEq] at h1; subst h1
        have hw : B'.wr = false := by
          cases hw : B'.wr with
          | false => rfl
          | true => have := h5 hw; cases this
        exact ⟨A, rfl, h2, h3, fun _ => hw, fun h => by rw [hw] at h; cases h⟩
    · rw [upd_ne _ _ hb] at h1
      exact ⟨B, h1, h2, h3, fun hm => h4 (by simpa [hb] using hm), h5⟩

def joinS (nx : Nat) (σ σ1 : Store) (ids : List Nat) : Store := fun b => if b < nx then σ b else if b ∈ ids then σ1 b else none

def noStore : Store := fun _ => none

def depth : Nat := 7

def evCall (conv : FuncId → Conv) (call : Call) (f : FuncId) (args : List V) (σ : Store) (nx : Nat) : Res :=
  match conv f with
  | .inl => call f args σ nx
  | .imm => match stripL (strip σ depth) args with
    | some (ts, ids) => match call f ts noStore 0 with
      | some (v, σ1, _) => match strip σ1 depth v with
        | some (t, _) => if ids.isEmpty || flat depth t then some (t, σ, nx) else some (t, freezeL σ ids, nx)
        | none => none
      | none => none
    | none => none
  | .own => match stripL (strip σ depth) args with
    | some (ts, _) => match call f ts noStore nx with
      | some (v, σ1, nx1) => match gather σ1 depth v with
        | some ids => some (v, joinS nx σ σ1 ids, nx1)
        | none => none
      | none => none
    | none => none

theorem Inv.none (s : Sit) (h : ∀ k o, s.Z k o → k < s.w.heap.size) : Inv s noStore := ⟨fun b B h => (by cases h), fun b b' B B' l l' h => (by cases h), h⟩

/-- The situation for a call whose arguments are trees. -/
def covered (s : Sit) (σ : Store) (ids : List Nat) : Sit :=
  ⟨fun k o => s.Z k o ∨ ∃ b, b ∈ ids ∧ ∃ B l, σ b = some B ∧ s.β b = some l ∧ l.k = k ∧ l.o ≤ o ∧ o < l.o + B.cells.length, fun _ => none, s.w⟩

theorem covers_covered (s : Sit) (σ : Store) (ids : List Nat) : Covers s σ ids (covered s σ ids) :=
  ⟨rfl, fun k o z => .inl z, fun b hb B l h1 h2 i hi => .inr ⟨b, hb, B, l, h1, h2, rfl, by omega, by omega⟩⟩

theorem Inv.block_lt {s : Sit} {σ : Store} (h : Inv s σ) {b : Nat} {B : Blk} {l : Loc} (hb : σ b = some B) (hl : s.β b = some l) : l.k < s.w.heap.size := by
  obtain ⟨l', c, e, h1, h2, _⟩ := h.blk b B hb
  rw [hl] at h1; cases h1
  exact (Array.getElem?_eq_some_iff.1 h2).1

theorem covered_zb {s : Sit} {σ : Store} (h : Inv s σ) (ids : List Nat) : ∀ k o, (covered s σ ids).Z k o → k < (covered s σ ids).w.heap.size := by
  rintro k o (z | ⟨b, _, B, l, h1, h2, rfl, _⟩)
  · exact h.zb k o z
  · exact h.block_lt h1 h2

theorem args_strip {s : Sit} {σ : Store} (h : Inv s σ) {args ts : List V} {ids : List Nat} {vals : List Value} (hs : stripL (strip σ depth) args = some (ts, ids)) (hv : VRs s args vals) : VRs (covered s σ ids) ts vals :=
  stripL_sound (s := s) (σ := σ) (fun v t ids x s' => strip_sound h depth v t ids x s') hs hv (covers_covered s σ ids)

theorem gatherL_get {f : V → Option (List Nat)} : ∀ {vs : List V} {ids : List Nat}, gatherL f vs = some ids → ∀ {u : V}, u ∈ vs → ∃ idc, f u = some idc
  | [], _, _, u, h => by cases h
  | v :: vs, ids, h, u, hu => by
    unfold gatherL at h
    split at h
    · rename_i e1 e2
      rcases List.mem_cons.1 hu with rfl | hu
      · exact ⟨_, e1⟩
      · exact gatherL_get e2 hu
    · cases h

theorem evCall_sound {P : Program} {conv : FuncId → Conv} {call : Call} (hc : CallOk P call) {f : FuncId} {args : List V} {σ : Store} {nx : Nat} {v : V} {σ' : Store} {nx' : Nat}
    (h : evCall conv call f args σ nx = some (v, σ', nx')) : SoundAt P f args σ nx v σ' nx' := by
  unfold evCall at h
  split at h
  · exact hc _ _ _ _ _ _ _ h
  · split at h
    · rename_i ts ids hst
      split at h
      · rename_i v1 σ1 nx1 hcall
        split at h
        · rename_i t ids2 hst2
          obtain ⟨_, hca, hsnd⟩ := hc _ _ _ _ _ _ _ hcall
          -- what holds behind the call
          have key : ∀ (s : Sit) (vals : List Value), Inv s σ → VRs s args vals → Calls P f vals.toArray s.w (fun e w' => ∃ s1 x, s1.w = w' ∧ e = .returned x ∧ VR (covered s1 σ1 ids2) t x ∧ Inv s1 σ1 ∧ Nxt (covered s σ ids) noStore s1 σ1) := by
            intro s vals hi hv
            refine (hsnd (covered s σ ids) vals (Inv.none _ (covered_zb hi ids)) (fun _ _ _ => rfl) (args_strip hi hst hv)).mono ?_
            rintro e w' ⟨s1, x, rfl, rfl, ho⟩
            exact ⟨s1, x, rfl, rfl, strip_sound ho.inv depth v1 t ids2 x _ hst2 ho.vr (covers_covered s1 σ1 ids2), ho.inv, ho.nxt⟩
          -- the caller's situation behind it, the trees grown
          have grow : ∀ (σ2 : Store), (∀ b B', σ2 b = some B' → ∃ B, σ b = some B ∧ B'.cells = B.cells ∧ B'.st = B.st ∧ (b ∈ ids → B'.wr = false) ∧ (B'.wr = true → B.wr = true)) → SoundAt P f args σ nx t σ2 nx := by
            intro σ2 hσ2
            refine ⟨Nat.le_refl _, hca, fun s vals hi _ hv => (key s vals hi hv).mono ?_⟩
            rintro e w' ⟨s1, x, rfl, rfl, hvr, hi1, hn1⟩
            have hbel : Below s.w.heap.size s.w s1.w := hn1.below
            let s' : Sit := ⟨(covered s1 σ1 ids2).Z, s.β, s1.w⟩
            have hz0 : ∀ k o, s.Z k o → s'.Z k o := fun k o z => .inl (hn1.le.zz k o (.inl z))
            have hle : Le s s' := ⟨hz0, fun k o z => hbel.cell (p := ⟨k, o, none⟩) (hi.zb k o z), fun _ _ e => e⟩
            have hzn : ∀ k o, s'.Z k o → (covered s σ ids).Z k o ∨ s.w.heap.size ≤ k := by
              rintro k o (z | ⟨b, _, B, l, h1, h2, rfl, _⟩)
              · rcases hn1.zn k o z with z | z | ⟨b, B, l, h1, _⟩
                · exact .inl z
                · exact .inr z
                · cases h1
              · rcases hn1.nb b B l h1 h2 with z | ⟨b, B, l, h1, _⟩
                · exact .inr z
                · cases h1
            refine ⟨s', x, rfl, rfl, ⟨VR_mono (s := covered s1 σ1 ids2) (s' := s') ⟨fun _ _ z => z, fun _ _ _ => rfl, fun _ _ e => by cases e⟩ t x hvr, ⟨fun b B' hB' => ?_, fun b1 b2 B1 B2 l1 l2 h1 h2 => ?_, fun k o z => ?_⟩, ⟨hle, fun k o z => ?_, fun k hk _ => hbel.block k hk, fun b B' l h1 h2 => ?_, hbel.size, hbel.os, hbel.tape, hbel.output⟩, fun i h => .inl h⟩⟩
            · obtain ⟨B, hB, q1, q2, q3, q4⟩ := hσ2 b B' hB'
              obtain ⟨l, c, e, g1, g2, g3, g4, g5, g6, g7⟩ := hi.blk b B hB
              have hlt := hi.block_lt hB g1
              refine ⟨l, c, e, g1, (hbel.block _ hlt).trans g2, g3, by rw [q1]; exact g4, by rw [q2]; exact g5, fun i u hu => ?_, fun o z => ?_⟩
              · rw [q1] at hu
                obtain ⟨y, hy, hr⟩ := g6 i u hu
                exact ⟨y, hy, VR_mono hle u y hr⟩
              · rw [q1]
                rcases hzn _ _ z with (z | ⟨b', hb', B2, l2, h1, h2, h3, h4, h5⟩) | z
                · obtain ⟨z1, z2⟩ := g7 o z
                  refine ⟨?_, z2⟩
                  cases hw : B'.wr with
                  | false => rfl
                  | true => rw [q4 hw] at z1; cases z1
                · have hbb : b' = b := hi.dis b' b B2 B l2 l h1 hB h2 g1 h3
                  subst hbb
                  rw [g1] at h2; cases h2
                  rw [hB] at h1; cases h1
                  exact ⟨q3 hb', h5⟩
                · omega
            · obtain ⟨A1, e1, _⟩ := hσ2 _ _ h1
              obtain ⟨A2, e2, _⟩ := hσ2 _ _ h2
              exact hi.dis b1 b2 A1 A2 l1 l2 e1 e2
            · rcases z with z | ⟨b, _, B, l, h1, h2, rfl, _⟩
              · exact hi1.zb k o z
              · exact hi1.block_lt h1 h2
            · rcases hzn k o z with (z | ⟨b', hb', B2, l2, h1, h2, h3, h4, h5⟩) | z
              · exact .inl z
              · exact .inr (.inr ⟨b', B2, l2, h1, h2, h3⟩)
              · exact .inr (.inl z)
            · obtain ⟨B, hB, _⟩ := hσ2 b B' h1
              exact .inr ⟨b, B, l, hB, h2, rfl⟩
          split at h
          · rename_i hcond
            simp only [Option.some.injEq, Prod.mk.injEq] at h; obtain ⟨rfl, rfl, rfl⟩ := h
            rcases Bool.or_eq_true _ _ ▸ hcond with he | he
            · have : ids = [] := by simpa using he
              subst this
              exact grow _ (fun b B' h => ⟨B', h, rfl, rfl, (fun h => by cases h), id⟩)
            · refine ⟨Nat.le_refl _, hca, fun s vals hi _ hv => (key s vals hi hv).mono ?_⟩
              rintro e w' ⟨s1, x, rfl, rfl, hvr, hi1, hn1⟩
              obtain ⟨_, hinv, hnxt⟩ := hi.grow (w' := s1.w) hn1.below
              exact ⟨{ s with w := s1.w }, x, rfl, rfl, ⟨flat_sound depth _ x he hvr, hinv, hnxt, fun i h => .inl h⟩⟩
          · simp only [Option.some.injEq, Prod.mk.injEq] at h; obtain ⟨rfl, rfl, rfl⟩ := h
            exact grow _ (fun b B' h => freezeL_spec ids σ b B' h)
        · cases h
      · cases h
    · cases h
  · split at h
    · rename_i ts ids hst
      split at h
      · rename_i v1 σ1 nx1 hcall
        split at h
        · rename_i ids2 hga
          simp only [Option.some.injEq, Prod.mk.injEq] at h; obtain ⟨rfl, rfl, rfl⟩ := h
          obtain ⟨hnn, hca, hsnd⟩ := hc _ _ _ _ _ _ _ hcall
          refine ⟨hnn, hca, fun s vals hi hfr hv => (hsnd (covered s σ ids) vals (Inv.none _ (covered_zb hi ids)) (fun _ _ _ => rfl) (args_strip hi hst hv)).mono ?_⟩
          rintro e w' ⟨s1, x, rfl, rfl, ho⟩
          obtain ⟨hvr, hi1, hn1, hd1⟩ := ho
          have hbel : Below s.w.heap.size s.w s1.w := hn1.below
          let β' : Nat → Option Loc := fun b => match s.β b with | some l => some l | none => s1.β b
          let s' : Sit := ⟨s.Z, β', s1.w⟩
          have hβ0 : ∀ b l, s.β b = some l → s'.β b = some l := fun b l h => by show β' b = _; simp only [β', h]
          have hβ1 : ∀ b l, s1.β b = some l → s'.β b = some l := fun b l h => by
            have h3 : s1.β b ≠ none := by rw [h]; simp
            rcases hd1 b h3 with h4 | h4
            · exact absurd rfl h4
            · show β' b = _
              simp only [β', hfr b h4.1 h4.2, h]
          have hle : Le s s' := ⟨fun _ _ z => z, fun k o z => hbel.cell (p := ⟨k, o, none⟩) (hi.zb k o z), hβ0⟩
          have hj : ∀ b B, joinS nx σ σ1 ids2 b = some B → (b < nx ∧ σ b = some B) ∨ (¬ b < nx ∧ b ∈ ids2 ∧ σ1 b = some B) := fun b B h => by
            unfold joinS at h
            split at h
            · rename_i hlt; exact .inl ⟨hlt, h⟩
            · rename_i hlt
              split at h
              · rename_i hm; exact .inr ⟨hlt, hm, h⟩
              · cases h
          have hnew : ∀ b B l, σ1 b = some B → s1.β b = some l → s.w.heap.size ≤ l.k := fun b B l h1 h2 => by
            rcases hn1.nb b B l h1 h2 with h | ⟨b0, B0, l0, h, _⟩
            · exact h
            · cases h
          refine ⟨s', x, rfl, rfl, ⟨gather_vr hβ1 depth _ x ids2 hga hvr, ⟨fun b B hB => ?_, fun b1 b2 B1 B2 l1 l2 h1 h2 e1 e2 hk => ?_, fun k o z => Nat.lt_of_lt_of_le (hi.zb k o z) hbel.size⟩,
            ⟨hle, fun k o z => .inl z, fun k hk _ => hbel.block k hk, fun b B l h1 h2 => ?_, hbel.size, hbel.os, hbel.tape, hbel.output⟩, fun i h => ?_⟩⟩
          · rcases hj b B hB with ⟨_, h1⟩ | ⟨_, hm, h1⟩
            · obtain ⟨l, c, e, g1, g2, g3, g4, g5, g6, g7⟩ := hi.blk b B h1
              have hlt := hi.block_lt h1 g1
              exact ⟨l, c, e, hβ0 _ _ g1, (hbel.block _ hlt).trans g2, g3, g4, g5, fun i u hu => let ⟨y, hy, hr⟩ := g6 i u hu; ⟨y, hy, VR_mono hle u y hr⟩, g7⟩
            · obtain ⟨l, c, e, g1, g2, g3, g4, g5, g6, g7⟩ := hi1.blk b B h1
              obtain ⟨B2, d', ids', q1, q2, q3⟩ := gather_mem depth _ ids2 hga b hm
              rw [h1] at q1; cases q1
              have hge := hnew b _ l h1 g1
              refine ⟨l, c, e, hβ1 _ _ g1, g2, g3, g4, g5, fun i u hu => ?_, fun o z => absurd (hi.zb _ _ z) (by omega)⟩
              obtain ⟨y, hy, hr⟩ := g6 i u hu
              refine ⟨y, hy, ?_⟩
              have hcell := gatherL_get q2 (List.mem_of_getElem? hu)
              obtain ⟨idc, hidc⟩ := hcell
              exact gather_vr hβ1 d' u y idc hidc hr
          · rcases hj b1 B1 h1 with ⟨_, p1⟩ | ⟨_, hm1, p1⟩ <;> rcases hj b2 B2 h2 with ⟨_, p2⟩ | ⟨_, hm2, p2⟩
            · obtain ⟨l, _, _, g1, _⟩ := hi.blk b1 B1 p1
              obtain ⟨l', _, _, g1', _⟩ := hi.blk b2 B2 p2
              rw [hβ0 _ _ g1] at e1; cases e1
              rw [hβ0 _ _ g1'] at e2; cases e2
              exact hi.dis b1 b2 B1 B2 _ _ p1 p2 g1 g1' hk
            · obtain ⟨l, _, _, g1, _⟩ := hi.blk b1 B1 p1
              obtain ⟨l', _, _, g1', _⟩ := hi1.blk b2 B2 p2
              rw [hβ0 _ _ g1] at e1; cases e1
              rw [hβ1 _ _ g1'] at e2; cases e2
              have := hi.block_lt p1 g1
              have := hnew b2 B2 _ p2 g1'
              omega
            · obtain ⟨l, _, _, g1, _⟩ := hi1.blk b1 B1 p1
              obtain ⟨l', _, _, g1', _⟩ := hi.blk b2 B2 p2
              rw [hβ1 _ _ g1] at e1; cases e1
              rw [hβ0 _ _ g1'] at e2; cases e2
              have := hi.block_lt p2 g1'
              have := hnew b1 B1 _ p1 g1
              omega
            · obtain ⟨l, _, _, g1, _⟩ := hi1.blk b1 B1 p1
              obtain ⟨l', _, _, g1', _⟩ := hi1.blk b2 B2 p2
              rw [hβ1 _ _ g1] at e1; cases e1
              rw [hβ1 _ _ g1'] at e2; cases e2
              exact hi1.dis b1 b2 B1 B2 _ _ p1 p2 g1 g1' hk
          · rcases hj b B h1 with ⟨_, p1⟩ | ⟨_, hm1, p1⟩
            · obtain ⟨l', _, _, g1, _⟩ := hi.blk b B p1
              rw [hβ0 _ _ g1] at h2; cases h2
              exact .inr ⟨b, B, _, p1, g1, rfl⟩
            · obtain ⟨l', _, _, g1, _⟩ := hi1.blk b B p1
              rw [hβ1 _ _ g1] at h2; cases h2
              exact .inl (hnew b B _ p1 g1)
          · cases hsi : s.β i with
            | some l => exact .inl (by simp)
            | none =>
              have : s1.β i ≠ none := by
                intro e
                apply h
                show β' i = none
                simp only [β', hsi, e]
              rcases hd1 i this with h4 | h4
              · exact absurd rfl h4
              · exact .inr h4
        · cases h
      · cases h
    · cases h

end Go.TV
