import Derived.Test.YtlacjcdhfoeekaaTv15
set_option linter.unusedSimpArgs false
set_option linter.unusedVariables false
namespace Go.TV
open Go.RowKit
set_option linter.unusedVariables false
set_option linter.unusedSimpArgs false

theorem Inv.restrict {s : Sit} {σ : Store} (h : Inv s σ) (ids : List Nat) : Inv s (restrict σ ids) := by
  have q : ∀ {i : Nat} {A : Blk}, TV.restrict σ ids i = some A → i ∈ ids ∧ σ i = some A := fun {i A} h => by
    unfold TV.restrict at h
    split at h
    · rename_i hm; exact ⟨hm, h⟩
    · cases h
  exact ⟨fun i B hB => h.blk i B (q hB).2, fun b1 b2 B1 B2 l1 l2 h1 h2 => h.dis b1 b2 B1 B2 l1 l2 (q h1).2 (q h2).2, h.zb⟩

/-- What was done over a part of the store, seen over the whole of it. -/
theorem frame_out {s : Sit} {σ : Store} (hi : Inv s σ) {ids : List Nat} {nx nx' : Nat} (hn : Fresh s nx nx') {s' : Sit} {v : V} {x : Value} {σ1 : Store} (ho : Out s (restrict σ ids) nx s' v x σ1 nx') : Out s σ nx s' v x (patchS ids nx nx' σ σ1) nx' := by
  obtain ⟨hv, hi1, hn1, hd⟩ := ho
  have q : ∀ {i : Nat} {A : Blk}, restrict σ ids i = some A → i ∈ ids ∧ σ i = some A := fun {i A} h => by
    unfold restrict at h
    split at h
    · rename_i hm; exact ⟨hm, h⟩
    · cases h
  have p : ∀ b B, patchS ids nx nx' σ σ1 b = some B → ((b ∈ ids ∨ (nx ≤ b ∧ b < nx')) ∧ σ1 b = some B) ∨ (b ∉ ids ∧ σ b = some B) := fun b B h => by
    unfold patchS at h
    split at h
    · rename_i hm; exact .inl ⟨hm, h⟩
    · rename_i hm; exact .inr ⟨fun e => hm (.inl e), h⟩
  have hfree : ∀ {b : Nat} {B : Blk} {l : Loc}, b ∉ ids → σ b = some B → s.β b = some l → ∀ b' B' l', restrict σ ids b' = some B' → s.β b' = some l' → l'.k ≠ l.k := fun {b B l} hb hB hl b' B' l' h1 h2 e => by
    obtain ⟨hm, h3⟩ := q h1
    exact hb (by rw [← hi.dis b' b B' B l' l h3 hB h2 hl e]; exact hm)
  have old : ∀ {b : Nat} {B : Blk}, b ∉ ids → σ b = some B → ∃ l c e, s.β b = some l ∧ s'.β b = some l ∧ l.k < s.w.heap.size ∧ s.w.heap[l.k]? = some (.cells c e (0, 0)) ∧ s'.w.heap[l.k]? = some (.cells c e (0, 0)) := fun {b B} hb hB => by
    obtain ⟨l, c, e, g1, g2, _⟩ := hi.blk b B hB
    exact ⟨l, c, e, g1, hn1.le.bb _ _ g1, hi.block_lt hB g1, g2, (hn1.kb l.k (hi.block_lt hB g1) (fun b' B' l' h1 h2 => hfree hb hB g1 b' B' l' h1 h2)).trans g2⟩
  refine ⟨hv, ⟨fun b B hB => ?_, fun b1 b2 B1 B2 l1 l2 h1 h2 e1 e2 hk => ?_, hi1.zb⟩, ⟨hn1.le, fun k o z => ?_, fun k hk hn => hn1.kb k hk fun b B l h1 h2 => hn b B l (q h1).2 h2, fun b B l h1 h2 => ?_, hn1.hs, hn1.os, hn1.tape, hn1.output⟩, hd⟩
  · rcases p b B hB with ⟨_, h1⟩ | ⟨hb, h1⟩
    · exact hi1.blk b B h1
    · obtain ⟨l, c, e, g1, g2, g3, g4, g5, g6, g7⟩ := hi.blk b B h1
      obtain ⟨l', c', e', k1, k2, k3, k4, k5⟩ := old hb h1
      rw [g1] at k1; cases k1
      rw [g2] at k4; cases k4
      refine ⟨l, c, e, k2, k5, g3, g4, g5, fun i v hv => let ⟨x, hx, hr⟩ := g6 i v hv; ⟨x, hx, VR_mono hn1.le v x hr⟩, fun o z => ?_⟩
      rcases hn1.zn _ _ z with z | z | ⟨b', B', l', h3, h4, h5⟩
      · exact g7 o z
      · omega
      · exact absurd h5 (hfree hb h1 g1 b' B' l' h3 h4)
  · rcases p b1 B1 h1 with ⟨_, p1⟩ | ⟨hb1, p1⟩ <;> rcases p b2 B2 h2 with ⟨_, p2⟩ | ⟨hb2, p2⟩
    · exact hi1.dis b1 b2 B1 B2 l1 l2 p1 p2 e1 e2 hk
    · obtain ⟨l, c, e, k1, k2, k3, _⟩ := old hb2 p2
      rw [e2] at k2; cases k2
      rcases hn1.nb b1 B1 l1 p1 e1 with h | ⟨b0, B0, l0, h3, h4, h5⟩
      · omega
      · exact absurd (h5.trans hk) (hfree hb2 p2 k1 b0 B0 l0 h3 h4)
    · obtain ⟨l, c, e, k1, k2, k3, _⟩ := old hb1 p1
      rw [e1] at k2; cases k2
      rcases hn1.nb b2 B2 l2 p2 e2 with h | ⟨b0, B0, l0, h3, h4, h5⟩
      · omega
      · exact absurd (h5.trans hk.symm) (hfree hb1 p1 k1 b0 B0 l0 h3 h4)
    · obtain ⟨l, c, e, k1, k2, k3, _⟩ := old hb1 p1
      obtain ⟨l', c', e', k1', k2', k3', _⟩ := old hb2 p2
      rw [e1] at k2; cases k2
      rw [e2] at k2'; cases k2'
      exact hi.dis b1 b2 B1 B2 _ _ p1 p2 k1 k1' hk
  · rcases hn1.zn k o z with z | z | ⟨b', B', l', h3, h4, h5⟩
    · exact .inl z
    · exact .inr (.inl z)
    · exact .inr (.inr ⟨b', B', l', (q h3).2, h4, h5⟩)
  · rcases p b B h1 with ⟨_, p1⟩ | ⟨hb, p1⟩
    · rcases hn1.nb b B l p1 h2 with h | ⟨b0, B0, l0, h3, h4, h5⟩
      · exact .inl h
      · exact .inr ⟨b0, B0, l0, (q h3).2, h4, h5⟩
    · obtain ⟨l', c, e, k1, k2, k3, _⟩ := old hb p1
      rw [h2] at k2; cases k2
      exact .inr ⟨b, B, _, p1, k1, rfl⟩

section
variable {P : Program} {conv : FuncId → Conv} {call : Call}

/-- A state of the frame in a region that draws: some operations are still to come. -/
structure SimD (nt : Nat) (s0 : Sit) (σ0 : Store) (lo0 hi0 : Nat) (T : Nat → V) (σ : Store) (L : List Rec) (s : Sit) (a : Act) : Prop where
  inv : Inv s σ
  tr : TR s T a.tmps
  size : a.tmps.size = nt
  defers : a.defers = []
  nxt : Nxt s0 σ0 s σ
  dom : Dom s0 s lo0 hi0
  fresh : ∀ r ∈ L, Fresh s r.lo r.hi

theorem VR_ref {s : Sit} {v : V} {x : Value} (h : VR s v x) : ∀ b ∈ refsC v, s.β b ≠ none := by
  intro b hb
  cases v <;> simp only [refsC, List.not_mem_nil, List.mem_singleton] at hb <;> subst hb <;> unfold VR at h
  · obtain ⟨l, hl, _⟩ := h; rw [hl]; simp
  · obtain ⟨l, c, hl, _⟩ := h; rw [hl]; simp

theorem VRs_ref {s : Sit} : ∀ {vs : List V} {xs : List Value}, VRs s vs xs → ∀ b ∈ vs.flatMap refsC, s.β b ≠ none
  | [], _, _, b, hb => by simp at hb
  | v :: vs, xs, h, b, hb => by
    unfold VRs at h
    obtain ⟨y, ys, rfl, h1, h2⟩ := h
    rw [List.flatMap_cons] at hb
    rcases List.mem_append.1 hb with hb | hb
    · exact VR_ref h1 b hb
    · exact VRs_ref h2 b hb

theorem VR_refV {s : Sit} {v : V} {x : Value} (h : VR s v x) : ∀ b ∈ refsV v, s.β b ≠ none := by
  intro b hb
  cases v with
  | agg vs => unfold VR at h; obtain ⟨xs, _, hr⟩ := h; exact VRs_ref hr b hb
  | tup vs => unfold VR at h; obtain ⟨xs, _, hr⟩ := h; exact VRs_ref hr b hb
  | clo f vs => unfold VR at h; obtain ⟨xs, _, hr⟩ := h; exact VRs_ref hr b hb
  | sc u => exact VR_ref h b hb
  | nil => exact VR_ref h b hb
  | junk => exact VR_ref h b hb
  | tp row off => exact VR_ref h b hb
  | ts row len => exact VR_ref h b hb
  | rp i off => exact VR_ref h b hb
  | rs i off len => exact VR_ref h b hb

theorem VRs_refV {s : Sit} : ∀ {vs : List V} {xs : List Value}, VRs s vs xs → ∀ b ∈ vs.flatMap refsV, s.β b ≠ none
  | [], _, _, b, hb => by simp at hb
  | v :: vs, xs, h, b, hb => by
    unfold VRs at h
    obtain ⟨y, ys, rfl, h1, h2⟩ := h
    rw [List.flatMap_cons] at hb
    rcases List.mem_append.1 hb with hb | hb
    · exact VR_refV h1 b hb
    · exact VRs_refV h2 b hb

theorem foot_dom {s : Sit} {T : Nat → V} {a : Act} (h : TR s T a.tmps) {o : Oper} : ∀ b ∈ footIds conv T o, s.β b ≠ none := by
  intro b hb
  obtain ⟨dst, op, type, pos, after, guard⟩ := o
  cases op <;> simp only [footIds, List.not_mem_nil] at hb
  case load t x => exact VR_ref (val_sound h x) b hb
  case store t x y => exact VR_ref (val_sound h x) b hb
  case slice t x lo hi mx => exact VR_ref (val_sound h x) b hb
  case convert s d x => exact VR_ref (val_sound h x) b hb
  case call c =>
    obtain ⟨callee, args, ts⟩ := c
    cases callee with
    | value f =>
      simp only at hb
      split at hb
      · rename_i g cs e
        split at hb
        · rcases List.mem_append.1 hb with hb | hb
          · exact VRs_refV (vals_sound h _) b hb
          · have hf := val_sound h f
            rw [e] at hf
            unfold VR at hf
            obtain ⟨xs, _, hr⟩ := hf
            exact VRs_refV hr b hb
        · cases hb
      · cases hb
    | builtin bb => cases bb <;> simp only [List.not_mem_nil] at hb; exact VRs_ref (vals_sound h _) b hb
    | invoke r m => simp at hb

theorem stepD_foot {ops : Array Oper} {o : Oper} {lo hi : Nat} {T T1 : Nat → V} {σ σ1 : Store} {F : List Nat} (h : stepD P conv call ops o lo T σ = some (T1, σ1, hi, F)) {s : Sit} {a : Act} (hT : TR s T a.tmps) : ∀ b ∈ F, s.β b ≠ none := by
  unfold stepD at h
  split at h
  · split at h
    · simp only [Option.some.injEq, Prod.mk.injEq] at h
      obtain ⟨_, _, _, rfl⟩ := h
      exact foot_dom hT
    · cases h
  · simp only [Option.some.injEq, Prod.mk.injEq] at h
    obtain ⟨_, _, _, rfl⟩ := h
    intro b hb; cases hb
  · cases h

/-- The records of a lexical run: what stands between each two. -/
structure RecsOk (conv : FuncId → Conv) (ops : Array Oper) (L : List Rec) : Prop where
  at_ : ∀ r ∈ L, ops[r.i]? = some r.o
  asc : L.Pairwise fun a b => a.i < b.i ∧ a.hi ≤ b.lo ∧ (edgeOn b.o a.i = true ∨ (a.o.apart ops b.o = true ∧ ((writer conv a.o = true ∨ writer conv b.o = true) → ∀ c ∈ a.F, c ∉ b.F))) ∧ ∀ c ∈ a.F, c < b.lo
  le : ∀ r ∈ L, r.lo ≤ r.hi

theorem getD_true_of_not {listed : Array Bool} {i : Nat} (h : listed.getD i true = false) : i < listed.size ∧ listed.getD i false = false := by
  rw [Array.getD_eq_getD_getElem?] at *
  cases hq : listed[i]? with
  | none => rw [hq] at h; cases h
  | some b => rw [hq] at h; exact ⟨(Array.getElem?_eq_some_iff.1 hq).1, h⟩

theorem stepD_F {ops : Array Oper} {o : Oper} {lo hi : Nat} {T T1 : Nat → V} {σ σ1 : Store} {F : List Nat} (h : stepD P conv call ops o lo T σ = some (T1, σ1, hi, F)) : ∀ c ∈ F, c ∈ footIds conv T o := by
  unfold stepD at h
  split at h
  · split at h
    · simp only [Option.some.injEq, Prod.mk.injEq] at h
      obtain ⟨_, _, _, rfl⟩ := h
      exact fun c h => h
    · cases h
  · simp only [Option.some.injEq, Prod.mk.injEq] at h
    obtain ⟨_, _, _, rfl⟩ := h
    intro c hc; cases hc
  · cases h

theorem run_at {ops : Array Oper} {r : Rec} {L2 : List Rec} {T' : Nat → V} {σ' : Store} : ∀ (L1 : List Rec) (T : Nat → V) (σ : Store), (∀ b ∈ L1, b.o.apart ops r.o = true) → RunD P conv call ops (L1 ++ r :: L2) T σ T' σ' →
    ∃ T1 σ1 T2 σ2, (∀ t ∈ r.o.looksAt ops, T1 t = T t) ∧ stepD P conv call ops r.o r.lo T1 σ1 = some (T2, σ2, r.hi, r.F)
  | [], T, σ, _, h => by obtain ⟨T1, σ1, h1, _⟩ := h; exact ⟨T, σ, T1, σ1, fun _ _ => rfl, h1⟩
  | b :: L1, T, σ, hap, h => by
    obtain ⟨T1, σ1, h1, h2⟩ := h
    obtain ⟨v, τ, W, rfl, rfl, _⟩ := stepD_spec h1
    obtain ⟨n1, _, _⟩ := Oper.apart_spec (hap b List.mem_cons_self)
    obtain ⟨T1, σ1, T2, σ2, g1, g2⟩ := run_at L1 _ _ (fun c hc => hap c (List.mem_cons_of_mem _ hc)) h2
    refine ⟨T1, σ1, T2, σ2, fun t ht => (g1 t ht).trans ?_, g2⟩
    cases hdst : b.o.dst with
    | none => rfl
    | some d => exact upd_ne _ _ (fun e => n1 d hdst (by rw [← e]; exact ht))

theorem opD_sound (hc : CallOk P call) {o : Oper} {T : Nat → V} {σ σ' : Store} {nx nx' : Nat} {v : V} (h : evOpD P conv call o T σ nx = some (v, σ', nx')) {s : Sit} {a : Act} (hi : Inv s σ) (hT : TR s T a.tmps) (hn : Fresh s nx nx')
    {K : Act → World → Prop} {Q : Exit → Act → World → Prop} (hK : ∀ s' x, Out s σ nx s' v x σ' nx' → K (a.put o.dst x) s'.w) : o.wp P a s.w K Q := by
  unfold evOpD at h
  split at h
  · split at h
    · rename_i v1 σ1 nx1 he
      simp only [Option.some.injEq, Prod.mk.injEq] at h
      obtain ⟨rfl, rfl, rfl⟩ := h
      exact op_sound hc he (hi.restrict _) hT hn fun s' x ho => hK s' x (frame_out hi hn ho)
    · cases h
  · cases h

theorem any_sound (hc : CallOk P call) {ops : Array Oper} {nt : Nat} {s0 : Sit} {σ0 : Store} {lo0 hi0 : Nat} (hd : ∀ o ∈ ops.toList, ∀ d, o.dst = some d → d < nt) {T' : Nat → V} {σ' : Store} {Q : Exit → Act → World → Prop}
    (hQ : ∀ s a, SimD nt s0 σ0 lo0 hi0 T' σ' [] s a → Q .normal a s.w) (hback : ∀ i o, ops[i]? = some o → ∀ e ∈ o.after, Region.binds .any e = true → e.on < i) :
    ∀ (L : List Rec) (listed : Array Bool) (T : Nat → V) (σ : Store) (s : Sit) (a : Act), listed.size = ops.size → (∀ i, i < ops.size → (listed.getD i true = false ↔ ∃ r ∈ L, r.i = i)) → RecsOk conv ops L → (∀ r ∈ L, lo0 ≤ r.lo ∧ r.hi ≤ hi0) →
      RunD P conv call ops L T σ T' σ' → SimD nt s0 σ0 lo0 hi0 T σ L s a → wpAny P .any ops Q L.length listed a s.w := by
  intro L
  induction hlen : L.length generalizing L with
  | zero =>
    intro listed T σ s a hsz hun hok hrange hrun hs
    have : L = [] := List.eq_nil_of_length_eq_zero hlen
    subst this
    obtain ⟨rfl, rfl⟩ := hrun
    refine ⟨?_, hQ s a hs⟩
    unfold Region.ready
    rw [List.filter_eq_nil_iff]
    intro i hi
    have hi' : i < ops.size := List.mem_range.1 hi
    have hno : listed.getD i true ≠ false := fun e => by obtain ⟨r, hr, _⟩ := (hun i hi').1 e; cases hr
    have hyes : listed.getD i true = true := by simpa using hno
    simp [hyes]
  | succ n ih =>
    intro listed T σ s a hsz hun hok hrange hrun hs
    refine ⟨fun hrd => ?_, fun i hi => ?_⟩
    · -- the first record is ready
      exfalso
      obtain ⟨r, L', rfl⟩ : ∃ r L', L = r :: L' := by
        cases L with
        | nil => simp at hlen
        | cons r L' => exact ⟨r, L', rfl⟩
      have hat := hok.at_ r List.mem_cons_self
      have hlt : r.i < ops.size := (Array.getElem?_eq_some_iff.1 hat).1
      have hmem : r.i ∈ Region.ready .any ops listed := by
        refine mem_ready.2 ⟨(hun r.i hlt).2 ⟨r, List.mem_cons_self, rfl⟩, r.o, hat, fun e he hb => ?_⟩
        have hon := hback r.i r.o hat e he hb
        have hyes : listed.getD e.on true = true := by
          cases hq : listed.getD e.on true with
          | true => rfl
          | false =>
            obtain ⟨r', hr', hri⟩ := (hun e.on (by omega)).1 hq
            rcases List.mem_cons.1 hr' with rfl | hr'
            · omega
            · have := (List.pairwise_cons.1 hok.asc).1 r' hr'
              omega
        rw [Array.getD_eq_getD_getElem?] at hyes ⊢
        have : e.on < listed.size := by omega
        rw [Array.getElem?_eq_getElem this] at hyes ⊢
        exact hyes
      rw [hrd] at hmem
      cases hmem
    · obtain ⟨hunl, o, ho, hpre⟩ := mem_ready.1 hi
      have hilt : i < ops.size := (Array.getElem?_eq_some_iff.1 ho).1
      obtain ⟨r, hr, hri⟩ := (hun i hilt).1 hunl
      obtain ⟨L1, L2, rfl⟩ := List.append_of_mem hr
      have hro : r.o = o := by
        have := hok.at_ r hr
        rw [hri, ho] at this
        simpa using this.symm
      have hasc := hok.asc
      have hpw : ∀ b ∈ L1, b.i < r.i ∧ b.hi ≤ r.lo ∧ (edgeOn r.o b.i = true ∨ (b.o.apart ops r.o = true ∧ ((writer conv b.o = true ∨ writer conv r.o = true) → ∀ c ∈ b.F, c ∉ r.F))) ∧ ∀ c ∈ b.F, c < r.lo := fun b hb =>
        (List.pairwise_append.1 hasc).2.2 b hb r List.mem_cons_self
      have hnoedge : ∀ b ∈ L1, edgeOn r.o b.i ≠ true := fun b hb he => by
        unfold edgeOn at he
        rw [Array.any_eq_true'] at he
        obtain ⟨e, hem, hee⟩ := he
        simp only [Bool.and_eq_true, beq_iff_eq] at hee
        have hlt : b.i < ops.size := (Array.getElem?_eq_some_iff.1 (hok.at_ b (List.mem_append_left _ hb))).1
        have h1 := (hun b.i hlt).2 ⟨b, List.mem_append_left _ hb, rfl⟩
        have h2 := hpre e (by rw [← hro]; exact hem) hee.1
        rw [hee.2] at h2
        rw [(getD_true_of_not h1).2] at h2
        cases h2
      have hnf : ∀ b ∈ L1, b.o.apart ops r.o = true ∧ ((writer conv b.o = true ∨ writer conv r.o = true) → ∀ c ∈ b.F, c ∉ r.F) := fun b hb => (hpw b hb).2.2.1.resolve_left (hnoedge b hb)
      obtain ⟨T1, σ1, T2, σ2, g1, g2⟩ := run_at L1 T σ (fun b hb => (hnf b hb).1) hrun
      have hFr : ∀ c ∈ r.F, s.β c ≠ none := fun c hc => foot_dom (conv := conv) hs.tr (o := r.o) c (by
        rw [← footIds_congr (val_congr ops g1)]
        exact stepD_F g2 c hc)
      have hap : ∀ b ∈ L1, Ap conv ops b r := fun b hb => ⟨(hnf b hb).1, (hnf b hb).2, (hpw b hb).2.1, fun c hc hcc => hFr c hc (hs.fresh b (List.mem_append_left _ hb) c hcc.1 hcc.2), (hpw b hb).2.2.2⟩
      obtain ⟨T3, σ3, hstep, hrest⟩ := frontD L1 L2 T T' σ σ' hap hrun
      -- what is left
      have hlen' : (L1 ++ L2).length = n := by simp only [List.length_append, List.length_cons] at hlen ⊢; omega
      have hsz' : (listed.setIfInBounds i true).size = ops.size := by simpa using hsz
      have hne : ∀ b ∈ L1 ++ L2, b.i ≠ r.i := fun b hb => by
        rcases List.mem_append.1 hb with hb | hb
        · have := (hpw b hb).1; omega
        · have := (List.pairwise_cons.1 (List.pairwise_append.1 hasc).2.1).1 b hb; omega
      have hun' : ∀ j, j < ops.size → ((listed.setIfInBounds i true).getD j true = false ↔ ∃ r' ∈ L1 ++ L2, r'.i = j) := fun j hj => by
        have hj2 : j < listed.size := by omega
        by_cases hji : j = i
        · subst hji
          constructor
          · intro h
            rw [Array.getD_eq_getD_getElem?, Array.getElem?_setIfInBounds_self] at h
            simp [hj2] at h
          · rintro ⟨r', hr', e⟩
            exact absurd (e.trans hri.symm) (hne r' hr')
        · have e1 : (listed.setIfInBounds i true).getD j true = listed.getD j true := by
            rw [Array.getD_eq_getD_getElem?, Array.getD_eq_getD_getElem?, Array.getElem?_setIfInBounds_ne (fun e => hji e.symm)]
          rw [e1, hun j hj]
          constructor
          · rintro ⟨r', hr', e⟩
            rcases List.mem_append.1 hr' with h | h
            · exact ⟨r', List.mem_append_left _ h, e⟩
            · rcases List.mem_cons.1 h with rfl | h
              · exact absurd (e.symm.trans hri) hji
              · exact ⟨r', List.mem_append_right _ h, e⟩
          · rintro ⟨r', hr', e⟩
            rcases List.mem_append.1 hr' with h | h
            · exact ⟨r', List.mem_append_left _ h, e⟩
            · exact ⟨r', List.mem_append_right _ (List.mem_cons_of_mem _ h), e⟩
      have hsub : (L1 ++ L2).Sublist (L1 ++ r :: L2) := List.Sublist.append_left (List.sublist_cons_self r L2) L1
      have hok' : RecsOk conv ops (L1 ++ L2) := ⟨fun x hx => hok.at_ x (hsub.subset hx), hok.asc.sublist hsub, fun x hx => hok.le x (hsub.subset hx)⟩
      have hrange' : ∀ x ∈ L1 ++ L2, lo0 ≤ x.lo ∧ x.hi ≤ hi0 := fun x hx => hrange x (hsub.subset hx)
      have hrr := hrange r hr
      have hdis : ∀ x ∈ L1 ++ L2, x.hi ≤ r.lo ∨ r.hi ≤ x.lo := fun x hx => by
        rcases List.mem_append.1 hx with hx | hx
        · exact .inl (hpw x hx).2.1
        · exact .inr ((List.pairwise_cons.1 (List.pairwise_append.1 hasc).2.1).1 x hx).2.1
      have hmem : o ∈ ops.toList := by rw [← Array.getElem?_toList] at ho; exact List.mem_of_getElem? ho
      unfold wpOp
      simp only [ho]
      rw [← hro]
      unfold stepD at hstep
      split at hstep
      · rename_i hw
        rw [wantedB_sound hw hs.tr, if_pos rfl]
        split at hstep
        · rename_i v σv hiv he
          simp only [Option.some.injEq, Prod.mk.injEq] at hstep
          obtain ⟨rfl, rfl, rfl, _⟩ := hstep
          refine .inl (opD_sound hc he hs.inv hs.tr (hs.fresh r hr) fun s' x hout => ?_)
          refine ih (L1 ++ L2) hlen' _ _ _ s' _ hsz' hun' hok' hrange' hrest ⟨hout.inv, TR_put (hs.tr.mono hout.nxt.le) (fun d e => by rw [hs.size]; exact hd r.o (by rw [hro]; exact hmem) d e) hout.vr, by rw [put_size]; exact hs.size, by rw [put_defers]; exact hs.defers, hs.nxt.trans hout.nxt, fun j hj => ?_, fun x hx j h1 h2 => ?_⟩
          · rcases hout.dom j hj with h | h
            · exact hs.dom j h
            · exact .inr ⟨by omega, by omega⟩
          · cases hq : s'.β j with
            | none => rfl
            | some l =>
              exfalso
              rcases hout.dom j (by rw [hq]; simp) with h | h
              · exact h (hs.fresh x (hsub.subset hx) j h1 h2)
              · have := hdis x hx; omega
        · cases hstep
      · rename_i hw
        rw [wantedB_sound hw hs.tr, if_neg (by simp)]
        simp only [Option.some.injEq, Prod.mk.injEq] at hstep
        obtain ⟨rfl, rfl, _, _⟩ := hstep
        exact ih (L1 ++ L2) hlen' _ _ _ s _ hsz' hun' hok' hrange' hrest ⟨hs.inv, TR_put hs.tr (fun d e => by rw [hs.size]; exact hd r.o (by rw [hro]; exact hmem) d e) (VR_undef s), by rw [put_size]; exact hs.size, by rw [put_defers]; exact hs.defers, hs.nxt, hs.dom, fun x hx => hs.fresh x (hsub.subset hx)⟩
      · cases hstep

end
end Go.TV
