import Derived.Test.YtlacjcdhfoeekaaTv14
set_option linter.unusedSimpArgs false
set_option linter.unusedVariables false
namespace Go.TV
open Go.RowKit
set_option linter.unusedVariables false
set_option linter.unusedSimpArgs false

section
variable {P : Program} {conv : FuncId → Conv} {call : Call}

theorem val_congr {T T2 : Nat → V} {o : Oper} (ops : Array Oper) (h : ∀ t ∈ o.looksAt ops, T2 t = T t) : ∀ x ∈ o.op.operands.toList, val T2 x = val T x := by
  intro x hx
  cases x with
  | tmp t =>
    apply h
    unfold Oper.looksAt
    exact List.mem_append_left _ (List.mem_filterMap.2 ⟨_, hx, rfl⟩)
  | const v => rfl
  | global g => rfl
  | func f => rfl

theorem evOp_congr {T T2 : Nat → V} {o : Oper} {σ : Store} {nx : Nat} (h : ∀ x ∈ o.op.operands.toList, val T2 x = val T x) : evOp P conv call o T2 σ nx = evOp P conv call o T σ nx := by
  obtain ⟨dst, op, type, pos, after, guard⟩ := o
  cases op <;> simp only [Op.operands] at h <;> simp only [evOp]
  case build t parts =>
    have : parts.toList.map (fun p => (p.1, val T2 p.2)) = parts.toList.map (fun p => (p.1, val T p.2)) := List.map_congr_left fun p hp => by
      rw [h p.2 (by simpa using ⟨p.1, by simpa using hp⟩)]
    rw [this]
  case buildSlice t n parts =>
    have : parts.toList.map (fun p => (p.1, val T2 p.2)) = parts.toList.map (fun p => (p.1, val T p.2)) := List.map_congr_left fun p hp => by
      rw [h p.2 (by simpa using ⟨p.1, by simpa using hp⟩)]
    rw [this]
  case makeFunc fn first cap =>
    have : cap.toList.map (val T2) = cap.toList.map (val T) := List.map_congr_left fun p hp => h p (by simp [hp])
    rw [this]
  case slice t x lo hi mx =>
    have e1 := h x (by simp)
    have e2 : lo.map (val T2) = lo.map (val T) := by cases lo with | none => rfl | some y => exact congrArg some (h y (by simp))
    have e3 : hi.map (val T2) = hi.map (val T) := by cases hi with | none => rfl | some y => exact congrArg some (h y (by simp))
    have e4 : mx.map (val T2) = mx.map (val T) := by cases mx with | none => rfl | some y => exact congrArg some (h y (by simp))
    rw [e1, e2, e3, e4]
  case call c =>
    obtain ⟨callee, args, ts⟩ := c
    cases callee with
    | value f =>
      simp only [Call.operands] at h
      have e1 := h f (by simp)
      have e2 : args.toList.map (val T2) = args.toList.map (val T) := List.map_congr_left fun p hp => h p (by simp [hp])
      simp only [e1, e2]
    | builtin b =>
      simp only [Call.operands] at h
      have e2 : args.toList.map (val T2) = args.toList.map (val T) := List.map_congr_left fun p hp => h p (by simp [hp])
      simp only [e2]
    | invoke r m => rfl
  case pick c a b => rw [h c (by simp), h a (by simp), h b (by simp)]
  all_goals first
    | rfl
    | (rename_i a b; rw [h a (by simp), h b (by simp)]; done)
    | (rename_i a b c; rw [h a (by simp), h b (by simp)]; done)
    | (rename_i t a b; rw [h a (by simp), h b (by simp)]; done)
    | (rename_i p t a b q; rw [h a (by simp), h b (by simp)]; done)
    | (rename_i a; rw [h a (by simp)]; done)
    | (rename_i a b; rw [h a (by simp)]; done)
    | (rename_i t a b; rw [h a (by simp)]; done)
    | (rename_i t u a; rw [h a (by simp)]; done)
    | skip

theorem footIds_congr {T T2 : Nat → V} {o : Oper} (h : ∀ x ∈ o.op.operands.toList, val T2 x = val T x) : footIds conv T2 o = footIds conv T o := by
  obtain ⟨dst, op, type, pos, after, guard⟩ := o
  cases op <;> simp only [Op.operands] at h <;> simp only [footIds]
  case load t a => rw [h a (by simp)]
  case store t a b => rw [h a (by simp)]
  case slice t x lo hi mx => rw [h x (by simp)]
  case convert s d x => rw [h x (by simp)]
  case call c =>
    obtain ⟨callee, args, ts⟩ := c
    have e2 : args.toList.map (val T2) = args.toList.map (val T) := List.map_congr_left fun p hp => h p (by cases callee <;> simp [Call.operands, hp])
    cases callee with
    | value f =>
      have e1 := h f (by simp [Call.operands])
      simp only [e1, e2]
    | builtin b => cases b <;> first | rfl | simp only [e2]
    | invoke r m => rfl

theorem wantedB_congr {ops : Array Oper} {T T2 : Nat → V} {o : Oper} (h : ∀ t ∈ o.looksAt ops, T2 t = T t) : wantedB ops T2 o = wantedB ops T o := by
  unfold wantedB
  split
  · rfl
  · rename_i j want hg
    split
    · rename_i d hd
      have : T2 d = T d := h d (by
        unfold Oper.looksAt
        refine List.mem_append_right _ ?_
        rw [hg]
        simp [hd])
      rw [this]
    · rfl

/-- One operation of a region that draws. -/
def stepD (P : Program) (conv : FuncId → Conv) (call : Call) (ops : Array Oper) (o : Oper) (lo : Nat) (T : Nat → V) (σ : Store) : Option ((Nat → V) × Store × Nat × List Nat) :=
  match wantedB ops T o with
  | some true => match evOpD P conv call o T σ lo with
    | some (v, σ', hi) => some (putT T o.dst v, σ', hi, footIds conv T o)
    | none => none
  | some false => some (putT T o.dst (.tup []), σ, lo, [])
  | none => none

theorem patchS_eq_self {σ : Store} {lo : Nat} {ids : List Nat} : patchS ids lo lo σ (restrict σ ids) = σ := by
  funext b
  unfold patchS restrict
  split
  · rename_i h
    rcases h with h | h
    · rw [if_pos h]
    · omega
  · rfl

theorem patchS_nil {σ τ : Store} {lo : Nat} : patchS [] lo lo σ τ = σ := by
  funext b
  unfold patchS
  split
  · rename_i h
    rcases h with h | h
    · cases h
    · omega
  · rfl

/-- Who does not write leaves the blocks that it touches as they are. -/
theorem reader_same {o : Oper} {T : Nat → V} {σ σ1 : Store} {nx nx1 : Nat} {v : V} (hw : writer conv o = false) (hF : footIds conv T o ≠ []) (h : evOp P conv call o T σ nx = some (v, σ1, nx1)) : σ1 = σ ∧ nx1 = nx := by
  obtain ⟨dst, op, type, pos, after, guard⟩ := o
  cases op <;> simp only [footIds, ne_eq, not_true_eq_false] at hF <;> simp only [evOp] at h
  case load t a => obtain ⟨_, _, e⟩ := map_some' h; cases e; exact ⟨rfl, rfl⟩
  case store t a b => simp [writer] at hw
  case slice t x lo hi mx => obtain ⟨_, _, e⟩ := map_some' h; cases e; exact ⟨rfl, rfl⟩
  case convert s d x => obtain ⟨_, _, e⟩ := map_some' h; cases e; exact ⟨rfl, rfl⟩
  case call c =>
    obtain ⟨callee, args, ts⟩ := c
    cases callee with
    | value f =>
      exfalso
      cases f with
      | func g =>
        simp only [writer] at hw
        simp only [val] at hF
        cases hc : conv g <;> simp [hc] at hw hF
      | tmp t => simp [writer] at hw
      | const t => simp [writer] at hw
      | global t => simp [writer] at hw
    | builtin b => cases b <;> simp [writer] at hw <;> simp at hF
    | invoke r m => simp at hF

theorem stepD_spec {ops : Array Oper} {o : Oper} {lo hi : Nat} {T T1 : Nat → V} {σ σ1 : Store} {F : List Nat} (h : stepD P conv call ops o lo T σ = some (T1, σ1, hi, F)) :
    ∃ v τ W, T1 = putT T o.dst v ∧ σ1 = patchS W lo hi σ τ ∧ (∀ b ∈ W, b ∈ F) ∧ (W ≠ [] → writer conv o = true) ∧ (∀ b ∈ F, b < lo) ∧
      ∀ T2 σ2, (∀ t ∈ o.looksAt ops, T2 t = T t) → (∀ b ∈ F, σ2 b = σ b) → stepD P conv call ops o lo T2 σ2 = some (putT T2 o.dst v, patchS W lo hi σ2 τ, hi, F) := by
  unfold stepD at h
  split at h
  · rename_i hw
    unfold evOpD at h
    by_cases hall : ((footIds conv T o).all fun b => decide (b < lo)) = true
    · rw [if_pos hall] at h
      cases he : evOp P conv call o T (restrict σ (footIds conv T o)) lo with
      | none => rw [he] at h; cases h
      | some r =>
        obtain ⟨v, τ, hi'⟩ := r
        rw [he] at h
        simp only [Option.some.injEq, Prod.mk.injEq] at h
        obtain ⟨rfl, rfl, rfl, rfl⟩ := h
        have hres : ∀ T2 σ2, (∀ t ∈ o.looksAt ops, T2 t = T t) → (∀ b ∈ footIds conv T o, σ2 b = σ b) →
            stepD P conv call ops o lo T2 σ2 = some (putT T2 o.dst v, patchS (footIds conv T o) lo hi' σ2 τ, hi', footIds conv T o) := by
          intro T2 σ2 hT hσ
          have hv := val_congr ops hT
          have hrs : restrict σ2 (footIds conv T o) = restrict σ (footIds conv T o) := by
            funext b; unfold restrict; split
            · rename_i hb; exact hσ b hb
            · rfl
          unfold stepD
          rw [wantedB_congr hT, hw]
          simp only [evOpD, footIds_congr hv, hall, if_true, evOp_congr hv, hrs, he]
        have hlt : ∀ b ∈ footIds conv T o, b < lo := fun b hb => by simpa using List.all_eq_true.1 hall b hb
        by_cases hwr : writer conv o = true
        · exact ⟨v, τ, footIds conv T o, rfl, rfl, fun b h => h, fun _ => hwr, hlt, hres⟩
        · by_cases hF : footIds conv T o = []
          · refine ⟨v, τ, [], rfl, by rw [hF], (fun b h => by cases h), fun h => absurd rfl h, hlt, fun T2 σ2 h1 h2 => by rw [hres T2 σ2 h1 h2, hF]⟩
          · obtain ⟨rfl, rfl⟩ := reader_same (by simpa using hwr) hF he
            refine ⟨v, restrict σ (footIds conv T o), [], rfl, by rw [patchS_eq_self, patchS_nil], (fun b h => by cases h), fun h => absurd rfl h, hlt, fun T2 σ2 h1 h2 => ?_⟩
            rw [hres T2 σ2 h1 h2]
            have : restrict σ (footIds conv T o) = restrict σ2 (footIds conv T o) := by
              funext b; unfold restrict; split
              · rename_i hb; exact (h2 b hb).symm
              · rfl
            rw [this, patchS_eq_self, patchS_nil]
    · rw [if_neg hall] at h; cases h
  · rename_i hw
    simp only [Option.some.injEq, Prod.mk.injEq] at h
    obtain ⟨rfl, rfl, rfl, rfl⟩ := h
    refine ⟨_, σ, [], rfl, patchS_nil.symm, fun b h => h, fun h => absurd rfl h, (fun b h => by cases h), fun T2 σ2 hT _ => ?_⟩
    unfold stepD
    rw [wantedB_congr hT, hw]
    simp only [patchS_nil]
  · cases h

structure Rec where
  o : Oper
  i : Nat
  lo : Nat
  hi : Nat
  F : List Nat

/-- a before b: their order does not matter. -/
structure Ap (conv : FuncId → Conv) (ops : Array Oper) (a b : Rec) : Prop where
  names : a.o.apart ops b.o = true
  foot : (writer conv a.o = true ∨ writer conv b.o = true) → ∀ c ∈ a.F, c ∉ b.F
  lt : a.hi ≤ b.lo
  fb : ∀ c ∈ b.F, ¬ (a.lo ≤ c ∧ c < a.hi)
  fa : ∀ c ∈ a.F, c < b.lo

theorem swapD {ops : Array Oper} {a b : Rec} (ap : Ap conv ops a b) {T T1 T2 : Nat → V} {σ σ1 σ2 : Store} (h1 : stepD P conv call ops a.o a.lo T σ = some (T1, σ1, a.hi, a.F)) (h2 : stepD P conv call ops b.o b.lo T1 σ1 = some (T2, σ2, b.hi, b.F)) :
    ∃ T1' σ1', stepD P conv call ops b.o b.lo T σ = some (T1', σ1', b.hi, b.F) ∧ stepD P conv call ops a.o a.lo T1' σ1' = some (T2, σ2, a.hi, a.F) := by
  obtain ⟨n1, n2, n3⟩ := Oper.apart_spec ap.names
  obtain ⟨v, τ, W, rfl, rfl, hWF, hWw, hlt, hla⟩ := stepD_spec h1
  obtain ⟨v', τ', W', rfl, rfl, hWF', hWw', hlt', hlb⟩ := stepD_spec h2
  have hputT : ∀ (T : Nat → V) (dst : Option Tmp) (v : V) (t : Nat), dst ≠ some t → putT T dst v t = T t := fun T dst v t h => by
    cases dst with
    | none => rfl
    | some d => exact upd_ne _ _ (fun e => h (by rw [e]))
  have hdis : ∀ c, c ∈ W → c ∉ b.F := fun c hc => ap.foot (.inl (hWw (by intro e; rw [e] at hc; cases hc))) c (hWF c hc)
  have hdis' : ∀ c, c ∈ W' → c ∉ a.F := fun c hc hca => ap.foot (.inr (hWw' (by intro e; rw [e] at hc; cases hc))) c hca (hWF' c hc)
  have e1 := hlb T σ (fun t ht => (hputT T a.o.dst v t (fun e => n1 t e ht)).symm) (fun c hc => by
    unfold patchS
    rw [if_neg]
    rintro (h | h)
    · exact hdis c h hc
    · exact ap.fb c hc h)
  have e2 := hla (putT T b.o.dst v') (patchS W' b.lo b.hi σ τ') (fun t ht => hputT T b.o.dst v' t (fun e => n3 t e ht)) (fun c hc => by
    unfold patchS
    rw [if_neg]
    rintro (h | h)
    · exact hdis' c h hc
    · have := ap.fa c hc; omega)
  refine ⟨_, _, e1, ?_⟩
  rw [e2]
  have hT : putT (putT T b.o.dst v') a.o.dst v = putT (putT T a.o.dst v) b.o.dst v' := by
    cases hda : a.o.dst with
    | none => rfl
    | some d =>
      cases hdb : b.o.dst with
      | none => rfl
      | some d' =>
        have hne : d' ≠ d := fun e => n2 d hda (by rw [hdb, e])
        funext t
        simp only [putT, upd]
        split
        · rename_i e; rw [if_neg (by rw [e]; exact fun h => hne h.symm)]
        · rfl
  have hσ : patchS W a.lo a.hi (patchS W' b.lo b.hi σ τ') τ = patchS W' b.lo b.hi (patchS W a.lo a.hi σ τ) τ' := by
    funext c
    unfold patchS
    by_cases h1 : c ∈ W ∨ (a.lo ≤ c ∧ c < a.hi)
    · have h2 : ¬ (c ∈ W' ∨ (b.lo ≤ c ∧ c < b.hi)) := by
        rintro (h2 | h2)
        · rcases h1 with h1 | h1
          · exact hdis' c h2 (hWF c h1)
          · exact ap.fb c (hWF' c h2) h1
        · rcases h1 with h1 | h1
          · have := ap.fa c (hWF c h1); omega
          · have := ap.lt; omega
      rw [if_pos h1, if_neg h2, if_pos h1]
    · rw [if_neg h1]
      by_cases h2 : c ∈ W' ∨ (b.lo ≤ c ∧ c < b.hi)
      · rw [if_pos h2, if_pos h2]
      · rw [if_neg h2, if_neg h2, if_neg h1]
  rw [hT, hσ]

def RunD (P : Program) (conv : FuncId → Conv) (call : Call) (ops : Array Oper) : List Rec → (Nat → V) → Store → (Nat → V) → Store → Prop
  | [], T, σ, T', σ' => T = T' ∧ σ = σ'
  | r :: L, T, σ, T', σ' => ∃ T1 σ1, stepD P conv call ops r.o r.lo T σ = some (T1, σ1, r.hi, r.F) ∧ RunD P conv call ops L T1 σ1 T' σ'

/-- An operation that is apart from all that stand before it may be taken first. -/
theorem frontD {ops : Array Oper} {r : Rec} : ∀ (L1 L2 : List Rec) (T T' : Nat → V) (σ σ' : Store), (∀ a ∈ L1, Ap conv ops a r) → RunD P conv call ops (L1 ++ r :: L2) T σ T' σ' → RunD P conv call ops (r :: (L1 ++ L2)) T σ T' σ'
  | [], L2, T, T', σ, σ', _, h => h
  | a :: L1, L2, T, T', σ, σ', hap, h => by
    obtain ⟨T1, σ1, h1, h2⟩ := h
    obtain ⟨T2, σ2, h3, h4⟩ := frontD L1 L2 T1 T' σ1 σ' (fun b hb => hap b (List.mem_cons_of_mem _ hb)) h2
    obtain ⟨T1', σ1', h5, h6⟩ := swapD (hap a List.mem_cons_self) h1 h3
    exact ⟨T1', σ1', h5, T2, σ2, h6, h4⟩

end
end Go.TV
