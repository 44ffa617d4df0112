import Derived.Test.YtlacjcdhfoeekaaTv22
set_option linter.unusedSimpArgs false
set_option linter.unusedVariables false
namespace Go.TV
set_option linter.unusedVariables false
set_option linter.unusedSimpArgs false

/-- What a function tells of trees. -/
noncomputable def fn (P : Program) (conv : FuncId → Conv) (ext : Ext) (f : FuncId) (ts : List V) : Option V :=
  match ev P conv ext f ts noStore 0 with
  | some (v, σ1, _) => (strip σ1 depth v).map (·.1)
  | none => none

section
variable {P : Program} {conv : FuncId → Conv} {ext : Ext}

theorem fn_of {f : FuncId} {ts : List V} {v t : V} {σ1 : Store} {n : Nat} {ids : List Nat} (h : ev P conv ext f ts noStore 0 = some (v, σ1, n)) (hs : strip σ1 depth v = some (t, ids)) : fn P conv ext f ts = some t := by
  unfold fn
  simp only [h, hs, Option.map_some]

/-- The caller's store behind a call. -/
def behind (σ : Store) (ids : List Nat) (t : V) : Store := if ids.isEmpty || flat depth t then σ else freezeL σ ids

theorem call_imm {f : FuncId} (h : conv f = .imm) (args : List V) (σ : Store) (nx : Nat) : evCall conv (ev P conv ext) f args σ nx =
    (stripL (strip σ depth) args).bind fun p => (fn P conv ext f p.1).map fun t => (t, behind σ p.2 t, nx) := by
  unfold evCall fn behind
  rw [h]
  simp only
  cases stripL (strip σ depth) args with
  | none => rfl
  | some p =>
    obtain ⟨ts, ids⟩ := p
    simp only [Option.bind_some]
    cases ev P conv ext f ts noStore 0 with
    | none => rfl
    | some q =>
      obtain ⟨v, σ1, n⟩ := q
      simp only
      cases strip σ1 depth v with
      | none => rfl
      | some r =>
        obtain ⟨t, j⟩ := r
        simp only [Option.map_some]
        split <;> rfl

theorem behind_nil (σ : Store) (t : V) : behind σ [] t = σ := rfl
theorem behind_sc (σ : Store) (ids : List Nat) (v : Value) : behind σ ids (.sc v) = σ := by
  unfold behind depth flat
  simp
theorem behind_tup2 (σ : Store) (ids : List Nat) (v w : Value) : behind σ ids (.tup [.sc v, .sc w]) = σ := by
  have : flat depth (.tup [.sc v, .sc w]) = true := rfl
  unfold behind
  rw [this]
  simp

theorem call_inl {call : Call} {f : FuncId} (h : conv f = .inl) (args : List V) (σ : Store) (nx : Nat) : evCall conv call f args σ nx = call f args σ nx := by
  unfold evCall; rw [h]

theorem call_own {call : Call} {f : FuncId} (h : conv f = .own) (args : List V) (σ : Store) (nx : Nat) : evCall conv call f args σ nx =
    (stripL (strip σ depth) args).bind fun p => (call f p.1 noStore nx).bind fun q => (gather q.2.1 depth q.1).map fun ids => (q.1, joinS nx σ q.2.1 ids, q.2.2) := by
  unfold evCall
  rw [h]
  simp only
  cases stripL (strip σ depth) args with
  | none => rfl
  | some p =>
    simp only [Option.bind_some]
    cases call f p.1 noStore nx with
    | none => rfl
    | some q =>
      simp only [Option.bind_some]
      cases gather q.2.1 depth q.1 <;> rfl

/-! ### Trees of arguments -/
theorem stripL_nil (f : V → Option (V × List Nat)) : stripL f [] = some ([], []) := rfl
theorem stripL_cons (f : V → Option (V × List Nat)) (v : V) (vs : List V) : stripL f (v :: vs) = (f v).bind fun p => (stripL f vs).map fun q => (p.1 :: q.1, p.2 ++ q.2) := by
  show (match f v, stripL f vs with | some (t, i), some (ts, j) => some (t :: ts, i ++ j) | _, _ => none) = _
  cases f v <;> cases stripL f vs <;> rfl
theorem strip_sc (σ : Store) (d : Nat) (v : Value) : strip σ d (.sc v) = some (.sc v, []) := by cases d <;> rfl
theorem strip_nil (σ : Store) (d : Nat) : strip σ d .nil = some (.ts [] 0, []) := by cases d <;> rfl
theorem strip_junk (σ : Store) (d : Nat) : strip σ d .junk = some (.junk, []) := by cases d <;> rfl
theorem strip_tp (σ : Store) (d : Nat) (row : List V) (off : Nat) : strip σ d (.tp row off) = some (.tp row off, []) := by cases d <;> rfl
theorem strip_ts (σ : Store) (d : Nat) (row : List V) (len : Nat) : strip σ d (.ts row len) = some (.ts row len, []) := by cases d <;> rfl
theorem strip_agg (σ : Store) (d : Nat) (vs : List V) : strip σ (d + 1) (.agg vs) = (stripL (strip σ d) vs).map fun p => (.agg p.1, p.2) := by
  show (match stripL (strip σ d) vs with | some (ts, ids) => some (V.agg ts, ids) | none => none) = _
  cases stripL (strip σ d) vs <;> rfl
theorem strip_tup (σ : Store) (d : Nat) (vs : List V) : strip σ (d + 1) (.tup vs) = (stripL (strip σ d) vs).map fun p => (.tup p.1, p.2) := by
  show (match stripL (strip σ d) vs with | some (ts, ids) => some (V.tup ts, ids) | none => none) = _
  cases stripL (strip σ d) vs <;> rfl
theorem strip_clo (σ : Store) (d : Nat) (f : FuncId) (vs : List V) : strip σ (d + 1) (.clo f vs) = (stripL (strip σ d) vs).map fun p => (.clo f p.1, p.2) := by
  show (match stripL (strip σ d) vs with | some (ts, ids) => some (V.clo f ts, ids) | none => none) = _
  cases stripL (strip σ d) vs <;> rfl
theorem strip_rp (σ : Store) (d b off : Nat) : strip σ (d + 1) (.rp b off) = (σ b).bind fun B => (stripL (strip σ d) B.cells).map fun p => (.tp p.1 off, b :: p.2) := by
  show (match σ b with | some B => (match stripL (strip σ d) B.cells with | some (ts, ids) => some (V.tp ts off, b :: ids) | none => none) | none => none) = _
  cases σ b with
  | none => rfl
  | some B => simp only [Option.bind_some]; cases stripL (strip σ d) B.cells <;> rfl
theorem strip_rs (σ : Store) (d b off len : Nat) : strip σ (d + 1) (.rs b off len) = (σ b).bind fun B => if off + len * B.st ≤ B.cells.length then (stripL (strip σ d) ((B.cells.drop off).take (len * B.st))).map fun p => (.ts p.1 len, b :: p.2) else none := by
  show (match σ b with | some B => (if off + len * B.st ≤ B.cells.length then (match stripL (strip σ d) ((B.cells.drop off).take (len * B.st)) with | some (ts, ids) => some (V.ts ts len, b :: ids) | none => none) else none) | none => none) = _
  cases σ b with
  | none => rfl
  | some B =>
    simp only [Option.bind_some]
    split
    · cases stripL (strip σ d) ((B.cells.drop off).take (len * B.st)) <;> rfl
    · rfl
/-- Cells that hold no references stay as they are. -/
theorem stripL_flat {α : Type} (σ : Store) (d : Nat) (g : α → V) (hg : ∀ x, strip σ d (g x) = some (g x, [])) : ∀ xs : List α, stripL (strip σ d) (xs.map g) = some (xs.map g, [])
  | [] => rfl
  | x :: xs => by rw [List.map_cons, stripL_cons, hg, stripL_flat σ d g hg xs]; rfl

/-! ### Calls in regions that draw -/

/-- A call of trees. -/
def callD (P : Program) (conv : FuncId → Conv) (ext : Ext) (f : FuncId) (args : List V) : Option V → Option V := id

theorem opD_call {d : Option Tmp} {ty : TypeId} {ps : String} {af : Array Edge} {gd : Option (Nat × Bool)} {T : Nat → V} {σ : Store} {nx : Nat} {g : FuncId} (h : conv g = .imm) (args : Array Operand) (ts : Array TypeId) :
    evOpD P conv (ev P conv ext) ⟨d, .call ⟨.value (.func g), args, ts⟩, ty, ps, af, gd⟩ T σ nx = (stripL (strip (restrict σ []) depth) (args.toList.map (val T))).bind fun p => if p.2.isEmpty = true then (fn P conv ext g p.1).map fun t => (t, σ, nx) else none := by
  unfold evOpD
  have hf : footIds conv T (⟨d, .call ⟨.value (.func g), args, ts⟩, ty, ps, af, gd⟩ : Oper) = [] := by
    simp only [footIds, val, h]
  rw [hf]
  simp only [List.all_nil, if_true]
  have e := op_call (P := P) (conv := conv) (call := ev P conv ext) d ty ps af gd T (restrict σ []) nx (.func g) args ts
  rw [e]
  simp only [val, callV_clo, List.append_nil, call_imm h]
  have hns : ∀ (dd : Nat) (v t : V) (ids : List Nat), strip (restrict σ []) dd v = some (t, ids) → ids = [] := by
    have hl : ∀ (f : V → Option (V × List Nat)), (∀ v t ids, f v = some (t, ids) → ids = []) → ∀ (vs ts : List V) (ids : List Nat), stripL f vs = some (ts, ids) → ids = [] := by
      intro f hf vs
      induction vs with
      | nil => intro ts ids h; simp only [stripL, Option.some.injEq, Prod.mk.injEq] at h; exact h.2.symm
      | cons v vs ih =>
        intro ts ids h
        unfold stripL at h
        split at h
        · rename_i e1 e2
          simp only [Option.some.injEq, Prod.mk.injEq] at h
          rw [← h.2, hf _ _ _ e1, ih _ _ e2]; rfl
        · cases h
    intro dd
    induction dd with
    | zero =>
      intro v t ids h
      unfold strip at h
      split at h <;> first | (simp only [Option.some.injEq, Prod.mk.injEq] at h; exact h.2.symm) | cases h
    | succ dd ih =>
      intro v t ids h
      have hr : ∀ b, restrict σ [] b = none := fun b => by unfold restrict; simp
      cases v with
      | sc u => rw [strip_sc] at h; simp only [Option.some.injEq, Prod.mk.injEq] at h; exact h.2.symm
      | nil => rw [strip_nil] at h; simp only [Option.some.injEq, Prod.mk.injEq] at h; exact h.2.symm
      | junk => rw [strip_junk] at h; simp only [Option.some.injEq, Prod.mk.injEq] at h; exact h.2.symm
      | tp row off => rw [strip_tp] at h; simp only [Option.some.injEq, Prod.mk.injEq] at h; exact h.2.symm
      | ts row len => rw [strip_ts] at h; simp only [Option.some.injEq, Prod.mk.injEq] at h; exact h.2.symm
      | agg vs => rw [strip_agg] at h; obtain ⟨p, hp, e⟩ := map_some' h; simp only [Prod.mk.injEq] at e; rw [← e.2]; exact hl _ ih _ _ _ hp
      | tup vs => rw [strip_tup] at h; obtain ⟨p, hp, e⟩ := map_some' h; simp only [Prod.mk.injEq] at e; rw [← e.2]; exact hl _ ih _ _ _ hp
      | clo f vs => rw [strip_clo] at h; obtain ⟨p, hp, e⟩ := map_some' h; simp only [Prod.mk.injEq] at e; rw [← e.2]; exact hl _ ih _ _ _ hp
      | rp b off => rw [strip_rp, hr] at h; cases h
      | rs b off len => rw [strip_rs, hr] at h; cases h
  cases hst : stripL (strip (restrict σ []) depth) (args.toList.map (val T)) with
  | none => rfl
  | some p =>
    have hp2 : p.2 = [] := by
      have hl : ∀ (vs ts : List V) (ids : List Nat), stripL (strip (restrict σ []) depth) vs = some (ts, ids) → ids = [] := by
        intro vs
        induction vs with
        | nil => intro ts ids h; simp only [stripL, Option.some.injEq, Prod.mk.injEq] at h; exact h.2.symm
        | cons v vs ih =>
          intro ts ids h
          unfold stripL at h
          split at h
          · rename_i e1 e2
            simp only [Option.some.injEq, Prod.mk.injEq] at h
            rw [← h.2, hns _ _ _ _ e1, ih _ _ e2]; rfl
          · cases h
      exact hl _ _ _ hst
    simp only [Option.bind_some, hp2, List.isEmpty_nil, if_true, behind_nil]
    cases fn P conv ext g p.1 with
    | none => rfl
    | some t => simp only [Option.map_some, patchS_nil]

end

/-! ### Short words for data -/
abbrev I (n : Int) : V := .sc (.int .i64 n)
abbrev Bo (b : Bool) : V := .sc (.bool b)
abbrev Sg (s : ByteArray) : V := .sc (.string s)
abbrev L (xs : List Int) : V := .ts (xs.map I) xs.length

theorem wrap_id {n : Int} (h0 : -9223372036854775808 ≤ n) (h1 : n ≤ 9223372036854775807) : IntKind.i64.wrap n = n := by
  rw [IntKind.wrap_i64]; omega

end Go.TV
