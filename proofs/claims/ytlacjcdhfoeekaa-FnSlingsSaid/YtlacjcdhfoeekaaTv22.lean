import Derived.Test.YtlacjcdhfoeekaaTv21
set_option linter.unusedSimpArgs false
set_option linter.unusedVariables false
namespace Go.TV
set_option linter.unusedVariables false
set_option linter.unusedSimpArgs false

section
variable {P : Program} {conv : FuncId → Conv} {call : Call}

/-! ### Regions that draw, without the bookkeeping -/

def evOpsQ (P : Program) (conv : FuncId → Conv) (call : Call) (ops : Array Oper) : List Oper → St → Option St
  | [], s => some s
  | o :: rest, s => match wantedB ops s.T o with
    | some true => match evOpD P conv call o s.T s.σ s.nx with
      | some (v, σ', nx') => evOpsQ P conv call ops rest ⟨putT s.T o.dst v, σ', nx'⟩
      | none => none
    | some false => evOpsQ P conv call ops rest ⟨putT s.T o.dst (.tup []), s.σ, s.nx⟩
    | none => none

theorem evOpsQ_eq (ops : Array Oper) : ∀ (l : List Oper) (s : St), evOpsQ P conv call ops l s = (evOpsD P conv call ops l s).map (·.1)
  | [], s => rfl
  | o :: l, s => by
    unfold evOpsQ evOpsD
    cases wantedB ops s.T o with
    | none => rfl
    | some b =>
      cases b with
      | true =>
        simp only
        cases evOpD P conv call o s.T s.σ s.nx with
        | none => rfl
        | some q =>
          obtain ⟨v, σ', nx'⟩ := q
          simp only
          rw [evOpsQ_eq ops l]
          cases evOpsD P conv call ops l ⟨putT s.T o.dst v, σ', nx'⟩ <;> rfl
      | false =>
        simp only
        rw [evOpsQ_eq ops l]
        cases evOpsD P conv call ops l ⟨putT s.T o.dst (.tup []), s.σ, s.nx⟩ <;> rfl

def quietB (conv : FuncId → Conv) (ops : Array Oper) : Bool := ordOk ops && (wpairs conv ops.toList).isEmpty

theorem evDraw_quiet {ops : Array Oper} (h : quietB conv ops = true) (s : St) : evDraw P conv call ops s = evOpsQ P conv call ops ops.toList s := by
  unfold quietB at h
  rw [Bool.and_eq_true] at h
  have hw : wpairs conv ops.toList = [] := by simpa using h.2
  unfold evDraw
  rw [if_pos h.1, evOpsQ_eq, hw]
  cases evOpsD P conv call ops ops.toList s with
  | none => rfl
  | some q => obtain ⟨s', fs⟩ := q; rfl

/-! ### Regions that draw, with the blocks that are touched -/
def okF (acc : List (Bool × List Nat)) (w : Bool) (ids : List Nat) : Bool := acc.all fun p => !(w || p.1) || p.2.all fun b => !ids.contains b
def evOpsF (P : Program) (conv : FuncId → Conv) (call : Call) (ops : Array Oper) : List Oper → List (Bool × List Nat) → St → Option St
  | [], _, s => some s
  | o :: rest, acc, s => match wantedB ops s.T o with
    | some true => if okF acc (writer conv o) (footIds conv s.T o) = true then (match evOpD P conv call o s.T s.σ s.nx with
      | some (v, σ', nx') => evOpsF P conv call ops rest (acc ++ [(writer conv o, footIds conv s.T o)]) ⟨putT s.T o.dst v, σ', nx'⟩
      | none => none) else none
    | some false => evOpsF P conv call ops rest (acc ++ [(writer conv o, [])]) ⟨putT s.T o.dst (.tup []), s.σ, s.nx⟩
    | none => none

/-- Apart: of two that touch one block, none writes. -/
def Apart (ws : List (Bool × List Nat)) : Prop := ∀ (i j : Nat) p q, i < j → ws[i]? = some p → ws[j]? = some q → (q.1 || p.1) = true → ∀ b ∈ p.2, b ∉ q.2
theorem apart_snoc {acc : List (Bool × List Nat)} {w : Bool} {ids : List Nat} (h : Apart acc) (ho : okF acc w ids = true) : Apart (acc ++ [(w, ids)]) := by
  intro i j p q hij hp hq hw b hb hb'
  rcases Nat.lt_trichotomy j acc.length with hj | hj | hj
  · rw [List.getElem?_append_left hj] at hq
    rw [List.getElem?_append_left (by omega)] at hp
    exact h i j p q hij hp hq hw b hb hb'
  · subst hj
    rw [List.getElem?_append_right (Nat.le_refl _), Nat.sub_self] at hq
    simp only [List.getElem?_cons_zero, Option.some.injEq] at hq
    subst hq
    rw [List.getElem?_append_left hij] at hp
    unfold okF at ho
    have := (List.all_eq_true.mp ho) p (List.mem_of_getElem? hp)
    simp only at hw
    rw [hw, Bool.not_true, Bool.false_or] at this
    have := (List.all_eq_true.mp this) b hb
    simp at this
    exact this hb'
  · rw [List.getElem?_eq_none (by simp; omega)] at hq
    cases hq

theorem evOpsF_spec (ops : Array Oper) : ∀ (l : List Oper) (acc : List (Bool × List Nat)) (s s' : St), Apart acc → evOpsF P conv call ops l acc s = some s' →
    ∃ fs, evOpsD P conv call ops l s = some (s', fs) ∧ fs.length = l.length ∧ Apart (acc ++ (l.zip fs).map fun p => (writer conv p.1, p.2))
  | [], acc, s, s', ha, h => by
    unfold evOpsF at h
    cases h
    exact ⟨[], rfl, rfl, by simpa using ha⟩
  | o :: l, acc, s, s', ha, h => by
    unfold evOpsF at h
    unfold evOpsD
    cases hw : wantedB ops s.T o with
    | none => rw [hw] at h; cases h
    | some b =>
      rw [hw] at h
      cases b with
      | true =>
        simp only at h ⊢
        by_cases ho : okF acc (writer conv o) (footIds conv s.T o) = true
        · rw [if_pos ho] at h
          cases hr : evOpD P conv call o s.T s.σ s.nx with
          | none => rw [hr] at h; cases h
          | some q =>
            obtain ⟨v, σ', nx'⟩ := q
            rw [hr] at h
            obtain ⟨fs, h1, h2, h3⟩ := evOpsF_spec ops l _ _ s' (apart_snoc ha ho) h
            refine ⟨footIds conv s.T o :: fs, ?_, by simp [h2], by simpa using h3⟩
            simp only
            rw [h1]
        · rw [if_neg ho] at h; cases h
      | false =>
        simp only at h ⊢
        obtain ⟨fs, h1, h2, h3⟩ := evOpsF_spec ops l _ _ s' (apart_snoc ha (by unfold okF; simp)) h
        refine ⟨[] :: fs, ?_, by simp [h2], by simpa using h3⟩
        rw [h1]

theorem pairsOk_apart {l : List Oper} {fs : List (List Nat)} (hl : fs.length = l.length) (h : Apart ((l.zip fs).map fun p => (writer conv p.1, p.2))) : pairsOk fs (wpairs conv l) = true := by
  unfold pairsOk
  refine List.all_eq_true.mpr ?_
  rintro ⟨i, j⟩ hm
  unfold wpairs at hm
  simp only [List.mem_flatMap, List.mem_filterMap] at hm
  obtain ⟨⟨o, j'⟩, hj, ⟨p, i'⟩, hi, he⟩ := hm
  simp only at he
  split at he
  · cases he
  · split at he
    · rename_i hwr
      simp only [Option.some.injEq, Prod.mk.injEq] at he
      obtain ⟨rfl, rfl⟩ := he
      have hj2 := List.mem_zipIdx' hj
      have hi2 := List.mem_zipIdx' hi
      obtain ⟨hj3, hj4⟩ := hj2
      obtain ⟨hi3, hi4⟩ := hi2
      simp only [List.length_take] at hi3
      refine List.all_eq_true.mpr fun b hb => ?_
      have hif : i' < fs.length := by omega
      have hjf : j' < fs.length := by omega
      rw [List.getElem?_eq_getElem hif, Option.getD_some] at hb
      rw [List.getElem?_eq_getElem hjf, Option.getD_some]
      have hz : ∀ (k : Nat) (h1 : k < l.length) (h2 : k < fs.length), ((l.zip fs).map fun p => (writer conv p.1, p.2))[k]? = some (writer conv l[k], fs[k]) := by
        intro k h1 h2
        rw [List.getElem?_map, List.getElem?_eq_getElem (by simp; omega)]
        simp
      have := h i' j' _ _ (by omega) (hz i' (by omega) hif) (hz j' hj3 hjf) (by
        rw [List.getElem_take] at hi4
        rw [← hj4, ← hi4]; exact hwr) b hb
      simpa using this
    · cases he

def drawK (P : Program) (conv : FuncId → Conv) (call : Call) (ops : Array Oper) (s0 : St) : Option St → Option St
  | some s => some s
  | none => evDraw P conv call ops s0
theorem drawK_eq {ops : Array Oper} (ho : ordOk ops = true) (s : St) : drawK P conv call ops s (evOpsF P conv call ops ops.toList [] s) = evDraw P conv call ops s := by
  cases h : evOpsF P conv call ops ops.toList [] s with
  | none => rfl
  | some s' =>
    obtain ⟨fs, h1, h2, h3⟩ := evOpsF_spec ops ops.toList [] s s' (by intro i j p q _ hp; simp at hp) h
    unfold drawK evDraw
    rw [if_pos ho, h1]
    simp only
    rw [if_pos (pairsOk_apart h2 (by simpa using h3))]

/-- The regions but those that are named draw without harm. -/
def quietCode (conv : FuncId → Conv) (ex : List Nat) : Code → Bool
  | .region id ops draw => !draw || (ex.contains id && ordOk ops) || quietB conv ops
  | .seq a b => quietCode conv ex a && quietCode conv ex b
  | .cond _ a b => quietCode conv ex a && quietCode conv ex b
  | .block _ c => quietCode conv ex c
  | .loop c => quietCode conv ex c
  | _ => true

noncomputable def evC (P : Program) (conv : FuncId → Conv) (call : Call) (ex : List Nat) : Code → St → Option (Ex × St)
  | .skip, s => some (.norm, s)
  | .region id ops draw, s => norm1 (if draw then (if id ∈ ex then drawK P conv call ops s (evOpsF P conv call ops ops.toList [] s) else evOpsQ P conv call ops ops.toList s) else evOps P conv call ops ops.toList s)
  | .seq a b, s => match evC P conv call ex a s with
    | some (.norm, s') => evC P conv call ex b s'
    | r => r
  | .cond c a b, s => match val s.T c with
    | .sc (.bool true) => evC P conv call ex a s
    | .sc (.bool false) => evC P conv call ex b s
    | _ => none
  | .block id c, s => blockK id (evC P conv call ex c s)
  | .loop c, s => evLoopI (evC P conv call ex c) s
  | .exit id, s => some (.exit id, s)
  | .ret, s => some (.ret, s)
  | _, _ => none

theorem evC_eq {ex : List Nat} : ∀ (c : Code), quietCode conv ex c = true → ∀ s, evCodeI P conv call c s = evC P conv call ex c s := by
  intro c
  induction c with
  | region id ops draw =>
    intro h s
    simp only [quietCode, evC, evCodeI] at *
    cases draw with
    | false => simp only [Bool.false_eq_true, if_false]; cases evOps P conv call ops ops.toList s <;> rfl
    | true =>
      simp only [if_true]
      by_cases hid : id ∈ ex
      · rw [if_pos hid]
        by_cases ho : ordOk ops = true
        · rw [drawK_eq ho]; cases evDraw P conv call ops s <;> rfl
        · have hq : quietB conv ops = true := by simpa [ho] using h
          unfold quietB at hq
          rw [Bool.and_eq_true] at hq
          exact absurd hq.1 ho
      · rw [if_neg hid]
        have hq : quietB conv ops = true := by simpa [hid] using h
        rw [evDraw_quiet hq]
        cases evOpsQ P conv call ops ops.toList s <;> rfl
  | seq a b iha ihb =>
    intro h s
    simp only [quietCode, Bool.and_eq_true] at h
    simp only [evC, evCodeI]
    rw [iha h.1]
    cases evC P conv call ex a s with
    | none => rfl
    | some q => obtain ⟨e, s'⟩ := q; cases e <;> first | exact ihb h.2 s' | rfl
  | cond v a b iha ihb =>
    intro h s
    simp only [quietCode, Bool.and_eq_true] at h
    simp only [evC, evCodeI, iha h.1, ihb h.2]
    rfl
  | block id c ih =>
    intro h s
    simp only [quietCode] at h
    simp only [evC, evCodeI, blockK]
    rw [ih h]
    rfl
  | loop c ih =>
    intro h s
    simp only [quietCode] at h
    simp only [evC, evCodeI]
    rw [show evCodeI P conv call c = evC P conv call ex c from funext (ih h)]
  | _ => intro h s; rfl

noncomputable def sK (P : Program) (conv : FuncId → Conv) (call : Call) (ex : List Nat) (b : Code) : Option (Ex × St) → Option (Ex × St)
  | some (.norm, s) => evC P conv call ex b s
  | r => r
variable {ex : List Nat}
theorem c_seq (a b : Code) (s : St) : evC P conv call ex (.seq a b) s = sK P conv call ex b (evC P conv call ex a s) := by
  show (match evC P conv call ex a s with | some (.norm, s') => evC P conv call ex b s' | r => r) = _
  unfold sK
  rfl
theorem sK_norm (b : Code) (s : St) : sK P conv call ex b (some (.norm, s)) = evC P conv call ex b s := rfl
theorem sK_ret (b : Code) (s : St) : sK P conv call ex b (some (.ret, s)) = some (.ret, s) := rfl
theorem sK_exit (b : Code) (i : Nat) (s : St) : sK P conv call ex b (some (.exit i, s)) = some (.exit i, s) := rfl
theorem c_region (id : Nat) (l : List Oper) (s : St) : evC P conv call ex (.region id l.toArray false) s = norm1 (evOps P conv call l.toArray l s) := rfl
theorem c_draw (id : Nat) (l : List Oper) (s : St) : evC P conv call [] (.region id l.toArray true) s = norm1 (evOpsQ P conv call l.toArray l s) := rfl
theorem c_skip (s : St) : evC P conv call ex .skip s = some (.norm, s) := rfl
theorem c_ret (s : St) : evC P conv call ex .ret s = some (.ret, s) := rfl
theorem c_exit (i : Nat) (s : St) : evC P conv call ex (.exit i) s = some (.exit i, s) := rfl
noncomputable def cK (P : Program) (conv : FuncId → Conv) (call : Call) (ex : List Nat) (a b : Code) (s : St) : V → Option (Ex × St)
  | .sc (.bool true) => evC P conv call ex a s
  | .sc (.bool false) => evC P conv call ex b s
  | _ => none
theorem c_cond (c : Operand) (a b : Code) (T : Nat → V) (σ : Store) (nx : Nat) : evC P conv call ex (.cond c a b) ⟨T, σ, nx⟩ = cK P conv call ex a b ⟨T, σ, nx⟩ (val T c) := by
  show (match val T c with | .sc (.bool true) => _ | .sc (.bool false) => _ | _ => none) = _
  unfold cK
  rfl
theorem cK_true (a b : Code) (s : St) : cK P conv call ex a b s (.sc (.bool true)) = evC P conv call ex a s := rfl
theorem cK_false (a b : Code) (s : St) : cK P conv call ex a b s (.sc (.bool false)) = evC P conv call ex b s := rfl
theorem c_block (id : Nat) (c : Code) (s : St) : evC P conv call ex (.block id c) s = blockK id (evC P conv call ex c s) := rfl
theorem c_loop (c : Code) (s : St) : evC P conv call ex (.loop c) s = evLoopI (evC P conv call ex c) s := rfl

theorem ev_eqQ {ext : Ext} {f : FuncId} {fn : Func} {body : Code} {rs : List ResultVar} (ex : List Nat) (hg : ext f = none) (hf : P.funcs[f]? = some fn) (hb : fn.body = some body) (hr : fn.results.toList = rs) {args : List V} (hok : fnOk fn body args.length = true) (hq : quietCode conv ex body = true) (σ : Store) (nx : Nat) :
    ev P conv ext f args σ nx = resK P rs (evC P conv (ev P conv ext) ex body ⟨argsT args, σ, nx⟩) := by
  rw [ev_eq hg hf hb hr hok, bodyI_eq, evC_eq body hq]

/-! ### Steps of a region that draws and writes -/
theorem drawK_some (ops : Array Oper) (s0 s : St) : drawK P conv call ops s0 (some s) = some s := rfl
theorem c_draw1 (i id : Nat) (l : List Oper) (s : St) : evC P conv call [i] (.region id l.toArray true) s = norm1 (if id = i then drawK P conv call l.toArray s (evOpsF P conv call l.toArray l [] s) else evOpsQ P conv call l.toArray l s) := by
  show norm1 (if id ∈ [i] then _ else _) = _
  simp only [List.mem_singleton]
theorem c_draw2 (i j id : Nat) (l : List Oper) (s : St) : evC P conv call [i, j] (.region id l.toArray true) s = norm1 (if id = i then drawK P conv call l.toArray s (evOpsF P conv call l.toArray l [] s) else if id = j then drawK P conv call l.toArray s (evOpsF P conv call l.toArray l [] s) else evOpsQ P conv call l.toArray l s) := by
  show norm1 (if id ∈ [i, j] then _ else _) = _
  by_cases h1 : id = i
  · rw [if_pos h1, if_pos (by simp [h1])]
  · rw [if_neg h1]
    by_cases h2 : id = j
    · rw [if_pos h2, if_pos (by simp [h2])]
    · rw [if_neg h2, if_neg (by simp [h1, h2])]
def opsKF (P : Program) (conv : FuncId → Conv) (call : Call) (ops : Array Oper) (rest : List Oper) (acc : List (Bool × List Nat)) (T : Nat → V) (d : Option Tmp) : Res → Option St
  | some (v, σ, nx) => evOpsF P conv call ops rest acc ⟨putT T d v, σ, nx⟩
  | none => none
def opsWF (P : Program) (conv : FuncId → Conv) (call : Call) (ops : Array Oper) (rest : List Oper) (acc : List (Bool × List Nat)) (o : Oper) (s : St) : Option Bool → Option St
  | some true => if okF acc (writer conv o) (footIds conv s.T o) = true then opsKF P conv call ops rest (acc ++ [(writer conv o, footIds conv s.T o)]) s.T o.dst (evOpD P conv call o s.T s.σ s.nx) else none
  | some false => evOpsF P conv call ops rest (acc ++ [(writer conv o, [])]) ⟨putT s.T o.dst (.tup []), s.σ, s.nx⟩
  | none => none
theorem evOpsF_nil (ops : Array Oper) (acc : List (Bool × List Nat)) (s : St) : evOpsF P conv call ops [] acc s = some s := rfl
theorem evOpsF_cons (ops : Array Oper) (acc : List (Bool × List Nat)) (d : Option Tmp) (op : Op) (ty : TypeId) (ps : String) (af : Array Edge) (rest : List Oper) (T : Nat → V) (σ : Store) (nx : Nat) :
    evOpsF P conv call ops (⟨d, op, ty, ps, af, none⟩ :: rest) acc ⟨T, σ, nx⟩ = if okF acc (writer conv ⟨d, op, ty, ps, af, none⟩) (footIds conv T ⟨d, op, ty, ps, af, none⟩) = true then opsKF P conv call ops rest (acc ++ [(writer conv ⟨d, op, ty, ps, af, none⟩, footIds conv T ⟨d, op, ty, ps, af, none⟩)]) T d (evOpD P conv call ⟨d, op, ty, ps, af, none⟩ T σ nx) else none := by
  show (if okF acc (writer conv ⟨d, op, ty, ps, af, none⟩) (footIds conv T ⟨d, op, ty, ps, af, none⟩) = true then (match evOpD P conv call ⟨d, op, ty, ps, af, none⟩ T σ nx with | some (v, σ', nx') => _ | none => none) else none) = _
  cases evOpD P conv call ⟨d, op, ty, ps, af, none⟩ T σ nx <;> rfl
theorem evOpsF_guard (ops : Array Oper) (acc : List (Bool × List Nat)) (d : Option Tmp) (op : Op) (ty : TypeId) (ps : String) (af : Array Edge) (g : Nat × Bool) (rest : List Oper) (T : Nat → V) (σ : Store) (nx : Nat) :
    evOpsF P conv call ops (⟨d, op, ty, ps, af, some g⟩ :: rest) acc ⟨T, σ, nx⟩ = opsWF P conv call ops rest acc ⟨d, op, ty, ps, af, some g⟩ ⟨T, σ, nx⟩ (wantedB ops T ⟨d, op, ty, ps, af, some g⟩) := by
  show (match wantedB ops T ⟨d, op, ty, ps, af, some g⟩ with | some true => _ | some false => _ | none => none) = _
  cases wantedB ops T ⟨d, op, ty, ps, af, some g⟩ with
  | none => rfl
  | some b =>
    cases b with
    | false => rfl
    | true =>
      simp only [opsWF]
      cases evOpD P conv call ⟨d, op, ty, ps, af, some g⟩ T σ nx <;> rfl
theorem opsKF_some (ops : Array Oper) (rest : List Oper) (acc : List (Bool × List Nat)) (T : Nat → V) (d : Tmp) (v : V) (σ : Store) (nx : Nat) : opsKF P conv call ops rest acc T (some d) (some (v, σ, nx)) = evOpsF P conv call ops rest acc ⟨upd T d v, σ, nx⟩ := rfl
theorem opsKF_none (ops : Array Oper) (rest : List Oper) (acc : List (Bool × List Nat)) (T : Nat → V) (v : V) (σ : Store) (nx : Nat) : opsKF P conv call ops rest acc T none (some (v, σ, nx)) = evOpsF P conv call ops rest acc ⟨T, σ, nx⟩ := rfl
theorem opsWF_true (ops : Array Oper) (rest : List Oper) (acc : List (Bool × List Nat)) (d : Option Tmp) (op : Op) (ty : TypeId) (ps : String) (af : Array Edge) (g : Option (Nat × Bool)) (T : Nat → V) (σ : Store) (nx : Nat) :
    opsWF P conv call ops rest acc ⟨d, op, ty, ps, af, g⟩ ⟨T, σ, nx⟩ (some true) = if okF acc (writer conv ⟨d, op, ty, ps, af, g⟩) (footIds conv T ⟨d, op, ty, ps, af, g⟩) = true then opsKF P conv call ops rest (acc ++ [(writer conv ⟨d, op, ty, ps, af, g⟩, footIds conv T ⟨d, op, ty, ps, af, g⟩)]) T d (evOpD P conv call ⟨d, op, ty, ps, af, g⟩ T σ nx) else none := rfl
theorem opsWF_false (ops : Array Oper) (rest : List Oper) (acc : List (Bool × List Nat)) (d : Tmp) (op : Op) (ty : TypeId) (ps : String) (af : Array Edge) (g : Option (Nat × Bool)) (T : Nat → V) (σ : Store) (nx : Nat) :
    opsWF P conv call ops rest acc ⟨some d, op, ty, ps, af, g⟩ ⟨T, σ, nx⟩ (some false) = evOpsF P conv call ops rest (acc ++ [(writer conv ⟨some d, op, ty, ps, af, g⟩, [])]) ⟨upd T d (.tup []), σ, nx⟩ := rfl
theorem okF_nil (w : Bool) (ids : List Nat) : okF [] w ids = true := id rfl
theorem okF_cons (p : Bool × List Nat) (acc : List (Bool × List Nat)) (w : Bool) (ids : List Nat) : okF (p :: acc) w ids = ((!(w || p.1) || p.2.all fun b => !ids.contains b) && okF acc w ids) := by unfold okF; rw [List.all_cons]
section
variable (d : Option Tmp) (ty : TypeId) (ps : String) (af : Array Edge) (gd : Option (Nat × Bool)) (T : Nat → V)
theorem w_store (t : TypeId) (a x : Operand) : writer conv ⟨d, .store t a x, ty, ps, af, gd⟩ = true := id rfl
theorem foot_store (t : TypeId) (a x : Operand) : footIds conv T ⟨d, .store t a x, ty, ps, af, gd⟩ = refsC (val T a) := rfl
theorem foot_load (t : TypeId) (a : Operand) : footIds conv T ⟨d, .load t a, ty, ps, af, gd⟩ = refsC (val T a) := rfl
theorem w_load (t : TypeId) (a : Operand) : writer conv ⟨d, .load t a, ty, ps, af, gd⟩ = false := id rfl
theorem refs_rp (b off : Nat) : refsC (.rp b off) = [b] := rfl
theorem refs_rs (b off len : Nat) : refsC (.rs b off len) = [b] := rfl
theorem refs_tp (row : List V) (off : Nat) : refsC (.tp row off) = [] := rfl
theorem refs_ts (row : List V) (off : Nat) : refsC (.ts row off) = [] := rfl
theorem refs_sc (v : Value) : refsC (.sc v) = [] := rfl
theorem refs_nil : refsC .nil = [] := rfl
theorem refs_agg (vs : List V) : refsC (.agg vs) = [] := rfl
theorem foot_move (x : Operand) : footIds conv T ⟨d, .move x, ty, ps, af, gd⟩ = [] := rfl
theorem w_move (x : Operand) : writer conv ⟨d, .move x, ty, ps, af, gd⟩ = false := id rfl
theorem foot_assign (x : Operand) : footIds conv T ⟨d, .assign x, ty, ps, af, gd⟩ = [] := rfl
theorem w_assign (x : Operand) : writer conv ⟨d, .assign x, ty, ps, af, gd⟩ = false := id rfl
theorem foot_pick (c a b : Operand) : footIds conv T ⟨d, .pick c a b, ty, ps, af, gd⟩ = [] := rfl
theorem w_pick (c a b : Operand) : writer conv ⟨d, .pick c a b, ty, ps, af, gd⟩ = false := id rfl
theorem foot_nilCheck (x : Operand) : footIds conv T ⟨d, .nilCheck x, ty, ps, af, gd⟩ = [] := rfl
theorem w_nilCheck (x : Operand) : writer conv ⟨d, .nilCheck x, ty, ps, af, gd⟩ = false := id rfl
theorem foot_binOp (op : BinOp) (t : TypeId) (x y : Operand) (yt : TypeId) : footIds conv T ⟨d, .binOp op t x y yt, ty, ps, af, gd⟩ = [] := rfl
theorem w_binOp (op : BinOp) (t : TypeId) (x y : Operand) (yt : TypeId) : writer conv ⟨d, .binOp op t x y yt, ty, ps, af, gd⟩ = false := id rfl
theorem foot_unOp (op : UnOp) (t : TypeId) (x : Operand) : footIds conv T ⟨d, .unOp op t x, ty, ps, af, gd⟩ = [] := rfl
theorem w_unOp (op : UnOp) (t : TypeId) (x : Operand) : writer conv ⟨d, .unOp op t x, ty, ps, af, gd⟩ = false := id rfl
theorem foot_fieldAddr (t : TypeId) (x : Operand) (f : Nat) : footIds conv T ⟨d, .fieldAddr t x f, ty, ps, af, gd⟩ = [] := rfl
theorem w_fieldAddr (t : TypeId) (x : Operand) (f : Nat) : writer conv ⟨d, .fieldAddr t x f, ty, ps, af, gd⟩ = false := id rfl
theorem foot_field (t : TypeId) (x : Operand) (f : Nat) : footIds conv T ⟨d, .field t x f, ty, ps, af, gd⟩ = [] := rfl
theorem w_field (t : TypeId) (x : Operand) (f : Nat) : writer conv ⟨d, .field t x f, ty, ps, af, gd⟩ = false := id rfl
theorem foot_indexAddr (t : TypeId) (x i : Operand) : footIds conv T ⟨d, .indexAddr t x i, ty, ps, af, gd⟩ = [] := rfl
theorem w_indexAddr (t : TypeId) (x i : Operand) : writer conv ⟨d, .indexAddr t x i, ty, ps, af, gd⟩ = false := id rfl
theorem foot_index (t : TypeId) (x i : Operand) : footIds conv T ⟨d, .index t x i, ty, ps, af, gd⟩ = [] := rfl
theorem w_index (t : TypeId) (x i : Operand) : writer conv ⟨d, .index t x i, ty, ps, af, gd⟩ = false := id rfl
theorem foot_extract (x : Operand) (i : Nat) : footIds conv T ⟨d, .extract x i, ty, ps, af, gd⟩ = [] := rfl
theorem w_extract (x : Operand) (i : Nat) : writer conv ⟨d, .extract x i, ty, ps, af, gd⟩ = false := id rfl
theorem foot_len (x : Operand) (t : TypeId) : footIds conv T ⟨d, .call ⟨.builtin .len, #[x], #[t]⟩, ty, ps, af, gd⟩ = [] := rfl
theorem w_len (x : Operand) (t : TypeId) : writer conv ⟨d, .call ⟨.builtin .len, #[x], #[t]⟩, ty, ps, af, gd⟩ = false := id rfl
theorem foot_build (t : TypeId) (parts : Array (Nat × Operand)) : footIds conv T ⟨d, .build t parts, ty, ps, af, gd⟩ = [] := rfl
theorem w_build (t : TypeId) (parts : Array (Nat × Operand)) : writer conv ⟨d, .build t parts, ty, ps, af, gd⟩ = false := id rfl
theorem foot_makeFunc (f : FuncId) (cap : Array Operand) : footIds conv T ⟨d, .makeFunc (.func f) #[] cap, ty, ps, af, gd⟩ = [] := rfl
theorem w_makeFunc (f : FuncId) (cap : Array Operand) : writer conv ⟨d, .makeFunc (.func f) #[] cap, ty, ps, af, gd⟩ = false := id rfl
theorem foot_alloc (t : TypeId) : footIds conv T ⟨d, .alloc t, ty, ps, af, gd⟩ = [] := rfl
theorem w_alloc (t : TypeId) : writer conv ⟨d, .alloc t, ty, ps, af, gd⟩ = false := id rfl
theorem foot_box (t : TypeId) (x : Operand) : footIds conv T ⟨d, .box t x, ty, ps, af, gd⟩ = [] := rfl
theorem w_box (t : TypeId) (x : Operand) : writer conv ⟨d, .box t x, ty, ps, af, gd⟩ = false := id rfl
theorem w_call {g : FuncId} (h : conv g = .imm) (args : Array Operand) (ts : Array TypeId) : writer conv ⟨d, .call ⟨.value (.func g), args, ts⟩, ty, ps, af, gd⟩ = false := by unfold writer; simp only [h]
theorem foot_call {g : FuncId} (h : conv g = .imm) (args : Array Operand) (ts : Array TypeId) : footIds conv T ⟨d, .call ⟨.value (.func g), args, ts⟩, ty, ps, af, gd⟩ = [] := by
  show (match (V.clo g []) with | .clo g cs => (match conv g with | .inl => (args.toList.map (val T)).flatMap refsV ++ cs.flatMap refsV | _ => []) | _ => []) = []
  simp only [h]
end

/-! ### Steps of a region that draws -/

def opsKQ (P : Program) (conv : FuncId → Conv) (call : Call) (ops : Array Oper) (rest : List Oper) (T : Nat → V) (d : Option Tmp) : Res → Option St
  | some (v, σ, nx) => evOpsQ P conv call ops rest ⟨putT T d v, σ, nx⟩
  | none => none
def opsWQ (P : Program) (conv : FuncId → Conv) (call : Call) (ops : Array Oper) (rest : List Oper) (o : Oper) (s : St) : Option Bool → Option St
  | some true => opsKQ P conv call ops rest s.T o.dst (evOpD P conv call o s.T s.σ s.nx)
  | some false => evOpsQ P conv call ops rest ⟨putT s.T o.dst (.tup []), s.σ, s.nx⟩
  | none => none
theorem evOpsQ_nil (ops : Array Oper) (s : St) : evOpsQ P conv call ops [] s = some s := rfl
theorem evOpsQ_cons (ops : Array Oper) (d : Option Tmp) (op : Op) (ty : TypeId) (ps : String) (af : Array Edge) (rest : List Oper) (T : Nat → V) (σ : Store) (nx : Nat) :
    evOpsQ P conv call ops (⟨d, op, ty, ps, af, none⟩ :: rest) ⟨T, σ, nx⟩ = opsKQ P conv call ops rest T d (evOpD P conv call ⟨d, op, ty, ps, af, none⟩ T σ nx) := by
  show (match evOpD P conv call ⟨d, op, ty, ps, af, none⟩ T σ nx with | some (v, σ', nx') => _ | none => none) = _
  cases evOpD P conv call ⟨d, op, ty, ps, af, none⟩ T σ nx <;> rfl
theorem evOpsQ_guard (ops : Array Oper) (d : Option Tmp) (op : Op) (ty : TypeId) (ps : String) (af : Array Edge) (g : Nat × Bool) (rest : List Oper) (T : Nat → V) (σ : Store) (nx : Nat) :
    evOpsQ P conv call ops (⟨d, op, ty, ps, af, some g⟩ :: rest) ⟨T, σ, nx⟩ = opsWQ P conv call ops rest ⟨d, op, ty, ps, af, some g⟩ ⟨T, σ, nx⟩ (wantedB ops T ⟨d, op, ty, ps, af, some g⟩) := by
  show (match wantedB ops T ⟨d, op, ty, ps, af, some g⟩ with | some true => _ | some false => _ | none => none) = _
  cases wantedB ops T ⟨d, op, ty, ps, af, some g⟩ with
  | none => rfl
  | some b =>
    cases b with
    | false => rfl
    | true =>
      simp only [opsWQ]
      cases evOpD P conv call ⟨d, op, ty, ps, af, some g⟩ T σ nx <;> rfl
theorem opsKQ_some (ops : Array Oper) (rest : List Oper) (T : Nat → V) (d : Tmp) (v : V) (σ : Store) (nx : Nat) : opsKQ P conv call ops rest T (some d) (some (v, σ, nx)) = evOpsQ P conv call ops rest ⟨upd T d v, σ, nx⟩ := rfl
theorem opsKQ_none (ops : Array Oper) (rest : List Oper) (T : Nat → V) (v : V) (σ : Store) (nx : Nat) : opsKQ P conv call ops rest T none (some (v, σ, nx)) = evOpsQ P conv call ops rest ⟨T, σ, nx⟩ := rfl
theorem opsWQ_true (ops : Array Oper) (rest : List Oper) (d : Option Tmp) (op : Op) (ty : TypeId) (ps : String) (af : Array Edge) (g : Option (Nat × Bool)) (T : Nat → V) (σ : Store) (nx : Nat) :
    opsWQ P conv call ops rest ⟨d, op, ty, ps, af, g⟩ ⟨T, σ, nx⟩ (some true) = opsKQ P conv call ops rest T d (evOpD P conv call ⟨d, op, ty, ps, af, g⟩ T σ nx) := rfl
theorem opsWQ_false (ops : Array Oper) (rest : List Oper) (d : Tmp) (op : Op) (ty : TypeId) (ps : String) (af : Array Edge) (g : Option (Nat × Bool)) (T : Nat → V) (σ : Store) (nx : Nat) :
    opsWQ P conv call ops rest ⟨some d, op, ty, ps, af, g⟩ ⟨T, σ, nx⟩ (some false) = evOpsQ P conv call ops rest ⟨upd T d (.tup []), σ, nx⟩ := rfl

theorem patchS_box {σ : Store} {nx : Nat} {cells : List V} {st : Nat} : patchS [] nx (nx + 1) σ (evBox (restrict σ []) nx cells st) = evBox σ nx cells st := by
  funext b
  unfold patchS evBox upd restrict
  by_cases h : b = nx
  · subst h; simp
  · rw [if_neg (by simp; omega), if_neg h]

section
variable (d : Option Tmp) (ty : TypeId) (ps : String) (af : Array Edge) (gd : Option (Nat × Bool)) (T : Nat → V) (σ : Store) (nx : Nat)

/-- An operation that does not look into the store. -/
theorem opD_nil {o : Oper} (hf : footIds conv T o = []) {v : V} (h : ∀ σ, evOp P conv call o T σ nx = some (v, σ, nx)) : evOpD P conv call o T σ nx = some (v, σ, nx) := by
  unfold evOpD
  rw [hf]
  simp only [List.all_nil, if_true, h]
  rw [patchS_nil]
theorem opD_map {o : Oper} (hf : footIds conv T o = []) {m : Option V} (h : ∀ σ, evOp P conv call o T σ nx = m.map (·, σ, nx)) : evOpD P conv call o T σ nx = m.map (·, σ, nx) := by
  cases m with
  | some v => exact opD_nil T σ nx hf h
  | none =>
    unfold evOpD
    rw [hf]
    simp only [List.all_nil, if_true, h, Option.map_none]
theorem opD_new {o : Oper} (hf : footIds conv T o = []) {m : Option (List V × Nat × V)} (h : ∀ σ, evOp P conv call o T σ nx = m.map fun p => (p.2.2, evBox σ nx p.1 p.2.1, nx + 1)) : evOpD P conv call o T σ nx = m.map fun p => (p.2.2, evBox σ nx p.1 p.2.1, nx + 1) := by
  unfold evOpD
  rw [hf]
  simp only [List.all_nil, if_true, h]
  cases m with
  | none => rfl
  | some p => simp only [Option.map_some]; rw [patchS_box]

theorem opD_move (x : Operand) : evOpD P conv call ⟨d, .move x, ty, ps, af, gd⟩ T σ nx = some (val T x, σ, nx) := opD_nil T σ nx rfl fun _ => rfl
theorem opD_assign (x : Operand) : evOpD P conv call ⟨d, .assign x, ty, ps, af, gd⟩ T σ nx = some (val T x, σ, nx) := opD_nil T σ nx rfl fun _ => rfl
theorem opD_pick (c a b : Operand) : evOpD P conv call ⟨d, .pick c a b, ty, ps, af, gd⟩ T σ nx = (pickV (val T a) (val T b) (val T c)).map (·, σ, nx) := opD_map T σ nx rfl fun σ => op_pick d ty ps af gd T σ nx c a b
theorem opD_nilCheck (x : Operand) : evOpD P conv call ⟨d, .nilCheck x, ty, ps, af, gd⟩ T σ nx = (nilV (val T x)).map (·, σ, nx) := opD_map T σ nx rfl fun σ => op_nilCheck d ty ps af gd T σ nx x
theorem opD_binOp (op : BinOp) (t : TypeId) (x y : Operand) (yt : TypeId) : evOpD P conv call ⟨d, .binOp op t x y yt, ty, ps, af, gd⟩ T σ nx = (evBin P op t x y (val T x) (val T y)).map (·, σ, nx) := opD_map T σ nx rfl fun _ => rfl
theorem opD_unOp (op : UnOp) (t : TypeId) (x : Operand) : evOpD P conv call ⟨d, .unOp op t x, ty, ps, af, gd⟩ T σ nx = (evUn P op (val T x)).map (·, σ, nx) := opD_map T σ nx rfl fun _ => rfl
theorem opD_fieldAddr (t : TypeId) (x : Operand) (f : Nat) : evOpD P conv call ⟨d, .fieldAddr t x f, ty, ps, af, gd⟩ T σ nx = (evFieldAddr P t (val T x) f).map (·, σ, nx) := opD_map T σ nx rfl fun _ => rfl
theorem opD_field (t : TypeId) (x : Operand) (f : Nat) : evOpD P conv call ⟨d, .field t x f, ty, ps, af, gd⟩ T σ nx = (evField P t (val T x) f).map (·, σ, nx) := opD_map T σ nx rfl fun _ => rfl
theorem opD_indexAddr (t : TypeId) (x i : Operand) : evOpD P conv call ⟨d, .indexAddr t x i, ty, ps, af, gd⟩ T σ nx = (evIndexAddr P t (val T x) (val T i)).map (·, σ, nx) := opD_map T σ nx rfl fun _ => rfl
theorem opD_index (t : TypeId) (x i : Operand) : evOpD P conv call ⟨d, .index t x i, ty, ps, af, gd⟩ T σ nx = (evIndex P t (val T x) (val T i)).map (·, σ, nx) := opD_map T σ nx rfl fun _ => rfl
theorem opD_extract (x : Operand) (i : Nat) : evOpD P conv call ⟨d, .extract x i, ty, ps, af, gd⟩ T σ nx = (extV i (val T x)).map (·, σ, nx) := opD_map T σ nx rfl fun σ => op_extract d ty ps af gd T σ nx x i
theorem opD_len (x : Operand) (t : TypeId) : evOpD P conv call ⟨d, .call ⟨.builtin .len, #[x], #[t]⟩, ty, ps, af, gd⟩ T σ nx = (evLen P t (val T x)).map (·, σ, nx) := opD_map T σ nx rfl fun _ => rfl
theorem opD_build (t : TypeId) (parts : Array (Nat × Operand)) : evOpD P conv call ⟨d, .build t parts, ty, ps, af, gd⟩ T σ nx = (evBuild P t (parts.toList.map fun p => (p.1, val T p.2))).map (·, σ, nx) := opD_map T σ nx rfl fun _ => rfl
theorem opD_makeFunc (f : FuncId) (cap : Array Operand) : evOpD P conv call ⟨d, .makeFunc (.func f) #[] cap, ty, ps, af, gd⟩ T σ nx = some (.clo f (cap.toList.map (val T)), σ, nx) := opD_nil T σ nx rfl fun _ => rfl
theorem opD_alloc (t : TypeId) (h : (tyI P t).ok = true) (hz : decide ((tyI P t).zero.length = (tyI P t).size) = true) (h0 : decide (0 < (tyI P t).size) = true) : evOpD P conv call ⟨d, .alloc t, ty, ps, af, gd⟩ T σ nx = some (.rp nx 0, evBox σ nx (tyI P t).zero 0, nx + 1) :=
  opD_new (m := some ((tyI P t).zero, 0, .rp nx 0)) T σ nx rfl fun σ => op_alloc d ty ps af gd T σ nx t h hz h0
theorem opD_box (t : TypeId) (x : Operand) : evOpD P conv call ⟨d, .box t x, ty, ps, af, gd⟩ T σ nx = (cellsOfV (val T x)).map fun cs => (.rp nx 0, evBox σ nx cs 0, nx + 1) := by
  have := opD_new (P := P) (conv := conv) (call := call) (o := ⟨d, .box t x, ty, ps, af, gd⟩) (m := (cellsOfV (val T x)).map fun cs => (cs, 0, V.rp nx 0)) T σ nx rfl fun σ => by rw [op_box]; cases cellsOfV (val T x) <;> rfl
  rw [this]
  cases cellsOfV (val T x) <;> rfl

/-- .. a load .. -/
def loadD (P : Program) (σ : Store) (nx : Nat) (t : TypeId) : V → Option V
  | .rp b off => if b < nx then evLoad P σ t (.rp b off) else none
  | v => evLoad P σ t v
theorem opD_load (t : TypeId) (a : Operand) : evOpD P conv call ⟨d, .load t a, ty, ps, af, gd⟩ T σ nx = (loadD P σ nx t (val T a)).map (·, σ, nx) := by
  have key : ∀ b off, evLoad P (restrict σ [b]) t (.rp b off) = evLoad P σ t (.rp b off) := fun b off => by
    unfold evLoad cellsAt restrict
    simp
  unfold evOpD
  show (if ((refsC (val T a)).all fun b => decide (b < nx)) = true then match (evLoad P (restrict σ (refsC (val T a))) t (val T a)).map (·, restrict σ (refsC (val T a)), nx) with | some (v, σ1, nx1) => some (v, patchS (refsC (val T a)) nx nx1 σ σ1, nx1) | none => none else none) = _
  cases hv : val T a with
  | rp b off =>
    simp only [refsC, List.all_cons, List.all_nil, Bool.and_true, decide_eq_true_eq, loadD, key]
    by_cases hb : b < nx
    · rw [if_pos hb, if_pos hb]
      cases evLoad P σ t (.rp b off) with
      | none => rfl
      | some v => simp only [Option.map_some, patchS_eq_self]
    · rw [if_neg hb, if_neg hb]; rfl
  | tp row off =>
    simp only [refsC, List.all_nil, if_true, loadD]
    have : evLoad P (restrict σ []) t (.tp row off) = evLoad P σ t (.tp row off) := by unfold evLoad cellsAt; rfl
    rw [this]
    cases evLoad P σ t (.tp row off) with
    | none => rfl
    | some v => simp only [Option.map_some, patchS_nil]
  | rs b off len =>
    have e : ∀ σ, evLoad P σ t (.rs b off len) = none := fun σ => by unfold evLoad cellsAt; split <;> simp
    simp only [loadD, e, Option.map_none]
    split <;> rfl
  | _ =>
    simp only [refsC, List.all_nil, if_true, loadD]
    unfold evLoad cellsAt
    cases P.info? t <;> cases P.underlying t <;> simp

theorem loadD_tp (σ : Store) (nx : Nat) (t : TypeId) (row : List V) (off : Nat) : loadD P σ nx t (.tp row off) = evLoad P σ t (.tp row off) := rfl
theorem loadD_rp (σ : Store) (nx : Nat) (t : TypeId) (b off : Nat) : loadD P σ nx t (.rp b off) = if b < nx then evLoad P σ t (.rp b off) else none := rfl

/-- .. a store .. -/
def storeD (P : Program) (σ : Store) (nx : Nat) (t : TypeId) (v : V) : V → Option Store
  | .rp b off => if b < nx then evStore P σ t (.rp b off) v else none
  | _ => none
theorem opD_store (t : TypeId) (a x : Operand) : evOpD P conv call ⟨d, .store t a x, ty, ps, af, gd⟩ T σ nx = (storeD P σ nx t (val T x) (val T a)).map (.tup [], ·, nx) := by
  unfold evOpD
  show (if ((refsC (val T a)).all fun b => decide (b < nx)) = true then match (evStore P (restrict σ (refsC (val T a))) t (val T a) (val T x)).map (V.tup [], ·, nx) with | some (v, σ1, nx1) => some (v, patchS (refsC (val T a)) nx nx1 σ σ1, nx1) | none => none else none) = _
  cases hv : val T a with
  | rp b off =>
    simp only [refsC, List.all_cons, List.all_nil, Bool.and_true, decide_eq_true_eq, storeD]
    by_cases hb : b < nx
    · rw [if_pos hb, if_pos hb]
      unfold evStore
      have hr : restrict σ [b] b = σ b := by unfold restrict; simp
      cases P.info? t with
      | none => rfl
      | some i =>
        cases cellsOfV (val T x) with
        | none => rfl
        | some vs =>
          simp only [hr]
          cases σ b with
          | none => rfl
          | some B =>
            by_cases hc : B.wr = true ∧ vs.length = i.size ∧ off + vs.length ≤ B.cells.length ∧ vs.all isCell = true
            · simp only [if_pos hc, Option.map_some]
              congr 2
              congr 1
              funext c
              unfold patchS upd restrict
              by_cases hcb : c = b
              · subst hcb; simp
              · rw [if_neg (by simp [hcb]), if_neg hcb]
            · simp only [if_neg hc, Option.map_none]
    · rw [if_neg hb, if_neg hb]; rfl
  | _ =>
    simp only [storeD]
    have : evStore P (restrict σ (refsC (val T a))) t (val T a) (val T x) = none := by
      rw [hv]; unfold evStore; cases P.info? t <;> cases cellsOfV (val T x) <;> rfl
    rw [hv] at this
    rw [this]
    simp
theorem storeD_rp (σ : Store) (nx : Nat) (t : TypeId) (v : V) (b off : Nat) : storeD P σ nx t v (.rp b off) = if b < nx then evStore P σ t (.rp b off) v else none := rfl
end

end
end Go.TV
