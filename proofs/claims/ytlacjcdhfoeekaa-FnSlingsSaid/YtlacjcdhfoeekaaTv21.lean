import Derived.Test.YtlacjcdhfoeekaaTv20
set_option linter.unusedSimpArgs false
set_option linter.unusedVariables false
namespace Go.TV
set_option linter.unusedVariables false
set_option linter.unusedSimpArgs false

section
variable {P : Program} {conv : FuncId → Conv} {call : Call}

/-- What follows an operation. -/
def opsK (P : Program) (conv : FuncId → Conv) (call : Call) (ops : Array Oper) (rest : List Oper) (T : Nat → V) (d : Option Tmp) : Res → Option St
  | some (v, σ, nx) => evOps P conv call ops rest ⟨putT T d v, σ, nx⟩
  | none => none
def opsW (P : Program) (conv : FuncId → Conv) (call : Call) (ops : Array Oper) (rest : List Oper) (o : Oper) (s : St) : Option Bool → Option St
  | some true => opsK P conv call ops rest s.T o.dst (evOp P conv call o s.T s.σ s.nx)
  | some false => evOps P conv call ops rest ⟨putT s.T o.dst (.tup []), s.σ, s.nx⟩
  | none => none

theorem evOps_nil (ops : Array Oper) (s : St) : evOps P conv call ops [] s = some s := rfl
theorem evOps_cons (ops : Array Oper) (d : Option Tmp) (op : Op) (ty : TypeId) (ps : String) (af : Array Edge) (rest : List Oper) (T : Nat → V) (σ : Store) (nx : Nat) :
    evOps P conv call ops (⟨d, op, ty, ps, af, none⟩ :: rest) ⟨T, σ, nx⟩ = opsK P conv call ops rest T d (evOp P conv call ⟨d, op, ty, ps, af, none⟩ T σ nx) := by
  show (match evOp P conv call ⟨d, op, ty, ps, af, none⟩ T σ nx with | some (v, σ', nx') => _ | none => none) = _
  cases evOp P conv call ⟨d, op, ty, ps, af, none⟩ T σ nx <;> rfl
theorem evOps_guard (ops : Array Oper) (d : Option Tmp) (op : Op) (ty : TypeId) (ps : String) (af : Array Edge) (g : Nat × Bool) (rest : List Oper) (T : Nat → V) (σ : Store) (nx : Nat) :
    evOps P conv call ops (⟨d, op, ty, ps, af, some g⟩ :: rest) ⟨T, σ, nx⟩ = opsW P conv call ops rest ⟨d, op, ty, ps, af, some g⟩ ⟨T, σ, nx⟩ (wantedB ops T ⟨d, op, ty, ps, af, some g⟩) := by
  show (match wantedB ops T ⟨d, op, ty, ps, af, some g⟩ with | some true => _ | some false => _ | none => none) = _
  cases wantedB ops T ⟨d, op, ty, ps, af, some g⟩ with
  | none => rfl
  | some b =>
    cases b with
    | false => rfl
    | true =>
      simp only [opsW]
      cases evOp P conv call ⟨d, op, ty, ps, af, some g⟩ T σ nx <;> rfl
theorem opsK_some (ops : Array Oper) (rest : List Oper) (T : Nat → V) (d : Tmp) (v : V) (σ : Store) (nx : Nat) : opsK P conv call ops rest T (some d) (some (v, σ, nx)) = evOps P conv call ops rest ⟨upd T d v, σ, nx⟩ := rfl
theorem opsK_none (ops : Array Oper) (rest : List Oper) (T : Nat → V) (v : V) (σ : Store) (nx : Nat) : opsK P conv call ops rest T none (some (v, σ, nx)) = evOps P conv call ops rest ⟨T, σ, nx⟩ := rfl
theorem opsW_true (ops : Array Oper) (rest : List Oper) (d : Option Tmp) (op : Op) (ty : TypeId) (ps : String) (af : Array Edge) (g : Option (Nat × Bool)) (T : Nat → V) (σ : Store) (nx : Nat) :
    opsW P conv call ops rest ⟨d, op, ty, ps, af, g⟩ ⟨T, σ, nx⟩ (some true) = opsK P conv call ops rest T d (evOp P conv call ⟨d, op, ty, ps, af, g⟩ T σ nx) := rfl
theorem opsW_false (ops : Array Oper) (rest : List Oper) (d : Tmp) (op : Op) (ty : TypeId) (ps : String) (af : Array Edge) (g : Option (Nat × Bool)) (T : Nat → V) (σ : Store) (nx : Nat) :
    opsW P conv call ops rest ⟨some d, op, ty, ps, af, g⟩ ⟨T, σ, nx⟩ (some false) = evOps P conv call ops rest ⟨upd T d (.tup []), σ, nx⟩ := rfl

/-- What a guard's value tells. -/
def guardB (want : Bool) : V → Option Bool
  | .sc (.bool b) => some (b == want)
  | .tup [] => some false
  | _ => none
theorem wantedB_some (ops : Array Oper) (d : Option Tmp) (op : Op) (ty : TypeId) (ps : String) (af : Array Edge) (j : Nat) (want : Bool) (T : Nat → V) :
    wantedB ops T ⟨d, op, ty, ps, af, some (j, want)⟩ = match (ops[j]?).bind (·.dst) with | some d => guardB want (T d) | none => some false := by
  unfold wantedB guardB
  rfl
theorem guardB_bool (want b : Bool) : guardB want (.sc (.bool b)) = some (b == want) := rfl
theorem guardB_undef (want : Bool) : guardB want (.tup []) = some false := rfl

theorem val_tmp (T : Nat → V) (t : Tmp) : val T (.tmp t) = T t := rfl
theorem val_const (T : Nat → V) (v : Value) : val T (.const v) = ofVal v := rfl
theorem val_func (T : Nat → V) (f : FuncId) : val T (.func f) = .clo f [] := rfl

section
variable (d : Option Tmp) (ty : TypeId) (ps : String) (af : Array Edge) (gd : Option (Nat × Bool)) (T : Nat → V) (σ : Store) (nx : Nat)
theorem op_move (x : Operand) : evOp P conv call ⟨d, .move x, ty, ps, af, gd⟩ T σ nx = some (val T x, σ, nx) := rfl
theorem op_assign (x : Operand) : evOp P conv call ⟨d, .assign x, ty, ps, af, gd⟩ T σ nx = some (val T x, σ, nx) := rfl
def pickV (a b : V) : V → Option V
  | .sc (.bool t) => some (if t then a else b)
  | _ => none
theorem op_pick (c a b : Operand) : evOp P conv call ⟨d, .pick c a b, ty, ps, af, gd⟩ T σ nx = (pickV (val T a) (val T b) (val T c)).map (·, σ, nx) := by
  simp only [evOp]
  unfold pickV
  split <;> simp_all
theorem pickV_bool (a b : V) (t : Bool) : pickV a b (.sc (.bool t)) = some (if t then a else b) := rfl
theorem op_alloc (t : TypeId) (h : (tyI P t).ok = true) (hz : decide ((tyI P t).zero.length = (tyI P t).size) = true) (h0 : decide (0 < (tyI P t).size) = true) : evOp P conv call ⟨d, .alloc t, ty, ps, af, gd⟩ T σ nx = some (.rp nx 0, evBox σ nx (tyI P t).zero 0, nx + 1) := by
  obtain ⟨i, dd, h1, h2, h3, h4⟩ := tyI_ok h
  simp only [evOp, h1]
  unfold tyI at hz h0 ⊢
  simp only [h1, h2, decide_eq_true_eq] at hz h0 ⊢
  unfold zeroOk zeroV at *
  cases hzz : i.zero with
  | none => simp [hzz] at hz; omega
  | some z =>
    simp only [hzz] at hz ⊢
    by_cases hs : z.cells.size = i.size
    · simp [hs]
    · simp [hs] at hz; omega
theorem op_box (t : TypeId) (x : Operand) : evOp P conv call ⟨d, .box t x, ty, ps, af, gd⟩ T σ nx = (cellsOfV (val T x)).map fun cs => (.rp nx 0, evBox σ nx cs 0, nx + 1) := by
  simp only [evOp]
  cases cellsOfV (val T x) <;> rfl
theorem op_build (t : TypeId) (parts : Array (Nat × Operand)) : evOp P conv call ⟨d, .build t parts, ty, ps, af, gd⟩ T σ nx = (evBuild P t (parts.toList.map fun p => (p.1, val T p.2))).map (·, σ, nx) := rfl
theorem op_buildSlice (t : TypeId) (len : Nat) (parts : Array (Nat × Operand)) (h : (decide (len = 0) && !parts.isEmpty) = false) : evOp P conv call ⟨d, .buildSlice t len parts, ty, ps, af, gd⟩ T σ nx = evBuildSlice P t len (parts.toList.map fun p => (p.1, val T p.2)) σ nx := by
  simp only [evOp, h, Bool.false_eq_true, if_false]
theorem op_load (t : TypeId) (a : Operand) : evOp P conv call ⟨d, .load t a, ty, ps, af, gd⟩ T σ nx = (evLoad P σ t (val T a)).map (·, σ, nx) := rfl
theorem op_store (t : TypeId) (a x : Operand) : evOp P conv call ⟨d, .store t a x, ty, ps, af, gd⟩ T σ nx = (evStore P σ t (val T a) (val T x)).map (.tup [], ·, nx) := rfl
def nilV : V → Option V
  | .tp row off => some (.tp row off)
  | .rp b off => some (.rp b off)
  | _ => none
theorem op_nilCheck (x : Operand) : evOp P conv call ⟨d, .nilCheck x, ty, ps, af, gd⟩ T σ nx = (nilV (val T x)).map (·, σ, nx) := by
  simp only [evOp]
  unfold nilV
  split <;> simp_all
theorem nilV_tp (row : List V) (off : Nat) : nilV (.tp row off) = some (.tp row off) := rfl
theorem nilV_rp (b off : Nat) : nilV (.rp b off) = some (.rp b off) := rfl
theorem op_binOp (op : BinOp) (t : TypeId) (x y : Operand) (yt : TypeId) : evOp P conv call ⟨d, .binOp op t x y yt, ty, ps, af, gd⟩ T σ nx = (evBin P op t x y (val T x) (val T y)).map (·, σ, nx) := rfl
theorem op_unOp (op : UnOp) (t : TypeId) (x : Operand) : evOp P conv call ⟨d, .unOp op t x, ty, ps, af, gd⟩ T σ nx = (evUn P op (val T x)).map (·, σ, nx) := rfl
theorem op_convert (s e : TypeId) (x : Operand) : evOp P conv call ⟨d, .convert s e x, ty, ps, af, gd⟩ T σ nx = (evConvert P s e (val T x) σ).map (·, σ, nx) := rfl
theorem op_makeFunc (f : FuncId) (cap : Array Operand) : evOp P conv call ⟨d, .makeFunc (.func f) #[] cap, ty, ps, af, gd⟩ T σ nx = some (.clo f (cap.toList.map (val T)), σ, nx) := rfl
theorem op_makeSlice (t : TypeId) (l c : Operand) : evOp P conv call ⟨d, .makeSlice t l c, ty, ps, af, gd⟩ T σ nx = evMake P t (val T l) (val T c) σ nx := rfl
theorem op_slice (t : TypeId) (x : Operand) (lo hi mx : Option Operand) : evOp P conv call ⟨d, .slice t x lo hi mx, ty, ps, af, gd⟩ T σ nx = (evSlice P t (val T x) (lo.map (val T)) (hi.map (val T)) (mx.map (val T)) σ).map (·, σ, nx) := rfl
theorem op_fieldAddr (t : TypeId) (x : Operand) (f : Nat) : evOp P conv call ⟨d, .fieldAddr t x f, ty, ps, af, gd⟩ T σ nx = (evFieldAddr P t (val T x) f).map (·, σ, nx) := rfl
theorem op_field (t : TypeId) (x : Operand) (f : Nat) : evOp P conv call ⟨d, .field t x f, ty, ps, af, gd⟩ T σ nx = (evField P t (val T x) f).map (·, σ, nx) := rfl
theorem op_indexAddr (t : TypeId) (x i : Operand) : evOp P conv call ⟨d, .indexAddr t x i, ty, ps, af, gd⟩ T σ nx = (evIndexAddr P t (val T x) (val T i)).map (·, σ, nx) := rfl
theorem op_index (t : TypeId) (x i : Operand) : evOp P conv call ⟨d, .index t x i, ty, ps, af, gd⟩ T σ nx = (evIndex P t (val T x) (val T i)).map (·, σ, nx) := rfl
def extV (i : Nat) : V → Option V
  | .tup vs => vs[i]?
  | _ => none
theorem op_extract (x : Operand) (i : Nat) : evOp P conv call ⟨d, .extract x i, ty, ps, af, gd⟩ T σ nx = (extV i (val T x)).map (·, σ, nx) := by
  simp only [evOp]
  unfold extV
  split <;> simp_all
theorem extV_tup (i : Nat) (vs : List V) : extV i (.tup vs) = vs[i]? := rfl
def callV (conv : FuncId → Conv) (call : Call) (args : List V) (σ : Store) (nx : Nat) : V → Res
  | .clo g cs => evCall conv call g (args ++ cs) σ nx
  | _ => none
theorem op_call (f : Operand) (args : Array Operand) (ts : Array TypeId) : evOp P conv call ⟨d, .call ⟨.value f, args, ts⟩, ty, ps, af, gd⟩ T σ nx = callV conv call (args.toList.map (val T)) σ nx (val T f) := by
  simp only [evOp]
  unfold callV
  rfl
theorem callV_clo (args : List V) (σ : Store) (nx : Nat) (g : FuncId) (cs : List V) : callV conv call args σ nx (.clo g cs) = evCall conv call g (args ++ cs) σ nx := rfl
theorem op_len (x : Operand) (t : TypeId) : evOp P conv call ⟨d, .call ⟨.builtin .len, #[x], #[t]⟩, ty, ps, af, gd⟩ T σ nx = (evLen P t (val T x)).map (·, σ, nx) := rfl
theorem op_append (a x : Operand) (t u : TypeId) : evOp P conv call ⟨d, .call ⟨.builtin .append, #[a, x], #[t, u]⟩, ty, ps, af, gd⟩ T σ nx = evAppend P #[t, u] (val T a) (val T x) σ nx := rfl
end

/-! ### Code -/

noncomputable def seqK (P : Program) (conv : FuncId → Conv) (call : Call) (b : Code) : Option (Ex × St) → Option (Ex × St)
  | some (.norm, s) => evCodeI P conv call b s
  | r => r
theorem code_seq (a b : Code) (s : St) : evCodeI P conv call (.seq a b) s = seqK P conv call b (evCodeI P conv call a s) := by
  show (match evCodeI P conv call a s with | some (.norm, s') => evCodeI P conv call b s' | r => r) = _
  unfold seqK
  rfl
theorem seqK_norm (b : Code) (s : St) : seqK P conv call b (some (.norm, s)) = evCodeI P conv call b s := rfl
theorem seqK_ret (b : Code) (s : St) : seqK P conv call b (some (.ret, s)) = some (.ret, s) := rfl
theorem seqK_exit (b : Code) (i : Nat) (s : St) : seqK P conv call b (some (.exit i, s)) = some (.exit i, s) := rfl
def norm1 : Option St → Option (Ex × St)
  | some s => some (.norm, s)
  | none => none
theorem norm1_some (s : St) : norm1 (some s) = some (.norm, s) := rfl
theorem code_region (id : Nat) (l : List Oper) (s : St) : evCodeI P conv call (.region id l.toArray false) s = norm1 (evOps P conv call l.toArray l s) := by
  show (match evOps P conv call l.toArray l.toArray.toList s with | some s' => some (Ex.norm, s') | none => none) = _
  unfold norm1
  rfl
theorem code_draw (id : Nat) (l : List Oper) (s : St) : evCodeI P conv call (.region id l.toArray true) s = norm1 (evDraw P conv call l.toArray s) := by
  show (match evDraw P conv call l.toArray s with | some s' => some (Ex.norm, s') | none => none) = _
  unfold norm1
  rfl
theorem code_skip (s : St) : evCodeI P conv call .skip s = some (.norm, s) := rfl
theorem code_ret (s : St) : evCodeI P conv call .ret s = some (.ret, s) := rfl
theorem code_exit (i : Nat) (s : St) : evCodeI P conv call (.exit i) s = some (.exit i, s) := rfl
noncomputable def condK (P : Program) (conv : FuncId → Conv) (call : Call) (a b : Code) (s : St) : V → Option (Ex × St)
  | .sc (.bool true) => evCodeI P conv call a s
  | .sc (.bool false) => evCodeI P conv call b s
  | _ => none
theorem code_cond (c : Operand) (a b : Code) (s : St) : evCodeI P conv call (.cond c a b) s = condK P conv call a b s (val s.T c) := by
  show (match val s.T c with | .sc (.bool true) => _ | .sc (.bool false) => _ | _ => none) = _
  unfold condK
  rfl
theorem condK_true (a b : Code) (s : St) : condK P conv call a b s (.sc (.bool true)) = evCodeI P conv call a s := rfl
theorem condK_false (a b : Code) (s : St) : condK P conv call a b s (.sc (.bool false)) = evCodeI P conv call b s := rfl
theorem condK_bool (a b : Code) (s : St) (t : Bool) : condK P conv call a b s (.sc (.bool t)) = if t = true then evCodeI P conv call a s else evCodeI P conv call b s := by cases t <;> rfl
def blockK (id : Nat) : Option (Ex × St) → Option (Ex × St)
  | some (.exit j, s) => if j = id then some (.norm, s) else some (.exit j, s)
  | r => r
theorem code_block (id : Nat) (c : Code) (s : St) : evCodeI P conv call (.block id c) s = blockK id (evCodeI P conv call c s) := by
  show (match evCodeI P conv call c s with | some (.exit j, s') => _ | r => r) = _
  unfold blockK
  rfl
theorem blockK_norm (id : Nat) (s : St) : blockK id (some (.norm, s)) = some (.norm, s) := rfl
theorem blockK_ret (id : Nat) (s : St) : blockK id (some (.ret, s)) = some (.ret, s) := rfl
theorem blockK_exit (id j : Nat) (s : St) : blockK id (some (.exit j, s)) = if j = id then some (.norm, s) else some (.exit j, s) := rfl
theorem code_loop (c : Code) (s : St) : evCodeI P conv call (.loop c) s = evLoopI (evCodeI P conv call c) s := rfl
noncomputable def loopK (body : St → Option (Ex × St)) : Option (Ex × St) → Option (Ex × St)
  | some (.norm, s) => evLoopI body s
  | r => r
theorem loop_step (body : St → Option (Ex × St)) (s : St) : evLoopI body s = loopK body (body s) := by
  rw [evLoopI_eq]
  unfold loopK
  rfl
theorem loopK_norm (body : St → Option (Ex × St)) (s : St) : loopK body (some (.norm, s)) = evLoopI body s := rfl
theorem loopK_ret (body : St → Option (Ex × St)) (s : St) : loopK body (some (.ret, s)) = some (.ret, s) := rfl
theorem loopK_exit (body : St → Option (Ex × St)) (i : Nat) (s : St) : loopK body (some (.exit i, s)) = some (.exit i, s) := rfl

def resK (P : Program) (rs : List ResultVar) : Option (Ex × St) → Res
  | some (.norm, st) => (evResults P st.T st.σ rs).map fun vs => (oneOf vs, st.σ, st.nx)
  | some (.ret, st) => (evResults P st.T st.σ rs).map fun vs => (oneOf vs, st.σ, st.nx)
  | _ => none
theorem bodyI_eq (rs : List ResultVar) (body : Code) (s : St) : bodyI P conv call rs body s = resK P rs (evCodeI P conv call body s) := by
  unfold bodyI resK
  cases evCodeI P conv call body s with
  | none => rfl
  | some q =>
    obtain ⟨e, st⟩ := q
    cases e <;> simp only <;> cases evResults P st.T st.σ rs <;> rfl
theorem resK_norm (rs : List ResultVar) (T : Nat → V) (σ : Store) (nx : Nat) : resK P rs (some (.norm, ⟨T, σ, nx⟩)) = (evResults P T σ rs).map fun vs => (oneOf vs, σ, nx) := rfl
theorem resK_ret (rs : List ResultVar) (T : Nat → V) (σ : Store) (nx : Nat) : resK P rs (some (.ret, ⟨T, σ, nx⟩)) = (evResults P T σ rs).map fun vs => (oneOf vs, σ, nx) := rfl
theorem res_tmp1 (T : Nat → V) (σ : Store) (t : Tmp) : evResults P T σ [.tmp t] = some [T t] := rfl
theorem res_nil (T : Nat → V) (σ : Store) : evResults P T σ [] = some [] := rfl
theorem res_tmp2 (T : Nat → V) (σ : Store) (t u : Tmp) : evResults P T σ [.tmp t, .tmp u] = some [T t, T u] := rfl
theorem res_tmp3 (T : Nat → V) (σ : Store) (t u v : Tmp) : evResults P T σ [.tmp t, .tmp u, .tmp v] = some [T t, T u, T v] := rfl
theorem res_cell1 (T : Nat → V) (σ : Store) (a : Tmp) (t : TypeId) : evResults P T σ [.cell a t] = (evLoad P σ t (T a)).map fun v => [v] := by
  simp only [evResults]
  cases evLoad P σ t (T a) <;> rfl
theorem oneOf_one (v : V) : oneOf [v] = v := rfl
theorem oneOf_two (u v : V) : oneOf [u, v] = .tup [u, v] := rfl
theorem oneOf_three (u v w : V) : oneOf [u, v, w] = .tup [u, v, w] := rfl
theorem oneOf_zero : oneOf [] = .tup [] := rfl

theorem argsT0 : argsT [] = fun _ => V.tup [] := by funext i; simp [argsT]
theorem argsT_get (l : List V) (i : Nat) : argsT l i = (l[i]?).getD (.tup []) := rfl

theorem ofVal_int (k : IntKind) (n : Int) : ofVal (.int k n) = .sc (.int k n) := rfl
theorem ofVal_bool (b : Bool) : ofVal (.bool b) = .sc (.bool b) := rfl
theorem ofVal_string (s : ByteArray) : ofVal (.string s) = .sc (.string s) := rfl
theorem ofVal_nilp : ofVal (.pointer none) = .sc (.pointer none) := rfl
theorem ofVal_nils : ofVal (.slice none 0 0) = .nil := rfl
theorem ofVal_agg (l : List Value) : ofVal (.agg l.toArray) = .agg (l.map ofCell) := rfl

end
end Go.TV
