import Derived.Test.YtlacjcdhfoeekaaTv12
set_option linter.unusedSimpArgs false
set_option linter.unusedVariables false
namespace Go.TV
open Go.RowKit
set_option linter.unusedVariables false
set_option linter.unusedSimpArgs false

structure St where
  T : Nat → V
  σ : Store
  nx : Nat

def putT (T : Nat → V) (dst : Option Tmp) (v : V) : Nat → V :=
  match dst with
  | some d => upd T d v
  | none => T

/-- Whether an operation of a region is wanted; none: not known. -/
def wantedB (ops : Array Oper) (T : Nat → V) (o : Oper) : Option Bool :=
  match o.guard with
  | none => some true
  | some (j, want) => match (ops[j]?).bind (·.dst) with
    | some d => match T d with
      | .sc (.bool b) => some (b == want)
      | .tup [] => some false
      | _ => none
    | none => some false

def evOps (P : Program) (conv : FuncId → Conv) (call : Call) (ops : Array Oper) : List Oper → St → Option St
  | [], s => some s
  | o :: rest, s => match wantedB ops s.T o with
    | some true => match evOp P conv call o s.T s.σ s.nx with
      | some (v, σ', nx') => evOps P conv call ops rest ⟨putT s.T o.dst v, σ', nx'⟩
      | none => none
    | some false => evOps P conv call ops rest ⟨putT s.T o.dst (.tup []), s.σ, s.nx⟩
    | none => none

/-! ### Regions that draw their order -/

def refsC : V → List Nat
  | .rp b _ => [b]
  | .rs b _ _ => [b]
  | _ => []
def refsV : V → List Nat
  | .agg vs => vs.flatMap refsC
  | .tup vs => vs.flatMap refsC
  | .clo _ vs => vs.flatMap refsC
  | v => refsC v

/-- The blocks that an operation may touch. -/
def footIds (conv : FuncId → Conv) (T : Nat → V) (o : Oper) : List Nat :=
  match o.op with
  | .load _ a => refsC (val T a)
  | .store _ a _ => refsC (val T a)
  | .slice _ x _ _ _ => refsC (val T x)
  | .convert _ _ x => refsC (val T x)
  | .call ⟨.value f, args, _⟩ => match val T f with
    | .clo g cs => match conv g with
      | .inl => (args.toList.map (val T)).flatMap refsV ++ cs.flatMap refsV
      | _ => []
    | _ => []
  | .call ⟨.builtin .append, args, _⟩ => (args.toList.map (val T)).flatMap refsC
  | _ => []

/-- An operation that may write. -/
def writer (conv : FuncId → Conv) (o : Oper) : Bool :=
  match o.op with
  | .store .. => true
  | .call ⟨.value (.func g), _, _⟩ => match conv g with
    | .inl => true
    | _ => false
  | .call ⟨.value _, _, _⟩ => true
  | .call ⟨.builtin .append, _, _⟩ => true
  | _ => false

def restrict (σ : Store) (ids : List Nat) : Store := fun b => if b ∈ ids then σ b else none
def patchS (ids : List Nat) (lo hi : Nat) (σ σ1 : Store) : Store := fun b => if b ∈ ids ∨ (lo ≤ b ∧ b < hi) then σ1 b else σ b

def evOpD (P : Program) (conv : FuncId → Conv) (call : Call) (o : Oper) (T : Nat → V) (σ : Store) (nx : Nat) : Res :=
  if ((footIds conv T o).all fun b => decide (b < nx)) = true then
    match evOp P conv call o T (restrict σ (footIds conv T o)) nx with
    | some (v, σ1, nx1) => some (v, patchS (footIds conv T o) nx nx1 σ σ1, nx1)
    | none => none
  else none

/-- The lexical run of a region that draws; it tells each operation's blocks. -/
def evOpsD (P : Program) (conv : FuncId → Conv) (call : Call) (ops : Array Oper) : List Oper → St → Option (St × List (List Nat))
  | [], s => some (s, [])
  | o :: rest, s => match wantedB ops s.T o with
    | some true => match evOpD P conv call o s.T s.σ s.nx with
      | some (v, σ', nx') => match evOpsD P conv call ops rest ⟨putT s.T o.dst v, σ', nx'⟩ with
        | some (s', fs) => some (s', footIds conv s.T o :: fs)
        | none => none
      | none => none
    | some false => match evOpsD P conv call ops rest ⟨putT s.T o.dst (.tup []), s.σ, s.nx⟩ with
        | some (s', fs) => some (s', [] :: fs)
        | none => none
    | none => none

def edgeOn (o : Oper) (i : Nat) : Bool := o.after.any fun e => Region.binds .any e && e.on == i

/-- The pairs of operations (the earlier one first) between which no edge stands and of which one may write. -/
def wpairs (conv : FuncId → Conv) (l : List Oper) : List (Nat × Nat) :=
  l.zipIdx.flatMap fun (o, j) => (l.take j).zipIdx.filterMap fun (p, i) => if edgeOn o i then none else if writer conv o || writer conv p then some (i, j) else none

/-- Names apart where no edge stands; edges lead back. -/
def ordOk (ops : Array Oper) : Bool :=
  ops.toList.zipIdx.all fun (o, j) => (o.after.all fun e => !Region.binds .any e || e.on < j) && (match o.guard with | some (g, _) => decide (g < j) | none => true) &&
    (ops.toList.take j).zipIdx.all fun (p, i) => edgeOn o i || p.apart ops o

def pairsOk (fs : List (List Nat)) (ps : List (Nat × Nat)) : Bool := ps.all fun (i, j) => ((fs[i]?).getD []).all fun b => !((fs[j]?).getD []).contains b

def evDraw (P : Program) (conv : FuncId → Conv) (call : Call) (ops : Array Oper) (s : St) : Option St :=
  if ordOk ops = true then
    match evOpsD P conv call ops ops.toList s with
    | some (s', fs) => if pairsOk fs (wpairs conv ops.toList) = true then some s' else none
    | none => none
  else none

/-! ### Code -/

inductive Ex where
  | norm | exit (id : Nat) | ret

def evLoop (body : St → Option (Ex × St)) : Nat → St → Option (Ex × St)
  | 0, _ => none
  | n + 1, s => match body s with
    | some (.norm, s') => evLoop body n s'
    | r => r

def evCode (P : Program) (conv : FuncId → Conv) (call : Call) (n : Nat) : Code → St → Option (Ex × St)
  | .skip, s => some (.norm, s)
  | .region _ ops draw, s => match (if draw then evDraw P conv call ops s else evOps P conv call ops ops.toList s) with
    | some s' => some (.norm, s')
    | none => none
  | .seq a b, s => match evCode P conv call n a s with
    | some (.norm, s') => evCode P conv call n b s'
    | r => r
  | .cond c a b, s => match val s.T c with
    | .sc (.bool true) => evCode P conv call n a s
    | .sc (.bool false) => evCode P conv call n b s
    | _ => none
  | .block id c, s => match evCode P conv call n c s with
    | some (.exit j, s') => if j = id then some (.norm, s') else some (.exit j, s')
    | r => r
  | .loop c, s => evLoop (evCode P conv call n c) n s
  | .exit id, s => some (.exit id, s)
  | .ret, s => some (.ret, s)
  | _, _ => none

def dstOk (nt : Nat) : Code → Bool
  | .region _ ops _ => ops.all fun o => match o.dst with | some d => decide (d < nt) | none => true
  | .seq a b => dstOk nt a && dstOk nt b
  | .cond _ a b => dstOk nt a && dstOk nt b
  | .block _ c => dstOk nt c
  | .loop c => dstOk nt c
  | _ => true

def evResults (P : Program) (T : Nat → V) (σ : Store) : List ResultVar → Option (List V)
  | [] => some []
  | .tmp t :: rs => match evResults P T σ rs with
    | some vs => some (T t :: vs)
    | none => none
  | .cell a t :: rs => match evLoad P σ t (T a), evResults P T σ rs with
    | some v, some vs => some (v :: vs)
    | _, _ => none

def argsT (args : List V) : Nat → V := fun i => (args[i]?).getD (.tup [])

def oneOf : List V → V
  | [v] => v
  | vs => .tup vs

def fnOk (fn : Func) (body : Code) (n : Nat) : Bool := !(fn.name == "runtime.NumGoroutine") && decide (n ≤ fn.ntmps) && dstOk fn.ntmps body

abbrev Ext := FuncId → Option (List V → Store → Nat → Res)

def evBody (P : Program) (conv : FuncId → Conv) (call : Call) (n : Nat) (fn : Func) (body : Code) (args : List V) (σ : Store) (nx : Nat) : Res :=
  match evCode P conv call n body ⟨argsT args, σ, nx⟩ with
  | some (.norm, st) => match evResults P st.T st.σ fn.results.toList with
    | some vs => some (oneOf vs, st.σ, st.nx)
    | none => none
  | some (.ret, st) => match evResults P st.T st.σ fn.results.toList with
    | some vs => some (oneOf vs, st.σ, st.nx)
    | none => none
  | _ => none

def evF (P : Program) (conv : FuncId → Conv) (ext : Ext) : Nat → Call
  | 0 => fun _ _ _ _ => none
  | k + 1 => fun f args σ nx => match ext f with
    | some g => g args σ nx
    | none => match P.funcs[f]? with
      | some fn => match fn.body with
        | some body => if fnOk fn body args.length = true then evBody P conv (evF P conv ext k) k fn body args σ nx else none
        | none => none
      | none => none

end Go.TV
