import Derived.Test.YtlacjcdhfoeekaaTv1
set_option linter.unusedSimpArgs false
set_option linter.unusedVariables false
namespace Go.TV
open Go.RowKit

/-- A program of the model that touches no memory. -/
def evPure {α : Type} (P : Program) : Sem α → Option α
  | .pure a => some a
  | .program k => evPure P (k P)
  | .mark _ k => evPure P k
  | _ => none

theorem run_of_evPure {α : Type} {P : Program} : ∀ (m : Sem α) {a : α}, evPure P m = some a → ∀ w, m.run P w = .ok a w
  | .pure b, a, h, w => by simp only [evPure, Option.some.injEq] at h; subst h; rfl
  | .program k, a, h, w => by unfold evPure at h; exact run_of_evPure (k P) h w
  | .mark _ k, a, h, w => by unfold evPure at h; exact run_of_evPure k h w
  | .load .., a, h, w => by simp [evPure] at h
  | .store .., a, h, w => by simp [evPure] at h
  | .new .., a, h, w => by simp [evPure] at h
  | .shape .., a, h, w => by simp [evPure] at h
  | .freeze .., a, h, w => by simp [evPure] at h
  | .frozen .., a, h, w => by simp [evPure] at h
  | .getObj .., a, h, w => by simp [evPure] at h
  | .setObj .., a, h, w => by simp [evPure] at h
  | .choose .., a, h, w => by simp [evPure] at h
  | .sys .., a, h, w => by simp [evPure] at h
  | .halt .., a, h, w => by simp [evPure] at h

/-- The tree of a cell's constant. -/
def ofCell : Value → V
  | .slice _ n m => if n = 0 ∧ m = 0 then .nil else .junk
  | .func fn fi ca => match fn with
    | .func f => if fi = #[] ∧ ca = #[] then .clo f [] else .junk
    | _ => .junk
  | v => if atom v then .sc v else .junk
def ofVal : Value → V
  | .agg cs => .agg (cs.toList.map ofCell)
  | .tuple vs => .tup (vs.toList.map ofCell)
  | v => ofCell v

/-- A tree that is a value without memory. -/
def toCell : V → Option Value
  | .sc v => some v
  | _ => none
def toCells : List V → Option (List Value)
  | [] => some []
  | v :: vs => match toCell v, toCells vs with
    | some x, some xs => some (x :: xs)
    | _, _ => none
def toVal : V → Option Value
  | .sc v => some v
  | .agg vs => (toCells vs).map fun xs => .agg xs.toArray
  | _ => none

/-- The cells of a value that is stored. -/
def isCell : V → Bool
  | .agg _ | .tup _ | .junk => false
  | _ => true
def cellsOfV : V → Option (List V)
  | .agg vs => some vs
  | v => if isCell v then some [v] else none

def upd {α : Type} (f : Nat → α) (i : Nat) (v : α) : Nat → α := fun j => if j = i then v else f j

theorem upd_same {α : Type} (f : Nat → α) (i : Nat) (v : α) : upd f i v i = v := by simp [upd]
theorem upd_ne {α : Type} (f : Nat → α) {i j : Nat} (v : α) (h : j ≠ i) : upd f i v j = f j := by simp [upd, h]

/-- The cells behind a pointer. -/
def cellsAt (σ : Store) : V → Nat → Option (List V)
  | .tp row off, n => if off + n ≤ row.length then some ((row.drop off).take n) else none
  | .rp b off, n => match σ b with
    | some B => if off + n ≤ B.cells.length then some ((B.cells.drop off).take n) else none
    | none => none
  | _, _ => none

/-- The cells of a slice's elements, n cells an element. -/
def rowOf (σ : Store) (size : Nat) : V → Option (List V × Nat)
  | .nil => some ([], 0)
  | .ts row len => if row.length = len * size then some (row, len) else none
  | .rs b off len => match σ b with
    | some B => if off + len * size ≤ B.cells.length then some ((B.cells.drop off).take (len * size), len) else none
    | none => none
  | _ => none

def isAggD : TypeDesc → Bool
  | .struct _ | .array .. => true
  | _ => false

def patch (cells : List V) (off : Nat) : List V → List V
  | [v] => cells.set off v
  | vs => cells.take off ++ vs ++ cells.drop (off + vs.length)

theorem patch_eq (cells : List V) (off : Nat) (vs : List V) (h : off + vs.length ≤ cells.length) : patch cells off vs = cells.take off ++ vs ++ cells.drop (off + vs.length) := by
  unfold patch
  split
  · rename_i v
    simp only [List.length_singleton] at h ⊢
    rw [List.set_eq_take_append_cons_drop, if_pos (by omega)]
    simp
  · rfl

abbrev Res := Option (V × Store × Nat)

def evLoad (P : Program) (σ : Store) (t : TypeId) (a : V) : Option V :=
  match P.info? t, P.underlying t with
  | some i, some d => if isAggD d then (cellsAt σ a i.size).map .agg else
    match cellsAt σ a 1 with
    | some [v] => some v
    | _ => none
  | _, _ => none

def evStore (P : Program) (σ : Store) (t : TypeId) (a v : V) : Option Store :=
  match P.info? t, a, cellsOfV v with
  | some i, .rp b off, some vs => match σ b with
    | some B => if B.wr = true ∧ vs.length = i.size ∧ off + vs.length ≤ B.cells.length ∧ vs.all isCell = true then
        some (upd σ b (some { B with cells := patch B.cells off vs })) else none
    | none => none
  | _, _, _ => none

def evBox (σ : Store) (nx : Nat) (cells : List V) (st : Nat) : Store := upd σ nx (some ⟨cells, st, true⟩)

/-- Parts put into cells. -/
def evFill (place : Nat → Option (Nat × Nat)) (cells : List V) : List (Nat × V) → Option (List V)
  | [] => some cells
  | (i, v) :: rest => match place i, cellsOfV v with
    | some (off, size), some vs => if vs.length = size ∧ off + vs.length ≤ cells.length then evFill place (patch cells off vs) rest else none
    | _, _ => none

def places (P : Program) (t : TypeId) : Option (Nat → Option (Nat × Nat)) :=
  match P.underlying t with
  | some (.struct fields) => (evPure P (fields.mapM fun f => do pure (f.offset, ← sizeOf f.type))).map fun a i => a[i]?
  | some (.array _ elem) => (P.info? elem).map fun e i => some (i * e.size, e.size)
  | _ => none

def evBuild (P : Program) (t : TypeId) (parts : List (Nat × V)) : Option V :=
  match P.info? t, places P t with
  | some i, some pl => match i.zero with
    | some z => (evFill pl (z.cells.toList.map ofCell) parts).map .agg
    | none => none
  | _, _ => none

def rep (n : Nat) (z : List V) : List V := (List.replicate n z).flatten

def evBuildSlice (P : Program) (t : TypeId) (len : Nat) (parts : List (Nat × V)) (σ : Store) (nx : Nat) : Res :=
  match P.underlying t with
  | some (.slice elem) => match P.info? elem with
    | some i => match i.zero with
      | some z => if len = 0 then some (.nil, σ, nx) else
        if 0 < i.size ∧ len * i.size ≤ 1000 ∧ z.cells.size = i.size then
          match evFill (fun j => some (j * i.size, i.size)) (rep len (z.cells.toList.map ofCell)) parts with
          | some cells => some (.rs nx 0 len, evBox σ nx cells i.size, nx + 1)
          | none => none
        else none
      | none => none
    | none => none
  | _ => none

def evMake (P : Program) (t : TypeId) (len cap : V) (σ : Store) (nx : Nat) : Res :=
  match P.underlying t, len, cap with
  | some (.slice elem), .sc (.int .i64 l), .sc (.int .i64 c) => match P.info? elem with
    | some i => match i.zero with
      | some z => if 0 ≤ l ∧ l ≤ c ∧ (i.bytes : Int) * c ≤ 281474976710656 ∧ c ≤ 9223372036854775807 ∧ 0 < i.size ∧ z.cells.size = i.size then
          some (.rs nx 0 l.toNat, evBox σ nx (rep l.toNat (z.cells.toList.map ofCell)) i.size, nx + 1) else none
      | none => none
    | none => none
  | _, _, _ => none

def bnd (x : Option V) (d : Nat) : Option Nat :=
  match x with
  | none => some d
  | some (.sc (.int _ i)) => if 0 ≤ i then some i.toNat else none
  | _ => none

def evSlice (P : Program) (t : TypeId) (x : V) (lo hi mx : Option V) (σ : Store) : Option V :=
  match P.underlying t with
  | some .string => match x with
    | .sc (.string s) => match bnd lo 0, bnd hi s.size, mx with
      | some l, some h, none => if l ≤ h ∧ h ≤ s.size then some (.sc (.string (s.extract l h))) else none
      | _, _, _ => none
    | _ => none
  | some (.slice elem) => match P.info? elem, mx with
    | some i, none => match x with
      | .nil => match bnd lo 0, bnd hi 0 with
        | some l, some h => if l ≤ h ∧ h ≤ 0 then some .nil else none
        | _, _ => none
      | .ts row len => match bnd lo 0, bnd hi len with
        | some l, some h => if l ≤ h ∧ h ≤ len then some (.ts ((row.drop (l * i.size)).take ((h - l) * i.size)) (h - l)) else none
        | _, _ => none
      | .rs b off len => match bnd lo 0, bnd hi len, σ b with
        | some l, some h, some B => if l ≤ h ∧ 0 < i.size ∧ B.st = i.size ∧ off + h * i.size ≤ B.cells.length then
            if l = 0 then some (.rs b off h) else if l = h then some (.ts [] 0) else some (.rs b (off + l * i.size) (h - l)) else none
        | _, _, _ => none
      | _ => none
    | some _, some m => match hi with
      | none => none
      | some _ => match bnd lo 0, bnd hi 0, bnd (some m) 0 with
        | some l, some h, some m => match x with
          | .ts _ len | .rs _ _ len => if l ≤ h ∧ h ≤ m ∧ m ≤ len then some .junk else none
          | _ => none
        | _, _, _ => none
    | none, _ => none
  | _ => none

def evFieldAddr (P : Program) (t : TypeId) (x : V) (f : Nat) : Option V :=
  match P.underlying t with
  | some (.struct fields) => match fields[f]? with
    | some fd => match P.info? fd.type with
      | some i => if i.size = 0 then none else
        match x with
        | .tp row off => some (.tp row (off + fd.offset))
        | .rp b off => some (.rp b (off + fd.offset))
        | _ => none
      | none => none
    | none => none
  | _ => none

def evPart (P : Program) (t : TypeId) (cs : List V) (off : Nat) : Option V :=
  match P.info? t, P.underlying t with
  | some i, some d => if isAggD d then some (.agg ((cs.drop off).take i.size)) else cs[off]?
  | _, _ => none

def evField (P : Program) (t : TypeId) (x : V) (f : Nat) : Option V :=
  match P.underlying t, x with
  | some (.struct fields), .agg cs => match fields[f]? with
    | some fd => evPart P fd.type cs fd.offset
    | none => none
  | _, _ => none

def evIndexAddr (P : Program) (t : TypeId) (x i : V) : Option V :=
  match P.underlying t, i with
  | some (.slice elem), .sc (.int _ i) => match P.info? elem with
    | some e => match x with
      | .ts row len => if 0 ≤ i ∧ i < len ∧ row ≠ [] then some (.tp row (i.toNat * e.size)) else none
      | .rs b off len => if 0 ≤ i ∧ i < len then some (.rp b (off + i.toNat * e.size)) else none
      | _ => none
    | none => none
  | some (.array n elem), .sc (.int _ i) => match P.info? elem with
    | some e => if 0 ≤ i ∧ i < n then match x with
      | .tp row off => some (.tp row (off + i.toNat * e.size))
      | .rp b off => some (.rp b (off + i.toNat * e.size))
      | _ => none
      else none
    | none => none
  | _, _ => none

def evIndex (P : Program) (t : TypeId) (x i : V) : Option V :=
  match x with
  | .sc (.string s) => match i with
    | .sc (.int _ i) => match P.underlying t with
      | some .string => match (if 0 ≤ i then s[i.toNat]? else none) with
        | some b => some (.sc (.int .u8 b.toNat))
        | none => none
      | _ => none
    | _ => none
  | .agg cs => match P.underlying t, i with
    | some (.array n elem), .sc (.int _ i) => match P.info? elem with
      | some e => if 0 ≤ i ∧ i < n then evPart P elem cs (i.toNat * e.size) else none
      | none => none
    | _, _ => none
  | _ => none

def isRef : V → Bool
  | .tp .. | .rp .. => true
  | _ => false

def isNilP : V → Bool
  | .sc (.pointer none) => true
  | _ => false

def evBin (P : Program) (op : BinOp) (t : TypeId) (x y : Operand) (a b : V) : Option V :=
  match toVal a, toVal b with
  | some u, some v => (evPure P (do eqGuard op t x y u v; binOp op t u v)).bind fun r => if atom r then some (.sc r) else none
  | _, _ => match P.underlying t, op with
    | some (.pointer _), .eql => if isRef a && isNilP b || isRef b && isNilP a then some (.sc (.bool false)) else none
    | some (.pointer _), .neq => if isRef a && isNilP b || isRef b && isNilP a then some (.sc (.bool true)) else none
    | _, _ => none

def evUn (P : Program) (op : UnOp) (a : V) : Option V :=
  match toVal a with
  | some u => (evPure P (Op.unary op u)).bind fun r => if atom r then some (.sc r) else none
  | none => none

def bytesOfRow : List V → Option (List UInt8)
  | [] => some []
  | .sc (.int .u8 n) :: vs => if 0 ≤ n ∧ n < 256 then (bytesOfRow vs).map (UInt8.ofNat n.toNat :: ·) else none
  | _ :: _ => none

def evConvert (P : Program) (src dst : TypeId) (a : V) (σ : Store) : Option V :=
  match toVal a with
  | some u => (evPure P (convert src dst u)).bind fun r => if atom r then some (.sc r) else none
  | none => match P.underlying src, P.underlying dst with
    | some (.slice e), some .string => match P.underlying e, P.info? e with
      | some (.int .u8), some i => if i.size = 1 then
          match rowOf σ 1 a with
          | some (row, _) => (bytesOfRow row).map fun l => .sc (.string ⟨l.toArray⟩)
          | none => none
        else none
      | _, _ => none
    | _, _ => none

end Go.TV
