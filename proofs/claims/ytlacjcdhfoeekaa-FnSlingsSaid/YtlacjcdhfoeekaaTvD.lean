import Derived.Test.YtlacjcdhfoeekaaTv26
set_option linter.unusedSimpArgs false
set_option linter.unusedVariables false
namespace Go.TV

/-! ### The data of the laws -/
structure Item where
  name : ByteArray
  limit : Int
  expires : Int
structure Joint where
  name : ByteArray
  x : Int
  y : Int
  fixed : Bool
structure Member where
  a : Int
  b : Int
  kind : Int
structure Structure where
  joints : List Joint
  members : List Member
structure Stance where
  name : ByteArray
  st : Structure
  load : List Int
  limits : List Int
structure Move where
  fr : Int
  to : Int
structure Yard where
  stances : List Stance
  moves : List Move
  strict : Bool
structure Beam where
  left : Int
  right : Int
  low : Int
  high : Int
  weight : Int
structure BigInt where
  neg : Bool
  mag : List Int
structure Ratio where
  num : BigInt
  den : List Int
structure Console where
  st : Structure
  load : List Int
  limits : List Int
  items : List Item

abbrev cI (n : Int) : List V := [I n]
abbrev cItem (i : Item) : List V := [Sg i.name, I i.limit, I i.expires]
abbrev cJoint (j : Joint) : List V := [Sg j.name, I j.x, I j.y, Bo j.fixed]
abbrev cMember (m : Member) : List V := [I m.a, I m.b, I m.kind]
abbrev LL {α : Type} (c : α → List V) (xs : List α) : V := .ts (xs.flatMap c) xs.length
abbrev LI (xs : List Int) : V := .ts (xs.flatMap cI) xs.length
abbrev cStructure (s : Structure) : List V := [LL cJoint s.joints, LL cMember s.members]
abbrev cStance (t : Stance) : List V := [Sg t.name, LL cJoint t.st.joints, LL cMember t.st.members, LI t.load, LI t.limits]
abbrev cMove (m : Move) : List V := [I m.fr, I m.to]
abbrev cYard (y : Yard) : List V := [LL cStance y.stances, LL cMove y.moves, Bo y.strict]
abbrev cBeam (b : Beam) : List V := [I b.left, I b.right, I b.low, I b.high, I b.weight]
abbrev cBigInt (x : BigInt) : List V := [Bo x.neg, LI x.mag]
abbrev cRatio (r : Ratio) : List V := [Bo r.num.neg, LI r.num.mag, LI r.den]
abbrev cConsole (c : Console) : List V := [LL cJoint c.st.joints, LL cMember c.st.members, LI c.load, LI c.limits, LL cItem c.items]

def okI (n : Int) : Prop := (Lit.int .i64 n).wf = true
def okS (s : ByteArray) : Prop := s.size ≤ 140737488351232
def okL {α : Type} (B : Nat) (ok : α → Prop) (xs : List α) : Prop := (∀ x ∈ xs, ok x) ∧ xs.length * B ≤ 140737488351232 ∧ xs.length ≤ maxLen
def okItem (i : Item) : Prop := okS i.name ∧ okI i.limit ∧ okI i.expires
def okJoint (j : Joint) : Prop := okS j.name ∧ okI j.x ∧ okI j.y ∧ True
def okMember (m : Member) : Prop := okI m.a ∧ okI m.b ∧ okI m.kind
def okStructure (s : Structure) : Prop := okL 40 okJoint s.joints ∧ okL 24 okMember s.members
def okStance (t : Stance) : Prop := okS t.name ∧ okStructure t.st ∧ okL 8 okI t.load ∧ okL 8 okI t.limits
def okMove (m : Move) : Prop := okI m.fr ∧ okI m.to
def okYard (y : Yard) : Prop := okL 112 okStance y.stances ∧ okL 16 okMove y.moves ∧ True
def okBeam (b : Beam) : Prop := okI b.left ∧ okI b.right ∧ okI b.low ∧ okI b.high ∧ okI b.weight
def okBigInt (x : BigInt) : Prop := True ∧ okL 8 okI x.mag
def okRatio (r : Ratio) : Prop := okBigInt r.num ∧ okL 8 okI r.den
def okConsole (c : Console) : Prop := okStructure c.st ∧ okL 8 okI c.load ∧ okL 8 okI c.limits ∧ okL 32 okItem c.items

theorem okI_iff {n : Int} : okI n ↔ -9223372036854775808 ≤ n ∧ n ≤ 9223372036854775807 := by
  unfold okI
  simp only [Lit.wf, Bool.and_eq_true, decide_eq_true_eq]
  have h1 : IntKind.i64.min = -9223372036854775808 := by decide
  have h2 : IntKind.i64.max = 9223372036854775807 := by decide
  rw [h1, h2]

end Go.TV
namespace Go.TV
theorem fn_eq {P : Program} {conv : FuncId → Conv} {ext : Ext} (f : FuncId) (ts : List V) : fn P conv ext f ts = (ev P conv ext f ts noStore 0).bind fun q => (strip q.2.1 depth q.1).map (·.1) := by
  unfold fn
  cases ev P conv ext f ts noStore 0 with
  | none => rfl
  | some q => rfl
theorem strip_tup0 (σ : Store) : strip σ depth (.tup []) = some (.tup [], []) := rfl
section
variable (v : Value) (row : List V) (a b c : Nat) (f : FuncId) (vs : List V)
theorem isCell_sc : isCell (.sc v) = true := id rfl
theorem isCell_nil : isCell .nil = true := id rfl
theorem isCell_tp : isCell (.tp row a) = true := id rfl
theorem isCell_ts : isCell (.ts row a) = true := id rfl
theorem isCell_rp : isCell (.rp a b) = true := id rfl
theorem isCell_rs : isCell (.rs a b c) = true := id rfl
theorem isCell_clo : isCell (.clo f vs) = true := id rfl
theorem cells_agg : cellsOfV (.agg vs) = some vs := id rfl
theorem cells_sc : cellsOfV (.sc v) = some [.sc v] := id rfl
theorem cells_nil : cellsOfV .nil = some [.nil] := id rfl
theorem cells_tp : cellsOfV (.tp row a) = some [.tp row a] := id rfl
theorem cells_ts : cellsOfV (.ts row a) = some [.ts row a] := id rfl
theorem cells_rp : cellsOfV (.rp a b) = some [.rp a b] := id rfl
theorem cells_rs : cellsOfV (.rs a b c) = some [.rs a b c] := id rfl
theorem cells_clo : cellsOfV (.clo f vs) = some [.clo f vs] := id rfl
theorem fill_nil (pl : Nat → Option (Nat × Nat)) (cells : List V) : evFill pl cells [] = some cells := rfl
theorem fill_cons (pl : Nat → Option (Nat × Nat)) (cells : List V) (i : Nat) (v : V) (rest : List (Nat × V)) : evFill pl cells ((i, v) :: rest) = (pl i).bind fun p => (cellsOfV v).bind fun vs => if vs.length = p.2 ∧ p.1 + vs.length ≤ cells.length then evFill pl (patch cells p.1 vs) rest else none := by
  show (match pl i, cellsOfV v with | some (off, size), some vs => _ | _, _ => none) = _
  cases pl i <;> cases cellsOfV v <;> rfl
theorem patch_one (cells : List V) (off : Nat) (v : V) : patch cells off [v] = cells.set off v := rfl
theorem patch_nil (u : V) (cells : List V) (off : Nat) : patch (u :: cells) off [] = (u :: cells).take off ++ [] ++ (u :: cells).drop (off + 0) := rfl
theorem patch_two (u : V) (cells : List V) (off : Nat) (v w : V) (vs : List V) : patch (u :: cells) off (v :: w :: vs) = (u :: cells).take off ++ (v :: w :: vs) ++ (u :: cells).drop (off + (v :: w :: vs).length) := rfl
end
attribute [go_sem] isCell_sc isCell_nil isCell_tp isCell_ts isCell_rp isCell_rs isCell_clo cells_agg cells_sc cells_nil cells_tp cells_ts cells_rp cells_rs cells_clo fill_nil fill_cons patch_one patch_nil patch_two
attribute [go_sem] depth List.append_nil List.flatMap_cons List.flatMap_nil evBox List.set_cons_zero List.set_cons_succ List.length_cons List.length_nil List.length_set Nat.reduceAdd Nat.reduceLT Nat.reduceLeDiff List.all_cons List.all_nil Nat.zero_add Nat.add_zero List.drop_zero List.drop_succ_cons List.take_succ_cons List.take_zero Nat.reduceMul Nat.zero_mul Nat.one_mul Nat.mul_one ofCell
end Go.TV
