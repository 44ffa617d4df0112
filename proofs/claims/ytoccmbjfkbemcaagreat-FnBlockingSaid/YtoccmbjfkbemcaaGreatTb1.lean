import Derived.Orders
import Derived.Below
import Derived.Laws.AppendOwn
import Derived.Laws.NewBlocks
import Derived.Laws.MakeOwn
import Derived.Laws.OwnMore
import Derived.Laws.BytesString
import Derived.Laws.CopyRow
import Derived.Laws.IdiomCopy
set_option linter.unusedSimpArgs false
set_option linter.unusedVariables false
set_option linter.unusedSectionVars false
namespace Go.TV
open Go.RowKit
inductive V where
 | sc (v:Value)
 | nil
 | junk
 | agg (vs:List V)
 | tup (vs:List V)
 | clo (f:FuncId) (cs:List V)
 | tp (row:List V) (off:Nat)
 | ts (row:List V) (len:Nat)
 | rp (b off:Nat)
 | rs (b off len:Nat)
 deriving Inhabited
def atom:Value→Bool
 | .bool _ | .int _ _ | .string _ | .pointer none | .nilFunc => true
 | _ => false
structure Loc where
 k:Nat
 o:Nat
 c:Nat
 st:Nat
structure Blk where
 cells:List V
 st:Nat
 wr:Bool
abbrev Store:=Nat→Option Blk
structure Sit where
 Z:Nat→Nat→Prop
 β:Nat→Option Loc
 w:World
def Sit.nb (s:Sit):Sit:={ s with β:=fun _ => none }
mutual
def VR (s:Sit):V→Value→Prop
 | .sc u,x => x = u∧atom u = true
 | .nil,x => ∃ a,x = .slice a 0 0
 | .junk,_ => True
 | .agg vs,x => ∃ xs,x = .agg xs∧VRs s vs xs.toList
 | .tup vs,x => ∃ xs,x = .tuple xs∧VRs s vs xs.toList
 | .clo f cs,x => ∃ xs,x = .func (.func f) #[] xs∧VRs s cs xs.toList
 | .tp row off,x => ∃ k o,x = .pointer (some ⟨k,o + off,none⟩)∧VRow s.nb row k o
 | .ts row len,x => ∃ a cap,x = .slice a len cap∧len ≤ cap∧(row = []∨∃ k o,a = some ⟨k,o,none⟩∧VRow s.nb row k o)
 | .rp b off,x => ∃ l,s.β b = some l∧x = .pointer (some ⟨l.k,l.o + off,none⟩)
 | .rs b off len,x => ∃ l cap,s.β b = some l∧x = .slice (some ⟨l.k,l.o + off,none⟩) len cap∧len ≤ cap∧off + cap * l.st = l.c
def VRs (s:Sit):List V→List Value→Prop
 | [],xs => xs = []
 | v :: vs,xs => ∃ y ys,xs = y :: ys∧VR s v y∧VRs s vs ys
def VRow (s:Sit):List V→Nat→Nat→Prop
 | [],_,_ => True
 | v :: vs,k,o => s.Z k o∧(∃ c,s.w.cell? ⟨k,o,none⟩ = some c∧VR s v c)∧VRow s vs k (o + 1)
end
structure Le (s s':Sit):Prop where
 zz:∀ k o,s.Z k o→s'.Z k o
 kz:∀ k o,s.Z k o→s'.w.cell? ⟨k,o,none⟩ = s.w.cell? ⟨k,o,none⟩
 bb:∀ b l,s.β b = some l→s'.β b = some l
theorem Le.refl (s:Sit):Le s s:=⟨fun _ _ h => h,fun _ _ _ => rfl,fun _ _ h => h⟩
theorem Le.trans {a b c:Sit} (h:Le a b) (h':Le b c):Le a c :=
 ⟨fun k o z => h'.zz k o (h.zz k o z),fun k o z => (h'.kz k o (h.zz k o z)).trans (h.kz k o z),fun b l e => h'.bb b l (h.bb b l e)⟩
theorem Le.nb {s s':Sit} (h:Le s s'):Le s.nb s'.nb:=⟨h.zz,h.kz,fun _ _ e => by cases e⟩
theorem Le.of_nb (s:Sit):Le s.nb s:=⟨fun _ _ z => z,fun _ _ _ => rfl,fun _ _ e => by cases e⟩
mutual
theorem VR_mono {s s':Sit} (h:Le s s'):∀ (v:V) (x:Value),VR s v x→VR s' v x
 | .sc u,x,hv => by unfold VR at *; exact hv
 | .nil,x,hv => by unfold VR at *; exact hv
 | .junk,x,hv => by unfold VR; trivial
 | .agg vs,x,hv => by unfold VR at *; obtain ⟨xs,e,h1⟩:=hv; exact ⟨xs,e,VRs_mono h vs _ h1⟩
 | .tup vs,x,hv => by unfold VR at *; obtain ⟨xs,e,h1⟩:=hv; exact ⟨xs,e,VRs_mono h vs _ h1⟩
 | .clo f vs,x,hv => by unfold VR at *; obtain ⟨xs,e,h1⟩:=hv; exact ⟨xs,e,VRs_mono h vs _ h1⟩
 | .tp row off,x,hv => by unfold VR at *; obtain ⟨k,o,e,h1⟩:=hv; exact ⟨k,o,e,VRow_mono h.nb row k o h1⟩
 | .ts row len,x,hv => by
  unfold VR at *
  obtain ⟨a,cap,e,hc,h1⟩:=hv
  refine ⟨a,cap,e,hc,h1.imp id ?_⟩
  rintro ⟨k,o,e,h1⟩
  exact ⟨k,o,e,VRow_mono h.nb row k o h1⟩
 | .rp b off,x,hv => by unfold VR at *; obtain ⟨l,e,h1⟩:=hv; exact ⟨l,h.bb _ _ e,h1⟩
 | .rs b off len,x,hv => by unfold VR at *; obtain ⟨l,cap,e,h1⟩:=hv; exact ⟨l,cap,h.bb _ _ e,h1⟩
theorem VRs_mono {s s':Sit} (h:Le s s'):∀ (vs:List V) (xs:List Value),VRs s vs xs→VRs s' vs xs
 | [],xs,hv => by unfold VRs at *; exact hv
 | v :: vs,xs,hv => by
  unfold VRs at *
  obtain ⟨y,ys,e,h1,h2⟩:=hv
  exact ⟨y,ys,e,VR_mono h v y h1,VRs_mono h vs ys h2⟩
theorem VRow_mono {s s':Sit} (h:Le s s'):∀ (vs:List V) (k o:Nat),VRow s vs k o→VRow s' vs k o
 | [],k,o,hv => by unfold VRow; trivial
 | v :: vs,k,o,hv => by
  unfold VRow at *
  obtain ⟨hz,⟨c,hc,h1⟩,h2⟩:=hv
  exact ⟨h.zz k o hz,⟨c,(h.kz k o hz).trans hc,VR_mono h v c h1⟩,VRow_mono h vs k (o + 1) h2⟩
end
class Known where
 cells:List (Nat × Nat × Option Value)
def Kn [Known] (s:Sit):Prop:=∀ p ∈ Known.cells,s.Z p.1 p.2.1∧s.w.cell? ⟨p.1,p.2.1,none⟩ = p.2.2
theorem Kn.mono [Known] {s s':Sit} (h:Kn s) (hl:Le s s'):Kn s':=fun p hp => ⟨hl.zz _ _ (h p hp).1,(hl.kz _ _ (h p hp).1).trans (h p hp).2⟩
theorem Kn.same [Known] {s s':Sit} (h:Kn s) (hz:∀ k o,s.Z k o→s'.Z k o) (hw:s'.w = s.w):Kn s':=fun p hp => ⟨hz _ _ (h p hp).1,by rw [hw]; exact (h p hp).2⟩
variable [Known]
structure Inv (s:Sit) (σ:Store):Prop where
 blk:∀ b B,σ b = some B→∃ l c e,s.β b = some l∧s.w.heap[l.k]? = some (.cells c e (0,0))∧l.o + l.c ≤ c.size∧B.cells.length ≤ l.c∧l.st = B.st ∧
  (∀ (i:Nat) (v:V),B.cells[i]? = some v→∃ x,c[l.o + i]? = some x∧VR s v x)∧(∀ o,s.Z l.k o→B.wr = false∧o < l.o + B.cells.length)∧(1000000 ≤ B.st→e + 1000000 = B.st∧l.o = 0)
 dis:∀ b b' B B' l l',σ b = some B→σ b' = some B'→s.β b = some l→s.β b' = some l'→l.k = l'.k→b = b'
 zb:∀ k o,s.Z k o→k < s.w.heap.size
 kn:Kn s
structure Nxt (s:Sit) (σ:Store) (s':Sit) (σ':Store):Prop where
 le:Le s s'
 zn:∀ k o,s'.Z k o→s.Z k o∨s.w.heap.size ≤ k∨∃ b B l,σ b = some B∧s.β b = some l∧l.k = k
 kb:∀ k,k < s.w.heap.size→(∀ b B l,σ b = some B→s.β b = some l→l.k ≠ k)→s'.w.heap[k]? = s.w.heap[k]?
 nb:∀ b B l,σ' b = some B→s'.β b = some l→s.w.heap.size ≤ l.k∨∃ b0 B0 l0,σ b0 = some B0∧s.β b0 = some l0∧l0.k = l.k
 hs:s.w.heap.size ≤ s'.w.heap.size
 os:s'.w.os = s.w.os
 tape:s'.w.tape = s.w.tape
 output:s'.w.output = s.w.output
theorem Nxt.refl (s:Sit) (σ:Store):Nxt s σ s σ :=
 ⟨.refl s,fun _ _ h => .inl h,fun _ _ _ => rfl,fun b B l h h' => .inr ⟨b,B,l,h,h',rfl⟩,Nat.le_refl _,rfl,rfl,rfl⟩
theorem Nxt.trans {a b c:Sit} {σ τ υ:Store} (h:Nxt a σ b τ) (h':Nxt b τ c υ):Nxt a σ c υ:=by
 refine ⟨h.le.trans h'.le,fun k o hz => ?_,fun k hk hn => ?_,fun i B l hi hl => ?_,Nat.le_trans h.hs h'.hs,h'.os.trans h.os,h'.tape.trans h.tape,h'.output.trans h.output⟩
 ·rcases h'.zn k o hz with h1 | h1 | ⟨i,B,l,h1,h2,h3⟩
  ·exact h.zn k o h1
  ·exact .inr (.inl (Nat.le_trans h.hs h1))
  ·subst h3
   rcases h.nb i B l h1 h2 with h4 | h4
   ·exact .inr (.inl h4)
   ·exact .inr (.inr h4)
 ·refine (h'.kb k (Nat.lt_of_lt_of_le hk h.hs) fun i B l hi hl e => ?_).trans (h.kb k hk hn)
  rcases h.nb i B l hi hl with h1 | ⟨b0,B0,l0,h1,h2,h3⟩
  ·omega
  ·exact hn b0 B0 l0 h1 h2 (h3.trans e)
 ·rcases h'.nb i B l hi hl with h1 | ⟨b0,B0,l0,h1,h2,h3⟩
  ·exact .inl (Nat.le_trans h.hs h1)
  ·rw [← h3]
   exact h.nb b0 B0 l0 h1 h2
theorem Nxt.below {s s':Sit} {σ':Store} (h:Nxt s (fun _ => none) s' σ'):Below s.w.heap.size s.w s'.w :=
 ⟨h.os,h.tape,h.output,h.hs,fun k hk => h.kb k hk (fun b B l hb => by cases hb)⟩
end Go.TV
namespace Go.TV
open Go.RowKit
variable [Known]
def evPure {α:Type} (P:Program):Sem α→Option α
 | .pure a => some a
 | .program k => evPure P (k P)
 | .mark _ k => evPure P k
 | _ => none
theorem run_of_evPure {α:Type} {P:Program}:∀ (m:Sem α) {a:α},evPure P m = some a→∀ w,m.run P w = .ok a w
 | .pure b,a,h,w => by simp only [evPure,Option.some.injEq] at h; subst h; rfl
 | .program k,a,h,w => by unfold evPure at h; exact run_of_evPure (k P) h w
 | .mark _ k,a,h,w => by unfold evPure at h; exact run_of_evPure k h w
 | .load ..,a,h,w => by simp [evPure] at h
 | .store ..,a,h,w => by simp [evPure] at h
 | .new ..,a,h,w => by simp [evPure] at h
 | .shape ..,a,h,w => by simp [evPure] at h
 | .freeze ..,a,h,w => by simp [evPure] at h
 | .frozen ..,a,h,w => by simp [evPure] at h
 | .getObj ..,a,h,w => by simp [evPure] at h
 | .setObj ..,a,h,w => by simp [evPure] at h
 | .choose ..,a,h,w => by simp [evPure] at h
 | .sys ..,a,h,w => by simp [evPure] at h
 | .halt ..,a,h,w => by simp [evPure] at h
def ofCell:Value→V
 | .slice _ n m => if n = 0∧m = 0 then .nil else .junk
 | .func fn fi ca => match fn with
  | .func f => if fi = #[]∧ca = #[] then .clo f [] else .junk
  | _ => .junk
 | v => if atom v then .sc v else .junk
def ofVal:Value→V
 | .agg cs => .agg (cs.toList.map ofCell)
 | .tuple vs => .tup (vs.toList.map ofCell)
 | v => ofCell v
def toCell:V→Option Value
 | .sc v => some v
 | _ => none
def toCells:List V→Option (List Value)
 | [] => some []
 | v :: vs => match toCell v,toCells vs with
  | some x,some xs => some (x :: xs)
  | _,_ => none
def toVal:V→Option Value
 | .sc v => some v
 | .agg vs => (toCells vs).map fun xs => .agg xs.toArray
 | _ => none
def isCell:V→Bool
 | .agg _ | .tup _ | .junk => false
 | _ => true
def cellsOfV:V→Option (List V)
 | .agg vs => some vs
 | v => if isCell v then some [v] else none
def upd {α:Type} (f:Nat→α) (i:Nat) (v:α):Nat→α:=fun j => if j = i then v else f j
theorem upd_same {α:Type} (f:Nat→α) (i:Nat) (v:α):upd f i v i = v:=by simp [upd]
theorem upd_ne {α:Type} (f:Nat→α) {i j:Nat} (v:α) (h:j ≠ i):upd f i v j = f j:=by simp [upd,h]
def cellsAt (σ:Store):V→Nat→Option (List V)
 | .tp row off,n => if off + n ≤ row.length then some ((row.drop off).take n) else none
 | .rp b off,n => match σ b with
  | some B => if off + n ≤ B.cells.length then some ((B.cells.drop off).take n) else none
  | none => none
 | _,_ => none
def rowOf (σ:Store) (size:Nat):V→Option (List V × Nat)
 | .nil => some ([],0)
 | .ts row len => if row.length = len * size then some (row,len) else none
 | .rs b off len => match σ b with
  | some B => if off + len * size ≤ B.cells.length then some ((B.cells.drop off).take (len * size),len) else none
  | none => none
 | _ => none
def isAggD:TypeDesc→Bool
 | .struct _ | .array .. => true
 | _ => false
def patch (cells:List V) (off:Nat):List V→List V
 | [v] => cells.set off v
 | vs => cells.take off ++ vs ++ cells.drop (off + vs.length)
theorem patch_eq (cells:List V) (off:Nat) (vs:List V) (h:off + vs.length ≤ cells.length):patch cells off vs = cells.take off ++ vs ++ cells.drop (off + vs.length):=by
 unfold patch
 split
 ·rename_i v
  simp only [List.length_singleton] at h ⊢
  rw [List.set_eq_take_append_cons_drop,if_pos (by omega)]
  simp
 ·rfl
abbrev Res:=Option (V × Store × Nat)
def evLoad (P:Program) (σ:Store) (t:TypeId) (a:V):Option V :=
 match P.info? t,P.underlying t with
 | some i,some d => if isAggD d then (cellsAt σ a i.size).map .agg else
  match cellsAt σ a 1 with
  | some [v] => some v
  | _ => none
 | _,_ => none
def evStore (P:Program) (σ:Store) (t:TypeId) (a v:V):Option Store :=
 match P.info? t,a,cellsOfV v with
 | some i,.rp b off,some vs => match σ b with
  | some B => if B.wr = true∧vs.length = i.size∧off + vs.length ≤ B.cells.length∧vs.all isCell = true then
    some (upd σ b (some { B with cells:=patch B.cells off vs })) else none
  | none => none
 | _,_,_ => none
def evBox (σ:Store) (nx:Nat) (cells:List V) (st:Nat):Store:=upd σ nx (some ⟨cells,st,true⟩)
def evFill (place:Nat→Option (Nat × Nat)) (cells:List V):List (Nat × V)→Option (List V)
 | [] => some cells
 | (i,v) :: rest => match place i,cellsOfV v with
  | some (off,size),some vs => if vs.length = size∧off + vs.length ≤ cells.length then evFill place (patch cells off vs) rest else none
  | _,_ => none
def places (P:Program) (t:TypeId):Option (Nat→Option (Nat × Nat)) :=
 match P.underlying t with
 | some (.struct fields) => (evPure P (fields.mapM fun f => do pure (f.offset,← sizeOf f.type))).map fun a i => a[i]?
 | some (.array _ elem) => (P.info? elem).map fun e i => some (i * e.size,e.size)
 | _ => none
def evBuild (P:Program) (t:TypeId) (parts:List (Nat × V)):Option V :=
 match P.info? t,places P t with
 | some i,some pl => match i.zero with
  | some z => (evFill pl (z.cells.toList.map ofCell) parts).map .agg
  | none => none
 | _,_ => none
def rep (n:Nat) (z:List V):List V:=(List.replicate n z).flatten
def evBuildSlice (P:Program) (t:TypeId) (len:Nat) (parts:List (Nat × V)) (σ:Store) (nx:Nat):Res :=
 match P.underlying t with
 | some (.slice elem) => match P.info? elem with
  | some i => match i.zero with
   | some z => if len = 0 then some (.nil,σ,nx) else
    if 0 < i.size∧len * i.size ≤ 1000∧z.cells.size = i.size then
     match evFill (fun j => some (j * i.size,i.size)) (rep len (z.cells.toList.map ofCell)) parts with
     | some cells => some (.rs nx 0 len,evBox σ nx cells i.size,nx + 1)
     | none => none
    else none
   | none => none
  | none => none
 | _ => none
def evMake (P:Program) (t:TypeId) (len cap:V) (σ:Store) (nx:Nat):Res :=
 match P.underlying t,len,cap with
 | some (.slice elem),.sc (.int .i64 l),.sc (.int .i64 c) => match P.info? elem with
  | some i => match i.zero with
   | some z => if 0 ≤ l∧l ≤ c∧(i.bytes:Int) * c ≤ 281474976710656∧c ≤ 9223372036854775807∧0 < i.size∧i.size < 1000000∧z.cells.size = i.size then
     some (.rs nx 0 l.toNat,evBox σ nx (rep l.toNat (z.cells.toList.map ofCell)) i.size,nx + 1) else none
   | none => none
  | none => none
 | _,_,_ => none
def bnd (x:Option V) (d:Nat):Option Nat :=
 match x with
 | none => some d
 | some (.sc (.int _ i)) => if 0 ≤ i then some i.toNat else none
 | _ => none
def evSlice (P:Program) (t:TypeId) (x:V) (lo hi mx:Option V) (σ:Store):Option V :=
 match P.underlying t with
 | some .string => match x with
  | .sc (.string s) => match bnd lo 0,bnd hi s.size,mx with
   | some l,some h,none => if l ≤ h∧h ≤ s.size then some (.sc (.string (s.extract l h))) else none
   | _,_,_ => none
  | _ => none
 | some (.slice elem) => match P.info? elem,mx with
  | some i,none => match x with
   | .nil => match bnd lo 0,bnd hi 0 with
    | some l,some h => if l ≤ h∧h ≤ 0 then some .nil else none
    | _,_ => none
   | .ts row len => match bnd lo 0,bnd hi len with
    | some l,some h => if l ≤ h∧h ≤ len then some (.ts ((row.drop (l * i.size)).take ((h - l) * i.size)) (h - l)) else none
    | _,_ => none
   | .rs b off len => match bnd lo 0,bnd hi len,σ b with
    | some l,some h,some B => if l ≤ h∧0 < i.size∧B.st = i.size∧off + h * i.size ≤ B.cells.length then
      if l = 0 then some (.rs b off h) else if l = h then some (.ts [] 0) else some (.rs b (off + l * i.size) (h - l)) else none
    | _,_,_ => none
   | _ => none
  | some _,some m => match hi with
   | none => none
   | some _ => match bnd lo 0,bnd hi 0,bnd (some m) 0 with
    | some l,some h,some m => match x with
     | .ts _ len | .rs _ _ len => if l ≤ h∧h ≤ m∧m ≤ len then some .junk else none
     | _ => none
    | _,_,_ => none
  | none,_ => none
 | _ => none
def evFieldAddr (P:Program) (t:TypeId) (x:V) (f:Nat):Option V :=
 match P.underlying t with
 | some (.struct fields) => match fields[f]? with
  | some fd => match P.info? fd.type with
   | some i => if i.size = 0 then none else
    match x with
    | .tp row off => some (.tp row (off + fd.offset))
    | .rp b off => some (.rp b (off + fd.offset))
    | _ => none
   | none => none
  | none => none
 | _ => none
def evPart (P:Program) (t:TypeId) (cs:List V) (off:Nat):Option V :=
 match P.info? t,P.underlying t with
 | some i,some d => if isAggD d then some (.agg ((cs.drop off).take i.size)) else cs[off]?
 | _,_ => none
def evField (P:Program) (t:TypeId) (x:V) (f:Nat):Option V :=
 match P.underlying t,x with
 | some (.struct fields),.agg cs => match fields[f]? with
  | some fd => evPart P fd.type cs fd.offset
  | none => none
 | _,_ => none
def evIndexAddr (P:Program) (t:TypeId) (x i:V):Option V :=
 match P.underlying t,i with
 | some (.slice elem),.sc (.int _ i) => match P.info? elem with
  | some e => match x with
   | .ts row len => if 0 ≤ i∧i < len∧row ≠ [] then some (.tp row (i.toNat * e.size)) else none
   | .rs b off len => if 0 ≤ i∧i < len then some (.rp b (off + i.toNat * e.size)) else none
   | _ => none
  | none => none
 | some (.array n elem),.sc (.int _ i) => match P.info? elem with
  | some e => if 0 ≤ i∧i < n then match x with
   | .tp row off => some (.tp row (off + i.toNat * e.size))
   | .rp b off => some (.rp b (off + i.toNat * e.size))
   | _ => none
   else none
  | none => none
 | _,_ => none
def evIndex (P:Program) (t:TypeId) (x i:V):Option V :=
 match x with
 | .sc (.string s) => match i with
  | .sc (.int _ i) => match P.underlying t with
   | some .string => match (if 0 ≤ i then s[i.toNat]? else none) with
    | some b => some (.sc (.int .u8 b.toNat))
    | none => none
   | _ => none
  | _ => none
 | .agg cs => match P.underlying t,i with
  | some (.array n elem),.sc (.int _ i) => match P.info? elem with
   | some e => if 0 ≤ i∧i < n then evPart P elem cs (i.toNat * e.size) else none
   | none => none
  | _,_ => none
 | _ => none
def isRef:V→Bool
 | .tp .. | .rp .. => true
 | _ => false
def isNilP:V→Bool
 | .sc (.pointer none) => true
 | _ => false
def evBin (P:Program) (op:BinOp) (t:TypeId) (x y:Operand) (a b:V):Option V :=
 match toVal a,toVal b with
 | some u,some v => (evPure P (do eqGuard op t x y u v; binOp op t u v)).bind fun r => if atom r then some (.sc r) else none
 | _,_ => match P.underlying t,op with
  | some (.pointer _),.eql => if isRef a && isNilP b || isRef b && isNilP a then some (.sc (.bool false)) else none
  | some (.pointer _),.neq => if isRef a && isNilP b || isRef b && isNilP a then some (.sc (.bool true)) else none
  | _,_ => none
def evUn (P:Program) (op:UnOp) (a:V):Option V :=
 match toVal a with
 | some u => (evPure P (Op.unary op u)).bind fun r => if atom r then some (.sc r) else none
 | none => none
def bytesOfRow:List V→Option (List UInt8)
 | [] => some []
 | .sc (.int .u8 n) :: vs => if 0 ≤ n∧n < 256 then (bytesOfRow vs).map (UInt8.ofNat n.toNat :: ·) else none
 | _ :: _ => none
def evConvert (P:Program) (src dst:TypeId) (a:V) (σ:Store):Option V :=
 match toVal a with
 | some u => (evPure P (convert src dst u)).bind fun r => if atom r then some (.sc r) else none
 | none => match P.underlying src,P.underlying dst with
  | some (.slice e),some .string => match P.underlying e,P.info? e with
   | some (.int .u8),some i => if i.size = 1 then
     match rowOf σ 1 a with
     | some (row,_) => (bytesOfRow row).map fun l => .sc (.string ⟨l.toArray⟩)
     | none => none
    else none
   | _,_ => none
  | _,_ => none
end Go.TV
namespace Go.TV
open Go.RowKit
variable [Known]
theorem VRs_length {s:Sit}:∀ {vs:List V} {xs:List Value},VRs s vs xs→vs.length = xs.length
 | [],xs,h => by unfold VRs at h; subst h; rfl
 | v :: vs,xs,h => by
  unfold VRs at h
  obtain ⟨y,ys,rfl,_,h2⟩:=h
  simp [VRs_length h2]
theorem VRs_get {s:Sit}:∀ {vs:List V} {xs:List Value},VRs s vs xs→∀ {i:Nat} {v:V},vs[i]? = some v→∃ x,xs[i]? = some x∧VR s v x
 | [],xs,h,i,v,hv => by simp at hv
 | w :: vs,xs,h,i,v,hv => by
  unfold VRs at h
  obtain ⟨y,ys,rfl,h1,h2⟩:=h
  cases i with
  | zero => simp at hv; subst hv; exact ⟨y,rfl,h1⟩
  | succ i => simp at hv; obtain ⟨x,hx,hr⟩:=VRs_get h2 hv; exact ⟨x,by simpa using hx,hr⟩
theorem VRs_of {s:Sit}:∀ {vs:List V} {xs:List Value},vs.length = xs.length→(∀ (i:Nat) (v:V) (x:Value),vs[i]? = some v→xs[i]? = some x→VR s v x)→VRs s vs xs
 | [],xs,hl,_ => by unfold VRs; exact List.eq_nil_of_length_eq_zero (by simpa using hl.symm)
 | v :: vs,[],hl,_ => by simp at hl
 | v :: vs,x :: xs,hl,h => by
  unfold VRs
  exact ⟨x,xs,rfl,h 0 v x rfl rfl,VRs_of (by simpa using hl) fun i u y hu hy => h (i + 1) u y (by simpa using hu) (by simpa using hy)⟩
theorem VRs_append {s:Sit} {vs us:List V} {xs ys:List Value} (h:VRs s vs xs) (h':VRs s us ys):VRs s (vs ++ us) (xs ++ ys):=by
 have hl:=VRs_length h
 have hl':=VRs_length h'
 refine VRs_of (by simp [hl,hl']) fun i v x hv hx => ?_
 rcases Nat.lt_or_ge i vs.length with hi | hi
 ·rw [List.getElem?_append_left hi] at hv
  rw [List.getElem?_append_left (by omega)] at hx
  obtain ⟨y,hy,hr⟩:=VRs_get h hv
  rw [hx] at hy; cases hy; exact hr
 ·rw [List.getElem?_append_right hi] at hv
  rw [List.getElem?_append_right (by omega),← hl] at hx
  obtain ⟨y,hy,hr⟩:=VRs_get h' hv
  rw [hx] at hy; cases hy; exact hr
theorem VRs_take {s:Sit} {vs:List V} {xs:List Value} (h:VRs s vs xs) (n:Nat):VRs s (vs.take n) (xs.take n):=by
 have hl:=VRs_length h
 refine VRs_of (by simp [hl]) fun i v x hv hx => ?_
 rw [List.getElem?_take] at hv hx
 split at hv
 ·rename_i hi
  rw [if_pos hi] at hx
  obtain ⟨y,hy,hr⟩:=VRs_get h hv
  rw [hx] at hy; cases hy; exact hr
 ·cases hv
theorem VRs_drop {s:Sit} {vs:List V} {xs:List Value} (h:VRs s vs xs) (n:Nat):VRs s (vs.drop n) (xs.drop n):=by
 have hl:=VRs_length h
 refine VRs_of (by simp [hl]) fun i v x hv hx => ?_
 rw [List.getElem?_drop] at hv hx
 obtain ⟨y,hy,hr⟩:=VRs_get h hv
 rw [hx] at hy; cases hy; exact hr
theorem VRow_get {s:Sit}:∀ {row:List V} {k o:Nat},VRow s row k o→∀ {i:Nat} {v:V},row[i]? = some v→s.Z k (o + i)∧∃ x,s.w.cell? ⟨k,o + i,none⟩ = some x∧VR s v x
 | [],k,o,h,i,v,hv => by simp at hv
 | w :: vs,k,o,h,i,v,hv => by
  unfold VRow at h
  obtain ⟨hz,⟨c,hc,h1⟩,h2⟩:=h
  cases i with
  | zero => simp at hv; subst hv; exact ⟨hz,c,hc,h1⟩
  | succ i =>
   simp at hv
   have:=VRow_get h2 hv
   rwa [show o + 1 + i = o + (i + 1) by omega] at this
theorem VRow_of {s:Sit}:∀ {row:List V} {k o:Nat},(∀ (i:Nat) (v:V),row[i]? = some v→s.Z k (o + i)∧∃ x,s.w.cell? ⟨k,o + i,none⟩ = some x∧VR s v x)→VRow s row k o
 | [],k,o,_ => by unfold VRow; trivial
 | v :: vs,k,o,h => by
  unfold VRow
  obtain ⟨hz,hc⟩:=h 0 v rfl
  refine ⟨hz,hc,VRow_of fun i u hu => ?_⟩
  have:=h (i + 1) u (by simpa using hu)
  rwa [show o + 1 + i = o + (i + 1) by omega]
theorem VRow_drop {s:Sit} {row:List V} {k o:Nat} (h:VRow s row k o) (n:Nat):VRow s (row.drop n) k (o + n) :=
 VRow_of fun i v hv => by
  rw [List.getElem?_drop] at hv
  have:=VRow_get h hv
  rwa [show o + n + i = o + (n + i) by omega]
theorem VRow_take {s:Sit} {row:List V} {k o:Nat} (h:VRow s row k o) (n:Nat):VRow s (row.take n) k o :=
 VRow_of fun i v hv => by
  rw [List.getElem?_take] at hv
  split at hv
  ·exact VRow_get h hv
  ·cases hv
def Reads (s:Sit) (vs:List V) (k o:Nat):Prop:=∃ cs:List Value,VRs s vs cs∧∀ (j:Nat) (u:Value),cs[j]? = some u→s.w.cell? ⟨k,o + j,none⟩ = some u
theorem Reads.of {s:Sit} {vs:List V} {k o:Nat} (h:∀ (i:Nat) (v:V),vs[i]? = some v→∃ x,s.w.cell? ⟨k,o + i,none⟩ = some x∧VR s v x):Reads s vs k o:=by
 refine ⟨(List.range vs.length).map fun i => (s.w.cell? ⟨k,o + i,none⟩).getD undef,VRs_of (by simp) fun i v x hv hx => ?_,fun j u hu => ?_⟩
 ·have hi:i < vs.length:=(List.getElem?_eq_some_iff.1 hv).1
  obtain ⟨y,hy,hr⟩:=h i v hv
  simp [hi,hy] at hx
  subst hx; exact hr
 ·have hj:j < vs.length:=by have:=(List.getElem?_eq_some_iff.1 hu).1; simpa using this
  obtain ⟨y,hy,_⟩:=h j vs[j] (by simp [hj])
  simp [hj,hy] at hu
  rw [hy,hu]
theorem Reads.tree {s:Sit} {vs:List V} {k o:Nat} (h:VRow s vs k o):Reads s vs k o:=.of fun _ _ hv => (VRow_get h hv).2
theorem cell_at {w:World} {k o:Nat} {c:Array Value} {e:TypeId} {fr:Nat × Nat} (h:w.heap[k]? = some (.cells c e fr)):w.cell? ⟨k,o,none⟩ = c[o]?:=by
 simp [World.cell?,h]
theorem Inv.reads {s:Sit} {σ:Store} (h:Inv s σ) {b:Nat} {B:Blk} (hb:σ b = some B) {l:Loc} (hl:s.β b = some l):Reads s B.cells l.k l.o:=by
 obtain ⟨l',c,e,h1,h2,_,_,_,h6,_⟩:=h.blk b B hb
 rw [hl] at h1; cases h1
 exact .of fun i v hv => by
  obtain ⟨x,hx,hr⟩:=h6 i v hv
  exact ⟨x,by rw [cell_at h2]; exact hx,hr⟩
theorem Reads.drop {s:Sit} {vs:List V} {k o:Nat} (h:Reads s vs k o) (n:Nat):Reads s (vs.drop n) k (o + n):=by
 obtain ⟨cs,h1,h2⟩:=h
 exact ⟨cs.drop n,VRs_drop h1 n,fun j u hu => by rw [List.getElem?_drop] at hu; rw [Nat.add_assoc]; exact h2 _ _ hu⟩
theorem Reads.take {s:Sit} {vs:List V} {k o:Nat} (h:Reads s vs k o) (n:Nat):Reads s (vs.take n) k o:=by
 obtain ⟨cs,h1,h2⟩:=h
 exact ⟨cs.take n,VRs_take h1 n,fun j u hu => by rw [List.getElem?_take] at hu; split at hu; exact h2 _ _ hu; cases hu⟩
theorem cellsAt_sound {s:Sit} {σ:Store} (hi:Inv s σ) {a:V} {x:Value} (hx:VR s a x) {n:Nat} {vs:List V} (h:cellsAt σ a n = some vs) :
  ∃ k o,x = .pointer (some ⟨k,o,none⟩)∧vs.length = n∧Reads s vs k o:=by
 unfold cellsAt at h
 split at h
 ·rename_i row off
  split at h
  ·rename_i hle
   simp only [Option.some.injEq] at h; subst h
   unfold VR at hx
   obtain ⟨k,o,rfl,hr⟩:=hx
   exact ⟨k,o + off,rfl,by simp; omega,((Reads.tree (VRow_mono (.of_nb s) _ _ _ hr)).drop off).take n⟩
  ·cases h
 ·rename_i b off
  split at h
  ·rename_i B hb
   split at h
   ·simp only [Option.some.injEq] at h; subst h
    unfold VR at hx
    obtain ⟨l,hl,rfl⟩:=hx
    exact ⟨l.k,l.o + off,rfl,by simp; omega,((hi.reads hb hl).drop off).take n⟩
   ·cases h
  ·cases h
 ·cases h
theorem rowOf_sound {s:Sit} {σ:Store} (hi:Inv s σ) {a:V} {x:Value} (hx:VR s a x) {size:Nat} {row:List V} {len:Nat} (h:rowOf σ size a = some (row,len)) :
  ∃ ao cap,x = .slice ao len cap∧len ≤ cap∧row.length = len * size∧(row = []∨∃ k o,ao = some ⟨k,o,none⟩∧Reads s row k o):=by
 unfold rowOf at h
 split at h
 ·simp only [Option.some.injEq,Prod.mk.injEq] at h; obtain ⟨rfl,rfl⟩:=h
  unfold VR at hx
  obtain ⟨a,rfl⟩:=hx
  exact ⟨a,0,rfl,Nat.le_refl _,by simp,.inl rfl⟩
 ·split at h
  ·rename_i hl
   simp only [Option.some.injEq,Prod.mk.injEq] at h; obtain ⟨rfl,rfl⟩:=h
   unfold VR at hx
   obtain ⟨ao,cap,rfl,hc,hr⟩:=hx
   exact ⟨ao,cap,rfl,hc,hl,hr.imp id fun ⟨k,o,e,hr⟩ => ⟨k,o,e,.tree (VRow_mono (.of_nb s) _ _ _ hr)⟩⟩
  ·cases h
 ·rename_i b off len'
  split at h
  ·rename_i B hb
   split at h
   ·simp only [Option.some.injEq,Prod.mk.injEq] at h; obtain ⟨rfl,rfl⟩:=h
    unfold VR at hx
    obtain ⟨l,cap,hl,rfl,hc,_⟩:=hx
    exact ⟨_,cap,rfl,hc,by simp; omega,.inr ⟨l.k,l.o + off,rfl,((hi.reads hb hl).drop off).take _⟩⟩
   ·cases h
  ·cases h
 ·cases h
theorem Inv.grow {s:Sit} {σ:Store} (h:Inv s σ) {w':World} (hb:Below s.w.heap.size s.w w'):Le s { s with w:=w' }∧Inv { s with w:=w' } σ∧Nxt s σ { s with w:=w' } σ:=by
 have hle:Le s { s with w:=w' }:=⟨fun _ _ z => z,fun k o z => hb.cell (p:=⟨k,o,none⟩) (h.zb k o z),fun _ _ e => e⟩
 refine ⟨hle,⟨fun b B hB => ?_,h.dis,fun k o z => Nat.lt_of_lt_of_le (h.zb k o z) hb.size,h.kn.mono hle⟩,⟨hle,fun k o z => .inl z,fun k hk _ => hb.block k hk,fun b B l h1 h2 => .inr ⟨b,B,l,h1,h2,rfl⟩,hb.size,hb.os,hb.tape,hb.output⟩⟩
 obtain ⟨l,c,e,h1,h2,h3,h4,h5,h6,h7⟩:=h.blk b B hB
 have hk:l.k < s.w.heap.size:=(Array.getElem?_eq_some_iff.1 h2).1
 exact ⟨l,c,e,h1,(hb.block _ hk).trans h2,h3,h4,h5,fun i v hv => let ⟨x,hx,hr⟩:=h6 i v hv; ⟨x,hx,VR_mono hle v x hr⟩,h7⟩
theorem Inv.add {s:Sit} {σ:Store} (h:Inv s σ) {nx:Nat} (hn:s.β nx = none) {k o cap st:Nat} {c:Array Value} {e:TypeId} {cells:List V} {wr:Bool} (hk:s.w.heap[k]? = some (.cells c e (0,0)))
  (hfree:∀ b B l,σ b = some B→s.β b = some l→l.k ≠ k) (hz:∀ o',s.Z k o'→wr = false∧o' < o + cells.length) (hbt:1000000 ≤ st→e + 1000000 = st∧o = 0) (hcap:o + cap ≤ c.size) (hlen:cells.length ≤ cap)
  (hc:∀ (i:Nat) (v:V),cells[i]? = some v→∃ x,c[o + i]? = some x∧VR s v x) :
  Le s { s with β:=upd s.β nx (some ⟨k,o,cap,st⟩) }∧Inv { s with β:=upd s.β nx (some ⟨k,o,cap,st⟩) } (upd σ nx (some ⟨cells,st,wr⟩)):=by
 have hle:Le s { s with β:=upd s.β nx (some ⟨k,o,cap,st⟩) }:=⟨fun _ _ z => z,fun _ _ _ => rfl,fun b l hb => by
  show upd s.β nx _ b = _
  rw [upd_ne _ _ (fun e => by rw [e,hn] at hb; cases hb)]; exact hb⟩
 refine ⟨hle,⟨fun b B hB => ?_,fun b b' B B' l l' hb hb' hl hl' hkk => ?_,h.zb,h.kn.mono hle⟩⟩
 ·by_cases hbn:b = nx
  ·subst hbn
   rw [upd_same] at hB; cases hB
   exact ⟨⟨k,o,cap,st⟩,c,e,upd_same _ _ _,hk,hcap,hlen,rfl,fun i v hv => let ⟨x,hx,hr⟩:=hc i v hv; ⟨x,hx,VR_mono hle v x hr⟩,hz,hbt⟩
  ·rw [upd_ne _ _ hbn] at hB
   obtain ⟨l,c,e,h1,h2,h3,h4,h5,h6,h7⟩:=h.blk b B hB
   exact ⟨l,c,e,hle.bb _ _ h1,h2,h3,h4,h5,fun i v hv => let ⟨x,hx,hr⟩:=h6 i v hv; ⟨x,hx,VR_mono hle v x hr⟩,h7⟩
 ·by_cases hbn:b = nx <;> by_cases hbn':b' = nx
  ·rw [hbn,hbn']
  ·subst hbn
   rw [upd_ne _ _ hbn'] at hb'
   have hl2:s.β b' = some l':=by simpa only [upd_ne _ _ hbn'] using hl'
   have:l = ⟨k,o,cap,st⟩:=by simpa only [upd_same,Option.some.injEq,eq_comm] using hl
   subst this
   exact absurd hkk.symm (hfree b' B' l' hb' hl2)
  ·subst hbn'
   rw [upd_ne _ _ hbn] at hb
   have hl2:s.β b = some l:=by simpa only [upd_ne _ _ hbn] using hl
   have:l' = ⟨k,o,cap,st⟩:=by simpa only [upd_same,Option.some.injEq,eq_comm] using hl'
   subst this
   exact absurd hkk (hfree b B l hb hl2)
  ·rw [upd_ne _ _ hbn] at hb
   rw [upd_ne _ _ hbn'] at hb'
   exact h.dis b b' B B' l l' hb hb' (by simpa only [upd_ne _ _ hbn] using hl) (by simpa only [upd_ne _ _ hbn'] using hl') hkk
def Fresh (s:Sit) (nx nx':Nat):Prop:=∀ i,nx ≤ i→i < nx'→s.β i = none
def Dom (s s':Sit) (nx nx':Nat):Prop:=∀ i,s'.β i ≠ none→s.β i ≠ none∨(nx ≤ i∧i < nx')
theorem Dom.refl (s:Sit) (nx nx':Nat):Dom s s nx nx':=fun _ h => .inl h
structure Out (s:Sit) (σ:Store) (nx:Nat) (s':Sit) (v:V) (x:Value) (σ':Store) (nx':Nat):Prop where
 vr:VR s' v x
 inv:Inv s' σ'
 nxt:Nxt s σ s' σ'
 dom:Dom s s' nx nx'
theorem Out.same {s:Sit} {σ:Store} {nx nx':Nat} {v:V} {x:Value} (hi:Inv s σ) (h:VR s v x):Out s σ nx s v x σ nx':=⟨h,hi,.refl s σ,.refl s nx nx'⟩
theorem alloc_out {s:Sit} {σ:Store} (hi:Inv s σ) {nx:Nat} (hn:Fresh s nx (nx + 1)) {w1:World} (hb1:Below s.w.heap.size s.w w1) (hsz:w1.heap.size = s.w.heap.size) (cells:List V) (st cap:Nat) (e:TypeId) (c:Array Value)
  (hcap:cap = c.size) (hbt:1000000 ≤ st→e + 1000000 = st) (hlen:cells.length ≤ cap) (hc:∀ (i:Nat) (v:V),cells[i]? = some v→∃ x,c[i]? = some x∧VR s v x) :
  ∃ s':Sit,s'.w = w1.alloc (.cells c e)∧s'.β nx = some ⟨s.w.heap.size,0,cap,st⟩∧Inv s' (evBox σ nx cells st)∧Nxt s σ s' (evBox σ nx cells st)∧Dom s s' nx (nx + 1):=by
 have hb:Below s.w.heap.size s.w (w1.alloc (.cells c e)):=hb1.alloc (by omega) _
 obtain ⟨hle,hinv,hnxt⟩:=hi.grow hb
 have hnn:s.β nx = none:=hn nx (Nat.le_refl _) (by omega)
 have hfree:∀ b B l,σ b = some B→s.β b = some l→l.k ≠ s.w.heap.size:=fun b B l h1 h2 => by
  obtain ⟨l',c,e,h3,h4,_⟩:=hi.blk b B h1
  rw [h2] at h3; cases h3
  have:=(Array.getElem?_eq_some_iff.1 h4).1
  omega
 obtain ⟨hle2,hinv2⟩:=hinv.add (nx:=nx) hnn (k:=s.w.heap.size) (o:=0) (cap:=cap) (st:=st) (c:=c) (e:=e) (cells:=cells) (wr:=true)
  (by show (w1.alloc _).heap[_]? = _; rw [← hsz]; exact heap_alloc_new w1 _) hfree (fun o' z => absurd (hi.zb _ _ z) (by omega)) (fun h => ⟨hbt h,rfl⟩) (by omega) hlen
  (fun i v hv => by rw [Nat.zero_add]; obtain ⟨x,hx,hr⟩:=hc i v hv; exact ⟨x,hx,VR_mono hle v x hr⟩)
 refine ⟨_,rfl,upd_same _ _ _,hinv2,⟨hle.trans hle2,fun k o z => .inl z,hnxt.kb,fun b B l h1 h2 => ?_,hb.size,hb.os,hb.tape,hb.output⟩,fun i h => ?_⟩
 ·by_cases hbn:b = nx
  ·subst hbn
   have:l = ⟨s.w.heap.size,0,cap,st⟩:=by simpa only [upd_same,Option.some.injEq,eq_comm] using h2
   subst this
   exact .inl (Nat.le_refl _)
  ·unfold evBox at h1
   rw [upd_ne _ _ hbn] at h1
   exact .inr ⟨b,B,l,h1,by simpa only [upd_ne _ _ hbn] using h2,rfl⟩
 ·by_cases hbn:i = nx
  ·subst hbn; exact .inr ⟨Nat.le_refl _,by omega⟩
  ·exact .inl (by simpa only [upd_ne _ _ hbn] using h)
end Go.TV
namespace Go.TV
open Go.RowKit
set_option linter.unusedVariables false
variable [Known]
theorem VR_sc {s:Sit} {u:Value} (h:atom u = true):VR s (.sc u) u:=by unfold VR; exact ⟨rfl,h⟩
theorem VR_ofCell (s:Sit) (v:Value):VR s (ofCell v) v:=by
 unfold ofCell
 split
 ·split
  ·rename_i a n m h; obtain ⟨rfl,rfl⟩:=h; unfold VR; exact ⟨_,rfl⟩
  ·unfold VR; trivial
 ·split
  ·split
   ·rename_i h; obtain ⟨rfl,rfl⟩:=h; unfold VR; exact ⟨#[],rfl,by unfold VRs; rfl⟩
   ·unfold VR; trivial
  ·unfold VR; trivial
 ·split
  ·rename_i h; exact VR_sc h
  ·unfold VR; trivial
theorem VRs_map {s:Sit} (vs:List Value):VRs s (vs.map ofCell) vs :=
 VRs_of (by simp) fun i v x hv hx => by
  simp only [List.getElem?_map,hx,Option.map_some,Option.some.injEq] at hv
  subst hv; exact VR_ofCell s x
theorem VR_ofVal (s:Sit) (v:Value):VR s (ofVal v) v:=by
 unfold ofVal
 split
 ·rename_i cs; unfold VR; exact ⟨_,rfl,VRs_map _⟩
 ·rename_i cs; unfold VR; exact ⟨_,rfl,VRs_map _⟩
 ·exact VR_ofCell s _
theorem toCells_sound {s:Sit}:∀ {vs:List V} {us xs:List Value},toCells vs = some us→VRs s vs xs→xs = us
 | [],us,xs,h,hx => by simp only [toCells,Option.some.injEq] at h; unfold VRs at hx; rw [hx,h]
 | v :: vs,us,xs,h,hx => by
  unfold VRs at hx
  obtain ⟨y,ys,rfl,h1,h2⟩:=hx
  unfold toCells at h
  split at h
  ·rename_i u us' e1 e2
   simp only [Option.some.injEq] at h; subst h
   rw [toCells_sound e2 h2]
   unfold toCell at e1
   split at e1
   ·simp only [Option.some.injEq] at e1; subst e1
    unfold VR at h1; rw [h1.1]
   ·cases e1
  ·cases h
theorem toVal_sound {s:Sit} {v:V} {u x:Value} (h:toVal v = some u) (hx:VR s v x):x = u:=by
 unfold toVal at h
 split at h
 ·simp only [Option.some.injEq] at h; subst h; unfold VR at hx; exact hx.1
 ·rename_i vs
  unfold VR at hx
  obtain ⟨xs,rfl,hr⟩:=hx
  cases hc:toCells vs with
  | none => rw [hc] at h; cases h
  | some us =>
   rw [hc] at h
   simp only [Option.map_some,Option.some.injEq] at h
   rw [← h,← toCells_sound hc hr]
 ·cases h
theorem oneCell_of {s:Sit} {v:V} {x:Value} (hx:VR s v x) (h:isCell v = true):x.oneCell' = true:=by
 cases v <;> simp only [isCell,Bool.false_eq_true] at h <;> unfold VR at hx
 ·obtain ⟨rfl,ha⟩:=hx; cases x <;> simp_all [atom,Value.oneCell']
 ·obtain ⟨a,rfl⟩:=hx; rfl
 ·obtain ⟨a,rfl,_⟩:=hx; rfl
 ·obtain ⟨a,b,rfl,_⟩:=hx; rfl
 ·obtain ⟨a,b,rfl,_⟩:=hx; rfl
 ·obtain ⟨a,b,rfl,_⟩:=hx; rfl
 ·obtain ⟨a,c,b,rfl,_⟩:=hx; rfl
theorem cellsOfV_sound {s:Sit} {v:V} {x:Value} {vs:List V} (h:cellsOfV v = some vs) (hx:VR s v x):VRs s vs x.cells.toList:=by
 unfold cellsOfV at h
 split at h
 ·simp only [Option.some.injEq] at h; subst h
  unfold VR at hx
  obtain ⟨xs,rfl,hr⟩:=hx
  exact hr
 ·split at h
  ·rename_i hc
   simp only [Option.some.injEq] at h; subst h
   have h1:=oneCell_of hx hc
   have:x.cells = #[x]:=by cases x <;> simp_all [Value.cells,Value.oneCell']
   rw [this]
   unfold VRs
   exact ⟨x,[],rfl,hx,by unfold VRs; rfl⟩
  ·cases h
theorem oneCells_of {s:Sit} {vs:List V} {xs:List Value} (h:VRs s vs xs) (hc:vs.all isCell = true):∀ u ∈ xs,u.oneCell' = true:=fun u hu => by
 obtain ⟨i,hi⟩:=List.mem_iff_getElem?.1 hu
 have hl:i < vs.length:=by rw [VRs_length h]; exact (List.getElem?_eq_some_iff.1 hi).1
 obtain ⟨x,hx,hr⟩:=VRs_get h (i:=i) (v:=vs[i]) (by simp [hl])
 rw [hi] at hx; cases hx
 exact oneCell_of hr (List.all_eq_true.1 hc _ (List.getElem_mem hl))
section
variable {P:Program}
theorem run_isAgg {t:TypeId} {d:TypeDesc} (h:P.underlying t = some d) (w:World):(isAgg t).run P w = .ok (isAggD d) w:=by
 cases d <;> simp [isAgg,run_underlying h,isAggD]
theorem run_sizeOf {t:TypeId} {i:TypeInfo} (h:P.info? t = some i) (w:World):(sizeOf t).run P w = .ok i.size w:=by
 simp [sizeOf,typeInfo,h]
theorem load_sound {s:Sit} {σ:Store} (hi:Inv s σ) {a:V} {x:Value} (hx:VR s a x) {t:TypeId} {v:V} (h:evLoad P σ t a = some v) :
  ∃ y,(Instr.loadAt t x).run P s.w = .ok y s.w∧VR s v y:=by
 unfold evLoad at h
 split at h
 ·rename_i i d hinf hund
  split at h
  ·rename_i hag
   cases hc:cellsAt σ a i.size with
   | none => rw [hc] at h; cases h
   | some vs =>
    rw [hc] at h
    simp only [Option.map_some,Option.some.injEq] at h; subst h
    obtain ⟨k,o,rfl,hl,cs,hr,hcs⟩:=cellsAt_sound hi hx hc
    have hll:cs.length = i.size:=by rw [← hl,VRs_length hr]
    refine ⟨.agg cs.toArray,?_,by unfold VR; exact ⟨_,rfl,hr⟩⟩
    have hlo:=run_loadCells_list (P:=P) s.w ⟨k,o,none⟩ cs (fun j v hv => by rw [Addr.add_lit]; exact hcs j v hv)
    rw [hll] at hlo
    simp [Instr.loadAt,Instr.sureAddr,loadVar,run_isAgg hund,hag,run_sizeOf hinf,hlo]
  ·rename_i hag
   split at h
   ·rename_i u hc
    simp only [Option.some.injEq] at h; subst h
    obtain ⟨k,o,rfl,hl,cs,hr,hcs⟩:=cellsAt_sound hi hx hc
    unfold VRs at hr
    obtain ⟨y,ys,rfl,hr,_⟩:=hr
    refine ⟨y,?_,hr⟩
    have hc0:=hcs 0 y rfl
    rw [Nat.add_zero] at hc0
    simp [Instr.loadAt,Instr.sureAddr,loadVar,run_isAgg hund,hag,run_load,hc0]
   ·cases h
 ·cases h
theorem setRow_heap_ne (w:World) (g:Nat) (cs:Array Value) {k:Nat} (h:k ≠ g):(w.setRow g cs).heap[k]? = w.heap[k]?:=setRow_other w g k cs h
theorem getElem?_patch {α:Type} {l vs:List α} {off i:Nat} (h:off + vs.length ≤ l.length) :
  (l.take off ++ vs ++ l.drop (off + vs.length))[i]? = if off ≤ i∧i < off + vs.length then vs[i - off]? else l[i]?:=by
 rw [List.append_assoc]
 by_cases h1:i < off
 ·rw [if_neg (by omega),List.getElem?_append_left (by simp; omega),List.getElem?_take,if_pos h1]
 ·rw [List.getElem?_append_right (by simp; omega)]
  have:(l.take off).length = off:=by simp; omega
  rw [this]
  by_cases h2:i < off + vs.length
  ·rw [if_pos ⟨by omega,h2⟩,List.getElem?_append_left (by omega)]
  ·rw [if_neg (by omega),List.getElem?_append_right (by omega),List.getElem?_drop]
   congr 1; omega
theorem write_out {s:Sit} {σ:Store} (hi:Inv s σ) {b:Nat} {B:Blk} (hb:σ b = some B) (hw:B.wr = true) {l:Loc} (hl:s.β b = some l) {c:Array Value} {e:TypeId} (hk:s.w.heap[l.k]? = some (.cells c e (0,0)))
  {off:Nat} {vs:List V} {xs:List Value} (hr:VRs s vs xs) (hfit:off + vs.length ≤ B.cells.length) :
  let w':=s.w.setRow l.k (c.toList.take (l.o + off) ++ xs ++ c.toList.drop (l.o + off + xs.length)).toArray
  Inv { s with w:=w' } (upd σ b (some { B with cells:=B.cells.take off ++ vs ++ B.cells.drop (off + vs.length) })) ∧
  Nxt s σ { s with w:=w' } (upd σ b (some { B with cells:=B.cells.take off ++ vs ++ B.cells.drop (off + vs.length) })):=by
 intro w'
 have hlen:=VRs_length hr
 obtain ⟨l',c',e',h1,h2,h3,h4,h5,h6,h7⟩:=hi.blk b B hb
 rw [hl] at h1; cases h1
 rw [hk] at h2; cases h2
 have hnz:∀ o,¬ s.Z l.k o:=fun o z => by rw [(h7.1 o z).1] at hw; cases hw
 have hcell:∀ k o,s.Z k o→w'.cell? ⟨k,o,none⟩ = s.w.cell? ⟨k,o,none⟩:=fun k o z =>
  World.cell?_of_block (setRow_heap_ne s.w l.k _ (fun e => hnz o (by rw [← e]; exact z)))
 have hle:Le s { s with w:=w' }:=⟨fun _ _ z => z,hcell,fun _ _ e => e⟩
 have hsz:w'.heap.size = s.w.heap.size:=by simp [w',World.setRow]
 have hcl:c.toList.length = c.size:=Array.length_toList
 have hxl:l.o + off + xs.length ≤ c.toList.length:=by omega
 refine ⟨⟨fun b' B' hB' => ?_,fun b1 b2 B1 B2 l1 l2 hb1 hb2 hl1 hl2 hkk => ?_,fun k o z => by show k < w'.heap.size; rw [hsz]; exact hi.zb k o z,hi.kn.mono hle⟩,⟨hle,fun k o z => .inl z,fun k hkl hn => ?_,fun b' B' l' hB' hl' => ?_,by show _ ≤ w'.heap.size; omega,rfl,rfl,rfl⟩⟩
 ·by_cases hbb:b' = b
  ·subst hbb
   rw [upd_same] at hB'
   simp only [Option.some.injEq] at hB'; subst hB'
   refine ⟨l,_,e,hl,setRow_heap s.w l.k c _ e (0,0) hk,?_,?_,h5,fun i v hv => ?_,fun o z => absurd z (hnz o),h7.2⟩
   ·rw [List.size_toArray]; simp only [List.length_append,List.length_take,List.length_drop]; omega
   ·simp only [List.length_append,List.length_take,List.length_drop]; omega
   ·rw [getElem?_patch hfit] at hv
    rw [List.getElem?_toArray,getElem?_patch hxl]
    split at hv
    ·rename_i hio
     rw [if_pos (by omega)]
     obtain ⟨x,hx,hrx⟩:=VRs_get hr hv
     exact ⟨x,by rw [show l.o + i - (l.o + off) = i - off by omega]; exact hx,VR_mono hle v x hrx⟩
    ·rename_i hio
     rw [if_neg (by omega)]
     obtain ⟨x,hx,hrx⟩:=h6 i v hv
     exact ⟨x,by rw [Array.getElem?_toList]; exact hx,VR_mono hle v x hrx⟩
  ·rw [upd_ne _ _ hbb] at hB'
   obtain ⟨l1,c1,e1,g1,g2,g3,g4,g5,g6,g7⟩:=hi.blk b' B' hB'
   have hne:l1.k ≠ l.k:=fun e => hbb (hi.dis b' b B' B l1 l hB' hb g1 hl e)
   exact ⟨l1,c1,e1,g1,(setRow_heap_ne s.w l.k _ hne).trans g2,g3,g4,g5,fun i v hv => let ⟨x,hx,hr⟩:=g6 i v hv; ⟨x,hx,VR_mono hle v x hr⟩,g7⟩
 ·have q:∀ {i:Nat} {A:Blk},upd σ b (some { B with cells:=B.cells.take off ++ vs ++ B.cells.drop (off + vs.length) }) i = some A→∃ A',σ i = some A':=fun {i A} h => by
   by_cases hib:i = b
   ·exact ⟨B,by rw [hib]; exact hb⟩
   ·exact ⟨A,by rw [upd_ne _ _ hib] at h; exact h⟩
  obtain ⟨A1,hA1⟩:=q hb1
  obtain ⟨A2,hA2⟩:=q hb2
  exact hi.dis b1 b2 A1 A2 l1 l2 hA1 hA2 hl1 hl2 hkk
 ·exact setRow_heap_ne s.w l.k _ (fun e => hn b B l hb hl e.symm)
 ·by_cases hbb:b' = b
  ·subst hbb; exact .inr ⟨b',B,l',hb,hl',rfl⟩
  ·rw [upd_ne _ _ hbb] at hB'; exact .inr ⟨b',B',l',hB',hl',rfl⟩
theorem store_sound {s:Sit} {σ σ':Store} (hi:Inv s σ) {a v:V} {x y:Value} (hx:VR s a x) (hy:VR s v y) {t:TypeId} (h:evStore P σ t a v = some σ') :
  ∃ w',(Instr.storeAt t x y).run P s.w = .ok () w'∧Inv { s with w:=w' } σ'∧Nxt s σ { s with w:=w' } σ':=by
 unfold evStore at h
 split at h
 ·rename_i i b off vs hinf hcv
  split at h
  ·rename_i B hb
   split at h
   ·rename_i hc
    obtain ⟨hw,hsz,hfit,hall⟩:=hc
    simp only [Option.some.injEq] at h; subst h
    rw [patch_eq _ _ _ hfit]
    unfold VR at hx
    obtain ⟨l,hl,rfl⟩:=hx
    have hrs:=cellsOfV_sound hcv hy
    have hone:=oneCells_of hrs hall
    obtain ⟨l',c,e,h1,h2,h3,h4,h5,h6,h7⟩:=hi.blk b B hb
    rw [hl] at h1; cases h1
    have hlen:=VRs_length hrs
    have hst:=run_storeCells_at P l.k (l.o + off) e y.cells.toList 0 c s.w h2 (by omega) hone
    rw [Nat.add_zero] at hst
    have hycs:y.cells.size = i.size:=by rw [← hsz,hlen,Array.length_toList]
    refine ⟨_,?_,write_out hi hb hw hl h2 hrs hfit⟩
    simp [Instr.storeAt,Instr.sureAddr,storeVar,run_sizeOf hinf,hycs,hst]
   ·cases h
  ·cases h
 ·cases h
end
end Go.TV
namespace Go.TV
open Go.RowKit
set_option linter.unusedVariables false
variable [Known]
theorem foldl_set {α:Type}:∀ (vs:List α) (j off:Nat) (cs:Array α),off + j + vs.length ≤ cs.size →
  ((vs.zipIdx j).foldl (fun (cs:Array α) (p:α × Nat) => cs.setIfInBounds (off + p.2) p.1) cs).toList = cs.toList.take (off + j) ++ vs ++ cs.toList.drop (off + j + vs.length)
 | [],j,off,cs,_ => by simp
 | v :: vs,j,off,cs,h => by
  simp only [List.length_cons] at h
  rw [List.zipIdx_cons,List.foldl_cons,foldl_set vs (j + 1) off _ (by simp; omega)]
  simp only [Array.toList_setIfInBounds,List.length_cons]
  apply List.ext_getElem?
  intro i
  have e1:(List.take (off + (j + 1)) (cs.toList.set (off + j) v)).length = off + (j + 1):=by simp; omega
  have e2:(List.take (off + j) cs.toList).length = off + j:=by simp; omega
  by_cases h1:i < off + j
  ·rw [List.append_assoc,List.append_assoc,List.getElem?_append_left (by omega),List.getElem?_append_left (by omega),List.getElem?_take,List.getElem?_take,if_pos (by omega),if_pos h1,List.getElem?_set_ne (by omega)]
  ·by_cases h2:i = off + j
   ·subst h2
    rw [List.append_assoc,List.append_assoc,List.getElem?_append_left (by omega),List.getElem?_append_right (by omega),List.getElem?_take,if_pos (by omega),List.getElem?_set_self (by simp; omega),e2]
    simp
   ·rw [List.append_assoc,List.append_assoc,List.getElem?_append_right (l₁:=(cs.toList.set (off + j) v).take (off + (j + 1))) (by omega),List.getElem?_append_right (l₁:=cs.toList.take (off + j)) (by omega),e1,e2]
    rw [show i - (off + j) = (i - (off + (j + 1))) + 1 by omega,List.cons_append,List.getElem?_cons_succ]
    by_cases h3:i - (off + (j + 1)) < vs.length
    ·rw [List.getElem?_append_left h3,List.getElem?_append_left h3]
    ·rw [List.getElem?_append_right (l₁:=vs) (by omega),List.getElem?_append_right (l₁:=vs) (by omega),List.getElem?_drop,List.getElem?_drop,List.getElem?_set_ne (by omega)]
     congr 1; omega
theorem fill_sound {s:Sit} {place:Nat→Option (Nat × Nat)}:∀ {parts:List (Nat × V)} {ps:List (Nat × Value)} {cells out:List V} {cs:Array Value},
  evFill place cells parts = some out→parts.map (·.1) = ps.map (·.1)→(∀ (i:Nat) (p:Nat × V) (q:Nat × Value),parts[i]? = some p→ps[i]? = some q→VR s p.2 q.2)→VRs s cells cs.toList →
  ∃ cs',Instr.fill place cs ps = some cs'∧VRs s out cs'.toList
 | [],ps,cells,out,cs,h,hm,_,hr => by
  have:ps = []:=by simpa using hm.symm
  subst this
  simp only [evFill,Option.some.injEq] at h; subst h
  exact ⟨cs,rfl,hr⟩
 | (i,v) :: rest,[],cells,out,cs,h,hm,_,hr => by simp at hm
 | (i,v) :: rest,(i',y) :: ps,cells,out,cs,h,hm,hp,hr => by
  simp only [List.map_cons,List.cons.injEq] at hm
  obtain ⟨rfl,hm⟩:=hm
  unfold evFill at h
  split at h
  ·rename_i off size vs hpl hcv
   split at h
   ·rename_i hc
    obtain ⟨hsz,hfit⟩:=hc
    rw [patch_eq _ _ _ hfit] at h
    have hv:=hp 0 (i,v) (i,y) rfl rfl
    have hvs:=cellsOfV_sound hcv hv
    have hl:=VRs_length hvs
    have hlc:=VRs_length hr
    simp only [Array.length_toList] at hl hlc
    have hcs:y.cells.size = size:=by omega
    have hstep:=foldl_set y.cells.toList 0 off cs (by simp; omega)
    simp only [Nat.add_zero,Array.length_toList] at hstep
    obtain ⟨cs',h1,h2⟩:=fill_sound (cs:=y.cells.zipIdx.foldl (fun cs (p:Value × Nat) => cs.setIfInBounds (off + p.2) p.1) cs) h hm (fun j p q h1 h2 => hp (j + 1) p q (by simpa using h1) (by simpa using h2)) (by
     have e:(y.cells.zipIdx.foldl (fun cs (p:Value × Nat) => cs.setIfInBounds (off + p.2) p.1) cs) = ((y.cells.toList.zipIdx 0).foldl (fun (cs:Array Value) (p:Value × Nat) => cs.setIfInBounds (off + p.2) p.1) cs):=by
      rw [← Array.foldl_toList,Array.toList_zipIdx]
     rw [e,hstep,hl]
     exact VRs_append (VRs_append (VRs_take hr _) hvs) (VRs_drop hr _))
    refine ⟨cs',?_,h2⟩
    unfold Instr.fill
    simp only [hpl]
    rw [if_neg (by simp; omega)]
    exact h1
   ·cases h
  ·cases h
end Go.TV
namespace Go.TV
open Go.RowKit
set_option linter.unusedVariables false
variable [Known]
section
variable {P:Program}
theorem zeroOf {t:TypeId} {i:TypeInfo} {z:Value} (h:P.info? t = some i) (hz:i.zero = some z) (w:World):(zeroValue t).run P w = .ok z w:=by
 simp [zeroValue,typeInfo,h,hz]
def isP:V→Bool
 | .sc (.pointer none) => true
 | _ => false
def isN:V→Bool
 | .nil => true
 | _ => false
def isB:List V→Bool
 | [v,w] => isP v && isN w
 | _ => false
def boxSt (t:TypeId) (cells:List V):Nat:=if isB cells = true then t + 1000000 else 0
theorem boxSt_ok (t:TypeId) (cells:List V):1000000 ≤ boxSt t cells→t + 1000000 = boxSt t cells:=by
 unfold boxSt
 split
 ·intro _; rfl
 ·intro h; omega
theorem box_sound {s:Sit} {σ:Store} (hi:Inv s σ) {nx:Nat} (hn:Fresh s nx (nx + 1)) {t:TypeId} {x:Value} {cells:List V} {st:Nat} (hst:1000000 ≤ st→t + 1000000 = st) (hr:VRs s cells x.cells.toList) :
  ∃ s' y,(Instr.box t x).run P s.w = .ok y s'.w∧Out s σ nx s' (.rp nx 0) y (evBox σ nx cells st) (nx + 1):=by
 have hl:=VRs_length hr
 obtain ⟨s',h1,h2,h3,h4,h5⟩:=alloc_out hi hn (w1:=s.w) (Below.refl _ _) rfl cells st x.cells.size t x.cells rfl hst (by rw [hl,Array.length_toList]; exact Nat.le_refl _)
  (fun i v hv => by obtain ⟨y,hy,hr⟩:=VRs_get hr hv; exact ⟨y,by simpa using hy,hr⟩)
 refine ⟨s',.pointer (some ⟨s.w.heap.size,0,none⟩),?_,⟨?_,h3,h4,h5⟩⟩
 ·rw [h1]; simp [Instr.box,newVar,newRow]
 ·unfold VR; exact ⟨_,h2,rfl⟩
theorem alloc_sound {s:Sit} {σ:Store} (hi:Inv s σ) {nx:Nat} (hn:Fresh s nx (nx + 1)) {t:TypeId} {i:TypeInfo} {z:Value} (hinf:P.info? t = some i) (hz:i.zero = some z) :
  ∃ s' y,(Instr.alloc t true (.tuple #[])).run P s.w = .ok y s'.w∧Out s σ nx s' (.rp nx 0) y (evBox σ nx (z.cells.toList.map ofCell) (boxSt t (z.cells.toList.map ofCell))) (nx + 1):=by
 obtain ⟨s',y,h1,h2⟩:=box_sound (P:=P) hi hn (t:=t) (x:=z) (boxSt_ok t _) (VRs_map _)
 refine ⟨s',y,?_,h2⟩
 rw [← h1]
 simp [Instr.alloc,Instr.box,zeroOf hinf hz]
theorem build_sound {s:Sit} {t:TypeId} {parts:List (Nat × V)} {ps:Array (Nat × Value)} {v:V} (h:evBuild P t parts = some v) (hm:parts.map (·.1) = ps.toList.map (·.1))
  (hp:∀ (i:Nat) (p:Nat × V) (q:Nat × Value),parts[i]? = some p→ps.toList[i]? = some q→VR s p.2 q.2) :
  ∃ y,(Instr.build t ps).run P s.w = .ok y s.w∧VR s v y:=by
 unfold evBuild at h
 split at h
 ·rename_i i pl hinf hpl
  split at h
  ·rename_i z hz
   cases hf:evFill pl (z.cells.toList.map ofCell) parts with
   | none => rw [hf] at h; cases h
   | some out =>
    rw [hf] at h
    simp only [Option.map_some,Option.some.injEq] at h; subst h
    obtain ⟨cs',h1,h2⟩:=fill_sound (cs:=z.cells) hf hm hp (VRs_map _)
    refine ⟨.agg cs',?_,by unfold VR; exact ⟨_,rfl,h2⟩⟩
    unfold places at hpl
    split at hpl
    ·rename_i fields hund
     cases he:evPure P (fields.mapM fun f => do pure (f.offset,← sizeOf f.type)) with
     | none => rw [he] at hpl; cases hpl
     | some a =>
      rw [he] at hpl
      simp only [Option.map_some,Option.some.injEq] at hpl; subst hpl
      have hrun:=run_of_evPure _ he s.w
      unfold Instr.build
      simp only [Sem.run_bind,zeroOf hinf hz,Result.andThen_ok,run_underlying hund,hrun]
      simp only [h1]
      rfl
    ·rename_i n elem hund
     cases he:P.info? elem with
     | none => rw [he] at hpl; cases hpl
     | some e =>
      rw [he] at hpl
      simp only [Option.map_some,Option.some.injEq] at hpl; subst hpl
      unfold Instr.build
      simp only [Sem.run_bind,zeroOf hinf hz,Result.andThen_ok,run_underlying hund,run_sizeOf he]
      simp only [h1]
      rfl
    ·cases hpl
  ·cases h
 ·cases h
theorem length_patch (cells:List V) (off:Nat) (vs:List V) (h:off + vs.length ≤ cells.length):(patch cells off vs).length = cells.length:=by
 rw [patch_eq _ _ _ h]
 simp only [List.length_append,List.length_take,List.length_drop]
 omega
theorem evFill_length {place:Nat→Option (Nat × Nat)}:∀ {parts:List (Nat × V)} {cells out:List V},evFill place cells parts = some out→out.length = cells.length
 | [],cells,out,h => by simp only [evFill,Option.some.injEq] at h; rw [h]
 | (i,v) :: rest,cells,out,h => by
  unfold evFill at h
  split at h
  ·split at h
   ·rename_i hc
    rw [evFill_length h,length_patch _ _ _ hc.2]
   ·cases h
  ·cases h
theorem getElem?_rep (z:List V):∀ (n i:Nat),(rep n z)[i]? = if i < n * z.length then z[i % z.length]? else none:=by
 intro n
 induction n with
 | zero => intro i; simp [rep]
 | succ n ih =>
  intro i
  have e:rep (n + 1) z = z ++ rep n z:=by simp [rep,List.replicate_succ]
  have e2:(n + 1) * z.length = z.length + n * z.length:=by rw [Nat.add_mul]; omega
  rw [e,e2]
  by_cases hi:i < z.length
  ·rw [List.getElem?_append_left hi,if_pos (by omega),Nat.mod_eq_of_lt hi]
  ·rw [List.getElem?_append_right (by omega),ih]
   by_cases h:i - z.length < n * z.length
   ·rw [if_pos h,if_pos (by omega),← Nat.mod_eq_sub_mod (by omega)]
   ·rw [if_neg h,if_neg (by omega)]
theorem length_rep (z:List V) (n:Nat):(rep n z).length = n * z.length:=by simp [rep]
theorem VRs_rep {s:Sit} {z:Array Value} {size n:Nat} (hz:z.size = size) (hs:0 < size) :
  VRs s (rep n (z.toList.map ofCell)) ((Array.range (n * size)).map (z[· % z.size]!)).toList:=by
 refine VRs_of (by simp [length_rep,hz]) fun i v x hv hx => ?_
 rw [getElem?_rep] at hv
 simp only [List.length_map,Array.length_toList,hz] at hv
 split at hv
 ·rename_i hi
  have hlt:i % size < z.size:=by rw [hz]; exact Nat.mod_lt _ hs
  simp [hi,hz] at hx
  simp [hlt] at hv
  subst hx; subst hv
  rw [getElem!_pos z (i % size) hlt]
  exact VR_ofCell s _
 ·cases hv
theorem buildSlice_sound {s:Sit} {σ:Store} (hi:Inv s σ) {nx nx':Nat} {σ':Store} {t:TypeId} {len:Nat} {parts:List (Nat × V)} {ps:Array (Nat × Value)} {v:V} (h:evBuildSlice P t len parts σ nx = some (v,σ',nx'))
  (hn:Fresh s nx nx') (hm:parts.map (·.1) = ps.toList.map (·.1)) (hp:∀ (i:Nat) (p:Nat × V) (q:Nat × Value),parts[i]? = some p→ps.toList[i]? = some q→VR s p.2 q.2) (hlen0:len = 0→ps = #[]) :
  ∃ s' y,(Instr.buildSlice t len ps).run P s.w = .ok y s'.w∧Out s σ nx s' v y σ' nx':=by
 unfold evBuildSlice at h
 split at h
 ·rename_i elem hund
  split at h
  ·rename_i i hinf
   split at h
   ·rename_i z hz
    split at h
    ·rename_i hl0
     simp only [Option.some.injEq,Prod.mk.injEq] at h
     obtain ⟨rfl,rfl,rfl⟩:=h
     have:=hlen0 hl0
     subst this; subst hl0
     obtain ⟨hle,hinv,hnxt⟩:=hi.grow ((Below.refl _ s.w).alloc (Nat.le_refl _) (.cells #[] elem))
     refine ⟨{ s with w:=s.w.alloc (.cells #[] elem) },.slice (some ⟨s.w.heap.size,0,none⟩) 0 0,?_,⟨by unfold VR; exact ⟨_,rfl⟩,hinv,hnxt,fun i h => .inl h⟩⟩
     unfold Instr.buildSlice
     simp [run_underlying hund,run_sizeOf hinf,Instr.fill,newRow,Array.range_zero']
    ·rename_i hl0
     split at h
     ·rename_i hc
      obtain ⟨hs0,h1000,hzs⟩:=hc
      split at h
      ·rename_i out hf
       simp only [Option.some.injEq,Prod.mk.injEq] at h
       obtain ⟨rfl,rfl,rfl⟩:=h
       obtain ⟨cs',h1,h2⟩:=fill_sound (cs:=(Array.range (len * i.size)).map (z.cells[· % z.cells.size]!)) hf hm hp (VRs_rep hzs hs0)
       have hl:=VRs_length h2
       have hsz:cs'.size = len * i.size:=by
        have h0:=evFill_length hf
        have e1:z.cells.toList.length = i.size:=by rw [← hzs]; exact Array.length_toList
        have e2:cs'.toList.length = cs'.size:=Array.length_toList
        rw [length_rep,List.length_map,e1] at h0
        omega
       obtain ⟨s',g1,g2,g3,g4,g5⟩:=alloc_out hi hn (w1:=s.w) (Below.refl _ _) rfl out i.size cs'.size elem cs' rfl (by intro h; exfalso; have:=Nat.le_mul_of_pos_left i.size (Nat.pos_of_ne_zero ‹¬len = 0›); omega) (by rw [hl,Array.length_toList]; exact Nat.le_refl _)
        (fun i v hv => by obtain ⟨y,hy,hr⟩:=VRs_get h2 hv; exact ⟨y,by simpa using hy,hr⟩)
       have hne:¬ (len * i.size = 0):=by
        intro e
        rcases Nat.mul_eq_zero.1 e with e | e <;> omega
       refine ⟨s',.slice (some ⟨s.w.heap.size,0,none⟩) len len,?_,⟨?_,g3,g4,g5⟩⟩
       ·rw [g1]
        unfold Instr.buildSlice
        simp only [Sem.run_bind,run_underlying hund,Result.andThen_ok,run_sizeOf hinf]
        rw [if_neg (by omega)]
        simp only [Sem.run_bind,Result.andThen_ok,hne,if_false,zeroOf hinf hz,Sem.run_pure,h1,newRow]
        simp
       ·unfold VR; exact ⟨_,_,g2,rfl,Nat.le_refl _,by rw [hsz]; simp⟩
      ·cases h
     ·cases h
   ·cases h
  ·cases h
 ·cases h
end
end Go.TV
namespace Go.TV
open Go.RowKit
set_option linter.unusedVariables false
variable [Known]
section
variable {P:Program}
theorem make_sound {s:Sit} {σ:Store} (hi:Inv s σ) {nx nx':Nat} {σ':Store} {t:TypeId} {l c v:V} {xl xc:Value} (h:evMake P t l c σ nx = some (v,σ',nx')) (hn:Fresh s nx nx') (hxl:VR s l xl) (hxc:VR s c xc) :
  ∃ s' y,(Instr.makeSlice t xl xc).run P s.w = .ok y s'.w∧Out s σ nx s' v y σ' nx':=by
 unfold evMake at h
 split at h
 ·rename_i elem l c hund
  split at h
  ·rename_i i hinf
   split at h
   ·rename_i z hz
    split at h
    ·rename_i hc
     obtain ⟨h0,hlc,hby,h63,hs0,hsm,hzs⟩:=hc
     simp only [Option.some.injEq,Prod.mk.injEq] at h
     obtain ⟨rfl,rfl,rfl⟩:=h
     unfold VR at hxl hxc
     obtain ⟨rfl,_⟩:=hxl
     obtain ⟨rfl,_⟩:=hxc
     have hrun:=run_make (P:=P) s.w t elem i z hund hinf hz .i64 .i64 l c h0 hlc hby h63
     have hrep:=VRs_rep (s:=s) (n:=c.toNat) hzs hs0
     have hle:l.toNat ≤ c.toNat:=by omega
     have e1:z.cells.toList.length = i.size:=by rw [← hzs]; exact Array.length_toList
     obtain ⟨s',g1,g2,g3,g4,g5⟩:=alloc_out hi hn (w1:=s.w) (Below.refl _ _) rfl (rep l.toNat (z.cells.toList.map ofCell)) i.size (c.toNat * i.size) elem (madeCells z.cells (c.toNat * i.size))
      (size_madeCells _ _).symm (by intro h; omega) (by rw [length_rep,List.length_map,e1]; exact Nat.mul_le_mul_right _ hle) (fun j v hv => by
       have:(rep c.toNat (z.cells.toList.map ofCell))[j]? = some v:=by
        rw [getElem?_rep] at hv ⊢
        split at hv
        ·rename_i hj
         rw [if_pos (Nat.lt_of_lt_of_le hj (Nat.mul_le_mul_right _ hle))]; exact hv
        ·cases hv
       obtain ⟨y,hy,hr⟩:=VRs_get hrep this
       exact ⟨y,by rw [← hy,Array.getElem?_toList]; rfl,hr⟩)
     refine ⟨s',_,by rw [g1]; exact hrun,⟨?_,g3,g4,g5⟩⟩
     unfold VR; exact ⟨_,_,g2,rfl,hle,by simp⟩
    ·cases h
   ·cases h
  ·cases h
 ·cases h
theorem bnd_sound {s:Sit} {o:Option V} {ox:Option Value} {d n:Nat} (h:bnd o d = some n) (ho:∀ v,o = some v→∃ x,ox = some x∧VR s v x) (hn:o = none→ox = none) :
  (ox = none∧n = d)∨∃ k i,ox = some (.int k i)∧0 ≤ i∧i.toNat = n:=by
 unfold bnd at h
 split at h
 ·simp only [Option.some.injEq] at h; exact .inl ⟨hn rfl,h.symm⟩
 ·rename_i k i
  split at h
  ·rename_i h0
   simp only [Option.some.injEq] at h
   obtain ⟨x,hx,hr⟩:=ho _ rfl
   unfold VR at hr
   exact .inr ⟨k,i,by rw [hx,hr.1],h0,h⟩
  ·cases h
 ·cases h
theorem run_bounds2 (isSlice:Bool) (len cap:Nat) {lo hi:Option Value} {l h:Nat} (hlo:(lo = none∧l = 0)∨∃ k i,lo = some (.int k i)∧0 ≤ i∧i.toNat = l)
  (hhi:(hi = none∧h = len)∨∃ k i,hi = some (.int k i)∧0 ≤ i∧i.toNat = h) (h1:l ≤ h) (h2:h ≤ cap) (w:World) :
  (Instr.sliceBounds isSlice len cap lo hi none).run P w = .ok (l,h,cap) w:=by
 rcases hhi with ⟨rfl,rfl⟩ | ⟨k,i,rfl,hi0,rfl⟩
 ·rcases hlo with ⟨rfl,rfl⟩ | ⟨k',i',rfl,hi0',rfl⟩
  ·simp [Instr.sliceBounds]
  ·have:0 ≤ i'∧i' ≤ (h:Int):=⟨hi0',by omega⟩
   simp [Instr.sliceBounds,Instr.sliceBound,asIntOf,this]
 ·have hh:0 ≤ i∧i ≤ (cap:Int):=⟨hi0,by omega⟩
  rcases hlo with ⟨rfl,rfl⟩ | ⟨k',i',rfl,hi0',rfl⟩
  ·simp [Instr.sliceBounds,Instr.sliceBound,asIntOf,hh]
  ·have h3:0 ≤ i'∧i' ≤ i:=⟨hi0',by omega⟩
   have h4:i' ≤ max i 0:=by omega
   simp [Instr.sliceBounds,Instr.sliceBound,asIntOf,hh,h3,h4]
theorem run_bounds3 (len cap:Nat) {lo hi mx:Option Value} {l h m:Nat} (hlo:(lo = none∧l = 0)∨∃ k i,lo = some (.int k i)∧0 ≤ i∧i.toNat = l)
  (hhi:∃ k i,hi = some (.int k i)∧0 ≤ i∧i.toNat = h) (hmx:∃ k i,mx = some (.int k i)∧0 ≤ i∧i.toNat = m) (h1:l ≤ h) (h2:h ≤ m) (h3:m ≤ cap) (w:World) :
  (Instr.sliceBounds true len cap lo hi mx).run P w = .ok (l,h,m) w:=by
 obtain ⟨k,i,rfl,hi0,rfl⟩:=hhi
 obtain ⟨k2,j,rfl,hj0,rfl⟩:=hmx
 have hh:0 ≤ j∧j ≤ (cap:Int):=⟨hj0,by omega⟩
 have hh2:0 ≤ i∧i ≤ max j 0:=⟨hi0,by omega⟩
 have hh4:i ≤ j:=by omega
 rcases hlo with ⟨rfl,rfl⟩ | ⟨k',i',rfl,hi0',rfl⟩
 ·simp [Instr.sliceBounds,Instr.sliceBound,asIntOf,hh,hh2,hh4]
 ·have h5:0 ≤ i'∧i' ≤ i:=⟨hi0',by omega⟩
  have h6:i' ≤ max i 0:=by omega
  simp [Instr.sliceBounds,Instr.sliceBound,asIntOf,hh,hh2,hh4,h5,h6]
theorem VR_ts_nil {s:Sit} {a:Option Addr} {cap:Nat}:VR s (.ts [] 0) (.slice a 0 cap):=by
 unfold VR; exact ⟨a,cap,rfl,Nat.zero_le _,.inl rfl⟩
theorem bnd_some {v:V} {d n:Nat} (h:bnd (some v) d = some n):∃ k i,v = .sc (.int k i)∧0 ≤ i∧i.toNat = n:=by
 unfold bnd at h
 split at h
 ·rename_i e; cases e
 ·rename_i k i e
  cases e
  split at h
  ·rename_i h0; simp only [Option.some.injEq] at h; exact ⟨k,i,rfl,h0,h⟩
  ·cases h
 ·cases h
theorem slice_sound {s:Sit} {σ:Store} (hi:Inv s σ) {t:TypeId} {x:V} {lo hi' mx:Option V} {v:V} {y:Value} {ylo yhi ymx:Option Value} (h:evSlice P t x lo hi' mx σ = some v) (hx:VR s x y)
  (hlo:∀ v,lo = some v→∃ x,ylo = some x∧VR s v x) (hlon:lo = none→ylo = none) (hhi:∀ v,hi' = some v→∃ x,yhi = some x∧VR s v x) (hhin:hi' = none→yhi = none)
  (hmx:∀ v,mx = some v→∃ x,ymx = some x∧VR s v x) (hmxn:mx = none→ymx = none) :
  ∃ z,(Instr.sliceAt t y ylo yhi ymx).run P s.w = .ok z s.w∧VR s v z:=by
 unfold evSlice at h
 split at h
 ·rename_i hund
  split at h
  ·rename_i str
   unfold VR at hx
   obtain ⟨rfl,_⟩:=hx
   split at h
   ·rename_i l hh e1 e2
    have b1:=bnd_sound e1 hlo hlon
    have b2:=bnd_sound e2 hhi hhin
    have:=hmxn rfl; subst this
    split at h
    ·rename_i hc
     simp only [Option.some.injEq] at h; subst h
     refine ⟨.string (str.extract l hh),?_,VR_sc rfl⟩
     simp [Instr.sliceAt,run_underlying hund,Instr.slice,run_bounds2 (P:=P) false str.size str.size b1 b2 hc.1 hc.2]
    ·cases h
   ·cases h
  ·cases h
 ·rename_i elem hund
  split at h
  ·rename_i i hinf
   have:=hmxn rfl; subst this
   split at h
   ·-- nil
    unfold VR at hx
    obtain ⟨a,rfl⟩:=hx
    split at h
    ·rename_i l hh e1 e2
     split at h
     ·rename_i hc
      simp only [Option.some.injEq] at h; subst h
      have b1:=bnd_sound e1 hlo hlon
      have b2:=bnd_sound e2 hhi hhin
      have hb:=run_bounds2 (P:=P) true 0 0 b1 b2 hc.1 hc.2 s.w
      obtain ⟨rfl,rfl⟩:l = 0∧hh = 0:=by omega
      refine ⟨.slice a 0 0,?_,by unfold VR; exact ⟨a,rfl⟩⟩
      simp [Instr.sliceAt,run_underlying hund,Instr.slice,hb,run_sizeOf hinf]
     ·cases h
    ·cases h
   ·-- ts
    rename_i row len
    unfold VR at hx
    obtain ⟨a,cap,rfl,hcap,hr⟩:=hx
    split at h
    ·rename_i l hh e1 e2
     have b1:=bnd_sound e1 hlo hlon
     have b2:=bnd_sound e2 hhi hhin
     split at h
     ·rename_i hc
      simp only [Option.some.injEq] at h; subst h
      have hb:=run_bounds2 (P:=P) true len cap b1 b2 hc.1 (by omega) s.w
      refine ⟨.slice (if cap = l then a else a.map (·.add (l * i.size))) (hh - l) (cap - l),?_,?_⟩
      ·simp [Instr.sliceAt,run_underlying hund,Instr.slice,hb,run_sizeOf hinf]
      ·unfold VR
       refine ⟨_,_,rfl,by omega,?_⟩
       rcases hr with rfl | ⟨k,o,rfl,hr⟩
       ·exact .inl (by simp)
       ·by_cases he:hh = l
        ·subst he; exact .inl (by simp)
        ·refine .inr ⟨k,o + l * i.size,?_,VRow_take (VRow_drop hr _) _⟩
         rw [if_neg (by omega)]
         simp [Addr.add_lit]
     ·cases h
    ·cases h
   ·-- rs
    rename_i b off len
    unfold VR at hx
    obtain ⟨l0,cap,hl0,rfl,hcap,hend⟩:=hx
    split at h
    ·rename_i l hh B e1 e2 hb
     have b1:=bnd_sound e1 hlo hlon
     have b2:=bnd_sound e2 hhi hhin
     split at h
     ·rename_i hc
      obtain ⟨hlh,hs0,hst,hfit⟩:=hc
      obtain ⟨l1,c,e,h1,h2,h3,h4,h5,_⟩:=hi.blk b B hb
      rw [hl0] at h1; cases h1
      have hcap2:hh ≤ cap:=by
       have:hh * i.size ≤ cap * i.size:=by rw [← hst,← h5] at hfit ⊢; omega
       exact Nat.le_of_mul_le_mul_right this hs0
      have hbd:=run_bounds2 (P:=P) true len cap b1 b2 hlh hcap2 s.w
      refine ⟨.slice (if cap = l then some ⟨l0.k,l0.o + off,none⟩ else some ⟨l0.k,l0.o + off + l * i.size,none⟩) (hh - l) (cap - l),?_,?_⟩
      ·simp only [Instr.sliceAt,Sem.run_bind,run_underlying hund,Result.andThen_ok,Instr.slice,hbd,run_sizeOf hinf,Sem.run_pure,Option.map_some,Addr.add_lit]
      ·split at h
       ·rename_i hl
        simp only [Option.some.injEq] at h; subst h; subst hl
        unfold VR
        refine ⟨l0,cap,hl0,?_,hcap2,hend⟩
        simp
       ·split at h
        ·rename_i hl hlh2
         simp only [Option.some.injEq] at h; subst h; subst hlh2
         rw [Nat.sub_self]
         exact VR_ts_nil
        ·rename_i hl hlh2
         simp only [Option.some.injEq] at h; subst h
         unfold VR
         refine ⟨l0,cap - l,hl0,?_,by omega,?_⟩
         ·rw [if_neg (by omega),Nat.add_assoc]
         ·rw [h5,hst,Nat.sub_mul]
          rw [h5,hst] at hend
          have:l * i.size ≤ cap * i.size:=Nat.mul_le_mul_right _ (by omega)
          omega
     ·cases h
    ·cases h
   ·cases h
  ·rename_i i m hinf
   split at h
   ·cases h
   ·rename_i hv
    split at h
    ·rename_i l hh m' e1 e2 e3
     obtain ⟨x3,hx3,hr3⟩:=hmx _ rfl
     obtain ⟨k3,i3,hm3,h30,h31⟩:=bnd_some e3
     rw [hm3] at hr3; unfold VR at hr3; obtain ⟨rfl,_⟩:=hr3
     obtain ⟨x2,hx2,hr2⟩:=hhi _ rfl
     obtain ⟨k2,i2,hm2,h20,h21⟩:=bnd_some e2
     rw [hm2] at hr2; unfold VR at hr2; obtain ⟨rfl,_⟩:=hr2
     have b1:=bnd_sound e1 hlo hlon
     split at h
     ·rename_i row len
      unfold VR at hx
      obtain ⟨a,cap,rfl,hcap,hr⟩:=hx
      split at h
      ·rename_i hc
       simp only [Option.some.injEq] at h; subst h
       have hb:=run_bounds3 (P:=P) len cap b1 ⟨k2,i2,hx2,h20,h21⟩ ⟨k3,i3,hx3,h30,h31⟩ hc.1 hc.2.1 (by omega) s.w
       exact ⟨_,by simp only [Instr.sliceAt,Sem.run_bind,run_underlying hund,Result.andThen_ok,Instr.slice,hb,run_sizeOf hinf,Sem.run_pure]; rfl,by unfold VR; trivial⟩
      ·cases h
     ·rename_i b off len
      unfold VR at hx
      obtain ⟨l0,cap,hl0,rfl,hcap,hend⟩:=hx
      split at h
      ·rename_i hc
       simp only [Option.some.injEq] at h; subst h
       have hb:=run_bounds3 (P:=P) len cap b1 ⟨k2,i2,hx2,h20,h21⟩ ⟨k3,i3,hx3,h30,h31⟩ hc.1 hc.2.1 (by omega) s.w
       exact ⟨_,by simp only [Instr.sliceAt,Sem.run_bind,run_underlying hund,Result.andThen_ok,Instr.slice,hb,run_sizeOf hinf,Sem.run_pure]; rfl,by unfold VR; trivial⟩
      ·cases h
     ·cases h
    ·cases h
  ·cases h
 ·cases h
end
end Go.TV
namespace Go.TV
open Go.RowKit
set_option linter.unusedVariables false
set_option linter.unusedSimpArgs false
variable [Known]
section
variable {P:Program}
theorem fieldAddr_sound {s:Sit} {t:TypeId} {x v:V} {y:Value} {f:Nat} (h:evFieldAddr P t x f = some v) (hx:VR s x y) :
  ∃ z,(Instr.fieldAt t y f).run P s.w = .ok z s.w∧VR s v z:=by
 unfold evFieldAddr at h
 split at h
 ·rename_i fields hund
  split at h
  ·rename_i fd hfd
   split at h
   ·rename_i i hinf
    split at h
    ·cases h
    ·rename_i hs
     have hp:∀ a:Addr,(fieldPlace a fd).run P s.w = .ok (a.add fd.offset) s.w:=fun a => by simp [fieldPlace,run_sizeOf hinf,hs]
     split at h
     ·rename_i row off
      simp only [Option.some.injEq] at h; subst h
      unfold VR at hx
      obtain ⟨k,o,rfl,hr⟩:=hx
      refine ⟨.pointer (some ⟨k,o + off + fd.offset,none⟩),?_,by unfold VR; exact ⟨k,o,by rw [Nat.add_assoc],hr⟩⟩
      simp [Instr.fieldAt,run_underlying hund,hfd,Instr.sureAddr,hp,Addr.add_lit]
     ·rename_i b off
      simp only [Option.some.injEq] at h; subst h
      unfold VR at hx
      obtain ⟨l,hl,rfl⟩:=hx
      refine ⟨.pointer (some ⟨l.k,l.o + off + fd.offset,none⟩),?_,by unfold VR; exact ⟨l,hl,by rw [Nat.add_assoc]⟩⟩
      simp [Instr.fieldAt,run_underlying hund,hfd,Instr.sureAddr,hp,Addr.add_lit]
     ·cases h
   ·cases h
  ·cases h
 ·cases h
theorem part_sound {s:Sit} {t:TypeId} {cs:List V} {xs:Array Value} {off:Nat} {v:V} (h:evPart P t cs off = some v) (hr:VRs s cs xs.toList) :
  ∃ z,(part t xs off).run P s.w = .ok z s.w∧VR s v z:=by
 unfold evPart at h
 split at h
 ·rename_i i d hinf hund
  split at h
  ·rename_i hag
   simp only [Option.some.injEq] at h; subst h
   refine ⟨.agg (xs.extract off (off + i.size)),?_,?_⟩
   ·simp [part,run_isAgg hund,hag,run_sizeOf hinf]
   ·unfold VR
    refine ⟨_,rfl,?_⟩
    have:(xs.extract off (off + i.size)).toList = (xs.toList.drop off).take i.size:=by
     rw [Array.toList_extract,List.extract_eq_take_drop,Nat.add_sub_cancel_left]
    rw [this]
    exact VRs_take (VRs_drop hr _) _
  ·rename_i hag
   obtain ⟨x,hx,hrx⟩:=VRs_get hr h
   rw [Array.getElem?_toList] at hx
   exact ⟨x,by simp [part,run_isAgg hund,hag,hx],hrx⟩
 ·cases h
theorem field_sound {s:Sit} {t:TypeId} {x v:V} {y:Value} {f:Nat} (h:evField P t x f = some v) (hx:VR s x y) :
  ∃ z,(Instr.field t y f).run P s.w = .ok z s.w∧VR s v z:=by
 unfold evField at h
 split at h
 ·rename_i fields cs hund
  split at h
  ·rename_i fd hfd
   unfold VR at hx
   obtain ⟨xs,rfl,hr⟩:=hx
   obtain ⟨z,hz,hrz⟩:=part_sound h hr
   exact ⟨z,by simp [Instr.field,run_underlying hund,hfd,asAgg,hz],hrz⟩
  ·cases h
 ·cases h
theorem indexAddr_sound {s:Sit} {t:TypeId} {x i v:V} {y yi:Value} (h:evIndexAddr P t x i = some v) (hx:VR s x y) (hi:VR s i yi) :
  ∃ z,(Instr.indexAt t y yi).run P s.w = .ok z s.w∧VR s v z:=by
 unfold evIndexAddr at h
 split at h
 ·rename_i elem k i hund
  unfold VR at hi
  obtain ⟨rfl,_⟩:=hi
  split at h
  ·rename_i e hinf
   split at h
   ·rename_i row len
    split at h
    ·rename_i hc
     simp only [Option.some.injEq] at h; subst h
     unfold VR at hx
     obtain ⟨a,cap,rfl,hcap,hr⟩:=hx
     rcases hr with hr | ⟨k',o,rfl,hr⟩
     ·exact absurd hr hc.2.2
     ·refine ⟨.pointer (some ⟨k',o + i.toNat * e.size,none⟩),?_,by unfold VR; exact ⟨k',o,rfl,hr⟩⟩
      simp [Instr.indexAt,asIntOf,run_underlying hund,hc.1,hc.2.1,run_sizeOf hinf,Addr.add_lit]
    ·cases h
   ·rename_i b off len
    split at h
    ·rename_i hc
     simp only [Option.some.injEq] at h; subst h
     unfold VR at hx
     obtain ⟨l,cap,hl,rfl,hcap,hend⟩:=hx
     refine ⟨.pointer (some ⟨l.k,l.o + off + i.toNat * e.size,none⟩),?_,by unfold VR; exact ⟨l,hl,by rw [Nat.add_assoc]⟩⟩
     simp [Instr.indexAt,asIntOf,run_underlying hund,hc.1,hc.2,run_sizeOf hinf,Addr.add_lit]
    ·cases h
   ·cases h
  ·cases h
 ·rename_i n elem k i hund
  unfold VR at hi
  obtain ⟨rfl,_⟩:=hi
  split at h
  ·rename_i e hinf
   split at h
   ·rename_i hc
    split at h
    ·rename_i row off
     simp only [Option.some.injEq] at h; subst h
     unfold VR at hx
     obtain ⟨k',o,rfl,hr⟩:=hx
     refine ⟨.pointer (some ⟨k',o + off + i.toNat * e.size,none⟩),?_,by unfold VR; exact ⟨k',o,by rw [Nat.add_assoc],hr⟩⟩
     simp [Instr.indexAt,asIntOf,run_underlying hund,hc.1,hc.2,run_sizeOf hinf,Addr.add_lit,Instr.sureAddr]
    ·rename_i b off
     simp only [Option.some.injEq] at h; subst h
     unfold VR at hx
     obtain ⟨l,hl,rfl⟩:=hx
     refine ⟨.pointer (some ⟨l.k,l.o + off + i.toNat * e.size,none⟩),?_,by unfold VR; exact ⟨l,hl,by rw [Nat.add_assoc]⟩⟩
     simp [Instr.indexAt,asIntOf,run_underlying hund,hc.1,hc.2,run_sizeOf hinf,Addr.add_lit,Instr.sureAddr]
    ·cases h
   ·cases h
  ·cases h
 ·cases h
theorem index_sound {s:Sit} {t:TypeId} {x i v:V} {y yi:Value} (h:evIndex P t x i = some v) (hx:VR s x y) (hi:VR s i yi) :
  ∃ z,(Instr.index t y yi).run P s.w = .ok z s.w∧VR s v z:=by
 unfold evIndex at h
 split at h
 ·rename_i str
  unfold VR at hx
  obtain ⟨rfl,_⟩:=hx
  split at h
  ·rename_i k i
   unfold VR at hi
   obtain ⟨rfl,_⟩:=hi
   split at h
   ·rename_i hund
    split at h
    ·rename_i b hb
     simp only [Option.some.injEq] at h; subst h
     refine ⟨.int .u8 b.toNat,?_,VR_sc rfl⟩
     simp only [Instr.index,Sem.run_bind,asIntOf,Sem.run_pure,Result.andThen_ok,run_underlying hund]
     rw [hb]
     simp
    ·cases h
   ·cases h
  ·cases h
 ·rename_i cs
  unfold VR at hx
  obtain ⟨xs,rfl,hr⟩:=hx
  split at h
  ·rename_i n elem k i hund
   unfold VR at hi
   obtain ⟨rfl,_⟩:=hi
   split at h
   ·rename_i e hinf
    split at h
    ·rename_i hc
     obtain ⟨z,hz,hrz⟩:=part_sound h hr
     exact ⟨z,by simp [Instr.index,asIntOf,run_underlying hund,hc.1,hc.2,run_sizeOf hinf,hz],hrz⟩
    ·cases h
   ·cases h
  ·cases h
 ·cases h
theorem isRef_sound {s:Sit} {a:V} {x:Value} (h:isRef a = true) (hx:VR s a x):∃ p,x = .pointer (some p):=by
 cases a <;> simp only [isRef,Bool.false_eq_true] at h <;> unfold VR at hx
 ·obtain ⟨k,o,rfl,_⟩:=hx; exact ⟨_,rfl⟩
 ·obtain ⟨l,_,rfl⟩:=hx; exact ⟨_,rfl⟩
theorem isNilP_sound {s:Sit} {a:V} {x:Value} (h:isNilP a = true) (hx:VR s a x):x = .pointer none:=by
 unfold isNilP at h
 split at h
 ·unfold VR at hx; exact hx.1
 ·cases h
theorem run_equal_some_nil {t el:TypeId} (h:P.underlying t = some (.pointer el)) (p:Addr) (w:World):(Op.equal t (.pointer (some p)) (.pointer none)).run P w = .ok false w:=by
 unfold Op.equal Op.maxDepth
 rw [show (10000:Nat) = 9999 + 1 from rfl]
 unfold Op.equalIn
 simp only [Sem.run_bind,run_underlying h,Result.andThen_ok,Sem.run_pure]
theorem run_equal_nil_some {t el:TypeId} (h:P.underlying t = some (.pointer el)) (p:Addr) (w:World):(Op.equal t (.pointer none) (.pointer (some p))).run P w = .ok false w:=by
 unfold Op.equal Op.maxDepth
 rw [show (10000:Nat) = 9999 + 1 from rfl]
 unfold Op.equalIn
 simp only [Sem.run_bind,run_underlying h,Result.andThen_ok,Sem.run_pure,Option.isNone_some]
theorem bin_sound {s:Sit} {op:BinOp} {t:TypeId} {x y:Operand} {a b v:V} {u u':Value} (h:evBin P op t x y a b = some v) (ha:VR s a u) (hb:VR s b u') :
  ∃ z,(do eqGuard op t x y u u'; binOp op t u u':Sem Value).run P s.w = .ok z s.w∧VR s v z:=by
 unfold evBin at h
 split at h
 ·rename_i p q e1 e2
  rw [toVal_sound e1 ha,toVal_sound e2 hb]
  cases hp:evPure P (do eqGuard op t x y p q; binOp op t p q) with
  | none => rw [hp] at h; cases h
  | some r =>
   rw [hp] at h
   simp only [Option.bind_some] at h
   split at h
   ·rename_i hat
    simp only [Option.some.injEq] at h; subst h
    exact ⟨r,run_of_evPure _ hp _,VR_sc hat⟩
   ·cases h
 ·have key:∀ {el:TypeId},P.underlying t = some (.pointer el)→(isRef a && isNilP b || isRef b && isNilP a) = true →
      (Op.equal t u u').run P s.w = .ok false s.w∧(∀ op,eqGuard op t x y u u' = pure ())∧(binOp .eql t u u' = do pure (.bool (← Op.equal t u u')))∧(binOp .neq t u u' = do pure (.bool (!(← Op.equal t u u')))):=by
   intro el hund hc
   rw [Bool.or_eq_true,Bool.and_eq_true,Bool.and_eq_true] at hc
   rcases hc with ⟨h1,h2⟩ | ⟨h1,h2⟩
   ·obtain ⟨p,rfl⟩:=isRef_sound h1 ha
    have:=isNilP_sound h2 hb
    subst this
    exact ⟨run_equal_some_nil hund _ _,fun op => eqGuard_at_pointer op t x y _ _,rfl,rfl⟩
   ·obtain ⟨p,rfl⟩:=isRef_sound h1 hb
    have:=isNilP_sound h2 ha
    subst this
    exact ⟨run_equal_nil_some hund _ _,fun op => eqGuard_at_pointer op t x y _ _,rfl,rfl⟩
  split at h
  ·rename_i el hund
   split at h
   ·rename_i hc
    simp only [Option.some.injEq] at h; subst h
    obtain ⟨h1,h2,h3,_⟩:=key hund hc
    exact ⟨.bool false,by simp [h2,h3,h1],VR_sc rfl⟩
   ·cases h
  ·rename_i el hund
   split at h
   ·rename_i hc
    simp only [Option.some.injEq] at h; subst h
    obtain ⟨h1,h2,_,h3⟩:=key hund hc
    exact ⟨.bool true,by simp [h2,h3,h1],VR_sc rfl⟩
   ·cases h
  ·cases h
theorem un_sound {s:Sit} {op:UnOp} {a v:V} {u:Value} (h:evUn P op a = some v) (ha:VR s a u) :
  ∃ z,(Op.unary op u).run P s.w = .ok z s.w∧VR s v z:=by
 unfold evUn at h
 split at h
 ·rename_i p e1
  rw [toVal_sound e1 ha]
  cases hp:evPure P (Op.unary op p) with
  | none => rw [hp] at h; cases h
  | some r =>
   rw [hp] at h
   simp only [Option.bind_some] at h
   split at h
   ·rename_i hat
    simp only [Option.some.injEq] at h; subst h
    exact ⟨r,run_of_evPure _ hp _,VR_sc hat⟩
   ·cases h
 ·cases h
theorem bytesOfRow_sound {s:Sit}:∀ {row:List V} {xs:List Value} {l:List UInt8},bytesOfRow row = some l→VRs s row xs→xs = l.map (fun b => Value.int .u8 b.toNat)
 | [],xs,l,h,hr => by simp only [bytesOfRow,Option.some.injEq] at h; subst h; unfold VRs at hr; exact hr
 | v :: vs,xs,l,h,hr => by
  unfold bytesOfRow at h
  split at h
  ·rename_i e; cases e
  ·rename_i n vs' e
   cases e
   split at h
   ·rename_i hn
    cases hb:bytesOfRow vs with
    | none => rw [hb] at h; cases h
    | some l' =>
     rw [hb] at h
     simp only [Option.map_some,Option.some.injEq] at h; subst h
     unfold VRs at hr
     obtain ⟨y,ys,rfl,h1,h2⟩:=hr
     unfold VR at h1
     obtain ⟨rfl,_⟩:=h1
     rw [bytesOfRow_sound hb h2]
     simp only [List.map_cons,List.cons.injEq,and_true,Value.int.injEq,true_and]
     simp
     omega
   ·cases h
  ·cases h
theorem foldl_push:∀ (l:List UInt8) (r:ByteArray),(l.map (fun b => (b.toNat:Int))).foldl (fun (r:ByteArray) (n:Int) => r.push (UInt8.ofNat n.toNat)) r = r ++ ⟨l.toArray⟩
 | [],r => by
  simp only [List.map_nil,List.foldl_nil]
  apply ByteArray.ext
  simp
 | b :: l,r => by
  simp only [List.map_cons,List.foldl_cons]
  rw [foldl_push l]
  apply ByteArray.ext
  simp [ByteArray.push]
theorem convert_sound {s:Sit} {σ:Store} (hi:Inv s σ) {src dst:TypeId} {a v:V} {u:Value} (h:evConvert P src dst a σ = some v) (ha:VR s a u) :
  ∃ z,(convert src dst u).run P s.w = .ok z s.w∧VR s v z:=by
 unfold evConvert at h
 split at h
 ·rename_i p e1
  rw [toVal_sound e1 ha]
  cases hp:evPure P (convert src dst p) with
  | none => rw [hp] at h; cases h
  | some r =>
   rw [hp] at h
   simp only [Option.bind_some] at h
   split at h
   ·rename_i hat
    simp only [Option.some.injEq] at h; subst h
    exact ⟨r,run_of_evPure _ hp _,VR_sc hat⟩
   ·cases h
 ·split at h
  ·rename_i e hsrc hdst
   split at h
   ·rename_i i he hinf
    split at h
    ·split at h
     ·rename_i row len hrow
      cases hb:bytesOfRow row with
      | none => rw [hb] at h; cases h
      | some l =>
       rw [hb] at h
       simp only [Option.map_some,Option.some.injEq] at h; subst h
       obtain ⟨ao,cap,rfl,hcap,hlen,hr⟩:=rowOf_sound hi ha hrow
       refine ⟨.string ⟨l.toArray⟩,?_,VR_sc rfl⟩
       rw [run_convert_bytes_string s.w src dst e ao len cap hsrc he hdst]
       rcases hr with rfl | ⟨k,o,rfl,cs,hcs,hrd⟩
       ·simp only [bytesOfRow,Option.some.injEq] at hb; subst hb
        have:len = 0:=by simpa using hlen.symm
        subst this
        cases ao with
        | none => simp [Conv.bytesToString]; rfl
        | some a =>
         rw [run_bytesToString s.w a 0 cap [] (by simp [loadCells,loadCellsFrom])]
         rfl
       ·have hx:=bytesOfRow_sound hb hcs
        have hl:cs.length = len:=by rw [← VRs_length hcs,hlen]; simp
        have hlo:=run_loadCells_list (P:=P) s.w ⟨k,o,none⟩ cs (fun j v hv => by rw [Addr.add_lit]; exact hrd j v hv)
        rw [hl] at hlo
        rw [run_bytesToString s.w ⟨k,o,none⟩ len cap (l.map fun b => (b.toNat:Int)) (by rw [hlo,hx,List.map_map]; rfl),foldl_push]
        simp
     ·cases h
    ·cases h
   ·cases h
  ·cases h
end
end Go.TV
namespace Go.TV
open Go.RowKit
set_option linter.unusedVariables false
set_option linter.unusedSimpArgs false
variable [Known]
def appendTo (σ:Store) (nx size bytes:Nat) (s:V) (row:List V) (m:Nat):Res :=
 match s with
 | .nil => if m = 0 then some (.nil,σ,nx) else if m ≤ maxLen∧m * bytes ≤ 140737488355328 then some (.rs nx 0 m,evBox σ nx row size,nx + 1) else none
 | .rs b off len => match σ b with
  | some B => if m = 0 then some (.rs b off len,σ,nx) else
   if off + (len + m) * size ≤ B.cells.length then
    if B.wr = true∧B.st = size∧row.all isCell = true then some (.rs b off (len + m),upd σ b (some { B with cells:=patch B.cells (off + len * size) row }),nx) else none
   else if off + len * size = B.cells.length∧B.st = size∧len + m ≤ maxLen∧(len + m) * bytes ≤ 140737488355328∧row.all isCell = true then
    some (.rs nx 0 (len + m),upd (upd σ b none) nx (some ⟨B.cells.drop off ++ row,size,B.wr⟩),nx + 1)
   else none
  | none => none
 | _ => none
def evAppend (P:Program) (ts:Array TypeId) (s x:V) (σ:Store) (nx:Nat):Res :=
 match ts[0]?,ts[1]? with
 | some t,some t2 => match P.underlying t,t2 == t with
  | some (.slice elem),true => match P.info? elem with
   | some i => match i.zero with
    | some z => if z.cells.size = i.size∧0 < i.size∧i.size < 1000000 then
      match rowOf σ i.size x with
      | some (row,m) => appendTo σ nx i.size i.bytes s row m
      | none => none
     else none
    | none => none
   | none => none
  | some (.slice elem),false => match P.underlying elem,P.underlying t2,P.info? elem with
   | some (.int .u8),some .string,some i => match i.zero,x with
    | some z,.sc (.string b) => if z.cells.size = 1∧i.size = 1 then appendTo σ nx 1 i.bytes s (b.data.toList.map fun c => .sc (.int .u8 c.toNat)) b.size else none
    | _,_ => none
   | _,_,_ => none
  | _,_ => none
 | _,_ => none
theorem Inv.kill {s:Sit} {σ:Store} (h:Inv s σ) (b:Nat):Inv s (upd σ b none)∧Nxt s σ s (upd σ b none):=by
 have q:∀ {i:Nat} {A:Blk},upd σ b none i = some A→i ≠ b∧σ i = some A:=fun {i A} h => by
  by_cases hib:i = b
  ·subst hib; rw [upd_same] at h; cases h
  ·exact ⟨hib,by rw [upd_ne _ _ hib] at h; exact h⟩
 exact ⟨⟨fun i B hB => h.blk i B (q hB).2,fun b1 b2 B1 B2 l1 l2 h1 h2 => h.dis b1 b2 B1 B2 l1 l2 (q h1).2 (q h2).2,h.zb,h.kn⟩,
  ⟨.refl s,fun _ _ z => .inl z,fun _ _ _ => rfl,fun i B l h1 h2 => .inr ⟨i,B,l,(q h1).2,h2,rfl⟩,Nat.le_refl _,rfl,rfl,rfl⟩⟩
theorem Inv.freeze {s:Sit} {σ:Store} (h:Inv s σ) {b:Nat} {B:Blk} (hb:σ b = some B) {wr:Bool} (hw:wr = true→B.wr = true):Inv s (upd σ b (some { B with wr:=wr })):=by
 have q:∀ {i:Nat} {A:Blk},upd σ b (some { B with wr:=wr }) i = some A→∃ A',σ i = some A'∧A.cells = A'.cells∧A.st = A'.st∧(A.wr = true→A'.wr = true):=fun {i A} h => by
  by_cases hib:i = b
  ·subst hib; rw [upd_same] at h; cases h; exact ⟨B,hb,rfl,rfl,hw⟩
  ·exact ⟨A,by rw [upd_ne _ _ hib] at h; exact h,rfl,rfl,id⟩
 refine ⟨fun i A hA => ?_,fun b1 b2 B1 B2 l1 l2 h1 h2 => ?_,h.zb,h.kn⟩
 ·obtain ⟨A',h1,h2,h3,h4⟩:=q hA
  obtain ⟨l,c,e,g1,g2,g3,g4,g5,g6,g7⟩:=h.blk i A' h1
  refine ⟨l,c,e,g1,g2,g3,by rw [h2]; exact g4,by rw [h3]; exact g5,by rw [h2]; exact g6,fun o z => ?_,by rw [h3]; exact g7.2⟩
  obtain ⟨z1,z2⟩:=g7.1 o z
  refine ⟨?_,by rw [h2]; exact z2⟩
  cases hA:A.wr with
  | false => rfl
  | true => rw [h4 hA] at z1; cases z1
 ·obtain ⟨A1,e1,_⟩:=q h1
  obtain ⟨A2,e2,_⟩:=q h2
  exact h.dis b1 b2 A1 A2 l1 l2 e1 e2
theorem Inv.scribble {s:Sit} {σ:Store} (h:Inv s σ) {k p:Nat} {c:Array Value} {e:TypeId} (hk:s.w.heap[k]? = some (.cells c e (0,0))) {xs:List Value} (hfit:p + xs.length ≤ c.size)
  (hfree:∀ b B l,σ b = some B→s.β b = some l→l.k ≠ k) (hz:∀ o,s.Z k o→o < p) :
  let w':=s.w.setRow k (c.toList.take p ++ xs ++ c.toList.drop (p + xs.length)).toArray
  Le s { s with w:=w' }∧Inv { s with w:=w' } σ:=by
 intro w'
 have hk':w'.heap[k]? = some (.cells (c.toList.take p ++ xs ++ c.toList.drop (p + xs.length)).toArray e (0,0)):=setRow_heap s.w k c _ e (0,0) hk
 have hcl:c.toList.length = c.size:=Array.length_toList
 have hle:Le s { s with w:=w' }:=⟨fun _ _ z => z,fun k' o z => by
  by_cases hkk:k' = k
  ·subst hkk
   have:=hz o z
   show w'.cell? _ = _
   rw [cell_at hk',cell_at hk,List.getElem?_toArray,getElem?_patch (by omega),if_neg (by omega),Array.getElem?_toList]
  ·exact World.cell?_of_block (setRow_heap_ne s.w k _ hkk),fun _ _ e => e⟩
 have hsz:w'.heap.size = s.w.heap.size:=by simp [w',World.setRow]
 refine ⟨hle,⟨fun b B hB => ?_,h.dis,fun k o z => by show k < w'.heap.size; rw [hsz]; exact h.zb k o z,h.kn.mono hle⟩⟩
 obtain ⟨l,c1,e1,g1,g2,g3,g4,g5,g6,g7⟩:=h.blk b B hB
 exact ⟨l,c1,e1,g1,(setRow_heap_ne s.w k _ (hfree b B l hB g1)).trans g2,g3,g4,g5,fun i v hv => let ⟨x,hx,hr⟩:=g6 i v hv; ⟨x,hx,VR_mono hle v x hr⟩,g7⟩
section
variable {P:Program}
structure Src (P:Program) (u:TypeId) (x:Value) (size m:Nat) (cs:List Value) (w:World):Prop where
 ty:P.underlying u = some .string∨∃ e,P.underlying u = some (.slice e)
 len:∀ w',(Builtin.lenOf x).run P w' = .ok m w'
 first:∀ w':World,w'.heap = w.heap→(Builtin.firstCells size m x).run P w' = .ok cs.toArray w'
theorem Src.str {u:TypeId} (hu:P.underlying u = some .string) (s:ByteArray) (w:World):Src P u (.string s) 1 s.size (s.data.toList.map fun b => Value.int .u8 b.toNat) w:=by
 refine ⟨.inl hu,fun w' => by simp [Builtin.lenOf],fun w' _ => ?_⟩
 simp [Builtin.firstCells]
 have hs:s.size = (Array.map (fun b:UInt8 => Value.int IntKind.u8 (b.toNat:Int)) s.data).size:=by rw [Array.size_map]; rfl
 have hx:(Array.map (fun b:UInt8 => Value.int IntKind.u8 (b.toNat:Int)) s.data).extract 0 s.size = Array.map (fun b:UInt8 => Value.int IntKind.u8 (b.toNat:Int)) s.data:=by
  rw [hs,Array.extract_size]
 first | exact hx | (apply Array.ext'; simp)
theorem run_append_room_src {w:World} {t u ty e:TypeId} {i:TypeInfo} (ht:P.underlying t = some (.slice e)) (hi:P.info? e = some i)
  (g o sLen sCap:Nat) (cur:Array Value) (e2:TypeId) (hg:w.heap[g]? = some (.cells cur e2 (0,0)))
  {x:Value} {m:Nat} {news:List Value} (hs:Src P u x i.size m news w) (h1:∀ u ∈ news,u.oneCell' = true)
  (hroom:sLen + m ≤ sCap) (hfit:o + sLen * i.size + news.length ≤ cur.size) :
  (Builtin.append_ #[t,u] ty #[.slice (some ⟨g,o,none⟩) sLen sCap,x]).run P w =
   .ok (.slice (some ⟨g,o,none⟩) (sLen + m) sCap) (w.setRow g (cur.toList.take (o + sLen * i.size) ++ news ++ cur.toList.drop (o + sLen * i.size + news.length)).toArray):=by
 have hst:=run_storeCells_at P g (o + sLen * i.size) e2 news 0 cur w hg (by simpa using hfit) h1
 simp only [Nat.add_zero] at hst
 rcases hs.ty with hu | ⟨e',hu⟩ <;> simp [Builtin.append_,run_underlying ht,run_underlying hu,sizeOf,typeInfo,hi,hs.len,hroom,hs.first w rfl,Addr.add_lit,hst]
theorem run_append_zero_src {w:World} {t u ty e:TypeId} {i:TypeInfo} (ht:P.underlying t = some (.slice e)) (hi:P.info? e = some i) (base:Option Addr) (sLen sCap:Nat) (hle:sLen ≤ sCap) {x:Value} (hs:Src P u x i.size 0 [] w) :
  (Builtin.append_ #[t,u] ty #[.slice base sLen sCap,x]).run P w = .ok (.slice base sLen sCap) w:=by
 rcases hs.ty with hu | ⟨e',hu⟩ <;> cases base <;> simp [Builtin.append_,run_underlying ht,run_underlying hu,sizeOf,typeInfo,hi,hs.len,hle,hs.first w rfl,storeCells]
theorem run_append_nil_src {w:World} {t u ty e:TypeId} {i:TypeInfo} {z:Value} (ht:P.underlying t = some (.slice e)) (hi:P.info? e = some i) (hz:i.zero = some z)
  {x:Value} {m:Nat} {news:List Value} (hs:Src P u x i.size m news w) (h0:0 < m) (h63:(m:Int) ≤ 9223372036854775807) (h48:m * i.bytes ≤ 281474976710656) :
  (Builtin.append_ #[t,u] ty #[.slice none 0 0,x]).run P w =
   .ok (.slice (some ⟨w.heap.size,0,none⟩) m (grownCap w m 0 e)) (w.drew.alloc (.cells (news.toArray ++ Builtin.zeroCells z.cells (grownCap w m 0 e - m)) e)):=by
 have hn:m ≠ 0:=by omega
 have h63':¬ (9223372036854775807 < (m:Int)):=by omega
 have h48':¬ (281474976710656 < Builtin.nextslicecap m 0 * i.bytes):=by rw [nextslicecap_zero h0]; omega
 have hf:=hs.first w.drew rfl
 have hfo:(Builtin.firstCells i.size 0 (.slice none 0 0)).run P w.drew = .ok #[] w.drew:=by simp [Builtin.firstCells]
 rcases hs.ty with hu | ⟨e',hu⟩ <;> simp [Builtin.append_,run_underlying ht,run_underlying hu,sizeOf,typeInfo,zeroValue,hi,hz,hs.len,hn,h63',h48',Question.forced,hf,hfo,newRow,grownCap]
theorem run_append_grow_src {w:World} {t u ty e:TypeId} {i:TypeInfo} {z:Value} (ht:P.underlying t = some (.slice e)) (hi:P.info? e = some i) (hz:i.zero = some z)
  (b:Addr) (sLen sCap:Nat) (olds:List Value) (hlo:olds.length = sLen * i.size) (holds:∀ (j:Nat) (u:Value),olds[j]? = some u→w.cell? (b.add j) = some u)
  {x:Value} {m:Nat} {news:List Value} (hs:Src P u x i.size m news w)
  (hg:sCap < sLen + m) (h63:((sLen + m:Nat):Int) ≤ 9223372036854775807) (hfit:Builtin.nextslicecap (sLen + m) sCap * i.bytes ≤ 281474976710656) :
  (Builtin.append_ #[t,u] ty #[.slice (some b) sLen sCap,x]).run P w =
   .ok (.slice (some ⟨w.heap.size,0,none⟩) (sLen + m) (grownCap w (sLen + m) sCap e))
    (w.drew.alloc (.cells (olds.toArray ++ news.toArray ++ Builtin.zeroCells z.cells (grownCap w (sLen + m) sCap e - (sLen + m))) e)):=by
 have hn:¬ (sLen + m ≤ sCap):=by omega
 have h63':¬ (9223372036854775807 < ((sLen:Int) + (m:Int))):=by omega
 have h48':¬ (281474976710656 < Builtin.nextslicecap (sLen + m) sCap * i.bytes):=by omega
 have hf:=hs.first w.drew rfl
 have hfo:=run_firstCells_some (P:=P) w.drew i.size sLen b sLen sCap olds hlo (by simpa using holds)
 rcases hs.ty with hu | ⟨e',hu⟩ <;> simp [Builtin.append_,run_underlying ht,run_underlying hu,sizeOf,typeInfo,zeroValue,hi,hz,hs.len,hn,h63',h48',Question.forced,hf,hfo,newRow,grownCap]
 all_goals (congr 2; apply Array.ext'; simp [List.append_assoc])
theorem append_core {s:Sit} {σ:Store} (hi:Inv s σ) {nx nx':Nat} {σ':Store} {t u ty elem:TypeId} {i:TypeInfo} {z:Value} {d v:V} {yd x:Value} {row:List V} {m:Nat} {cs:List Value} (hund:P.underlying t = some (.slice elem)) (hinf:P.info? elem = some i) (hz:i.zero = some z) (hzs:z.cells.size = i.size) (hs0:0 < i.size) (hsm:i.size < 1000000)
  (hrl:row.length = m * i.size) (hcs:VRs s row cs) (hsrc:Src P u x i.size m cs s.w) (h:appendTo σ nx i.size i.bytes d row m = some (v,σ',nx')) (hn:Fresh s nx nx') (hd:VR s d yd) :
  ∃ s' y,(Builtin.append_ #[t,u] ty #[yd,x]).run P s.w = .ok y s'.w∧Out s σ nx s' v y σ' nx':=by
 have hcl:cs.length = m * i.size:=by rw [← VRs_length hcs,hrl]
 unfold appendTo at h
 split at h
 ·-- nil
  unfold VR at hd
  obtain ⟨a0,rfl⟩:=hd
  split at h
  ·rename_i hm
   simp only [Option.some.injEq,Prod.mk.injEq] at h; obtain ⟨rfl,rfl,rfl⟩:=h
   subst hm
   obtain rfl:cs = []:=List.eq_nil_of_length_eq_zero (by rw [hcl,Nat.zero_mul]); exact ⟨s,_,run_append_zero_src hund hinf a0 0 0 (Nat.le_refl _) hsrc,Out.same hi (by unfold VR; exact ⟨_,rfl⟩)⟩
  ·rename_i hm
   split at h
   ·rename_i hb
    simp only [Option.some.injEq,Prod.mk.injEq] at h; obtain ⟨rfl,rfl,rfl⟩:=h
    ·skip
     have hml:m ≤ 9223372036854775807:=by have:=hb.1; unfold maxLen at this; omega
     have hrun:∃ cap,m ≤ cap∧(Builtin.append_ #[t,u] ty #[.slice a0 0 0,x]).run P s.w =
       .ok (.slice (some ⟨s.w.heap.size,0,none⟩) m cap) (s.w.drew.alloc (.cells (cs.toArray ++ Builtin.zeroCells z.cells (cap - m)) elem)):=by
      cases a0 with
      | none => exact ⟨_,grownCap_ge s.w m 0 elem,run_append_nil_src hund hinf hz hsrc (by omega) (by omega) (by omega)⟩
      | some b0 =>
       have:=run_append_grow_src (P:=P) (ty:=ty) hund hinf hz b0 0 0 [] (by simp) (by simp) hsrc (by omega) (by omega) (growslice_fits (by omega) (by simpa using hb.2))
       simp only [Nat.zero_add,List.nil_append,show (([]:List Value).toArray) = #[] from rfl,Array.empty_append] at this
       exact ⟨_,by have:=grownCap_ge s.w m 0 elem; omega,this⟩
     obtain ⟨cap,hcap,hrun⟩:=hrun
     have hcsz:(cs.toArray ++ Builtin.zeroCells z.cells (cap - m)).size = cap * i.size:=by
      rw [Array.size_append,size_zeroCells,hzs,List.size_toArray,hcl,← Nat.add_mul]; congr 1; omega
     obtain ⟨s',g1,g2,g3,g4,g5⟩:=alloc_out hi hn (w1:=s.w.drew) (Below.refl _ _).drew rfl row i.size (cap * i.size) elem (cs.toArray ++ Builtin.zeroCells z.cells (cap - m)) hcsz.symm (by intro h; omega)
      (by rw [hrl]; exact Nat.mul_le_mul_right _ hcap) (fun j u hu => by
       obtain ⟨y,hy,hr⟩:=VRs_get hcs hu
       refine ⟨y,?_,hr⟩
       rw [Array.getElem?_append_left (by rw [List.size_toArray]; exact (List.getElem?_eq_some_iff.1 hy).1),List.getElem?_toArray]; exact hy)
     refine ⟨s',_,by rw [g1]; exact hrun,⟨?_,g3,g4,g5⟩⟩
     unfold VR; exact ⟨_,cap,g2,rfl,hcap,by simp⟩
   ·cases h
 ·-- rs
  rename_i b off len
  split at h
  ·rename_i B hb
   have hd0:=hd
   unfold VR at hd
   obtain ⟨l,cap,hl,rfl,hcap,hend⟩:=hd
   obtain ⟨l',c,e,g1,g2,g3,g4,g5,g6,g7⟩:=hi.blk b B hb
   rw [hl] at g1; cases g1
   split at h
   ·rename_i hm
    simp only [Option.some.injEq,Prod.mk.injEq] at h; obtain ⟨rfl,rfl,rfl⟩:=h
    subst hm
    obtain rfl:cs = []:=List.eq_nil_of_length_eq_zero (by rw [hcl,Nat.zero_mul]); exact ⟨s,_,run_append_zero_src hund hinf _ len cap hcap hsrc,Out.same hi hd0⟩
   ·rename_i hm
    ·skip
     split at h
     ·rename_i hfit
      split at h
      ·rename_i hcw
       obtain ⟨hw,hst,hall⟩:=hcw
       simp only [Option.some.injEq,Prod.mk.injEq] at h; obtain ⟨rfl,rfl,rfl⟩:=h
       have hroom:len + m ≤ cap:=by
        rw [g5,hst] at hend
        exact Nat.le_of_mul_le_mul_right (by omega) hs0
       have e1:(len + m) * i.size = len * i.size + m * i.size:=Nat.add_mul _ _ _
       have hrun:=run_append_room_src (P:=P) (ty:=ty) hund hinf l.k (l.o + off) len cap c e g2 hsrc (oneCells_of hcs hall) hroom (by omega)
       have hwo:=write_out hi hb hw hl g2 (off:=off + len * i.size) hcs (by omega)
       rw [patch_eq _ _ _ (by omega)]
       simp only [← Nat.add_assoc] at hwo hrun ⊢
       refine ⟨_,_,hrun,⟨?_,hwo.1,hwo.2,fun i h => .inl h⟩⟩
       unfold VR; exact ⟨l,cap,hl,rfl,hroom,hend⟩
      ·cases h
     ·rename_i hnfit
      split at h
      ·rename_i hcw
       obtain ⟨htail,hst,hmax,hbytes,hall⟩:=hcw
       simp only [Option.some.injEq,Prod.mk.injEq] at h; obtain ⟨rfl,rfl,rfl⟩:=h
       obtain ⟨hk1,hk2⟩:=hi.kill b
       have hnn:s.β nx = none:=hn nx (Nat.le_refl _) (by omega)
       have hfree:∀ b' B' l',upd σ b none b' = some B'→s.β b' = some l'→l'.k ≠ l.k:=fun b' B' l' h1 h2 e => by
        by_cases hbb:b' = b
        ·subst hbb; rw [upd_same] at h1; cases h1
        ·rw [upd_ne _ _ hbb] at h1; exact hbb (hi.dis b' b B' B l' l h1 hb h2 hl e)
       by_cases hroom:len + m ≤ cap
       ·-- in place
        have e1:(len + m) * i.size = len * i.size + m * i.size:=Nat.add_mul _ _ _
        have e2:(len + m) * i.size ≤ cap * i.size:=Nat.mul_le_mul_right _ hroom
        rw [g5,hst] at hend
        have hrun:=run_append_room_src (P:=P) (ty:=ty) hund hinf l.k (l.o + off) len cap c e g2 hsrc (oneCells_of hcs hall) hroom (by omega)
        have hsc:=hk1.scribble (k:=l.k) (p:=l.o + off + len * i.size) g2 (xs:=cs) (by omega) hfree (fun o' z => by have:=(g7.1 o' z).2; omega)
        obtain ⟨hle,hinv⟩:=hsc
        have hcl2:c.toList.length = c.size:=Array.length_toList
        have hk':=setRow_heap s.w l.k c (c.toList.take (l.o + off + len * i.size) ++ cs ++ c.toList.drop (l.o + off + len * i.size + cs.length)).toArray e (0,0) g2
        obtain ⟨hle2,hinv2⟩:=hinv.add (nx:=nx) hnn (k:=l.k) (o:=l.o + off) (cap:=cap * i.size) (st:=i.size) (cells:=B.cells.drop off ++ row) (wr:=B.wr) hk' hfree
         (fun o' z => by have:=g7.1 o' z; simp only [List.length_append,List.length_drop]; exact ⟨this.1,by omega⟩) (by intro h; omega)
         (by rw [List.size_toArray]; simp only [List.length_append,List.length_take,List.length_drop]; omega)
         (by simp only [List.length_append,List.length_drop]; omega)
         (fun j u hu => by
          rw [List.getElem?_toArray,getElem?_patch (by omega)]
          by_cases hj:j < (B.cells.drop off).length
          ·rw [List.getElem?_append_left hj,List.getElem?_drop] at hu
           simp only [List.length_drop] at hj
           obtain ⟨y,hy,hr⟩:=g6 _ u hu
           rw [if_neg (by omega),Array.getElem?_toList]
           exact ⟨y,by rw [Nat.add_assoc]; exact hy,VR_mono hle u y hr⟩
          ·rw [List.getElem?_append_right (by omega)] at hu
           simp only [List.length_drop] at hj hu
           have hjl:j - (B.cells.length - off) < row.length:=(List.getElem?_eq_some_iff.1 hu).1
           obtain ⟨y,hy,hr⟩:=VRs_get hcs hu
           rw [if_pos (by omega),show l.o + off + j - (l.o + off + len * i.size) = j - (B.cells.length - off) by omega]
           exact ⟨y,hy,VR_mono hle u y hr⟩)
        have hsz:(s.w.setRow l.k (c.toList.take (l.o + off + len * i.size) ++ cs ++ c.toList.drop (l.o + off + len * i.size + cs.length)).toArray).heap.size = s.w.heap.size:=by simp [World.setRow]
        refine ⟨_,_,hrun,⟨?_,hinv2,⟨hle.trans hle2,fun k o z => .inl z,fun k' hk1 hk2 => setRow_heap_ne s.w l.k _ (fun e => hk2 b B l hb hl e.symm),fun b' B' l' h1 h2 => ?_,by rw [hsz]; exact Nat.le_refl _,rfl,rfl,rfl⟩,fun j hj => ?_⟩⟩
        ·unfold VR; exact ⟨_,cap,upd_same _ _ _,by simp,hroom,by simp⟩
        ·by_cases hbn:b' = nx
         ·subst hbn
          have:l' = ⟨l.k,l.o + off,cap * i.size,i.size⟩:=by simpa only [upd_same,Option.some.injEq,eq_comm] using h2
          subst this
          exact .inr ⟨b,B,l,hb,hl,rfl⟩
         ·rw [upd_ne _ _ hbn] at h1
          by_cases hbb:b' = b
          ·subst hbb; rw [upd_same] at h1; cases h1
          ·rw [upd_ne _ _ hbb] at h1
           exact .inr ⟨b',B',l',h1,by simpa only [upd_ne _ _ hbn] using h2,rfl⟩
        ·by_cases hbn:j = nx
         ·subst hbn; exact .inr ⟨Nat.le_refl _,by omega⟩
         ·exact .inl (by simpa only [upd_ne _ _ hbn] using hj)
       ·-- new memory
        have hold:((B.cells.drop off).length) = len * i.size:=by simp only [List.length_drop]; omega
        obtain ⟨os,hos,hord⟩:=(hi.reads hb hl).drop off
        have hosl:os.length = len * i.size:=by rw [← VRs_length hos,hold]
        have hml:len + m ≤ 9223372036854775807:=by have:=hmax; unfold maxLen at this; omega
        have hrun:=run_append_grow_src (P:=P) (ty:=ty) hund hinf hz ⟨l.k,l.o + off,none⟩ len cap os hosl (fun j v hv => by rw [Addr.add_lit]; exact hord j v hv) hsrc (by omega) (by omega) (growslice_fits (by omega) hbytes)
        have hge:=grownCap_ge s.w (len + m) cap elem
        generalize grownCap s.w (len + m) cap elem = gc at hrun hge
        have e1:(len + m) * i.size = len * i.size + m * i.size:=Nat.add_mul _ _ _
        have hcsz:(os.toArray ++ cs.toArray ++ Builtin.zeroCells z.cells (gc - (len + m))).size = gc * i.size:=by
         rw [Array.size_append,Array.size_append,size_zeroCells,hzs,List.size_toArray,List.size_toArray,hcl,hosl,← e1,← Nat.add_mul]; congr 1; omega
        have hgm:(len + m) * i.size ≤ gc * i.size:=Nat.mul_le_mul_right _ hge
        obtain ⟨s',p1,p2,p3,p4,p5⟩:=alloc_out hk1 hn (w1:=s.w.drew) (Below.refl _ _).drew rfl (B.cells.drop off ++ row) i.size (gc * i.size) elem _ hcsz.symm (by intro h; omega)
         (by simp only [List.length_append,hold,hrl]; omega) (fun j u hu => by
          have hcomb:=VRs_append hos hcs
          obtain ⟨y,hy,hr⟩:=VRs_get hcomb hu
          refine ⟨y,?_,hr⟩
          rw [Array.getElem?_append_left (by
           have:=(List.getElem?_eq_some_iff.1 hy).1
           simp only [List.length_append] at this
           rw [Array.size_append,List.size_toArray,List.size_toArray]; exact this)]
          simpa using hy)
        have hwr:Inv s' (upd (upd σ b none) nx (some ⟨B.cells.drop off ++ row,i.size,B.wr⟩)):=by
         have:=p3.freeze (b:=nx) (B:=⟨B.cells.drop off ++ row,i.size,true⟩) (wr:=B.wr) (by unfold evBox; rw [upd_same]) (fun _ => rfl)
         have he:upd (evBox (upd σ b none) nx (B.cells.drop off ++ row) i.size) nx (some { cells:=B.cells.drop off ++ row,st:=i.size,wr:=B.wr }) = upd (upd σ b none) nx (some ⟨B.cells.drop off ++ row,i.size,B.wr⟩):=by
          funext j; unfold evBox upd; split <;> rfl
         rw [he] at this; exact this
        have hnxt:Nxt s (upd σ b none) s' (upd (upd σ b none) nx (some ⟨B.cells.drop off ++ row,i.size,B.wr⟩)):=by
         refine ⟨p4.le,p4.zn,p4.kb,fun b' B' l' h1 h2 => ?_,p4.hs,p4.os,p4.tape,p4.output⟩
         by_cases hbn:b' = nx
         ·subst hbn
          exact p4.nb b' ⟨B.cells.drop off ++ row,i.size,true⟩ l' (by unfold evBox; rw [upd_same]) h2
         ·rw [upd_ne _ _ hbn] at h1
          exact p4.nb b' B' l' (by unfold evBox; rw [upd_ne _ _ hbn]; exact h1) h2
        refine ⟨s',_,by rw [p1]; exact hrun,⟨?_,hwr,hk2.trans hnxt,p5⟩⟩
        unfold VR; exact ⟨_,gc,p2,rfl,hge,by simp⟩
      ·cases h
  ·cases h
 ·cases h
theorem cell_heap {w w':World} (h:w'.heap = w.heap) (k o:Nat):w'.cell? ⟨k,o,none⟩ = w.cell? ⟨k,o,none⟩:=World.cell?_of_block (by rw [h])
theorem Src.slice {u e:TypeId} (hu:P.underlying u = some (.slice e)) {ao:Option Addr} {m xc size:Nat} {cs:List Value} {w:World} (hs0:0 < size) (hcl:cs.length = m * size)
  (hr:cs = []∨∃ k o,ao = some ⟨k,o,none⟩∧∀ (j:Nat) (v:Value),cs[j]? = some v→w.cell? ⟨k,o + j,none⟩ = some v):Src P u (.slice ao m xc) size m cs w:=by
 refine ⟨.inr ⟨e,hu⟩,fun w' => by simp [Builtin.lenOf],fun w' hw => ?_⟩
 rcases hr with rfl | ⟨k,o,rfl,hr⟩
 ·have hm:m = 0:=by
   rcases Nat.mul_eq_zero.1 (by simpa using hcl.symm) with e | e <;> omega
  subst hm
  cases ao <;> simp [Builtin.firstCells,loadCells,loadCellsFrom]
 ·exact run_firstCells_some (P:=P) w' size m ⟨k,o,none⟩ m xc cs hcl (fun j v hv => by rw [Addr.add_lit,cell_heap hw]; exact hr j v hv)
theorem append_sound {s:Sit} {σ:Store} (hi:Inv s σ) {nx nx':Nat} {σ':Store} {ts:Array TypeId} {ty:TypeId} {d x v:V} {yd yx:Value} (h:evAppend P ts d x σ nx = some (v,σ',nx')) (h2:ts.size = 2) (hn:Fresh s nx nx') (hd:VR s d yd) (hx:VR s x yx) :
  ∃ s' y,(Builtin.append_ ts ty #[yd,yx]).run P s.w = .ok y s'.w∧Out s σ nx s' v y σ' nx':=by
 unfold evAppend at h
 split at h
 ·rename_i t t2 ht0 ht1
  obtain rfl:ts = #[t,t2]:=by
   apply Array.ext'
   rcases ts with ⟨l⟩
   rcases l with _ | ⟨a,_ | ⟨b,_ | ⟨c,l⟩⟩⟩ <;> simp_all
  split at h
  ·rename_i elem hund hteq
   obtain rfl:t = t2:=(by simpa using hteq:t2 = t).symm
   split at h
   ·rename_i i hinf
    split at h
    ·rename_i z hz
     split at h
     ·rename_i hc
      obtain ⟨hzs,hs0,hsm⟩:=hc
      split at h
      ·rename_i row m hrow
       obtain ⟨ao,xc,rfl,hxc,hrl,hread⟩:=rowOf_sound hi hx hrow
       rcases hread with rfl | ⟨k,o,rfl,cs,hcs,hrd⟩
       ·have hcs:VRs s [] []:=by unfold VRs; rfl
        exact append_core hi hund hinf hz hzs hs0 hsm hrl hcs (Src.slice hund hs0 (by rw [← hrl]; rfl) (.inl rfl)) h hn hd
       ·exact append_core hi hund hinf hz hzs hs0 hsm hrl hcs (Src.slice hund hs0 (by rw [← VRs_length hcs,hrl]) (.inr ⟨k,o,rfl,hrd⟩)) h hn hd
      ·cases h
     ·cases h
    ·cases h
   ·cases h
  ·rename_i elem hund hteq
   split at h
   ·rename_i i hu8 hstr hinf
    split at h
    ·rename_i z b hz
     split at h
     ·rename_i hc
      obtain ⟨hzs,hs1⟩:=hc
      unfold VR at hx
      obtain ⟨rfl,_⟩:=hx
      have hcs:VRs s (b.data.toList.map fun c => V.sc (.int .u8 c.toNat)) (b.data.toList.map fun c => Value.int .u8 c.toNat):=by
       generalize b.data.toList = l
       induction l with
       | nil => unfold VRs; rfl
       | cons c l ih => unfold VRs; exact ⟨_,_,rfl,VR_sc rfl,ih⟩
      have hsrc:=Src.str hstr b s.w
      rw [← hs1] at h hsrc hzs
      exact append_core hi hund hinf hz hzs (by omega) (by omega) (by rw [List.length_map,hs1,Nat.mul_one]; rfl) hcs hsrc h hn hd
     ·cases h
    ·cases h
   ·cases h
  ·cases h
 ·cases h
end
end Go.TV
namespace Go.TV
open Go.RowKit
set_option linter.unusedVariables false
set_option linter.unusedSimpArgs false
variable [Known]
def stripL (f:V→Option (V × List Nat)):List V→Option (List V × List Nat)
 | [] => some ([],[])
 | v :: vs => match f v,stripL f vs with
  | some (t,i),some (ts,j) => some (t :: ts,i ++ j)
  | _,_ => none
def strip (σ:Store):Nat→V→Option (V × List Nat)
 | 0,v => match v with
  | .sc u => some (.sc u,[])
  | .nil => some (.ts [] 0,[])
  | .junk => some (.junk,[])
  | .tp row off => some (.tp row off,[])
  | .ts row len => some (.ts row len,[])
  | _ => none
 | d + 1,v => match v with
  | .sc u => some (.sc u,[])
  | .nil => some (.ts [] 0,[])
  | .junk => some (.junk,[])
  | .tp row off => some (.tp row off,[])
  | .ts row len => some (.ts row len,[])
  | .agg vs => match stripL (strip σ d) vs with
   | some (ts,ids) => some (.agg ts,ids)
   | none => none
  | .tup vs => match stripL (strip σ d) vs with
   | some (ts,ids) => some (.tup ts,ids)
   | none => none
  | .clo f vs => match stripL (strip σ d) vs with
   | some (ts,ids) => some (.clo f ts,ids)
   | none => none
  | .rp b off => match σ b with
   | some B => match stripL (strip σ d) B.cells with
    | some (ts,ids) => some (.tp ts off,b :: ids)
    | none => none
   | none => none
  | .rs b off len => match σ b with
   | some B => if off + len * B.st ≤ B.cells.length then
     match stripL (strip σ d) ((B.cells.drop off).take (len * B.st)) with
     | some (ts,ids) => some (.ts ts len,b :: ids)
     | none => none
    else none
   | none => none
def Covers (s:Sit) (σ:Store) (ids:List Nat) (s':Sit):Prop :=
 s'.w = s.w∧(∀ k o,s.Z k o→s'.Z k o)∧∀ b ∈ ids,∀ B l,σ b = some B→s.β b = some l→∀ i,i < B.cells.length→s'.Z l.k (l.o + i)
theorem Covers.mono {s:Sit} {σ:Store} {ids ids':List Nat} {s':Sit} (h:Covers s σ ids s') (hs:∀ b ∈ ids',b ∈ ids):Covers s σ ids' s' :=
 ⟨h.1,h.2.1,fun b hb => h.2.2 b (hs b hb)⟩
theorem Covers.le_nb {s:Sit} {σ:Store} {ids:List Nat} {s':Sit} (h:Covers s σ ids s'):Le s.nb s'.nb :=
 ⟨h.2.1,fun k o _ => by show s'.w.cell? _ = s.w.cell? _; rw [h.1],fun _ _ e => by cases e⟩
theorem stripL_sound {s:Sit} {σ:Store} {f:V→Option (V × List Nat)}
  (hf:∀ (v t:V) (ids:List Nat) (x:Value) (s':Sit),f v = some (t,ids)→VR s v x→Covers s σ ids s'→VR s'.nb t x) :
  ∀ {vs ts:List V} {ids:List Nat} {xs:List Value} {s':Sit},stripL f vs = some (ts,ids)→VRs s vs xs→Covers s σ ids s'→VRs s'.nb ts xs
 | [],ts,ids,xs,s',h,hx,hc => by
  simp only [stripL,Option.some.injEq,Prod.mk.injEq] at h
  obtain ⟨rfl,rfl⟩:=h
  unfold VRs at hx ⊢; exact hx
 | v :: vs,ts,ids,xs,s',h,hx,hc => by
  unfold stripL at h
  split at h
  ·rename_i t i ts' j e1 e2
   simp only [Option.some.injEq,Prod.mk.injEq] at h
   obtain ⟨rfl,rfl⟩:=h
   unfold VRs at hx ⊢
   obtain ⟨y,ys,rfl,h1,h2⟩:=hx
   exact ⟨y,ys,rfl,hf v t i y s' e1 h1 (hc.mono fun b hb => List.mem_append_left _ hb),stripL_sound hf e2 h2 (hc.mono fun b hb => List.mem_append_right _ hb)⟩
  ·cases h
theorem stripL_length {f:V→Option (V × List Nat)}:∀ {vs ts:List V} {ids:List Nat},stripL f vs = some (ts,ids)→ts.length = vs.length
 | [],ts,ids,h => by simp only [stripL,Option.some.injEq,Prod.mk.injEq] at h; rw [← h.1]
 | v :: vs,ts,ids,h => by
  unfold stripL at h
  split at h
  ·rename_i e1 e2
   simp only [Option.some.injEq,Prod.mk.injEq] at h
   rw [← h.1,List.length_cons,stripL_length e2,List.length_cons]
  ·cases h
theorem VRow_of_cover {s s':Sit} {σ:Store} {ids:List Nat} (hi:Inv s σ) (hc:Covers s σ ids s') {b:Nat} (hb:b ∈ ids) {B:Blk} (hB:σ b = some B) {l:Loc} (hl:s.β b = some l) {off n:Nat} {ts:List V} (hn:off + n ≤ B.cells.length)
  (h:∀ xs,VRs s ((B.cells.drop off).take n) xs→VRs s'.nb ts xs) (hlen:ts.length = n):VRow s'.nb ts l.k (l.o + off):=by
 obtain ⟨cs,hcs,hrd⟩:=((hi.reads hB hl).drop off).take n
 have h1:=h cs hcs
 refine VRow_of fun i v hv => ?_
 have hi':i < n:=by rw [← hlen]; exact (List.getElem?_eq_some_iff.1 hv).1
 obtain ⟨x,hx,hr⟩:=VRs_get h1 hv
 refine ⟨by rw [Nat.add_assoc]; exact hc.2.2 b hb B l hB hl (off + i) (by omega),x,?_,hr⟩
 show s'.w.cell? _ = _
 rw [hc.1]
 exact hrd i x hx
theorem strip_sound {s:Sit} {σ:Store} (hi:Inv s σ):∀ (d:Nat) (v t:V) (ids:List Nat) (x:Value) (s':Sit),strip σ d v = some (t,ids)→VR s v x→Covers s σ ids s'→VR s'.nb t x:=by
 have base:∀ (v t:V) (ids:List Nat) (x:Value) (s':Sit),strip σ 0 v = some (t,ids)→VR s v x→Covers s σ ids s'→VR s'.nb t x:=by
  intro v t ids x s' h hx hc
  unfold strip at h
  split at h <;> first | (simp only [Option.some.injEq,Prod.mk.injEq] at h; obtain ⟨rfl,rfl⟩:=h) | cases h
  ·unfold VR at *; exact hx
  ·unfold VR at hx; obtain ⟨a,rfl⟩:=hx; exact VR_ts_nil
  ·unfold VR; trivial
  ·unfold VR at *; obtain ⟨k,o,e,hr⟩:=hx; exact ⟨k,o,e,VRow_mono hc.le_nb _ _ _ hr⟩
  ·unfold VR at *
   obtain ⟨a,cap,e,hcap,hr⟩:=hx
   exact ⟨a,cap,e,hcap,hr.imp id fun ⟨k,o,e,hr⟩ => ⟨k,o,e,VRow_mono hc.le_nb _ _ _ hr⟩⟩
 intro d
 induction d with
 | zero => exact base
 | succ d ih =>
  intro v t ids x s' h hx hc
  cases v with
  | sc u => exact base (.sc u) _ _ _ _ h hx hc
  | nil => exact base (.nil) _ _ _ _ h hx hc
  | junk => exact base (.junk) _ _ _ _ h hx hc
  | tp row off => exact base (.tp row off) _ _ _ _ h hx hc
  | ts row len => exact base (.ts row len) _ _ _ _ h hx hc
  | agg vs =>
   simp only [strip] at h
   split at h
   ·rename_i ts ids' e
    simp only [Option.some.injEq,Prod.mk.injEq] at h; obtain ⟨rfl,rfl⟩:=h
    unfold VR at hx ⊢
    obtain ⟨xs,rfl,hr⟩:=hx
    exact ⟨xs,rfl,stripL_sound (fun v t ids x s' => ih v t ids x s') e hr hc⟩
   ·cases h
  | tup vs =>
   simp only [strip] at h
   split at h
   ·rename_i ts ids' e
    simp only [Option.some.injEq,Prod.mk.injEq] at h; obtain ⟨rfl,rfl⟩:=h
    unfold VR at hx ⊢
    obtain ⟨xs,rfl,hr⟩:=hx
    exact ⟨xs,rfl,stripL_sound (fun v t ids x s' => ih v t ids x s') e hr hc⟩
   ·cases h
  | clo f vs =>
   simp only [strip] at h
   split at h
   ·rename_i ts ids' e
    simp only [Option.some.injEq,Prod.mk.injEq] at h; obtain ⟨rfl,rfl⟩:=h
    unfold VR at hx ⊢
    obtain ⟨xs,rfl,hr⟩:=hx
    exact ⟨xs,rfl,stripL_sound (fun v t ids x s' => ih v t ids x s') e hr hc⟩
   ·cases h
  | rp b off =>
   simp only [strip] at h
   split at h
   ·rename_i B hB
    split at h
    ·rename_i ts ids' e
     simp only [Option.some.injEq,Prod.mk.injEq] at h; obtain ⟨rfl,rfl⟩:=h
     unfold VR at hx ⊢
     obtain ⟨l,hl,rfl⟩:=hx
     refine ⟨l.k,l.o,rfl,?_⟩
     have:=VRow_of_cover hi hc (List.mem_cons_self) hB hl (off:=0) (n:=B.cells.length) (ts:=ts) (by omega) (fun xs hxs => by
      rw [List.drop_zero,List.take_length] at hxs
      exact stripL_sound (fun v t ids x s' => ih v t ids x s') e hxs (hc.mono fun b hb => List.mem_cons_of_mem _ hb)) (stripL_length e)
     exact this
    ·cases h
   ·cases h
  | rs b off len =>
   simp only [strip] at h
   split at h
   ·rename_i B hB
    split at h
    ·rename_i hfit
     split at h
     ·rename_i ts ids' e
      simp only [Option.some.injEq,Prod.mk.injEq] at h; obtain ⟨rfl,rfl⟩:=h
      unfold VR at hx ⊢
      obtain ⟨l,cap,hl,rfl,hcap,hend⟩:=hx
      refine ⟨_,cap,rfl,hcap,.inr ⟨l.k,l.o + off,rfl,?_⟩⟩
      exact VRow_of_cover hi hc (List.mem_cons_self) hB hl hfit (fun xs hxs => stripL_sound (fun v t ids x s' => ih v t ids x s') e hxs (hc.mono fun b hb => List.mem_cons_of_mem _ hb))
       (by rw [stripL_length e]; simp; omega)
     ·cases h
    ·cases h
   ·cases h
def flatL (f:V→Bool) (vs:List V):Bool:=vs.all f
def flat:Nat→V→Bool
 | 0,v => match v with
  | .sc _ | .nil | .junk => true
  | .ts row _ => row.isEmpty
  | _ => false
 | d + 1,v => match v with
  | .sc _ | .nil | .junk => true
  | .ts row _ => row.isEmpty
  | .agg vs | .tup vs | .clo _ vs => flatL (flat d) vs
  | _ => false
theorem flatL_sound {s s':Sit} {f:V→Bool} (hf:∀ (v:V) (x:Value),f v = true→VR s v x→VR s' v x):∀ {vs:List V} {xs:List Value},flatL f vs = true→VRs s vs xs→VRs s' vs xs
 | [],xs,_,h => by unfold VRs at *; exact h
 | v :: vs,xs,hfl,h => by
  unfold flatL at hfl
  rw [List.all_cons,Bool.and_eq_true] at hfl
  unfold VRs at *
  obtain ⟨y,ys,rfl,h1,h2⟩:=h
  exact ⟨y,ys,rfl,hf v y hfl.1 h1,flatL_sound hf hfl.2 h2⟩
theorem flat_sound {s s':Sit}:∀ (d:Nat) (v:V) (x:Value),flat d v = true→VR s v x→VR s' v x:=by
 have base:∀ (v:V) (x:Value),flat 0 v = true→VR s v x→VR s' v x:=by
  intro v x h hx
  unfold flat at h
  split at h
  ·unfold VR at *; exact hx
  ·unfold VR at *; exact hx
  ·unfold VR; trivial
  ·rename_i row len
   have:row = []:=by simpa using h
   subst this
   unfold VR at *
   obtain ⟨a,cap,e,hc,_⟩:=hx
   exact ⟨a,cap,e,hc,.inl rfl⟩
  ·cases h
 intro d
 induction d with
 | zero => exact base
 | succ d ih =>
  intro v x h hx
  cases v with
  | sc u => exact base (.sc u) _ h hx
  | nil => exact base (.nil) _ h hx
  | junk => exact base (.junk) _ h hx
  | ts row len => exact base (.ts row len) _ h hx
  | tp row off => cases h
  | rp b off => cases h
  | rs b off len => cases h
  | agg vs => unfold VR at hx ⊢; obtain ⟨xs,rfl,hr⟩:=hx; exact ⟨xs,rfl,flatL_sound (ih) h hr⟩
  | tup vs => unfold VR at hx ⊢; obtain ⟨xs,rfl,hr⟩:=hx; exact ⟨xs,rfl,flatL_sound (ih) h hr⟩
  | clo f vs => unfold VR at hx ⊢; obtain ⟨xs,rfl,hr⟩:=hx; exact ⟨xs,rfl,flatL_sound (ih) h hr⟩
def gatherL (f:V→Option (List Nat)):List V→Option (List Nat)
 | [] => some []
 | v :: vs => match f v,gatherL f vs with
  | some i,some j => some (i ++ j)
  | _,_ => none
def gather (σ:Store):Nat→V→Option (List Nat)
 | 0,v => match v with
  | .sc _ | .nil | .junk => some []
  | .ts row _ => if row.isEmpty then some [] else none
  | _ => none
 | d + 1,v => match v with
  | .sc _ | .nil | .junk => some []
  | .ts row _ => if row.isEmpty then some [] else none
  | .agg vs | .tup vs | .clo _ vs => gatherL (gather σ d) vs
  | .rp b _ | .rs b _ _ => match σ b with
   | some B => match gatherL (gather σ d) B.cells with
    | some ids => some (b :: ids)
    | none => none
   | none => none
  | _ => none
theorem gatherL_vr {s s':Sit} {f:V→Option (List Nat)} (hf:∀ (v:V) (x:Value) ids,f v = some ids→VR s v x→VR s' v x):∀ {vs:List V} {xs:List Value} {ids:List Nat},gatherL f vs = some ids→VRs s vs xs→VRs s' vs xs
 | [],xs,ids,_,h => by unfold VRs at *; exact h
 | v :: vs,xs,ids,hg,h => by
  unfold gatherL at hg
  split at hg
  ·rename_i i j e1 e2
   unfold VRs at *
   obtain ⟨y,ys,rfl,h1,h2⟩:=h
   exact ⟨y,ys,rfl,hf v y i e1 h1,gatherL_vr hf e2 h2⟩
  ·cases hg
theorem gather_vr {s s':Sit} {σ:Store} (hb:∀ b l,s.β b = some l→s'.β b = some l):∀ (d:Nat) (v:V) (x:Value) (ids:List Nat),gather σ d v = some ids→VR s v x→VR s' v x:=by
 have base:∀ (v:V) (x:Value) (ids:List Nat),gather σ 0 v = some ids→VR s v x→VR s' v x:=by
  intro v x ids h hx
  unfold gather at h
  split at h
  ·unfold VR at *; exact hx
  ·unfold VR at *; exact hx
  ·unfold VR; trivial
  ·rename_i row len
   split at h
   ·rename_i he
    have:row = []:=by simpa using he
    subst this
    unfold VR at *
    obtain ⟨a,cap,e,hc,_⟩:=hx
    exact ⟨a,cap,e,hc,.inl rfl⟩
   ·cases h
  ·cases h
 intro d
 induction d with
 | zero => exact base
 | succ d ih =>
  intro v x ids h hx
  cases v with
  | sc u => exact base (.sc u) _ _ h hx
  | nil => exact base (.nil) _ _ h hx
  | junk => exact base (.junk) _ _ h hx
  | ts row len => exact base (.ts row len) _ _ h hx
  | tp row off => cases h
  | rp b off => unfold VR at hx ⊢; obtain ⟨l,hl,e⟩:=hx; exact ⟨l,hb _ _ hl,e⟩
  | rs b off len => unfold VR at hx ⊢; obtain ⟨l,cap,hl,e⟩:=hx; exact ⟨l,cap,hb _ _ hl,e⟩
  | agg vs => unfold VR at hx ⊢; obtain ⟨xs,rfl,hr⟩:=hx; exact ⟨xs,rfl,gatherL_vr ih h hr⟩
  | tup vs => unfold VR at hx ⊢; obtain ⟨xs,rfl,hr⟩:=hx; exact ⟨xs,rfl,gatherL_vr ih h hr⟩
  | clo f vs => unfold VR at hx ⊢; obtain ⟨xs,rfl,hr⟩:=hx; exact ⟨xs,rfl,gatherL_vr ih h hr⟩
theorem gatherL_mem {σ:Store} {f:V→Option (List Nat)} {d:Nat}
  (hf:∀ (v:V) ids,f v = some ids→∀ b ∈ ids,∃ B d' ids',σ b = some B∧gatherL (gather σ d') B.cells = some ids'∧∀ c ∈ ids',c ∈ ids) :
  ∀ {vs:List V} {ids:List Nat},gatherL f vs = some ids→∀ b ∈ ids,∃ B d' ids',σ b = some B∧gatherL (gather σ d') B.cells = some ids'∧∀ c ∈ ids',c ∈ ids
 | [],ids,h,b,hb => by simp only [gatherL,Option.some.injEq] at h; subst h; cases hb
 | v :: vs,ids,h,b,hb => by
  unfold gatherL at h
  split at h
  ·rename_i i j e1 e2
   simp only [Option.some.injEq] at h; subst h
   rcases List.mem_append.1 hb with hb | hb
   ·obtain ⟨B,d',ids',h1,h2,h3⟩:=hf v i e1 b hb
    exact ⟨B,d',ids',h1,h2,fun c hc => List.mem_append_left _ (h3 c hc)⟩
   ·obtain ⟨B,d',ids',h1,h2,h3⟩:=gatherL_mem (d:=d) hf e2 b hb
    exact ⟨B,d',ids',h1,h2,fun c hc => List.mem_append_right _ (h3 c hc)⟩
  ·cases h
theorem gather_mem {σ:Store}:∀ (d:Nat) (v:V) (ids:List Nat),gather σ d v = some ids→∀ b ∈ ids,∃ B d' ids',σ b = some B∧gatherL (gather σ d') B.cells = some ids'∧∀ c ∈ ids',c ∈ ids:=by
 intro d
 induction d with
 | zero =>
  intro v ids h b hb
  unfold gather at h
  split at h <;> first | (simp only [Option.some.injEq] at h; subst h; cases hb) | skip
  ·split at h
   ·simp only [Option.some.injEq] at h; subst h; cases hb
   ·cases h
  ·cases h
 | succ d ih =>
  intro v ids h b hb
  have ref:∀ i,(match σ i with
    | some B => match gatherL (gather σ d) B.cells with
     | some ids => some (i :: ids)
     | none => none
    | none => none) = some ids→∃ B d' ids',σ b = some B∧gatherL (gather σ d') B.cells = some ids'∧∀ c ∈ ids',c ∈ ids:=by
   intro i h
   split at h
   ·rename_i B hB
    split at h
    ·rename_i ids' e
     simp only [Option.some.injEq] at h; subst h
     rcases List.mem_cons.1 hb with rfl | hb
     ·exact ⟨B,d,ids',hB,e,fun c hc => List.mem_cons_of_mem _ hc⟩
     ·obtain ⟨B',d',ids2,h1,h2,h3⟩:=gatherL_mem (d:=d) ih e b hb
      exact ⟨B',d',ids2,h1,h2,fun c hc => List.mem_cons_of_mem _ (h3 c hc)⟩
    ·cases h
   ·cases h
  cases v with
  | sc u => simp only [gather,Option.some.injEq] at h; subst h; cases hb
  | nil => simp only [gather,Option.some.injEq] at h; subst h; cases hb
  | junk => simp only [gather,Option.some.injEq] at h; subst h; cases hb
  | ts row len =>
   simp only [gather] at h
   split at h
   ·simp only [Option.some.injEq] at h; subst h; cases hb
   ·cases h
  | tp row off => simp [gather] at h
  | rp i off => exact ref i h
  | rs i off len => exact ref i h
  | agg vs => exact gatherL_mem (d:=d) ih h b hb
  | tup vs => exact gatherL_mem (d:=d) ih h b hb
  | clo f vs => exact gatherL_mem (d:=d) ih h b hb
end Go.TV
namespace Go.TV
open Go.RowKit
set_option linter.unusedVariables false
set_option linter.unusedSimpArgs false
variable [Known]
inductive Conv where
 | inl | own | imm
abbrev Call:=FuncId→List V→Store→Nat→Res
def callable (P:Program) (f:FuncId):Prop:=∃ fn,P.funcs[f]? = some fn∧fn.body.isNone = false∧(fn.name == "runtime.NumGoroutine") = false
def SoundAt (P:Program) (f:FuncId) (args:List V) (σ:Store) (nx:Nat) (v:V) (σ':Store) (nx':Nat):Prop :=
 nx ≤ nx'∧callable P f∧∀ (s:Sit) (vals:List Value),Inv s σ→Fresh s nx nx'→VRs s args vals →
  Calls P f vals.toArray s.w (fun e w' => ∃ s' x,s'.w = w'∧e = .returned x∧Out s σ nx s' v x σ' nx')
def CallOk (P:Program) (call:Call):Prop:=∀ f args σ nx v σ' nx',call f args σ nx = some (v,σ',nx')→SoundAt P f args σ nx v σ' nx'
def freezeL (σ:Store):List Nat→Store
 | [] => σ
 | b :: bs => freezeL (upd σ b ((σ b).map fun B => { B with wr:=false })) bs
theorem freezeL_spec:∀ (ids:List Nat) (σ:Store) (b:Nat) (B':Blk),freezeL σ ids b = some B'→∃ B,σ b = some B∧B'.cells = B.cells∧B'.st = B.st∧(b ∈ ids→B'.wr = false)∧(B'.wr = true→B.wr = true)
 | [],σ,b,B',h => ⟨B',h,rfl,rfl,(fun h => by cases h),id⟩
 | i :: ids,σ,b,B',h => by
  unfold freezeL at h
  obtain ⟨B,h1,h2,h3,h4,h5⟩:=freezeL_spec ids _ b B' h
  by_cases hb:b = i
  ·subst hb
   rw [upd_same] at h1
   cases hs:σ b with
   | none => rw [hs] at h1; cases h1
   | some A =>
    rw [hs] at h1
    simp only [Option.map_some,Option.some.injEq] at h1; subst h1
    have hw:B'.wr = false:=by
     cases hw:B'.wr with
     | false => rfl
     | true => have:=h5 hw; cases this
    exact ⟨A,rfl,h2,h3,fun _ => hw,fun h => by rw [hw] at h; cases h⟩
  ·rw [upd_ne _ _ hb] at h1
   exact ⟨B,h1,h2,h3,fun hm => h4 (by simpa [hb] using hm),h5⟩
def joinS (nx:Nat) (σ σ1:Store) (ids:List Nat):Store:=fun b => if b < nx then σ b else if b ∈ ids then σ1 b else none
def noStore:Store:=fun _ => none
def depth:Nat:=7
def evCall (conv:FuncId→Conv) (call:Call) (f:FuncId) (args:List V) (σ:Store) (nx:Nat):Res :=
 match conv f with
 | .inl => call f args σ nx
 | .imm => match stripL (strip σ depth) args with
  | some (ts,ids) => match call f ts noStore 0 with
   | some (v,σ1,_) => match strip σ1 depth v with
    | some (t,_) => if ids.isEmpty || flat depth t then some (t,σ,nx) else some (t,freezeL σ ids,nx)
    | none => none
   | none => none
  | none => none
 | .own => match stripL (strip σ depth) args with
  | some (ts,_) => match call f ts noStore nx with
   | some (v,σ1,nx1) => match gather σ1 depth v with
    | some ids => some (v,joinS nx σ σ1 ids,nx1)
    | none => none
   | none => none
  | none => none
theorem Inv.none (s:Sit) (h:∀ k o,s.Z k o→k < s.w.heap.size) (hk:Kn s):Inv s noStore:=⟨fun b B h => (by cases h),fun b b' B B' l l' h => (by cases h),h,hk⟩
def covered (s:Sit) (σ:Store) (ids:List Nat):Sit :=
 ⟨fun k o => s.Z k o∨∃ b,b ∈ ids∧∃ B l,σ b = some B∧s.β b = some l∧l.k = k∧l.o ≤ o∧o < l.o + B.cells.length,fun _ => none,s.w⟩
theorem covers_covered (s:Sit) (σ:Store) (ids:List Nat):Covers s σ ids (covered s σ ids) :=
 ⟨rfl,fun k o z => .inl z,fun b hb B l h1 h2 i hi => .inr ⟨b,hb,B,l,h1,h2,rfl,by omega,by omega⟩⟩
theorem Inv.block_lt {s:Sit} {σ:Store} (h:Inv s σ) {b:Nat} {B:Blk} {l:Loc} (hb:σ b = some B) (hl:s.β b = some l):l.k < s.w.heap.size:=by
 obtain ⟨l',c,e,h1,h2,_⟩:=h.blk b B hb
 rw [hl] at h1; cases h1
 exact (Array.getElem?_eq_some_iff.1 h2).1
theorem covered_zb {s:Sit} {σ:Store} (h:Inv s σ) (ids:List Nat):∀ k o,(covered s σ ids).Z k o→k < (covered s σ ids).w.heap.size:=by
 rintro k o (z | ⟨b,_,B,l,h1,h2,rfl,_⟩)
 ·exact h.zb k o z
 ·exact h.block_lt h1 h2
theorem args_strip {s:Sit} {σ:Store} (h:Inv s σ) {args ts:List V} {ids:List Nat} {vals:List Value} (hs:stripL (strip σ depth) args = some (ts,ids)) (hv:VRs s args vals):VRs (covered s σ ids) ts vals :=
 stripL_sound (s:=s) (σ:=σ) (fun v t ids x s' => strip_sound h depth v t ids x s') hs hv (covers_covered s σ ids)
theorem gatherL_get {f:V→Option (List Nat)}:∀ {vs:List V} {ids:List Nat},gatherL f vs = some ids→∀ {u:V},u ∈ vs→∃ idc,f u = some idc
 | [],_,_,u,h => by cases h
 | v :: vs,ids,h,u,hu => by
  unfold gatherL at h
  split at h
  ·rename_i e1 e2
   rcases List.mem_cons.1 hu with rfl | hu
   ·exact ⟨_,e1⟩
   ·exact gatherL_get e2 hu
  ·cases h
theorem evCall_sound {P:Program} {conv:FuncId→Conv} {call:Call} (hc:CallOk P call) {f:FuncId} {args:List V} {σ:Store} {nx:Nat} {v:V} {σ':Store} {nx':Nat}
  (h:evCall conv call f args σ nx = some (v,σ',nx')):SoundAt P f args σ nx v σ' nx':=by
 unfold evCall at h
 split at h
 ·exact hc _ _ _ _ _ _ _ h
 ·split at h
  ·rename_i ts ids hst
   split at h
   ·rename_i v1 σ1 nx1 hcall
    split at h
    ·rename_i t ids2 hst2
     obtain ⟨_,hca,hsnd⟩:=hc _ _ _ _ _ _ _ hcall
     have key:∀ (s:Sit) (vals:List Value),Inv s σ→VRs s args vals→Calls P f vals.toArray s.w (fun e w' => ∃ s1 x,s1.w = w'∧e = .returned x∧VR (covered s1 σ1 ids2) t x∧Inv s1 σ1∧Nxt (covered s σ ids) noStore s1 σ1):=by
      intro s vals hi hv
      refine (hsnd (covered s σ ids) vals (Inv.none _ (covered_zb hi ids) (hi.kn.same (fun _ _ z => .inl z) rfl)) (fun _ _ _ => rfl) (args_strip hi hst hv)).mono ?_
      rintro e w' ⟨s1,x,rfl,rfl,ho⟩
      exact ⟨s1,x,rfl,rfl,strip_sound ho.inv depth v1 t ids2 x _ hst2 ho.vr (covers_covered s1 σ1 ids2),ho.inv,ho.nxt⟩
     have grow:∀ (σ2:Store),(∀ b B',σ2 b = some B'→∃ B,σ b = some B∧B'.cells = B.cells∧B'.st = B.st∧(b ∈ ids→B'.wr = false)∧(B'.wr = true→B.wr = true))→SoundAt P f args σ nx t σ2 nx:=by
      intro σ2 hσ2
      refine ⟨Nat.le_refl _,hca,fun s vals hi _ hv => (key s vals hi hv).mono ?_⟩
      rintro e w' ⟨s1,x,rfl,rfl,hvr,hi1,hn1⟩
      have hbel:Below s.w.heap.size s.w s1.w:=hn1.below
      let s':Sit:=⟨(covered s1 σ1 ids2).Z,s.β,s1.w⟩
      have hz0:∀ k o,s.Z k o→s'.Z k o:=fun k o z => .inl (hn1.le.zz k o (.inl z))
      have hle:Le s s':=⟨hz0,fun k o z => hbel.cell (p:=⟨k,o,none⟩) (hi.zb k o z),fun _ _ e => e⟩
      have hzn:∀ k o,s'.Z k o→(covered s σ ids).Z k o∨s.w.heap.size ≤ k:=by
       rintro k o (z | ⟨b,_,B,l,h1,h2,rfl,_⟩)
       ·rcases hn1.zn k o z with z | z | ⟨b,B,l,h1,_⟩
        ·exact .inl z
        ·exact .inr z
        ·cases h1
       ·rcases hn1.nb b B l h1 h2 with z | ⟨b,B,l,h1,_⟩
        ·exact .inr z
        ·cases h1
      refine ⟨s',x,rfl,rfl,⟨VR_mono (s:=covered s1 σ1 ids2) (s':=s') ⟨fun _ _ z => z,fun _ _ _ => rfl,fun _ _ e => by cases e⟩ t x hvr,⟨fun b B' hB' => ?_,fun b1 b2 B1 B2 l1 l2 h1 h2 => ?_,fun k o z => ?_,hi.kn.mono hle⟩,⟨hle,fun k o z => ?_,fun k hk _ => hbel.block k hk,fun b B' l h1 h2 => ?_,hbel.size,hbel.os,hbel.tape,hbel.output⟩,fun i h => .inl h⟩⟩
      ·obtain ⟨B,hB,q1,q2,q3,q4⟩:=hσ2 b B' hB'
       obtain ⟨l,c,e,g1,g2,g3,g4,g5,g6,g7⟩:=hi.blk b B hB
       have hlt:=hi.block_lt hB g1
       refine ⟨l,c,e,g1,(hbel.block _ hlt).trans g2,g3,by rw [q1]; exact g4,by rw [q2]; exact g5,fun i u hu => ?_,fun o z => ?_,by rw [q2]; exact g7.2⟩
       ·rw [q1] at hu
        obtain ⟨y,hy,hr⟩:=g6 i u hu
        exact ⟨y,hy,VR_mono hle u y hr⟩
       ·rw [q1]
        rcases hzn _ _ z with (z | ⟨b',hb',B2,l2,h1,h2,h3,h4,h5⟩) | z
        ·obtain ⟨z1,z2⟩:=g7.1 o z
         refine ⟨?_,z2⟩
         cases hw:B'.wr with
         | false => rfl
         | true => rw [q4 hw] at z1; cases z1
        ·have hbb:b' = b:=hi.dis b' b B2 B l2 l h1 hB h2 g1 h3
         subst hbb
         rw [g1] at h2; cases h2
         rw [hB] at h1; cases h1
         exact ⟨q3 hb',h5⟩
        ·omega
      ·obtain ⟨A1,e1,_⟩:=hσ2 _ _ h1
       obtain ⟨A2,e2,_⟩:=hσ2 _ _ h2
       exact hi.dis b1 b2 A1 A2 l1 l2 e1 e2
      ·rcases z with z | ⟨b,_,B,l,h1,h2,rfl,_⟩
       ·exact hi1.zb k o z
       ·exact hi1.block_lt h1 h2
      ·rcases hzn k o z with (z | ⟨b',hb',B2,l2,h1,h2,h3,h4,h5⟩) | z
       ·exact .inl z
       ·exact .inr (.inr ⟨b',B2,l2,h1,h2,h3⟩)
       ·exact .inr (.inl z)
      ·obtain ⟨B,hB,_⟩:=hσ2 b B' h1
       exact .inr ⟨b,B,l,hB,h2,rfl⟩
     split at h
     ·rename_i hcond
      simp only [Option.some.injEq,Prod.mk.injEq] at h; obtain ⟨rfl,rfl,rfl⟩:=h
      rcases Bool.or_eq_true _ _ ▸ hcond with he | he
      ·have:ids = []:=by simpa using he
       subst this
       exact grow _ (fun b B' h => ⟨B',h,rfl,rfl,(fun h => by cases h),id⟩)
      ·refine ⟨Nat.le_refl _,hca,fun s vals hi _ hv => (key s vals hi hv).mono ?_⟩
       rintro e w' ⟨s1,x,rfl,rfl,hvr,hi1,hn1⟩
       obtain ⟨_,hinv,hnxt⟩:=hi.grow (w':=s1.w) hn1.below
       exact ⟨{ s with w:=s1.w },x,rfl,rfl,⟨flat_sound depth _ x he hvr,hinv,hnxt,fun i h => .inl h⟩⟩
     ·simp only [Option.some.injEq,Prod.mk.injEq] at h; obtain ⟨rfl,rfl,rfl⟩:=h
      exact grow _ (fun b B' h => freezeL_spec ids σ b B' h)
    ·cases h
   ·cases h
  ·cases h
 ·split at h
  ·rename_i ts ids hst
   split at h
   ·rename_i v1 σ1 nx1 hcall
    split at h
    ·rename_i ids2 hga
     simp only [Option.some.injEq,Prod.mk.injEq] at h; obtain ⟨rfl,rfl,rfl⟩:=h
     obtain ⟨hnn,hca,hsnd⟩:=hc _ _ _ _ _ _ _ hcall
     refine ⟨hnn,hca,fun s vals hi hfr hv => (hsnd (covered s σ ids) vals (Inv.none _ (covered_zb hi ids) (hi.kn.same (fun _ _ z => .inl z) rfl)) (fun _ _ _ => rfl) (args_strip hi hst hv)).mono ?_⟩
     rintro e w' ⟨s1,x,rfl,rfl,ho⟩
     obtain ⟨hvr,hi1,hn1,hd1⟩:=ho
     have hbel:Below s.w.heap.size s.w s1.w:=hn1.below
     let β':Nat→Option Loc:=fun b => match s.β b with | some l => some l | none => s1.β b
     let s':Sit:=⟨s.Z,β',s1.w⟩
     have hβ0:∀ b l,s.β b = some l→s'.β b = some l:=fun b l h => by show β' b = _; simp only [β',h]
     have hβ1:∀ b l,s1.β b = some l→s'.β b = some l:=fun b l h => by
      have h3:s1.β b ≠ none:=by rw [h]; simp
      rcases hd1 b h3 with h4 | h4
      ·exact absurd rfl h4
      ·show β' b = _
       simp only [β',hfr b h4.1 h4.2,h]
     have hle:Le s s':=⟨fun _ _ z => z,fun k o z => hbel.cell (p:=⟨k,o,none⟩) (hi.zb k o z),hβ0⟩
     have hj:∀ b B,joinS nx σ σ1 ids2 b = some B→(b < nx∧σ b = some B)∨(¬ b < nx∧b ∈ ids2∧σ1 b = some B):=fun b B h => by
      unfold joinS at h
      split at h
      ·rename_i hlt; exact .inl ⟨hlt,h⟩
      ·rename_i hlt
       split at h
       ·rename_i hm; exact .inr ⟨hlt,hm,h⟩
       ·cases h
     have hnew:∀ b B l,σ1 b = some B→s1.β b = some l→s.w.heap.size ≤ l.k:=fun b B l h1 h2 => by
      rcases hn1.nb b B l h1 h2 with h | ⟨b0,B0,l0,h,_⟩
      ·exact h
      ·cases h
     refine ⟨s',x,rfl,rfl,⟨gather_vr hβ1 depth _ x ids2 hga hvr,⟨fun b B hB => ?_,fun b1 b2 B1 B2 l1 l2 h1 h2 e1 e2 hk => ?_,fun k o z => Nat.lt_of_lt_of_le (hi.zb k o z) hbel.size,hi.kn.mono hle⟩,
      ⟨hle,fun k o z => .inl z,fun k hk _ => hbel.block k hk,fun b B l h1 h2 => ?_,hbel.size,hbel.os,hbel.tape,hbel.output⟩,fun i h => ?_⟩⟩
     ·rcases hj b B hB with ⟨_,h1⟩ | ⟨_,hm,h1⟩
      ·obtain ⟨l,c,e,g1,g2,g3,g4,g5,g6,g7⟩:=hi.blk b B h1
       have hlt:=hi.block_lt h1 g1
       exact ⟨l,c,e,hβ0 _ _ g1,(hbel.block _ hlt).trans g2,g3,g4,g5,fun i u hu => let ⟨y,hy,hr⟩:=g6 i u hu; ⟨y,hy,VR_mono hle u y hr⟩,g7⟩
      ·obtain ⟨l,c,e,g1,g2,g3,g4,g5,g6,g7⟩:=hi1.blk b B h1
       obtain ⟨B2,d',ids',q1,q2,q3⟩:=gather_mem depth _ ids2 hga b hm
       rw [h1] at q1; cases q1
       have hge:=hnew b _ l h1 g1
       refine ⟨l,c,e,hβ1 _ _ g1,g2,g3,g4,g5,fun i u hu => ?_,fun o z => absurd (hi.zb _ _ z) (by omega),g7.2⟩
       obtain ⟨y,hy,hr⟩:=g6 i u hu
       refine ⟨y,hy,?_⟩
       have hcell:=gatherL_get q2 (List.mem_of_getElem? hu)
       obtain ⟨idc,hidc⟩:=hcell
       exact gather_vr hβ1 d' u y idc hidc hr
     ·rcases hj b1 B1 h1 with ⟨_,p1⟩ | ⟨_,hm1,p1⟩ <;> rcases hj b2 B2 h2 with ⟨_,p2⟩ | ⟨_,hm2,p2⟩
      ·obtain ⟨l,_,_,g1,_⟩:=hi.blk b1 B1 p1
       obtain ⟨l',_,_,g1',_⟩:=hi.blk b2 B2 p2
       rw [hβ0 _ _ g1] at e1; cases e1
       rw [hβ0 _ _ g1'] at e2; cases e2
       exact hi.dis b1 b2 B1 B2 _ _ p1 p2 g1 g1' hk
      ·obtain ⟨l,_,_,g1,_⟩:=hi.blk b1 B1 p1
       obtain ⟨l',_,_,g1',_⟩:=hi1.blk b2 B2 p2
       rw [hβ0 _ _ g1] at e1; cases e1
       rw [hβ1 _ _ g1'] at e2; cases e2
       have:=hi.block_lt p1 g1
       have:=hnew b2 B2 _ p2 g1'
       omega
      ·obtain ⟨l,_,_,g1,_⟩:=hi1.blk b1 B1 p1
       obtain ⟨l',_,_,g1',_⟩:=hi.blk b2 B2 p2
       rw [hβ1 _ _ g1] at e1; cases e1
       rw [hβ0 _ _ g1'] at e2; cases e2
       have:=hi.block_lt p2 g1'
       have:=hnew b1 B1 _ p1 g1
       omega
      ·obtain ⟨l,_,_,g1,_⟩:=hi1.blk b1 B1 p1
       obtain ⟨l',_,_,g1',_⟩:=hi1.blk b2 B2 p2
       rw [hβ1 _ _ g1] at e1; cases e1
       rw [hβ1 _ _ g1'] at e2; cases e2
       exact hi1.dis b1 b2 B1 B2 _ _ p1 p2 g1 g1' hk
     ·rcases hj b B h1 with ⟨_,p1⟩ | ⟨_,hm1,p1⟩
      ·obtain ⟨l',_,_,g1,_⟩:=hi.blk b B p1
       rw [hβ0 _ _ g1] at h2; cases h2
       exact .inr ⟨b,B,_,p1,g1,rfl⟩
      ·obtain ⟨l',_,_,g1,_⟩:=hi1.blk b B p1
       rw [hβ1 _ _ g1] at h2; cases h2
       exact .inl (hnew b B _ p1 g1)
     ·cases hsi:s.β i with
      | some l => exact .inl (by simp)
      | none =>
       have:s1.β i ≠ none:=by
        intro e
        apply h
        show β' i = none
        simp only [β',hsi,e]
       rcases hd1 i this with h4 | h4
       ·exact absurd rfl h4
       ·exact .inr h4
    ·cases h
   ·cases h
  ·cases h
end Go.TV
namespace Go.TV
open Go.RowKit
set_option linter.unusedVariables false
set_option linter.unusedSimpArgs false
variable [Known]
def evCopy (P:Program) (ts:Array TypeId) (d x:V) (σ:Store) (nx:Nat):Res :=
 match ts[0]? with
 | some t => match P.underlying t with
  | some (.slice e) => match P.info? e,rowOf σ 1 x with
   | some i,some (row,m) => if i.size = 1∧ts.size = 2 then
     match d with
     | .rs b off len => if min m len = 0 then some (.sc (.int .i64 0),σ,nx) else
      match σ b with
      | some B => if B.wr = true∧off + min m len ≤ B.cells.length∧(row.take (min m len)).all isCell = true then
        some (.sc (.int .i64 (min m len:Nat)),upd σ b (some { B with cells:=patch B.cells off (row.take (min m len)) }),nx) else none
      | none => none
     | .nil => some (.sc (.int .i64 0),σ,nx)
     | _ => none
    else none
   | _,_ => none
  | _ => none
 | none => none
def evClear (P:Program) (ts:Array TypeId) (d:V) (σ:Store) (nx:Nat):Res :=
 match ts[0]? with
 | some t => match P.underlying t with
  | some (.slice e) => match P.info? e with
   | some i => match i.zero with
    | some z => if i.size = 1∧z.cells.size = 1 then
      match d with
      | .rs b off len => if len = 0 then some (.tup [],σ,nx) else
       match σ b with
       | some B => if B.wr = true∧off + len ≤ B.cells.length∧(rep len (z.cells.toList.map ofCell)).all isCell = true then
         some (.tup [],upd σ b (some { B with cells:=patch B.cells off (rep len (z.cells.toList.map ofCell)) }),nx) else none
       | none => none
      | .nil => some (.tup [],σ,nx)
      | .ts _ len => if len = 0 then some (.tup [],σ,nx) else none
      | _ => none
     else none
    | none => none
   | none => none
  | _ => none
 | none => none
theorem copy_sound {P:Program} {s:Sit} {σ:Store} (hi:Inv s σ) {nx nx':Nat} {σ':Store} {ts:Array TypeId} {ty:TypeId} {d x v:V} {yd yx:Value} (h:evCopy P ts d x σ nx = some (v,σ',nx')) (hd:VR s d yd) (hx:VR s x yx) :
  ∃ s' y,(Builtin.copy_ ts ty #[yd,yx]).run P s.w = .ok y s'.w∧Out s σ nx s' v y σ' nx':=by
 unfold evCopy at h
 split at h
 ·rename_i t ht0
  split at h
  ·rename_i e hu
   split at h
   ·rename_i i row m hinf hrow
    split at h
    ·rename_i hc
     obtain ⟨hs1,hts⟩:=hc
     obtain ⟨t2,rfl⟩:∃ t2,ts = #[t,t2]:=by
      rcases ts with ⟨l⟩
      rcases l with _ | ⟨a,_ | ⟨b,_ | ⟨c,l⟩⟩⟩ <;> simp_all
     have hsz:(P.info? e).map (·.size) = some 1:=by rw [hinf]; simp [hs1]
     obtain ⟨ao,xc,rfl,hxc,hrl,hread⟩:=rowOf_sound hi hx hrow
     rw [Nat.mul_one] at hrl
     split at h
     ·rename_i b off len
      have hd0:=hd
      unfold VR at hd
      obtain ⟨l,cap,hl,rfl,hcap,hend⟩:=hd
      split at h
      ·rename_i h0
       simp only [Option.some.injEq,Prod.mk.injEq] at h; obtain ⟨rfl,rfl,rfl⟩:=h
       exact ⟨s,_,run_copy_none (P:=P) s.w t t2 ty e _ _ len cap m xc hu hsz h0,Out.same hi (VR_sc rfl)⟩
      ·rename_i h0
       split at h
       ·rename_i B hb
        split at h
        ·rename_i hcw
         obtain ⟨hw,hfit,hall⟩:=hcw
         simp only [Option.some.injEq,Prod.mk.injEq] at h; obtain ⟨rfl,rfl,rfl⟩:=h
         obtain ⟨l',c,e',g1,g2,g3,g4,g5,g6,g7⟩:=hi.blk b B hb
         rw [hl] at g1; cases g1
         rcases hread with rfl | ⟨k,o,rfl,cs,hcs,hrd⟩
         ·simp only [List.length_nil] at hrl; subst hrl; exact absurd (Nat.zero_min len) h0
         ·have hct:=VRs_take hcs (min m len)
          have hcl:(cs.take (min m len)).length = min m len:=by
           rw [List.length_take,← VRs_length hcs,hrl]; omega
          have hrun:=run_copy_row (P:=P) s.w t t2 ty e l.k (l.o + off) len cap ⟨k,o,none⟩ m xc c e' (cs.take (min m len)) hu hsz g2 hcl
           (fun j v hv => by
            rw [Addr.add_lit]
            rw [List.getElem?_take] at hv
            split at hv
            ·exact hrd j v hv
            ·cases hv) (by rw [hcl]; omega) (oneCells_of hct hall)
          have hwo:=write_out hi hb hw hl g2 (off:=off) hct (by rw [List.length_take]; omega)
          rw [patch_eq _ _ _ (by rw [List.length_take]; omega)]
          refine ⟨_,_,hrun,⟨?_,hwo.1,hwo.2,fun i h => .inl h⟩⟩
          rw [hcl]
          exact VR_sc rfl
        ·cases h
       ·cases h
     ·simp only [Option.some.injEq,Prod.mk.injEq] at h; obtain ⟨rfl,rfl,rfl⟩:=h
      unfold VR at hd
      obtain ⟨a0,rfl⟩:=hd
      exact ⟨s,_,run_copy_none (P:=P) s.w t t2 ty e _ _ 0 0 m xc hu hsz (Nat.min_zero m),Out.same hi (VR_sc rfl)⟩
     ·cases h
    ·cases h
   ·cases h
  ·cases h
 ·cases h
theorem zeroCells_one {z:Array Value} (h:z.size = 1) (n:Nat):(Builtin.zeroCells z n).toList = (List.replicate n z.toList).flatten:=by
 obtain ⟨v,rfl⟩:∃ v,z = #[v]:=by
  rcases z with ⟨l⟩
  rcases l with _ | ⟨a,_ | ⟨b,l⟩⟩ <;> simp_all
 unfold Builtin.zeroCells
 simp
 induction n with
 | zero => rfl
 | succ n ih => rw [List.range_succ,List.map_append,ih,List.replicate_succ']; simp [Nat.mod_one]
theorem VRs_repL {s:Sit} {vs:List V} {xs:List Value} (h:VRs s vs xs):∀ n,VRs s (rep n vs) (List.replicate n xs).flatten
 | 0 => by unfold rep; simp only [List.replicate_zero,List.flatten_nil]; unfold VRs; rfl
 | n + 1 => by
  unfold rep
  rw [List.replicate_succ,List.replicate_succ,List.flatten_cons,List.flatten_cons]
  exact VRs_append h (VRs_repL h n)
theorem clear_sound {P:Program} {s:Sit} {σ:Store} (hi:Inv s σ) {nx nx':Nat} {σ':Store} {ts:Array TypeId} {ty:TypeId} {d v:V} {yd:Value} (h:evClear P ts d σ nx = some (v,σ',nx')) (hd:VR s d yd) :
  ∃ s' y,(Builtin.clear_ ts ty #[yd]).run P s.w = .ok y s'.w∧Out s σ nx s' v y σ' nx':=by
 unfold evClear at h
 split at h
 ·rename_i t ht0
  split at h
  ·rename_i e hu
   split at h
   ·rename_i i hinf
    split at h
    ·rename_i z hz
     split at h
     ·rename_i hc
      obtain ⟨hs1,hz1⟩:=hc
      have hnull:∀ a c,(Builtin.clear_ ts ty #[.slice a 0 c]).run P s.w = .ok (.tuple #[]) s.w:=fun a c => by
       cases a <;> simp [Builtin.clear_,ht0,run_underlying hu]
      have htup:VR s (.tup []) (.tuple #[]):=by unfold VR; exact ⟨#[],rfl,by unfold VRs; rfl⟩
      split at h
      ·rename_i b off len
       unfold VR at hd
       obtain ⟨l,cap,hl,rfl,hcap,hend⟩:=hd
       split at h
       ·rename_i h0
        subst h0
        simp only [Option.some.injEq,Prod.mk.injEq] at h; obtain ⟨rfl,rfl,rfl⟩:=h
        exact ⟨s,_,hnull _ _,Out.same hi htup⟩
       ·rename_i h0
        split at h
        ·rename_i B hb
         split at h
         ·rename_i hcw
          obtain ⟨hw,hfit,hall⟩:=hcw
          simp only [Option.some.injEq,Prod.mk.injEq] at h; obtain ⟨rfl,rfl,rfl⟩:=h
          obtain ⟨l',c,e',g1,g2,g3,g4,g5,g6,g7⟩:=hi.blk b B hb
          rw [hl] at g1; cases g1
          have hvr:=VRs_repL (VRs_map (s:=s) z.cells.toList) len
          have hrl:(rep len (z.cells.toList.map ofCell)).length = len:=by
           unfold rep
           simp [hz1]
          have hcl:(List.replicate len z.cells.toList).flatten.length = len:=by rw [← VRs_length hvr,hrl]
          have hst:=run_storeCells_at P l.k (l.o + off) e' (List.replicate len z.cells.toList).flatten 0 c s.w g2 (by rw [hcl]; omega) (oneCells_of hvr hall)
          simp only [Nat.add_zero] at hst
          rw [← zeroCells_one hz1] at hst
          have hrun:(Builtin.clear_ ts ty #[.slice (some ⟨l.k,l.o + off,none⟩) len cap]).run P s.w = .ok (.tuple #[]) (s.w.setRow l.k (c.toList.take (l.o + off) ++ (Builtin.zeroCells z.cells len).toList ++ c.toList.drop (l.o + off + (Builtin.zeroCells z.cells len).toList.length)).toArray):=by
           cases len with
           | zero => exact absurd rfl h0
           | succ n =>
            simp [Builtin.clear_,ht0,run_underlying hu,zeroValue,typeInfo,hinf,hz]
            rw [hst]
            simp
          rw [zeroCells_one hz1] at hrun
          have hwo:=write_out hi hb hw hl g2 (off:=off) hvr (by rw [hrl]; exact hfit)
          rw [patch_eq _ _ _ (by rw [hrl]; exact hfit)]
          refine ⟨_,_,hrun,⟨?_,hwo.1,hwo.2,fun i h => .inl h⟩⟩
          unfold VR; exact ⟨#[],rfl,by unfold VRs; rfl⟩
         ·cases h
        ·cases h
      ·simp only [Option.some.injEq,Prod.mk.injEq] at h; obtain ⟨rfl,rfl,rfl⟩:=h
       unfold VR at hd
       obtain ⟨a0,rfl⟩:=hd
       exact ⟨s,_,hnull _ _,Out.same hi htup⟩
      ·rename_i row len
       split at h
       ·rename_i h0
        subst h0
        simp only [Option.some.injEq,Prod.mk.injEq] at h; obtain ⟨rfl,rfl,rfl⟩:=h
        unfold VR at hd
        obtain ⟨a0,c0,rfl,_⟩:=hd
        exact ⟨s,_,hnull _ _,Out.same hi htup⟩
       ·cases h
      ·cases h
     ·cases h
    ·cases h
   ·cases h
  ·cases h
 ·cases h
end Go.TV
namespace Go.TV
open Go.RowKit
set_option linter.unusedVariables false
set_option linter.unusedSimpArgs false
variable [Known]
def val (T:Nat→V):Operand→V
 | .tmp t => T t
 | .const v => ofVal v
 | .func f => .clo f []
 | .global _ => .junk
def evLen (P:Program) (t:TypeId) (x:V):Option V :=
 match x with
 | .sc (.string s) => match P.underlying t with
  | some .string => some (.sc (.int .i64 s.size))
  | _ => none
 | .nil => match P.underlying t with
  | some (.slice _) => some (.sc (.int .i64 0))
  | _ => none
 | .ts _ len | .rs _ _ len => match P.underlying t with
  | some (.slice _) => some (.sc (.int .i64 len))
  | _ => none
 | _ => none
def toVals:List V→Option (List Value)
 | [] => some []
 | v :: vs => match toVal v,toVals vs with
  | some x,some xs => some (x :: xs)
  | _,_ => none
def evBuiltin (P:Program) (b:Builtin) (ts:Array TypeId) (ty:TypeId) (args:List V) (σ:Store) (nx:Nat):Res :=
 match b,args with
 | .len,[x] => match ts[0]? with
  | some t => (evLen P t x).map (·,σ,nx)
  | none => none
 | .append,[d,x] => if ts.size = 2 then evAppend P ts d x σ nx else none
 | .copy,[d,x] => evCopy P ts d x σ nx
 | .clear,[d] => evClear P ts d σ nx
 | .min,args => match toVals args with
  | some xs => (evPure P (Builtin.min_ ts ty xs.toArray)).bind fun r => if atom r then some (.sc r,σ,nx) else none
  | none => none
 | .max,args => match toVals args with
  | some xs => (evPure P (Builtin.max_ ts ty xs.toArray)).bind fun r => if atom r then some (.sc r,σ,nx) else none
  | none => none
 | _,_ => none
def evOp (P:Program) (conv:FuncId→Conv) (call:Call) (o:Oper) (T:Nat→V) (σ:Store) (nx:Nat):Res :=
 match o.op with
 | .move x => some (val T x,σ,nx)
 | .assign x => some (val T x,σ,nx)
 | .pick c a b => match val T c with
  | .sc (.bool t) => some (if t then val T a else val T b,σ,nx)
  | _ => none
 | .alloc t => match P.info? t with
  | some i => match i.zero with
   | some z => some (.rp nx 0,evBox σ nx (z.cells.toList.map ofCell) (boxSt t (z.cells.toList.map ofCell)),nx + 1)
   | none => none
  | none => none
 | .box t x => match cellsOfV (val T x) with
  | some cs => some (.rp nx 0,evBox σ nx cs 0,nx + 1)
  | none => none
 | .build t parts => (evBuild P t (parts.toList.map fun p => (p.1,val T p.2))).map (·,σ,nx)
 | .buildSlice t len parts => if len = 0 && !parts.isEmpty then none else evBuildSlice P t len (parts.toList.map fun p => (p.1,val T p.2)) σ nx
 | .load t a => (evLoad P σ t (val T a)).map (·,σ,nx)
 | .store t a x => (evStore P σ t (val T a) (val T x)).map (.tup [],·,nx)
 | .nilCheck x => match val T x with
  | .tp row off => some (.tp row off,σ,nx)
  | .rp b off => some (.rp b off,σ,nx)
  | _ => none
 | .binOp op t x y _ => (evBin P op t x y (val T x) (val T y)).map (·,σ,nx)
 | .unOp op _ x => (evUn P op (val T x)).map (·,σ,nx)
 | .convert s d x => (evConvert P s d (val T x) σ).map (·,σ,nx)
 | .makeFunc fn first cap => match fn with
  | .func f => if first.isEmpty then some (.clo f (cap.toList.map (val T)),σ,nx) else none
  | _ => none
 | .makeSlice t l c => evMake P t (val T l) (val T c) σ nx
 | .slice t x lo hi mx => (evSlice P t (val T x) (lo.map (val T)) (hi.map (val T)) (mx.map (val T)) σ).map (·,σ,nx)
 | .fieldAddr t x f => (evFieldAddr P t (val T x) f).map (·,σ,nx)
 | .field t x f => (evField P t (val T x) f).map (·,σ,nx)
 | .indexAddr t x i => (evIndexAddr P t (val T x) (val T i)).map (·,σ,nx)
 | .index t x i => (evIndex P t (val T x) (val T i)).map (·,σ,nx)
 | .extract t i => match val T t with
  | .tup vs => (vs[i]?).map (·,σ,nx)
  | _ => none
 | .call c => match c.callee with
  | .value f => match val T f with
   | .clo g cs => evCall conv call g (c.args.toList.map (val T) ++ cs) σ nx
   | _ => none
  | .builtin b => evBuiltin P b c.argTypes o.type (c.args.toList.map (val T)) σ nx
  | _ => none
 | _ => none
def TR (s:Sit) (T:Nat→V) (tmps:Array Value):Prop:=∀ t,VR s (T t) (tmps.getD t undef)
theorem TR.mono {s s':Sit} {T:Nat→V} {tmps:Array Value} (h:TR s T tmps) (hl:Le s s'):TR s' T tmps:=fun t => VR_mono hl _ _ (h t)
theorem val_sound {s:Sit} {T:Nat→V} {a:Act} (h:TR s T a.tmps) (x:Operand):VR s (val T x) (a.eval x):=by
 cases x with
 | tmp t => exact h t
 | const v => exact VR_ofVal s v
 | global g => unfold val VR; trivial
 | func f => unfold val VR; exact ⟨#[],rfl,by unfold VRs; rfl⟩
theorem vals_sound {s:Sit} {T:Nat→V} {a:Act} (h:TR s T a.tmps):∀ xs:List Operand,VRs s (xs.map (val T)) (xs.map a.eval)
 | [] => by unfold VRs; rfl
 | x :: xs => by unfold VRs; exact ⟨_,_,rfl,val_sound h x,vals_sound h xs⟩
theorem toVals_sound {s:Sit}:∀ {vs:List V} {us xs:List Value},toVals vs = some us→VRs s vs xs→xs = us
 | [],us,xs,h,hx => by simp only [toVals,Option.some.injEq] at h; unfold VRs at hx; rw [hx,h]
 | v :: vs,us,xs,h,hx => by
  unfold VRs at hx
  obtain ⟨y,ys,rfl,h1,h2⟩:=hx
  unfold toVals at h
  split at h
  ·rename_i u us' e1 e2
   simp only [Option.some.injEq] at h; subst h
   rw [toVals_sound e2 h2,toVal_sound e1 h1]
  ·cases h
section
variable {P:Program}
theorem wp_value {o:Oper} {a:Act} {w w':World} {K:Act→World→Prop} {Q:Exit→Act→World→Prop} {x:Value} (h:(execOp a.eval o).run P w = .ok (.value x) w') (hK:K (a.put o.dst x) w'):o.wp P a w K Q:=by
 unfold Oper.wp; rw [h]; exact hK
theorem wp_skipped {o:Oper} {a:Act} {w w':World} {K:Act→World→Prop} {Q:Exit→Act→World→Prop} (h:(execOp a.eval o).run P w = .ok .skip w') (hK:K (a.put o.dst undef) w'):o.wp P a w K Q:=by
 unfold Oper.wp; rw [h]; exact hK
theorem len_sound {s:Sit} {t ty:TypeId} {ts:Array TypeId} {x v:V} {y:Value} (ht:ts[0]? = some t) (h:evLen P t x = some v) (hx:VR s x y) :
  ∃ z,(Builtin.len_ ts ty #[y]).run P s.w = .ok z s.w∧VR s v z:=by
 unfold evLen at h
 split at h
 ·split at h
  ·rename_i hund
   simp only [Option.some.injEq] at h; subst h
   unfold VR at hx; obtain ⟨rfl,_⟩:=hx
   exact ⟨_,by simp [Builtin.len_,ht,run_underlying hund,goInt],VR_sc rfl⟩
  ·cases h
 ·split at h
  ·rename_i hund
   simp only [Option.some.injEq] at h; subst h
   unfold VR at hx; obtain ⟨a,rfl⟩:=hx
   exact ⟨_,by simp [Builtin.len_,ht,run_underlying hund,goInt],VR_sc rfl⟩
  ·cases h
 ·split at h
  ·rename_i hund
   simp only [Option.some.injEq] at h; subst h
   unfold VR at hx; obtain ⟨a,cap,rfl,_⟩:=hx
   exact ⟨_,by simp [Builtin.len_,ht,run_underlying hund,goInt],VR_sc rfl⟩
  ·cases h
 ·split at h
  ·rename_i hund
   simp only [Option.some.injEq] at h; subst h
   unfold VR at hx; obtain ⟨l,cap,_,rfl,_⟩:=hx
   exact ⟨_,by simp [Builtin.len_,ht,run_underlying hund,goInt],VR_sc rfl⟩
  ·cases h
 ·cases h
theorem builtin_sound {s:Sit} {σ:Store} (hi:Inv s σ) {b:Builtin} {ts:Array TypeId} {ty:TypeId} {consts:Array Bool} {args:List V} {vals:List Value} {nx nx':Nat} {v:V} {σ':Store} (h:evBuiltin P b ts ty args σ nx = some (v,σ',nx'))
  (hn:Fresh s nx nx') (ha:VRs s args vals):∃ s' y,(builtin b ts ty consts vals.toArray).run P s.w = .ok (.value y) s'.w∧Out s σ nx s' v y σ' nx':=by
 unfold evBuiltin at h
 split at h
 ·rename_i x
  split at h
  ·rename_i t ht
   cases he:evLen P t x with
   | none => rw [he] at h; cases h
   | some u =>
    rw [he] at h
    simp only [Option.map_some,Option.some.injEq,Prod.mk.injEq] at h; obtain ⟨rfl,rfl,rfl⟩:=h
    unfold VRs at ha
    obtain ⟨y,ys,rfl,hy,hys⟩:=ha
    unfold VRs at hys
    subst hys
    obtain ⟨z,hz,hr⟩:=len_sound (ty:=ty) ht he hy
    exact ⟨s,z,by simp [builtin,hz],Out.same hi hr⟩
  ·cases h
 ·rename_i d x
  split at h
  ·rename_i h2
   unfold VRs at ha
   obtain ⟨y,ys,rfl,hy,hys⟩:=ha
   unfold VRs at hys
   obtain ⟨z,zs,rfl,hz,hzs⟩:=hys
   unfold VRs at hzs
   subst hzs
   obtain ⟨s',u,hu,ho⟩:=append_sound (ty:=ty) hi h h2 hn hy hz
   exact ⟨s',u,by simp [builtin,hu],ho⟩
  ·cases h
 ·rename_i d x
  unfold VRs at ha
  obtain ⟨y,ys,rfl,hy,hys⟩:=ha
  unfold VRs at hys
  obtain ⟨z,zs,rfl,hz,hzs⟩:=hys
  unfold VRs at hzs
  subst hzs
  obtain ⟨s',u,hu,ho⟩:=copy_sound (ty:=ty) hi h hy hz
  exact ⟨s',u,by simp [builtin,hu],ho⟩
 ·rename_i d
  unfold VRs at ha
  obtain ⟨y,ys,rfl,hy,hys⟩:=ha
  unfold VRs at hys
  subst hys
  obtain ⟨s',u,hu,ho⟩:=clear_sound (ty:=ty) hi h hy
  exact ⟨s',u,by simp [builtin,hu],ho⟩
 ·split at h
  ·rename_i xs hxs
   rw [toVals_sound hxs ha]
   cases hp:evPure P (Builtin.min_ ts ty xs.toArray) with
   | none => rw [hp] at h; cases h
   | some r =>
    rw [hp] at h
    simp only [Option.bind_some] at h
    split at h
    ·rename_i hat
     simp only [Option.some.injEq,Prod.mk.injEq] at h; obtain ⟨rfl,rfl,rfl⟩:=h
     exact ⟨s,r,by simp [builtin,run_of_evPure _ hp],Out.same hi (VR_sc hat)⟩
    ·cases h
  ·cases h
 ·split at h
  ·rename_i xs hxs
   rw [toVals_sound hxs ha]
   cases hp:evPure P (Builtin.max_ ts ty xs.toArray) with
   | none => rw [hp] at h; cases h
   | some r =>
    rw [hp] at h
    simp only [Option.bind_some] at h
    split at h
    ·rename_i hat
     simp only [Option.some.injEq,Prod.mk.injEq] at h; obtain ⟨rfl,rfl,rfl⟩:=h
     exact ⟨s,r,by simp [builtin,run_of_evPure _ hp],Out.same hi (VR_sc hat)⟩
    ·cases h
  ·cases h
 ·cases h
theorem map_some' {α β:Type} {o:Option α} {f:α→β} {b:β} (h:o.map f = some b):∃ a,o = some a∧f a = b:=by
 cases o with
 | none => cases h
 | some a => exact ⟨a,rfl,by simpa using h⟩
theorem op_sound {conv:FuncId→Conv} {call:Call} (hc:CallOk P call) {o:Oper} {T:Nat→V} {σ σ':Store} {nx nx':Nat} {v:V} (h:evOp P conv call o T σ nx = some (v,σ',nx')) {s:Sit} {a:Act} (hi:Inv s σ) (hT:TR s T a.tmps) (hn:Fresh s nx nx')
  {K:Act→World→Prop} {Q:Exit→Act→World→Prop} (hK:∀ s' x,Out s σ nx s' v x σ' nx'→K (a.put o.dst x) s'.w):o.wp P a s.w K Q:=by
 obtain ⟨dst,op,type,pos,after,guard⟩:=o
 have hv:=fun x => val_sound hT x
 have pureCase:∀ (m:Sem Value) (z:Value),(execOp a.eval ⟨dst,op,type,pos,after,guard⟩) = (do pure (.value (← m)):Sem Next)→m.run P s.w = .ok z s.w→VR s v z→σ' = σ→Oper.wp P ⟨dst,op,type,pos,after,guard⟩ a s.w K Q:=by
  intro m z he hr hz hs
  subst hs
  refine wp_value (w':=s.w) (x:=z) (by rw [he]; simp [hr]) (hK s z (Out.same hi hz))
 cases op <;> simp only [evOp] at h
 case move x =>
  simp only [Option.some.injEq,Prod.mk.injEq] at h; obtain ⟨rfl,rfl,rfl⟩:=h
  exact wp_value (w':=s.w) rfl (hK s _ (Out.same hi (hv x)))
 case assign x =>
  simp only [Option.some.injEq,Prod.mk.injEq] at h; obtain ⟨rfl,rfl,rfl⟩:=h
  exact wp_value (w':=s.w) rfl (hK s _ (Out.same hi (hv x)))
 case pick c x y =>
  split at h
  ·rename_i t hct
   simp only [Option.some.injEq,Prod.mk.injEq] at h; obtain ⟨rfl,rfl,rfl⟩:=h
   have hcv:=hv c
   rw [hct] at hcv
   unfold VR at hcv
   refine wp_value (w':=s.w) (x:=if t then a.eval x else a.eval y) (by simp [execOp,hcv.1,asBool]) (hK s _ (Out.same hi ?_))
   cases t
   ·exact hv y
   ·exact hv x
  ·cases h
 case alloc t =>
  split at h
  ·rename_i i hinf
   split at h
   ·rename_i z hz
    simp only [Option.some.injEq,Prod.mk.injEq] at h; obtain ⟨rfl,rfl,rfl⟩:=h
    obtain ⟨s',y,h1,h2⟩:=alloc_sound (P:=P) hi hn hinf hz
    exact wp_value (by simp [execOp,h1]) (hK s' y h2)
   ·cases h
  ·cases h
 case box t x =>
  split at h
  ·rename_i cs hcs
   simp only [Option.some.injEq,Prod.mk.injEq] at h; obtain ⟨rfl,rfl,rfl⟩:=h
   obtain ⟨s',y,h1,h2⟩:=box_sound (P:=P) hi hn (t:=t) (st:=0) (fun h => absurd h (by decide)) (cellsOfV_sound hcs (hv x))
   exact wp_value (by simp [execOp,h1]) (hK s' y h2)
  ·cases h
 case build t parts =>
  obtain ⟨u,hu,he⟩:=map_some' h
  simp only [Prod.mk.injEq] at he; obtain ⟨rfl,rfl,rfl⟩:=he
  obtain ⟨z,hz,hr⟩:=build_sound (ps:=parts.map fun p => (p.1,a.eval p.2)) hu (by simp) (fun i p q h1 h2 => by
   simp only [Array.toList_map,List.getElem?_map] at h1 h2
   cases hp:parts.toList[i]? with
   | none => rw [hp] at h1; cases h1
   | some e =>
    rw [hp] at h1 h2
    simp only [Option.map_some,Option.some.injEq] at h1 h2
    subst h1; subst h2; exact hv _)
  exact pureCase _ z rfl hz hr rfl
 case buildSlice t len parts =>
  split at h
  ·cases h
  ·rename_i hne
   obtain ⟨s',y,h1,h2⟩:=buildSlice_sound (ps:=parts.map fun p => (p.1,a.eval p.2)) hi h hn (by simp) (fun i p q h1 h2 => by
    simp only [Array.toList_map,List.getElem?_map] at h1 h2
    cases hp:parts.toList[i]? with
    | none => rw [hp] at h1; cases h1
    | some e =>
     rw [hp] at h1 h2
     simp only [Option.map_some,Option.some.injEq] at h1 h2
     subst h1; subst h2; exact hv _) (fun hl => by
    rw [hl] at hne
    simp only [decide_true,Bool.true_and,Bool.not_eq_true',Bool.not_eq_false] at hne
    have:parts = #[]:=by simpa using hne
    rw [this]; simp)
   exact wp_value (by simp [execOp,h1]) (hK s' y h2)
 case load t x =>
  obtain ⟨u,hu,he⟩:=map_some' h
  simp only [Prod.mk.injEq] at he; obtain ⟨rfl,rfl,rfl⟩:=he
  obtain ⟨z,hz,hr⟩:=load_sound hi (hv x) hu
  exact pureCase _ z rfl hz hr rfl
 case store t x y =>
  obtain ⟨u,hu,he⟩:=map_some' h
  simp only [Prod.mk.injEq] at he; obtain ⟨rfl,rfl,rfl⟩:=he
  obtain ⟨w',h1,h2,h3⟩:=store_sound hi (hv x) (hv y) hu
  exact wp_skipped (w':=w') (by simp [execOp,h1]) (hK { s with w:=w' } undef ⟨by unfold VR; exact ⟨#[],rfl,by unfold VRs; rfl⟩,h2,h3,fun i h => .inl h⟩)
 case nilCheck x =>
  have hx:=hv x
  split at h
  ·rename_i row off e
   simp only [Option.some.injEq,Prod.mk.injEq] at h; obtain ⟨rfl,rfl,rfl⟩:=h
   rw [e] at hx
   have hx0:=hx
   unfold VR at hx
   obtain ⟨k,o,he,_⟩:=hx
   exact wp_value (w':=s.w) (x:=a.eval x) (by simp only [execOp,he]; rfl) (hK s _ (Out.same hi hx0))
  ·rename_i b off e
   simp only [Option.some.injEq,Prod.mk.injEq] at h; obtain ⟨rfl,rfl,rfl⟩:=h
   rw [e] at hx
   have hx0:=hx
   unfold VR at hx
   obtain ⟨l,_,he⟩:=hx
   exact wp_value (w':=s.w) (x:=a.eval x) (by simp only [execOp,he]; rfl) (hK s _ (Out.same hi hx0))
  ·cases h
 case binOp op t x y yt =>
  obtain ⟨u,hu,he⟩:=map_some' h
  simp only [Prod.mk.injEq] at he; obtain ⟨rfl,rfl,rfl⟩:=he
  obtain ⟨z,hz,hr⟩:=bin_sound hu (hv x) (hv y)
  exact pureCase _ z rfl hz hr rfl
 case unOp op t x =>
  obtain ⟨u,hu,he⟩:=map_some' h
  simp only [Prod.mk.injEq] at he; obtain ⟨rfl,rfl,rfl⟩:=he
  obtain ⟨z,hz,hr⟩:=un_sound hu (hv x)
  exact pureCase _ z rfl hz hr rfl
 case convert sr ds x =>
  obtain ⟨u,hu,he⟩:=map_some' h
  simp only [Prod.mk.injEq] at he; obtain ⟨rfl,rfl,rfl⟩:=he
  obtain ⟨z,hz,hr⟩:=convert_sound hi hu (hv x)
  exact pureCase _ z rfl hz hr rfl
 case makeFunc fn first cap =>
  split at h
  ·split at h
   ·rename_i f hfe
    simp only [Option.some.injEq,Prod.mk.injEq] at h; obtain ⟨rfl,rfl,rfl⟩:=h
    have:first = #[]:=by simpa using hfe
    subst this
    refine pureCase (Instr.makeFunc (.func f) #[] (cap.map a.eval)) (.func (.func f) #[] (cap.map a.eval)) (by simp [execOp]) rfl ?_ rfl
    unfold VR
    exact ⟨_,rfl,by rw [Array.toList_map]; exact vals_sound hT _⟩
   ·cases h
  ·cases h
 case makeSlice t l c =>
  obtain ⟨s',y,h1,h2⟩:=make_sound hi h hn (hv l) (hv c)
  exact wp_value (by simp [execOp,h1]) (hK s' y h2)
 case slice t x lo hi' mx =>
  obtain ⟨u,hu,he⟩:=map_some' h
  simp only [Prod.mk.injEq] at he; obtain ⟨rfl,rfl,rfl⟩:=he
  have q:∀ (o:Option Operand) (v:V),o.map (val T) = some v→∃ x,o.map a.eval = some x∧VR s v x:=fun o v h => by
   obtain ⟨y,rfl,rfl⟩:=map_some' h
   exact ⟨_,rfl,hv y⟩
  have qn:∀ (o:Option Operand),o.map (val T) = none→o.map a.eval = none:=fun o h => by
   cases o with
   | none => rfl
   | some y => cases h
  obtain ⟨z,hz,hr⟩:=slice_sound hi hu (hv x) (q lo) (qn lo) (q hi') (qn hi') (q mx) (qn mx)
  exact pureCase _ z rfl hz hr rfl
 case fieldAddr t x f =>
  obtain ⟨u,hu,he⟩:=map_some' h
  simp only [Prod.mk.injEq] at he; obtain ⟨rfl,rfl,rfl⟩:=he
  obtain ⟨z,hz,hr⟩:=fieldAddr_sound hu (hv x)
  exact pureCase _ z rfl hz hr rfl
 case field t x f =>
  obtain ⟨u,hu,he⟩:=map_some' h
  simp only [Prod.mk.injEq] at he; obtain ⟨rfl,rfl,rfl⟩:=he
  obtain ⟨z,hz,hr⟩:=field_sound hu (hv x)
  exact pureCase _ z rfl hz hr rfl
 case indexAddr t x i =>
  obtain ⟨u,hu,he⟩:=map_some' h
  simp only [Prod.mk.injEq] at he; obtain ⟨rfl,rfl,rfl⟩:=he
  obtain ⟨z,hz,hr⟩:=indexAddr_sound hu (hv x) (hv i)
  exact pureCase _ z rfl hz hr rfl
 case index t x i =>
  obtain ⟨u,hu,he⟩:=map_some' h
  simp only [Prod.mk.injEq] at he; obtain ⟨rfl,rfl,rfl⟩:=he
  obtain ⟨z,hz,hr⟩:=index_sound hu (hv x) (hv i)
  exact pureCase _ z rfl hz hr rfl
 case extract t i =>
  split at h
  ·rename_i vs e
   obtain ⟨u,hu,he⟩:=map_some' h
   simp only [Prod.mk.injEq] at he; obtain ⟨rfl,rfl,rfl⟩:=he
   have ht:=hv t
   rw [e] at ht
   unfold VR at ht
   obtain ⟨xs,hx,hr⟩:=ht
   obtain ⟨z,hz,hrz⟩:=VRs_get hr hu
   rw [Array.getElem?_toList] at hz
   refine pureCase (Instr.extract (a.eval t) i) z rfl ?_ hrz rfl
   rw [hx]
   simp [Instr.extract,hz]
  ·cases h
 case call c =>
  obtain ⟨callee,args,argTypes⟩:=c
  cases callee with
  | value f =>
   simp only at h
   split at h
   ·rename_i g cs e
    have hf:=hv f
    rw [e] at hf
    unfold VR at hf
    obtain ⟨xs,hx,hr⟩:=hf
    obtain ⟨hnn,⟨fn,hfn,hbody,hname⟩,hsnd⟩:=evCall_sound hc h
    have hargs:VRs s (args.toList.map (val T) ++ cs) ((args.map a.eval).toList ++ xs.toList):=by
     rw [Array.toList_map]; exact VRs_append (vals_sound hT _) hr
    have hcalls:=hsnd s _ hi hn hargs
    have harr:((args.map a.eval).toList ++ xs.toList).toArray = args.map a.eval ++ xs:=by
     apply Array.ext'; simp
    rw [harr] at hcalls
    have hex:(execOp a.eval ⟨dst,.call ⟨.value f,args,argTypes⟩,type,pos,after,guard⟩).run P s.w = .ok (.enter g (args.map a.eval ++ xs)) s.w:=by
     have h1:¬ fn.name = "runtime.NumGoroutine":=by simpa using hname
     have h2:¬ fn.body = none:=fun e => by rw [e] at hbody; cases hbody
     simp [execOp,resolve,hx,Deferred.ofValue,invoke,callFunc,program,Sem.run,hfn,h1,h2]
    unfold Oper.wp
    rw [hex]
    simp only [Oper.upon]
    refine hcalls.mono ?_
    rintro e w' ⟨s',x,rfl,rfl,ho⟩
    exact hK s' x ho
   ·cases h
  | builtin b =>
   simp only at h
   obtain ⟨s',y,h1,h2⟩:=builtin_sound (consts:=args.map fun | .const _ => true | _ => false) hi h hn (vals_sound hT _)
   have harr:(args.toList.map a.eval).toArray = args.map a.eval:=by apply Array.ext'; simp
   rw [harr] at h1
   exact wp_value (by simp [execOp,resolve,invoke]; exact h1) (hK s' y h2)
  | invoke r m => simp only at h; cases h
 all_goals cases h
end
end Go.TV
namespace Go.TV
open Go.RowKit
set_option linter.unusedVariables false
set_option linter.unusedSimpArgs false
variable [Known]
structure St where
 T:Nat→V
 σ:Store
 nx:Nat
def putT (T:Nat→V) (dst:Option Tmp) (v:V):Nat→V :=
 match dst with
 | some d => upd T d v
 | none => T
def wantedB (ops:Array Oper) (T:Nat→V) (o:Oper):Option Bool :=
 match o.guard with
 | none => some true
 | some (j,want) => match (ops[j]?).bind (·.dst) with
  | some d => match T d with
   | .sc (.bool b) => some (b == want)
   | .tup [] => some false
   | _ => none
  | none => some false
def evOps (P:Program) (conv:FuncId→Conv) (call:Call) (ops:Array Oper):List Oper→St→Option St
 | [],s => some s
 | o :: rest,s => match wantedB ops s.T o with
  | some true => match evOp P conv call o s.T s.σ s.nx with
   | some (v,σ',nx') => evOps P conv call ops rest ⟨putT s.T o.dst v,σ',nx'⟩
   | none => none
  | some false => evOps P conv call ops rest ⟨putT s.T o.dst (.tup []),s.σ,s.nx⟩
  | none => none
def refsC:V→List Nat
 | .rp b _ => [b]
 | .rs b _ _ => [b]
 | _ => []
def refsV:V→List Nat
 | .agg vs => vs.flatMap refsC
 | .tup vs => vs.flatMap refsC
 | .clo _ vs => vs.flatMap refsC
 | v => refsC v
def deepO (σ:Store) (vs:List V):Option (List Nat):=match stripL (strip σ depth) vs with
 | some (_,ids) => some ids
 | none => none
def footO (conv:FuncId→Conv) (T:Nat→V) (σ:Store) (o:Oper):Option (List Nat) :=
 match o.op with
 | .load _ a => some (refsC (val T a))
 | .store _ a _ => some (refsC (val T a))
 | .slice _ x _ _ _ => some (refsC (val T x))
 | .convert _ _ x => some (refsC (val T x))
 | .call ⟨.value f,args,_⟩ => match val T f with
  | .clo g cs => match conv g with
   | .inl => some ((args.toList.map (val T)).flatMap refsV ++ cs.flatMap refsV)
   | _ => deepO σ (args.toList.map (val T) ++ cs)
  | _ => some []
 | .call ⟨.builtin .append,args,_⟩ => some ((args.toList.map (val T)).flatMap refsC)
 | .call ⟨.builtin .copy,args,_⟩ => some ((args.toList.map (val T)).flatMap refsC)
 | _ => some []
def footIds (conv:FuncId→Conv) (T:Nat→V) (σ:Store) (o:Oper):List Nat:=(footO conv T σ o).getD []
def keeps (conv:FuncId→Conv) (T:Nat→V) (o:Oper) (F:List Nat) (v:V):Bool :=
 match o.op with
 | .call ⟨.value f,_,_⟩ => match val T f with
  | .clo g _ => match conv g with
   | .imm => F.isEmpty || flat depth v
   | _ => true
  | _ => true
 | _ => true
def writer (conv:FuncId→Conv) (o:Oper):Bool :=
 match o.op with
 | .store .. => true
 | .call ⟨.value (.func g),_,_⟩ => match conv g with
  | .inl => true
  | _ => false
 | .call ⟨.value _,_,_⟩ => true
 | .call ⟨.builtin .append,_,_⟩ => true
 | .call ⟨.builtin .copy,_,_⟩ => true
 | _ => false
def restrict (σ:Store) (ids:List Nat):Store:=fun b => if b ∈ ids then σ b else none
def patchS (ids:List Nat) (lo hi:Nat) (σ σ1:Store):Store:=fun b => if b ∈ ids∨(lo ≤ b∧b < hi) then σ1 b else σ b
def evOpD (P:Program) (conv:FuncId→Conv) (call:Call) (o:Oper) (T:Nat→V) (σ:Store) (nx:Nat):Res :=
 match footO conv T σ o with
 | some F => if (F.all fun b => decide (b < nx)) = true then
   match evOp P conv call o T (restrict σ F) nx with
   | some (v,σ1,nx1) => if keeps conv T o F v = true then some (v,patchS F nx nx1 σ σ1,nx1) else none
   | none => none
  else none
 | none => none
def evOpsD (P:Program) (conv:FuncId→Conv) (call:Call) (ops:Array Oper):List Oper→St→Option (St × List (List Nat))
 | [],s => some (s,[])
 | o :: rest,s => match wantedB ops s.T o with
  | some true => match evOpD P conv call o s.T s.σ s.nx with
   | some (v,σ',nx') => match evOpsD P conv call ops rest ⟨putT s.T o.dst v,σ',nx'⟩ with
    | some (s',fs) => some (s',footIds conv s.T s.σ o :: fs)
    | none => none
   | none => none
  | some false => match evOpsD P conv call ops rest ⟨putT s.T o.dst (.tup []),s.σ,s.nx⟩ with
    | some (s',fs) => some (s',[] :: fs)
    | none => none
  | none => none
def edgeOn (o:Oper) (i:Nat):Bool:=o.after.any fun e => Region.binds .any e && e.on == i
def wpairs (conv:FuncId→Conv) (l:List Oper):List (Nat × Nat) :=
 l.zipIdx.flatMap fun (o,j) => (l.take j).zipIdx.filterMap fun (p,i) => if edgeOn o i then none else if writer conv o || writer conv p then some (i,j) else none
def ordOk (ops:Array Oper):Bool :=
 ops.toList.zipIdx.all fun (o,j) => (o.after.all fun e => !Region.binds .any e || e.on < j) && (match o.guard with | some (g,_) => decide (g < j) | none => true) &&
  (ops.toList.take j).zipIdx.all fun (p,i) => edgeOn o i || p.apart ops o
def pairsOk (fs:List (List Nat)) (ps:List (Nat × Nat)):Bool:=ps.all fun (i,j) => ((fs[i]?).getD []).all fun b => !((fs[j]?).getD []).contains b
def evDraw (P:Program) (conv:FuncId→Conv) (call:Call) (ops:Array Oper) (s:St):Option St :=
 if ordOk ops = true then
  match evOpsD P conv call ops ops.toList s with
  | some (s',fs) => if pairsOk fs (wpairs conv ops.toList) = true then some s' else none
  | none => none
 else none
inductive Ex where
 | norm | exit (id:Nat) | ret
def evLoop (body:St→Option (Ex × St)):Nat→St→Option (Ex × St)
 | 0,_ => none
 | n + 1,s => match body s with
  | some (.norm,s') => evLoop body n s'
  | r => r
def evCode (P:Program) (conv:FuncId→Conv) (call:Call) (n:Nat):Code→St→Option (Ex × St)
 | .skip,s => some (.norm,s)
 | .region _ ops draw,s => match (if draw then evDraw P conv call ops s else evOps P conv call ops ops.toList s) with
  | some s' => some (.norm,s')
  | none => none
 | .seq a b,s => match evCode P conv call n a s with
  | some (.norm,s') => evCode P conv call n b s'
  | r => r
 | .cond c a b,s => match val s.T c with
  | .sc (.bool true) => evCode P conv call n a s
  | .sc (.bool false) => evCode P conv call n b s
  | _ => none
 | .block id c,s => match evCode P conv call n c s with
  | some (.exit j,s') => if j = id then some (.norm,s') else some (.exit j,s')
  | r => r
 | .loop c,s => evLoop (evCode P conv call n c) n s
 | .exit id,s => some (.exit id,s)
 | .ret,s => some (.ret,s)
 | _,_ => none
def dstOk (nt:Nat):Code→Bool
 | .region _ ops _ => ops.all fun o => match o.dst with | some d => decide (d < nt) | none => true
 | .seq a b => dstOk nt a && dstOk nt b
 | .cond _ a b => dstOk nt a && dstOk nt b
 | .block _ c => dstOk nt c
 | .loop c => dstOk nt c
 | _ => true
def evResults (P:Program) (T:Nat→V) (σ:Store):List ResultVar→Option (List V)
 | [] => some []
 | .tmp t :: rs => match evResults P T σ rs with
  | some vs => some (T t :: vs)
  | none => none
 | .cell a t :: rs => match evLoad P σ t (T a),evResults P T σ rs with
  | some v,some vs => some (v :: vs)
  | _,_ => none
def argsT (args:List V):Nat→V:=fun i => (args[i]?).getD (.tup [])
def oneOf:List V→V
 | [v] => v
 | vs => .tup vs
def fnOk (fn:Func) (body:Code) (n:Nat):Bool:=!(fn.name == "runtime.NumGoroutine") && decide (n ≤ fn.ntmps) && dstOk fn.ntmps body
abbrev Ext:=FuncId→Option (List V→Store→Nat→Res)
def evBody (P:Program) (conv:FuncId→Conv) (call:Call) (n:Nat) (fn:Func) (body:Code) (args:List V) (σ:Store) (nx:Nat):Res :=
 match evCode P conv call n body ⟨argsT args,σ,nx⟩ with
 | some (.norm,st) => match evResults P st.T st.σ fn.results.toList with
  | some vs => some (oneOf vs,st.σ,st.nx)
  | none => none
 | some (.ret,st) => match evResults P st.T st.σ fn.results.toList with
  | some vs => some (oneOf vs,st.σ,st.nx)
  | none => none
 | _ => none
def evF (P:Program) (conv:FuncId→Conv) (ext:Ext):Nat→Call
 | 0 => fun _ _ _ _ => none
 | k + 1 => fun f args σ nx => match ext f with
  | some g => g args σ nx
  | none => match P.funcs[f]? with
   | some fn => match fn.body with
    | some body => if fnOk fn body args.length = true then evBody P conv (evF P conv ext k) k fn body args σ nx else none
    | none => none
   | none => none
end Go.TV
namespace Go.TV
open Go.RowKit
set_option linter.unusedVariables false
set_option linter.unusedSimpArgs false
variable [Known]
section
variable {P:Program} {conv:FuncId→Conv} {call:Call}
structure Sim (nt nxE:Nat) (s0:Sit) (σ0:Store) (nx0:Nat) (T:Nat→V) (σ:Store) (nx:Nat) (s:Sit) (a:Act):Prop where
 inv:Inv s σ
 tr:TR s T a.tmps
 size:a.tmps.size = nt
 defers:a.defers = []
 nxt:Nxt s0 σ0 s σ
 dom:Dom s0 s nx0 nx
 fresh:Fresh s nx nxE
 nx0:nx0 ≤ nx
theorem appendTo_mono {σ σ':Store} {nx nx' size bytes m:Nat} {d v:V} {row:List V} (h:appendTo σ nx size bytes d row m = some (v,σ',nx')):nx ≤ nx':=by
 unfold appendTo at h
 split at h
 ·split at h
  ·cases h; exact Nat.le_refl _
  ·split at h
   ·cases h; exact Nat.le_succ _
   ·cases h
 ·split at h
  ·split at h
   ·cases h; exact Nat.le_refl _
   ·split at h
    ·split at h
     ·cases h; exact Nat.le_refl _
     ·cases h
    ·split at h
     ·cases h; exact Nat.le_succ _
     ·cases h
  ·cases h
 ·cases h
theorem evOp_mono (hc:CallOk P call) {o:Oper} {T:Nat→V} {σ σ':Store} {nx nx':Nat} {v:V} (h:evOp P conv call o T σ nx = some (v,σ',nx')):nx ≤ nx':=by
 obtain ⟨dst,op,type,pos,after,guard⟩:=o
 cases op <;> simp only [evOp] at h
 case call c =>
  obtain ⟨callee,args,ts⟩:=c
  cases callee with
  | value f =>
   simp only at h
   split at h
   ·exact (evCall_sound hc h).1
   ·cases h
  | builtin b =>
   simp only at h
   unfold evBuiltin at h
   split at h
   ·split at h
    ·obtain ⟨_,_,e⟩:=map_some' h; cases e; exact Nat.le_refl _
    ·cases h
   ·split at h
    ·unfold evAppend at h
     split at h
     ·split at h
      ·split at h
       ·split at h
        ·split at h
         ·split at h
          ·exact appendTo_mono h
          ·cases h
         ·cases h
        ·cases h
       ·cases h
      ·split at h
       ·split at h
        ·split at h
         ·exact appendTo_mono h
         ·cases h
        ·cases h
       ·cases h
      ·cases h
     ·cases h
    ·cases h
   ·unfold evCopy at h
    repeat' split at h
    all_goals first | (cases h; exact Nat.le_refl _) | cases h
   ·unfold evClear at h
    repeat' split at h
    all_goals first | (cases h; exact Nat.le_refl _) | cases h
   ·split at h
    ·cases hp:evPure P (Builtin.min_ ts type _) with
     | none => rw [hp] at h; cases h
     | some r => rw [hp] at h; simp only [Option.bind_some] at h; split at h; cases h; exact Nat.le_refl _; cases h
    ·cases h
   ·split at h
    ·cases hp:evPure P (Builtin.max_ ts type _) with
     | none => rw [hp] at h; cases h
     | some r => rw [hp] at h; simp only [Option.bind_some] at h; split at h; cases h; exact Nat.le_refl _; cases h
    ·cases h
   ·cases h
  | invoke r m => simp only at h; cases h
 case makeSlice t l c =>
  unfold evMake at h
  split at h
  ·split at h
   ·split at h
    ·split at h
     ·cases h; exact Nat.le_succ _
     ·cases h
    ·cases h
   ·cases h
  ·cases h
 case buildSlice t l c =>
  split at h
  ·cases h
  ·unfold evBuildSlice at h
   split at h
   ·split at h
    ·split at h
     ·split at h
      ·cases h; exact Nat.le_refl _
      ·split at h
       ·split at h
        ·cases h; exact Nat.le_succ _
        ·cases h
       ·cases h
     ·cases h
    ·cases h
   ·cases h
 case makeFunc fn f c =>
  split at h
  ·split at h
   ·cases h; exact Nat.le_refl _
   ·cases h
  ·cases h
 case move x => cases h; exact Nat.le_refl _
 case assign x => cases h; exact Nat.le_refl _
 case pick c x y =>
  split at h
  ·cases h; exact Nat.le_refl _
  ·cases h
 case alloc t =>
  split at h
  ·split at h
   ·cases h; exact Nat.le_succ _
   ·cases h
  ·cases h
 case box t x =>
  split at h
  ·cases h; exact Nat.le_succ _
  ·cases h
 case nilCheck x =>
  split at h
  ·cases h; exact Nat.le_refl _
  ·cases h; exact Nat.le_refl _
  ·cases h
 case extract t i =>
  split at h
  ·obtain ⟨_,_,e⟩:=map_some' h; cases e; exact Nat.le_refl _
  ·cases h
 all_goals first | (obtain ⟨_,_,e⟩:=map_some' h; cases e; exact Nat.le_refl _) | cases h
theorem TR_put {s:Sit} {T:Nat→V} {a:Act} {dst:Option Tmp} {v:V} {x:Value} (h:TR s T a.tmps) (hd:∀ d,dst = some d→d < a.tmps.size) (hv:VR s v x):TR s (putT T dst v) (a.put dst x).tmps:=by
 cases dst with
 | none => exact h
 | some d =>
  intro t
  have hlt:=hd d rfl
  by_cases ht:t = d
  ·subst ht
   simp only [putT,upd_same,Act.put,Array.getD_eq_getD_getElem?,Array.getElem?_setIfInBounds_self,hlt,if_true,Option.getD_some]
   exact hv
  ·simp only [putT,upd_ne _ _ ht,Act.put,Array.getD_eq_getD_getElem?]
   rw [Array.getElem?_setIfInBounds_ne (fun e => ht e.symm)]
   have:=h t
   rwa [Array.getD_eq_getD_getElem?] at this
theorem put_size (a:Act) (dst:Option Tmp) (x:Value):(a.put dst x).tmps.size = a.tmps.size:=by
 cases dst <;> simp [Act.put]
theorem put_defers (a:Act) (dst:Option Tmp) (x:Value):(a.put dst x).defers = a.defers:=by
 cases dst <;> rfl
theorem VR_undef (s:Sit):VR s (.tup []) undef:=by unfold VR; exact ⟨#[],rfl,by unfold VRs; rfl⟩
theorem wantedB_sound {ops:Array Oper} {T:Nat→V} {o:Oper} {b:Bool} (h:wantedB ops T o = some b) {s:Sit} {tmps:Array Value} (hT:TR s T tmps):Region.wanted o (yielded ops tmps) = b:=by
 unfold wantedB at h
 unfold Region.wanted
 split at h
 ·rename_i hg
  simp only [hg]
  simpa using h
 ·rename_i j want hg
  simp only [hg,yielded]
  split at h
  ·rename_i d hd
   rw [hd]
   have ht:=hT d
   simp only [Option.bind_some]
   rw [Array.getD_eq_getD_getElem?] at ht
   split at h
   ·rename_i b' hb
    rw [hb] at ht
    unfold VR at ht
    simp only [Option.some.injEq] at h
    cases hq:tmps[d]? with
    | none => rw [hq] at ht; simp [undef] at ht
    | some y =>
     rw [hq] at ht
     simp only [Option.getD_some] at ht
     rw [ht.1]
     simp [← h]
   ·rename_i hb
    rw [hb] at ht
    unfold VR VRs at ht
    simp only [Option.some.injEq] at h
    obtain ⟨xs,hx,hxs⟩:=ht
    cases hq:tmps[d]? with
    | none => simp [← h]
    | some y =>
     rw [hq] at hx
     simp only [Option.getD_some] at hx
     simp [hx,← h]
   ·cases h
  ·rename_i hd
   rw [hd]
   simp only [Option.some.injEq] at h
   simp [← h]
theorem Sim.step {nt nxE:Nat} {s0:Sit} {σ0:Store} {nx0:Nat} {T:Nat→V} {σ:Store} {nx:Nat} {s:Sit} {a:Act} (h:Sim nt nxE s0 σ0 nx0 T σ nx s a) {v:V} {x:Value} {σ':Store} {nx':Nat} {s':Sit} (ho:Out s σ nx s' v x σ' nx')
  (hle:nx ≤ nx') {dst:Option Tmp} (hd:∀ d,dst = some d→d < nt):Sim nt nxE s0 σ0 nx0 (putT T dst v) σ' nx' s' (a.put dst x):=by
 refine ⟨ho.inv,TR_put (h.tr.mono ho.nxt.le) (fun d e => by rw [h.size]; exact hd d e) ho.vr,by rw [put_size]; exact h.size,by rw [put_defers]; exact h.defers,h.nxt.trans ho.nxt,fun i hi => ?_,fun i h1 h2 => ?_,Nat.le_trans h.nx0 hle⟩
 ·rcases ho.dom i hi with h1 | h1
  ·rcases h.dom i h1 with h2 | h2
   ·exact .inl h2
   ·exact .inr ⟨h2.1,by omega⟩
  ·exact .inr ⟨by have:=h.nx0; omega,h1.2⟩
 ·cases he:s'.β i with
  | none => rfl
  | some l =>
   exfalso
   rcases ho.dom i (by rw [he]; simp) with h3 | h3
   ·exact h3 (h.fresh i (by omega) h2)
   ·omega
theorem Sim.skip {nt nxE:Nat} {s0:Sit} {σ0:Store} {nx0:Nat} {T:Nat→V} {σ:Store} {nx:Nat} {s:Sit} {a:Act} (h:Sim nt nxE s0 σ0 nx0 T σ nx s a) {dst:Option Tmp} (hd:∀ d,dst = some d→d < nt) :
  Sim nt nxE s0 σ0 nx0 (putT T dst (.tup [])) σ nx s (a.put dst undef) :=
 h.step (Out.same h.inv (VR_undef s)) (Nat.le_refl _) hd
theorem evOps_mono (hc:CallOk P call) {ops:Array Oper}:∀ (l:List Oper) (st st':St),evOps P conv call ops l st = some st'→st.nx ≤ st'.nx
 | [],st,st',h => by simp only [evOps,Option.some.injEq] at h; rw [h]; exact Nat.le_refl _
 | o :: l,st,st',h => by
  unfold evOps at h
  split at h
  ·split at h
   ·rename_i v σ' nx' e
    exact Nat.le_trans (evOp_mono hc e) (evOps_mono hc l _ st' h)
   ·cases h
  ·exact evOps_mono hc l ⟨putT st.T o.dst (.tup []),st.σ,st.nx⟩ st' h
  ·cases h
theorem ops_sound (hc:CallOk P call) {ops:Array Oper} {nt nxE:Nat} {s0:Sit} {σ0:Store} {nx0:Nat} (hd:∀ o ∈ ops.toList,∀ d,o.dst = some d→d < nt) {Q:Exit→Act→World→Prop} :
  ∀ (l:List Oper) (i:Nat) (st st':St),ops.toList.drop i = l→evOps P conv call ops l st = some st'→st'.nx ≤ nxE→(∀ s a,Sim nt nxE s0 σ0 nx0 st'.T st'.σ st'.nx s a→Q .normal a s.w) →
  ∀ (s:Sit) (a:Act),Sim nt nxE s0 σ0 nx0 st.T st.σ st.nx s a→wpOps P ops Q (List.range' i l.length) a s.w
 | [],i,st,st',_,h,_,hQ,s,a,hs => by
  simp only [evOps,Option.some.injEq] at h; subst h
  simp only [List.length_nil,List.range'_zero,wpOps]
  exact hQ s a hs
 | o :: l,i,st,st',hl,h,hE,hQ,s,a,hs => by
  have h0:ops[i]? = some o:=by
   rw [← Array.getElem?_toList,show ops.toList[i]? = (ops.toList.drop i)[0]? by simp,hl]; rfl
  have hmem:o ∈ ops.toList:=by rw [← Array.getElem?_toList] at h0; exact List.mem_of_getElem? h0
  have hl':ops.toList.drop (i + 1) = l:=by rw [← List.drop_drop,hl]; rfl
  rw [List.length_cons,List.range'_succ,wpOps_cons]
  unfold wpOp
  simp only [h0]
  unfold evOps at h
  split at h
  ·rename_i hw
   rw [wantedB_sound hw hs.tr,if_pos rfl]
   split at h
   ·rename_i v σ' nx' e
    have hm:=evOps_mono hc l _ st' h
    have hm0:=evOp_mono hc e
    refine .inl (op_sound hc e hs.inv hs.tr (fun i h1 h2 => hs.fresh i h1 (by simp only at hm; omega)) fun s' x ho => ?_)
    exact ops_sound hc hd l (i + 1) _ st' hl' h hE hQ s' _ (hs.step ho hm0 (hd o hmem))
   ·cases h
  ·rename_i hw
   rw [wantedB_sound hw hs.tr,if_neg (by simp)]
   exact ops_sound hc hd l (i + 1) _ st' hl' h hE hQ s _ (hs.skip (hd o hmem))
  ·cases h
end
end Go.TV
namespace Go.TV
open Go.RowKit
set_option linter.unusedVariables false
set_option linter.unusedSimpArgs false
variable [Known]
section
variable {P:Program} {conv:FuncId→Conv} {call:Call}
theorem val_congr {T T2:Nat→V} {o:Oper} (ops:Array Oper) (h:∀ t ∈ o.looksAt ops,T2 t = T t):∀ x ∈ o.op.operands.toList,val T2 x = val T x:=by
 intro x hx
 cases x with
 | tmp t =>
  apply h
  unfold Oper.looksAt
  exact List.mem_append_left _ (List.mem_filterMap.2 ⟨_,hx,rfl⟩)
 | const v => rfl
 | global g => rfl
 | func f => rfl
theorem evOp_congr {T T2:Nat→V} {o:Oper} {σ:Store} {nx:Nat} (h:∀ x ∈ o.op.operands.toList,val T2 x = val T x):evOp P conv call o T2 σ nx = evOp P conv call o T σ nx:=by
 obtain ⟨dst,op,type,pos,after,guard⟩:=o
 cases op <;> simp only [Op.operands] at h <;> simp only [evOp]
 case build t parts =>
  have:parts.toList.map (fun p => (p.1,val T2 p.2)) = parts.toList.map (fun p => (p.1,val T p.2)):=List.map_congr_left fun p hp => by
   rw [h p.2 (by simpa using ⟨p.1,by simpa using hp⟩)]
  rw [this]
 case buildSlice t n parts =>
  have:parts.toList.map (fun p => (p.1,val T2 p.2)) = parts.toList.map (fun p => (p.1,val T p.2)):=List.map_congr_left fun p hp => by
   rw [h p.2 (by simpa using ⟨p.1,by simpa using hp⟩)]
  rw [this]
 case makeFunc fn first cap =>
  have:cap.toList.map (val T2) = cap.toList.map (val T):=List.map_congr_left fun p hp => h p (by simp [hp])
  rw [this]
 case slice t x lo hi mx =>
  have e1:=h x (by simp)
  have e2:lo.map (val T2) = lo.map (val T):=by cases lo with | none => rfl | some y => exact congrArg some (h y (by simp))
  have e3:hi.map (val T2) = hi.map (val T):=by cases hi with | none => rfl | some y => exact congrArg some (h y (by simp))
  have e4:mx.map (val T2) = mx.map (val T):=by cases mx with | none => rfl | some y => exact congrArg some (h y (by simp))
  rw [e1,e2,e3,e4]
 case call c =>
  obtain ⟨callee,args,ts⟩:=c
  cases callee with
  | value f =>
   simp only [Call.operands] at h
   have e1:=h f (by simp)
   have e2:args.toList.map (val T2) = args.toList.map (val T):=List.map_congr_left fun p hp => h p (by simp [hp])
   simp only [e1,e2]
  | builtin b =>
   simp only [Call.operands] at h
   have e2:args.toList.map (val T2) = args.toList.map (val T):=List.map_congr_left fun p hp => h p (by simp [hp])
   simp only [e2]
  | invoke r m => rfl
 case pick c a b => rw [h c (by simp),h a (by simp),h b (by simp)]
 all_goals first
  | rfl
  | (rename_i a b; rw [h a (by simp),h b (by simp)]; done)
  | (rename_i a b c; rw [h a (by simp),h b (by simp)]; done)
  | (rename_i t a b; rw [h a (by simp),h b (by simp)]; done)
  | (rename_i p t a b q; rw [h a (by simp),h b (by simp)]; done)
  | (rename_i a; rw [h a (by simp)]; done)
  | (rename_i a b; rw [h a (by simp)]; done)
  | (rename_i t a b; rw [h a (by simp)]; done)
  | (rename_i t u a; rw [h a (by simp)]; done)
  | skip
theorem stripL_congr {f g:V→Option (V × List Nat)}:∀ {vs ts:List V} {ids:List Nat},(∀ v t i,f v = some (t,i)→(∀ b ∈ i,b ∈ ids)→g v = some (t,i))→stripL f vs = some (ts,ids)→stripL g vs = some (ts,ids)
 | [],ts,ids,_,h => h
 | v :: vs,ts,ids,hfg,h => by
  unfold stripL at h ⊢
  split at h
  ·rename_i t i ts' j e1 e2
   simp only [Option.some.injEq,Prod.mk.injEq] at h
   obtain ⟨rfl,rfl⟩:=h
   rw [hfg v t i e1 (fun b hb => List.mem_append_left _ hb),stripL_congr (fun v t i h hi => hfg v t i h (fun b hb => List.mem_append_right _ (hi b hb))) e2]
  ·cases h
theorem strip_congr {σ σ':Store}:∀ (d:Nat) (v t:V) (ids:List Nat),strip σ d v = some (t,ids)→(∀ b ∈ ids,σ' b = σ b)→strip σ' d v = some (t,ids)
 | 0,v,t,ids,h,_ => by cases v <;> simp only [strip] at h ⊢ <;> exact h
 | d + 1,v,t,ids,h,hb => by
  cases v <;> simp only [strip] at h ⊢ <;> try exact h
  iterate 3
   ·split at h
    ·rename_i ts i e
     simp only [Option.some.injEq,Prod.mk.injEq] at h
     obtain ⟨rfl,rfl⟩:=h
     rw [stripL_congr (fun v t i h hi => strip_congr d v t i h fun b hb' => hb b (hi b hb')) e]
    ·cases h
  ·rename_i b off
   split at h
   ·rename_i B hB
    split at h
    ·rename_i ts i e
     simp only [Option.some.injEq,Prod.mk.injEq] at h
     obtain ⟨rfl,rfl⟩:=h
     rw [hb b List.mem_cons_self,hB]
     simp only
     rw [stripL_congr (fun v t i h hi => strip_congr d v t i h fun b hb' => hb b (List.mem_cons_of_mem _ (hi b hb'))) e]
    ·cases h
   ·cases h
  ·rename_i b off len
   split at h
   ·rename_i B hB
    split at h
    ·rename_i hc
     split at h
     ·rename_i ts i e
      simp only [Option.some.injEq,Prod.mk.injEq] at h
      obtain ⟨rfl,rfl⟩:=h
      rw [hb b List.mem_cons_self,hB]
      simp only
      rw [if_pos hc,stripL_congr (fun v t i h hi => strip_congr d v t i h fun b hb' => hb b (List.mem_cons_of_mem _ (hi b hb'))) e]
     ·cases h
    ·cases h
   ·cases h
theorem deepO_congr {σ σ2:Store} {vs:List V} {F:List Nat} (h:deepO σ vs = some F) (hs:∀ b ∈ F,σ2 b = σ b):deepO σ2 vs = some F:=by
 unfold deepO at h ⊢
 cases e:stripL (strip σ depth) vs with
 | none => rw [e] at h; cases h
 | some p =>
  obtain ⟨ts,ids⟩:=p
  rw [e] at h
  simp only [Option.some.injEq] at h
  subst h
  rw [stripL_congr (fun v t i h hi => strip_congr _ v t i h fun b hb => hs b (hi b hb)) e]
theorem footO_congr {T T2:Nat→V} {σ σ2:Store} {o:Oper} {F:List Nat} (h:∀ x ∈ o.op.operands.toList,val T2 x = val T x) (hF:footO conv T σ o = some F) (hs:∀ b ∈ F,σ2 b = σ b):footO conv T2 σ2 o = some F:=by
 obtain ⟨dst,op,type,pos,after,guard⟩:=o
 cases op <;> simp only [Op.operands] at h <;> simp only [footO] at hF ⊢ <;> try exact hF
 case load t a => rw [h a (by simp)]; exact hF
 case store t a b => rw [h a (by simp)]; exact hF
 case slice t x lo hi mx => rw [h x (by simp)]; exact hF
 case convert s d x => rw [h x (by simp)]; exact hF
 case call c =>
  obtain ⟨callee,args,ts⟩:=c
  have e2:args.toList.map (val T2) = args.toList.map (val T):=List.map_congr_left fun p hp => h p (by cases callee <;> simp [Call.operands,hp])
  cases callee with
  | value f =>
   have e1:=h f (by simp [Call.operands])
   simp only [e1,e2] at hF ⊢
   cases hv:val T f <;> simp only [hv] at hF ⊢ <;> try exact hF
   rename_i g cs
   cases hc:conv g <;> simp only [hc] at hF ⊢ <;> first | exact hF | exact deepO_congr hF hs
  | builtin b => cases b <;> simp only [e2] at hF ⊢ <;> exact hF
  | invoke r m => exact hF
theorem keeps_congr {T T2:Nat→V} {o:Oper} {F:List Nat} {v:V} (h:∀ x ∈ o.op.operands.toList,val T2 x = val T x):keeps conv T2 o F v = keeps conv T o F v:=by
 obtain ⟨dst,op,type,pos,after,guard⟩:=o
 cases op <;> simp only [Op.operands] at h <;> simp only [keeps]
 case call c =>
  obtain ⟨callee,args,ts⟩:=c
  cases callee with
  | value f =>
   have e1:=h f (by simp [Call.operands])
   simp only [e1]
  | builtin b => rfl
  | invoke r m => rfl
theorem wantedB_congr {ops:Array Oper} {T T2:Nat→V} {o:Oper} (h:∀ t ∈ o.looksAt ops,T2 t = T t):wantedB ops T2 o = wantedB ops T o:=by
 unfold wantedB
 split
 ·rfl
 ·rename_i j want hg
  split
  ·rename_i d hd
   have:T2 d = T d:=h d (by
    unfold Oper.looksAt
    refine List.mem_append_right _ ?_
    rw [hg]
    simp [hd])
   rw [this]
  ·rfl
def stepD (P:Program) (conv:FuncId→Conv) (call:Call) (ops:Array Oper) (o:Oper) (lo:Nat) (T:Nat→V) (σ:Store):Option ((Nat→V) × Store × Nat × List Nat) :=
 match wantedB ops T o with
 | some true => match evOpD P conv call o T σ lo with
  | some (v,σ',hi) => some (putT T o.dst v,σ',hi,footIds conv T σ o)
  | none => none
 | some false => some (putT T o.dst (.tup []),σ,lo,[])
 | none => none
theorem patchS_eq_self {σ:Store} {lo:Nat} {ids:List Nat}:patchS ids lo lo σ (restrict σ ids) = σ:=by
 funext b
 unfold patchS restrict
 split
 ·rename_i h
  rcases h with h | h
  ·rw [if_pos h]
  ·omega
 ·rfl
theorem patchS_nil {σ τ:Store} {lo:Nat}:patchS [] lo lo σ τ = σ:=by
 funext b
 unfold patchS
 split
 ·rename_i h
  rcases h with h | h
  ·cases h
  ·omega
 ·rfl
theorem reader_keep {o:Oper} {T:Nat→V} {σ0 σ σ1:Store} {nx nx1:Nat} {v:V} {F:List Nat} (hw:writer conv o = false) (hk:keeps conv T o F v = true) (hF:F ≠ []) (hf:footO conv T σ0 o = some F) (h:evOp P conv call o T σ nx = some (v,σ1,nx1)):∀ b,b < nx→σ1 b = σ b:=by
 obtain ⟨dst,op,type,pos,after,guard⟩:=o
 have no:∀ {p:Prop},some ([]:List Nat) = some F→p:=fun e => absurd (Option.some.inj e).symm hF
 cases op <;> simp only [footO] at hf <;> simp only [evOp] at h <;> try exact no hf
 case load t a => obtain ⟨_,_,e⟩:=map_some' h; cases e; exact fun _ _ => rfl
 case store t a b => simp [writer] at hw
 case slice t x lo hi mx => obtain ⟨_,_,e⟩:=map_some' h; cases e; exact fun _ _ => rfl
 case convert s d x => obtain ⟨_,_,e⟩:=map_some' h; cases e; exact fun _ _ => rfl
 case call c =>
  obtain ⟨callee,args,ts⟩:=c
  cases callee with
  | value f =>
   cases f with
   | func g =>
    simp only [writer] at hw
    simp only [keeps,val] at hk
    simp only [val] at h
    cases hc:conv g <;> simp only [hc,evCall] at hw hk h
    case imm =>
     split at h
     ·split at h
      ·split at h
       ·have hfl:flat depth v = true:=by
         have:F.isEmpty = false:=by cases F with
          | nil => exact absurd rfl hF
          | cons a b => rfl
         rw [this,Bool.false_or] at hk
         exact hk
        split at h
        ·simp only [Option.some.injEq,Prod.mk.injEq] at h
         obtain ⟨_,rfl,_⟩:=h
         exact fun _ _ => rfl
        ·rename_i hn
         simp only [Option.some.injEq,Prod.mk.injEq] at h
         obtain ⟨rfl,_,_⟩:=h
         rw [hfl,Bool.or_true] at hn
         exact absurd rfl hn
       ·cases h
      ·cases h
     ·cases h
    case own =>
     split at h
     ·split at h
      ·split at h
       ·simp only [Option.some.injEq,Prod.mk.injEq] at h
        obtain ⟨_,rfl,_⟩:=h
        intro b hb
        unfold joinS
        rw [if_pos hb]
       ·cases h
      ·cases h
     ·cases h
    case inl => cases hw
   | tmp t => simp [writer] at hw
   | const t => simp [writer] at hw
   | global t => simp [writer] at hw
  | builtin b => cases b <;> first | exact no hf | simp [writer] at hw
  | invoke r m => exact no hf
theorem patchS_keep {σ τ:Store} {lo hi:Nat} {F:List Nat} (h:∀ b ∈ F,τ b = σ b):patchS F lo hi σ τ = patchS [] lo hi σ τ:=by
 funext b
 unfold patchS
 by_cases h1:lo ≤ b∧b < hi
 ·rw [if_pos (.inr h1),if_pos (.inr h1)]
 ·by_cases h2:b ∈ F
  ·rw [if_pos (.inl h2),if_neg (fun e => e.elim (fun e => by cases e) h1),h b h2]
  ·rw [if_neg (fun e => e.elim h2 h1),if_neg (fun e => e.elim (fun e => by cases e) h1)]
theorem stepD_spec {ops:Array Oper} {o:Oper} {lo hi:Nat} {T T1:Nat→V} {σ σ1:Store} {F:List Nat} (h:stepD P conv call ops o lo T σ = some (T1,σ1,hi,F)) :
  ∃ v τ W,T1 = putT T o.dst v∧σ1 = patchS W lo hi σ τ∧(∀ b ∈ W,b ∈ F)∧(W ≠ []→writer conv o = true)∧(∀ b ∈ F,b < lo) ∧
   ∀ T2 σ2,(∀ t ∈ o.looksAt ops,T2 t = T t)→(∀ b ∈ F,σ2 b = σ b)→stepD P conv call ops o lo T2 σ2 = some (putT T2 o.dst v,patchS W lo hi σ2 τ,hi,F):=by
 unfold stepD at h
 split at h
 ·rename_i hw
  unfold evOpD at h
  cases hfo:footO conv T σ o with
  | none => rw [hfo] at h; cases h
  | some F0 =>
  have hfi:footIds conv T σ o = F0:=by unfold footIds; rw [hfo]; rfl
  simp only [hfo,hfi] at h
  by_cases hall:(F0.all fun b => decide (b < lo)) = true
  ·rw [if_pos hall] at h
   cases he:evOp P conv call o T (restrict σ F0) lo with
   | none => rw [he] at h; cases h
   | some r =>
    obtain ⟨v,τ,hi'⟩:=r
    rw [he] at h
    simp only at h
    by_cases hkp:keeps conv T o F0 v = true
    ·rw [if_pos hkp] at h
     simp only [Option.some.injEq,Prod.mk.injEq] at h
     obtain ⟨rfl,rfl,rfl,rfl⟩:=h
     have hres:∀ T2 σ2,(∀ t ∈ o.looksAt ops,T2 t = T t)→(∀ b ∈ F0,σ2 b = σ b) →
       stepD P conv call ops o lo T2 σ2 = some (putT T2 o.dst v,patchS F0 lo hi' σ2 τ,hi',F0):=by
      intro T2 σ2 hT hσ
      have hv:=val_congr ops hT
      have hrs:restrict σ2 F0 = restrict σ F0:=by
       funext b; unfold restrict; split
       ·rename_i hb; exact hσ b hb
       ·rfl
      have hf2:=footO_congr hv hfo hσ
      have hfi2:footIds conv T2 σ2 o = F0:=by unfold footIds; rw [hf2]; rfl
      unfold stepD
      rw [wantedB_congr hT,hw]
      simp only [evOpD,hf2,hfi2,hall,if_true,evOp_congr hv,hrs,he,keeps_congr hv,hkp]
     have hlt:∀ b ∈ F0,b < lo:=fun b hb => by simpa using List.all_eq_true.1 hall b hb
     by_cases hwr:writer conv o = true
     ·exact ⟨v,τ,F0,rfl,rfl,fun b h => h,fun _ => hwr,hlt,hres⟩
     ·by_cases hF:F0 = []
      ·refine ⟨v,τ,[],rfl,by rw [hF],(fun b h => by cases h),fun h => absurd rfl h,hlt,fun T2 σ2 h1 h2 => by rw [hres T2 σ2 h1 h2,hF]⟩
      ·have hkeep:=reader_keep (by simpa using hwr) hkp hF hfo he
       have hτ:∀ b ∈ F0,τ b = σ b:=fun b hb => by
        rw [hkeep b (hlt b hb)]
        unfold restrict
        rw [if_pos hb]
       refine ⟨v,τ,[],rfl,patchS_keep hτ,(fun b h => by cases h),fun h => absurd rfl h,hlt,fun T2 σ2 h1 h2 => ?_⟩
       rw [hres T2 σ2 h1 h2,patchS_keep fun b hb => (hτ b hb).trans (h2 b hb).symm]
    ·rw [if_neg hkp] at h; cases h
  ·rw [if_neg hall] at h; cases h
 ·rename_i hw
  simp only [Option.some.injEq,Prod.mk.injEq] at h
  obtain ⟨rfl,rfl,rfl,rfl⟩:=h
  refine ⟨_,σ,[],rfl,patchS_nil.symm,fun b h => h,fun h => absurd rfl h,(fun b h => by cases h),fun T2 σ2 hT _ => ?_⟩
  unfold stepD
  rw [wantedB_congr hT,hw]
  simp only [patchS_nil]
 ·cases h
structure Rec where
 o:Oper
 i:Nat
 lo:Nat
 hi:Nat
 F:List Nat
structure Ap (conv:FuncId→Conv) (ops:Array Oper) (a b:Rec):Prop where
 names:a.o.apart ops b.o = true
 foot:(writer conv a.o = true∨writer conv b.o = true)→∀ c ∈ a.F,c ∉ b.F
 lt:a.hi ≤ b.lo
 fb:∀ c ∈ b.F,¬ (a.lo ≤ c∧c < a.hi)
 fa:∀ c ∈ a.F,c < b.lo
theorem swapD {ops:Array Oper} {a b:Rec} (ap:Ap conv ops a b) {T T1 T2:Nat→V} {σ σ1 σ2:Store} (h1:stepD P conv call ops a.o a.lo T σ = some (T1,σ1,a.hi,a.F)) (h2:stepD P conv call ops b.o b.lo T1 σ1 = some (T2,σ2,b.hi,b.F)) :
  ∃ T1' σ1',stepD P conv call ops b.o b.lo T σ = some (T1',σ1',b.hi,b.F)∧stepD P conv call ops a.o a.lo T1' σ1' = some (T2,σ2,a.hi,a.F):=by
 obtain ⟨n1,n2,n3⟩:=Oper.apart_spec ap.names
 obtain ⟨v,τ,W,rfl,rfl,hWF,hWw,hlt,hla⟩:=stepD_spec h1
 obtain ⟨v',τ',W',rfl,rfl,hWF',hWw',hlt',hlb⟩:=stepD_spec h2
 have hputT:∀ (T:Nat→V) (dst:Option Tmp) (v:V) (t:Nat),dst ≠ some t→putT T dst v t = T t:=fun T dst v t h => by
  cases dst with
  | none => rfl
  | some d => exact upd_ne _ _ (fun e => h (by rw [e]))
 have hdis:∀ c,c ∈ W→c ∉ b.F:=fun c hc => ap.foot (.inl (hWw (by intro e; rw [e] at hc; cases hc))) c (hWF c hc)
 have hdis':∀ c,c ∈ W'→c ∉ a.F:=fun c hc hca => ap.foot (.inr (hWw' (by intro e; rw [e] at hc; cases hc))) c hca (hWF' c hc)
 have e1:=hlb T σ (fun t ht => (hputT T a.o.dst v t (fun e => n1 t e ht)).symm) (fun c hc => by
  unfold patchS
  rw [if_neg]
  rintro (h | h)
  ·exact hdis c h hc
  ·exact ap.fb c hc h)
 have e2:=hla (putT T b.o.dst v') (patchS W' b.lo b.hi σ τ') (fun t ht => hputT T b.o.dst v' t (fun e => n3 t e ht)) (fun c hc => by
  unfold patchS
  rw [if_neg]
  rintro (h | h)
  ·exact hdis' c h hc
  ·have:=ap.fa c hc; omega)
 refine ⟨_,_,e1,?_⟩
 rw [e2]
 have hT:putT (putT T b.o.dst v') a.o.dst v = putT (putT T a.o.dst v) b.o.dst v':=by
  cases hda:a.o.dst with
  | none => rfl
  | some d =>
   cases hdb:b.o.dst with
   | none => rfl
   | some d' =>
    have hne:d' ≠ d:=fun e => n2 d hda (by rw [hdb,e])
    funext t
    simp only [putT,upd]
    split
    ·rename_i e; rw [if_neg (by rw [e]; exact fun h => hne h.symm)]
    ·rfl
 have hσ:patchS W a.lo a.hi (patchS W' b.lo b.hi σ τ') τ = patchS W' b.lo b.hi (patchS W a.lo a.hi σ τ) τ':=by
  funext c
  unfold patchS
  by_cases h1:c ∈ W∨(a.lo ≤ c∧c < a.hi)
  ·have h2:¬ (c ∈ W'∨(b.lo ≤ c∧c < b.hi)):=by
    rintro (h2 | h2)
    ·rcases h1 with h1 | h1
     ·exact hdis' c h2 (hWF c h1)
     ·exact ap.fb c (hWF' c h2) h1
    ·rcases h1 with h1 | h1
     ·have:=ap.fa c (hWF c h1); omega
     ·have:=ap.lt; omega
   rw [if_pos h1,if_neg h2,if_pos h1]
  ·rw [if_neg h1]
   by_cases h2:c ∈ W'∨(b.lo ≤ c∧c < b.hi)
   ·rw [if_pos h2,if_pos h2]
   ·rw [if_neg h2,if_neg h2,if_neg h1]
 rw [hT,hσ]
def RunD (P:Program) (conv:FuncId→Conv) (call:Call) (ops:Array Oper):List Rec→(Nat→V)→Store→(Nat→V)→Store→Prop
 | [],T,σ,T',σ' => T = T'∧σ = σ'
 | r :: L,T,σ,T',σ' => ∃ T1 σ1,stepD P conv call ops r.o r.lo T σ = some (T1,σ1,r.hi,r.F)∧RunD P conv call ops L T1 σ1 T' σ'
theorem frontD {ops:Array Oper} {r:Rec}:∀ (L1 L2:List Rec) (T T':Nat→V) (σ σ':Store),(∀ a ∈ L1,Ap conv ops a r)→RunD P conv call ops (L1 ++ r :: L2) T σ T' σ'→RunD P conv call ops (r :: (L1 ++ L2)) T σ T' σ'
 | [],L2,T,T',σ,σ',_,h => h
 | a :: L1,L2,T,T',σ,σ',hap,h => by
  obtain ⟨T1,σ1,h1,h2⟩:=h
  obtain ⟨T2,σ2,h3,h4⟩:=frontD L1 L2 T1 T' σ1 σ' (fun b hb => hap b (List.mem_cons_of_mem _ hb)) h2
  obtain ⟨T1',σ1',h5,h6⟩:=swapD (hap a List.mem_cons_self) h1 h3
  exact ⟨T1',σ1',h5,T2,σ2,h6,h4⟩
end
end Go.TV
namespace Go.TV
open Go.RowKit
set_option linter.unusedVariables false
set_option linter.unusedSimpArgs false
variable [Known]
theorem Inv.restrict {s:Sit} {σ:Store} (h:Inv s σ) (ids:List Nat):Inv s (restrict σ ids):=by
 have q:∀ {i:Nat} {A:Blk},TV.restrict σ ids i = some A→i ∈ ids∧σ i = some A:=fun {i A} h => by
  unfold TV.restrict at h
  split at h
  ·rename_i hm; exact ⟨hm,h⟩
  ·cases h
 exact ⟨fun i B hB => h.blk i B (q hB).2,fun b1 b2 B1 B2 l1 l2 h1 h2 => h.dis b1 b2 B1 B2 l1 l2 (q h1).2 (q h2).2,h.zb,h.kn⟩
theorem frame_out {s:Sit} {σ:Store} (hi:Inv s σ) {ids:List Nat} {nx nx':Nat} (hn:Fresh s nx nx') {s':Sit} {v:V} {x:Value} {σ1:Store} (ho:Out s (restrict σ ids) nx s' v x σ1 nx'):Out s σ nx s' v x (patchS ids nx nx' σ σ1) nx':=by
 obtain ⟨hv,hi1,hn1,hd⟩:=ho
 have q:∀ {i:Nat} {A:Blk},restrict σ ids i = some A→i ∈ ids∧σ i = some A:=fun {i A} h => by
  unfold restrict at h
  split at h
  ·rename_i hm; exact ⟨hm,h⟩
  ·cases h
 have p:∀ b B,patchS ids nx nx' σ σ1 b = some B→((b ∈ ids∨(nx ≤ b∧b < nx'))∧σ1 b = some B)∨(b ∉ ids∧σ b = some B):=fun b B h => by
  unfold patchS at h
  split at h
  ·rename_i hm; exact .inl ⟨hm,h⟩
  ·rename_i hm; exact .inr ⟨fun e => hm (.inl e),h⟩
 have hfree:∀ {b:Nat} {B:Blk} {l:Loc},b ∉ ids→σ b = some B→s.β b = some l→∀ b' B' l',restrict σ ids b' = some B'→s.β b' = some l'→l'.k ≠ l.k:=fun {b B l} hb hB hl b' B' l' h1 h2 e => by
  obtain ⟨hm,h3⟩:=q h1
  exact hb (by rw [← hi.dis b' b B' B l' l h3 hB h2 hl e]; exact hm)
 have old:∀ {b:Nat} {B:Blk},b ∉ ids→σ b = some B→∃ l c e,s.β b = some l∧s'.β b = some l∧l.k < s.w.heap.size∧s.w.heap[l.k]? = some (.cells c e (0,0))∧s'.w.heap[l.k]? = some (.cells c e (0,0)):=fun {b B} hb hB => by
  obtain ⟨l,c,e,g1,g2,_⟩:=hi.blk b B hB
  exact ⟨l,c,e,g1,hn1.le.bb _ _ g1,hi.block_lt hB g1,g2,(hn1.kb l.k (hi.block_lt hB g1) (fun b' B' l' h1 h2 => hfree hb hB g1 b' B' l' h1 h2)).trans g2⟩
 refine ⟨hv,⟨fun b B hB => ?_,fun b1 b2 B1 B2 l1 l2 h1 h2 e1 e2 hk => ?_,hi1.zb,hi1.kn⟩,⟨hn1.le,fun k o z => ?_,fun k hk hn => hn1.kb k hk fun b B l h1 h2 => hn b B l (q h1).2 h2,fun b B l h1 h2 => ?_,hn1.hs,hn1.os,hn1.tape,hn1.output⟩,hd⟩
 ·rcases p b B hB with ⟨_,h1⟩ | ⟨hb,h1⟩
  ·exact hi1.blk b B h1
  ·obtain ⟨l,c,e,g1,g2,g3,g4,g5,g6,g7⟩:=hi.blk b B h1
   obtain ⟨l',c',e',k1,k2,k3,k4,k5⟩:=old hb h1
   rw [g1] at k1; cases k1
   rw [g2] at k4; cases k4
   refine ⟨l,c,e,k2,k5,g3,g4,g5,fun i v hv => let ⟨x,hx,hr⟩:=g6 i v hv; ⟨x,hx,VR_mono hn1.le v x hr⟩,fun o z => ?_,g7.2⟩
   rcases hn1.zn _ _ z with z | z | ⟨b',B',l',h3,h4,h5⟩
   ·exact g7.1 o z
   ·omega
   ·exact absurd h5 (hfree hb h1 g1 b' B' l' h3 h4)
 ·rcases p b1 B1 h1 with ⟨_,p1⟩ | ⟨hb1,p1⟩ <;> rcases p b2 B2 h2 with ⟨_,p2⟩ | ⟨hb2,p2⟩
  ·exact hi1.dis b1 b2 B1 B2 l1 l2 p1 p2 e1 e2 hk
  ·obtain ⟨l,c,e,k1,k2,k3,_⟩:=old hb2 p2
   rw [e2] at k2; cases k2
   rcases hn1.nb b1 B1 l1 p1 e1 with h | ⟨b0,B0,l0,h3,h4,h5⟩
   ·omega
   ·exact absurd (h5.trans hk) (hfree hb2 p2 k1 b0 B0 l0 h3 h4)
  ·obtain ⟨l,c,e,k1,k2,k3,_⟩:=old hb1 p1
   rw [e1] at k2; cases k2
   rcases hn1.nb b2 B2 l2 p2 e2 with h | ⟨b0,B0,l0,h3,h4,h5⟩
   ·omega
   ·exact absurd (h5.trans hk.symm) (hfree hb1 p1 k1 b0 B0 l0 h3 h4)
  ·obtain ⟨l,c,e,k1,k2,k3,_⟩:=old hb1 p1
   obtain ⟨l',c',e',k1',k2',k3',_⟩:=old hb2 p2
   rw [e1] at k2; cases k2
   rw [e2] at k2'; cases k2'
   exact hi.dis b1 b2 B1 B2 _ _ p1 p2 k1 k1' hk
 ·rcases hn1.zn k o z with z | z | ⟨b',B',l',h3,h4,h5⟩
  ·exact .inl z
  ·exact .inr (.inl z)
  ·exact .inr (.inr ⟨b',B',l',(q h3).2,h4,h5⟩)
 ·rcases p b B h1 with ⟨_,p1⟩ | ⟨hb,p1⟩
  ·rcases hn1.nb b B l p1 h2 with h | ⟨b0,B0,l0,h3,h4,h5⟩
   ·exact .inl h
   ·exact .inr ⟨b0,B0,l0,(q h3).2,h4,h5⟩
  ·obtain ⟨l',c,e,k1,k2,k3,_⟩:=old hb p1
   rw [h2] at k2; cases k2
   exact .inr ⟨b,B,_,p1,k1,rfl⟩
section
variable {P:Program} {conv:FuncId→Conv} {call:Call}
structure SimD (nt:Nat) (s0:Sit) (σ0:Store) (lo0 hi0:Nat) (T:Nat→V) (σ:Store) (L:List Rec) (s:Sit) (a:Act):Prop where
 inv:Inv s σ
 tr:TR s T a.tmps
 size:a.tmps.size = nt
 defers:a.defers = []
 nxt:Nxt s0 σ0 s σ
 dom:Dom s0 s lo0 hi0
 fresh:∀ r ∈ L,Fresh s r.lo r.hi
theorem VR_ref {s:Sit} {v:V} {x:Value} (h:VR s v x):∀ b ∈ refsC v,s.β b ≠ none:=by
 intro b hb
 cases v <;> simp only [refsC,List.not_mem_nil,List.mem_singleton] at hb <;> subst hb <;> unfold VR at h
 ·obtain ⟨l,hl,_⟩:=h; rw [hl]; simp
 ·obtain ⟨l,c,hl,_⟩:=h; rw [hl]; simp
theorem VRs_ref {s:Sit}:∀ {vs:List V} {xs:List Value},VRs s vs xs→∀ b ∈ vs.flatMap refsC,s.β b ≠ none
 | [],_,_,b,hb => by simp at hb
 | v :: vs,xs,h,b,hb => by
  unfold VRs at h
  obtain ⟨y,ys,rfl,h1,h2⟩:=h
  rw [List.flatMap_cons] at hb
  rcases List.mem_append.1 hb with hb | hb
  ·exact VR_ref h1 b hb
  ·exact VRs_ref h2 b hb
theorem VR_refV {s:Sit} {v:V} {x:Value} (h:VR s v x):∀ b ∈ refsV v,s.β b ≠ none:=by
 intro b hb
 cases v with
 | agg vs => unfold VR at h; obtain ⟨xs,_,hr⟩:=h; exact VRs_ref hr b hb
 | tup vs => unfold VR at h; obtain ⟨xs,_,hr⟩:=h; exact VRs_ref hr b hb
 | clo f vs => unfold VR at h; obtain ⟨xs,_,hr⟩:=h; exact VRs_ref hr b hb
 | sc u => exact VR_ref h b hb
 | nil => exact VR_ref h b hb
 | junk => exact VR_ref h b hb
 | tp row off => exact VR_ref h b hb
 | ts row len => exact VR_ref h b hb
 | rp i off => exact VR_ref h b hb
 | rs i off len => exact VR_ref h b hb
theorem VRs_refV {s:Sit}:∀ {vs:List V} {xs:List Value},VRs s vs xs→∀ b ∈ vs.flatMap refsV,s.β b ≠ none
 | [],_,_,b,hb => by simp at hb
 | v :: vs,xs,h,b,hb => by
  unfold VRs at h
  obtain ⟨y,ys,rfl,h1,h2⟩:=h
  rw [List.flatMap_cons] at hb
  rcases List.mem_append.1 hb with hb | hb
  ·exact VR_refV h1 b hb
  ·exact VRs_refV h2 b hb
theorem VRs_each {s:Sit}:∀ {vs:List V} {xs:List Value},VRs s vs xs→∀ v ∈ vs,∃ x,VR s v x
 | [],_,_,v,hv => by cases hv
 | w :: vs,xs,h,v,hv => by
  unfold VRs at h
  obtain ⟨y,ys,rfl,h1,h2⟩:=h
  rcases List.mem_cons.1 hv with rfl | hv
  ·exact ⟨y,h1⟩
  ·exact VRs_each h2 v hv
theorem stripL_dom {f:V→Option (V × List Nat)} {p:Nat→Prop}:∀ {vs ts:List V} {ids:List Nat},(∀ v ∈ vs,∀ t i,f v = some (t,i)→(∀ b ∈ i,b ∈ ids)→∀ b ∈ i,p b)→stripL f vs = some (ts,ids)→∀ b ∈ ids,p b
 | [],ts,ids,_,h,b,hb => by
  simp only [stripL,Option.some.injEq,Prod.mk.injEq] at h
  rw [← h.2] at hb; cases hb
 | v :: vs,ts,ids,hf,h,b,hb => by
  unfold stripL at h
  split at h
  ·rename_i t i ts' j e1 e2
   simp only [Option.some.injEq,Prod.mk.injEq] at h
   obtain ⟨rfl,rfl⟩:=h
   rcases List.mem_append.1 hb with hb | hb
   ·exact hf v List.mem_cons_self t i e1 (fun b hb => List.mem_append_left _ hb) b hb
   ·exact stripL_dom (fun w hw t i h hi => hf w (List.mem_cons_of_mem _ hw) t i h fun b hb => List.mem_append_right _ (hi b hb)) e2 b hb
  ·cases h
theorem strip_dom {s:Sit} {σ σ1:Store} (hi:Inv s σ):∀ (d:Nat) (v t:V) (ids:List Nat),strip σ1 d v = some (t,ids)→(∃ x,VR s v x)→(∀ b ∈ ids,s.β b ≠ none→σ1 b = σ b)→∀ b ∈ ids,s.β b ≠ none
 | 0,v,t,ids,h,_,_,b,hb => by
  cases v <;> simp [strip] at h <;> (rw [h.2] at hb; cases hb)
 | d + 1,v,t,ids,h,hx,hs,b,hb => by
  obtain ⟨x,hx⟩:=hx
  have held:∀ {c:Nat} {B:Blk},σ1 c = some B→c ∈ ids→s.β c ≠ none→∀ w ∈ B.cells,∃ y,VR s w y:=fun {c B} hB hc hβ w hw => by
   rw [hs c hc hβ] at hB
   obtain ⟨l,c',e,_,_,_,_,_,h6,_⟩:=hi.blk c B hB
   obtain ⟨i,hi'⟩:=List.mem_iff_getElem?.1 hw
   obtain ⟨y,_,hy⟩:=h6 i w hi'
   exact ⟨y,hy⟩
  cases v <;> simp only [strip] at h <;> try (simp only [Option.some.injEq,Prod.mk.injEq] at h; rw [← h.2] at hb; cases hb; done)
  case agg vs =>
   split at h
   ·rename_i ts i e
    simp only [Option.some.injEq,Prod.mk.injEq] at h
    obtain ⟨rfl,rfl⟩:=h
    unfold VR at hx
    obtain ⟨xs,_,hr⟩:=hx
    exact stripL_dom (fun v hv t i h hi' => strip_dom hi d v t i h (VRs_each hr v hv) fun b hb => hs b (hi' b hb)) e b hb
   ·cases h
  case tup vs =>
   split at h
   ·rename_i ts i e
    simp only [Option.some.injEq,Prod.mk.injEq] at h
    obtain ⟨rfl,rfl⟩:=h
    unfold VR at hx
    obtain ⟨xs,_,hr⟩:=hx
    exact stripL_dom (fun v hv t i h hi' => strip_dom hi d v t i h (VRs_each hr v hv) fun b hb => hs b (hi' b hb)) e b hb
   ·cases h
  case clo f vs =>
   split at h
   ·rename_i ts i e
    simp only [Option.some.injEq,Prod.mk.injEq] at h
    obtain ⟨rfl,rfl⟩:=h
    unfold VR at hx
    obtain ⟨xs,_,hr⟩:=hx
    exact stripL_dom (fun v hv t i h hi' => strip_dom hi d v t i h (VRs_each hr v hv) fun b hb => hs b (hi' b hb)) e b hb
   ·cases h
  case rp c off =>
   have hβ:s.β c ≠ none:=VR_ref hx c (by simp [refsC])
   split at h
   ·rename_i B hB
    split at h
    ·rename_i ts i e
     simp only [Option.some.injEq,Prod.mk.injEq] at h
     obtain ⟨rfl,rfl⟩:=h
     rcases List.mem_cons.1 hb with rfl | hb
     ·exact hβ
     ·exact stripL_dom (fun v hv t i h hi' => strip_dom hi d v t i h (held hB List.mem_cons_self hβ v hv) fun b hb => hs b (List.mem_cons_of_mem _ (hi' b hb))) e b hb
    ·cases h
   ·cases h
  case rs c off len =>
   have hβ:s.β c ≠ none:=VR_ref hx c (by simp [refsC])
   split at h
   ·rename_i B hB
    split at h
    ·split at h
     ·rename_i ts i e
      simp only [Option.some.injEq,Prod.mk.injEq] at h
      obtain ⟨rfl,rfl⟩:=h
      rcases List.mem_cons.1 hb with rfl | hb
      ·exact hβ
      ·exact stripL_dom (fun v hv t i h hi' => strip_dom hi d v t i h (held hB List.mem_cons_self hβ v (List.mem_of_mem_drop (List.mem_of_mem_take hv))) fun b hb => hs b (List.mem_cons_of_mem _ (hi' b hb))) e b hb
     ·cases h
    ·cases h
   ·cases h
theorem foot_dom {s:Sit} {T:Nat→V} {a:Act} {σ σ1:Store} (hi:Inv s σ) (h:TR s T a.tmps) {o:Oper} {F:List Nat} (hF:footO conv T σ1 o = some F) (hs:∀ b ∈ F,s.β b ≠ none→σ1 b = σ b):∀ b ∈ F,s.β b ≠ none:=by
 intro b hb
 obtain ⟨dst,op,type,pos,after,guard⟩:=o
 have no:∀ {p:Prop},some ([]:List Nat) = some F→p:=fun e => by rw [← Option.some.inj e] at hb; cases hb
 cases op <;> simp only [footO] at hF <;> try exact no hF
 case load t x => rw [← Option.some.inj hF] at hb; exact VR_ref (val_sound h x) b hb
 case store t x y => rw [← Option.some.inj hF] at hb; exact VR_ref (val_sound h x) b hb
 case slice t x lo hi mx => rw [← Option.some.inj hF] at hb; exact VR_ref (val_sound h x) b hb
 case convert s d x => rw [← Option.some.inj hF] at hb; exact VR_ref (val_sound h x) b hb
 case call c =>
  obtain ⟨callee,args,ts⟩:=c
  cases callee with
  | value f =>
   simp only at hF
   split at hF
   ·rename_i g cs e
    have hcs:∃ xs:List Value,VRs s cs xs:=by
     have hf:=val_sound h f
     rw [e] at hf
     unfold VR at hf
     obtain ⟨xs,_,hr⟩:=hf
     exact ⟨_,hr⟩
    split at hF
    ·rw [← Option.some.inj hF] at hb
     rcases List.mem_append.1 hb with hb | hb
     ·exact VRs_refV (vals_sound h _) b hb
     ·obtain ⟨xs,hr⟩:=hcs
      exact VRs_refV hr b hb
    ·unfold deepO at hF
     split at hF
     ·rename_i ts' ids e2
      have:ids = F:=Option.some.inj hF
      subst this
      refine stripL_dom (fun v hv t i h' hi' => strip_dom hi depth v t i h' ?_ fun b hb => hs b (hi' b hb)) e2 b hb
      rcases List.mem_append.1 hv with hv | hv
      ·exact VRs_each (vals_sound h _) v hv
      ·obtain ⟨xs,hr⟩:=hcs
       exact VRs_each hr v hv
     ·cases hF
   ·exact no hF
  | builtin bb => cases bb <;> first | exact no hF | (simp only at hF; rw [← Option.some.inj hF] at hb; exact VRs_ref (vals_sound h _) b hb)
  | invoke r m => exact no hF
structure RecsOk (conv:FuncId→Conv) (ops:Array Oper) (L:List Rec):Prop where
 at_:∀ r ∈ L,ops[r.i]? = some r.o
 asc:L.Pairwise fun a b => a.i < b.i∧a.hi ≤ b.lo∧(edgeOn b.o a.i = true∨(a.o.apart ops b.o = true∧((writer conv a.o = true∨writer conv b.o = true)→∀ c ∈ a.F,c ∉ b.F)))∧∀ c ∈ a.F,c < b.lo
 le:∀ r ∈ L,r.lo ≤ r.hi
theorem getD_true_of_not {listed:Array Bool} {i:Nat} (h:listed.getD i true = false):i < listed.size∧listed.getD i false = false:=by
 rw [Array.getD_eq_getD_getElem?] at *
 cases hq:listed[i]? with
 | none => rw [hq] at h; cases h
 | some b => rw [hq] at h; exact ⟨(Array.getElem?_eq_some_iff.1 hq).1,h⟩
theorem stepD_F {ops:Array Oper} {o:Oper} {lo hi:Nat} {T T1:Nat→V} {σ σ1:Store} {F:List Nat} (h:stepD P conv call ops o lo T σ = some (T1,σ1,hi,F)):F = []∨footO conv T σ o = some F:=by
 unfold stepD at h
 split at h
 ·split at h
  ·rename_i v σ' nx' he
   simp only [Option.some.injEq,Prod.mk.injEq] at h
   obtain ⟨_,_,_,rfl⟩:=h
   unfold evOpD at he
   unfold footIds
   cases hf:footO conv T σ o with
   | none => rw [hf] at he; cases he
   | some F => exact .inr rfl
  ·cases h
 ·simp only [Option.some.injEq,Prod.mk.injEq] at h
  obtain ⟨_,_,_,rfl⟩:=h
  exact .inl rfl
 ·cases h
theorem run_at {ops:Array Oper} {r:Rec} {L2:List Rec} {T':Nat→V} {σ':Store}:∀ (L1:List Rec) (T:Nat→V) (σ:Store),(∀ b ∈ L1,b.o.apart ops r.o = true)→(∀ b ∈ L1,writer conv b.o = true→∀ c ∈ b.F,c ∉ r.F)→RunD P conv call ops (L1 ++ r :: L2) T σ T' σ' →
  ∃ T1 σ1 T2 σ2,(∀ t ∈ r.o.looksAt ops,T1 t = T t)∧(∀ c ∈ r.F,(∀ b ∈ L1,¬(b.lo ≤ c∧c < b.hi))→σ1 c = σ c)∧stepD P conv call ops r.o r.lo T1 σ1 = some (T2,σ2,r.hi,r.F)
 | [],T,σ,_,_,h => by obtain ⟨T1,σ1,h1,_⟩:=h; exact ⟨T,σ,T1,σ1,fun _ _ => rfl,fun _ _ _ => rfl,h1⟩
 | b :: L1,T,σ,hap,hw,h => by
  obtain ⟨T1,σ1,h1,h2⟩:=h
  obtain ⟨v,τ,W,rfl,rfl,hWF,hWw,_⟩:=stepD_spec h1
  obtain ⟨n1,_,_⟩:=Oper.apart_spec (hap b List.mem_cons_self)
  obtain ⟨T1,σ1,T2,σ2,g1,g3,g2⟩:=run_at L1 _ _ (fun c hc => hap c (List.mem_cons_of_mem _ hc)) (fun c hc => hw c (List.mem_cons_of_mem _ hc)) h2
  refine ⟨T1,σ1,T2,σ2,fun t ht => (g1 t ht).trans ?_,fun c hc hr => (g3 c hc fun b' hb' => hr b' (List.mem_cons_of_mem _ hb')).trans ?_,g2⟩
  ·cases hdst:b.o.dst with
   | none => rfl
   | some d => exact upd_ne _ _ (fun e => n1 d hdst (by rw [← e]; exact ht))
  ·unfold patchS
   rw [if_neg]
   rintro (e | e)
   ·exact hw b List.mem_cons_self (hWw (by intro e'; rw [e'] at e; cases e)) c (hWF c e) hc
   ·exact hr b List.mem_cons_self e
theorem opD_sound (hc:CallOk P call) {o:Oper} {T:Nat→V} {σ σ':Store} {nx nx':Nat} {v:V} (h:evOpD P conv call o T σ nx = some (v,σ',nx')) {s:Sit} {a:Act} (hi:Inv s σ) (hT:TR s T a.tmps) (hn:Fresh s nx nx')
  {K:Act→World→Prop} {Q:Exit→Act→World→Prop} (hK:∀ s' x,Out s σ nx s' v x σ' nx'→K (a.put o.dst x) s'.w):o.wp P a s.w K Q:=by
 unfold evOpD at h
 split at h
 ·split at h
  ·split at h
   ·rename_i v1 σ1 nx1 he
    split at h
    ·simp only [Option.some.injEq,Prod.mk.injEq] at h
     obtain ⟨rfl,rfl,rfl⟩:=h
     exact op_sound hc he (hi.restrict _) hT hn fun s' x ho => hK s' x (frame_out hi hn ho)
    ·cases h
   ·cases h
  ·cases h
 ·cases h
theorem any_sound (hc:CallOk P call) {ops:Array Oper} {nt:Nat} {s0:Sit} {σ0:Store} {lo0 hi0:Nat} (hd:∀ o ∈ ops.toList,∀ d,o.dst = some d→d < nt) {T':Nat→V} {σ':Store} {Q:Exit→Act→World→Prop}
  (hQ:∀ s a,SimD nt s0 σ0 lo0 hi0 T' σ' [] s a→Q .normal a s.w) (hback:∀ i o,ops[i]? = some o→∀ e ∈ o.after,Region.binds .any e = true→e.on < i) :
  ∀ (L:List Rec) (listed:Array Bool) (T:Nat→V) (σ:Store) (s:Sit) (a:Act),listed.size = ops.size→(∀ i,i < ops.size→(listed.getD i true = false ↔ ∃ r ∈ L,r.i = i))→RecsOk conv ops L→(∀ r ∈ L,lo0 ≤ r.lo∧r.hi ≤ hi0) →
   RunD P conv call ops L T σ T' σ'→SimD nt s0 σ0 lo0 hi0 T σ L s a→wpAny P .any ops Q L.length listed a s.w:=by
 intro L
 induction hlen:L.length generalizing L with
 | zero =>
  intro listed T σ s a hsz hun hok hrange hrun hs
  have:L = []:=List.eq_nil_of_length_eq_zero hlen
  subst this
  obtain ⟨rfl,rfl⟩:=hrun
  refine ⟨?_,hQ s a hs⟩
  unfold Region.ready
  rw [List.filter_eq_nil_iff]
  intro i hi
  have hi':i < ops.size:=List.mem_range.1 hi
  have hno:listed.getD i true ≠ false:=fun e => by obtain ⟨r,hr,_⟩:=(hun i hi').1 e; cases hr
  have hyes:listed.getD i true = true:=by simpa using hno
  simp [hyes]
 | succ n ih =>
  intro listed T σ s a hsz hun hok hrange hrun hs
  refine ⟨fun hrd => ?_,fun i hi => ?_⟩
  ·-- the first record is ready
   exfalso
   obtain ⟨r,L',rfl⟩:∃ r L',L = r :: L':=by
    cases L with
    | nil => simp at hlen
    | cons r L' => exact ⟨r,L',rfl⟩
   have hat:=hok.at_ r List.mem_cons_self
   have hlt:r.i < ops.size:=(Array.getElem?_eq_some_iff.1 hat).1
   have hmem:r.i ∈ Region.ready .any ops listed:=by
    refine mem_ready.2 ⟨(hun r.i hlt).2 ⟨r,List.mem_cons_self,rfl⟩,r.o,hat,fun e he hb => ?_⟩
    have hon:=hback r.i r.o hat e he hb
    have hyes:listed.getD e.on true = true:=by
     cases hq:listed.getD e.on true with
     | true => rfl
     | false =>
      obtain ⟨r',hr',hri⟩:=(hun e.on (by omega)).1 hq
      rcases List.mem_cons.1 hr' with rfl | hr'
      ·omega
      ·have:=(List.pairwise_cons.1 hok.asc).1 r' hr'
       omega
    rw [Array.getD_eq_getD_getElem?] at hyes ⊢
    have:e.on < listed.size:=by omega
    rw [Array.getElem?_eq_getElem this] at hyes ⊢
    exact hyes
   rw [hrd] at hmem
   cases hmem
  ·obtain ⟨hunl,o,ho,hpre⟩:=mem_ready.1 hi
   have hilt:i < ops.size:=(Array.getElem?_eq_some_iff.1 ho).1
   obtain ⟨r,hr,hri⟩:=(hun i hilt).1 hunl
   obtain ⟨L1,L2,rfl⟩:=List.append_of_mem hr
   have hro:r.o = o:=by
    have:=hok.at_ r hr
    rw [hri,ho] at this
    simpa using this.symm
   have hasc:=hok.asc
   have hpw:∀ b ∈ L1,b.i < r.i∧b.hi ≤ r.lo∧(edgeOn r.o b.i = true∨(b.o.apart ops r.o = true∧((writer conv b.o = true∨writer conv r.o = true)→∀ c ∈ b.F,c ∉ r.F)))∧∀ c ∈ b.F,c < r.lo:=fun b hb =>
    (List.pairwise_append.1 hasc).2.2 b hb r List.mem_cons_self
   have hnoedge:∀ b ∈ L1,edgeOn r.o b.i ≠ true:=fun b hb he => by
    unfold edgeOn at he
    rw [Array.any_eq_true'] at he
    obtain ⟨e,hem,hee⟩:=he
    simp only [Bool.and_eq_true,beq_iff_eq] at hee
    have hlt:b.i < ops.size:=(Array.getElem?_eq_some_iff.1 (hok.at_ b (List.mem_append_left _ hb))).1
    have h1:=(hun b.i hlt).2 ⟨b,List.mem_append_left _ hb,rfl⟩
    have h2:=hpre e (by rw [← hro]; exact hem) hee.1
    rw [hee.2] at h2
    rw [(getD_true_of_not h1).2] at h2
    cases h2
   have hnf:∀ b ∈ L1,b.o.apart ops r.o = true∧((writer conv b.o = true∨writer conv r.o = true)→∀ c ∈ b.F,c ∉ r.F):=fun b hb => (hpw b hb).2.2.1.resolve_left (hnoedge b hb)
   obtain ⟨T1,σ1,T2,σ2,g1,g3,g2⟩:=run_at L1 T σ (fun b hb => (hnf b hb).1) (fun b hb hw => (hnf b hb).2 (.inl hw)) hrun
   have hFr:∀ c ∈ r.F,s.β c ≠ none:=by
    rcases stepD_F g2 with e | e
    ·intro c hc; rw [e] at hc; cases hc
    ·exact foot_dom hs.inv hs.tr (footO_congr (σ2:=σ1) (T2:=T) (fun x hx => (val_congr ops g1 x hx).symm) e fun _ _ => rfl) fun c hc hβ => g3 c hc fun b hb hcc => hβ (hs.fresh b (List.mem_append_left _ hb) c hcc.1 hcc.2)
   have hap:∀ b ∈ L1,Ap conv ops b r:=fun b hb => ⟨(hnf b hb).1,(hnf b hb).2,(hpw b hb).2.1,fun c hc hcc => hFr c hc (hs.fresh b (List.mem_append_left _ hb) c hcc.1 hcc.2),(hpw b hb).2.2.2⟩
   obtain ⟨T3,σ3,hstep,hrest⟩:=frontD L1 L2 T T' σ σ' hap hrun
   have hlen':(L1 ++ L2).length = n:=by simp only [List.length_append,List.length_cons] at hlen ⊢; omega
   have hsz':(listed.setIfInBounds i true).size = ops.size:=by simpa using hsz
   have hne:∀ b ∈ L1 ++ L2,b.i ≠ r.i:=fun b hb => by
    rcases List.mem_append.1 hb with hb | hb
    ·have:=(hpw b hb).1; omega
    ·have:=(List.pairwise_cons.1 (List.pairwise_append.1 hasc).2.1).1 b hb; omega
   have hun':∀ j,j < ops.size→((listed.setIfInBounds i true).getD j true = false ↔ ∃ r' ∈ L1 ++ L2,r'.i = j):=fun j hj => by
    have hj2:j < listed.size:=by omega
    by_cases hji:j = i
    ·subst hji
     constructor
     ·intro h
      rw [Array.getD_eq_getD_getElem?,Array.getElem?_setIfInBounds_self] at h
      simp [hj2] at h
     ·rintro ⟨r',hr',e⟩
      exact absurd (e.trans hri.symm) (hne r' hr')
    ·have e1:(listed.setIfInBounds i true).getD j true = listed.getD j true:=by
      rw [Array.getD_eq_getD_getElem?,Array.getD_eq_getD_getElem?,Array.getElem?_setIfInBounds_ne (fun e => hji e.symm)]
     rw [e1,hun j hj]
     constructor
     ·rintro ⟨r',hr',e⟩
      rcases List.mem_append.1 hr' with h | h
      ·exact ⟨r',List.mem_append_left _ h,e⟩
      ·rcases List.mem_cons.1 h with rfl | h
       ·exact absurd (e.symm.trans hri) hji
       ·exact ⟨r',List.mem_append_right _ h,e⟩
     ·rintro ⟨r',hr',e⟩
      rcases List.mem_append.1 hr' with h | h
      ·exact ⟨r',List.mem_append_left _ h,e⟩
      ·exact ⟨r',List.mem_append_right _ (List.mem_cons_of_mem _ h),e⟩
   have hsub:(L1 ++ L2).Sublist (L1 ++ r :: L2):=List.Sublist.append_left (List.sublist_cons_self r L2) L1
   have hok':RecsOk conv ops (L1 ++ L2):=⟨fun x hx => hok.at_ x (hsub.subset hx),hok.asc.sublist hsub,fun x hx => hok.le x (hsub.subset hx)⟩
   have hrange':∀ x ∈ L1 ++ L2,lo0 ≤ x.lo∧x.hi ≤ hi0:=fun x hx => hrange x (hsub.subset hx)
   have hrr:=hrange r hr
   have hdis:∀ x ∈ L1 ++ L2,x.hi ≤ r.lo∨r.hi ≤ x.lo:=fun x hx => by
    rcases List.mem_append.1 hx with hx | hx
    ·exact .inl (hpw x hx).2.1
    ·exact .inr ((List.pairwise_cons.1 (List.pairwise_append.1 hasc).2.1).1 x hx).2.1
   have hmem:o ∈ ops.toList:=by rw [← Array.getElem?_toList] at ho; exact List.mem_of_getElem? ho
   unfold wpOp
   simp only [ho]
   rw [← hro]
   unfold stepD at hstep
   split at hstep
   ·rename_i hw
    rw [wantedB_sound hw hs.tr,if_pos rfl]
    split at hstep
    ·rename_i v σv hiv he
     simp only [Option.some.injEq,Prod.mk.injEq] at hstep
     obtain ⟨rfl,rfl,rfl,_⟩:=hstep
     refine .inl (opD_sound hc he hs.inv hs.tr (hs.fresh r hr) fun s' x hout => ?_)
     refine ih (L1 ++ L2) hlen' _ _ _ s' _ hsz' hun' hok' hrange' hrest ⟨hout.inv,TR_put (hs.tr.mono hout.nxt.le) (fun d e => by rw [hs.size]; exact hd r.o (by rw [hro]; exact hmem) d e) hout.vr,by rw [put_size]; exact hs.size,by rw [put_defers]; exact hs.defers,hs.nxt.trans hout.nxt,fun j hj => ?_,fun x hx j h1 h2 => ?_⟩
     ·rcases hout.dom j hj with h | h
      ·exact hs.dom j h
      ·exact .inr ⟨by omega,by omega⟩
     ·cases hq:s'.β j with
      | none => rfl
      | some l =>
       exfalso
       rcases hout.dom j (by rw [hq]; simp) with h | h
       ·exact h (hs.fresh x (hsub.subset hx) j h1 h2)
       ·have:=hdis x hx; omega
    ·cases hstep
   ·rename_i hw
    rw [wantedB_sound hw hs.tr,if_neg (by simp)]
    simp only [Option.some.injEq,Prod.mk.injEq] at hstep
    obtain ⟨rfl,rfl,_,_⟩:=hstep
    exact ih (L1 ++ L2) hlen' _ _ _ s _ hsz' hun' hok' hrange' hrest ⟨hs.inv,TR_put hs.tr (fun d e => by rw [hs.size]; exact hd r.o (by rw [hro]; exact hmem) d e) (VR_undef s),by rw [put_size]; exact hs.size,by rw [put_defers]; exact hs.defers,hs.nxt,hs.dom,fun x hx => hs.fresh x (hsub.subset hx)⟩
   ·cases hstep
end
end Go.TV
namespace Go.TV
open Go.RowKit
set_option linter.unusedVariables false
set_option linter.unusedSimpArgs false
variable [Known]
section
variable {P:Program} {conv:FuncId→Conv} {call:Call}
theorem recs_of (hc:CallOk P call) {ops:Array Oper}:∀ (l:List Oper) (i:Nat) (st st':St) (fs:List (List Nat)),evOpsD P conv call ops l st = some (st',fs) →
  ∃ L:List Rec,RunD P conv call ops L st.T st.σ st'.T st'.σ∧L.length = l.length∧fs.length = l.length∧st.nx ≤ st'.nx ∧
   (∀ (j:Nat) (r:Rec),L[j]? = some r→r.i = i + j∧l[j]? = some r.o∧fs[j]? = some r.F∧st.nx ≤ r.lo∧r.lo ≤ r.hi∧r.hi ≤ st'.nx∧∀ c ∈ r.F,c < r.lo) ∧
   L.Pairwise (fun a b => a.hi ≤ b.lo)
 | [],i,st,st',fs,h => by
  simp only [evOpsD,Option.some.injEq,Prod.mk.injEq] at h
  obtain ⟨rfl,rfl⟩:=h
  exact ⟨[],⟨rfl,rfl⟩,rfl,rfl,Nat.le_refl _,fun j r h => by simp at h,.nil⟩
 | o :: l,i,st,st',fs,h => by
  have build:∀ (T1:Nat→V) (σ1:Store) (nx1:Nat) (F:List Nat) (fs':List (List Nat)),stepD P conv call ops o st.nx st.T st.σ = some (T1,σ1,nx1,F)→st.nx ≤ nx1→evOpsD P conv call ops l ⟨T1,σ1,nx1⟩ = some (st',fs')→fs = F :: fs' →
    ∃ L:List Rec,RunD P conv call ops L st.T st.σ st'.T st'.σ∧L.length = (o :: l).length∧fs.length = (o :: l).length∧st.nx ≤ st'.nx ∧
     (∀ (j:Nat) (r:Rec),L[j]? = some r→r.i = i + j∧(o :: l)[j]? = some r.o∧fs[j]? = some r.F∧st.nx ≤ r.lo∧r.lo ≤ r.hi∧r.hi ≤ st'.nx∧∀ c ∈ r.F,c < r.lo)∧L.Pairwise (fun a b => a.hi ≤ b.lo):=by
   intro T1 σ1 nx1 F fs' hst hle hrest hfs
   obtain ⟨L,h1,h2,h3,h4,h5,h6⟩:=recs_of hc l (i + 1) ⟨T1,σ1,nx1⟩ st' fs' hrest
   obtain ⟨_,_,_,_,_,_,_,hlt,_⟩:=stepD_spec hst
   subst hfs
   refine ⟨⟨o,i,st.nx,nx1,F⟩ :: L,⟨T1,σ1,hst,h1⟩,by simp [h2],by simp [h3],Nat.le_trans hle h4,fun j r hr => ?_,.cons (fun b hb => ?_) h6⟩
   ·cases j with
    | zero =>
     simp only [List.getElem?_cons_zero,Option.some.injEq] at hr
     subst hr
     exact ⟨rfl,rfl,rfl,Nat.le_refl _,hle,h4,hlt⟩
    | succ j =>
     simp only [List.getElem?_cons_succ] at hr ⊢
     obtain ⟨e1,e2,e3,e4,e5,e6,e7⟩:=h5 j r hr
     simp only at e4
     exact ⟨by omega,e2,e3,by omega,e5,e6,e7⟩
   ·obtain ⟨j,hj⟩:=List.mem_iff_getElem?.1 hb
    exact (h5 j b hj).2.2.2.1
  unfold evOpsD at h
  split at h
  ·rename_i hw
   split at h
   ·rename_i v σ' nx' he
    split at h
    ·rename_i s' fs' hr
     simp only [Option.some.injEq,Prod.mk.injEq] at h
     obtain ⟨rfl,rfl⟩:=h
     have hle:st.nx ≤ nx':=by
      unfold evOpD at he
      split at he
      ·split at he
       ·split at he
        ·rename_i e
         split at he
         ·simp only [Option.some.injEq,Prod.mk.injEq] at he
          obtain ⟨_,_,rfl⟩:=he
          exact evOp_mono hc e
         ·cases he
        ·cases he
       ·cases he
      ·cases he
     exact build _ _ _ _ _ (by unfold stepD; rw [hw]; simp only [he]) hle hr rfl
    ·cases h
   ·cases h
  ·rename_i hw
   split at h
   ·rename_i s' fs' hr
    simp only [Option.some.injEq,Prod.mk.injEq] at h
    obtain ⟨rfl,rfl⟩:=h
    exact build _ _ _ _ _ (by unfold stepD; rw [hw]) (Nat.le_refl _) hr rfl
   ·cases h
  ·cases h
theorem mem_zipIdx_take {α:Type} {l:List α} {i j:Nat} {p:α} (hi:l[i]? = some p) (hij:i < j):(p,i) ∈ (l.take j).zipIdx:=by
 refine List.mem_zipIdx_iff_getElem?.2 ?_
 rw [List.getElem?_take,if_pos hij]; exact hi
theorem draw_sound (hc:CallOk P call) (hm:P.follows .mixedOrders = true) {ops:Array Oper} {id nt nxE:Nat} {s0:Sit} {σ0:Store} {nx0:Nat} (hd:∀ o ∈ ops.toList,∀ d,o.dst = some d→d < nt) {Q:Exit→Act→World→Prop} {st st':St}
  (h:evDraw P conv call ops st = some st') (hE:st'.nx ≤ nxE) (hQ:∀ s a,Sim nt nxE s0 σ0 nx0 st'.T st'.σ st'.nx s a→Q .normal a s.w) {s:Sit} {a:Act} (hs:Sim nt nxE s0 σ0 nx0 st.T st.σ st.nx s a) :
  (Code.region id ops true).wp P Q a s.w:=by
 unfold evDraw at h
 split at h
 ·rename_i hord
  split at h
  ·rename_i s' fs hrun
   split at h
   ·rename_i hpairs
    simp only [Option.some.injEq] at h; subst h
    obtain ⟨L,h1,h2,h3,h4,h5,h6⟩:=recs_of hc ops.toList 0 st s' fs hrun
    have hordj:∀ (j:Nat) (o:Oper),ops.toList[j]? = some o→(∀ e ∈ o.after,Region.binds .any e = true→e.on < j)∧∀ (i:Nat) (p:Oper),i < j→ops.toList[i]? = some p→edgeOn o i = true∨p.apart ops o = true:=by
     intro j o ho
     have:=List.all_eq_true.1 hord (o,j) (List.mem_zipIdx_iff_getElem?.2 ho)
     simp only [Bool.and_eq_true] at this
     refine ⟨fun e he hb => ?_,fun i p hij hp => ?_⟩
     ·have h:=Array.all_eq_true'.1 this.1.1 e he
      rw [hb] at h
      simpa using h
     ·have h:=List.all_eq_true.1 this.2 (p,i) (mem_zipIdx_take hp hij)
      simpa using h
    have hpj:∀ (i j:Nat) (p o:Oper),i < j→ops.toList[i]? = some p→ops.toList[j]? = some o→edgeOn o i ≠ true→(writer conv p = true∨writer conv o = true)→∀ c ∈ (fs[i]?).getD [],c ∉ (fs[j]?).getD []:=by
     intro i j p o hij hp ho he hw c hc hc'
     have hmem:(i,j) ∈ wpairs conv ops.toList:=by
      unfold wpairs
      refine List.mem_flatMap.2 ⟨(o,j),List.mem_zipIdx_iff_getElem?.2 ho,List.mem_filterMap.2 ⟨(p,i),mem_zipIdx_take hp hij,?_⟩⟩
      simp only
      rw [if_neg he,if_pos]
      rcases hw with hw | hw <;> simp [hw]
     have:=List.all_eq_true.1 hpairs (i,j) hmem
     have:=List.all_eq_true.1 this c hc
     simp only [Bool.not_eq_true',List.contains_eq_mem,decide_eq_false_iff_not] at this
     exact this hc'
    have hto:∀ (j:Nat),ops.toList[j]? = ops[j]?:=fun j => Array.getElem?_toList
    have hok:RecsOk conv ops L:=by
     refine ⟨fun r hr => ?_,?_,fun r hr => ?_⟩
     ·obtain ⟨j,hj⟩:=List.mem_iff_getElem?.1 hr
      obtain ⟨e1,e2,_⟩:=h5 j r hj
      rw [e1,Nat.zero_add,← hto]; exact e2
     ·rw [List.pairwise_iff_getElem]
      intro i j hi hj hij
      have q1:=List.getElem?_eq_getElem hi
      have q2:=List.getElem?_eq_getElem hj
      obtain ⟨a1,a2,a3,a4,a5,a6,a7⟩:=h5 i _ q1
      obtain ⟨b1,b2,b3,b4,b5,b6,b7⟩:=h5 j _ q2
      have hp:=(List.pairwise_iff_getElem.1 h6) i j hi hj hij
      rw [Nat.zero_add] at a1 b1
      refine ⟨by omega,hp,?_,fun c hc => Nat.lt_of_lt_of_le (Nat.lt_of_lt_of_le (a7 c hc) a5) hp⟩
      rw [a1]
      by_cases he:edgeOn L[j].o i = true
      ·exact .inl he
      ·refine .inr ⟨((hordj j _ b2).2 i _ hij a2).resolve_left he,fun hw c hc => ?_⟩
       have:=hpj i j _ _ hij a2 b2 he hw c (by rw [a3]; exact hc)
       rw [b3] at this
       exact this
     ·obtain ⟨j,hj⟩:=List.mem_iff_getElem?.1 hr
      exact (h5 j r hj).2.2.2.2.1
    refine wp_region_any hm ?_
    have hb0:Below s.w.heap.size s.w { s.w with drawn:=s.w.drawn + 1 }:=⟨rfl,rfl,rfl,Nat.le_refl _,fun _ _ => rfl⟩
    obtain ⟨hle,hinv,hnxt⟩:=hs.inv.grow hb0
    have hfin:=any_sound hc (s0:=s0) (σ0:=σ0) (nt:=nt) (lo0:=nx0) (hi0:=s'.nx) hd (T':=s'.T) (σ':=s'.σ) (Q:=Q) (fun s1 a1 hs1 => hQ s1 a1 ⟨hs1.inv,hs1.tr,hs1.size,hs1.defers,hs1.nxt,hs1.dom,fun i g1 g2 => ?_,by have:=hs.nx0; omega⟩)
     (fun i o ho => (hordj i o (by rw [hto]; exact ho)).1) L (Array.replicate ops.size false) st.T st.σ { s with w:={ s.w with drawn:=s.w.drawn + 1 } } a (by simp) (fun i hi => ?_) hok (fun r hr => ?_) h1
     ⟨hinv,hs.tr.mono hle,hs.size,hs.defers,hs.nxt.trans hnxt,fun i hi => ?_,fun r hr j g1 g2 => ?_⟩
    ·rw [h2,Array.length_toList] at hfin
     exact hfin
    ·-- no reference beyond
     cases hq:s1.β i with
     | none => rfl
     | some l =>
      exfalso
      rcases hs1.dom i (by rw [hq]; simp) with h | h
      ·exact h (by
        cases hq0:s0.β i with
        | none => rfl
        | some l0 =>
         have:=hs.nxt.le.bb i l0 hq0
         rw [hs.fresh i (by omega) (by omega)] at this
         cases this)
      ·omega
    ·constructor
     ·intro _
      have hl:i < L.length:=by rw [h2,Array.length_toList]; exact hi
      exact ⟨L[i],List.getElem_mem hl,by have:=(h5 i _ (List.getElem?_eq_getElem hl)).1; omega⟩
     ·intro _
      simp [hi]
    ·obtain ⟨j,hj⟩:=List.mem_iff_getElem?.1 hr
     obtain ⟨_,_,_,e4,_,e6,_⟩:=h5 j r hj
     have:=hs.nx0
     exact ⟨by omega,e6⟩
    ·rcases hs.dom i hi with h | h
     ·exact .inl h
     ·exact .inr ⟨h.1,by omega⟩
    ·obtain ⟨k,hk⟩:=List.mem_iff_getElem?.1 hr
     obtain ⟨_,_,_,e4,_,e6,_⟩:=h5 k r hk
     exact hs.fresh j (by omega) (by omega)
   ·cases h
  ·cases h
 ·cases h
end
end Go.TV
namespace Go.TV
open Go.RowKit
set_option linter.unusedVariables false
set_option linter.unusedSimpArgs false
variable [Known]
section
variable {P:Program} {conv:FuncId→Conv} {call:Call}
theorem evDraw_mono (hc:CallOk P call) {ops:Array Oper} {st st':St} (h:evDraw P conv call ops st = some st'):st.nx ≤ st'.nx:=by
 unfold evDraw at h
 split at h
 ·split at h
  ·rename_i s' fs hrun
   split at h
   ·simp only [Option.some.injEq] at h; subst h
    obtain ⟨L,_,_,_,h4,_⟩:=recs_of hc ops.toList 0 st s' fs hrun
    exact h4
   ·cases h
  ·cases h
 ·cases h
theorem evLoop_mono {body:St→Option (Ex × St)} (hb:∀ st e st',body st = some (e,st')→st.nx ≤ st'.nx):∀ (n:Nat) (st st':St) (e:Ex),evLoop body n st = some (e,st')→st.nx ≤ st'.nx
 | 0,st,st',e,h => by cases h
 | n + 1,st,st',e,h => by
  unfold evLoop at h
  split at h
  ·rename_i s1 h1
   exact Nat.le_trans (hb _ _ _ h1) (evLoop_mono hb n s1 st' e h)
  ·exact hb _ _ _ h
theorem evCode_mono (hc:CallOk P call) (n:Nat):∀ (c:Code) (st st':St) (e:Ex),evCode P conv call n c st = some (e,st')→st.nx ≤ st'.nx:=by
 intro c
 induction c with
 | skip => intro st st' e h; simp only [evCode,Option.some.injEq,Prod.mk.injEq] at h; rw [h.2]; exact Nat.le_refl _
 | region id ops draw =>
  intro st st' e h
  simp only [evCode] at h
  split at h
  ·rename_i s' hs
   simp only [Option.some.injEq,Prod.mk.injEq] at h
   obtain ⟨_,rfl⟩:=h
   split at hs
   ·exact evDraw_mono hc hs
   ·exact evOps_mono hc _ _ _ hs
  ·cases h
 | seq a b iha ihb =>
  intro st st' e h
  simp only [evCode] at h
  split at h
  ·rename_i s1 h1
   exact Nat.le_trans (iha _ _ _ h1) (ihb _ _ _ h)
  ·exact iha _ _ _ h
 | cond c a b iha ihb =>
  intro st st' e h
  simp only [evCode] at h
  split at h
  ·exact iha _ _ _ h
  ·exact ihb _ _ _ h
  ·cases h
 | block id c ih =>
  intro st st' e h
  simp only [evCode] at h
  split at h
  ·rename_i j s1 h1
   split at h <;> (simp only [Option.some.injEq,Prod.mk.injEq] at h; obtain ⟨_,rfl⟩:=h; exact ih _ _ _ h1)
  ·exact ih _ _ _ h
 | loop c ih => intro st st' e h; exact evLoop_mono (fun st e st' h => ih st st' e h) n st st' e h
 | exit id => intro st st' e h; simp only [evCode,Option.some.injEq,Prod.mk.injEq] at h; rw [h.2]; exact Nat.le_refl _
 | ret => intro st st' e h; simp only [evCode,Option.some.injEq,Prod.mk.injEq] at h; rw [h.2]; exact Nat.le_refl _
 | _ => intro st st' e h; simp only [evCode] at h; cases h
def toExit:Ex→Exit
 | .norm => .normal
 | .exit id => .exit id
 | .ret => .ret
theorem wp_loop_idx {c:Code} {Q:Exit→Act→World→Prop} (I:Nat→Act→World→Prop) (round:∀ n a w,I n a w→c.wp P (Exit.then (fun a' w' => ∃ m,m < n∧I m a' w') Q) a w) :
  ∀ n a w,I n a w→(Code.loop c).wp P Q a w:=by
 intro n a w h b k cs
 suffices key:∀ n a w,I n a w→∃ e a' w',Q e a' w'∧Arrives P (lone (b.at a (.code c :: .inLoop c :: k)) cs w) b k cs e a' w' by
  obtain ⟨e,a',w',hq,har⟩:=key n a w h
  exact ⟨e,a',w',hq,.of_steps (.one step_loop) har⟩
 intro n
 induction n using Nat.strongRecOn with
 | _ n ih =>
  intro a w h
  obtain ⟨e,a',w',hq,har⟩:=round n a w h b (.inLoop c :: k) cs
  have leave:∀ e',e = e'→e' ≠ .normal→∃ e a' w',Q e a' w'∧Arrives P (lone (b.at a (.code c :: .inLoop c :: k)) cs w) b k cs e a' w':=by
   rintro e' rfl hne
   refine ⟨e,a',w',?_,.pass (x:=.inLoop c) rfl (fun _ _ => .inl hne) har⟩
   cases e <;> first | exact hq | exact absurd rfl hne
  cases e with
  | normal =>
   obtain ⟨m,hm,hI⟩:=hq
   obtain ⟨e2,a2,w2,hq2,har2⟩:=ih m hm a' w' hI
   exact ⟨e2,a2,w2,hq2,.of_steps (Steps.trans har (.one step_inLoop)) har2⟩
  | exit id => exact leave _ rfl (by simp)
  | goto l => exact leave _ rfl (by simp)
  | ret => exact leave _ rfl (by simp)
  | panic ch => exact leave _ rfl (by simp)
  | outgrown => exact leave _ rfl (by simp)
theorem code_sound (hc:CallOk P call) (hm:P.follows .mixedOrders = true) {nt nxE:Nat} {s0:Sit} {σ0:Store} {nx0:Nat} (n:Nat) :
  ∀ (c:Code) (st st':St) (e:Ex) (Q:Exit→Act→World→Prop),evCode P conv call n c st = some (e,st')→dstOk nt c = true→st'.nx ≤ nxE→(∀ s a,Sim nt nxE s0 σ0 nx0 st'.T st'.σ st'.nx s a→Q (toExit e) a s.w) →
  ∀ (s:Sit) (a:Act),Sim nt nxE s0 σ0 nx0 st.T st.σ st.nx s a→c.wp P Q a s.w:=by
 intro c
 induction c with
 | skip =>
  intro st st' e Q h hd hE hQ s a hs
  simp only [evCode,Option.some.injEq,Prod.mk.injEq] at h
  obtain ⟨rfl,rfl⟩:=h
  exact wp_skip (hQ s a hs)
 | region id ops draw =>
  intro st st' e Q h hd hE hQ s a hs
  have hdd:∀ o ∈ ops.toList,∀ d,o.dst = some d→d < nt:=fun o ho d hod => by
   have:=Array.all_eq_true'.1 hd o (by simpa using ho)
   rw [hod] at this
   simpa using this
  simp only [evCode] at h
  split at h
  ·rename_i s' hs'
   simp only [Option.some.injEq,Prod.mk.injEq] at h
   obtain ⟨rfl,rfl⟩:=h
   cases draw with
   | true => exact draw_sound hc hm hdd hs' hE hQ hs
   | false =>
    refine wp_region ?_
    have:=ops_sound hc hdd ops.toList 0 st s' rfl hs' hE hQ s a hs
    rw [Array.length_toList,← List.range_eq_range'] at this
    exact this
  ·cases h
 | seq x y ihx ihy =>
  intro st st' e Q h hd hE hQ s a hs
  simp only [dstOk,Bool.and_eq_true] at hd
  simp only [evCode] at h
  refine wp_seq ?_
  split at h
  ·rename_i s1 h1
   refine ihx st s1 .norm _ h1 hd.1 (Nat.le_trans (evCode_mono hc n y _ _ _ h) hE) (fun s2 a2 hs2 => ?_) s a hs
   exact ihy s1 st' e Q h hd.2 hE hQ s2 a2 hs2
  ·rename_i r hne
   refine ihx st st' e _ h hd.1 hE (fun s2 a2 hs2 => ?_) s a hs
   cases e with
   | norm => exact absurd h (hne st')
   | exit id => exact hQ s2 a2 hs2
   | ret => exact hQ s2 a2 hs2
 | cond c x y ihx ihy =>
  intro st st' e Q h hd hE hQ s a hs
  simp only [dstOk,Bool.and_eq_true] at hd
  simp only [evCode] at h
  have hv:=val_sound hs.tr c
  split at h
  ·rename_i hcv
   rw [hcv] at hv; unfold VR at hv
   exact wp_cond_true hv.1 (ihx st st' e Q h hd.1 hE hQ s a hs)
  ·rename_i hcv
   rw [hcv] at hv; unfold VR at hv
   exact wp_cond_false hv.1 (ihy st st' e Q h hd.2 hE hQ s a hs)
  ·cases h
 | block id c ih =>
  intro st st' e Q h hd hE hQ s a hs
  simp only [dstOk] at hd
  simp only [evCode] at h
  refine wp_block ?_
  split at h
  ·rename_i j s1 h1
   split at h
   ·rename_i hj
    simp only [Option.some.injEq,Prod.mk.injEq] at h
    obtain ⟨rfl,rfl⟩:=h
    exact ih st s1 _ _ h1 hd hE (fun s2 a2 hs2 => by simp only [toExit,Exit.inBlock,hj,if_true]; exact hQ s2 a2 hs2) s a hs
   ·rename_i hj
    simp only [Option.some.injEq,Prod.mk.injEq] at h
    obtain ⟨rfl,rfl⟩:=h
    exact ih st s1 _ _ h1 hd hE (fun s2 a2 hs2 => by simp only [toExit,Exit.inBlock,hj,if_false]; exact hQ s2 a2 hs2) s a hs
  ·rename_i r hne
   refine ih st st' e _ h hd hE (fun s2 a2 hs2 => ?_) s a hs
   cases e with
   | norm => exact hQ s2 a2 hs2
   | exit id => exact absurd h (hne id st')
   | ret => exact hQ s2 a2 hs2
 | loop c ih =>
  intro st st' e Q h hd hE hQ s a hs
  simp only [dstOk] at hd
  simp only [evCode] at h
  refine wp_loop_idx (fun k a w => ∃ st1 s1,s1.w = w∧Sim nt nxE s0 σ0 nx0 st1.T st1.σ st1.nx s1 a∧evLoop (evCode P conv call n c) k st1 = some (e,st')) (fun k a w => ?_) n a s.w ⟨st,s,rfl,hs,h⟩
  rintro ⟨st1,s1,rfl,hs1,h1⟩
  cases k with
  | zero => cases h1
  | succ k =>
   unfold evLoop at h1
   split at h1
   ·rename_i s2 hb
    exact ih st1 s2 .norm _ hb hd (Nat.le_trans (evLoop_mono (fun st e st' h => evCode_mono hc n c st st' e h) k s2 st' e h1) hE) (fun s3 a3 hs3 => ⟨k,Nat.lt_succ_self k,s2,s3,rfl,hs3,h1⟩) s1 a hs1
   ·rename_i r hne
    refine ih st1 st' e _ h1 hd hE (fun s2 a2 hs2 => ?_) s1 a hs1
    cases e with
    | norm => exact absurd h1 (hne st')
    | exit id => exact hQ s2 a2 hs2
    | ret => exact hQ s2 a2 hs2
 | exit id =>
  intro st st' e Q h hd hE hQ s a hs
  simp only [evCode,Option.some.injEq,Prod.mk.injEq] at h
  obtain ⟨rfl,rfl⟩:=h
  exact wp_exit (hQ s a hs)
 | ret =>
  intro st st' e Q h hd hE hQ s a hs
  simp only [evCode,Option.some.injEq,Prod.mk.injEq] at h
  obtain ⟨rfl,rfl⟩:=h
  exact wp_ret (hQ s a hs)
 | _ => intro st st' e Q h; simp only [evCode] at h; cases h
def resF (tmps:Array Value):ResultVar→Sem Value
 | .tmp t => pure (tmps.getD t undef)
 | .cell a t => do loadVar t (← asAddr (tmps.getD a undef))
theorem results_eq (fn:Func) (tmps:Array Value):results fn tmps = (do let vs ← fn.results.mapM (resF tmps); pure (if h:vs.size = 1 then vs[0] else .tuple vs)):=by
 unfold results
 congr 1
theorem results_sound {s:Sit} {σ:Store} (hi:Inv s σ) {T:Nat→V} {tmps:Array Value} (hT:TR s T tmps):∀ (rs:List ResultVar) (vs:List V),evResults P T σ rs = some vs →
  ∃ xs:List Value,(rs.mapM (resF tmps)).run P s.w = .ok xs s.w∧VRs s vs xs
 | [],vs,h => by
  simp only [evResults,Option.some.injEq] at h; subst h
  exact ⟨[],by simp,by unfold VRs; rfl⟩
 | .tmp t :: rs,vs,h => by
  unfold evResults at h
  split at h
  ·rename_i vs' e
   simp only [Option.some.injEq] at h; subst h
   obtain ⟨xs,h1,h2⟩:=results_sound hi hT rs vs' e
   exact ⟨tmps.getD t undef :: xs,by simp only [List.mapM_cons,resF,Sem.run_bind,Sem.run_pure,Result.andThen_ok,h1],by unfold VRs; exact ⟨_,_,rfl,hT t,h2⟩⟩
  ·cases h
 | .cell a t :: rs,vs,h => by
  unfold evResults at h
  split at h
  ·rename_i v vs' e1 e
   simp only [Option.some.injEq] at h; subst h
   obtain ⟨xs,h1,h2⟩:=results_sound hi hT rs vs' e
   obtain ⟨y,h3,h4⟩:=load_sound hi (hT a) e1
   refine ⟨y :: xs,?_,by unfold VRs; exact ⟨_,_,rfl,h4,h2⟩⟩
   have hp:∃ p,tmps.getD a undef = .pointer (some p):=by
    unfold Instr.loadAt at h3
    generalize tmps.getD a undef = z at h3
    cases z <;> first | (simp [Instr.sureAddr,stuck,Sem.run] at h3; done) | skip
    rename_i p
    cases p with
    | none => simp [Instr.sureAddr,stuck,Sem.run] at h3
    | some p => exact ⟨p,rfl⟩
   obtain ⟨p,hp⟩:=hp
   rw [hp] at h3
   have h5:(loadVar t p).run P s.w = .ok y s.w:=by simpa [Instr.loadAt,Instr.sureAddr] using h3
   simp only [List.mapM_cons,resF,Sem.run_bind,hp,asAddr,Sem.run_pure,Result.andThen_ok,h5,h1]
  ·cases h
theorem args_tr {s:Sit} {args:List V} {vals:List Value} (h:VRs s args vals) (n:Nat):TR s (argsT args) (vals.toArray ++ Array.replicate n undef):=by
 intro t
 unfold argsT
 have hl:=VRs_length h
 by_cases ht:t < args.length
 ·have h1:=List.getElem?_eq_getElem ht
  obtain ⟨x,hx,hr⟩:=VRs_get h h1
  rw [h1,Array.getD_eq_getD_getElem?,Array.getElem?_append_left (by simp; omega),List.getElem?_toArray,hx]
  exact hr
 ·rw [List.getElem?_eq_none (by omega),Array.getD_eq_getD_getElem?,Array.getElem?_append_right (by simp; omega)]
  simp only [Option.getD_none]
  have:((Array.replicate n undef)[t - vals.toArray.size]?).getD undef = undef:=by
   rw [Array.getElem?_replicate]; split <;> rfl
  rw [this]
  exact VR_undef s
theorem VR_oneOf {s:Sit} {vs:List V} {xs:List Value} (h:VRs s vs xs):VR s (oneOf vs) (if h:xs.toArray.size = 1 then xs.toArray[0] else .tuple xs.toArray):=by
 have hl:=VRs_length h
 unfold oneOf
 split
 ·rename_i v
  unfold VRs at h
  obtain ⟨y,ys,rfl,h1,h2⟩:=h
  unfold VRs at h2
  subst h2
  simpa using h1
 ·rename_i hne
  have:¬ xs.toArray.size = 1:=by
   intro e
   have hv:vs.length = 1:=by rw [hl]; simpa using e
   match vs,hv with
   | [v],_ => exact hne v rfl
  rw [dif_neg this]
  unfold VR
  exact ⟨_,rfl,h⟩
theorem body_sound (hc:CallOk P call) (hm:P.follows .mixedOrders = true) {f:FuncId} {fn:Func} {body:Code} (hf:P.funcs[f]? = some fn) (hb:fn.body = some body) {n:Nat} {args:List V} (hok:fnOk fn body args.length = true) {σ σ':Store} {nx nx':Nat} {v:V}
  (h:evBody P conv call n fn body args σ nx = some (v,σ',nx')):SoundAt P f args σ nx v σ' nx':=by
 unfold fnOk at hok
 simp only [Bool.and_eq_true,decide_eq_true_eq,Bool.not_eq_true'] at hok
 obtain ⟨⟨hname,hsz⟩,hdst⟩:=hok
 have main:∀ (e:Ex) (st:St) (vs:List V),evCode P conv call n body ⟨argsT args,σ,nx⟩ = some (e,st)→(e = .norm∨e = .ret)→evResults P st.T st.σ fn.results.toList = some vs→SoundAt P f args σ nx (oneOf vs) st.σ st.nx:=by
  intro e st vs hcode he hres
  refine ⟨evCode_mono hc n body _ _ _ hcode,⟨fn,hf,by rw [hb]; rfl,hname⟩,fun s vals hi hfr hargs => ?_⟩
  have hl:=VRs_length hargs
  refine calls_of_wp hf hb ?_
  refine code_sound hc hm (nt:=fn.ntmps) (nxE:=st.nx) (s0:=s) (σ0:=σ) (nx0:=nx) n body ⟨argsT args,σ,nx⟩ st e _ hcode hdst (Nat.le_refl _) (fun s1 a1 hs1 => ?_) s _
   ⟨hi,args_tr hargs _,by simp; omega,rfl,.refl s σ,.refl s nx nx,hfr,Nat.le_refl _⟩
  obtain ⟨xs,h1,h2⟩:=results_sound hs1.inv hs1.tr fn.results.toList vs hres
  have hrun:(results fn a1.tmps).run P s1.w = .ok (if h:xs.toArray.size = 1 then xs.toArray[0] else .tuple xs.toArray) s1.w:=by
   rw [results_eq]
   have e1:fn.results = fn.results.toList.toArray:=by simp
   rw [e1,List.mapM_toArray]
   simp only [Sem.run_bind,Sem.run_map,h1,Result.andThen_ok,Sem.run_pure]
  have hpost:bodyPost P fn (fun e w' => ∃ s' x,s'.w = w'∧e = .returned x∧Out s σ nx s' (oneOf vs) x st.σ st.nx) .normal a1 s1.w :=
   ⟨hs1.defers,_,hrun,s1,_,rfl,rfl,⟨VR_oneOf h2,hs1.inv,hs1.nxt,hs1.dom⟩⟩
  rcases he with rfl | rfl
  ·exact hpost
  ·exact hpost
 unfold evBody at h
 split at h
 ·rename_i st hcode
  split at h
  ·rename_i vs hres
   simp only [Option.some.injEq,Prod.mk.injEq] at h
   obtain ⟨rfl,rfl,rfl⟩:=h
   exact main _ st vs hcode (.inl rfl) hres
  ·cases h
 ·rename_i st hcode
  split at h
  ·rename_i vs hres
   simp only [Option.some.injEq,Prod.mk.injEq] at h
   obtain ⟨rfl,rfl,rfl⟩:=h
   exact main _ st vs hcode (.inr rfl) hres
  ·cases h
 ·cases h
def ExtOk (P:Program) (ext:Ext):Prop:=∀ f g,ext f = some g→∀ args σ nx v σ' nx',g args σ nx = some (v,σ',nx')→SoundAt P f args σ nx v σ' nx'
theorem evF_sound (hm:P.follows .mixedOrders = true) {ext:Ext} (he:ExtOk P ext):∀ k,CallOk P (evF P conv ext k)
 | 0 => fun f args σ nx v σ' nx' h => by cases h
 | k + 1 => fun f args σ nx v σ' nx' h => by
  unfold evF at h
  split at h
  ·rename_i g hg
   exact he f g hg args σ nx v σ' nx' h
  ·split at h
   ·rename_i fn hf
    split at h
    ·rename_i body hb
     split at h
     ·rename_i hok
      exact body_sound (evF_sound hm he k) hm hf hb hok h
     ·cases h
    ·cases h
   ·cases h
end
end Go.TV
