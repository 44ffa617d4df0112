import Derived.Orders
import Derived.Below
import Derived.Laws.AppendOwn
import Derived.Laws.NewBlocks
import Derived.Laws.MakeOwn
import Derived.Laws.OwnMore
import Derived.Laws.BytesString
import Derived.Laws.CopyRow
import Derived.Laws.IdiomCopy
set_option linter.unusedSimpArgs false
set_option linter.unusedVariables false
set_option linter.unusedSectionVars false
set_option linter.defProp false
set_option maxRecDepth 10000
set_option maxHeartbeats 4000000
namespace Go
theorem yD.{u}{c:Prop}{h:Decidable c}(k:¬c){α:Sort u}{t e:α}:(ite c t e)=e:=if_neg k
theorem yC.{u}{c:Prop}{h:Decidable c}(k:c){α:Sort u}{t e:α}:(ite c t e)=t:=if_pos k
end Go
open Array renaming length_toList->zi,getD_eq_getD_getElem?->zY,getElem?_toList->zV,getElem?_append_left->yM
open Bool renaming and_eq_true->zU,false_eq_true->zO
open List renaming getElem?_eq_getElem->zo,getElem?_append_left->zl,getElem?_append_right->zk,mem_append_left->zf,mem_cons_of_mem->zZ,length_append->zX,mem_cons_self->zW,getElem_mem->zS,mem_append_right->zQ,append_assoc->zN,length_take->zM,eq_nil_of_length_eq_zero->zL,getElem?_take->zK,size_toArray->zG,flatMap_cons->zF,getElem?_toArray->z_,getElem?_eq_none->yw,length_drop->yu,length_cons->yj,map_cons->yc,getElem?_cons_zero->yZ,getElem?_map->yY,getElem?_drop->yU,map_congr_left->yR,getElem?_cons_succ->yH,length_map->yG
open Nat renaming le_refl->zu,mul_le_mul_right->zJ,add_assoc->yg,le_trans->yX,lt_of_lt_of_le->yQ,zero_add->yP,add_zero->yK
open Option renaming bind_some->zq,map_some->zh,getD_some->yV
open Option.some renaming injEq->yF
open Prod.mk renaming injEq->yE
namespace Go.TV
open Go.RowKit
inductive V where
 |sc (v:Value)
 |nil
 |junk
 |agg (vs:List V)
 |dw (vs:List V)
 |clo (f:FuncId) (cs:List V)
 |tp (row:List V) (off:Nat)
 |ts (row:List V) (len:Nat)
 |rp (b off:Nat)
 |rs (b off len:Nat)
 deriving Inhabited
def atom:Value->Bool
 | .bool _| .int _ _| .string _| .pointer none| .nilFunc=>true
 |_=>false
structure Loc where
 k:Nat
 o:Nat
 c:Nat
 st:Nat
structure pY where
 cells:List V
 st:Nat
 wr:Bool
abbrev Store:=Nat->Option pY
structure Sit where
 Z:Nat->Nat->Prop
 β:Nat->Option Loc
 w:World
def Sit.nb(s:Sit):Sit:={ s with β:=fun _=>none }
mutual
def VR(s:Sit):V->Value->Prop
 | .sc u,x=>x=u/\atom u=true
 | .nil,x=>∃a,x= .slice a 0 0
 | .junk,_=>True
 | .agg vs,x=>∃xs,x= .agg xs/\VRs s vs xs.toList
 | .dw vs,x=>∃xs,x= .tuple xs/\VRs s vs xs.toList
 | .clo f cs,x=>∃xs,x= .func (.func f) #[] xs/\VRs s cs xs.toList
 | .tp row off,x=>∃k o,x= .pointer (some ⟨k,o+off,none⟩)/\dh s.nb row k o
 | .ts row len,x=>∃a cap,x= .slice a len cap/\len<=cap/\(row=[]\/∃k o,a=some ⟨k,o,none⟩/\dh s.nb row k o)
 | .rp b off,x=>∃l,s.β b=some l/\x= .pointer (some ⟨l.k,l.o+off,none⟩)
 | .rs b off len,x=>∃l cap,s.β b=some l/\x= .slice (some ⟨l.k,l.o+off,none⟩) len cap/\len<=cap/\off+cap*l.st=l.c
def VRs(s:Sit):List V->List Value->Prop
 |[],xs=>xs=[]
 |v :: vs,xs=>∃y h,xs=y :: h/\VR s v y/\VRs s vs h
def dh(s:Sit):List V->Nat->Nat->Prop
 |[],_,_=>True
 |v :: vs,k,o=>s.Z k o/\(∃c,s.w.cell? ⟨k,o,none⟩=some c/\VR s v c)/\dh s vs k (o+1)
end
structure Le (s s':Sit):Prop where
 zz:∀k o,s.Z k o->s'.Z k o
 kz:∀k o,s.Z k o->s'.w.cell? ⟨k,o,none⟩=s.w.cell? ⟨k,o,none⟩
 bb:∀b l,s.β b=some l->s'.β b=some l
theorem Le.refl(s:Sit):Le s s:=⟨fun _ _ h=>h,fun _ _ _=>rfl,fun _ _ h=>h⟩
theorem Le.trans{a b c:Sit}(h:Le a b)(q:Le b c):Le a c :=
 ⟨fun k o z=>q.zz k o (h.zz k o z),fun k o z=>(q.kz k o (h.zz k o z)).trans (h.kz k o z),fun b l e=>q.bb b l (h.bb b l e)⟩
theorem Le.nb{s s':Sit}(h:Le s s'):Le s.nb s'.nb:=⟨h.zz,h.kz,fun _ _ e=>by cases e⟩
theorem Le.Hz(s:Sit):Le s.nb s:=⟨fun _ _ z=>z,fun _ _ _=>rfl,fun _ _ e=>by cases e⟩
mutual
theorem yB{s s':Sit}(h:Le s s'):∀(v:V) (x:Value),VR s v x->VR s' v x
 | .sc u,x,hv=>by unfold VR at *;exact hv
 | .nil,x,hv=>by unfold VR at *;exact hv
 | .junk,x,hv=>by unfold VR;trivial
 | .agg vs,x,hv=>by unfold VR at *;obtain⟨xs,e,q⟩:=hv;exact⟨xs,e,fA h vs _ q⟩
 | .dw vs,x,hv=>by unfold VR at *;obtain⟨xs,e,q⟩:=hv;exact⟨xs,e,fA h vs _ q⟩
 | .clo f vs,x,hv=>by unfold VR at *;obtain⟨xs,e,q⟩:=hv;exact⟨xs,e,fA h vs _ q⟩
 | .tp row off,x,hv=>by unfold VR at *;obtain⟨k,o,e,q⟩:=hv;exact⟨k,o,e,y7 h.nb row k o q⟩
 | .ts row len,x,hv=>by
  unfold VR at *;obtain⟨a,cap,e,D,q⟩:=hv;refine⟨a,cap,e,D,q.imp id ?_⟩;rintro ⟨k,o,e,q⟩;exact⟨k,o,e,y7 h.nb row k o q⟩
 | .rp b off,x,hv=>by unfold VR at *;obtain⟨l,e,q⟩:=hv;exact⟨l,h.bb _ _ e,q⟩
 | .rs b off len,x,hv=>by unfold VR at *;obtain⟨l,cap,e,q⟩:=hv;exact⟨l,cap,h.bb _ _ e,q⟩
theorem fA{s s':Sit}(h:Le s s'):∀(vs:List V) (xs:List Value),VRs s vs xs->VRs s' vs xs
 |[],xs,hv=>by unfold VRs at *;exact hv
 |v :: vs,xs,hv=>by
  unfold VRs at *;obtain⟨y,q,e,D,E⟩:=hv;exact⟨y,q,e,yB h v y D,fA h vs q E⟩
theorem y7{s s':Sit}(h:Le s s'):∀(vs:List V) (k o:Nat),dh s vs k o->dh s' vs k o
 |[],k,o,hv=>by unfold dh;trivial
 |v :: vs,k,o,hv=>by
  unfold dh at *;obtain⟨q,⟨c,D,E⟩,G⟩:=hv;exact⟨h.zz k o q,⟨c,(h.kz k o q).trans D,yB h v c E⟩,y7 h vs k (o+1) G⟩
end
class Known where
 cells:List (Nat×Nat×Option Value)
def Kn[Known](s:Sit):Prop:=∀p∈Known.cells,s.Z p.1 p.2.1/\s.w.cell? ⟨p.1,p.2.1,none⟩=p.2.2
theorem Kn.mono[Known]{s s':Sit}(h:Kn s)(D:Le s s'):Kn s':=fun p q=>⟨D.zz _ _ (h p q).1,(D.kz _ _ (h p q).1).trans (h p q).2⟩
theorem Kn.same[Known]{s s':Sit}(h:Kn s)(D:∀k o,s.Z k o->s'.Z k o)(E:s'.w=s.w):Kn s':=fun p q=>⟨D _ _ (h p q).1,by rw[E];exact(h p q).2⟩
variable [Known]
structure Inv (s:Sit) (σ:Store):Prop where
 blk:∀b B,σ b=some B->∃l c e,s.β b=some l/\s.w.heap[l.k]?=some (.cells c e (0,0))/\l.o+l.c<=c.size/\B.cells.length<=l.c/\l.st=B.st /\
  (∀(i:Nat) (v:V),B.cells[i]?=some v->∃x,c[l.o+i]?=some x/\VR s v x)/\(∀o,s.Z l.k o->B.wr=false/\o<l.o+B.cells.length)/\(1000000<=B.st->e+1000000=B.st/\l.o=0)
 qg:∀b b' B B' l l',σ b=some B->σ b'=some B'->s.β b=some l->s.β b'=some l'->l.k=l'.k->b=b'
 zb:∀k o,s.Z k o->k<s.w.heap.size
 kn:Kn s
structure mO (s:Sit) (σ:Store) (s':Sit) (σ':Store):Prop where
 le:Le s s'
 zn:∀k o,s'.Z k o->s.Z k o\/s.w.heap.size<=k\/∃b B l,σ b=some B/\s.β b=some l/\l.k=k
 kb:∀k,k<s.w.heap.size->(∀b B l,σ b=some B->s.β b=some l->l.k≠k)->s'.w.heap[k]?=s.w.heap[k]?
 nb:∀b B l,σ' b=some B->s'.β b=some l->s.w.heap.size<=l.k\/∃b0 B0 l0,σ b0=some B0/\s.β b0=some l0/\l0.k=l.k
 hs:s.w.heap.size<=s'.w.heap.size
 os:s'.w.os=s.w.os
 tape:s'.w.tape=s.w.tape
 output:s'.w.output=s.w.output
theorem mO.refl(s:Sit)(σ:Store):mO s σ s σ :=
 ⟨.refl s,fun _ _ h=> .inl h,fun _ _ _=>rfl,fun b B l h q=> .inr ⟨b,B,l,h,q,rfl⟩,zu _,rfl,rfl,rfl⟩
theorem mO.trans{a b c:Sit}{σ M N:Store}(h:mO a σ b M)(D:mO b M c N):mO a σ c N:=by
 refine⟨h.le.trans D.le,fun k o S=>?_,fun k O R=>?_,fun i B l hi J=>?_,yX h.hs D.hs,D.os.trans h.os,D.tape.trans h.tape,D.output.trans h.output⟩
 .rcases D.zn k o S with q|q|⟨i,B,l,q,E,G⟩
  .exact h.zn k o q
  .exact .inr (.inl (yX h.hs q))
  .subst G
   rcases h.nb i B l q E with K|K
   .exact .inr (.inl K)
   .exact .inr (.inr K)
 .refine(D.kb k (yQ O h.hs) fun i B l hi J e=>?_).trans (h.kb k O R)
  rcases h.nb i B l hi J with q|⟨b0,B0,l0,q,E,G⟩
  .omega
  .exact R b0 B0 l0 q E (G.trans e)
 .rcases D.nb i B l hi J with q|⟨b0,B0,l0,q,E,G⟩
  .exact .inl (yX h.hs q)
  .rw[<- G]
   exact h.nb b0 B0 l0 q E
theorem mO.below{s s':Sit}{σ':Store}(h:mO s (fun _=>none) s' σ'):Below s.w.heap.size s.w s'.w :=
 ⟨h.os,h.tape,h.output,h.hs,fun k q=>h.kb k q (fun b B l D=>by cases D)⟩
end Go.TV
namespace Go.TV
open Go.RowKit
variable [Known]
def aA{α:Type}(P:Program):Sem α->Option α
 | .pure a=>some a
 | .program k=>aA P (k P)
 | .mark _ k=>aA P k
 |_=>none
theorem vJ{α:Type}{P:Program}:∀(m:Sem α) {a:α},aA P m=some a->∀w,m.run P w= .ok a w
 | .pure b,a,h,w=>by simp only[aA,yF]at h;subst h;rfl
 | .program k,a,h,w=>by unfold aA at h;exact vJ (k P) h w
 | .mark _ k,a,h,w=>by unfold aA at h;exact vJ k h w
 | .load ..,a,h,w=>by simp[aA]at h
 | .store ..,a,h,w=>by simp[aA]at h
 | .new ..,a,h,w=>by simp[aA]at h
 | .shape ..,a,h,w=>by simp[aA]at h
 | .freeze ..,a,h,w=>by simp[aA]at h
 | .frozen ..,a,h,w=>by simp[aA]at h
 | .getObj ..,a,h,w=>by simp[aA]at h
 | .setObj ..,a,h,w=>by simp[aA]at h
 | .choose ..,a,h,w=>by simp[aA]at h
 | .sys ..,a,h,w=>by simp[aA]at h
 | .halt ..,a,h,w=>by simp[aA]at h
def aX:Value->V
 | .slice _ n m=>if n=0/\m=0 then .nil else .junk
 | .func fn fi ca=>match fn with
  | .func f=>if fi=#[]/\ca=#[]then .clo f []else .junk
  |_=> .junk
 |v=>if atom v then .sc v else .junk
def dY:Value->V
 | .agg cs=> .agg (cs.toList.map aX)
 | .tuple vs=> .dw (vs.toList.map aX)
 |v=>aX v
def toCell:V->Option Value
 | .sc v=>some v
 |_=>none
def dV:List V->Option (List Value)
 |[]=>some []
 |v :: vs=>match toCell v,dV vs with
  |some x,some xs=>some (x :: xs)
  |_,_=>none
def toVal:V->Option Value
 | .sc v=>some v
 | .agg vs=>(dV vs).map fun xs=> .agg xs.toArray
 |_=>none
def aZ:V->Bool
 | .agg _| .dw _| .junk=>false
 |_=>true
def cellsOfV:V->Option (List V)
 | .agg vs=>some vs
 |v=>if aZ v then some [v]else none
def upd{α:Type}(f:Nat->α)(i:Nat)(v:α):Nat->α:=fun j=>if j=i then v else f j
theorem uQ{α:Type}(f:Nat->α)(i:Nat)(v:α):upd f i v i=v:=by simp[upd]
theorem uS{α:Type}(f:Nat->α){i j:Nat}(v:α)(h:j≠i):upd f i v j=f j:=by simp[upd,h]
theorem gq{α:Type}{f:Nat->α}{i j:Nat}{v:α}(h:j≠i:=by omega):upd f i v j=f j:=uS f v h
def bW(σ:Store):V->Nat->Option (List V)
 | .tp row off,n=>if off+n<=row.length then some ((row.drop off).take n)else none
 | .rp b off,n=>match σ b with
  |some B=>if off+n<=B.cells.length then some ((B.cells.drop off).take n)else none
  |none=>none
 |_,_=>none
def rowOf(σ:Store)(size:Nat):V->Option (List V×Nat)
 | .nil=>some ([],0)
 | .ts row len=>if row.length=len*size then some (row,len)else none
 | .rs b off len=>match σ b with
  |some B=>if off+len*size<=B.cells.length then some ((B.cells.drop off).take (len*size),len)else none
  |none=>none
 |_=>none
def d_:TypeDesc->Bool
 | .struct _| .array .. =>true
 |_=>false
def patch(cells:List V)(off:Nat):List V->List V
 |[v]=>cells.set off v
 |vs=>cells.take off++vs++cells.drop (off+vs.length)
theorem vW(cells:List V)(off:Nat)(vs:List V)(h:off+vs.length<=cells.length):patch cells off vs=cells.take off++vs++cells.drop (off+vs.length):=by
 unfold patch
 split
 .rename_i v
  simp only[List.length_singleton]at h⊢;rw[List.set_eq_take_append_cons_drop,yC (by omega)];simp
 .rfl
abbrev jV:=Option (V×Store×Nat)
def aO(P:Program)(σ:Store)(t:TypeId)(a:V):Option V :=
 match P.info? t,P.underlying t with
 |some i,some d=>if d_ d then(bW σ a i.size).map .agg else
  match bW σ a 1 with
  |some [v]=>some v
  |_=>none
 |_,_=>none
def bU(P:Program)(σ:Store)(t:TypeId)(a v:V):Option Store :=
 match P.info? t,a,cellsOfV v with
 |some i,.rp b off,some vs=>match σ b with
  |some B=>if B.wr=true/\vs.length=i.size/\off+vs.length<=B.cells.length/\vs.all aZ=true then
    some (upd σ b (some { B with cells:=patch B.cells off vs }))else none
  |none=>none
 |_,_,_=>none
def bF(σ:Store)(nx:Nat)(cells:List V)(st:Nat):Store:=upd σ nx (some ⟨cells,st,true⟩)
def bY(place:Nat->Option (Nat×Nat))(cells:List V):List (Nat×V)->Option (List V)
 |[]=>some cells
 |(i,v) :: rest=>match place i,cellsOfV v with
  |some (off,size),some vs=>if vs.length=size/\off+vs.length<=cells.length then bY place (patch cells off vs) rest else none
  |_,_=>none
def places(P:Program)(t:TypeId):Option (Nat->Option (Nat×Nat)) :=
 match P.underlying t with
 |some (.struct fields)=>(aA P (fields.mapM fun f=>do pure (f.offset,<- sizeOf f.type))).map fun a i=>a[i]?
 |some (.array _ elem)=>(P.info? elem).map fun e i=>some (i*e.size,e.size)
 |_=>none
def iR(P:Program)(t:TypeId)(parts:List (Nat×V)):Option V :=
 match P.info? t,places P t with
 |some i,some pl=>match i.zero with
  |some z=>(bY pl (z.cells.toList.map aX) parts).map .agg
  |none=>none
 |_,_=>none
def rep(n:Nat)(z:List V):List V:=(List.replicate n z).flatten
def bH(P:Program)(t:TypeId)(len:Nat)(parts:List (Nat×V))(σ:Store)(nx:Nat):jV :=
 match P.underlying t with
 |some (.slice elem)=>match P.info? elem with
  |some i=>match i.zero with
   |some z=>if len=0 then some (.nil,σ,nx)else
    if 0<i.size/\len*i.size<=1000/\z.cells.size=i.size then
     match bY (fun j=>some (j*i.size,i.size)) (rep len (z.cells.toList.map aX)) parts with
     |some cells=>some (.rs nx 0 len,bF σ nx cells i.size,nx+1)
     |none=>none
    else none
   |none=>none
  |none=>none
 |_=>none
def eF(P:Program)(t:TypeId)(len cap:V)(σ:Store)(nx:Nat):jV :=
 match P.underlying t,len,cap with
 |some (.slice elem),.sc (.int .i64 l),.sc (.int .i64 c)=>match P.info? elem with
  |some i=>match i.zero with
   |some z=>if 0<=l/\l<=c/\(i.bytes:Int)*c<=281474976710656/\c<=9223372036854775807/\0<i.size/\i.size<1000000/\z.cells.size=i.size then
     some (.rs nx 0 l.toNat,bF σ nx (rep l.toNat (z.cells.toList.map aX)) i.size,nx+1)else none
   |none=>none
  |none=>none
 |_,_,_=>none
def bnd(x:Option V)(d:Nat):Option Nat :=
 match x with
 |none=>some d
 |some (.sc (.int _ i))=>if 0<=i then some i.toNat else none
 |_=>none
def iT(P:Program)(t:TypeId)(x:V)(lo hi q:Option V)(σ:Store):Option V :=
 match P.underlying t with
 |some .string=>match x with
  | .sc (.string s)=>match bnd lo 0,bnd hi s.size,q with
   |some l,some h,none=>if l<=h/\h<=s.size then some (.sc (.string (s.extract l h)))else none
   |_,_,_=>none
  |_=>none
 |some (.slice elem)=>match P.info? elem,q with
  |some i,none=>match x with
   | .nil=>match bnd lo 0,bnd hi 0 with
    |some l,some h=>if l<=h/\h<=0 then some .nil else none
    |_,_=>none
   | .ts row len=>match bnd lo 0,bnd hi len with
    |some l,some h=>if l<=h/\h<=len then some (.ts ((row.drop (l*i.size)).take ((h-l)*i.size)) (h-l))else none
    |_,_=>none
   | .rs b off len=>match bnd lo 0,bnd hi len,σ b with
    |some l,some h,some B=>if l<=h/\0<i.size/\B.st=i.size/\off+h*i.size<=B.cells.length then
      if l=0 then some (.rs b off h)else if l=h then some (.ts [] 0)else some (.rs b (off+l*i.size) (h-l))else none
    |_,_,_=>none
   |_=>none
  |some _,some m=>match hi with
   |none=>none
   |some _=>match bnd lo 0,bnd hi 0,bnd (some m) 0 with
    |some l,some h,some m=>match x with
     | .ts _ len| .rs _ _ len=>if l<=h/\h<=m/\m<=len then some .junk else none
     |_=>none
    |_,_,_=>none
  |none,_=>none
 |_=>none
def aS(P:Program)(t:TypeId)(x:V)(f:Nat):Option V :=
 match P.underlying t with
 |some (.struct fields)=>match fields[f]? with
  |some fd=>match P.info? fd.type with
   |some i=>if i.size=0 then none else
    match x with
    | .tp row off=>some (.tp row (off+fd.offset))
    | .rp b off=>some (.rp b (off+fd.offset))
    |_=>none
   |none=>none
  |none=>none
 |_=>none
def lu(P:Program)(t:TypeId)(cs:List V)(off:Nat):Option V :=
 match P.info? t,P.underlying t with
 |some i,some d=>if d_ d then some (.agg ((cs.drop off).take i.size))else cs[off]?
 |_,_=>none
def iU(P:Program)(t:TypeId)(x:V)(f:Nat):Option V :=
 match P.underlying t,x with
 |some (.struct fields),.agg cs=>match fields[f]? with
  |some fd=>lu P fd.type cs fd.offset
  |none=>none
 |_,_=>none
def bn(P:Program)(t:TypeId)(x i:V):Option V :=
 match P.underlying t,i with
 |some (.slice elem),.sc (.int _ i)=>match P.info? elem with
  |some e=>match x with
   | .ts row len=>if 0<=i/\i<len/\row≠[]then some (.tp row (i.toNat *e.size))else none
   | .rs b off len=>if 0<=i/\i<len then some (.rp b (off+i.toNat *e.size))else none
   |_=>none
  |none=>none
 |some (.array n elem),.sc (.int _ i)=>match P.info? elem with
  |some e=>if 0<=i/\i<n then match x with
   | .tp row off=>some (.tp row (off+i.toNat *e.size))
   | .rp b off=>some (.rp b (off+i.toNat *e.size))
   |_=>none
   else none
  |none=>none
 |_,_=>none
def dW(P:Program)(t:TypeId)(x i:V):Option V :=
 match x with
 | .sc (.string s)=>match i with
  | .sc (.int _ i)=>match P.underlying t with
   |some .string=>match(if 0<=i then s[i.toNat]? else none)with
    |some b=>some (.sc (.int .u8 b.toNat))
    |none=>none
   |_=>none
  |_=>none
 | .agg cs=>match P.underlying t,i with
  |some (.array n elem),.sc (.int _ i)=>match P.info? elem with
   |some e=>if 0<=i/\i<n then lu P elem cs (i.toNat *e.size)else none
   |none=>none
  |_,_=>none
 |_=>none
def isRef:V->Bool
 | .tp .. | .rp .. =>true
 |_=>false
def dR:V->Bool
 | .sc (.pointer none)=>true
 |_=>false
def aT(P:Program)(op:BinOp)(t:TypeId)(x y:Operand)(a b:V):Option V :=
 match toVal a,toVal b with
 |some u,some v=>(aA P (do eqGuard op t x y u v;binOp op t u v)).bind fun r=>if atom r then some (.sc r)else none
 |_,_=>match P.underlying t,op with
  |some (.pointer _),.eql=>if isRef a && dR b||isRef b && dR a then some (.sc (.bool false))else none
  |some (.pointer _),.neq=>if isRef a && dR b||isRef b && dR a then some (.sc (.bool true))else none
  |_,_=>none
def qh(P:Program)(op:UnOp)(a:V):Option V :=
 match toVal a with
 |some u=>(aA P (Op.unary op u)).bind fun r=>if atom r then some (.sc r)else none
 |none=>none
def aP:List V->Option (List UInt8)
 |[]=>some []
 | .sc (.int .u8 n) :: vs=>if 0<=n/\n<256 then(aP vs).map (UInt8.ofNat n.toNat :: ·)else none
 |_ :: _=>none
def bg(P:Program)(src dst:TypeId)(a:V)(σ:Store):Option V :=
 match toVal a with
 |some u=>(aA P (convert src dst u)).bind fun r=>if atom r then some (.sc r)else none
 |none=>match P.underlying src,P.underlying dst with
  |some (.slice e),some .string=>match P.underlying e,P.info? e with
   |some (.int .u8),some i=>if i.size=1 then
     match rowOf σ 1 a with
     |some (row,_)=>(aP row).map fun l=> .sc (.string ⟨l.toArray⟩)
     |none=>none
    else none
   |_,_=>none
  |_,_=>none
end Go.TV
namespace Go.TV
open Go.RowKit
variable [Known]
theorem xq{s:Sit}:∀ {vs:List V} {xs:List Value},VRs s vs xs->vs.length=xs.length
 |[],xs,h=>by unfold VRs at h;subst h;rfl
 |v :: vs,xs,h=>by
  unfold VRs at h;obtain⟨y,D,rfl,_,q⟩:=h;simp[xq q]
theorem xu{s:Sit}:∀ {vs:List V} {xs:List Value},VRs s vs xs->∀ {i:Nat} {v:V},vs[i]?=some v->∃x,xs[i]?=some x/\VR s v x
 |[],xs,h,i,v,hv=>by simp at hv
 |w :: vs,xs,h,i,v,hv=>by
  unfold VRs at h;obtain⟨y,J,rfl,q,D⟩:=h;cases i with
  |zero=>simp at hv;subst hv;exact⟨y,rfl,q⟩
  |succ i=>simp at hv;obtain⟨x,E,G⟩:=xu D hv;exact⟨x,by simpa using E,G⟩
theorem xk{s:Sit}:∀ {vs:List V} {xs:List Value},vs.length=xs.length->(∀(i:Nat) (v:V) (x:Value),vs[i]?=some v->xs[i]?=some x->VR s v x)->VRs s vs xs
 |[],xs,hl,_=>by unfold VRs;exact zL (by simpa using hl.symm)
 |v :: vs,[],hl,_=>by simp at hl
 |v :: vs,x :: xs,hl,h=>by
  unfold VRs;exact⟨x,xs,rfl,h 0 v x rfl rfl,xk (by simpa using hl) fun i u y hu q=>h (i+1) u y (by simpa using hu) (by simpa using q)⟩
theorem y9{s:Sit}{vs K:List V}{xs M:List Value}(h:VRs s vs xs)(N:VRs s K M):VRs s (vs++K) (xs++M):=by
 have O:=xq h;have G:=xq N;refine xk (by simp[O,G]) fun i v x D E=>?_
 rcases Nat.lt_or_ge i vs.length with hi|hi
 .rw[zl hi]at D
  rw[zl (by omega)]at E;obtain⟨y,q,J⟩:=xu h D;rw[E]at q;cases q;exact J
 .rw[zk hi]at D
  rw[zk (by omega),<- O]at E;obtain⟨y,q,J⟩:=xu N D;rw[E]at q;cases q;exact J
theorem fB{s:Sit}{vs:List V}{xs:List Value}(h:VRs s vs xs)(n:Nat):VRs s (vs.take n) (xs.take n):=by
 have G:=xq h;refine xk (by simp[G]) fun i v x q D=>?_
 rw[zK]at q D
 split at q
 .rename_i hi
  rw[yC hi]at D;obtain⟨y,E,J⟩:=xu h q;rw[D]at E;cases E;exact J
 .cases q
theorem jd{s:Sit}{vs:List V}{xs:List Value}(h:VRs s vs xs)(n:Nat):VRs s (vs.drop n) (xs.drop n):=by
 have G:=xq h;refine xk (by simp[G]) fun i v x q D=>?_
 rw[yU]at q D;obtain⟨y,E,J⟩:=xu h q;rw[D]at E;cases E;exact J
theorem fC{s:Sit}:∀ {row:List V} {k o:Nat},dh s row k o->∀ {i:Nat} {v:V},row[i]?=some v->s.Z k (o+i)/\∃x,s.w.cell? ⟨k,o+i,none⟩=some x/\VR s v x
 |[],k,o,h,i,v,hv=>by simp at hv
 |w :: vs,k,o,h,i,v,hv=>by
  unfold dh at h;obtain⟨q,⟨c,D,E⟩,G⟩:=h;cases i with
  |zero=>simp at hv;subst hv;exact⟨q,c,D,E⟩
  |succ i=>
   simp at hv;have:=fC G hv
   rwa [show o+1+i=o+(i+1) by omega]at this
theorem fD{s:Sit}:∀ {row:List V} {k o:Nat},(∀(i:Nat) (v:V),row[i]?=some v->s.Z k (o+i)/\∃x,s.w.cell? ⟨k,o+i,none⟩=some x/\VR s v x)->dh s row k o
 |[],k,o,_=>by unfold dh;trivial
 |v :: vs,k,o,h=>by
  unfold dh;obtain⟨q,D⟩:=h 0 v rfl;refine⟨q,D,fD fun i u hu=>?_⟩;have:=h (i+1) u (by simpa using hu)
  rwa [show o+1+i=o+(i+1) by omega]
theorem Ag{s:Sit}{row:List V}{k o:Nat}(h:dh s row k o)(n:Nat):dh s (row.drop n) k (o+n) :=
 fD fun i v q=>by
  rw[yU]at q;have:=fC h q
  rwa [show o+n+i=o+(n+i) by omega]
theorem Ah{s:Sit}{row:List V}{k o:Nat}(h:dh s row k o)(n:Nat):dh s (row.take n) k o :=
 fD fun i v q=>by
  rw[zK]at q
  split at q
  .exact fC h q
  .cases q
def Reads(s:Sit)(vs:List V)(k o:Nat):Prop:=∃cs:List Value,VRs s vs cs/\∀(j:Nat) (u:Value),cs[j]?=some u->s.w.cell? ⟨k,o+j,none⟩=some u
theorem Reads.of{s:Sit}{vs:List V}{k o:Nat}(h:∀(i:Nat) (v:V),vs[i]?=some v->∃x,s.w.cell? ⟨k,o+i,none⟩=some x/\VR s v x):Reads s vs k o:=by
 refine⟨(List.range vs.length).map fun i=>(s.w.cell? ⟨k,o+i,none⟩).getD undef,xk (by simp) fun i v x D E=>?_,fun j u hu=>?_⟩
 .have hi:i<vs.length:=(List.getElem?_eq_some_iff.1 D).1
  obtain⟨y,q,G⟩:=h i v D;simp[hi,q]at E;subst E;exact G
 .have hj:j<vs.length:=by have:=(List.getElem?_eq_some_iff.1 hu).1;simpa using this
  obtain⟨y,q,_⟩:=h j vs[j] (by simp[hj]);simp[hj,q]at hu;rw[q,hu]
theorem Reads.tree{s:Sit}{vs:List V}{k o:Nat}(h:dh s vs k o):Reads s vs k o:=.of fun _ _ q=>(fC h q).2
theorem lC{w:World}{k o:Nat}{c:Array Value}{e:TypeId}{q:Nat×Nat}(h:w.heap[k]?=some (.cells c e q)):w.cell? ⟨k,o,none⟩=c[o]?:=by
 simp[World.cell?,h]
theorem Inv.reads{s:Sit}{σ:Store}(h:Inv s σ){b:Nat}{B:pY}(D:σ b=some B){l:Loc}(E:s.β b=some l):Reads s B.cells l.k l.o:=by
 obtain⟨l',c,e,q,G,_,_,_,J,_⟩:=h.blk b B D;rw[E]at q;cases q;exact .of fun i v K=>by
  obtain⟨x,M,N⟩:=J i v K;exact⟨x,by rw[lC G];exact M,N⟩
theorem Reads.drop{s:Sit}{vs:List V}{k o:Nat}(h:Reads s vs k o)(n:Nat):Reads s (vs.drop n) k (o+n):=by
 obtain⟨cs,q,D⟩:=h;exact⟨cs.drop n,jd q n,fun j u hu=>by rw[yU]at hu;rw[yg];exact D _ _ hu⟩
theorem Reads.take{s:Sit}{vs:List V}{k o:Nat}(h:Reads s vs k o)(n:Nat):Reads s (vs.take n) k o:=by
 obtain⟨cs,q,D⟩:=h;exact⟨cs.take n,fB q n,fun j u hu=>by rw[zK]at hu;split at hu;exact D _ _ hu;cases hu⟩
theorem xQ{s:Sit}{σ:Store}(hi:Inv s σ){a:V}{x:Value}(q:VR s a x){n:Nat}{vs:List V}(h:bW σ a n=some vs) :
  ∃k o,x= .pointer (some ⟨k,o,none⟩)/\vs.length=n/\Reads s vs k o:=by
 unfold bW at h
 split at h
 .rename_i row off
  split at h
  .rename_i hle
   simp only[yF]at h;subst h;unfold VR at q;obtain⟨k,o,rfl,D⟩:=q;exact⟨k,o+off,rfl,by simp;omega,((Reads.tree (y7 (.Hz s) _ _ _ D)).drop off).take n⟩
  .cases h
 .rename_i b off
  split at h
  .rename_i B E
   split at h
   .simp only[yF]at h;subst h
    unfold VR at q;obtain⟨l,G,rfl⟩:=q;exact⟨l.k,l.o+off,rfl,by simp;omega,((hi.reads E G).drop off).take n⟩
   .cases h
  .cases h
 .cases h
theorem vS{s:Sit}{σ:Store}(hi:Inv s σ){a:V}{x:Value}(q:VR s a x){size:Nat}{row:List V}{len:Nat}(h:rowOf σ size a=some (row,len)) :
  ∃D cap,x= .slice D len cap/\len<=cap/\row.length=len*size/\(row=[]\/∃k o,D=some ⟨k,o,none⟩/\Reads s row k o):=by
 unfold rowOf at h
 split at h
 .simp only[yF,yE]at h;obtain⟨rfl,rfl⟩:=h
  unfold VR at q;obtain⟨a,rfl⟩:=q;exact⟨a,0,rfl,zu _,by simp,.inl rfl⟩
 .split at h
  .rename_i E
   simp only[yF,yE]at h;obtain⟨rfl,rfl⟩:=h;unfold VR at q;obtain⟨D,cap,rfl,G,J⟩:=q;exact⟨D,cap,rfl,G,E,J.imp id fun⟨k,o,e,J⟩=>⟨k,o,e,.tree (y7 (.Hz s) _ _ _ J)⟩⟩
  .cases h
 .rename_i b off K
  split at h
  .rename_i B M
   split at h
   .simp only[yF,yE]at h;obtain⟨rfl,rfl⟩:=h
    unfold VR at q;obtain⟨l,cap,E,rfl,G,_⟩:=q;exact⟨_,cap,rfl,G,by simp;omega,.inr ⟨l.k,l.o+off,rfl,((hi.reads M E).drop off).take _⟩⟩
   .cases h
  .cases h
 .cases h
theorem Inv.grow{s:Sit}{σ:Store}(h:Inv s σ){w':World}(q:Below s.w.heap.size s.w w'):Le s { s with w:=w' }/\Inv { s with w:=w' } σ/\mO s σ { s with w:=w' } σ:=by
 have hle:Le s { s with w:=w' }:=⟨fun _ _ z=>z,fun k o z=>q.cell (p:=⟨k,o,none⟩) (h.zb k o z),fun _ _ e=>e⟩;refine⟨hle,⟨fun b B J=>?_,h.qg,fun k o z=>yQ (h.zb k o z) q.size,h.kn.mono hle⟩,⟨hle,fun k o z=> .inl z,fun k E _=>q.block k E,fun b B l G D=> .inr ⟨b,B,l,G,D,rfl⟩,q.size,q.os,q.tape,q.output⟩⟩;obtain⟨l,c,e,G,D,K,M,N,O,R⟩:=h.blk b B J;have E:l.k<s.w.heap.size:=(Array.getElem?_eq_some_iff.1 D).1;exact⟨l,c,e,G,(q.block _ E).trans D,K,M,N,fun i v S=>let ⟨x,U,Y⟩:=O i v S;⟨x,U,yB hle v x Y⟩,R⟩
theorem Inv.add{s:Sit}{σ:Store}(h:Inv s σ){nx:Nat}(hn:s.β nx=none){k o cap st:Nat}{c:Array Value}{e:TypeId}{cells:List V}{wr:Bool}(hk:s.w.heap[k]?=some (.cells c e (0,0)))
  (D:∀b B l,σ b=some B->s.β b=some l->l.k≠k) (hz:∀o',s.Z k o'->wr=false/\o'<o+cells.length) (S:1000000<=st->e+1000000=st/\o=0) (O:o+cap<=c.size) (hlen:cells.length<=cap)
  (hc:∀(i:Nat) (v:V),cells[i]?=some v->∃x,c[o+i]?=some x/\VR s v x) :
  Le s { s with β:=upd s.β nx (some ⟨k,o,cap,st⟩) }/\Inv { s with β:=upd s.β nx (some ⟨k,o,cap,st⟩) } (upd σ nx (some ⟨cells,st,wr⟩)):=by
 have hle:Le s { s with β:=upd s.β nx (some ⟨k,o,cap,st⟩) }:=⟨fun _ _ z=>z,fun _ _ _=>rfl,fun b l G=>by
  show upd s.β nx _ b=_;rw[uS _ _ (fun e=>by rw[e,hn]at G;cases G)];exact G⟩
 refine⟨hle,⟨fun b B R=>?_,fun b b' B B' l l' G E U J K=>?_,h.zb,h.kn.mono hle⟩⟩
 .by_cases q:b=nx
  .subst q
   rw[uQ]at R;cases R;exact⟨⟨k,o,cap,st⟩,c,e,uQ _ _ _,hk,O,hlen,rfl,fun i v Y=>let ⟨x,hx,hr⟩:=hc i v Y;⟨x,hx,yB hle v x hr⟩,hz,S⟩
  .rw[uS _ _ q]at R
   obtain⟨l,c,e,h1,h2,h3,h4,h5,h6,h7⟩:=h.blk b B R;exact⟨l,c,e,hle.bb _ _ h1,h2,h3,h4,h5,fun i v Y=>let ⟨x,hx,hr⟩:=h6 i v Y;⟨x,hx,yB hle v x hr⟩,h7⟩
 .by_cases q:b=nx<;>by_cases N:b'=nx
  .rw[q,N]
  .subst q
   rw[uS _ _ N]at E;have M:s.β b'=some l':=by simpa only[uS _ _ N]using J
   have:l=⟨k,o,cap,st⟩:=by simpa only[uQ,yF,eq_comm]using U
   subst this;exact absurd K.symm (D b' B' l' E M)
  .subst N
   rw[uS _ _ q]at G;have M:s.β b=some l:=by simpa only[uS _ _ q]using U
   have:l'=⟨k,o,cap,st⟩:=by simpa only[uQ,yF,eq_comm]using J
   subst this;exact absurd K (D b B l G M)
  .rw[uS _ _ q]at G
   rw[uS _ _ N]at E;exact h.qg b b' B B' l l' G E (by simpa only[uS _ _ q]using U) (by simpa only[uS _ _ N]using J) K
def dJ(s:Sit)(nx nx':Nat):Prop:=∀i,nx<=i->i<nx'->s.β i=none
def Dom(s s':Sit)(nx nx':Nat):Prop:=∀i,s'.β i≠none->s.β i≠none\/(nx<=i/\i<nx')
theorem Dom.refl(s:Sit)(nx nx':Nat):Dom s s nx nx':=fun _ h=> .inl h
structure Out (s:Sit) (σ:Store) (nx:Nat) (s':Sit) (v:V) (x:Value) (σ':Store) (nx':Nat):Prop where
 vr:VR s' v x
 inv:Inv s' σ'
 qj:mO s σ s' σ'
 dom:Dom s s' nx nx'
theorem Out.same{s:Sit}{σ:Store}{nx nx':Nat}{v:V}{x:Value}(hi:Inv s σ)(h:VR s v x):Out s σ nx s v x σ nx':=⟨h,hi,.refl s σ,.refl s nx nx'⟩
theorem xg{s:Sit}{σ:Store}(hi:Inv s σ){nx:Nat}(Y:dJ s nx (nx+1)){w1:World}(M:Below s.w.heap.size s.w w1)(N:w1.heap.size=s.w.heap.size)(cells:List V)(st cap:Nat)(e:TypeId)(c:Array Value)
  (S:cap=c.size) (O:1000000<=st->e+1000000=st) (hlen:cells.length<=cap) (hc:∀(i:Nat) (v:V),cells[i]?=some v->∃x,c[i]?=some x/\VR s v x) :
  ∃s':Sit,s'.w=w1.alloc (.cells c e)/\s'.β nx=some ⟨s.w.heap.size,0,cap,st⟩/\Inv s' (bF σ nx cells st)/\mO s σ s' (bF σ nx cells st)/\Dom s s' nx (nx+1):=by
 have E:Below s.w.heap.size s.w (w1.alloc (.cells c e)):=M.alloc (by omega) _;obtain⟨hle,hinv,lD⟩:=hi.grow E;have R:s.β nx=none:=Y nx (zu _) (by omega);have D:∀b B l,σ b=some B->s.β b=some l->l.k≠s.w.heap.size:=fun b B l G K=>by
  obtain⟨l',c,e,U,h4,_⟩:=hi.blk b B G;rw[K]at U;cases U;have:=(Array.getElem?_eq_some_iff.1 h4).1;omega
 obtain⟨J,Dk⟩:=hinv.add (nx:=nx) R (k:=s.w.heap.size) (o:=0) (cap:=cap) (st:=st) (c:=c) (e:=e) (cells:=cells) (wr:=true)
  (by show(w1.alloc _).heap[_]?=_;rw[<- N];exact heap_alloc_new w1 _) D (fun o' z=>absurd (hi.zb _ _ z) (by omega)) (fun h=>⟨O h,rfl⟩) (by omega) hlen
  (fun i v hv=>by rw[yP];obtain⟨x,hx,hr⟩:=hc i v hv;exact⟨x,hx,yB hle v x hr⟩)
 refine⟨_,rfl,uQ _ _ _,Dk,⟨hle.trans J,fun k o z=> .inl z,lD.kb,fun b B l G K=>?_,E.size,E.os,E.tape,E.output⟩,fun i h=>?_⟩
 .by_cases q:b=nx
  .subst q
   have:l=⟨s.w.heap.size,0,cap,st⟩:=by simpa only[uQ,yF,eq_comm]using K
   subst this;exact .inl (zu _)
  .unfold bF at G
   rw[uS _ _ q]at G;exact .inr ⟨b,B,l,G,by simpa only[uS _ _ q]using K,rfl⟩
 .by_cases q:i=nx
  .subst q;exact .inr ⟨zu _,by omega⟩
  .exact .inl (by simpa only[uS _ _ q]using h)
end Go.TV
namespace Go.TV
open Go.RowKit
set_option linter.unusedVariables false
variable [Known]
theorem y5{s:Sit}{u:Value}(h:atom u=true):VR s (.sc u) u:=by unfold VR;exact⟨rfl,h⟩
theorem gu(s:Sit)(v:Value):VR s (aX v) v:=by
 unfold aX
 split
 .split
  .rename_i a n m h;obtain⟨rfl,rfl⟩:=h;unfold VR;exact⟨_,rfl⟩
  .unfold VR;trivial
 .split
  .split
   .rename_i h;obtain⟨rfl,rfl⟩:=h;unfold VR;exact⟨#[],rfl,by unfold VRs;rfl⟩
   .unfold VR;trivial
  .unfold VR;trivial
 .split
  .rename_i h;exact y5 h
  .unfold VR;trivial
theorem fE{s:Sit}(vs:List Value):VRs s (vs.map aX) vs :=
 xk (by simp) fun i v x h q=>by
  simp only[yY,q,zh,yF]at h;subst h;exact gu s x
theorem Dl(s:Sit)(v:Value):VR s (dY v) v:=by
 unfold dY
 split
 .rename_i cs;unfold VR;exact⟨_,rfl,fE _⟩
 .rename_i cs;unfold VR;exact⟨_,rfl,fE _⟩
 .exact gu s _
theorem uY{s:Sit}:∀ {vs:List V} {D xs:List Value},dV vs=some D->VRs s vs xs->xs=D
 |[],D,xs,h,hx=>by simp only[dV,yF]at h;unfold VRs at hx;rw[hx,h]
 |v :: vs,D,xs,h,hx=>by
  unfold VRs at hx;obtain⟨y,M,rfl,E,G⟩:=hx;unfold dV at h
  split at h
  .rename_i u J q K
   simp only[yF]at h;subst h;rw[uY K G];unfold toCell at q
   split at q
   .simp only[yF]at q;subst q
    unfold VR at E;rw[E.1]
   .cases q
  .cases h
theorem uX{s:Sit}{v:V}{u x:Value}(h:toVal v=some u)(q:VR s v x):x=u:=by
 unfold toVal at h
 split at h
 .simp only[yF]at h;subst h;unfold VR at q;exact q.1
 .rename_i vs
  unfold VR at q;obtain⟨xs,rfl,E⟩:=q;cases D:dV vs with
  |none=>rw[D]at h;cases h
  |some G=>
   rw[D]at h;simp only[zh,yF]at h;rw[<- h,<- uY D E]
 .cases h
theorem je{s:Sit}{v:V}{x:Value}(q:VR s v x)(h:aZ v=true):x.oneCell'=true:=by
 cases v<;>simp only[aZ,zO]at h<;>unfold VR at q
 .obtain⟨rfl,D⟩:=q;cases x<;>simp_all [atom,Value.oneCell']
 .obtain⟨a,rfl⟩:=q;rfl
 .obtain⟨a,rfl,_⟩:=q;rfl
 .obtain⟨a,b,rfl,_⟩:=q;rfl
 .obtain⟨a,b,rfl,_⟩:=q;rfl
 .obtain⟨a,b,rfl,_⟩:=q;rfl
 .obtain⟨a,c,b,rfl,_⟩:=q;rfl
theorem xP{s:Sit}{v:V}{x:Value}{vs:List V}(h:cellsOfV v=some vs)(q:VR s v x):VRs s vs x.cells.toList:=by
 unfold cellsOfV at h
 split at h
 .simp only[yF]at h;subst h
  unfold VR at q;obtain⟨xs,rfl,D⟩:=q;exact D
 .split at h
  .rename_i E
   simp only[yF]at h;subst h;have G:=je q E;have:x.cells=#[x]:=by cases x<;>simp_all [Value.cells,Value.oneCell']
   rw[this];unfold VRs;exact⟨x,[],rfl,q,by unfold VRs;rfl⟩
  .cases h
theorem w_{s:Sit}{vs:List V}{xs:List Value}(h:VRs s vs xs)(E:vs.all aZ=true):∀u∈xs,u.oneCell'=true:=fun u hu=>by
 obtain⟨i,hi⟩:=List.mem_iff_getElem?.1 hu;have q:i<vs.length:=by rw[xq h];exact(List.getElem?_eq_some_iff.1 hi).1
 obtain⟨x,D,G⟩:=xu h (i:=i) (v:=vs[i]) (by simp[q]);rw[hi]at D;cases D;exact je G (List.all_eq_true.1 E _ (zS q))
section
variable {P:Program}
theorem vK{t:TypeId}{d:TypeDesc}(h:P.underlying t=some d)(w:World):(isAgg t).run P w= .ok (d_ d) w:=by
 cases d<;>simp[isAgg,run_underlying h,d_]
theorem vH{t:TypeId}{i:TypeInfo}(h:P.info? t=some i)(w:World):(sizeOf t).run P w= .ok i.size w:=by
 simp[sizeOf,typeInfo,h]
theorem jf{s:Sit}{σ:Store}(hi:Inv s σ){a:V}{x:Value}(N:VR s a x){t:TypeId}{v:V}(h:aO P σ t a=some v) :
  ∃y,(Instr.loadAt t x).run P s.w= .ok y s.w/\VR s v y:=by
 unfold aO at h
 split at h
 .rename_i i d S O
  split at h
  .rename_i q
   cases G:bW σ a i.size with
   |none=>rw[G]at h;cases h
   |some vs=>
    rw[G]at h;simp only[zh,yF]at h;subst h;obtain⟨k,o,rfl,R,cs,D,E⟩:=xQ hi N G;have M:cs.length=i.size:=by rw[<- R,xq D]
    refine⟨.agg cs.toArray,?_,by unfold VR;exact⟨_,rfl,D⟩⟩;have J:=run_loadCells_list (P:=P) s.w ⟨k,o,none⟩ cs (fun j v U=>by rw[Addr.add_lit];exact E j v U);rw[M]at J;simp[Instr.loadAt,Instr.sureAddr,loadVar,vK O,q,vH S,J]
  .rename_i q
   split at h
   .rename_i u G
    simp only[yF]at h;subst h;obtain⟨k,o,rfl,R,cs,D,E⟩:=xQ hi N G;unfold VRs at D;obtain⟨y,Y,rfl,D,_⟩:=D;refine⟨y,?_,D⟩;have K:=E 0 y rfl;rw[yK]at K;simp[Instr.loadAt,Instr.sureAddr,loadVar,vK O,q,run_load,K]
   .cases h
 .cases h
theorem vG(w:World)(g:Nat)(cs:Array Value){k:Nat}(h:k≠g):(w.setRow g cs).heap[k]?=w.heap[k]?:=setRow_other w g k cs h
theorem cO{α:Type}{l vs:List α}{off i:Nat}(h:off+vs.length<=l.length) :
  (l.take off++vs++l.drop (off+vs.length))[i]?=if off<=i/\i<off+vs.length then vs[i-off]? else l[i]?:=by
 rw[zN]
 by_cases q:i<off
 .rw[yD (by omega),zl (by simp;omega),zK,yC q]
 .rw[zk (by simp;omega)]
  have:(l.take off).length=off:=by simp;omega
  rw[this]
  by_cases D:i<off+vs.length
  .rw[yC ⟨by omega,D⟩,zl (by omega)]
  .rw[yD (by omega),zk (by omega),yU]
   congr 1;omega
theorem uG{s:Sit}{σ:Store}(hi:Inv s σ){b:Nat}{B:pY}(M:σ b=some B)(hw:B.wr=true){l:Loc}(hl:s.β b=some l){c:Array Value}{e:TypeId}(hk:s.w.heap[l.k]?=some (.cells c e (0,0)))
  {off:Nat} {vs:List V} {xs:List Value} (hr:VRs s vs xs) (N:off+vs.length<=B.cells.length) :
  let w':=s.w.setRow l.k (c.toList.take (l.o+off)++xs++c.toList.drop (l.o+off+xs.length)).toArray
  Inv { s with w:=w' } (upd σ b (some { B with cells:=B.cells.take off++vs++B.cells.drop (off+vs.length) })) /\
  mO s σ { s with w:=w' } (upd σ b (some { B with cells:=B.cells.take off++vs++B.cells.drop (off+vs.length) })):=by
 intro w';have hlen:=xq hr;obtain⟨l',c',e',h1,h2,h3,h4,h5,h6,h7⟩:=hi.blk b B M;rw[hl]at h1;cases h1;rw[hk]at h2;cases h2;have O:∀o,¬s.Z l.k o:=fun o z=>by rw[(h7.1 o z).1]at hw;cases hw
 have G:∀k o,s.Z k o->w'.cell? ⟨k,o,none⟩=s.w.cell? ⟨k,o,none⟩:=fun k o z=>
  World.cell?_of_block (vG s.w l.k _ (fun e=>O o (by rw[<- e];exact z)))
 have hle:Le s { s with w:=w' }:=⟨fun _ _ z=>z,G,fun _ _ e=>e⟩;have a1:w'.heap.size=s.w.heap.size:=by simp[w',World.setRow]
 have b9:c.toList.length=c.size:=zi;have a6:l.o+off+xs.length<=c.toList.length:=by omega
 refine⟨⟨fun b' B' D=>?_,fun b1 b2 B1 B2 R l2 a7 a8 b3 b4 b5=>?_,fun k o z=>by show k<w'.heap.size;rw[a1];exact hi.zb k o z,hi.kn.mono hle⟩,⟨hle,fun k o z=> .inl z,fun k c0 hn=>?_,fun b' B' l' D S=>?_,by show _<=w'.heap.size;omega,rfl,rfl,rfl⟩⟩
 .by_cases E:b'=b
  .subst E
   rw[uQ]at D;simp only[yF]at D;subst D;refine⟨l,_,e,hl,setRow_heap s.w l.k c _ e (0,0) hk,?_,?_,h5,fun i v K=>?_,fun o z=>absurd z (O o),h7.2⟩
   .rw[zG];simp only[zX,zM,yu];omega
   .simp only[zX,zM,yu];omega
   .rw[cO N]at K
    rw[z_,cO a6]
    split at K
    .rename_i L9
     rw[yC (by omega)];obtain⟨x,U,J⟩:=xu hr K;exact⟨x,by rw[show l.o+i - (l.o+off)=i-off by omega];exact U,yB hle v x J⟩
    .rename_i L9
     rw[yD (by omega)];obtain⟨x,U,J⟩:=h6 i v K;exact⟨x,by rw[zV];exact U,yB hle v x J⟩
  .rw[uS _ _ E]at D
   obtain⟨R,c1,e1,g1,g2,g3,g4,g5,g6,g7⟩:=hi.blk b' B' D;have b6:R.k≠l.k:=fun e=>E (hi.qg b' b B' B R l D M g1 hl e)
   exact⟨R,c1,e1,g1,(vG s.w l.k _ b6).trans g2,g3,g4,g5,fun i v K=>let ⟨x,U,hr⟩:=g6 i v K;⟨x,U,yB hle v x hr⟩,g7⟩
 .have q:∀ {i:Nat} {A:pY},upd σ b (some { B with cells:=B.cells.take off++vs++B.cells.drop (off+vs.length) }) i=some A->∃A',σ i=some A':=fun {i A} h=>by
   by_cases Y:i=b
   .exact⟨B,by rw[Y];exact M⟩
   .exact⟨A,by rw[uS _ _ Y]at h;exact h⟩
  obtain⟨A1,b7⟩:=q a7;obtain⟨A2,b8⟩:=q a8;exact hi.qg b1 b2 A1 A2 R l2 b7 b8 b3 b4 b5
 .exact vG s.w l.k _ (fun e=>hn b B l M hl e.symm)
 .by_cases E:b'=b
  .subst E;exact .inr ⟨b',B,l',M,S,rfl⟩
  .rw[uS _ _ E]at D;exact .inr ⟨b',B',l',D,S,rfl⟩
theorem mQ{s:Sit}{σ σ':Store}(hi:Inv s σ){a v:V}{x y:Value}(N:VR s a x)(Y:VR s v y){t:TypeId}(h:bU P σ t a v=some σ') :
  ∃w',(Instr.storeAt t x y).run P s.w= .ok () w'/\Inv { s with w:=w' } σ'/\mO s σ { s with w:=w' } σ':=by
 unfold bU at h
 split at h
 .rename_i i b off vs aU K
  split at h
  .rename_i B O
   split at h
   .rename_i hc
    obtain⟨hw,M,q,E⟩:=hc;simp only[yF]at h;subst h;rw[vW _ _ _ q];unfold VR at N;obtain⟨l,R,rfl⟩:=N;have D:=xP K Y;have G:=w_ D E;obtain⟨l',c,e,S,U,h3,h4,h5,h6,h7⟩:=hi.blk b B O;rw[R]at S;cases S;have hlen:=xq D;have J:=run_storeCells_at P l.k (l.o+off) e y.cells.toList 0 c s.w U (by omega) G;rw[yK]at J;have Kw:y.cells.size=i.size:=by rw[<- M,hlen,zi]
    refine⟨_,?_,uG hi O hw R U D q⟩;simp[Instr.storeAt,Instr.sureAddr,storeVar,vH aU,Kw,J]
   .cases h
  .cases h
 .cases h
end
end Go.TV
namespace Go.TV
open Go.RowKit
set_option linter.unusedVariables false
variable [Known]
theorem foldl_set{α:Type}:∀(vs:List α) (j off:Nat) (cs:Array α),off+j+vs.length<=cs.size ->
  ((vs.zipIdx j).foldl (fun(cs:Array α) (p:α×Nat)=>cs.setIfInBounds (off+p.2) p.1) cs).toList=cs.toList.take (off+j)++vs++cs.toList.drop (off+j+vs.length)
 |[],j,off,cs,_=>by simp
 |v :: vs,j,off,cs,h=>by
  simp only[yj]at h;rw[List.zipIdx_cons,List.foldl_cons,foldl_set vs (j+1) off _ (by simp;omega)];simp only[Array.toList_setIfInBounds,yj];apply List.ext_getElem?;intro i;have E:(List.take (off+(j+1)) (cs.toList.set (off+j) v)).length=off+(j+1):=by simp;omega
  have q:(List.take (off+j) cs.toList).length=off+j:=by simp;omega
  by_cases G:i<off+j
  .rw[zN,zN,zl (by omega),zl (by omega),zK,zK,yC (by omega),yC G,List.getElem?_set_ne (by omega)]
  .by_cases J:i=off+j
   .subst J
    rw[zN,zN,zl (by omega),zk (by omega),zK,yC (by omega),List.getElem?_set_self (by simp;omega),q];simp
   .rw[zN,zN,zk (l₁:=(cs.toList.set (off+j) v).take (off+(j+1))) (by omega),zk (l₁:=cs.toList.take (off+j)) (by omega),E,q]
    rw[show i - (off+j)=(i - (off+(j+1)))+1 by omega,List.cons_append,yH]
    by_cases D:i - (off+(j+1))<vs.length
    .rw[zl D,zl D]
    .rw[zk (l₁:=vs) (by omega),zk (l₁:=vs) (by omega),yU,yU,List.getElem?_set_ne (by omega)]
     congr 1;omega
theorem wS{s:Sit}{place:Nat->Option (Nat×Nat)}:∀ {parts:List (Nat×V)} {ps:List (Nat×Value)} {cells out:List V} {cs:Array Value},
  bY place cells parts=some out->parts.map (·.1)=ps.map (·.1)->(∀(i:Nat) (p:Nat×V) (q:Nat×Value),parts[i]?=some p->ps[i]?=some q->VR s p.2 q.2)->VRs s cells cs.toList ->
  ∃E,Instr.fill place cs ps=some E/\VRs s out E.toList
 |[],ps,cells,out,cs,h,G,_,hr=>by
  have:ps=[]:=by simpa using G.symm
  subst this;simp only[bY,yF]at h;subst h;exact⟨cs,rfl,hr⟩
 |(i,v) :: rest,[],cells,out,cs,h,G,_,hr=>by simp at G
 |(i,v) :: rest,(i',y) :: ps,cells,out,cs,h,G,hp,hr=>by
  simp only[yc,List.cons.injEq]at G;obtain⟨rfl,G⟩:=G;unfold bY at h
  split at h
  .rename_i off size vs M N
   split at h
   .rename_i Y
    obtain⟨a1,J⟩:=Y;rw[vW _ _ _ J]at h;have hv:=hp 0 (i,v) (i,y) rfl rfl;have K:=xP N hv;have U:=xq K;have O:=xq hr;simp only[zi]at U O;have a6:y.cells.size=size:=by omega
    have D:=foldl_set y.cells.toList 0 off cs (by simp;omega);simp only[yK,zi]at D;obtain⟨E,R,S⟩:=wS (cs:=y.cells.zipIdx.foldl (fun cs (p:Value×Nat)=>cs.setIfInBounds (off+p.2) p.1) cs) h G (fun j p q R S=>hp (j+1) p q (by simpa using R) (by simpa using S)) (by
     have e:(y.cells.zipIdx.foldl (fun cs (p:Value×Nat)=>cs.setIfInBounds (off+p.2) p.1) cs)=((y.cells.toList.zipIdx 0).foldl (fun(cs:Array Value) (p:Value×Nat)=>cs.setIfInBounds (off+p.2) p.1) cs):=by
      rw[<- Array.foldl_toList,Array.toList_zipIdx]
     rw[e,D,U];exact y9 (y9 (fB hr _) K) (jd hr _))
    refine⟨E,?_,S⟩;unfold Instr.fill;simp only[M];rw[yD (by simp;omega)];exact R
   .cases h
  .cases h
end Go.TV
namespace Go.TV
open Go.RowKit
set_option linter.unusedVariables false
variable [Known]
section
variable {P:Program}
theorem zeroOf{t:TypeId}{i:TypeInfo}{z:Value}(h:P.info? t=some i)(q:i.zero=some z)(w:World):(zeroValue t).run P w= .ok z w:=by
 simp[zeroValue,typeInfo,h,q]
def Ih:V->Bool
 | .sc (.pointer none)=>true
 |_=>false
def Ko:V->Bool
 | .nil=>true
 |_=>false
def Ii:List V->Bool
 |[v,w]=>Ih v && Ko w
 |_=>false
def kG(t:TypeId)(cells:List V):Nat:=if Ii cells=true then t+1000000 else 0
theorem Dn(t:TypeId)(cells:List V):1000000<=kG t cells->t+1000000=kG t cells:=by
 unfold kG
 split
 .intro _;rfl
 .intro h;omega
theorem kH{s:Sit}{σ:Store}(hi:Inv s σ){nx:Nat}(D:dJ s nx (nx+1)){t:TypeId}{x:Value}{cells:List V}{st:Nat}(q:1000000<=st->t+1000000=st)(h:VRs s cells x.cells.toList) :
  ∃s' y,(Instr.box t x).run P s.w= .ok y s'.w/\Out s σ nx s' (.rp nx 0) y (bF σ nx cells st) (nx+1):=by
 have E:=xq h;obtain⟨s',G,J,K,M,N⟩:=xg hi D (w1:=s.w) (Below.refl _ _) rfl cells st x.cells.size t x.cells rfl q (by rw[E,zi];exact zu _)
  (fun i v O=>by obtain⟨y,R,h⟩:=xu h O;exact⟨y,by simpa using R,h⟩)
 refine⟨s',.pointer (some ⟨s.w.heap.size,0,none⟩),?_,⟨?_,K,M,N⟩⟩
 .rw[G];simp[Instr.box,newVar,newRow]
 .unfold VR;exact⟨_,J,rfl⟩
theorem mV{s:Sit}{σ:Store}(hi:Inv s σ){nx:Nat}(h:dJ s nx (nx+1)){t:TypeId}{i:TypeInfo}{z:Value}(q:P.info? t=some i)(D:i.zero=some z) :
  ∃s' y,(Instr.alloc t true (.tuple #[])).run P s.w= .ok y s'.w/\Out s σ nx s' (.rp nx 0) y (bF σ nx (z.cells.toList.map aX) (kG t (z.cells.toList.map aX))) (nx+1):=by
 obtain⟨s',y,E,G⟩:=kH (P:=P) hi h (t:=t) (x:=z) (Dn t _) (fE _);refine⟨s',y,?_,G⟩;rw[<- E];simp[Instr.alloc,Instr.box,zeroOf q D]
theorem mW{s:Sit}{t:TypeId}{parts:List (Nat×V)}{ps:Array (Nat×Value)}{v:V}(h:iR P t parts=some v)(S:parts.map (·.1)=ps.toList.map (·.1))
  (U:∀(i:Nat) (p:Nat×V) (q:Nat×Value),parts[i]?=some p->ps.toList[i]?=some q->VR s p.2 q.2) :
  ∃y,(Instr.build t ps).run P s.w= .ok y s.w/\VR s v y:=by
 unfold iR at h
 split at h
 .rename_i i pl N D
  split at h
  .rename_i z O
   cases J:bY pl (z.cells.toList.map aX) parts with
   |none=>rw[J]at h;cases h
   |some out=>
    rw[J]at h;simp only[zh,yF]at h;subst h;obtain⟨K,R,Y⟩:=wS (cs:=z.cells) J S U (fE _);refine⟨.agg K,?_,by unfold VR;exact⟨_,rfl,Y⟩⟩;unfold places at D
    split at D
    .rename_i fields M
     cases E:aA P (fields.mapM fun f=>do pure (f.offset,<- sizeOf f.type))with
     |none=>rw[E]at D;cases D
     |some a=>
      rw[E]at D;simp only[zh,yF]at D;subst D;have G:=vJ _ E s.w;unfold Instr.build;simp only[Sem.run_bind,zeroOf N O,Result.andThen_ok,run_underlying M,G];simp only[R];rfl
    .rename_i n elem M
     cases E:P.info? elem with
     |none=>rw[E]at D;cases D
     |some e=>
      rw[E]at D;simp only[zh,yF]at D;subst D;unfold Instr.build;simp only[Sem.run_bind,zeroOf N O,Result.andThen_ok,run_underlying M,vH E];simp only[R];rfl
    .cases D
  .cases h
 .cases h
theorem lF(cells:List V)(off:Nat)(vs:List V)(h:off+vs.length<=cells.length):(patch cells off vs).length=cells.length:=by
 rw[vW _ _ _ h];simp only[zX,zM,yu];omega
theorem xB{place:Nat->Option (Nat×Nat)}:∀ {parts:List (Nat×V)} {cells out:List V},bY place cells parts=some out->out.length=cells.length
 |[],cells,out,h=>by simp only[bY,yF]at h;rw[h]
 |(i,v) :: rest,cells,out,h=>by
  unfold bY at h
  split at h
  .split at h
   .rename_i q
    rw[xB h,lF _ _ _ q.2]
   .cases h
  .cases h
theorem fF(z:List V):∀(n i:Nat),(rep n z)[i]?=if i<n*z.length then z[i%z.length]? else none:=by
 intro n
 induction n with
 |zero=>intro i;simp[rep]
 |succ n q=>
  intro i;have e:rep (n+1) z=z++rep n z:=by simp[rep,List.replicate_succ]
  have D:(n+1)*z.length=z.length+n*z.length:=by rw[Nat.add_mul];omega
  rw[e,D]
  by_cases hi:i<z.length
  .rw[zl hi,yC (by omega),Nat.mod_eq_of_lt hi]
  .rw[zk (by omega),q]
   by_cases h:i-z.length<n*z.length
   .rw[yC h,yC (by omega),<- Nat.mod_eq_sub_mod (by omega)]
   .rw[yD h,yD (by omega)]
theorem wH(z:List V)(n:Nat):(rep n z).length=n*z.length:=by simp[rep]
theorem vI{s:Sit}{z:Array Value}{size n:Nat}(D:z.size=size)(hs:0<size) :
  VRs s (rep n (z.toList.map aX)) ((Array.range (n*size)).map (z[·%z.size]!)).toList:=by
 refine xk (by simp[wH,D]) fun i v x h E=>?_
 rw[fF]at h;simp only[yG,zi,D]at h
 split at h
 .rename_i hi
  have q:i%size<z.size:=by rw[D];exact Nat.mod_lt _ hs
  simp[hi,D]at E;simp[q]at h;subst E;subst h;rw[getElem!_pos z (i%size) q];exact gu s _
 .cases h
theorem gB{s:Sit}{σ:Store}(hi:Inv s σ){nx nx':Nat}{σ':Store}{t:TypeId}{len:Nat}{parts:List (Nat×V)}{ps:Array (Nat×Value)}{v:V}(h:bH P t len parts σ nx=some (v,σ',nx'))
  (Y:dJ s nx nx') (hm:parts.map (·.1)=ps.toList.map (·.1)) (hp:∀(i:Nat) (p:Nat×V) (q:Nat×Value),parts[i]?=some p->ps.toList[i]?=some q->VR s p.2 q.2) (E:len=0->ps=#[]) :
  ∃s' y,(Instr.buildSlice t len ps).run P s.w= .ok y s'.w/\Out s σ nx s' v y σ' nx':=by
 unfold bH at h
 split at h
 .rename_i elem R
  split at h
  .rename_i i K
   split at h
   .rename_i z hz
    split at h
    .rename_i G
     simp only[yF,yE]at h;obtain⟨rfl,rfl,rfl⟩:=h;have:=E G;subst this;subst G;obtain⟨hle,hinv,lD⟩:=hi.grow ((Below.refl _ s.w).alloc (zu _) (.cells #[] elem));refine⟨{ s with w:=s.w.alloc (.cells #[] elem) },.slice (some ⟨s.w.heap.size,0,none⟩) 0 0,?_,⟨by unfold VR;exact⟨_,rfl⟩,hinv,lD,fun i h=> .inl h⟩⟩;unfold Instr.buildSlice;simp[run_underlying R,vH K,Instr.fill,newRow,Array.range_zero']
    .rename_i G
     split at h
     .rename_i hc
      obtain⟨M,LQ,J⟩:=hc
      split at h
      .rename_i out S
       simp only[yF,yE]at h;obtain⟨rfl,rfl,rfl⟩:=h;obtain⟨D,h1,U⟩:=wS (cs:=(Array.range (len*i.size)).map (z.cells[·%z.cells.size]!)) S hm hp (vI J M);have hl:=xq U;have N:D.size=len*i.size:=by
        have h0:=xB S;have e1:z.cells.toList.length=i.size:=by rw[<- J];exact zi
        have e2:D.toList.length=D.size:=zi;rw[wH,yG,e1]at h0;omega
       obtain⟨s',g1,g2,g3,g4,g5⟩:=xg hi Y (w1:=s.w) (Below.refl _ _) rfl out i.size D.size elem D rfl (by intro h;exfalso;have:=Nat.le_mul_of_pos_left i.size (Nat.pos_of_ne_zero ‹¬len=0›);omega) (by rw[hl,zi];exact zu _)
        (fun i v hv=>by obtain⟨y,hy,hr⟩:=xu U hv;exact⟨y,by simpa using hy,hr⟩)
       have O:¬(len*i.size=0):=by
        intro e;rcases Nat.mul_eq_zero.1 e with e|e<;>omega
       refine⟨s',.slice (some ⟨s.w.heap.size,0,none⟩) len len,?_,⟨?_,g3,g4,g5⟩⟩
       .rw[g1]
        unfold Instr.buildSlice;simp only[Sem.run_bind,run_underlying R,Result.andThen_ok,vH K];rw[yD (by omega)];simp only[Sem.run_bind,Result.andThen_ok,O,if_false,zeroOf K hz,Sem.run_pure,h1,newRow];simp
       .unfold VR;exact⟨_,_,g2,rfl,zu _,by rw[N];simp⟩
      .cases h
     .cases h
   .cases h
  .cases h
 .cases h
end
end Go.TV
namespace Go.TV
open Go.RowKit
set_option linter.unusedVariables false
variable [Known]
section
variable {P:Program}
theorem ql{s:Sit}{σ:Store}(hi:Inv s σ){nx nx':Nat}{σ':Store}{t:TypeId}{l c v:V}{S U:Value}(h:eF P t l c σ nx=some (v,σ',nx'))(Y:dJ s nx nx')(q:VR s l S)(D:VR s c U) :
  ∃s' y,(Instr.makeSlice t S U).run P s.w= .ok y s'.w/\Out s σ nx s' v y σ' nx':=by
 unfold eF at h
 split at h
 .rename_i elem l c aN
  split at h
  .rename_i i aU
   split at h
   .rename_i z hz
    split at h
    .rename_i hc
     obtain⟨h0,M,N,O,R,a1,E⟩:=hc;simp only[yF,yE]at h;obtain⟨rfl,rfl,rfl⟩:=h;unfold VR at q D;obtain⟨rfl,_⟩:=q;obtain⟨rfl,_⟩:=D;have G:=run_make (P:=P) s.w t elem i z aN aU hz .i64 .i64 l c h0 M N O;have J:=vI (s:=s) (n:=c.toNat) E R;have hle:l.toNat<=c.toNat:=by omega
     have e1:z.cells.toList.length=i.size:=by rw[<- E];exact zi
     obtain⟨s',g1,g2,g3,g4,g5⟩:=xg hi Y (w1:=s.w) (Below.refl _ _) rfl (rep l.toNat (z.cells.toList.map aX)) i.size (c.toNat *i.size) elem (madeCells z.cells (c.toNat *i.size))
      (size_madeCells _ _).symm (by intro h;omega) (by rw[wH,yG,e1];exact zJ _ hle) (fun j v K=>by
       have:(rep c.toNat (z.cells.toList.map aX))[j]?=some v:=by
        rw[fF]at K⊢
        split at K
        .rename_i hj
         rw[yC (yQ hj (zJ _ hle))];exact K
        .cases K
       obtain⟨y,hy,hr⟩:=xu J this;exact⟨y,by rw[<- hy,zV];rfl,hr⟩)
     refine⟨s',_,by rw[g1];exact G,⟨?_,g3,g4,g5⟩⟩;unfold VR;exact⟨_,_,g2,rfl,hle,by simp⟩
    .cases h
   .cases h
  .cases h
 .cases h
theorem xU{s:Sit}{o:Option V}{q:Option Value}{d n:Nat}(h:bnd o d=some n)(E:∀v,o=some v->∃x,q=some x/\VR s v x)(G:o=none->q=none) :
  (q=none/\n=d)\/∃k i,q=some (.int k i)/\0<=i/\i.toNat=n:=by
 unfold bnd at h
 split at h
 .simp only[yF]at h;exact .inl ⟨G rfl,h.symm⟩
 .rename_i k i
  split at h
  .rename_i J
   simp only[yF]at h;obtain⟨x,K,D⟩:=E _ rfl;unfold VR at D;exact .inr ⟨k,i,by rw[K,D.1],J,h⟩
  .cases h
 .cases h
theorem vM(isSlice:Bool)(len cap:Nat){lo hi:Option Value}{l h:Nat}(D:(lo=none/\l=0)\/∃k i,lo=some (.int k i)/\0<=i/\i.toNat=l)
  (E:(hi=none/\h=len)\/∃k i,hi=some (.int k i)/\0<=i/\i.toNat=h) (O:l<=h) (R:h<=cap) (w:World) :
  (Instr.sliceBounds isSlice len cap lo hi none).run P w= .ok (l,h,cap) w:=by
 rcases E with ⟨rfl,rfl⟩|⟨k,i,rfl,hi0,rfl⟩
 .rcases D with ⟨rfl,rfl⟩|⟨K,q,rfl,G,rfl⟩
  .simp[Instr.sliceBounds]
  .have:0<=q/\q<=(h:Int):=⟨G,by omega⟩
   simp[Instr.sliceBounds,Instr.sliceBound,asIntOf,this]
 .have J:0<=i/\i<=(cap:Int):=⟨hi0,by omega⟩
  rcases D with ⟨rfl,rfl⟩|⟨K,q,rfl,G,rfl⟩
  .simp[Instr.sliceBounds,Instr.sliceBound,asIntOf,J]
  .have M:0<=q/\q<=i:=⟨G,by omega⟩
   have N:q<=max i 0:=by omega
   simp[Instr.sliceBounds,Instr.sliceBound,asIntOf,J,M,N]
theorem iw(len cap:Nat){lo hi N:Option Value}{l h m:Nat}(E:(lo=none/\l=0)\/∃k i,lo=some (.int k i)/\0<=i/\i.toNat=l)
  (G:∃k i,hi=some (.int k i)/\0<=i/\i.toNat=h) (J:∃k i,N=some (.int k i)/\0<=i/\i.toNat=m) (Y:l<=h) (h2:h<=m) (h3:m<=cap) (w:World) :
  (Instr.sliceBounds true len cap lo hi N).run P w= .ok (l,h,m) w:=by
 obtain⟨k,i,rfl,hi0,rfl⟩:=G;obtain⟨k2,j,rfl,K,rfl⟩:=J;have O:0<=j/\j<=(cap:Int):=⟨K,by omega⟩;have q:0<=i/\i<=max j 0:=⟨hi0,by omega⟩;have D:i<=j:=by omega
 rcases E with ⟨rfl,rfl⟩|⟨k',M,rfl,R,rfl⟩
 .simp[Instr.sliceBounds,Instr.sliceBound,asIntOf,O,q,D]
 .have S:0<=M/\M<=i:=⟨R,by omega⟩
  have U:M<=max i 0:=by omega
  simp[Instr.sliceBounds,Instr.sliceBound,asIntOf,O,q,D,S,U]
theorem kJ{s:Sit}{a:Option Addr}{cap:Nat}:VR s (.ts [] 0) (.slice a 0 cap):=by
 unfold VR;exact⟨a,cap,rfl,Nat.zero_le _,.inl rfl⟩
theorem mX{v:V}{d n:Nat}(h:bnd (some v) d=some n):∃k i,v= .sc (.int k i)/\0<=i/\i.toNat=n:=by
 unfold bnd at h
 split at h
 .rename_i e;cases e
 .rename_i k i e
  cases e
  split at h
  .rename_i q;simp only[yF]at h;exact⟨k,i,rfl,q,h⟩
  .cases h
 .cases h
theorem mY{s:Sit}{σ:Store}(hi:Inv s σ){t:TypeId}{x:V}{lo a1 mx:Option V}{v:V}{y:Value}{Ky Kz KA:Option Value}(h:iT P t x lo a1 mx σ=some v)(D:VR s x y)
  (E:∀v,lo=some v->∃x,Ky=some x/\VR s v x) (Dq:lo=none->Ky=none) (G:∀v,a1=some v->∃x,Kz=some x/\VR s v x) (FD:a1=none->Kz=none)
  (c0:∀v,mx=some v->∃x,KA=some x/\VR s v x) (Jr:mx=none->KA=none) :
  ∃z,(Instr.sliceAt t y Ky Kz KA).run P s.w= .ok z s.w/\VR s v z:=by
 unfold iT at h
 split at h
 .rename_i aN
  split at h
  .rename_i str
   unfold VR at D;obtain⟨rfl,_⟩:=D
   split at h
   .rename_i l J R S
    have O:=xU R E Dq;have b2:=xU S G FD;have:=Jr rfl;subst this
    split at h
    .rename_i q
     simp only[yF]at h;subst h;refine⟨.string (str.extract l J),?_,y5 rfl⟩;simp[Instr.sliceAt,run_underlying aN,Instr.slice,vM (P:=P) false str.size str.size O b2 q.1 q.2]
    .cases h
   .cases h
  .cases h
 .rename_i elem aN
  split at h
  .rename_i i aU
   have:=Jr rfl;subst this
   split at h
   ·-- nil
    unfold VR at D;obtain⟨a,rfl⟩:=D
    split at h
    .rename_i l J R S
     split at h
     .rename_i q
      simp only[yF]at h;subst h;have O:=xU R E Dq;have b2:=xU S G FD;have U:=vM (P:=P) true 0 0 O b2 q.1 q.2 s.w;obtain⟨rfl,rfl⟩:l=0/\J=0:=by omega
      refine⟨.slice a 0 0,?_,by unfold VR;exact⟨a,rfl⟩⟩;simp[Instr.sliceAt,run_underlying aN,Instr.slice,U,vH aU]
     .cases h
    .cases h
   ·-- ts
    rename_i row len;unfold VR at D;obtain⟨a,cap,rfl,K,hr⟩:=D
    split at h
    .rename_i l J R S
     have O:=xU R E Dq;have b2:=xU S G FD
     split at h
     .rename_i q
      simp only[yF]at h;subst h;have U:=vM (P:=P) true len cap O b2 q.1 (by omega) s.w;refine⟨.slice (if cap=l then a else a.map (·.add (l*i.size))) (J-l) (cap-l),?_,?_⟩
      .simp[Instr.sliceAt,run_underlying aN,Instr.slice,U,vH aU]
      .unfold VR
       refine⟨_,_,rfl,by omega,?_⟩;rcases hr with rfl|⟨k,o,rfl,hr⟩
       .exact .inl (by simp)
       .by_cases he:J=l
        .subst he;exact .inl (by simp)
        .refine .inr ⟨k,o+l*i.size,?_,Ah (Ag hr _) _⟩
         rw[yD (by omega)];simp[Addr.add_lit]
     .cases h
    .cases h
   ·-- rs
    rename_i b off len;unfold VR at D;obtain⟨l0,cap,Y,rfl,K,M⟩:=D
    split at h
    .rename_i l J B R S U
     have O:=xU R E Dq;have b2:=xU S G FD
     split at h
     .rename_i q
      obtain⟨c1,c2,a6,b3⟩:=q;obtain⟨l1,c,e,h1,h2,h3,h4,h5,_⟩:=hi.blk b B U;rw[Y]at h1;cases h1;have N:J<=cap:=by
       have:J*i.size<=cap*i.size:=by rw[<- a6,<- h5]at b3⊢;omega
       exact Nat.le_of_mul_le_mul_right this c2
      have c3:=vM (P:=P) true len cap O b2 c1 N s.w;refine⟨.slice (if cap=l then some ⟨l0.k,l0.o+off,none⟩else some ⟨l0.k,l0.o+off+l*i.size,none⟩) (J-l) (cap-l),?_,?_⟩
      .simp only[Instr.sliceAt,Sem.run_bind,run_underlying aN,Result.andThen_ok,Instr.slice,c3,vH aU,Sem.run_pure,zh,Addr.add_lit]
      .split at h
       .rename_i hl
        simp only[yF]at h;subst h;subst hl;unfold VR;refine⟨l0,cap,Y,?_,N,M⟩;simp
       .split at h
        .rename_i hl Js
         simp only[yF]at h;subst h;subst Js;rw[Nat.sub_self];exact kJ
        .rename_i hl Js
         simp only[yF]at h;subst h;unfold VR;refine⟨l0,cap-l,Y,?_,by omega,?_⟩
         .rw[yD (by omega),yg]
         .rw[h5,a6,Nat.sub_mul]
          rw[h5,a6]at M;have:l*i.size<=cap*i.size:=zJ _ (by omega);omega
     .cases h
    .cases h
   .cases h
  .rename_i i m aU
   split at h
   .cases h
   .rename_i hv
    split at h
    .rename_i l J m' R S e3
     obtain⟨x3,b4,a7⟩:=c0 _ rfl;obtain⟨k3,i3,L_,b5,b6⟩:=mX e3;rw[L_]at a7;unfold VR at a7;obtain⟨rfl,_⟩:=a7;obtain⟨x2,b7,a8⟩:=G _ rfl;obtain⟨k2,i2,c4,b8,b9⟩:=mX S;rw[c4]at a8;unfold VR at a8;obtain⟨rfl,_⟩:=a8;have O:=xU R E Dq
     split at h
     .rename_i row len
      unfold VR at D;obtain⟨a,cap,rfl,K,hr⟩:=D
      split at h
      .rename_i q
       simp only[yF]at h;subst h;have U:=iw (P:=P) len cap O ⟨k2,i2,b7,b8,b9⟩ ⟨k3,i3,b4,b5,b6⟩ q.1 q.2.1 (by omega) s.w;exact⟨_,by simp only[Instr.sliceAt,Sem.run_bind,run_underlying aN,Result.andThen_ok,Instr.slice,U,vH aU,Sem.run_pure];rfl,by unfold VR;trivial⟩
      .cases h
     .rename_i b off len
      unfold VR at D;obtain⟨l0,cap,Y,rfl,K,M⟩:=D
      split at h
      .rename_i q
       simp only[yF]at h;subst h;have U:=iw (P:=P) len cap O ⟨k2,i2,b7,b8,b9⟩ ⟨k3,i3,b4,b5,b6⟩ q.1 q.2.1 (by omega) s.w;exact⟨_,by simp only[Instr.sliceAt,Sem.run_bind,run_underlying aN,Result.andThen_ok,Instr.slice,U,vH aU,Sem.run_pure];rfl,by unfold VR;trivial⟩
      .cases h
     .cases h
    .cases h
  .cases h
 .cases h
end
end Go.TV
namespace Go.TV
open Go.RowKit
set_option linter.unusedVariables false
set_option linter.unusedSimpArgs false
variable [Known]
section
variable {P:Program}
theorem iJ{s:Sit}{t:TypeId}{x v:V}{y:Value}{f:Nat}(h:aS P t x f=some v)(D:VR s x y) :
  ∃z,(Instr.fieldAt t y f).run P s.w= .ok z s.w/\VR s v z:=by
 unfold aS at h
 split at h
 .rename_i fields E
  split at h
  .rename_i fd q
   split at h
   .rename_i i J
    split at h
    .cases h
    .rename_i hs
     have G:∀a:Addr,(fieldPlace a fd).run P s.w= .ok (a.add fd.offset) s.w:=fun a=>by simp[fieldPlace,vH J,hs]
     split at h
     .rename_i row off
      simp only[yF]at h;subst h;unfold VR at D;obtain⟨k,o,rfl,K⟩:=D;refine⟨.pointer (some ⟨k,o+off+fd.offset,none⟩),?_,by unfold VR;exact⟨k,o,by rw[yg],K⟩⟩;simp[Instr.fieldAt,run_underlying E,q,Instr.sureAddr,G,Addr.add_lit]
     .rename_i b off
      simp only[yF]at h;subst h;unfold VR at D;obtain⟨l,M,rfl⟩:=D;refine⟨.pointer (some ⟨l.k,l.o+off+fd.offset,none⟩),?_,by unfold VR;exact⟨l,M,by rw[yg]⟩⟩;simp[Instr.fieldAt,run_underlying E,q,Instr.sureAddr,G,Addr.add_lit]
     .cases h
   .cases h
  .cases h
 .cases h
theorem jg{s:Sit}{t:TypeId}{cs:List V}{xs:Array Value}{off:Nat}{v:V}(h:lu P t cs off=some v)(E:VRs s cs xs.toList) :
  ∃z,(part t xs off).run P s.w= .ok z s.w/\VR s v z:=by
 unfold lu at h
 split at h
 .rename_i i d K G
  split at h
  .rename_i q
   simp only[yF]at h;subst h;refine⟨.agg (xs.extract off (off+i.size)),?_,?_⟩
   .simp[part,vK G,q,vH K]
   .unfold VR
    refine⟨_,rfl,?_⟩;have:(xs.extract off (off+i.size)).toList=(xs.toList.drop off).take i.size:=by
     rw[Array.toList_extract,List.extract_eq_take_drop,Nat.add_sub_cancel_left]
    rw[this];exact fB (jd E _) _
  .rename_i q
   obtain⟨x,J,D⟩:=xu E h;rw[zV]at J;exact⟨x,by simp[part,vK G,q,J],D⟩
 .cases h
theorem mZ{s:Sit}{t:TypeId}{x v:V}{y:Value}{f:Nat}(h:iU P t x f=some v)(E:VR s x y) :
  ∃z,(Instr.field t y f).run P s.w= .ok z s.w/\VR s v z:=by
 unfold iU at h
 split at h
 .rename_i fields cs G
  split at h
  .rename_i fd q
   unfold VR at E;obtain⟨xs,rfl,J⟩:=E;obtain⟨z,K,D⟩:=jg h J;exact⟨z,by simp[Instr.field,run_underlying G,q,asAgg,K],D⟩
  .cases h
 .cases h
theorem iK{s:Sit}{t:TypeId}{x i v:V}{y O:Value}(h:bn P t x i=some v)(D:VR s x y)(hi:VR s i O) :
  ∃z,(Instr.indexAt t y O).run P s.w= .ok z s.w/\VR s v z:=by
 unfold bn at h
 split at h
 .rename_i elem k i G
  unfold VR at hi;obtain⟨rfl,_⟩:=hi
  split at h
  .rename_i e J
   split at h
   .rename_i row len
    split at h
    .rename_i q
     simp only[yF]at h;subst h;unfold VR at D;obtain⟨a,cap,rfl,K,E⟩:=D;rcases E with E|⟨M,o,rfl,E⟩
     .exact absurd E q.2.2
     .refine⟨.pointer (some ⟨M,o+i.toNat *e.size,none⟩),?_,by unfold VR;exact⟨M,o,rfl,E⟩⟩
      simp[Instr.indexAt,asIntOf,run_underlying G,q.1,q.2.1,vH J,Addr.add_lit]
    .cases h
   .rename_i b off len
    split at h
    .rename_i q
     simp only[yF]at h;subst h;unfold VR at D;obtain⟨l,cap,N,rfl,K,R⟩:=D;refine⟨.pointer (some ⟨l.k,l.o+off+i.toNat *e.size,none⟩),?_,by unfold VR;exact⟨l,N,by rw[yg]⟩⟩;simp[Instr.indexAt,asIntOf,run_underlying G,q.1,q.2,vH J,Addr.add_lit]
    .cases h
   .cases h
  .cases h
 .rename_i n elem k i G
  unfold VR at hi;obtain⟨rfl,_⟩:=hi
  split at h
  .rename_i e J
   split at h
   .rename_i q
    split at h
    .rename_i row off
     simp only[yF]at h;subst h;unfold VR at D;obtain⟨M,o,rfl,E⟩:=D;refine⟨.pointer (some ⟨M,o+off+i.toNat *e.size,none⟩),?_,by unfold VR;exact⟨M,o,by rw[yg],E⟩⟩;simp[Instr.indexAt,asIntOf,run_underlying G,q.1,q.2,vH J,Addr.add_lit,Instr.sureAddr]
    .rename_i b off
     simp only[yF]at h;subst h;unfold VR at D;obtain⟨l,N,rfl⟩:=D;refine⟨.pointer (some ⟨l.k,l.o+off+i.toNat *e.size,none⟩),?_,by unfold VR;exact⟨l,N,by rw[yg]⟩⟩;simp[Instr.indexAt,asIntOf,run_underlying G,q.1,q.2,vH J,Addr.add_lit,Instr.sureAddr]
    .cases h
   .cases h
  .cases h
 .cases h
theorem m_{s:Sit}{t:TypeId}{x i v:V}{y G:Value}(h:dW P t x i=some v)(q:VR s x y)(hi:VR s i G) :
  ∃z,(Instr.index t y G).run P s.w= .ok z s.w/\VR s v z:=by
 unfold dW at h
 split at h
 .rename_i str
  unfold VR at q;obtain⟨rfl,_⟩:=q
  split at h
  .rename_i k i
   unfold VR at hi;obtain⟨rfl,_⟩:=hi
   split at h
   .rename_i D
    split at h
    .rename_i b K
     simp only[yF]at h;subst h;refine⟨.int .u8 b.toNat,?_,y5 rfl⟩;simp only[Instr.index,Sem.run_bind,asIntOf,Sem.run_pure,Result.andThen_ok,run_underlying D];rw[K];simp
    .cases h
   .cases h
  .cases h
 .rename_i cs
  unfold VR at q;obtain⟨xs,rfl,M⟩:=q
  split at h
  .rename_i n elem k i D
   unfold VR at hi;obtain⟨rfl,_⟩:=hi
   split at h
   .rename_i e N
    split at h
    .rename_i J
     obtain⟨z,O,E⟩:=jg h M;exact⟨z,by simp[Instr.index,asIntOf,run_underlying D,J.1,J.2,vH N,O],E⟩
    .cases h
   .cases h
  .cases h
 .cases h
theorem iy{s:Sit}{a:V}{x:Value}(h:isRef a=true)(q:VR s a x):∃p,x= .pointer (some p):=by
 cases a<;>simp only[isRef,zO]at h<;>unfold VR at q
 .obtain⟨k,o,rfl,_⟩:=q;exact⟨_,rfl⟩
 .obtain⟨l,_,rfl⟩:=q;exact⟨_,rfl⟩
theorem fG{s:Sit}{a:V}{x:Value}(h:dR a=true)(q:VR s a x):x= .pointer none:=by
 unfold dR at h
 split at h
 .unfold VR at q;exact q.1
 .cases h
theorem eG{t q:TypeId}(h:P.underlying t=some (.pointer q))(p:Addr)(w:World):(Op.equal t (.pointer (some p)) (.pointer none)).run P w= .ok false w:=by
 unfold Op.equal Op.maxDepth;rw[show(10000:Nat)=9999+1 from rfl];unfold Op.equalIn;simp only[Sem.run_bind,run_underlying h,Result.andThen_ok,Sem.run_pure]
theorem eH{t q:TypeId}(h:P.underlying t=some (.pointer q))(p:Addr)(w:World):(Op.equal t (.pointer none) (.pointer (some p))).run P w= .ok false w:=by
 unfold Op.equal Op.maxDepth;rw[show(10000:Nat)=9999+1 from rfl];unfold Op.equalIn;simp only[Sem.run_bind,run_underlying h,Result.andThen_ok,Sem.run_pure,Option.isNone_some]
theorem Aj{s:Sit}{op:BinOp}{t:TypeId}{x y:Operand}{a b v:V}{u D:Value}(h:aT P op t x y a b=some v)(N:VR s a u)(O:VR s b D) :
  ∃z,(do eqGuard op t x y u D;binOp op t u D:Sem Value).run P s.w= .ok z s.w/\VR s v z:=by
 unfold aT at h
 split at h
 .rename_i p q Y e2
  rw[uX Y N,uX e2 O];cases R:aA P (do eqGuard op t x y p q;binOp op t p q)with
  |none=>rw[R]at h;cases h
  |some r=>
   rw[R]at h;simp only[zq]at h
   split at h
   .rename_i S
    simp only[yF]at h;subst h;exact⟨r,vJ _ R _,y5 S⟩
   .cases h
 .have key:∀ {M:TypeId},P.underlying t=some (.pointer M)->(isRef a && dR b||isRef b && dR a)=true ->
      (Op.equal t u D).run P s.w= .ok false s.w/\(∀op,eqGuard op t x y u D=pure ())/\(binOp .eql t u D=do pure (.bool (<- Op.equal t u D)))/\(binOp .neq t u D=do pure (.bool (!(<- Op.equal t u D)))):=by
   intro M J K;rw[Bool.or_eq_true,zU,zU]at K;rcases K with ⟨E,G⟩|⟨E,G⟩
   .obtain⟨p,rfl⟩:=iy E N
    have:=fG G O;subst this;exact⟨eG J _ _,fun op=>eqGuard_at_pointer op t x y _ _,rfl,rfl⟩
   .obtain⟨p,rfl⟩:=iy E O
    have:=fG G N;subst this;exact⟨eH J _ _,fun op=>eqGuard_at_pointer op t x y _ _,rfl,rfl⟩
  split at h
  .rename_i M J
   split at h
   .rename_i K
    simp only[yF]at h;subst h;obtain⟨E,G,U,_⟩:=key J K;exact⟨.bool false,by simp[G,U,E],y5 rfl⟩
   .cases h
  .rename_i M J
   split at h
   .rename_i K
    simp only[yF]at h;subst h;obtain⟨E,G,_,U⟩:=key J K;exact⟨.bool true,by simp[G,U,E],y5 rfl⟩
   .cases h
  .cases h
theorem Dt{s:Sit}{op:UnOp}{a v:V}{u:Value}(h:qh P op a=some v)(E:VR s a u) :
  ∃z,(Op.unary op u).run P s.w= .ok z s.w/\VR s v z:=by
 unfold qh at h
 split at h
 .rename_i p G
  rw[uX G E];cases q:aA P (Op.unary op p)with
  |none=>rw[q]at h;cases h
  |some r=>
   rw[q]at h;simp only[zq]at h
   split at h
   .rename_i D
    simp only[yF]at h;subst h;exact⟨r,vJ _ q _,y5 D⟩
   .cases h
 .cases h
theorem xR{s:Sit}:∀ {row:List V} {xs:List Value} {l:List UInt8},aP row=some l->VRs s row xs->xs=l.map (fun b=>Value.int .u8 b.toNat)
 |[],xs,l,h,hr=>by simp only[aP,yF]at h;subst h;unfold VRs at hr;exact hr
 |v :: vs,xs,l,h,hr=>by
  unfold aP at h
  split at h
  .rename_i e;cases e
  .rename_i n E e
   cases e
   split at h
   .rename_i J
    cases q:aP vs with
    |none=>rw[q]at h;cases h
    |some l'=>
     rw[q]at h;simp only[zh,yF]at h;subst h;unfold VRs at hr;obtain⟨y,K,rfl,D,G⟩:=hr;unfold VR at D;obtain⟨rfl,_⟩:=D;rw[xR q G];simp only[yc,List.cons.injEq,and_true,Value.int.injEq,true_and];simp;omega
   .cases h
  .cases h
theorem foldl_push:∀(l:List UInt8) (r:ByteArray),(l.map (fun b=>(b.toNat:Int))).foldl (fun(r:ByteArray) (n:Int)=>r.push (UInt8.ofNat n.toNat)) r=r++⟨l.toArray⟩
 |[],r=>by
  simp only[List.map_nil,List.foldl_nil];apply ByteArray.ext;simp
 |b :: l,r=>by
  simp only[yc,List.foldl_cons];rw[foldl_push l];apply ByteArray.ext;simp[ByteArray.push]
theorem jW{s:Sit}{σ:Store}(hi:Inv s σ){src dst:TypeId}{a v:V}{u:Value}(h:bg P src dst a σ=some v)(R:VR s a u) :
  ∃z,(convert src dst u).run P s.w= .ok z s.w/\VR s v z:=by
 unfold bg at h
 split at h
 .rename_i p Y
  rw[uX Y R];cases M:aA P (convert src dst p)with
  |none=>rw[M]at h;cases h
  |some r=>
   rw[M]at h;simp only[zq]at h
   split at h
   .rename_i N
    simp only[yF]at h;subst h;exact⟨r,vJ _ M _,y5 N⟩
   .cases h
 .split at h
  .rename_i e q D
   split at h
   .rename_i i he aU
    split at h
    .split at h
     .rename_i row len E
      cases G:aP row with
      |none=>rw[G]at h;cases h
      |some l=>
       rw[G]at h;simp only[zh,yF]at h;subst h;obtain⟨S,cap,rfl,U,hlen,hr⟩:=vS hi R E;refine⟨.string ⟨l.toArray⟩,?_,y5 rfl⟩;rw[run_convert_bytes_string s.w src dst e S len cap q he D];rcases hr with rfl|⟨k,o,rfl,cs,J,O⟩
       .simp only[aP,yF]at G;subst G
        have:len=0:=by simpa using hlen.symm
        subst this;cases S with
        |none=>simp[Conv.bytesToString];rfl
        |some a=>
         rw[run_bytesToString s.w a 0 cap [] (by simp[loadCells,loadCellsFrom])];rfl
       .have hx:=xR G J
        have hl:cs.length=len:=by rw[<- xq J,hlen];simp
        have K:=run_loadCells_list (P:=P) s.w ⟨k,o,none⟩ cs (fun j v hv=>by rw[Addr.add_lit];exact O j v hv);rw[hl]at K;rw[run_bytesToString s.w ⟨k,o,none⟩ len cap (l.map fun b=>(b.toNat:Int)) (by rw[K,hx,List.map_map];rfl),foldl_push];simp
     .cases h
    .cases h
   .cases h
  .cases h
end
end Go.TV
namespace Go.TV
open Go.RowKit
set_option linter.unusedVariables false
set_option linter.unusedSimpArgs false
variable [Known]
def bZ(σ:Store)(nx size bytes:Nat)(s:V)(row:List V)(m:Nat):jV :=
 match s with
 | .nil=>if m=0 then some (.nil,σ,nx)else if m<=maxLen/\m*bytes<=140737488355328 then some (.rs nx 0 m,bF σ nx row size,nx+1)else none
 | .rs b off len=>match σ b with
  |some B=>if m=0 then some (.rs b off len,σ,nx)else
   if off+(len+m)*size<=B.cells.length then
    if B.wr=true/\B.st=size/\row.all aZ=true then some (.rs b off (len+m),upd σ b (some { B with cells:=patch B.cells (off+len*size) row }),nx)else none
   else if off+len*size=B.cells.length/\B.st=size/\len+m<=maxLen/\(len+m)*bytes<=140737488355328/\row.all aZ=true then
    some (.rs nx 0 (len+m),upd (upd σ b none) nx (some ⟨B.cells.drop off++row,size,B.wr⟩),nx+1)
   else none
  |none=>none
 |_=>none
def cZ(P:Program)(ts:Array TypeId)(s x:V)(σ:Store)(nx:Nat):jV :=
 match ts[0]?,ts[1]? with
 |some t,some t2=>match P.underlying t,t2==t with
  |some (.slice elem),true=>match P.info? elem with
   |some i=>match i.zero with
    |some z=>if z.cells.size=i.size/\0<i.size/\i.size<1000000 then
      match rowOf σ i.size x with
      |some (row,m)=>bZ σ nx i.size i.bytes s row m
      |none=>none
     else none
    |none=>none
   |none=>none
  |some (.slice elem),false=>match P.underlying elem,P.underlying t2,P.info? elem with
   |some (.int .u8),some .string,some i=>match i.zero,x with
    |some z,.sc (.string b)=>if z.cells.size=1/\i.size=1 then bZ σ nx 1 i.bytes s (b.data.toList.map fun c=> .sc (.int .u8 c.toNat)) b.size else none
    |_,_=>none
   |_,_,_=>none
  |_,_=>none
 |_,_=>none
theorem Inv.kill{s:Sit}{σ:Store}(h:Inv s σ)(b:Nat):Inv s (upd σ b none)/\mO s σ s (upd σ b none):=by
 have q:∀ {i:Nat} {A:pY},upd σ b none i=some A->i≠b/\σ i=some A:=fun {i A} h=>by
  by_cases D:i=b
  .subst D;rw[uQ]at h;cases h
  .exact⟨D,by rw[uS _ _ D]at h;exact h⟩
 exact⟨⟨fun i B J=>h.blk i B (q J).2,fun K M N O R S E G=>h.qg K M N O R S (q E).2 (q G).2,h.zb,h.kn⟩,
  ⟨.refl s,fun _ _ z=> .inl z,fun _ _ _=>rfl,fun i B l E G=> .inr ⟨i,B,l,(q E).2,G,rfl⟩,zu _,rfl,rfl,rfl⟩⟩
theorem Inv.freeze{s:Sit}{σ:Store}(h:Inv s σ){b:Nat}{B:pY}(O:σ b=some B){wr:Bool}(R:wr=true->B.wr=true):Inv s (upd σ b (some { B with wr:=wr })):=by
 have q:∀ {i:Nat} {A:pY},upd σ b (some { B with wr:=wr }) i=some A->∃D,σ i=some D/\A.cells=D.cells/\A.st=D.st/\(A.wr=true->D.wr=true):=fun {i A} h=>by
  by_cases E:i=b
  .subst E;rw[uQ]at h;cases h;exact⟨B,O,rfl,rfl,R⟩
  .exact⟨A,by rw[uS _ _ E]at h;exact h,rfl,rfl,id⟩
 refine⟨fun i A J=>?_,fun S U B1 B2 Y l2 K G=>?_,h.zb,h.kn⟩
 .obtain⟨D,K,G,M,h4⟩:=q J
  obtain⟨l,c,e,g1,g2,g3,g4,g5,g6,g7⟩:=h.blk i D K;refine⟨l,c,e,g1,g2,g3,by rw[G];exact g4,by rw[M];exact g5,by rw[G];exact g6,fun o z=>?_,by rw[M];exact g7.2⟩;obtain⟨N,z2⟩:=g7.1 o z;refine⟨?_,by rw[G];exact z2⟩;cases J:A.wr with
  |false=>rfl
  |true=>rw[h4 J]at N;cases N
 .obtain⟨A1,e1,_⟩:=q K
  obtain⟨A2,e2,_⟩:=q G;exact h.qg S U A1 A2 Y l2 e1 e2
theorem Inv.Du{s:Sit}{σ:Store}(h:Inv s σ){k p:Nat}{c:Array Value}{e:TypeId}(J:s.w.heap[k]?=some (.cells c e (0,0))){xs:List Value}(K:p+xs.length<=c.size)
  (q:∀b B l,σ b=some B->s.β b=some l->l.k≠k) (N:∀o,s.Z k o->o<p) :
  let w':=s.w.setRow k (c.toList.take p++xs++c.toList.drop (p+xs.length)).toArray
  Le s { s with w:=w' }/\Inv { s with w:=w' } σ:=by
 intro w';have E:w'.heap[k]?=some (.cells (c.toList.take p++xs++c.toList.drop (p+xs.length)).toArray e (0,0)):=setRow_heap s.w k c _ e (0,0) J;have O:c.toList.length=c.size:=zi;have hle:Le s { s with w:=w' }:=⟨fun _ _ z=>z,fun R o z=>by
  by_cases D:R=k
  .subst D
   have:=N o z;show w'.cell? _=_;rw[lC E,lC J,z_,cO (by omega),yD (by omega),zV]
  .exact World.cell?_of_block (vG s.w k _ D),fun _ _ e=>e⟩
 have G:w'.heap.size=s.w.heap.size:=by simp[w',World.setRow]
 refine⟨hle,⟨fun b B M=>?_,h.qg,fun k o z=>by show k<w'.heap.size;rw[G];exact h.zb k o z,h.kn.mono hle⟩⟩;obtain⟨l,S,U,g1,g2,g3,g4,g5,g6,g7⟩:=h.blk b B M;exact⟨l,S,U,g1,(vG s.w k _ (q b B l M g1)).trans g2,g3,g4,g5,fun i v Y=>let ⟨x,hx,hr⟩:=g6 i v Y;⟨x,hx,yB hle v x hr⟩,g7⟩
section
variable {P:Program}
structure Src (P:Program) (u:TypeId) (x:Value) (size m:Nat) (cs:List Value) (w:World):Prop where
 ty:P.underlying u=some .string\/∃e,P.underlying u=some (.slice e)
 len:∀w',(Builtin.lenOf x).run P w'= .ok m w'
 first:∀w':World,w'.heap=w.heap->(Builtin.firstCells size m x).run P w'= .ok cs.toArray w'
theorem Src.str{u:TypeId}(hu:P.underlying u=some .string)(s:ByteArray)(w:World):Src P u (.string s) 1 s.size (s.data.toList.map fun b=>Value.int .u8 b.toNat) w:=by
 refine⟨.inl hu,fun w'=>by simp[Builtin.lenOf],fun w' _=>?_⟩;simp[Builtin.firstCells];have hs:s.size=(Array.map (fun b:UInt8=>Value.int IntKind.u8 (b.toNat:Int)) s.data).size:=by rw[Array.size_map];rfl
 have h:(Array.map (fun b:UInt8=>Value.int IntKind.u8 (b.toNat:Int)) s.data).extract 0 s.size=Array.map (fun b:UInt8=>Value.int IntKind.u8 (b.toNat:Int)) s.data:=by
  rw[hs,Array.extract_size]
 first|exact h|(apply Array.ext';simp)
theorem vO{w:World}{t u ty e:TypeId}{i:TypeInfo}(M:P.underlying t=some (.slice e))(hi:P.info? e=some i)
  (g o h q:Nat) (D:Array Value) (K:TypeId) (N:w.heap[g]?=some (.cells D K (0,0)))
  {x:Value} {m:Nat} {news:List Value} (hs:Src P u x i.size m news w) (O:∀u∈news,u.oneCell'=true)
  (E:h+m<=q) (G:o+h*i.size+news.length<=D.size) :
  (Builtin.append_ #[t,u] ty #[.slice (some ⟨g,o,none⟩) h q,x]).run P w=
   .ok (.slice (some ⟨g,o,none⟩) (h+m) q) (w.setRow g (D.toList.take (o+h*i.size)++news++D.toList.drop (o+h*i.size+news.length)).toArray):=by
 have J:=run_storeCells_at P g (o+h*i.size) K news 0 D w N (by simpa using G) O;simp only[yK]at J;rcases hs.ty with hu|⟨R,hu⟩<;>simp[Builtin.append_,run_underlying M,run_underlying hu,sizeOf,typeInfo,hi,hs.len,E,hs.first w rfl,Addr.add_lit,J]
theorem vN{w:World}{t u ty e:TypeId}{i:TypeInfo}(D:P.underlying t=some (.slice e))(hi:P.info? e=some i)(base:Option Addr)(h q:Nat)(hle:h<=q){x:Value}(hs:Src P u x i.size 0 [] w) :
  (Builtin.append_ #[t,u] ty #[.slice base h q,x]).run P w= .ok (.slice base h q) w:=by
 rcases hs.ty with hu|⟨E,hu⟩<;>cases base<;>simp[Builtin.append_,run_underlying D,run_underlying hu,sizeOf,typeInfo,hi,hs.len,hle,hs.first w rfl,storeCells]
theorem eP{w:World}{t u ty e:TypeId}{i:TypeInfo}{z:Value}(E:P.underlying t=some (.slice e))(hi:P.info? e=some i)(G:i.zero=some z)
  {x:Value} {m:Nat} {news:List Value} (hs:Src P u x i.size m news w) (J:0<m) (K:(m:Int)<=9223372036854775807) (M:m*i.bytes<=281474976710656) :
  (Builtin.append_ #[t,u] ty #[.slice none 0 0,x]).run P w=
   .ok (.slice (some ⟨w.heap.size,0,none⟩) m (grownCap w m 0 e)) (w.drew.alloc (.cells (news.toArray++Builtin.zeroCells z.cells (grownCap w m 0 e-m)) e)):=by
 have N:m≠0:=by omega
 have h:¬(9223372036854775807<(m:Int)):=by omega
 have q:¬(281474976710656<Builtin.nextslicecap m 0*i.bytes):=by rw[nextslicecap_zero J];omega
 have O:=hs.first w.drew rfl;have D:(Builtin.firstCells i.size 0 (.slice none 0 0)).run P w.drew= .ok #[] w.drew:=by simp[Builtin.firstCells]
 rcases hs.ty with hu|⟨R,hu⟩<;>simp[Builtin.append_,run_underlying E,run_underlying hu,sizeOf,typeInfo,zeroValue,hi,G,hs.len,N,h,q,Question.forced,O,D,newRow,grownCap]
theorem vP{w:World}{t u ty e:TypeId}{i:TypeInfo}{z:Value}(N:P.underlying t=some (.slice e))(hi:P.info? e=some i)(O:i.zero=some z)
  (b:Addr) (h q:Nat) (D:List Value) (J:D.length=h*i.size) (holds:∀(j:Nat) (u:Value),D[j]?=some u->w.cell? (b.add j)=some u)
  {x:Value} {m:Nat} {news:List Value} (hs:Src P u x i.size m news w)
  (Y:q<h+m) (R:((h+m:Nat):Int)<=9223372036854775807) (M:Builtin.nextslicecap (h+m) q*i.bytes<=281474976710656) :
  (Builtin.append_ #[t,u] ty #[.slice (some b) h q,x]).run P w=
   .ok (.slice (some ⟨w.heap.size,0,none⟩) (h+m) (grownCap w (h+m) q e))
    (w.drew.alloc (.cells (D.toArray++news.toArray++Builtin.zeroCells z.cells (grownCap w (h+m) q e - (h+m))) e)):=by
 have S:¬(h+m<=q):=by omega
 have E:¬(9223372036854775807<((h:Int)+(m:Int))):=by omega
 have G:¬(281474976710656<Builtin.nextslicecap (h+m) q*i.bytes):=by omega
 have U:=hs.first w.drew rfl;have K:=run_firstCells_some (P:=P) w.drew i.size h b h q D J (by simpa using holds);rcases hs.ty with hu|⟨e',hu⟩<;>simp[Builtin.append_,run_underlying N,run_underlying hu,sizeOf,typeInfo,zeroValue,hi,O,hs.len,S,E,G,Question.forced,U,K,newRow,grownCap]
 all_goals (congr 2;apply Array.ext';simp[zN])
theorem xY{s:Sit}{σ:Store}(hi:Inv s σ){nx nx':Nat}{σ':Store}{t u ty elem:TypeId}{i:TypeInfo}{z:Value}{d v:V}{yd x:Value}{row:List V}{m:Nat}{cs:List Value}(aN:P.underlying t=some (.slice elem))(aU:P.info? elem=some i)(hz:i.zero=some z)(b5:z.cells.size=i.size)(c0:0<i.size)(e0:i.size<1000000)
  (a6:row.length=m*i.size) (J:VRs s row cs) (E:Src P u x i.size m cs s.w) (h:bZ σ nx i.size i.bytes d row m=some (v,σ',nx')) (hn:dJ s nx nx') (hd:VR s d yd) :
  ∃s' y,(Builtin.append_ #[t,u] ty #[yd,x]).run P s.w= .ok y s'.w/\Out s σ nx s' v y σ' nx':=by
 have Y:cs.length=m*i.size:=by rw[<- xq J,a6]
 unfold bZ at h
 split at h
 ·-- nil
  unfold VR at hd;obtain⟨a0,rfl⟩:=hd
  split at h
  .rename_i hm
   simp only[yF,yE]at h;obtain⟨rfl,rfl,rfl⟩:=h;subst hm;obtain rfl:cs=[]:=zL (by rw[Y,Nat.zero_mul]);exact⟨s,_,vN aN aU a0 0 0 (zu _) E,Out.same hi (by unfold VR;exact⟨_,rfl⟩)⟩
  .rename_i hm
   split at h
   .rename_i hb
    simp only[yF,yE]at h;obtain⟨rfl,rfl,rfl⟩:=h
    .skip
     have c1:m<=9223372036854775807:=by have:=hb.1;unfold maxLen at this;omega
     have q:∃cap,m<=cap/\(Builtin.append_ #[t,u] ty #[.slice a0 0 0,x]).run P s.w=
       .ok (.slice (some ⟨s.w.heap.size,0,none⟩) m cap) (s.w.drew.alloc (.cells (cs.toArray++Builtin.zeroCells z.cells (cap-m)) elem)):=by
      cases a0 with
      |none=>exact⟨_,grownCap_ge s.w m 0 elem,eP aN aU hz E (by omega) (by omega) (by omega)⟩
      |some b0=>
       have:=vP (P:=P) (ty:=ty) aN aU hz b0 0 0 [] (by simp) (by simp) E (by omega) (by omega) (growslice_fits (by omega) (by simpa using hb.2));simp only[yP,List.nil_append,show(([]:List Value).toArray)=#[]from rfl,Array.empty_append]at this;exact⟨_,by have:=grownCap_ge s.w m 0 elem;omega,this⟩
     obtain⟨cap,K,q⟩:=q;have O:(cs.toArray++Builtin.zeroCells z.cells (cap-m)).size=cap*i.size:=by
      rw[Array.size_append,size_zeroCells,b5,zG,Y,<- Nat.add_mul];congr 1;omega
     obtain⟨s',g1,g2,g3,g4,g5⟩:=xg hi hn (w1:=s.w.drew) (Below.refl _ _).drew rfl row i.size (cap*i.size) elem (cs.toArray++Builtin.zeroCells z.cells (cap-m)) O.symm (by intro h;omega)
      (by rw[a6];exact zJ _ K) (fun j u hu=>by
       obtain⟨y,hy,hr⟩:=xu J hu;refine⟨y,?_,hr⟩;rw[yM (by rw[zG];exact(List.getElem?_eq_some_iff.1 hy).1),z_];exact hy)
     refine⟨s',_,by rw[g1];exact q,⟨?_,g3,g4,g5⟩⟩;unfold VR;exact⟨_,cap,g2,rfl,K,by simp⟩
   .cases h
 ·-- rs
  rename_i b off len
  split at h
  .rename_i B hb
   have c2:=hd;unfold VR at hd;obtain⟨l,cap,hl,rfl,K,R⟩:=hd;obtain⟨l',c,e,g1,g2,g3,g4,g5,g6,g7⟩:=hi.blk b B hb;rw[hl]at g1;cases g1
   split at h
   .rename_i hm
    simp only[yF,yE]at h;obtain⟨rfl,rfl,rfl⟩:=h;subst hm;obtain rfl:cs=[]:=zL (by rw[Y,Nat.zero_mul]);exact⟨s,_,vN aN aU _ len cap K E,Out.same hi c2⟩
   .rename_i hm
    .skip
     split at h
     .rename_i c9
      split at h
      .rename_i a7
       obtain⟨hw,a8,S⟩:=a7;simp only[yF,yE]at h;obtain⟨rfl,rfl,rfl⟩:=h;have D:len+m<=cap:=by
        rw[g5,a8]at R;exact Nat.le_of_mul_le_mul_right (by omega) c0
       have e1:(len+m)*i.size=len*i.size+m*i.size:=Nat.add_mul _ _ _;have q:=vO (P:=P) (ty:=ty) aN aU l.k (l.o+off) len cap c e g2 E (w_ J S) D (by omega);have b1:=uG hi hb hw hl g2 (off:=off+len*i.size) J (by omega);rw[vW _ _ _ (by omega)];simp only[<- yg]at b1 q⊢;refine⟨_,_,q,⟨?_,b1.1,b1.2,fun i h=> .inl h⟩⟩;unfold VR;exact⟨l,cap,hl,rfl,D,R⟩
      .cases h
     .rename_i LU
      split at h
      .rename_i a7
       obtain⟨c3,a8,b6,a1,S⟩:=a7;simp only[yF,yE]at h;obtain⟨rfl,rfl,rfl⟩:=h;obtain⟨b2,b3⟩:=hi.kill b;have c4:s.β nx=none:=hn nx (zu _) (by omega);have U:∀b' B' l',upd σ b none b'=some B'->s.β b'=some l'->l'.k≠l.k:=fun b' B' l' M h2 e=>by
        by_cases N:b'=b
        .subst N;rw[uQ]at M;cases M
        .rw[uS _ _ N]at M;exact N (hi.qg b' b B' B l' l M hb h2 hl e)
       by_cases D:len+m<=cap
       ·-- in place
        have e1:(len+m)*i.size=len*i.size+m*i.size:=Nat.add_mul _ _ _;have e2:(len+m)*i.size<=cap*i.size:=zJ _ D;rw[g5,a8]at R;have q:=vO (P:=P) (ty:=ty) aN aU l.k (l.o+off) len cap c e g2 E (w_ J S) D (by omega);have c5:=b2.Du (k:=l.k) (p:=l.o+off+len*i.size) g2 (xs:=cs) (by omega) U (fun o' z=>by have:=(g7.1 o' z).2;omega);obtain⟨hle,hinv⟩:=c5;have Mc:c.toList.length=c.size:=zi;have c6:=setRow_heap s.w l.k c (c.toList.take (l.o+off+len*i.size)++cs++c.toList.drop (l.o+off+len*i.size+cs.length)).toArray e (0,0) g2;obtain⟨b7,Dk⟩:=hinv.add (nx:=nx) c4 (k:=l.k) (o:=l.o+off) (cap:=cap*i.size) (st:=i.size) (cells:=B.cells.drop off++row) (wr:=B.wr) c6 U
         (fun o' z=>by have:=g7.1 o' z;simp only[zX,yu];exact⟨this.1,by omega⟩) (by intro h;omega)
         (by rw[zG];simp only[zX,zM,yu];omega)
         (by simp only[zX,yu];omega)
         (fun j u hu=>by
          rw[z_,cO (by omega)]
          by_cases hj:j<(B.cells.drop off).length
          .rw[zl hj,yU]at hu
           simp only[yu]at hj;obtain⟨y,hy,hr⟩:=g6 _ u hu;rw[yD (by omega),zV];exact⟨y,by rw[yg];exact hy,yB hle u y hr⟩
          .rw[zk (by omega)]at hu
           simp only[yu]at hj hu;have e3:j - (B.cells.length-off)<row.length:=(List.getElem?_eq_some_iff.1 hu).1;obtain⟨y,hy,hr⟩:=xu J hu;rw[yC (by omega),show l.o+off+j - (l.o+off+len*i.size)=j - (B.cells.length-off) by omega];exact⟨y,hy,yB hle u y hr⟩)
        have c7:(s.w.setRow l.k (c.toList.take (l.o+off+len*i.size)++cs++c.toList.drop (l.o+off+len*i.size+cs.length)).toArray).heap.size=s.w.heap.size:=by simp[World.setRow]
        refine⟨_,_,q,⟨?_,Dk,⟨hle.trans b7,fun k o z=> .inl z,fun k' b2 b3=>vG s.w l.k _ (fun e=>b3 b B l hb hl e.symm),fun b' B' l' M h2=>?_,by rw[c7];exact zu _,rfl,rfl,rfl⟩,fun j hj=>?_⟩⟩
        .unfold VR;exact⟨_,cap,uQ _ _ _,by simp,D,by simp⟩
        .by_cases G:b'=nx
         .subst G
          have:l'=⟨l.k,l.o+off,cap*i.size,i.size⟩:=by simpa only[uQ,yF,eq_comm]using h2
          subst this;exact .inr ⟨b,B,l,hb,hl,rfl⟩
         .rw[uS _ _ G]at M
          by_cases N:b'=b
          .subst N;rw[uQ]at M;cases M
          .rw[uS _ _ N]at M
           exact .inr ⟨b',B',l',M,by simpa only[uS _ _ G]using h2,rfl⟩
        .by_cases G:j=nx
         .subst G;exact .inr ⟨zu _,by omega⟩
         .exact .inl (by simpa only[uS _ _ G]using hj)
       ·-- new memory
        have hold:((B.cells.drop off).length)=len*i.size:=by simp only[yu];omega
        obtain⟨os,b8,b9⟩:=(hi.reads hb hl).drop off;have Jt:os.length=len*i.size:=by rw[<- xq b8,hold]
        have c1:len+m<=9223372036854775807:=by have:=b6;unfold maxLen at this;omega
        have q:=vP (P:=P) (ty:=ty) aN aU hz ⟨l.k,l.o+off,none⟩ len cap os Jt (fun j v hv=>by rw[Addr.add_lit];exact b9 j v hv) E (by omega) (by omega) (growslice_fits (by omega) a1);have b4:=grownCap_ge s.w (len+m) cap elem;generalize grownCap s.w (len+m) cap elem=gc at q b4;have e1:(len+m)*i.size=len*i.size+m*i.size:=Nat.add_mul _ _ _;have O:(os.toArray++cs.toArray++Builtin.zeroCells z.cells (gc - (len+m))).size=gc*i.size:=by
         rw[Array.size_append,Array.size_append,size_zeroCells,b5,zG,zG,Y,Jt,<- e1,<- Nat.add_mul];congr 1;omega
        have e4:(len+m)*i.size<=gc*i.size:=zJ _ b4;obtain⟨s',p1,p2,p3,p4,p5⟩:=xg b2 hn (w1:=s.w.drew) (Below.refl _ _).drew rfl (B.cells.drop off++row) i.size (gc*i.size) elem _ O.symm (by intro h;omega)
         (by simp only[zX,hold,a6];omega) (fun j u hu=>by
          have Ju:=y9 b8 J;obtain⟨y,hy,hr⟩:=xu Ju hu;refine⟨y,?_,hr⟩;rw[yM (by
           have:=(List.getElem?_eq_some_iff.1 hy).1;simp only[zX]at this;rw[Array.size_append,zG,zG];exact this)]
          simpa using hy)
        have c8:Inv s' (upd (upd σ b none) nx (some ⟨B.cells.drop off++row,i.size,B.wr⟩)):=by
         have:=p3.freeze (b:=nx) (B:=⟨B.cells.drop off++row,i.size,true⟩) (wr:=B.wr) (by unfold bF;rw[uQ]) (fun _=>rfl);have he:upd (bF (upd σ b none) nx (B.cells.drop off++row) i.size) nx (some { cells:=B.cells.drop off++row,st:=i.size,wr:=B.wr })=upd (upd σ b none) nx (some ⟨B.cells.drop off++row,i.size,B.wr⟩):=by
          funext j;unfold bF upd;split<;>rfl
         rw[he]at this;exact this
        have lD:mO s (upd σ b none) s' (upd (upd σ b none) nx (some ⟨B.cells.drop off++row,i.size,B.wr⟩)):=by
         refine⟨p4.le,p4.zn,p4.kb,fun b' B' l' M h2=>?_,p4.hs,p4.os,p4.tape,p4.output⟩
         by_cases G:b'=nx
         .subst G
          exact p4.nb b' ⟨B.cells.drop off++row,i.size,true⟩ l' (by unfold bF;rw[uQ]) h2
         .rw[uS _ _ G]at M
          exact p4.nb b' B' l' (by unfold bF;rw[uS _ _ G];exact M) h2
        refine⟨s',_,by rw[p1];exact q,⟨?_,c8,b3.trans lD,p5⟩⟩;unfold VR;exact⟨_,gc,p2,rfl,b4,by simp⟩
      .cases h
  .cases h
 .cases h
theorem Ak{w w':World}(h:w'.heap=w.heap)(k o:Nat):w'.cell? ⟨k,o,none⟩=w.cell? ⟨k,o,none⟩:=World.cell?_of_block (by rw[h])
theorem Src.slice{u e:TypeId}(hu:P.underlying u=some (.slice e)){q:Option Addr}{m E size:Nat}{cs:List Value}{w:World}(G:0<size)(h:cs.length=m*size)
  (D:cs=[]\/∃k o,q=some ⟨k,o,none⟩/\∀(j:Nat) (v:Value),cs[j]?=some v->w.cell? ⟨k,o+j,none⟩=some v):Src P u (.slice q m E) size m cs w:=by
 refine⟨.inr ⟨e,hu⟩,fun w'=>by simp[Builtin.lenOf],fun w' J=>?_⟩;rcases D with rfl|⟨k,o,rfl,D⟩
 .have K:m=0:=by
   rcases Nat.mul_eq_zero.1 (by simpa using h.symm)with e|e<;>omega
  subst K;cases q<;>simp[Builtin.firstCells,loadCells,loadCellsFrom]
 .exact run_firstCells_some (P:=P) w' size m ⟨k,o,none⟩ m E cs h (fun j v M=>by rw[Addr.add_lit,Ak J];exact D j v M)
theorem lG{s:Sit}{σ:Store}(hi:Inv s σ){nx nx':Nat}{σ':Store}{ts:Array TypeId}{ty:TypeId}{d x v:V}{yd yx:Value}(h:cZ P ts d x σ nx=some (v,σ',nx'))(h2:ts.size=2)(hn:dJ s nx nx')(hd:VR s d yd)(hx:VR s x yx) :
  ∃s' y,(Builtin.append_ ts ty #[yd,yx]).run P s.w= .ok y s'.w/\Out s σ nx s' v y σ' nx':=by
 unfold cZ at h
 split at h
 .rename_i t t2 a6 a7
  obtain rfl:ts=#[t,t2]:=by
   apply Array.ext';rcases ts with ⟨l⟩
   rcases l with _|⟨a,_|⟨b,_|⟨c,l⟩⟩⟩<;>simp_all
  split at h
  .rename_i elem M Jv
   obtain rfl:t=t2:=(by simpa using Jv:t2=t).symm
   split at h
   .rename_i i U
    split at h
    .rename_i z Y
     split at h
     .rename_i hc
      obtain⟨D,E,N⟩:=hc
      split at h
      .rename_i row m O
       obtain⟨ao,xc,rfl,a8,G,K⟩:=vS hi hx O;rcases K with rfl|⟨k,o,rfl,cs,q,a1⟩
       .have q:VRs s [] []:=by unfold VRs;rfl
        exact xY hi M U Y D E N G q (Src.slice M E (by rw[<- G];rfl) (.inl rfl)) h hn hd
       .exact xY hi M U Y D E N G q (Src.slice M E (by rw[<- xq q,G]) (.inr ⟨k,o,rfl,a1⟩)) h hn hd
      .cases h
     .cases h
    .cases h
   .cases h
  .rename_i elem M Jv
   split at h
   .rename_i i MR R U
    split at h
    .rename_i z b Y
     split at h
     .rename_i hc
      obtain⟨D,S⟩:=hc;unfold VR at hx;obtain⟨rfl,_⟩:=hx;have q:VRs s (b.data.toList.map fun c=>V.sc (.int .u8 c.toNat)) (b.data.toList.map fun c=>Value.int .u8 c.toNat):=by
       generalize b.data.toList=l
       induction l with
       |nil=>unfold VRs;rfl
       |cons c l ih=>unfold VRs;exact⟨_,_,rfl,y5 rfl,ih⟩
      have J:=Src.str R b s.w;rw[<- S]at h J D;exact xY hi M U Y D (by omega) (by omega) (by rw[yG,S,Nat.mul_one];rfl) q J h hn hd
     .cases h
    .cases h
   .cases h
  .cases h
 .cases h
end
end Go.TV
namespace Go.TV
open Go.RowKit
set_option linter.unusedVariables false
set_option linter.unusedSimpArgs false
variable [Known]
def stripL(f:V->Option (V×List Nat)):List V->Option (List V×List Nat)
 |[]=>some ([],[])
 |v :: vs=>match f v,stripL f vs with
  |some (t,i),some (ts,j)=>some (t :: ts,i++j)
  |_,_=>none
def strip(σ:Store):Nat->V->Option (V×List Nat)
 |0,v=>match v with
  | .sc u=>some (.sc u,[])
  | .nil=>some (.ts [] 0,[])
  | .junk=>some (.junk,[])
  | .tp row off=>some (.tp row off,[])
  | .ts row len=>some (.ts row len,[])
  |_=>none
 |d+1,v=>match v with
  | .sc u=>some (.sc u,[])
  | .nil=>some (.ts [] 0,[])
  | .junk=>some (.junk,[])
  | .tp row off=>some (.tp row off,[])
  | .ts row len=>some (.ts row len,[])
  | .agg vs=>match stripL (strip σ d) vs with
   |some (ts,ids)=>some (.agg ts,ids)
   |none=>none
  | .dw vs=>match stripL (strip σ d) vs with
   |some (ts,ids)=>some (.dw ts,ids)
   |none=>none
  | .clo f vs=>match stripL (strip σ d) vs with
   |some (ts,ids)=>some (.clo f ts,ids)
   |none=>none
  | .rp b off=>match σ b with
   |some B=>match stripL (strip σ d) B.cells with
    |some (ts,ids)=>some (.tp ts off,b :: ids)
    |none=>none
   |none=>none
  | .rs b off len=>match σ b with
   |some B=>if off+len*B.st<=B.cells.length then
     match stripL (strip σ d) ((B.cells.drop off).take (len*B.st))with
     |some (ts,ids)=>some (.ts ts len,b :: ids)
     |none=>none
    else none
   |none=>none
def Covers(s:Sit)(σ:Store)(ids:List Nat)(s':Sit):Prop :=
 s'.w=s.w/\(∀k o,s.Z k o->s'.Z k o)/\∀b∈ids,∀B l,σ b=some B->s.β b=some l->∀i,i<B.cells.length->s'.Z l.k (l.o+i)
theorem Covers.mono{s:Sit}{σ:Store}{ids q:List Nat}{s':Sit}(h:Covers s σ ids s')(hs:∀b∈q,b∈ids):Covers s σ q s' :=
 ⟨h.1,h.2.1,fun b D=>h.2.2 b (hs b D)⟩
theorem Covers.HY{s:Sit}{σ:Store}{ids:List Nat}{s':Sit}(h:Covers s σ ids s'):Le s.nb s'.nb :=
 ⟨h.2.1,fun k o _=>by show s'.w.cell? _=s.w.cell? _;rw[h.1],fun _ _ e=>by cases e⟩
theorem uj{s:Sit}{σ:Store}{f:V->Option (V×List Nat)}
  (D:∀(v t:V) (ids:List Nat) (x:Value) (s':Sit),f v=some (t,ids)->VR s v x->Covers s σ ids s'->VR s'.nb t x) :
  ∀ {vs ts:List V} {ids:List Nat} {xs:List Value} {s':Sit},stripL f vs=some (ts,ids)->VRs s vs xs->Covers s σ ids s'->VRs s'.nb ts xs
 |[],ts,ids,xs,s',h,hx,hc=>by
  simp only[stripL,yF,yE]at h;obtain⟨rfl,rfl⟩:=h;unfold VRs at hx⊢;exact hx
 |v :: vs,ts,ids,xs,s',h,hx,hc=>by
  unfold stripL at h
  split at h
  .rename_i t i E j G J
   simp only[yF,yE]at h;obtain⟨rfl,rfl⟩:=h;unfold VRs at hx⊢;obtain⟨y,K,rfl,M,N⟩:=hx;exact⟨y,K,rfl,D v t i y s' G M (hc.mono fun b q=>zf _ q),uj D J N (hc.mono fun b q=>zQ _ q)⟩
  .cases h
theorem uq{f:V->Option (V×List Nat)}:∀ {vs ts:List V} {ids:List Nat},stripL f vs=some (ts,ids)->ts.length=vs.length
 |[],ts,ids,h=>by simp only[stripL,yF,yE]at h;rw[<- h.1]
 |v :: vs,ts,ids,h=>by
  unfold stripL at h
  split at h
  .rename_i D q
   simp only[yF,yE]at h;rw[<- h.1,yj,uq q,yj]
  .cases h
theorem y8{s s':Sit}{σ:Store}{ids:List Nat}(hi:Inv s σ)(E:Covers s σ ids s'){b:Nat}(M:b∈ids){B:pY}(G:σ b=some B){l:Loc}(J:s.β b=some l){off n:Nat}{ts:List V}(U:off+n<=B.cells.length)
  (h:∀xs,VRs s ((B.cells.drop off).take n) xs->VRs s'.nb ts xs) (hlen:ts.length=n):dh s'.nb ts l.k (l.o+off):=by
 obtain⟨cs,q,D⟩:=((hi.reads G J).drop off).take n;have N:=h cs q;refine fD fun i v K=>?_
 have O:i<n:=by rw[<- hlen];exact(List.getElem?_eq_some_iff.1 K).1
 obtain⟨x,R,S⟩:=xu N K;refine⟨by rw[yg];exact E.2.2 b M B l G J (off+i) (by omega),x,?_,S⟩;show s'.w.cell? _=_;rw[E.1];exact D i x R
theorem uf{s:Sit}{σ:Store}(hi:Inv s σ):∀(d:Nat) (v t:V) (ids:List Nat) (x:Value) (s':Sit),strip σ d v=some (t,ids)->VR s v x->Covers s σ ids s'->VR s'.nb t x:=by
 have base:∀(v t:V) (ids:List Nat) (x:Value) (s':Sit),strip σ 0 v=some (t,ids)->VR s v x->Covers s σ ids s'->VR s'.nb t x:=by
  intro v t ids x s' h q D;unfold strip at h
  split at h<;>first|(simp only[yF,yE]at h;obtain⟨rfl,rfl⟩:=h)|cases h
  .unfold VR at *;exact q
  .unfold VR at q;obtain⟨a,rfl⟩:=q;exact kJ
  .unfold VR;trivial
  .unfold VR at *;obtain⟨k,o,e,E⟩:=q;exact⟨k,o,e,y7 D.HY _ _ _ E⟩
  .unfold VR at *
   obtain⟨a,cap,e,G,E⟩:=q;exact⟨a,cap,e,G,E.imp id fun⟨k,o,e,E⟩=>⟨k,o,e,y7 D.HY _ _ _ E⟩⟩
 intro d
 induction d with
 |zero=>exact base
 |succ d K=>
  intro v t ids x s' h q D;cases v with
  |sc u=>exact base (.sc u) _ _ _ _ h q D
  |nil=>exact base (.nil) _ _ _ _ h q D
  |junk=>exact base (.junk) _ _ _ _ h q D
  |tp row off=>exact base (.tp row off) _ _ _ _ h q D
  |ts row len=>exact base (.ts row len) _ _ _ _ h q D
  |agg vs=>
   simp only[strip]at h
   split at h
   .rename_i ts N e
    simp only[yF,yE]at h;obtain⟨rfl,rfl⟩:=h;unfold VR at q⊢;obtain⟨xs,rfl,E⟩:=q;exact⟨xs,rfl,uj (fun v t ids x s'=>K v t ids x s') e E D⟩
   .cases h
  |dw vs=>
   simp only[strip]at h
   split at h
   .rename_i ts N e
    simp only[yF,yE]at h;obtain⟨rfl,rfl⟩:=h;unfold VR at q⊢;obtain⟨xs,rfl,E⟩:=q;exact⟨xs,rfl,uj (fun v t ids x s'=>K v t ids x s') e E D⟩
   .cases h
  |clo f vs=>
   simp only[strip]at h
   split at h
   .rename_i ts N e
    simp only[yF,yE]at h;obtain⟨rfl,rfl⟩:=h;unfold VR at q⊢;obtain⟨xs,rfl,E⟩:=q;exact⟨xs,rfl,uj (fun v t ids x s'=>K v t ids x s') e E D⟩
   .cases h
  |rp b off=>
   simp only[strip]at h
   split at h
   .rename_i B O
    split at h
    .rename_i ts N e
     simp only[yF,yE]at h;obtain⟨rfl,rfl⟩:=h;unfold VR at q⊢;obtain⟨l,R,rfl⟩:=q;refine⟨l.k,l.o,rfl,?_⟩;have:=y8 hi D (zW) O R (off:=0) (n:=B.cells.length) (ts:=ts) (by omega) (fun xs J=>by
      rw[List.drop_zero,List.take_length]at J;exact uj (fun v t ids x s'=>K v t ids x s') e J (D.mono fun b S=>zZ _ S)) (uq e)
     exact this
    .cases h
   .cases h
  |rs b off len=>
   simp only[strip]at h
   split at h
   .rename_i B O
    split at h
    .rename_i M
     split at h
     .rename_i ts N e
      simp only[yF,yE]at h;obtain⟨rfl,rfl⟩:=h;unfold VR at q⊢;obtain⟨l,cap,R,rfl,G,U⟩:=q;refine⟨_,cap,rfl,G,.inr ⟨l.k,l.o+off,rfl,?_⟩⟩;exact y8 hi D (zW) O R M (fun xs J=>uj (fun v t ids x s'=>K v t ids x s') e J (D.mono fun b S=>zZ _ S))
       (by rw[uq e];simp;omega)
     .cases h
    .cases h
   .cases h
def Dv(f:V->Bool)(vs:List V):Bool:=vs.all f
def flat:Nat->V->Bool
 |0,v=>match v with
  | .sc _| .nil| .junk=>true
  | .ts row _=>row.isEmpty
  |_=>false
 |d+1,v=>match v with
  | .sc _| .nil| .junk=>true
  | .ts row _=>row.isEmpty
  | .agg vs| .dw vs| .clo _ vs=>Dv (flat d) vs
  |_=>false
theorem wR{s s':Sit}{f:V->Bool}(q:∀(v:V) (x:Value),f v=true->VR s v x->VR s' v x):∀ {vs:List V} {xs:List Value},Dv f vs=true->VRs s vs xs->VRs s' vs xs
 |[],xs,_,h=>by unfold VRs at *;exact h
 |v :: vs,xs,hfl,h=>by
  unfold Dv at hfl;rw[List.all_cons,zU]at hfl;unfold VRs at *;obtain⟨y,D,rfl,E,G⟩:=h;exact⟨y,D,rfl,q v y hfl.1 E,wR q hfl.2 G⟩
theorem qm{s s':Sit}:∀(d:Nat) (v:V) (x:Value),flat d v=true->VR s v x->VR s' v x:=by
 have base:∀(v:V) (x:Value),flat 0 v=true->VR s v x->VR s' v x:=by
  intro v x h q;unfold flat at h
  split at h
  .unfold VR at *;exact q
  .unfold VR at *;exact q
  .unfold VR;trivial
  .rename_i row len
   have:row=[]:=by simpa using h
   subst this;unfold VR at *;obtain⟨a,cap,e,G,_⟩:=q;exact⟨a,cap,e,G,.inl rfl⟩
  .cases h
 intro d
 induction d with
 |zero=>exact base
 |succ d E=>
  intro v x h q;cases v with
  |sc u=>exact base (.sc u) _ h q
  |nil=>exact base (.nil) _ h q
  |junk=>exact base (.junk) _ h q
  |ts row len=>exact base (.ts row len) _ h q
  |tp row off=>cases h
  |rp b off=>cases h
  |rs b off len=>cases h
  |agg vs=>unfold VR at q⊢;obtain⟨xs,rfl,D⟩:=q;exact⟨xs,rfl,wR (E) h D⟩
  |dw vs=>unfold VR at q⊢;obtain⟨xs,rfl,D⟩:=q;exact⟨xs,rfl,wR (E) h D⟩
  |clo f vs=>unfold VR at q⊢;obtain⟨xs,rfl,D⟩:=q;exact⟨xs,rfl,wR (E) h D⟩
def bI(f:V->Option (List Nat)):List V->Option (List Nat)
 |[]=>some []
 |v :: vs=>match f v,bI f vs with
  |some i,some j=>some (i++j)
  |_,_=>none
def gather(σ:Store):Nat->V->Option (List Nat)
 |0,v=>match v with
  | .sc _| .nil| .junk=>some []
  | .ts row _=>if row.isEmpty then some []else none
  |_=>none
 |d+1,v=>match v with
  | .sc _| .nil| .junk=>some []
  | .ts row _=>if row.isEmpty then some []else none
  | .agg vs| .dw vs| .clo _ vs=>bI (gather σ d) vs
  | .rp b _| .rs b _ _=>match σ b with
   |some B=>match bI (gather σ d) B.cells with
    |some ids=>some (b :: ids)
    |none=>none
   |none=>none
  |_=>none
theorem wO{s s':Sit}{f:V->Option (List Nat)}(q:∀(v:V) (x:Value) ids,f v=some ids->VR s v x->VR s' v x):∀ {vs:List V} {xs:List Value} {ids:List Nat},bI f vs=some ids->VRs s vs xs->VRs s' vs xs
 |[],xs,ids,_,h=>by unfold VRs at *;exact h
 |v :: vs,xs,ids,hg,h=>by
  unfold bI at hg
  split at hg
  .rename_i i j D E
   unfold VRs at *;obtain⟨y,G,rfl,J,K⟩:=h;exact⟨y,G,rfl,q v y i D J,wO q E K⟩
  .cases hg
theorem kK{s s':Sit}{σ:Store}(J:∀b l,s.β b=some l->s'.β b=some l):∀(d:Nat) (v:V) (x:Value) (ids:List Nat),gather σ d v=some ids->VR s v x->VR s' v x:=by
 have base:∀(v:V) (x:Value) (ids:List Nat),gather σ 0 v=some ids->VR s v x->VR s' v x:=by
  intro v x ids h q;unfold gather at h
  split at h
  .unfold VR at *;exact q
  .unfold VR at *;exact q
  .unfold VR;trivial
  .rename_i row len
   split at h
   .rename_i K
    have:row=[]:=by simpa using K
    subst this;unfold VR at *;obtain⟨a,cap,e,M,_⟩:=q;exact⟨a,cap,e,M,.inl rfl⟩
   .cases h
  .cases h
 intro d
 induction d with
 |zero=>exact base
 |succ d E=>
  intro v x ids h q;cases v with
  |sc u=>exact base (.sc u) _ _ h q
  |nil=>exact base (.nil) _ _ h q
  |junk=>exact base (.junk) _ _ h q
  |ts row len=>exact base (.ts row len) _ _ h q
  |tp row off=>cases h
  |rp b off=>unfold VR at q⊢;obtain⟨l,G,e⟩:=q;exact⟨l,J _ _ G,e⟩
  |rs b off len=>unfold VR at q⊢;obtain⟨l,cap,G,e⟩:=q;exact⟨l,cap,J _ _ G,e⟩
  |agg vs=>unfold VR at q⊢;obtain⟨xs,rfl,D⟩:=q;exact⟨xs,rfl,wO E h D⟩
  |dw vs=>unfold VR at q⊢;obtain⟨xs,rfl,D⟩:=q;exact⟨xs,rfl,wO E h D⟩
  |clo f vs=>unfold VR at q⊢;obtain⟨xs,rfl,D⟩:=q;exact⟨xs,rfl,wO E h D⟩
theorem wP{σ:Store}{f:V->Option (List Nat)}{d:Nat}
  (N:∀(v:V) ids,f v=some ids->∀b∈ids,∃B D q,σ b=some B/\bI (gather σ D) B.cells=some q/\∀c∈q,c∈ids) :
  ∀ {vs:List V} {ids:List Nat},bI f vs=some ids->∀b∈ids,∃B D q,σ b=some B/\bI (gather σ D) B.cells=some q/\∀c∈q,c∈ids
 |[],ids,h,b,E=>by simp only[bI,yF]at h;subst h;cases E
 |v :: vs,ids,h,b,E=>by
  unfold bI at h
  split at h
  .rename_i i j O R
   simp only[yF]at h;subst h;rcases List.mem_append.1 E with E|E
   .obtain⟨B,D,q,G,J,K⟩:=N v i O b E
    exact⟨B,D,q,G,J,fun c M=>zf _ (K c M)⟩
   .obtain⟨B,D,q,G,J,K⟩:=wP (d:=d) N R b E
    exact⟨B,D,q,G,J,fun c M=>zQ _ (K c M)⟩
  .cases h
theorem qo{σ:Store}:∀(d:Nat) (v:V) (ids:List Nat),gather σ d v=some ids->∀b∈ids,∃B E D,σ b=some B/\bI (gather σ E) B.cells=some D/\∀c∈D,c∈ids:=by
 intro d
 induction d with
 |zero=>
  intro v ids h b q;unfold gather at h
  split at h<;>first|(simp only[yF]at h;subst h;cases q)|skip
  .split at h
   .simp only[yF]at h;subst h;cases q
   .cases h
  .cases h
 |succ d G=>
  intro v ids h b q
  have ref:∀i,(match σ i with
    |some B=>match bI (gather σ d) B.cells with
     |some ids=>some (i :: ids)
     |none=>none
    |none=>none)=some ids->∃B E D,σ b=some B/\bI (gather σ E) B.cells=some D/\∀c∈D,c∈ids:=by
   intro i h
   split at h
   .rename_i B K
    split at h
    .rename_i D e
     simp only[yF]at h;subst h;rcases List.mem_cons.1 q with rfl|q
     .exact⟨B,d,D,K,e,fun c J=>zZ _ J⟩
     .obtain⟨B',E,M,N,O,R⟩:=wP (d:=d) G e b q
      exact⟨B',E,M,N,O,fun c J=>zZ _ (R c J)⟩
    .cases h
   .cases h
  cases v with
  |sc u=>simp only[gather,yF]at h;subst h;cases q
  |nil=>simp only[gather,yF]at h;subst h;cases q
  |junk=>simp only[gather,yF]at h;subst h;cases q
  |ts row len=>
   simp only[gather]at h
   split at h
   .simp only[yF]at h;subst h;cases q
   .cases h
  |tp row off=>simp[gather]at h
  |rp i off=>exact ref i h
  |rs i off len=>exact ref i h
  |agg vs=>exact wP (d:=d) G h b q
  |dw vs=>exact wP (d:=d) G h b q
  |clo f vs=>exact wP (d:=d) G h b q
end Go.TV
namespace Go.TV
open Go.RowKit
set_option linter.unusedVariables false
set_option linter.unusedSimpArgs false
variable [Known]
inductive Conv where
 |inl|own|qp
abbrev Call:=FuncId->List V->Store->Nat->jV
def callable (P:Program) (f:FuncId):Prop:=∃ fn,P.funcs[f]? = some fn/\fn.body.isNone = false/\(fn.name == "runtime.NumGoroutine") = false
def dK(P:Program)(f:FuncId)(args:List V)(σ:Store)(nx:Nat)(v:V)(σ':Store)(nx':Nat):Prop :=
 nx<=nx'/\callable P f/\∀(s:Sit) (h:List Value),Inv s σ->dJ s nx nx'->VRs s args h ->
  Calls P f h.toArray s.w (fun e w'=>∃s' x,s'.w=w'/\e= .returned x/\Out s σ nx s' v x σ' nx')
def cu(P:Program)(call:Call):Prop:=∀f args σ nx v σ' nx',call f args σ nx=some (v,σ',nx')->dK P f args σ nx v σ' nx'
def fH(σ:Store):List Nat->Store
 |[]=>σ
 |b :: bs=>fH (upd σ b ((σ b).map fun B=>{ B with wr:=false })) bs
theorem fJ:∀(ids:List Nat) (σ:Store) (b:Nat) (B':pY),fH σ ids b=some B'->∃B,σ b=some B/\B'.cells=B.cells/\B'.st=B.st/\(b∈ids->B'.wr=false)/\(B'.wr=true->B.wr=true)
 |[],σ,b,B',h=>⟨B',h,rfl,rfl,(fun h=>by cases h),id⟩
 |i :: ids,σ,b,B',h=>by
  unfold fH at h;obtain⟨B,q,G,J,M,K⟩:=fJ ids _ b B' h
  by_cases E:b=i
  .subst E
   rw[uQ]at q;cases hs:σ b with
   |none=>rw[hs]at q;cases q
   |some A=>
    rw[hs]at q;simp only[zh,yF]at q;subst q;have D:B'.wr=false:=by
     cases D:B'.wr with
     |false=>rfl
     |true=>have:=K D;cases this
    exact⟨A,rfl,G,J,fun _=>D,fun h=>by rw[D]at h;cases h⟩
  .rw[uS _ _ E]at q
   exact⟨B,q,G,J,fun N=>M (by simpa[E]using N),K⟩
def wI(nx:Nat)(σ h:Store)(ids:List Nat):Store:=fun b=>if b<nx then σ b else if b∈ids then h b else none
def ah:Store:=fun _=>none
def depth:Nat:=7
def bP(conv:FuncId->Conv)(call:Call)(f:FuncId)(args:List V)(σ:Store)(nx:Nat):jV :=
 match conv f with
 | .inl=>call f args σ nx
 | .qp=>match stripL (strip σ depth) args with
  |some (ts,ids)=>match call f ts ah 0 with
   |some (v,σ1,_)=>match strip σ1 depth v with
    |some (t,_)=>if ids.isEmpty||flat depth t then some (t,σ,nx)else some (t,fH σ ids,nx)
    |none=>none
   |none=>none
  |none=>none
 | .own=>match stripL (strip σ depth) args with
  |some (ts,_)=>match call f ts ah nx with
   |some (v,σ1,gi)=>match gather σ1 depth v with
    |some ids=>some (v,wI nx σ σ1 ids,gi)
    |none=>none
   |none=>none
  |none=>none
theorem Inv.none(s:Sit)(h:∀k o,s.Z k o->k<s.w.heap.size)(q:Kn s):Inv s ah:=⟨fun b B h=>(by cases h),fun b b' B B' l l' h=>(by cases h),h,q⟩
def covered(s:Sit)(σ:Store)(ids:List Nat):Sit :=
 ⟨fun k o=>s.Z k o\/∃b,b∈ids/\∃B l,σ b=some B/\s.β b=some l/\l.k=k/\l.o<=o/\o<l.o+B.cells.length,fun _=>none,s.w⟩
theorem xK(s:Sit)(σ:Store)(ids:List Nat):Covers s σ ids (covered s σ ids) :=
 ⟨rfl,fun k o z=> .inl z,fun b h B l q D i hi=> .inr ⟨b,h,B,l,q,D,rfl,by omega,by omega⟩⟩
theorem Inv.block_lt{s:Sit}{σ:Store}(h:Inv s σ){b:Nat}{B:pY}{l:Loc}(D:σ b=some B)(E:s.β b=some l):l.k<s.w.heap.size:=by
 obtain⟨l',c,e,q,G,_⟩:=h.blk b B D;rw[E]at q;cases q;exact(Array.getElem?_eq_some_iff.1 G).1
theorem jh{s:Sit}{σ:Store}(h:Inv s σ)(ids:List Nat):∀k o,(covered s σ ids).Z k o->k<(covered s σ ids).w.heap.size:=by
 rintro k o (z|⟨b,_,B,l,q,D,rfl,_⟩)
 .exact h.zb k o z
 .exact h.block_lt q D
theorem ji{s:Sit}{σ:Store}(h:Inv s σ){args ts:List V}{ids:List Nat}{q:List Value}(hs:stripL (strip σ depth) args=some (ts,ids))(D:VRs s args q):VRs (covered s σ ids) ts q :=
 uj (s:=s) (σ:=σ) (fun v t ids x s'=>uf h depth v t ids x s') hs D (xK s σ ids)
theorem iC{f:V->Option (List Nat)}:∀ {vs:List V} {ids:List Nat},bI f vs=some ids->∀ {u:V},u∈vs->∃q,f u=some q
 |[],_,_,u,h=>by cases h
 |v :: vs,ids,h,u,hu=>by
  unfold bI at h
  split at h
  .rename_i D E
   rcases List.mem_cons.1 hu with rfl|hu
   .exact⟨_,D⟩
   .exact iC E hu
  .cases h
theorem fK{P:Program}{conv:FuncId->Conv}{call:Call}(hc:cu P call){f:FuncId}{args:List V}{σ:Store}{nx:Nat}{v:V}{σ':Store}{nx':Nat}
  (h:bP conv call f args σ nx=some (v,σ',nx')):dK P f args σ nx v σ' nx':=by
 unfold bP at h
 split at h
 .exact hc _ _ _ _ _ _ _ h
 .split at h
  .rename_i ts ids a7
   split at h
   .rename_i v1 N gi R
    split at h
    .rename_i t iL b4
     obtain⟨_,a6,qw⟩:=hc _ _ _ _ _ _ _ R;have key:∀(s:Sit) (D:List Value),Inv s σ->VRs s args D->Calls P f D.toArray s.w (fun e w'=>∃G x,G.w=w'/\e= .returned x/\VR (covered G N iL) t x/\Inv G N/\mO (covered s σ ids) ah G N):=by
      intro s D hi hv;refine(qw (covered s σ ids) D (Inv.none _ (jh hi ids) (hi.kn.same (fun _ _ z=> .inl z) rfl)) (fun _ _ _=>rfl) (ji hi a7 hv)).mono ?_;rintro e w' ⟨G,x,rfl,rfl,ho⟩;exact⟨G,x,rfl,rfl,uf ho.inv depth v1 t iL x _ b4 ho.vr (xK G N iL),ho.inv,ho.qj⟩
     have grow:∀(σ2:Store),(∀b B',σ2 b=some B'->∃B,σ b=some B/\B'.cells=B.cells/\B'.st=B.st/\(b∈ids->B'.wr=false)/\(B'.wr=true->B.wr=true))->dK P f args σ nx t σ2 nx:=by
      intro σ2 FH;refine⟨zu _,a6,fun s D hi _ hv=>(key s D hi hv).mono ?_⟩;rintro e w' ⟨G,x,rfl,rfl,FI,J,O⟩;have q:Below s.w.heap.size s.w G.w:=O.below
      let s':Sit:=⟨(covered G N iL).Z,s.β,G.w⟩
      have b8:∀k o,s.Z k o->s'.Z k o:=fun k o z=> .inl (O.le.zz k o (.inl z))
      have hle:Le s s':=⟨b8,fun k o z=>q.cell (p:=⟨k,o,none⟩) (hi.zb k o z),fun _ _ e=>e⟩;have b5:∀k o,s'.Z k o->(covered s σ ids).Z k o\/s.w.heap.size<=k:=by
       rintro k o (z|⟨b,_,B,l,E,M,rfl,_⟩)
       .rcases O.zn k o z with z|z|⟨b,B,l,E,_⟩
        .exact .inl z
        .exact .inr z
        .cases E
       .rcases O.nb b B l E M with z|⟨b,B,l,E,_⟩
        .exact .inr z
        .cases E
      refine⟨s',x,rfl,rfl,⟨yB (s:=covered G N iL) (s':=s') ⟨fun _ _ z=>z,fun _ _ _=>rfl,fun _ _ e=>by cases e⟩ t x FI,⟨fun b B' b9=>?_,fun b1 b2 B1 B2 l1 l2 E M=>?_,fun k o z=>?_,hi.kn.mono hle⟩,⟨hle,fun k o z=>?_,fun k hk _=>q.block k hk,fun b B' l E M=>?_,q.size,q.os,q.tape,q.output⟩,fun i h=> .inl h⟩⟩
      .obtain⟨B,hB,q1,q2,q3,q4⟩:=FH b B' b9
       obtain⟨l,c,e,g1,g2,g3,g4,g5,g6,g7⟩:=hi.blk b B hB;have S:=hi.block_lt hB g1;refine⟨l,c,e,g1,(q.block _ S).trans g2,g3,by rw[q1];exact g4,by rw[q2];exact g5,fun i u hu=>?_,fun o z=>?_,by rw[q2];exact g7.2⟩
       .rw[q1]at hu
        obtain⟨y,hy,hr⟩:=g6 i u hu;exact⟨y,hy,yB hle u y hr⟩
       .rw[q1]
        rcases b5 _ _ z with (z|⟨b',hb',B2,l2,E,M,h3,h4,h5⟩)|z
        .obtain⟨z1,z2⟩:=g7.1 o z
         refine⟨?_,z2⟩;cases hw:B'.wr with
         |false=>rfl
         |true=>rw[q4 hw]at z1;cases z1
        .have c0:b'=b:=hi.qg b' b B2 B l2 l E hB M g1 h3
         subst c0;rw[g1]at M;cases M;rw[hB]at E;cases E;exact⟨q3 hb',h5⟩
        .omega
      .obtain⟨A1,e1,_⟩:=FH _ _ E
       obtain⟨A2,e2,_⟩:=FH _ _ M;exact hi.qg b1 b2 A1 A2 l1 l2 e1 e2
      .rcases z with z|⟨b,_,B,l,E,M,rfl,_⟩
       .exact J.zb k o z
       .exact J.block_lt E M
      .rcases b5 k o z with (z|⟨b',hb',B2,l2,E,M,h3,h4,h5⟩)|z
       .exact .inl z
       .exact .inr (.inr ⟨b',B2,l2,E,M,h3⟩)
       .exact .inr (.inl z)
      .obtain⟨B,hB,_⟩:=FH b B' E
       exact .inr ⟨b,B,l,hB,M,rfl⟩
     split at h
     .rename_i a8
      simp only[yF,yE]at h;obtain⟨rfl,rfl,rfl⟩:=h;rcases Bool.or_eq_true _ _ ▸ a8 with he|he
      .have:ids=[]:=by simpa using he
       subst this;exact grow _ (fun b B' h=>⟨B',h,rfl,rfl,(fun h=>by cases h),id⟩)
      .refine⟨zu _,a6,fun s D hi _ hv=>(key s D hi hv).mono ?_⟩
       rintro e w' ⟨G,x,rfl,rfl,FI,J,O⟩;obtain⟨_,hinv,lD⟩:=hi.grow (w':=G.w) O.below;exact⟨{ s with w:=G.w },x,rfl,rfl,⟨qm depth _ x he FI,hinv,lD,fun i h=> .inl h⟩⟩
     .simp only[yF,yE]at h;obtain⟨rfl,rfl,rfl⟩:=h
      exact grow _ (fun b B' h=>fJ ids σ b B' h)
    .cases h
   .cases h
  .cases h
 .split at h
  .rename_i ts ids a7
   split at h
   .rename_i v1 N gi R
    split at h
    .rename_i iL b6
     simp only[yF,yE]at h;obtain⟨rfl,rfl,rfl⟩:=h;obtain⟨c1,a6,qw⟩:=hc _ _ _ _ _ _ _ R;refine⟨c1,a6,fun s D hi c2 hv=>(qw (covered s σ ids) D (Inv.none _ (jh hi ids) (hi.kn.same (fun _ _ z=> .inl z) rfl)) (fun _ _ _=>rfl) (ji hi a7 hv)).mono ?_⟩;rintro e w' ⟨G,x,rfl,rfl,ho⟩;obtain⟨FI,J,O,b7⟩:=ho;have q:Below s.w.heap.size s.w G.w:=O.below
     let U:Nat->Option Loc:=fun b=>match s.β b with|some l=>some l|none=>G.β b
     let s':Sit:=⟨s.Z,U,G.w⟩
     have qx:∀b l,s.β b=some l->s'.β b=some l:=fun b l h=>by show U b=_;simp only[U,h]
     have ng:∀b l,G.β b=some l->s'.β b=some l:=fun b l h=>by
      have h3:G.β b≠none:=by rw[h];simp
      rcases b7 b h3 with h4|h4
      .exact absurd rfl h4
      .show U b=_
       simp only[U,c2 b h4.1 h4.2,h]
     have hle:Le s s':=⟨fun _ _ z=>z,fun k o z=>q.cell (p:=⟨k,o,none⟩) (hi.zb k o z),qx⟩;have hj:∀b B,wI nx σ N iL b=some B->(b<nx/\σ b=some B)\/(¬b<nx/\b∈iL/\N b=some B):=fun b B h=>by
      unfold wI at h
      split at h
      .rename_i S;exact .inl ⟨S,h⟩
      .rename_i S
       split at h
       .rename_i hm;exact .inr ⟨S,hm,h⟩
       .cases h
     have a1:∀b B l,N b=some B->G.β b=some l->s.w.heap.size<=l.k:=fun b B l E M=>by
      rcases O.nb b B l E M with h|⟨b0,B0,l0,h,_⟩
      .exact h
      .cases h
     refine⟨s',x,rfl,rfl,⟨kK ng depth _ x iL b6 FI,⟨fun b B hB=>?_,fun b1 b2 B1 B2 l1 l2 E M e1 e2 hk=>?_,fun k o z=>yQ (hi.zb k o z) q.size,hi.kn.mono hle⟩,
      ⟨hle,fun k o z=> .inl z,fun k hk _=>q.block k hk,fun b B l E M=>?_,q.size,q.os,q.tape,q.output⟩,fun i h=>?_⟩⟩
     .rcases hj b B hB with ⟨_,E⟩|⟨_,hm,E⟩
      .obtain⟨l,c,e,g1,g2,g3,g4,g5,g6,g7⟩:=hi.blk b B E
       have S:=hi.block_lt E g1;exact⟨l,c,e,qx _ _ g1,(q.block _ S).trans g2,g3,g4,g5,fun i u hu=>let ⟨y,hy,hr⟩:=g6 i u hu;⟨y,hy,yB hle u y hr⟩,g7⟩
      .obtain⟨l,c,e,g1,g2,g3,g4,g5,g6,g7⟩:=J.blk b B E
       obtain⟨B2,d',dA,q1,q2,q3⟩:=qo depth _ iL b6 b hm;rw[E]at q1;cases q1;have c5:=a1 b _ l E g1;refine⟨l,c,e,ng _ _ g1,g2,g3,g4,g5,fun i u hu=>?_,fun o z=>absurd (hi.zb _ _ z) (by omega),g7.2⟩;obtain⟨y,hy,hr⟩:=g6 i u hu;refine⟨y,hy,?_⟩;have b3:=iC q2 (List.mem_of_getElem? hu);obtain⟨KC,KD⟩:=b3;exact kK ng d' u y KC KD hr
     .rcases hj b1 B1 E with ⟨_,Y⟩|⟨_,c3,Y⟩<;>rcases hj b2 B2 M with ⟨_,p2⟩|⟨_,c6,p2⟩
      .obtain⟨l,_,_,g1,_⟩:=hi.blk b1 B1 Y
       obtain⟨l',_,_,K,_⟩:=hi.blk b2 B2 p2;rw[qx _ _ g1]at e1;cases e1;rw[qx _ _ K]at e2;cases e2;exact hi.qg b1 b2 B1 B2 _ _ Y p2 g1 K hk
      .obtain⟨l,_,_,g1,_⟩:=hi.blk b1 B1 Y
       obtain⟨l',_,_,K,_⟩:=J.blk b2 B2 p2;rw[qx _ _ g1]at e1;cases e1;rw[ng _ _ K]at e2;cases e2;have:=hi.block_lt Y g1;have:=a1 b2 B2 _ p2 K;omega
      .obtain⟨l,_,_,g1,_⟩:=J.blk b1 B1 Y
       obtain⟨l',_,_,K,_⟩:=hi.blk b2 B2 p2;rw[ng _ _ g1]at e1;cases e1;rw[qx _ _ K]at e2;cases e2;have:=hi.block_lt p2 K;have:=a1 b1 B1 _ Y g1;omega
      .obtain⟨l,_,_,g1,_⟩:=J.blk b1 B1 Y
       obtain⟨l',_,_,K,_⟩:=J.blk b2 B2 p2;rw[ng _ _ g1]at e1;cases e1;rw[ng _ _ K]at e2;cases e2;exact J.qg b1 b2 B1 B2 _ _ Y p2 g1 K hk
     .rcases hj b B E with ⟨_,Y⟩|⟨_,c3,Y⟩
      .obtain⟨l',_,_,g1,_⟩:=hi.blk b B Y
       rw[qx _ _ g1]at M;cases M;exact .inr ⟨b,B,_,Y,g1,rfl⟩
      .obtain⟨l',_,_,g1,_⟩:=J.blk b B Y
       rw[ng _ _ g1]at M;cases M;exact .inl (a1 b B _ Y g1)
     .cases c4:s.β i with
      |some l=>exact .inl (by simp)
      |none=>
       have:G.β i≠none:=by
        intro e;apply h;show U i=none;simp only[U,c4,e]
       rcases b7 i this with h4|h4
       .exact absurd rfl h4
       .exact .inr h4
    .cases h
   .cases h
  .cases h
end Go.TV
namespace Go.TV
open Go.RowKit
set_option linter.unusedVariables false
set_option linter.unusedSimpArgs false
variable [Known]
def jk(P:Program)(ts:Array TypeId)(d x:V)(σ:Store)(nx:Nat):jV :=
 match ts[0]? with
 |some t=>match P.underlying t with
  |some (.slice e)=>match P.info? e,rowOf σ 1 x with
   |some i,some (row,m)=>if i.size=1/\ts.size=2 then
     match d with
     | .rs b off len=>if min m len=0 then some (.sc (.int .i64 0),σ,nx)else
      match σ b with
      |some B=>if B.wr=true/\off+min m len<=B.cells.length/\(row.take (min m len)).all aZ=true then
        some (.sc (.int .i64 (min m len:Nat)),upd σ b (some { B with cells:=patch B.cells off (row.take (min m len)) }),nx)else none
      |none=>none
     | .nil=>some (.sc (.int .i64 0),σ,nx)
     |_=>none
    else none
   |_,_=>none
  |_=>none
 |none=>none
def fM(P:Program)(ts:Array TypeId)(d:V)(σ:Store)(nx:Nat):jV :=
 match ts[0]? with
 |some t=>match P.underlying t with
  |some (.slice e)=>match P.info? e with
   |some i=>match i.zero with
    |some z=>if i.size=1/\z.cells.size=1 then
      match d with
      | .rs b off len=>if len=0 then some (.dw [],σ,nx)else
       match σ b with
       |some B=>if B.wr=true/\off+len<=B.cells.length/\(rep len (z.cells.toList.map aX)).all aZ=true then
         some (.dw [],upd σ b (some { B with cells:=patch B.cells off (rep len (z.cells.toList.map aX)) }),nx)else none
       |none=>none
      | .nil=>some (.dw [],σ,nx)
      | .ts _ len=>if len=0 then some (.dw [],σ,nx)else none
      |_=>none
     else none
    |none=>none
   |none=>none
  |_=>none
 |none=>none
theorem qy{P:Program}{s:Sit}{σ:Store}(hi:Inv s σ){nx nx':Nat}{σ':Store}{ts:Array TypeId}{ty:TypeId}{d x v:V}{yd yx:Value}(h:jk P ts d x σ nx=some (v,σ',nx'))(J:VR s d yd)(hx:VR s x yx) :
  ∃s' y,(Builtin.copy_ ts ty #[yd,yx]).run P s.w= .ok y s'.w/\Out s σ nx s' v y σ' nx':=by
 unfold jk at h
 split at h
 .rename_i t b2
  split at h
  .rename_i e hu
   split at h
   .rename_i i row m aU K
    split at h
    .rename_i hc
     obtain⟨Y,b3⟩:=hc;obtain⟨t2,rfl⟩:∃t2,ts=#[t,t2]:=by
      rcases ts with ⟨l⟩
      rcases l with _|⟨a,_|⟨b,_|⟨c,l⟩⟩⟩<;>simp_all
     have D:(P.info? e).map (·.size)=some 1:=by rw[aU];simp[Y]
     obtain⟨ao,xc,rfl,b4,q,E⟩:=vS hi hx K;rw[Nat.mul_one]at q
     split at h
     .rename_i b off len
      have b5:=J;unfold VR at J;obtain⟨l,cap,hl,rfl,a7,a8⟩:=J
      split at h
      .rename_i h0
       simp only[yF,yE]at h;obtain⟨rfl,rfl,rfl⟩:=h;exact⟨s,_,run_copy_none (P:=P) s.w t t2 ty e _ _ len cap m xc hu D h0,Out.same hi (y5 rfl)⟩
      .rename_i h0
       split at h
       .rename_i B hb
        split at h
        .rename_i a1
         obtain⟨hw,b1,M⟩:=a1;simp only[yF,yE]at h;obtain⟨rfl,rfl,rfl⟩:=h;obtain⟨l',c,e',g1,g2,g3,g4,g5,g6,g7⟩:=hi.blk b B hb;rw[hl]at g1;cases g1;rcases E with rfl|⟨k,o,rfl,cs,N,a6⟩
         .simp only[List.length_nil]at q;subst q;exact absurd (Nat.zero_min len) h0
         .have O:=fB N (min m len)
          have G:(cs.take (min m len)).length=min m len:=by
           rw[zM,<- xq N,q];omega
          have R:=run_copy_row (P:=P) s.w t t2 ty e l.k (l.o+off) len cap ⟨k,o,none⟩ m xc c e' (cs.take (min m len)) hu D g2 G
           (fun j v U=>by
            rw[Addr.add_lit];rw[zK]at U
            split at U
            .exact a6 j v U
            .cases U) (by rw[G];omega) (w_ O M)
          have S:=uG hi hb hw hl g2 (off:=off) O (by rw[zM];omega);rw[vW _ _ _ (by rw[zM];omega)];refine⟨_,_,R,⟨?_,S.1,S.2,fun i h=> .inl h⟩⟩;rw[G];exact y5 rfl
        .cases h
       .cases h
     .simp only[yF,yE]at h;obtain⟨rfl,rfl,rfl⟩:=h
      unfold VR at J;obtain⟨a0,rfl⟩:=J;exact⟨s,_,run_copy_none (P:=P) s.w t t2 ty e _ _ 0 0 m xc hu D (Nat.min_zero m),Out.same hi (y5 rfl)⟩
     .cases h
    .cases h
   .cases h
  .cases h
 .cases h
theorem uF{z:Array Value}(h:z.size=1)(n:Nat):(Builtin.zeroCells z n).toList=(List.replicate n z.toList).flatten:=by
 obtain⟨v,rfl⟩:∃v,z=#[v]:=by
  rcases z with ⟨l⟩
  rcases l with _|⟨a,_|⟨b,l⟩⟩<;>simp_all
 unfold Builtin.zeroCells;simp
 induction n with
 |zero=>rfl
 |succ n q=>rw[List.range_succ,List.map_append,q,List.replicate_succ'];simp[Nat.mod_one]
theorem ni{s:Sit}{vs:List V}{xs:List Value}(h:VRs s vs xs):∀n,VRs s (rep n vs) (List.replicate n xs).flatten
 |0=>by unfold rep;simp only[List.replicate_zero,List.flatten_nil];unfold VRs;rfl
 |n+1=>by
  unfold rep;rw[List.replicate_succ,List.replicate_succ,List.flatten_cons,List.flatten_cons];exact y9 h (ni h n)
theorem nk{P:Program}{s:Sit}{σ:Store}(hi:Inv s σ){nx nx':Nat}{σ':Store}{ts:Array TypeId}{ty:TypeId}{d v:V}{yd:Value}(h:fM P ts d σ nx=some (v,σ',nx'))(K:VR s d yd) :
  ∃s' y,(Builtin.clear_ ts ty #[yd]).run P s.w= .ok y s'.w/\Out s σ nx s' v y σ' nx':=by
 unfold fM at h
 split at h
 .rename_i t M
  split at h
  .rename_i e hu
   split at h
   .rename_i i aU
    split at h
    .rename_i z hz
     split at h
     .rename_i hc
      obtain⟨a8,E⟩:=hc;have S:∀a c,(Builtin.clear_ ts ty #[.slice a 0 c]).run P s.w= .ok (.tuple #[]) s.w:=fun a c=>by
       cases a<;>simp[Builtin.clear_,M,run_underlying hu]
      have U:VR s (.dw []) (.tuple #[]):=by unfold VR;exact⟨#[],rfl,by unfold VRs;rfl⟩
      split at h
      .rename_i b off len
       unfold VR at K;obtain⟨l,cap,hl,rfl,a6,a7⟩:=K
       split at h
       .rename_i N
        subst N;simp only[yF,yE]at h;obtain⟨rfl,rfl,rfl⟩:=h;exact⟨s,_,S _ _,Out.same hi U⟩
       .rename_i N
        split at h
        .rename_i B hb
         split at h
         .rename_i Y
          obtain⟨hw,q,O⟩:=Y;simp only[yF,yE]at h;obtain⟨rfl,rfl,rfl⟩:=h;obtain⟨l',c,e',g1,g2,g3,g4,g5,g6,g7⟩:=hi.blk b B hb;rw[hl]at g1;cases g1;have FI:=ni (fE (s:=s) z.cells.toList) len;have G:(rep len (z.cells.toList.map aX)).length=len:=by
           unfold rep;simp[E]
          have a1:(List.replicate len z.cells.toList).flatten.length=len:=by rw[<- xq FI,G]
          have J:=run_storeCells_at P l.k (l.o+off) e' (List.replicate len z.cells.toList).flatten 0 c s.w g2 (by rw[a1];omega) (w_ FI O);simp only[yK]at J;rw[<- uF E]at J;have D:(Builtin.clear_ ts ty #[.slice (some ⟨l.k,l.o+off,none⟩) len cap]).run P s.w= .ok (.tuple #[]) (s.w.setRow l.k (c.toList.take (l.o+off)++(Builtin.zeroCells z.cells len).toList++c.toList.drop (l.o+off+(Builtin.zeroCells z.cells len).toList.length)).toArray):=by
           cases len with
           |zero=>exact absurd rfl N
           |succ n=>
            simp[Builtin.clear_,M,run_underlying hu,zeroValue,typeInfo,aU,hz];rw[J];simp
          rw[uF E]at D;have R:=uG hi hb hw hl g2 (off:=off) FI (by rw[G];exact q);rw[vW _ _ _ (by rw[G];exact q)];refine⟨_,_,D,⟨?_,R.1,R.2,fun i h=> .inl h⟩⟩;unfold VR;exact⟨#[],rfl,by unfold VRs;rfl⟩
         .cases h
        .cases h
      .simp only[yF,yE]at h;obtain⟨rfl,rfl,rfl⟩:=h
       unfold VR at K;obtain⟨a0,rfl⟩:=K;exact⟨s,_,S _ _,Out.same hi U⟩
      .rename_i row len
       split at h
       .rename_i N
        subst N;simp only[yF,yE]at h;obtain⟨rfl,rfl,rfl⟩:=h;unfold VR at K;obtain⟨a0,c0,rfl,_⟩:=K;exact⟨s,_,S _ _,Out.same hi U⟩
       .cases h
      .cases h
     .cases h
    .cases h
   .cases h
  .cases h
 .cases h
end Go.TV
namespace Go.TV
open Go.RowKit
set_option linter.unusedVariables false
set_option linter.unusedSimpArgs false
variable [Known]
def val(T:Nat->V):Operand->V
 | .tmp t=>T t
 | .const v=>dY v
 | .func f=> .clo f []
 | .global _=> .junk
def dN(P:Program)(t:TypeId)(x:V):Option V :=
 match x with
 | .sc (.string s)=>match P.underlying t with
  |some .string=>some (.sc (.int .i64 s.size))
  |_=>none
 | .nil=>match P.underlying t with
  |some (.slice _)=>some (.sc (.int .i64 0))
  |_=>none
 | .ts _ len| .rs _ _ len=>match P.underlying t with
  |some (.slice _)=>some (.sc (.int .i64 len))
  |_=>none
 |_=>none
def gG:List V->Option (List Value)
 |[]=>some []
 |v :: vs=>match toVal v,gG vs with
  |some x,some xs=>some (x :: xs)
  |_,_=>none
def dX(P:Program)(b:Builtin)(ts:Array TypeId)(ty:TypeId)(args:List V)(σ:Store)(nx:Nat):jV :=
 match b,args with
 | .len,[x]=>match ts[0]? with
  |some t=>(dN P t x).map (·,σ,nx)
  |none=>none
 | .append,[d,x]=>if ts.size=2 then cZ P ts d x σ nx else none
 | .copy,[d,x]=>jk P ts d x σ nx
 | .clear,[d]=>fM P ts d σ nx
 | .min,args=>match gG args with
  |some xs=>(aA P (Builtin.min_ ts ty xs.toArray)).bind fun r=>if atom r then some (.sc r,σ,nx)else none
  |none=>none
 | .max,args=>match gG args with
  |some xs=>(aA P (Builtin.max_ ts ty xs.toArray)).bind fun r=>if atom r then some (.sc r,σ,nx)else none
  |none=>none
 |_,_=>none
def aK(P:Program)(conv:FuncId->Conv)(call:Call)(o:Oper)(T:Nat->V)(σ:Store)(nx:Nat):jV :=
 match o.op with
 | .move x=>some (val T x,σ,nx)
 | .assign x=>some (val T x,σ,nx)
 | .pick c a b=>match val T c with
  | .sc (.bool t)=>some (if t then val T a else val T b,σ,nx)
  |_=>none
 | .alloc t=>match P.info? t with
  |some i=>match i.zero with
   |some z=>some (.rp nx 0,bF σ nx (z.cells.toList.map aX) (kG t (z.cells.toList.map aX)),nx+1)
   |none=>none
  |none=>none
 | .box t x=>match cellsOfV (val T x)with
  |some cs=>some (.rp nx 0,bF σ nx cs 0,nx+1)
  |none=>none
 | .build t parts=>(iR P t (parts.toList.map fun p=>(p.1,val T p.2))).map (·,σ,nx)
 | .buildSlice t len parts=>if len=0 && !parts.isEmpty then none else bH P t len (parts.toList.map fun p=>(p.1,val T p.2)) σ nx
 | .load t a=>(aO P σ t (val T a)).map (·,σ,nx)
 | .store t a x=>(bU P σ t (val T a) (val T x)).map (.dw [],·,nx)
 | .nilCheck x=>match val T x with
  | .tp row off=>some (.tp row off,σ,nx)
  | .rp b off=>some (.rp b off,σ,nx)
  |_=>none
 | .binOp op t x y _=>(aT P op t x y (val T x) (val T y)).map (·,σ,nx)
 | .unOp op _ x=>(qh P op (val T x)).map (·,σ,nx)
 | .convert s d x=>(bg P s d (val T x) σ).map (·,σ,nx)
 | .makeFunc fn first cap=>match fn with
  | .func f=>if first.isEmpty then some (.clo f (cap.toList.map (val T)),σ,nx)else none
  |_=>none
 | .makeSlice t l c=>eF P t (val T l) (val T c) σ nx
 | .slice t x lo hi mx=>(iT P t (val T x) (lo.map (val T)) (hi.map (val T)) (mx.map (val T)) σ).map (·,σ,nx)
 | .fieldAddr t x f=>(aS P t (val T x) f).map (·,σ,nx)
 | .field t x f=>(iU P t (val T x) f).map (·,σ,nx)
 | .indexAddr t x i=>(bn P t (val T x) (val T i)).map (·,σ,nx)
 | .index t x i=>(dW P t (val T x) (val T i)).map (·,σ,nx)
 | .extract t i=>match val T t with
  | .dw vs=>(vs[i]?).map (·,σ,nx)
  |_=>none
 | .call c=>match c.callee with
  | .value f=>match val T f with
   | .clo g cs=>bP conv call g (c.args.toList.map (val T)++cs) σ nx
   |_=>none
  | .builtin b=>dX P b c.argTypes o.type (c.args.toList.map (val T)) σ nx
  |_=>none
 |_=>none
def TR(s:Sit)(T:Nat->V)(tmps:Array Value):Prop:=∀t,VR s (T t) (tmps.getD t undef)
theorem TR.mono{s s':Sit}{T:Nat->V}{tmps:Array Value}(h:TR s T tmps)(q:Le s s'):TR s' T tmps:=fun t=>yB q _ _ (h t)
theorem uP{s:Sit}{T:Nat->V}{a:Act}(h:TR s T a.tmps)(x:Operand):VR s (val T x) (a.eval x):=by
 cases x with
 |tmp t=>exact h t
 |const v=>exact Dl s v
 |global g=>unfold val VR;trivial
 |func f=>unfold val VR;exact⟨#[],rfl,by unfold VRs;rfl⟩
theorem uO{s:Sit}{T:Nat->V}{a:Act}(h:TR s T a.tmps):∀xs:List Operand,VRs s (xs.map (val T)) (xs.map a.eval)
 |[]=>by unfold VRs;rfl
 |x :: xs=>by unfold VRs;exact⟨_,_,rfl,uP h x,uO h xs⟩
theorem uV{s:Sit}:∀ {vs:List V} {q xs:List Value},gG vs=some q->VRs s vs xs->xs=q
 |[],q,xs,h,hx=>by simp only[gG,yF]at h;unfold VRs at hx;rw[hx,h]
 |v :: vs,q,xs,h,hx=>by
  unfold VRs at hx;obtain⟨y,M,rfl,D,E⟩:=hx;unfold gG at h
  split at h
  .rename_i u G J K
   simp only[yF]at h;subst h;rw[uV K E,uX J D]
  .cases h
section
variable {P:Program}
theorem uJ{o:Oper}{a:Act}{w w':World}{K:Act->World->Prop}{Q:Exit->Act->World->Prop}{x:Value}(h:(execOp a.eval o).run P w= .ok (.value x) w')(q:K (a.put o.dst x) w'):o.wp P a w K Q:=by
 unfold Oper.wp;rw[h];exact q
theorem qA{o:Oper}{a:Act}{w w':World}{K:Act->World->Prop}{Q:Exit->Act->World->Prop}(h:(execOp a.eval o).run P w= .ok .skip w')(q:K (a.put o.dst undef) w'):o.wp P a w K Q:=by
 unfold Oper.wp;rw[h];exact q
theorem Am{s:Sit}{t ty:TypeId}{ts:Array TypeId}{x v:V}{y:Value}(E:ts[0]?=some t)(h:dN P t x=some v)(q:VR s x y) :
  ∃z,(Builtin.len_ ts ty #[y]).run P s.w= .ok z s.w/\VR s v z:=by
 unfold dN at h
 split at h
 .split at h
  .rename_i D
   simp only[yF]at h;subst h;unfold VR at q;obtain⟨rfl,_⟩:=q;exact⟨_,by simp[Builtin.len_,E,run_underlying D,goInt],y5 rfl⟩
  .cases h
 .split at h
  .rename_i D
   simp only[yF]at h;subst h;unfold VR at q;obtain⟨a,rfl⟩:=q;exact⟨_,by simp[Builtin.len_,E,run_underlying D,goInt],y5 rfl⟩
  .cases h
 .split at h
  .rename_i D
   simp only[yF]at h;subst h;unfold VR at q;obtain⟨a,cap,rfl,_⟩:=q;exact⟨_,by simp[Builtin.len_,E,run_underlying D,goInt],y5 rfl⟩
  .cases h
 .split at h
  .rename_i D
   simp only[yF]at h;subst h;unfold VR at q;obtain⟨l,cap,_,rfl,_⟩:=q;exact⟨_,by simp[Builtin.len_,E,run_underlying D,goInt],y5 rfl⟩
  .cases h
 .cases h
theorem jX{s:Sit}{σ:Store}(hi:Inv s σ){b:Builtin}{ts:Array TypeId}{ty:TypeId}{consts:Array Bool}{args:List V}{G:List Value}{nx nx':Nat}{v:V}{σ':Store}(h:dX P b ts ty args σ nx=some (v,σ',nx'))
  (Y:dJ s nx nx') (E:VRs s args G):∃s' y,(builtin b ts ty consts G.toArray).run P s.w= .ok (.value y) s'.w/\Out s σ nx s' v y σ' nx':=by
 unfold dX at h
 split at h
 .rename_i x
  split at h
  .rename_i t ht
   cases S:dN P t x with
   |none=>rw[S]at h;cases h
   |some u=>
    rw[S]at h;simp only[zh,yF,yE]at h;obtain⟨rfl,rfl,rfl⟩:=h;unfold VRs at E;obtain⟨y,U,rfl,J,q⟩:=E;unfold VRs at q;subst q;obtain⟨z,O,hr⟩:=Am (ty:=ty) ht S J;exact⟨s,z,by simp[builtin,O],Out.same hi hr⟩
  .cases h
 .rename_i d x
  split at h
  .rename_i h2
   unfold VRs at E;obtain⟨y,U,rfl,J,q⟩:=E;unfold VRs at q;obtain⟨z,zs,rfl,O,D⟩:=q;unfold VRs at D;subst D;obtain⟨s',u,hu,R⟩:=lG (ty:=ty) hi h h2 Y J O;exact⟨s',u,by simp[builtin,hu],R⟩
  .cases h
 .rename_i d x
  unfold VRs at E;obtain⟨y,U,rfl,J,q⟩:=E;unfold VRs at q;obtain⟨z,zs,rfl,O,D⟩:=q;unfold VRs at D;subst D;obtain⟨s',u,hu,R⟩:=qy (ty:=ty) hi h J O;exact⟨s',u,by simp[builtin,hu],R⟩
 .rename_i d
  unfold VRs at E;obtain⟨y,U,rfl,J,q⟩:=E;unfold VRs at q;subst q;obtain⟨s',u,hu,R⟩:=nk (ty:=ty) hi h J;exact⟨s',u,by simp[builtin,hu],R⟩
 .split at h
  .rename_i xs K
   rw[uV K E];cases M:aA P (Builtin.min_ ts ty xs.toArray)with
   |none=>rw[M]at h;cases h
   |some r=>
    rw[M]at h;simp only[zq]at h
    split at h
    .rename_i N
     simp only[yF,yE]at h;obtain⟨rfl,rfl,rfl⟩:=h;exact⟨s,r,by simp[builtin,vJ _ M],Out.same hi (y5 N)⟩
    .cases h
  .cases h
 .split at h
  .rename_i xs K
   rw[uV K E];cases M:aA P (Builtin.max_ ts ty xs.toArray)with
   |none=>rw[M]at h;cases h
   |some r=>
    rw[M]at h;simp only[zq]at h
    split at h
    .rename_i N
     simp only[yF,yE]at h;obtain⟨rfl,rfl,rfl⟩:=h;exact⟨s,r,by simp[builtin,vJ _ M],Out.same hi (y5 N)⟩
    .cases h
  .cases h
 .cases h
theorem aJ{α β:Type}{o:Option α}{f:α->β}{b:β}(h:o.map f=some b):∃a,o=some a/\f a=b:=by
 cases o with
 |none=>cases h
 |some a=>exact⟨a,rfl,by simpa using h⟩
theorem ny{conv:FuncId->Conv}{call:Call}(hc:cu P call){o:Oper}{T:Nat->V}{σ σ':Store}{nx nx':Nat}{v:V}(h:aK P conv call o T σ nx=some (v,σ',nx')){s:Sit}{a:Act}(hi:Inv s σ)(hT:TR s T a.tmps)(hn:dJ s nx nx')
  {K:Act->World->Prop} {Q:Exit->Act->World->Prop} (O:∀s' x,Out s σ nx s' v x σ' nx'->K (a.put o.dst x) s'.w):o.wp P a s.w K Q:=by
 obtain⟨dst,op,type,pos,after,guard⟩:=o;have E:=fun x=>uP hT x
 have R:∀(m:Sem Value) (z:Value),(execOp a.eval ⟨dst,op,type,pos,after,guard⟩)=(do pure (.value (<- m)):Sem Next)->m.run P s.w= .ok z s.w->VR s v z->σ'=σ->Oper.wp P ⟨dst,op,type,pos,after,guard⟩ a s.w K Q:=by
  intro m z D M J hs;subst hs;refine uJ (w':=s.w) (x:=z) (by rw[D];simp[M]) (O s z (Out.same hi J))
 cases op<;>simp only[aK]at h
 case move x=>
  simp only[yF,yE]at h;obtain⟨rfl,rfl,rfl⟩:=h;exact uJ (w':=s.w) rfl (O s _ (Out.same hi (E x)))
 case assign x=>
  simp only[yF,yE]at h;obtain⟨rfl,rfl,rfl⟩:=h;exact uJ (w':=s.w) rfl (O s _ (Out.same hi (E x)))
 case pick c x y=>
  split at h
  .rename_i t b3
   simp only[yF,yE]at h;obtain⟨rfl,rfl,rfl⟩:=h;have a1:=E c;rw[b3]at a1;unfold VR at a1;refine uJ (w':=s.w) (x:=if t then a.eval x else a.eval y) (by simp[execOp,a1.1,asBool]) (O s _ (Out.same hi ?_));cases t
   .exact E y
   .exact E x
  .cases h
 case alloc t=>
  split at h
  .rename_i i aU
   split at h
   .rename_i z J
    simp only[yF,yE]at h;obtain⟨rfl,rfl,rfl⟩:=h;obtain⟨s',y,G,N⟩:=mV (P:=P) hi hn aU J;exact uJ (by simp[execOp,G]) (O s' y N)
   .cases h
  .cases h
 case box t x=>
  split at h
  .rename_i cs b4
   simp only[yF,yE]at h;obtain⟨rfl,rfl,rfl⟩:=h;obtain⟨s',y,G,N⟩:=kH (P:=P) hi hn (t:=t) (st:=0) (fun h=>absurd h (by decide)) (xP b4 (E x));exact uJ (by simp[execOp,G]) (O s' y N)
  .cases h
 case build t parts=>
  obtain⟨u,hu,D⟩:=aJ h;simp only[yE]at D;obtain⟨rfl,rfl,rfl⟩:=D;obtain⟨z,J,M⟩:=mW (ps:=parts.map fun p=>(p.1,a.eval p.2)) hu (by simp) (fun i p q G N=>by
   simp only[Array.toList_map,yY]at G N;cases hp:parts.toList[i]? with
   |none=>rw[hp]at G;cases G
   |some e=>
    rw[hp]at G N;simp only[zh,yF]at G N;subst G;subst N;exact E _)
  exact R _ z rfl J M rfl
 case buildSlice t len parts=>
  split at h
  .cases h
  .rename_i a6
   obtain⟨s',y,G,N⟩:=gB (ps:=parts.map fun p=>(p.1,a.eval p.2)) hi h hn (by simp) (fun i p q G N=>by
    simp only[Array.toList_map,yY]at G N;cases hp:parts.toList[i]? with
    |none=>rw[hp]at G;cases G
    |some e=>
     rw[hp]at G N;simp only[zh,yF]at G N;subst G;subst N;exact E _) (fun hl=>by
    rw[hl]at a6;simp only[decide_true,Bool.true_and,Bool.not_eq_true',Bool.not_eq_false]at a6;have:parts=#[]:=by simpa using a6
    rw[this];simp)
   exact uJ (by simp[execOp,G]) (O s' y N)
 case load t x=>
  obtain⟨u,hu,D⟩:=aJ h;simp only[yE]at D;obtain⟨rfl,rfl,rfl⟩:=D;obtain⟨z,J,M⟩:=jf hi (E x) hu;exact R _ z rfl J M rfl
 case store t x y=>
  obtain⟨u,hu,D⟩:=aJ h;simp only[yE]at D;obtain⟨rfl,rfl,rfl⟩:=D;obtain⟨w',G,N,h3⟩:=mQ hi (E x) (E y) hu;exact qA (w':=w') (by simp[execOp,G]) (O { s with w:=w' } undef ⟨by unfold VR;exact⟨#[],rfl,by unfold VRs;rfl⟩,N,h3,fun i h=> .inl h⟩)
 case nilCheck x=>
  have S:=E x
  split at h
  .rename_i row off e
   simp only[yF,yE]at h;obtain⟨rfl,rfl,rfl⟩:=h;rw[e]at S;have a7:=S;unfold VR at S;obtain⟨k,o,D,_⟩:=S;exact uJ (w':=s.w) (x:=a.eval x) (by simp only[execOp,D];rfl) (O s _ (Out.same hi a7))
  .rename_i b off e
   simp only[yF,yE]at h;obtain⟨rfl,rfl,rfl⟩:=h;rw[e]at S;have a7:=S;unfold VR at S;obtain⟨l,_,D⟩:=S;exact uJ (w':=s.w) (x:=a.eval x) (by simp only[execOp,D];rfl) (O s _ (Out.same hi a7))
  .cases h
 case binOp op t x y yt=>
  obtain⟨u,hu,D⟩:=aJ h;simp only[yE]at D;obtain⟨rfl,rfl,rfl⟩:=D;obtain⟨z,J,M⟩:=Aj hu (E x) (E y);exact R _ z rfl J M rfl
 case unOp op t x=>
  obtain⟨u,hu,D⟩:=aJ h;simp only[yE]at D;obtain⟨rfl,rfl,rfl⟩:=D;obtain⟨z,J,M⟩:=Dt hu (E x);exact R _ z rfl J M rfl
 case convert sr ds x=>
  obtain⟨u,hu,D⟩:=aJ h;simp only[yE]at D;obtain⟨rfl,rfl,rfl⟩:=D;obtain⟨z,J,M⟩:=jW hi hu (E x);exact R _ z rfl J M rfl
 case makeFunc fn first cap=>
  split at h
  .split at h
   .rename_i f b5
    simp only[yF,yE]at h;obtain⟨rfl,rfl,rfl⟩:=h;have:first=#[]:=by simpa using b5
    subst this;refine R (Instr.makeFunc (.func f) #[] (cap.map a.eval)) (.func (.func f) #[] (cap.map a.eval)) (by simp[execOp]) rfl ?_ rfl;unfold VR;exact⟨_,rfl,by rw[Array.toList_map];exact uO hT _⟩
   .cases h
  .cases h
 case makeSlice t l c=>
  obtain⟨s',y,G,N⟩:=ql hi h hn (E l) (E c);exact uJ (by simp[execOp,G]) (O s' y N)
 case slice t x lo b2 mx=>
  obtain⟨u,hu,D⟩:=aJ h;simp only[yE]at D;obtain⟨rfl,rfl,rfl⟩:=D;have q:∀(o:Option Operand) (v:V),o.map (val T)=some v->∃x,o.map a.eval=some x/\VR s v x:=fun o v h=>by
   obtain⟨y,rfl,rfl⟩:=aJ h;exact⟨_,rfl,E y⟩
  have qn:∀(o:Option Operand),o.map (val T)=none->o.map a.eval=none:=fun o h=>by
   cases o with
   |none=>rfl
   |some y=>cases h
  obtain⟨z,J,M⟩:=mY hi hu (E x) (q lo) (qn lo) (q b2) (qn b2) (q mx) (qn mx);exact R _ z rfl J M rfl
 case fieldAddr t x f=>
  obtain⟨u,hu,D⟩:=aJ h;simp only[yE]at D;obtain⟨rfl,rfl,rfl⟩:=D;obtain⟨z,J,M⟩:=iJ hu (E x);exact R _ z rfl J M rfl
 case field t x f=>
  obtain⟨u,hu,D⟩:=aJ h;simp only[yE]at D;obtain⟨rfl,rfl,rfl⟩:=D;obtain⟨z,J,M⟩:=mZ hu (E x);exact R _ z rfl J M rfl
 case indexAddr t x i=>
  obtain⟨u,hu,D⟩:=aJ h;simp only[yE]at D;obtain⟨rfl,rfl,rfl⟩:=D;obtain⟨z,J,M⟩:=iK hu (E x) (E i);exact R _ z rfl J M rfl
 case index t x i=>
  obtain⟨u,hu,D⟩:=aJ h;simp only[yE]at D;obtain⟨rfl,rfl,rfl⟩:=D;obtain⟨z,J,M⟩:=m_ hu (E x) (E i);exact R _ z rfl J M rfl
 case extract t i=>
  split at h
  .rename_i vs e
   obtain⟨u,hu,D⟩:=aJ h;simp only[yE]at D;obtain⟨rfl,rfl,rfl⟩:=D;have ht:=E t;rw[e]at ht;unfold VR at ht;obtain⟨xs,S,M⟩:=ht;obtain⟨z,J,b6⟩:=xu M hu;rw[zV]at J;refine R (Instr.extract (a.eval t) i) z rfl ?_ b6 rfl;rw[S];simp[Instr.extract,J]
  .cases h
 case call c=>
  obtain⟨callee,args,argTypes⟩:=c;cases callee with
  |value f=>
   simp only at h
   split at h
   .rename_i g cs e
    have hf:=E f;rw[e]at hf;unfold VR at hf;obtain⟨xs,S,M⟩:=hf;obtain⟨b8,⟨fn,b7,U,a8⟩,qw⟩:=fK hc h;have b1:VRs s (args.toList.map (val T)++cs) ((args.map a.eval).toList++xs.toList):=by
     rw[Array.toList_map];exact y9 (uO hT _) M
    have Dx:=qw s _ hi hn b1;have Y:((args.map a.eval).toList++xs.toList).toArray=args.map a.eval++xs:=by
     apply Array.ext';simp
    rw[Y]at Dx;have hex:(execOp a.eval ⟨dst,.call ⟨.value f,args,argTypes⟩,type,pos,after,guard⟩).run P s.w= .ok (.enter g (args.map a.eval++xs)) s.w:=by
     have G:¬ fn.name = "runtime.NumGoroutine":=by simpa using a8
     have N:¬fn.body=none:=fun e=>by rw[e]at U;cases U
     simp[execOp,resolve,S,Deferred.ofValue,invoke,callFunc,program,Sem.run,b7,G,N]
    unfold Oper.wp;rw[hex];simp only[Oper.upon];refine Dx.mono ?_;rintro e w' ⟨s',x,rfl,rfl,ho⟩;exact O s' x ho
   .cases h
  |builtin b=>
   simp only at h;obtain⟨s',y,G,N⟩:=jX (consts:=args.map fun| .const _=>true|_=>false) hi h hn (uO hT _);have Y:(args.toList.map a.eval).toArray=args.map a.eval:=by apply Array.ext';simp
   rw[Y]at G;exact uJ (by simp[execOp,resolve,invoke];exact G) (O s' y N)
  |invoke r m=>simp only at h;cases h
 all_goals cases h
end
end Go.TV
namespace Go.TV
open Go.RowKit
set_option linter.unusedVariables false
set_option linter.unusedSimpArgs false
variable [Known]
structure St where
 T:Nat->V
 σ:Store
 nx:Nat
def bK(T:Nat->V)(dst:Option Tmp)(v:V):Nat->V :=
 match dst with
 |some d=>upd T d v
 |none=>T
def bC(ops:Array Oper)(T:Nat->V)(o:Oper):Option Bool :=
 match o.guard with
 |none=>some true
 |some (j,want)=>match(ops[j]?).bind (·.dst)with
  |some d=>match T d with
   | .sc (.bool b)=>some (b==want)
   | .dw []=>some false
   |_=>none
  |none=>some false
def bf(P:Program)(conv:FuncId->Conv)(call:Call)(ops:Array Oper):List Oper->St->Option St
 |[],s=>some s
 |o :: rest,s=>match bC ops s.T o with
  |some true=>match aK P conv call o s.T s.σ s.nx with
   |some (v,σ',nx')=>bf P conv call ops rest ⟨bK s.T o.dst v,σ',nx'⟩
   |none=>none
  |some false=>bf P conv call ops rest ⟨bK s.T o.dst (.dw []),s.σ,s.nx⟩
  |none=>none
def aB:V->List Nat
 | .rp b _=>[b]
 | .rs b _ _=>[b]
 |_=>[]
def dS:V->List Nat
 | .agg vs=>vs.flatMap aB
 | .dw vs=>vs.flatMap aB
 | .clo _ vs=>vs.flatMap aB
 |v=>aB v
def kL(σ:Store)(vs:List V):Option (List Nat):=match stripL (strip σ depth) vs with
 |some (_,ids)=>some ids
 |none=>none
def b_(conv:FuncId->Conv)(T:Nat->V)(σ:Store)(o:Oper):Option (List Nat) :=
 match o.op with
 | .load _ a=>some (aB (val T a))
 | .store _ a _=>some (aB (val T a))
 | .slice _ x _ _ _=>some (aB (val T x))
 | .convert _ _ x=>some (aB (val T x))
 | .call ⟨.value f,args,_⟩=>match val T f with
  | .clo g cs=>match conv g with
   | .inl=>some ((args.toList.map (val T)).flatMap dS++cs.flatMap dS)
   |_=>kL σ (args.toList.map (val T)++cs)
  |_=>some []
 | .call ⟨.builtin .append,args,_⟩=>some ((args.toList.map (val T)).flatMap aB)
 | .call ⟨.builtin .copy,args,_⟩=>some ((args.toList.map (val T)).flatMap aB)
 |_=>some []
def ak(conv:FuncId->Conv)(T:Nat->V)(σ:Store)(o:Oper):List Nat:=(b_ conv T σ o).getD []
def keeps(conv:FuncId->Conv)(T:Nat->V)(o:Oper)(F:List Nat)(v:V):Bool :=
 match o.op with
 | .call ⟨.value f,_,_⟩=>match val T f with
  | .clo g _=>match conv g with
   | .qp=>F.isEmpty||flat depth v
   |_=>true
  |_=>true
 |_=>true
def writer(conv:FuncId->Conv)(o:Oper):Bool :=
 match o.op with
 | .store .. =>true
 | .call ⟨.value (.func g),_,_⟩=>match conv g with
  | .inl=>true
  |_=>false
 | .call ⟨.value _,_,_⟩=>true
 | .call ⟨.builtin .append,_,_⟩=>true
 | .call ⟨.builtin .copy,_,_⟩=>true
 |_=>false
def restrict(σ:Store)(ids:List Nat):Store:=fun b=>if b∈ids then σ b else none
def ay(ids:List Nat)(lo hi:Nat)(σ h:Store):Store:=fun b=>if b∈ids\/(lo<=b/\b<hi)then h b else σ b
def aI(P:Program)(conv:FuncId->Conv)(call:Call)(o:Oper)(T:Nat->V)(σ:Store)(nx:Nat):jV :=
 match b_ conv T σ o with
 |some F=>if(F.all fun b=>decide (b<nx))=true then
   match aK P conv call o T (restrict σ F) nx with
   |some (v,σ1,gi)=>if keeps conv T o F v=true then some (v,ay F nx gi σ σ1,gi)else none
   |none=>none
  else none
 |none=>none
def aQ(P:Program)(conv:FuncId->Conv)(call:Call)(ops:Array Oper):List Oper->St->Option (St×List (List Nat))
 |[],s=>some (s,[])
 |o :: rest,s=>match bC ops s.T o with
  |some true=>match aI P conv call o s.T s.σ s.nx with
   |some (v,σ',nx')=>match aQ P conv call ops rest ⟨bK s.T o.dst v,σ',nx'⟩with
    |some (s',fs)=>some (s',ak conv s.T s.σ o :: fs)
    |none=>none
   |none=>none
  |some false=>match aQ P conv call ops rest ⟨bK s.T o.dst (.dw []),s.σ,s.nx⟩with
    |some (s',fs)=>some (s',[] :: fs)
    |none=>none
  |none=>none
def dL(o:Oper)(i:Nat):Bool:=o.after.any fun e=>Region.binds .any e && e.on==i
def eU(conv:FuncId->Conv)(l:List Oper):List (Nat×Nat) :=
 l.zipIdx.flatMap fun(o,j)=>(l.take j).zipIdx.filterMap fun(p,i)=>if dL o i then none else if writer conv o||writer conv p then some (i,j)else none
def nC(ops:Array Oper):Bool :=
 ops.toList.zipIdx.all fun(o,j)=>(o.after.all fun e=> !Region.binds .any e||e.on<j) && (match o.guard with|some (g,_)=>decide (g<j)|none=>true) &&
  (ops.toList.take j).zipIdx.all fun(p,i)=>dL o i||p.apart ops o
def lH(fs:List (List Nat))(ps:List (Nat×Nat)):Bool:=ps.all fun(i,j)=>((fs[i]?).getD []).all fun b=> !((fs[j]?).getD []).contains b
def bD(P:Program)(conv:FuncId->Conv)(call:Call)(ops:Array Oper)(s:St):Option St :=
 if nC ops=true then
  match aQ P conv call ops ops.toList s with
  |some (s',fs)=>if lH fs (eU conv ops.toList)=true then some s' else none
  |none=>none
 else none
inductive Ex where
 |norm|exit (id:Nat)|ret
def aY(body:St->Option (Ex×St)):Nat->St->Option (Ex×St)
 |0,_=>none
 |n+1,s=>match body s with
  |some (.norm,s')=>aY body n s'
  |r=>r
def aj(P:Program)(conv:FuncId->Conv)(call:Call)(n:Nat):Code->St->Option (Ex×St)
 | .skip,s=>some (.norm,s)
 | .region _ ops draw,s=>match(if draw then bD P conv call ops s else bf P conv call ops ops.toList s)with
  |some s'=>some (.norm,s')
  |none=>none
 | .seq a b,s=>match aj P conv call n a s with
  |some (.norm,s')=>aj P conv call n b s'
  |r=>r
 | .cond c a b,s=>match val s.T c with
  | .sc (.bool true)=>aj P conv call n a s
  | .sc (.bool false)=>aj P conv call n b s
  |_=>none
 | .block id c,s=>match aj P conv call n c s with
  |some (.exit j,s')=>if j=id then some (.norm,s')else some (.exit j,s')
  |r=>r
 | .loop c,s=>aY (aj P conv call n c) n s
 | .exit id,s=>some (.exit id,s)
 | .ret,s=>some (.ret,s)
 |_,_=>none
def dO(nt:Nat):Code->Bool
 | .region _ ops _=>ops.all fun o=>match o.dst with|some d=>decide (d<nt)|none=>true
 | .seq a b=>dO nt a && dO nt b
 | .cond _ a b=>dO nt a && dO nt b
 | .block _ c=>dO nt c
 | .loop c=>dO nt c
 |_=>true
def aH(P:Program)(T:Nat->V)(σ:Store):List ResultVar->Option (List V)
 |[]=>some []
 | .tmp t :: rs=>match aH P T σ rs with
  |some vs=>some (T t :: vs)
  |none=>none
 | .cell a t :: rs=>match aO P σ t (T a),aH P T σ rs with
  |some v,some vs=>some (v :: vs)
  |_,_=>none
def dP(args:List V):Nat->V:=fun i=>(args[i]?).getD (.dw [])
def oneOf:List V->V
 |[v]=>v
 |vs=> .dw vs
def Aq (fn:Func) (body:Code) (n:Nat):Bool:=!(fn.name == "runtime.NumGoroutine") && decide (n <= fn.ntmps) && dO fn.ntmps body
abbrev Ext:=FuncId->Option (List V->Store->Nat->jV)
def dU(P:Program)(conv:FuncId->Conv)(call:Call)(n:Nat)(fn:Func)(body:Code)(args:List V)(σ:Store)(nx:Nat):jV :=
 match aj P conv call n body ⟨dP args,σ,nx⟩with
 |some (.norm,st)=>match aH P st.T st.σ fn.results.toList with
  |some vs=>some (oneOf vs,st.σ,st.nx)
  |none=>none
 |some (.ret,st)=>match aH P st.T st.σ fn.results.toList with
  |some vs=>some (oneOf vs,st.σ,st.nx)
  |none=>none
 |_=>none
def Ar(P:Program)(conv:FuncId->Conv)(ext:Ext):Nat->Call
 |0=>fun _ _ _ _=>none
 |k+1=>fun f args σ nx=>match ext f with
  |some g=>g args σ nx
  |none=>match P.funcs[f]? with
   |some fn=>match fn.body with
    |some body=>if Aq fn body args.length=true then dU P conv (Ar P conv ext k) k fn body args σ nx else none
    |none=>none
   |none=>none
end Go.TV
namespace Go.TV
open Go.RowKit
set_option linter.unusedVariables false
set_option linter.unusedSimpArgs false
variable [Known]
section
variable {P:Program} {conv:FuncId->Conv} {call:Call}
structure Au (nt jY:Nat) (s0:Sit) (gI:Store) (iM:Nat) (T:Nat->V) (σ:Store) (nx:Nat) (s:Sit) (a:Act):Prop where
 inv:Inv s σ
 tr:TR s T a.tmps
 size:a.tmps.size=nt
 defers:a.defers=[]
 qj:mO s0 gI s σ
 dom:Dom s0 s iM nx
 fresh:dJ s nx jY
 iM:iM<=nx
theorem xZ{σ σ':Store}{nx nx' size bytes m:Nat}{d v:V}{row:List V}(h:bZ σ nx size bytes d row m=some (v,σ',nx')):nx<=nx':=by
 unfold bZ at h
 split at h
 .split at h
  .cases h;exact zu _
  .split at h
   .cases h;exact Nat.le_succ _
   .cases h
 .split at h
  .split at h
   .cases h;exact zu _
   .split at h
    .split at h
     .cases h;exact zu _
     .cases h
    .split at h
     .cases h;exact Nat.le_succ _
     .cases h
  .cases h
 .cases h
theorem gJ(D:cu P call){o:Oper}{T:Nat->V}{σ σ':Store}{nx nx':Nat}{v:V}(h:aK P conv call o T σ nx=some (v,σ',nx')):nx<=nx':=by
 obtain⟨dst,op,type,pos,after,guard⟩:=o;cases op<;>simp only[aK]at h
 case call c=>
  obtain⟨callee,args,ts⟩:=c;cases callee with
  |value f=>
   simp only at h
   split at h
   .exact(fK D h).1
   .cases h
  |builtin b=>
   simp only at h;unfold dX at h
   split at h
   .split at h
    .obtain⟨_,_,e⟩:=aJ h;cases e;exact zu _
    .cases h
   .split at h
    .unfold cZ at h
     split at h
     .split at h
      .split at h
       .split at h
        .split at h
         .split at h
          .exact xZ h
          .cases h
         .cases h
        .cases h
       .cases h
      .split at h
       .split at h
        .split at h
         .exact xZ h
         .cases h
        .cases h
       .cases h
      .cases h
     .cases h
    .cases h
   .unfold jk at h
    repeat' split at h
    all_goals first|(cases h;exact zu _)|cases h
   .unfold fM at h
    repeat' split at h
    all_goals first|(cases h;exact zu _)|cases h
   .split at h
    .cases q:aA P (Builtin.min_ ts type _)with
     |none=>rw[q]at h;cases h
     |some r=>rw[q]at h;simp only[zq]at h;split at h;cases h;exact zu _;cases h
    .cases h
   .split at h
    .cases q:aA P (Builtin.max_ ts type _)with
     |none=>rw[q]at h;cases h
     |some r=>rw[q]at h;simp only[zq]at h;split at h;cases h;exact zu _;cases h
    .cases h
   .cases h
  |invoke r m=>simp only at h;cases h
 case makeSlice t l c=>
  unfold eF at h
  split at h
  .split at h
   .split at h
    .split at h
     .cases h;exact Nat.le_succ _
     .cases h
    .cases h
   .cases h
  .cases h
 case buildSlice t l c=>
  split at h
  .cases h
  .unfold bH at h
   split at h
   .split at h
    .split at h
     .split at h
      .cases h;exact zu _
      .split at h
       .split at h
        .cases h;exact Nat.le_succ _
        .cases h
       .cases h
     .cases h
    .cases h
   .cases h
 case makeFunc fn f c=>
  split at h
  .split at h
   .cases h;exact zu _
   .cases h
  .cases h
 case move x=>cases h;exact zu _
 case assign x=>cases h;exact zu _
 case pick c x y=>
  split at h
  .cases h;exact zu _
  .cases h
 case alloc t=>
  split at h
  .split at h
   .cases h;exact Nat.le_succ _
   .cases h
  .cases h
 case box t x=>
  split at h
  .cases h;exact Nat.le_succ _
  .cases h
 case nilCheck x=>
  split at h
  .cases h;exact zu _
  .cases h;exact zu _
  .cases h
 case extract t i=>
  split at h
  .obtain⟨_,_,e⟩:=aJ h;cases e;exact zu _
  .cases h
 all_goals first|(obtain⟨_,_,e⟩:=aJ h;cases e;exact zu _)|cases h
theorem qB{s:Sit}{T:Nat->V}{a:Act}{dst:Option Tmp}{v:V}{x:Value}(h:TR s T a.tmps)(E:∀d,dst=some d->d<a.tmps.size)(G:VR s v x):TR s (bK T dst v) (a.put dst x).tmps:=by
 cases dst with
 |none=>exact h
 |some d=>
  intro t;have q:=E d rfl
  by_cases D:t=d
  .subst D
   simp only[bK,uQ,Act.put,zY,Array.getElem?_setIfInBounds_self,q,if_true,yV];exact G
  .simp only[bK,uS _ _ D,Act.put,zY]
   rw[Array.getElem?_setIfInBounds_ne (fun e=>D e.symm)];have:=h t
   rwa [zY]at this
theorem jl(a:Act)(dst:Option Tmp)(x:Value):(a.put dst x).tmps.size=a.tmps.size:=by
 cases dst<;>simp[Act.put]
theorem vU(a:Act)(dst:Option Tmp)(x:Value):(a.put dst x).defers=a.defers:=by
 cases dst<;>rfl
theorem jm(s:Sit):VR s (.dw []) undef:=by unfold VR;exact⟨#[],rfl,by unfold VRs;rfl⟩
theorem uM{ops:Array Oper}{T:Nat->V}{o:Oper}{b:Bool}(h:bC ops T o=some b){s:Sit}{tmps:Array Value}(M:TR s T tmps):Region.wanted o (yielded ops tmps)=b:=by
 unfold bC at h;unfold Region.wanted
 split at h
 .rename_i E
  simp only[E]
  simpa using h
 .rename_i j want E
  simp only[E,yielded]
  split at h
  .rename_i d G
   rw[G];have q:=M d;simp only[zq];rw[zY]at q
   split at h
   .rename_i b' J
    rw[J]at q;unfold VR at q;simp only[yF]at h;cases D:tmps[d]? with
    |none=>rw[D]at q;simp[undef]at q
    |some y=>
     rw[D]at q;simp only[yV]at q;rw[q.1];simp[<- h]
   .rename_i J
    rw[J]at q;unfold VR VRs at q;simp only[yF]at h;obtain⟨xs,K,N⟩:=q;cases D:tmps[d]? with
    |none=>simp[<- h]
    |some y=>
     rw[D]at K;simp only[yV]at K;simp[K,<- h]
   .cases h
  .rename_i G
   rw[G];simp only[yF]at h;simp[<- h]
theorem Au.step{nt jY:Nat}{s0:Sit}{gI:Store}{iM:Nat}{T:Nat->V}{σ:Store}{nx:Nat}{s:Sit}{a:Act}(h:Au nt jY s0 gI iM T σ nx s a){v:V}{x:Value}{σ':Store}{nx':Nat}{s':Sit}(q:Out s σ nx s' v x σ' nx')
  (hle:nx<=nx') {dst:Option Tmp} (J:∀d,dst=some d->d<nt):Au nt jY s0 gI iM (bK T dst v) σ' nx' s' (a.put dst x):=by
 refine⟨q.inv,qB (h.tr.mono q.qj.le) (fun d e=>by rw[h.size];exact J d e) q.vr,by rw[jl];exact h.size,by rw[vU];exact h.defers,h.qj.trans q.qj,fun i hi=>?_,fun i E D=>?_,yX h.iM hle⟩
 .rcases q.dom i hi with E|E
  .rcases h.dom i E with D|D
   .exact .inl D
   .exact .inr ⟨D.1,by omega⟩
  .exact .inr ⟨by have:=h.iM;omega,E.2⟩
 .cases K:s'.β i with
  |none=>rfl
  |some l=>
   exfalso;rcases q.dom i (by rw[K];simp)with G|G
   .exact G (h.fresh i (by omega) D)
   .omega
theorem Au.skip{nt jY:Nat}{s0:Sit}{gI:Store}{iM:Nat}{T:Nat->V}{σ:Store}{nx:Nat}{s:Sit}{a:Act}(h:Au nt jY s0 gI iM T σ nx s a){dst:Option Tmp}(q:∀d,dst=some d->d<nt) :
  Au nt jY s0 gI iM (bK T dst (.dw [])) σ nx s (a.put dst undef) :=
 h.step (Out.same h.inv (jm s)) (zu _) q
theorem wW(D:cu P call){ops:Array Oper}:∀(l:List Oper) (st q:St),bf P conv call ops l st=some q->st.nx<=q.nx
 |[],st,q,h=>by simp only[bf,yF]at h;rw[h];exact zu _
 |o :: l,st,q,h=>by
  unfold bf at h
  split at h
  .split at h
   .rename_i v σ' nx' e
    exact yX (gJ D e) (wW D l _ q h)
   .cases h
  .exact wW D l ⟨bK st.T o.dst (.dw []),st.σ,st.nx⟩ q h
  .cases h
theorem gK(E:cu P call){ops:Array Oper}{nt jY:Nat}{s0:Sit}{gI:Store}{iM:Nat}(J:∀o∈ops.toList,∀d,o.dst=some d->d<nt){Q:Exit->Act->World->Prop} :
  ∀(l:List Oper) (i:Nat) (st q:St),ops.toList.drop i=l->bf P conv call ops l st=some q->q.nx<=jY->(∀s a,Au nt jY s0 gI iM q.T q.σ q.nx s a->Q .normal a s.w) ->
  ∀(s:Sit) (a:Act),Au nt jY s0 gI iM st.T st.σ st.nx s a->wpOps P ops Q (List.range' i l.length) a s.w
 |[],i,st,q,_,h,_,hQ,s,a,hs=>by
  simp only[bf,yF]at h;subst h;simp only[List.length_nil,List.range'_zero,wpOps];exact hQ s a hs
 |o :: l,i,st,q,hl,h,hE,hQ,s,a,hs=>by
  have K:ops[i]?=some o:=by
   rw[<- zV,show ops.toList[i]?=(ops.toList.drop i)[0]? by simp,hl];rfl
  have D:o∈ops.toList:=by rw[<- zV]at K;exact List.mem_of_getElem? K
  have G:ops.toList.drop (i+1)=l:=by rw[<- List.drop_drop,hl];rfl
  rw[yj,List.range'_succ,wpOps_cons];unfold wpOp;simp only[K];unfold bf at h
  split at h
  .rename_i M
   rw[uM M hs.tr,yC rfl]
   split at h
   .rename_i v σ' nx' e
    have O:=wW E l _ q h;have N:=gJ E e;refine .inl (ny E e hs.inv hs.tr (fun i R U=>hs.fresh i R (by simp only at O;omega)) fun s' x S=>?_);exact gK E J l (i+1) _ q G h hE hQ s' _ (hs.step S N (J o D))
   .cases h
  .rename_i M
   rw[uM M hs.tr,yD (by simp)];exact gK E J l (i+1) _ q G h hE hQ s _ (hs.skip (J o D))
  .cases h
end
end Go.TV
namespace Go.TV
open Go.RowKit
set_option linter.unusedVariables false
set_option linter.unusedSimpArgs false
variable [Known]
section
variable {P:Program} {conv:FuncId->Conv} {call:Call}
theorem val_congr{T T2:Nat->V}{o:Oper}(ops:Array Oper)(h:∀t∈o.looksAt ops,T2 t=T t):∀x∈o.op.operands.toList,val T2 x=val T x:=by
 intro x q;cases x with
 |tmp t=>
  apply h;unfold Oper.looksAt;exact zf _ (List.mem_filterMap.2 ⟨_,q,rfl⟩)
 |const v=>rfl
 |global g=>rfl
 |func f=>rfl
theorem qC{T T2:Nat->V}{o:Oper}{σ:Store}{nx:Nat}(h:∀x∈o.op.operands.toList,val T2 x=val T x):aK P conv call o T2 σ nx=aK P conv call o T σ nx:=by
 obtain⟨dst,op,type,pos,after,guard⟩:=o;cases op<;>simp only[Op.operands]at h<;>simp only[aK]
 case build t parts=>
  have:parts.toList.map (fun p=>(p.1,val T2 p.2))=parts.toList.map (fun p=>(p.1,val T p.2)):=yR fun p D=>by
   rw[h p.2 (by simpa using ⟨p.1,by simpa using D⟩)]
  rw[this]
 case buildSlice t n parts=>
  have:parts.toList.map (fun p=>(p.1,val T2 p.2))=parts.toList.map (fun p=>(p.1,val T p.2)):=yR fun p D=>by
   rw[h p.2 (by simpa using ⟨p.1,by simpa using D⟩)]
  rw[this]
 case makeFunc fn first cap=>
  have:cap.toList.map (val T2)=cap.toList.map (val T):=yR fun p D=>h p (by simp[D])
  rw[this]
 case slice t x lo hi G=>
  have J:=h x (by simp);have E:lo.map (val T2)=lo.map (val T):=by cases lo with|none=>rfl|some y=>exact congrArg some (h y (by simp))
  have K:hi.map (val T2)=hi.map (val T):=by cases hi with|none=>rfl|some y=>exact congrArg some (h y (by simp))
  have M:G.map (val T2)=G.map (val T):=by cases G with|none=>rfl|some y=>exact congrArg some (h y (by simp))
  rw[J,E,K,M]
 case call c=>
  obtain⟨callee,args,ts⟩:=c;cases callee with
  |value f=>
   simp only[Call.operands]at h;have J:=h f (by simp);have E:args.toList.map (val T2)=args.toList.map (val T):=yR fun p D=>h p (by simp[D])
   simp only[J,E]
  |builtin b=>
   simp only[Call.operands]at h;have E:args.toList.map (val T2)=args.toList.map (val T):=yR fun p D=>h p (by simp[D])
   simp only[E]
  |invoke r m=>rfl
 case pick c a b=>rw[h c (by simp),h a (by simp),h b (by simp)]
 all_goals first
  |rfl
  |(rename_i a b;rw[h a (by simp),h b (by simp)];done)
  |(rename_i a b c;rw[h a (by simp),h b (by simp)];done)
  |(rename_i t a b;rw[h a (by simp),h b (by simp)];done)
  |(rename_i p t a b q;rw[h a (by simp),h b (by simp)];done)
  |(rename_i a;rw[h a (by simp)];done)
  |(rename_i a b;rw[h a (by simp)];done)
  |(rename_i t a b;rw[h a (by simp)];done)
  |(rename_i t u a;rw[h a (by simp)];done)
  |skip
theorem uz{f g:V->Option (V×List Nat)}:∀ {vs ts:List V} {ids:List Nat},(∀v t i,f v=some (t,i)->(∀b∈i,b∈ids)->g v=some (t,i))->stripL f vs=some (ts,ids)->stripL g vs=some (ts,ids)
 |[],ts,ids,_,h=>h
 |v :: vs,ts,ids,hfg,h=>by
  unfold stripL at h⊢
  split at h
  .rename_i t i D j E G
   simp only[yF,yE]at h;obtain⟨rfl,rfl⟩:=h;rw[hfg v t i E (fun b q=>zf _ q),uz (fun v t i h hi=>hfg v t i h (fun b q=>zQ _ (hi b q))) G]
  .cases h
theorem uh{σ σ':Store}:∀(d:Nat) (v t:V) (ids:List Nat),strip σ d v=some (t,ids)->(∀b∈ids,σ' b=σ b)->strip σ' d v=some (t,ids)
 |0,v,t,ids,h,_=>by cases v<;>simp only[strip]at h⊢ <;>exact h
 |d+1,v,t,ids,h,hb=>by
  cases v<;>simp only[strip]at h⊢ <;>try exact h
  iterate 3
   .split at h
    .rename_i ts i e
     simp only[yF,yE]at h;obtain⟨rfl,rfl⟩:=h;rw[uz (fun v t i h hi=>uh d v t i h fun b q=>hb b (hi b q)) e]
    .cases h
  .rename_i b off
   split at h
   .rename_i B D
    split at h
    .rename_i ts i e
     simp only[yF,yE]at h;obtain⟨rfl,rfl⟩:=h;rw[hb b zW,D];simp only;rw[uz (fun v t i h hi=>uh d v t i h fun b q=>hb b (zZ _ (hi b q))) e]
    .cases h
   .cases h
  .rename_i b off len
   split at h
   .rename_i B D
    split at h
    .rename_i E
     split at h
     .rename_i ts i e
      simp only[yF,yE]at h;obtain⟨rfl,rfl⟩:=h;rw[hb b zW,D];simp only;rw[yC E,uz (fun v t i h hi=>uh d v t i h fun b q=>hb b (zZ _ (hi b q))) e]
     .cases h
    .cases h
   .cases h
theorem nD{σ σ2:Store}{vs:List V}{F:List Nat}(h:kL σ vs=some F)(hs:∀b∈F,σ2 b=σ b):kL σ2 vs=some F:=by
 unfold kL at h⊢;cases e:stripL (strip σ depth) vs with
 |none=>rw[e]at h;cases h
 |some p=>
  obtain⟨ts,ids⟩:=p;rw[e]at h;simp only[yF]at h;subst h;rw[uz (fun v t i h hi=>uh _ v t i h fun b q=>hs b (hi b q)) e]
theorem iD{T T2:Nat->V}{σ σ2:Store}{o:Oper}{F:List Nat}(h:∀x∈o.op.operands.toList,val T2 x=val T x)(q:b_ conv T σ o=some F)(hs:∀b∈F,σ2 b=σ b):b_ conv T2 σ2 o=some F:=by
 obtain⟨dst,op,type,pos,after,guard⟩:=o;cases op<;>simp only[Op.operands]at h<;>simp only[b_]at q⊢ <;>try exact q
 case load t a=>rw[h a (by simp)];exact q
 case store t a b=>rw[h a (by simp)];exact q
 case slice t x lo hi M=>rw[h x (by simp)];exact q
 case convert s d x=>rw[h x (by simp)];exact q
 case call c=>
  obtain⟨callee,args,ts⟩:=c;have D:args.toList.map (val T2)=args.toList.map (val T):=yR fun p E=>h p (by cases callee<;>simp[Call.operands,E])
  cases callee with
  |value f=>
   have G:=h f (by simp[Call.operands]);simp only[G,D]at q⊢;cases J:val T f<;>simp only[J]at q⊢ <;>try exact q
   rename_i g cs;cases K:conv g<;>simp only[K]at q⊢ <;>first|exact q|exact nD q hs
  |builtin b=>cases b<;>simp only[D]at q⊢ <;>exact q
  |invoke r m=>exact q
theorem nG{T T2:Nat->V}{o:Oper}{F:List Nat}{v:V}(h:∀x∈o.op.operands.toList,val T2 x=val T x):keeps conv T2 o F v=keeps conv T o F v:=by
 obtain⟨dst,op,type,pos,after,guard⟩:=o;cases op<;>simp only[Op.operands]at h<;>simp only[keeps]
 case call c=>
  obtain⟨callee,args,ts⟩:=c;cases callee with
  |value f=>
   have q:=h f (by simp[Call.operands]);simp only[q]
  |builtin b=>rfl
  |invoke r m=>rfl
theorem uN{ops:Array Oper}{T T2:Nat->V}{o:Oper}(h:∀t∈o.looksAt ops,T2 t=T t):bC ops T2 o=bC ops T o:=by
 unfold bC
 split
 .rfl
 .rename_i j want q
  split
  .rename_i d D
   have:T2 d=T d:=h d (by
    unfold Oper.looksAt;refine zQ _ ?_;rw[q];simp[D])
   rw[this]
  .rfl
def stepD(P:Program)(conv:FuncId->Conv)(call:Call)(ops:Array Oper)(o:Oper)(lo:Nat)(T:Nat->V)(σ:Store):Option ((Nat->V)×Store×Nat×List Nat) :=
 match bC ops T o with
 |some true=>match aI P conv call o T σ lo with
  |some (v,σ',hi)=>some (bK T o.dst v,σ',hi,ak conv T σ o)
  |none=>none
 |some false=>some (bK T o.dst (.dw []),σ,lo,[])
 |none=>none
theorem vY{σ:Store}{lo:Nat}{ids:List Nat}:ay ids lo lo σ (restrict σ ids)=σ:=by
 funext b;unfold ay restrict
 split
 .rename_i h
  rcases h with h|h
  .rw[yC h]
  .omega
 .rfl
theorem vX{σ q:Store}{lo:Nat}:ay [] lo lo σ q=σ:=by
 funext b;unfold ay
 split
 .rename_i h
  rcases h with h|h
  .cases h
  .omega
 .rfl
theorem nH{o:Oper}{T:Nat->V}{gI σ D:Store}{nx N:Nat}{v:V}{F:List Nat}(q:writer conv o=false)(E:keeps conv T o F v=true)(K:F≠[])(G:b_ conv T gI o=some F)(h:aK P conv call o T σ nx=some (v,D,N)):∀b,b<nx->D b=σ b:=by
 obtain⟨dst,op,type,pos,after,guard⟩:=o;have no:∀ {p:Prop},some ([]:List Nat)=some F->p:=fun e=>absurd (Option.some.inj e).symm K
 cases op<;>simp only[b_]at G<;>simp only[aK]at h<;>try exact no G
 case load t a=>obtain⟨_,_,e⟩:=aJ h;cases e;exact fun _ _=>rfl
 case store t a b=>simp[writer]at q
 case slice t x lo hi S=>obtain⟨_,_,e⟩:=aJ h;cases e;exact fun _ _=>rfl
 case convert s d x=>obtain⟨_,_,e⟩:=aJ h;cases e;exact fun _ _=>rfl
 case call c=>
  obtain⟨callee,args,ts⟩:=c;cases callee with
  |value f=>
   cases f with
   |func g=>
    simp only[writer]at q;simp only[keeps,val]at E;simp only[val]at h;cases O:conv g<;>simp only[O,bP]at q E h
    case qp=>
     split at h
     .split at h
      .split at h
       .have J:flat depth v=true:=by
         have:F.isEmpty=false:=by cases F with
          |nil=>exact absurd rfl K
          |cons a b=>rfl
         rw[this,Bool.false_or]at E;exact E
        split at h
        .simp only[yF,yE]at h
         obtain⟨_,rfl,_⟩:=h;exact fun _ _=>rfl
        .rename_i M
         simp only[yF,yE]at h;obtain⟨rfl,_,_⟩:=h;rw[J,Bool.or_true]at M;exact absurd rfl M
       .cases h
      .cases h
     .cases h
    case own=>
     split at h
     .split at h
      .split at h
       .simp only[yF,yE]at h
        obtain⟨_,rfl,_⟩:=h;intro b R;unfold wI;rw[yC R]
       .cases h
      .cases h
     .cases h
    case inl=>cases q
   |tmp t=>simp[writer]at q
   |const t=>simp[writer]at q
   |global t=>simp[writer]at q
  |builtin b=>cases b<;>first|exact no G|simp[writer]at q
  |invoke r m=>exact no G
theorem iE{σ D:Store}{lo hi:Nat}{F:List Nat}(h:∀b∈F,D b=σ b):ay F lo hi σ D=ay [] lo hi σ D:=by
 funext b;unfold ay
 by_cases q:lo<=b/\b<hi
 .rw[yC (.inr q),yC (.inr q)]
 .by_cases E:b∈F
  .rw[yC (.inl E),yD (fun e=>e.elim (fun e=>by cases e) q),h b E]
  .rw[yD (fun e=>e.elim E q),yD (fun e=>e.elim (fun e=>by cases e) q)]
theorem vB{ops:Array Oper}{o:Oper}{lo hi:Nat}{T T1:Nat->V}{σ R:Store}{F:List Nat}(h:stepD P conv call ops o lo T σ=some (T1,R,hi,F)) :
  ∃v N W,T1=bK T o.dst v/\R=ay W lo hi σ N/\(∀b∈W,b∈F)/\(W≠[]->writer conv o=true)/\(∀b∈F,b<lo) /\
   ∀T2 σ2,(∀t∈o.looksAt ops,T2 t=T t)->(∀b∈F,σ2 b=σ b)->stepD P conv call ops o lo T2 σ2=some (bK T2 o.dst v,ay W lo hi σ2 N,hi,F):=by
 unfold stepD at h
 split at h
 .rename_i hw
  unfold aI at h;cases E:b_ conv T σ o with
  |none=>rw[E]at h;cases h
  |some q=>
  have a6:ak conv T σ o=q:=by unfold ak;rw[E];rfl
  simp only[E,a6]at h
  by_cases D:(q.all fun b=>decide (b<lo))=true
  .rw[yC D]at h
   cases he:aK P conv call o T (restrict σ q) lo with
   |none=>rw[he]at h;cases h
   |some r=>
    obtain⟨v,N,S⟩:=r;rw[he]at h;simp only at h
    by_cases J:keeps conv T o q v=true
    .rw[yC J]at h
     simp only[yF,yE]at h;obtain⟨rfl,rfl,rfl,rfl⟩:=h
     have G:∀T2 σ2,(∀t∈o.looksAt ops,T2 t=T t)->(∀b∈q,σ2 b=σ b) ->
       stepD P conv call ops o lo T2 σ2=some (bK T2 o.dst v,ay q lo S σ2 N,S,q):=by
      intro T2 σ2 hT U;have hv:=val_congr ops hT;have a7:restrict σ2 q=restrict σ q:=by
       funext b;unfold restrict;split
       .rename_i K;exact U b K
       .rfl
      have Y:=iD hv E U;have KE:ak conv T2 σ2 o=q:=by unfold ak;rw[Y];rfl
      unfold stepD;rw[uN hT,hw];simp only[aI,Y,KE,D,if_true,qC hv,a7,he,nG hv,J]
     have M:∀b∈q,b<lo:=fun b K=>by simpa using List.all_eq_true.1 D b K
     by_cases a1:writer conv o=true
     .exact⟨v,N,q,rfl,rfl,fun b h=>h,fun _=>a1,M,G⟩
     .by_cases hF:q=[]
      .refine⟨v,N,[],rfl,by rw[hF],(fun b h=>by cases h),fun h=>absurd rfl h,M,fun T2 σ2 h1 h2=>by rw[G T2 σ2 h1 h2,hF]⟩
      .have O:=nH (by simpa using a1) J hF E he
       have LV:∀b∈q,N b=σ b:=fun b K=>by
        rw[O b (M b K)];unfold restrict;rw[yC K]
       refine⟨v,N,[],rfl,iE LV,(fun b h=>by cases h),fun h=>absurd rfl h,M,fun T2 σ2 h1 h2=>?_⟩;rw[G T2 σ2 h1 h2,iE fun b K=>(LV b K).trans (h2 b K).symm]
    .rw[yD J]at h;cases h
  .rw[yD D]at h;cases h
 .rename_i hw
  simp only[yF,yE]at h;obtain⟨rfl,rfl,rfl,rfl⟩:=h;refine⟨_,σ,[],rfl,vX.symm,fun b h=>h,fun h=>absurd rfl h,(fun b h=>by cases h),fun T2 σ2 hT _=>?_⟩;unfold stepD;rw[uN hT,hw];simp only[vX]
 .cases h
structure Rec where
 o:Oper
 i:Nat
 lo:Nat
 hi:Nat
 F:List Nat
structure Ap (conv:FuncId->Conv) (ops:Array Oper) (a b:Rec):Prop where
 names:a.o.apart ops b.o=true
 foot:(writer conv a.o=true\/writer conv b.o=true)->∀c∈a.F,c∉b.F
 lt:a.hi<=b.lo
 fb:∀c∈b.F,¬(a.lo<=c/\c<a.hi)
 fa:∀c∈a.F,c<b.lo
theorem Jw{ops:Array Oper}{a b:Rec}(G:Ap conv ops a b){T T1 T2:Nat->V}{σ K σ2:Store}(q:stepD P conv call ops a.o a.lo T σ=some (T1,K,a.hi,a.F))(E:stepD P conv call ops b.o b.lo T1 K=some (T2,σ2,b.hi,b.F)) :
  ∃Kq FK,stepD P conv call ops b.o b.lo T σ=some (Kq,FK,b.hi,b.F)/\stepD P conv call ops a.o a.lo Kq FK=some (T2,σ2,a.hi,a.F):=by
 obtain⟨n1,n2,n3⟩:=Oper.apart_spec G.names;obtain⟨v,τ,W,rfl,rfl,O,R,b3,S⟩:=vB q;obtain⟨N,U,J,rfl,rfl,Jz,KG,b2,Y⟩:=vB E;have H6:∀(T:Nat->V) (dst:Option Tmp) (v:V) (t:Nat),dst≠some t->bK T dst v t=T t:=fun T dst v t h=>by
  cases dst with
  |none=>rfl
  |some d=>exact uS _ _ (fun e=>h (by rw[e]))
 have M:∀c,c∈W->c∉b.F:=fun c D=>G.foot (.inl (R (by intro e;rw[e]at D;cases D))) c (O c D)
 have H7:∀c,c∈J->c∉a.F:=fun c D a1=>G.foot (.inr (KG (by intro e;rw[e]at D;cases D))) c a1 (Jz c D)
 have e1:=Y T σ (fun t ht=>(H6 T a.o.dst v t (fun e=>n1 t e ht)).symm) (fun c D=>by
  unfold ay;rw[yD];rintro (h|h)
  .exact M c h D
  .exact G.fb c D h)
 have e2:=S (bK T b.o.dst N) (ay J b.lo b.hi σ U) (fun t ht=>H6 T b.o.dst N t (fun e=>n3 t e ht)) (fun c D=>by
  unfold ay;rw[yD];rintro (h|h)
  .exact H7 c h D
  .have:=G.fa c D;omega)
 refine⟨_,_,e1,?_⟩;rw[e2];have hT:bK (bK T b.o.dst N) a.o.dst v=bK (bK T a.o.dst v) b.o.dst N:=by
  cases a6:a.o.dst with
  |none=>rfl
  |some d=>
   cases a7:b.o.dst with
   |none=>rfl
   |some d'=>
    have a8:d'≠d:=fun e=>n2 d a6 (by rw[a7,e])
    funext t;simp only[bK,upd]
    split
    .rename_i e;rw[yD (by rw[e];exact fun h=>a8 h.symm)]
    .rfl
 have b1:ay W a.lo a.hi (ay J b.lo b.hi σ U) τ=ay J b.lo b.hi (ay W a.lo a.hi σ τ) U:=by
  funext c;unfold ay
  by_cases q:c∈W\/(a.lo<=c/\c<a.hi)
  .have E:¬(c∈J\/(b.lo<=c/\c<b.hi)):=by
    rintro (E|E)
    .rcases q with q|q
     .exact H7 c E (O c q)
     .exact G.fb c (Jz c E) q
    .rcases q with q|q
     .have:=G.fa c (O c q);omega
     .have:=G.lt;omega
   rw[yC q,yD E,yC q]
  .rw[yD q]
   by_cases E:c∈J\/(b.lo<=c/\c<b.hi)
   .rw[yC E,yC E]
   .rw[yD E,yD E,yD q]
 rw[hT,b1]
def qE(P:Program)(conv:FuncId->Conv)(call:Call)(ops:Array Oper):List Rec->(Nat->V)->Store->(Nat->V)->Store->Prop
 |[],T,σ,T',σ'=>T=T'/\σ=σ'
 |r :: L,T,σ,T',σ'=>∃q h,stepD P conv call ops r.o r.lo T σ=some (q,h,r.hi,r.F)/\qE P conv call ops L q h T' σ'
theorem Dy{ops:Array Oper}{r:Rec}:∀(q D:List Rec) (T T':Nat->V) (σ σ':Store),(∀a∈q,Ap conv ops a r)->qE P conv call ops (q++r :: D) T σ T' σ'->qE P conv call ops (r :: (q++D)) T σ T' σ'
 |[],D,T,T',σ,σ',_,h=>h
 |a :: q,D,T,T',σ,σ',hap,h=>by
  obtain⟨G,E,J,K⟩:=h;obtain⟨T2,σ2,M,N⟩:=Dy q D G T' E σ' (fun b O=>hap b (zZ _ O)) K;obtain⟨R,S,U,Y⟩:=Jw (hap a zW) J M;exact⟨R,S,U,T2,σ2,Y,N⟩
end
end Go.TV
namespace Go.TV
open Go.RowKit
set_option linter.unusedVariables false
set_option linter.unusedSimpArgs false
variable [Known]
theorem Inv.restrict{s:Sit}{σ:Store}(h:Inv s σ)(ids:List Nat):Inv s (restrict σ ids):=by
 have q:∀ {i:Nat} {A:pY},TV.restrict σ ids i=some A->i∈ids/\σ i=some A:=fun {i A} h=>by
  unfold TV.restrict at h
  split at h
  .rename_i D;exact⟨D,h⟩
  .cases h
 exact⟨fun i B E=>h.blk i B (q E).2,fun G J K M N O R S=>h.qg G J K M N O (q R).2 (q S).2,h.zb,h.kn⟩
theorem Aw{s:Sit}{σ:Store}(hi:Inv s σ){ids:List Nat}{nx nx':Nat}(hn:dJ s nx nx'){s':Sit}{v:V}{x:Value}{S:Store}(ho:Out s (restrict σ ids) nx s' v x S nx'):Out s σ nx s' v x (ay ids nx nx' σ S) nx':=by
 obtain⟨hv,U,D,hd⟩:=ho;have q:∀ {i:Nat} {A:pY},restrict σ ids i=some A->i∈ids/\σ i=some A:=fun {i A} h=>by
  unfold restrict at h
  split at h
  .rename_i hm;exact⟨hm,h⟩
  .cases h
 have p:∀b B,ay ids nx nx' σ S b=some B->((b∈ids\/(nx<=b/\b<nx'))/\S b=some B)\/(b∉ids/\σ b=some B):=fun b B h=>by
  unfold ay at h
  split at h
  .rename_i hm;exact .inl ⟨hm,h⟩
  .rename_i hm;exact .inr ⟨fun e=>hm (.inl e),h⟩
 have E:∀ {b:Nat} {B:pY} {l:Loc},b∉ids->σ b=some B->s.β b=some l->∀b' B' l',restrict σ ids b'=some B'->s.β b'=some l'->l'.k≠l.k:=fun {b B l} hb hB hl b' B' l' G O e=>by
  obtain⟨hm,N⟩:=q G;exact hb (by rw[<- hi.qg b' b B' B l' l N hB O hl e];exact hm)
 have J:∀ {b:Nat} {B:pY},b∉ids->σ b=some B->∃l c e,s.β b=some l/\s'.β b=some l/\l.k<s.w.heap.size/\s.w.heap[l.k]?=some (.cells c e (0,0))/\s'.w.heap[l.k]?=some (.cells c e (0,0)):=fun {b B} hb hB=>by
  obtain⟨l,c,e,g1,g2,_⟩:=hi.blk b B hB;exact⟨l,c,e,g1,D.le.bb _ _ g1,hi.block_lt hB g1,g2,(D.kb l.k (hi.block_lt hB g1) (fun b' B' l' G O=>E hb hB g1 b' B' l' G O)).trans g2⟩
 refine⟨hv,⟨fun b B hB=>?_,fun b1 b2 B1 B2 l1 l2 G O e1 e2 hk=>?_,U.zb,U.kn⟩,⟨D.le,fun k o z=>?_,fun k hk hn=>D.kb k hk fun b B l G O=>hn b B l (q G).2 O,fun b B l G O=>?_,D.hs,D.os,D.tape,D.output⟩,hd⟩
 .rcases p b B hB with ⟨_,G⟩|⟨hb,G⟩
  .exact U.blk b B G
  .obtain⟨l,c,e,g1,g2,g3,g4,g5,g6,g7⟩:=hi.blk b B G
   obtain⟨l',c',e',R,K,k3,k4,k5⟩:=J hb G;rw[g1]at R;cases R;rw[g2]at k4;cases k4;refine⟨l,c,e,K,k5,g3,g4,g5,fun i v hv=>let ⟨x,hx,hr⟩:=g6 i v hv;⟨x,hx,yB D.le v x hr⟩,fun o z=>?_,g7.2⟩;rcases D.zn _ _ z with z|z|⟨b',B',l',N,Y,h5⟩
   .exact g7.1 o z
   .omega
   .exact absurd h5 (E hb G g1 b' B' l' N Y)
 .rcases p b1 B1 G with ⟨_,M⟩|⟨a1,M⟩<;>rcases p b2 B2 O with ⟨_,p2⟩|⟨a6,p2⟩
  .exact U.qg b1 b2 B1 B2 l1 l2 M p2 e1 e2 hk
  .obtain⟨l,c,e,R,K,k3,_⟩:=J a6 p2
   rw[e2]at K;cases K;rcases D.nb b1 B1 l1 M e1 with h|⟨b0,B0,l0,N,Y,h5⟩
   .omega
   .exact absurd (h5.trans hk) (E a6 p2 R b0 B0 l0 N Y)
  .obtain⟨l,c,e,R,K,k3,_⟩:=J a1 M
   rw[e1]at K;cases K;rcases D.nb b2 B2 l2 p2 e2 with h|⟨b0,B0,l0,N,Y,h5⟩
   .omega
   .exact absurd (h5.trans hk.symm) (E a1 M R b0 B0 l0 N Y)
  .obtain⟨l,c,e,R,K,k3,_⟩:=J a1 M
   obtain⟨l',c',e',a8,a7,MS,_⟩:=J a6 p2;rw[e1]at K;cases K;rw[e2]at a7;cases a7;exact hi.qg b1 b2 B1 B2 _ _ M p2 R a8 hk
 .rcases D.zn k o z with z|z|⟨b',B',l',N,Y,h5⟩
  .exact .inl z
  .exact .inr (.inl z)
  .exact .inr (.inr ⟨b',B',l',(q N).2,Y,h5⟩)
 .rcases p b B G with ⟨_,M⟩|⟨hb,M⟩
  .rcases D.nb b B l M O with h|⟨b0,B0,l0,N,Y,h5⟩
   .exact .inl h
   .exact .inr ⟨b0,B0,l0,(q N).2,Y,h5⟩
  .obtain⟨l',c,e,R,K,k3,_⟩:=J hb M
   rw[O]at K;cases K;exact .inr ⟨b,B,_,M,R,rfl⟩
section
variable {P:Program} {conv:FuncId->Conv} {call:Call}
structure JA (nt:Nat) (s0:Sit) (gI:Store) (Ik hi0:Nat) (T:Nat->V) (σ:Store) (L:List Rec) (s:Sit) (a:Act):Prop where
 inv:Inv s σ
 tr:TR s T a.tmps
 size:a.tmps.size=nt
 defers:a.defers=[]
 qj:mO s0 gI s σ
 dom:Dom s0 s Ik hi0
 fresh:∀r∈L,dJ s r.lo r.hi
theorem yA{s:Sit}{v:V}{x:Value}(h:VR s v x):∀b∈aB v,s.β b≠none:=by
 intro b D;cases v<;>simp only[aB,List.not_mem_nil,List.mem_singleton]at D<;>subst D<;>unfold VR at h
 .obtain⟨l,q,_⟩:=h;rw[q];simp
 .obtain⟨l,c,q,_⟩:=h;rw[q];simp
theorem fO{s:Sit}:∀ {vs:List V} {xs:List Value},VRs s vs xs->∀b∈vs.flatMap aB,s.β b≠none
 |[],_,_,b,q=>by simp at q
 |v :: vs,xs,h,b,q=>by
  unfold VRs at h;obtain⟨y,G,rfl,D,E⟩:=h;rw[zF]at q;rcases List.mem_append.1 q with q|q
  .exact yA D b q
  .exact fO E b q
theorem FM{s:Sit}{v:V}{x:Value}(h:VR s v x):∀b∈dS v,s.β b≠none:=by
 intro b q;cases v with
 |agg vs=>unfold VR at h;obtain⟨xs,_,D⟩:=h;exact fO D b q
 |dw vs=>unfold VR at h;obtain⟨xs,_,D⟩:=h;exact fO D b q
 |clo f vs=>unfold VR at h;obtain⟨xs,_,D⟩:=h;exact fO D b q
 |sc u=>exact yA h b q
 |nil=>exact yA h b q
 |junk=>exact yA h b q
 |tp row off=>exact yA h b q
 |ts row len=>exact yA h b q
 |rp i off=>exact yA h b q
 |rs i off len=>exact yA h b q
theorem jo{s:Sit}:∀ {vs:List V} {xs:List Value},VRs s vs xs->∀b∈vs.flatMap dS,s.β b≠none
 |[],_,_,b,q=>by simp at q
 |v :: vs,xs,h,b,q=>by
  unfold VRs at h;obtain⟨y,G,rfl,D,E⟩:=h;rw[zF]at q;rcases List.mem_append.1 q with q|q
  .exact FM D b q
  .exact jo E b q
theorem xw{s:Sit}:∀ {vs:List V} {xs:List Value},VRs s vs xs->∀v∈vs,∃x,VR s v x
 |[],_,_,v,q=>by cases q
 |w :: vs,xs,h,v,q=>by
  unfold VRs at h;obtain⟨y,G,rfl,D,E⟩:=h;rcases List.mem_cons.1 q with rfl|q
  .exact⟨y,D⟩
  .exact xw E v q
theorem uw{f:V->Option (V×List Nat)}{p:Nat->Prop}:∀ {vs ts:List V} {ids:List Nat},(∀v∈vs,∀t i,f v=some (t,i)->(∀b∈i,b∈ids)->∀b∈i,p b)->stripL f vs=some (ts,ids)->∀b∈ids,p b
 |[],ts,ids,_,h,b,q=>by
  simp only[stripL,yF,yE]at h;rw[<- h.2]at q;cases q
 |v :: vs,ts,ids,hf,h,b,q=>by
  unfold stripL at h
  split at h
  .rename_i t i D j E G
   simp only[yF,yE]at h;obtain⟨rfl,rfl⟩:=h;rcases List.mem_append.1 q with q|q
   .exact hf v zW t i E (fun b q=>zf _ q) b q
   .exact uw (fun w J t i h hi=>hf w (zZ _ J) t i h fun b q=>zQ _ (hi b q)) G b q
  .cases h
theorem ug{s:Sit}{σ J:Store}(hi:Inv s σ):∀(d:Nat) (v t:V) (ids:List Nat),strip J d v=some (t,ids)->(∃x,VR s v x)->(∀b∈ids,s.β b≠none->J b=σ b)->∀b∈ids,s.β b≠none
 |0,v,t,ids,h,_,_,b,q=>by
  cases v<;>simp[strip]at h<;>(rw[h.2]at q;cases q)
 |d+1,v,t,ids,h,E,hs,b,q=>by
  obtain⟨x,E⟩:=E;have held:∀ {c:Nat} {B:pY},J c=some B->c∈ids->s.β c≠none->∀w∈B.cells,∃y,VR s w y:=fun {c B} M O K w R=>by
   rw[hs c O K]at M;obtain⟨l,c',e,_,_,_,_,_,S,_⟩:=hi.blk c B M;obtain⟨i,D⟩:=List.mem_iff_getElem?.1 R;obtain⟨y,_,U⟩:=S i w D;exact⟨y,U⟩
  cases v<;>simp only[strip]at h<;>try (simp only[yF,yE]at h;rw[<- h.2]at q;cases q;done)
  case agg vs=>
   split at h
   .rename_i ts i e
    simp only[yF,yE]at h;obtain⟨rfl,rfl⟩:=h;unfold VR at E;obtain⟨xs,_,N⟩:=E;exact uw (fun v G t i h D=>ug hi d v t i h (xw N v G) fun b q=>hs b (D b q)) e b q
   .cases h
  case dw vs=>
   split at h
   .rename_i ts i e
    simp only[yF,yE]at h;obtain⟨rfl,rfl⟩:=h;unfold VR at E;obtain⟨xs,_,N⟩:=E;exact uw (fun v G t i h D=>ug hi d v t i h (xw N v G) fun b q=>hs b (D b q)) e b q
   .cases h
  case clo f vs=>
   split at h
   .rename_i ts i e
    simp only[yF,yE]at h;obtain⟨rfl,rfl⟩:=h;unfold VR at E;obtain⟨xs,_,N⟩:=E;exact uw (fun v G t i h D=>ug hi d v t i h (xw N v G) fun b q=>hs b (D b q)) e b q
   .cases h
  case rp c off=>
   have K:s.β c≠none:=yA E c (by simp[aB])
   split at h
   .rename_i B M
    split at h
    .rename_i ts i e
     simp only[yF,yE]at h;obtain⟨rfl,rfl⟩:=h;rcases List.mem_cons.1 q with rfl|q
     .exact K
     .exact uw (fun v G t i h D=>ug hi d v t i h (held M zW K v G) fun b q=>hs b (zZ _ (D b q))) e b q
    .cases h
   .cases h
  case rs c off len=>
   have K:s.β c≠none:=yA E c (by simp[aB])
   split at h
   .rename_i B M
    split at h
    .split at h
     .rename_i ts i e
      simp only[yF,yE]at h;obtain⟨rfl,rfl⟩:=h;rcases List.mem_cons.1 q with rfl|q
      .exact K
      .exact uw (fun v G t i h D=>ug hi d v t i h (held M zW K v (List.mem_of_mem_drop (List.mem_of_mem_take G))) fun b q=>hs b (zZ _ (D b q))) e b q
     .cases h
    .cases h
   .cases h
theorem Dz{s:Sit}{T:Nat->V}{a:Act}{σ E:Store}(hi:Inv s σ)(h:TR s T a.tmps){o:Oper}{F:List Nat}(D:b_ conv T E o=some F)(hs:∀b∈F,s.β b≠none->E b=σ b):∀b∈F,s.β b≠none:=by
 intro b q;obtain⟨dst,op,type,pos,after,guard⟩:=o;have no:∀ {p:Prop},some ([]:List Nat)=some F->p:=fun e=>by rw[<- Option.some.inj e]at q;cases q
 cases op<;>simp only[b_]at D<;>try exact no D
 case load t x=>rw[<- Option.some.inj D]at q;exact yA (uP h x) b q
 case store t x y=>rw[<- Option.some.inj D]at q;exact yA (uP h x) b q
 case slice t x lo hi U=>rw[<- Option.some.inj D]at q;exact yA (uP h x) b q
 case convert s d x=>rw[<- Option.some.inj D]at q;exact yA (uP h x) b q
 case call c=>
  obtain⟨callee,args,ts⟩:=c;cases callee with
  |value f=>
   simp only at D
   split at D
   .rename_i g cs e
    have G:∃xs:List Value,VRs s cs xs:=by
     have M:=uP h f;rw[e]at M;unfold VR at M;obtain⟨xs,_,J⟩:=M;exact⟨_,J⟩
    split at D
    .rw[<- Option.some.inj D]at q
     rcases List.mem_append.1 q with q|q
     .exact jo (uO h _) b q
     .obtain⟨xs,J⟩:=G
      exact jo J b q
    .unfold kL at D
     split at D
     .rename_i O ids R
      have:ids=F:=Option.some.inj D;subst this;refine uw (fun v K t i S N=>ug hi depth v t i S ?_ fun b q=>hs b (N b q)) R b q;rcases List.mem_append.1 K with K|K
      .exact xw (uO h _) v K
      .obtain⟨xs,J⟩:=G
       exact xw J v K
     .cases D
   .exact no D
  |builtin bb=>cases bb<;>first|exact no D|(simp only at D;rw[<- Option.some.inj D]at q;exact fO (uO h _) b q)
  |invoke r m=>exact no D
structure qF (conv:FuncId->Conv) (ops:Array Oper) (L:List Rec):Prop where
 at_:∀r∈L,ops[r.i]?=some r.o
 KH:L.Pairwise fun a b=>a.i<b.i/\a.hi<=b.lo/\(dL b.o a.i=true\/(a.o.apart ops b.o=true/\((writer conv a.o=true\/writer conv b.o=true)->∀c∈a.F,c∉b.F)))/\∀c∈a.F,c<b.lo
 le:∀r∈L,r.lo<=r.hi
theorem gQ{q:Array Bool}{i:Nat}(h:q.getD i true=false):i<q.size/\q.getD i false=false:=by
 rw[zY]at *;cases D:q[i]? with
 |none=>rw[D]at h;cases h
 |some b=>rw[D]at h;exact⟨(Array.getElem?_eq_some_iff.1 D).1,h⟩
theorem FP{ops:Array Oper}{o:Oper}{lo hi:Nat}{T E:Nat->V}{σ q:Store}{F:List Nat}(h:stepD P conv call ops o lo T σ=some (E,q,hi,F)):F=[]\/b_ conv T σ o=some F:=by
 unfold stepD at h
 split at h
 .split at h
  .rename_i v σ' nx' D
   simp only[yF,yE]at h;obtain⟨_,_,_,rfl⟩:=h;unfold aI at D;unfold ak;cases G:b_ conv T σ o with
   |none=>rw[G]at D;cases D
   |some F=>exact .inr rfl
  .cases h
 .simp only[yF,yE]at h
  obtain⟨_,_,_,rfl⟩:=h;exact .inl rfl
 .cases h
theorem DC{ops:Array Oper}{r:Rec}{S:List Rec}{T':Nat->V}{σ':Store}:∀(E:List Rec) (T:Nat->V) (σ:Store),(∀b∈E,b.o.apart ops r.o=true)->(∀b∈E,writer conv b.o=true->∀c∈b.F,c∉r.F)->qE P conv call ops (E++r :: S) T σ T' σ' ->
  ∃D q T2 σ2,(∀t∈r.o.looksAt ops,D t=T t)/\(∀c∈r.F,(∀b∈E,¬(b.lo<=c/\c<b.hi))->q c=σ c)/\stepD P conv call ops r.o r.lo D q=some (T2,σ2,r.hi,r.F)
 |[],T,σ,_,_,h=>by obtain⟨D,q,K,_⟩:=h;exact⟨T,σ,D,q,fun _ _=>rfl,fun _ _ _=>rfl,K⟩
 |b :: E,T,σ,hap,hw,h=>by
  obtain⟨D,q,K,U⟩:=h;obtain⟨v,τ,W,rfl,rfl,Y,M,_⟩:=vB K;obtain⟨n1,_,_⟩:=Oper.apart_spec (hap b zW);obtain⟨D,q,T2,σ2,g1,g3,g2⟩:=DC E _ _ (fun c G=>hap c (zZ _ G)) (fun c G=>hw c (zZ _ G)) U;refine⟨D,q,T2,σ2,fun t O=>(g1 t O).trans ?_,fun c G R=>(g3 c G fun b' N=>R b' (zZ _ N)).trans ?_,g2⟩
  .cases J:b.o.dst with
   |none=>rfl
   |some d=>exact uS _ _ (fun e=>n1 d J (by rw[<- e];exact O))
  .unfold ay
   rw[yD];rintro (e|e)
   .exact hw b zW (M (by intro e';rw[e']at e;cases e)) c (Y c e) G
   .exact R b zW e
theorem Az(D:cu P call){o:Oper}{T:Nat->V}{σ σ':Store}{nx nx':Nat}{v:V}(h:aI P conv call o T σ nx=some (v,σ',nx')){s:Sit}{a:Act}(hi:Inv s σ)(E:TR s T a.tmps)(q:dJ s nx nx')
  {K:Act->World->Prop} {Q:Exit->Act->World->Prop} (G:∀s' x,Out s σ nx s' v x σ' nx'->K (a.put o.dst x) s'.w):o.wp P a s.w K Q:=by
 unfold aI at h
 split at h
 .split at h
  .split at h
   .rename_i O J R M
    split at h
    .simp only[yF,yE]at h
     obtain⟨rfl,rfl,rfl⟩:=h;exact ny D M (hi.restrict _) E q fun s' x N=>G s' x (Aw hi q N)
    .cases h
   .cases h
  .cases h
 .cases h
theorem AA(hc:cu P call){ops:Array Oper}{nt:Nat}{s0:Sit}{gI:Store}{Ik hi0:Nat}(hd:∀o∈ops.toList,∀d,o.dst=some d->d<nt){T':Nat->V}{σ':Store}{Q:Exit->Act->World->Prop}
  (hQ:∀s a,JA nt s0 gI Ik hi0 T' σ' [] s a->Q .normal a s.w) (b8:∀i o,ops[i]?=some o->∀e∈o.after,Region.binds .any e=true->e.on<i) :
  ∀(L:List Rec) (q:Array Bool) (T:Nat->V) (σ:Store) (s:Sit) (a:Act),q.size=ops.size->(∀i,i<ops.size->(q.getD i true=false↔∃r∈L,r.i=i))->qF conv ops L->(∀r∈L,Ik<=r.lo/\r.hi<=hi0) ->
   qE P conv call ops L T σ T' σ'->JA nt s0 gI Ik hi0 T σ L s a->wpAny P .any ops Q L.length q a s.w:=by
 intro L
 induction hlen:L.length generalizing L with
 |zero=>
  intro q T σ s a c3 Y K M a1 hs;have:L=[]:=zL hlen;subst this;obtain⟨rfl,rfl⟩:=a1;refine⟨?_,hQ s a hs⟩;unfold Region.ready;rw[List.filter_eq_nil_iff];intro i hi;have c7:i<ops.size:=List.mem_range.1 hi;have c8:q.getD i true≠false:=fun e=>by obtain⟨r,hr,_⟩:=(Y i c7).1 e;cases hr
  have R:q.getD i true=true:=by simpa using c8
  simp[R]
 |succ n ih=>
  intro q T σ s a c3 Y K M a1 hs;refine⟨fun c9=>?_,fun i hi=>?_⟩
  ·-- the first record is ready
   exfalso;obtain⟨r,L',rfl⟩:∃r L',L=r :: L':=by
    cases L with
    |nil=>simp at hlen
    |cons r L'=>exact⟨r,L',rfl⟩
   have b9:=K.at_ r zW;have c0:r.i<ops.size:=(Array.getElem?_eq_some_iff.1 b9).1;have S:r.i∈Region.ready .any ops q:=by
    refine mem_ready.2 ⟨(Y r.i c0).2 ⟨r,zW,rfl⟩,r.o,b9,fun e he E=>?_⟩;have e7:=b8 r.i r.o b9 e he E;have R:q.getD e.on true=true:=by
     cases hq:q.getD e.on true with
     |true=>rfl
     |false=>
      obtain⟨r',N,Kr⟩:=(Y e.on (by omega)).1 hq;rcases List.mem_cons.1 N with rfl|N
      .omega
      .have:=(List.pairwise_cons.1 K.KH).1 r' N
       omega
    rw[zY]at R⊢;have:e.on<q.size:=by omega
    rw[Array.getElem?_eq_getElem this]at R⊢;exact R
   rw[c9]at S;cases S
  .obtain⟨KI,o,ho,c4⟩:=mem_ready.1 hi
   have c5:i<ops.size:=(Array.getElem?_eq_some_iff.1 ho).1;obtain⟨r,hr,Kr⟩:=(Y i c5).1 KI;obtain⟨U,L2,rfl⟩:=List.append_of_mem hr;have b3:r.o=o:=by
    have:=K.at_ r hr;rw[Kr,ho]at this
    simpa using this.symm
   have a6:=K.KH;have a7:∀b∈U,b.i<r.i/\b.hi<=r.lo/\(dL r.o b.i=true\/(b.o.apart ops r.o=true/\((writer conv b.o=true\/writer conv r.o=true)->∀c∈b.F,c∉r.F)))/\∀c∈b.F,c<r.lo:=fun b E=>
    (List.pairwise_append.1 a6).2.2 b E r zW
   have FQ:∀b∈U,dL r.o b.i≠true:=fun b E he=>by
    unfold dL at he;rw[Array.any_eq_true']at he;obtain⟨e,e0,c1⟩:=he;simp only[zU,beq_iff_eq]at c1;have c0:b.i<ops.size:=(Array.getElem?_eq_some_iff.1 (K.at_ b (zf _ E))).1;have h1:=(Y b.i c0).2 ⟨b,zf _ E,rfl⟩;have h2:=c4 e (by rw[<- b3];exact e0) c1.1;rw[c1.2]at h2;rw[(gQ h1).2]at h2;cases h2
   have b4:∀b∈U,b.o.apart ops r.o=true/\((writer conv b.o=true\/writer conv r.o=true)->∀c∈b.F,c∉r.F):=fun b E=>(a7 b E).2.2.1.resolve_left (FQ b E)
   obtain⟨T1,e2,T2,σ2,g1,g3,g2⟩:=DC U T σ (fun b E=>(b4 b E).1) (fun b E hw=>(b4 b E).2 (.inl hw)) a1;have e3:∀c∈r.F,s.β c≠none:=by
    rcases FP g2 with e|e
    .intro c hc;rw[e]at hc;cases hc
    .exact Dz hs.inv hs.tr (iD (σ2:=e2) (T2:=T) (fun x O=>(val_congr ops g1 x O).symm) e fun _ _=>rfl) fun c hc FN=>g3 c hc fun b E a8=>FN (hs.fresh b (zf _ E) c a8.1 a8.2)
   have e4:∀b∈U,Ap conv ops b r:=fun b E=>⟨(b4 b E).1,(b4 b E).2,(a7 b E).2.1,fun c hc a8=>e3 c hc (hs.fresh b (zf _ E) c a8.1 a8.2),(a7 b E).2.2.2⟩
   obtain⟨T3,e8,D,b1⟩:=Dy U L2 T T' σ σ' e4 a1;have b2:(U++L2).length=n:=by simp only[zX,yj]at hlen⊢;omega
   have b5:(q.setIfInBounds i true).size=ops.size:=by simpa using c3
   have e5:∀b∈U++L2,b.i≠r.i:=fun b E=>by
    rcases List.mem_append.1 E with E|E
    .have:=(a7 b E).1;omega
    .have:=(List.pairwise_cons.1 (List.pairwise_append.1 a6).2.1).1 b E;omega
   have b6:∀j,j<ops.size->((q.setIfInBounds i true).getD j true=false↔∃r'∈U++L2,r'.i=j):=fun j hj=>by
    have e6:j<q.size:=by omega
    by_cases c2:j=i
    .subst c2
     constructor
     .intro h
      rw[zY,Array.getElem?_setIfInBounds_self]at h;simp[e6]at h
     .rintro ⟨r',N,e⟩
      exact absurd (e.trans Kr.symm) (e5 r' N)
    .have e1:(q.setIfInBounds i true).getD j true=q.getD j true:=by
      rw[zY,zY,Array.getElem?_setIfInBounds_ne (fun e=>c2 e.symm)]
     rw[e1,Y j hj];constructor
     .rintro ⟨r',N,e⟩
      rcases List.mem_append.1 N with h|h
      .exact⟨r',zf _ h,e⟩
      .rcases List.mem_cons.1 h with rfl|h
       .exact absurd (e.symm.trans Kr) c2
       .exact⟨r',zQ _ h,e⟩
     .rintro ⟨r',N,e⟩
      rcases List.mem_append.1 N with h|h
      .exact⟨r',zf _ h,e⟩
      .exact⟨r',zQ _ (zZ _ h),e⟩
   have G:(U++L2).Sublist (U++r :: L2):=List.Sublist.append_left (List.sublist_cons_self r L2) U;have b7:qF conv ops (U++L2):=⟨fun x O=>K.at_ x (G.subset O),K.KH.sublist G,fun x O=>K.le x (G.subset O)⟩
   have xI:∀x∈U++L2,Ik<=x.lo/\x.hi<=hi0:=fun x O=>M x (G.subset O)
   have e9:=M r hr;have c6:∀x∈U++L2,x.hi<=r.lo\/r.hi<=x.lo:=fun x O=>by
    rcases List.mem_append.1 O with O|O
    .exact .inl (a7 x O).2.1
    .exact .inr ((List.pairwise_cons.1 (List.pairwise_append.1 a6).2.1).1 x O).2.1
   have S:o∈ops.toList:=by rw[<- zV]at ho;exact List.mem_of_getElem? ho
   unfold wpOp;simp only[ho];rw[<- b3];unfold stepD at D
   split at D
   .rename_i hw
    rw[uM hw hs.tr,yC rfl]
    split at D
    .rename_i v MV h0 he
     simp only[yF,yE]at D;obtain⟨rfl,rfl,rfl,_⟩:=D;refine .inl (Az hc he hs.inv hs.tr (hs.fresh r hr) fun s' x J=>?_);refine ih (U++L2) b2 _ _ _ s' _ b5 b6 b7 xI b1 ⟨J.inv,qB (hs.tr.mono J.qj.le) (fun d e=>by rw[hs.size];exact hd r.o (by rw[b3];exact S) d e) J.vr,by rw[jl];exact hs.size,by rw[vU];exact hs.defers,hs.qj.trans J.qj,fun j hj=>?_,fun x O j h1 h2=>?_⟩
     .rcases J.dom j hj with h|h
      .exact hs.dom j h
      .exact .inr ⟨by omega,by omega⟩
     .cases hq:s'.β j with
      |none=>rfl
      |some l=>
       exfalso;rcases J.dom j (by rw[hq];simp)with h|h
       .exact h (hs.fresh x (G.subset O) j h1 h2)
       .have:=c6 x O;omega
    .cases D
   .rename_i hw
    rw[uM hw hs.tr,yD (by simp)];simp only[yF,yE]at D;obtain⟨rfl,rfl,_,_⟩:=D;exact ih (U++L2) b2 _ _ _ s _ b5 b6 b7 xI b1 ⟨hs.inv,qB hs.tr (fun d e=>by rw[hs.size];exact hd r.o (by rw[b3];exact S) d e) (jm s),by rw[jl];exact hs.size,by rw[vU];exact hs.defers,hs.qj,hs.dom,fun x O=>hs.fresh x (G.subset O)⟩
   .cases D
end
end Go.TV
namespace Go.TV
open Go.RowKit
set_option linter.unusedVariables false
set_option linter.unusedSimpArgs false
variable [Known]
section
variable {P:Program} {conv:FuncId->Conv} {call:Call}
theorem lI(Y:cu P call){ops:Array Oper}:∀(l:List Oper) (i:Nat) (st q:St) (fs:List (List Nat)),aQ P conv call ops l st=some (q,fs) ->
  ∃L:List Rec,qE P conv call ops L st.T st.σ q.T q.σ/\L.length=l.length/\fs.length=l.length/\st.nx<=q.nx /\
   (∀(j:Nat) (r:Rec),L[j]?=some r->r.i=i+j/\l[j]?=some r.o/\fs[j]?=some r.F/\st.nx<=r.lo/\r.lo<=r.hi/\r.hi<=q.nx/\∀c∈r.F,c<r.lo) /\
   L.Pairwise (fun a b=>a.hi<=b.lo)
 |[],i,st,q,fs,h=>by
  simp only[aQ,yF,yE]at h;obtain⟨rfl,rfl⟩:=h;exact⟨[],⟨rfl,rfl⟩,rfl,rfl,zu _,fun j r h=>by simp at h,.nil⟩
 |o :: l,i,st,q,fs,h=>by
  have build:∀(N:Nat->V) (G:Store) (M:Nat) (F:List Nat) (D:List (List Nat)),stepD P conv call ops o st.nx st.T st.σ=some (N,G,M,F)->st.nx<=M->aQ P conv call ops l ⟨N,G,M⟩=some (q,D)->fs=F :: D ->
    ∃L:List Rec,qE P conv call ops L st.T st.σ q.T q.σ/\L.length=(o :: l).length/\fs.length=(o :: l).length/\st.nx<=q.nx /\
     (∀(j:Nat) (r:Rec),L[j]?=some r->r.i=i+j/\(o :: l)[j]?=some r.o/\fs[j]?=some r.F/\st.nx<=r.lo/\r.lo<=r.hi/\r.hi<=q.nx/\∀c∈r.F,c<r.lo)/\L.Pairwise (fun a b=>a.hi<=b.lo):=by
   intro N G M F D O hle K R;obtain⟨L,h1,h2,h3,h4,h5,h6⟩:=lI Y l (i+1) ⟨N,G,M⟩ q D K;obtain⟨_,_,_,_,_,_,_,S,_⟩:=vB O;subst R;refine⟨⟨o,i,st.nx,M,F⟩ :: L,⟨N,G,O,h1⟩,by simp[h2],by simp[h3],yX hle h4,fun j r J=>?_,.cons (fun b hb=>?_) h6⟩
   .cases j with
    |zero=>
     simp only[yZ,yF]at J;subst J;exact⟨rfl,rfl,rfl,zu _,hle,h4,S⟩
    |succ j=>
     simp only[yH]at J⊢;obtain⟨e1,e2,e3,e4,e5,e6,e7⟩:=h5 j r J;simp only at e4;exact⟨by omega,e2,e3,by omega,e5,e6,e7⟩
   .obtain⟨j,hj⟩:=List.mem_iff_getElem?.1 hb
    exact(h5 j b hj).2.2.2.1
  unfold aQ at h
  split at h
  .rename_i U
   split at h
   .rename_i v σ' nx' E
    split at h
    .rename_i s' D J
     simp only[yF,yE]at h;obtain⟨rfl,rfl⟩:=h;have hle:st.nx<=nx':=by
      unfold aI at E
      split at E
      .split at E
       .split at E
        .rename_i e
         split at E
         .simp only[yF,yE]at E
          obtain⟨_,_,rfl⟩:=E;exact gJ Y e
         .cases E
        .cases E
       .cases E
      .cases E
     exact build _ _ _ _ _ (by unfold stepD;rw[U];simp only[E]) hle J rfl
    .cases h
   .cases h
  .rename_i U
   split at h
   .rename_i s' D J
    simp only[yF,yE]at h;obtain⟨rfl,rfl⟩:=h;exact build _ _ _ _ _ (by unfold stepD;rw[U]) (zu _) J rfl
   .cases h
  .cases h
theorem wE{α:Type}{l:List α}{i j:Nat}{p:α}(hi:l[i]?=some p)(h:i<j):(p,i)∈(l.take j).zipIdx:=by
 refine List.mem_zipIdx_iff_getElem?.2 ?_;rw[zK,yC h];exact hi
theorem qG(G:cu P call)(hm:P.follows .mixedOrders=true){ops:Array Oper}{id nt jY:Nat}{s0:Sit}{gI:Store}{iM:Nat}(hd:∀o∈ops.toList,∀d,o.dst=some d->d<nt){Q:Exit->Act->World->Prop}{st E:St}
  (h:bD P conv call ops st=some E) (hE:E.nx<=jY) (hQ:∀s a,Au nt jY s0 gI iM E.T E.σ E.nx s a->Q .normal a s.w) {s:Sit} {a:Act} (hs:Au nt jY s0 gI iM st.T st.σ st.nx s a) :
  (Code.region id ops true).wp P Q a s.w:=by
 unfold bD at h
 split at h
 .rename_i S
  split at h
  .rename_i s' fs U
   split at h
   .rename_i Il
    simp only[yF]at h;subst h;obtain⟨L,h1,h2,h3,h4,K,h6⟩:=lI G ops.toList 0 st s' fs U;have H8:∀(j:Nat) (o:Oper),ops.toList[j]?=some o->(∀e∈o.after,Region.binds .any e=true->e.on<j)/\∀(i:Nat) (p:Oper),i<j->ops.toList[i]?=some p->dL o i=true\/p.apart ops o=true:=by
     intro j o Y;have:=List.all_eq_true.1 S (o,j) (List.mem_zipIdx_iff_getElem?.2 Y);simp only[zU]at this;refine⟨fun e M hb=>?_,fun i p q O=>?_⟩
     .have h:=Array.all_eq_true'.1 this.1.1 e M
      rw[hb]at h
      simpa using h
     .have h:=List.all_eq_true.1 this.2 (p,i) (wE O q)
      simpa using h
    have Md:∀(i j:Nat) (p o:Oper),i<j->ops.toList[i]?=some p->ops.toList[j]?=some o->dL o i≠true->(writer conv p=true\/writer conv o=true)->∀c∈(fs[i]?).getD [],c∉(fs[j]?).getD []:=by
     intro i j p o q O Y M R c G b9;have a8:(i,j)∈eU conv ops.toList:=by
      unfold eU;refine List.mem_flatMap.2 ⟨(o,j),List.mem_zipIdx_iff_getElem?.2 Y,List.mem_filterMap.2 ⟨(p,i),wE O q,?_⟩⟩;simp only;rw[yD M,yC];rcases R with R|R<;>simp[R]
     have:=List.all_eq_true.1 Il (i,j) a8;have:=List.all_eq_true.1 this c G;simp only[Bool.not_eq_true',List.contains_eq_mem,decide_eq_false_iff_not]at this;exact this b9
    have b8:∀(j:Nat),ops.toList[j]?=ops[j]?:=fun j=>zV
    have c0:qF conv ops L:=by
     refine⟨fun r N=>?_,?_,fun r N=>?_⟩
     .obtain⟨j,hj⟩:=List.mem_iff_getElem?.1 N
      obtain⟨e1,e2,_⟩:=K j r hj;rw[e1,yP,<- b8];exact e2
     .rw[List.pairwise_iff_getElem]
      intro i j hi hj q;have q1:=zo hi;have q2:=zo hj;obtain⟨a1,a2,a3,a4,a5,a6,a7⟩:=K i _ q1;obtain⟨b1,b2,b3,b4,b5,b6,b7⟩:=K j _ q2;have O:=(List.pairwise_iff_getElem.1 h6) i j hi hj q;rw[yP]at a1 b1;refine⟨by omega,O,?_,fun c G=>yQ (yQ (a7 c G) a5) O⟩;rw[a1]
      by_cases M:dL L[j].o i=true
      .exact .inl M
      .refine .inr ⟨((H8 j _ b2).2 i _ q a2).resolve_left M,fun R c G=>?_⟩
       have:=Md i j _ _ q a2 b2 M R c (by rw[a3];exact G);rw[b3]at this;exact this
     .obtain⟨j,hj⟩:=List.mem_iff_getElem?.1 N
      exact(K j r hj).2.2.2.2.1
    refine wp_region_any hm ?_;have c1:Below s.w.heap.size s.w { s.w with drawn:=s.w.drawn+1 }:=⟨rfl,rfl,rfl,zu _,fun _ _=>rfl⟩;obtain⟨hle,hinv,lD⟩:=hs.inv.grow c1;have J:=AA G (s0:=s0) (gI:=gI) (nt:=nt) (Ik:=iM) (hi0:=s'.nx) hd (T':=s'.T) (σ':=s'.σ) (Q:=Q) (fun s1 a1 D=>hQ s1 a1 ⟨D.inv,D.tr,D.size,D.defers,D.qj,D.dom,fun i g1 g2=>?_,by have:=hs.iM;omega⟩)
     (fun i o Y=>(H8 i o (by rw[b8];exact Y)).1) L (Array.replicate ops.size false) st.T st.σ { s with w:={ s.w with drawn:=s.w.drawn+1 } } a (by simp) (fun i hi=>?_) c0 (fun r N=>?_) h1
     ⟨hinv,hs.tr.mono hle,hs.size,hs.defers,hs.qj.trans lD,fun i hi=>?_,fun r N j g1 g2=>?_⟩
    .rw[h2,zi]at J
     exact J
    ·-- no reference beyond
     cases hq:s1.β i with
     |none=>rfl
     |some l=>
      exfalso;rcases D.dom i (by rw[hq];simp)with h|h
      .exact h (by
        cases c2:s0.β i with
        |none=>rfl
        |some l0=>
         have:=hs.qj.le.bb i l0 c2;rw[hs.fresh i (by omega) (by omega)]at this;cases this)
      .omega
    .constructor
     .intro _
      have hl:i<L.length:=by rw[h2,zi];exact hi
      exact⟨L[i],zS hl,by have:=(K i _ (zo hl)).1;omega⟩
     .intro _
      simp[hi]
    .obtain⟨j,hj⟩:=List.mem_iff_getElem?.1 N
     obtain⟨_,_,_,e4,_,e6,_⟩:=K j r hj;have:=hs.iM;exact⟨by omega,e6⟩
    .rcases hs.dom i hi with h|h
     .exact .inl h
     .exact .inr ⟨h.1,by omega⟩
    .obtain⟨k,hk⟩:=List.mem_iff_getElem?.1 N
     obtain⟨_,_,_,e4,_,e6,_⟩:=K k r hk;exact hs.fresh j (by omega) (by omega)
   .cases h
  .cases h
 .cases h
end
end Go.TV
namespace Go.TV
open Go.RowKit
set_option linter.unusedVariables false
set_option linter.unusedSimpArgs false
variable [Known]
section
variable {P:Program} {conv:FuncId->Conv} {call:Call}
theorem nI(E:cu P call){ops:Array Oper}{st q:St}(h:bD P conv call ops st=some q):st.nx<=q.nx:=by
 unfold bD at h
 split at h
 .split at h
  .rename_i s' fs D
   split at h
   .simp only[yF]at h;subst h
    obtain⟨L,_,_,_,G,_⟩:=lI E ops.toList 0 st s' fs D;exact G
   .cases h
  .cases h
 .cases h
theorem wz{body:St->Option (Ex×St)}(D:∀st e q,body st=some (e,q)->st.nx<=q.nx):∀(n:Nat) (st q:St) (e:Ex),aY body n st=some (e,q)->st.nx<=q.nx
 |0,st,q,e,h=>by cases h
 |n+1,st,q,e,h=>by
  unfold aY at h
  split at h
  .rename_i E G
   exact yX (D _ _ _ G) (wz D n E q e h)
  .exact D _ _ _ h
theorem xE(K:cu P call)(n:Nat):∀(c:Code) (st q:St) (e:Ex),aj P conv call n c st=some (e,q)->st.nx<=q.nx:=by
 intro c
 induction c with
 |skip=>intro st q e h;simp only[aj,yF,yE]at h;rw[h.2];exact zu _
 |region id ops draw=>
  intro st q e h;simp only[aj]at h
  split at h
  .rename_i s' hs
   simp only[yF,yE]at h;obtain⟨_,rfl⟩:=h
   split at hs
   .exact nI K hs
   .exact wW K _ _ _ hs
  .cases h
 |seq a b D E=>
  intro st q e h;simp only[aj]at h
  split at h
  .rename_i M J
   exact yX (D _ _ _ J) (E _ _ _ h)
  .exact D _ _ _ h
 |cond c a b D E=>
  intro st q e h;simp only[aj]at h
  split at h
  .exact D _ _ _ h
  .exact E _ _ _ h
  .cases h
 |block id c G=>
  intro st q e h;simp only[aj]at h
  split at h
  .rename_i j M J
   split at h<;>(simp only[yF,yE]at h;obtain⟨_,rfl⟩:=h;exact G _ _ _ J)
  .exact G _ _ _ h
 |loop c G=>intro st q e h;exact wz (fun st e q h=>G st q e h) n st q e h
 |exit id=>intro st q e h;simp only[aj,yF,yE]at h;rw[h.2];exact zu _
 |ret=>intro st q e h;simp only[aj,yF,yE]at h;rw[h.2];exact zu _
 |_=>intro st q e h;simp only[aj]at h;cases h
def qH:Ex->Exit
 | .norm=> .normal
 | .exit id=> .exit id
 | .ret=> .ret
theorem nJ{c:Code}{Q:Exit->Act->World->Prop}(I:Nat->Act->World->Prop)(round:∀n a w,I n a w->c.wp P (Exit.then (fun q w'=>∃m,m<n/\I m q w') Q) a w) :
  ∀n a w,I n a w->(Code.loop c).wp P Q a w:=by
 intro n a w h b k cs
 suffices key:∀n a w,I n a w->∃e q w',Q e q w'/\Arrives P (lone (b.at a (.code c :: .inLoop c :: k)) cs w) b k cs e q w' by
  obtain⟨e,q,w',G,D⟩:=key n a w h;exact⟨e,q,w',G,.of_steps (.one step_loop) D⟩
 intro n
 induction n using Nat.strongRecOn with
 |_ n M=>
  intro a w h;obtain⟨e,q,w',G,D⟩:=round n a w h b (.inLoop c :: k) cs;have leave:∀J,e=J->J≠ .normal->∃e q w',Q e q w'/\Arrives P (lone (b.at a (.code c :: .inLoop c :: k)) cs w) b k cs e q w':=by
   rintro J rfl E;refine⟨e,q,w',?_,.pass (x:=.inLoop c) rfl (fun _ _=> .inl E) D⟩;cases e<;>first|exact G|exact absurd rfl E
  cases e with
  |normal=>
   obtain⟨m,N,O⟩:=G;obtain⟨R,a2,S,K,U⟩:=M m N q w' O;exact⟨R,a2,S,K,.of_steps (Steps.trans D (.one step_inLoop)) U⟩
  |exit id=>exact leave _ rfl (by simp)
  |goto l=>exact leave _ rfl (by simp)
  |ret=>exact leave _ rfl (by simp)
  |panic Y=>exact leave _ rfl (by simp)
  |outgrown=>exact leave _ rfl (by simp)
theorem qI(hc:cu P call)(hm:P.follows .mixedOrders=true){nt jY:Nat}{s0:Sit}{gI:Store}{iM:Nat}(n:Nat) :
  ∀(c:Code) (st q:St) (e:Ex) (Q:Exit->Act->World->Prop),aj P conv call n c st=some (e,q)->dO nt c=true->q.nx<=jY->(∀s a,Au nt jY s0 gI iM q.T q.σ q.nx s a->Q (qH e) a s.w) ->
  ∀(s:Sit) (a:Act),Au nt jY s0 gI iM st.T st.σ st.nx s a->c.wp P Q a s.w:=by
 intro c
 induction c with
 |skip=>
  intro st q e Q h G J E s a hs;simp only[aj,yF,yE]at h;obtain⟨rfl,rfl⟩:=h;exact wp_skip (E s a hs)
 |region id ops draw=>
  intro st q e Q h G J E s a hs;have a1:∀o∈ops.toList,∀d,o.dst=some d->d<nt:=fun o ho d a8=>by
   have:=Array.all_eq_true'.1 G o (by simpa using ho);rw[a8]at this
   simpa using this
  simp only[aj]at h
  split at h
  .rename_i s' a6
   simp only[yF,yE]at h;obtain⟨rfl,rfl⟩:=h;cases draw with
   |true=>exact qG hc hm a1 a6 J E hs
   |false=>
    refine wp_region ?_;have:=gK hc a1 ops.toList 0 st s' rfl a6 J E s a hs;rw[zi,<- List.range_eq_range']at this;exact this
  .cases h
 |seq x y Kt S=>
  intro st q e Q h G J E s a hs;simp only[dO,zU]at G;simp only[aj]at h;refine wp_seq ?_
  split at h
  .rename_i O N
   refine Kt st O .norm _ N G.1 (yX (xE hc n y _ _ _ h) J) (fun K a2 D=>?_) s a hs;exact S O q e Q h G.2 J E K a2 D
  .rename_i r R
   refine Kt st q e _ h G.1 J (fun K a2 D=>?_) s a hs;cases e with
   |norm=>exact absurd h (R q)
   |exit id=>exact E K a2 D
   |ret=>exact E K a2 D
 |cond c x y Kt S=>
  intro st q e Q h G J E s a hs;simp only[dO,zU]at G;simp only[aj]at h;have Y:=uP hs.tr c
  split at h
  .rename_i U
   rw[U]at Y;unfold VR at Y;exact wp_cond_true Y.1 (Kt st q e Q h G.1 J E s a hs)
  .rename_i U
   rw[U]at Y;unfold VR at Y;exact wp_cond_false Y.1 (S st q e Q h G.2 J E s a hs)
  .cases h
 |block id c ih=>
  intro st q e Q h G J E s a hs;simp only[dO]at G;simp only[aj]at h;refine wp_block ?_
  split at h
  .rename_i j O N
   split at h
   .rename_i hj
    simp only[yF,yE]at h;obtain⟨rfl,rfl⟩:=h;exact ih st O _ _ N G J (fun K a2 D=>by simp only[qH,Exit.inBlock,hj,if_true];exact E K a2 D) s a hs
   .rename_i hj
    simp only[yF,yE]at h;obtain⟨rfl,rfl⟩:=h;exact ih st O _ _ N G J (fun K a2 D=>by simp only[qH,Exit.inBlock,hj,if_false];exact E K a2 D) s a hs
  .rename_i r R
   refine ih st q e _ h G J (fun K a2 D=>?_) s a hs;cases e with
   |norm=>exact E K a2 D
   |exit id=>exact absurd h (R id q)
   |ret=>exact E K a2 D
 |loop c ih=>
  intro st q e Q h G J E s a hs;simp only[dO]at G;simp only[aj]at h;refine nJ (fun k a w=>∃M O,O.w=w/\Au nt jY s0 gI iM M.T M.σ M.nx O a/\aY (aj P conv call n c) k M=some (e,q)) (fun k a w=>?_) n a s.w ⟨st,s,rfl,hs,h⟩;rintro ⟨M,O,rfl,a7,N⟩;cases k with
  |zero=>cases N
  |succ k=>
   unfold aY at N
   split at N
   .rename_i K hb
    exact ih M K .norm _ hb G (yX (wz (fun st e q h=>xE hc n c st q e h) k K q e N) J) (fun s3 a3 b1=>⟨k,Nat.lt_succ_self k,K,s3,rfl,b1,N⟩) O a a7
   .rename_i r R
    refine ih M q e _ N G J (fun K a2 D=>?_) O a a7;cases e with
    |norm=>exact absurd N (R q)
    |exit id=>exact E K a2 D
    |ret=>exact E K a2 D
 |exit id=>
  intro st q e Q h G J E s a hs;simp only[aj,yF,yE]at h;obtain⟨rfl,rfl⟩:=h;exact wp_exit (E s a hs)
 |ret=>
  intro st q e Q h G J E s a hs;simp only[aj,yF,yE]at h;obtain⟨rfl,rfl⟩:=h;exact wp_ret (E s a hs)
 |_=>intro st q e Q h;simp only[aj]at h;cases h
def FT(tmps:Array Value):ResultVar->Sem Value
 | .tmp t=>pure (tmps.getD t undef)
 | .cell a t=>do loadVar t (<- asAddr (tmps.getD a undef))
theorem qJ(fn:Func)(tmps:Array Value):results fn tmps=(do let vs<- fn.results.mapM (FT tmps);pure (if h:vs.size=1 then vs[0]else .tuple vs)):=by
 unfold results;congr 1
theorem vT{s:Sit}{σ:Store}(hi:Inv s σ){T:Nat->V}{tmps:Array Value}(E:TR s T tmps):∀(rs:List ResultVar) (vs:List V),aH P T σ rs=some vs ->
  ∃xs:List Value,(rs.mapM (FT tmps)).run P s.w= .ok xs s.w/\VRs s vs xs
 |[],vs,h=>by
  simp only[aH,yF]at h;subst h;exact⟨[],by simp,by unfold VRs;rfl⟩
 | .tmp t :: rs,vs,h=>by
  unfold aH at h
  split at h
  .rename_i q e
   simp only[yF]at h;subst h;obtain⟨xs,J,K⟩:=vT hi E rs q e;exact⟨tmps.getD t undef :: xs,by simp only[List.mapM_cons,FT,Sem.run_bind,Sem.run_pure,Result.andThen_ok,J],by unfold VRs;exact⟨_,_,rfl,E t,K⟩⟩
  .cases h
 | .cell a t :: rs,vs,h=>by
  unfold aH at h
  split at h
  .rename_i v q M e
   simp only[yF]at h;subst h;obtain⟨xs,J,K⟩:=vT hi E rs q e;obtain⟨y,D,N⟩:=jf hi (E a) M;refine⟨y :: xs,?_,by unfold VRs;exact⟨_,_,rfl,N,K⟩⟩;have G:∃p,tmps.getD a undef= .pointer (some p):=by
    unfold Instr.loadAt at D;generalize tmps.getD a undef=z at D;cases z<;>first|(simp[Instr.sureAddr,stuck,Sem.run]at D;done)|skip
    rename_i p;cases p with
    |none=>simp[Instr.sureAddr,stuck,Sem.run]at D
    |some p=>exact⟨p,rfl⟩
   obtain⟨p,G⟩:=G;rw[G]at D;have O:(loadVar t p).run P s.w= .ok y s.w:=by simpa[Instr.loadAt,Instr.sureAddr]using D
   simp only[List.mapM_cons,FT,Sem.run_bind,G,asAddr,Sem.run_pure,Result.andThen_ok,O,J]
  .cases h
theorem FU{s:Sit}{args:List V}{q:List Value}(h:VRs s args q)(n:Nat):TR s (dP args) (q.toArray++Array.replicate n undef):=by
 intro t;unfold dP;have K:=xq h
 by_cases E:t<args.length
 .have D:=zo E
  obtain⟨x,G,J⟩:=xu h D;rw[D,zY,yM (by simp;omega),z_,G];exact J
 .rw[yw (by omega),zY,Array.getElem?_append_right (by simp;omega)]
  simp only[Option.getD_none];have:((Array.replicate n undef)[t-q.toArray.size]?).getD undef=undef:=by
   rw[Array.getElem?_replicate];split<;>rfl
  rw[this];exact jm s
theorem DF{s:Sit}{vs:List V}{xs:List Value}(h:VRs s vs xs):VR s (oneOf vs) (if h:xs.toArray.size=1 then xs.toArray[0]else .tuple xs.toArray):=by
 have E:=xq h;unfold oneOf
 split
 .rename_i v
  unfold VRs at h;obtain⟨y,K,rfl,G,D⟩:=h;unfold VRs at D;subst D
  simpa using G
 .rename_i q
  have:¬xs.toArray.size=1:=by
   intro e;have J:vs.length=1:=by rw[E];simpa using e
   match vs,J with
   |[v],_=>exact q v rfl
  rw[dif_neg this];unfold VR;exact⟨_,rfl,h⟩
theorem qK(U:cu P call)(hm:P.follows .mixedOrders=true){f:FuncId}{fn:Func}{body:Code}(Y:P.funcs[f]?=some fn)(hb:fn.body=some body){n:Nat}{args:List V}(K:Aq fn body args.length=true){σ σ':Store}{nx nx':Nat}{v:V}
  (h:dU P conv call n fn body args σ nx=some (v,σ',nx')):dK P f args σ nx v σ' nx':=by
 unfold Aq at K;simp only[zU,decide_eq_true_eq,Bool.not_eq_true']at K;obtain⟨⟨M,a7⟩,N⟩:=K;have main:∀(e:Ex) (st:St) (vs:List V),aj P conv call n body ⟨dP args,σ,nx⟩=some (e,st)->(e= .norm\/e= .ret)->aH P st.T st.σ fn.results.toList=some vs->dK P f args σ nx (oneOf vs) st.σ st.nx:=by
  intro e st vs q he D;refine⟨xE U n body _ _ _ q,⟨fn,Y,by rw[hb];rfl,M⟩,fun s a6 hi S G=>?_⟩;have hl:=xq G;refine calls_of_wp Y hb ?_;refine qI U hm (nt:=fn.ntmps) (jY:=st.nx) (s0:=s) (gI:=σ) (iM:=nx) n body ⟨dP args,σ,nx⟩ st e _ q N (zu _) (fun R a1 E=>?_) s _
   ⟨hi,FU G _,by simp;omega,rfl,.refl s σ,.refl s nx nx,S,zu _⟩
  obtain⟨xs,h1,h2⟩:=vT E.inv E.tr fn.results.toList vs D;have O:(results fn a1.tmps).run P R.w= .ok (if h:xs.toArray.size=1 then xs.toArray[0]else .tuple xs.toArray) R.w:=by
   rw[qJ];have e1:fn.results=fn.results.toList.toArray:=by simp
   rw[e1,List.mapM_toArray];simp only[Sem.run_bind,Sem.run_map,h1,Result.andThen_ok,Sem.run_pure]
  have J:bodyPost P fn (fun e w'=>∃s' x,s'.w=w'/\e= .returned x/\Out s σ nx s' (oneOf vs) x st.σ st.nx) .normal a1 R.w :=
   ⟨E.defers,_,O,R,_,rfl,rfl,⟨DF h2,E.inv,E.qj,E.dom⟩⟩
  rcases he with rfl|rfl
  .exact J
  .exact J
 unfold dU at h
 split at h
 .rename_i st q
  split at h
  .rename_i vs D
   simp only[yF,yE]at h;obtain⟨rfl,rfl,rfl⟩:=h;exact main _ st vs q (.inl rfl) D
  .cases h
 .rename_i st q
  split at h
  .rename_i vs D
   simp only[yF,yE]at h;obtain⟨rfl,rfl,rfl⟩:=h;exact main _ st vs q (.inr rfl) D
  .cases h
 .cases h
def nK(P:Program)(ext:Ext):Prop:=∀f g,ext f=some g->∀args σ nx v σ' nx',g args σ nx=some (v,σ',nx')->dK P f args σ nx v σ' nx'
theorem kM(D:P.follows .mixedOrders=true){ext:Ext}(E:nK P ext):∀k,cu P (Ar P conv ext k)
 |0=>fun f args σ nx v σ' nx' h=>by cases h
 |k+1=>fun f args σ nx v σ' nx' h=>by
  unfold Ar at h
  split at h
  .rename_i g G
   exact E f g G args σ nx v σ' nx' h
  .split at h
   .rename_i fn J
    split at h
    .rename_i body K
     split at h
     .rename_i q
      exact qK (kM D E k) D J K q h
     .cases h
    .cases h
   .cases h
end
end Go.TV
