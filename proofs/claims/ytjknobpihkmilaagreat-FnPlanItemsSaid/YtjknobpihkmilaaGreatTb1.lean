import Derived.Orders
import Derived.Below
import Derived.Laws.AppendOwn
import Derived.Laws.NewBlocks
import Derived.Laws.MakeOwn
import Derived.Laws.OwnMore
import Derived.Laws.BytesString
import Derived.Laws.CopyRow
import Derived.Laws.IdiomCopy
set_option linter.unusedSimpArgs false
set_option linter.unusedVariables false
set_option linter.unusedSectionVars false
set_option linter.defProp false
set_option maxRecDepth 10000
set_option maxHeartbeats 4000000
namespace Go
theorem sQ.{u}{c:Prop}{h:Decidable c}(k:¬c){α:Sort u}{t e:α}:(ite c t e)=e:=if_neg k
theorem sO.{u}{c:Prop}{h:Decidable c}(k:c){α:Sort u}{t e:α}:(ite c t e)=t:=if_pos k
theorem sN{α}[BEq α][LawfulBEq α]{a b:α}:(a==b)=false↔a≠b:=beq_eq_false_iff_ne
theorem sJ{p:Prop}[Decidable p](h:p):decide p=true:=decide_eq_true h
theorem sH{p:Prop}[Decidable p](h:¬p):decide p=false:=decide_eq_false h
end Go
open Array renaming length_toList->yK,getD_eq_getD_getElem?->yF,getElem?_toList->xZ
open Bool renaming and_eq_true->zM,false_eq_true->yE,true_and->xY,not_eq_true'->vT
open List renaming getElem?_eq_getElem->zy,getElem_mem->zu,length_append->zo,length_take->zh,eq_nil_of_length_eq_zero->zZ,mem_cons_of_mem->zY,length_cons->zV,getElem?_append_left->zU,length_map->zT,mem_cons_self->zO,getElem?_append_right->zN,not_mem_nil->zK,flatMap_cons->zG,length_drop->zC,mem_append_left->z_,append_assoc->yw,mem_append_right->yh,drop_zero->yg,getElem?_map->yc,length_nil->yY,getElem?_eq_none->yX,length_singleton->yV,take_length->yT,cons_append->yR,nil_append->yJ,mem_singleton->yD,getElem?_drop->xw,replicate_succ->xu,map_congr_left->xM,map_append->xH,getElem?_take->wz,range_succ->wX,getElem?_toArray->wU,getElem?_cons_zero->wS,mem_of_mem_take->wR,size_toArray->wO,all_cons->vY,map_cons->uN,replicate_succ'->uK,mem_of_mem_drop->uJ,set_eq_take_append_cons_drop->uG,drop_drop->uD,getElem?_cons_succ->tK,getElem?_set_self->tC
open Nat renaming le_refl->zq,le_trans->zL,mul_le_mul_right->zD,zero_add->yZ,mul_one->yN,sub_self->yM,lt_of_lt_of_le->xQ,mod_eq_of_lt->wK,add_assoc->wH,zero_le->wF,add_mul->vZ,mod_lt->vX,zero_mul->vM,add_zero->uS,le_mul_of_pos_left->t_
open Option renaming bind_some->zk,map_some->zJ,getD_some->yG
open Option.some renaming injEq->sW
open Prod.mk renaming injEq->sS
namespace Go.TV
open Go.RowKit
inductive V where
 |sc (v:Value)
 |nil
 |junk
 |agg (vs:List V)
 |AX (vs:List V)
 |clo (f:FuncId) (cs:List V)
 |tp (row:List V) (off:Nat)
 |ts (row:List V) (len:Nat)
 |rp (b off:Nat)
 |rs (b off len:Nat)
 deriving Inhabited
def atom:Value->Bool
 | .bool _| .int _ _| .string _| .pointer none| .nilFunc=>true
 |_=>false
structure Loc where
 k:Nat
 o:Nat
 c:Nat
 st:Nat
structure Fv where
 cells:List V
 st:Nat
 wr:Bool
abbrev Store:=Nat->Option Fv
structure Sit where
 Z:Nat->Nat->Prop
 β:Nat->Option Loc
 w:World
def Sit.nb(s:Sit):Sit:={ s with β:=fun _=>none }
mutual
def VR(s:Sit):V->Value->Prop
 | .sc u,x=>x=u/\atom u=true
 | .nil,x=>∃a,x= .slice a 0 0
 | .junk,_=>True
 | .agg vs,x=>∃xs,x= .agg xs/\VRs s vs xs.toList
 | .AX vs,x=>∃xs,x= .tuple xs/\VRs s vs xs.toList
 | .clo f cs,x=>∃xs,x= .func (.func f) #[] xs/\VRs s cs xs.toList
 | .tp row off,x=>∃k o,x= .pointer (some ⟨k,o+off,none⟩)/\Ej s.nb row k o
 | .ts row len,x=>∃a cap,x= .slice a len cap/\len<=cap/\(row=[]\/∃k o,a=some ⟨k,o,none⟩/\Ej s.nb row k o)
 | .rp b off,x=>∃l,s.β b=some l/\x= .pointer (some ⟨l.k,l.o+off,none⟩)
 | .rs b off len,x=>∃l cap,s.β b=some l/\x= .slice (some ⟨l.k,l.o+off,none⟩) len cap/\len<=cap/\off+cap*l.st=l.c
def VRs(s:Sit):List V->List Value->Prop
 |[],xs=>xs=[]
 |v :: vs,xs=>∃y E,xs=y :: E/\VR s v y/\VRs s vs E
def Ej(s:Sit):List V->Nat->Nat->Prop
 |[],_,_=>True
 |v :: vs,k,o=>s.Z k o/\(∃c,s.w.cell? ⟨k,o,none⟩=some c/\VR s v c)/\Ej s vs k (o+1)
end
structure Le (s s':Sit):Prop where
 zz:∀k o,s.Z k o->s'.Z k o
 kz:∀k o,s.Z k o->s'.w.cell? ⟨k,o,none⟩=s.w.cell? ⟨k,o,none⟩
 bb:∀b l,s.β b=some l->s'.β b=some l
theorem Le.refl(s:Sit):Le s s:=⟨fun _ _ h=>h,fun _ _ _=>rfl,fun _ _ h=>h⟩
theorem Le.trans{a b c:Sit}(h:Le a b)(E:Le b c):Le a c :=
 ⟨fun k o z=>E.zz k o (h.zz k o z),fun k o z=>(E.kz k o (h.zz k o z)).trans (h.kz k o z),fun b l e=>E.bb b l (h.bb b l e)⟩
theorem Le.nb{s s':Sit}(h:Le s s'):Le s.nb s'.nb:=⟨h.zz,h.kz,fun _ _ e=>by cases e⟩
theorem Le.ane(s:Sit):Le s.nb s:=⟨fun _ _ z=>z,fun _ _ _=>rfl,fun _ _ e=>by cases e⟩
mutual
theorem sD{s s':Sit}(h:Le s s'):∀(v:V) (x:Value),VR s v x->VR s' v x
 | .sc u,x,hv=>by unfold VR at *;exact hv
 | .nil,x,hv=>by unfold VR at *;exact hv
 | .junk,x,hv=>by unfold VR;trivial
 | .agg vs,x,hv=>by unfold VR at *;obtain⟨xs,e,E⟩:=hv;exact⟨xs,e,Ih h vs _ E⟩
 | .AX vs,x,hv=>by unfold VR at *;obtain⟨xs,e,E⟩:=hv;exact⟨xs,e,Ih h vs _ E⟩
 | .clo f vs,x,hv=>by unfold VR at *;obtain⟨xs,e,E⟩:=hv;exact⟨xs,e,Ih h vs _ E⟩
 | .tp row off,x,hv=>by unfold VR at *;obtain⟨k,o,e,E⟩:=hv;exact⟨k,o,e,rY h.nb row k o E⟩
 | .ts row len,x,hv=>by
  unfold VR at *;obtain⟨a,cap,e,hc,E⟩:=hv;refine⟨a,cap,e,hc,E.imp id ?_⟩;rintro ⟨k,o,e,E⟩;exact⟨k,o,e,rY h.nb row k o E⟩
 | .rp b off,x,hv=>by unfold VR at *;obtain⟨l,e,E⟩:=hv;exact⟨l,h.bb _ _ e,E⟩
 | .rs b off len,x,hv=>by unfold VR at *;obtain⟨l,cap,e,E⟩:=hv;exact⟨l,cap,h.bb _ _ e,E⟩
theorem Ih{s s':Sit}(h:Le s s'):∀(vs:List V) (xs:List Value),VRs s vs xs->VRs s' vs xs
 |[],xs,hv=>by unfold VRs at *;exact hv
 |v :: vs,xs,hv=>by
  unfold VRs at *;obtain⟨y,E,e,G,J⟩:=hv;exact⟨y,E,e,sD h v y G,Ih h vs E J⟩
theorem rY{s s':Sit}(h:Le s s'):∀(vs:List V) (k o:Nat),Ej s vs k o->Ej s' vs k o
 |[],k,o,hv=>by unfold Ej;trivial
 |v :: vs,k,o,hv=>by
  unfold Ej at *;obtain⟨E,⟨c,hc,G⟩,J⟩:=hv;exact⟨h.zz k o E,⟨c,(h.kz k o E).trans hc,sD h v c G⟩,rY h vs k (o+1) J⟩
end
class Known where
 cells:List (Nat×Nat×Option Value)
def Kn[Known](s:Sit):Prop:=∀p∈Known.cells,s.Z p.1 p.2.1/\s.w.cell? ⟨p.1,p.2.1,none⟩=p.2.2
theorem Kn.mono[Known]{s s':Sit}(h:Kn s)(E:Le s s'):Kn s':=fun p hp=>⟨E.zz _ _ (h p hp).1,(E.kz _ _ (h p hp).1).trans (h p hp).2⟩
theorem Kn.same[Known]{s s':Sit}(h:Kn s)(E:∀k o,s.Z k o->s'.Z k o)(hw:s'.w=s.w):Kn s':=fun p hp=>⟨E _ _ (h p hp).1,by rw[hw];exact(h p hp).2⟩
variable [Known]
structure Inv (s:Sit) (σ:Store):Prop where
 blk:∀b B,σ b=some B->∃l c e,s.β b=some l/\s.w.heap[l.k]?=some (.cells c e (0,0))/\l.o+l.c<=c.size/\B.cells.length<=l.c/\l.st=B.st /\
  (∀(i:Nat) (v:V),B.cells[i]?=some v->∃x,c[l.o+i]?=some x/\VR s v x)/\(∀o,s.Z l.k o->B.wr=false/\o<l.o+B.cells.length)/\(1000000<=B.st->e+1000000=B.st/\l.o=0)
 Qj:∀b b' B B' l l',σ b=some B->σ b'=some B'->s.β b=some l->s.β b'=some l'->l.k=l'.k->b=b'
 zb:∀k o,s.Z k o->k<s.w.heap.size
 kn:Kn s
structure U_ (s:Sit) (σ:Store) (s':Sit) (σ':Store):Prop where
 le:Le s s'
 zn:∀k o,s'.Z k o->s.Z k o\/s.w.heap.size<=k\/∃b B l,σ b=some B/\s.β b=some l/\l.k=k
 kb:∀k,k<s.w.heap.size->(∀b B l,σ b=some B->s.β b=some l->l.k≠k)->s'.w.heap[k]?=s.w.heap[k]?
 nb:∀b B l,σ' b=some B->s'.β b=some l->s.w.heap.size<=l.k\/∃b0 B0 l0,σ b0=some B0/\s.β b0=some l0/\l0.k=l.k
 hs:s.w.heap.size<=s'.w.heap.size
 os:s'.w.os=s.w.os
 tape:s'.w.tape=s.w.tape
 output:s'.w.output=s.w.output
theorem U_.refl(s:Sit)(σ:Store):U_ s σ s σ :=
 ⟨.refl s,fun _ _ h=> .inl h,fun _ _ _=>rfl,fun b B l h E=> .inr ⟨b,B,l,h,E,rfl⟩,zq _,rfl,rfl,rfl⟩
theorem U_.trans{a b c:Sit}{σ τ υ:Store}(h:U_ a σ b τ)(G:U_ b τ c υ):U_ a σ c υ:=by
 refine⟨h.le.trans G.le,fun k o hz=>?_,fun k hk hn=>?_,fun i B l hi S=>?_,zL h.hs G.hs,G.os.trans h.os,G.tape.trans h.tape,G.output.trans h.output⟩
 .rcases G.zn k o hz with E|E|⟨i,B,l,E,J,O⟩
  .exact h.zn k o E
  .exact .inr (.inl (zL h.hs E))
  .subst O
   rcases h.nb i B l E J with Y|Y
   .exact .inr (.inl Y)
   .exact .inr (.inr Y)
 .refine(G.kb k (xQ hk h.hs) fun i B l hi S e=>?_).trans (h.kb k hk hn)
  rcases h.nb i B l hi S with E|⟨b0,B0,l0,E,J,O⟩
  .omega
  .exact hn b0 B0 l0 E J (O.trans e)
 .rcases G.nb i B l hi S with E|⟨b0,B0,l0,E,J,O⟩
  .exact .inl (zL h.hs E)
  .rw[<- O]
   exact h.nb b0 B0 l0 E J
theorem U_.below{s s':Sit}{σ':Store}(h:U_ s (fun _=>none) s' σ'):Below s.w.heap.size s.w s'.w :=
 ⟨h.os,h.tape,h.output,h.hs,fun k E=>h.kb k E (fun b B l hb=>by cases hb)⟩
end Go.TV
namespace Go.TV
open Go.RowKit
variable [Known]
def wI{α:Type}(P:Program):Sem α->Option α
 | .pure a=>some a
 | .program k=>wI P (k P)
 | .mark _ k=>wI P k
 |_=>none
theorem dh{α:Type}{P:Program}:∀(m:Sem α) {a:α},wI P m=some a->∀w,m.run P w= .ok a w
 | .pure b,a,h,w=>by simp only[wI,sW]at h;subst h;rfl
 | .program k,a,h,w=>by unfold wI at h;exact dh (k P) h w
 | .mark _ k,a,h,w=>by unfold wI at h;exact dh k h w
 | .load ..,a,h,w=>by simp[wI]at h
 | .store ..,a,h,w=>by simp[wI]at h
 | .new ..,a,h,w=>by simp[wI]at h
 | .shape ..,a,h,w=>by simp[wI]at h
 | .freeze ..,a,h,w=>by simp[wI]at h
 | .frozen ..,a,h,w=>by simp[wI]at h
 | .getObj ..,a,h,w=>by simp[wI]at h
 | .setObj ..,a,h,w=>by simp[wI]at h
 | .choose ..,a,h,w=>by simp[wI]at h
 | .sys ..,a,h,w=>by simp[wI]at h
 | .halt ..,a,h,w=>by simp[wI]at h
def BQ:Value->V
 | .slice _ n m=>if n=0/\m=0 then .nil else .junk
 | .func fn fi ca=>match fn with
  | .func f=>if fi=#[]/\ca=#[]then .clo f []else .junk
  |_=> .junk
 |v=>if atom v then .sc v else .junk
def Hr:Value->V
 | .agg cs=> .agg (cs.toList.map BQ)
 | .tuple vs=> .AX (vs.toList.map BQ)
 |v=>BQ v
def toCell:V->Option Value
 | .sc v=>some v
 |_=>none
def FC:List V->Option (List Value)
 |[]=>some []
 |v :: vs=>match toCell v,FC vs with
  |some x,some xs=>some (x :: xs)
  |_,_=>none
def toVal:V->Option Value
 | .sc v=>some v
 | .agg vs=>(FC vs).map fun xs=> .agg xs.toArray
 |_=>none
def vI:V->Bool
 | .agg _| .AX _| .junk=>false
 |_=>true
def cellsOfV:V->Option (List V)
 | .agg vs=>some vs
 |v=>if vI v then some [v]else none
def upd{α:Type}(f:Nat->α)(i:Nat)(v:α):Nat->α:=fun j=>if j=i then v else f j
theorem Zj{α:Type}(f:Nat->α)(i:Nat)(v:α):upd f i v i=v:=by simp[upd]
theorem Zk{α:Type}(f:Nat->α){i j:Nat}(v:α)(h:j≠i):upd f i v j=f j:=by simp[upd,h]
theorem Zm{α:Type}{f:Nat->α}{i j:Nat}{v:α}(h:j≠i:=by omega):upd f i v j=f j:=Zk f v h
def DN(σ:Store):V->Nat->Option (List V)
 | .tp row off,n=>if off+n<=row.length then some ((row.drop off).take n)else none
 | .rp b off,n=>match σ b with
  |some B=>if off+n<=B.cells.length then some ((B.cells.drop off).take n)else none
  |none=>none
 |_,_=>none
def rowOf(σ:Store)(size:Nat):V->Option (List V×Nat)
 | .nil=>some ([],0)
 | .ts row len=>if row.length=len*size then some (row,len)else none
 | .rs b off len=>match σ b with
  |some B=>if off+len*size<=B.cells.length then some ((B.cells.drop off).take (len*size),len)else none
  |none=>none
 |_=>none
def Hy:TypeDesc->Bool
 | .struct _| .array .. =>true
 |_=>false
def patch(cells:List V)(off:Nat):List V->List V
 |[v]=>cells.set off v
 |vs=>cells.take off++vs++cells.drop (off+vs.length)
theorem iH(cells:List V)(off:Nat)(vs:List V)(h:off+vs.length<=cells.length):patch cells off vs=cells.take off++vs++cells.drop (off+vs.length):=by
 unfold patch
 split
 .rename_i v
  simp only[yV]at h⊢;rw[uG,sO (by omega)];simp
 .rfl
abbrev KF:=Option (V×Store×Nat)
def AZ(P:Program)(σ:Store)(t:TypeId)(a:V):Option V :=
 match P.info? t,P.underlying t with
 |some i,some d=>if Hy d then(DN σ a i.size).map .agg else
  match DN σ a 1 with
  |some [v]=>some v
  |_=>none
 |_,_=>none
def Dv(P:Program)(σ:Store)(t:TypeId)(a v:V):Option Store :=
 match P.info? t,a,cellsOfV v with
 |some i,.rp b off,some vs=>match σ b with
  |some B=>if B.wr=true/\vs.length=i.size/\off+vs.length<=B.cells.length/\vs.all vI=true then
    some (upd σ b (some { B with cells:=patch B.cells off vs }))else none
  |none=>none
 |_,_,_=>none
def Au(σ:Store)(nx:Nat)(cells:List V)(st:Nat):Store:=upd σ nx (some ⟨cells,st,true⟩)
def CV(place:Nat->Option (Nat×Nat))(cells:List V):List (Nat×V)->Option (List V)
 |[]=>some cells
 |(i,v) :: rest=>match place i,cellsOfV v with
  |some (off,size),some vs=>if vs.length=size/\off+vs.length<=cells.length then CV place (patch cells off vs) rest else none
  |_,_=>none
def places(P:Program)(t:TypeId):Option (Nat->Option (Nat×Nat)) :=
 match P.underlying t with
 |some (.struct fields)=>(wI P (fields.mapM fun f=>do pure (f.offset,<- sizeOf f.type))).map fun a i=>a[i]?
 |some (.array _ elem)=>(P.info? elem).map fun e i=>some (i*e.size,e.size)
 |_=>none
def Gh(P:Program)(t:TypeId)(parts:List (Nat×V)):Option V :=
 match P.info? t,places P t with
 |some i,some pl=>match i.zero with
  |some z=>(CV pl (z.cells.toList.map BQ) parts).map .agg
  |none=>none
 |_,_=>none
def rep(n:Nat)(z:List V):List V:=(List.replicate n z).flatten
def Cc(P:Program)(t:TypeId)(len:Nat)(parts:List (Nat×V))(σ:Store)(nx:Nat):KF :=
 match P.underlying t with
 |some (.slice elem)=>match P.info? elem with
  |some i=>match i.zero with
   |some z=>if len=0 then some (.nil,σ,nx)else
    if 0<i.size/\len*i.size<=1000/\z.cells.size=i.size then
     match CV (fun j=>some (j*i.size,i.size)) (rep len (z.cells.toList.map BQ)) parts with
     |some cells=>some (.rs nx 0 len,Au σ nx cells i.size,nx+1)
     |none=>none
    else none
   |none=>none
  |none=>none
 |_=>none
def EZ(P:Program)(t:TypeId)(len cap:V)(σ:Store)(nx:Nat):KF :=
 match P.underlying t,len,cap with
 |some (.slice elem),.sc (.int .i64 l),.sc (.int .i64 c)=>match P.info? elem with
  |some i=>match i.zero with
   |some z=>if 0<=l/\l<=c/\(i.bytes:Int)*c<=281474976710656/\c<=9223372036854775807/\0<i.size/\i.size<1000000/\z.cells.size=i.size then
     some (.rs nx 0 l.toNat,Au σ nx (rep l.toNat (z.cells.toList.map BQ)) i.size,nx+1)else none
   |none=>none
  |none=>none
 |_,_,_=>none
def bnd(x:Option V)(d:Nat):Option Nat :=
 match x with
 |none=>some d
 |some (.sc (.int _ i))=>if 0<=i then some i.toNat else none
 |_=>none
def AY(P:Program)(t:TypeId)(x:V)(lo hi E:Option V)(σ:Store):Option V :=
 match P.underlying t with
 |some .string=>match x with
  | .sc (.string s)=>match bnd lo 0,bnd hi s.size,E with
   |some l,some h,none=>if l<=h/\h<=s.size then some (.sc (.string (s.extract l h)))else none
   |_,_,_=>none
  |_=>none
 |some (.slice elem)=>match P.info? elem,E with
  |some i,none=>match x with
   | .nil=>match bnd lo 0,bnd hi 0 with
    |some l,some h=>if l<=h/\h<=0 then some .nil else none
    |_,_=>none
   | .ts row len=>match bnd lo 0,bnd hi len with
    |some l,some h=>if l<=h/\h<=len then some (.ts ((row.drop (l*i.size)).take ((h-l)*i.size)) (h-l))else none
    |_,_=>none
   | .rs b off len=>match bnd lo 0,bnd hi len,σ b with
    |some l,some h,some B=>if l<=h/\0<i.size/\B.st=i.size/\off+h*i.size<=B.cells.length then
      if l=0 then some (.rs b off h)else if l=h then some (.ts [] 0)else some (.rs b (off+l*i.size) (h-l))else none
    |_,_,_=>none
   |_=>none
  |some _,some m=>match hi with
   |none=>none
   |some _=>match bnd lo 0,bnd hi 0,bnd (some m) 0 with
    |some l,some h,some m=>match x with
     | .ts _ len| .rs _ _ len=>if l<=h/\h<=m/\m<=len then some .junk else none
     |_=>none
    |_,_,_=>none
  |none,_=>none
 |_=>none
def BL(P:Program)(t:TypeId)(x:V)(f:Nat):Option V :=
 match P.underlying t with
 |some (.struct fields)=>match fields[f]? with
  |some fd=>match P.info? fd.type with
   |some i=>if i.size=0 then none else
    match x with
    | .tp row off=>some (.tp row (off+fd.offset))
    | .rp b off=>some (.rp b (off+fd.offset))
    |_=>none
   |none=>none
  |none=>none
 |_=>none
def RY(P:Program)(t:TypeId)(cs:List V)(off:Nat):Option V :=
 match P.info? t,P.underlying t with
 |some i,some d=>if Hy d then some (.agg ((cs.drop off).take i.size))else cs[off]?
 |_,_=>none
def L9(P:Program)(t:TypeId)(x:V)(f:Nat):Option V :=
 match P.underlying t,x with
 |some (.struct fields),.agg cs=>match fields[f]? with
  |some fd=>RY P fd.type cs fd.offset
  |none=>none
 |_,_=>none
def CQ(P:Program)(t:TypeId)(x i:V):Option V :=
 match P.underlying t,i with
 |some (.slice elem),.sc (.int _ i)=>match P.info? elem with
  |some e=>match x with
   | .ts row len=>if 0<=i/\i<len/\row≠[]then some (.tp row (i.toNat *e.size))else none
   | .rs b off len=>if 0<=i/\i<len then some (.rp b (off+i.toNat *e.size))else none
   |_=>none
  |none=>none
 |some (.array n elem),.sc (.int _ i)=>match P.info? elem with
  |some e=>if 0<=i/\i<n then match x with
   | .tp row off=>some (.tp row (off+i.toNat *e.size))
   | .rp b off=>some (.rp b (off+i.toNat *e.size))
   |_=>none
   else none
  |none=>none
 |_,_=>none
def He(P:Program)(t:TypeId)(x i:V):Option V :=
 match x with
 | .sc (.string s)=>match i with
  | .sc (.int _ i)=>match P.underlying t with
   |some .string=>match(if 0<=i then s[i.toNat]? else none)with
    |some b=>some (.sc (.int .u8 b.toNat))
    |none=>none
   |_=>none
  |_=>none
 | .agg cs=>match P.underlying t,i with
  |some (.array n elem),.sc (.int _ i)=>match P.info? elem with
   |some e=>if 0<=i/\i<n then RY P elem cs (i.toNat *e.size)else none
   |none=>none
  |_,_=>none
 |_=>none
def isRef:V->Bool
 | .tp .. | .rp .. =>true
 |_=>false
def GN:V->Bool
 | .sc (.pointer none)=>true
 |_=>false
def Am(P:Program)(op:BinOp)(t:TypeId)(x y:Operand)(a b:V):Option V :=
 match toVal a,toVal b with
 |some u,some v=>(wI P (do eqGuard op t x y u v;binOp op t u v)).bind fun r=>if atom r then some (.sc r)else none
 |_,_=>match P.underlying t,op with
  |some (.pointer _),.eql=>if isRef a && GN b||isRef b && GN a then some (.sc (.bool false))else none
  |some (.pointer _),.neq=>if isRef a && GN b||isRef b && GN a then some (.sc (.bool true))else none
  |_,_=>none
def YK(P:Program)(op:UnOp)(a:V):Option V :=
 match toVal a with
 |some u=>(wI P (Op.unary op u)).bind fun r=>if atom r then some (.sc r)else none
 |none=>none
def BR:List V->Option (List UInt8)
 |[]=>some []
 | .sc (.int .u8 n) :: vs=>if 0<=n/\n<256 then(BR vs).map (UInt8.ofNat n.toNat :: ·)else none
 |_ :: _=>none
def Bv(P:Program)(src dst:TypeId)(a:V)(σ:Store):Option V :=
 match toVal a with
 |some u=>(wI P (convert src dst u)).bind fun r=>if atom r then some (.sc r)else none
 |none=>match P.underlying src,P.underlying dst with
  |some (.slice e),some .string=>match P.underlying e,P.info? e with
   |some (.int .u8),some i=>if i.size=1 then
     match rowOf σ 1 a with
     |some (row,_)=>(BR row).map fun l=> .sc (.string ⟨l.toArray⟩)
     |none=>none
    else none
   |_,_=>none
  |_,_=>none
end Go.TV
namespace Go.TV
open Go.RowKit
variable [Known]
theorem rO{s:Sit}:∀ {vs:List V} {xs:List Value},VRs s vs xs->vs.length=xs.length
 |[],xs,h=>by unfold VRs at h;subst h;rfl
 |v :: vs,xs,h=>by
  unfold VRs at h;obtain⟨y,G,rfl,_,E⟩:=h;simp[rO E]
theorem rP{s:Sit}:∀ {vs:List V} {xs:List Value},VRs s vs xs->∀ {i:Nat} {v:V},vs[i]?=some v->∃x,xs[i]?=some x/\VR s v x
 |[],xs,h,i,v,hv=>by simp at hv
 |w :: vs,xs,h,i,v,hv=>by
  unfold VRs at h;obtain⟨y,S,rfl,E,G⟩:=h;cases i with
  |zero=>simp at hv;subst hv;exact⟨y,rfl,E⟩
  |succ i=>simp at hv;obtain⟨x,J,O⟩:=rP G hv;exact⟨x,by simpa using J,O⟩
theorem rM{s:Sit}:∀ {vs:List V} {xs:List Value},vs.length=xs.length->(∀(i:Nat) (v:V) (x:Value),vs[i]?=some v->xs[i]?=some x->VR s v x)->VRs s vs xs
 |[],xs,hl,_=>by unfold VRs;exact zZ (by simpa using hl.symm)
 |v :: vs,[],hl,_=>by simp at hl
 |v :: vs,x :: xs,hl,h=>by
  unfold VRs;exact⟨x,xs,rfl,h 0 v x rfl rfl,rM (by simpa using hl) fun i u y hu E=>h (i+1) u y (by simpa using hu) (by simpa using E)⟩
theorem rW{s:Sit}{vs us:List V}{xs Y:List Value}(h:VRs s vs xs)(h':VRs s us Y):VRs s (vs++us) (xs++Y):=by
 have hl:=rO h;have O:=rO h';refine rM (by simp[hl,O]) fun i v x G J=>?_
 rcases Nat.lt_or_ge i vs.length with hi|hi
 .rw[zU hi]at G
  rw[zU (by omega)]at J;obtain⟨y,E,S⟩:=rP h G;rw[J]at E;cases E;exact S
 .rw[zN hi]at G
  rw[zN (by omega),<- hl]at J;obtain⟨y,E,S⟩:=rP h' G;rw[J]at E;cases E;exact S
theorem Ii{s:Sit}{vs:List V}{xs:List Value}(h:VRs s vs xs)(n:Nat):VRs s (vs.take n) (xs.take n):=by
 have O:=rO h;refine rM (by simp[O]) fun i v x E G=>?_
 rw[wz]at E G
 split at E
 .rename_i hi
  rw[sO hi]at G;obtain⟨y,J,S⟩:=rP h E;rw[G]at J;cases J;exact S
 .cases E
theorem MZ{s:Sit}{vs:List V}{xs:List Value}(h:VRs s vs xs)(n:Nat):VRs s (vs.drop n) (xs.drop n):=by
 have O:=rO h;refine rM (by simp[O]) fun i v x E G=>?_
 rw[xw]at E G;obtain⟨y,J,S⟩:=rP h E;rw[G]at J;cases J;exact S
theorem Ij{s:Sit}:∀ {row:List V} {k o:Nat},Ej s row k o->∀ {i:Nat} {v:V},row[i]?=some v->s.Z k (o+i)/\∃x,s.w.cell? ⟨k,o+i,none⟩=some x/\VR s v x
 |[],k,o,h,i,v,hv=>by simp at hv
 |w :: vs,k,o,h,i,v,hv=>by
  unfold Ej at h;obtain⟨E,⟨c,hc,G⟩,J⟩:=h;cases i with
  |zero=>simp at hv;subst hv;exact⟨E,c,hc,G⟩
  |succ i=>
   simp at hv;have:=Ij J hv
   rwa [show o+1+i=o+(i+1) by omega]at this
theorem Ik{s:Sit}:∀ {row:List V} {k o:Nat},(∀(i:Nat) (v:V),row[i]?=some v->s.Z k (o+i)/\∃x,s.w.cell? ⟨k,o+i,none⟩=some x/\VR s v x)->Ej s row k o
 |[],k,o,_=>by unfold Ej;trivial
 |v :: vs,k,o,h=>by
  unfold Ej;obtain⟨E,hc⟩:=h 0 v rfl;refine⟨E,hc,Ik fun i u hu=>?_⟩;have:=h (i+1) u (by simpa using hu)
  rwa [show o+1+i=o+(i+1) by omega]
theorem ady{s:Sit}{row:List V}{k o:Nat}(h:Ej s row k o)(n:Nat):Ej s (row.drop n) k (o+n) :=
 Ik fun i v E=>by
  rw[xw]at E;have:=Ij h E
  rwa [show o+n+i=o+(n+i) by omega]
theorem adz{s:Sit}{row:List V}{k o:Nat}(h:Ej s row k o)(n:Nat):Ej s (row.take n) k o :=
 Ik fun i v E=>by
  rw[wz]at E
  split at E
  .exact Ij h E
  .cases E
def Reads(s:Sit)(vs:List V)(k o:Nat):Prop:=∃cs:List Value,VRs s vs cs/\∀(j:Nat) (u:Value),cs[j]?=some u->s.w.cell? ⟨k,o+j,none⟩=some u
theorem Reads.of{s:Sit}{vs:List V}{k o:Nat}(h:∀(i:Nat) (v:V),vs[i]?=some v->∃x,s.w.cell? ⟨k,o+i,none⟩=some x/\VR s v x):Reads s vs k o:=by
 refine⟨(List.range vs.length).map fun i=>(s.w.cell? ⟨k,o+i,none⟩).getD undef,rM (by simp) fun i v x G J=>?_,fun j u hu=>?_⟩
 .have hi:i<vs.length:=(List.getElem?_eq_some_iff.1 G).1
  obtain⟨y,E,S⟩:=h i v G;simp[hi,E]at J;subst J;exact S
 .have O:j<vs.length:=by have:=(List.getElem?_eq_some_iff.1 hu).1;simpa using this
  obtain⟨y,E,_⟩:=h j vs[j] (by simp[O]);simp[O,E]at hu;rw[E,hu]
theorem Reads.tree{s:Sit}{vs:List V}{k o:Nat}(h:Ej s vs k o):Reads s vs k o:=.of fun _ _ E=>(Ij h E).2
theorem RZ{w:World}{k o:Nat}{c:Array Value}{e:TypeId}{fr:Nat×Nat}(h:w.heap[k]?=some (.cells c e fr)):w.cell? ⟨k,o,none⟩=c[o]?:=by
 simp[World.cell?,h]
theorem Inv.reads{s:Sit}{σ:Store}(h:Inv s σ){b:Nat}{B:Fv}(hb:σ b=some B){l:Loc}(G:s.β b=some l):Reads s B.cells l.k l.o:=by
 obtain⟨l',c,e,E,J,_,_,_,O,_⟩:=h.blk b B hb;rw[G]at E;cases E;exact .of fun i v S=>by
  obtain⟨x,Y,hr⟩:=O i v S;exact⟨x,by rw[RZ J];exact Y,hr⟩
theorem Reads.drop{s:Sit}{vs:List V}{k o:Nat}(h:Reads s vs k o)(n:Nat):Reads s (vs.drop n) k (o+n):=by
 obtain⟨cs,E,G⟩:=h;exact⟨cs.drop n,MZ E n,fun j u hu=>by rw[xw]at hu;rw[wH];exact G _ _ hu⟩
theorem Reads.take{s:Sit}{vs:List V}{k o:Nat}(h:Reads s vs k o)(n:Nat):Reads s (vs.take n) k o:=by
 obtain⟨cs,E,G⟩:=h;exact⟨cs.take n,Ii E n,fun j u hu=>by rw[wz]at hu;split at hu;exact G _ _ hu;cases hu⟩
theorem pY{s:Sit}{σ:Store}(hi:Inv s σ){a:V}{x:Value}(E:VR s a x){n:Nat}{vs:List V}(h:DN σ a n=some vs) :
  ∃k o,x= .pointer (some ⟨k,o,none⟩)/\vs.length=n/\Reads s vs k o:=by
 unfold DN at h
 split at h
 .rename_i row off
  split at h
  .rename_i hle
   simp only[sW]at h;subst h;unfold VR at E;obtain⟨k,o,rfl,G⟩:=E;exact⟨k,o+off,rfl,by simp;omega,((Reads.tree (rY (.ane s) _ _ _ G)).drop off).take n⟩
  .cases h
 .rename_i b off
  split at h
  .rename_i B hb
   split at h
   .simp only[sW]at h;subst h
    unfold VR at E;obtain⟨l,J,rfl⟩:=E;exact⟨l.k,l.o+off,rfl,by simp;omega,((hi.reads hb J).drop off).take n⟩
   .cases h
  .cases h
 .cases h
theorem fD{s:Sit}{σ:Store}(hi:Inv s σ){a:V}{x:Value}(E:VR s a x){size:Nat}{row:List V}{len:Nat}(h:rowOf σ size a=some (row,len)) :
  ∃G cap,x= .slice G len cap/\len<=cap/\row.length=len*size/\(row=[]\/∃k o,G=some ⟨k,o,none⟩/\Reads s row k o):=by
 unfold rowOf at h
 split at h
 .simp only[sW,sS]at h;obtain⟨rfl,rfl⟩:=h
  unfold VR at E;obtain⟨a,rfl⟩:=E;exact⟨a,0,rfl,zq _,by simp,.inl rfl⟩
 .split at h
  .rename_i J
   simp only[sW,sS]at h;obtain⟨rfl,rfl⟩:=h;unfold VR at E;obtain⟨G,cap,rfl,hc,O⟩:=E;exact⟨G,cap,rfl,hc,J,O.imp id fun⟨k,o,e,O⟩=>⟨k,o,e,.tree (rY (.ane s) _ _ _ O)⟩⟩
  .cases h
 .rename_i b off S
  split at h
  .rename_i B hb
   split at h
   .simp only[sW,sS]at h;obtain⟨rfl,rfl⟩:=h
    unfold VR at E;obtain⟨l,cap,J,rfl,hc,_⟩:=E;exact⟨_,cap,rfl,hc,by simp;omega,.inr ⟨l.k,l.o+off,rfl,((hi.reads hb J).drop off).take _⟩⟩
   .cases h
  .cases h
 .cases h
theorem Inv.grow{s:Sit}{σ:Store}(h:Inv s σ){w':World}(hb:Below s.w.heap.size s.w w'):Le s { s with w:=w' }/\Inv { s with w:=w' } σ/\U_ s σ { s with w:=w' } σ:=by
 have hle:Le s { s with w:=w' }:=⟨fun _ _ z=>z,fun k o z=>hb.cell (p:=⟨k,o,none⟩) (h.zb k o z),fun _ _ e=>e⟩;refine⟨hle,⟨fun b B O=>?_,h.Qj,fun k o z=>xQ (h.zb k o z) hb.size,h.kn.mono hle⟩,⟨hle,fun k o z=> .inl z,fun k G _=>hb.block k G,fun b B l J E=> .inr ⟨b,B,l,J,E,rfl⟩,hb.size,hb.os,hb.tape,hb.output⟩⟩;obtain⟨l,c,e,J,E,S,Y,h5,h6,h7⟩:=h.blk b B O;have G:l.k<s.w.heap.size:=(Array.getElem?_eq_some_iff.1 E).1;exact⟨l,c,e,J,(hb.block _ G).trans E,S,Y,h5,fun i v hv=>let ⟨x,hx,hr⟩:=h6 i v hv;⟨x,hx,sD hle v x hr⟩,h7⟩
theorem Inv.add{s:Sit}{σ:Store}(h:Inv s σ){nx:Nat}(hn:s.β nx=none){k o cap st:Nat}{c:Array Value}{e:TypeId}{cells:List V}{wr:Bool}(hk:s.w.heap[k]?=some (.cells c e (0,0)))
  (J:∀b B l,σ b=some B->s.β b=some l->l.k≠k) (hz:∀o',s.Z k o'->wr=false/\o'<o+cells.length) (a7:1000000<=st->e+1000000=st/\o=0) (a6:o+cap<=c.size) (hlen:cells.length<=cap)
  (hc:∀(i:Nat) (v:V),cells[i]?=some v->∃x,c[o+i]?=some x/\VR s v x) :
  Le s { s with β:=upd s.β nx (some ⟨k,o,cap,st⟩) }/\Inv { s with β:=upd s.β nx (some ⟨k,o,cap,st⟩) } (upd σ nx (some ⟨cells,st,wr⟩)):=by
 have hle:Le s { s with β:=upd s.β nx (some ⟨k,o,cap,st⟩) }:=⟨fun _ _ z=>z,fun _ _ _=>rfl,fun b l hb=>by
  show upd s.β nx _ b=_;rw[Zk _ _ (fun e=>by rw[e,hn]at hb;cases hb)];exact hb⟩
 refine⟨hle,⟨fun b B hB=>?_,fun b b' B B' l l' hb O hl S Y=>?_,h.zb,h.kn.mono hle⟩⟩
 .by_cases E:b=nx
  .subst E
   rw[Zj]at hB;cases hB;exact⟨⟨k,o,cap,st⟩,c,e,Zj _ _ _,hk,a6,hlen,rfl,fun i v hv=>let ⟨x,hx,hr⟩:=hc i v hv;⟨x,hx,sD hle v x hr⟩,hz,a7⟩
  .rw[Zk _ _ E]at hB
   obtain⟨l,c,e,h1,h2,h3,h4,h5,h6,h7⟩:=h.blk b B hB;exact⟨l,c,e,hle.bb _ _ h1,h2,h3,h4,h5,fun i v hv=>let ⟨x,hx,hr⟩:=h6 i v hv;⟨x,hx,sD hle v x hr⟩,h7⟩
 .by_cases E:b=nx<;>by_cases G:b'=nx
  .rw[E,G]
  .subst E
   rw[Zk _ _ G]at O;have a1:s.β b'=some l':=by simpa only[Zk _ _ G]using S
   have:l=⟨k,o,cap,st⟩:=by simpa only[Zj,sW,eq_comm]using hl
   subst this;exact absurd Y.symm (J b' B' l' O a1)
  .subst G
   rw[Zk _ _ E]at hb;have a1:s.β b=some l:=by simpa only[Zk _ _ E]using hl
   have:l'=⟨k,o,cap,st⟩:=by simpa only[Zj,sW,eq_comm]using S
   subst this;exact absurd Y (J b B l hb a1)
  .rw[Zk _ _ E]at hb
   rw[Zk _ _ G]at O;exact h.Qj b b' B B' l l' hb O (by simpa only[Zk _ _ E]using hl) (by simpa only[Zk _ _ G]using S) Y
def FD(s:Sit)(nx nx':Nat):Prop:=∀i,nx<=i->i<nx'->s.β i=none
def Dom(s s':Sit)(nx nx':Nat):Prop:=∀i,s'.β i≠none->s.β i≠none\/(nx<=i/\i<nx')
theorem Dom.refl(s:Sit)(nx nx':Nat):Dom s s nx nx':=fun _ h=> .inl h
structure Out (s:Sit) (σ:Store) (nx:Nat) (s':Sit) (v:V) (x:Value) (σ':Store) (nx':Nat):Prop where
 vr:VR s' v x
 inv:Inv s' σ'
 Jv:U_ s σ s' σ'
 dom:Dom s s' nx nx'
theorem Out.same{s:Sit}{σ:Store}{nx nx':Nat}{v:V}{x:Value}(hi:Inv s σ)(h:VR s v x):Out s σ nx s v x σ nx':=⟨h,hi,.refl s σ,.refl s nx nx'⟩
theorem rF{s:Sit}{σ:Store}(hi:Inv s σ){nx:Nat}(hn:FD s nx (nx+1)){w1:World}(Y:Below s.w.heap.size s.w w1)(a1:w1.heap.size=s.w.heap.size)(cells:List V)(st cap:Nat)(e:TypeId)(c:Array Value)
  (b2:cap=c.size) (a6:1000000<=st->e+1000000=st) (hlen:cells.length<=cap) (hc:∀(i:Nat) (v:V),cells[i]?=some v->∃x,c[i]?=some x/\VR s v x) :
  ∃s':Sit,s'.w=w1.alloc (.cells c e)/\s'.β nx=some ⟨s.w.heap.size,0,cap,st⟩/\Inv s' (Au σ nx cells st)/\U_ s σ s' (Au σ nx cells st)/\Dom s s' nx (nx+1):=by
 have hb:Below s.w.heap.size s.w (w1.alloc (.cells c e)):=Y.alloc (by omega) _;obtain⟨hle,hinv,R_⟩:=hi.grow hb;have a7:s.β nx=none:=hn nx (zq _) (by omega);have G:∀b B l,σ b=some B->s.β b=some l->l.k≠s.w.heap.size:=fun b B l J S=>by
  obtain⟨l',c,e,h3,h4,_⟩:=hi.blk b B J;rw[S]at h3;cases h3;have:=(Array.getElem?_eq_some_iff.1 h4).1;omega
 obtain⟨O,a8⟩:=hinv.add (nx:=nx) a7 (k:=s.w.heap.size) (o:=0) (cap:=cap) (st:=st) (c:=c) (e:=e) (cells:=cells) (wr:=true)
  (by show(w1.alloc _).heap[_]?=_;rw[<- a1];exact heap_alloc_new w1 _) G (fun o' z=>absurd (hi.zb _ _ z) (by omega)) (fun h=>⟨a6 h,rfl⟩) (by omega) hlen
  (fun i v hv=>by rw[yZ];obtain⟨x,hx,hr⟩:=hc i v hv;exact⟨x,hx,sD hle v x hr⟩)
 refine⟨_,rfl,Zj _ _ _,a8,⟨hle.trans O,fun k o z=> .inl z,R_.kb,fun b B l J S=>?_,hb.size,hb.os,hb.tape,hb.output⟩,fun i h=>?_⟩
 .by_cases E:b=nx
  .subst E
   have:l=⟨s.w.heap.size,0,cap,st⟩:=by simpa only[Zj,sW,eq_comm]using S
   subst this;exact .inl (zq _)
  .unfold Au at J
   rw[Zk _ _ E]at J;exact .inr ⟨b,B,l,J,by simpa only[Zk _ _ E]using S,rfl⟩
 .by_cases E:i=nx
  .subst E;exact .inr ⟨zq _,by omega⟩
  .exact .inl (by simpa only[Zk _ _ E]using h)
end Go.TV
namespace Go.TV
open Go.RowKit
set_option linter.unusedVariables false
variable [Known]
theorem rZ{s:Sit}{u:Value}(h:atom u=true):VR s (.sc u) u:=by unfold VR;exact⟨rfl,h⟩
theorem JD(s:Sit)(v:Value):VR s (BQ v) v:=by
 unfold BQ
 split
 .split
  .rename_i a n m h;obtain⟨rfl,rfl⟩:=h;unfold VR;exact⟨_,rfl⟩
  .unfold VR;trivial
 .split
  .split
   .rename_i h;obtain⟨rfl,rfl⟩:=h;unfold VR;exact⟨#[],rfl,by unfold VRs;rfl⟩
   .unfold VR;trivial
  .unfold VR;trivial
 .split
  .rename_i h;exact rZ h
  .unfold VR;trivial
theorem Il{s:Sit}(vs:List Value):VRs s (vs.map BQ) vs :=
 rM (by simp) fun i v x E G=>by
  simp only[yc,G,zJ,sW]at E;subst E;exact JD s x
theorem afV(s:Sit)(v:Value):VR s (Hr v) v:=by
 unfold Hr
 split
 .rename_i cs;unfold VR;exact⟨_,rfl,Il _⟩
 .rename_i cs;unfold VR;exact⟨_,rfl,Il _⟩
 .exact JD s _
theorem aC{s:Sit}:∀ {vs:List V} {us xs:List Value},FC vs=some us->VRs s vs xs->xs=us
 |[],us,xs,h,hx=>by simp only[FC,sW]at h;unfold VRs at hx;rw[hx,h]
 |v :: vs,us,xs,h,hx=>by
  unfold VRs at hx;obtain⟨y,Y,rfl,G,J⟩:=hx;unfold FC at h
  split at h
  .rename_i u O E S
   simp only[sW]at h;subst h;rw[aC S J];unfold toCell at E
   split at E
   .simp only[sW]at E;subst E
    unfold VR at G;rw[G.1]
   .cases E
  .cases h
theorem Zx{s:Sit}{v:V}{u x:Value}(h:toVal v=some u)(E:VR s v x):x=u:=by
 unfold toVal at h
 split at h
 .simp only[sW]at h;subst h;unfold VR at E;exact E.1
 .rename_i vs
  unfold VR at E;obtain⟨xs,rfl,G⟩:=E;cases hc:FC vs with
  |none=>rw[hc]at h;cases h
  |some us=>
   rw[hc]at h;simp only[zJ,sW]at h;rw[<- h,<- aC hc G]
 .cases h
theorem M_{s:Sit}{v:V}{x:Value}(E:VR s v x)(h:vI v=true):x.oneCell'=true:=by
 cases v<;>simp only[vI,yE]at h<;>unfold VR at E
 .obtain⟨rfl,ha⟩:=E;cases x<;>simp_all [atom,Value.oneCell']
 .obtain⟨a,rfl⟩:=E;rfl
 .obtain⟨a,rfl,_⟩:=E;rfl
 .obtain⟨a,b,rfl,_⟩:=E;rfl
 .obtain⟨a,b,rfl,_⟩:=E;rfl
 .obtain⟨a,b,rfl,_⟩:=E;rfl
 .obtain⟨a,c,b,rfl,_⟩:=E;rfl
theorem pX{s:Sit}{v:V}{x:Value}{vs:List V}(h:cellsOfV v=some vs)(E:VR s v x):VRs s vs x.cells.toList:=by
 unfold cellsOfV at h
 split at h
 .simp only[sW]at h;subst h
  unfold VR at E;obtain⟨xs,rfl,G⟩:=E;exact G
 .split at h
  .rename_i hc
   simp only[sW]at h;subst h;have J:=M_ E hc;have:x.cells=#[x]:=by cases x<;>simp_all [Value.cells,Value.oneCell']
   rw[this];unfold VRs;exact⟨x,[],rfl,E,by unfold VRs;rfl⟩
  .cases h
theorem ig{s:Sit}{vs:List V}{xs:List Value}(h:VRs s vs xs)(hc:vs.all vI=true):∀u∈xs,u.oneCell'=true:=fun u hu=>by
 obtain⟨i,hi⟩:=List.mem_iff_getElem?.1 hu;have E:i<vs.length:=by rw[rO h];exact(List.getElem?_eq_some_iff.1 hi).1
 obtain⟨x,G,J⟩:=rP h (i:=i) (v:=vs[i]) (by simp[E]);rw[hi]at G;cases G;exact M_ J (List.all_eq_true.1 hc _ (zu E))
section
variable {P:Program}
theorem dw{t:TypeId}{d:TypeDesc}(h:P.underlying t=some d)(w:World):(isAgg t).run P w= .ok (Hy d) w:=by
 cases d<;>simp[isAgg,run_underlying h,Hy]
theorem dZ{t:TypeId}{i:TypeInfo}(h:P.info? t=some i)(w:World):(sizeOf t).run P w= .ok i.size w:=by
 simp[sizeOf,typeInfo,h]
theorem Na{s:Sit}{σ:Store}(hi:Inv s σ){a:V}{x:Value}(hx:VR s a x){t:TypeId}{v:V}(h:AZ P σ t a=some v) :
  ∃y,(Instr.loadAt t x).run P s.w= .ok y s.w/\VR s v y:=by
 unfold AZ at h
 split at h
 .rename_i i d BN A8
  split at h
  .rename_i E
   cases hc:DN σ a i.size with
   |none=>rw[hc]at h;cases h
   |some vs=>
    rw[hc]at h;simp only[zJ,sW]at h;subst h;obtain⟨k,o,rfl,hl,cs,G,J⟩:=pY hi hx hc;have Y:cs.length=i.size:=by rw[<- hl,rO G]
    refine⟨.agg cs.toArray,?_,by unfold VR;exact⟨_,rfl,G⟩⟩;have O:=run_loadCells_list (P:=P) s.w ⟨k,o,none⟩ cs (fun j v hv=>by rw[Addr.add_lit];exact J j v hv);rw[Y]at O;simp[Instr.loadAt,Instr.sureAddr,loadVar,dw A8,E,dZ BN,O]
  .rename_i E
   split at h
   .rename_i u hc
    simp only[sW]at h;subst h;obtain⟨k,o,rfl,hl,cs,G,J⟩:=pY hi hx hc;unfold VRs at G;obtain⟨y,ys,rfl,G,_⟩:=G;refine⟨y,?_,G⟩;have S:=J 0 y rfl;rw[uS]at S;simp[Instr.loadAt,Instr.sureAddr,loadVar,dw A8,E,run_load,S]
   .cases h
 .cases h
theorem dG(w:World)(g:Nat)(cs:Array Value){k:Nat}(h:k≠g):(w.setRow g cs).heap[k]?=w.heap[k]?:=setRow_other w g k cs h
theorem Eb{α:Type}{l vs:List α}{off i:Nat}(h:off+vs.length<=l.length) :
  (l.take off++vs++l.drop (off+vs.length))[i]?=if off<=i/\i<off+vs.length then vs[i-off]? else l[i]?:=by
 rw[yw]
 by_cases E:i<off
 .rw[sQ (by omega),zU (by simp;omega),wz,sO E]
 .rw[zN (by simp;omega)]
  have:(l.take off).length=off:=by simp;omega
  rw[this]
  by_cases G:i<off+vs.length
  .rw[sO ⟨by omega,G⟩,zU (by omega)]
  .rw[sQ (by omega),zN (by omega),xw]
   congr 1;omega
theorem ZR{s:Sit}{σ:Store}(hi:Inv s σ){b:Nat}{B:Fv}(hb:σ b=some B)(hw:B.wr=true){l:Loc}(hl:s.β b=some l){c:Array Value}{e:TypeId}(hk:s.w.heap[l.k]?=some (.cells c e (0,0)))
  {off:Nat} {vs:List V} {xs:List Value} (hr:VRs s vs xs) (Y:off+vs.length<=B.cells.length) :
  let w':=s.w.setRow l.k (c.toList.take (l.o+off)++xs++c.toList.drop (l.o+off+xs.length)).toArray
  Inv { s with w:=w' } (upd σ b (some { B with cells:=B.cells.take off++vs++B.cells.drop (off+vs.length) })) /\
  U_ s σ { s with w:=w' } (upd σ b (some { B with cells:=B.cells.take off++vs++B.cells.drop (off+vs.length) })):=by
 intro w';have hlen:=rO hr;obtain⟨l',c',e',h1,h2,h3,h4,h5,h6,h7⟩:=hi.blk b B hb;rw[hl]at h1;cases h1;rw[hk]at h2;cases h2;have a1:∀o,¬s.Z l.k o:=fun o z=>by rw[(h7.1 o z).1]at hw;cases hw
 have J:∀k o,s.Z k o->w'.cell? ⟨k,o,none⟩=s.w.cell? ⟨k,o,none⟩:=fun k o z=>
  World.cell?_of_block (dG s.w l.k _ (fun e=>a1 o (by rw[<- e];exact z)))
 have hle:Le s { s with w:=w' }:=⟨fun _ _ z=>z,J,fun _ _ e=>e⟩;have a8:w'.heap.size=s.w.heap.size:=by simp[w',World.setRow]
 have c4:c.toList.length=c.size:=yK;have b3:l.o+off+xs.length<=c.toList.length:=by omega
 refine⟨⟨fun b' B' E=>?_,fun b1 b2 B1 B2 l1 l2 b4 b5 b6 b7 b8=>?_,fun k o z=>by show k<w'.heap.size;rw[a8];exact hi.zb k o z,hi.kn.mono hle⟩,⟨hle,fun k o z=> .inl z,fun k c5 hn=>?_,fun b' B' l' E a6=>?_,by show _<=w'.heap.size;omega,rfl,rfl,rfl⟩⟩
 .by_cases G:b'=b
  .subst G
   rw[Zj]at E;simp only[sW]at E;subst E;refine⟨l,_,e,hl,setRow_heap s.w l.k c _ e (0,0) hk,?_,?_,h5,fun i v S=>?_,fun o z=>absurd z (a1 o),h7.2⟩
   .rw[wO];simp only[zo,zh,zC];omega
   .simp only[zo,zh,zC];omega
   .rw[Eb Y]at S
    rw[wU,Eb b3]
    split at S
    .rename_i b9
     rw[sO (by omega)];obtain⟨x,hx,O⟩:=rP hr S;exact⟨x,by rw[show l.o+i - (l.o+off)=i-off by omega];exact hx,sD hle v x O⟩
    .rename_i b9
     rw[sQ (by omega)];obtain⟨x,hx,O⟩:=h6 i v S;exact⟨x,by rw[xZ];exact hx,sD hle v x O⟩
  .rw[Zk _ _ G]at E
   obtain⟨l1,c1,e1,g1,g2,g3,g4,g5,g6,g7⟩:=hi.blk b' B' E;have c0:l1.k≠l.k:=fun e=>G (hi.Qj b' b B' B l1 l E hb g1 hl e)
   exact⟨l1,c1,e1,g1,(dG s.w l.k _ c0).trans g2,g3,g4,g5,fun i v S=>let ⟨x,hx,hr⟩:=g6 i v S;⟨x,hx,sD hle v x hr⟩,g7⟩
 .have q:∀ {i:Nat} {A:Fv},upd σ b (some { B with cells:=B.cells.take off++vs++B.cells.drop (off+vs.length) }) i=some A->∃A',σ i=some A':=fun {i A} h=>by
   by_cases a7:i=b
   .exact⟨B,by rw[a7];exact hb⟩
   .exact⟨A,by rw[Zk _ _ a7]at h;exact h⟩
  obtain⟨A1,c2⟩:=q b4;obtain⟨A2,c3⟩:=q b5;exact hi.Qj b1 b2 A1 A2 l1 l2 c2 c3 b6 b7 b8
 .exact dG s.w l.k _ (fun e=>hn b B l hb hl e.symm)
 .by_cases G:b'=b
  .subst G;exact .inr ⟨b',B,l',hb,a6,rfl⟩
  .rw[Zk _ _ G]at E;exact .inr ⟨b',B',l',E,a6,rfl⟩
theorem Vk{s:Sit}{σ σ':Store}(hi:Inv s σ){a v:V}{x y:Value}(hx:VR s a x)(hy:VR s v y){t:TypeId}(h:Dv P σ t a v=some σ') :
  ∃w',(Instr.storeAt t x y).run P s.w= .ok () w'/\Inv { s with w:=w' } σ'/\U_ s σ { s with w:=w' } σ':=by
 unfold Dv at h
 split at h
 .rename_i i b off vs BN Y
  split at h
  .rename_i B hb
   split at h
   .rename_i hc
    obtain⟨hw,a1,E,J⟩:=hc;simp only[sW]at h;subst h;rw[iH _ _ _ E];unfold VR at hx;obtain⟨l,hl,rfl⟩:=hx;have G:=pX Y hy;have O:=ig G J;obtain⟨l',c,e,h1,h2,h3,h4,h5,h6,h7⟩:=hi.blk b B hb;rw[hl]at h1;cases h1;have hlen:=rO G;have S:=run_storeCells_at P l.k (l.o+off) e y.cells.toList 0 c s.w h2 (by omega) O;rw[uS]at S;have a6:y.cells.size=i.size:=by rw[<- a1,hlen,yK]
    refine⟨_,?_,ZR hi hb hw hl h2 G E⟩;simp[Instr.storeAt,Instr.sureAddr,storeVar,dZ BN,a6,S]
   .cases h
  .cases h
 .cases h
end
end Go.TV
namespace Go.TV
open Go.RowKit
set_option linter.unusedVariables false
variable [Known]
theorem foldl_set{α:Type}:∀(vs:List α) (j off:Nat) (cs:Array α),off+j+vs.length<=cs.size ->
  ((vs.zipIdx j).foldl (fun(cs:Array α) (p:α×Nat)=>cs.setIfInBounds (off+p.2) p.1) cs).toList=cs.toList.take (off+j)++vs++cs.toList.drop (off+j+vs.length)
 |[],j,off,cs,_=>by simp
 |v :: vs,j,off,cs,h=>by
  simp only[zV]at h;rw[List.zipIdx_cons,List.foldl_cons,foldl_set vs (j+1) off _ (by simp;omega)];simp only[Array.toList_setIfInBounds,zV];apply List.ext_getElem?;intro i;have J:(List.take (off+(j+1)) (cs.toList.set (off+j) v)).length=off+(j+1):=by simp;omega
  have E:(List.take (off+j) cs.toList).length=off+j:=by simp;omega
  by_cases O:i<off+j
  .rw[yw,yw,zU (by omega),zU (by omega),wz,wz,sO (by omega),sO O,List.getElem?_set_ne (by omega)]
  .by_cases S:i=off+j
   .subst S
    rw[yw,yw,zU (by omega),zN (by omega),wz,sO (by omega),tC (by simp;omega),E];simp
   .rw[yw,yw,zN (l₁:=(cs.toList.set (off+j) v).take (off+(j+1))) (by omega),zN (l₁:=cs.toList.take (off+j)) (by omega),J,E]
    rw[show i - (off+j)=(i - (off+(j+1)))+1 by omega,yR,tK]
    by_cases G:i - (off+(j+1))<vs.length
    .rw[zU G,zU G]
    .rw[zN (l₁:=vs) (by omega),zN (l₁:=vs) (by omega),xw,xw,List.getElem?_set_ne (by omega)]
     congr 1;omega
theorem mV{s:Sit}{place:Nat->Option (Nat×Nat)}:∀ {parts:List (Nat×V)} {ps:List (Nat×Value)} {cells out:List V} {cs:Array Value},
  CV place cells parts=some out->parts.map (·.1)=ps.map (·.1)->(∀(i:Nat) (p:Nat×V) (q:Nat×Value),parts[i]?=some p->ps[i]?=some q->VR s p.2 q.2)->VRs s cells cs.toList ->
  ∃G,Instr.fill place cs ps=some G/\VRs s out G.toList
 |[],ps,cells,out,cs,h,hm,_,hr=>by
  have:ps=[]:=by simpa using hm.symm
  subst this;simp only[CV,sW]at h;subst h;exact⟨cs,rfl,hr⟩
 |(i,v) :: rest,[],cells,out,cs,h,hm,_,hr=>by simp at hm
 |(i,v) :: rest,(i',y) :: ps,cells,out,cs,h,hm,hp,hr=>by
  simp only[uN,List.cons.injEq]at hm;obtain⟨rfl,hm⟩:=hm;unfold CV at h
  split at h
  .rename_i off size vs S Y
   split at h
   .rename_i hc
    obtain⟨a6,J⟩:=hc;rw[iH _ _ _ J]at h;have hv:=hp 0 (i,v) (i,y) rfl rfl;have O:=pX Y hv;have hl:=rO O;have a1:=rO hr;simp only[yK]at hl a1;have a7:y.cells.size=size:=by omega
    have E:=foldl_set y.cells.toList 0 off cs (by simp;omega);simp only[uS,yK]at E;obtain⟨G,h1,h2⟩:=mV (cs:=y.cells.zipIdx.foldl (fun cs (p:Value×Nat)=>cs.setIfInBounds (off+p.2) p.1) cs) h hm (fun j p q h1 h2=>hp (j+1) p q (by simpa using h1) (by simpa using h2)) (by
     have e:(y.cells.zipIdx.foldl (fun cs (p:Value×Nat)=>cs.setIfInBounds (off+p.2) p.1) cs)=((y.cells.toList.zipIdx 0).foldl (fun(cs:Array Value) (p:Value×Nat)=>cs.setIfInBounds (off+p.2) p.1) cs):=by
      rw[<- Array.foldl_toList,Array.toList_zipIdx]
     rw[e,E,hl];exact rW (rW (Ii hr _) O) (MZ hr _))
    refine⟨G,?_,h2⟩;unfold Instr.fill;simp only[S];rw[sQ (by simp;omega)];exact h1
   .cases h
  .cases h
end Go.TV
namespace Go.TV
open Go.RowKit
set_option linter.unusedVariables false
variable [Known]
section
variable {P:Program}
theorem zeroOf{t:TypeId}{i:TypeInfo}{z:Value}(h:P.info? t=some i)(E:i.zero=some z)(w:World):(zeroValue t).run P w= .ok z w:=by
 simp[zeroValue,typeInfo,h,E]
def isP:V->Bool
 | .sc (.pointer none)=>true
 |_=>false
def isN:V->Bool
 | .nil=>true
 |_=>false
def isB:List V->Bool
 |[v,w]=>isP v && isN w
 |_=>false
def Qk(t:TypeId)(cells:List V):Nat:=if isB cells=true then t+1000000 else 0
theorem afW(t:TypeId)(cells:List V):1000000<=Qk t cells->t+1000000=Qk t cells:=by
 unfold Qk
 split
 .intro _;rfl
 .intro h;omega
theorem Ql{s:Sit}{σ:Store}(hi:Inv s σ){nx:Nat}(hn:FD s nx (nx+1)){t:TypeId}{x:Value}{cells:List V}{st:Nat}(G:1000000<=st->t+1000000=st)(E:VRs s cells x.cells.toList) :
  ∃s' y,(Instr.box t x).run P s.w= .ok y s'.w/\Out s σ nx s' (.rp nx 0) y (Au σ nx cells st) (nx+1):=by
 have J:=rO E;obtain⟨s',O,S,Y,h4,h5⟩:=rF hi hn (w1:=s.w) (Below.refl _ _) rfl cells st x.cells.size t x.cells rfl G (by rw[J,yK];exact zq _)
  (fun i v hv=>by obtain⟨y,hy,E⟩:=rP E hv;exact⟨y,by simpa using hy,E⟩)
 refine⟨s',.pointer (some ⟨s.w.heap.size,0,none⟩),?_,⟨?_,Y,h4,h5⟩⟩
 .rw[O];simp[Instr.box,newVar,newRow]
 .unfold VR;exact⟨_,S,rfl⟩
theorem Vl{s:Sit}{σ:Store}(hi:Inv s σ){nx:Nat}(hn:FD s nx (nx+1)){t:TypeId}{i:TypeInfo}{z:Value}(E:P.info? t=some i)(G:i.zero=some z) :
  ∃s' y,(Instr.alloc t true (.tuple #[])).run P s.w= .ok y s'.w/\Out s σ nx s' (.rp nx 0) y (Au σ nx (z.cells.toList.map BQ) (Qk t (z.cells.toList.map BQ))) (nx+1):=by
 obtain⟨s',y,J,O⟩:=Ql (P:=P) hi hn (t:=t) (x:=z) (afW t _) (Il _);refine⟨s',y,?_,O⟩;rw[<- J];simp[Instr.alloc,Instr.box,zeroOf E G]
theorem Vm{s:Sit}{t:TypeId}{parts:List (Nat×V)}{ps:Array (Nat×Value)}{v:V}(h:Gh P t parts=some v)(hm:parts.map (·.1)=ps.toList.map (·.1))
  (hp:∀(i:Nat) (p:Nat×V) (q:Nat×Value),parts[i]?=some p->ps.toList[i]?=some q->VR s p.2 q.2) :
  ∃y,(Instr.build t ps).run P s.w= .ok y s.w/\VR s v y:=by
 unfold Gh at h
 split at h
 .rename_i i pl BN E
  split at h
  .rename_i z hz
   cases O:CV pl (z.cells.toList.map BQ) parts with
   |none=>rw[O]at h;cases h
   |some out=>
    rw[O]at h;simp only[zJ,sW]at h;subst h;obtain⟨S,h1,h2⟩:=mV (cs:=z.cells) O hm hp (Il _);refine⟨.agg S,?_,by unfold VR;exact⟨_,rfl,h2⟩⟩;unfold places at E
    split at E
    .rename_i fields Y
     cases G:wI P (fields.mapM fun f=>do pure (f.offset,<- sizeOf f.type))with
     |none=>rw[G]at E;cases E
     |some a=>
      rw[G]at E;simp only[zJ,sW]at E;subst E;have J:=dh _ G s.w;unfold Instr.build;simp only[Sem.run_bind,zeroOf BN hz,Result.andThen_ok,run_underlying Y,J];simp only[h1];rfl
    .rename_i n elem Y
     cases G:P.info? elem with
     |none=>rw[G]at E;cases E
     |some e=>
      rw[G]at E;simp only[zJ,sW]at E;subst E;unfold Instr.build;simp only[Sem.run_bind,zeroOf BN hz,Result.andThen_ok,run_underlying Y,dZ G];simp only[h1];rfl
    .cases E
  .cases h
 .cases h
theorem Si(cells:List V)(off:Nat)(vs:List V)(h:off+vs.length<=cells.length):(patch cells off vs).length=cells.length:=by
 rw[iH _ _ _ h];simp only[zo,zh,zC];omega
theorem nY{place:Nat->Option (Nat×Nat)}:∀ {parts:List (Nat×V)} {cells out:List V},CV place cells parts=some out->out.length=cells.length
 |[],cells,out,h=>by simp only[CV,sW]at h;rw[h]
 |(i,v) :: rest,cells,out,h=>by
  unfold CV at h
  split at h
  .split at h
   .rename_i hc
    rw[nY h,Si _ _ _ hc.2]
   .cases h
  .cases h
theorem Io(z:List V):∀(n i:Nat),(rep n z)[i]?=if i<n*z.length then z[i%z.length]? else none:=by
 intro n
 induction n with
 |zero=>intro i;simp[rep]
 |succ n E=>
  intro i;have e:rep (n+1) z=z++rep n z:=by simp[rep,xu]
  have G:(n+1)*z.length=z.length+n*z.length:=by rw[vZ];omega
  rw[e,G]
  by_cases hi:i<z.length
  .rw[zU hi,sO (by omega),wK hi]
  .rw[zN (by omega),E]
   by_cases h:i-z.length<n*z.length
   .rw[sO h,sO (by omega),<- Nat.mod_eq_sub_mod (by omega)]
   .rw[sQ h,sQ (by omega)]
theorem jh(z:List V)(n:Nat):(rep n z).length=n*z.length:=by simp[rep]
theorem abZ{s:Sit}{z:Array Value}{size n:Nat}(J:z.size=size)(hs:0<size) :
  VRs s (rep n (z.toList.map BQ)) ((Array.range (n*size)).map (z[·%z.size]!)).toList:=by
 refine rM (by simp[jh,J]) fun i v x E O=>?_
 rw[Io]at E;simp only[zT,yK,J]at E
 split at E
 .rename_i hi
  have G:i%size<z.size:=by rw[J];exact vX _ hs
  simp[hi,J]at O;simp[G]at E;subst O;subst E;rw[getElem!_pos z (i%size) G];exact JD s _
 .cases E
theorem JE{s:Sit}{σ:Store}(hi:Inv s σ){nx nx':Nat}{σ':Store}{t:TypeId}{len:Nat}{parts:List (Nat×V)}{ps:Array (Nat×Value)}{v:V}(h:Cc P t len parts σ nx=some (v,σ',nx'))
  (hn:FD s nx nx') (hm:parts.map (·.1)=ps.toList.map (·.1)) (hp:∀(i:Nat) (p:Nat×V) (q:Nat×Value),parts[i]?=some p->ps.toList[i]?=some q->VR s p.2 q.2) (G:len=0->ps=#[]) :
  ∃s' y,(Instr.buildSlice t len ps).run P s.w= .ok y s'.w/\Out s σ nx s' v y σ' nx':=by
 unfold Cc at h
 split at h
 .rename_i elem A8
  split at h
  .rename_i i S
   split at h
   .rename_i z hz
    split at h
    .rename_i J
     simp only[sW,sS]at h;obtain⟨rfl,rfl,rfl⟩:=h;have:=G J;subst this;subst J;obtain⟨hle,hinv,R_⟩:=hi.grow ((Below.refl _ s.w).alloc (zq _) (.cells #[] elem));refine⟨{ s with w:=s.w.alloc (.cells #[] elem) },.slice (some ⟨s.w.heap.size,0,none⟩) 0 0,?_,⟨by unfold VR;exact⟨_,rfl⟩,hinv,R_,fun i h=> .inl h⟩⟩;unfold Instr.buildSlice;simp[run_underlying A8,dZ S,Instr.fill,newRow,Array.range_zero']
    .rename_i J
     split at h
     .rename_i hc
      obtain⟨Y,a7,O⟩:=hc
      split at h
      .rename_i out hf
       simp only[sW,sS]at h;obtain⟨rfl,rfl,rfl⟩:=h;obtain⟨E,h1,h2⟩:=mV (cs:=(Array.range (len*i.size)).map (z.cells[·%z.cells.size]!)) hf hm hp (abZ O Y);have hl:=rO h2;have a1:E.size=len*i.size:=by
        have h0:=nY hf;have e1:z.cells.toList.length=i.size:=by rw[<- O];exact yK
        have e2:E.toList.length=E.size:=yK;rw[jh,zT,e1]at h0;omega
       obtain⟨s',g1,g2,g3,g4,g5⟩:=rF hi hn (w1:=s.w) (Below.refl _ _) rfl out i.size E.size elem E rfl (by intro h;exfalso;have:=t_ i.size (Nat.pos_of_ne_zero ‹¬len=0›);omega) (by rw[hl,yK];exact zq _)
        (fun i v hv=>by obtain⟨y,hy,hr⟩:=rP h2 hv;exact⟨y,by simpa using hy,hr⟩)
       have a6:¬(len*i.size=0):=by
        intro e;rcases Nat.mul_eq_zero.1 e with e|e<;>omega
       refine⟨s',.slice (some ⟨s.w.heap.size,0,none⟩) len len,?_,⟨?_,g3,g4,g5⟩⟩
       .rw[g1]
        unfold Instr.buildSlice;simp only[Sem.run_bind,run_underlying A8,Result.andThen_ok,dZ S];rw[sQ (by omega)];simp only[Sem.run_bind,Result.andThen_ok,a6,if_false,zeroOf S hz,Sem.run_pure,h1,newRow];simp
       .unfold VR;exact⟨_,_,g2,rfl,zq _,by rw[a1];simp⟩
      .cases h
     .cases h
   .cases h
  .cases h
 .cases h
end
end Go.TV
namespace Go.TV
open Go.RowKit
set_option linter.unusedVariables false
variable [Known]
section
variable {P:Program}
theorem YL{s:Sit}{σ:Store}(hi:Inv s σ){nx nx':Nat}{σ':Store}{t:TypeId}{l c v:V}{xl xc:Value}(h:EZ P t l c σ nx=some (v,σ',nx'))(hn:FD s nx nx')(E:VR s l xl)(G:VR s c xc) :
  ∃s' y,(Instr.makeSlice t xl xc).run P s.w= .ok y s'.w/\Out s σ nx s' v y σ' nx':=by
 unfold EZ at h
 split at h
 .rename_i elem l c A8
  split at h
  .rename_i i BN
   split at h
   .rename_i z hz
    split at h
    .rename_i hc
     obtain⟨h0,a1,a6,a7,a8,b2,J⟩:=hc;simp only[sW,sS]at h;obtain⟨rfl,rfl,rfl⟩:=h;unfold VR at E G;obtain⟨rfl,_⟩:=E;obtain⟨rfl,_⟩:=G;have O:=run_make (P:=P) s.w t elem i z A8 BN hz .i64 .i64 l c h0 a1 a6 a7;have S:=abZ (s:=s) (n:=c.toNat) J a8;have hle:l.toNat<=c.toNat:=by omega
     have e1:z.cells.toList.length=i.size:=by rw[<- J];exact yK
     obtain⟨s',g1,g2,g3,g4,g5⟩:=rF hi hn (w1:=s.w) (Below.refl _ _) rfl (rep l.toNat (z.cells.toList.map BQ)) i.size (c.toNat *i.size) elem (madeCells z.cells (c.toNat *i.size))
      (size_madeCells _ _).symm (by intro h;omega) (by rw[jh,zT,e1];exact zD _ hle) (fun j v Y=>by
       have:(rep c.toNat (z.cells.toList.map BQ))[j]?=some v:=by
        rw[Io]at Y⊢
        split at Y
        .rename_i hj
         rw[sO (xQ hj (zD _ hle))];exact Y
        .cases Y
       obtain⟨y,hy,hr⟩:=rP S this;exact⟨y,by rw[<- hy,xZ];rfl,hr⟩)
     refine⟨s',_,by rw[g1];exact O,⟨?_,g3,g4,g5⟩⟩;unfold VR;exact⟨_,_,g2,rfl,hle,by simp⟩
    .cases h
   .cases h
  .cases h
 .cases h
theorem qg{s:Sit}{o:Option V}{E:Option Value}{d n:Nat}(h:bnd o d=some n)(J:∀v,o=some v->∃x,E=some x/\VR s v x)(hn:o=none->E=none) :
  (E=none/\n=d)\/∃k i,E=some (.int k i)/\0<=i/\i.toNat=n:=by
 unfold bnd at h
 split at h
 .simp only[sW]at h;exact .inl ⟨hn rfl,h.symm⟩
 .rename_i k i
  split at h
  .rename_i O
   simp only[sW]at h;obtain⟨x,S,G⟩:=J _ rfl;unfold VR at G;exact .inr ⟨k,i,by rw[S,G.1],O,h⟩
  .cases h
 .cases h
theorem eU(isSlice:Bool)(len cap:Nat){lo hi:Option Value}{l h:Nat}(J:(lo=none/\l=0)\/∃k i,lo=some (.int k i)/\0<=i/\i.toNat=l)
  (O:(hi=none/\h=len)\/∃k i,hi=some (.int k i)/\0<=i/\i.toNat=h) (h1:l<=h) (h2:h<=cap) (w:World) :
  (Instr.sliceBounds isSlice len cap lo hi none).run P w= .ok (l,h,cap) w:=by
 rcases O with ⟨rfl,rfl⟩|⟨k,i,rfl,hi0,rfl⟩
 .rcases J with ⟨rfl,rfl⟩|⟨Y,G,rfl,E,rfl⟩
  .simp[Instr.sliceBounds]
  .have:0<=G/\G<=(h:Int):=⟨E,by omega⟩
   simp[Instr.sliceBounds,Instr.sliceBound,asIntOf,this]
 .have S:0<=i/\i<=(cap:Int):=⟨hi0,by omega⟩
  rcases J with ⟨rfl,rfl⟩|⟨Y,G,rfl,E,rfl⟩
  .simp[Instr.sliceBounds,Instr.sliceBound,asIntOf,S]
  .have h3:0<=G/\G<=i:=⟨E,by omega⟩
   have h4:G<=max i 0:=by omega
   simp[Instr.sliceBounds,Instr.sliceBound,asIntOf,S,h3,h4]
theorem KG(len cap:Nat){lo hi mx:Option Value}{l h m:Nat}(J:(lo=none/\l=0)\/∃k i,lo=some (.int k i)/\0<=i/\i.toNat=l)
  (O:∃k i,hi=some (.int k i)/\0<=i/\i.toNat=h) (S:∃k i,mx=some (.int k i)/\0<=i/\i.toNat=m) (h1:l<=h) (h2:h<=m) (h3:m<=cap) (w:World) :
  (Instr.sliceBounds true len cap lo hi mx).run P w= .ok (l,h,m) w:=by
 obtain⟨k,i,rfl,hi0,rfl⟩:=O;obtain⟨k2,j,rfl,Y,rfl⟩:=S;have hh:0<=j/\j<=(cap:Int):=⟨Y,by omega⟩;have E:0<=i/\i<=max j 0:=⟨hi0,by omega⟩;have G:i<=j:=by omega
 rcases J with ⟨rfl,rfl⟩|⟨k',i',rfl,a1,rfl⟩
 .simp[Instr.sliceBounds,Instr.sliceBound,asIntOf,hh,E,G]
 .have h5:0<=i'/\i'<=i:=⟨a1,by omega⟩
  have h6:i'<=max i 0:=by omega
  simp[Instr.sliceBounds,Instr.sliceBound,asIntOf,hh,E,G,h5,h6]
theorem Qm{s:Sit}{a:Option Addr}{cap:Nat}:VR s (.ts [] 0) (.slice a 0 cap):=by
 unfold VR;exact⟨a,cap,rfl,wF _,.inl rfl⟩
theorem Vo{v:V}{d n:Nat}(h:bnd (some v) d=some n):∃k i,v= .sc (.int k i)/\0<=i/\i.toNat=n:=by
 unfold bnd at h
 split at h
 .rename_i e;cases e
 .rename_i k i e
  cases e
  split at h
  .rename_i E;simp only[sW]at h;exact⟨k,i,rfl,E,h⟩
  .cases h
 .cases h
theorem Vp{s:Sit}{σ:Store}(hi:Inv s σ){t:TypeId}{x:V}{lo b3 mx:Option V}{v:V}{y:Value}{b4 b5 b6:Option Value}(h:AY P t x lo b3 mx σ=some v)(E:VR s x y)
  (G:∀v,lo=some v->∃x,b4=some x/\VR s v x) (J:lo=none->b4=none) (O:∀v,b3=some v->∃x,b5=some x/\VR s v x) (a7:b3=none->b5=none)
  (e0:∀v,mx=some v->∃x,b6=some x/\VR s v x) (c0:mx=none->b6=none) :
  ∃z,(Instr.sliceAt t y b4 b5 b6).run P s.w= .ok z s.w/\VR s v z:=by
 unfold AY at h
 split at h
 .rename_i A8
  split at h
  .rename_i str
   unfold VR at E;obtain⟨rfl,_⟩:=E
   split at h
   .rename_i l S e1 e2
    have b1:=qg e1 G J;have b2:=qg e2 O a7;have:=c0 rfl;subst this
    split at h
    .rename_i hc
     simp only[sW]at h;subst h;refine⟨.string (str.extract l S),?_,rZ rfl⟩;simp[Instr.sliceAt,run_underlying A8,Instr.slice,eU (P:=P) false str.size str.size b1 b2 hc.1 hc.2]
    .cases h
   .cases h
  .cases h
 .rename_i elem A8
  split at h
  .rename_i i BN
   have:=c0 rfl;subst this
   split at h
   ·-- nil
    unfold VR at E;obtain⟨a,rfl⟩:=E
    split at h
    .rename_i l S e1 e2
     split at h
     .rename_i hc
      simp only[sW]at h;subst h;have b1:=qg e1 G J;have b2:=qg e2 O a7;have hb:=eU (P:=P) true 0 0 b1 b2 hc.1 hc.2 s.w;obtain⟨rfl,rfl⟩:l=0/\S=0:=by omega
      refine⟨.slice a 0 0,?_,by unfold VR;exact⟨a,rfl⟩⟩;simp[Instr.sliceAt,run_underlying A8,Instr.slice,hb,dZ BN]
     .cases h
    .cases h
   ·-- ts
    rename_i row len;unfold VR at E;obtain⟨a,cap,rfl,Y,hr⟩:=E
    split at h
    .rename_i l S e1 e2
     have b1:=qg e1 G J;have b2:=qg e2 O a7
     split at h
     .rename_i hc
      simp only[sW]at h;subst h;have hb:=eU (P:=P) true len cap b1 b2 hc.1 (by omega) s.w;refine⟨.slice (if cap=l then a else a.map (·.add (l*i.size))) (S-l) (cap-l),?_,?_⟩
      .simp[Instr.sliceAt,run_underlying A8,Instr.slice,hb,dZ BN]
      .unfold VR
       refine⟨_,_,rfl,by omega,?_⟩;rcases hr with rfl|⟨k,o,rfl,hr⟩
       .exact .inl (by simp)
       .by_cases he:S=l
        .subst he;exact .inl (by simp)
        .refine .inr ⟨k,o+l*i.size,?_,adz (ady hr _) _⟩
         rw[sQ (by omega)];simp[Addr.add_lit]
     .cases h
    .cases h
   ·-- rs
    rename_i b off len;unfold VR at E;obtain⟨l0,cap,a8,rfl,Y,a1⟩:=E
    split at h
    .rename_i l S B e1 e2 hb
     have b1:=qg e1 G J;have b2:=qg e2 O a7
     split at h
     .rename_i hc
      obtain⟨e4,e5,b7,c2⟩:=hc;obtain⟨l1,c,e,h1,h2,h3,h4,h5,_⟩:=hi.blk b B hb;rw[a8]at h1;cases h1;have a6:S<=cap:=by
       have:S*i.size<=cap*i.size:=by rw[<- b7,<- h5]at c2⊢;omega
       exact Nat.le_of_mul_le_mul_right this e5
      have e6:=eU (P:=P) true len cap b1 b2 e4 a6 s.w;refine⟨.slice (if cap=l then some ⟨l0.k,l0.o+off,none⟩else some ⟨l0.k,l0.o+off+l*i.size,none⟩) (S-l) (cap-l),?_,?_⟩
      .simp only[Instr.sliceAt,Sem.run_bind,run_underlying A8,Result.andThen_ok,Instr.slice,e6,dZ BN,Sem.run_pure,zJ,Addr.add_lit]
      .split at h
       .rename_i hl
        simp only[sW]at h;subst h;subst hl;unfold VR;refine⟨l0,cap,a8,?_,a6,a1⟩;simp
       .split at h
        .rename_i hl c3
         simp only[sW]at h;subst h;subst c3;rw[yM];exact Qm
        .rename_i hl c3
         simp only[sW]at h;subst h;unfold VR;refine⟨l0,cap-l,a8,?_,by omega,?_⟩
         .rw[sQ (by omega),wH]
         .rw[h5,b7,Nat.sub_mul]
          rw[h5,b7]at a1;have:l*i.size<=cap*i.size:=zD _ (by omega);omega
     .cases h
    .cases h
   .cases h
  .rename_i i m BN
   split at h
   .cases h
   .rename_i hv
    split at h
    .rename_i l S m' e1 e2 e3
     obtain⟨x3,c4,b8⟩:=e0 _ rfl;obtain⟨k3,i3,e7,c5,c6⟩:=Vo e3;rw[e7]at b8;unfold VR at b8;obtain⟨rfl,_⟩:=b8;obtain⟨x2,c7,b9⟩:=O _ rfl;obtain⟨k2,i2,e8,c8,c9⟩:=Vo e2;rw[e8]at b9;unfold VR at b9;obtain⟨rfl,_⟩:=b9;have b1:=qg e1 G J
     split at h
     .rename_i row len
      unfold VR at E;obtain⟨a,cap,rfl,Y,hr⟩:=E
      split at h
      .rename_i hc
       simp only[sW]at h;subst h;have hb:=KG (P:=P) len cap b1 ⟨k2,i2,c7,c8,c9⟩ ⟨k3,i3,c4,c5,c6⟩ hc.1 hc.2.1 (by omega) s.w;exact⟨_,by simp only[Instr.sliceAt,Sem.run_bind,run_underlying A8,Result.andThen_ok,Instr.slice,hb,dZ BN,Sem.run_pure];rfl,by unfold VR;trivial⟩
      .cases h
     .rename_i b off len
      unfold VR at E;obtain⟨l0,cap,a8,rfl,Y,a1⟩:=E
      split at h
      .rename_i hc
       simp only[sW]at h;subst h;have hb:=KG (P:=P) len cap b1 ⟨k2,i2,c7,c8,c9⟩ ⟨k3,i3,c4,c5,c6⟩ hc.1 hc.2.1 (by omega) s.w;exact⟨_,by simp only[Instr.sliceAt,Sem.run_bind,run_underlying A8,Result.andThen_ok,Instr.slice,hb,dZ BN,Sem.run_pure];rfl,by unfold VR;trivial⟩
      .cases h
     .cases h
    .cases h
  .cases h
 .cases h
end
end Go.TV
namespace Go.TV
open Go.RowKit
set_option linter.unusedVariables false
set_option linter.unusedSimpArgs false
variable [Known]
section
variable {P:Program}
theorem LJ{s:Sit}{t:TypeId}{x v:V}{y:Value}{f:Nat}(h:BL P t x f=some v)(G:VR s x y) :
  ∃z,(Instr.fieldAt t y f).run P s.w= .ok z s.w/\VR s v z:=by
 unfold BL at h
 split at h
 .rename_i fields J
  split at h
  .rename_i fd E
   split at h
   .rename_i i O
    split at h
    .cases h
    .rename_i hs
     have hp:∀a:Addr,(fieldPlace a fd).run P s.w= .ok (a.add fd.offset) s.w:=fun a=>by simp[fieldPlace,dZ O,hs]
     split at h
     .rename_i row off
      simp only[sW]at h;subst h;unfold VR at G;obtain⟨k,o,rfl,S⟩:=G;refine⟨.pointer (some ⟨k,o+off+fd.offset,none⟩),?_,by unfold VR;exact⟨k,o,by rw[wH],S⟩⟩;simp[Instr.fieldAt,run_underlying J,E,Instr.sureAddr,hp,Addr.add_lit]
     .rename_i b off
      simp only[sW]at h;subst h;unfold VR at G;obtain⟨l,Y,rfl⟩:=G;refine⟨.pointer (some ⟨l.k,l.o+off+fd.offset,none⟩),?_,by unfold VR;exact⟨l,Y,by rw[wH]⟩⟩;simp[Instr.fieldAt,run_underlying J,E,Instr.sureAddr,hp,Addr.add_lit]
     .cases h
   .cases h
  .cases h
 .cases h
theorem Nb{s:Sit}{t:TypeId}{cs:List V}{xs:Array Value}{off:Nat}{v:V}(h:RY P t cs off=some v)(J:VRs s cs xs.toList) :
  ∃z,(part t xs off).run P s.w= .ok z s.w/\VR s v z:=by
 unfold RY at h
 split at h
 .rename_i i d Y O
  split at h
  .rename_i E
   simp only[sW]at h;subst h;refine⟨.agg (xs.extract off (off+i.size)),?_,?_⟩
   .simp[part,dw O,E,dZ Y]
   .unfold VR
    refine⟨_,rfl,?_⟩;have:(xs.extract off (off+i.size)).toList=(xs.toList.drop off).take i.size:=by
     rw[Array.toList_extract,List.extract_eq_take_drop,Nat.add_sub_cancel_left]
    rw[this];exact Ii (MZ J _) _
  .rename_i E
   obtain⟨x,S,G⟩:=rP J h;rw[xZ]at S;exact⟨x,by simp[part,dw O,E,S],G⟩
 .cases h
theorem Vs{s:Sit}{t:TypeId}{x v:V}{y:Value}{f:Nat}(h:L9 P t x f=some v)(J:VR s x y) :
  ∃z,(Instr.field t y f).run P s.w= .ok z s.w/\VR s v z:=by
 unfold L9 at h
 split at h
 .rename_i fields cs O
  split at h
  .rename_i fd E
   unfold VR at J;obtain⟨xs,rfl,S⟩:=J;obtain⟨z,Y,G⟩:=Nb h S;exact⟨z,by simp[Instr.field,run_underlying O,E,asAgg,Y],G⟩
  .cases h
 .cases h
theorem LK{s:Sit}{t:TypeId}{x i v:V}{y yi:Value}(h:CQ P t x i=some v)(E:VR s x y)(hi:VR s i yi) :
  ∃z,(Instr.indexAt t y yi).run P s.w= .ok z s.w/\VR s v z:=by
 unfold CQ at h
 split at h
 .rename_i elem k i J
  unfold VR at hi;obtain⟨rfl,_⟩:=hi
  split at h
  .rename_i e O
   split at h
   .rename_i row len
    split at h
    .rename_i hc
     simp only[sW]at h;subst h;unfold VR at E;obtain⟨a,cap,rfl,S,G⟩:=E;rcases G with G|⟨Y,o,rfl,G⟩
     .exact absurd G hc.2.2
     .refine⟨.pointer (some ⟨Y,o+i.toNat *e.size,none⟩),?_,by unfold VR;exact⟨Y,o,rfl,G⟩⟩
      simp[Instr.indexAt,asIntOf,run_underlying J,hc.1,hc.2.1,dZ O,Addr.add_lit]
    .cases h
   .rename_i b off len
    split at h
    .rename_i hc
     simp only[sW]at h;subst h;unfold VR at E;obtain⟨l,cap,hl,rfl,S,a1⟩:=E;refine⟨.pointer (some ⟨l.k,l.o+off+i.toNat *e.size,none⟩),?_,by unfold VR;exact⟨l,hl,by rw[wH]⟩⟩;simp[Instr.indexAt,asIntOf,run_underlying J,hc.1,hc.2,dZ O,Addr.add_lit]
    .cases h
   .cases h
  .cases h
 .rename_i n elem k i J
  unfold VR at hi;obtain⟨rfl,_⟩:=hi
  split at h
  .rename_i e O
   split at h
   .rename_i hc
    split at h
    .rename_i row off
     simp only[sW]at h;subst h;unfold VR at E;obtain⟨Y,o,rfl,G⟩:=E;refine⟨.pointer (some ⟨Y,o+off+i.toNat *e.size,none⟩),?_,by unfold VR;exact⟨Y,o,by rw[wH],G⟩⟩;simp[Instr.indexAt,asIntOf,run_underlying J,hc.1,hc.2,dZ O,Addr.add_lit,Instr.sureAddr]
    .rename_i b off
     simp only[sW]at h;subst h;unfold VR at E;obtain⟨l,hl,rfl⟩:=E;refine⟨.pointer (some ⟨l.k,l.o+off+i.toNat *e.size,none⟩),?_,by unfold VR;exact⟨l,hl,by rw[wH]⟩⟩;simp[Instr.indexAt,asIntOf,run_underlying J,hc.1,hc.2,dZ O,Addr.add_lit,Instr.sureAddr]
    .cases h
   .cases h
  .cases h
 .cases h
theorem Vt{s:Sit}{t:TypeId}{x i v:V}{y O:Value}(h:He P t x i=some v)(E:VR s x y)(hi:VR s i O) :
  ∃z,(Instr.index t y O).run P s.w= .ok z s.w/\VR s v z:=by
 unfold He at h
 split at h
 .rename_i str
  unfold VR at E;obtain⟨rfl,_⟩:=E
  split at h
  .rename_i k i
   unfold VR at hi;obtain⟨rfl,_⟩:=hi
   split at h
   .rename_i G
    split at h
    .rename_i b hb
     simp only[sW]at h;subst h;refine⟨.int .u8 b.toNat,?_,rZ rfl⟩;simp only[Instr.index,Sem.run_bind,asIntOf,Sem.run_pure,Result.andThen_ok,run_underlying G];rw[hb];simp
    .cases h
   .cases h
  .cases h
 .rename_i cs
  unfold VR at E;obtain⟨xs,rfl,S⟩:=E
  split at h
  .rename_i n elem k i G
   unfold VR at hi;obtain⟨rfl,_⟩:=hi
   split at h
   .rename_i e Y
    split at h
    .rename_i hc
     obtain⟨z,hz,J⟩:=Nb h S;exact⟨z,by simp[Instr.index,asIntOf,run_underlying G,hc.1,hc.2,dZ Y,hz],J⟩
    .cases h
   .cases h
  .cases h
 .cases h
theorem KH{s:Sit}{a:V}{x:Value}(h:isRef a=true)(E:VR s a x):∃p,x= .pointer (some p):=by
 cases a<;>simp only[isRef,yE]at h<;>unfold VR at E
 .obtain⟨k,o,rfl,_⟩:=E;exact⟨_,rfl⟩
 .obtain⟨l,_,rfl⟩:=E;exact⟨_,rfl⟩
theorem Ip{s:Sit}{a:V}{x:Value}(h:GN a=true)(E:VR s a x):x= .pointer none:=by
 unfold GN at h
 split at h
 .unfold VR at E;exact E.1
 .cases h
theorem Hz{t E:TypeId}(h:P.underlying t=some (.pointer E))(p:Addr)(w:World):(Op.equal t (.pointer (some p)) (.pointer none)).run P w= .ok false w:=by
 unfold Op.equal Op.maxDepth;rw[show(10000:Nat)=9999+1 from rfl];unfold Op.equalIn;simp only[Sem.run_bind,run_underlying h,Result.andThen_ok,Sem.run_pure]
theorem HY{t E:TypeId}(h:P.underlying t=some (.pointer E))(p:Addr)(w:World):(Op.equal t (.pointer none) (.pointer (some p))).run P w= .ok false w:=by
 unfold Op.equal Op.maxDepth;rw[show(10000:Nat)=9999+1 from rfl];unfold Op.equalIn;simp only[Sem.run_bind,run_underlying h,Result.andThen_ok,Sem.run_pure,Option.isNone_some]
theorem adB{s:Sit}{op:BinOp}{t:TypeId}{x y:Operand}{a b v:V}{u E:Value}(h:Am P op t x y a b=some v)(ha:VR s a u)(hb:VR s b E) :
  ∃z,(do eqGuard op t x y u E;binOp op t u E:Sem Value).run P s.w= .ok z s.w/\VR s v z:=by
 unfold Am at h
 split at h
 .rename_i p q e1 e2
  rw[Zx e1 ha,Zx e2 hb];cases hp:wI P (do eqGuard op t x y p q;binOp op t p q)with
  |none=>rw[hp]at h;cases h
  |some r=>
   rw[hp]at h;simp only[zk]at h
   split at h
   .rename_i Y
    simp only[sW]at h;subst h;exact⟨r,dh _ hp _,rZ Y⟩
   .cases h
 .have key:∀ {S:TypeId},P.underlying t=some (.pointer S)->(isRef a && GN b||isRef b && GN a)=true ->
      (Op.equal t u E).run P s.w= .ok false s.w/\(∀op,eqGuard op t x y u E=pure ())/\(binOp .eql t u E=do pure (.bool (<- Op.equal t u E)))/\(binOp .neq t u E=do pure (.bool (!(<- Op.equal t u E)))):=by
   intro S O hc;rw[Bool.or_eq_true,zM,zM]at hc;rcases hc with ⟨G,J⟩|⟨G,J⟩
   .obtain⟨p,rfl⟩:=KH G ha
    have:=Ip J hb;subst this;exact⟨Hz O _ _,fun op=>eqGuard_at_pointer op t x y _ _,rfl,rfl⟩
   .obtain⟨p,rfl⟩:=KH G hb
    have:=Ip J ha;subst this;exact⟨HY O _ _,fun op=>eqGuard_at_pointer op t x y _ _,rfl,rfl⟩
  split at h
  .rename_i S O
   split at h
   .rename_i hc
    simp only[sW]at h;subst h;obtain⟨G,J,h3,_⟩:=key O hc;exact⟨.bool false,by simp[J,h3,G],rZ rfl⟩
   .cases h
  .rename_i S O
   split at h
   .rename_i hc
    simp only[sW]at h;subst h;obtain⟨G,J,_,h3⟩:=key O hc;exact⟨.bool true,by simp[J,h3,G],rZ rfl⟩
   .cases h
  .cases h
theorem afZ{s:Sit}{op:UnOp}{a v:V}{u:Value}(h:YK P op a=some v)(ha:VR s a u) :
  ∃z,(Op.unary op u).run P s.w= .ok z s.w/\VR s v z:=by
 unfold YK at h
 split at h
 .rename_i p G
  rw[Zx G ha];cases hp:wI P (Op.unary op p)with
  |none=>rw[hp]at h;cases h
  |some r=>
   rw[hp]at h;simp only[zk]at h
   split at h
   .rename_i E
    simp only[sW]at h;subst h;exact⟨r,dh _ hp _,rZ E⟩
   .cases h
 .cases h
theorem qR{s:Sit}:∀ {row:List V} {xs:List Value} {l:List UInt8},BR row=some l->VRs s row xs->xs=l.map (fun b=>Value.int .u8 b.toNat)
 |[],xs,l,h,hr=>by simp only[BR,sW]at h;subst h;unfold VRs at hr;exact hr
 |v :: vs,xs,l,h,hr=>by
  unfold BR at h
  split at h
  .rename_i e;cases e
  .rename_i n G e
   cases e
   split at h
   .rename_i hn
    cases hb:BR vs with
    |none=>rw[hb]at h;cases h
    |some l'=>
     rw[hb]at h;simp only[zJ,sW]at h;subst h;unfold VRs at hr;obtain⟨y,O,rfl,E,J⟩:=hr;unfold VR at E;obtain⟨rfl,_⟩:=E;rw[qR hb J];simp only[uN,List.cons.injEq,and_true,Value.int.injEq,true_and];simp;omega
   .cases h
  .cases h
theorem foldl_push:∀(l:List UInt8) (r:ByteArray),(l.map (fun b=>(b.toNat:Int))).foldl (fun(r:ByteArray) (n:Int)=>r.push (UInt8.ofNat n.toNat)) r=r++⟨l.toArray⟩
 |[],r=>by
  simp only[List.map_nil,List.foldl_nil];apply ByteArray.ext;simp
 |b :: l,r=>by
  simp only[uN,List.foldl_cons];rw[foldl_push l];apply ByteArray.ext;simp[ByteArray.push]
theorem PK{s:Sit}{σ:Store}(hi:Inv s σ){src dst:TypeId}{a v:V}{u:Value}(h:Bv P src dst a σ=some v)(ha:VR s a u) :
  ∃z,(convert src dst u).run P s.w= .ok z s.w/\VR s v z:=by
 unfold Bv at h
 split at h
 .rename_i p e1
  rw[Zx e1 ha];cases hp:wI P (convert src dst p)with
  |none=>rw[hp]at h;cases h
  |some r=>
   rw[hp]at h;simp only[zk]at h
   split at h
   .rename_i Y
    simp only[sW]at h;subst h;exact⟨r,dh _ hp _,rZ Y⟩
   .cases h
 .split at h
  .rename_i e E G
   split at h
   .rename_i i he BN
    split at h
    .split at h
     .rename_i row len J
      cases hb:BR row with
      |none=>rw[hb]at h;cases h
      |some l=>
       rw[hb]at h;simp only[zJ,sW]at h;subst h;obtain⟨ao,cap,rfl,a6,hlen,hr⟩:=fD hi ha J;refine⟨.string ⟨l.toArray⟩,?_,rZ rfl⟩;rw[run_convert_bytes_string s.w src dst e ao len cap E he G];rcases hr with rfl|⟨k,o,rfl,cs,O,a1⟩
       .simp only[BR,sW]at hb;subst hb
        have:len=0:=by simpa using hlen.symm
        subst this;cases ao with
        |none=>simp[Conv.bytesToString];rfl
        |some a=>
         rw[run_bytesToString s.w a 0 cap [] (by simp[loadCells,loadCellsFrom])];rfl
       .have hx:=qR hb O
        have hl:cs.length=len:=by rw[<- rO O,hlen];simp
        have S:=run_loadCells_list (P:=P) s.w ⟨k,o,none⟩ cs (fun j v hv=>by rw[Addr.add_lit];exact a1 j v hv);rw[hl]at S;rw[run_bytesToString s.w ⟨k,o,none⟩ len cap (l.map fun b=>(b.toNat:Int)) (by rw[S,hx,List.map_map];rfl),foldl_push];simp
     .cases h
    .cases h
   .cases h
  .cases h
end
end Go.TV
namespace Go.TV
open Go.RowKit
set_option linter.unusedVariables false
set_option linter.unusedSimpArgs false
variable [Known]
def Ah(σ:Store)(nx size bytes:Nat)(s:V)(row:List V)(m:Nat):KF :=
 match s with
 | .nil=>if m=0 then some (.nil,σ,nx)else if m<=maxLen/\m*bytes<=140737488355328 then some (.rs nx 0 m,Au σ nx row size,nx+1)else none
 | .rs b off len=>match σ b with
  |some B=>if m=0 then some (.rs b off len,σ,nx)else
   if off+(len+m)*size<=B.cells.length then
    if B.wr=true/\B.st=size/\row.all vI=true then some (.rs b off (len+m),upd σ b (some { B with cells:=patch B.cells (off+len*size) row }),nx)else none
   else if off+len*size=B.cells.length/\B.st=size/\len+m<=maxLen/\(len+m)*bytes<=140737488355328/\row.all vI=true then
    some (.rs nx 0 (len+m),upd (upd σ b none) nx (some ⟨B.cells.drop off++row,size,B.wr⟩),nx+1)
   else none
  |none=>none
 |_=>none
def Ec(P:Program)(ts:Array TypeId)(s x:V)(σ:Store)(nx:Nat):KF :=
 match ts[0]?,ts[1]? with
 |some t,some t2=>match P.underlying t,t2==t with
  |some (.slice elem),true=>match P.info? elem with
   |some i=>match i.zero with
    |some z=>if z.cells.size=i.size/\0<i.size/\i.size<1000000 then
      match rowOf σ i.size x with
      |some (row,m)=>Ah σ nx i.size i.bytes s row m
      |none=>none
     else none
    |none=>none
   |none=>none
  |some (.slice elem),false=>match P.underlying elem,P.underlying t2,P.info? elem with
   |some (.int .u8),some .string,some i=>match i.zero,x with
    |some z,.sc (.string b)=>if z.cells.size=1/\i.size=1 then Ah σ nx 1 i.bytes s (b.data.toList.map fun c=> .sc (.int .u8 c.toNat)) b.size else none
    |_,_=>none
   |_,_,_=>none
  |_,_=>none
 |_,_=>none
theorem Inv.kill{s:Sit}{σ:Store}(h:Inv s σ)(b:Nat):Inv s (upd σ b none)/\U_ s σ s (upd σ b none):=by
 have q:∀ {i:Nat} {A:Fv},upd σ b none i=some A->i≠b/\σ i=some A:=fun {i A} h=>by
  by_cases E:i=b
  .subst E;rw[Zj]at h;cases h
  .exact⟨E,by rw[Zk _ _ E]at h;exact h⟩
 exact⟨⟨fun i B O=>h.blk i B (q O).2,fun b1 S Y B2 l1 l2 G J=>h.Qj b1 S Y B2 l1 l2 (q G).2 (q J).2,h.zb,h.kn⟩,
  ⟨.refl s,fun _ _ z=> .inl z,fun _ _ _=>rfl,fun i B l G J=> .inr ⟨i,B,l,(q G).2,J,rfl⟩,zq _,rfl,rfl,rfl⟩⟩
theorem Inv.freeze{s:Sit}{σ:Store}(h:Inv s σ){b:Nat}{B:Fv}(hb:σ b=some B){wr:Bool}(hw:wr=true->B.wr=true):Inv s (upd σ b (some { B with wr:=wr })):=by
 have q:∀ {i:Nat} {A:Fv},upd σ b (some { B with wr:=wr }) i=some A->∃E,σ i=some E/\A.cells=E.cells/\A.st=E.st/\(A.wr=true->E.wr=true):=fun {i A} h=>by
  by_cases G:i=b
  .subst G;rw[Zj]at h;cases h;exact⟨B,hb,rfl,rfl,hw⟩
  .exact⟨A,by rw[Zk _ _ G]at h;exact h,rfl,rfl,id⟩
 refine⟨fun i A hA=>?_,fun b1 b2 B1 B2 l1 l2 O J=>?_,h.zb,h.kn⟩
 .obtain⟨E,O,J,S,h4⟩:=q hA
  obtain⟨l,c,e,g1,g2,g3,g4,g5,g6,g7⟩:=h.blk i E O;refine⟨l,c,e,g1,g2,g3,by rw[J];exact g4,by rw[S];exact g5,by rw[J];exact g6,fun o z=>?_,by rw[S];exact g7.2⟩;obtain⟨Y,z2⟩:=g7.1 o z;refine⟨?_,by rw[J];exact z2⟩;cases hA:A.wr with
  |false=>rfl
  |true=>rw[h4 hA]at Y;cases Y
 .obtain⟨A1,e1,_⟩:=q O
  obtain⟨A2,e2,_⟩:=q J;exact h.Qj b1 b2 A1 A2 l1 l2 e1 e2
theorem Inv.af0{s:Sit}{σ:Store}(h:Inv s σ){k p:Nat}{c:Array Value}{e:TypeId}(S:s.w.heap[k]?=some (.cells c e (0,0))){xs:List Value}(Y:p+xs.length<=c.size)
  (E:∀b B l,σ b=some B->s.β b=some l->l.k≠k) (hz:∀o,s.Z k o->o<p) :
  let w':=s.w.setRow k (c.toList.take p++xs++c.toList.drop (p+xs.length)).toArray
  Le s { s with w:=w' }/\Inv { s with w:=w' } σ:=by
 intro w';have J:w'.heap[k]?=some (.cells (c.toList.take p++xs++c.toList.drop (p+xs.length)).toArray e (0,0)):=setRow_heap s.w k c _ e (0,0) S;have a1:c.toList.length=c.size:=yK;have hle:Le s { s with w:=w' }:=⟨fun _ _ z=>z,fun k' o z=>by
  by_cases G:k'=k
  .subst G
   have:=hz o z;show w'.cell? _=_;rw[RZ J,RZ S,wU,Eb (by omega),sQ (by omega),xZ]
  .exact World.cell?_of_block (dG s.w k _ G),fun _ _ e=>e⟩
 have O:w'.heap.size=s.w.heap.size:=by simp[w',World.setRow]
 refine⟨hle,⟨fun b B hB=>?_,h.Qj,fun k o z=>by show k<w'.heap.size;rw[O];exact h.zb k o z,h.kn.mono hle⟩⟩;obtain⟨l,c1,e1,g1,g2,g3,g4,g5,g6,g7⟩:=h.blk b B hB;exact⟨l,c1,e1,g1,(dG s.w k _ (E b B l hB g1)).trans g2,g3,g4,g5,fun i v hv=>let ⟨x,hx,hr⟩:=g6 i v hv;⟨x,hx,sD hle v x hr⟩,g7⟩
section
variable {P:Program}
structure Src (P:Program) (u:TypeId) (x:Value) (size m:Nat) (cs:List Value) (w:World):Prop where
 ty:P.underlying u=some .string\/∃e,P.underlying u=some (.slice e)
 len:∀w',(Builtin.lenOf x).run P w'= .ok m w'
 first:∀w':World,w'.heap=w.heap->(Builtin.firstCells size m x).run P w'= .ok cs.toArray w'
theorem Src.str{u:TypeId}(hu:P.underlying u=some .string)(s:ByteArray)(w:World):Src P u (.string s) 1 s.size (s.data.toList.map fun b=>Value.int .u8 b.toNat) w:=by
 refine⟨.inl hu,fun w'=>by simp[Builtin.lenOf],fun w' _=>?_⟩;simp[Builtin.firstCells];have hs:s.size=(Array.map (fun b:UInt8=>Value.int IntKind.u8 (b.toNat:Int)) s.data).size:=by rw[Array.size_map];rfl
 have E:(Array.map (fun b:UInt8=>Value.int IntKind.u8 (b.toNat:Int)) s.data).extract 0 s.size=Array.map (fun b:UInt8=>Value.int IntKind.u8 (b.toNat:Int)) s.data:=by
  rw[hs,Array.extract_size]
 first|exact E|(apply Array.ext';simp)
theorem fA{w:World}{t u ty e:TypeId}{i:TypeInfo}(ht:P.underlying t=some (.slice e))(hi:P.info? e=some i)
  (g o E G:Nat) (J:Array Value) (e2:TypeId) (hg:w.heap[g]?=some (.cells J e2 (0,0)))
  {x:Value} {m:Nat} {news:List Value} (hs:Src P u x i.size m news w) (h1:∀u∈news,u.oneCell'=true)
  (O:E+m<=G) (S:o+E*i.size+news.length<=J.size) :
  (Builtin.append_ #[t,u] ty #[.slice (some ⟨g,o,none⟩) E G,x]).run P w=
   .ok (.slice (some ⟨g,o,none⟩) (E+m) G) (w.setRow g (J.toList.take (o+E*i.size)++news++J.toList.drop (o+E*i.size+news.length)).toArray):=by
 have Y:=run_storeCells_at P g (o+E*i.size) e2 news 0 J w hg (by simpa using S) h1;simp only[uS]at Y;rcases hs.ty with hu|⟨e',hu⟩<;>simp[Builtin.append_,run_underlying ht,run_underlying hu,sizeOf,typeInfo,hi,hs.len,O,hs.first w rfl,Addr.add_lit,Y]
theorem f_{w:World}{t u ty e:TypeId}{i:TypeInfo}(J:P.underlying t=some (.slice e))(hi:P.info? e=some i)(base:Option Addr)(E G:Nat)(hle:E<=G){x:Value}(hs:Src P u x i.size 0 [] w) :
  (Builtin.append_ #[t,u] ty #[.slice base E G,x]).run P w= .ok (.slice base E G) w:=by
 rcases hs.ty with hu|⟨O,hu⟩<;>cases base<;>simp[Builtin.append_,run_underlying J,run_underlying hu,sizeOf,typeInfo,hi,hs.len,hle,hs.first w rfl,storeCells]
theorem H6{w:World}{t u ty e:TypeId}{i:TypeInfo}{z:Value}(O:P.underlying t=some (.slice e))(hi:P.info? e=some i)(S:i.zero=some z)
  {x:Value} {m:Nat} {news:List Value} (hs:Src P u x i.size m news w) (Y:0<m) (a1:(m:Int)<=9223372036854775807) (a6:m*i.bytes<=281474976710656) :
  (Builtin.append_ #[t,u] ty #[.slice none 0 0,x]).run P w=
   .ok (.slice (some ⟨w.heap.size,0,none⟩) m (grownCap w m 0 e)) (w.drew.alloc (.cells (news.toArray++Builtin.zeroCells z.cells (grownCap w m 0 e-m)) e)):=by
 have hn:m≠0:=by omega
 have E:¬(9223372036854775807<(m:Int)):=by omega
 have G:¬(281474976710656<Builtin.nextslicecap m 0*i.bytes):=by rw[nextslicecap_zero Y];omega
 have hf:=hs.first w.drew rfl;have J:(Builtin.firstCells i.size 0 (.slice none 0 0)).run P w.drew= .ok #[] w.drew:=by simp[Builtin.firstCells]
 rcases hs.ty with hu|⟨e',hu⟩<;>simp[Builtin.append_,run_underlying O,run_underlying hu,sizeOf,typeInfo,zeroValue,hi,S,hs.len,hn,E,G,Question.forced,hf,J,newRow,grownCap]
theorem fB{w:World}{t u ty e:TypeId}{i:TypeInfo}{z:Value}(ht:P.underlying t=some (.slice e))(hi:P.info? e=some i)(hz:i.zero=some z)
  (b:Addr) (E G:Nat) (J:List Value) (Y:J.length=E*i.size) (holds:∀(j:Nat) (u:Value),J[j]?=some u->w.cell? (b.add j)=some u)
  {x:Value} {m:Nat} {news:List Value} (hs:Src P u x i.size m news w)
  (hg:G<E+m) (a7:((E+m:Nat):Int)<=9223372036854775807) (a6:Builtin.nextslicecap (E+m) G*i.bytes<=281474976710656) :
  (Builtin.append_ #[t,u] ty #[.slice (some b) E G,x]).run P w=
   .ok (.slice (some ⟨w.heap.size,0,none⟩) (E+m) (grownCap w (E+m) G e))
    (w.drew.alloc (.cells (J.toArray++news.toArray++Builtin.zeroCells z.cells (grownCap w (E+m) G e - (E+m))) e)):=by
 have hn:¬(E+m<=G):=by omega
 have O:¬(9223372036854775807<((E:Int)+(m:Int))):=by omega
 have S:¬(281474976710656<Builtin.nextslicecap (E+m) G*i.bytes):=by omega
 have hf:=hs.first w.drew rfl;have a1:=run_firstCells_some (P:=P) w.drew i.size E b E G J Y (by simpa using holds);rcases hs.ty with hu|⟨e',hu⟩<;>simp[Builtin.append_,run_underlying ht,run_underlying hu,sizeOf,typeInfo,zeroValue,hi,hz,hs.len,hn,O,S,Question.forced,hf,a1,newRow,grownCap]
 all_goals (congr 2;apply Array.ext';simp[yw])
theorem qw{s:Sit}{σ:Store}(hi:Inv s σ){nx nx':Nat}{σ':Store}{t u ty elem:TypeId}{i:TypeInfo}{z:Value}{d v:V}{yd x:Value}{row:List V}{m:Nat}{cs:List Value}(A8:P.underlying t=some (.slice elem))(BN:P.info? elem=some i)(hz:i.zero=some z)(c3:z.cells.size=i.size)(c9:0<i.size)(h5:i.size<1000000)
  (b5:row.length=m*i.size) (S:VRs s row cs) (J:Src P u x i.size m cs s.w) (h:Ah σ nx i.size i.bytes d row m=some (v,σ',nx')) (hn:FD s nx nx') (hd:VR s d yd) :
  ∃s' y,(Builtin.append_ #[t,u] ty #[yd,x]).run P s.w= .ok y s'.w/\Out s σ nx s' v y σ' nx':=by
 have b3:cs.length=m*i.size:=by rw[<- rO S,b5]
 unfold Ah at h
 split at h
 ·-- nil
  unfold VR at hd;obtain⟨a0,rfl⟩:=hd
  split at h
  .rename_i hm
   simp only[sW,sS]at h;obtain⟨rfl,rfl,rfl⟩:=h;subst hm;obtain rfl:cs=[]:=zZ (by rw[b3,vM]);exact⟨s,_,f_ A8 BN a0 0 0 (zq _) J,Out.same hi (by unfold VR;exact⟨_,rfl⟩)⟩
  .rename_i hm
   split at h
   .rename_i hb
    simp only[sW,sS]at h;obtain⟨rfl,rfl,rfl⟩:=h
    .skip
     have e0:m<=9223372036854775807:=by have:=hb.1;unfold maxLen at this;omega
     have E:∃cap,m<=cap/\(Builtin.append_ #[t,u] ty #[.slice a0 0 0,x]).run P s.w=
       .ok (.slice (some ⟨s.w.heap.size,0,none⟩) m cap) (s.w.drew.alloc (.cells (cs.toArray++Builtin.zeroCells z.cells (cap-m)) elem)):=by
      cases a0 with
      |none=>exact⟨_,grownCap_ge s.w m 0 elem,H6 A8 BN hz J (by omega) (by omega) (by omega)⟩
      |some b0=>
       have:=fB (P:=P) (ty:=ty) A8 BN hz b0 0 0 [] (by simp) (by simp) J (by omega) (by omega) (growslice_fits (by omega) (by simpa using hb.2));simp only[yZ,yJ,show(([]:List Value).toArray)=#[]from rfl,Array.empty_append]at this;exact⟨_,by have:=grownCap_ge s.w m 0 elem;omega,this⟩
     obtain⟨cap,Y,E⟩:=E;have a6:(cs.toArray++Builtin.zeroCells z.cells (cap-m)).size=cap*i.size:=by
      rw[Array.size_append,size_zeroCells,c3,wO,b3,<- vZ];congr 1;omega
     obtain⟨s',g1,g2,g3,g4,g5⟩:=rF hi hn (w1:=s.w.drew) (Below.refl _ _).drew rfl row i.size (cap*i.size) elem (cs.toArray++Builtin.zeroCells z.cells (cap-m)) a6.symm (by intro h;omega)
      (by rw[b5];exact zD _ Y) (fun j u hu=>by
       obtain⟨y,hy,hr⟩:=rP S hu;refine⟨y,?_,hr⟩;rw[Array.getElem?_append_left (by rw[wO];exact(List.getElem?_eq_some_iff.1 hy).1),wU];exact hy)
     refine⟨s',_,by rw[g1];exact E,⟨?_,g3,g4,g5⟩⟩;unfold VR;exact⟨_,cap,g2,rfl,Y,by simp⟩
   .cases h
 ·-- rs
  rename_i b off len
  split at h
  .rename_i B hb
   have e3:=hd;unfold VR at hd;obtain⟨l,cap,hl,rfl,Y,a7⟩:=hd;obtain⟨l',c,e,g1,g2,g3,g4,g5,g6,g7⟩:=hi.blk b B hb;rw[hl]at g1;cases g1
   split at h
   .rename_i hm
    simp only[sW,sS]at h;obtain⟨rfl,rfl,rfl⟩:=h;subst hm;obtain rfl:cs=[]:=zZ (by rw[b3,vM]);exact⟨s,_,f_ A8 BN _ len cap Y J,Out.same hi e3⟩
   .rename_i hm
    .skip
     split at h
     .rename_i h4
      split at h
      .rename_i b6
       obtain⟨hw,b7,a8⟩:=b6;simp only[sW,sS]at h;obtain⟨rfl,rfl,rfl⟩:=h;have G:len+m<=cap:=by
        rw[g5,b7]at a7;exact Nat.le_of_mul_le_mul_right (by omega) c9
       have e1:(len+m)*i.size=len*i.size+m*i.size:=vZ _ _ _;have E:=fA (P:=P) (ty:=ty) A8 BN l.k (l.o+off) len cap c e g2 J (ig S a8) G (by omega);have b8:=ZR hi hb hw hl g2 (off:=off+len*i.size) S (by omega);rw[iH _ _ _ (by omega)];simp only[<- wH]at b8 E⊢;refine⟨_,_,E,⟨?_,b8.1,b8.2,fun i h=> .inl h⟩⟩;unfold VR;exact⟨l,cap,hl,rfl,G,a7⟩
      .cases h
     .rename_i h6
      split at h
      .rename_i b6
       obtain⟨e4,b7,c4,b4,a8⟩:=b6;simp only[sW,sS]at h;obtain⟨rfl,rfl,rfl⟩:=h;obtain⟨b9,c0⟩:=hi.kill b;have e5:s.β nx=none:=hn nx (zq _) (by omega);have b2:∀b' B' l',upd σ b none b'=some B'->s.β b'=some l'->l'.k≠l.k:=fun b' B' l' h1 h2 e=>by
        by_cases a1:b'=b
        .subst a1;rw[Zj]at h1;cases h1
        .rw[Zk _ _ a1]at h1;exact a1 (hi.Qj b' b B' B l' l h1 hb h2 hl e)
       by_cases G:len+m<=cap
       ·-- in place
        have e1:(len+m)*i.size=len*i.size+m*i.size:=vZ _ _ _;have e2:(len+m)*i.size<=cap*i.size:=zD _ G;rw[g5,b7]at a7;have E:=fA (P:=P) (ty:=ty) A8 BN l.k (l.o+off) len cap c e g2 J (ig S a8) G (by omega);have e6:=b9.af0 (k:=l.k) (p:=l.o+off+len*i.size) g2 (xs:=cs) (by omega) b2 (fun o' z=>by have:=(g7.1 o' z).2;omega);obtain⟨hle,hinv⟩:=e6;have h7:c.toList.length=c.size:=yK;have e7:=setRow_heap s.w l.k c (c.toList.take (l.o+off+len*i.size)++cs++c.toList.drop (l.o+off+len*i.size+cs.length)).toArray e (0,0) g2;obtain⟨c5,e8⟩:=hinv.add (nx:=nx) e5 (k:=l.k) (o:=l.o+off) (cap:=cap*i.size) (st:=i.size) (cells:=B.cells.drop off++row) (wr:=B.wr) e7 b2
         (fun o' z=>by have:=g7.1 o' z;simp only[zo,zC];exact⟨this.1,by omega⟩) (by intro h;omega)
         (by rw[wO];simp only[zo,zh,zC];omega)
         (by simp only[zo,zC];omega)
         (fun j u hu=>by
          rw[wU,Eb (by omega)]
          by_cases hj:j<(B.cells.drop off).length
          .rw[zU hj,xw]at hu
           simp only[zC]at hj;obtain⟨y,hy,hr⟩:=g6 _ u hu;rw[sQ (by omega),xZ];exact⟨y,by rw[wH];exact hy,sD hle u y hr⟩
          .rw[zN (by omega)]at hu
           simp only[zC]at hj hu;have h8:j - (B.cells.length-off)<row.length:=(List.getElem?_eq_some_iff.1 hu).1;obtain⟨y,hy,hr⟩:=rP S hu;rw[sO (by omega),show l.o+off+j - (l.o+off+len*i.size)=j - (B.cells.length-off) by omega];exact⟨y,hy,sD hle u y hr⟩)
        have e9:(s.w.setRow l.k (c.toList.take (l.o+off+len*i.size)++cs++c.toList.drop (l.o+off+len*i.size+cs.length)).toArray).heap.size=s.w.heap.size:=by simp[World.setRow]
        refine⟨_,_,E,⟨?_,e8,⟨hle.trans c5,fun k o z=> .inl z,fun k' b9 c0=>dG s.w l.k _ (fun e=>c0 b B l hb hl e.symm),fun b' B' l' h1 h2=>?_,by rw[e9];exact zq _,rfl,rfl,rfl⟩,fun j hj=>?_⟩⟩
        .unfold VR;exact⟨_,cap,Zj _ _ _,by simp,G,by simp⟩
        .by_cases O:b'=nx
         .subst O
          have:l'=⟨l.k,l.o+off,cap*i.size,i.size⟩:=by simpa only[Zj,sW,eq_comm]using h2
          subst this;exact .inr ⟨b,B,l,hb,hl,rfl⟩
         .rw[Zk _ _ O]at h1
          by_cases a1:b'=b
          .subst a1;rw[Zj]at h1;cases h1
          .rw[Zk _ _ a1]at h1
           exact .inr ⟨b',B',l',h1,by simpa only[Zk _ _ O]using h2,rfl⟩
        .by_cases O:j=nx
         .subst O;exact .inr ⟨zq _,by omega⟩
         .exact .inl (by simpa only[Zk _ _ O]using hj)
       ·-- new memory
        have hold:((B.cells.drop off).length)=len*i.size:=by simp only[zC];omega
        obtain⟨os,c6,c7⟩:=(hi.reads hb hl).drop off;have c8:os.length=len*i.size:=by rw[<- rO c6,hold]
        have e0:len+m<=9223372036854775807:=by have:=c4;unfold maxLen at this;omega
        have E:=fB (P:=P) (ty:=ty) A8 BN hz ⟨l.k,l.o+off,none⟩ len cap os c8 (fun j v hv=>by rw[Addr.add_lit];exact c7 j v hv) J (by omega) (by omega) (growslice_fits (by omega) b4);have c2:=grownCap_ge s.w (len+m) cap elem;generalize grownCap s.w (len+m) cap elem=gc at E c2;have e1:(len+m)*i.size=len*i.size+m*i.size:=vZ _ _ _;have a6:(os.toArray++cs.toArray++Builtin.zeroCells z.cells (gc - (len+m))).size=gc*i.size:=by
         rw[Array.size_append,Array.size_append,size_zeroCells,c3,wO,wO,b3,c8,<- e1,<- vZ];congr 1;omega
        have h9:(len+m)*i.size<=gc*i.size:=zD _ c2;obtain⟨s',p1,p2,p3,p4,p5⟩:=rF b9 hn (w1:=s.w.drew) (Below.refl _ _).drew rfl (B.cells.drop off++row) i.size (gc*i.size) elem _ a6.symm (by intro h;omega)
         (by simp only[zo,hold,b5];omega) (fun j u hu=>by
          have h0:=rW c6 S;obtain⟨y,hy,hr⟩:=rP h0 hu;refine⟨y,?_,hr⟩;rw[Array.getElem?_append_left (by
           have:=(List.getElem?_eq_some_iff.1 hy).1;simp only[zo]at this;rw[Array.size_append,wO,wO];exact this)]
          simpa using hy)
        have h3:Inv s' (upd (upd σ b none) nx (some ⟨B.cells.drop off++row,i.size,B.wr⟩)):=by
         have:=p3.freeze (b:=nx) (B:=⟨B.cells.drop off++row,i.size,true⟩) (wr:=B.wr) (by unfold Au;rw[Zj]) (fun _=>rfl);have he:upd (Au (upd σ b none) nx (B.cells.drop off++row) i.size) nx (some { cells:=B.cells.drop off++row,st:=i.size,wr:=B.wr })=upd (upd σ b none) nx (some ⟨B.cells.drop off++row,i.size,B.wr⟩):=by
          funext j;unfold Au upd;split<;>rfl
         rw[he]at this;exact this
        have R_:U_ s (upd σ b none) s' (upd (upd σ b none) nx (some ⟨B.cells.drop off++row,i.size,B.wr⟩)):=by
         refine⟨p4.le,p4.zn,p4.kb,fun b' B' l' h1 h2=>?_,p4.hs,p4.os,p4.tape,p4.output⟩
         by_cases O:b'=nx
         .subst O
          exact p4.nb b' ⟨B.cells.drop off++row,i.size,true⟩ l' (by unfold Au;rw[Zj]) h2
         .rw[Zk _ _ O]at h1
          exact p4.nb b' B' l' (by unfold Au;rw[Zk _ _ O];exact h1) h2
        refine⟨s',_,by rw[p1];exact E,⟨?_,h3,c0.trans R_,p5⟩⟩;unfold VR;exact⟨_,gc,p2,rfl,c2,by simp⟩
      .cases h
  .cases h
 .cases h
theorem adC{w w':World}(h:w'.heap=w.heap)(k o:Nat):w'.cell? ⟨k,o,none⟩=w.cell? ⟨k,o,none⟩:=World.cell?_of_block (by rw[h])
theorem Src.slice{u e:TypeId}(hu:P.underlying u=some (.slice e)){G:Option Addr}{m O size:Nat}{cs:List Value}{w:World}(S:0<size)(E:cs.length=m*size)
  (J:cs=[]\/∃k o,G=some ⟨k,o,none⟩/\∀(j:Nat) (v:Value),cs[j]?=some v->w.cell? ⟨k,o+j,none⟩=some v):Src P u (.slice G m O) size m cs w:=by
 refine⟨.inr ⟨e,hu⟩,fun w'=>by simp[Builtin.lenOf],fun w' hw=>?_⟩;rcases J with rfl|⟨k,o,rfl,J⟩
 .have hm:m=0:=by
   rcases Nat.mul_eq_zero.1 (by simpa using E.symm)with e|e<;>omega
  subst hm;cases G<;>simp[Builtin.firstCells,loadCells,loadCellsFrom]
 .exact run_firstCells_some (P:=P) w' size m ⟨k,o,none⟩ m O cs E (fun j v Y=>by rw[Addr.add_lit,adC hw];exact J j v Y)
theorem Sj{s:Sit}{σ:Store}(hi:Inv s σ){nx nx':Nat}{σ':Store}{ts:Array TypeId}{ty:TypeId}{d x v:V}{yd yx:Value}(h:Ec P ts d x σ nx=some (v,σ',nx'))(h2:ts.size=2)(hn:FD s nx nx')(hd:VR s d yd)(hx:VR s x yx) :
  ∃s' y,(Builtin.append_ ts ty #[yd,yx]).run P s.w= .ok y s'.w/\Out s σ nx s' v y σ' nx':=by
 unfold Ec at h
 split at h
 .rename_i t t2 b4 b5
  obtain rfl:ts=#[t,t2]:=by
   apply Array.ext';rcases ts with ⟨l⟩
   rcases l with _|⟨a,_|⟨b,_|⟨c,l⟩⟩⟩<;>simp_all
  split at h
  .rename_i elem A8 a1
   obtain rfl:t=t2:=(by simpa using a1:t2=t).symm
   split at h
   .rename_i i BN
    split at h
    .rename_i z hz
     split at h
     .rename_i hc
      obtain⟨G,J,a6⟩:=hc
      split at h
      .rename_i row m a7
       obtain⟨ao,xc,rfl,b6,O,Y⟩:=fD hi hx a7;rcases Y with rfl|⟨k,o,rfl,cs,E,b3⟩
       .have E:VRs s [] []:=by unfold VRs;rfl
        exact qw hi A8 BN hz G J a6 O E (Src.slice A8 J (by rw[<- O];rfl) (.inl rfl)) h hn hd
       .exact qw hi A8 BN hz G J a6 O E (Src.slice A8 J (by rw[<- rO E,O]) (.inr ⟨k,o,rfl,b3⟩)) h hn hd
      .cases h
     .cases h
    .cases h
   .cases h
  .rename_i elem A8 a1
   split at h
   .rename_i i b7 a8 BN
    split at h
    .rename_i z b hz
     split at h
     .rename_i hc
      obtain⟨G,b2⟩:=hc;unfold VR at hx;obtain⟨rfl,_⟩:=hx;have E:VRs s (b.data.toList.map fun c=>V.sc (.int .u8 c.toNat)) (b.data.toList.map fun c=>Value.int .u8 c.toNat):=by
       generalize b.data.toList=l
       induction l with
       |nil=>unfold VRs;rfl
       |cons c l ih=>unfold VRs;exact⟨_,_,rfl,rZ rfl,ih⟩
      have S:=Src.str a8 b s.w;rw[<- b2]at h S G;exact qw hi A8 BN hz G (by omega) (by omega) (by rw[zT,b2,yN];rfl) E S h hn hd
     .cases h
    .cases h
   .cases h
  .cases h
 .cases h
end
end Go.TV
namespace Go.TV
open Go.RowKit
set_option linter.unusedVariables false
set_option linter.unusedSimpArgs false
variable [Known]
def stripL(f:V->Option (V×List Nat)):List V->Option (List V×List Nat)
 |[]=>some ([],[])
 |v :: vs=>match f v,stripL f vs with
  |some (t,i),some (ts,j)=>some (t :: ts,i++j)
  |_,_=>none
def strip(σ:Store):Nat->V->Option (V×List Nat)
 |0,v=>match v with
  | .sc u=>some (.sc u,[])
  | .nil=>some (.ts [] 0,[])
  | .junk=>some (.junk,[])
  | .tp row off=>some (.tp row off,[])
  | .ts row len=>some (.ts row len,[])
  |_=>none
 |d+1,v=>match v with
  | .sc u=>some (.sc u,[])
  | .nil=>some (.ts [] 0,[])
  | .junk=>some (.junk,[])
  | .tp row off=>some (.tp row off,[])
  | .ts row len=>some (.ts row len,[])
  | .agg vs=>match stripL (strip σ d) vs with
   |some (ts,ids)=>some (.agg ts,ids)
   |none=>none
  | .AX vs=>match stripL (strip σ d) vs with
   |some (ts,ids)=>some (.AX ts,ids)
   |none=>none
  | .clo f vs=>match stripL (strip σ d) vs with
   |some (ts,ids)=>some (.clo f ts,ids)
   |none=>none
  | .rp b off=>match σ b with
   |some B=>match stripL (strip σ d) B.cells with
    |some (ts,ids)=>some (.tp ts off,b :: ids)
    |none=>none
   |none=>none
  | .rs b off len=>match σ b with
   |some B=>if off+len*B.st<=B.cells.length then
     match stripL (strip σ d) ((B.cells.drop off).take (len*B.st))with
     |some (ts,ids)=>some (.ts ts len,b :: ids)
     |none=>none
    else none
   |none=>none
def Covers(s:Sit)(σ:Store)(ids:List Nat)(s':Sit):Prop :=
 s'.w=s.w/\(∀k o,s.Z k o->s'.Z k o)/\∀b∈ids,∀B l,σ b=some B->s.β b=some l->∀i,i<B.cells.length->s'.Z l.k (l.o+i)
theorem Covers.mono{s:Sit}{σ:Store}{ids E:List Nat}{s':Sit}(h:Covers s σ ids s')(hs:∀b∈E,b∈ids):Covers s σ E s' :=
 ⟨h.1,h.2.1,fun b hb=>h.2.2 b (hs b hb)⟩
theorem Covers.anf{s:Sit}{σ:Store}{ids:List Nat}{s':Sit}(h:Covers s σ ids s'):Le s.nb s'.nb :=
 ⟨h.2.1,fun k o _=>by show s'.w.cell? _=s.w.cell? _;rw[h.1],fun _ _ e=>by cases e⟩
theorem aW{s:Sit}{σ:Store}{f:V->Option (V×List Nat)}
  (E:∀(v t:V) (ids:List Nat) (x:Value) (s':Sit),f v=some (t,ids)->VR s v x->Covers s σ ids s'->VR s'.nb t x) :
  ∀ {vs ts:List V} {ids:List Nat} {xs:List Value} {s':Sit},stripL f vs=some (ts,ids)->VRs s vs xs->Covers s σ ids s'->VRs s'.nb ts xs
 |[],ts,ids,xs,s',h,hx,hc=>by
  simp only[stripL,sW,sS]at h;obtain⟨rfl,rfl⟩:=h;unfold VRs at hx⊢;exact hx
 |v :: vs,ts,ids,xs,s',h,hx,hc=>by
  unfold stripL at h
  split at h
  .rename_i t i G j J O
   simp only[sW,sS]at h;obtain⟨rfl,rfl⟩:=h;unfold VRs at hx⊢;obtain⟨y,S,rfl,Y,h2⟩:=hx;exact⟨y,S,rfl,E v t i y s' J Y (hc.mono fun b hb=>z_ _ hb),aW E O h2 (hc.mono fun b hb=>yh _ hb)⟩
  .cases h
theorem aZ{f:V->Option (V×List Nat)}:∀ {vs ts:List V} {ids:List Nat},stripL f vs=some (ts,ids)->ts.length=vs.length
 |[],ts,ids,h=>by simp only[stripL,sW,sS]at h;rw[<- h.1]
 |v :: vs,ts,ids,h=>by
  unfold stripL at h
  split at h
  .rename_i G E
   simp only[sW,sS]at h;rw[<- h.1,zV,aZ E,zV]
  .cases h
theorem rX{s s':Sit}{σ:Store}{ids:List Nat}(hi:Inv s σ)(hc:Covers s σ ids s'){b:Nat}(hb:b∈ids){B:Fv}(J:σ b=some B){l:Loc}(O:s.β b=some l){off n:Nat}{ts:List V}(hn:off+n<=B.cells.length)
  (h:∀xs,VRs s ((B.cells.drop off).take n) xs->VRs s'.nb ts xs) (hlen:ts.length=n):Ej s'.nb ts l.k (l.o+off):=by
 obtain⟨cs,E,G⟩:=((hi.reads J O).drop off).take n;have Y:=h cs E;refine Ik fun i v S=>?_
 have a1:i<n:=by rw[<- hlen];exact(List.getElem?_eq_some_iff.1 S).1
 obtain⟨x,hx,hr⟩:=rP Y S;refine⟨by rw[wH];exact hc.2.2 b hb B l J O (off+i) (by omega),x,?_,hr⟩;show s'.w.cell? _=_;rw[hc.1];exact G i x hx
theorem aP{s:Sit}{σ:Store}(hi:Inv s σ):∀(d:Nat) (v t:V) (ids:List Nat) (x:Value) (s':Sit),strip σ d v=some (t,ids)->VR s v x->Covers s σ ids s'->VR s'.nb t x:=by
 have base:∀(v t:V) (ids:List Nat) (x:Value) (s':Sit),strip σ 0 v=some (t,ids)->VR s v x->Covers s σ ids s'->VR s'.nb t x:=by
  intro v t ids x s' h E hc;unfold strip at h
  split at h<;>first|(simp only[sW,sS]at h;obtain⟨rfl,rfl⟩:=h)|cases h
  .unfold VR at *;exact E
  .unfold VR at E;obtain⟨a,rfl⟩:=E;exact Qm
  .unfold VR;trivial
  .unfold VR at *;obtain⟨k,o,e,G⟩:=E;exact⟨k,o,e,rY hc.anf _ _ _ G⟩
  .unfold VR at *
   obtain⟨a,cap,e,J,G⟩:=E;exact⟨a,cap,e,J,G.imp id fun⟨k,o,e,G⟩=>⟨k,o,e,rY hc.anf _ _ _ G⟩⟩
 intro d
 induction d with
 |zero=>exact base
 |succ d S=>
  intro v t ids x s' h E hc;cases v with
  |sc u=>exact base (.sc u) _ _ _ _ h E hc
  |nil=>exact base (.nil) _ _ _ _ h E hc
  |junk=>exact base (.junk) _ _ _ _ h E hc
  |tp row off=>exact base (.tp row off) _ _ _ _ h E hc
  |ts row len=>exact base (.ts row len) _ _ _ _ h E hc
  |agg vs=>
   simp only[strip]at h
   split at h
   .rename_i ts Em e
    simp only[sW,sS]at h;obtain⟨rfl,rfl⟩:=h;unfold VR at E⊢;obtain⟨xs,rfl,G⟩:=E;exact⟨xs,rfl,aW (fun v t ids x s'=>S v t ids x s') e G hc⟩
   .cases h
  |AX vs=>
   simp only[strip]at h
   split at h
   .rename_i ts Em e
    simp only[sW,sS]at h;obtain⟨rfl,rfl⟩:=h;unfold VR at E⊢;obtain⟨xs,rfl,G⟩:=E;exact⟨xs,rfl,aW (fun v t ids x s'=>S v t ids x s') e G hc⟩
   .cases h
  |clo f vs=>
   simp only[strip]at h
   split at h
   .rename_i ts Em e
    simp only[sW,sS]at h;obtain⟨rfl,rfl⟩:=h;unfold VR at E⊢;obtain⟨xs,rfl,G⟩:=E;exact⟨xs,rfl,aW (fun v t ids x s'=>S v t ids x s') e G hc⟩
   .cases h
  |rp b off=>
   simp only[strip]at h
   split at h
   .rename_i B hB
    split at h
    .rename_i ts Em e
     simp only[sW,sS]at h;obtain⟨rfl,rfl⟩:=h;unfold VR at E⊢;obtain⟨l,hl,rfl⟩:=E;refine⟨l.k,l.o,rfl,?_⟩;have:=rX hi hc (zO) hB hl (off:=0) (n:=B.cells.length) (ts:=ts) (by omega) (fun xs O=>by
      rw[yg,yT]at O;exact aW (fun v t ids x s'=>S v t ids x s') e O (hc.mono fun b hb=>zY _ hb)) (aZ e)
     exact this
    .cases h
   .cases h
  |rs b off len=>
   simp only[strip]at h
   split at h
   .rename_i B hB
    split at h
    .rename_i Y
     split at h
     .rename_i ts Em e
      simp only[sW,sS]at h;obtain⟨rfl,rfl⟩:=h;unfold VR at E⊢;obtain⟨l,cap,hl,rfl,J,a1⟩:=E;refine⟨_,cap,rfl,J,.inr ⟨l.k,l.o+off,rfl,?_⟩⟩;exact rX hi hc (zO) hB hl Y (fun xs O=>aW (fun v t ids x s'=>S v t ids x s') e O (hc.mono fun b hb=>zY _ hb))
       (by rw[aZ e];simp;omega)
     .cases h
    .cases h
   .cases h
def af2(f:V->Bool)(vs:List V):Bool:=vs.all f
def flat:Nat->V->Bool
 |0,v=>match v with
  | .sc _| .nil| .junk=>true
  | .ts row _=>row.isEmpty
  |_=>false
 |d+1,v=>match v with
  | .sc _| .nil| .junk=>true
  | .ts row _=>row.isEmpty
  | .agg vs| .AX vs| .clo _ vs=>af2 (flat d) vs
  |_=>false
theorem mP{s s':Sit}{f:V->Bool}(E:∀(v:V) (x:Value),f v=true->VR s v x->VR s' v x):∀ {vs:List V} {xs:List Value},af2 f vs=true->VRs s vs xs->VRs s' vs xs
 |[],xs,_,h=>by unfold VRs at *;exact h
 |v :: vs,xs,hfl,h=>by
  unfold af2 at hfl;rw[vY,zM]at hfl;unfold VRs at *;obtain⟨y,G,rfl,J,O⟩:=h;exact⟨y,G,rfl,E v y hfl.1 J,mP E hfl.2 O⟩
theorem YM{s s':Sit}:∀(d:Nat) (v:V) (x:Value),flat d v=true->VR s v x->VR s' v x:=by
 have base:∀(v:V) (x:Value),flat 0 v=true->VR s v x->VR s' v x:=by
  intro v x h E;unfold flat at h
  split at h
  .unfold VR at *;exact E
  .unfold VR at *;exact E
  .unfold VR;trivial
  .rename_i row len
   have:row=[]:=by simpa using h
   subst this;unfold VR at *;obtain⟨a,cap,e,hc,_⟩:=E;exact⟨a,cap,e,hc,.inl rfl⟩
  .cases h
 intro d
 induction d with
 |zero=>exact base
 |succ d J=>
  intro v x h E;cases v with
  |sc u=>exact base (.sc u) _ h E
  |nil=>exact base (.nil) _ h E
  |junk=>exact base (.junk) _ h E
  |ts row len=>exact base (.ts row len) _ h E
  |tp row off=>cases h
  |rp b off=>cases h
  |rs b off len=>cases h
  |agg vs=>unfold VR at E⊢;obtain⟨xs,rfl,G⟩:=E;exact⟨xs,rfl,mP (J) h G⟩
  |AX vs=>unfold VR at E⊢;obtain⟨xs,rfl,G⟩:=E;exact⟨xs,rfl,mP (J) h G⟩
  |clo f vs=>unfold VR at E⊢;obtain⟨xs,rfl,G⟩:=E;exact⟨xs,rfl,mP (J) h G⟩
def AL(f:V->Option (List Nat)):List V->Option (List Nat)
 |[]=>some []
 |v :: vs=>match f v,AL f vs with
  |some i,some j=>some (i++j)
  |_,_=>none
def gather(σ:Store):Nat->V->Option (List Nat)
 |0,v=>match v with
  | .sc _| .nil| .junk=>some []
  | .ts row _=>if row.isEmpty then some []else none
  |_=>none
 |d+1,v=>match v with
  | .sc _| .nil| .junk=>some []
  | .ts row _=>if row.isEmpty then some []else none
  | .agg vs| .AX vs| .clo _ vs=>AL (gather σ d) vs
  | .rp b _| .rs b _ _=>match σ b with
   |some B=>match AL (gather σ d) B.cells with
    |some ids=>some (b :: ids)
    |none=>none
   |none=>none
  |_=>none
theorem lS{s s':Sit}{f:V->Option (List Nat)}(E:∀(v:V) (x:Value) ids,f v=some ids->VR s v x->VR s' v x):∀ {vs:List V} {xs:List Value} {ids:List Nat},AL f vs=some ids->VRs s vs xs->VRs s' vs xs
 |[],xs,ids,_,h=>by unfold VRs at *;exact h
 |v :: vs,xs,ids,hg,h=>by
  unfold AL at hg
  split at hg
  .rename_i i j G J
   unfold VRs at *;obtain⟨y,O,rfl,S,Y⟩:=h;exact⟨y,O,rfl,E v y i G S,lS E J Y⟩
  .cases hg
theorem Qo{s s':Sit}{σ:Store}(hb:∀b l,s.β b=some l->s'.β b=some l):∀(d:Nat) (v:V) (x:Value) (ids:List Nat),gather σ d v=some ids->VR s v x->VR s' v x:=by
 have base:∀(v:V) (x:Value) (ids:List Nat),gather σ 0 v=some ids->VR s v x->VR s' v x:=by
  intro v x ids h E;unfold gather at h
  split at h
  .unfold VR at *;exact E
  .unfold VR at *;exact E
  .unfold VR;trivial
  .rename_i row len
   split at h
   .rename_i S
    have:row=[]:=by simpa using S
    subst this;unfold VR at *;obtain⟨a,cap,e,hc,_⟩:=E;exact⟨a,cap,e,hc,.inl rfl⟩
   .cases h
  .cases h
 intro d
 induction d with
 |zero=>exact base
 |succ d J=>
  intro v x ids h E;cases v with
  |sc u=>exact base (.sc u) _ _ h E
  |nil=>exact base (.nil) _ _ h E
  |junk=>exact base (.junk) _ _ h E
  |ts row len=>exact base (.ts row len) _ _ h E
  |tp row off=>cases h
  |rp b off=>unfold VR at E⊢;obtain⟨l,O,e⟩:=E;exact⟨l,hb _ _ O,e⟩
  |rs b off len=>unfold VR at E⊢;obtain⟨l,cap,O,e⟩:=E;exact⟨l,cap,hb _ _ O,e⟩
  |agg vs=>unfold VR at E⊢;obtain⟨xs,rfl,G⟩:=E;exact⟨xs,rfl,lS J h G⟩
  |AX vs=>unfold VR at E⊢;obtain⟨xs,rfl,G⟩:=E;exact⟨xs,rfl,lS J h G⟩
  |clo f vs=>unfold VR at E⊢;obtain⟨xs,rfl,G⟩:=E;exact⟨xs,rfl,lS J h G⟩
theorem lT{σ:Store}{f:V->Option (List Nat)}{d:Nat}
  (S:∀(v:V) ids,f v=some ids->∀b∈ids,∃B d' E,σ b=some B/\AL (gather σ d') B.cells=some E/\∀c∈E,c∈ids) :
  ∀ {vs:List V} {ids:List Nat},AL f vs=some ids->∀b∈ids,∃B d' E,σ b=some B/\AL (gather σ d') B.cells=some E/\∀c∈E,c∈ids
 |[],ids,h,b,hb=>by simp only[AL,sW]at h;subst h;cases hb
 |v :: vs,ids,h,b,hb=>by
  unfold AL at h
  split at h
  .rename_i i j Y e2
   simp only[sW]at h;subst h;rcases List.mem_append.1 hb with hb|hb
   .obtain⟨B,d',E,G,J,O⟩:=S v i Y b hb
    exact⟨B,d',E,G,J,fun c hc=>z_ _ (O c hc)⟩
   .obtain⟨B,d',E,G,J,O⟩:=lT (d:=d) S e2 b hb
    exact⟨B,d',E,G,J,fun c hc=>yh _ (O c hc)⟩
  .cases h
theorem YN{σ:Store}:∀(d:Nat) (v:V) (ids:List Nat),gather σ d v=some ids->∀b∈ids,∃B d' E,σ b=some B/\AL (gather σ d') B.cells=some E/\∀c∈E,c∈ids:=by
 intro d
 induction d with
 |zero=>
  intro v ids h b hb;unfold gather at h
  split at h<;>first|(simp only[sW]at h;subst h;cases hb)|skip
  .split at h
   .simp only[sW]at h;subst h;cases hb
   .cases h
  .cases h
 |succ d G=>
  intro v ids h b hb
  have ref:∀i,(match σ i with
    |some B=>match AL (gather σ d) B.cells with
     |some ids=>some (i :: ids)
     |none=>none
    |none=>none)=some ids->∃B d' E,σ b=some B/\AL (gather σ d') B.cells=some E/\∀c∈E,c∈ids:=by
   intro i h
   split at h
   .rename_i B J
    split at h
    .rename_i E e
     simp only[sW]at h;subst h;rcases List.mem_cons.1 hb with rfl|hb
     .exact⟨B,d,E,J,e,fun c hc=>zY _ hc⟩
     .obtain⟨B',d',O,S,Y,h3⟩:=lT (d:=d) G e b hb
      exact⟨B',d',O,S,Y,fun c hc=>zY _ (h3 c hc)⟩
    .cases h
   .cases h
  cases v with
  |sc u=>simp only[gather,sW]at h;subst h;cases hb
  |nil=>simp only[gather,sW]at h;subst h;cases hb
  |junk=>simp only[gather,sW]at h;subst h;cases hb
  |ts row len=>
   simp only[gather]at h
   split at h
   .simp only[sW]at h;subst h;cases hb
   .cases h
  |tp row off=>simp[gather]at h
  |rp i off=>exact ref i h
  |rs i off len=>exact ref i h
  |agg vs=>exact lT (d:=d) G h b hb
  |AX vs=>exact lT (d:=d) G h b hb
  |clo f vs=>exact lT (d:=d) G h b hb
end Go.TV
namespace Go.TV
open Go.RowKit
set_option linter.unusedVariables false
set_option linter.unusedSimpArgs false
variable [Known]
inductive Conv where
 |inl|own|KI
abbrev Call:=FuncId->List V->Store->Nat->KF
def callable (P:Program) (f:FuncId):Prop:=∃ fn,P.funcs[f]? = some fn/\fn.body.isNone = false/\(fn.name == "runtime.NumGoroutine") = false
def Ey(P:Program)(f:FuncId)(args:List V)(σ:Store)(nx:Nat)(v:V)(σ':Store)(nx':Nat):Prop :=
 nx<=nx'/\callable P f/\∀(s:Sit) (E:List Value),Inv s σ->FD s nx nx'->VRs s args E ->
  Calls P f E.toArray s.w (fun e w'=>∃s' x,s'.w=w'/\e= .returned x/\Out s σ nx s' v x σ' nx')
def DX(P:Program)(call:Call):Prop:=∀f args σ nx v σ' nx',call f args σ nx=some (v,σ',nx')->Ey P f args σ nx v σ' nx'
def DR(σ:Store):List Nat->Store
 |[]=>σ
 |b :: bs=>DR (upd σ b ((σ b).map fun B=>{ B with wr:=false })) bs
theorem Iq:∀(ids:List Nat) (σ:Store) (b:Nat) (B':Fv),DR σ ids b=some B'->∃B,σ b=some B/\B'.cells=B.cells/\B'.st=B.st/\(b∈ids->B'.wr=false)/\(B'.wr=true->B.wr=true)
 |[],σ,b,B',h=>⟨B',h,rfl,rfl,(fun h=>by cases h),id⟩
 |i :: ids,σ,b,B',h=>by
  unfold DR at h;obtain⟨B,E,G,J,S,O⟩:=Iq ids _ b B' h
  by_cases hb:b=i
  .subst hb
   rw[Zj]at E;cases hs:σ b with
   |none=>rw[hs]at E;cases E
   |some A=>
    rw[hs]at E;simp only[zJ,sW]at E;subst E;have hw:B'.wr=false:=by
     cases hw:B'.wr with
     |false=>rfl
     |true=>have:=O hw;cases this
    exact⟨A,rfl,G,J,fun _=>hw,fun h=>by rw[hw]at h;cases h⟩
  .rw[Zk _ _ hb]at E
   exact⟨B,E,G,J,fun hm=>S (by simpa[hb]using hm),O⟩
def Ce(nx:Nat)(σ E:Store)(ids:List Nat):Store:=fun b=>if b<nx then σ b else if b∈ids then E b else none
def pI:Store:=fun _=>none
def depth:Nat:=7
def CO(conv:FuncId->Conv)(call:Call)(f:FuncId)(args:List V)(σ:Store)(nx:Nat):KF :=
 match conv f with
 | .inl=>call f args σ nx
 | .KI=>match stripL (strip σ depth) args with
  |some (ts,ids)=>match call f ts pI 0 with
   |some (v,σ1,_)=>match strip σ1 depth v with
    |some (t,_)=>if ids.isEmpty||flat depth t then some (t,σ,nx)else some (t,DR σ ids,nx)
    |none=>none
   |none=>none
  |none=>none
 | .own=>match stripL (strip σ depth) args with
  |some (ts,_)=>match call f ts pI nx with
   |some (v,σ1,qI)=>match gather σ1 depth v with
    |some ids=>some (v,Ce nx σ σ1 ids,qI)
    |none=>none
   |none=>none
  |none=>none
theorem Inv.none(s:Sit)(h:∀k o,s.Z k o->k<s.w.heap.size)(E:Kn s):Inv s pI:=⟨fun b B h=>(by cases h),fun b b' B B' l l' h=>(by cases h),h,E⟩
def covered(s:Sit)(σ:Store)(ids:List Nat):Sit :=
 ⟨fun k o=>s.Z k o\/∃b,b∈ids/\∃B l,σ b=some B/\s.β b=some l/\l.k=k/\l.o<=o/\o<l.o+B.cells.length,fun _=>none,s.w⟩
theorem oW(s:Sit)(σ:Store)(ids:List Nat):Covers s σ ids (covered s σ ids) :=
 ⟨rfl,fun k o z=> .inl z,fun b hb B l E G i hi=> .inr ⟨b,hb,B,l,E,G,rfl,by omega,by omega⟩⟩
theorem Inv.block_lt{s:Sit}{σ:Store}(h:Inv s σ){b:Nat}{B:Fv}{l:Loc}(hb:σ b=some B)(G:s.β b=some l):l.k<s.w.heap.size:=by
 obtain⟨l',c,e,E,J,_⟩:=h.blk b B hb;rw[G]at E;cases E;exact(Array.getElem?_eq_some_iff.1 J).1
theorem Nc{s:Sit}{σ:Store}(h:Inv s σ)(ids:List Nat):∀k o,(covered s σ ids).Z k o->k<(covered s σ ids).w.heap.size:=by
 rintro k o (z|⟨b,_,B,l,E,G,rfl,_⟩)
 .exact h.zb k o z
 .exact h.block_lt E G
theorem Nh{s:Sit}{σ:Store}(h:Inv s σ){args ts:List V}{ids:List Nat}{E:List Value}(hs:stripL (strip σ depth) args=some (ts,ids))(G:VRs s args E):VRs (covered s σ ids) ts E :=
 aW (s:=s) (σ:=σ) (fun v t ids x s'=>aP h depth v t ids x s') hs G (oW s σ ids)
theorem KJ{f:V->Option (List Nat)}:∀ {vs:List V} {ids:List Nat},AL f vs=some ids->∀ {u:V},u∈vs->∃E,f u=some E
 |[],_,_,u,h=>by cases h
 |v :: vs,ids,h,u,hu=>by
  unfold AL at h
  split at h
  .rename_i G J
   rcases List.mem_cons.1 hu with rfl|hu
   .exact⟨_,G⟩
   .exact KJ J hu
  .cases h
theorem Ir{P:Program}{conv:FuncId->Conv}{call:Call}(hc:DX P call){f:FuncId}{args:List V}{σ:Store}{nx:Nat}{v:V}{σ':Store}{nx':Nat}
  (h:CO conv call f args σ nx=some (v,σ',nx')):Ey P f args σ nx v σ' nx':=by
 unfold CO at h
 split at h
 .exact hc _ _ _ _ _ _ _ h
 .split at h
  .rename_i ts ids b7
   split at h
   .rename_i v1 a1 qI a7
    split at h
    .rename_i t Gi c0
     obtain⟨_,b6,YO⟩:=hc _ _ _ _ _ _ _ a7;have key:∀(s:Sit) (G:List Value),Inv s σ->VRs s args G->Calls P f G.toArray s.w (fun e w'=>∃O x,O.w=w'/\e= .returned x/\VR (covered O a1 Gi) t x/\Inv O a1/\U_ (covered s σ ids) pI O a1):=by
      intro s G hi hv;refine(YO (covered s σ ids) G (Inv.none _ (Nc hi ids) (hi.kn.same (fun _ _ z=> .inl z) rfl)) (fun _ _ _=>rfl) (Nh hi b7 hv)).mono ?_;rintro e w' ⟨O,x,rfl,rfl,ho⟩;exact⟨O,x,rfl,rfl,aP ho.inv depth v1 t Gi x _ c0 ho.vr (oW O a1 Gi),ho.inv,ho.Jv⟩
     have grow:∀(σ2:Store),(∀b B',σ2 b=some B'->∃B,σ b=some B/\B'.cells=B.cells/\B'.st=B.st/\(b∈ids->B'.wr=false)/\(B'.wr=true->B.wr=true))->Ey P f args σ nx t σ2 nx:=by
      intro σ2 FY;refine⟨zq _,b6,fun s G hi _ hv=>(key s G hi hv).mono ?_⟩;rintro e w' ⟨O,x,rfl,rfl,b5,S,a6⟩;have E:Below s.w.heap.size s.w O.w:=a6.below
      let s':Sit:=⟨(covered O a1 Gi).Z,s.β,O.w⟩
      have c5:∀k o,s.Z k o->s'.Z k o:=fun k o z=> .inl (a6.le.zz k o (.inl z))
      have hle:Le s s':=⟨c5,fun k o z=>E.cell (p:=⟨k,o,none⟩) (hi.zb k o z),fun _ _ e=>e⟩;have c2:∀k o,s'.Z k o->(covered s σ ids).Z k o\/s.w.heap.size<=k:=by
       rintro k o (z|⟨b,_,B,l,J,h2,rfl,_⟩)
       .rcases a6.zn k o z with z|z|⟨b,B,l,J,_⟩
        .exact .inl z
        .exact .inr z
        .cases J
       .rcases a6.nb b B l J h2 with z|⟨b,B,l,J,_⟩
        .exact .inr z
        .cases J
      refine⟨s',x,rfl,rfl,⟨sD (s:=covered O a1 Gi) (s':=s') ⟨fun _ _ z=>z,fun _ _ _=>rfl,fun _ _ e=>by cases e⟩ t x b5,⟨fun b B' c6=>?_,fun b1 b2 B1 B2 l1 l2 J h2=>?_,fun k o z=>?_,hi.kn.mono hle⟩,⟨hle,fun k o z=>?_,fun k hk _=>E.block k hk,fun b B' l J h2=>?_,E.size,E.os,E.tape,E.output⟩,fun i h=> .inl h⟩⟩
      .obtain⟨B,hB,q1,q2,q3,q4⟩:=FY b B' c6
       obtain⟨l,c,e,g1,g2,g3,g4,g5,g6,g7⟩:=hi.blk b B hB;have a8:=hi.block_lt hB g1;refine⟨l,c,e,g1,(E.block _ a8).trans g2,g3,by rw[q1];exact g4,by rw[q2];exact g5,fun i u hu=>?_,fun o z=>?_,by rw[q2];exact g7.2⟩
       .rw[q1]at hu
        obtain⟨y,hy,hr⟩:=g6 i u hu;exact⟨y,hy,sD hle u y hr⟩
       .rw[q1]
        rcases c2 _ _ z with (z|⟨b',hb',B2,l2,J,h2,h3,h4,h5⟩)|z
        .obtain⟨z1,z2⟩:=g7.1 o z
         refine⟨?_,z2⟩;cases hw:B'.wr with
         |false=>rfl
         |true=>rw[q4 hw]at z1;cases z1
        .have c7:b'=b:=hi.Qj b' b B2 B l2 l J hB h2 g1 h3
         subst c7;rw[g1]at h2;cases h2;rw[hB]at J;cases J;exact⟨q3 hb',h5⟩
        .omega
      .obtain⟨A1,e1,_⟩:=FY _ _ J
       obtain⟨A2,e2,_⟩:=FY _ _ h2;exact hi.Qj b1 b2 A1 A2 l1 l2 e1 e2
      .rcases z with z|⟨b,_,B,l,J,h2,rfl,_⟩
       .exact S.zb k o z
       .exact S.block_lt J h2
      .rcases c2 k o z with (z|⟨b',hb',B2,l2,J,h2,h3,h4,h5⟩)|z
       .exact .inl z
       .exact .inr (.inr ⟨b',B2,l2,J,h2,h3⟩)
       .exact .inr (.inl z)
      .obtain⟨B,hB,_⟩:=FY b B' J
       exact .inr ⟨b,B,l,hB,h2,rfl⟩
     split at h
     .rename_i b8
      simp only[sW,sS]at h;obtain⟨rfl,rfl,rfl⟩:=h;rcases Bool.or_eq_true _ _ ▸ b8 with he|he
      .have:ids=[]:=by simpa using he
       subst this;exact grow _ (fun b B' h=>⟨B',h,rfl,rfl,(fun h=>by cases h),id⟩)
      .refine⟨zq _,b6,fun s G hi _ hv=>(key s G hi hv).mono ?_⟩
       rintro e w' ⟨O,x,rfl,rfl,b5,S,a6⟩;obtain⟨_,hinv,R_⟩:=hi.grow (w':=O.w) a6.below;exact⟨{ s with w:=O.w },x,rfl,rfl,⟨YM depth _ x he b5,hinv,R_,fun i h=> .inl h⟩⟩
     .simp only[sW,sS]at h;obtain⟨rfl,rfl,rfl⟩:=h
      exact grow _ (fun b B' h=>Iq ids σ b B' h)
    .cases h
   .cases h
  .cases h
 .split at h
  .rename_i ts ids b7
   split at h
   .rename_i v1 a1 qI a7
    split at h
    .rename_i Gi c3
     simp only[sW,sS]at h;obtain⟨rfl,rfl,rfl⟩:=h;obtain⟨c8,b6,YO⟩:=hc _ _ _ _ _ _ _ a7;refine⟨c8,b6,fun s G hi c9 hv=>(YO (covered s σ ids) G (Inv.none _ (Nc hi ids) (hi.kn.same (fun _ _ z=> .inl z) rfl)) (fun _ _ _=>rfl) (Nh hi b7 hv)).mono ?_⟩;rintro e w' ⟨O,x,rfl,rfl,ho⟩;obtain⟨b5,S,a6,c4⟩:=ho;have E:Below s.w.heap.size s.w O.w:=a6.below
     let b3:Nat->Option Loc:=fun b=>match s.β b with|some l=>some l|none=>O.β b
     let s':Sit:=⟨s.Z,b3,O.w⟩
     have YP:∀b l,s.β b=some l->s'.β b=some l:=fun b l h=>by show b3 b=_;simp only[b3,h]
     have Vu:∀b l,O.β b=some l->s'.β b=some l:=fun b l h=>by
      have h3:O.β b≠none:=by rw[h];simp
      rcases c4 b h3 with h4|h4
      .exact absurd rfl h4
      .show b3 b=_
       simp only[b3,c9 b h4.1 h4.2,h]
     have hle:Le s s':=⟨fun _ _ z=>z,fun k o z=>E.cell (p:=⟨k,o,none⟩) (hi.zb k o z),YP⟩;have hj:∀b B,Ce nx σ a1 Gi b=some B->(b<nx/\σ b=some B)\/(¬b<nx/\b∈Gi/\a1 b=some B):=fun b B h=>by
      unfold Ce at h
      split at h
      .rename_i a8;exact .inl ⟨a8,h⟩
      .rename_i a8
       split at h
       .rename_i hm;exact .inr ⟨a8,hm,h⟩
       .cases h
     have b4:∀b B l,a1 b=some B->O.β b=some l->s.w.heap.size<=l.k:=fun b B l J h2=>by
      rcases a6.nb b B l J h2 with h|⟨b0,B0,l0,h,_⟩
      .exact h
      .cases h
     refine⟨s',x,rfl,rfl,⟨Qo Vu depth _ x Gi c3 b5,⟨fun b B hB=>?_,fun b1 b2 B1 B2 l1 l2 J h2 e1 e2 hk=>?_,fun k o z=>xQ (hi.zb k o z) E.size,hi.kn.mono hle⟩,
      ⟨hle,fun k o z=> .inl z,fun k hk _=>E.block k hk,fun b B l J h2=>?_,E.size,E.os,E.tape,E.output⟩,fun i h=>?_⟩⟩
     .rcases hj b B hB with ⟨_,J⟩|⟨_,hm,J⟩
      .obtain⟨l,c,e,g1,g2,g3,g4,g5,g6,g7⟩:=hi.blk b B J
       have a8:=hi.block_lt J g1;exact⟨l,c,e,YP _ _ g1,(E.block _ a8).trans g2,g3,g4,g5,fun i u hu=>let ⟨y,hy,hr⟩:=g6 i u hu;⟨y,hy,sD hle u y hr⟩,g7⟩
      .obtain⟨l,c,e,g1,g2,g3,g4,g5,g6,g7⟩:=S.blk b B J
       obtain⟨B2,d',Em,q1,q2,q3⟩:=YN depth _ Gi c3 b hm;rw[J]at q1;cases q1;have e6:=b4 b _ l J g1;refine⟨l,c,e,Vu _ _ g1,g2,g3,g4,g5,fun i u hu=>?_,fun o z=>absurd (hi.zb _ _ z) (by omega),g7.2⟩;obtain⟨y,hy,hr⟩:=g6 i u hu;refine⟨y,hy,?_⟩;have b9:=KJ q2 (List.mem_of_getElem? hu);obtain⟨e0,e3⟩:=b9;exact Qo Vu d' u y e0 e3 hr
     .rcases hj b1 B1 J with ⟨_,p1⟩|⟨_,e4,p1⟩<;>rcases hj b2 B2 h2 with ⟨_,p2⟩|⟨_,e7,p2⟩
      .obtain⟨l,_,_,g1,_⟩:=hi.blk b1 B1 p1
       obtain⟨l',_,_,Y,_⟩:=hi.blk b2 B2 p2;rw[YP _ _ g1]at e1;cases e1;rw[YP _ _ Y]at e2;cases e2;exact hi.Qj b1 b2 B1 B2 _ _ p1 p2 g1 Y hk
      .obtain⟨l,_,_,g1,_⟩:=hi.blk b1 B1 p1
       obtain⟨l',_,_,Y,_⟩:=S.blk b2 B2 p2;rw[YP _ _ g1]at e1;cases e1;rw[Vu _ _ Y]at e2;cases e2;have:=hi.block_lt p1 g1;have:=b4 b2 B2 _ p2 Y;omega
      .obtain⟨l,_,_,g1,_⟩:=S.blk b1 B1 p1
       obtain⟨l',_,_,Y,_⟩:=hi.blk b2 B2 p2;rw[Vu _ _ g1]at e1;cases e1;rw[YP _ _ Y]at e2;cases e2;have:=hi.block_lt p2 Y;have:=b4 b1 B1 _ p1 g1;omega
      .obtain⟨l,_,_,g1,_⟩:=S.blk b1 B1 p1
       obtain⟨l',_,_,Y,_⟩:=S.blk b2 B2 p2;rw[Vu _ _ g1]at e1;cases e1;rw[Vu _ _ Y]at e2;cases e2;exact S.Qj b1 b2 B1 B2 _ _ p1 p2 g1 Y hk
     .rcases hj b B J with ⟨_,p1⟩|⟨_,e4,p1⟩
      .obtain⟨l',_,_,g1,_⟩:=hi.blk b B p1
       rw[YP _ _ g1]at h2;cases h2;exact .inr ⟨b,B,_,p1,g1,rfl⟩
      .obtain⟨l',_,_,g1,_⟩:=S.blk b B p1
       rw[Vu _ _ g1]at h2;cases h2;exact .inl (b4 b B _ p1 g1)
     .cases e5:s.β i with
      |some l=>exact .inl (by simp)
      |none=>
       have:O.β i≠none:=by
        intro e;apply h;show b3 i=none;simp only[b3,e5,e]
       rcases c4 i this with h4|h4
       .exact absurd rfl h4
       .exact .inr h4
    .cases h
   .cases h
  .cases h
end Go.TV
namespace Go.TV
open Go.RowKit
set_option linter.unusedVariables false
set_option linter.unusedSimpArgs false
variable [Known]
def GR(P:Program)(ts:Array TypeId)(d x:V)(σ:Store)(nx:Nat):KF :=
 match ts[0]? with
 |some t=>match P.underlying t with
  |some (.slice e)=>match P.info? e,rowOf σ 1 x with
   |some i,some (row,m)=>if i.size=1/\ts.size=2 then
     match d with
     | .rs b off len=>if min m len=0 then some (.sc (.int .i64 0),σ,nx)else
      match σ b with
      |some B=>if B.wr=true/\off+min m len<=B.cells.length/\(row.take (min m len)).all vI=true then
        some (.sc (.int .i64 (min m len:Nat)),upd σ b (some { B with cells:=patch B.cells off (row.take (min m len)) }),nx)else none
      |none=>none
     | .nil=>some (.sc (.int .i64 0),σ,nx)
     |_=>none
    else none
   |_,_=>none
  |_=>none
 |none=>none
def Gj(P:Program)(ts:Array TypeId)(d:V)(σ:Store)(nx:Nat):KF :=
 match ts[0]? with
 |some t=>match P.underlying t with
  |some (.slice e)=>match P.info? e with
   |some i=>match i.zero with
    |some z=>if i.size=1/\z.cells.size=1 then
      match d with
      | .rs b off len=>if len=0 then some (.AX [],σ,nx)else
       match σ b with
       |some B=>if B.wr=true/\off+len<=B.cells.length/\(rep len (z.cells.toList.map BQ)).all vI=true then
         some (.AX [],upd σ b (some { B with cells:=patch B.cells off (rep len (z.cells.toList.map BQ)) }),nx)else none
       |none=>none
      | .nil=>some (.AX [],σ,nx)
      | .ts _ len=>if len=0 then some (.AX [],σ,nx)else none
      |_=>none
     else none
    |none=>none
   |none=>none
  |_=>none
 |none=>none
theorem YQ{P:Program}{s:Sit}{σ:Store}(hi:Inv s σ){nx nx':Nat}{σ':Store}{ts:Array TypeId}{ty:TypeId}{d x v:V}{yd yx:Value}(h:GR P ts d x σ nx=some (v,σ',nx'))(S:VR s d yd)(hx:VR s x yx) :
  ∃s' y,(Builtin.copy_ ts ty #[yd,yx]).run P s.w= .ok y s'.w/\Out s σ nx s' v y σ' nx':=by
 unfold GR at h
 split at h
 .rename_i t b9
  split at h
  .rename_i e hu
   split at h
   .rename_i i row m BN Y
    split at h
    .rename_i hc
     obtain⟨b3,c0⟩:=hc;obtain⟨t2,rfl⟩:∃t2,ts=#[t,t2]:=by
      rcases ts with ⟨l⟩
      rcases l with _|⟨a,_|⟨b,_|⟨c,l⟩⟩⟩<;>simp_all
     have G:(P.info? e).map (·.size)=some 1:=by rw[BN];simp[b3]
     obtain⟨ao,xc,rfl,c2,E,J⟩:=fD hi hx Y;rw[yN]at E
     split at h
     .rename_i b off len
      have c3:=S;unfold VR at S;obtain⟨l,cap,hl,rfl,b6,b7⟩:=S
      split at h
      .rename_i h0
       simp only[sW,sS]at h;obtain⟨rfl,rfl,rfl⟩:=h;exact⟨s,_,run_copy_none (P:=P) s.w t t2 ty e _ _ len cap m xc hu G h0,Out.same hi (rZ rfl)⟩
      .rename_i h0
       split at h
       .rename_i B hb
        split at h
        .rename_i b4
         obtain⟨hw,b8,a1⟩:=b4;simp only[sW,sS]at h;obtain⟨rfl,rfl,rfl⟩:=h;obtain⟨l',c,e',g1,g2,g3,g4,g5,g6,g7⟩:=hi.blk b B hb;rw[hl]at g1;cases g1;rcases J with rfl|⟨k,o,rfl,cs,a6,b5⟩
         .simp only[yY]at E;subst E;exact absurd (Nat.zero_min len) h0
         .have a7:=Ii a6 (min m len)
          have O:(cs.take (min m len)).length=min m len:=by
           rw[zh,<- rO a6,E];omega
          have a8:=run_copy_row (P:=P) s.w t t2 ty e l.k (l.o+off) len cap ⟨k,o,none⟩ m xc c e' (cs.take (min m len)) hu G g2 O
           (fun j v hv=>by
            rw[Addr.add_lit];rw[wz]at hv
            split at hv
            .exact b5 j v hv
            .cases hv) (by rw[O];omega) (ig a7 a1)
          have b2:=ZR hi hb hw hl g2 (off:=off) a7 (by rw[zh];omega);rw[iH _ _ _ (by rw[zh];omega)];refine⟨_,_,a8,⟨?_,b2.1,b2.2,fun i h=> .inl h⟩⟩;rw[O];exact rZ rfl
        .cases h
       .cases h
     .simp only[sW,sS]at h;obtain⟨rfl,rfl,rfl⟩:=h
      unfold VR at S;obtain⟨a0,rfl⟩:=S;exact⟨s,_,run_copy_none (P:=P) s.w t t2 ty e _ _ 0 0 m xc hu G (Nat.min_zero m),Out.same hi (rZ rfl)⟩
     .cases h
    .cases h
   .cases h
  .cases h
 .cases h
theorem ZN{z:Array Value}(h:z.size=1)(n:Nat):(Builtin.zeroCells z n).toList=(List.replicate n z.toList).flatten:=by
 obtain⟨v,rfl⟩:∃v,z=#[v]:=by
  rcases z with ⟨l⟩
  rcases l with _|⟨a,_|⟨b,l⟩⟩<;>simp_all
 unfold Builtin.zeroCells;simp
 induction n with
 |zero=>rfl
 |succ n E=>rw[wX,xH,E,uK];simp[Nat.mod_one]
theorem Vx{s:Sit}{vs:List V}{xs:List Value}(h:VRs s vs xs):∀n,VRs s (rep n vs) (List.replicate n xs).flatten
 |0=>by unfold rep;simp only[List.replicate_zero,List.flatten_nil];unfold VRs;rfl
 |n+1=>by
  unfold rep;rw[xu,xu,List.flatten_cons,List.flatten_cons];exact rW h (Vx h n)
theorem Vy{P:Program}{s:Sit}{σ:Store}(hi:Inv s σ){nx nx':Nat}{σ':Store}{ts:Array TypeId}{ty:TypeId}{d v:V}{yd:Value}(h:Gj P ts d σ nx=some (v,σ',nx'))(hd:VR s d yd) :
  ∃s' y,(Builtin.clear_ ts ty #[yd]).run P s.w= .ok y s'.w/\Out s σ nx s' v y σ' nx':=by
 unfold Gj at h
 split at h
 .rename_i t a7
  split at h
  .rename_i e hu
   split at h
   .rename_i i BN
    split at h
    .rename_i z hz
     split at h
     .rename_i hc
      obtain⟨b7,J⟩:=hc;have O:∀a c,(Builtin.clear_ ts ty #[.slice a 0 c]).run P s.w= .ok (.tuple #[]) s.w:=fun a c=>by
       cases a<;>simp[Builtin.clear_,a7,run_underlying hu]
      have S:VR s (.AX []) (.tuple #[]):=by unfold VR;exact⟨#[],rfl,by unfold VRs;rfl⟩
      split at h
      .rename_i b off len
       unfold VR at hd;obtain⟨l,cap,hl,rfl,b5,b6⟩:=hd
       split at h
       .rename_i h0
        subst h0;simp only[sW,sS]at h;obtain⟨rfl,rfl,rfl⟩:=h;exact⟨s,_,O _ _,Out.same hi S⟩
       .rename_i h0
        split at h
        .rename_i B hb
         split at h
         .rename_i b3
          obtain⟨hw,E,a8⟩:=b3;simp only[sW,sS]at h;obtain⟨rfl,rfl,rfl⟩:=h;obtain⟨l',c,e',g1,g2,g3,g4,g5,g6,g7⟩:=hi.blk b B hb;rw[hl]at g1;cases g1;have Y:=Vx (Il (s:=s) z.cells.toList) len;have a1:(rep len (z.cells.toList.map BQ)).length=len:=by
           unfold rep;simp[J]
          have b4:(List.replicate len z.cells.toList).flatten.length=len:=by rw[<- rO Y,a1]
          have a6:=run_storeCells_at P l.k (l.o+off) e' (List.replicate len z.cells.toList).flatten 0 c s.w g2 (by rw[b4];omega) (ig Y a8);simp only[uS]at a6;rw[<- ZN J]at a6;have G:(Builtin.clear_ ts ty #[.slice (some ⟨l.k,l.o+off,none⟩) len cap]).run P s.w= .ok (.tuple #[]) (s.w.setRow l.k (c.toList.take (l.o+off)++(Builtin.zeroCells z.cells len).toList++c.toList.drop (l.o+off+(Builtin.zeroCells z.cells len).toList.length)).toArray):=by
           cases len with
           |zero=>exact absurd rfl h0
           |succ n=>
            simp[Builtin.clear_,a7,run_underlying hu,zeroValue,typeInfo,BN,hz];rw[a6];simp
          rw[ZN J]at G;have b2:=ZR hi hb hw hl g2 (off:=off) Y (by rw[a1];exact E);rw[iH _ _ _ (by rw[a1];exact E)];refine⟨_,_,G,⟨?_,b2.1,b2.2,fun i h=> .inl h⟩⟩;unfold VR;exact⟨#[],rfl,by unfold VRs;rfl⟩
         .cases h
        .cases h
      .simp only[sW,sS]at h;obtain⟨rfl,rfl,rfl⟩:=h
       unfold VR at hd;obtain⟨a0,rfl⟩:=hd;exact⟨s,_,O _ _,Out.same hi S⟩
      .rename_i row len
       split at h
       .rename_i h0
        subst h0;simp only[sW,sS]at h;obtain⟨rfl,rfl,rfl⟩:=h;unfold VR at hd;obtain⟨a0,c0,rfl,_⟩:=hd;exact⟨s,_,O _ _,Out.same hi S⟩
       .cases h
      .cases h
     .cases h
    .cases h
   .cases h
  .cases h
 .cases h
end Go.TV
namespace Go.TV
open Go.RowKit
set_option linter.unusedVariables false
set_option linter.unusedSimpArgs false
variable [Known]
def val(T:Nat->V):Operand->V
 | .tmp t=>T t
 | .const v=>Hr v
 | .func f=> .clo f []
 | .global _=> .junk
def DI(P:Program)(t:TypeId)(x:V):Option V :=
 match x with
 | .sc (.string s)=>match P.underlying t with
  |some .string=>some (.sc (.int .i64 s.size))
  |_=>none
 | .nil=>match P.underlying t with
  |some (.slice _)=>some (.sc (.int .i64 0))
  |_=>none
 | .ts _ len| .rs _ _ len=>match P.underlying t with
  |some (.slice _)=>some (.sc (.int .i64 len))
  |_=>none
 |_=>none
def H7:List V->Option (List Value)
 |[]=>some []
 |v :: vs=>match toVal v,H7 vs with
  |some x,some xs=>some (x :: xs)
  |_,_=>none
def EX(P:Program)(b:Builtin)(ts:Array TypeId)(ty:TypeId)(args:List V)(σ:Store)(nx:Nat):KF :=
 match b,args with
 | .len,[x]=>match ts[0]? with
  |some t=>(DI P t x).map (·,σ,nx)
  |none=>none
 | .append,[d,x]=>if ts.size=2 then Ec P ts d x σ nx else none
 | .copy,[d,x]=>GR P ts d x σ nx
 | .clear,[d]=>Gj P ts d σ nx
 | .min,args=>match H7 args with
  |some xs=>(wI P (Builtin.min_ ts ty xs.toArray)).bind fun r=>if atom r then some (.sc r,σ,nx)else none
  |none=>none
 | .max,args=>match H7 args with
  |some xs=>(wI P (Builtin.max_ ts ty xs.toArray)).bind fun r=>if atom r then some (.sc r,σ,nx)else none
  |none=>none
 |_,_=>none
def AO(P:Program)(conv:FuncId->Conv)(call:Call)(o:Oper)(T:Nat->V)(σ:Store)(nx:Nat):KF :=
 match o.op with
 | .move x=>some (val T x,σ,nx)
 | .assign x=>some (val T x,σ,nx)
 | .pick c a b=>match val T c with
  | .sc (.bool t)=>some (if t then val T a else val T b,σ,nx)
  |_=>none
 | .alloc t=>match P.info? t with
  |some i=>match i.zero with
   |some z=>some (.rp nx 0,Au σ nx (z.cells.toList.map BQ) (Qk t (z.cells.toList.map BQ)),nx+1)
   |none=>none
  |none=>none
 | .box t x=>match cellsOfV (val T x)with
  |some cs=>some (.rp nx 0,Au σ nx cs 0,nx+1)
  |none=>none
 | .build t parts=>(Gh P t (parts.toList.map fun p=>(p.1,val T p.2))).map (·,σ,nx)
 | .buildSlice t len parts=>if len=0 && !parts.isEmpty then none else Cc P t len (parts.toList.map fun p=>(p.1,val T p.2)) σ nx
 | .load t a=>(AZ P σ t (val T a)).map (·,σ,nx)
 | .store t a x=>(Dv P σ t (val T a) (val T x)).map (.AX [],·,nx)
 | .nilCheck x=>match val T x with
  | .tp row off=>some (.tp row off,σ,nx)
  | .rp b off=>some (.rp b off,σ,nx)
  |_=>none
 | .binOp op t x y _=>(Am P op t x y (val T x) (val T y)).map (·,σ,nx)
 | .unOp op _ x=>(YK P op (val T x)).map (·,σ,nx)
 | .convert s d x=>(Bv P s d (val T x) σ).map (·,σ,nx)
 | .makeFunc fn first cap=>match fn with
  | .func f=>if first.isEmpty then some (.clo f (cap.toList.map (val T)),σ,nx)else none
  |_=>none
 | .makeSlice t l c=>EZ P t (val T l) (val T c) σ nx
 | .slice t x lo hi mx=>(AY P t (val T x) (lo.map (val T)) (hi.map (val T)) (mx.map (val T)) σ).map (·,σ,nx)
 | .fieldAddr t x f=>(BL P t (val T x) f).map (·,σ,nx)
 | .field t x f=>(L9 P t (val T x) f).map (·,σ,nx)
 | .indexAddr t x i=>(CQ P t (val T x) (val T i)).map (·,σ,nx)
 | .index t x i=>(He P t (val T x) (val T i)).map (·,σ,nx)
 | .extract t i=>match val T t with
  | .AX vs=>(vs[i]?).map (·,σ,nx)
  |_=>none
 | .call c=>match c.callee with
  | .value f=>match val T f with
   | .clo g cs=>CO conv call g (c.args.toList.map (val T)++cs) σ nx
   |_=>none
  | .builtin b=>EX P b c.argTypes o.type (c.args.toList.map (val T)) σ nx
  |_=>none
 |_=>none
def TR(s:Sit)(T:Nat->V)(tmps:Array Value):Prop:=∀t,VR s (T t) (tmps.getD t undef)
theorem TR.mono{s s':Sit}{T:Nat->V}{tmps:Array Value}(h:TR s T tmps)(E:Le s s'):TR s' T tmps:=fun t=>sD E _ _ (h t)
theorem Zh{s:Sit}{T:Nat->V}{a:Act}(h:TR s T a.tmps)(x:Operand):VR s (val T x) (a.eval x):=by
 cases x with
 |tmp t=>exact h t
 |const v=>exact afV s v
 |global g=>unfold val VR;trivial
 |func f=>unfold val VR;exact⟨#[],rfl,by unfold VRs;rfl⟩
theorem Zg{s:Sit}{T:Nat->V}{a:Act}(h:TR s T a.tmps):∀xs:List Operand,VRs s (xs.map (val T)) (xs.map a.eval)
 |[]=>by unfold VRs;rfl
 |x :: xs=>by unfold VRs;exact⟨_,_,rfl,Zh h x,Zg h xs⟩
theorem Zv{s:Sit}:∀ {vs:List V} {us xs:List Value},H7 vs=some us->VRs s vs xs->xs=us
 |[],us,xs,h,hx=>by simp only[H7,sW]at h;unfold VRs at hx;rw[hx,h]
 |v :: vs,us,xs,h,hx=>by
  unfold VRs at hx;obtain⟨y,Y,rfl,E,G⟩:=hx;unfold H7 at h
  split at h
  .rename_i u J O S
   simp only[sW]at h;subst h;rw[Zv S G,Zx O E]
  .cases h
section
variable {P:Program}
theorem ZV{o:Oper}{a:Act}{w w':World}{K:Act->World->Prop}{Q:Exit->Act->World->Prop}{x:Value}(h:(execOp a.eval o).run P w= .ok (.value x) w')(E:K (a.put o.dst x) w'):o.wp P a w K Q:=by
 unfold Oper.wp;rw[h];exact E
theorem YR{o:Oper}{a:Act}{w w':World}{K:Act->World->Prop}{Q:Exit->Act->World->Prop}(h:(execOp a.eval o).run P w= .ok .skip w')(E:K (a.put o.dst undef) w'):o.wp P a w K Q:=by
 unfold Oper.wp;rw[h];exact E
theorem adD{s:Sit}{t ty:TypeId}{ts:Array TypeId}{x v:V}{y:Value}(J:ts[0]?=some t)(h:DI P t x=some v)(E:VR s x y) :
  ∃z,(Builtin.len_ ts ty #[y]).run P s.w= .ok z s.w/\VR s v z:=by
 unfold DI at h
 split at h
 .split at h
  .rename_i G
   simp only[sW]at h;subst h;unfold VR at E;obtain⟨rfl,_⟩:=E;exact⟨_,by simp[Builtin.len_,J,run_underlying G,goInt],rZ rfl⟩
  .cases h
 .split at h
  .rename_i G
   simp only[sW]at h;subst h;unfold VR at E;obtain⟨a,rfl⟩:=E;exact⟨_,by simp[Builtin.len_,J,run_underlying G,goInt],rZ rfl⟩
  .cases h
 .split at h
  .rename_i G
   simp only[sW]at h;subst h;unfold VR at E;obtain⟨a,cap,rfl,_⟩:=E;exact⟨_,by simp[Builtin.len_,J,run_underlying G,goInt],rZ rfl⟩
  .cases h
 .split at h
  .rename_i G
   simp only[sW]at h;subst h;unfold VR at E;obtain⟨l,cap,_,rfl,_⟩:=E;exact⟨_,by simp[Builtin.len_,J,run_underlying G,goInt],rZ rfl⟩
  .cases h
 .cases h
theorem PL{s:Sit}{σ:Store}(hi:Inv s σ){b:Builtin}{ts:Array TypeId}{ty:TypeId}{consts:Array Bool}{args:List V}{J:List Value}{nx nx':Nat}{v:V}{σ':Store}(h:EX P b ts ty args σ nx=some (v,σ',nx'))
  (hn:FD s nx nx') (ha:VRs s args J):∃s' y,(builtin b ts ty consts J.toArray).run P s.w= .ok (.value y) s'.w/\Out s σ nx s' v y σ' nx':=by
 unfold EX at h
 split at h
 .rename_i x
  split at h
  .rename_i t ht
   cases he:DI P t x with
   |none=>rw[he]at h;cases h
   |some u=>
    rw[he]at h;simp only[zJ,sW,sS]at h;obtain⟨rfl,rfl,rfl⟩:=h;unfold VRs at ha;obtain⟨y,ys,rfl,O,E⟩:=ha;unfold VRs at E;subst E;obtain⟨z,hz,hr⟩:=adD (ty:=ty) ht he O;exact⟨s,z,by simp[builtin,hz],Out.same hi hr⟩
  .cases h
 .rename_i d x
  split at h
  .rename_i h2
   unfold VRs at ha;obtain⟨y,ys,rfl,O,E⟩:=ha;unfold VRs at E;obtain⟨z,zs,rfl,hz,G⟩:=E;unfold VRs at G;subst G;obtain⟨s',u,hu,ho⟩:=Sj (ty:=ty) hi h h2 hn O hz;exact⟨s',u,by simp[builtin,hu],ho⟩
  .cases h
 .rename_i d x
  unfold VRs at ha;obtain⟨y,ys,rfl,O,E⟩:=ha;unfold VRs at E;obtain⟨z,zs,rfl,hz,G⟩:=E;unfold VRs at G;subst G;obtain⟨s',u,hu,ho⟩:=YQ (ty:=ty) hi h O hz;exact⟨s',u,by simp[builtin,hu],ho⟩
 .rename_i d
  unfold VRs at ha;obtain⟨y,ys,rfl,O,E⟩:=ha;unfold VRs at E;subst E;obtain⟨s',u,hu,ho⟩:=Vy (ty:=ty) hi h O;exact⟨s',u,by simp[builtin,hu],ho⟩
 .split at h
  .rename_i xs S
   rw[Zv S ha];cases hp:wI P (Builtin.min_ ts ty xs.toArray)with
   |none=>rw[hp]at h;cases h
   |some r=>
    rw[hp]at h;simp only[zk]at h
    split at h
    .rename_i Y
     simp only[sW,sS]at h;obtain⟨rfl,rfl,rfl⟩:=h;exact⟨s,r,by simp[builtin,dh _ hp],Out.same hi (rZ Y)⟩
    .cases h
  .cases h
 .split at h
  .rename_i xs S
   rw[Zv S ha];cases hp:wI P (Builtin.max_ ts ty xs.toArray)with
   |none=>rw[hp]at h;cases h
   |some r=>
    rw[hp]at h;simp only[zk]at h
    split at h
    .rename_i Y
     simp only[sW,sS]at h;obtain⟨rfl,rfl,rfl⟩:=h;exact⟨s,r,by simp[builtin,dh _ hp],Out.same hi (rZ Y)⟩
    .cases h
  .cases h
 .cases h
theorem AP{α β:Type}{o:Option α}{f:α->β}{b:β}(h:o.map f=some b):∃a,o=some a/\f a=b:=by
 cases o with
 |none=>cases h
 |some a=>exact⟨a,rfl,by simpa using h⟩
theorem Nj{conv:FuncId->Conv}{call:Call}(hc:DX P call){o:Oper}{T:Nat->V}{σ σ':Store}{nx nx':Nat}{v:V}(h:AO P conv call o T σ nx=some (v,σ',nx')){s:Sit}{a:Act}(hi:Inv s σ)(hT:TR s T a.tmps)(hn:FD s nx nx')
  {K:Act->World->Prop} {Q:Exit->Act->World->Prop} (hK:∀s' x,Out s σ nx s' v x σ' nx'->K (a.put o.dst x) s'.w):o.wp P a s.w K Q:=by
 obtain⟨dst,op,type,pos,after,guard⟩:=o;have G:=fun x=>Zh hT x
 have Dl:∀(m:Sem Value) (z:Value),(execOp a.eval ⟨dst,op,type,pos,after,guard⟩)=(do pure (.value (<- m)):Sem Next)->m.run P s.w= .ok z s.w->VR s v z->σ'=σ->Oper.wp P ⟨dst,op,type,pos,after,guard⟩ a s.w K Q:=by
  intro m z E S O hs;subst hs;refine ZV (w':=s.w) (x:=z) (by rw[E];simp[S]) (hK s z (Out.same hi O))
 cases op<;>simp only[AO]at h
 case move x=>
  simp only[sW,sS]at h;obtain⟨rfl,rfl,rfl⟩:=h;exact ZV (w':=s.w) rfl (hK s _ (Out.same hi (G x)))
 case assign x=>
  simp only[sW,sS]at h;obtain⟨rfl,rfl,rfl⟩:=h;exact ZV (w':=s.w) rfl (hK s _ (Out.same hi (G x)))
 case pick c x y=>
  split at h
  .rename_i t b7
   simp only[sW,sS]at h;obtain⟨rfl,rfl,rfl⟩:=h;have a7:=G c;rw[b7]at a7;unfold VR at a7;refine ZV (w':=s.w) (x:=if t then a.eval x else a.eval y) (by simp[execOp,a7.1,asBool]) (hK s _ (Out.same hi ?_));cases t
   .exact G y
   .exact G x
  .cases h
 case alloc t=>
  split at h
  .rename_i i BN
   split at h
   .rename_i z O
    simp only[sW,sS]at h;obtain⟨rfl,rfl,rfl⟩:=h;obtain⟨s',y,J,Y⟩:=Vl (P:=P) hi hn BN O;exact ZV (by simp[execOp,J]) (hK s' y Y)
   .cases h
  .cases h
 case box t x=>
  split at h
  .rename_i cs b8
   simp only[sW,sS]at h;obtain⟨rfl,rfl,rfl⟩:=h;obtain⟨s',y,J,Y⟩:=Ql (P:=P) hi hn (t:=t) (st:=0) (fun h=>absurd h (by decide)) (pX b8 (G x));exact ZV (by simp[execOp,J]) (hK s' y Y)
  .cases h
 case build t parts=>
  obtain⟨u,hu,E⟩:=AP h;simp only[sS]at E;obtain⟨rfl,rfl,rfl⟩:=E;obtain⟨z,O,S⟩:=Vm (ps:=parts.map fun p=>(p.1,a.eval p.2)) hu (by simp) (fun i p q J Y=>by
   simp only[Array.toList_map,yc]at J Y;cases hp:parts.toList[i]? with
   |none=>rw[hp]at J;cases J
   |some e=>
    rw[hp]at J Y;simp only[zJ,sW]at J Y;subst J;subst Y;exact G _)
  exact Dl _ z rfl O S rfl
 case buildSlice t len parts=>
  split at h
  .cases h
  .rename_i a8
   obtain⟨s',y,J,Y⟩:=JE (ps:=parts.map fun p=>(p.1,a.eval p.2)) hi h hn (by simp) (fun i p q J Y=>by
    simp only[Array.toList_map,yc]at J Y;cases hp:parts.toList[i]? with
    |none=>rw[hp]at J;cases J
    |some e=>
     rw[hp]at J Y;simp only[zJ,sW]at J Y;subst J;subst Y;exact G _) (fun hl=>by
    rw[hl]at a8;simp only[decide_true,xY,vT,Bool.not_eq_false]at a8;have:parts=#[]:=by simpa using a8
    rw[this];simp)
   exact ZV (by simp[execOp,J]) (hK s' y Y)
 case load t x=>
  obtain⟨u,hu,E⟩:=AP h;simp only[sS]at E;obtain⟨rfl,rfl,rfl⟩:=E;obtain⟨z,O,S⟩:=Na hi (G x) hu;exact Dl _ z rfl O S rfl
 case store t x y=>
  obtain⟨u,hu,E⟩:=AP h;simp only[sS]at E;obtain⟨rfl,rfl,rfl⟩:=E;obtain⟨w',J,Y,h3⟩:=Vk hi (G x) (G y) hu;exact YR (w':=w') (by simp[execOp,J]) (hK { s with w:=w' } undef ⟨by unfold VR;exact⟨#[],rfl,by unfold VRs;rfl⟩,Y,h3,fun i h=> .inl h⟩)
 case nilCheck x=>
  have hx:=G x
  split at h
  .rename_i row off e
   simp only[sW,sS]at h;obtain⟨rfl,rfl,rfl⟩:=h;rw[e]at hx;have b2:=hx;unfold VR at hx;obtain⟨k,o,E,_⟩:=hx;exact ZV (w':=s.w) (x:=a.eval x) (by simp only[execOp,E];rfl) (hK s _ (Out.same hi b2))
  .rename_i b off e
   simp only[sW,sS]at h;obtain⟨rfl,rfl,rfl⟩:=h;rw[e]at hx;have b2:=hx;unfold VR at hx;obtain⟨l,_,E⟩:=hx;exact ZV (w':=s.w) (x:=a.eval x) (by simp only[execOp,E];rfl) (hK s _ (Out.same hi b2))
  .cases h
 case binOp op t x y yt=>
  obtain⟨u,hu,E⟩:=AP h;simp only[sS]at E;obtain⟨rfl,rfl,rfl⟩:=E;obtain⟨z,O,S⟩:=adB hu (G x) (G y);exact Dl _ z rfl O S rfl
 case unOp op t x=>
  obtain⟨u,hu,E⟩:=AP h;simp only[sS]at E;obtain⟨rfl,rfl,rfl⟩:=E;obtain⟨z,O,S⟩:=afZ hu (G x);exact Dl _ z rfl O S rfl
 case convert sr ds x=>
  obtain⟨u,hu,E⟩:=AP h;simp only[sS]at E;obtain⟨rfl,rfl,rfl⟩:=E;obtain⟨z,O,S⟩:=PK hi hu (G x);exact Dl _ z rfl O S rfl
 case makeFunc fn first cap=>
  split at h
  .split at h
   .rename_i f b9
    simp only[sW,sS]at h;obtain⟨rfl,rfl,rfl⟩:=h;have:first=#[]:=by simpa using b9
    subst this;refine Dl (Instr.makeFunc (.func f) #[] (cap.map a.eval)) (.func (.func f) #[] (cap.map a.eval)) (by simp[execOp]) rfl ?_ rfl;unfold VR;exact⟨_,rfl,by rw[Array.toList_map];exact Zg hT _⟩
   .cases h
  .cases h
 case makeSlice t l c=>
  obtain⟨s',y,J,Y⟩:=YL hi h hn (G l) (G c);exact ZV (by simp[execOp,J]) (hK s' y Y)
 case slice t x lo b5 mx=>
  obtain⟨u,hu,E⟩:=AP h;simp only[sS]at E;obtain⟨rfl,rfl,rfl⟩:=E;have q:∀(o:Option Operand) (v:V),o.map (val T)=some v->∃x,o.map a.eval=some x/\VR s v x:=fun o v h=>by
   obtain⟨y,rfl,rfl⟩:=AP h;exact⟨_,rfl,G y⟩
  have qn:∀(o:Option Operand),o.map (val T)=none->o.map a.eval=none:=fun o h=>by
   cases o with
   |none=>rfl
   |some y=>cases h
  obtain⟨z,O,S⟩:=Vp hi hu (G x) (q lo) (qn lo) (q b5) (qn b5) (q mx) (qn mx);exact Dl _ z rfl O S rfl
 case fieldAddr t x f=>
  obtain⟨u,hu,E⟩:=AP h;simp only[sS]at E;obtain⟨rfl,rfl,rfl⟩:=E;obtain⟨z,O,S⟩:=LJ hu (G x);exact Dl _ z rfl O S rfl
 case field t x f=>
  obtain⟨u,hu,E⟩:=AP h;simp only[sS]at E;obtain⟨rfl,rfl,rfl⟩:=E;obtain⟨z,O,S⟩:=Vs hu (G x);exact Dl _ z rfl O S rfl
 case indexAddr t x i=>
  obtain⟨u,hu,E⟩:=AP h;simp only[sS]at E;obtain⟨rfl,rfl,rfl⟩:=E;obtain⟨z,O,S⟩:=LK hu (G x) (G i);exact Dl _ z rfl O S rfl
 case index t x i=>
  obtain⟨u,hu,E⟩:=AP h;simp only[sS]at E;obtain⟨rfl,rfl,rfl⟩:=E;obtain⟨z,O,S⟩:=Vt hu (G x) (G i);exact Dl _ z rfl O S rfl
 case extract t i=>
  split at h
  .rename_i vs e
   obtain⟨u,hu,E⟩:=AP h;simp only[sS]at E;obtain⟨rfl,rfl,rfl⟩:=E;have ht:=G t;rw[e]at ht;unfold VR at ht;obtain⟨xs,hx,S⟩:=ht;obtain⟨z,O,c0⟩:=rP S hu;rw[xZ]at O;refine Dl (Instr.extract (a.eval t) i) z rfl ?_ c0 rfl;rw[hx];simp[Instr.extract,O]
  .cases h
 case call c=>
  obtain⟨callee,args,argTypes⟩:=c;cases callee with
  |value f=>
   simp only at h
   split at h
   .rename_i g cs e
    have hf:=G f;rw[e]at hf;unfold VR at hf;obtain⟨xs,hx,S⟩:=hf;obtain⟨c3,⟨fn,c2,a1,b3⟩,YO⟩:=Ir hc h;have b4:VRs s (args.toList.map (val T)++cs) ((args.map a.eval).toList++xs.toList):=by
     rw[Array.toList_map];exact rW (Zg hT _) S
    have b6:=YO s _ hi hn b4;have a6:((args.map a.eval).toList++xs.toList).toArray=args.map a.eval++xs:=by
     apply Array.ext';simp
    rw[a6]at b6;have hex:(execOp a.eval ⟨dst,.call ⟨.value f,args,argTypes⟩,type,pos,after,guard⟩).run P s.w= .ok (.enter g (args.map a.eval++xs)) s.w:=by
     have J:¬ fn.name = "runtime.NumGoroutine":=by simpa using b3
     have Y:¬fn.body=none:=fun e=>by rw[e]at a1;cases a1
     simp[execOp,resolve,hx,Deferred.ofValue,invoke,callFunc,program,Sem.run,c2,J,Y]
    unfold Oper.wp;rw[hex];simp only[Oper.upon];refine b6.mono ?_;rintro e w' ⟨s',x,rfl,rfl,ho⟩;exact hK s' x ho
   .cases h
  |builtin b=>
   simp only at h;obtain⟨s',y,J,Y⟩:=PL (consts:=args.map fun| .const _=>true|_=>false) hi h hn (Zg hT _);have a6:(args.toList.map a.eval).toArray=args.map a.eval:=by apply Array.ext';simp
   rw[a6]at J;exact ZV (by simp[execOp,resolve,invoke];exact J) (hK s' y Y)
  |invoke r m=>simp only at h;cases h
 all_goals cases h
end
end Go.TV
namespace Go.TV
open Go.RowKit
set_option linter.unusedVariables false
set_option linter.unusedSimpArgs false
variable [Known]
structure St where
 T:Nat->V
 σ:Store
 nx:Nat
def Dc(T:Nat->V)(dst:Option Tmp)(v:V):Nat->V :=
 match dst with
 |some d=>upd T d v
 |none=>T
def Bj(ops:Array Oper)(T:Nat->V)(o:Oper):Option Bool :=
 match o.guard with
 |none=>some true
 |some (j,want)=>match(ops[j]?).bind (·.dst)with
  |some d=>match T d with
   | .sc (.bool b)=>some (b==want)
   | .AX []=>some false
   |_=>none
  |none=>some false
def Ci(P:Program)(conv:FuncId->Conv)(call:Call)(ops:Array Oper):List Oper->St->Option St
 |[],s=>some s
 |o :: rest,s=>match Bj ops s.T o with
  |some true=>match AO P conv call o s.T s.σ s.nx with
   |some (v,σ',nx')=>Ci P conv call ops rest ⟨Dc s.T o.dst v,σ',nx'⟩
   |none=>none
  |some false=>Ci P conv call ops rest ⟨Dc s.T o.dst (.AX []),s.σ,s.nx⟩
  |none=>none
def Ae:V->List Nat
 | .rp b _=>[b]
 | .rs b _ _=>[b]
 |_=>[]
def Ep:V->List Nat
 | .agg vs=>vs.flatMap Ae
 | .AX vs=>vs.flatMap Ae
 | .clo _ vs=>vs.flatMap Ae
 |v=>Ae v
def Qq(σ:Store)(vs:List V):Option (List Nat):=match stripL (strip σ depth) vs with
 |some (_,ids)=>some ids
 |none=>none
def Dw(conv:FuncId->Conv)(T:Nat->V)(σ:Store)(o:Oper):Option (List Nat) :=
 match o.op with
 | .load _ a=>some (Ae (val T a))
 | .store _ a _=>some (Ae (val T a))
 | .slice _ x _ _ _=>some (Ae (val T x))
 | .convert _ _ x=>some (Ae (val T x))
 | .call ⟨.value f,args,_⟩=>match val T f with
  | .clo g cs=>match conv g with
   | .inl=>some ((args.toList.map (val T)).flatMap Ep++cs.flatMap Ep)
   |_=>Qq σ (args.toList.map (val T)++cs)
  |_=>some []
 | .call ⟨.builtin .append,args,_⟩=>some ((args.toList.map (val T)).flatMap Ae)
 | .call ⟨.builtin .copy,args,_⟩=>some ((args.toList.map (val T)).flatMap Ae)
 |_=>some []
def Ad(conv:FuncId->Conv)(T:Nat->V)(σ:Store)(o:Oper):List Nat:=(Dw conv T σ o).getD []
def keeps(conv:FuncId->Conv)(T:Nat->V)(o:Oper)(F:List Nat)(v:V):Bool :=
 match o.op with
 | .call ⟨.value f,_,_⟩=>match val T f with
  | .clo g _=>match conv g with
   | .KI=>F.isEmpty||flat depth v
   |_=>true
  |_=>true
 |_=>true
def writer(conv:FuncId->Conv)(o:Oper):Bool :=
 match o.op with
 | .store .. =>true
 | .call ⟨.value (.func g),_,_⟩=>match conv g with
  | .inl=>true
  |_=>false
 | .call ⟨.value _,_,_⟩=>true
 | .call ⟨.builtin .append,_,_⟩=>true
 | .call ⟨.builtin .copy,_,_⟩=>true
 |_=>false
def restrict(σ:Store)(ids:List Nat):Store:=fun b=>if b∈ids then σ b else none
def yI(ids:List Nat)(lo hi:Nat)(σ E:Store):Store:=fun b=>if b∈ids\/(lo<=b/\b<hi)then E b else σ b
def Ai(P:Program)(conv:FuncId->Conv)(call:Call)(o:Oper)(T:Nat->V)(σ:Store)(nx:Nat):KF :=
 match Dw conv T σ o with
 |some F=>if(F.all fun b=>decide (b<nx))=true then
   match AO P conv call o T (restrict σ F) nx with
   |some (v,σ1,qI)=>if keeps conv T o F v=true then some (v,yI F nx qI σ σ1,qI)else none
   |none=>none
  else none
 |none=>none
def BD(P:Program)(conv:FuncId->Conv)(call:Call)(ops:Array Oper):List Oper->St->Option (St×List (List Nat))
 |[],s=>some (s,[])
 |o :: rest,s=>match Bj ops s.T o with
  |some true=>match Ai P conv call o s.T s.σ s.nx with
   |some (v,σ',nx')=>match BD P conv call ops rest ⟨Dc s.T o.dst v,σ',nx'⟩with
    |some (s',fs)=>some (s',Ad conv s.T s.σ o :: fs)
    |none=>none
   |none=>none
  |some false=>match BD P conv call ops rest ⟨Dc s.T o.dst (.AX []),s.σ,s.nx⟩with
    |some (s',fs)=>some (s',[] :: fs)
    |none=>none
  |none=>none
def FQ(o:Oper)(i:Nat):Bool:=o.after.any fun e=>Region.binds .any e && e.on==i
def H8(conv:FuncId->Conv)(l:List Oper):List (Nat×Nat) :=
 l.zipIdx.flatMap fun(o,j)=>(l.take j).zipIdx.filterMap fun(p,i)=>if FQ o i then none else if writer conv o||writer conv p then some (i,j)else none
def Vz(ops:Array Oper):Bool :=
 ops.toList.zipIdx.all fun(o,j)=>(o.after.all fun e=> !Region.binds .any e||e.on<j) && (match o.guard with|some (g,_)=>decide (g<j)|none=>true) &&
  (ops.toList.take j).zipIdx.all fun(p,i)=>FQ o i||p.apart ops o
def Sl(E:List (List Nat))(ps:List (Nat×Nat)):Bool:=ps.all fun(i,j)=>((E[i]?).getD []).all fun b=> !((E[j]?).getD []).contains b
def CS(P:Program)(conv:FuncId->Conv)(call:Call)(ops:Array Oper)(s:St):Option St :=
 if Vz ops=true then
  match BD P conv call ops ops.toList s with
  |some (s',fs)=>if Sl fs (H8 conv ops.toList)=true then some s' else none
  |none=>none
 else none
inductive Ex where
 |norm|exit (id:Nat)|ret
def BU(body:St->Option (Ex×St)):Nat->St->Option (Ex×St)
 |0,_=>none
 |n+1,s=>match body s with
  |some (.norm,s')=>BU body n s'
  |r=>r
def zI(P:Program)(conv:FuncId->Conv)(call:Call)(n:Nat):Code->St->Option (Ex×St)
 | .skip,s=>some (.norm,s)
 | .region _ ops draw,s=>match(if draw then CS P conv call ops s else Ci P conv call ops ops.toList s)with
  |some s'=>some (.norm,s')
  |none=>none
 | .seq a b,s=>match zI P conv call n a s with
  |some (.norm,s')=>zI P conv call n b s'
  |r=>r
 | .cond c a b,s=>match val s.T c with
  | .sc (.bool true)=>zI P conv call n a s
  | .sc (.bool false)=>zI P conv call n b s
  |_=>none
 | .block id c,s=>match zI P conv call n c s with
  |some (.exit j,s')=>if j=id then some (.norm,s')else some (.exit j,s')
  |r=>r
 | .loop c,s=>BU (zI P conv call n c) n s
 | .exit id,s=>some (.exit id,s)
 | .ret,s=>some (.ret,s)
 |_,_=>none
def E5(nt:Nat):Code->Bool
 | .region _ ops _=>ops.all fun o=>match o.dst with|some d=>decide (d<nt)|none=>true
 | .seq a b=>E5 nt a && E5 nt b
 | .cond _ a b=>E5 nt a && E5 nt b
 | .block _ c=>E5 nt c
 | .loop c=>E5 nt c
 |_=>true
def Ag(P:Program)(T:Nat->V)(σ:Store):List ResultVar->Option (List V)
 |[]=>some []
 | .tmp t :: rs=>match Ag P T σ rs with
  |some vs=>some (T t :: vs)
  |none=>none
 | .cell a t :: rs=>match AZ P σ t (T a),Ag P T σ rs with
  |some v,some vs=>some (v :: vs)
  |_,_=>none
def DW(args:List V):Nat->V:=fun i=>(args[i]?).getD (.AX [])
def oneOf:List V->V
 |[v]=>v
 |vs=> .AX vs
def VA (fn:Func) (body:Code) (n:Nat):Bool:=!(fn.name == "runtime.NumGoroutine") && decide (n <= fn.ntmps) && E5 fn.ntmps body
abbrev Ext:=FuncId->Option (List V->Store->Nat->KF)
def GU(P:Program)(conv:FuncId->Conv)(call:Call)(n:Nat)(fn:Func)(body:Code)(args:List V)(σ:Store)(nx:Nat):KF :=
 match zI P conv call n body ⟨DW args,σ,nx⟩with
 |some (.norm,st)=>match Ag P st.T st.σ fn.results.toList with
  |some vs=>some (oneOf vs,st.σ,st.nx)
  |none=>none
 |some (.ret,st)=>match Ag P st.T st.σ fn.results.toList with
  |some vs=>some (oneOf vs,st.σ,st.nx)
  |none=>none
 |_=>none
def evF(P:Program)(conv:FuncId->Conv)(ext:Ext):Nat->Call
 |0=>fun _ _ _ _=>none
 |k+1=>fun f args σ nx=>match ext f with
  |some g=>g args σ nx
  |none=>match P.funcs[f]? with
   |some fn=>match fn.body with
    |some body=>if VA fn body args.length=true then GU P conv (evF P conv ext k) k fn body args σ nx else none
    |none=>none
   |none=>none
end Go.TV
namespace Go.TV
open Go.RowKit
set_option linter.unusedVariables false
set_option linter.unusedSimpArgs false
variable [Known]
section
variable {P:Program} {conv:FuncId->Conv} {call:Call}
structure YS (nt LM:Nat) (s0:Sit) (GL:Store) (GX:Nat) (T:Nat->V) (σ:Store) (nx:Nat) (s:Sit) (a:Act):Prop where
 inv:Inv s σ
 tr:TR s T a.tmps
 size:a.tmps.size=nt
 defers:a.defers=[]
 Jv:U_ s0 GL s σ
 dom:Dom s0 s GX nx
 fresh:FD s nx LM
 GX:GX<=nx
theorem qx{σ σ':Store}{nx nx' size bytes m:Nat}{d v:V}{row:List V}(h:Ah σ nx size bytes d row m=some (v,σ',nx')):nx<=nx':=by
 unfold Ah at h
 split at h
 .split at h
  .cases h;exact zq _
  .split at h
   .cases h;exact Nat.le_succ _
   .cases h
 .split at h
  .split at h
   .cases h;exact zq _
   .split at h
    .split at h
     .cases h;exact zq _
     .cases h
    .split at h
     .cases h;exact Nat.le_succ _
     .cases h
  .cases h
 .cases h
theorem JF(hc:DX P call){o:Oper}{T:Nat->V}{σ σ':Store}{nx nx':Nat}{v:V}(h:AO P conv call o T σ nx=some (v,σ',nx')):nx<=nx':=by
 obtain⟨dst,op,type,pos,after,guard⟩:=o;cases op<;>simp only[AO]at h
 case call c=>
  obtain⟨callee,args,ts⟩:=c;cases callee with
  |value f=>
   simp only at h
   split at h
   .exact(Ir hc h).1
   .cases h
  |builtin b=>
   simp only at h;unfold EX at h
   split at h
   .split at h
    .obtain⟨_,_,e⟩:=AP h;cases e;exact zq _
    .cases h
   .split at h
    .unfold Ec at h
     split at h
     .split at h
      .split at h
       .split at h
        .split at h
         .split at h
          .exact qx h
          .cases h
         .cases h
        .cases h
       .cases h
      .split at h
       .split at h
        .split at h
         .exact qx h
         .cases h
        .cases h
       .cases h
      .cases h
     .cases h
    .cases h
   .unfold GR at h
    repeat' split at h
    all_goals first|(cases h;exact zq _)|cases h
   .unfold Gj at h
    repeat' split at h
    all_goals first|(cases h;exact zq _)|cases h
   .split at h
    .cases hp:wI P (Builtin.min_ ts type _)with
     |none=>rw[hp]at h;cases h
     |some r=>rw[hp]at h;simp only[zk]at h;split at h;cases h;exact zq _;cases h
    .cases h
   .split at h
    .cases hp:wI P (Builtin.max_ ts type _)with
     |none=>rw[hp]at h;cases h
     |some r=>rw[hp]at h;simp only[zk]at h;split at h;cases h;exact zq _;cases h
    .cases h
   .cases h
  |invoke r m=>simp only at h;cases h
 case makeSlice t l c=>
  unfold EZ at h
  split at h
  .split at h
   .split at h
    .split at h
     .cases h;exact Nat.le_succ _
     .cases h
    .cases h
   .cases h
  .cases h
 case buildSlice t l c=>
  split at h
  .cases h
  .unfold Cc at h
   split at h
   .split at h
    .split at h
     .split at h
      .cases h;exact zq _
      .split at h
       .split at h
        .cases h;exact Nat.le_succ _
        .cases h
       .cases h
     .cases h
    .cases h
   .cases h
 case makeFunc fn f c=>
  split at h
  .split at h
   .cases h;exact zq _
   .cases h
  .cases h
 case move x=>cases h;exact zq _
 case assign x=>cases h;exact zq _
 case pick c x y=>
  split at h
  .cases h;exact zq _
  .cases h
 case alloc t=>
  split at h
  .split at h
   .cases h;exact Nat.le_succ _
   .cases h
  .cases h
 case box t x=>
  split at h
  .cases h;exact Nat.le_succ _
  .cases h
 case nilCheck x=>
  split at h
  .cases h;exact zq _
  .cases h;exact zq _
  .cases h
 case extract t i=>
  split at h
  .obtain⟨_,_,e⟩:=AP h;cases e;exact zq _
  .cases h
 all_goals first|(obtain⟨_,_,e⟩:=AP h;cases e;exact zq _)|cases h
theorem YT{s:Sit}{T:Nat->V}{a:Act}{dst:Option Tmp}{v:V}{x:Value}(h:TR s T a.tmps)(J:∀d,dst=some d->d<a.tmps.size)(O:VR s v x):TR s (Dc T dst v) (a.put dst x).tmps:=by
 cases dst with
 |none=>exact h
 |some d=>
  intro t;have E:=J d rfl
  by_cases G:t=d
  .subst G
   simp only[Dc,Zj,Act.put,yF,Array.getElem?_setIfInBounds_self,E,if_true,yG];exact O
  .simp only[Dc,Zk _ _ G,Act.put,yF]
   rw[Array.getElem?_setIfInBounds_ne (fun e=>G e.symm)];have:=h t
   rwa [yF]at this
theorem Nk(a:Act)(dst:Option Tmp)(x:Value):(a.put dst x).tmps.size=a.tmps.size:=by
 cases dst<;>simp[Act.put]
theorem gV(a:Act)(dst:Option Tmp)(x:Value):(a.put dst x).defers=a.defers:=by
 cases dst<;>rfl
theorem Nl(s:Sit):VR s (.AX []) undef:=by unfold VR;exact⟨#[],rfl,by unfold VRs;rfl⟩
theorem ZX{ops:Array Oper}{T:Nat->V}{o:Oper}{b:Bool}(h:Bj ops T o=some b){s:Sit}{tmps:Array Value}(Y:TR s T tmps):Region.wanted o (yielded ops tmps)=b:=by
 unfold Bj at h;unfold Region.wanted
 split at h
 .rename_i J
  simp only[J]
  simpa using h
 .rename_i j want J
  simp only[J,yielded]
  split at h
  .rename_i d O
   rw[O];have E:=Y d;simp only[zk];rw[yF]at E
   split at h
   .rename_i b' hb
    rw[hb]at E;unfold VR at E;simp only[sW]at h;cases G:tmps[d]? with
    |none=>rw[G]at E;simp[undef]at E
    |some y=>
     rw[G]at E;simp only[yG]at E;rw[E.1];simp[<- h]
   .rename_i hb
    rw[hb]at E;unfold VR VRs at E;simp only[sW]at h;obtain⟨xs,S,a1⟩:=E;cases G:tmps[d]? with
    |none=>simp[<- h]
    |some y=>
     rw[G]at S;simp only[yG]at S;simp[S,<- h]
   .cases h
  .rename_i O
   rw[O];simp only[sW]at h;simp[<- h]
theorem YS.step{nt LM:Nat}{s0:Sit}{GL:Store}{GX:Nat}{T:Nat->V}{σ:Store}{nx:Nat}{s:Sit}{a:Act}(h:YS nt LM s0 GL GX T σ nx s a){v:V}{x:Value}{σ':Store}{nx':Nat}{s':Sit}(E:Out s σ nx s' v x σ' nx')
  (hle:nx<=nx') {dst:Option Tmp} (S:∀d,dst=some d->d<nt):YS nt LM s0 GL GX (Dc T dst v) σ' nx' s' (a.put dst x):=by
 refine⟨E.inv,YT (h.tr.mono E.Jv.le) (fun d e=>by rw[h.size];exact S d e) E.vr,by rw[Nk];exact h.size,by rw[gV];exact h.defers,h.Jv.trans E.Jv,fun i hi=>?_,fun i J G=>?_,zL h.GX hle⟩
 .rcases E.dom i hi with J|J
  .rcases h.dom i J with G|G
   .exact .inl G
   .exact .inr ⟨G.1,by omega⟩
  .exact .inr ⟨by have:=h.GX;omega,J.2⟩
 .cases Y:s'.β i with
  |none=>rfl
  |some l=>
   exfalso;rcases E.dom i (by rw[Y];simp)with O|O
   .exact O (h.fresh i (by omega) G)
   .omega
theorem YS.skip{nt LM:Nat}{s0:Sit}{GL:Store}{GX:Nat}{T:Nat->V}{σ:Store}{nx:Nat}{s:Sit}{a:Act}(h:YS nt LM s0 GL GX T σ nx s a){dst:Option Tmp}(E:∀d,dst=some d->d<nt) :
  YS nt LM s0 GL GX (Dc T dst (.AX [])) σ nx s (a.put dst undef) :=
 h.step (Out.same h.inv (Nl s)) (zq _) E
theorem nJ(hc:DX P call){ops:Array Oper}:∀(l:List Oper) (st E:St),Ci P conv call ops l st=some E->st.nx<=E.nx
 |[],st,E,h=>by simp only[Ci,sW]at h;rw[h];exact zq _
 |o :: l,st,E,h=>by
  unfold Ci at h
  split at h
  .split at h
   .rename_i v σ' nx' e
    exact zL (JF hc e) (nJ hc l _ E h)
   .cases h
  .exact nJ hc l ⟨Dc st.T o.dst (.AX []),st.σ,st.nx⟩ E h
  .cases h
theorem JG(hc:DX P call){ops:Array Oper}{nt LM:Nat}{s0:Sit}{GL:Store}{GX:Nat}(O:∀o∈ops.toList,∀d,o.dst=some d->d<nt){Q:Exit->Act->World->Prop} :
  ∀(l:List Oper) (i:Nat) (st E:St),ops.toList.drop i=l->Ci P conv call ops l st=some E->E.nx<=LM->(∀s a,YS nt LM s0 GL GX E.T E.σ E.nx s a->Q .normal a s.w) ->
  ∀(s:Sit) (a:Act),YS nt LM s0 GL GX st.T st.σ st.nx s a->wpOps P ops Q (List.range' i l.length) a s.w
 |[],i,st,E,_,h,_,hQ,s,a,hs=>by
  simp only[Ci,sW]at h;subst h;simp only[yY,List.range'_zero,wpOps];exact hQ s a hs
 |o :: l,i,st,E,hl,h,hE,hQ,s,a,hs=>by
  have S:ops[i]?=some o:=by
   rw[<- xZ,show ops.toList[i]?=(ops.toList.drop i)[0]? by simp,hl];rfl
  have G:o∈ops.toList:=by rw[<- xZ]at S;exact List.mem_of_getElem? S
  have J:ops.toList.drop (i+1)=l:=by rw[<- uD,hl];rfl
  rw[zV,List.range'_succ,wpOps_cons];unfold wpOp;simp only[S];unfold Ci at h
  split at h
  .rename_i hw
   rw[ZX hw hs.tr,sO rfl]
   split at h
   .rename_i v σ' nx' e
    have hm:=nJ hc l _ E h;have Y:=JF hc e;refine .inl (Nj hc e hs.inv hs.tr (fun i h1 h2=>hs.fresh i h1 (by simp only at hm;omega)) fun s' x ho=>?_);exact JG hc O l (i+1) _ E J h hE hQ s' _ (hs.step ho Y (O o G))
   .cases h
  .rename_i hw
   rw[ZX hw hs.tr,sQ (by simp)];exact JG hc O l (i+1) _ E J h hE hQ s _ (hs.skip (O o G))
  .cases h
end
end Go.TV
namespace Go.TV
open Go.RowKit
set_option linter.unusedVariables false
set_option linter.unusedSimpArgs false
variable [Known]
section
variable {P:Program} {conv:FuncId->Conv} {call:Call}
theorem val_congr{T T2:Nat->V}{o:Oper}(ops:Array Oper)(h:∀t∈o.looksAt ops,T2 t=T t):∀x∈o.op.operands.toList,val T2 x=val T x:=by
 intro x E;cases x with
 |tmp t=>
  apply h;unfold Oper.looksAt;exact z_ _ (List.mem_filterMap.2 ⟨_,E,rfl⟩)
 |const v=>rfl
 |global g=>rfl
 |func f=>rfl
theorem YU{T T2:Nat->V}{o:Oper}{σ:Store}{nx:Nat}(h:∀x∈o.op.operands.toList,val T2 x=val T x):AO P conv call o T2 σ nx=AO P conv call o T σ nx:=by
 obtain⟨dst,op,type,pos,after,guard⟩:=o;cases op<;>simp only[Op.operands]at h<;>simp only[AO]
 case build t parts=>
  have:parts.toList.map (fun p=>(p.1,val T2 p.2))=parts.toList.map (fun p=>(p.1,val T p.2)):=xM fun p hp=>by
   rw[h p.2 (by simpa using ⟨p.1,by simpa using hp⟩)]
  rw[this]
 case buildSlice t n parts=>
  have:parts.toList.map (fun p=>(p.1,val T2 p.2))=parts.toList.map (fun p=>(p.1,val T p.2)):=xM fun p hp=>by
   rw[h p.2 (by simpa using ⟨p.1,by simpa using hp⟩)]
  rw[this]
 case makeFunc fn first cap=>
  have:cap.toList.map (val T2)=cap.toList.map (val T):=xM fun p hp=>h p (by simp[hp])
  rw[this]
 case slice t x lo hi G=>
  have J:=h x (by simp);have E:lo.map (val T2)=lo.map (val T):=by cases lo with|none=>rfl|some y=>exact congrArg some (h y (by simp))
  have O:hi.map (val T2)=hi.map (val T):=by cases hi with|none=>rfl|some y=>exact congrArg some (h y (by simp))
  have S:G.map (val T2)=G.map (val T):=by cases G with|none=>rfl|some y=>exact congrArg some (h y (by simp))
  rw[J,E,O,S]
 case call c=>
  obtain⟨callee,args,ts⟩:=c;cases callee with
  |value f=>
   simp only[Call.operands]at h;have J:=h f (by simp);have E:args.toList.map (val T2)=args.toList.map (val T):=xM fun p hp=>h p (by simp[hp])
   simp only[J,E]
  |builtin b=>
   simp only[Call.operands]at h;have E:args.toList.map (val T2)=args.toList.map (val T):=xM fun p hp=>h p (by simp[hp])
   simp only[E]
  |invoke r m=>rfl
 case pick c a b=>rw[h c (by simp),h a (by simp),h b (by simp)]
 all_goals first
  |rfl
  |(rename_i a b;rw[h a (by simp),h b (by simp)];done)
  |(rename_i a b c;rw[h a (by simp),h b (by simp)];done)
  |(rename_i t a b;rw[h a (by simp),h b (by simp)];done)
  |(rename_i p t a b q;rw[h a (by simp),h b (by simp)];done)
  |(rename_i a;rw[h a (by simp)];done)
  |(rename_i a b;rw[h a (by simp)];done)
  |(rename_i t a b;rw[h a (by simp)];done)
  |(rename_i t u a;rw[h a (by simp)];done)
  |skip
theorem ay{f g:V->Option (V×List Nat)}:∀ {vs ts:List V} {ids:List Nat},(∀v t i,f v=some (t,i)->(∀b∈i,b∈ids)->g v=some (t,i))->stripL f vs=some (ts,ids)->stripL g vs=some (ts,ids)
 |[],ts,ids,_,h=>h
 |v :: vs,ts,ids,hfg,h=>by
  unfold stripL at h⊢
  split at h
  .rename_i t i E j G J
   simp only[sW,sS]at h;obtain⟨rfl,rfl⟩:=h;rw[hfg v t i G (fun b hb=>z_ _ hb),ay (fun v t i h hi=>hfg v t i h (fun b hb=>yh _ (hi b hb))) J]
  .cases h
theorem aV{σ σ':Store}:∀(d:Nat) (v t:V) (ids:List Nat),strip σ d v=some (t,ids)->(∀b∈ids,σ' b=σ b)->strip σ' d v=some (t,ids)
 |0,v,t,ids,h,_=>by cases v<;>simp only[strip]at h⊢ <;>exact h
 |d+1,v,t,ids,h,hb=>by
  cases v<;>simp only[strip]at h⊢ <;>try exact h
  iterate 3
   .split at h
    .rename_i ts i e
     simp only[sW,sS]at h;obtain⟨rfl,rfl⟩:=h;rw[ay (fun v t i h hi=>aV d v t i h fun b E=>hb b (hi b E)) e]
    .cases h
  .rename_i b off
   split at h
   .rename_i B G
    split at h
    .rename_i ts i e
     simp only[sW,sS]at h;obtain⟨rfl,rfl⟩:=h;rw[hb b zO,G];simp only;rw[ay (fun v t i h hi=>aV d v t i h fun b E=>hb b (zY _ (hi b E))) e]
    .cases h
   .cases h
  .rename_i b off len
   split at h
   .rename_i B G
    split at h
    .rename_i hc
     split at h
     .rename_i ts i e
      simp only[sW,sS]at h;obtain⟨rfl,rfl⟩:=h;rw[hb b zO,G];simp only;rw[sO hc,ay (fun v t i h hi=>aV d v t i h fun b E=>hb b (zY _ (hi b E))) e]
     .cases h
    .cases h
   .cases h
theorem VB{σ σ2:Store}{vs:List V}{F:List Nat}(h:Qq σ vs=some F)(hs:∀b∈F,σ2 b=σ b):Qq σ2 vs=some F:=by
 unfold Qq at h⊢;cases e:stripL (strip σ depth) vs with
 |none=>rw[e]at h;cases h
 |some p=>
  obtain⟨ts,ids⟩:=p;rw[e]at h;simp only[sW]at h;subst h;rw[ay (fun v t i h hi=>aV _ v t i h fun b hb=>hs b (hi b hb)) e]
theorem KL{T T2:Nat->V}{σ σ2:Store}{o:Oper}{F:List Nat}(h:∀x∈o.op.operands.toList,val T2 x=val T x)(E:Dw conv T σ o=some F)(hs:∀b∈F,σ2 b=σ b):Dw conv T2 σ2 o=some F:=by
 obtain⟨dst,op,type,pos,after,guard⟩:=o;cases op<;>simp only[Op.operands]at h<;>simp only[Dw]at E⊢ <;>try exact E
 case load t a=>rw[h a (by simp)];exact E
 case store t a b=>rw[h a (by simp)];exact E
 case slice t x lo hi S=>rw[h x (by simp)];exact E
 case convert s d x=>rw[h x (by simp)];exact E
 case call c=>
  obtain⟨callee,args,ts⟩:=c;have G:args.toList.map (val T2)=args.toList.map (val T):=xM fun p hp=>h p (by cases callee<;>simp[Call.operands,hp])
  cases callee with
  |value f=>
   have J:=h f (by simp[Call.operands]);simp only[J,G]at E⊢;cases O:val T f<;>simp only[O]at E⊢ <;>try exact E
   rename_i g cs;cases hc:conv g<;>simp only[hc]at E⊢ <;>first|exact E|exact VB E hs
  |builtin b=>cases b<;>simp only[G]at E⊢ <;>exact E
  |invoke r m=>exact E
theorem VD{T T2:Nat->V}{o:Oper}{F:List Nat}{v:V}(h:∀x∈o.op.operands.toList,val T2 x=val T x):keeps conv T2 o F v=keeps conv T o F v:=by
 obtain⟨dst,op,type,pos,after,guard⟩:=o;cases op<;>simp only[Op.operands]at h<;>simp only[keeps]
 case call c=>
  obtain⟨callee,args,ts⟩:=c;cases callee with
  |value f=>
   have E:=h f (by simp[Call.operands]);simp only[E]
  |builtin b=>rfl
  |invoke r m=>rfl
theorem ZY{ops:Array Oper}{T T2:Nat->V}{o:Oper}(h:∀t∈o.looksAt ops,T2 t=T t):Bj ops T2 o=Bj ops T o:=by
 unfold Bj
 split
 .rfl
 .rename_i j want E
  split
  .rename_i d G
   have:T2 d=T d:=h d (by
    unfold Oper.looksAt;refine yh _ ?_;rw[E];simp[G])
   rw[this]
  .rfl
def stepD(P:Program)(conv:FuncId->Conv)(call:Call)(ops:Array Oper)(o:Oper)(lo:Nat)(T:Nat->V)(σ:Store):Option ((Nat->V)×Store×Nat×List Nat) :=
 match Bj ops T o with
 |some true=>match Ai P conv call o T σ lo with
  |some (v,σ',hi)=>some (Dc T o.dst v,σ',hi,Ad conv T σ o)
  |none=>none
 |some false=>some (Dc T o.dst (.AX []),σ,lo,[])
 |none=>none
theorem iK{σ:Store}{lo:Nat}{ids:List Nat}:yI ids lo lo σ (restrict σ ids)=σ:=by
 funext b;unfold yI restrict
 split
 .rename_i h
  rcases h with h|h
  .rw[sO h]
  .omega
 .rfl
theorem iJ{σ E:Store}{lo:Nat}:yI [] lo lo σ E=σ:=by
 funext b;unfold yI
 split
 .rename_i h
  rcases h with h|h
  .cases h
  .omega
 .rfl
theorem VE{o:Oper}{T:Nat->V}{GL σ E:Store}{nx Y:Nat}{v:V}{F:List Nat}(hw:writer conv o=false)(G:keeps conv T o F v=true)(S:F≠[])(J:Dw conv T GL o=some F)(h:AO P conv call o T σ nx=some (v,E,Y)):∀b,b<nx->E b=σ b:=by
 obtain⟨dst,op,type,pos,after,guard⟩:=o;have no:∀ {p:Prop},some ([]:List Nat)=some F->p:=fun e=>absurd (Option.some.inj e).symm S
 cases op<;>simp only[Dw]at J<;>simp only[AO]at h<;>try exact no J
 case load t a=>obtain⟨_,_,e⟩:=AP h;cases e;exact fun _ _=>rfl
 case store t a b=>simp[writer]at hw
 case slice t x lo hi mx=>obtain⟨_,_,e⟩:=AP h;cases e;exact fun _ _=>rfl
 case convert s d x=>obtain⟨_,_,e⟩:=AP h;cases e;exact fun _ _=>rfl
 case call c=>
  obtain⟨callee,args,ts⟩:=c;cases callee with
  |value f=>
   cases f with
   |func g=>
    simp only[writer]at hw;simp only[keeps,val]at G;simp only[val]at h;cases hc:conv g<;>simp only[hc,CO]at hw G h
    case KI=>
     split at h
     .split at h
      .split at h
       .have O:flat depth v=true:=by
         have:F.isEmpty=false:=by cases F with
          |nil=>exact absurd rfl S
          |cons a b=>rfl
         rw[this,Bool.false_or]at G;exact G
        split at h
        .simp only[sW,sS]at h
         obtain⟨_,rfl,_⟩:=h;exact fun _ _=>rfl
        .rename_i hn
         simp only[sW,sS]at h;obtain⟨rfl,_,_⟩:=h;rw[O,Bool.or_true]at hn;exact absurd rfl hn
       .cases h
      .cases h
     .cases h
    case own=>
     split at h
     .split at h
      .split at h
       .simp only[sW,sS]at h
        obtain⟨_,rfl,_⟩:=h;intro b hb;unfold Ce;rw[sO hb]
       .cases h
      .cases h
     .cases h
    case inl=>cases hw
   |tmp t=>simp[writer]at hw
   |const t=>simp[writer]at hw
   |global t=>simp[writer]at hw
  |builtin b=>cases b<;>first|exact no J|simp[writer]at hw
  |invoke r m=>exact no J
theorem KN{σ G:Store}{lo hi:Nat}{F:List Nat}(h:∀b∈F,G b=σ b):yI F lo hi σ G=yI [] lo hi σ G:=by
 funext b;unfold yI
 by_cases E:lo<=b/\b<hi
 .rw[sO (.inr E),sO (.inr E)]
 .by_cases J:b∈F
  .rw[sO (.inl J),sQ (fun e=>e.elim (fun e=>by cases e) E),h b J]
  .rw[sQ (fun e=>e.elim J E),sQ (fun e=>e.elim (fun e=>by cases e) E)]
theorem bG{ops:Array Oper}{o:Oper}{lo hi:Nat}{T T1:Nat->V}{σ a6:Store}{F:List Nat}(h:stepD P conv call ops o lo T σ=some (T1,a6,hi,F)) :
  ∃v τ W,T1=Dc T o.dst v/\a6=yI W lo hi σ τ/\(∀b∈W,b∈F)/\(W≠[]->writer conv o=true)/\(∀b∈F,b<lo) /\
   ∀T2 σ2,(∀t∈o.looksAt ops,T2 t=T t)->(∀b∈F,σ2 b=σ b)->stepD P conv call ops o lo T2 σ2=some (Dc T2 o.dst v,yI W lo hi σ2 τ,hi,F):=by
 unfold stepD at h
 split at h
 .rename_i hw
  unfold Ai at h;cases J:Dw conv T σ o with
  |none=>rw[J]at h;cases h
  |some E=>
  have b5:Ad conv T σ o=E:=by unfold Ad;rw[J];rfl
  simp only[J,b5]at h
  by_cases G:(E.all fun b=>decide (b<lo))=true
  .rw[sO G]at h
   cases he:AO P conv call o T (restrict σ E) lo with
   |none=>rw[he]at h;cases h
   |some r=>
    obtain⟨v,τ,a7⟩:=r;rw[he]at h;simp only at h
    by_cases S:keeps conv T o E v=true
    .rw[sO S]at h
     simp only[sW,sS]at h;obtain⟨rfl,rfl,rfl,rfl⟩:=h
     have O:∀T2 σ2,(∀t∈o.looksAt ops,T2 t=T t)->(∀b∈E,σ2 b=σ b) ->
       stepD P conv call ops o lo T2 σ2=some (Dc T2 o.dst v,yI E lo a7 σ2 τ,a7,E):=by
      intro T2 σ2 hT a8;have hv:=val_congr ops hT;have b6:restrict σ2 E=restrict σ E:=by
       funext b;unfold restrict;split
       .rename_i hb;exact a8 b hb
       .rfl
      have b2:=KL hv J a8;have b7:Ad conv T2 σ2 o=E:=by unfold Ad;rw[b2];rfl
      unfold stepD;rw[ZY hT,hw];simp only[Ai,b2,b7,G,if_true,YU hv,b6,he,VD hv,S]
     have Y:∀b∈E,b<lo:=fun b hb=>by simpa using List.all_eq_true.1 G b hb
     by_cases b3:writer conv o=true
     .exact⟨v,τ,E,rfl,rfl,fun b h=>h,fun _=>b3,Y,O⟩
     .by_cases hF:E=[]
      .refine⟨v,τ,[],rfl,by rw[hF],(fun b h=>by cases h),fun h=>absurd rfl h,Y,fun T2 σ2 h1 h2=>by rw[O T2 σ2 h1 h2,hF]⟩
      .have a1:=VE (by simpa using b3) S hF J he
       have b4:∀b∈E,τ b=σ b:=fun b hb=>by
        rw[a1 b (Y b hb)];unfold restrict;rw[sO hb]
       refine⟨v,τ,[],rfl,KN b4,(fun b h=>by cases h),fun h=>absurd rfl h,Y,fun T2 σ2 h1 h2=>?_⟩;rw[O T2 σ2 h1 h2,KN fun b hb=>(b4 b hb).trans (h2 b hb).symm]
    .rw[sQ S]at h;cases h
  .rw[sQ G]at h;cases h
 .rename_i hw
  simp only[sW,sS]at h;obtain⟨rfl,rfl,rfl,rfl⟩:=h;refine⟨_,σ,[],rfl,iJ.symm,fun b h=>h,fun h=>absurd rfl h,(fun b h=>by cases h),fun T2 σ2 hT _=>?_⟩;unfold stepD;rw[ZY hT,hw];simp only[iJ]
 .cases h
structure Rec where
 o:Oper
 i:Nat
 lo:Nat
 hi:Nat
 F:List Nat
structure Ap (conv:FuncId->Conv) (ops:Array Oper) (a b:Rec):Prop where
 names:a.o.apart ops b.o=true
 foot:(writer conv a.o=true\/writer conv b.o=true)->∀c∈a.F,c∉b.F
 lt:a.hi<=b.lo
 fb:∀c∈b.F,¬(a.lo<=c/\c<a.hi)
 fa:∀c∈a.F,c<b.lo
theorem arF{ops:Array Oper}{a b:Rec}(J:Ap conv ops a b){T T1 T2:Nat->V}{σ a1 σ2:Store}(E:stepD P conv call ops a.o a.lo T σ=some (T1,a1,a.hi,a.F))(G:stepD P conv call ops b.o b.lo T1 a1=some (T2,σ2,b.hi,b.F)) :
  ∃a6 a7,stepD P conv call ops b.o b.lo T σ=some (a6,a7,b.hi,b.F)/\stepD P conv call ops a.o a.lo a6 a7=some (T2,σ2,a.hi,a.F):=by
 obtain⟨n1,n2,n3⟩:=Oper.apart_spec J.names;obtain⟨v,τ,W,rfl,rfl,O,b5,c6,b6⟩:=bG E;obtain⟨v',S,Y,rfl,rfl,a8,b7,c5,b8⟩:=bG G;have b2:∀(T:Nat->V) (dst:Option Tmp) (v:V) (t:Nat),dst≠some t->Dc T dst v t=T t:=fun T dst v t h=>by
  cases dst with
  |none=>rfl
  |some d=>exact Zk _ _ (fun e=>h (by rw[e]))
 have b3:∀c,c∈W->c∉b.F:=fun c hc=>J.foot (.inl (b5 (by intro e;rw[e]at hc;cases hc))) c (O c hc)
 have b4:∀c,c∈Y->c∉a.F:=fun c hc b9=>J.foot (.inr (b7 (by intro e;rw[e]at hc;cases hc))) c b9 (a8 c hc)
 have e1:=b8 T σ (fun t ht=>(b2 T a.o.dst v t (fun e=>n1 t e ht)).symm) (fun c hc=>by
  unfold yI;rw[sQ];rintro (h|h)
  .exact b3 c h hc
  .exact J.fb c hc h)
 have e2:=b6 (Dc T b.o.dst v') (yI Y b.lo b.hi σ S) (fun t ht=>b2 T b.o.dst v' t (fun e=>n3 t e ht)) (fun c hc=>by
  unfold yI;rw[sQ];rintro (h|h)
  .exact b4 c h hc
  .have:=J.fa c hc;omega)
 refine⟨_,_,e1,?_⟩;rw[e2];have hT:Dc (Dc T b.o.dst v') a.o.dst v=Dc (Dc T a.o.dst v) b.o.dst v':=by
  cases c0:a.o.dst with
  |none=>rfl
  |some d=>
   cases c2:b.o.dst with
   |none=>rfl
   |some d'=>
    have c3:d'≠d:=fun e=>n2 d c0 (by rw[c2,e])
    funext t;simp only[Dc,upd]
    split
    .rename_i e;rw[sQ (by rw[e];exact fun h=>c3 h.symm)]
    .rfl
 have c4:yI W a.lo a.hi (yI Y b.lo b.hi σ S) τ=yI Y b.lo b.hi (yI W a.lo a.hi σ τ) S:=by
  funext c;unfold yI
  by_cases E:c∈W\/(a.lo<=c/\c<a.hi)
  .have G:¬(c∈Y\/(b.lo<=c/\c<b.hi)):=by
    rintro (G|G)
    .rcases E with E|E
     .exact b4 c G (O c E)
     .exact J.fb c (a8 c G) E
    .rcases E with E|E
     .have:=J.fa c (O c E);omega
     .have:=J.lt;omega
   rw[sO E,sQ G,sO E]
  .rw[sQ E]
   by_cases G:c∈Y\/(b.lo<=c/\c<b.hi)
   .rw[sO G,sO G]
   .rw[sQ G,sQ G,sQ E]
 rw[hT,c4]
def YV(P:Program)(conv:FuncId->Conv)(call:Call)(ops:Array Oper):List Rec->(Nat->V)->Store->(Nat->V)->Store->Prop
 |[],T,σ,T',σ'=>T=T'/\σ=σ'
 |r :: L,T,σ,T',σ'=>∃G E,stepD P conv call ops r.o r.lo T σ=some (G,E,r.hi,r.F)/\YV P conv call ops L G E T' σ'
theorem af6{ops:Array Oper}{r:Rec}:∀(E G:List Rec) (T T':Nat->V) (σ σ':Store),(∀a∈E,Ap conv ops a r)->YV P conv call ops (E++r :: G) T σ T' σ'->YV P conv call ops (r :: (E++G)) T σ T' σ'
 |[],G,T,T',σ,σ',_,h=>h
 |a :: E,G,T,T',σ,σ',hap,h=>by
  obtain⟨Y,J,h1,h2⟩:=h;obtain⟨T2,σ2,h3,h4⟩:=af6 E G Y T' J σ' (fun b hb=>hap b (zY _ hb)) h2;obtain⟨O,S,h5,h6⟩:=arF (hap a zO) h1 h3;exact⟨O,S,h5,T2,σ2,h6,h4⟩
end
end Go.TV
namespace Go.TV
open Go.RowKit
set_option linter.unusedVariables false
set_option linter.unusedSimpArgs false
variable [Known]
theorem Inv.restrict{s:Sit}{σ:Store}(h:Inv s σ)(ids:List Nat):Inv s (restrict σ ids):=by
 have q:∀ {i:Nat} {A:Fv},TV.restrict σ ids i=some A->i∈ids/\σ i=some A:=fun {i A} h=>by
  unfold TV.restrict at h
  split at h
  .rename_i hm;exact⟨hm,h⟩
  .cases h
 exact⟨fun i B E=>h.blk i B (q E).2,fun b1 G J O S Y h1 h2=>h.Qj b1 G J O S Y (q h1).2 (q h2).2,h.zb,h.kn⟩
theorem adF{s:Sit}{σ:Store}(hi:Inv s σ){ids:List Nat}{nx nx':Nat}(hn:FD s nx nx'){s':Sit}{v:V}{x:Value}{a1:Store}(ho:Out s (restrict σ ids) nx s' v x a1 nx'):Out s σ nx s' v x (yI ids nx nx' σ a1) nx':=by
 obtain⟨hv,a6,E,hd⟩:=ho;have q:∀ {i:Nat} {A:Fv},restrict σ ids i=some A->i∈ids/\σ i=some A:=fun {i A} h=>by
  unfold restrict at h
  split at h
  .rename_i hm;exact⟨hm,h⟩
  .cases h
 have p:∀b B,yI ids nx nx' σ a1 b=some B->((b∈ids\/(nx<=b/\b<nx'))/\a1 b=some B)\/(b∉ids/\σ b=some B):=fun b B h=>by
  unfold yI at h
  split at h
  .rename_i hm;exact .inl ⟨hm,h⟩
  .rename_i hm;exact .inr ⟨fun e=>hm (.inl e),h⟩
 have G:∀ {b:Nat} {B:Fv} {l:Loc},b∉ids->σ b=some B->s.β b=some l->∀b' B' l',restrict σ ids b'=some B'->s.β b'=some l'->l'.k≠l.k:=fun {b B l} hb hB hl b' B' l' J h2 e=>by
  obtain⟨hm,h3⟩:=q J;exact hb (by rw[<- hi.Qj b' b B' B l' l h3 hB h2 hl e];exact hm)
 have O:∀ {b:Nat} {B:Fv},b∉ids->σ b=some B->∃l c e,s.β b=some l/\s'.β b=some l/\l.k<s.w.heap.size/\s.w.heap[l.k]?=some (.cells c e (0,0))/\s'.w.heap[l.k]?=some (.cells c e (0,0)):=fun {b B} hb hB=>by
  obtain⟨l,c,e,g1,g2,_⟩:=hi.blk b B hB;exact⟨l,c,e,g1,E.le.bb _ _ g1,hi.block_lt hB g1,g2,(E.kb l.k (hi.block_lt hB g1) (fun b' B' l' J h2=>G hb hB g1 b' B' l' J h2)).trans g2⟩
 refine⟨hv,⟨fun b B hB=>?_,fun b1 b2 B1 B2 l1 l2 J h2 e1 e2 hk=>?_,a6.zb,a6.kn⟩,⟨E.le,fun k o z=>?_,fun k hk hn=>E.kb k hk fun b B l J h2=>hn b B l (q J).2 h2,fun b B l J h2=>?_,E.hs,E.os,E.tape,E.output⟩,hd⟩
 .rcases p b B hB with ⟨_,J⟩|⟨hb,J⟩
  .exact a6.blk b B J
  .obtain⟨l,c,e,g1,g2,g3,g4,g5,g6,g7⟩:=hi.blk b B J
   obtain⟨l',c',e',k1,S,k3,k4,k5⟩:=O hb J;rw[g1]at k1;cases k1;rw[g2]at k4;cases k4;refine⟨l,c,e,S,k5,g3,g4,g5,fun i v hv=>let ⟨x,hx,hr⟩:=g6 i v hv;⟨x,hx,sD E.le v x hr⟩,fun o z=>?_,g7.2⟩;rcases E.zn _ _ z with z|z|⟨b',B',l',h3,h4,h5⟩
   .exact g7.1 o z
   .omega
   .exact absurd h5 (G hb J g1 b' B' l' h3 h4)
 .rcases p b1 B1 J with ⟨_,Y⟩|⟨a7,Y⟩<;>rcases p b2 B2 h2 with ⟨_,p2⟩|⟨a8,p2⟩
  .exact a6.Qj b1 b2 B1 B2 l1 l2 Y p2 e1 e2 hk
  .obtain⟨l,c,e,k1,S,k3,_⟩:=O a8 p2
   rw[e2]at S;cases S;rcases E.nb b1 B1 l1 Y e1 with h|⟨b0,B0,l0,h3,h4,h5⟩
   .omega
   .exact absurd (h5.trans hk) (G a8 p2 k1 b0 B0 l0 h3 h4)
  .obtain⟨l,c,e,k1,S,k3,_⟩:=O a7 Y
   rw[e1]at S;cases S;rcases E.nb b2 B2 l2 p2 e2 with h|⟨b0,B0,l0,h3,h4,h5⟩
   .omega
   .exact absurd (h5.trans hk.symm) (G a7 Y k1 b0 B0 l0 h3 h4)
  .obtain⟨l,c,e,k1,S,k3,_⟩:=O a7 Y
   obtain⟨l',c',e',b4,b3,b5,_⟩:=O a8 p2;rw[e1]at S;cases S;rw[e2]at b3;cases b3;exact hi.Qj b1 b2 B1 B2 _ _ Y p2 k1 b4 hk
 .rcases E.zn k o z with z|z|⟨b',B',l',h3,h4,h5⟩
  .exact .inl z
  .exact .inr (.inl z)
  .exact .inr (.inr ⟨b',B',l',(q h3).2,h4,h5⟩)
 .rcases p b B J with ⟨_,Y⟩|⟨hb,Y⟩
  .rcases E.nb b B l Y h2 with h|⟨b0,B0,l0,h3,h4,h5⟩
   .exact .inl h
   .exact .inr ⟨b0,B0,l0,(q h3).2,h4,h5⟩
  .obtain⟨l',c,e,k1,S,k3,_⟩:=O hb Y
   rw[h2]at S;cases S;exact .inr ⟨b,B,_,Y,k1,rfl⟩
section
variable {P:Program} {conv:FuncId->Conv} {call:Call}
structure arI (nt:Nat) (s0:Sit) (GL:Store) (lo0 hi0:Nat) (T:Nat->V) (σ:Store) (L:List Rec) (s:Sit) (a:Act):Prop where
 inv:Inv s σ
 tr:TR s T a.tmps
 size:a.tmps.size=nt
 defers:a.defers=[]
 Jv:U_ s0 GL s σ
 dom:Dom s0 s lo0 hi0
 fresh:∀r∈L,FD s r.lo r.hi
theorem ru{s:Sit}{v:V}{x:Value}(h:VR s v x):∀b∈Ae v,s.β b≠none:=by
 intro b hb;cases v<;>simp only[Ae,zK,yD]at hb<;>subst hb<;>unfold VR at h
 .obtain⟨l,E,_⟩:=h;rw[E];simp
 .obtain⟨l,c,E,_⟩:=h;rw[E];simp
theorem Iu{s:Sit}:∀ {vs:List V} {xs:List Value},VRs s vs xs->∀b∈vs.flatMap Ae,s.β b≠none
 |[],_,_,b,hb=>by simp at hb
 |v :: vs,xs,h,b,hb=>by
  unfold VRs at h;obtain⟨y,J,rfl,E,G⟩:=h;rw[zG]at hb;rcases List.mem_append.1 hb with hb|hb
  .exact ru E b hb
  .exact Iu G b hb
theorem ajZ{s:Sit}{v:V}{x:Value}(h:VR s v x):∀b∈Ep v,s.β b≠none:=by
 intro b hb;cases v with
 |agg vs=>unfold VR at h;obtain⟨xs,_,E⟩:=h;exact Iu E b hb
 |AX vs=>unfold VR at h;obtain⟨xs,_,E⟩:=h;exact Iu E b hb
 |clo f vs=>unfold VR at h;obtain⟨xs,_,E⟩:=h;exact Iu E b hb
 |sc u=>exact ru h b hb
 |nil=>exact ru h b hb
 |junk=>exact ru h b hb
 |tp row off=>exact ru h b hb
 |ts row len=>exact ru h b hb
 |rp i off=>exact ru h b hb
 |rs i off len=>exact ru h b hb
theorem Np{s:Sit}:∀ {vs:List V} {xs:List Value},VRs s vs xs->∀b∈vs.flatMap Ep,s.β b≠none
 |[],_,_,b,hb=>by simp at hb
 |v :: vs,xs,h,b,hb=>by
  unfold VRs at h;obtain⟨y,J,rfl,E,G⟩:=h;rw[zG]at hb;rcases List.mem_append.1 hb with hb|hb
  .exact ajZ E b hb
  .exact Np G b hb
theorem rQ{s:Sit}:∀ {vs:List V} {xs:List Value},VRs s vs xs->∀v∈vs,∃x,VR s v x
 |[],_,_,v,E=>by cases E
 |w :: vs,xs,h,v,E=>by
  unfold VRs at h;obtain⟨y,O,rfl,G,J⟩:=h;rcases List.mem_cons.1 E with rfl|E
  .exact⟨y,G⟩
  .exact rQ J v E
theorem ak{f:V->Option (V×List Nat)}{p:Nat->Prop}:∀ {vs ts:List V} {ids:List Nat},(∀v∈vs,∀t i,f v=some (t,i)->(∀b∈i,b∈ids)->∀b∈i,p b)->stripL f vs=some (ts,ids)->∀b∈ids,p b
 |[],ts,ids,_,h,b,hb=>by
  simp only[stripL,sW,sS]at h;rw[<- h.2]at hb;cases hb
 |v :: vs,ts,ids,hf,h,b,hb=>by
  unfold stripL at h
  split at h
  .rename_i t i E j G J
   simp only[sW,sS]at h;obtain⟨rfl,rfl⟩:=h;rcases List.mem_append.1 hb with hb|hb
   .exact hf v zO t i G (fun b hb=>z_ _ hb) b hb
   .exact ak (fun w hw t i h hi=>hf w (zY _ hw) t i h fun b hb=>yh _ (hi b hb)) J b hb
  .cases h
theorem aU{s:Sit}{σ S:Store}(hi:Inv s σ):∀(d:Nat) (v t:V) (ids:List Nat),strip S d v=some (t,ids)->(∃x,VR s v x)->(∀b∈ids,s.β b≠none->S b=σ b)->∀b∈ids,s.β b≠none
 |0,v,t,ids,h,_,_,b,hb=>by
  cases v<;>simp[strip]at h<;>(rw[h.2]at hb;cases hb)
 |d+1,v,t,ids,h,J,hs,b,hb=>by
  obtain⟨x,J⟩:=J;have held:∀ {c:Nat} {B:Fv},S c=some B->c∈ids->s.β c≠none->∀w∈B.cells,∃y,VR s w y:=fun {c B} Y hc G w hw=>by
   rw[hs c hc G]at Y;obtain⟨l,c',e,_,_,_,_,_,h6,_⟩:=hi.blk c B Y;obtain⟨i,E⟩:=List.mem_iff_getElem?.1 hw;obtain⟨y,_,hy⟩:=h6 i w E;exact⟨y,hy⟩
  cases v<;>simp only[strip]at h<;>try (simp only[sW,sS]at h;rw[<- h.2]at hb;cases hb;done)
  case agg vs=>
   split at h
   .rename_i ts i e
    simp only[sW,sS]at h;obtain⟨rfl,rfl⟩:=h;unfold VR at J;obtain⟨xs,_,hr⟩:=J;exact ak (fun v O t i h E=>aU hi d v t i h (rQ hr v O) fun b hb=>hs b (E b hb)) e b hb
   .cases h
  case AX vs=>
   split at h
   .rename_i ts i e
    simp only[sW,sS]at h;obtain⟨rfl,rfl⟩:=h;unfold VR at J;obtain⟨xs,_,hr⟩:=J;exact ak (fun v O t i h E=>aU hi d v t i h (rQ hr v O) fun b hb=>hs b (E b hb)) e b hb
   .cases h
  case clo f vs=>
   split at h
   .rename_i ts i e
    simp only[sW,sS]at h;obtain⟨rfl,rfl⟩:=h;unfold VR at J;obtain⟨xs,_,hr⟩:=J;exact ak (fun v O t i h E=>aU hi d v t i h (rQ hr v O) fun b hb=>hs b (E b hb)) e b hb
   .cases h
  case rp c off=>
   have G:s.β c≠none:=ru J c (by simp[Ae])
   split at h
   .rename_i B Y
    split at h
    .rename_i ts i e
     simp only[sW,sS]at h;obtain⟨rfl,rfl⟩:=h;rcases List.mem_cons.1 hb with rfl|hb
     .exact G
     .exact ak (fun v O t i h E=>aU hi d v t i h (held Y zO G v O) fun b hb=>hs b (zY _ (E b hb))) e b hb
    .cases h
   .cases h
  case rs c off len=>
   have G:s.β c≠none:=ru J c (by simp[Ae])
   split at h
   .rename_i B Y
    split at h
    .split at h
     .rename_i ts i e
      simp only[sW,sS]at h;obtain⟨rfl,rfl⟩:=h;rcases List.mem_cons.1 hb with rfl|hb
      .exact G
      .exact ak (fun v O t i h E=>aU hi d v t i h (held Y zO G v (uJ (wR O))) fun b hb=>hs b (zY _ (E b hb))) e b hb
     .cases h
    .cases h
   .cases h
theorem af7{s:Sit}{T:Nat->V}{a:Act}{σ G:Store}(hi:Inv s σ)(h:TR s T a.tmps){o:Oper}{F:List Nat}(E:Dw conv T G o=some F)(hs:∀b∈F,s.β b≠none->G b=σ b):∀b∈F,s.β b≠none:=by
 intro b hb;obtain⟨dst,op,type,pos,after,guard⟩:=o;have no:∀ {p:Prop},some ([]:List Nat)=some F->p:=fun e=>by rw[<- Option.some.inj e]at hb;cases hb
 cases op<;>simp only[Dw]at E<;>try exact no E
 case load t x=>rw[<- Option.some.inj E]at hb;exact ru (Zh h x) b hb
 case store t x y=>rw[<- Option.some.inj E]at hb;exact ru (Zh h x) b hb
 case slice t x lo hi mx=>rw[<- Option.some.inj E]at hb;exact ru (Zh h x) b hb
 case convert s d x=>rw[<- Option.some.inj E]at hb;exact ru (Zh h x) b hb
 case call c=>
  obtain⟨callee,args,ts⟩:=c;cases callee with
  |value f=>
   simp only at E
   split at E
   .rename_i g cs e
    have J:∃xs:List Value,VRs s cs xs:=by
     have Y:=Zh h f;rw[e]at Y;unfold VR at Y;obtain⟨xs,_,O⟩:=Y;exact⟨_,O⟩
    split at E
    .rw[<- Option.some.inj E]at hb
     rcases List.mem_append.1 hb with hb|hb
     .exact Np (Zg h _) b hb
     .obtain⟨xs,O⟩:=J
      exact Np O b hb
    .unfold Qq at E
     split at E
     .rename_i a6 ids e2
      have:ids=F:=Option.some.inj E;subst this;refine ak (fun v S t i h' a1=>aU hi depth v t i h' ?_ fun b hb=>hs b (a1 b hb)) e2 b hb;rcases List.mem_append.1 S with S|S
      .exact rQ (Zg h _) v S
      .obtain⟨xs,O⟩:=J
       exact rQ O v S
     .cases E
   .exact no E
  |builtin bb=>cases bb<;>first|exact no E|(simp only at E;rw[<- Option.some.inj E]at hb;exact Iu (Zg h _) b hb)
  |invoke r m=>exact no E
structure YW (conv:FuncId->Conv) (ops:Array Oper) (L:List Rec):Prop where
 at_:∀r∈L,ops[r.i]?=some r.o
 asc:L.Pairwise fun a b=>a.i<b.i/\a.hi<=b.lo/\(FQ b.o a.i=true\/(a.o.apart ops b.o=true/\((writer conv a.o=true\/writer conv b.o=true)->∀c∈a.F,c∉b.F)))/\∀c∈a.F,c<b.lo
 le:∀r∈L,r.lo<=r.hi
theorem JH{E:Array Bool}{i:Nat}(h:E.getD i true=false):i<E.size/\E.getD i false=false:=by
 rw[yF]at *;cases G:E[i]? with
 |none=>rw[G]at h;cases h
 |some b=>rw[G]at h;exact⟨(Array.getElem?_eq_some_iff.1 G).1,h⟩
theorem aj1{ops:Array Oper}{o:Oper}{lo hi:Nat}{T J:Nat->V}{σ E:Store}{F:List Nat}(h:stepD P conv call ops o lo T σ=some (J,E,hi,F)):F=[]\/Dw conv T σ o=some F:=by
 unfold stepD at h
 split at h
 .split at h
  .rename_i v σ' nx' G
   simp only[sW,sS]at h;obtain⟨_,_,_,rfl⟩:=h;unfold Ai at G;unfold Ad;cases O:Dw conv T σ o with
   |none=>rw[O]at G;cases G
   |some F=>exact .inr rfl
  .cases h
 .simp only[sW,sS]at h
  obtain⟨_,_,_,rfl⟩:=h;exact .inl rfl
 .cases h
theorem af8{ops:Array Oper}{r:Rec}{L2:List Rec}{T':Nat->V}{σ':Store}:∀(J:List Rec) (T:Nat->V) (σ:Store),(∀b∈J,b.o.apart ops r.o=true)->(∀b∈J,writer conv b.o=true->∀c∈b.F,c∉r.F)->YV P conv call ops (J++r :: L2) T σ T' σ' ->
  ∃G E T2 σ2,(∀t∈r.o.looksAt ops,G t=T t)/\(∀c∈r.F,(∀b∈J,¬(b.lo<=c/\c<b.hi))->E c=σ c)/\stepD P conv call ops r.o r.lo G E=some (T2,σ2,r.hi,r.F)
 |[],T,σ,_,_,h=>by obtain⟨G,E,S,_⟩:=h;exact⟨T,σ,G,E,fun _ _=>rfl,fun _ _ _=>rfl,S⟩
 |b :: J,T,σ,hap,hw,h=>by
  obtain⟨G,E,S,h2⟩:=h;obtain⟨v,τ,W,rfl,rfl,Y,a1,_⟩:=bG S;obtain⟨n1,_,_⟩:=Oper.apart_spec (hap b zO);obtain⟨G,E,T2,σ2,g1,g3,g2⟩:=af8 J _ _ (fun c hc=>hap c (zY _ hc)) (fun c hc=>hw c (zY _ hc)) h2;refine⟨G,E,T2,σ2,fun t ht=>(g1 t ht).trans ?_,fun c hc hr=>(g3 c hc fun b' a6=>hr b' (zY _ a6)).trans ?_,g2⟩
  .cases O:b.o.dst with
   |none=>rfl
   |some d=>exact Zk _ _ (fun e=>n1 d O (by rw[<- e];exact ht))
  .unfold yI
   rw[sQ];rintro (e|e)
   .exact hw b zO (a1 (by intro e';rw[e']at e;cases e)) c (Y c e) hc
   .exact hr b zO e
theorem adG(hc:DX P call){o:Oper}{T:Nat->V}{σ σ':Store}{nx nx':Nat}{v:V}(h:Ai P conv call o T σ nx=some (v,σ',nx')){s:Sit}{a:Act}(hi:Inv s σ)(E:TR s T a.tmps)(hn:FD s nx nx')
  {K:Act->World->Prop} {Q:Exit->Act->World->Prop} (G:∀s' x,Out s σ nx s' v x σ' nx'->K (a.put o.dst x) s'.w):o.wp P a s.w K Q:=by
 unfold Ai at h
 split at h
 .split at h
  .split at h
   .rename_i v1 J Y O
    split at h
    .simp only[sW,sS]at h
     obtain⟨rfl,rfl,rfl⟩:=h;exact Nj hc O (hi.restrict _) E hn fun s' x S=>G s' x (adF hi hn S)
    .cases h
   .cases h
  .cases h
 .cases h
theorem adH(hc:DX P call){ops:Array Oper}{nt:Nat}{s0:Sit}{GL:Store}{lo0 hi0:Nat}(hd:∀o∈ops.toList,∀d,o.dst=some d->d<nt){T':Nat->V}{σ':Store}{Q:Exit->Act->World->Prop}
  (hQ:∀s a,arI nt s0 GL lo0 hi0 T' σ' [] s a->Q .normal a s.w) (c4:∀i o,ops[i]?=some o->∀e∈o.after,Region.binds .any e=true->e.on<i) :
  ∀(L:List Rec) (E:Array Bool) (T:Nat->V) (σ:Store) (s:Sit) (a:Act),E.size=ops.size->(∀i,i<ops.size->(E.getD i true=false↔∃r∈L,r.i=i))->YW conv ops L->(∀r∈L,lo0<=r.lo/\r.hi<=hi0) ->
   YV P conv call ops L T σ T' σ'->arI nt s0 GL lo0 hi0 T σ L s a->wpAny P .any ops Q L.length E a s.w:=by
 intro L
 induction hlen:L.length generalizing L with
 |zero=>
  intro E T σ s a c9 a8 S Y b2 hs;have:L=[]:=zZ hlen;subst this;obtain⟨rfl,rfl⟩:=b2;refine⟨?_,hQ s a hs⟩;unfold Region.ready;rw[List.filter_eq_nil_iff];intro i hi;have e5:i<ops.size:=List.mem_range.1 hi;have e6:E.getD i true≠false:=fun e=>by obtain⟨r,hr,_⟩:=(a8 i e5).1 e;cases hr
  have a6:E.getD i true=true:=by simpa using e6
  simp[a6]
 |succ n ih=>
  intro E T σ s a c9 a8 S Y b2 hs;refine⟨fun e7=>?_,fun i hi=>?_⟩
  ·-- the first record is ready
   exfalso;obtain⟨r,L',rfl⟩:∃r L',L=r :: L':=by
    cases L with
    |nil=>simp at hlen
    |cons r L'=>exact⟨r,L',rfl⟩
   have c5:=S.at_ r zO;have c6:r.i<ops.size:=(Array.getElem?_eq_some_iff.1 c5).1;have a7:r.i∈Region.ready .any ops E:=by
    refine mem_ready.2 ⟨(a8 r.i c6).2 ⟨r,zO,rfl⟩,r.o,c5,fun e he hb=>?_⟩;have h9:=c4 r.i r.o c5 e he hb;have a6:E.getD e.on true=true:=by
     cases hq:E.getD e.on true with
     |true=>rfl
     |false=>
      obtain⟨r',a1,YD⟩:=(a8 e.on (by omega)).1 hq;rcases List.mem_cons.1 a1 with rfl|a1
      .omega
      .have:=(List.pairwise_cons.1 S.asc).1 r' a1
       omega
    rw[yF]at a6⊢;have:e.on<E.size:=by omega
    rw[Array.getElem?_eq_getElem this]at a6⊢;exact a6
   rw[e7]at a7;cases a7
  .obtain⟨e8,o,ho,e0⟩:=mem_ready.1 hi
   have e2:i<ops.size:=(Array.getElem?_eq_some_iff.1 ho).1;obtain⟨r,hr,YD⟩:=(a8 i e2).1 e8;obtain⟨L1,L2,rfl⟩:=List.append_of_mem hr;have b8:r.o=o:=by
    have:=S.at_ r hr;rw[YD,ho]at this
    simpa using this.symm
   have b3:=S.asc;have b4:∀b∈L1,b.i<r.i/\b.hi<=r.lo/\(FQ r.o b.i=true\/(b.o.apart ops r.o=true/\((writer conv b.o=true\/writer conv r.o=true)->∀c∈b.F,c∉r.F)))/\∀c∈b.F,c<r.lo:=fun b hb=>
    (List.pairwise_append.1 b3).2.2 b hb r zO
   have e9:∀b∈L1,FQ r.o b.i≠true:=fun b hb he=>by
    unfold FQ at he;rw[Array.any_eq_true']at he;obtain⟨e,h0,c7⟩:=he;simp only[zM,beq_iff_eq]at c7;have c6:b.i<ops.size:=(Array.getElem?_eq_some_iff.1 (S.at_ b (z_ _ hb))).1;have h1:=(a8 b.i c6).2 ⟨b,z_ _ hb,rfl⟩;have h2:=e0 e (by rw[<- b8];exact h0) c7.1;rw[c7.2]at h2;rw[(JH h1).2]at h2;cases h2
   have b9:∀b∈L1,b.o.apart ops r.o=true/\((writer conv b.o=true\/writer conv r.o=true)->∀c∈b.F,c∉r.F):=fun b hb=>(b4 b hb).2.2.1.resolve_left (e9 b hb)
   obtain⟨T1,h3,T2,σ2,g1,g3,g2⟩:=af8 L1 T σ (fun b hb=>(b9 b hb).1) (fun b hb hw=>(b9 b hb).2 (.inl hw)) b2;have h4:∀c∈r.F,s.β c≠none:=by
    rcases aj1 g2 with e|e
    .intro c hc;rw[e]at hc;cases hc
    .exact af7 hs.inv hs.tr (KL (σ2:=h3) (T2:=T) (fun x hx=>(val_congr ops g1 x hx).symm) e fun _ _=>rfl) fun c hc h5=>g3 c hc fun b hb b5=>h5 (hs.fresh b (z_ _ hb) c b5.1 b5.2)
   have h6:∀b∈L1,Ap conv ops b r:=fun b hb=>⟨(b9 b hb).1,(b9 b hb).2,(b4 b hb).2.1,fun c hc b5=>h4 c hc (hs.fresh b (z_ _ hb) c b5.1 b5.2),(b4 b hb).2.2.2⟩
   obtain⟨T3,i0,G,b6⟩:=af6 L1 L2 T T' σ σ' h6 b2;have b7:(L1++L2).length=n:=by simp only[zo,zV]at hlen⊢;omega
   have c0:(E.setIfInBounds i true).size=ops.size:=by simpa using c9
   have h7:∀b∈L1++L2,b.i≠r.i:=fun b hb=>by
    rcases List.mem_append.1 hb with hb|hb
    .have:=(b4 b hb).1;omega
    .have:=(List.pairwise_cons.1 (List.pairwise_append.1 b3).2.1).1 b hb;omega
   have c2:∀j,j<ops.size->((E.setIfInBounds i true).getD j true=false↔∃r'∈L1++L2,r'.i=j):=fun j hj=>by
    have h8:j<E.size:=by omega
    by_cases c8:j=i
    .subst c8
     constructor
     .intro h
      rw[yF,Array.getElem?_setIfInBounds_self]at h;simp[h8]at h
     .rintro ⟨r',a1,e⟩
      exact absurd (e.trans YD.symm) (h7 r' a1)
    .have e1:(E.setIfInBounds i true).getD j true=E.getD j true:=by
      rw[yF,yF,Array.getElem?_setIfInBounds_ne (fun e=>c8 e.symm)]
     rw[e1,a8 j hj];constructor
     .rintro ⟨r',a1,e⟩
      rcases List.mem_append.1 a1 with h|h
      .exact⟨r',z_ _ h,e⟩
      .rcases List.mem_cons.1 h with rfl|h
       .exact absurd (e.symm.trans YD) c8
       .exact⟨r',yh _ h,e⟩
     .rintro ⟨r',a1,e⟩
      rcases List.mem_append.1 a1 with h|h
      .exact⟨r',z_ _ h,e⟩
      .exact⟨r',yh _ (zY _ h),e⟩
   have J:(L1++L2).Sublist (L1++r :: L2):=List.Sublist.append_left (List.sublist_cons_self r L2) L1;have c3:YW conv ops (L1++L2):=⟨fun x hx=>S.at_ x (J.subset hx),S.asc.sublist J,fun x hx=>S.le x (J.subset hx)⟩
   have e3:∀x∈L1++L2,lo0<=x.lo/\x.hi<=hi0:=fun x hx=>Y x (J.subset hx)
   have i1:=Y r hr;have e4:∀x∈L1++L2,x.hi<=r.lo\/r.hi<=x.lo:=fun x hx=>by
    rcases List.mem_append.1 hx with hx|hx
    .exact .inl (b4 x hx).2.1
    .exact .inr ((List.pairwise_cons.1 (List.pairwise_append.1 b3).2.1).1 x hx).2.1
   have a7:o∈ops.toList:=by rw[<- xZ]at ho;exact List.mem_of_getElem? ho
   unfold wpOp;simp only[ho];rw[<- b8];unfold stepD at G
   split at G
   .rename_i hw
    rw[ZX hw hs.tr,sO rfl]
    split at G
    .rename_i v i2 i3 he
     simp only[sW,sS]at G;obtain⟨rfl,rfl,rfl,_⟩:=G;refine .inl (adG hc he hs.inv hs.tr (hs.fresh r hr) fun s' x O=>?_);refine ih (L1++L2) b7 _ _ _ s' _ c0 c2 c3 e3 b6 ⟨O.inv,YT (hs.tr.mono O.Jv.le) (fun d e=>by rw[hs.size];exact hd r.o (by rw[b8];exact a7) d e) O.vr,by rw[Nk];exact hs.size,by rw[gV];exact hs.defers,hs.Jv.trans O.Jv,fun j hj=>?_,fun x hx j h1 h2=>?_⟩
     .rcases O.dom j hj with h|h
      .exact hs.dom j h
      .exact .inr ⟨by omega,by omega⟩
     .cases hq:s'.β j with
      |none=>rfl
      |some l=>
       exfalso;rcases O.dom j (by rw[hq];simp)with h|h
       .exact h (hs.fresh x (J.subset hx) j h1 h2)
       .have:=e4 x hx;omega
    .cases G
   .rename_i hw
    rw[ZX hw hs.tr,sQ (by simp)];simp only[sW,sS]at G;obtain⟨rfl,rfl,_,_⟩:=G;exact ih (L1++L2) b7 _ _ _ s _ c0 c2 c3 e3 b6 ⟨hs.inv,YT hs.tr (fun d e=>by rw[hs.size];exact hd r.o (by rw[b8];exact a7) d e) (Nl s),by rw[Nk];exact hs.size,by rw[gV];exact hs.defers,hs.Jv,hs.dom,fun x hx=>hs.fresh x (J.subset hx)⟩
   .cases G
end
end Go.TV
namespace Go.TV
open Go.RowKit
set_option linter.unusedVariables false
set_option linter.unusedSimpArgs false
variable [Known]
section
variable {P:Program} {conv:FuncId->Conv} {call:Call}
theorem Sm(hc:DX P call){ops:Array Oper}:∀(l:List Oper) (i:Nat) (st E:St) (S:List (List Nat)),BD P conv call ops l st=some (E,S) ->
  ∃L:List Rec,YV P conv call ops L st.T st.σ E.T E.σ/\L.length=l.length/\S.length=l.length/\st.nx<=E.nx /\
   (∀(j:Nat) (r:Rec),L[j]?=some r->r.i=i+j/\l[j]?=some r.o/\S[j]?=some r.F/\st.nx<=r.lo/\r.lo<=r.hi/\r.hi<=E.nx/\∀c∈r.F,c<r.lo) /\
   L.Pairwise (fun a b=>a.hi<=b.lo)
 |[],i,st,E,S,h=>by
  simp only[BD,sW,sS]at h;obtain⟨rfl,rfl⟩:=h;exact⟨[],⟨rfl,rfl⟩,rfl,rfl,zq _,fun j r h=>by simp at h,.nil⟩
 |o :: l,i,st,E,S,h=>by
  have build:∀(T1:Nat->V) (O:Store) (qI:Nat) (F:List Nat) (G:List (List Nat)),stepD P conv call ops o st.nx st.T st.σ=some (T1,O,qI,F)->st.nx<=qI->BD P conv call ops l ⟨T1,O,qI⟩=some (E,G)->S=F :: G ->
    ∃L:List Rec,YV P conv call ops L st.T st.σ E.T E.σ/\L.length=(o :: l).length/\S.length=(o :: l).length/\st.nx<=E.nx /\
     (∀(j:Nat) (r:Rec),L[j]?=some r->r.i=i+j/\(o :: l)[j]?=some r.o/\S[j]?=some r.F/\st.nx<=r.lo/\r.lo<=r.hi/\r.hi<=E.nx/\∀c∈r.F,c<r.lo)/\L.Pairwise (fun a b=>a.hi<=b.lo):=by
   intro T1 O qI F G a6 hle a1 a7;obtain⟨L,h1,h2,h3,h4,h5,h6⟩:=Sm hc l (i+1) ⟨T1,O,qI⟩ E G a1;obtain⟨_,_,_,_,_,_,_,a8,_⟩:=bG a6;subst a7;refine⟨⟨o,i,st.nx,qI,F⟩ :: L,⟨T1,O,a6,h1⟩,by simp[h2],by simp[h3],zL hle h4,fun j r Y=>?_,.cons (fun b hb=>?_) h6⟩
   .cases j with
    |zero=>
     simp only[wS,sW]at Y;subst Y;exact⟨rfl,rfl,rfl,zq _,hle,h4,a8⟩
    |succ j=>
     simp only[tK]at Y⊢;obtain⟨e1,e2,e3,e4,e5,e6,e7⟩:=h5 j r Y;simp only at e4;exact⟨by omega,e2,e3,by omega,e5,e6,e7⟩
   .obtain⟨j,hj⟩:=List.mem_iff_getElem?.1 hb
    exact(h5 j b hj).2.2.2.1
  unfold BD at h
  split at h
  .rename_i hw
   split at h
   .rename_i v σ' nx' J
    split at h
    .rename_i s' G Y
     simp only[sW,sS]at h;obtain⟨rfl,rfl⟩:=h;have hle:st.nx<=nx':=by
      unfold Ai at J
      split at J
      .split at J
       .split at J
        .rename_i e
         split at J
         .simp only[sW,sS]at J
          obtain⟨_,_,rfl⟩:=J;exact JF hc e
         .cases J
        .cases J
       .cases J
      .cases J
     exact build _ _ _ _ _ (by unfold stepD;rw[hw];simp only[J]) hle Y rfl
    .cases h
   .cases h
  .rename_i hw
   split at h
   .rename_i s' G Y
    simp only[sW,sS]at h;obtain⟨rfl,rfl⟩:=h;exact build _ _ _ _ _ (by unfold stepD;rw[hw]) (zq _) Y rfl
   .cases h
  .cases h
theorem jJ{α:Type}{l:List α}{i j:Nat}{p:α}(hi:l[i]?=some p)(E:i<j):(p,i)∈(l.take j).zipIdx:=by
 refine List.mem_zipIdx_iff_getElem?.2 ?_;rw[wz,sO E];exact hi
theorem YX(hc:DX P call)(hm:P.follows .mixedOrders=true){ops:Array Oper}{id nt LM:Nat}{s0:Sit}{GL:Store}{GX:Nat}(hd:∀o∈ops.toList,∀d,o.dst=some d->d<nt){Q:Exit->Act->World->Prop}{st J:St}
  (h:CS P conv call ops st=some J) (hE:J.nx<=LM) (hQ:∀s a,YS nt LM s0 GL GX J.T J.σ J.nx s a->Q .normal a s.w) {s:Sit} {a:Act} (hs:YS nt LM s0 GL GX st.T st.σ st.nx s a) :
  (Code.region id ops true).wp P Q a s.w:=by
 unfold CS at h
 split at h
 .rename_i a8
  split at h
  .rename_i s' fs b8
   split at h
   .rename_i c3
    simp only[sW]at h;subst h;obtain⟨L,h1,h2,h3,h4,Y,h6⟩:=Sm hc ops.toList 0 st s' fs b8;have b9:∀(j:Nat) (o:Oper),ops.toList[j]?=some o->(∀e∈o.after,Region.binds .any e=true->e.on<j)/\∀(i:Nat) (p:Oper),i<j->ops.toList[i]?=some p->FQ o i=true\/p.apart ops o=true:=by
     intro j o ho;have:=List.all_eq_true.1 a8 (o,j) (List.mem_zipIdx_iff_getElem?.2 ho);simp only[zM]at this;refine⟨fun e he hb=>?_,fun i p E hp=>?_⟩
     .have h:=Array.all_eq_true'.1 this.1.1 e he
      rw[hb]at h
      simpa using h
     .have h:=List.all_eq_true.1 this.2 (p,i) (jJ hp E)
      simpa using h
    have c4:∀(i j:Nat) (p o:Oper),i<j->ops.toList[i]?=some p->ops.toList[j]?=some o->FQ o i≠true->(writer conv p=true\/writer conv o=true)->∀c∈(fs[i]?).getD [],c∉(fs[j]?).getD []:=by
     intro i j p o E hp ho he hw c hc c5;have c0:(i,j)∈H8 conv ops.toList:=by
      unfold H8;refine List.mem_flatMap.2 ⟨(o,j),List.mem_zipIdx_iff_getElem?.2 ho,List.mem_filterMap.2 ⟨(p,i),jJ hp E,?_⟩⟩;simp only;rw[sQ he,sO];rcases hw with hw|hw<;>simp[hw]
     have:=List.all_eq_true.1 c3 (i,j) c0;have:=List.all_eq_true.1 this c hc;simp only[vT,List.contains_eq_mem,decide_eq_false_iff_not]at this;exact this c5
    have c2:∀(j:Nat),ops.toList[j]?=ops[j]?:=fun j=>xZ
    have c6:YW conv ops L:=by
     refine⟨fun r hr=>?_,?_,fun r hr=>?_⟩
     .obtain⟨j,O⟩:=List.mem_iff_getElem?.1 hr
      obtain⟨e1,e2,_⟩:=Y j r O;rw[e1,yZ,<- c2];exact e2
     .rw[List.pairwise_iff_getElem]
      intro i j hi O E;have q1:=zy hi;have q2:=zy O;obtain⟨a1,a2,a3,a4,a5,a6,a7⟩:=Y i _ q1;obtain⟨b1,b2,b3,b4,b5,b6,b7⟩:=Y j _ q2;have hp:=(List.pairwise_iff_getElem.1 h6) i j hi O E;rw[yZ]at a1 b1;refine⟨by omega,hp,?_,fun c hc=>xQ (xQ (a7 c hc) a5) hp⟩;rw[a1]
      by_cases he:FQ L[j].o i=true
      .exact .inl he
      .refine .inr ⟨((b9 j _ b2).2 i _ E a2).resolve_left he,fun hw c hc=>?_⟩
       have:=c4 i j _ _ E a2 b2 he hw c (by rw[a3];exact hc);rw[b3]at this;exact this
     .obtain⟨j,O⟩:=List.mem_iff_getElem?.1 hr
      exact(Y j r O).2.2.2.2.1
    refine wp_region_any hm ?_;have c7:Below s.w.heap.size s.w { s.w with drawn:=s.w.drawn+1 }:=⟨rfl,rfl,rfl,zq _,fun _ _=>rfl⟩;obtain⟨hle,hinv,R_⟩:=hs.inv.grow c7;have S:=adH hc (s0:=s0) (GL:=GL) (nt:=nt) (lo0:=GX) (hi0:=s'.nx) hd (T':=s'.T) (σ':=s'.σ) (Q:=Q) (fun s1 a1 G=>hQ s1 a1 ⟨G.inv,G.tr,G.size,G.defers,G.Jv,G.dom,fun i g1 g2=>?_,by have:=hs.GX;omega⟩)
     (fun i o ho=>(b9 i o (by rw[c2];exact ho)).1) L (Array.replicate ops.size false) st.T st.σ { s with w:={ s.w with drawn:=s.w.drawn+1 } } a (by simp) (fun i hi=>?_) c6 (fun r hr=>?_) h1
     ⟨hinv,hs.tr.mono hle,hs.size,hs.defers,hs.Jv.trans R_,fun i hi=>?_,fun r hr j g1 g2=>?_⟩
    .rw[h2,yK]at S
     exact S
    ·-- no reference beyond
     cases hq:s1.β i with
     |none=>rfl
     |some l=>
      exfalso;rcases G.dom i (by rw[hq];simp)with h|h
      .exact h (by
        cases c8:s0.β i with
        |none=>rfl
        |some l0=>
         have:=hs.Jv.le.bb i l0 c8;rw[hs.fresh i (by omega) (by omega)]at this;cases this)
      .omega
    .constructor
     .intro _
      have hl:i<L.length:=by rw[h2,yK];exact hi
      exact⟨L[i],zu hl,by have:=(Y i _ (zy hl)).1;omega⟩
     .intro _
      simp[hi]
    .obtain⟨j,O⟩:=List.mem_iff_getElem?.1 hr
     obtain⟨_,_,_,e4,_,e6,_⟩:=Y j r O;have:=hs.GX;exact⟨by omega,e6⟩
    .rcases hs.dom i hi with h|h
     .exact .inl h
     .exact .inr ⟨h.1,by omega⟩
    .obtain⟨k,hk⟩:=List.mem_iff_getElem?.1 hr
     obtain⟨_,_,_,e4,_,e6,_⟩:=Y k r hk;exact hs.fresh j (by omega) (by omega)
   .cases h
  .cases h
 .cases h
end
end Go.TV
namespace Go.TV
open Go.RowKit
set_option linter.unusedVariables false
set_option linter.unusedSimpArgs false
variable [Known]
section
variable {P:Program} {conv:FuncId->Conv} {call:Call}
theorem VF(hc:DX P call){ops:Array Oper}{st E:St}(h:CS P conv call ops st=some E):st.nx<=E.nx:=by
 unfold CS at h
 split at h
 .split at h
  .rename_i s' J G
   split at h
   .simp only[sW]at h;subst h
    obtain⟨L,_,_,_,O,_⟩:=Sm hc ops.toList 0 st s' J G;exact O
   .cases h
  .cases h
 .cases h
theorem nS{body:St->Option (Ex×St)}(hb:∀st e E,body st=some (e,E)->st.nx<=E.nx):∀(n:Nat) (st E:St) (e:Ex),BU body n st=some (e,E)->st.nx<=E.nx
 |0,st,E,e,h=>by cases h
 |n+1,st,E,e,h=>by
  unfold BU at h
  split at h
  .rename_i G J
   exact zL (hb _ _ _ J) (nS hb n G E e h)
  .exact hb _ _ _ h
theorem ng(hc:DX P call)(n:Nat):∀(c:Code) (st E:St) (e:Ex),zI P conv call n c st=some (e,E)->st.nx<=E.nx:=by
 intro c
 induction c with
 |skip=>intro st E e h;simp only[zI,sW,sS]at h;rw[h.2];exact zq _
 |region id ops draw=>
  intro st E e h;simp only[zI]at h
  split at h
  .rename_i s' hs
   simp only[sW,sS]at h;obtain⟨_,rfl⟩:=h
   split at hs
   .exact VF hc hs
   .exact nJ hc _ _ _ hs
  .cases h
 |seq a b G J=>
  intro st E e h;simp only[zI]at h
  split at h
  .rename_i Y S
   exact zL (G _ _ _ S) (J _ _ _ h)
  .exact G _ _ _ h
 |cond c a b G J=>
  intro st E e h;simp only[zI]at h
  split at h
  .exact G _ _ _ h
  .exact J _ _ _ h
  .cases h
 |block id c O=>
  intro st E e h;simp only[zI]at h
  split at h
  .rename_i j Y S
   split at h<;>(simp only[sW,sS]at h;obtain⟨_,rfl⟩:=h;exact O _ _ _ S)
  .exact O _ _ _ h
 |loop c O=>intro st E e h;exact nS (fun st e E h=>O st E e h) n st E e h
 |exit id=>intro st E e h;simp only[zI,sW,sS]at h;rw[h.2];exact zq _
 |ret=>intro st E e h;simp only[zI,sW,sS]at h;rw[h.2];exact zq _
 |_=>intro st E e h;simp only[zI]at h;cases h
def Sr:Ex->Exit
 | .norm=> .normal
 | .exit id=> .exit id
 | .ret=> .ret
theorem VG{c:Code}{Q:Exit->Act->World->Prop}(I:Nat->Act->World->Prop)(round:∀n a w,I n a w->c.wp P (Exit.then (fun E w'=>∃m,m<n/\I m E w') Q) a w) :
  ∀n a w,I n a w->(Code.loop c).wp P Q a w:=by
 intro n a w h b k cs
 suffices key:∀n a w,I n a w->∃e E w',Q e E w'/\Arrives P (lone (b.at a (.code c :: .inLoop c :: k)) cs w) b k cs e E w' by
  obtain⟨e,E,w',O,G⟩:=key n a w h;exact⟨e,E,w',O,.of_steps (.one step_loop) G⟩
 intro n
 induction n using Nat.strongRecOn with
 |_ n ih=>
  intro a w h;obtain⟨e,E,w',O,G⟩:=round n a w h b (.inLoop c :: k) cs;have leave:∀S,e=S->S≠ .normal->∃e E w',Q e E w'/\Arrives P (lone (b.at a (.code c :: .inLoop c :: k)) cs w) b k cs e E w':=by
   rintro S rfl J;refine⟨e,E,w',?_,.pass (x:=.inLoop c) rfl (fun _ _=> .inl J) G⟩;cases e<;>first|exact O|exact absurd rfl J
  cases e with
  |normal=>
   obtain⟨m,hm,hI⟩:=O;obtain⟨e2,a2,w2,Y,a1⟩:=ih m hm E w' hI;exact⟨e2,a2,w2,Y,.of_steps (Steps.trans G (.one step_inLoop)) a1⟩
  |exit id=>exact leave _ rfl (by simp)
  |goto l=>exact leave _ rfl (by simp)
  |ret=>exact leave _ rfl (by simp)
  |panic ch=>exact leave _ rfl (by simp)
  |outgrown=>exact leave _ rfl (by simp)
theorem pF(hc:DX P call)(hm:P.follows .mixedOrders=true){nt LM:Nat}{s0:Sit}{GL:Store}{GX:Nat}(n:Nat) :
  ∀(c:Code) (st E:St) (e:Ex) (Q:Exit->Act->World->Prop),zI P conv call n c st=some (e,E)->E5 nt c=true->E.nx<=LM->(∀s a,YS nt LM s0 GL GX E.T E.σ E.nx s a->Q (Sr e) a s.w) ->
  ∀(s:Sit) (a:Act),YS nt LM s0 GL GX st.T st.σ st.nx s a->c.wp P Q a s.w:=by
 intro c
 induction c with
 |skip=>
  intro st E e Q h O S J s a hs;simp only[zI,sW,sS]at h;obtain⟨rfl,rfl⟩:=h;exact wp_skip (J s a hs)
 |region id ops draw=>
  intro st E e Q h O S J s a hs;have b2:∀o∈ops.toList,∀d,o.dst=some d->d<nt:=fun o ho d b5=>by
   have:=Array.all_eq_true'.1 O o (by simpa using ho);rw[b5]at this
   simpa using this
  simp only[zI]at h
  split at h
  .rename_i s' b3
   simp only[sW,sS]at h;obtain⟨rfl,rfl⟩:=h;cases draw with
   |true=>exact YX hc hm b2 b3 S J hs
   |false=>
    refine wp_region ?_;have:=JG hc b2 ops.toList 0 st s' rfl b3 S J s a hs;rw[yK,<- List.range_eq_range']at this;exact this
  .cases h
 |seq x y a6 a7=>
  intro st E e Q h O S J s a hs;simp only[E5,zM]at O;simp only[zI]at h;refine wp_seq ?_
  split at h
  .rename_i s1 h1
   refine a6 st s1 .norm _ h1 O.1 (zL (ng hc n y _ _ _ h) S) (fun Y a2 G=>?_) s a hs;exact a7 s1 E e Q h O.2 S J Y a2 G
  .rename_i r a1
   refine a6 st E e _ h O.1 S (fun Y a2 G=>?_) s a hs;cases e with
   |norm=>exact absurd h (a1 E)
   |exit id=>exact J Y a2 G
   |ret=>exact J Y a2 G
 |cond c x y a6 a7=>
  intro st E e Q h O S J s a hs;simp only[E5,zM]at O;simp only[zI]at h;have hv:=Zh hs.tr c
  split at h
  .rename_i a8
   rw[a8]at hv;unfold VR at hv;exact wp_cond_true hv.1 (a6 st E e Q h O.1 S J s a hs)
  .rename_i a8
   rw[a8]at hv;unfold VR at hv;exact wp_cond_false hv.1 (a7 st E e Q h O.2 S J s a hs)
  .cases h
 |block id c ih=>
  intro st E e Q h O S J s a hs;simp only[E5]at O;simp only[zI]at h;refine wp_block ?_
  split at h
  .rename_i j s1 h1
   split at h
   .rename_i hj
    simp only[sW,sS]at h;obtain⟨rfl,rfl⟩:=h;exact ih st s1 _ _ h1 O S (fun Y a2 G=>by simp only[Sr,Exit.inBlock,hj,if_true];exact J Y a2 G) s a hs
   .rename_i hj
    simp only[sW,sS]at h;obtain⟨rfl,rfl⟩:=h;exact ih st s1 _ _ h1 O S (fun Y a2 G=>by simp only[Sr,Exit.inBlock,hj,if_false];exact J Y a2 G) s a hs
  .rename_i r a1
   refine ih st E e _ h O S (fun Y a2 G=>?_) s a hs;cases e with
   |norm=>exact J Y a2 G
   |exit id=>exact absurd h (a1 id E)
   |ret=>exact J Y a2 G
 |loop c ih=>
  intro st E e Q h O S J s a hs;simp only[E5]at O;simp only[zI]at h;refine VG (fun k a w=>∃st1 s1,s1.w=w/\YS nt LM s0 GL GX st1.T st1.σ st1.nx s1 a/\BU (zI P conv call n c) k st1=some (e,E)) (fun k a w=>?_) n a s.w ⟨st,s,rfl,hs,h⟩;rintro ⟨st1,s1,rfl,b4,h1⟩;cases k with
  |zero=>cases h1
  |succ k=>
   unfold BU at h1
   split at h1
   .rename_i Y hb
    exact ih st1 Y .norm _ hb O (zL (nS (fun st e E h=>ng hc n c st E e h) k Y E e h1) S) (fun s3 a3 b6=>⟨k,Nat.lt_succ_self k,Y,s3,rfl,b6,h1⟩) s1 a b4
   .rename_i r a1
    refine ih st1 E e _ h1 O S (fun Y a2 G=>?_) s1 a b4;cases e with
    |norm=>exact absurd h1 (a1 E)
    |exit id=>exact J Y a2 G
    |ret=>exact J Y a2 G
 |exit id=>
  intro st E e Q h O S J s a hs;simp only[zI,sW,sS]at h;obtain⟨rfl,rfl⟩:=h;exact wp_exit (J s a hs)
 |ret=>
  intro st E e Q h O S J s a hs;simp only[zI,sW,sS]at h;obtain⟨rfl,rfl⟩:=h;exact wp_ret (J s a hs)
 |_=>intro st E e Q h;simp only[zI]at h;cases h
def aj3(tmps:Array Value):ResultVar->Sem Value
 | .tmp t=>pure (tmps.getD t undef)
 | .cell a t=>do loadVar t (<- asAddr (tmps.getD a undef))
theorem Nq(fn:Func)(tmps:Array Value):results fn tmps=(do let vs<- fn.results.mapM (aj3 tmps);pure (if h:vs.size=1 then vs[0]else .tuple vs)):=by
 unfold results;congr 1
theorem fH{s:Sit}{σ:Store}(hi:Inv s σ){T:Nat->V}{tmps:Array Value}(J:TR s T tmps):∀(rs:List ResultVar) (vs:List V),Ag P T σ rs=some vs ->
  ∃xs:List Value,(rs.mapM (aj3 tmps)).run P s.w= .ok xs s.w/\VRs s vs xs
 |[],vs,h=>by
  simp only[Ag,sW]at h;subst h;exact⟨[],by simp,by unfold VRs;rfl⟩
 | .tmp t :: rs,vs,h=>by
  unfold Ag at h
  split at h
  .rename_i E e
   simp only[sW]at h;subst h;obtain⟨xs,O,S⟩:=fH hi J rs E e;exact⟨tmps.getD t undef :: xs,by simp only[List.mapM_cons,aj3,Sem.run_bind,Sem.run_pure,Result.andThen_ok,O],by unfold VRs;exact⟨_,_,rfl,J t,S⟩⟩
  .cases h
 | .cell a t :: rs,vs,h=>by
  unfold Ag at h
  split at h
  .rename_i v E Y e
   simp only[sW]at h;subst h;obtain⟨xs,O,S⟩:=fH hi J rs E e;obtain⟨y,G,h4⟩:=Na hi (J a) Y;refine⟨y :: xs,?_,by unfold VRs;exact⟨_,_,rfl,h4,S⟩⟩;have hp:∃p,tmps.getD a undef= .pointer (some p):=by
    unfold Instr.loadAt at G;generalize tmps.getD a undef=z at G;cases z<;>first|(simp[Instr.sureAddr,stuck,Sem.run]at G;done)|skip
    rename_i p;cases p with
    |none=>simp[Instr.sureAddr,stuck,Sem.run]at G
    |some p=>exact⟨p,rfl⟩
   obtain⟨p,hp⟩:=hp;rw[hp]at G;have h5:(loadVar t p).run P s.w= .ok y s.w:=by simpa[Instr.loadAt,Instr.sureAddr]using G
   simp only[List.mapM_cons,aj3,Sem.run_bind,hp,asAddr,Sem.run_pure,Result.andThen_ok,h5,O]
  .cases h
theorem ab2{s:Sit}{args:List V}{E:List Value}(h:VRs s args E)(n:Nat):TR s (DW args) (E.toArray++Array.replicate n undef):=by
 intro t;unfold DW;have Y:=rO h
 by_cases J:t<args.length
 .have G:=zy J
  obtain⟨x,O,S⟩:=rP h G;rw[G,yF,Array.getElem?_append_left (by simp;omega),wU,O];exact S
 .rw[yX (by omega),yF,Array.getElem?_append_right (by simp;omega)]
  simp only[Option.getD_none];have:((Array.replicate n undef)[t-E.toArray.size]?).getD undef=undef:=by
   rw[Array.getElem?_replicate];split<;>rfl
  rw[this];exact Nl s
theorem VH{s:Sit}{vs:List V}{xs:List Value}(h:VRs s vs xs):VR s (oneOf vs) (if h:xs.toArray.size=1 then xs.toArray[0]else .tuple xs.toArray):=by
 have J:=rO h;unfold oneOf
 split
 .rename_i v
  unfold VRs at h;obtain⟨y,Y,rfl,O,G⟩:=h;unfold VRs at G;subst G
  simpa using O
 .rename_i E
  have:¬xs.toArray.size=1:=by
   intro e;have S:vs.length=1:=by rw[J];simpa using e
   match vs,S with
   |[v],_=>exact E v rfl
  rw[dif_neg this];unfold VR;exact⟨_,rfl,h⟩
theorem YZ(hc:DX P call)(hm:P.follows .mixedOrders=true){f:FuncId}{fn:Func}{body:Code}(hf:P.funcs[f]?=some fn)(hb:fn.body=some body){n:Nat}{args:List V}(Y:VA fn body args.length=true){σ σ':Store}{nx nx':Nat}{v:V}
  (h:GU P conv call n fn body args σ nx=some (v,σ',nx')):Ey P f args σ nx v σ' nx':=by
 unfold VA at Y;simp only[zM,decide_eq_true_eq,vT]at Y;obtain⟨⟨a6,b4⟩,a7⟩:=Y;have main:∀(e:Ex) (st:St) (vs:List V),zI P conv call n body ⟨DW args,σ,nx⟩=some (e,st)->(e= .norm\/e= .ret)->Ag P st.T st.σ fn.results.toList=some vs->Ey P f args σ nx (oneOf vs) st.σ st.nx:=by
  intro e st vs E he G;refine⟨ng hc n body _ _ _ E,⟨fn,hf,by rw[hb];rfl,a6⟩,fun s b3 hi b2 O=>?_⟩;have hl:=rO O;refine calls_of_wp hf hb ?_;refine pF hc hm (nt:=fn.ntmps) (LM:=st.nx) (s0:=s) (GL:=σ) (GX:=nx) n body ⟨DW args,σ,nx⟩ st e _ E a7 (zq _) (fun s1 a1 J=>?_) s _
   ⟨hi,ab2 O _,by simp;omega,rfl,.refl s σ,.refl s nx nx,b2,zq _⟩
  obtain⟨xs,h1,h2⟩:=fH J.inv J.tr fn.results.toList vs G;have a8:(results fn a1.tmps).run P s1.w= .ok (if h:xs.toArray.size=1 then xs.toArray[0]else .tuple xs.toArray) s1.w:=by
   rw[Nq];have e1:fn.results=fn.results.toList.toArray:=by simp
   rw[e1,List.mapM_toArray];simp only[Sem.run_bind,Sem.run_map,h1,Result.andThen_ok,Sem.run_pure]
  have S:bodyPost P fn (fun e w'=>∃s' x,s'.w=w'/\e= .returned x/\Out s σ nx s' (oneOf vs) x st.σ st.nx) .normal a1 s1.w :=
   ⟨J.defers,_,a8,s1,_,rfl,rfl,⟨VH h2,J.inv,J.Jv,J.dom⟩⟩
  rcases he with rfl|rfl
  .exact S
  .exact S
 unfold GU at h
 split at h
 .rename_i st E
  split at h
  .rename_i vs G
   simp only[sW,sS]at h;obtain⟨rfl,rfl,rfl⟩:=h;exact main _ st vs E (.inl rfl) G
  .cases h
 .rename_i st E
  split at h
  .rename_i vs G
   simp only[sW,sS]at h;obtain⟨rfl,rfl,rfl⟩:=h;exact main _ st vs E (.inr rfl) G
  .cases h
 .cases h
def Iw(P:Program)(ext:Ext):Prop:=∀f g,ext f=some g->∀args σ nx v σ' nx',g args σ nx=some (v,σ',nx')->Ey P f args σ nx v σ' nx'
theorem Qr(hm:P.follows .mixedOrders=true){ext:Ext}(G:Iw P ext):∀k,DX P (evF P conv ext k)
 |0=>fun f args σ nx v σ' nx' h=>by cases h
 |k+1=>fun f args σ nx v σ' nx' h=>by
  unfold evF at h
  split at h
  .rename_i g J
   exact G f g J args σ nx v σ' nx' h
  .split at h
   .rename_i fn O
    split at h
    .rename_i body hb
     split at h
     .rename_i E
      exact YZ (Qr hm G k) hm O hb E h
     .cases h
    .cases h
   .cases h
end
end Go.TV
