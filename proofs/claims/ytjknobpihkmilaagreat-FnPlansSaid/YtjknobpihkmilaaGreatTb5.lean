import Derived.Test.YtjknobpihkmilaaGreatTb4
set_option linter.unusedSimpArgs false
set_option linter.unusedVariables false
set_option linter.unusedSectionVars false
set_option linter.defProp false
set_option maxRecDepth 10000
set_option maxHeartbeats 4000000
open Go.Proofs.Tryz renaming prog->gu
open Go.Proofs.Tryz
open Array renaming length_toList->z_
open Bool renaming and_eq_true->zV,true_and->xM,and_false->xA,false_and->vk
open Classical renaming byContradiction->zh
open Int renaming lt_irrefl->zX,toNat_natCast->zM,tmod_eq_emod_of_nonneg->xE
open List renaming getElem?_eq_getElem->zy,getD_eq_getElem?_getD->zx,getElem_mem->zq,length_append->zo,take_of_length_le->zk,length_cons->zi,length_take->zY,length_drop->zW,eq_nil_of_length_eq_zero->zN,mem_append_left->zD,flatMap_append->zC,getElem?_map->yg,ext_getElem->yP,getElem_of_mem->yK,getElem_append_left->yH,mem_singleton->yC,map_cons->xJ,all_cons->xH,getElem?_range->wu,drop_append_of_le_length->wo,getElem_set->wX,all_eq_true->wW,getElem_map->wL,getElem_cons_zero->vX,mem_range->vG,mem_append->uq
open Nat renaming le_refl->zu,le_trans->zL,not_lt_zero->zK,mul_one->yj,zero_le->wM,mul_le_mul->wH
open Ne renaming symm->yS
open Option renaming bind_some->zl,map_some->zT,getD_some->yJ
namespace Go.Proofs.YtjknobpihkmilaaGreat
open Go Go.TV Go.Lp
attribute [-go_sem] u_
end Go.Proofs.YtjknobpihkmilaaGreat
namespace Go.Proofs.YtjknobpihkmilaaGreat
open Go Go.TV
theorem JL{E:Array Edge}{ids:List Nat}:∀ {acc:List (Nat×Bool×List Nat)},(acc.all fun p=> !p.2.1)=true->okG E false ids acc=true
 |[],_=>rfl
 |p :: acc,h=>by
  rw[xH,zV]at h;have G:p.2.1=false:=by simpa using h.1
  unfold okG;rw[G,JL h.2];rfl
theorem EG{E:Array Edge}{ids:List Nat}{acc:List (Nat×Bool×List Nat)}(h:(acc.all fun p=> !p.2.1)=true):okF E acc false ids=true:=by
 cases ids with
 |nil=>rfl
 |cons b G=>exact JL h
open Go.Plan
attribute [-go_sem] u_
noncomputable def endsB(y:bP)(fr to:Int):Bool:=pb (aW y) && (inB fr 0 ((y.ah.length:Int) - 1) && inB to 0 ((y.ah.length:Int) - 1))
theorem OV{y:bP}{fr to:Int}(hp:b_ y fr to=true):endsB y fr to=true:=by
 unfold b_ at hp;simp only[zV,decide_eq_true_eq]at hp;obtain⟨E,⟨J,O⟩,G⟩:=hp;obtain⟨⟨t0,t1⟩,_⟩:=OU G;unfold endsB inB;rw[E,uY (by omega),uY (by omega),uY (by omega),uY (by omega)];rfl
theorem JM{y:bP}{fr to:Int}(E:endsB y fr to=true):aW y/\∃a t:Nat,fr=(a:Int)/\to=(t:Int)/\a<y.ah.length/\t<y.ah.length:=by
 unfold endsB at E;simp only[zV]at E;obtain⟨O,G,J⟩:=E;have G:=oS G;have J:=oS J;exact⟨nK O,fr.toNat,to.toNat,by omega,by omega,by omega,by omega⟩
noncomputable def Ad(y:bP)(fr:Int):List Int:=if(endsB y fr fr && fH (aT y) fr.toNat)=true then BF (fun i=>decide (0<=dst (fQ y) (fH (aT y)) i fr.toNat)) y.ah.length else []
theorem Wj(y:bP)(fr:Int):(Ad y fr).length<=1000000:=by
 unfold Ad
 split
 .rename_i h
  rw[zV]at h;obtain⟨E,_⟩:=JM h.1;exact zL (iy _ _) (by have:=E.1;omega)
 .exact wM _
def ZT(y:bP)(a c:Int):Bool:=y.moves.any fun m=>(m.fr==a) && (m.to==c)
noncomputable def CU(y:bP)(plan:List Int)(k:Nat):Bool:=inB (plan.getD k 0) 0 ((y.ah.length:Int) - 1) && (fH (aT y) (plan.getD k 0).toNat && (decide (k=0)||ZT y (plan.getD (k-1) 0) (plan.getD k 0)))
noncomputable def gW(y:bP)(plan:List Int):Bool:=pb (aW y) && (decide (plan≠[]) && (List.range plan.length).all (CU y plan))
theorem MO{p:Nat->Bool}{n:Nat}(h:∀i,i<n->p i=true):(List.range n).all p=true:=by
 rw[wW];exact fun i hi=>h i (List.mem_range.mp hi)
theorem OW{p:Nat->Bool}{n k:Nat}(E:k<n)(h:p k=false):(List.range n).all p=false:=by
 rw[List.all_eq_false];exact⟨k,List.mem_range.mpr E,by rw[h];simp⟩
theorem adI(xs:List TV.Move)(m:TV.Move)(h:xs.length<=maxLen):fn gu conv ext 35 [LL fG xs,.agg (fG m)]=some (Bo (xs.any fun o=>(o.fr==m.fr) && (o.to==m.to))):=by
 have G:=La xs m h;have e:(xs.any fun o=>(o.fr==m.fr) && (o.to==m.to))=decide (0<=ix (gi m) xs):=by
  by_cases c:ix (gi m) xs<0
  .rw[uX (by omega),List.any_eq_false]
   intro o E;have:=(Gh _ _).mp c o E;unfold gi at this;rw[BEq.comm (a:=o.fr),BEq.comm (a:=o.to),this];simp
  .rw[uY (by omega),List.any_eq_true]
   refine zh fun hn=>c ((Gh _ _).mpr fun o E=>?_)
   cases hs:gi m o with
   |false=>rfl
   |true=>
    unfold gi at hs;exact absurd ⟨o,E,by rw[BEq.comm (a:=o.fr),BEq.comm (a:=o.to)];exact hs⟩ hn
 rw[e,qB,qO [.tmp 4] [] func35]
 by_cases c:(0:Int)<=ix (gi m) xs
 .rw[uY c]
  simp only[go_sem,G,c]
 .rw[uX c]
  simp only[go_sem,G,c]
theorem OX(y:bP)(ho:qI y)(plan:List Int)(b2:plan.length<=1048576):fn gu d_ wI 13 [.agg (bQ y),LI plan]=some (Bo (gW y plan)):=by
 have k1:=oW y ho;unfold gW;rw[qB,qO [.tmp 4] [] func13];cases hg:pb (aW y)with
 |false=>
  rw[hg]at k1;simp only[go_sem,k1,vk]
 |true=>
  rw[hg]at k1;have hG:=nK hg;have Z_:=hG.1;have b3:=hG.2.1
  by_cases a1:plan=[]
  .subst a1
   have e0:((([]:List Int).length:Int)==0)=true:=rfl;simp only[go_sem,k1,e0];simp
  have b4:plan.length≠0:=fun e=>a1 (zN e)
  have e0:((plan.length:Int)==0)=false:=by rw[uZ];omega
  rw[uY a1,xM,xM];have k2:=XC y ho Z_;have hS:=kM y;obtain⟨wr,a8⟩:∃wr,wr=flat 7 (LL Ah (aT y)):=⟨_,rfl⟩;simp only[go_sem,k1,e0,k2];generalize hL:aA _ _=z;obtain⟨x,rfl,hx⟩:=rP hL plan.length (fun k st=>st.T 1=LI plan/\st.T 2= .rp 0 0/\st.T 5=LL Ah (aT y)/\st.T 17=LI plan/\st.T 18=I plan.length/\st.T 19=I k/\0<st.nx/\st.σ 0=some ⟨bQ y,0,wr⟩/\∀i,i<k->CU y plan i=true)
   (fun x=>∃T σ nx,(x=(.exit 0,⟨T,σ,nx⟩)/\(List.range plan.length).all (CU y plan)=true)\/(x=(.ret,⟨T,σ,nx⟩)/\T 4=Bo false/\(List.range plan.length).all (CU y plan)=false)) (by
    clear hL;rintro k ⟨T,σ,nx⟩ S ⟨t1,t2,t5,t17,O,t19,G,J,Y⟩;simp only at t1 t2 t5 t17 O t19 G J;have g1:(k:Int)<(plan.length:Int):=by omega
    have g2:=nP k;have g3:=iF (n:=(k:Int)+1);have g4:=idx (xs:=plan) (k:=k) S;have g5:=iI plan k S;have gd:plan.getD k 0=plan[k]:=by rw[zx,zy S];rfl
    obtain⟨p,ep⟩:∃p,p=plan[k]:=⟨_,rfl⟩;rw[<- ep]at g4 gd;have E:CU y plan k=(inB p 0 ((y.ah.length:Int) - 1) && (fH (aT y) p.toNat && (decide (k=0)||ZT y (plan.getD (k-1) 0) p))):=by unfold CU;rw[gd]
    have no:CU y plan k=false->(List.range plan.length).all (CU y plan)=false:=fun h=>OW S h
    by_cases c1:p<0
    .have hb:inB p 0 ((y.ah.length:Int) - 1)=false:=by unfold inB;rw[uX (by omega)];rfl
     rw[hb]at E;refine .inr ⟨_,by simp only[go_sem,t1,t2,t5,t17,O,t19,hS,g1,g2,g4,g5,S,c1];rfl,by simp,_,_,_,.inr ⟨rfl,by simp only[go_sem],no (by rw[E];rfl)⟩⟩
    by_cases c2:(y.ah.length:Int)<=p
    .have hb:inB p 0 ((y.ah.length:Int) - 1)=false:=by unfold inB;rw[uX (p:=p<=_) (by omega),xA]
     rw[hb]at E;refine .inr ⟨_,by simp only[go_sem,t1,t2,t5,t17,O,t19,hS,g1,g2,g4,g5,S,c1,c2];rfl,by simp,_,_,_,.inr ⟨rfl,by simp only[go_sem],no (by rw[E];rfl)⟩⟩
    have hb:inB p 0 ((y.ah.length:Int) - 1)=true:=by unfold inB;rw[uY (by omega),uY (by omega)];rfl
    rw[hb]at E;obtain⟨j,rfl⟩:∃j:Nat,p=(j:Int):=⟨p.toNat,by omega⟩;rw[zM]at E;have hj:j<y.ah.length:=by omega
    have a6:j<(aT y).length:=by omega
    have j1:(j:Int)<(y.ah.length:Int):=by omega
    have j2:=nP j;have j3:((aT y).flatMap Ah)[j]?=some (Bo (fH (aT y) j)):=by rw[uH a6];exact kF (fun b=>Bo b) (aT y) j a6
    have j5:=Y4 (aT y) j a6;cases hs:fH (aT y) j with
    |false=>
     rw[hs]at E j3;refine .inr ⟨_,by simp only[go_sem,t1,t2,t5,t17,O,t19,hS,g1,g2,g4,g5,S,c1,c2,j1,j2,j3,j5,hj];rfl,by simp,_,_,_,.inr ⟨rfl,by simp only[go_sem],no (by rw[E];rfl)⟩⟩
    |true=>
    rw[hs]at E j3
    by_cases h0:k=0
    .rw[uY h0]at E
     have i0:¬(0:Int)<(k:Int):=by omega
     refine .inl ⟨_,by simp only[go_sem,t1,t2,t5,t17,O,t19,hS,g1,g2,g3,g4,g5,S,c1,c2,j1,j2,j3,j5,hj,i0];rfl,?_⟩;simp only[go_sem,t1,t2,t5,t17,O];refine⟨rfl,G,J,fun i hi=>?_⟩
     by_cases e:i=k
     .rw[e,E];rfl
     .exact Y i (by omega)
    .have i0:(0:Int)<(k:Int):=by omega
     rw[uX h0,Bool.false_or]at E;have i1:=iF (n:=(k:Int) - 1);have i2:(k:Int) - 1=((k-1:Nat):Int):=by omega
     have i3:=idx (xs:=plan) (k:=k-1) (by omega);have i4:((k-1:Nat):Int)<(plan.length:Int):=by omega
     have i5:(0:Int)<=((k-1:Nat):Int):=by omega
     have i6:k-1<plan.length:=by omega
     rw[i2]at i1;have a7:plan.getD (k-1) 0=plan[k-1]'(by omega):=by rw[zx,zy (by omega)];rfl
     obtain⟨q,eq⟩:∃q,q=plan[k-1]'(by omega):=⟨_,rfl⟩;rw[<- eq]at i3 a7;rw[a7]at E;have k4:fn gu conv ext 35 [LL fG y.moves,.agg [I q,I j]]=some (Bo (ZT y q (j:Int))):=adI y.moves ⟨q,(j:Int)⟩ (by unfold maxLen;omega)
     cases hm:ZT y q (j:Int)with
     |false=>
      rw[hm]at E k4;refine .inr ⟨_,by simp only[go_sem,t1,t2,t5,t17,O,t19,J,G,hS,g1,g2,g4,g5,S,c1,c2,j1,j2,j3,j5,hj,i0,i1,i2,i3,i4,i5,i6,k4];rfl,by simp,_,_,_,.inr ⟨rfl,by simp only[go_sem],no (by rw[E];rfl)⟩⟩
     |true=>
      rw[hm]at E k4;refine .inl ⟨_,by simp only[go_sem,t1,t2,t5,t17,O,t19,J,G,hS,g1,g2,g3,g4,g5,S,c1,c2,j1,j2,j3,j5,hj,i0,i1,i2,i3,i4,i5,i6,k4];rfl,?_⟩;simp only[go_sem,t1,t2,t5,t17,O];refine⟨rfl,G,J,fun i hi=>?_⟩
      by_cases e:i=k
      .rw[e,E];rfl
      .exact Y i (by omega)) (by
    clear hL;rintro ⟨T,σ,nx⟩ ⟨t1,t2,t5,t17,O,t19,G,J,Y⟩;simp only at t1 t2 t5 t17 O t19 G J;exact⟨_,by simp only[go_sem,O,t19,zX];rfl,by simp,_,_,_,.inl ⟨rfl,MO Y⟩⟩) (by
    simp only[go_sem];exact⟨by rw[a8],fun i h=>absurd h (zK _)⟩)
  obtain⟨T,σ,nx,⟨rfl,hm⟩|⟨rfl,t4,hm⟩⟩:=hx
  .rw[hm]
   simp only[go_sem]
  .rw[hm]
   simp only[go_sem,t4]
def JR(n:Nat)(all:List Nat):List Bool:=(List.range n).map fun i=>decide (i∈all)
theorem qE(n:Nat)(all:List Nat):(JR n all).length=n:=by simp[JR]
theorem aju{n:Nat}{all:List Nat}{i:Nat}(h:i<n):((JR n all).flatMap Ah)[i]?=some (Bo (decide (i∈all))):=by
 rw[kF (fun b=>Bo b) (JR n all) i (by rw[qE];exact h)];simp[JR]
theorem XE(n:Nat)(all:List Nat)(c:Nat):((JR n all).flatMap Ah).set c (Bo true)=(JR n (all++[c])).flatMap Ah:=by
 rw[NU];congr 1;refine yP (by simp[JR]) fun i G J=>?_
 rw[wX];simp only[JR,wL,List.getElem_range,uq,yC]
 by_cases e:c=i
 .subst e;simp
 .rw[ug e]
  have:¬i=c:=fun E=>e E.symm
  simp[this]
theorem XF(n:Nat):rep n [Bo false]=(JR n []).flatMap Ah:=by
 rw[MH];congr 1;unfold JR;refine yP (by simp) fun i E G=>by simp
theorem KF{T:Nat->V}{σ:Store}{nx t O:Nat}{l:List Int}(h:dP T σ nx t O l)(x:Int)(hl:l.length<100000) :
  ∃σ',bC (upd σ nx (some ⟨[I x],1,true⟩)) (nx+1) 1 8 (T t) [I x] 1=some (.rs (nx+1) 0 (l.length+1),σ',nx+1+1)/\σ' (nx+1)=some ⟨(l++[x]).flatMap cI,1,true⟩/\∀q,q<nx->(∀b o l,T t= .rs b o l->b≠q)->σ' q=σ q:=by
 obtain⟨b,off,cells,J,S,h3,Y,h5,h6⟩:=h;have hm:l.length+1<=maxLen:=by unfold maxLen;omega
 have E:(cells.flatMap cI).length=cells.length:=sS cells;refine⟨upd (upd (upd σ nx (some ⟨[I x],1,true⟩)) b none) (nx+1) (some ⟨(cells.flatMap cI).drop off++[I x],1,true⟩),?_,?_,fun q hq G=>?_⟩
 .rw[J,u_,iZ,S]
  simp only[zl];rw[ug (by decide),ug (by rw[E];omega),uf ⟨by rw[E];omega,trivial,hm,by omega,rfl⟩]
 .rw[iW]
  have:(cells.flatMap cI).drop off=l.flatMap cI:=by rw[FQ,<- List.map_drop,<- FQ,Y]
  rw[this,zC];rfl
 .rw[iZ,iY _ _ (yS (G _ _ _ J)),iZ]
theorem agG(y:bP)(ho:qI y)(fr:Int)(nx:Nat):∃v c6 aO ids,ev gu d_ wI 9 [.agg (bQ y),I fr] aG nx=some (v,c6,aO)/\nx<=aO/\Own c6 1 v (LI (Ad y fr)) ids/\∀b∈ids,nx<=b/\b<aO:=by
 have k1:=oW y ho;have c7:endsB y fr fr=false->Ad y fr=[]:=fun h=>by unfold Ad;rw[h,vk,ug (by simp)]
 rw[qO [.tmp 4] [] func9];cases hg:pb (aW y)with
 |false=>
  rw[hg]at k1;rw[c7 (by unfold endsB;rw[hg];rfl)];simp only[go_sem,k1];exact⟨_,_,_,[],rfl,by omega,mX _ _,by simp⟩
 |true=>
  rw[hg]at k1;have hG:=nK hg;have Z_:=hG.1
  by_cases c1:fr<0
  .rw[c7 (by unfold endsB inB;rw[uX (p:=0<=fr) (by omega)];simp)]
   simp only[go_sem,k1,c1];exact⟨_,_,_,[],rfl,by omega,mX _ _,by simp⟩
  by_cases c2:(y.ah.length:Int)<=fr
  .rw[c7 (by unfold endsB inB;rw[uX (p:=fr<=_) (by omega)];simp)]
   simp only[go_sem,k1,c1,c2];exact⟨_,_,_,[],rfl,by omega,mX _ _,by simp⟩
  obtain⟨a,rfl⟩:∃a:Nat,fr=(a:Int):=⟨fr.toNat,by omega⟩;have ha:a<y.ah.length:=by omega
  have he:endsB y a a=true:=by unfold endsB inB;rw[hg,uY (by omega),uY (by omega)];rfl
  have k2:=XC y ho Z_;have hS:=kM y;have f1:(a:Int)<(y.ah.length:Int):=by omega
  have f2:=nP a;have b6:a<(aT y).length:=by omega
  have f3:((aT y).flatMap Ah)[a]?=some (Bo (fH (aT y) a)):=by rw[uH b6];exact kF (fun b=>Bo b) (aT y) a b6
  have f5:=Y4 (aT y) a b6;unfold Ad;rw[he,xM,zM];cases hs:fH (aT y) a with
  |false=>
   rw[hs]at f3;rw[ug (by simp)];simp only[go_sem,k1,c1,c2,k2,hS,f1,f2,f3,f5,ha];exact⟨_,_,_,[],rfl,by omega,mX _ _,by simp⟩
  |true=>
  rw[hs]at f3;rw[uf rfl];obtain⟨S,eS⟩:∃S,S=aT y:=⟨_,rfl⟩;obtain⟨wr,h6⟩:∃wr,wr=flat 7 (LL Ah (aT y)):=⟨_,rfl⟩;have m1:(0:Int)<=(y.ah.length:Int):=by omega
  have m2:1*(y.ah.length:Int)<=281474976710656:=by omega
  have m3:(y.ah.length:Int)<=9223372036854775807:=by omega
  have e0:(rep y.ah.length [Bo false]).set a (Bo true)=(JR y.ah.length [a]).flatMap Ah:=by rw[XF,XE];rfl
  have e1:(rep y.ah.length [Bo false]).length=y.ah.length:=by rw[XF,D_,qE,yj]
  rw[<- eS]at hS b6 f3 f5 k2 hs h6⊢;have z1:nx+1<nx+1+1:=by omega
  have z2:¬nx=nx+1:=by omega
  have z3:¬nx+1=nx:=by omega
  have b7:∀i,fH S i=true->i<y.ah.length:=fun i hi=>by have:=uG hi;omega
  simp only[go_sem,k1,c1,c2,k2,hS,f1,f2,f3,f5,ha,m1,m2,m3,e0,e1,z1,z2,z3];generalize hL:aA _ _=w
  obtain⟨x,rfl,T,σ,nx',rfl,G,t6,all,J,c5⟩:=nY hL (fun m st=>st.T 2= .rp nx 0/\st.T 5=LL Ah S/\st.T 6= .rs (nx+1) 0 y.ah.length/\nx+1<st.nx/\(∃wr,st.σ nx=some ⟨bQ y,0,wr⟩)/\∃all p,Xq (fQ y) (fH S) a all p/\p<=all.length/\m+p=y.ah.length/\st.σ (nx+1)=some ⟨(JR y.ah.length all).flatMap Ah,1,true⟩ /\
    ((p=all.length/\st.T 7= .ts [] 0)\/(p<all.length/\dP st.T st.σ st.nx 7 (nx+1) (aV (all.drop p))/\∀b o l,st.T 7= .rs b o l->b≠nx)))
   (fun x=>∃T σ nx',x=(.exit 0,⟨T,σ,nx'⟩)/\nx+1<nx'/\T 6= .rs (nx+1) 0 y.ah.length/\∃all,σ (nx+1)=some ⟨(JR y.ah.length all).flatMap Ah,1,true⟩/\∀i,i∈all↔0<=dst (fQ y) (fH S) i a) (by
    clear hL;rintro m ⟨T,σ,BH⟩ ⟨t2,t5,t6,G,⟨j4,Y⟩,all,p,hB,hp,hm,J,hq⟩;simp only at t2 t5 t6 G Y J hq;rcases hq with ⟨rfl,t7⟩|⟨hp,hq,a7⟩
    .exact .inr ⟨_,by simp only[go_sem,t7];rfl,by simp,_,_,_,rfl,G,by simp only[go_sem,t6],all,J,fun i=>hB.fin (zu _) i⟩
    .have h7:=hB.bound b7
     obtain⟨h,eh⟩:∃h,h=all[p]:=⟨_,rfl⟩;have b4:=hq;rw[jD all hp,<- eh]at b4;obtain⟨b,off,cells,q1,q2,q3,q4,q5,q6⟩:=b4;have q7:=lV q4;have p1:((h:Int) :: aV (all.drop (p+1))).length=all.length-p:=by rw[zi,jC,zW];omega
     rw[p1]at q1;have p2:(0:Int)<((all.length-p:Nat):Int):=by omega
     have p3:0<all.length-p:=by omega
     have p4:(0:Int)<=0:=by omega
     have p5:(0:Int).toNat=0:=rfl;have k4:=adB y hG (h:Int);rw[MI]at k4;have b8:=MK Y (LI (aV (nexts y h)));obtain⟨JQ,e4⟩:∃JQ,JQ=behind σ [nx] (LI (aV (nexts y h))):=⟨_,rfl⟩;rw[<- e4]at b8;have h8:∃wr,JQ nx=some ⟨bQ y,0,wr⟩:=⟨_,by rw[b8,iW]⟩;have h9:JQ (nx+1)=some ⟨(JR y.ah.length all).flatMap Ah,1,true⟩:=by rw[b8,iZ];exact J
     have i0:dP T JQ BH 7 (nx+1) (aV (all.drop p)):=by
      obtain⟨b',a8,E,a1,a2,a3,a4,a5,a6⟩:=hq;exact⟨b',a8,E,a1,by rw[b8,iY _ _ (a7 _ _ _ a1)];exact a2,a3,a4,a5,a6⟩
     refine ji ?_
     conv=>
      enter [1,r,1,1]
      simp only[go_sem,t2,t5,t6,Y,q1,q2,q7,p2,p3,p4,p5,k4,jC,<- e4]
     generalize hL:aA _ _=w
     obtain⟨r,rfl,T1,σ',GV,rfl,t2,t5,t6,G,Y0,O,e5,e6,e7,e8,i1,i2,c8⟩:=rP hL (nexts y h).length (fun j st=>st.T 2= .rp nx 0/\st.T 5=LL Ah S/\st.T 6= .rs (nx+1) 0 y.ah.length/\st.T 46=LI (aV (nexts y h))/\st.T 47=I (nexts y h).length/\st.T 48=I j/\nx+1<st.nx/\(∃wr,st.σ nx=some ⟨bQ y,0,wr⟩) /\
       ∃all,Xq (fQ y) (fH S) a all p/\∃hp:p<all.length,h=all[p]/\st.σ (nx+1)=some ⟨(JR y.ah.length all).flatMap Ah,1,true⟩/\dP st.T st.σ st.nx 7 (nx+1) (aV (all.drop p))/\(∀b o l,st.T 7= .rs b o l->b≠nx)/\∀i (hi:i<(nexts y h).length),i<j->fH S (nexts y h)[i]=true->(nexts y h)[i]∈all)
      (fun r=>∃T σ GV,r=(.exit 2,⟨T,σ,GV⟩)/\T 2= .rp nx 0/\T 5=LL Ah S/\T 6= .rs (nx+1) 0 y.ah.length/\nx+1<GV/\(∃wr,σ nx=some ⟨bQ y,0,wr⟩) /\
       ∃all,Xq (fQ y) (fH S) a all p/\∃hp:p<all.length,h=all[p]/\σ (nx+1)=some ⟨(JR y.ah.length all).flatMap Ah,1,true⟩/\dP T σ GV 7 (nx+1) (aV (all.drop p))/\(∀b o l,T 7= .rs b o l->b≠nx)/\∀i (hi:i<(nexts y h).length),fH S (nexts y h)[i]=true->(nexts y h)[i]∈all) (by
       clear hL;rintro j ⟨T,σ,BH⟩ hj ⟨t2,t5,t6,t46,t47,t48,G,⟨b5,Y⟩,all,hB,hp,eh,J,hq,a7,hd⟩;simp only at t2 t5 t6 t46 t47 t48 G Y J hq a7;have h7:=hB.bound b7;have j5:=SX y h;have g1:(j:Int)<((nexts y h).length:Int):=by omega
       have g2:=nP j;have g3:=iF (n:=(j:Int)+1);have g4:=MJ (nexts y h) hj;have g5:=jC (nexts y h);have g6:(aV (nexts y h)).flatMap cI≠[]:=fun e=>by
        have h2:=sS (aV (nexts y h));rw[e,g5]at h2;have h2:0=(nexts y h).length:=h2;omega
       have hc:=SV hj;have b9:fQ y h (nexts y h)[j]=true:=by
        have:=zq hj;exact(List.mem_filter.mp this).2
       obtain⟨c,ec⟩:∃c,c=(nexts y h)[j]:=⟨_,rfl⟩;rw[<- ec]at g4 hc b9;have ic:(c:Int)<(y.ah.length:Int):=by omega
       have c9:=nP c;have e2:c<S.length:=by omega
       have v3:(S.flatMap Ah)[c]?=some (Bo (fH S c)):=by rw[uH e2];exact kF (fun b=>Bo b) S c e2
       have v5:=Y4 S c e2;have fl:=aju (n:=y.ah.length) (all:=all) hc;have i3:((JR y.ah.length all).flatMap Ah).length=y.ah.length:=by rw[D_,qE,yj]
       have next:∀b2:List Nat,(∀i,i∈all->i∈b2)->(fH S c=true->c∈b2)->∀i (hi:i<(nexts y h).length),i<j+1->fH S (nexts y h)[i]=true->(nexts y h)[i]∈b2:=fun b2 h1 h2 i hi j6 hl=>by
        by_cases e:i=j
        .subst e
         rw[<- ec]at hl⊢;exact h2 hl
        .exact h1 _ (hd i hi (by omega) hl)
       cases c0:fH S c with
       |false=>
        rw[c0]at v3;refine .inl ⟨_,by simp only[go_sem,t2,t5,t6,t46,t47,t48,g1,g2,g3,g4,g5,g6,hj,ic,c9,hS,hc,v3,v5];rfl,?_⟩;simp only[go_sem,t2,t5,t6,t46,t47];exact⟨rfl,G,⟨b5,Y⟩,all,hB,hp,eh,J,lW hq (by simp only[go_sem]) (zu _),a7,next all (fun _ h=>h) (fun h=>by rw[c0]at h;cases h)⟩
       |true=>
        rw[c0]at v3
        by_cases hm:c∈all
        .rw[uY hm]at fl
         refine .inl ⟨_,by simp only[go_sem,t2,t5,t6,t46,t47,t48,g1,g2,g3,g4,g5,g6,hj,ic,c9,hS,hc,v3,v5,J,fl];rfl,?_⟩;simp only[go_sem,t2,t5,t6,t46,t47];exact⟨rfl,G,⟨b5,Y⟩,all,hB,hp,eh,J,lW hq (by simp only[go_sem]) (zu _),a7,next all (fun _ h=>h) (fun _=>hm)⟩
        .rw[uX hm]at fl
         have c3:=hB.add hp hm c0 (by rw[<- eh];exact b9);have st:=XE y.ah.length all c;obtain⟨σ2,Am⟩:∃σ2,σ2=upd σ (nx+1) (some ⟨(JR y.ah.length (all++[c])).flatMap Ah,1,true⟩):=⟨_,rfl⟩;have c4:dP T σ2 BH 7 (nx+1) (aV (all.drop p)):=by rw[Am];exact MF hq _
         have b3:σ2 nx=some ⟨bQ y,0,b5⟩:=by rw[Am,iZ];exact Y
         have b4:=hq;rw[jD all hp,<- eh]at b4;obtain⟨b,off,cells,q1,q2,q3,q4,q5,q6⟩:=b4;have p1:((h:Int) :: aV (all.drop (p+1))).length=all.length-p:=by rw[zi,jC,zW];omega
         rw[p1]at q1;obtain⟨e9,e3,i4,hf⟩:=KF c4 (c:Int) (by rw[jC,zW];omega);rw[jC,zW]at e3;have i5:e9 (nx+1)=σ2 (nx+1):=hf _ (by omega) (fun b' o l e=>by rw[q1]at e;cases e;exact q6);have i6:e9 nx=some ⟨bQ y,0,b5⟩:=by rw[hf _ (by omega) a7];exact b3
         rw[q1]at e3;refine .inl ⟨_,by simp only[go_sem,t2,t5,t6,t46,t47,t48,g1,g2,g3,g4,g5,g6,hj,ic,c9,hS,hc,v3,v5,J,fl,i3,G,st,<- Am,q1,e3];rfl,?_⟩;simp only[go_sem,t2,t5,t6,t46,t47];have i7:p<(all++[c]).length:=by rw[zo];omega
         refine⟨rfl,by omega,⟨b5,i6⟩,all++[c],c3,i7,by rw[yH hp];exact eh,?_,?_,fun b o l hb=>by(cases hb;omega),next (all++[c]) (fun i h=>zD _ h) (fun _=>by simp)⟩
         .rw[i5,Am,iW]
         .have ed:aV ((all++[c]).drop p)=aV (all.drop p)++[(c:Int)]:=by
           rw[wo (by omega)];simp[aV]
          rw[ed];refine lT (b:=BH+1) ?_ i4 (by omega) (by omega);rw[zo,jC,zW];simp only[go_sem]) (by
       clear hL;rintro ⟨T,σ,BH⟩ ⟨t2,t5,t6,t46,t47,t48,G,Y,all,hB,hp,eh,J,hq,a7,hd⟩;simp only at t2 t5 t6 t46 t47 t48 G Y J hq a7;exact⟨_,by simp only[go_sem,t47,t48,zX];rfl,by simp,_,_,_,rfl,by simp only[go_sem,t2],by simp only[go_sem,t5],by simp only[go_sem,t6],G,Y,all,hB,hp,eh,J,lW hq (by simp only[go_sem]) (zu _),by simpa only[go_sem]using a7,fun i hi=>hd i hi hi⟩) (by
       simp only[go_sem,t2,t5,t6];exact⟨G,h8,all,hB,hp,eh,h9,lW i0 (by simp only[go_sem]) (zu _),a7,fun i hi h0=>absurd h0 (zK _)⟩)
     have c3:=e5.next e6 fun i hi b9=>by
      have i9:i∈nexts y h:=by
       unfold nexts;rw[List.mem_filter,vG];exact⟨b7 i hi,by rw[e7];exact b9⟩
      obtain⟨j,hj,ej⟩:=yK i9;rw[<- ej]at hi⊢;exact c8 j hj hi
     have j7:=e5.bound b7;have c4:=i1;rw[jD O e6,<- e7]at c4;obtain⟨b',a8,E,r1,r2,r3,r4,r5,r6⟩:=c4;have j0:((h:Int) :: aV (O.drop (p+1))).length=O.length-p:=by rw[zi,jC,zW];omega
     rw[j0]at r1 r3;have j1:=i2 _ _ _ r1;have r7:((E.flatMap cI)).length=E.length:=sS _;have r8:a8+(O.length-p)<=E.length:=by omega
     have r9:1<=O.length-p:=by omega
     have h3:¬(1:Nat)=0:=by decide
     have h4:(0:Int)<=1:=by decide
     have h5:(1:Int).toNat=1:=rfl
     by_cases hl:O.length-p=1
     .rw[hl]at r1 r8
      refine⟨_,by simp only[go_sem,r1,r2,r7,r8,h3,h4,h5,zu];rfl,.inl ⟨_,rfl,m-1,by omega,?_⟩⟩;simp only[go_sem,t2,t5,t6];exact⟨G,Y0,O,p+1,c3,by omega,by omega,e8,.inl (by omega)⟩
     .have j2:¬1=O.length-p:=fun e=>hl e.symm
      refine⟨_,by simp only[go_sem,r1,r2,r7,r8,r9,h3,h4,h5,j2];rfl,.inl ⟨_,rfl,m-1,by omega,?_⟩⟩;simp only[go_sem,t2,t5,t6];refine⟨G,Y0,O,p+1,c3,by omega,by omega,e8,.inr ⟨by omega,⟨b',a8+1,E,?_,r2,?_,JG r4,r5,r6⟩,fun b o l hb=>by(cases hb;exact j1)⟩⟩
      .simp only[go_sem]
       rw[jC,zW];congr 1
      .rw[jC,zW];omega) y.ah.length (by
    simp only[go_sem];refine⟨by omega,⟨_,by rw[iZ,iZ,iW]⟩,[a],0,ZA hs,by simp,by omega,?_,.inr ⟨by simp,?_,fun b o l hb=>by(cases hb;omega)⟩⟩
    .rw[iZ,iW]
    .refine lT (b:=nx+1+1) (by simp only[go_sem];rfl) ?_ (by omega) (by omega)
     simp only[go_sem];rfl)
  clear hL;obtain⟨v,c6,aO,ids,k3,hn,o1,hi⟩:=NT (JR y.ah.length all) (by rw[qE];omega) nx';have g1:=fun d=>o1.gather (d':=d+1) (by omega)
  rw[qE]at o1;have e:BF (fun i=>(JR y.ah.length all)[i]?==some true) y.ah.length=BF (fun i=>decide (0<=dst (fQ y) (fH S) i a)) y.ah.length:=Fj fun i hi=>by
   simp only[JR,yg,wu hi,zT]
   by_cases h:i∈all
   .rw[uY h,uY ((c5 i).mp h)];rfl
   .rw[uX h,uX (fun h'=>h ((c5 i).mpr h'))];rfl
  rw[e]at o1;have j3:=fun d=>SS J (qE y.ah.length all) d
  simp only[go_sem,t6,j3,k3,g1];exact⟨v,_,aO,ids,rfl,by omega,o1.join fun b hb=>(hi b hb).1,fun b hb=>by have:=hi b hb;omega⟩
open Go.Lp
section
variable {K:List (Int×Int)} {X:List Rat} {nm:Nat}
end
section
variable {s:Structure} {q:List Rat} {Δ:Rat}
end
section
variable {K:List (Int×Int)} {X:List Rat} {nm:Nat}
end
theorem adJ{E:List Int}(G:okL 1 (fun n=>(Lit.int .u8 n).wf=true) E):∀x∈E,0<=x/\x<=255:=fun x J=>by
 have:=G.1 x J;simp only[Lit.wf,zV,decide_eq_true_eq]at this;have O:IntKind.u8.min=0:=by decide
 have S:IntKind.u8.max=255:=by decide
 rw[O,S]at this;exact this
theorem mF{y:bP}{fr to:Int}(G:b_ y fr to=true):aW y/\∃a t d:Nat,fr=(a:Int)/\to=(t:Int)/\a<y.ah.length/\t<y.ah.length/\dst (fQ y) (fH (aT y)) t a=(d:Int)/\dA y fr to=aV ((List.range (d+1)).map (O4 (fQ y) (dst (fQ y) (fH (aT y)) t) y.ah.length a)):=by
 obtain⟨O,a,t,rfl,rfl,ha,S⟩:=JM (OV G);have es:JH y (aT y) (t:Int)=dst (fQ y) (fH (aT y)) t:=by funext i;unfold JH;rw[uf ⟨by omega,by omega⟩,zM]
 have E:=G;unfold b_ at E;simp only[zV,decide_eq_true_eq]at E;rw[es,zM]at E;obtain⟨d,J⟩:∃d:Nat,dst (fQ y) (fH (aT y)) t a=(d:Int):=⟨(dst (fQ y) (fH (aT y)) t a).toNat,by omega⟩;refine⟨O,a,t,d,rfl,rfl,ha,S,J,?_⟩;unfold dA;rw[uf G,es,zM];unfold plan;rw[J,zM]
theorem Gy{y:bP}{fr to:Int}(a1:b_ y fr to=true):gW y (dA y fr to)=true:=by
 obtain⟨hG,a,t,d,rfl,rfl,ha,ht,hd,e⟩:=mF a1;have J:∀i,fH (aT y) i=true->i<y.ah.length:=fun i hi=>by have:=uG hi;rw[kM]at this;exact this
 obtain⟨at_,O⟩:∃at_,at_=O4 (fQ y) (dst (fQ y) (fH (aT y)) t) y.ah.length a:=⟨_,rfl⟩;have Y:∀k:Nat,k<=d->dst (fQ y) (fH (aT y)) t (at_ k)=(d:Int) - k:=fun k S=>by
  have:=oM J (mv:=fQ y) (to:=t) (a:=a) k (by rw[hd];omega);rw[hd]at this;rw[O];exact this
 have E:∀k:Nat,k<=d->fH (aT y) (at_ k)=true:=fun k S=>(Js (mv:=fQ y) (al:=fH (aT y)) (to:=t) (i:=at_ k) (by rw[Y k S];omega)).1
 have a6:∀k:Nat,k+1<=d->fQ y (at_ k) (at_ (k+1))=true:=fun k S=>by
  have h1:=(OC J (mv:=fQ y) (to:=t) (a:=at_ k) (by rw[Y k (by omega)];omega)).2.1;have h2:at_ (k+1)=EH (fQ y) (dst (fQ y) (fH (aT y)) t) y.ah.length (at_ k):=by rw[O];rfl
  rw[h2];exact h1
 have G:∀k:Nat,k<=d->(dA y (a:Int) (t:Int)).getD k 0=((at_ k:Nat):Int):=fun k S=>by
  rw[e,<- O,zx];unfold aV;rw[yg,yg,wu (by omega)];rfl
 have hlen:(dA y (a:Int) (t:Int)).length=d+1:=by rw[e];simp[aV]
 have a7:dA y (a:Int) (t:Int)≠[]:=fun h=>by rw[h]at hlen;simp at hlen
 unfold gW;rw[mJ hG,uY a7,xM,xM];refine MO fun k S=>?_
 rw[hlen]at S;unfold CU;have hr:=J _ (E k (by omega));rw[G k (by omega),zM,E k (by omega)];have hb:inB ((at_ k:Nat):Int) 0 ((y.ah.length:Int) - 1)=true:=by unfold inB;rw[uY (by omega),uY (by omega)];rfl
 rw[hb,xM,xM]
 by_cases h0:k=0
 .rw[uY h0];rfl
 .rw[G (k-1) (by omega)]
  have:=a6 (k-1) (by omega);rw[show k-1+1=k by omega]at this;have h2:ZT y ((at_ (k-1):Nat):Int) ((at_ k:Nat):Int)=true:=this;rw[h2,Bool.or_true]
end Go.Proofs.YtjknobpihkmilaaGreat
/- What a plan begins and ends with; what can be reached. -/
namespace Go.Proofs.YtjknobpihkmilaaGreat
open Go Go.TV Go.Plan
theorem Wn{y:bP}{a t:Nat}(G:aW y)(E:b_ y (a:Int) (t:Int)=false)(ha:a<y.ah.length)(O:t<y.ah.length):(t:Int)∉Ad y (a:Int):=fun hm=>by
 unfold Ad at hm
 split at hm
 .rw[HY]at hm
  have J:0<=dst (fQ y) (fH (aT y)) t (a:Int).toNat:=by simpa using hm.2
  have es:JH y (aT y) (t:Int)=dst (fQ y) (fH (aT y)) t:=by funext i;unfold JH;rw[uf ⟨by omega,by omega⟩,zM]
  unfold b_ at E;rw[mJ G,es]at E;rw[uY J,uY (p:=(0:Int)<=(a:Int)) (by omega),uY (p:=(a:Int)<_) (by omega)]at E;cases E
 .cases hm
theorem ZU{y:bP}{fr to:Int}(E:b_ y fr to=true):to∈Ad y fr:=by
 obtain⟨G,a,t,d,rfl,rfl,ha,J,S,-⟩:=mF E;have O:=(Js (mv:=fQ y) (al:=fH (aT y)) (to:=t) (i:=a) (by omega)).1;have hb:inB (a:Int) 0 ((y.ah.length:Int) - 1)=true:=by unfold inB;rw[uY (by omega),uY (by omega)];rfl
 unfold Ad endsB;rw[mJ G,hb,zM,O,uf (show(true && (true && true) && true)=true from rfl),HY];exact⟨J,uY (by omega)⟩
theorem ZV{y:bP}{fr to:Int}(E:b_ y fr to=true):∃h:0<(dA y fr to).length,(dA y fr to)[0]=fr/\(dA y fr to)[(dA y fr to).length-1]=to:=by
 obtain⟨Y,a,t,d,rfl,rfl,ha,ht,J,e⟩:=mF E;have G:∀i,fH (aT y) i=true->i<y.ah.length:=fun i hi=>by have:=uG hi;rw[kM]at this;exact this
 have O:=oM G (mv:=fQ y) (to:=t) (a:=a) d (by rw[J];omega);have S:=(ac4 (mv:=fQ y) (al:=fH (aT y)) (to:=t) (i:=O4 (fQ y) (dst (fQ y) (fH (aT y)) t) y.ah.length a d) (by rw[O,J];omega)).1;refine⟨by rw[e];simp[aV],?_,?_⟩
 .simp[e,aV,O4]
 .simp[e,aV,S]
end Go.Proofs.YtjknobpihkmilaaGreat
/- A plan's line: the names of its ah,joined. -/
namespace Go.Proofs.YtjknobpihkmilaaGreat
open Go Go.TV Go.Plan
attribute [-go_sem] u_
theorem amn(xs:List ByteArray)(sep:ByteArray)(G:xs.length<=1048576)(J:∀x∈xs,x.size<=8)(hs:sep.size<=8):fn gu conv ext 38 [LL Qw xs,Sg sep]=some (Sg (AO xs sep)):=by
 have S:=UZ xs sep 8 J;have Y:xs.length*(8+sep.size)<=1048576*16:=wH G (by omega);have O:Qu [LL Qw xs,Sg sep] aG 0=some (Sg (AO xs sep),aG,0):=by
  show(match strs (xs.flatMap Qw)with|some E=>if E.length=xs.length/\xs.length<=140737488355328/\(AO E sep).size<=140737488355328 then some (V.sc (.string (AO E sep)),aG,0)else none|none=>none)=_;rw[YD];exact uf ⟨rfl,by omega,by omega⟩
 rw[qB,qN (g:=Qu) rfl,O];simp only[go_sem]
def adK(y:bP)(i:Int):ByteArray:=(y.ah.map (·.name)).getD i.toNat ByteArray.empty
def nms(y:bP)(plan:List Int):List ByteArray:=plan.map (adK y)
noncomputable def SY(y:bP)(plan:List Int):ByteArray:=if gW y plan=true then AO (nms y plan) ⟨#[62]⟩else ⟨#[]⟩
theorem JO{y:bP}{j:Nat}(h:j<y.ah.length):adK y (j:Int)=y.ah[j].name:=by
 unfold adK;rw[zM,zx,yg,zy h];rfl
theorem FT{y:bP}{plan:List Int}(h:gW y plan=true):aW y/\plan≠[]/\∀k (E:k<plan.length),∃j:Nat,plan[k]=(j:Int)/\j<y.ah.length:=by
 unfold gW at h;simp only[zV,decide_eq_true_eq,wW,vG]at h;obtain⟨J,O,S⟩:=h;refine⟨nK J,O,fun k E=>?_⟩;have G:=S k E;unfold CU at G;rw[zV,zx,zy E]at G;have Y:=oS G.1;simp only[yJ]at Y;exact⟨plan[k].toNat,by omega,by omega⟩
theorem ZW{y:bP}(G:aW y){j:Nat}(h:j<y.ah.length):y.ah[j].name.size<=8:=by
 have E:=(G.2.2.1 j h).1;unfold fO at E;rw[zV]at E;exact(nK E.1).2.2
theorem H6(y:bP)(plan:List Int):(nms y plan).length=plan.length:=by simp[nms]
theorem Wp{y:bP}{plan:List Int}{k:Nat}(E:k<plan.length):(nms y plan)[k]'(by rw[H6];exact E)=adK y plan[k]:=by simp[nms]
theorem adL{y:bP}{plan:List Int}(h:gW y plan=true):∀x∈nms y plan,x.size<=8:=fun x J=>by
 obtain⟨O,_,hp⟩:=FT h;obtain⟨k,E,rfl⟩:=yK J;rw[H6]at E;obtain⟨j,S,G⟩:=hp k E;rw[Wp E,S,JO G];exact ZW O G
theorem agH:ByteArray.size ⟨#[62]⟩<=8:=by decide
theorem ZX(y:bP)(ho:qI y)(plan:List Int)(O:plan.length<=1048576):fn gu d_ wI 17 [.agg (bQ y),LI plan]=some (Sg (SY y plan)):=by
 have k1:=OX y ho plan O;unfold SY;rw[qB,qO [.tmp 4] [] func17];cases hb:gW y plan with
 |false=>
  rw[hb]at k1;simp only[go_sem,k1]
  try rfl
 |true=>
 rw[hb]at k1;obtain⟨hG,b2,hp⟩:=FT hb;have e1:(16:Int)*(plan.length:Int)<=281474976710656:=by omega
 have e2:(plan.length:Int)<=9223372036854775807:=by omega
 have e3:(0:Int)<=(plan.length:Int):=by omega
 have J:=H6 y plan;obtain⟨N,S⟩:∃N,N=nms y plan:=⟨_,rfl⟩;have G:=amn N ⟨#[62]⟩ (by rw[S,J];exact O) (by rw[S];exact adL hb) agH;have a1:∀k (E:k<plan.length) (a6:k<N.length),N[k]=adK y plan[k]:=fun k E a6=>by
  have:=Wp (y:=y) E;subst S;exact this
 rw[<- S]at J;rw[<- S];simp only[go_sem,k1,e1,e2,e3,if_true];generalize hL:aA _ _=z;obtain⟨x,rfl,T,σ,nx,rfl,h5,hs⟩:=rP hL plan.length (fun k st=>st.T 2= .rp 0 0/\st.T 5= .rs 1 0 plan.length/\st.T 15=LI plan/\st.T 16=I plan.length/\st.T 17=I k/\st.σ 0=some ⟨bQ y,0,true⟩/\st.σ 1=some ⟨mix Qw [Sg ⟨#[]⟩] N plan.length k,1,true⟩)
  (fun x=>∃T σ nx,x=(.exit 0,⟨T,σ,nx⟩)/\T 5= .rs 1 0 plan.length/\σ 1=some ⟨N.flatMap Qw,1,true⟩) (by
   clear hL;rintro k ⟨T,σ,nx⟩ E ⟨t2,t5,t15,t16,t17,b0,b1⟩;simp only at t2 t5 t15 t16 t17 b0 b1;have f1:(k:Int)<(plan.length:Int):=by omega
   have f2:=nP k;have f3:=iF (n:=(k:Int)+1);have f4:=idx (xs:=plan) (k:=k) E;have f9:=iI plan k E;obtain⟨j,ej,G⟩:=hp k E;have Y:k<N.length:=by omega
   have ha:=a1 k E Y;rw[ej,JO G]at ha;rw[ej]at f4;have g1:(j:Int)<(y.ah.length:Int):=by omega
   have g2:=nP j;have g5:=abr y.ah j G;have g6:=QF y.ah;have g7:j*5+5<=y.ah.length*5:=by omega
   have g9:=abt y.ah j G;have g8:(y.ah.flatMap bZ)[j*5]?=some (Sg (y.ah[j]).name):=Ep (c:=bZ) (s:=5) (fun _=>rfl) y.ah j G (j:=0) (by decide);have f7:=WE (c:=Qw) (s:=1) (fun _=>rfl) (z:=[Sg ⟨#[]⟩]) rfl N k (by omega);have f8:(mix Qw [Sg ⟨#[]⟩] N N.length k).set k (Sg N[k])=mix Qw [Sg ⟨#[]⟩] N N.length (k+1):=aeH (c:=fun x=>Sg x) N k Y;rw[ha]at f8;rw[J]at f7 f8;refine .inl ⟨_,by simp only[go_sem,t2,t5,t15,t16,t17,b0,b1,f1,f2,f3,f4,f7,f8,f9,E,g1,g2,g5,g6,g7,g8,g9,G];rfl,?_⟩;simp only[go_sem,t2,t5,t15,t16,b0]
   try trivial) (by
   clear hL;rintro ⟨T,σ,nx⟩ ⟨t2,t5,t15,t16,t17,b0,b1⟩;simp only at t2 t5 t15 t16 t17 b0 b1;refine⟨_,by simp only[go_sem,t16,t17,zX];rfl,by simp,_,_,_,rfl,?_,?_⟩
   .simp only[go_sem,t5]
   .rw[<- J,abh]at b1;exact b1) (by
   (simp only[go_sem,<- abg])<;>trivial)
 have g1:=kD (c:=Qw) (s:=1) (fun _=>rfl) N;have g2:∀σ:Store,stripL (strip σ 6) (N.flatMap Qw)=some (N.flatMap Qw,[]):=fun σ=>jW (fun x=>by simp only[go_sem]) N
 have g3:(N.flatMap Qw).take plan.length=N.flatMap Qw:=zk (by omega);have a7:fn gu conv ext 38 [.ts (N.flatMap Qw) plan.length,Sg ⟨#[62]⟩]=some (Sg (AO N ⟨#[62]⟩)):=by rw[<- J];exact G
 have a8:(N.flatMap Qw).length=plan.length*1:=by rw[g1,J]
 simp only[go_sem,h5,hs,a8,g2,g3,zu,a7]
end Go.Proofs.YtjknobpihkmilaaGreat
/- What a plan that is found proves,and what follows if none is found. -/
namespace Go.Proofs.YtjknobpihkmilaaGreat
open Go Go.TV Go.Plan
theorem S9{r:Int}{n:Nat}(h:0<=r)(hn:n≠0):∃a:Nat,r.tmod (n:Int)=(a:Int)/\a<n:=by
 rw[xE h];have E:=Int.emod_nonneg r (b:=(n:Int)) (by omega);have G:=Int.emod_lt_of_pos r (b:=(n:Int)) (by omega);exact⟨(r%(n:Int)).toNat,by omega,by omega⟩
theorem MP{y:bP}{a t:Nat}(E:aW y)(ha:a<y.ah.length)(J:t<y.ah.length)(G:0<=dst (fQ y) (fH (aT y)) t a):b_ y (a:Int) (t:Int)=true:=by
 have es:JH y (aT y) (t:Int)=dst (fQ y) (fH (aT y)) t:=by funext i;unfold JH;rw[uf ⟨by omega,by omega⟩,zM]
 unfold b_;rw[mJ E,es,zM,uY G,uY (p:=(0:Int)<=(a:Int)) (by omega),uY (p:=(a:Int)<_) (by omega)];rfl
theorem agI{y:bP}{a t:Nat}(O:aW y)(ha:a<y.ah.length)(S:t<y.ah.length)(G:b_ y (a:Int) (t:Int)=false):gW y [(a:Int),(t:Int)]=false:=by
 cases h:gW y [(a:Int),(t:Int)]with
 |false=>rfl
 |true=>
  unfold gW at h;simp only[zV,decide_eq_true_eq,wW,vG]at h;have J:=h.2.2 0 (by simp);have E:=h.2.2 1 (by simp);unfold CU at J E;simp only[List.getD_cons_zero,List.getD_cons_succ,zM,zV]at J E;have hm:ZT y (a:Int) (t:Int)=true:=by simpa using E.2.2
  have hw:Go.Plan.Way (fQ y) (fH (aT y)) 1 a t:=Go.Plan.Way.cons J.2.1 hm (Go.Plan.Way.nil E.2.1);have:=MP O ha S (Jr hw).1;rw[G]at this;cases this
theorem not_safe{y:bP}{a:Nat}(G:aW y)(ha:a<y.ah.length)(E:b_ y (a:Int) (a:Int)=false):JK y.ah[a] y.strict=false:=by
 cases h:JK y.ah[a] y.strict with
 |false=>rfl
 |true=>
  have J:fH (aT y) a=true:=by rw[uH (by rw[kM];exact ha)];simpa[aT]using h
  have O:=ac3 (mv:=fQ y) J;have:=MP G ha ha (by omega);rw[E]at this;cases this
theorem ZY{y:bP}{a t:Nat}(E:aW y)(ha:a<y.ah.length)(G:t<y.ah.length):decide ((t:Int)∈Ad y (a:Int))=b_ y (a:Int) (t:Int):=by
 cases h:b_ y (a:Int) (t:Int)with
 |false=>exact uX (Wn E h ha G)
 |true=>exact uY (ZU h)
theorem Wq{y:bP}{fr to:Int}(a6:b_ y fr to=true)(k:Nat)(h:k<(dA y fr to).length) :
  (dA y fr to)[k]∉(dA y fr to).take k/\(dA y fr to)[k]∈Gx y/\(∀(h0:0<k),(dA y fr to)[k]∈nextL y ((dA y fr to)[k-1]'(by omega))):=by
 obtain⟨hG,a,t,d,rfl,rfl,ha,ht,hd,e⟩:=mF a6;have J:∀i,fH (aT y) i=true->i<y.ah.length:=fun i hi=>by have:=uG hi;rw[kM]at this;exact this
 obtain⟨at_,S⟩:∃at_,at_=O4 (fQ y) (dst (fQ y) (fH (aT y)) t) y.ah.length a:=⟨_,rfl⟩;have O:∀k:Nat,k<=d->dst (fQ y) (fH (aT y)) t (at_ k)=(d:Int) - k:=fun k hk=>by
  have:=oM J (mv:=fQ y) (to:=t) (a:=a) k (by rw[hd];omega);rw[hd]at this;rw[S];exact this
 have E:∀k:Nat,k<=d->fH (aT y) (at_ k)=true:=fun k hk=>(Js (mv:=fQ y) (al:=fH (aT y)) (to:=t) (i:=at_ k) (by rw[O k hk];omega)).1
 have a7:∀k:Nat,k+1<=d->fQ y (at_ k) (at_ (k+1))=true:=fun k hk=>by
  have h1:=(OC J (mv:=fQ y) (to:=t) (a:=at_ k) (by rw[O k (by omega)];omega)).2.1;have Y:at_ (k+1)=EH (fQ y) (dst (fQ y) (fH (aT y)) t) y.ah.length (at_ k):=by rw[S];rfl
  rw[Y];exact h1
 have hlen:(dA y (a:Int) (t:Int)).length=d+1:=by rw[e];simp[aV]
 have G:∀k (hk:k<(dA y (a:Int) (t:Int)).length),(dA y (a:Int) (t:Int))[k]=((at_ k:Nat):Int):=fun k hk=>by
  simp[e,<- S,aV]
 refine⟨fun hm=>?_,?_,fun h0=>?_⟩
 .obtain⟨j,hj,a1⟩:=yK hm
  rw[List.getElem_take]at a1;rw[zY]at hj;rw[G j (by omega),G k h]at a1;have h1:at_ j=at_ k:=by omega
  have Y:=O j (by omega);have h3:=O k (by omega);rw[h1,h3]at Y;omega
 .rw[G k h]
  unfold Gx;rw[uf (mJ hG),HY];exact⟨J _ (E k (by omega)),E k (by omega)⟩
 .rw[G k h,G (k-1) (by omega)]
  have h1:=J _ (E (k-1) (by omega));have Y:=a7 (k-1) (by omega);rw[show k-1+1=k by omega]at Y;unfold nextL;rw[uf ⟨mJ hG,by omega,by omega⟩,HY];exact⟨J _ (E k (by omega)),Y⟩
theorem agJ{y:bP}{plan:List Int}(h:gW y plan=true):¬(SY y plan).size=0:=by
 obtain⟨hG,E,hp⟩:=FT h;unfold SY;rw[uf h];have O:0<plan.length:=List.length_pos_iff.mpr E;obtain⟨j,ej,S⟩:=hp 0 O;have a1:1<=y.ah[j].name.size:=by
  have G:=(hG.2.2.1 j S).1;unfold fO at G;rw[zV]at G;exact(nK G.1).2.1
 have a6:1<=(AO (nms y plan) ⟨#[62]⟩).size:=by
  rw[Iz];cases Y:nms y plan with
  |nil=>have:=H6 y plan;rw[Y]at this;simp at this;omega
  |cons x r=>
   have J:=Wp (y:=y) (plan:=plan) (k:=0) O;simp only[Y,vX]at J;rw[ej,JO S]at J;rw[xJ,Lib.join_length];simp only[Lib.lens,xJ,List.sum_cons];have h3:x.data.toList.length=x.size:=z_;rw[J]at h3⊢;omega
 omega
end Go.Proofs.YtjknobpihkmilaaGreat
