import Derived.Test.YtkpdoehbhmipcaaGreatTb4
set_option linter.unusedSimpArgs false
set_option linter.unusedVariables false
set_option linter.unusedSectionVars false
set_option linter.defProp false
set_option maxRecDepth 10000
set_option maxHeartbeats 4000000
open Go.Proofs.Tryz renaming prog->ZL
open Go.Proofs.Tryz
open Bool renaming and_eq_true->zA,false_eq_true->yJ,true_and->xC,and_false->wS,not_false->vU,not_true->um,false_and->ug
open Classical renaming byContradiction->zf
open Int renaming lt_irrefl->zk,toNat_natCast->zJ,natCast_mul->yh,le_refl->xA,natAbs_natCast->wU,natAbs_neg->vT,toNat_of_nonneg->uQ,natAbs_mul->uP
open List renaming getElem?_eq_getElem->zy,getD_eq_getElem?_getD->zx,getElem_mem->zu,length_append->zo,take_of_length_le->zl,length_take->zh,eq_nil_of_length_eq_zero->zZ,mem_cons_of_mem->zY,getElem?_append_left->zW,mem_cons->zV,flatMap_append->zT,length_map->zS,length_drop->zO,getElem?_append_right->zN,mem_cons_self->zM,flatMap_cons->zK,length_cons->zH,getElem?_map->zF,mem_append_left->zD,append_nil->zC,getElem?_eq_none->z_,mem_append_right->yw,append_assoc->yj,take_length->yg,not_mem_nil->yc,getElem_of_mem->yZ,drop_zero->yY,length_eraseIdx_of_lt->yV,length_replicate->yU,cons_append->yT,ext_getElem->yS,nil_append->yO,drop_eq_getElem_cons->yN,take_add_one->yM,length_singleton->yL,drop_of_length_le->xw,length_set->xu,getElem_map->xg,getElem_append_left->xY,nodup_cons->xW,getElem?_drop->xQ,replicate_succ->xO,getElem?_range->xM,set_append_right->xH,map_congr_left->xG,take_left'->wu,getElem?_replicate->wZ,length_nil->wR,map_append->wQ,mem_append->wP,all_eq_true->wO,range_succ->wJ,mem_of_mem_take->wH,getElem_set->wF,take_append_drop->wC,mem_singleton->w_,eraseIdx_eq_take_drop_succ->vX,getElem_append_right->vP,drop_append_of_le_length->vO,map_cons->uo,set_cons_zero->uf,getElem_range->uZ,mem_of_mem_eraseIdx->uU,getElem_inj->uO,all_cons->uH,getElem_take->uG,length_range->uF,replicate_succ'->uD,mem_or_eq_of_mem_set->u_,getElem?_mapIdx->tq,length_zipWith->tH,getElem?_set_self->sZ
open Nat renaming le_refl->zq,not_lt_zero->zX,le_trans->zU,mul_le_mul_right->zL,zero_add->yX,mul_one->yQ,sub_self->yP,mul_le_mul->xq,succ_mul->xk,min_eq_left->xK,lt_of_lt_of_le->wz,div_one->wV,add_comm->wG,add_assoc->vZ,zero_le->vV,zero_mul->uX,add_zero->uN,eq_zero_of_gcd_eq_zero_right->tK
open Ne renaming symm->yu
open Option renaming bind_some->zi,map_some->zG
open Option.some renaming injEq->sO
open Prod.mk renaming injEq->sN
namespace Go.Proofs.YtkpdoehbhmipcaaGreat
open Go Go.TV Go.Plan
attribute [-go_sem] qw
def Dw(y:Yard)(i k:Nat):Bool:=Dy y.moves (i:Int) k
def Dj(al:List Bool)(i:Nat):Bool:=al.getD i false
theorem rE{al:List Bool}{i:Nat}(h:Dj al i=true):i<al.length:=by
 unfold Dj at h;rw[zx]at h
 by_cases hi:i<al.length
 .exact hi
 .rw[z_ (by omega)]at h;cases h
theorem rF{al:List Bool}{i:Nat}(h:i<al.length):Dj al i=al[i]:=by
 unfold Dj;rw[zx,zy h];rfl
def Di(n:Nat)(out:Nat->Int):List Int:=(List.range n).map out
theorem jh(n:Nat)(out:Nat->Int):(Di n out).length=n:=by simp[Di]
theorem LU{n:Nat}(out:Nat->Int){a:Nat}(h:a<n):((Di n out).flatMap cI)[a]?=some (I (out a)):=by
 rw[idx (xs:=Di n out) (k:=a) (by rw[jh];exact h)];simp[Di]
theorem XB{n:Nat}(out:Nat->Int)(a:Nat)(v:Int):((Di n out).flatMap cI).set a (I v)=(Di n (put out a v)).flatMap cI:=by
 have e:∀(l:List Int) (k:Nat),(l.flatMap cI).set k (I v)=(l.set k v).flatMap cI:=fun l=>by
  induction l with
  |nil=>intro k;rfl
  |cons x l E=>
   intro k;cases k with
   |zero=>rfl
   |succ k=>
    show I x :: (l.flatMap cI).set k (I v)=_;rw[E];rfl
 rw[e];congr 1;refine yS (by simp[Di]) fun i G J=>?_
 rw[wF];simp only[Di,xg,uZ,put]
 by_cases c:a=i
 .subst c;simp
 .rw[sJ c,sJ (fun e=>c e.symm)]
def BL(T:Nat->V)(σ:Store)(nx t E:Nat)(l:List Int):Prop:=∃(b off:Nat) (cells:List Int),T t= .rs b off l.length/\σ b=some ⟨cells.flatMap cI,1,true⟩/\off+l.length=cells.length/\cells.drop off=l/\b<nx/\b≠E
theorem Uc{T:Nat->V}{σ:Store}{nx t G:Nat}{l:List Int}(h:BL T σ nx t G l)(hb:G<nx)(x:Int)(hl:l.length<100000) :
  ∃σ',Ag (upd σ nx (some ⟨[I x],1,true⟩)) (nx+1) 1 8 (T t) [I x] 1=some (.rs (nx+1) 0 (l.length+1),σ',nx+1+1)/\σ' (nx+1)=some ⟨(l++[x]).flatMap cI,1,true⟩/\σ' G=σ G:=by
 obtain⟨b,off,cells,J,O,h3,S,h5,Y⟩:=h;have hm:l.length+1<=maxLen:=by unfold maxLen;omega
 have E:(cells.flatMap cI).length=cells.length:=qL cells;refine⟨upd (upd (upd σ nx (some ⟨[I x],1,true⟩)) b none) (nx+1) (some ⟨(cells.flatMap cI).drop off++[I x],1,true⟩),?_,?_,?_⟩
 .rw[J,qw,Zm,O]
  simp only[zi];rw[sJ (by decide),sJ (by rw[E];omega),sH ⟨by rw[E];omega,trivial,hm,by omega,rfl⟩]
 .rw[Zk]
  have:(cells.flatMap cI).drop off=l.flatMap cI:=by
   rw[<- S];have e:∀(k:Nat) (xs:List Int),(xs.flatMap cI).drop k=(xs.drop k).flatMap cI:=fun k=>by
    induction k with
    |zero=>intro xs;rfl
    |succ k ih=>
     intro xs;cases xs with
     |nil=>rfl
     |cons y ys=>exact ih ys
   exact e _ _
  rw[this,zT];rfl
 .rw[Zm,Zl _ _ (fun e=>Y e.symm),Zm]
theorem gJ{T:Nat->V}{σ:Store}{nx t E b:Nat}{l:List Int}(G:T t= .rs b 0 l.length)(J:σ b=some ⟨l.flatMap cI,1,true⟩)(O:b<nx)(S:b≠E):BL T σ nx t E l:=⟨b,0,l,G,J,by omega,rfl,O,S⟩
theorem gQ{T T':Nat->V}{σ:Store}{nx nx' t E:Nat}{l:List Int}(h:BL T σ nx t E l)(G:T' t=T t)(hn:nx<=nx'):BL T' σ nx' t E l:=by
 obtain⟨b,off,cells,J,O,S,Y,h5,h6⟩:=h;exact⟨b,off,cells,by rw[G,J],O,S,Y,by omega,h6⟩
theorem QL{T:Nat->V}{σ:Store}{nx t E:Nat}{l:List Int}(h:BL T σ nx t E l)(x:Option FT):BL T (upd σ E x) nx t E l:=by
 obtain⟨b,off,cells,J,O,S,Y,h5,G⟩:=h;exact⟨b,off,cells,J,by rw[Zl _ _ G];exact O,S,Y,h5,G⟩
theorem XC{T:Nat->V}{σ:Store}{nx t E:Nat}{l:List Int}(h:BL T σ nx t E l)(x:Option FT):BL T (upd σ nx x) (nx+1) t E l:=by
 obtain⟨b,off,cells,G,J,O,S,h5,Y⟩:=h;exact⟨b,off,cells,G,by rw[Zm];exact J,O,S,by omega,Y⟩
theorem gK{cells:List Int}{off:Nat}{x:Int}{l:List Int}(h:cells.drop off=x :: l):(cells.flatMap cI)[off]?=some (I x):=by
 have E:off<cells.length:=by
  refine zf fun hn=>?_
  rw[xw (by omega)]at h;cases h
 rw[idx (xs:=cells) (k:=off) E];rw[yN E]at h;injection h with h _
 rw[h]
theorem Ot{cells:List Int}{off:Nat}{x:Int}{l:List Int}(h:cells.drop off=x :: l):cells.drop (off+1)=l:=by
 rw[<- List.drop_drop,h];rfl
def Af(l:List Nat):List Int:=l.map fun(i:Nat)=>(i:Int)
theorem aly{y:Yard}(E:Ak y){j:Nat}(G:j<y.moves.length):∃a c:Nat,y.moves[j]=⟨(a:Int),(c:Int)⟩/\a<y.stances.length/\c<y.stances.length:=by
 obtain⟨_,_,_,hm⟩:=E;obtain⟨J,S,O,Y,_⟩:=(hm j G).1;refine⟨y.moves[j].fr.toNat,y.moves[j].to.toNat,?_,by omega,by omega⟩;rw[uQ J,uQ O]
theorem acF(y:Yard)(i k:Nat):Dw y i k=true↔∃j,∃h:j<y.moves.length,y.moves[j]=⟨(i:Int),(k:Int)⟩:=by
 unfold Dw Dy;rw[List.any_eq_true];constructor
 .rintro ⟨m,hm,hp⟩
  obtain⟨j,E,rfl⟩:=yZ hm;rw[zA,beq_iff_eq,beq_iff_eq]at hp;refine⟨j,E,?_⟩;rw[<- hp.1,<- hp.2]
 .rintro ⟨j,E,e⟩
  exact⟨_,zu E,by rw[e];simp⟩
noncomputable def Pv(y:Yard)(al:List Bool)(to:Int)(i:Nat):Int:=if 0<=to/\to<(y.stances.length:Int)then dst (Dw y) (Dj al) to.toNat i else -1
theorem abd{y:Yard}{al:List Bool}{to:Int}(h:¬(0<=to/\to<(y.stances.length:Int)/\Dj al to.toNat=true))(i:Nat):Pv y al to i= -1:=by
 unfold Pv
 split
 .rename_i c
  refine ahE fun k E=>h ⟨c.1,c.2,E.lst⟩
 .rfl
theorem Ou{n:Nat}{f g:Nat->Int}(h:∀i,i<n->f i=g i):Di n f=Di n g:=xG fun i hi=>h i (by simpa using hi)
theorem abe(n:Nat)(v:Int):Di n (fun _=>v)=List.replicate n v:=by
 unfold Di;refine yS (by simp) fun i E G=>by simp
theorem Zy(l:List Nat):(Af l).length=l.length:=by simp[Af]
theorem Zz(l:List Nat){p:Nat}(h:p<l.length):Af (l.drop p)=(l[p]:Int) :: Af (l.drop (p+1)):=by
 rw[yN h];rfl
theorem ah6{y:Yard}{al:List Bool}{t:Nat}{all:List Nat}{p:Nat}{out:Nat->Int}(h:Xq (Dw y) (Dj al) t all p out)(hp:all.length<=p)(E:t<y.stances.length):Di y.stances.length out=Di y.stances.length (Pv y al (t:Int)) :=
 Ou fun i _=>by
  unfold Pv;rw[sH (by omega),zJ];exact(h.fin hp i).symm
theorem apd(y:Yard)(hg:Ak y)(i3:y.stances.length≠0)(to:Int)(al:List Bool)(i4:al.length=y.stances.length) :
  fn ZL Du EZ 51 [.tp (cYard y) 0,I to,LL DJ al]=some (LI (Di y.stances.length (Pv y al to))):=by
 have KX:=hg.1;have i5:=hg.2.1;obtain⟨n,en⟩:∃n,n=y.stances.length:=⟨_,rfl⟩;obtain⟨S,nI,k1,h2,s1⟩:=ah5 n (by omega) (by omega) 1;have o1:Own S 1 (.rs 1 0 n) (LI (List.replicate n (-1))) [1]:=by
  have:=JB (d:=0) s1 (st:=1) (by simp)
  rwa [yU]at this
 have g1:=fun d=>o1.gather (d':=d+1) (by omega)
 have j1:∀σ,CQ 1 σ S [1] 1=S 1:=fun σ=>jm (by omega) (by simp)
 rw[m_,mg [.tmp 6] [12] func51];have fin:∀(σ:Store) (out:Nat->Int) (d:Nat),σ 1=some ⟨(Di n out).flatMap cI,1,true⟩->strip σ (d+1) (.rs 1 0 n)=some (LI (Di n out),[1]):=fun σ out d h=>kD h (jh n out) d
 rw[<- abe]at s1;have s2:∀σ,CQ 1 σ S [1] 1=some ⟨(Di n (fun _=> -1)).flatMap cI,1,true⟩:=fun σ=>(j1 σ).trans s1
 rw[<- en];have no:(∀i,Pv y al to i= -1)->some (LI (Di n (fun _=> -1)))=some (LI (Di n (Pv y al to))):=fun h=>by rw[Ou (f:=fun _=> -1) (g:=Pv y al to) (fun i _=>(h i).symm)]
 by_cases c1:to<0
 .rw[<- no fun i=>abd (fun h=>by omega) i]
  have f0:=fun σ d=>fin (CQ 1 σ S [1]) (fun _=> -1) d (s2 σ)
  simp only[go_sem,<- en,k1,g1,s2,c1,f0]
 by_cases c2:(n:Int)<=to
 .rw[<- no fun i=>abd (fun h=>by omega) i]
  have f0:=fun σ d=>fin (CQ 1 σ S [1]) (fun _=> -1) d (s2 σ)
  simp only[go_sem,<- en,k1,g1,s2,c1,c2,f0]
 obtain⟨t,rfl⟩:∃t:Nat,to=(t:Int):=⟨to.toNat,by omega⟩;have ht:t<n:=by omega
 have d1:(t:Int)<(n:Int):=by omega
 have d2:=jD t;have a6:t<al.length:=by omega
 have d3:(al.flatMap DJ)[t]?=some (Bo (Dj al t)):=by rw[rF a6];exact cu (fun b=>Bo b) al t a6
 have d4:=Iw al;have d5:=aaG al t a6;have d6:(t:Int)<(al.length:Int):=by omega
 cases b4:Dj al t with
 |false=>
  rw[b4]at d3;rw[<- no fun i=>abd (fun h=>by rw[zJ]at h;rw[b4]at h;cases h.2.2) i];have f0:=fun σ d=>fin (CQ 1 σ S [1]) (fun _=> -1) d (s2 σ)
  simp only[go_sem,<- en,k1,g1,s2,c1,c2,d1,d2,d3,d4,d5,d6,a6,f0]
 |true=>
  rw[b4]at d3;have e1:=LU (n:=n) (fun _=> -1) ht;have e2:=XB (n:=n) (fun _=> -1) t 0;have e3:((Di n fun _=>(-1:Int)).flatMap cI).length=n:=by rw[qL,jh]
  have nz:¬nI=1:=by omega
  have h3:¬1=nI:=by omega
  have nl:1<nI:=h2;simp only[go_sem,<- en,k1,g1,s2,c1,c2,d1,d2,d3,d4,d5,d6,a6,e1,e2,e3,ht,nz,h3,nl];generalize hL:dI _ _=w
  obtain⟨x,rfl,T,σ,nx,rfl,t7,out,hs,c8⟩:=jQ hL (fun m st=>st.T 0= .tp (cYard y) 0/\st.T 2=LL DJ al/\st.T 7= .rs 1 0 n/\1<st.nx/\∃all p out,Xq (Dw y) (Dj al) t all p out/\p<=all.length/\m+p=n/\st.σ 1=some ⟨(Di n out).flatMap cI,1,true⟩ /\
    ((p=all.length/\st.T 8= .ts [] 0)\/(p<all.length/\BL st.T st.σ st.nx 8 1 (Af (all.drop p)))))
   (fun x=>∃T σ nx,x=(.exit 0,⟨T,σ,nx⟩)/\T 7= .rs 1 0 n/\∃out,σ 1=some ⟨(Di n out).flatMap cI,1,true⟩/\Di n out=Di n (Pv y al (t:Int))) (by
    clear hL;rintro m ⟨T,σ,nx⟩ ⟨t0,t2,t7,Y,all,p,out,hB,hp,hm,hs,hq⟩;simp only at t0 t2 t7 Y hs hq;rcases hq with ⟨rfl,t8⟩|⟨hp,hq⟩
    .refine .inr ⟨_,by simp only[go_sem,t8];rfl,by simp,_,_,_,rfl,by simp only[go_sem,t7],out,hs,?_⟩
     rw[en];exact ah6 hB (zq _) (by omega)
    .have h4:=hB.bound (n:=n) fun i hi=>by have:=rE hi;omega
     obtain⟨h,eh⟩:∃h,h=all[p]:=⟨_,rfl⟩;have a7:=hq;rw[Zz all hp,<- eh]at a7;obtain⟨b,off,cells,q1,q2,q3,q4,q5,q6⟩:=a7;have q7:=gK q4;have p1:((h:Int) :: Af (all.drop (p+1))).length=all.length-p:=by rw[zH,Zy,zO];omega
     rw[p1]at q1;have p2:(0:Int)<((all.length-p:Nat):Int):=by omega
     refine bC ?_
     conv=>
      enter [1,r,1,1]
      simp only[go_sem,t0,t2,t7,q1,p2]
     generalize hL:dI _ _=w
     obtain⟨r,rfl,T1,σ',nx',rfl,t0,t2,t7,c9,E,b9,e0,e4,e5,e6,h5,c0⟩:=oZ hL y.moves.length (fun j st=>st.T 0= .tp (cYard y) 0/\st.T 2=LL DJ al/\st.T 7= .rs 1 0 n/\st.T 47=LL cMove y.moves/\st.T 48=I y.moves.length/\st.T 49=I j/\1<st.nx /\
       ∃all out,Xq (Dw y) (Dj al) t all p out/\∃hp:p<all.length,h=all[p]/\st.σ 1=some ⟨(Di n out).flatMap cI,1,true⟩/\BL st.T st.σ st.nx 8 1 (Af (all.drop p))/\∀i (hi:i<y.moves.length),i<j->∀a:Nat,y.moves[i]=⟨(a:Int),(h:Int)⟩->Dj al a=true->a∈all)
      (fun r=>∃T σ nx,r=(.exit 2,⟨T,σ,nx⟩)/\T 0= .tp (cYard y) 0/\T 2=LL DJ al/\T 7= .rs 1 0 n/\1<nx /\
       ∃all out,Xq (Dw y) (Dj al) t all p out/\∃hp:p<all.length,h=all[p]/\σ 1=some ⟨(Di n out).flatMap cI,1,true⟩/\BL T σ nx 8 1 (Af (all.drop p))/\∀i (hi:i<y.moves.length),∀a:Nat,y.moves[i]=⟨(a:Int),(h:Int)⟩->Dj al a=true->a∈all) (by
       clear hL;rintro j ⟨T,σ,nx⟩ hj ⟨t0,t2,t7,t47,t48,t49,Y,all,out,hB,hp,eh,hs,hq,hd⟩;simp only at t0 t2 t7 t47 t48 t49 Y hs hq;have h4:=hB.bound (n:=n) fun i hi=>by have:=rE hi;omega
       obtain⟨a,c,e,ha,hc⟩:=aly hg hj;rw[<- en]at ha hc;have a7:=hq;rw[Zz all hp,<- eh]at a7;obtain⟨b,off,cells,q1,q2,q3,q4,q5,q6⟩:=a7;have q7:=gK q4;have p1:((h:Int) :: Af (all.drop (p+1))).length=all.length-p:=by rw[zH,Zy,zO];omega
       rw[p1]at q1;have p2:(0:Int)<((all.length-p:Nat):Int):=by omega
       have p3:0<all.length-p:=by omega
       have p4:(0:Int)<=0:=by omega
       have p5:(0:Int).toNat=0:=rfl;have f1:(j:Int)<(y.moves.length:Int):=by omega
       have f2:=jD j;have f3:=ZT (n:=(j:Int)+1);have f4:=aas y.moves j hj;rw[e]at f4;have f5:=Ku y.moves;have f6:j*2+2<=y.moves.length*2:=by omega
       have f9:=aat y.moves j hj;obtain⟨Gt,XD⟩:∃Gt,Gt=upd σ nx (some ⟨cMove ⟨(a:Int),(c:Int)⟩,0,true⟩):=⟨_,rfl⟩;have b0:Gt nx=some ⟨cMove ⟨(a:Int),(c:Int)⟩,0,true⟩:=by rw[XD,Zk]
       have b1:Gt 1=some ⟨(Di n out).flatMap cI,1,true⟩:=by rw[XD,Zm];exact hs
       have b2:Gt b=some ⟨cells.flatMap cI,1,true⟩:=by rw[XD,Zm];exact q2
       have z1:b<nx+1:=by omega
       have z2:nx<nx+1:=by omega
       have z3:1<nx+1:=by omega
       have ic:(c:Int)<(n:Int):=by omega
       have c3:=jD c;have ia:(a:Int)<(n:Int):=by omega
       have c4:=jD a;have c5:(a:Int)<(al.length:Int):=by omega
       have a1:a<al.length:=by omega
       have la:=LU out ha;have lc:=LU out hc;have ll:((Di n out).flatMap cI).length=n:=by rw[qL,jh]
       have v3:(al.flatMap DJ)[a]?=some (Bo (Dj al a)):=by rw[rF a1];exact cu (fun b=>Bo b) al a a1
       have v4:=Iw al;have v5:=aaG al a a1;have b5:BL T Gt (nx+1) 8 1 (Af (all.drop p)):=by rw[XD];exact XC hq _
       by_cases b6:c=h
       .have c1:((c:Int)==(h:Int))=true:=by simp[b6]
        have ea:∀(a':Nat),y.moves[j]=⟨(a':Int),(h:Int)⟩->a'=a:=fun a' e'=>by
         rw[e]at e';simp only[TV.Move.mk.injEq]at e';omega
        cases b7:Dj al a with
        |false=>
         rw[b7]at v3;refine .inl ⟨_,by simp only[go_sem,t0,t2,t7,t47,t48,t49,f1,f2,f3,f4,f5,f6,f9,<- XD,b0,b1,b2,q1,q7,z1,z2,z3,p2,p3,p4,p5,c1,ic,c3,ia,c4,c5,a1,ha,hc,v3,v4,v5,la,lc];rfl,?_⟩;simp only[go_sem,t0,t2,t7,t47,t48];refine⟨rfl,by omega,all,out,hB,hp,eh,b1,gQ b5 (by simp only[go_sem]) (zq _),fun i hi c6 a' e' J=>?_⟩
         by_cases O:i=j
         .subst O
          rw[ea a' e',b7]at J;cases J
         .exact hd i hi (by omega) a' e' J
        |true=>
         rw[b7]at v3
         by_cases hm:a∈all
         .have o1:¬out a<0:=fun h6=>(hB.lo a).mp h6 hm
          refine .inl ⟨_,by simp only[go_sem,t0,t2,t7,t47,t48,t49,f1,f2,f3,f4,f5,f6,f9,<- XD,b0,b1,b2,q1,q7,z1,z2,z3,p2,p3,p4,p5,c1,ic,c3,ia,c4,c5,a1,ha,hc,v3,v4,v5,la,lc,o1];rfl,?_⟩;simp only[go_sem,t0,t2,t7,t47,t48];refine⟨rfl,by omega,all,out,hB,hp,eh,b1,gQ b5 (by simp only[go_sem]) (zq _),fun i hi c6 a' e' J=>?_⟩
          by_cases O:i=j
          .subst O
           rw[ea a' e'];exact hm
          .exact hd i hi (by omega) a' e' J
         .have o1:out a<0:=(hB.lo a).mpr hm
          have h7:Dw y a all[p]=true:=by
           rw[<- eh];exact(acF y a h).mpr ⟨j,hj,by rw[e,b6]⟩
          have a8:=hB.add hp hm b7 h7;rw[<- eh,<- b6]at a8;have oc:0<=out c/\out c<10:=by
           have e7:c∈all:=by rw[b6,eh];exact zu hp
           obtain⟨kk,i6,_⟩:=hB.way c e7;have:=hB.bnd c e7;omega
          have w4:=ZT (n:=out c+1);have st:=XB (n:=n) out a (out c+1);obtain⟨σ2,Ep⟩:∃σ2,σ2=upd Gt 1 (some ⟨(Di n (put out a (out c+1))).flatMap cI,1,true⟩):=⟨_,rfl⟩;have b8:BL T σ2 (nx+1) 8 1 (Af (all.drop p)):=by rw[Ep];exact QL b5 _
          have b3:σ2 nx=some ⟨cMove ⟨(a:Int),(c:Int)⟩,0,true⟩:=by rw[Ep,Zm];exact b0
          obtain⟨i7,c7,h8,h9⟩:=Uc b8 (by omega) (a:Int) (by rw[Zy,zO];omega);rw[Zy,zO]at c7;rw[q1]at c7;refine .inl ⟨_,by simp only[go_sem,t0,t2,t7,t47,t48,t49,f1,f2,f3,f4,f5,f6,f9,<- XD,b0,b1,b2,q1,q7,z1,z2,z3,p2,p3,p4,p5,c1,ic,c3,ia,c4,c5,a1,ha,hc,v3,v4,v5,la,lc,ll,o1,w4,st,<- Ep,b3,c7];rfl,?_⟩;simp only[go_sem,t0,t2,t7,t47,t48];have i0:p<(all++[a]).length:=by rw[zo];omega
          refine⟨rfl,by omega,all++[a],_,a8,i0,by rw[xY hp];exact eh,?_,?_,fun i hi c6 a' e' J=>?_⟩
          .rw[h9,Ep,Zk]
          .have ed:Af ((all++[a]).drop p)=Af (all.drop p)++[(a:Int)]:=by
            rw[vO (by omega)];simp[Af]
           rw[ed];refine gJ (b:=nx+1+1) ?_ h8 (by omega) (by omega);rw[zo,Zy,zO];simp only[go_sem]
          .by_cases O:i=j
           .subst O
            rw[ea a' e'];simp
           .exact zD _ (hd i hi (by omega) a' e' J)
       .have c1:((c:Int)==(h:Int))=false:=by rw[sG];omega
        refine .inl ⟨_,by simp only[go_sem,t0,t2,t7,t47,t48,t49,f1,f2,f3,f4,f5,f6,f9,<- XD,b0,b1,b2,q1,q7,z1,z2,z3,p2,p3,p4,p5,c1];rfl,?_⟩;simp only[go_sem,t0,t2,t7,t47,t48];refine⟨rfl,by omega,all,out,hB,hp,eh,b1,gQ b5 (by simp only[go_sem]) (zq _),fun i hi c6 a' e' J=>?_⟩
        by_cases O:i=j
        .subst O
         rw[e]at e';simp only[TV.Move.mk.injEq]at e';omega
        .exact hd i hi (by omega) a' e' J) (by
       clear hL;rintro ⟨T,σ,nx⟩ ⟨t0,t2,t7,t47,t48,t49,Y,all,out,hB,hp,eh,hs,hq,hd⟩;simp only at t0 t2 t7 t47 t48 t49 Y hs hq;refine⟨_,by simp only[go_sem,t48,t49,zk];rfl,by simp,_,_,_,rfl,by simp only[go_sem,t0],by simp only[go_sem,t2],by simp only[go_sem,t7],Y,all,out,hB,hp,eh,hs,gQ hq (by simp only[go_sem]) (zq _),fun i hi=>hd i hi hi⟩) (by
       simp only[go_sem,t0,t2,t7];exact⟨Y,all,out,hB,hp,eh,hs,gQ hq (by simp only[go_sem]) (zq _),fun i hi h0=>absurd h0 (zX _)⟩)
     have a8:=e0.next e4 fun i hi i1=>by
      obtain⟨j,hj,ej⟩:=(acF y i E[p]).mp i1;exact c0 j hj i (by rw[ej,e5]) hi
     have i9:=e0.bound (n:=n) fun i hi=>by have:=rE hi;omega
     have b8:=h5;rw[Zz E e4,<- e5]at b8;obtain⟨b',off',G,r1,r2,r3,r4,r5,r6⟩:=b8;have i2:((h:Int) :: Af (E.drop (p+1))).length=E.length-p:=by rw[zH,Zy,zO];omega
     rw[i2]at r1 r3;have r7:((G.flatMap cI)).length=G.length:=qL _;have r8:off'+(E.length-p)<=G.length:=by omega
     have r9:1<=E.length-p:=by omega
     have e8:¬(1:Nat)=0:=by decide
     have e9:(0:Int)<=1:=by decide
     have h1:(1:Int).toNat=1:=rfl
     by_cases hl:E.length-p=1
     .rw[hl]at r1 r8
      refine⟨_,by simp only[go_sem,r1,r2,r7,r8,e8,e9,h1,zq];rfl,.inl ⟨_,rfl,m-1,by omega,?_⟩⟩;simp only[go_sem,t0,t2,t7];exact⟨c9,E,p+1,b9,a8,by omega,by omega,e6,.inl (by omega)⟩
     .have J:¬1=E.length-p:=fun e=>hl e.symm
      refine⟨_,by simp only[go_sem,r1,r2,r7,r8,r9,e8,e9,h1,J];rfl,.inl ⟨_,rfl,m-1,by omega,?_⟩⟩;simp only[go_sem,t0,t2,t7];refine⟨c9,E,p+1,b9,a8,by omega,by omega,e6,.inr ⟨by omega,b',off'+1,G,?_,r2,?_,Ot r4,r5,r6⟩⟩
      .simp only[go_sem]
       rw[Zy,zO];congr 1
      .rw[Zy,zO];omega) n (by
    simp only[go_sem];refine⟨by omega,[t],0,_,aeL b4,by simp,by omega,?_,.inr ⟨by simp,?_⟩⟩
    .rw[Zm,Zk]
    .refine gJ (b:=nI) (by simp only[go_sem];rfl) ?_ (by omega) (by omega)
     simp only[go_sem];rfl)
  have f0:=fun d=>fin σ out d hs
  simp only[go_sem,t7,f0,c8]
def del(s:Structure)(k:Nat):Structure:=⟨s.joints,s.members.eraseIdx k⟩
theorem nk{α:Type}(l:List α)(k:Nat):(l.eraseIdx k).length<=l.length:=List.length_eraseIdx_le l k
theorem ah7{s:Structure}(h:Aj s)(k:Nat):Aj (del s k) :=
 ⟨h.1,zU (nk _ _) h.2.1,h.2.2.1,fun m hm=>h.2.2.2 m (uU hm)⟩
theorem acG{s:Structure}(h:okStructure s)(k:Nat):okStructure (del s k) :=
 ⟨h.1,fun m hm=>h.2.1 m (uU hm),zU (zL _ (nk _ _)) h.2.2.1,zU (nk _ _) h.2.2.2⟩
theorem QM{n k:Nat}{w:List Int}(h:AZ n w)(E:k<n):AZ (n-1) (w.eraseIdx k) :=
 ⟨by rw[yV (by rw[h.1];exact E),h.1],fun x G=>h.2 x (uU G)⟩
def DI(E:List Member)(k j:Nat):List Member:=(E.take j).eraseIdx k
theorem XE{E:List Member}{k j:Nat}(G:j<E.length)(h:j≠k):DI E k (j+1)=DI E k j++[E[j]]:=by
 unfold DI;rw[aH G];have J:(E.take j).length=j:=by rw[zh];omega
 by_cases O:k<j
 .rw[List.eraseIdx_append_of_lt_length (by omega)]
 .have S:[E[j]].eraseIdx (k - (E.take j).length)=[E[j]]:=List.eraseIdx_of_length_le (by rw[J,yL];omega)
  have Y:(E.take j).eraseIdx k=E.take j:=List.eraseIdx_of_length_le (by omega);rw[List.eraseIdx_append_of_length_le (by omega),S,Y]
theorem acH{E:List Member}{k:Nat}(G:k<E.length):DI E k (k+1)=DI E k k:=by
 unfold DI;have J:(E.take k).length=k:=by rw[zh];omega
 have O:(E.take k).eraseIdx k=E.take k:=List.eraseIdx_of_length_le (by omega);rw[aH G,List.eraseIdx_append_of_length_le (by omega),J,yP,O];simp
theorem XF(E:List Member)(k j:Nat):(DI E k j).length<=j:=by
 unfold DI;have:=nk (E.take j) k;rw[zh]at this;omega
theorem XG(σ:Store)(d:Nat):∀ {cells:List V},(cells.all ajS)=true->Ei (own σ d) cells=some (cells,[])
 |[],_=>rfl
 |v :: cells,h=>by
  rw[uH,zA]at h;unfold Ei;rw[XG σ d h.2];cases v<;>first|(cases d<;>rfl)|cases h.1
theorem aeU(E:List Joint):((E.flatMap cJoint).all ajS)=true:=by
 induction E with
 |nil=>rfl
 |cons j E G=>exact G
theorem KA(E:List Joint):((E.flatMap cJoint).all qI)=true:=by
 induction E with
 |nil=>rfl
 |cons j E G=>exact G
theorem alA(E:List Joint)(h:E.length<=1000000)(nx:Nat):∃v G J ids,Hq 4 [LL cJoint E] lI nx=some (v,G,J)/\nx<=J/\Own G 1 v (LL cJoint E) ids/\∀b∈ids,nx<=b/\b<J:=by
 have O:=Gf E;have e:Hq 4 [LL cJoint E] lI nx=if E.length=0 then some (.nil,lI,nx)else some (.rs nx 0 E.length,Aq lI nx (E.flatMap cJoint) 4,nx+1):=by
  show(if(E.flatMap cJoint).length=E.length*4/\E.length<=1000000/\_ then _ else _)=_;rw[sH ⟨O,h,KA E⟩]
 rw[e]
 by_cases S:E.length=0
 .have:E=[]:=zZ S
  subst this;exact⟨.nil,lI,nx,[],rfl,zq _,iO _ _,by simp⟩
 .rw[sJ S]
  refine⟨_,_,_,[nx],rfl,by omega,⟨?_,by simp⟩,by simp⟩;have Y:=XG (Aq lI nx (E.flatMap cJoint) 4) 0 (aeU E);simp only[own,Aq,Zk]at Y⊢;rw[sH ⟨trivial,trivial,O.symm⟩,Y]
theorem XH{σ:Store}{d:Nat}{α:Type}{c:α->List V}{v:V}{xs:List α}{ids:List Nat}(h:Own σ (d+1) v (LL c xs) ids):qI v=true:=by
 obtain⟨h,_⟩:=h;cases v<;>simp only[own]at h<;>first|rfl|(cases h;done)|(split at h<;>simp at h)
theorem kK(s:Structure)(hj:s.joints.length<=1000000)(hm:s.members.length<=1000)(k:Nat)(hk:k<s.members.length)(E:Nat):∃v w σ' nx' Ht,ev ZL Du EZ 19 [.agg (cStructure s),.ts [I k] 1] lI E=some (.agg [v,w],σ',nx')/\E<=nx'/\Own σ' 2 (.agg [v,w]) (.agg (cStructure (del s k))) Ht/\∀b∈Ht,E<=b/\b<nx':=by
 obtain⟨v,b3,G,ids,k1,c5,o1,J⟩:=alA s.joints hj (E+1+1);have g1:=fun d=>o1.gather (d':=d+1) (by omega)
 have c1:=XH o1;have c2:=cells_of_cell c1;obtain⟨Tf,ea⟩:∃Tf,Tf=CQ (E+1+1) (upd (upd lI E (some ⟨cStructure s,0,true⟩)) (E+1) (some ⟨[.nil,.nil],0,true⟩)) b3 ids:=⟨_,rfl⟩;have oa:Own Tf 1 v (LL cJoint s.joints) ids:=by rw[ea];exact o1.join fun b hb=>(J b hb).1
 have a0:Tf E=some ⟨cStructure s,0,true⟩:=by rw[ea,jk (by omega),Zm,Zk]
 have a1:Tf (E+1)=some ⟨[.nil,.nil],0,true⟩:=by rw[ea,jk (by omega),Zk]
 rw[mg [.cell 4 36] [] func19];have n0:¬G=E:=by omega
 have b4:¬E=G:=by omega
 have n2:¬G=E+1:=by omega
 have a8:¬E+1=G:=by omega
 have nb:¬E=E+1:=by omega
 have b5:¬E+1=E:=by omega
 simp only[go_sem,k1,g1,c1,c2,<- ea,a0,a1,n0,b4,n2,a8,nb,b5];generalize hL:dI _ _=y;obtain⟨x,rfl,T,σ,nx,rfl,c6,t4,t5,w,h1,O,o2,Y,hw⟩:=oZ hL s.members.length (fun j st=>st.T 1= .ts [I k] 1/\st.T 4= .rp (E+1) 0/\st.T 5= .rp G 0/\st.T 13=LL cMember s.members/\st.T 14=I s.members.length/\st.T 15=I j/\G<st.nx/\∃w,st.σ (E+1)=some ⟨[.nil,.nil],0,true⟩/\st.σ G=some ⟨[v,w],0,true⟩/\Own st.σ 1 v (LL cJoint s.joints) ids/\Cb cMember 3 (fun _=>w) st.σ st.nx 0 (DI s.members k j)/\∀b o l,w= .rs b o l->G<b)
  (fun x=>∃T σ nx,x=(.exit 0,⟨T,σ,nx⟩)/\G<nx/\T 4= .rp (E+1) 0/\T 5= .rp G 0/\∃w,σ (E+1)=some ⟨[.nil,.nil],0,true⟩/\σ G=some ⟨[v,w],0,true⟩/\Own σ 1 v (LL cJoint s.joints) ids/\Cb cMember 3 (fun _=>w) σ nx 0 (DI s.members k s.members.length)/\∀b o l,w= .rs b o l->G<b) (by
   clear hL;rintro j ⟨T,σ,nx⟩ hj ⟨t1,t4,t5,t13,t14,t15,S,w,h1,O,o2,Y,hw⟩;simp only at t1 t4 t5 t13 t14 t15 S h1 O o2 Y;have f1:(j:Int)<(s.members.length:Int):=by omega
   have f2:=jD j;have f3:=ZT (n:=(j:Int)+1);have f4:=Ik s.members j hj;have f5:=E_ s.members;have f6:j*3+3<=s.members.length*3:=by omega
   have f9:=Il s.members j hj;have k2:=aos [(k:Int)] (j:Int) (by simp);have hle:=XF s.members k j;have z1:¬G=nx:=by omega
   have z2:¬nx=G:=by omega
   have z3:¬E+1=nx:=by omega
   have o3:=fun x=>(Own.upd (σ:=σ) (d:=1) (v:=v) (t:=LL cJoint s.joints) (ids:=ids) (c:=nx) (x:=x) (fun hb=>by have:=(J nx hb).2;omega)).symm ▸ o2
   obtain⟨m1,em⟩:∃m1,m1=s.members[j]:=⟨_,rfl⟩;rw[<- em]at f4
   by_cases a6:j=k
   .have km:decide ((j:Int)∈[(k:Int)])=true:=by rw[a6];simp
    rw[km]at k2;have a7:fn ZL conv ext 65 [.ts [I k] 1,I j]=some (Bo true):=k2
    refine .inl ⟨_,by simp only[go_sem,t1,t4,t5,t13,t14,t15,f1,f2,f3,f4,f5,f6,f9,hj,a7];rfl,?_⟩;simp only[go_sem,t1,t4,t5,t13,t14,z1,z2,z3,h1,O];have ek:DI s.members k (j+1)=DI s.members k j:=by subst a6;exact acH hj
    rw[ek];exact⟨rfl,by omega,w,rfl,o3 _,kX Y _,hw⟩
   .have km:decide ((j:Int)∈[(k:Int)])=false:=by simp;omega
    rw[km]at k2;have a7:fn ZL conv ext 65 [.ts [I k] 1,I j]=some (Bo false):=k2
    have b6:=kX Y (some ⟨cMember m1,0,true⟩);obtain⟨σ',ha,hs,b7⟩:=kW (c:=cMember) (s:=3) (bytes:=24) (fun _=>rfl) (fun _=>rfl) (by decide) b6 m1 (by omega) (by decide);have y1:∀q,q<nx->(∀b o l,w= .rs b o l->q≠b)->σ' q=σ q:=fun q hq b8=>by
     rw[b7 q (by omega) (fun b o l h=>b8 b o l h),Zm]
    have y2:σ' G=some ⟨[v,w],0,true⟩:=by rw[y1 G S (fun b o l h e=>by have:=hw b o l h;omega)];exact O
    have y3:σ' (E+1)=some ⟨[.nil,.nil],0,true⟩:=by rw[y1 (E+1) (by omega) (fun b o l h e=>by have:=hw b o l h;omega)];exact h1
    have o4:Own σ' 1 v (LL cJoint s.joints) ids:=o2.frame fun q hq=>y1 q (by have:=(J q hq).2;omega) (fun b o l h e=>by have:=hw b o l h;have:=(J q hq).2;omega)
    refine .inl ⟨_,by simp only[go_sem,t1,t4,t5,t13,t14,t15,f1,f2,f3,f4,f5,f6,f9,hj,a7,z1,z2,z3,O,ha,y2];rfl,?_⟩;simp only[go_sem,t1,t4,t5,t13,t14];rw[XE hj a6,<- em];refine⟨rfl,by omega,_,?_,rfl,?_,?_,?_⟩
    .rw[Zm];exact y3
    .exact(Own.upd (fun hb=>by have:=(J G hb).2;omega)).symm ▸ o4
    .refine .inr ⟨nx+1+1,by rw[zo];rfl,by simp,?_,by omega⟩
     rw[Zm];exact hs
    .intro b o l hb
     cases hb;omega) (by
   clear hL;rintro ⟨T,σ,nx⟩ ⟨t1,t4,t5,t13,t14,t15,S,w,h1,O,o2,Y,hw⟩;simp only at t1 t4 t5 t13 t14 t15 S h1 O o2 Y;exact⟨_,by simp only[go_sem,t14,t15,zk];rfl,by simp,_,_,_,rfl,S,by simp only[go_sem,t4],by simp only[go_sem,t5],w,h1,O,o2,Y,hw⟩) (by
   simp only[go_sem,n2,a8,a1];exact⟨by omega,_,rfl,(Own.upd (c:=G) (fun hb=>by have:=(J _ hb).2;omega)).symm ▸ oa,.inl ⟨rfl,rfl⟩,fun b o l h=>by cases h⟩)
 have ek:DI s.members k s.members.length=(del s k).members:=by
  unfold DI del;rw[yg]
 rw[ek]at Y;have z3:¬E+1=G:=by omega
 have cw:qI w=true:=by
  rcases Y with ⟨a,_⟩|⟨b,a,_⟩
  .have a:w= .nil:=a
   rw[a];rfl
  .have a:w= .rs b 0 _:=a
   rw[a];rfl
 have ow:∃is,Ei (own (upd σ (E+1) (some ⟨[v,w],0,true⟩)) 1) [w]=some ([LL cMember (del s k).members],is)/\is.Nodup/\∀q∈is,G<q/\q<nx:=by
  rcases Y with ⟨a,b⟩|⟨b,a1,a2,a3,a4⟩
  .have a:w= .nil:=a
   rw[a,b];exact⟨[],rfl,by simp,by simp⟩
  .have a1:w= .rs b 0 _:=a1
   have hb:=hw _ _ _ a1;subst a1;have h2:=agF (d:=0) (σ:=upd σ (E+1) (some ⟨[v,.rs b 0 (del s k).members.length],0,true⟩)) (b:=b) (s:=3) (c:=cMember) (xs:=(del s k).members) (by rw[Zm];exact a3) (fun _=>rfl) aec;exact⟨[b],by simp only[Ei,h2];rfl,by simp,fun q hq=>by rw[List.mem_singleton.mp hq];exact⟨hb,a4⟩⟩
 obtain⟨is,b9,c0,b2⟩:=ow;have c3:own (upd σ (E+1) (some ⟨[v,w],0,true⟩)) 1 v=some (LL cJoint s.joints,ids):=by
  have:=((Own.upd (σ:=σ) (d:=1) (v:=v) (t:=LL cJoint s.joints) (ids:=ids) (c:=E+1) (x:=some ⟨[v,w],0,true⟩) (fun hb=>by have:=(J (E+1) hb).1;omega)).symm ▸ o2);exact this.1
 have hO:Own (upd σ (E+1) (some ⟨[v,w],0,true⟩)) 2 (.agg [v,w]) (.agg (cStructure (del s k))) (ids++is):=by
  refine⟨?_,?_⟩
  .unfold own
   have c4:Ei (own (upd σ (E+1) (some ⟨[v,w],0,true⟩)) 1) [v,w]=some ([LL cJoint s.joints,LL cMember (del s k).members],ids++is):=by
    unfold Ei;rw[c3,b9]
   simp only[c4];rfl
  .rw[List.nodup_append]
   exact⟨o2.2,c0,fun a ha b hb e=>by have h1:=(J a ha).2;have h2:=(b2 b hb).1;omega⟩
 simp only[go_sem,t4,t5,h1,O,z3,c1,cw];exact⟨v,w,_,nx,ids++is,rfl,by omega,hO,fun q hq=>by
  rcases List.mem_append.mp hq with h|h
  .have:=J q h;omega
  .have:=b2 q h;omega⟩
theorem jM(xs:List Int):xs.flatMap cI=xs.map I:=by
 induction xs with
 |nil=>rfl
 |cons x xs E=>show I x :: xs.flatMap cI=_;rw[E];rfl
theorem XI(xs:List Int)(k:Nat):(xs.flatMap cI).eraseIdx k=(xs.eraseIdx k).flatMap cI:=by rw[jM,jM,jL]
theorem aeV{σ:Store}{b:Nat}{xs:List Int}{ex:List V}{n:Nat}(h:σ b=some ⟨xs.flatMap cI++ex,1,true⟩)(hn:xs.length=n)(d:Nat):strip σ (d+1) (.rs b 0 n)=some (LI xs,[b]):=by
 rw[aQ,h];simp only[zi,yQ,yX,yY];rw[sH (by rw[zo,qL];omega),wu (by rw[qL,hn]),CZ];show some (V.ts _ n,[b])=_;rw[<- hn]
theorem XJ{P:Program}{σ:Store}{t:TypeId}{b off len:Nat}{lo hi E:V}(h:(vI P t).slice=true)(G:(vI P t).Rz=true):AP P t (.rs b off len) (some lo) (some hi) (some E) σ=(bnd (some lo) 0).bind fun l=>(bnd (some hi) 0).bind fun h=>(bnd (some E) 0).bind fun m=>if l<=h/\h<=m/\m<=len then some .junk else none:=by
 obtain⟨e,Y,z,J,O,h3,h4,S,h6,h7⟩:=Zn h G;unfold AP;simp only[J,O,S];cases bnd (some lo) 0<;>cases bnd (some hi) 0<;>cases bnd (some E) 0<;>rfl
attribute [go_sem] XJ
theorem alC{σ:Store}{nx b:Nat}{w:List Int}{n k:Nat}(hb:σ b=some ⟨w.flatMap cI,1,true⟩)(J:b<nx)(hw:w.length=n)(hn:n<=1000)(hk:k<n) :
  ∃σ',ev ZL Du EZ 214 [.rs b 0 n,I k,I ((k:Int)+1)] σ nx=some (.rs b 0 (n-1),σ',nx)/\(∃ex,σ' b=some ⟨(w.eraseIdx k).flatMap cI++ex,1,true⟩)/\∀c,c≠b->σ' c=σ c:=by
 have G:(w.flatMap cI).length=n:=by rw[qL,hw]
 have e1:((k:Int)==(k:Int)+1)=false:=by rw[sG];omega
 have i0:=jD k;have i1:(0:Int)<=(k:Int)+1:=by omega
 have i2:((k:Int)+1).toNat=k+1:=by omega
 have i3:k<=k+1:=by omega
 have i4:k+1<=n:=hk;have i5:¬k+1=0:=by omega
 have i6:k<=n:=by omega
 have i7:=jD n;rw[mg [.tmp 6] [5] func214];have O:¬n=0:=by omega
 have z1:∀(c:Nat) (x:Option FT),c≠b->upd σ b x c=σ c:=fun c x h=>Zl _ _ h
 by_cases E:k+1=n
 .have m1:n-1=k:=by omega
  have m3:n-k=1:=by omega
  have a1:¬k=n:=by omega
  have ha:=NV (restrict σ [b]) nx 1 8 b 0 k [] (B:=⟨w.flatMap cI,1,true⟩) (by rw[fJ];exact hb);have le:∃ex,patch (w.flatMap cI) k [I 0]=(w.eraseIdx k).flatMap cI++ex:=by
   rw[iJ _ _ _ (by rw[G];simp;omega),<- XI,vX,xw (l:=w.flatMap cI) (i:=k+1) (by omega),zC,yj];exact⟨_,rfl⟩
  by_cases S:k=0
  .have a6:(k=0)=True:=eq_true S
   have hr:rep n [I 0]=[I 0]:=by
    have:n=1:=by omega
    rw[this];rfl
   have a8:0+n<=n:=by omega
   simp only[go_sem,hb,G,J,e1,i0,i1,i2,i3,i4,i5,i6,i7,E,a1,ha,O,a6,zJ,zq,FX,m1,hr,a8];exact⟨_,rfl,by rw[Zk];obtain⟨ex,e⟩:=le;exact⟨ex,by rw[<- e,S,iG]⟩,fun c hc=>Zl _ _ hc⟩
  .simp only[go_sem,hb,G,J,e1,i0,i1,i2,i3,i4,i5,i6,i7,E,a1,ha,O,S,m3,zJ,zq,FX,m1]
   exact⟨_,rfl,by rw[Zk];obtain⟨ex,e⟩:=le;exact⟨ex,by rw[<- e];rfl⟩,fun c hc=>Zl _ _ hc⟩
 .have m1:¬n - (k+1)=0:=by omega
  have m2:((w.flatMap cI).drop (k+1)).take (n - (k+1))=(w.flatMap cI).drop (k+1):=zl (by rw[zO,G];omega);have i8:k+1+(n - (k+1))<=n:=by omega
  have rl:((w.flatMap cI).drop (k+1)).length=n - (k+1):=by rw[zO,G]
  have Y:((w.flatMap cI).drop (k+1)).all qI=true:=by
   rw[jM,<- List.map_drop,<- jM];exact qM _
  obtain⟨Pc,hP⟩:∃Pc,Pc=patch (w.flatMap cI) k ((w.flatMap cI).drop (k+1)):=⟨_,rfl⟩;have a7:Pc.length=n:=by
   rw[hP,iJ _ _ _ (by rw[rl,G];omega)];simp only[zo,zh,zO,G];omega
  obtain⟨b4,b2⟩:∃ex,Pc=(w.eraseIdx k).flatMap cI++ex:=by
   obtain⟨ex,e⟩:=iH (w.flatMap cI) [] (i:=k) (m:=n) G hk m1;rw[zC]at e;exact⟨ex,by rw[hP,e,XI]⟩
  have ha:=aox (σ:=restrict σ [b,b]) (nx:=nx) (bytes:=8) (b:=b) (len:=k) (m:=n - (k+1)) (row:=(w.flatMap cI).drop (k+1)) (cells:=w.flatMap cI) (by rw[fH];exact hb) m1 (by rw[G];omega) Y;rw[<- hP]at ha;have m5:k+(n - (k+1))=n-1:=by omega
  rw[m5]at ha;have j1:((n-1:Nat):Int).toNat=n-1:=zJ _;have j2:(0:Int)<=((n-1:Nat):Int):=by omega
  have j3:n-1<=n:=by omega
  have j4:¬n-1=0:=by omega
  have j5:¬n-1=n:=by omega
  have j6:n - (n-1)=1:=by omega
  have j7:n-1+1<=n:=by omega
  have le:∃ex,patch Pc (n-1) [I 0]=(w.eraseIdx k).flatMap cI++ex:=by
   have b3:((w.eraseIdx k).flatMap cI).length=n-1:=by rw[qL,yV (by omega),hw]
   rw[iJ _ _ _ (by rw[a7];simp;omega),b2,wu b3,yj];exact⟨_,rfl⟩
  simp only[go_sem,hb,G,J,e1,i0,i1,i2,i3,i4,i5,i6,i7,i8,E,m1,m2,ha,O,zJ,zq,j1,j2,j3,j4,j5,j6,j7,a7,FX];exact⟨_,rfl,by rw[Zk];obtain⟨ex,e⟩:=le;exact⟨ex,by rw[<- e];rfl⟩,fun c hc=>Zl _ _ hc⟩
def Df(s:Structure)(l w:List Int):Prop:=fn ZL pI Ad 18 [.agg (cStructure s),LI l,LI w]=some (Bo true)
theorem Ov{s:Structure}(h:Aj s)(E:okStructure s){l w:List Int}(G:Ai s.joints.length l)(hw:AZ s.members.length w) :
  fn ZL pI Ad 18 [.agg (cStructure s),LI l,LI w]=some (Bo (pb (Df s l w))):=by
 obtain⟨b,r,k,_⟩:=alu h E G hw;rw[k];cases b with
 |true=>
  have:Df s l w:=k;rw[iD this]
 |false=>
  have:¬Df s l w:=fun e=>by unfold Df at e;rw[k]at e;cases e
  rw[iE this]
noncomputable def upto(s:Structure)(l w:List Int)(n:Nat):Bool:=(List.range n).all fun k=>pb (Df (del s k) l (w.eraseIdx k))
theorem upto_succ(s:Structure)(l w:List Int)(n:Nat):upto s l w (n+1)=(upto s l w n && pb (Df (del s n) l (w.eraseIdx n))):=by simp[upto,wJ]
theorem Zi{s:Structure}{l w:List Int}{k n:Nat}(E:k<n)(h:pb (Df (del s k) l (w.eraseIdx k))=false):upto s l w n=false:=by
 unfold upto;rw[List.all_eq_false];exact⟨k,by simpa using E,by rw[h];simp⟩
noncomputable def F9(s:Structure)(l w:List Int):Bool:=pb (Df s l w) && upto s l w s.members.length
theorem alD(w:List Int)(hw:w.length<=1000)(E:w.length≠0)(nx:Nat):Fq [LI w] lI nx=some (.rs nx 0 w.length,Aq lI nx (w.flatMap cI) 1,nx+1):=by
 show(if(w.flatMap cI).length=w.length/\w.length<=17592186044000/\(w.flatMap cI).all qI=true then _ else none)=_;rw[sH ⟨qL w,by omega,qM w⟩,sJ E]
theorem XK{s:Structure}(h:Aj s)(ho:okStructure s){l w:List Int}(hl:Ai s.joints.length l)(hw:AZ s.members.length w) :
  fn ZL Du EZ 157 [.agg (cStructure s),LI l,LI w]=some (Bo (F9 s l w)):=by
 have k1:=Ov h ho hl hw;have b9:=h.2.1;have Pj:=h.1;have O:=hw.1;unfold F9;rw[m_,mg [.tmp 6] [] func157];cases hs:pb (Df s l w)with
 |false=>
  rw[hs]at k1;simp only[go_sem,k1]
 |true=>
  rw[hs]at k1;simp only[go_sem,k1];generalize hL:dI _ _=y;obtain⟨x,rfl,hx⟩:=oZ hL s.members.length (fun j st=>st.T 1=LI l/\st.T 2=LI w/\st.T 3= .rp 0 0/\st.T 15=I s.members.length/\st.T 16=I j/\0<st.nx/\st.σ 0=some ⟨cStructure s,0,true⟩/\upto s l w j=true)
   (fun x=>∃T σ nx,(x=(.exit 0,⟨T,σ,nx⟩)/\upto s l w s.members.length=true)\/(x=(.ret,⟨T,σ,nx⟩)/\T 6=Bo false/\upto s l w s.members.length=false)) (by
    clear hL;rintro j ⟨T,σ,nx⟩ hj ⟨t1,t2,t3,t15,t16,a1,E,hu⟩;simp only at t1 t2 t3 t15 t16 a1 E;have f1:(j:Int)<(s.members.length:Int):=by omega
    have f2:=jD j;have f3:=ZT (n:=(j:Int)+1);obtain⟨v,v2,a8,G,Ht,k2,c0,hO,a6⟩:=kK s (by omega) (by omega) j hj (nx+1);have k3:=alD w (by omega) (by omega) G;rw[O]at k3;obtain⟨S,eS⟩:∃S,S=del s j:=⟨_,rfl⟩;rw[<- eS]at hO;have gO:=fun d=>hO.gather (d':=d+2) (by omega)
    have hlen:(w.eraseIdx j).length=s.members.length-1:=by rw[yV (by omega),O]
    have b7:S.joints=s.joints:=by rw[eS];rfl
    have b8:S.members.length=s.members.length-1:=by
     rw[eS];unfold del;exact yV hj
    have k5:=Ov (s:=S) (l:=l) (w:=w.eraseIdx j) (by rw[eS];exact ah7 h j) (by rw[eS];exact acG ho j) (by rw[b7];exact hl) (by rw[b8];exact QM hw hj);have oc:Own (Aq lI G (w.flatMap cI) 1) 1 (.rs G 0 s.members.length) (LI w) [G]:=by
     have:=JB (σ:=Aq lI G (w.flatMap cI) 1) (d:=0) (b:=G) (st:=1) (xs:=w) (by unfold Aq;rw[Zk]) (by omega)
     rwa [O]at this
    have gc:=fun d=>oc.gather (d':=d+1) (by omega)
    unfold Aq at k3 gc;obtain⟨J,e1⟩:∃J,J=CQ (nx+1) (upd σ nx (some ⟨[I j],1,true⟩)) a8 Ht:=⟨_,rfl⟩;have b1:J 0=some ⟨cStructure s,0,true⟩:=by rw[e1,jk (by omega),Zm];exact E
    have o1:Own J 2 (.agg [v,v2]) (.agg (cStructure S)) Ht:=hO.frame fun q hq=>by
     have:=a6 q hq;rw[e1,jm (by omega) hq]
    obtain⟨σ2,e2⟩:∃σ2,σ2=CQ G J (upd lI G (some ⟨w.flatMap cI,1,true⟩)) [G]:=⟨_,rfl⟩;have b2:σ2 0=some ⟨cStructure s,0,true⟩:=by rw[e2,jk (by omega)];exact b1
    have b3:σ2 G=some ⟨w.flatMap cI,1,true⟩:=by rw[e2,jm (by omega) (by simp),Zk]
    have o2:Own σ2 2 (.agg [v,v2]) (.agg (cStructure S)) Ht:=o1.frame fun q hq=>by
     have:=a6 q hq;rw[e2,jk (by omega)]
    obtain⟨a7,k4,⟨ex,b4⟩,b5⟩:=alC (nx:=G+1) (k:=j) b3 (by omega) O (by omega) hj;have b6:a7 0=some ⟨cStructure s,0,true⟩:=by rw[b5 0 (by omega)];exact b2
    have st:=fun d=>aeV b4 hlen d
    have o3:Own a7 2 (.agg [v,v2]) (.agg (cStructure S)) Ht:=o2.frame fun q hq=>by
     have:=a6 q hq;rw[b5 q (by omega)]
    have so:=fun d=>o3.strip (d':=d+2) (by omega)
    have f4:=ZT (n:=(j:Int)+1);have us:=upto_succ s l w j;rw[<- eS]at us;cases Y:pb (Df S l (w.eraseIdx j))with
    |true=>
     rw[Y]at k5 us;refine .inl ⟨_,by simp only[go_sem,qB,t1,t2,t3,t15,t16,E,f1,f2,f3,k2,gO,<- e1,k3,gc,<- e2,k4,st,so,k5,b6];rfl,?_⟩;simp only[go_sem,t1,t2,t3,t15,b6];exact⟨rfl,by omega,by rw[us,hu];rfl⟩
    |false=>
     rw[Y]at k5;refine .inr ⟨_,by simp only[go_sem,qB,t1,t2,t3,t15,t16,E,f1,f2,f3,k2,gO,<- e1,k3,gc,<- e2,k4,st,so,k5,b6];rfl,by simp,_,_,_,.inr ⟨rfl,by simp only[go_sem],?_⟩⟩;rw[eS]at Y;exact Zi hj Y) (by
    rintro ⟨T,σ,nx⟩ ⟨t1,t2,t3,t15,t16,a1,E,hu⟩;simp only at t1 t2 t3 t15 t16 a1 E;exact⟨_,by simp only[go_sem,t15,t16,zk];rfl,by simp,_,_,_,.inl ⟨rfl,hu⟩⟩) (by
    simp only[go_sem];rfl)
  obtain⟨T,σ,nx,⟨rfl,hu⟩|⟨rfl,t6,hu⟩⟩:=hx
  .rw[hu]
   simp only[go_sem]
  .rw[hu]
   simp only[go_sem,t6]
noncomputable def Gi(t:Stance)(strict:Bool):Bool:=Cj t && (if strict=true then F9 t.st t.load t.limits else pb (Df t.st t.load t.limits))
theorem bG{t:Stance}(h:Cj t=true):Aj t.st/\Ai t.st.joints.length t.load/\AZ t.st.members.length t.limits:=by
 unfold Cj at h;simp only[zA]at h;exact⟨iw h.2.1.1,iw h.2.1.2,iw h.2.2⟩
theorem XL(t:Stance)(G:okStance t)(strict:Bool):fn ZL Du EZ 101 [.agg (cStance t),Bo strict]=some (Bo (Gi t strict)):=by
 have E:=P5 t G;unfold Gi;rw[m_,mg [.tmp 4] [] func101];cases hs:Cj t with
 |false=>
  rw[hs]at E;simp only[go_sem,E]
 |true=>
  rw[hs]at E;obtain⟨J,O,S⟩:=bG hs;have Y:=XK J G.2.1 O S;have k3:=Ov J G.2.1 O S;cases strict with
  |true=>simp only[go_sem,E,Y]
  |false=>simp only[go_sem,E,k3]
theorem alF{α:Type}{xs:List α}{n k:Nat}(d:α)(E:k<xs.length)(hn:xs.length=n):(xs.take k++List.replicate (n-k) d).set k xs[k]=xs.take (k+1)++List.replicate (n - (k+1)) d:=by
 have G:(xs.take k).length=k:=by rw[zh];omega
 rw[xH _ _ (by omega),G,yP,show n-k=n - (k+1)+1 by omega,xO,uf,aH E,yj];rfl
theorem QN(n:Nat):rep n [Bo false]=(List.replicate n false).flatMap DJ:=Qh n
noncomputable def Ac(y:Yard):List Bool:=y.stances.map fun t=>Gi t y.strict
theorem dJ(y:Yard):(Ac y).length=y.stances.length:=by simp[Ac]
theorem XM{σ:Store}{b:Nat}{xs:List Bool}(h:σ b=some ⟨xs.flatMap DJ,1,true⟩){n:Nat}(hn:xs.length=n)(d:Nat):strip σ (d+1) (.rs b 0 n)=some (LL DJ xs,[b]):=by
 have E:(xs.flatMap DJ).length=xs.length:=by rw[Iw,yQ]
 rw[aQ,h];simp only[zi,yQ,yX,yY,E];rw[sH (by omega),zl (by omega),aW (fun x=>by rw[ah,aP,aX];rfl)];show some (V.ts _ n,[b])=_;rw[<- hn]
theorem ah8(y:Yard)(ho:okYard y)(KX:y.stances.length<=6):fn ZL Du EZ 52 [.tp (cYard y) 0]=some (LL DJ (Ac y)):=by
 obtain⟨n,en⟩:∃n,n=y.stances.length:=⟨_,rfl⟩;have e1:1*(n:Int)<=281474976710656:=by omega
 have e2:(n:Int)<=9223372036854775807:=by omega
 have e3:=jD n;have a8:=dJ y;rw[m_,mg [.tmp 2] [5] func52];simp only[go_sem,<- en,e1,e2,e3,xA];generalize hL:dI _ _=z;obtain⟨r,rfl,T',σ',nx',rfl,O,hs⟩:=oZ hL n (fun k s=>1<=s.nx/\s.T 0= .tp (cYard y) 0/\s.T 3= .rs 0 0 n/\s.T 15=LL cStance y.stances/\s.T 16=I n/\s.T 17=I k/\s.σ 0=some ⟨((Ac y).take k++List.replicate (n-k) false).flatMap DJ,1,true⟩)
  (fun r=>∃T σ nx',r=(.exit 0,⟨T,σ,nx'⟩)/\T 3= .rs 0 0 n/\σ 0=some ⟨(Ac y).flatMap DJ,1,true⟩) (by
   clear hL;rintro k ⟨T,σ,m⟩ hk ⟨hm,Y,O,G,E,J,hs⟩;simp only at hm Y O G E J hs;have S:k<y.stances.length:=by omega
   have a1:k<(Ac y).length:=by omega
   have f1:(k:Int)<(n:Int):=by omega
   have f2:=jD k;have f3:=ZT (n:=(k:Int)+1);have f4:=aao y.stances k S;have f5:=MV y.stances;rw[<- en]at f5;have f6:k*5+5<=n*5:=by omega
   have f9:=aap y.stances k S;have f7:(((Ac y).take k++List.replicate (n-k) false).flatMap DJ).length=n:=by
    rw[Iw,yQ,zo,zh,yU];omega
   have k1:=XL y.stances[k] (ho.1.1 _ (zu S)) y.strict;have es:(Ac y)[k]=Gi y.stances[k] y.strict:=by simp[Ac]
   have f8:=SK ((Ac y).take k++List.replicate (n-k) false) k (Ac y)[k];rw[alF false a1 (by omega),es]at f8;have nz:¬0=m:=by omega
   have a6:¬m=0:=by omega
   have f10:k<n:=hk;have f11:0<m+1:=by omega
   have f12:m<m+1:=by omega
   obtain⟨t,et⟩:∃t,t=y.stances[k]:=⟨_,rfl⟩;rw[<- et]at f4 k1 f8;obtain⟨sb,eb⟩:∃sb,sb=Gi t y.strict:=⟨_,rfl⟩;rw[<- eb]at k1 f8;refine .inl ⟨_,by simp only[go_sem,<- en,Y,O,G,E,J,hs,f1,f2,f3,f4,f5,f6,f7,f8,f9,f10,f11,f12,k1,nz,a6];rfl,?_⟩;simp only[go_sem,Y,O,G,E];rfl) (by
   clear hL;rintro ⟨T,σ,m⟩ ⟨hm,Y,O,G,E,J,hs⟩;simp only at hm Y O G E J hs;rw[zl (by omega),yP,List.replicate_zero,zC]at hs;exact⟨_,by simp only[go_sem,E,J,zk];rfl,by simp,_,_,_,rfl,by simp only[go_sem,O],hs⟩) (by
   simp only[go_sem];rw[<- QN])
 have a7:=fun d=>XM hs (n:=n) (by omega) d
 simp only[go_sem,O,a7]
theorem ah9(y:Yard)(E:Ak y)(i:Int):fn ZL Du EZ 53 [.tp (cYard y) 0,I i]=some (LI (EY (Dy y.moves i) y.stances.length)):=by
 obtain⟨v,G,O,ids,k,_,J,_⟩:=aef y E i 0;rw[aoT,m_,k];simp only[go_sem,J.strip (d':=7) (by omega)]
def nexts(y:Yard)(a:Nat):List Nat:=(List.range y.stances.length).filter (Dw y a)
theorem QO(y:Yard)(a:Nat):EY (Dy y.moves (a:Int)) y.stances.length=Af (nexts y a):=rfl
theorem abf(l:List Nat){j:Nat}(h:j<l.length):(Af l)[j]'(by rw[Zy];exact h)=(l[j]:Int):=by simp[Af]
theorem QS(l:List Nat){j:Nat}(h:j<l.length):((Af l).flatMap cI)[j]?=some (I (l[j]:Int)):=by
 rw[idx (xs:=Af l) (k:=j) (by rw[Zy];exact h),abf l h]
theorem acI{α:Type}{p:α->Bool}:∀ {l:List α} {j:Nat} (h:j<l.length),(∀i (hi:i<l.length),i<j->p l[i]=false)->p l[j]=true->l.find? p=some l[j]
 |[],_,h,_,_=>absurd h (zX _)
 |x :: l,0,_,_,h=>by
  have h:p x=true:=h;simp[List.find?_cons,h]
 |x :: l,j+1,hj,hlo,h=>by
  have E:p x=false:=hlo 0 (by simp) (by omega);have:=acI (l:=l) (j:=j) (by rw[zH]at hj;omega) (fun i hi G=>hlo (i+1) (by rw[zH];omega) (by omega)) h;simp only[List.find?_cons,E];exact this
theorem apf{y:Yard}{out:Nat->Int}{a j:Nat}(h:j<(nexts y a).length)(E:∀i (hi:i<(nexts y a).length),i<j->(out (nexts y a)[i]==out a-1)=false)(G:(out (nexts y a)[j]==out a-1)=true):Jc (Dw y) out y.stances.length a=(nexts y a)[j]:=by
 have J:=acI (p:=fun i=>out i==out a-1) h E G;unfold Jc;have O:(List.range y.stances.length).find? (fun i=>Dw y a i && (out i==out a-1))=(nexts y a).find? (fun i=>out i==out a-1):=by
  unfold nexts;rw[List.find?_filter];congr 1;funext i;generalize Dw y a i=b1;generalize (out i==out a-1)=b2;cases b1<;>cases b2<;>rfl
 rw[O,J];rfl
theorem XO{y:Yard}{a j:Nat}(h:j<(nexts y a).length):(nexts y a)[j]<y.stances.length:=by
 have:=zu h;exact List.mem_range.mp (List.mem_filter.mp this).1
theorem XP(y:Yard)(a:Nat):(nexts y a).length<=y.stances.length:=by
 unfold nexts;exact zU (List.length_filter_le _ _) (by simp)
theorem abg{y:Yard}{al:List Bool}(G:al.length=y.stances.length){to a:Nat}(h:0<dst (Dw y) (Dj al) to a):∃j,∃E:j<(nexts y a).length,(dst (Dw y) (Dj al) to (nexts y a)[j]==dst (Dw y) (Dj al) to a-1)=true:=by
 obtain⟨J,O,S⟩:=aa3 (mv:=Dw y) (al:=Dj al) (n:=y.stances.length) (to:=to) (a:=a) (fun i hi=>by have:=rE hi;omega) h;have hm:Jc (Dw y) (dst (Dw y) (Dj al) to) y.stances.length a∈nexts y a:=by
  unfold nexts;rw[List.mem_filter];exact⟨by simpa using J,O⟩
 obtain⟨j,E,e⟩:=yZ hm;exact⟨j,E,by rw[e,S];simp⟩
noncomputable def BI(y:Yard)(fr to:Int):Bool:=pb (Ak y) && (decide (0<=fr) && decide (fr<(y.stances.length:Int)) && decide (0<=Pv y (Ac y) to fr.toNat))
noncomputable def Dh(y:Yard)(fr to:Int):List Int:=if BI y fr to=true then Af (plan (Dw y) (Pv y (Ac y) to) y.stances.length fr.toNat)else []
theorem Ud{y:Yard}{al:List Bool}{to:Int}{i:Nat}(h:0<=Pv y al to i):(0<=to/\to<(y.stances.length:Int))/\Pv y al to=dst (Dw y) (Dj al) to.toNat:=by
 by_cases c:0<=to/\to<(y.stances.length:Int)
 .exact⟨c,funext fun i=>by unfold Pv;rw[sH c]⟩
 .unfold Pv at h
  rw[sJ c]at h;omega
theorem JO{σ:Store}{b:Nat}{cells:List V}{st:Nat}{wr:Bool}(h:σ b=some ⟨cells,st,wr⟩)(t:V):behind σ [b] t=upd σ b (some ⟨cells,st,wr && flat depth t⟩):=by
 unfold behind;cases E:flat depth t with
 |true=>
  simp only[Bool.and_true,List.isEmpty_cons,Bool.false_or,if_true];funext i
  by_cases e:i=b
  .subst e;rw[Zk,h]
  .rw[Zl _ _ e]
 |false=>
  simp only[List.isEmpty_cons,Bool.or_self,yJ,if_false,wS];unfold Dl Dl;rw[h];rfl
theorem abh{T:Nat->V}{σ σ':Store}{nx t:Nat}{acc:List Int}(E:Grow T σ nx t acc)(h:∀b o l,T t= .rs b o l->σ' b=σ b):Grow T σ' nx t acc:=by
 rcases E with ⟨g1,g2⟩|⟨b,g1,g2,g3,g4⟩
 .exact .inl ⟨g1,g2⟩
 .exact .inr ⟨b,g1,g2,by rw[h _ _ _ g1];exact g3,g4⟩
def Fg(y:Yard)(out:Nat->Int)(a k:Nat):List Int:=Af ((List.range (k+1)).map (TT (Dw y) out y.stances.length a))
theorem aeW(y:Yard)(out:Nat->Int)(a k:Nat):(Fg y out a k).length=k+1:=by simp[Fg,Af]
theorem abj(y:Yard)(out:Nat->Int)(a k:Nat):Fg y out a (k+1)=Fg y out a k++[((TT (Dw y) out y.stances.length a (k+1):Nat):Int)]:=by
 unfold Fg Af;rw[wJ];simp
theorem aeX(y:Yard)(ho:okYard y)(fr to:Int)(nx:Nat):∃v b5 nI ids,ev ZL Du EZ 9 [.agg (cYard y),I fr,I to] lI nx=some (.AB [v,Bo (BI y fr to)],b5,nI)/\nx<=nI/\Own b5 1 v (LI (Dh y fr to)) ids/\∀b∈ids,nx<=b/\b<nI:=by
 obtain⟨n,en⟩:∃n,n=y.stances.length:=⟨_,rfl⟩;have k1:=Lh y ho;have Y:∀ok,ok=BI y fr to->ok=false->Dh y fr to=[]:=fun ok e h=>by unfold Dh;rw[<- e,h,sJ (by simp)]
 rw[mg [.tmp 6,.tmp 7] [] func9];cases hg:pb (Ak y)with
 |false=>
  have e:BI y fr to=false:=by unfold BI;rw[hg,ug]
  rw[hg]at k1;rw[e,Y _ e.symm rfl];simp only[go_sem,k1];exact⟨_,_,_,[],rfl,by omega,iO _ _,by simp⟩
 |true=>
  rw[hg]at k1;have hG:=iw hg
  by_cases c1:fr<0
  .have e:BI y fr to=false:=by unfold BI;rw[hg,sD (p:=0<=fr) (by omega)];rfl
   rw[e,Y _ e.symm rfl];simp only[go_sem,k1,c1];exact⟨_,_,_,[],rfl,by omega,iO _ _,by simp⟩
  by_cases c2:(y.stances.length:Int)<=fr
  .have e:BI y fr to=false:=by unfold BI;rw[hg,sD (p:=fr<_) (by omega),wS];rfl
   rw[e,Y _ e.symm rfl];simp only[go_sem,k1,c1,c2];exact⟨_,_,_,[],rfl,by omega,iO _ _,by simp⟩
  obtain⟨a0,rfl⟩:∃a:Nat,fr=(a:Int):=⟨fr.toNat,by omega⟩;have c4:a0<y.stances.length:=by omega
  have KX:=hG.1;have k2:=ah8 y ho KX;have k3:=apd y hG (by omega) to (Ac y) (dJ y);obtain⟨out,eo⟩:∃out,out=Pv y (Ac y) to:=⟨_,rfl⟩;rw[<- eo]at k3;have f1:(a0:Int)<(y.stances.length:Int):=by omega
  have f2:=jD a0;have la:=fun {a:Nat} (h:a<y.stances.length)=>LU (n:=y.stances.length) out h
  have b6:=la c4;have ll:=jh y.stances.length out;have O:(Di y.stances.length out).flatMap cI≠[]:=fun e=>by
   have h:=qL (Di y.stances.length out);rw[e,ll]at h;have h:0=y.stances.length:=h;omega
  by_cases c3:out a0<0
  .have e:BI y a0 to=false:=by
    unfold BI;rw[<- eo,zJ,sD (p:=0<=out a0) (by omega),wS,wS]
   rw[e,Y _ e.symm rfl];simp only[go_sem,k1,c1,c2,k2,k3,ll,O,b6,f1,f2,c3];exact⟨_,_,_,[],rfl,by omega,iO _ _,by simp⟩
  have e:BI y a0 to=true:=by
   unfold BI;rw[<- eo,hg,zJ,sF (p:=0<=out a0) (by omega),sF f2,sF (p:=(a0:Int)<_) (by omega)];rfl
  obtain⟨⟨t0,t1⟩,es⟩:=Ud (y:=y) (al:=Ac y) (to:=to) (i:=a0) (by rw[<- eo];omega);rw[<- eo]at es;have c5:Dh y a0 to=Fg y out a0 (out a0).toNat:=by
   unfold Dh;rw[sH e,<- eo,zJ];rfl
  rw[e,c5];obtain⟨d,hd⟩:∃d:Nat,out a0=(d:Int):=⟨(out a0).toNat,by omega⟩;have a8:∀i,Dj (Ac y) i=true->i<y.stances.length:=fun i hi=>by have:=rE hi;rw[dJ]at this;exact this
  have b2:∀k:Nat,k<=d->out (TT (Dw y) out y.stances.length a0 k)=(d:Int) - k:=fun k hk=>by
   have:=jv a8 (mv:=Dw y) (to:=to.toNat) (a:=a0) k (by rw[<- es,hd];omega);rw[<- es,hd]at this;exact this
  have b7:∀k:Nat,k<=d->TT (Dw y) out y.stances.length a0 k<y.stances.length:=fun k hk=>by
   have h1:=b2 k hk;have h2:=Ob (mv:=Dw y) (al:=Dj (Ac y)) (to:=to.toNat) (i:=TT (Dw y) out y.stances.length a0 k) (by rw[<- es];omega);exact a8 _ h2.1
  have e8:d<=6:=by
   have:=ahI a8 (mv:=Dw y) (to:=to.toNat) (a:=a0) (by rw[<- es,hd];omega);rw[<- es,hd]at this;omega
  obtain⟨at_,a1⟩:∃at_,at_=TT (Dw y) out y.stances.length a0:=⟨_,rfl⟩;rw[<- a1]at b2 b7;have c6:∀k,Fg y out a0 (k+1)=Fg y out a0 k++[((at_ (k+1):Nat):Int)]:=fun k=>by rw[a1];exact abj y out a0 k
  have w0:Fg y out a0 0=[(a0:Int)]:=rfl;have wl:=aeW y out a0;have c7:(out a0).toNat=d:=by omega
  rw[c7];simp only[go_sem,k1,c1,c2,k2,k3,ll,O,b6,f1,f2,c3];generalize hL:dI _ _=z;obtain⟨x,rfl,T,σ,nx',rfl,E,c8,c9⟩:=jQ hL (fun m st=>∃k,k+m=d/\st.T 3= .rp nx 0/\st.T 8=LI (Di y.stances.length out)/\st.T 10=I (at_ k)/\nx+1<st.nx/\(∃wr,st.σ nx=some ⟨cYard y,0,wr⟩)/\Grow st.T st.σ st.nx 9 (Fg y out a0 k)/\∀b o l,st.T 9= .rs b o l->nx+1<=b)
   (fun x=>∃T σ nx',x=(.exit 0,⟨T,σ,nx'⟩)/\nx+1<nx'/\Grow T σ nx' 9 (Fg y out a0 d)/\∀b o l,T 9= .rs b o l->nx+1<=b) (by
    clear hL;rintro m ⟨T,σ,BX⟩ ⟨k,hk,t3,t8,t10,E,⟨wr,G⟩,J,S⟩;simp only at t3 t8 t10 E G J S;have ha:=b7 k (by omega);have ho:=b2 k (by omega);have a6:=la ha;have g1:(at_ k:Int)<(y.stances.length:Int):=by omega
    have g2:(0:Int)<=(at_ k:Int):=by omega
    by_cases hm:m=0
    .subst hm
     have e0:k=d:=by omega
     have g3:¬0<out (at_ k):=by omega
     refine .inr ⟨_,by simp only[go_sem,t8,t10,ll,O,a6,g1,g2,ha,g3];rfl,by simp,_,_,_,rfl,E,?_,by simpa only[go_sem]using S⟩;rw[<- e0];exact kP (by simp only[go_sem]) J
    .have g3:0<out (at_ k):=by omega
     have k4:=ah9 y hG (at_ k:Int);rw[QO]at k4;have e9:=XP y (at_ k);have b3:=JO G (LI (Af (nexts y (at_ k))));obtain⟨Qq,b8⟩:∃Qq,Qq=behind σ [nx] (LI (Af (nexts y (at_ k)))):=⟨_,rfl⟩;rw[<- b8]at b3;have e1:∃wr,Qq nx=some ⟨cYard y,0,wr⟩:=⟨_,by rw[b3,Zk]⟩;have e2:Grow T Qq BX 9 (Fg y out a0 k):=abh J fun b o l h=>by rw[b3,Zl _ _ (by have:=S b o l h;omega)]
     have w4:=ZT (n:=out (at_ k) - 1);have b9:at_ (k+1)=Jc (Dw y) out y.stances.length (at_ k):=by rw[a1];rfl
     refine bC ?_
     conv=>
      enter [1,r,1,1]
      simp only[go_sem,t3,t8,t10,G,ll,O,a6,g1,g2,ha,g3,k4,Zy,<- b8]
     generalize hL:dI _ _=w;obtain⟨r,rfl,T',σ',Au,rfl,t3,t8,t10,E,⟨e3,G⟩,J,S⟩:=oZ hL (nexts y (at_ k)).length (fun j st=>st.T 3= .rp nx 0/\st.T 8=LI (Di y.stances.length out)/\st.T 10=I (at_ k)/\st.T 44=LI (Af (nexts y (at_ k)))/\st.T 45=I (nexts y (at_ k)).length/\st.T 46=I j/\nx+1<st.nx/\(∃wr,st.σ nx=some ⟨cYard y,0,wr⟩)/\Grow st.T st.σ st.nx 9 (Fg y out a0 k)/\(∀b o l,st.T 9= .rs b o l->nx+1<=b)/\∀i (hi:i<(nexts y (at_ k)).length),i<j->(out (nexts y (at_ k))[i]==out (at_ k) - 1)=false)
      (fun r=>∃T σ Au,r=(.exit 2,⟨T,σ,Au⟩)/\T 3= .rp nx 0/\T 8=LI (Di y.stances.length out)/\T 10=I (at_ (k+1))/\nx+1<Au/\(∃wr,σ nx=some ⟨cYard y,0,wr⟩)/\Grow T σ Au 9 (Fg y out a0 k)/\∀b o l,T 9= .rs b o l->nx+1<=b) (by
       clear hL;rintro j ⟨T,σ,BX⟩ hj ⟨t3,t8,t10,t44,t45,t46,E,G,J,S,a7⟩;simp only at t3 t8 t10 t44 t45 t46 E G J S;have f1:(j:Int)<((nexts y (at_ k)).length:Int):=by omega
       have f2:=jD j;have f3:=ZT (n:=(j:Int)+1);have f4:=QS (nexts y (at_ k)) hj;have f5:=Zy (nexts y (at_ k));have f6:(Af (nexts y (at_ k))).flatMap cI≠[]:=fun e=>by
        have h:=qL (Af (nexts y (at_ k)));rw[e,f5]at h;have h:0=(nexts y (at_ k)).length:=h;omega
       have hc:=XO hj;have b4:=la hc;obtain⟨c,ec⟩:∃c,c=(nexts y (at_ k))[j]:=⟨_,rfl⟩;rw[<- ec]at f4 hc b4;have i1:(c:Int)<(y.stances.length:Int):=by omega
       have i2:=jD c;cases hq:(out c==out (at_ k) - 1)with
       |true=>
        have hn:=apf hj a7 (by rw[<- ec];exact hq);refine .inr ⟨_,by simp only[go_sem,t3,t8,t10,t44,t45,t46,ll,O,a6,b4,g1,g2,ha,f1,f2,f3,f4,f5,f6,hj,hc,i1,i2,w4,hq];rfl,by simp,_,_,_,rfl,?_⟩;simp only[go_sem,t3,t8];rw[b9,hn,<- ec];exact⟨rfl,E,G,kP (by simp only[go_sem]) J,S⟩
       |false=>
        refine .inl ⟨_,by simp only[go_sem,t3,t8,t10,t44,t45,t46,ll,O,a6,b4,g1,g2,ha,f1,f2,f3,f4,f5,f6,hj,hc,i1,i2,w4,hq];rfl,?_⟩;simp only[go_sem,t3,t8,t10,t44,t45];refine⟨rfl,E,G,kP (by simp only[go_sem]) J,S,fun i hi h3=>?_⟩
        by_cases e:i=j
        .subst e;rw[<- ec];exact hq
        .exact a7 i hi (by omega)) (by
       clear hL;rintro ⟨T,σ,BX⟩ ⟨t3,t8,t10,t44,t45,t46,E,G,J,S,a7⟩;exfalso;obtain⟨j,hj,hq⟩:=abg (y:=y) (al:=Ac y) (dJ y) (to:=to.toNat) (a:=at_ k) (by rw[<- es];exact g3);rw[<- es,a7 j hj hj]at hq;cases hq) (by
       simp only[go_sem,t3,t8,t10];exact⟨E,e1,kP (by simp only[go_sem]) e2,S,fun i hi h0=>absurd h0 (zX _)⟩)
     obtain⟨CP,c0,e4,e5⟩:=SL J (at_ (k+1):Int) (by rw[wl];omega);rw[wl]at c0;refine⟨_,by simp only[go_sem,t10,c0];rfl,.inl ⟨_,rfl,m-1,by omega,k+1,by omega,?_⟩⟩;simp only[go_sem,t3,t8,t10];refine⟨by omega,?_,?_,fun b o l hb=>?_⟩
     .exact⟨e3,by rw[e5 nx (by omega) (fun b o l hb=>by have:=S b o l hb;omega)];exact G⟩
     .rw[c6]
      exact kN e4 (by simp only[go_sem,zo,wl]) (by simp)
     .cases hb;omega) d (by
    simp only[go_sem];refine⟨0,by omega,by rw[a1];rfl,by omega,⟨_,by rw[Zm,Zk]⟩,.inr ⟨nx+1,?_,by rw[w0];simp,?_,by omega⟩,fun b o l hb=>by cases hb;omega⟩
    .simp only[go_sem]
     rfl
    .rw[Zk];rfl)
  obtain⟨ids,e6,e7⟩:=WA c8 c9;simp only[go_sem];exact⟨_,_,_,ids,rfl,by omega,e6,fun b hb=>by have:=e7 b hb;omega⟩
theorem QT(y:Yard)(fr to:Int):(Dh y fr to).length<=1000000:=by
 unfold Dh
 split
 .rename_i h
  unfold BI at h;simp only[zA,decide_eq_true_eq]at h;obtain⟨G,⟨J,O⟩,E⟩:=h;obtain⟨_,es⟩:=Ud E;have:=ahI (mv:=Dw y) (al:=Dj (Ac y)) (n:=y.stances.length) (to:=to.toNat) (a:=fr.toNat) (fun i hi=>by have:=rE hi;rw[dJ]at this;exact this) (by rw[<- es];exact E);rw[Zy,ahJ,es];have:=(iw G).1;omega
 .exact vV _
theorem ayq(xs:List Int)(m:Int)(h:xs.length<=1000000):fn ZL conv ext 10 [LI xs,I m]=some (Bo (decide (m∈xs))):=by
 rw[m_,mg [.tmp 4] [] func10];simp only[go_sem];generalize J:dI _ _=y;obtain⟨x,rfl,S⟩:=oZ J xs.length (fun k st=>st.T 1=I m/\st.T 7=LI xs/\st.T 8=I xs.length/\st.T 9=I k/\∀i (h:i<xs.length),i<k->xs[i]≠m)
  (fun x=>∃T σ nx,(x=(.exit 0,⟨T,σ,nx⟩)/\m∉xs)\/(x=(.ret,⟨T,σ,nx⟩)/\T 4=Bo true/\m∈xs)) (by
   clear J;rintro k ⟨T,σ,nx⟩ G ⟨t1,t7,t8,t9,E⟩;simp only at t1 t7 t8 t9;have f1:(k:Int)<(xs.length:Int):=by omega
   have f2:=jD k;have f3:=ZT (n:=(k:Int)+1);have f4:=idx (xs:=xs) (k:=k) G;have f5:=AU xs k G
   by_cases e:xs[k]=m
   .have O:(xs[k]==m)=true:=by simpa using e
    refine .inr ⟨_,by simp only[go_sem,t1,t7,t8,t9,f1,f2,f4,f5,G,O];rfl,by simp,_,_,_,.inr ⟨rfl,by simp only[go_sem],?_⟩⟩;rw[<- e];exact zu G
   .have O:(xs[k]==m)=false:=by simpa using e
    refine .inl ⟨_,by simp only[go_sem,t1,t7,t8,t9,f1,f2,f3,f4,f5,G,O];rfl,?_⟩;simp only[go_sem,t1,t7,t8];refine⟨rfl,fun i hi Y=>?_⟩
    by_cases h':i=k
    .subst h';exact e
    .exact E i hi (by omega)) (by
   clear J;rintro ⟨T,σ,nx⟩ ⟨t1,t7,t8,t9,E⟩;simp only at t1 t7 t8 t9;refine⟨_,by simp only[go_sem,t8,t9,zk];rfl,by simp,_,_,_,.inl ⟨rfl,fun hm=>?_⟩⟩;obtain⟨i,hi,e⟩:=yZ hm;exact E i hi hi e) (by
   simp only[go_sem];exact fun i _ h=>absurd h (zX _))
 obtain⟨T,σ,nx,⟨rfl,hm⟩|⟨rfl,t4,hm⟩⟩:=S
 .rw[sD hm]
  simp only[go_sem]
 .rw[sF hm]
  simp only[go_sem,t4]
theorem acJ(p:Nat->Bool)(n:Nat)(a:Nat):(a:Int)∈EY p n↔a<n/\p a=true:=by
 unfold EY;rw[List.mem_map];constructor
 .rintro ⟨i,hi,e⟩
  rw[List.mem_filter,List.mem_range]at hi;have:i=a:=by omega
  subst this;exact hi
 .intro h
  exact⟨a,by rw[List.mem_filter,List.mem_range];exact h,rfl⟩
noncomputable def blk(y:Yard)(fr to:Int)(i:Nat):Bool:=!((i:Int)==fr) && (!((i:Int)==to) && (Dj (Ac y) i && decide (Pv y ((Ac y).set i false) to fr.toNat<0)))
end Go.Proofs.YtkpdoehbhmipcaaGreat
namespace Go.Proofs.YtkpdoehbhmipcaaGreat
open Go Go.TV Go.Lp
theorem as7(neg:Bool)(m n:Nat)(hm:ln m<=24)(h0:n≠0)(hn:ln n<=24) :
  fn ZL conv ext 275 [Bo neg,LI (dg m),LI (dg n)]=some (.agg [Bo (neg && decide (0<(dg (m / Nat.gcd m n)).length)),LI (dg (m / Nat.gcd m n)),LI (dg (n / Nat.gcd m n))]):=by
 have J:Nat.gcd m n≠0:=fun e=>h0 (tK e)
 have O:Nat.gcd m n<=n:=Nat.gcd_le_right _ (by omega);have a1:n / Nat.gcd m n≠0:=by
  have:=Nat.div_pos O (by omega);omega
 have hg:=jY O;have k1:=b_ (dg m) (dA (by omega));have k2:=b_ (dg n) (dA (by omega));rw[Zu]at k1 k2;have S:=Qc n (by omega);have k4:=ahV m n (by omega) (by omega);have Y:=Qc (Nat.gcd m n) (by omega);have k6:=Xv m (Nat.gcd m n) J (by omega) (by omega);have k7:=Xv n (Nat.gcd m n) J (by omega) (by omega);have lx:=ag8 m (Nat.gcd m n);have ly:=ag8 n (Nat.gcd m n);have G:=agt neg (dg (m / Nat.gcd m n)) (dA (by omega)) (by rw[Zu];show ln _<=60;omega);rw[Zu]at G;have l0:(((dg n).length:Int)==0)=false:=by rw[sG];have:=qy (oO h0);omega
 have c1:¬(24:Int)<((dg (m / Nat.gcd m n)).length:Int):=by unfold ln at lx hm;omega
 have c2:¬(24:Int)<((dg (n / Nat.gcd m n)).length:Int):=by unfold ln at ly hn;omega
 have z1:¬(dg (n / Nat.gcd m n)).length=0:=qy (oO a1);have s1:(dg (n / Nat.gcd m n)).length<=maxLen/\(dg (n / Nat.gcd m n)).length*8<=140737488355328:=by unfold maxLen;unfold ln at ly hn;omega
 rw[m_,mg [.cell 6 161] [] func275]
 by_cases h1:n=1
 .have E:Nat.gcd m n=1:=by rw[h1,Nat.gcd_one_right]
  simp only[E,wV]at c1 c2 G z1 s1⊢;rw[sF h1]at S;simp only[go_sem,k1,k2,S,G,l0,c1,c2,z1,s1]
 .rw[sD h1]at S
  by_cases E:Nat.gcd m n=1
  .rw[sF E]at Y
   rw[E]at k4 Y;simp only[E,wV]at c1 c2 G z1 s1⊢;simp only[go_sem,k1,k2,S,k4,Y,G,l0,c1,c2,z1,s1]
  .rw[sD E]at Y
   simp only[go_sem,k1,k2,S,k4,Y,k6,k7,G,l0,c1,c2,z1,s1]
theorem Ue(z:Int)(d:Nat)(O:ln z.natAbs<=24)(J:d≠0)(S:ln d<=24)(b:Bool)(n:Nat)(hb:AL b n=z):fn ZL conv ext 275 [Bo b,LI (dg n),LI (dg d)]=some (.agg (cQ (mkRat z d))):=by
 have hn:n=z.natAbs:=by rw[<- hb];unfold AL;split<;>omega
 subst hn;rw[as7 b z.natAbs d O J S,agA z J];unfold aeb
 by_cases E:z.natAbs=0
 .rw[E,Nat.zero_div,oJ];simp
 .have:b=decide (z<0):=by
   have G:=hb;unfold AL at G;cases b with
   |true=>rw[sH rfl]at G;rw[sF (by omega)]
   |false=>rw[sJ (by decide)]at G;rw[sD (by omega)]
  rw[this]
theorem JQ(q:Rat)(h:Ln 24 q):fn ZL conv ext 177 [.agg (cQ q)]=some (Bo true):=by
 have l1:(dg q.num.natAbs).length<=24:=h.1;have l2:(dg q.den).length<=24:=h.2;have E:=P8 (decide (q.num<0)) (dg q.num.natAbs) (by unfold Short;omega);have S:(!decide (q.num<0)||decide (0<(dg q.num.natAbs).length))=true:=by
  by_cases hn:q.num<0
  .rw[sF (List.length_pos_iff.mpr (oO (by omega))),Bool.or_true]
  .rw[sD hn];rfl
 rw[iD (jE (by have:=h.1;omega)),S]at E;have G:=Sr (dg q.den) (by unfold Short;omega);rw[iD (jE (by have:=h.2;omega))]at G;have J:=ahV q.num.natAbs q.den (by have:=h.1;omega) (by have:=h.2;omega);rw[q.reduced]at J;have O:=arM (dg 1) (Wn (by decide));rw[sF ((P_ 1).mpr rfl)]at O;have Y:(((dg q.den).length:Int)==0)=false:=by rw[sG];have:=qy (oO q.den_nz);omega
 have c1:¬(24:Int)<((dg q.num.natAbs).length:Int):=by omega
 have c2:¬(24:Int)<((dg q.den).length:Int):=by omega
 unfold cQ;rw[m_,mg [.tmp 2] [] func177];simp only[go_sem,xC]at E;simp only[go_sem,E,G,J,O,Y,c1,c2]
theorem alG(q:Rat)(d:Nat)(hb:ln (q.num*d).natAbs<=60):fn ZL conv ext 196 [Bo (decide (q.num<0)),LI (dg (q.num.natAbs*d))]=some (.agg (cZ (q.num*d))):=by
 have e:AL (decide (q.num<0)) (q.num.natAbs*d)=q.num*d:=by
  have h:=dB q.num
  conv=>rhs;rw[<- h]
  unfold AL
  by_cases E:q.num<0
  .rw[sF E,sH rfl,sH rfl,yh,Int.neg_mul]
  .rw[sD E,sJ (by decide),sJ (by decide),yh]
 rw[uP,wU]at hb;rw[Na _ _ hb,e]
theorem Ln.up{k:Nat}{q:Rat}(h:Ln k q)(E:k<=24):ln q.num.natAbs<=1000000/\ln q.den<=1000000:=⟨by have:=h.1;omega,by have:=h.2;omega⟩
theorem acK{a b:Nat}(x y:Rat)(E:Ln a x)(G:Ln b y)(a6:a+b<=23):fn ZL conv ext 231 [.agg (cQ x),.agg (cQ y)]=some (.agg (cQ (x+y))):=by
 have n1:=jV E G;have n2:=jV G E;have a7:=NJ E G;have J:=E.up (by omega);have O:=G.up (by omega);have o1:=Qc x.den J.2;have S:=Qc y.den O.2;have k1:=dN x.num.natAbs y.den J.1 O.2;have k2:=dN y.num.natAbs x.den O.1 J.2;have k3:=dN x.den y.den J.2 O.2;have k4:=alG x y.den (by omega);have k5:=alG y x.den (by omega);have n3:=II (x.num*y.den) (y.num*x.den);have k6:=Wv (x.num*y.den) (y.num*x.den) (by omega) (by omega) (by omega);have k7:=Ue (x.num*y.den+y.num*x.den) (x.den*y.den) (by omega) (dd0 x y) (by omega) (decide (x.num*y.den+y.num*x.den<0)) (x.num*y.den+y.num*x.den).natAbs (dB _);rw[<- Rat.add_def']at k7;rw[m_,mg [.cell 4 161] [] func231]
 by_cases Y:x.den=1
 .by_cases h2:y.den=1
  .have n4:=II x.num y.num
   have a8:=E.1;have b2:=G.1;have m1:=Wv x.num y.num J.1 O.1 (by omega);have m2:=Ue (x.num+y.num) 1 (by omega) (by decide) (by have:=jT (n:=1) (by decide);omega) (decide (x.num+y.num<0)) (x.num+y.num).natAbs (dB _);have e:mkRat (x.num+y.num) 1=x+y:=by rw[Rat.add_def',Y,h2];simp
   rw[e,oN (d:=1) (by decide) (by decide)]at m2;have a1:fn ZL conv ext 275 [Bo (decide (x.num+y.num<0)),LI (dg (x.num+y.num).natAbs),.ts [I 1] 1]=some (.agg (cQ (x+y))):=m2
   rw[sF Y]at o1;rw[sF h2]at S;unfold cZ at *;unfold cQ at *;simp only[go_sem,o1,S,m1,a1]
  .rw[sF Y]at o1
   rw[sD h2]at S;unfold cZ at *;unfold cQ at *;simp only[go_sem,o1,S,k1,k2,k3,k4,k5,k6,k7]
 .rw[sD Y]at o1
  unfold cZ at *;unfold cQ at *;simp only[go_sem,o1,k1,k2,k3,k4,k5,k6,k7]
theorem amD{x y:Rat}{k l:Nat}(h:Ln k x)(E:Ln l y):ln (x.num.natAbs*y.num.natAbs)<=k+l:=by
 have:=jX x.num.natAbs y.num.natAbs;have:=h.1;have:=E.1;omega
theorem Uf(b:Bool)(n:Nat):(AL b n).natAbs=n:=by unfold AL;split<;>omega
theorem as8{a b:Nat}(x y:Rat)(E:Ln a x)(G:Ln b y)(Y:a+b<=24):fn ZL conv ext 273 [.agg (cQ x),.agg (cQ y)]=some (.agg (cQ (x*y))):=by
 have J:=E.up (by omega);have O:=G.up (by omega);have n1:=amD E G;have n2:=NJ E G;have k1:=dN x.num.natAbs y.num.natAbs J.1 O.1;have k2:=dN x.den y.den J.2 O.2;have S:=Ue (AL (decide (x.num<0) !=decide (y.num<0)) (x.num.natAbs*y.num.natAbs)) (x.den*y.den) (by rw[Uf];omega) (dd0 x y) (by omega) _ _ rfl;rw[<- acn]at S;have e:∀a b:Bool,(!a==b)=(a !=b):=by decide
 unfold cQ at *;rw[m_,mg [.cell 4 161] [] func273];simp only[go_sem,k1,k2,S,e]
theorem amE{a b:Nat}(x y:Rat)(E:Ln a x)(G:Ln b y)(Y:a+b<=24)(h0:y.num≠0):fn ZL conv ext 279 [.agg (cQ x),.agg (cQ y)]=some (.agg (cQ (x / y))):=by
 have J:=E.up (by omega);have O:=G.up (by omega);have o1:=JQ x (E.mono (by omega));have o2:=JQ y (G.mono (by omega));have n1:=jX x.num.natAbs y.den;have n2:=jX x.den y.num.natAbs;have:=E.1;have:=E.2;have:=G.1;have:=G.2;have k1:=dN x.num.natAbs y.den J.1 O.2;have k2:=dN x.den y.num.natAbs J.2 O.1;have S:=Ue (AL (decide (x.num<0) !=decide (y.num<0)) (x.num.natAbs*y.den)) (x.den*y.num.natAbs) (by rw[Uf];omega) (Nat.mul_ne_zero x.den_nz (by omega)) (by omega) _ _ rfl;rw[<- agB x y h0]at S;have e:∀a b:Bool,(!a==b)=(a !=b):=by decide
 unfold cQ at *;rw[m_,mg [.cell 4 161] [] func279];simp only[go_sem,o1,o2,k1,k2,S,e]
theorem ah'(x y:Int)(O:ln x.natAbs<=1000000)(S:ln y.natAbs<=1000000):fn ZL conv ext 195 [.agg (cZ x),.agg (cZ y)]=some (I (Am x y)):=by
 have Y:=Ws x.natAbs y.natAbs O S;have k2:=Ws y.natAbs x.natAbs S O;rw[m_,mg [.tmp 4] [] func195];unfold cZ at *
 by_cases G:x<0<;>by_cases J:y<0
 .have e:AY y.natAbs x.natAbs=Am x y:=by
   unfold AY Am
   by_cases h:x<y
   .rw[sH (show y.natAbs<x.natAbs by omega),sH h]
   .rw[sJ (show ¬y.natAbs<x.natAbs by omega),sJ h]
    by_cases E:x=y
    .rw[sH (by omega),sH E]
    .rw[sJ (by omega),sJ E]
  rw[e]at k2;rw[sF G,sF J];simp only[go_sem,k2]
 .have e:Am x y= -1:=by unfold Am;rw[sH (by omega)]
  rw[sF G,sD J,e];simp only[go_sem]
 .have e:Am x y=1:=by unfold Am;rw[sJ (by omega),sJ (by omega)]
  rw[sD G,sF J,e];simp only[go_sem]
 .have e:AY x.natAbs y.natAbs=Am x y:=by
   unfold AY Am
   by_cases h:x<y
   .rw[sH (show x.natAbs<y.natAbs by omega),sH h]
   .rw[sJ (show ¬x.natAbs<y.natAbs by omega),sJ h]
    by_cases E:x=y
    .rw[sH (by omega),sH E]
    .rw[sJ (by omega),sJ E]
  rw[e]at Y;rw[sD G,sD J];simp only[go_sem,Y]
theorem amF{a b:Nat}(x y:Rat)(E:Ln a x)(G:Ln b y)(S:a+b<=60)(ha:a<=24)(hb:b<=24):fn ZL conv ext 132 [.agg (cQ x),.agg (cQ y)]=some (I (Am (x.num*y.den) (y.num*x.den))):=by
 have J:=E.up ha;have O:=G.up hb;have n1:=jV E G;have n2:=jV G E;have Y:=dN x.num.natAbs y.den J.1 O.2;have k2:=dN y.num.natAbs x.den O.1 J.2;have k3:=alG x y.den (by omega);have k4:=alG y x.den (by omega);have k5:=ah' (x.num*y.den) (y.num*x.den) (by omega) (by omega);unfold cZ at *;unfold cQ at *;rw[m_,mg [.tmp 4] [] func132];simp only[go_sem,Y,k2,k3,k4,k5]
theorem dL(x:Rat)(S:Ln 24 x):fn ZL conv ext 117 [.agg (cQ x)]=some (I (Am x.num 0)):=by
 have J:=JQ x S;have main:∀m:List Int,fn ZL conv ext 177 [.agg [Bo (decide (x.num<0)),LI m,LI (dg x.den)]]=some (Bo true)->m=[]->fn ZL conv ext 117 [.agg [Bo (decide (x.num<0)),LI m,LI (dg x.den)]]=some (I 0):=fun m k hm=>by
  have E:((m.length:Int)==0)=true:=by rw[hm];rfl
  rw[m_,mg [.tmp 2] [] func117];simp only[go_sem,k,E]
 unfold cQ at *
 by_cases O:x.num=0
 .have e:Am x.num 0=0:=by rw[O];rfl
  rw[e];exact main _ J (by rw[O,Int.natAbs_zero,oJ])
 rw[m_,mg [.tmp 2] [] func117]
 .have E:(((dg x.num.natAbs).length:Int)==0)=false:=by rw[sG];have:=qy (oO (n:=x.num.natAbs) (by omega));omega
  by_cases G:x.num<0
  .have e:Am x.num 0= -1:=by unfold Am;rw[sH G]
   rw[sF G]at *;simp only[go_sem,J,E,e]
  .have e:Am x.num 0=1:=by unfold Am;rw[sJ G,sJ (by omega)]
   rw[sD G]at *;simp only[go_sem,J,E,e]
theorem aph(x:Rat)(E:Ln 24 x):fn ZL conv ext 188 [.agg (cQ x)]=some (.agg (cQ x)):=by
 have l1:(dg x.num.natAbs).length<=24:=E.1;have l2:(dg x.den).length<=24:=E.2;have G:¬(dg x.den).length=0:=qy (oO x.den_nz);have J:(dg x.den).length<=maxLen/\(dg x.den).length*8<=140737488355328:=by unfold maxLen;omega
 have S:(dg x.num.natAbs).length<=maxLen/\(dg x.num.natAbs).length*8<=140737488355328:=by unfold maxLen;omega
 unfold cQ;rw[m_,mg [.cell 2 161] [1] func188]
 by_cases O:(dg x.num.natAbs).length=0
 .have Y:dg x.num.natAbs=[]:=zZ O
  rw[Y]
  (simp only[go_sem,G,J])<;>rfl
 .simp only[go_sem,G,J,O,S]
def DV{α:Type}(W L:List α)(c:Nat):List α:=W.take c++L.drop c
section
variable {α:Type} {W L:List α} {c:Nat}
theorem JR(W L:List α):DV W L 0=L:=by simp[DV]
theorem jF(h:W.length=L.length)(hc:c<=L.length):(DV W L c).length=L.length:=by unfold DV;simp;omega
theorem IY(h:W.length=L.length)(hc:c<L.length):(DV W L c)[c]'(by rw[jF h (by omega)];exact hc)=L[c]:=by
 have:(DV W L c)[c]?=L[c]?:=by
  unfold DV;rw[zN (by simp;omega),xQ];congr 1;simp;omega
 rw[zy (by rw[jF h (by omega)];exact hc),zy hc]at this;exact Option.some.inj this
theorem IZ(h:W.length=L.length)(hc:c<L.length):(DV W L c).set c (W[c]'(by omega))=DV W L (c+1):=by
 unfold DV;have E:(W.take c).length=c:=by simp;omega
 rw[xH _ _ (by omega),E,yP,yN hc,uf,yM,zy (by omega),yj];rfl
theorem JU(h:W.length=L.length):DV W L L.length=W:=by
 unfold DV;rw[zl (by omega),xw (zq _),zC]
theorem QU(h:W.length=L.length)(hc:c<L.length)(e:W[c]'(by omega)=L[c]):DV W L c=DV W L (c+1):=by
 rw[<- IZ h hc,e];have:=IY h hc
 conv=>rhs;rw[<- this]
 rw[List.set_getElem_self]
end
theorem j_{q:Rat}:q.num=0↔q=0:=Rat.num_eq_zero
theorem abk(q:Rat):(Am q.num 0 !=0)= !decide (q=0):=by rw[Ti,decide_eq_decide.mpr j_]
theorem aia(q:Rat):(Am q.num 0==0)=decide (q=0):=by rw[NM,decide_eq_decide.mpr j_]
theorem alH{q:Rat}:0<q.num↔0<q:=by
 have E:=Rat.num_nonneg (q:=q);have G:=j_ (q:=q);constructor
 .intro h
  have:0<=q:=E.mp (by omega);have:q≠0:=fun e=>by have:=G.mpr e;omega
  grind
 .intro h
  have g1:0<=q.num:=E.mpr (by grind);have g2:q.num≠0:=fun e=>by have:=G.mp e;grind
  omega
theorem Ug(q:Rat):Am q.num 0<=0↔¬0<q:=by rw[pG,alH]
theorem aib{x t:List Rat}{f:Rat}{i:Nat}(h:i<x.length)(E:i<t.length):(KQ x t f)[i]'(by unfold KQ;rw[tH];omega)=x[i] - f*t[i]:=by simp only[KQ,List.getElem_zipWith]
theorem lF{α:Type}{xs:List α}{k:Nat}(h:k<xs.length)(d:α):xs.getD k d=xs[k]:=by rw[zx,zy h];rfl
theorem apj{σ:Store}{nx bi bR N k:Nat}{x t:List Rat}(hx:x.length=N+1)(ht:t.length=N+1)(hN:N<=1000)(hk:k<N+1)(bx:∀u∈x,Ln 6 u)(bt:∀v∈t,Ln 6 v)(h1:σ bi=some ⟨x.flatMap cQ,3,true⟩)(h2:σ bR=some ⟨t.flatMap cQ,3,true⟩)(a1:bi≠bR)(b2:bi<nx)(b3:bR<nx) :
  ∃σ' nx',ev ZL pI Ad 244 [.rs bi 0 (N+1),.rs bR 0 (N+1),I k] σ nx=some (.AB [],σ',nx')/\σ' bi=some ⟨(KQ x t (x.getD k 0)).flatMap cQ,3,true⟩/\nx<=nx'/\∀b,b<nx->b≠bi->σ' b=σ b:=by
 obtain⟨f,ef⟩:∃f,f=x.getD k 0:=⟨_,rfl⟩;have S:x[k]'(by omega)=f:=by rw[ef,lF (by omega)]
 have bf:Ln 6 f:=by rw[<- S];exact bx _ (zu (by omega))
 have a3:=jD k;have a4:(k:Int)<((N+1:Nat):Int):=by omega
 have a6:=d_ (c:=cQ) (s:=3) qG x k (by omega);rw[S]at a6;have a7:=bZ (c:=cQ) (s:=3) qG x;rw[hx]at a7;have a8:k*3+3<=(N+1)*3:=by omega
 have k1:=dL f (bf.mono (by decide));rw[<- ef];rw[mg [] [7] func244]
 by_cases G:f=0
 .have Y:=aia f
  rw[sF G]at Y;refine⟨upd σ nx (some ⟨cQ f,0,true⟩),nx+1,by simp only[go_sem,h1,a3,a4,a6,a7,a8,k1,Y,Zj],?_,by omega,fun b hb _=>by rw[Zm]⟩;rw[Zm,h1];congr 3;subst G;apply yS
  .rw[pK (by omega)]
  .intro i g1 g2
   rw[aib g1 (by omega)];grind
 .have Y:=aia f
  rw[sD G]at Y;obtain⟨W,eW⟩:∃W,W=KQ x t f:=⟨_,rfl⟩;have b5:W.length=N+1:=by rw[eW,pK (by omega),hx]
  have E:W.length=x.length:=by omega
  have k2:=agC f (by have:=bf.1;omega) (by have:=bf.2;omega);rw[<- eW];obtain⟨s0,J⟩:∃s0,s0=upd (upd σ nx (some ⟨cQ f,0,true⟩)) (nx+1) (some ⟨cQ (-f),0,true⟩):=⟨_,rfl⟩;have Yo:∀b,b<nx->s0 b=σ b:=fun b hb=>by rw[J,Zm,Zm]
  have b4:s0 (nx+1)=some ⟨cQ (-f),0,true⟩:=by rw[J,Zk]
  simp only[go_sem,h1,a3,a4,a6,a7,a8,k1,Y,k2,Zj,<- J];generalize hL:dI _ _=y;obtain⟨r,rfl,T',σ',nx',rfl,hn,hr,fr⟩:=oZ hL (N+1) (fun j st=>st.T 0= .rs bi 0 (N+1)/\st.T 1= .rs bR 0 (N+1)/\st.T 7= .rp (nx+1) 0/\st.T 19=I ((N+1:Nat):Int)/\st.T 20=I j/\nx+2<=st.nx/\st.σ bi=some ⟨(DV W x j).flatMap cQ,3,true⟩/\∀b,b<nx+2->b≠bi->st.σ b=s0 b)
   (fun r=>∃T σ' nx',r=(.exit 0,⟨T,σ',nx'⟩)/\nx+2<=nx'/\σ' bi=some ⟨W.flatMap cQ,3,true⟩/\∀b,b<nx+2->b≠bi->σ' b=s0 b) (by
    clear hL;rintro j ⟨T,O,m0⟩ hj ⟨t0,t1,t7,t19,t20,hm,hb,fr⟩;simp only at t0 t1 t7 t19 t20 hm hb;have g1:(j:Int)<((N+1:Nat):Int):=by omega
    have g2:=jD j;have g3:=ZT (n:=(j:Int)+1);have g4:=d_ (c:=cQ) (s:=3) qG (DV W x j) j (by rw[jF E (by omega)];omega);rw[IY E (by omega)]at g4;have g5:=bZ (c:=cQ) (s:=3) qG (DV W x j);rw[jF E (by omega),hx]at g5;have g6:j*3+3<=(N+1)*3:=by omega
    have g7:=d_ (c:=cQ) (s:=3) qG t j (by omega);have g8:=bZ (c:=cQ) (s:=3) qG t;rw[ht]at g8;obtain⟨v,ev⟩:∃v,v=t[j]'(by omega):=⟨_,rfl⟩;obtain⟨u,eu⟩:∃u,u=x[j]'(by omega):=⟨_,rfl⟩;have bv:Ln 6 v:=by rw[ev];exact bt _ (zu (by omega))
    have bu:Ln 6 u:=by rw[eu];exact bx _ (zu (by omega))
    have hw:W[j]'(by omega)=u-f*v:=by subst eW;rw[aib (by omega) (by omega),eu,ev]
    rw[<- ev]at g7;rw[<- eu]at g4;have e1:O bR=_:=(fr bR (by omega) (yu a1)).trans ((Yo bR b3).trans h2);have e2:O (nx+1)=_:=(fr (nx+1) (by omega) (by omega)).trans b4;have k3:=dL v (bv.mono (by decide));have l1:bi<m0:=by omega
    have l2:bR<m0:=by omega
    have l3:nx+1<m0:=by omega
    have s3:=abk v
    by_cases hv:v=0
    .rw[sF hv,um]at s3
     refine .inl ⟨_,by simp only[go_sem,t0,t1,t7,t19,t20,hb,e1,g1,g2,g3,g6,g7,g8,k3,s3];rfl,?_⟩;simp only[go_sem,t0,t1,t7,t19];refine⟨rfl,hm,?_,fr⟩;rw[<- QU E (by omega) (by rw[hw,<- eu,hv];grind)];exact hb
    .rw[sD hv,vU]at s3
     have k4:=as8 (-f) v (a:=6) (b:=6) ⟨by rw[Rat.neg_num,vT];exact bf.1,by rw[Rat.neg_den];exact bf.2⟩ bv (by decide);have k5:=acK u (-f*v) (a:=6) (b:=12) bu (aaZ (k:=6) (l:=6) ⟨by rw[Rat.neg_num,vT];exact bf.1,by rw[Rat.neg_den];exact bf.2⟩ bv (by decide)) (by decide);have c6:patch ((DV W x j).flatMap cQ) (j*3) (cQ (u+ -f*v))=(DV W x (j+1)).flatMap cQ:=by
      rw[iF qG _ _ (by rw[jF E (by omega)];omega),show u+ -f*v=W[j]'(by omega) by rw[hw];grind,IZ E (by omega)]
     refine .inl ⟨_,by simp only[go_sem,t0,t1,t7,t19,t20,hb,e1,e2,g1,g2,g3,g4,g5,g6,g7,g8,k3,s3,k4,k5,c6,l1,l2,l3];rfl,?_⟩;simp only[go_sem,t0,t1,t7,t19];refine⟨rfl,hm,fun b hb hn=>?_⟩;rw[Zl _ _ hn];exact fr b hb hn) (by
    clear hL;rintro ⟨T,O,m0⟩ ⟨t0,t1,t7,t19,t20,hm,hb,fr⟩;simp only at t0 t1 t7 t19 t20 hm hb;refine⟨_,by simp only[go_sem,t19,t20,zk];rfl,by simp,_,_,_,rfl,hm,?_,fr⟩;rw[<- hx,JU E]at hb;exact hb) (by
    simp only[go_sem];refine⟨?_,fun _ _ _=>trivial⟩;rw[JR,Yo bi b2];exact h1)
  exact⟨σ',nx',by simp only[go_sem],hr,by omega,fun b hb hn=>(fr b (by omega) hn).trans (Yo b hb)⟩
theorem Uh{σ:Store}{nx bi bR N k:Nat}{x t:List Rat}(Y:x.length=N+1)(ht:t.length=N+1)(hN:N<=1000)(hk:k<N+1)(bx:∀u∈x,Ln 6 u)(bt:∀v∈t,Ln 6 v)(h1:σ bi=some ⟨x.flatMap cQ,3,true⟩)(h2:σ bR=some ⟨t.flatMap cQ,3,true⟩)(G:bi≠bR)(J:bi<nx)(O:bR<nx) :
  ∃S nx' σ',ev ZL pI Ad 244 [.rs bi 0 (N+1),.rs bR 0 (N+1),I k] (restrict σ [bi,bR]) nx=some (.AB [],S,nx')/\Aa [bi,bR] nx nx' σ S=σ'/\σ' bi=some ⟨(KQ x t (x.getD k 0)).flatMap cQ,3,true⟩/\nx<=nx'/\∀b,b<nx->b≠bi->σ' b=σ b:=by
 obtain⟨s2,nx',e,g1,g2,g3⟩:=apj (σ:=restrict σ [bi,bR]) Y ht hN hk bx bt ((fK σ bi bR).trans h1) ((IJ σ bi bR).trans h2) G J O;refine⟨s2,nx',_,e,rfl,?_,g2,fun b hb hn=>?_⟩
 .unfold Aa;rw[sH (.inl (by simp))];exact g1
 .unfold Aa
  split
  .rename_i E
   rw[g3 b hb hn];unfold restrict;rcases E with E|E
   .rw[sH E]
   .omega
  .rfl
def GV(σ:Store)(v:V)(n:Nat)(cs:List V):Prop:=(n=0/\v= .nil)\/∃b,0<n/\v= .rs b 0 n/\σ b=some ⟨cs,1,true⟩
def bk:V->List Nat
 | .rs b _ _=>[b]
 |_=>[]
def Eh(R:List (List Rat))(i:Nat):List Rat:=R.getD i []
structure EW (σ:Store) (bt bc:Nat) (vr vb:V) (rb:List Nat) (D:TQ) (N:Nat):Prop where
 t:σ bt=some ⟨[I N,vr,vb,.rs bc 0 (N+1)],0,true⟩
 r:GV σ vr D.R.length (rb.map fun b=>V.rs b 0 (N+1))
 row:∀i (h:i<rb.length),σ rb[i]=some ⟨(Eh D.R i).flatMap cQ,3,true⟩
 b:GV σ vb D.R.length ((BR D.B).flatMap cI)
 c:σ bc=some ⟨D.c.flatMap cQ,3,true⟩
 len:rb.length=D.R.length
 nd:(bt :: bc :: (bk vr++bk vb++rb)).Nodup
structure ShF (D:TQ) (N:Nat):Prop where
 row:∀x∈D.R,x.length=N+1
 Bc:D.B.length=D.R.length
 Gm:D.c.length=N+1
 Gn:D.R.length<=1000
 sz:N<=1000
 big:∀x∈D.R,∀q∈x,Ln 6 q
 alI:∀q∈D.c,Ln 6 q
 inB:∀b∈D.B,b<1000000
theorem dR{R:List (List Rat)}{i:Nat}(h:i<R.length):Eh R i=R[i]:=lF h []
theorem dP{R:List (List Rat)}{n i:Nat}(hn:∀x∈R,x.length=n)(h:i<R.length):(Eh R i).length=n:=by rw[dR h];exact hn _ (zu h)
theorem acL{R:List (List Rat)}{r k i:Nat}(hi:i<R.length):Eh (DN R r k) i=if i=r then(Eh R i).map (· / BP R r k)else KQ (Eh R i) ((Eh R r).map (· / BP R r k)) ((Eh R i).getD k 0):=by
 unfold Eh DN;simp only[zx,tq];rw[zy hi];rfl
theorem aic{σ:Store}{nx bt bc:Nat}{vr vb:V}{rb:List Nat}{D:TQ}{N r k:Nat}(h:EW σ bt bc vr vb rb D N)(hs:ShF D N)(h2:ShF (Nw D r k) N)(S:∀b∈bt :: bc :: (bk vr++bk vb++rb),b<nx)(hr:r<D.R.length)(hk:k<N)(hp:BP D.R r k≠0) :
  ∃σ' nx',ev ZL pI Ad 243 [.rp bt 0,I r,I k] σ nx=some (.AB [],σ',nx')/\EW σ' bt bc vr vb rb (Nw D r k) N/\nx<=nx'/\∀b,b<nx->b∉bc :: (bk vb++rb)->σ' b=σ b:=by
 obtain⟨ht,h3,c0,h4,hc,hlen,c2⟩:=h;rcases h3 with ⟨h0,_⟩|⟨br,_,rfl,b2⟩
 .omega
 rcases h4 with ⟨h0,_⟩|⟨bb,_,rfl,h5⟩
 .omega
 simp only[bk,yT,yO]at S c2⊢;have hN:=hs.sz;have hR:=hs.Gn;simp only[xW,zV,not_or]at c2;obtain⟨⟨n1,n2,n3,n4⟩,⟨n5,n6,n7⟩,⟨n8,n9⟩,c3,b6⟩:=c2;have Tm:=S bt (by simp);have c9:=S bc (by simp);have Tn:=S br (by simp);have h6:=S bb (by simp);have ER:∀j (E:j<rb.length),rb[j]<nx:=fun j E=>S _ (by simp[zu E])
 have c4:∀j (E:j<rb.length),rb[j]≠bt/\rb[j]≠bc/\rb[j]≠br/\rb[j]≠bb:=fun j E=>⟨fun e=>n4 (e ▸ zu E),fun e=>n7 (e ▸ zu E),fun e=>n9 (e ▸ zu E),fun e=>c3 (e ▸ zu E)⟩
 have O:r<rb.length:=by omega
 obtain⟨bR,Ym⟩:∃bR,bR=rb[r]:=⟨_,rfl⟩;have h7:bR<nx:=by rw[Ym];exact ER r O
 have nR:=c4 r O;rw[<- Ym]at nR;obtain⟨t,et⟩:∃t,t=Eh D.R r:=⟨_,rfl⟩;have e0:σ bR=some ⟨t.flatMap cQ,3,true⟩:=by rw[Ym,et];exact c0 r O
 have b7:t.length=N+1:=by rw[et];exact dP hs.row hr
 have e5:∀v∈t,Ln 6 v:=by rw[et,dR hr];exact hs.big _ (zu hr)
 obtain⟨p,ep⟩:∃p,p=BP D.R r k:=⟨_,rfl⟩;have e6:t[k]'(by omega)=p:=by rw[ep];unfold BP;rw[<- lF (by omega) 0,et];rfl
 have bp:Ln 6 p:=by rw[<- e6];exact e5 _ (zu (by omega))
 have h8:p.num≠0:=fun e=>hp (by rw[<- ep];exact j_.mp e)
 have a1:=jD r;have a2:(r:Int)<(D.R.length:Int):=by omega
 have a3:=jD k;have a4:(k:Int)<((N+1:Nat):Int):=by omega
 have a5:(rb.map fun b=>V.rs b 0 (N+1))[r]?=some (.rs bR 0 (N+1)):=by rw[zF,zy O,Ym];rfl
 have a6:=d_ (c:=cQ) (s:=3) qG t k (by omega);rw[e6]at a6;have a7:=bZ (c:=cQ) (s:=3) qG t;rw[b7]at a7;have a8:k*3+3<=(N+1)*3:=by omega
 obtain⟨s0,c5⟩:∃s0,s0=upd σ nx (some ⟨cQ p,0,true⟩):=⟨_,rfl⟩;have Yo:∀b,b<nx->s0 b=σ b:=fun b hb=>by rw[c5,Zm]
 have h9:s0 nx=some ⟨cQ p,0,true⟩:=by rw[c5,Zk]
 have e7:=(Yo bt Tm).trans ht;have e8:=(Yo br Tn).trans b2;obtain⟨W,eW⟩:∃W,W=t.map (· / p):=⟨_,rfl⟩;have e9:W.length=N+1:=by rw[eW,zS,b7]
 have Y:W.length=t.length:=by omega
 have b8:Eh (DN D.R r k) r=W:=by rw[acL hr,sH rfl,<- et,<- ep,eW]
 have pl:=iC D.R r k;have bW:∀v∈W,Ln 6 v:=by
  rw[<- b8,dR (by omega)];exact h2.big _ (zu (l:=(Nw D r k).R) (by show r<(DN D.R r k).length;omega))
 rw[mg [] [4,10,12] func243];simp only[go_sem,ht,b2,e0,a1,a2,a3,a4,a5,a6,a7,a8,Zj,<- c5,e7,e8];generalize hL:dI _ _=y;obtain⟨x,rfl,T1,G,m1,rfl,t0,t1,t2,i0,i1,i2⟩:=oZ hL (N+1) (fun j st=>st.T 0= .rp bt 0/\st.T 1=I r/\st.T 2=I k/\st.T 6= .rp nx 0/\st.T 26=I ((N+1:Nat):Int)/\st.T 27=I j/\nx+1<=st.nx/\st.σ bR=some ⟨(DV W t j).flatMap cQ,3,true⟩/\∀b,b<nx+1->b≠bR->st.σ b=s0 b)
  (fun x=>∃T σ' nx',x=(.exit 0,⟨T,σ',nx'⟩)/\T 0= .rp bt 0/\T 1=I r/\T 2=I k/\nx+1<=nx'/\σ' bR=some ⟨W.flatMap cQ,3,true⟩/\∀b,b<nx+1->b≠bR->σ' b=s0 b) (by
   clear hL;rintro j ⟨T,G,m0⟩ E ⟨t0,t1,t2,t6,t26,t27,hm,hb,fr⟩;simp only at t0 t1 t2 t6 t26 t27 hm hb;have g1:(j:Int)<((N+1:Nat):Int):=by omega
   have g2:=jD j;have g3:=ZT (n:=(j:Int)+1);have g4:=d_ (c:=cQ) (s:=3) qG (DV W t j) j (by rw[jF Y (by omega)];omega);rw[IY Y (by omega)]at g4;have g5:=bZ (c:=cQ) (s:=3) qG (DV W t j);rw[jF Y (by omega),b7]at g5;have g6:j*3+3<=(N+1)*3:=by omega
   obtain⟨v,ev⟩:∃v,v=t[j]'(by omega):=⟨_,rfl⟩;have bv:Ln 6 v:=by rw[ev];exact e5 _ (zu (by omega))
   rw[<- ev]at g4;have e1:G bt=_:=(fr bt (by omega) (yu nR.1)).trans e7;have e2:G br=_:=(fr br (by omega) (yu nR.2.2.1)).trans e8;have e3:G nx=_:=(fr nx (by omega) (by omega)).trans h9;have l1:bt<m0:=by omega
   have l2:br<m0:=by omega
   have l3:nx<m0:=by omega
   have l4:bR<m0:=by omega
   have k1:=amE v p bv bp (by decide) h8;have c6:patch ((DV W t j).flatMap cQ) (j*3) (cQ (v / p))=(DV W t (j+1)).flatMap cQ:=by
    have hw:v / p=W[j]'(by omega):=by subst eW;rw[xg,ev]
    rw[iF qG _ _ (by rw[jF Y (by omega)];omega),hw,IZ Y (by omega)]
   refine .inl ⟨_,by simp only[go_sem,t0,t1,t2,t6,t26,t27,hb,e1,e2,e3,a1,a2,a5,g1,g2,g3,g4,g5,g6,k1,c6,l1,l2,l3,l4];rfl,?_⟩;simp only[go_sem,t0,t1,t2,t6,t26];refine⟨rfl,hm,fun b hb hn=>?_⟩;rw[Zl _ _ hn];exact fr b hb hn) (by
   clear hL;rintro ⟨T,G,m0⟩ ⟨t0,t1,t2,t6,t26,t27,hm,hb,fr⟩;simp only at t0 t1 t2 t6 t26 t27 hm hb;refine⟨_,by simp only[go_sem,t26,t27,zk];rfl,by simp,_,_,_,rfl,?_⟩;simp only[go_sem,t0,t1,t2];refine⟨hm,?_,fr⟩;rw[<- b7,JU Y]at hb;exact hb) (by
   simp only[go_sem];refine⟨?_,fun _ _ _=>trivial⟩;rw[JR,Yo bR h7];exact e0)
 have b9:∀b,b<nx->b≠bR->G b=σ b:=fun b hb hn=>(i2 b (by omega) hn).trans (Yo b hb)
 have e1:G bt=_:=(b9 bt Tm (yu nR.1)).trans ht;have e2:G br=_:=(b9 br Tn (yu nR.2.2.1)).trans b2;simp only[go_sem,t0,t1,t2,e1];generalize hL:dI _ _=y;obtain⟨x,rfl,T2,σ2,m2,rfl,t0,t1,t2,j0,Ey,FK⟩:=oZ hL D.R.length (fun i st=>st.T 0= .rp bt 0/\st.T 1=I r/\st.T 2=I k/\st.T 56=I D.R.length/\st.T 57=I i/\nx+1<=st.nx/\(∀j (E:j<rb.length),st.σ rb[j]=some ⟨(if j<i\/j=r then Eh (DN D.R r k) j else Eh D.R j).flatMap cQ,3,true⟩)/\∀b,b<nx->b∉rb->st.σ b=σ b)
  (fun x=>∃T σ' nx',x=(.exit 2,⟨T,σ',nx'⟩)/\T 0= .rp bt 0/\T 1=I r/\T 2=I k/\nx+1<=nx'/\(∀j (E:j<rb.length),σ' rb[j]=some ⟨(Eh (DN D.R r k) j).flatMap cQ,3,true⟩)/\∀b,b<nx->b∉rb->σ' b=σ b) (by
   clear hL;rintro i ⟨T,σ2,m0⟩ hi ⟨t0,t1,t2,t56,t57,hm,rows,fr⟩;simp only at t0 t1 t2 t56 t57 hm rows;have g1:(i:Int)<(D.R.length:Int):=by omega
   have g2:=jD i;have g3:=ZT (n:=(i:Int)+1);have b3:i<rb.length:=by omega
   by_cases Yj:i=r
   .have c1:((i:Int) !=(r:Int))=false:=by rw[Yj];simp
    refine .inl ⟨_,by simp only[go_sem,t0,t1,t2,t56,t57,g1,g3,c1];rfl,?_⟩;simp only[go_sem,t0,t1,t2,t56];refine⟨rfl,hm,fun j E=>?_,fr⟩;rw[rows j E]
    by_cases J:j=r
    .rw[sH (.inr J),sH (.inr J)]
    .by_cases i3:j<i
     .rw[sH (.inl i3),sH (.inl (by omega))]
     .rw[sJ (by omega),sJ (by omega)]
   .have c1:((i:Int) !=(r:Int))=true:=by rw[bne_iff_ne];omega
    obtain⟨bi,Fb⟩:∃bi,bi=rb[i]:=⟨_,rfl⟩;have j1:bi<nx:=by rw[Fb];exact ER i b3
    have ni:=c4 i b3;rw[<- Fb]at ni;have i4:bi≠bR:=fun e=>Yj (by rw[Fb,Ym]at e;exact(uO b6).mp e)
    have b5:(rb.map fun b=>V.rs b 0 (N+1))[i]?=some (.rs bi 0 (N+1)):=by rw[zF,zy b3,Fb];rfl
    have i5:σ2 bi=some ⟨(Eh D.R i).flatMap cQ,3,true⟩:=by rw[Fb,rows i b3,sJ (by omega)]
    have c7:σ2 bR=some ⟨W.flatMap cQ,3,true⟩:=by rw[Ym,rows r O,sH (.inr rfl),b8]
    have e1:σ2 bt=_:=(fr bt Tm n4).trans ht;have e2:σ2 br=_:=(fr br Tn n9).trans b2;have l1:bt<m0:=by omega
    have l2:br<m0:=by omega
    have l3:bi<m0:=by omega
    have l4:bR<m0:=by omega
    have z1:(bt==bi)=false:=beq_false_of_ne (yu ni.1);have z2:(bt==bR)=false:=beq_false_of_ne (yu nR.1);have z3:(br==bi)=false:=beq_false_of_ne (yu ni.2.2.1);have z4:(br==bR)=false:=beq_false_of_ne (yu nR.2.2.1);obtain⟨s3,m3,b4,kc,pe,q1,q2,q3⟩:=Uh (σ:=σ2) (nx:=m0) (k:=k) (dP hs.row hi) e9 hN (by omega) (by rw[dR hi];exact hs.big _ (zu hi)) bW i5 c7 i4 l3 l4;refine .inl ⟨_,by simp only[go_sem,t0,t1,t2,t56,t57,e1,e2,a1,a2,a5,b5,g1,g2,g3,c1,l1,l2,l3,l4,z1,z2,z3,z4,kc,pe];rfl,?_⟩;simp only[go_sem,t0,t1,t2,t56];refine⟨rfl,by omega,fun j E=>?_,fun b hb hn=>?_⟩
    .by_cases h1:j=i
     .subst h1
      rw[<- Fb,q1,sH (.inl (by omega)),acL hi,sJ Yj,<- et,<- ep,<- eW]
     .have i6:rb[j]≠bi:=fun e=>h1 (by rw[Fb]at e;exact(uO b6).mp e)
      rw[q3 _ (by have:=ER j E;omega) i6,rows j E]
      by_cases J:j<i\/j=r
      .rw[sH J,sH (by omega)]
      .rw[sJ J,sJ (by omega)]
    .rw[q3 b (by omega) (fun e=>hn (by rw[e,Fb];exact zu b3))]
     exact fr b hb hn) (by
   clear hL;rintro ⟨T,σ2,m0⟩ ⟨t0,t1,t2,t56,t57,hm,rows,fr⟩;simp only at t0 t1 t2 t56 t57 hm rows;refine⟨_,by simp only[go_sem,t56,t57,zk];rfl,by simp,_,_,_,rfl,?_⟩;simp only[go_sem,t0,t1,t2];refine⟨hm,fun j E=>?_,fr⟩;rw[rows j E,sH (.inl (by omega))]) (by
   simp only[go_sem,t0,t1,t2];refine⟨i0,fun j E=>?_,fun b hb hn=>b9 b hb fun e=>hn (by rw[e,Ym];exact zu O)⟩
   by_cases J:j=r
   .subst J
    rw[sH (.inr rfl),b8,<- Ym];exact i1
   .rw[sJ (by omega),b9 _ (ER j E) (fun e=>J (by rw[Ym]at e;exact(uO b6).mp e))]
    exact c0 j E)
 have e1:σ2 bt=_:=(FK bt Tm n4).trans ht;have e2:σ2 br=_:=(FK br Tn n9).trans b2;have e3:σ2 bc=_:=(FK bc c9 n7).trans hc;have c7:σ2 bR=some ⟨W.flatMap cQ,3,true⟩:=by rw[Ym,Ey r O,b8]
 have l1:bt<m2:=by omega
 have l2:br<m2:=by omega
 have l3:bc<m2:=by omega
 have l4:bR<m2:=by omega
 have z1:(bt==bc)=false:=beq_false_of_ne n1;have z2:(bt==bR)=false:=beq_false_of_ne (yu nR.1);have z3:(br==bc)=false:=beq_false_of_ne (yu n5);have z4:(br==bR)=false:=beq_false_of_ne (yu nR.2.2.1);obtain⟨s3,m3,b4,kc,pe,q1,q2,q3⟩:=Uh (σ:=σ2) (nx:=m2) (k:=k) hs.Gm e9 hN (by omega) hs.alI bW e3 c7 (yu nR.2.1) l3 l4;have d1:b4 bt=_:=(q3 bt l1 n1).trans e1;have d2:b4 bb=_:=(q3 bb (by omega) (yu n6)).trans ((FK bb h6 c3).trans h5);have hB:(BR D.B).length=D.R.length:=by rw[aA];exact hs.Bc
 have i7:r<(BR D.B).length:=by omega
 have i9:((BR D.B).flatMap cI).set r (I k)=(BR (D.B.set r k)).flatMap cI:=by
  rw[qK];unfold BR;rw[List.map_set]
 obtain⟨CP,e4⟩:∃CP,CP=upd b4 bb (some ⟨(BR (D.B.set r k)).flatMap cI,1,true⟩):=⟨_,rfl⟩;have f4:∀b,b<nx->b≠bb->CP b=b4 b:=fun b _ hn=>by rw[e4,Zl _ _ hn]
 have c8:(Nw D r k).R.length=D.R.length:=pl;refine⟨CP,m3,by simp only[go_sem,t0,t1,t2,e1,e2,e3,a1,a2,a5,l1,l2,l3,l4,z1,z2,z3,z4,kc,pe,d1,d2,i7,i9,<- e4],⟨?_,?_,fun j E=>?_,?_,?_,by rw[c8];exact hlen,?_⟩,by omega,fun b hb hn=>?_⟩
 .rw[f4 bt Tm n3];exact d1
 .rw[c8]
  exact .inr ⟨br,by omega,rfl,by rw[f4 br Tn n8,q3 br l2 (yu n5)];exact e2⟩
 .have:=c4 j E
  rw[f4 _ (ER j E) this.2.2.2,q3 _ (by have:=ER j E;omega) this.2.1];exact Ey j E
 .rw[c8]
  exact .inr ⟨bb,by omega,rfl,by rw[e4,Zk];rfl⟩
 .rw[f4 bc c9 n6,q1,eW,et,ep]
  rfl
 .simp only[bk,yT,yO,xW,zV,not_or]
  exact⟨⟨n1,n2,n3,n4⟩,⟨n5,n6,n7⟩,⟨n8,n9⟩,c3,b6⟩
 .simp only[zV,not_or]at hn
  rw[f4 b hb hn.2.1,q3 b (by omega) hn.1,FK b hb hn.2.2]
def QV(x:List Rat):List V:=[LL cQ x]
def FM(D:TQ)(N:Nat):List V:=[I N,LL QV D.R,LI (BR D.B),LL cQ D.c]
def Ox(D:TQ)(N:Nat):V:=.tp (FM D N) 0
theorem QW{R:List (List Rat)}{i:Nat}(h:i<R.length):(R.flatMap QV)[i]?=some (LL cQ (Eh R i)):=by
 have:=cu (fun x=>LL cQ x) R i h;rw[dR h];exact this
theorem oC{R:List (List Rat)}{i j:Nat}(h:j<(Eh R i).length):(Eh R i)[j]=BP R i j:=(lF h 0).symm
theorem pX{R:List (List Rat)}{i j:Nat}(E:j<(Eh R i).length):(((Eh R i).flatMap cQ).drop (j*3)).take 3=cQ (BP R i j):=by
 rw[d_ qG (Eh R i) j E,oC E]
theorem apn{D:TQ}{N:Nat}(hl:D.B.length<=100000)(s:Nat):fn ZL conv ext 240 [Ox D N,I s]=some (Bo (decide (s∈D.B))):=by
 have tl:=aA D.B;unfold Ox FM;rw[m_,mg [.tmp 4] [] func240];simp only[go_sem];generalize hL:dI _ _=y;obtain⟨r,rfl,hr⟩:=oZ hL (BR D.B).length (fun k st=>st.T 1=I s/\st.T 10=LI (BR D.B)/\st.T 11=I (BR D.B).length/\st.T 12=I k/\∀i (h:i<D.B.length),i<k->D.B[i]≠s)
  (fun r=>(∃T σ nx,r=(.exit 0,⟨T,σ,nx⟩)/\s∉D.B)\/(∃T σ nx,r=(.ret,⟨T,σ,nx⟩)/\T 4=Bo true/\s∈D.B)) (by
   clear hL;rintro k ⟨T,σ,nx⟩ Y ⟨S,G,E,J,hi⟩;simp only at S G E J;have f1:(k:Int)<((BR D.B).length:Int):=by omega
   have f2:=jD k;have f3:=ZT (n:=(k:Int)+1);have f5:=AU (BR D.B) k Y;have O:k<D.B.length:=by omega
   have f6:=idx Y;rw[aB O,lF O 0]at f6
   by_cases hp:D.B[k]=s
   .have c1:((D.B[k]:Int)==(s:Int))=true:=by rw[beq_iff_eq];omega
    refine .inr ⟨_,by simp only[go_sem,S,G,E,J,f1,f2,f5,f6,c1];rfl,by simp,.inr ⟨_,_,_,rfl,?_⟩⟩;simp only[go_sem];rw[<- hp];exact zu O
   .have c1:((D.B[k]:Int)==(s:Int))=false:=by rw[sG];omega
    refine .inl ⟨_,by simp only[go_sem,S,G,E,J,f1,f2,f3,f5,f6,c1];rfl,?_⟩;simp only[go_sem,S,G,E];refine⟨rfl,fun i h a1=>?_⟩
    by_cases e:i=k
    .subst e;exact hp
    .exact hi i h (by omega)) (by
   clear hL;rintro ⟨T,σ,nx⟩ ⟨S,G,E,J,hi⟩;simp only at S G E J;refine⟨_,by simp only[go_sem,E,J,zk];rfl,by simp,.inl ⟨_,_,_,rfl,fun hm=>?_⟩⟩;obtain⟨i,h,e⟩:=yZ hm;exact hi i h (by omega) e) (by
   simp only[go_sem];exact fun i _ h=>absurd h (zX _))
 rcases hr with ⟨T,σ,nx,rfl,hx⟩|⟨T,σ,nx,rfl,h4,hx⟩
 .rw[sD hx];simp only[go_sem]
 .rw[sF hx];simp only[go_sem,h4]
theorem fB{q j:Nat}:∀ {R:List (List Rat)} {B:List Nat},(∀b∈B,b≠q)->IE q j R B=0
 |[],_,_=>by cases ‹List Nat›<;>rfl
 |_ :: _,[],_=>rfl
 |x :: R,b :: B,h=>by
  show(if b=q then x.getD j 0 else 0)+IE q j R B=0;rw[sJ (h b zM),fB fun c hc=>h c (zY _ hc)];grind
theorem XQ{q j:Nat}:∀ {R:List (List Rat)} {B:List Nat} {i:Nat},B.Nodup->B.length=R.length->(h:i<B.length)->B[i]=q->IE q j R B=BP R i j
 |[],B,i,_,hl,h,_=>by rw[wR]at hl;omega
 |_ :: _,[],i,_,hl,h,_=>by simp at h
 |x :: R,b :: B,0,hn,hl,h,e=>by
  show(if b=q then x.getD j 0 else 0)+IE q j R B=_;have e:b=q:=e;rw[xW]at hn;rw[sH e,fB fun c hc J=>hn.1 (by rw[e,<- J];exact hc)];show x.getD j 0+0=x.getD j 0;grind
 |x :: R,b :: B,i+1,hn,hl,h,e=>by
  show(if b=q then x.getD j 0 else 0)+IE q j R B=_;rw[xW]at hn;have E:i<B.length:=by simpa using h
  have G:B[i]=q:=e;rw[sJ fun hb=>hn.1 (by rw[hb,<- G];exact zu E),XQ hn.2 (by simpa using hl) E G];show 0+BP R i j=BP R i j;grind
theorem Oy{g:Nat->Rat}{q:Nat}(G:Zr q g)(J:g q≠0):∀ {d:Nat},q<d->(Lp d g↔0<g q)
 |0,h=>absurd h (zX _)
 |d+1,h=>by
  show(Lp d g\/(Zr d g/\0<g d))↔_
  by_cases e:q=d
  .subst e
   constructor
   .rintro (E|E)
    .exact absurd G E.Gz
    .exact E.2
   .exact fun E=> .inr ⟨G,E⟩
  .have O:=Oy G J (d:=d) (by omega)
   constructor
   .rintro (E|E)
    .exact O.mp E
    .exact absurd (E.1 q (by omega)) J
   .exact fun E=> .inl (O.mpr E)
def Ui(D:TQ)(s k:Nat)(z:Int):Prop:=(z=0/\Zr (k+1) (LD D s))\/(z≠0/\∃q,q<=k/\Zr q (LD D s)/\LD D s q≠0/\(0<z↔0<LD D s q))
theorem XR(q:Rat):0<Am q.num 0↔0<q:=by
 have:=Ug q;constructor
 .intro h;exact zf fun hn=>by have:=this.mpr hn;omega
 .intro h
  have E:¬Am q.num 0<=0:=fun e=>this.mp e h
  omega
theorem Uj(q:Rat):Am q.num 0=0↔q=0:=by
 have:=aia q;constructor
 .intro h;rw[h]at this;exact of_decide_eq_true this.symm
 .intro h;rw[sF h]at this;exact beq_iff_eq.mp this
theorem Ui.zero(D:TQ)(s:Nat):Ui D s 0 (Am (D.c.getD s 0).num 0):=by
 have e:LD D s 0=D.c.getD s 0:=rfl
 by_cases h:D.c.getD s 0=0
 .refine .inl ⟨(Uj _).mpr h,fun q E=>?_⟩
  have:q=0:=by omega
  subst this;rw[e,h]
 .exact .inr ⟨fun G=>h ((Uj _).mp G),0,zq _,fun q E=>absurd E (zX _),by rw[e];exact h,by rw[e];exact XR _⟩
theorem Ui.next{D:TQ}{s k:Nat}(h:Ui D s k 0){w:Rat}(hw:LD D s (k+1)=w):Ui D s (k+1) (Am w.num 0):=by
 rcases h with ⟨_,G⟩|⟨h,_⟩
 .by_cases E:w=0
  .exact .inl ⟨(Uj _).mpr E,Zr.succ.mpr ⟨G,by rw[hw,E]⟩⟩
  .exact .inr ⟨fun J=>E ((Uj _).mp J),k+1,zq _,G,by rw[hw];exact E,by rw[hw];exact XR _⟩
 .exact absurd rfl h
theorem Ui.pos{D:TQ}{s k d:Nat}{z:Int}(h:Ui D s k z)(hd:k<d)(J:z=0->k+1=d):0<z↔Lp d (LD D s):=by
 rcases h with ⟨G,E⟩|⟨G,q,E,O,S,Y⟩
 .subst G
  rw[J rfl]at E;exact⟨fun h=>absurd h (by decide),fun h=>absurd E h.Gz⟩
 .rw[Y,Oy O S (by omega)]
theorem ata{D:TQ}{N:Nat}(h:ShF D N)(a8:D.B.Nodup){s:Nat}(hs:s<N)(b2:s∉D.B)(lex:Bool) :
  ∃z,fn ZL conv ext 241 [Ox D N,I s,Bo lex]=some (I z)/\(0<z↔Lp (if lex=true then N+1 else 1) (LD D s)):=by
 have hN:=h.sz;have tl:(BR D.B).length=D.R.length:=by rw[aA];exact h.Bc
 have hR:=h.Gn;have a1:=jD s;have a2:(s:Int)<(D.c.length:Int):=by have:=h.Gm;omega
 have a3:=bg (c:=cQ) (s:=3) qG (by omega) D.c s (by have:=h.Gm;omega);have a4:=d_ (c:=cQ) (s:=3) qG D.c s (by have:=h.Gm;omega);rw[<- lF (by have:=h.Gm;omega) 0]at a4;have a5:=bZ (c:=cQ) (s:=3) qG D.c;have a6:s*3+3<=D.c.length*3:=by have:=h.Gm;omega
 have b3:Ln 6 (D.c.getD s 0):=by rw[lF (by have:=h.Gm;omega)];exact h.alI _ (zu _)
 have k1:=dL (D.c.getD s 0) (b3.mono (by decide));unfold Ox FM;rw[m_,mg [.tmp 6] [] func241];simp only[go_sem,a1,a2,a3,a4,a5,a6,k1];have b5:=h.Gm;have m1:((0:Int)==0)=true:=by decide
 generalize O:dI _ _=y;obtain⟨x,rfl,hx⟩:=oZ O N (fun k st=>st.T 0= .tp (FM D N) 0/\st.T 1=I s/\st.T 2=Bo lex/\st.T 8=I k/\(lex=false->k=0)/\∃z,st.T 7=I z/\Ui D s k z)
  (fun x=>(∃T σ nx z,x=(.exit 0,⟨T,σ,nx⟩)/\T 7=I z/\(0<z↔Lp (if lex=true then N+1 else 1) (LD D s)))\/(∃T σ nx,x=(.ret,⟨T,σ,nx⟩)/\T 6=I (-1)/\¬Lp (if lex=true then N+1 else 1) (LD D s))) (by
   clear O;rintro k ⟨T,σ,nx⟩ hk ⟨t0,t1,t2,t8,G,z,t7,E⟩;simp only at t0 t1 t2 t8 t7;unfold FM at t0;have f1:(k:Int)<(N:Int):=by omega
   have f2:=jD k;have f3:=ZT (n:=(k:Int)+1)
   by_cases z0:z=0
   .subst z0
    cases lex with
    |false=>
     have b4:=G rfl;subst b4;refine .inr ⟨_,by simp only[go_sem,t0,t1,t2,t8,t7,m1];rfl,by simp,.inl ⟨_,_,_,0,rfl,?_⟩⟩;simp only[go_sem,t7];exact E.pos (by decide) fun _=>rfl
    |true=>
     by_cases a7:k=s
     .have c1:((k:Int)==(s:Int))=true:=by rw[a7];simp
      refine .inr ⟨_,by simp only[go_sem,t0,t1,t2,t8,t7,m1,f1,c1];rfl,by simp,.inr ⟨_,_,_,rfl,?_⟩⟩;simp only[go_sem];have e:LD D s (s+1)= -1:=by
       unfold LD;rw[sJ (by omega),sH rfl];show -1+IE s s D.R D.B= -1;rw[fB fun b hb (e:b=s)=>b2 (by rw[<- e];exact hb)];grind
      rw[a7]at E;rcases E with ⟨_,E⟩|⟨E,_⟩
      .rw[Oy E (by rw[e];decide) (by omega),e];decide
      .exact absurd rfl E
     .have c1:((k:Int)==(s:Int))=false:=by rw[sG];omega
      have eg:LD D s (k+1)=IE k s D.R D.B:=by
       unfold LD;rw[sJ (by omega),sJ (by omega)];show 0+IE k s D.R D.B=_;grind
      refine bC ?_
      conv=>
       enter [1,r,1,1]
       simp only[go_sem,t0,t1,t2,t8,t7,m1,f1,c1]
      generalize O:dI _ _=y;obtain⟨x,rfl,T1,b6,nI,rfl,t0,t1,t2,t8,t7⟩:=oZ O D.R.length (fun i st=>st.T 0= .tp (FM D N) 0/\st.T 1=I s/\st.T 2=Bo true/\st.T 8=I k/\st.T 40=LI (BR D.B)/\st.T 41=I D.R.length/\st.T 42=I i/\∃w:Rat,st.T 7=I (Am w.num 0)/\((∃j,∃J:j<D.B.length,j<i/\D.B[j]=k/\w=BP D.R j s)\/((∀j (J:j<D.B.length),j<i->D.B[j]≠k)/\w=0)))
       (fun x=>∃T σ nx,x=(.exit 2,⟨T,σ,nx⟩)/\T 0= .tp (FM D N) 0/\T 1=I s/\T 2=Bo true/\T 8=I k/\T 7=I (Am (IE k s D.R D.B).num 0)) (by
        clear O;rintro i ⟨T,σ,nx⟩ hi ⟨t0,t1,t2,t8,t40,t41,t42,w,t7,hw⟩;simp only at t0 t1 t2 t8 t40 t41 t42 t7;have g1:(i:Int)<(D.R.length:Int):=by omega
        have g2:=jD i;have g3:=ZT (n:=(i:Int)+1);have g4:=AU (BR D.B) i (by omega);have S:i<D.B.length:=by have:=h.Bc;omega
        have g5:=idx (xs:=BR D.B) (k:=i) (by omega);rw[aB S,lF S 0]at g5
        by_cases hb:D.B[i]=k
        .have c2:((D.B[i]:Int)==(k:Int))=true:=by rw[beq_iff_eq];omega
         have rl:=dP h.row hi;have r1:=QW hi;have r2:=bg (c:=QV) (s:=1) (fun _=>rfl) (by omega) D.R i hi;have r3:(s:Int)<((Eh D.R i).length:Int):=by omega
         have r4:=bg (c:=cQ) (s:=3) qG (by omega) (Eh D.R i) s (by omega);have r5:=pX (R:=D.R) (i:=i) (j:=s) (by omega);have r6:=bZ (c:=cQ) (s:=3) qG (Eh D.R i);have r7:s*3+3<=(Eh D.R i).length*3:=by omega
         have bq:Ln 6 (BP D.R i s):=by
          rw[<- oC (by omega)];exact h.big _ (by rw[dR hi];exact zu hi) _ (zu _)
         have k2:=dL (BP D.R i s) (bq.mono (by decide));unfold FM at t0;refine .inl ⟨_,by simp only[go_sem,t0,t1,t2,t8,t40,t41,t42,t7,tl,g1,g2,g3,g4,g5,c2,a1,r1,r2,r3,r4,r5,r6,r7,k2];rfl,?_⟩;simp only[go_sem,t0,t1,t2,t8,t40,t41];exact⟨rfl,rfl,_,rfl,.inl ⟨i,S,by omega,hb,rfl⟩⟩
        .have c2:((D.B[i]:Int)==(k:Int))=false:=by rw[sG];omega
         refine .inl ⟨_,by simp only[go_sem,t0,t1,t2,t8,t40,t41,t42,t7,tl,g1,g2,g3,g4,g5,c2];rfl,?_⟩;simp only[go_sem,t0,t1,t2,t8,t40,t41,t7];refine⟨rfl,w,rfl,?_⟩;rcases hw with ⟨j,J,h1,Y,h3⟩|⟨h1,Y⟩
         .exact .inl ⟨j,J,by omega,Y,h3⟩
         .refine .inr ⟨fun j J b7=>?_,Y⟩
          by_cases e:j=i
          .subst e;exact hb
          .exact h1 j J (by omega)) (by
        clear O;rintro ⟨T,σ,nx⟩ ⟨t0,t1,t2,t8,t40,t41,t42,w,t7,hw⟩;simp only at t0 t1 t2 t8 t40 t41 t42 t7;refine⟨_,by simp only[go_sem,t41,t42,zk];rfl,by simp,_,_,_,rfl,?_⟩;simp only[go_sem,t0,t1,t2,t8,t7];have:w=IE k s D.R D.B:=by
         rcases hw with ⟨j,J,h1,Y,h3⟩|⟨h1,Y⟩
         .rw[XQ a8 h.Bc J Y,h3]
         .rw[fB,Y]
          intro b hb e;obtain⟨j,J,e2⟩:=yZ hb;exact h1 j J (by have:=h.Bc;omega) (e2.trans e)
        rw[this]) (by
        simp only[go_sem,t0,t1,t2,t8,t7,tl];exact⟨rfl,0,rfl,.inr ⟨fun j _ J=>absurd J (zX _),rfl⟩⟩)
      refine⟨_,by simp only[go_sem,t8,f3];rfl,.inl ⟨_,rfl,?_⟩⟩;simp only[go_sem,t0,t1,t2,t7];exact⟨rfl,by simp,_,rfl,E.next eg⟩
   .have c0:(z==(0:Int))=false:=by rw[sG];exact z0
    refine .inr ⟨_,by simp only[go_sem,t0,t1,t2,t8,t7,c0];rfl,by simp,.inl ⟨_,_,_,z,rfl,?_⟩⟩;simp only[go_sem,t7];refine E.pos ?_ fun e=>absurd e z0
    cases lex with
    |false=>have:=G rfl;simp;omega
    |true=>simp;omega) (by
   clear O;rintro ⟨T,σ,nx⟩ ⟨t0,t1,t2,t8,G,z,t7,E⟩;simp only at t0 t1 t2 t8 t7;unfold FM at t0;have fin:0<z↔Lp (if lex=true then N+1 else 1) (LD D s):=by
    cases lex with
    |false=>have:=G rfl;omega
    |true=>exact E.pos (by simp) fun _=>by simp
   by_cases z0:z=0
   .subst z0
    cases lex with
    |false=>have:=G rfl;omega
    |true=>
     refine⟨_,by simp only[go_sem,t0,t1,t2,t8,t7,m1,zk];rfl,by simp,.inl ⟨_,_,_,0,rfl,?_⟩⟩;simp only[go_sem,t7];exact fin
   .have c0:(z==(0:Int))=false:=by rw[sG];exact z0
    refine⟨_,by simp only[go_sem,t0,t1,t2,t8,t7,c0];rfl,by simp,.inl ⟨_,_,_,z,rfl,?_⟩⟩;simp only[go_sem,t7];exact fin) (by
   simp only[go_sem];exact⟨rfl,fun _=>trivial,_,rfl,Ui.zero D s⟩)
 rcases hx with ⟨T,σ,nx,z,rfl,t7,E⟩|⟨T,σ,nx,rfl,t6,E⟩
 .exact⟨z,by simp only[go_sem,t7],E⟩
 .exact⟨-1,by simp only[go_sem,t6],fun h=>absurd h (by decide),fun h=>absurd h E⟩
def qo(D:TQ)(N k i:Nat):Rat:=BP D.R i N / BP D.R i k
def Eo(D:TQ)(N k i:Nat)(r:Int):Prop :=
 (r= -1/\∀j,j<i->¬0<BP D.R j k)\/∃r':Nat,r=r'/\r'<i/\0<BP D.R r' k/\(∀j,j<i->0<BP D.R j k->qo D N k r'<=qo D N k j) /\
  ∀j,j<i->0<BP D.R j k->qo D N k r'=qo D N k j->D.B.getD r' 0<=D.B.getD j 0
section
variable {D:TQ} {N k i:Nat} {r:Int}
theorem Eo.skip(h:Eo D N k i r)(hn:¬0<BP D.R i k):Eo D N k (i+1) r:=by
 have G:∀j,j<i+1->0<BP D.R j k->j<i:=fun j E hp=>by
  by_cases e:j=i
  .subst e;exact absurd hp hn
  .omega
 rcases h with ⟨rfl,h⟩|⟨r',rfl,Y,J,O,S⟩
 .exact .inl ⟨rfl,fun j E hp=>h j (G j E hp) hp⟩
 .exact .inr ⟨r',rfl,by omega,J,fun j E hp=>O j (G j E hp) hp,fun j E hp=>S j (G j E hp) hp⟩
theorem Eo.first(h:Eo D N k i (-1))(hp:0<BP D.R i k):Eo D N k (i+1) i:=by
 rcases h with ⟨_,h⟩|⟨r',e,_⟩
 .have J:∀j,j<i+1->0<BP D.R j k->j=i:=fun j G hp=>by
   by_cases e:j=i
   .exact e
   .exact absurd hp (h j (by omega))
  exact .inr ⟨i,rfl,by omega,hp,fun j G E=>by rw[J j G E];grind,fun j G E _=>by rw[J j G E];exact zq _⟩
 .omega
theorem Eo.better{r:Nat}(h:Eo D N k i r)(hp:0<BP D.R i k)(hc:qo D N k i<qo D N k r\/(qo D N k i=qo D N k r/\D.B.getD i 0<D.B.getD r 0)):Eo D N k (i+1) i:=by
 rcases h with ⟨e,_⟩|⟨r',e,S,Y,G,J⟩
 .omega
 .have:r=r':=by omega
  subst this;refine .inr ⟨i,rfl,by omega,hp,fun j O E=>?_,fun j O E he=>?_⟩
  .by_cases e:j=i
   .subst e;grind
   .have:=G j (by omega) E;grind
  .by_cases e:j=i
   .subst e;exact zq _
   .have g1:=G j (by omega) E
    rcases hc with hc|⟨hc,hb⟩
    .grind
    .have:=J j (by omega) E (by grind);omega
theorem Eo.keep{r:Nat}(h:Eo D N k i r)(hc:qo D N k r<qo D N k i\/(qo D N k i=qo D N k r/\D.B.getD r 0<=D.B.getD i 0)):Eo D N k (i+1) r:=by
 rcases h with ⟨e,_⟩|⟨r',e,h1,G,J,O⟩
 .omega
 .have:r=r':=by omega
  subst this;refine .inr ⟨r,rfl,by omega,G,fun j S E=>?_,fun j S E Y=>?_⟩
  .by_cases e:j=i
   .subst e;grind
   .exact J j (by omega) E
  .by_cases e:j=i
   .subst e
    rcases hc with hc|⟨hc,hb⟩
    .grind
    .exact hb
   .exact O j (by omega) E Y
end
theorem alJ(x y:Rat):Am (x.num*y.den) (y.num*x.den)<0↔x<y:=by
 rw[Rat.lt_iff];unfold Am
 by_cases h:x.num*y.den<y.num*x.den
 .rw[sH h];exact⟨fun _=>h,fun _=>by decide⟩
 .rw[sJ h]
  refine⟨fun E=>?_,fun E=>absurd E h⟩
  split at E<;>exact absurd E (by decide)
theorem alK(x y:Rat):(Am (x.num*y.den) (y.num*x.den)==0)=decide (x=y):=by
 have E:=Rat.lt_iff x y;have G:=Rat.lt_iff y x
 by_cases e:x=y
 .rw[sF e]
  subst e;unfold Am;rw[sJ (by omega),sH rfl];rfl
 .rw[sD e]
  by_cases J:x<y
  .unfold Am;rw[sH (E.mp J)];rfl
  .have O:y<x:=by grind
   have:=G.mp O;unfold Am;rw[sJ (by omega),sJ (by omega)];rfl
theorem apo{x y:Rat}{a b:Nat}(E:Ln a x)(G:Ln b y)(J:y.num≠0)(O:1<=a+b):Ln (a+b) (x / y):=by
 rw[agB x y J];have S:=jX x.num.natAbs y.den;have Y:=jX x.den y.num.natAbs;have:=E.1;have:=E.2;have:=G.1;have:=G.2;exact acy (by rw[Uf];omega) (by omega) O
theorem aeY(a b:Rat):patch (cQ a) 0 (cQ b)=cQ b:=rfl
attribute [go_sem] aeY
theorem apq{D:TQ}{N:Nat}(h:ShF D N){k:Nat}(hk:k<N) :
  ∃r,fn ZL conv ext 242 [Ox D N,I k]=some (I r)/\Eo D N k D.R.length r:=by
 have hN:=h.sz;have tl:(BR D.B).length=D.R.length:=by rw[aA];exact h.Bc
 have hR:=h.Gn;have a1:=jD k;have m1:(-1:Int)<0:=by decide
 have bq:∀i j,i<D.R.length->j<N+1->Ln 6 (BP D.R i j):=fun i j hi hj=>by
  have rl:=dP h.row hi;rw[<- oC (by omega)];exact h.big _ (by rw[dR hi];exact zu hi) _ (zu _)
 have nz:∀i,0<BP D.R i k->(BP D.R i k).num≠0:=fun i hp e=>by have:=j_.mp e;grind
 have lq:∀i,i<D.R.length->0<BP D.R i k->Ln 12 (qo D N k i):=fun i hi hp=>apo (a:=6) (b:=6) (bq i N hi (by omega)) (bq i k hi (by omega)) (nz i hp) (by decide)
 unfold Ox FM;rw[m_,mg [.tmp 4] [7,8] func242];simp only[go_sem];generalize hL:dI _ _=y;obtain⟨x,rfl,T',σ',nx',r,rfl,O,hb⟩:=oZ hL D.R.length (fun i st=>st.T 0= .tp (FM D N) 0/\st.T 1=I k/\st.T 6= .rp 0 0/\st.T 14=LL QV D.R/\st.T 15=I D.R.length/\st.T 16=I i/\1<=st.nx/\∃r,st.T 5=I r/\Eo D N k i r/\∃cs,st.σ 0=some ⟨cs,0,true⟩/\(∃u v w,cs=[u,v,w])/\∀r':Nat,r=r'->cs=cQ (qo D N k r'))
  (fun x=>∃T σ nx r,x=(.exit 0,⟨T,σ,nx⟩)/\T 5=I r/\Eo D N k D.R.length r) (by
   clear hL;rintro i ⟨T,σ,nx⟩ hi ⟨S,Y,h6,Fz,E,G,a7,r,O,hb,cs,a8,b6,b4⟩;simp only at S Y h6 Fz E G a7 O a8;unfold FM at S;obtain⟨u,v,w,rfl⟩:=b6;have f1:(i:Int)<(D.R.length:Int):=by omega
   have f2:=jD i;have f3:=ZT (n:=(i:Int)+1);have rl:=dP h.row hi;have r1:=QW hi;have r2:=bg (c:=QV) (s:=1) (fun _=>rfl) (by omega) D.R i hi;have r3:(k:Int)<((N+1:Nat):Int):=by omega
   have r4:=bg (c:=cQ) (s:=3) qG (by omega) (Eh D.R i) k (by omega);have r5:=pX (R:=D.R) (i:=i) (j:=k) (by omega);have r6:=bZ (c:=cQ) (s:=3) qG (Eh D.R i);rw[rl]at r6;have r7:k*3+3<=(N+1)*3:=by omega
   have s1:=dL (BP D.R i k) ((bq i k hi (by omega)).mono (by decide))
   by_cases hp:0<BP D.R i k
   .have c1:¬Am (BP D.R i k).num 0<=0:=fun e=>(Ug _).mp e hp
    have w1:=ZT (n:=((N+1:Nat):Int) - 1);have w2:((N+1:Nat):Int) - 1=(N:Int):=by omega
    rw[w2]at w1;have n0:=jD N;have n3:(N:Int)<((N+1:Nat):Int):=by omega
    have n5:=pX (R:=D.R) (i:=i) (j:=N) (by omega);have n7:N*3+3<=(N+1)*3:=by omega
    have k1:=amE (BP D.R i N) (BP D.R i k) (bq i N hi (by omega)) (bq i k hi (by omega)) (by decide) (nz i hp);rw[show BP D.R i N / BP D.R i k=qo D N k i from rfl]at k1;have z0:¬(0:Nat)=nx:=by omega
    have z1:0<nx+1:=by omega
    have z2:nx<nx+1:=by omega
    rcases hb with ⟨rfl,hb⟩|⟨r',rfl,b7,b5,b8,b9⟩
    .refine .inl ⟨_,by simp only[go_sem,S,Y,h6,Fz,E,G,O,a8,f1,f2,f3,r1,r2,rl,r3,r4,r5,r6,r7,s1,a1,c1,w1,w2,n0,n3,n5,n7,k1,m1,z0,z1,z2];rfl,?_⟩
     simp only[go_sem,S,Y,h6,Fz,E,O,z0];exact⟨rfl,rfl,i,rfl,Eo.first (.inl ⟨rfl,hb⟩) hp,_,rfl,⟨_,_,_,rfl⟩,fun r' e=>by rw[show r'=i by omega]⟩
    .have b2:Eo D N k i r':=.inr ⟨r',rfl,b7,b5,b8,b9⟩
     have J:σ 0=some ⟨cQ (qo D N k r'),0,true⟩:=by rw[a8,b4 r' rfl]
     have q0:¬(r':Int)<0:=by omega
     have q1:(r':Int)<(D.R.length:Int):=by omega
     have q2:(0:Int)<=(r':Int):=by omega
     have q3:=AU (BR D.B) i (by omega);have q4:=idx (xs:=BR D.B) (k:=i) (by omega);rw[aB (by have:=h.Bc;omega)]at q4;have q5:=AU (BR D.B) r' (by omega);have q6:=idx (xs:=BR D.B) (k:=r') (by omega);rw[aB (by have:=h.Bc;omega)]at q6;have k2:=amF (qo D N k i) (qo D N k r') (lq i hi hp) (lq r' (by omega) b5) (by decide) (by decide) (by decide);have e1:=alJ (qo D N k i) (qo D N k r');have e2:=alK (qo D N k i) (qo D N k r');generalize Am ((qo D N k i).num*(qo D N k r').den) ((qo D N k r').num*(qo D N k i).den)=z at k2 e1 e2
     by_cases g1:qo D N k i<qo D N k r'
     .have a6:=e1.mpr g1
      refine .inl ⟨_,by simp only[go_sem,S,Y,h6,Fz,E,G,O,J,f1,f2,f3,r1,r2,rl,r3,r4,r5,r6,r7,s1,a1,c1,w1,w2,n0,n3,n5,n7,k1,k2,q0,a6,z0,z1,z2];rfl,?_⟩;simp only[go_sem,S,Y,h6,Fz,E,O,z0];exact⟨rfl,rfl,i,rfl,b2.better hp (.inl g1),_,rfl,⟨_,_,_,rfl⟩,fun r' e=>by rw[show r'=i by omega]⟩
     .have a6:¬z<0:=fun e=>g1 (e1.mp e)
      by_cases g2:qo D N k i=qo D N k r'
      .rw[sF g2]at e2
       by_cases g3:D.B.getD i 0<D.B.getD r' 0
       .have b3:((D.B.getD i 0:Nat):Int)<((D.B.getD r' 0:Nat):Int):=by omega
        refine .inl ⟨_,by simp only[go_sem,S,Y,h6,Fz,E,G,O,J,tl,f1,f2,f3,r1,r2,rl,r3,r4,r5,r6,r7,s1,a1,c1,w1,w2,n0,n3,n5,n7,k1,k2,q0,q1,q2,q3,q4,q5,q6,a6,e2,b3,z0,z1,z2];rfl,?_⟩;simp only[go_sem,S,Y,h6,Fz,E,O,z0];exact⟨rfl,rfl,i,rfl,b2.better hp (.inr ⟨g2,g3⟩),_,rfl,⟨_,_,_,rfl⟩,fun r' e=>by rw[show r'=i by omega]⟩
       .have b3:¬((D.B.getD i 0:Nat):Int)<((D.B.getD r' 0:Nat):Int):=by omega
        refine .inl ⟨_,by simp only[go_sem,S,Y,h6,Fz,E,G,O,J,tl,f1,f2,f3,r1,r2,rl,r3,r4,r5,r6,r7,s1,a1,c1,w1,w2,n0,n3,n5,n7,k1,k2,q0,q1,q2,q3,q4,q5,q6,a6,e2,b3,z0,z1,z2];rfl,?_⟩;simp only[go_sem,S,Y,h6,Fz,E,O,z0,J];exact⟨rfl,rfl,r',rfl,b2.keep (.inr ⟨g2,by omega⟩),_,rfl,⟨_,_,_,rfl⟩,fun r2 e=>by rw[show r2=r' by omega]⟩
      .rw[sD g2]at e2
       refine .inl ⟨_,by simp only[go_sem,S,Y,h6,Fz,E,G,O,J,tl,f1,f2,f3,r1,r2,rl,r3,r4,r5,r6,r7,s1,a1,c1,w1,w2,n0,n3,n5,n7,k1,k2,q0,a6,e2,z0,z1,z2];rfl,?_⟩;simp only[go_sem,S,Y,h6,Fz,E,O,z0,J];exact⟨rfl,rfl,r',rfl,b2.keep (.inl (by grind)),_,rfl,⟨_,_,_,rfl⟩,fun r2 e=>by rw[show r2=r' by omega]⟩
   .have c1:Am (BP D.R i k).num 0<=0:=(Ug _).mpr hp
    refine .inl ⟨_,by simp only[go_sem,S,Y,h6,Fz,E,G,O,f1,f2,f3,r1,r2,rl,r3,r4,r5,r6,r7,s1,a1,c1];rfl,?_⟩;simp only[go_sem,S,Y,h6,Fz,E,O];exact⟨rfl,rfl,a7,r,rfl,hb.skip hp,_,a8,⟨_,_,_,rfl⟩,b4⟩) (by
   clear hL;rintro ⟨T,σ,nx⟩ ⟨S,Y,h6,Fz,E,G,a7,r,O,hb,_⟩;simp only at S Y h6 Fz E G a7 O;refine⟨_,by simp only[go_sem,E,G,zk];rfl,by simp,_,_,_,r,rfl,?_,hb⟩;simp only[go_sem,O]) (by
   simp only[go_sem];exact⟨rfl,-1,rfl,.inl ⟨rfl,fun j hj=>absurd hj (zX _)⟩,_,rfl,⟨_,_,_,rfl⟩,fun r' e=>by omega⟩)
 exact⟨r,by simp only[go_sem,O],hb⟩
theorem fD{σ:Store}{b n d:Nat}{x:List Rat}(h:σ b=some ⟨x.flatMap cQ,3,true⟩)(E:x.length=n):strip σ (d+1) (.rs b 0 n)=some (LL cQ x,[b]):=by
 have G:=bZ (c:=cQ) (s:=3) qG x;rw[aQ,h];simp only[zi,yX,yY];rw[sH (by omega),zl (by omega),aW (qF σ d) x];show some (V.ts _ n,[b])=_;rw[<- E]
theorem KC{σ:Store}{n d:Nat}:∀ {rb:List Nat} {R:List (List Rat)},rb.length=R.length->(∀i (h:i<rb.length),σ rb[i]=some ⟨(Eh R i).flatMap cQ,3,true⟩)->(∀x∈R,x.length=n)->∃ids,stripL (strip σ (d+1)) (rb.map fun b=>V.rs b 0 n)=some (R.flatMap QV,ids)
 |[],[],_,_,_=>⟨[],rfl⟩
 |[],_ :: _,h,_,_=>by simp at h
 |_ :: _,[],h,_,_=>by simp at h
 |b :: rb,x :: R,h,hr,hn=>by
  obtain⟨ids,hi⟩:=KC (rb:=rb) (R:=R) (d:=d) (by simpa using h) (fun i hi=>by
   have:=hr (i+1) (by simpa using hi);exact this) fun y E=>hn y (zY _ E)
  have G:σ b=some ⟨x.flatMap cQ,3,true⟩:=hr 0 (by simp);refine⟨[b]++ids,?_⟩;rw[uo,ah,fD G (hn x zM)];simp only[zi];rw[hi];rfl
theorem GV.aie{σ:Store}{v:V}{n d:Nat}{cs t:List V}{ids:List Nat}(h:GV σ v n cs)(G:cs.length=n)(E:stripL (strip σ d) cs=some (t,ids)):∃J,strip σ (d+1) v=some (.ts t n,J):=by
 rcases h with ⟨rfl,rfl⟩|⟨b,hn,rfl,hb⟩
 .have:cs=[]:=zZ G
  subst this;rw[aX]at E;simp only[sO,sN]at E;obtain⟨rfl,rfl⟩:=E;exact⟨[],by rw[aS]⟩
 .refine⟨b :: ids,?_⟩
  rw[aQ,hb];simp only[zi,yQ,yX,yY];rw[sH (by omega),zl (by omega),E];rfl
theorem abl{σ:Store}{bt bc:Nat}{vr vb:V}{rb:List Nat}{D:TQ}{N:Nat}(h:EW σ bt bc vr vb rb D N)(hs:ShF D N):∃ids,strip σ 7 (.rp bt 0)=some (Ox D N,ids):=by
 obtain⟨ids,E⟩:=KC (d:=4) h.len h.row hs.row;obtain⟨S,Y⟩:=h.r.aie (by rw[zS,h.len]) E;have O:(BR D.B).length=D.R.length:=by rw[aA];exact hs.Bc
 obtain⟨G,s2⟩:=h.b.aie (d:=5) (by rw[qL,O]) (CZ ..);have J:strip σ 6 vb=some (LI (BR D.B),G):=by
  rw[s2];show some (V.ts _ D.R.length,G)=some (V.ts _ (BR D.B).length,G);rw[O]
 have s3:strip σ 6 (.rs bc 0 (N+1))=some (LL cQ D.c,[bc]):=fD (d:=5) h.c hs.Gm;have key:stripL (strip σ 6) [I N,vr,vb,.rs bc 0 (N+1)]=some (FM D N,[]++(S++(G++([bc]++[])))):=by
  simp only[ah,Y,J,s3,aP,aX,zG,zi];rfl
 exact⟨_,by rw[ML,h.t,zi,key];rfl⟩
theorem atb(Qp:TQ->Prop){N:Nat}(lex:Bool){d:Nat}(hd:d=if lex=true then N+1 else 1)(hI:∀D,Qp D->ShF D N/\D.B.Nodup)(a8:∀D D',Qp D->Ny N d D D'->Qp D')
  {σ:Store} {nx bt bc:Nat} {vr vb:V} {rb:List Nat} {D:TQ} {n:Nat} (b7:Qp D) (hn:WQ N d n D) (h:EW σ bt bc vr vb rb D N) (b8:∀b∈bt :: bc :: (bk vr++bk vb++rb),b<nx) :
  ∃σ' nx' G D',ev ZL pI Ad 185 [.rp bt 0,Bo lex] σ nx=some (Bo G,σ',nx')/\akF N d D G D'/\Qp D'/\EW σ' bt bc vr vb rb D' N/\nx<=nx'/\∀b,b<nx->b∉bc :: (bk vb++rb)->σ' b=σ b:=by
 rw[mg [.tmp 4] [] func185];simp only[go_sem];generalize hL:dI _ _=y;obtain⟨x,rfl,T1,a6,nI,G,D1,rfl,t4,hR,hQ,hT,J,fr⟩:=jQ hL (fun m st=>st.T 0= .rp bt 0/\st.T 1=Bo lex/\nx<=st.nx/\(∀b,b<nx->b∉bc :: (bk vb++rb)->st.σ b=σ b)/\∃D1,GH N d D D1/\Qp D1/\EW st.σ bt bc vr vb rb D1 N/\WQ N d m D1)
  (fun x=>∃T σ' nx' G D',x=(.ret,⟨T,σ',nx'⟩)/\T 4=Bo G/\akF N d D G D'/\Qp D'/\EW σ' bt bc vr vb rb D' N/\nx<=nx'/\∀b,b<nx->b∉bc :: (bk vb++rb)->σ' b=σ b) (by
   clear hL;rintro m ⟨T,a6,nI⟩ ⟨t0,t1,J,fr,D1,hr,hQ,hT,b3⟩;simp only at t0 t1 J hT;obtain⟨hS,b9⟩:=hI D1 hQ;obtain⟨ids,O⟩:=abl hT hS;have S:=hT.t;have hN:=hS.sz;refine bC ?_
   conv=>
    enter [1,r,1,1]
    simp only[go_sem,t0,t1]
   generalize hL:dI _ _=z;obtain⟨x,rfl,T2,hx⟩:=oZ hL N (fun k st=>st.T 0= .rp bt 0/\st.T 1=Bo lex/\st.T 6=I k/\st.σ=a6/\st.nx=nI/\((st.T 5=I (-1)/\∀j,j<k->j∉D1.B->¬Lp d (LD D1 j))\/∃s:Nat,st.T 5=I s/\LG N d D1 s))
    (fun x=>∃T,x=(.exit 2,⟨T,a6,nI⟩)/\T 0= .rp bt 0/\T 1=Bo lex/\((T 5=I (-1)/\∀j,j<N->j∉D1.B->¬Lp d (LD D1 j))\/∃s:Nat,T 5=I s/\LG N d D1 s)) (by
     clear hL;rintro k ⟨T,σ2,BX⟩ hk ⟨t0,t1,t6,Y,E,h5⟩;simp only at t0 t1 t6 Y E h5;subst Y E;have f1:(k:Int)<(N:Int):=by omega
     have f3:=ZT (n:=(k:Int)+1);rcases h5 with ⟨t5,a1⟩|⟨s,t5,hE⟩
     .have m1:(-1:Int)<0:=by decide
      have k1:=apn (D:=D1) (N:=N) (by have:=hS.Bc;have:=hS.Gn;omega) k
      by_cases hB:k∈D1.B
      .rw[sF hB]at k1
       refine .inl ⟨_,by simp only[go_sem,t0,t1,t5,t6,S,O,f1,f3,m1,k1];rfl,?_⟩;simp only[go_sem,t0,t1,t5];refine⟨rfl,.inl fun j hj a7=>?_⟩
       by_cases e:j=k
       .subst e;exact absurd hB a7
       .exact a1 j (by omega) a7
      .rw[sD hB]at k1
       obtain⟨z,k2,hz⟩:=ata hS b9 hk hB lex;rw[<- hd]at hz
       by_cases hp:0<z
       .refine .inl ⟨_,by simp only[go_sem,t0,t1,t5,t6,S,O,f1,f3,m1,k1,k2,hp];rfl,?_⟩
        simp only[go_sem,t0,t1];exact⟨rfl,.inr ⟨k,rfl,hk,hB,hz.mp hp,a1⟩⟩
       .refine .inl ⟨_,by simp only[go_sem,t0,t1,t5,t6,S,O,f1,f3,m1,k1,k2,hp];rfl,?_⟩
        simp only[go_sem,t0,t1,t5];refine⟨rfl,.inl fun j hj a7=>?_⟩
        by_cases e:j=k
        .subst e;exact fun hl=>hp (hz.mpr hl)
        .exact a1 j (by omega) a7
     .have m1:¬(s:Int)<0:=by omega
      refine .inr ⟨_,by simp only[go_sem,t0,t1,t5,t6,S,f1,m1];rfl,by simp,_,rfl,?_⟩;simp only[go_sem,t0,t1,t5];exact .inr ⟨s,rfl,hE⟩) (by
     clear hL;rintro ⟨T,σ2,BX⟩ ⟨t0,t1,t6,Y,E,h5⟩;simp only at t0 t1 t6 Y E h5;subst Y E;refine⟨_,by simp only[go_sem,t0,t1,t6,S,zk];rfl,by simp,_,rfl,?_⟩;simp only[go_sem,t0,t1];exact h5) (by
     simp only[go_sem,t0,t1];exact .inl fun j hj=>absurd hj (zX _))
   obtain⟨rfl,t0,t1,h5⟩:=hx;rcases h5 with ⟨t5,b4⟩|⟨s,t5,hE⟩
   .have m1:(-1:Int)<0:=by decide
    refine⟨_,by simp only[go_sem,t0,t1,t5,m1];rfl,.inr ⟨by simp,_,_,_,true,D1,rfl,?_⟩⟩;simp only[go_sem];exact⟨⟨hr,.inl ⟨rfl,b4⟩⟩,hQ,hT,J,fr⟩
   .have m1:¬(s:Int)<0:=by omega
    obtain⟨r,k3,hb⟩:=apq hS hE.lt;rcases hb with ⟨rfl,hb⟩|⟨r',rfl,b5,c0,c2,c3⟩
    .have m2:(-1:Int)<0:=by decide
     refine⟨_,by simp only[go_sem,t0,t1,t5,m1,O,k3,m2];rfl,.inr ⟨by simp,_,_,_,false,D1,rfl,?_⟩⟩;simp only[go_sem];exact⟨⟨hr,.inr ⟨rfl,s,hE,hb⟩⟩,hQ,hT,J,fr⟩
    .have m2:¬(r':Int)<0:=by omega
     have b2:Ny N d D1 (Nw D1 r' s):=⟨s,r',hE,⟨b5,c0,c2,c3⟩,rfl⟩;have b6:=a8 _ _ hQ b2;obtain⟨c5,Au,k4,NT,c6,c4⟩:=aic hT hS (hI _ b6).1 (fun b hb=>wz (b8 b hb) J) b5 hE.lt (by grind);cases m with
     |zero=>exact absurd b3 id
     |succ m'=>
      refine⟨_,by simp only[go_sem,qB,t0,t1,t5,m1,O,k3,m2,k4];rfl,.inl ⟨_,rfl,m',by omega,?_⟩⟩;simp only[go_sem,t0,t1];exact⟨by omega,fun b hb hn=>(c4 b (by omega) hn).trans (fr b hb hn),_,hr.tail b2,b6,NT,b3 _ b2⟩) n (by
   simp only[go_sem];exact⟨fun _ _ _=>trivial,D,GH.refl D,b7,h,hn⟩)
 exact⟨a6,nI,G,D1,by simp only[go_sem,t4],hR,hQ,hT,J,fr⟩
attribute [-go_sem] qw
theorem apr{m n:Nat}{A b c:List Int}(hA:A.length=m*n)(hm:m<=1000)(hn:n<=1000){i:Nat}(hi:i<m) :
  fn ZL conv ext 239 [.agg (CO m n A b c),I i]=some (.ts (((A.drop (i*n)).take n).flatMap cI) n):=by
 have Y:i*n<=m*n:=zL _ (by omega);have E:(i+1)*n<=m*n:=zL _ (by omega);have h3:m*n<=1000*1000:=xq hm hn;have G:IntKind.i64.wrap ((i:Int)*(n:Int))=((i*n:Nat):Int):=by rw[ZT (by rw[<- yh];omega) (by rw[<- yh];omega),yh]
 have f1:=ZT (n:=(i:Int)+1);have J:IntKind.i64.wrap (((i:Int)+1)*(n:Int))=(((i+1)*n:Nat):Int):=by rw[show((i:Int)+1)=((i+1:Nat):Int)from rfl,ZT (by rw[<- yh];omega) (by rw[<- yh];omega),yh]
 have f3:((i*n:Nat):Int)<=(((i+1)*n:Nat):Int):=Int.ofNat_le.mpr (zL _ (by omega));have f4:(((i+1)*n:Nat):Int)<=((A.length:Nat):Int):=by rw[hA];exact Int.ofNat_le.mpr E
 have f6:(0:Int)<=((i*n:Nat):Int):=by omega
 have f7:(0:Int)<=(((i+1)*n:Nat):Int):=by omega
 have f8:(i+1)*n-i*n=n:=by rw[xk];omega
 have O:i*n<=(i+1)*n:=zL _ (by omega);have S:(i+1)*n<=A.length:=by omega
 unfold CO;rw[m_,mg [.tmp 4] [] func239];simp only[go_sem,G,J,f1,f3,f4,f6,f7,f8,O,S];rw[Xj,qJ]
def FN(f:Nat->Int):Nat->Int
 |0=>0
 |k+1=>FN f k+f k
def EX(A b:List Int)(m n k:Nat):List Int:=(List.range (n+m+1)).map fun j=>if j<n\/j=n+m then FN (fun i=>cell0 A b m n i j) k else 0
def qs(z:List Int):List Rat:=z.map fun(x:Int)=>(x:Rat)
def Dq(A b:List Int)(m n k:Nat):TQ:=⟨(En A b m n k).map qs,(List.range k).map fun i=>n+i,qs (EX A b m n k)⟩
theorem og(A b:List Int)(m n k:Nat):(EX A b m n k).length=n+m+1:=by simp[EX]
theorem abm(A b:List Int)(m n:Nat):EX A b m n 0=List.replicate (n+m+1) 0:=by
 unfold EX FN;simp[List.map_const']
def aif(A b c:List Int)(m n:Nat)(σ:Store)(nx k:Nat)(σ':Store)(nx':Nat)(bt:Nat):Prop:=∃bc vr vb rb,EW σ' bt bc vr vb rb (Dq A b m n k) (n+m)/\(∀x∈bt :: bc :: (bk vr++bk vb++rb),nx<x/\x<nx')/\∀x,x<nx->σ' x=σ x
def GK(v:V)(σ:Store)(lo nx:Nat)(L:List Rat):Prop:=(L=[]/\v= .nil)\/∃b,L≠[]/\lo<=b/\b<nx/\v= .rs b 0 L.length/\σ b=some ⟨L.flatMap cQ,3,true⟩
theorem rG{v:V}{σ:Store}{lo nx:Nat}{L:List Rat}(h:GK v σ lo nx L)(S:lo<=nx)(x:Rat)(Y:L.length<100000) :
  ∃σ',Ag (upd σ nx (some ⟨cQ x,3,true⟩)) (nx+1) 3 56 v (cQ x) 1=some (.rs (nx+1) 0 (L.length+1),σ',nx+1+1)/\GK (.rs (nx+1) 0 (L.length+1)) σ' lo (nx+1+1) (L++[x])/\∀y,y<lo->σ' y=σ y:=by
 have hg:Cb cQ 3 (fun _=>v) σ nx 0 L:=by
  rcases h with ⟨rfl,rfl⟩|⟨b,G,h2,J,E,O⟩
  .exact .inl ⟨rfl,rfl⟩
  .exact .inr ⟨b,E,G,O,J⟩
 obtain⟨σ',g1,g2,g3⟩:=kW (bytes:=56) qG (fun _=>rfl) (by decide) hg x Y (by decide);refine⟨σ',g1,.inr ⟨nx+1,by simp,by omega,by omega,by rw[zo];rfl,g2⟩,fun y hy=>g3 y (by omega) fun b o l e=>?_⟩;rcases h with ⟨rfl,rfl⟩|⟨b',G,h2,J,E,O⟩
 .cases e
 .rw[E]at e;cases e;omega
theorem pq{A b:List Int}{m n i:Nat}(E:∀x∈A,-1000<=x/\x<=1000)(G:∀x∈b,-1000<=x/\x<=1000)(j:Nat):-1000<=cell0 A b m n i j/\cell0 A b m n i j<=1000:=by
 have J:=Qz (b:=b) (i:=i) (lD E (i*n+j));have O:=Qz (b:=b) (i:=i) (lD G i);unfold cell0
 split
 .omega
 .split
  .split<;>omega
  .omega
theorem acM{f:Nat->Int}(h:∀i,-1000<=f i/\f i<=1000):∀k:Nat,-(1000*(k:Int))<=FN f k/\FN f k<=1000*(k:Int)
 |0=>by unfold FN;omega
 |k+1=>by
  have:=acM h k;have:=h k;unfold FN;omega
theorem gU(z:List Int):(qs z).length=z.length:=by simp[qs]
theorem Oz{z:List Int}{j:Nat}(h:j<z.length):(qs z)[j]'(by rw[gU];exact h)=((z[j]:Int):Rat):=by simp[qs]
theorem I4(A b:List Int)(m n k:Nat){j:Nat}(h:j<n+m+1):(EX A b m n k)[j]'(by rw[og];exact h)=if j<n\/j=n+m then FN (fun i=>cell0 A b m n i j) k else 0:=by simp[EX]
theorem aii{A b:List Int}{m n k:Nat}(E:∀x∈A,-1000<=x/\x<=1000)(G:∀x∈b,-1000<=x/\x<=1000)(J:k<=400){j:Nat}(h:j<n+m+1):-1000000<=(EX A b m n k)[j]'(by rw[og];exact h)/\(EX A b m n k)[j]'(by rw[og];exact h)<=1000000:=by
 rw[I4 _ _ _ _ _ h];have:=acM (f:=fun i=>cell0 A b m n i j) (fun i=>pq E G j) k
 split<;>omega
theorem aps{A b c:List Int}{m n:Nat}(hA:A.length=m*n)(hb:b.length=m)(hm:m<=400)(hn:n<=400)(b5:∀x∈A,-1000<=x/\x<=1000)(a7:∀x∈b,-1000<=x/\x<=1000)(σ:Store)(nx:Nat) :
  ∃σ' nx' bt,ev ZL pI Ad 184 [.agg (CO m n A b c)] σ nx=some (.rp bt 0,σ',nx')/\aif A b c m n σ nx m σ' nx' bt:=by
 obtain⟨N,hN⟩:∃N,N=n+m:=⟨_,rfl⟩;have f1:(n:Int)+(m:Int)=(N:Int):=by omega
 have f2:=ZT (n:=(N:Int));obtain⟨s0,b6⟩:∃s0,s0=upd (upd σ nx (some ⟨CO m n A b c,0,true⟩)) (nx+1) (some ⟨[I N,.nil,.nil,.nil],0,true⟩):=⟨_,rfl⟩;have Yo:∀x,x<nx->s0 x=σ x:=fun x hx=>by rw[b6,Zm,Zm]
 have n0:s0 nx=some ⟨CO m n A b c,0,true⟩:=by rw[b6,Zm,Zk]
 have n6:s0 (nx+1)=some ⟨[I N,.nil,.nil,.nil],0,true⟩:=by rw[b6,Zk]
 have k0:fn ZL conv ext 133 [I 0]=some (.agg (cQ 0)):=dO 0 (by decide) (by decide)
 unfold CO at b6⊢;rw[mg [.tmp 2] [5,30,33] func184];simp only[go_sem,f1,f2,<- b6];generalize hL:dI _ _=y;obtain⟨x,rfl,T1,a6,nI,bc,rfl,t1,t3,n1,g1,g2,g3,g4,n7⟩:=oZ hL (N+1) (fun j st=>st.T 1= .rp nx 0/\st.T 3= .rp (nx+1) 0/\st.T 4=I j/\nx+2<=st.nx/\st.σ nx=some ⟨CO m n A b c,0,true⟩/\(∀x,x<nx->st.σ x=σ x)/\((j=0/\st.σ (nx+1)=some ⟨[I N,.nil,.nil,.nil],0,true⟩)\/∃bc,0<j/\nx+1<bc/\bc<st.nx/\st.σ (nx+1)=some ⟨[I N,.nil,.nil,.rs bc 0 j],0,true⟩/\st.σ bc=some ⟨(List.replicate j (0:Rat)).flatMap cQ,3,true⟩))
  (fun x=>∃T a6 nI bc,x=(.exit 0,⟨T,a6,nI⟩)/\T 1= .rp nx 0/\T 3= .rp (nx+1) 0/\nx+1<bc/\bc<nI/\a6 nx=some ⟨CO m n A b c,0,true⟩/\a6 (nx+1)=some ⟨[I N,.nil,.nil,.rs bc 0 (N+1)],0,true⟩/\a6 bc=some ⟨(List.replicate (N+1) (0:Rat)).flatMap cQ,3,true⟩/\∀x,x<nx->a6 x=σ x) (by
   clear hL;rintro j ⟨T,a6,nI⟩ hj ⟨t1,t3,t4,b4,sn,fr,hc⟩;simp only at t1 t3 t4 b4 sn fr hc;have g1:(j:Int)<=(N:Int):=by omega
   have g3:=ZT (n:=(j:Int)+1);have y1:nx+1<nI:=by omega
   have y2:nx+1<nI+1:=by omega
   have y3:nI<nI+1:=by omega
   have y4:¬nx+1=nI:=by omega
   have y5:¬nx+1=nI+1:=by omega
   have y6:(nx+1==nI)=false:=by rw[sG];omega
   have y7:(nI==nx+1)=false:=by rw[sG];omega
   have y8:nx+1<nI+1+1:=by omega
   have y9:=jD N;rcases hc with ⟨rfl,st⟩|⟨bc,n8,c1,c2,st,sc⟩
   .refine .inl ⟨_,by simp only[go_sem,t1,t3,t4,st,g1,g3,k0,y1,y2,y3,y4,y5,y6,y7,y8,y9];rfl,?_⟩
    simp only[go_sem,t1,t3];refine⟨rfl,by omega,?_,fun x hx=>?_,.inr ⟨nI+1,by omega,by omega,rfl,?_⟩⟩
    .rw[Zm,Zm,Zm];exact sn
    .rw[Zm,Zm,Zm];exact fr x hx
    .rw[Zm,Zk];rfl
   .have e9:=r_ (σ:=restrict (upd a6 nI (some ⟨cQ 0,3,true⟩)) [bc,nI]) (nx:=nI+1) (size:=3) (bytes:=56) (b:=bc) (len:=j) (m:=1) (row:=cQ 0) (by rw[fK,Zm];exact sc) (by rw[bZ qG,yU]) (by decide) (by decide) (by unfold maxLen;omega) (by omega) rfl
    have x1:bc<nI+1:=by omega
    have x2:(nx+1==bc)=false:=by rw[sG];omega
    have x3:(bc==nx+1)=false:=by rw[sG];omega
    have x4:¬nx+1=bc:=by omega
    refine .inl ⟨_,by simp only[go_sem,t1,t3,t4,st,g1,g3,k0,y1,y2,y3,y4,y5,y6,y7,y8,y9,e9,x1,x2,x3,x4];rfl,?_⟩;simp only[go_sem,t1,t3];refine⟨rfl,by omega,?_,fun x hx=>?_,.inr ⟨nI+1,by omega,by omega,by omega,rfl,?_⟩⟩
    .rw[Zm,Zm,Zm,Zm];exact sn
    .rw[Zm,Zm,Zm,Zm];exact fr x hx
    .rw[Zm,Zk,uD,zT];simp) (by
   clear hL;rintro ⟨T,a6,nI⟩ ⟨t1,t3,t4,b4,sn,fr,hc⟩;simp only at t1 t3 t4 b4 sn fr hc;rcases hc with ⟨h0,_⟩|⟨bc,n8,c1,c2,st,sc⟩
   .omega
   .have g1:¬((N+1:Nat):Int)<=(N:Int):=by omega
    refine⟨_,by simp only[go_sem,t3,t4,st,g1];rfl,by simp,_,_,_,bc,rfl,?_⟩;simp only[go_sem,t1,t3];exact⟨c1,c2,sn,st,sc,fr⟩) (by
   simp only[go_sem];exact⟨n0,Yo,.inl n6⟩)
 clear hL;have i0:aif A b c m n σ nx 0 a6 nI (nx+1):=by
  refine⟨bc,.nil,.nil,[],⟨?_,.inl ⟨rfl,rfl⟩,fun i h=>absurd h (zX _),.inl ⟨rfl,rfl⟩,?_,rfl,?_⟩,fun x hx=>?_,n7⟩
  .rw[<- hN];exact g3
  .rw[g4]
   show _=some (FT.mk ((qs (EX A b m n 0)).flatMap cQ) 3 true);rw[abm,<- hN];unfold qs;rw[List.map_replicate];rfl
  .simp only[bk,zC,xW,w_,yc,not_false_iff,true_and,List.nodup_nil,and_true]
   omega
  .simp only[bk,zC,zV,yc,or_false]at hx
   omega
 simp only[go_sem,t1,t3];generalize hL:dI _ _=y;obtain⟨x,rfl,T2,σ2,BX,rfl,t3,hF⟩:=oZ hL m (fun i st=>st.T 1= .rp nx 0/\st.T 3= .rp (nx+1) 0/\st.T 5=I i/\nx+2<=st.nx/\st.σ nx=some ⟨CO m n A b c,0,true⟩/\aif A b c m n σ nx i st.σ st.nx (nx+1))
  (fun x=>∃T σ2 BX,x=(.exit 2,⟨T,σ2,BX⟩)/\T 3= .rp (nx+1) 0/\aif A b c m n σ nx m σ2 BX (nx+1)) (by
   clear hL;rintro i ⟨T,σ2,BX⟩ hi ⟨t1,t3,t5,b4,sn,bc,vr,vb,rb,hT,b7,fr⟩;simp only at t1 t3 t5 b4 sn hT b7 fr;unfold CO at sn;have g1:(i:Int)<(m:Int):=by omega
   have g2:=jD i;have g3:=ZT (n:=(i:Int)+1);have g9:(i:Int)<(b.length:Int):=by omega
   have g10:(b.flatMap cI)[i]?=some (I (b.getD i 0)):=by
    rw[idx (by omega),zx,zy (by omega)];rfl
   have g11:=AU b i (by omega);have k1:=apr (b:=b) (c:=c) hA (by omega) (by omega) hi;unfold CO at k1;obtain⟨R0,c5⟩:∃R0,R0=qs (row0 A b m n i):=⟨_,rfl⟩;have c7:R0.length=N+1:=by rw[c5,gU,fE,hN]
   have c8:∀j (h:j<R0.length),R0[j]=((cell0 A b m n i j:Int):Rat):=fun j h=>by
    subst c5;rw[Oz (by rw[fE];omega),fF _ _ _ _ _ (by omega)]
   have c9:∀j,j<R0.length->R0.take j++[((cell0 A b m n i j:Int):Rat)]=R0.take (j+1):=fun j h=>by
    rw[yM,zy h,c8 j h];rfl
   have kI:∀j,fn ZL conv ext 133 [I (cell0 A b m n i j)]=some (.agg (cQ ((cell0 A b m n i j:Int):Rat))):=fun j=>by
    have:=pq (i:=i) (m:=m) (n:=n) b5 a7 j;exact dO _ (by omega) (by omega)
   have e0:=Xm b i;refine bC ?_
   by_cases b8:b.getD i 0<0
   case' pos=>
    replace e0:sg b i= -1:=by unfold sg;rw[sH b8]
   case' neg=>
    replace e0:sg b i=1:=by unfold sg;rw[sJ b8]
   all_goals
    conv=>
     enter [1,r,1,1]
     simp only[go_sem,t1,t3,t5,sn,g1,g2,g9,g10,g11,k1,b8]
    generalize hL:dI _ _=z;obtain⟨x,rfl,T3,G,Au,rfl,t1,t3,t5,t6,J,O,Y⟩:=oZ hL n (fun k st=>st.T 1= .rp nx 0/\st.T 3= .rp (nx+1) 0/\st.T 5=I i/\st.T 6=I (sg b i)/\st.T 53= .ts (((A.drop (i*n)).take n).flatMap cI) n/\st.T 54=I n/\st.T 55=I k/\BX<=st.nx/\GK (st.T 7) st.σ BX st.nx (R0.take k)/\∀y,y<BX->st.σ y=σ2 y)
     (fun x=>∃T G Au,x=(.exit 4,⟨T,G,Au⟩)/\T 1= .rp nx 0/\T 3= .rp (nx+1) 0/\T 5=I i/\T 6=I (sg b i)/\BX<=Au/\GK (T 7) G BX Au (R0.take n)/\∀y,y<BX->G y=σ2 y) (by
      clear hL;rintro k ⟨T,G,Au⟩ hk ⟨t1,t3,t5,t6,t53,t54,t55,J,O,Y⟩;simp only at t1 t3 t5 t6 t53 t54 t55 J O Y;have f1:(k:Int)<(n:Int):=by omega
      have f2:=jD k;have f3:=ZT (n:=(k:Int)+1);have s1:i*n+n<=A.length:=by
       have:(i+1)*n<=m*n:=zL _ (by omega);rw[xk]at this;omega
      have f4:(((A.drop (i*n)).take n).flatMap cI)[k]?=some (I (A.getD (i*n+k) 0)):=by
       rw[idx (by simp;omega),uG,List.getElem_drop,zx,zy (by omega)];rfl
      have f5:=AU ((A.drop (i*n)).take n) k (by simp;omega);have ec:cell0 A b m n i k=sg b i*A.getD (i*n+k) 0:=by unfold cell0;rw[sH hk]
      have bd:=pq (i:=i) (m:=m) (n:=n) b5 a7 k;have k2:=kI k;rw[ec]at bd k2;have f6:=ZT (n:=sg b i*A.getD (i*n+k) 0);obtain⟨CP,a1,a2,a3⟩:=rG O J ((sg b i*A.getD (i*n+k) 0:Int):Rat) (by rw[zh];omega);rw[<- ec,c9 k (by omega)]at a2;refine .inl ⟨_,by simp only[go_sem,t1,t3,t5,t6,t53,t54,t55,f1,f2,f3,f4,f5,f6,k2,a1];rfl,?_⟩;simp only[go_sem,t1,t3,t5,t6,t53,t54];exact⟨rfl,by omega,a2,fun y S=>(a3 y S).trans (Y y S)⟩) (by
      clear hL;rintro ⟨T,G,Au⟩ ⟨t1,t3,t5,t6,t53,t54,t55,J,O,Y⟩;simp only at t1 t3 t5 t6 t53 t54 t55 J O Y;refine⟨_,by simp only[go_sem,t54,t55,zk];rfl,by simp,_,_,_,rfl,?_⟩;simp only[go_sem,t1,t3,t5,t6];exact⟨J,O,Y⟩) (by
      simp only[go_sem,t1,t3,t5,e0];exact⟨.inl ⟨rfl,rfl⟩,fun _ _=>trivial⟩)
    clear hL
    conv=>
     enter [1,r,1,1]
     simp only[go_sem,t1,t3,t5,t6]
    generalize hL:dI _ _=z;obtain⟨x,rfl,T4,CP,Fe,rfl,t1,t3,t5,t6,n9,O,e1⟩:=oZ hL m (fun k st=>st.T 1= .rp nx 0/\st.T 3= .rp (nx+1) 0/\st.T 5=I i/\st.T 6=I (sg b i)/\st.T 10=I k/\BX<=st.nx/\GK (st.T 7) st.σ BX st.nx (R0.take (n+k))/\∀y,y<BX->st.σ y=σ2 y)
     (fun x=>∃T G Au,x=(.exit 6,⟨T,G,Au⟩)/\T 1= .rp nx 0/\T 3= .rp (nx+1) 0/\T 5=I i/\T 6=I (sg b i)/\BX<=Au/\GK (T 7) G BX Au (R0.take (n+m))/\∀y,y<BX->G y=σ2 y) (by
      clear hL;rintro k ⟨T,G,Au⟩ hk ⟨t1,t3,t5,t6,t10,J,O,Y⟩;simp only at t1 t3 t5 t6 t10 J O Y;have f1:(k:Int)<(m:Int):=by omega
      have f3:=ZT (n:=(k:Int)+1);have Uk:G nx=_:=(Y nx (by omega)).trans sn;have k2:=kI (n+k);have ec:cell0 A b m n i (n+k)=if k=i then 1 else 0:=by
       unfold cell0;rw[sJ (by omega),sH (by omega)]
       by_cases h:k=i
       .rw[sH h,sH (by omega)]
       .rw[sJ h,sJ (by omega)]
      obtain⟨CP,a1,a2,a3⟩:=rG O J ((cell0 A b m n i (n+k):Int):Rat) (by rw[zh];omega);rw[c9 (n+k) (by omega)]at a2
      by_cases e2:k=i
      .rw[sH e2]at ec
       rw[ec]at k2 a1;have c1:((k:Int)==(i:Int))=true:=by rw[e2];simp
       refine .inl ⟨_,by simp only[go_sem,t1,t3,t5,t6,t10,Uk,f1,f3,c1,k2,a1];rfl,?_⟩;simp only[go_sem,t1,t3,t5,t6];exact⟨rfl,by omega,a2,fun y S=>(a3 y S).trans (Y y S)⟩
      .rw[sJ e2]at ec
       rw[ec]at k2 a1;have c1:((k:Int)==(i:Int))=false:=by rw[sG];omega
       refine .inl ⟨_,by simp only[go_sem,t1,t3,t5,t6,t10,Uk,f1,f3,c1,k2,a1];rfl,?_⟩;simp only[go_sem,t1,t3,t5,t6];exact⟨rfl,by omega,a2,fun y S=>(a3 y S).trans (Y y S)⟩) (by
      clear hL;rintro ⟨T,G,Au⟩ ⟨t1,t3,t5,t6,t10,J,O,Y⟩;simp only at t1 t3 t5 t6 t10 J O Y;have Uk:G nx=_:=(Y nx (by omega)).trans sn;refine⟨_,by simp only[go_sem,t1,t10,Uk,zk];rfl,by simp,_,_,_,rfl,?_⟩;simp only[go_sem,t1,t3,t5,t6];exact⟨J,O,Y⟩) (by
      simp only[go_sem,t1,t3,t5,t6];exact⟨J,O,Y⟩)
    clear hL;have o0:CP nx=_:=(e1 nx (by omega)).trans sn;have ec:cell0 A b m n i (n+m)=sg b i*b.getD i 0:=by unfold cell0;rw[sJ (by omega),sJ (by omega)]
    have bd:=pq (i:=i) (m:=m) (n:=n) b5 a7 (n+m);have k2:=kI (n+m);obtain⟨EG,a1,a2,a3⟩:=rG O n9 ((cell0 A b m n i (n+m):Int):Rat) (by rw[zh];omega);have eL:(R0.take (n+m)).length=N:=by rw[zh];omega
    have eF:R0.take (n+m+1)=R0:=zl (by omega);rw[eL,c9 (n+m) (by omega),eF]at a2;rw[ec]at bd k2 a1;rw[eL]at a1;have f6:=ZT (n:=sg b i*b.getD i 0)
    conv=>
     enter [1,r,1,1]
     simp only[go_sem,t1,t3,t5,t6,o0,g1,g2,g9,g10,g11,f6,k2,a1]
    obtain⟨e3,e4,o2,h6,o3,h7,b9⟩:=hT;rw[<- hN]at e3 e4;obtain⟨bw,h8⟩:∃bw,bw=Fe+1:=⟨_,rfl⟩;have h9:EG bw=some ⟨R0.flatMap cQ,3,true⟩:=by
     rcases a2 with ⟨h,_⟩|⟨b',h1,h2,h3,h4,h5⟩
     .rw[h]at c7;simp at c7
     .simp only[V.rs.injEq]at h4
      rw[h8,h4.1];exact h5
    rw[<- h8];have f5:∀y,y<BX->EG y=σ2 y:=fun y S=>(a3 y S).trans (e1 y S)
    have o4:=b7 bc (by simp);obtain⟨C0,c0⟩:∃C0,C0=qs (EX A b m n i):=⟨_,rfl⟩;obtain⟨C1,e5⟩:∃C1,C1=qs (EX A b m n (i+1)):=⟨_,rfl⟩;have i1:C0.length=N+1:=by rw[c0,gU,og,hN]
    have s2:C1.length=N+1:=by rw[e5,gU,og,hN]
    have o5:σ2 bc=some ⟨C0.flatMap cQ,3,true⟩:=by rw[c0];exact o3
    clear a1 a2 a3 O k2 e1;generalize hL:dI _ _=z;obtain⟨x,rfl,T5,DF,E,rfl,t1,t3,t5,t7,KX,o6,QX⟩:=oZ hL (N+1) (fun k st=>st.T 1= .rp nx 0/\st.T 3= .rp (nx+1) 0/\st.T 5=I i/\st.T 7= .rs bw 0 (N+1)/\st.T 93=I ((N+1:Nat):Int)/\st.T 94=I k/\bw+1<=st.nx/\st.σ bc=some ⟨(DV C1 C0 k).flatMap cQ,3,true⟩/\∀y,y<bw+1->y≠bc->st.σ y=EG y)
     (fun x=>∃T G Au,x=(.exit 8,⟨T,G,Au⟩)/\T 1= .rp nx 0/\T 3= .rp (nx+1) 0/\T 5=I i/\T 7= .rs bw 0 (N+1)/\bw+1<=Au/\G bc=some ⟨C1.flatMap cQ,3,true⟩/\∀y,y<bw+1->y≠bc->G y=EG y) (by
      clear hL;rintro k ⟨T,G,Au⟩ hk ⟨t1,t3,t5,t7,t93,t94,J,a8,Y⟩;simp only at t1 t3 t5 t7 t93 t94 J a8 Y;have q1:(k:Int)<((N+1:Nat):Int):=by omega
      have q2:=jD k;have q3:=ZT (n:=(k:Int)+1);have Uk:G nx=_:=(Y nx (by omega) (by omega)).trans ((f5 nx (by omega)).trans sn);have Yk:G (nx+1)=_:=(Y (nx+1) (by omega) (by simp only[xW,zV,not_or]at b9;exact b9.1.1)).trans ((f5 (nx+1) (by omega)).trans e3);have i2:G bw=_:=(Y bw (by omega) (by omega)).trans h9;have hC:C1.length=C0.length:=by omega
      have c3:C1[k]'(by omega)=if k<n\/k=n+m then C0[k]'(by omega)+R0[k]'(by omega)else C0[k]'(by omega):=by
       subst e5 c0;rw[Oz (by rw[og];omega),Oz (by rw[og];omega),c8,I4 _ _ _ _ _ (by omega),I4 _ _ _ _ _ (by omega)]
       by_cases h:k<n\/k=n+m
       .rw[sH h,sH h,sH h]
        rw[show FN (fun i=>cell0 A b m n i k) (i+1)=FN (fun i=>cell0 A b m n i k) i+cell0 A b m n i k from rfl,Rat.intCast_add]
       .rw[sJ h,sJ h,sJ h]
      have l0:Ln 1 (C0[k]'(by omega)):=by
       subst c0;rw[Oz (by rw[og];omega)];exact ru (aii b5 a7 (by omega) (by omega))
      have l1:Ln 1 (R0[k]'(by omega)):=by
       rw[c8];exact ru (by have:=pq (i:=i) (m:=m) (n:=n) b5 a7 k;omega)
      have g4:=d_ (c:=cQ) (s:=3) qG (DV C1 C0 k) k (by rw[jF hC (by omega)];omega);rw[IY hC (by omega)]at g4;have g5:=bZ (c:=cQ) (s:=3) qG (DV C1 C0 k);rw[jF hC (by omega),i1]at g5;have g6:k*3+3<=(N+1)*3:=by omega
      have g7:=d_ (c:=cQ) (s:=3) qG R0 k (by omega);have g8:=bZ (c:=cQ) (s:=3) qG R0;rw[c7]at g8;have k2:=acK (C0[k]'(by omega)) (R0[k]'(by omega)) l0 l1 (by decide);have l1:nx+1<Au:=by omega
      have l2:bc<Au:=by omega
      have l3:bw<Au:=by omega
      by_cases b2:k<n\/k=n+m
      .rw[sH b2]at c3
       have c6:patch ((DV C1 C0 k).flatMap cQ) (k*3) (cQ (C0[k]'(by omega)+R0[k]'(by omega)))=(DV C1 C0 (k+1)).flatMap cQ:=by
        rw[iF qG _ _ (by rw[jF hC (by omega)];omega),<- c3,IZ hC (by omega)]
       by_cases s3:k<n
       .have q4:(k:Int)<(n:Int):=by omega
        refine .inl ⟨_,by simp only[go_sem,t1,t3,t5,t7,t93,t94,Uk,Yk,a8,i2,q1,q2,q3,q4,g4,g5,g6,g7,g8,k2,c6,l1,l2,l3];rfl,?_⟩;simp only[go_sem,t1,t3,t5,t7,t93];refine⟨rfl,J,fun y S hn=>?_⟩;rw[Zl _ _ hn];exact Y y S hn
       .have q4:¬(k:Int)<(n:Int):=by omega
        have q5:((k:Int)==(N:Int))=true:=by rw[beq_iff_eq];omega
        refine .inl ⟨_,by simp only[go_sem,t1,t3,t5,t7,t93,t94,Uk,Yk,a8,i2,q1,q2,q3,q4,q5,g4,g5,g6,g7,g8,k2,c6,l1,l2,l3];rfl,?_⟩;simp only[go_sem,t1,t3,t5,t7,t93];refine⟨rfl,J,fun y S hn=>?_⟩;rw[Zl _ _ hn];exact Y y S hn
      .rw[sJ b2]at c3
       have q4:¬(k:Int)<(n:Int):=by omega
       have q5:((k:Int)==(N:Int))=false:=by rw[sG];omega
       refine .inl ⟨_,by simp only[go_sem,t1,t3,t5,t7,t93,t94,Uk,Yk,q1,q2,q3,q4,q5];rfl,?_⟩;simp only[go_sem,t1,t3,t5,t7,t93];refine⟨rfl,J,?_,Y⟩;rw[<- QU hC (by omega) c3];exact a8) (by
      clear hL;rintro ⟨T,G,Au⟩ ⟨t1,t3,t5,t7,t93,t94,J,a8,Y⟩;simp only at t1 t3 t5 t7 t93 t94 J a8 Y;refine⟨_,by simp only[go_sem,t93,t94,zk];rfl,by simp,_,_,_,rfl,?_⟩;simp only[go_sem,t1,t3,t5,t7];refine⟨J,?_,Y⟩;rw[<- i1,JU (by omega)]at a8;exact a8) (by
      simp only[go_sem,t1,t3,t5];refine⟨?_,fun _ _ _=>trivial⟩;rw[JR,f5 bc o4.2];exact o5)
    clear hL;simp only[xW,zV,not_or]at b9;obtain⟨⟨n1,n2⟩,n3,n4⟩:=b9;have f6:∀y,y<BX->y≠bc->DF y=σ2 y:=fun y S hn=>(QX y (by omega) hn).trans (f5 y S)
    have p0:DF bw=some ⟨R0.flatMap cQ,3,true⟩:=(QX bw (by omega) (by omega)).trans h9;have i3:DF (nx+1)=some ⟨[I N,vr,vb,.rs bc 0 (N+1)],0,true⟩:=(f6 (nx+1) (by omega) n1).trans e3;have c4:DF nx=_:=(f6 nx (by omega) (by omega)).trans sn;have q0:(Dq A b m n i).R.length=i:=by unfold Dq En;simp
    rw[q0]at e4 h6 h7;have fin:∀(σ':Store) (nx' Hr b3:Nat),E<=Hr->Hr<nx'->E<=b3->b3<nx'->Hr≠b3->σ' (nx+1)=some ⟨[I N,.rs Hr 0 (i+1),.rs b3 0 (i+1),.rs bc 0 (N+1)],0,true⟩->σ' Hr=some ⟨(rb++[bw]).map fun b=>V.rs b 0 (N+1),1,true⟩->σ' b3=some ⟨(BR ((List.range (i+1)).map fun i=>n+i)).flatMap cI,1,true⟩->(∀y,y<E->y≠nx+1->y∉bk vr++bk vb->σ' y=DF y)->aif A b c m n σ nx (i+1) σ' nx' (nx+1):=fun σ' nx' Hr b3 p1 p2 p3 p4 p5 p6 p7 p8 p9=>by
     have b2:∀y,y∈bk vr++bk vb++rb->y≠nx+1/\y≠bc/\nx<y/\y<BX:=fun y S=>⟨fun e=>n2 (e ▸ S),fun e=>n3 (e ▸ S),b7 y (by simp only[zV];exact .inr (.inr S))⟩
     have e6:(Dq A b m n (i+1)).R.length=i+1:=by unfold Dq En;simp
     have i4:=List.nodup_append.mp n4;have i5:∀y,y<BX->y≠nx+1->y≠bc->y∉bk vr++bk vb->σ' y=σ2 y:=fun y h1 h2 h3 h4=>(p9 y (by omega) h2 h4).trans (f6 y h1 h3)
     have q6:∀j,j<i->Eh (Dq A b m n (i+1)).R j=Eh (Dq A b m n i).R j:=fun j hj=>by
      rw[dR (by omega),dR (by omega)];simp[Dq,En]
     have q7:Eh (Dq A b m n (i+1)).R i=R0:=by
      rw[dR (by omega),c5];simp[Dq,En]
     refine⟨bc,.rs Hr 0 (i+1),.rs b3 0 (i+1),rb++[bw],⟨by rw[<- hN];exact p6,?_,fun j hj=>?_,?_,?_,?_,?_⟩,fun x hx=>?_,fun x hx=>?_⟩
     .rw[e6,<- hN];exact .inr ⟨Hr,by omega,rfl,p7⟩
     .rw[zo,yL]at hj
      by_cases e8:j<rb.length
      .rw[xY e8,q6 j (by omega)]
       have hm:=zu e8;have:=b2 rb[j] (yw _ hm);rw[i5 _ this.2.2.2 this.1 this.2.1 fun S=>i4.2.2 _ S _ hm rfl];exact o2 j e8
      .have:j=i:=by omega
       subst this;rw[vP (by omega),q7];simp only[List.getElem_singleton];rw[p9 bw (by omega) (by omega) fun S=>by have:=b2 bw (zD _ S);omega];exact p0
     .rw[e6];exact .inr ⟨b3,by omega,rfl,p8⟩
     .rw[p9 bc (by omega) (yu n1) fun S=>n3 (zD _ S)]
      show _=some (FT.mk ((qs (EX A b m n (i+1))).flatMap cQ) 3 true);rw[<- e5];exact o6
     .rw[e6,zo,h7];rfl
     .simp only[bk,yT,yO,xW,zV,wP,yc,or_false,not_or]
      have a7:∀y,y∈rb->y<BX:=fun y S=>(b2 y (yw _ S)).2.2.2
      refine⟨⟨n1,by omega,by omega,fun h=>n2 (yw _ h),by omega⟩,⟨by omega,by omega,fun h=>n3 (yw _ h),by omega⟩,⟨p5,fun h=>by have:=a7 _ h;omega,by omega⟩,⟨fun h=>by have:=a7 _ h;omega,by omega⟩,?_⟩;exact List.nodup_append.mpr ⟨i4.2.1,by simp,fun x hx y S=>by rw[List.mem_singleton.mp S];have:=a7 _ hx;omega⟩
     .simp only[bk,yT,yO,zV,wP,yc,or_false]at hx
      rcases hx with rfl|rfl|rfl|rfl|hx|rfl
      .omega
      .omega
      .omega
      .omega
      .have:=b2 x (yw _ hx);omega
      .omega
     .rw[i5 x (by omega) (by omega) (by omega) fun S=>by have:=b2 x (zD _ S);omega]
      exact fr x hx
    have w1:=ZT (n:=(n:Int)+(i:Int));have tB:BR ((List.range (i+1)).map fun i=>n+i)=BR ((List.range i).map fun i=>n+i)++[(n:Int)+(i:Int)]:=by
     unfold BR;rw[wJ,wQ,wQ];rfl
    have y1:nx<E:=by omega
    have y2:nx+1<E:=by omega
    have y3:¬nx+1=E:=by omega
    have y4:¬nx=E:=by omega
    have y5:(nx+1==E)=false:=by rw[sG];omega
    have y6:(E==nx+1)=false:=by rw[sG];omega
    have y7:bw<E:=by omega
    have y8:nx<E+1:=by omega
    have y9:nx+1<E+1:=by omega
    have XT:¬nx+1=E+1:=by omega
    have XU:¬nx=E+1:=by omega
    have XV:(nx+1==E+1)=false:=by rw[sG];omega
    have i6:(E+1==nx+1)=false:=by rw[sG];omega
    have XW:bw<E+1:=by omega
    have i7:nx<E+1+1:=by omega
    have i9:nx+1<E+1+1:=by omega
    have j0:¬nx+1=E+1+1:=by omega
    have j1:¬nx=E+1+1:=by omega
    have j2:(nx+1==E+1+1)=false:=by rw[sG];omega
    have j3:(E+1+1==nx+1)=false:=by rw[sG];omega
    have j4:bw<E+1+1:=by omega
    have j5:nx<E+1+1+1:=by omega
    have j6:nx+1<E+1+1+1:=by omega
    have j7:¬nx+1=E+1+1+1:=by omega
    have j8:¬nx=E+1+1+1:=by omega
    have j9:(nx+1==E+1+1+1)=false:=by rw[sG];omega
    have k3:(E+1+1+1==nx+1)=false:=by rw[sG];omega
    have k4:bw<E+1+1+1:=by omega
    have k5:nx<E+1+1+1+1:=by omega
    have k6:nx+1<E+1+1+1+1:=by omega
    have k7:¬nx+1=E+1+1+1+1:=by omega
    have k8:¬nx=E+1+1+1+1:=by omega
    have k9:(nx+1==E+1+1+1+1)=false:=by rw[sG];omega
    have l4:(E+1+1+1+1==nx+1)=false:=by rw[sG];omega
    have l5:bw<E+1+1+1+1:=by omega
    have l6:¬nx=nx+1:=by omega
    have l7:E+1+1<E+1+1+1:=by omega
    have l8:E<E+1:=by omega
    have l9:E+1<E+1+1:=by omega
    have m1:(nx==E)=false:=by rw[sG];omega
    have m2:(E==nx)=false:=by rw[sG];omega
    have m3:(nx==E+1)=false:=by rw[sG];omega
    have m4:(E+1==nx)=false:=by rw[sG];omega
    have m5:(nx==E+1+1)=false:=by rw[sG];omega
    have m6:(E+1+1==nx)=false:=by rw[sG];omega
    have m7:(nx==E+1+1+1)=false:=by rw[sG];omega
    have m8:(E+1+1+1==nx)=false:=by rw[sG];omega
    rcases e4 with ⟨hi0,rfl⟩|⟨br,hi0,rfl,q8⟩<;>rcases h6 with ⟨q9,rfl⟩|⟨bb,q9,rfl,r0⟩
    .have r1:rb=[]:=zZ (by omega)
     subst r1;refine⟨_,by simp only[go_sem,t1,t3,t5,t7,i3,c4,g3,w1,y1,y2,y3,y4,y5,y6,y7,y8,y9,XT,XU,XV,i6,XW,i7,i9,j0,j1,j2,j3,j4,j5,j6,j7,j8,j9,k3,k4,k5,k6,k7,k8,k9,l4,l5,l6,l7,l8,l9,m1,m2,m3,m4,m5,m6,m7,m8];rfl,.inl ⟨_,rfl,?_⟩⟩;simp only[go_sem,t1,t3,t5];refine⟨rfl,by omega,?_,fin _ _ (E+1) (E+1+1+1) (by omega) (by omega) (by omega) (by omega) (by omega) ?_ ?_ ?_ fun y h1 h2 _=>?_⟩
     .rw[Zm,Zm,Zm,Zm,Zm,Zm];exact c4
     .rw[Zk,hi0]
     .rw[Zm,Zm,Zm,Zm,Zk];rfl
     .rw[Zm,Zk,tB,hi0];rfl
     .rw[Zm,Zm,Zm,Zm,Zm,Zm]
    .omega
    .omega
    .have lr:=b7 br (by simp[bk])
     have lb:=b7 bb (by simp[bk]);simp only[bk,yT,yO,zV,not_or]at n2 n3 n4;have n5:¬br=bb:=by
      rw[xW]at n4;exact fun e=>n4.1 (by rw[e];exact zM)
     have r2:DF br=_:=(f6 br lr.2 (fun e=>n3.1 e.symm)).trans q8;have r3:DF bb=_:=(f6 bb lb.2 (fun e=>n3.2.1 e.symm)).trans r0;have r4:=rC (σ:=upd DF E (some ⟨[V.rs bw 0 (N+1)],1,true⟩)) (nx:=E+1) (bytes:=24) (b:=br) (len:=i) (m:=1) (row:=[V.rs bw 0 (N+1)]) (by rw[Zm];exact r2) (by simp;omega) rfl (by decide) (by unfold maxLen;omega) (by omega) rfl;obtain⟨FU,e7⟩:∃FU,FU=upd (upd (upd (upd DF E (some ⟨[V.rs bw 0 (N+1)],1,true⟩)) br none) (E+1) (some ⟨(rb.map fun b=>V.rs b 0 (N+1))++[V.rs bw 0 (N+1)],1,true⟩)) (nx+1) (some ⟨[I N,.rs (E+1) 0 (i+1),.rs bb 0 i,.rs bc 0 (N+1)],0,true⟩):=⟨_,rfl⟩;have o7:∀y,y<E->y≠nx+1->y≠br->FU y=DF y:=fun y h1 h2 h3=>by rw[e7,Zl _ _ h2,Zm,Zl _ _ h3,Zm]
     have r5:FU (nx+1)=some ⟨[I N,.rs (E+1) 0 (i+1),.rs bb 0 i,.rs bc 0 (N+1)],0,true⟩:=by rw[e7,Zk]
     have m9:FU nx=_:=(o7 nx (by omega) (by omega) (by omega)).trans c4;have r6:FU bb=_:=(o7 bb (by omega) (by omega) (yu n5)).trans r3;have r7:((BR (Dq A b m n i).B).flatMap cI).length=i:=by rw[qL,aA];simp[Dq]
     have r8:=rC (σ:=restrict (upd FU (E+1+1) (some ⟨[I ((n:Int)+(i:Int))],1,true⟩)) [bb,E+1+1]) (nx:=E+1+1+1) (bytes:=8) (b:=bb) (len:=i) (m:=1) (row:=[I ((n:Int)+(i:Int))]) (by rw[fK,Zm];exact r6) r7 rfl (by decide) (by unfold maxLen;omega) (by omega) rfl;have u1:¬nx+1=br:=fun e=>n2.1 e
     have u2:¬nx+1=bb:=fun e=>n2.2.1 e
     have u3:(nx+1==bb)=false:=beq_false_of_ne u2;have u4:(bb==nx+1)=false:=beq_false_of_ne (yu u2);have u5:bb<E+1+1:=by omega
     have u6:bb<E+1+1+1:=by omega
     have u7:(nx==bb)=false:=by rw[sG];omega
     have u8:(bb==nx)=false:=by rw[sG];omega
     have u9:¬nx=br:=by omega
     have r9:¬nx=bb:=by omega
     refine⟨_,by simp only[go_sem,t1,t3,t5,t7,i3,c4,g3,w1,r4,<- e7,r5,m9,r8,u1,u2,u3,u4,u5,u6,u7,u8,u9,r9,y1,y2,y3,y4,y5,y6,y7,y8,y9,XT,XU,XV,i6,XW,i7,i9,j0,j1,j2,j3,j4,j5,j6,j7,j8,j9,k3,k4,k5,k6,k7,k8,k9,l4,l5,l6,l7,l8,l9,m1,m2,m3,m4,m5,m6,m7,m8];rfl,.inl ⟨_,rfl,?_⟩⟩;simp only[go_sem,t1,t3,t5];refine⟨rfl,by omega,?_,fin _ _ (E+1) (E+1+1+1) (by omega) (by omega) (by omega) (by omega) (by omega) ?_ ?_ ?_ fun y h1 h2 h3=>?_⟩
     .rw[Zm,Zm,Zm,Zm];exact m9
     .rw[Zk]
     .rw[Zm,Zm,Zm,Zm,e7,Zm,Zk,wQ];rfl
     .rw[Zm,Zk,tB,zT];rfl
     .simp only[bk,yT,yO,zV,yc,or_false,not_or]at h3
      rw[Zl _ _ h2,Zm,Zl _ _ h3.2,Zm];exact o7 y h1 h2 h3.1) (by
   clear hL;rintro ⟨T,σ2,BX⟩ ⟨t1,t3,t5,b4,sn,hF⟩;simp only at t1 t3 t5 b4 sn hF;unfold CO at sn;refine⟨_,by simp only[go_sem,t1,t5,sn,zk];rfl,by simp,_,_,_,rfl,?_⟩;simp only[go_sem,t3];exact hF) (by
   simp only[go_sem,t1,t3];exact⟨by omega,g2,i0⟩)
 exact⟨σ2,BX,nx+1,by simp only[go_sem,t3],hF⟩
def Ew(n:Nat)(D:TQ)(i:Nat):Prop:=n<=D.B.getD i 0->∀j,j<n->BP D.R i j=0
theorem Ew.piv{n N:Nat}{D:TQ}{i k r:Nat}(E:∀x∈D.R,x.length=N+1)(hl:D.B.length=D.R.length)(h:Ew n D r)(O:r<D.R.length)(hi:i<D.R.length)(S:k<n)(hn:n<=N)(G:r≠i):Ew n (Nw D i k) r:=fun Y j hj=>by
 have J:n<=D.B.getD r 0:=by
  have:(D.B.set i k).getD r 0=D.B.getD r 0:=by
   rw[zx,zx,List.getElem?_set_ne (yu G)]
  rw[<- this];exact Y
 show BP (DN D.R i k) r j=0;rw[S_ E hi O (by omega),sJ G,h J j hj,h J k S];grind
def GY(c:List Int):List Rat:=qs c++[0]
def D2q(n:Nat)(D:TQ)(c:List Int):TQ:=⟨(pick n D.R D.B).1,(pick n D.R D.B).2,clears (GY c) (pick n D.R D.B).1 (pick n D.R D.B).2⟩
theorem aeZ{α:Type}{c:α->List V}{s:Nat}(hc:∀x,(c x).length=s)(xs:List α){k:Nat}(h:k<=xs.length):(xs.flatMap c).take (k*s)=(xs.take k).flatMap c:=by
 have:=wC k xs
 conv=>lhs;rw[<- this]
 rw[zT,wu];rw[bZ hc,zh,xK h]
theorem QY{n:Nat}(x:List Rat)(b:Nat):∀ {R:List (List Rat)} {B:List Nat},B.length=R.length->pick n (R++[x]) (B++[b])=if b<n then((pick n R B).1++[x.take n++[x.getLastD 0]],(pick n R B).2++[b])else pick n R B
 |[],[],_=>by
  show(if b<n then((x.take n++[x.getLastD 0]) :: (pick n [] []).1,b :: (pick n [] []).2)else pick n [] [])=_;rfl
 |[],_ :: _,h=>by simp at h
 |_ :: _,[],h=>by simp at h
 |y :: R,d :: B,h=>by
  have E:=QY (n:=n) x b (R:=R) (B:=B) (by simpa using h);show(if d<n then((y.take n++[y.getLastD 0]) :: (pick n (R++[x]) (B++[b])).1,d :: (pick n (R++[x]) (B++[b])).2)else pick n (R++[x]) (B++[b]))=if b<n then((if d<n then((y.take n++[y.getLastD 0]) :: (pick n R B).1,d :: (pick n R B).2)else pick n R B).1++_,(if d<n then((y.take n++[y.getLastD 0]) :: (pick n R B).1,d :: (pick n R B).2)else pick n R B).2++[b])else if d<n then((y.take n++[y.getLastD 0]) :: (pick n R B).1,d :: (pick n R B).2)else pick n R B
  rw[E]
  by_cases G:b<n<;>by_cases J:d<n<;>simp[G,J]
theorem I5{n:Nat}:∀ {R:List (List Rat)} {B:List Nat},(pick n R B).2.length=(pick n R B).1.length
 |[],_=>by simp[pick]
 |_ :: _,[]=>by simp[pick]
 |x :: R,b :: B=>by
  have E:=I5 (n:=n) (R:=R) (B:=B);unfold pick
  split<;>simp[E]
theorem I7{n:Nat}:∀ {R:List (List Rat)} {B:List Nat},(∀x∈(pick n R B).1,∃y∈R,x=y.take n++[y.getLastD 0])/\∀b∈(pick n R B).2,b<n
 |[],_=>by simp[pick]
 |_ :: _,[]=>by simp[pick]
 |y :: R,b :: B=>by
  obtain⟨O,S⟩:=I7 (n:=n) (R:=R) (B:=B);unfold pick
  split
  .refine⟨fun x E=>?_,fun d G=>?_⟩
   .rcases List.mem_cons.mp E with rfl|E
    .exact⟨y,zM,rfl⟩
    .obtain⟨z,J,e⟩:=O x E
     exact⟨z,zY _ J,e⟩
   .rcases List.mem_cons.mp G with rfl|G
    .assumption
    .exact S d G
  .refine⟨fun x E=>?_,S⟩
   obtain⟨z,J,e⟩:=O x E;exact⟨z,zY _ J,e⟩
theorem KD(x:List Rat)(b:Nat):∀ {R:List (List Rat)} {B:List Nat} {c:List Rat},B.length=R.length->clears c (R++[x]) (B++[b])=KQ (clears c R B) x ((clears c R B).getD b 0)
 |[],[],_,_=>rfl
 |[],_ :: _,_,h=>by simp at h
 |_ :: _,[],_,h=>by simp at h
 |y :: R,d :: B,c,h=>KD x b (R:=R) (B:=B) (c:=KQ c y (c.getD d 0)) (by simpa using h)
theorem OA{n:Nat}:∀ {R:List (List Rat)} {B:List Nat} {c:List Rat},c.length=n->(∀x∈R,x.length=n)->(clears c R B).length=n
 |[],_,_,h,_=>by unfold clears;exact h
 |_ :: _,[],_,h,_=>by unfold clears;exact h
 |x :: R,b :: B,c,h,hr=>OA (R:=R) (B:=B) (c:=KQ c x (c.getD b 0)) (by rw[pK (by rw[hr x zM,h]),h]) fun y E=>hr y (zY _ E)
theorem air{σ σ':Store}{bt bc br bb bw m0 N b:Nat}{vr vb:V}{rb:List Nat}{D:TQ}{x:List Rat}(h:EW σ bt bc vr vb rb D N)(hm:∀y∈bt :: bc :: (bk vr++bk vb++rb),y<m0)(p1:m0<=br)(p2:m0<=bb)(p3:m0<=bw)(p4:br≠bb)(p5:br≠bw)(p6:bb≠bw)
  (q1:σ' bt=some ⟨[I N,.rs br 0 (D.R.length+1),.rs bb 0 (D.R.length+1),.rs bc 0 (N+1)],0,true⟩) (q2:σ' br=some ⟨(rb++[bw]).map fun b=>V.rs b 0 (N+1),1,true⟩) (q3:σ' bb=some ⟨(BR (D.B++[b])).flatMap cI,1,true⟩) (q4:σ' bw=some ⟨x.flatMap cQ,3,true⟩) (fr:∀y,y<m0->y≠bt->y∉bk vr++bk vb->σ' y=σ y) :
  EW σ' bt bc (.rs br 0 (D.R.length+1)) (.rs bb 0 (D.R.length+1)) (rb++[bw]) ⟨D.R++[x],D.B++[b],D.c⟩ N:=by
 obtain⟨g1,g2,g3,g4,g5,g6,g7⟩:=h;have E:(D.R++[x]).length=D.R.length+1:=by simp
 simp only[xW,zV,not_or]at g7;obtain⟨⟨n1,n2⟩,n3,n4⟩:=g7;have Y:=List.nodup_append.mp n4;have a1:∀y,y∈bk vr++bk vb++rb->y<m0:=fun y G=>hm y (by simp only[zV];exact .inr (.inr G))
 have a7:=hm bt (by simp);have a6:=hm bc (by simp);refine⟨q1,?_,fun j hj=>?_,?_,?_,?_,?_⟩
 .show GV σ' _ (D.R++[x]).length _
  rw[E];exact .inr ⟨br,by omega,rfl,q2⟩
 .show _=some (FT.mk ((Eh (D.R++[x]) j).flatMap cQ) 3 true)
  rw[zo,yL]at hj
  by_cases J:j<rb.length
  .have e:Eh (D.R++[x]) j=Eh D.R j:=by rw[dR (by rw[E];omega),dR (by omega),xY (by omega)]
   rw[xY J,e];have O:=zu J;rw[fr _ (a1 _ (yw _ O)) (fun e=>n2 (e ▸ yw _ O)) fun G=>Y.2.2 _ G _ O rfl];exact g3 j J
  .have e:Eh (D.R++[x]) j=x:=by
    rw[dR (by rw[E];omega),vP (by omega)];simp
   rw[vP (by omega),e];simp only[List.getElem_singleton];exact q4
 .show GV σ' _ (D.R++[x]).length _
  rw[E];exact .inr ⟨bb,by omega,rfl,q3⟩
 .rw[fr bc a6 (yu n1) fun G=>n3 (zD _ G)];exact g5
 .show _=(D.R++[x]).length
  rw[E,zo,g6];rfl
 .simp only[bk,yT,yO,xW,zV,wP,yc,or_false,not_or]
  have S:∀y,y∈rb->y<m0:=fun y G=>a1 y (yw _ G)
  refine⟨⟨n1,by omega,by omega,fun h=>n2 (yw _ h),by omega⟩,⟨by omega,by omega,fun h=>n3 (yw _ h),by omega⟩,⟨p4,fun h=>by have:=S _ h;omega,p5⟩,⟨fun h=>by have:=S _ h;omega,p6⟩,?_⟩;exact List.nodup_append.mpr ⟨Y.2.1,by simp,fun x hx y G=>by rw[List.mem_singleton.mp G];have:=S _ hx;omega⟩
theorem alL(Qp:TQ->Prop){A b c:List Int}{m n N:Nat}(hc:c.length=n)(hN:N=n+m)(az_:n<=400)(hc1:∀x∈c,-1000<=x/\x<=1000)(hI:∀D,Qp D->ShF D N)
  (hpv:∀D i k,Qp D->i<D.R.length->n<=D.B.getD i 0->k<n->BP D.R i k≠0->Qp (Nw D i k))
  (hcl:∀D,Qp D->(∀i,i<D.R.length->Ew n D i)->∀q,q<=(pick n D.R D.B).1.length->∀u∈clears (GY c) ((pick n D.R D.B).1.take q) ((pick n D.R D.B).2.take q),Ln 6 u)
  {σ:Store} {nx bt bc:Nat} {vr vb:V} {rb:List Nat} {D:TQ} (hQ:Qp D) (h:EW σ bt bc vr vb rb D N) (b2:∀x∈bt :: bc :: (bk vr++bk vb++rb),x<nx) :
  ∃σ' nx' q8 O XY XZ Ho D',ev ZL pI Ad 186 [.agg (CO m n A b c),.rp bt 0] σ nx=some (.rp q8 0,σ',nx')/\Qp D'/\(∀i,i<D'.R.length->Ew n D' i)/\EW σ' q8 O XY XZ Ho (D2q n D' c) n/\(∀x∈q8 :: O :: (bk XY++bk XZ++Ho),nx<=x/\x<nx')/\∀x,x<nx->x∉bc :: (bk vb++rb)->σ' x=σ x:=by
 have hbt:=h.t;obtain⟨s0,l6⟩:∃s0,s0=upd σ nx (some ⟨CO m n A b c,0,true⟩):=⟨_,rfl⟩;have Yo:∀x,x<nx->s0 x=σ x:=fun x Y=>by rw[l6,Zm]
 have s0n:s0 nx=some ⟨CO m n A b c,0,true⟩:=by rw[l6,Zk]
 have w3:=(Yo bt (b2 bt (by simp))).trans hbt;have atr:EW s0 bt bc vr vb rb D N:=by
  obtain⟨g1,g2,g3,g4,g5,g6,g7⟩:=h;have gv:∀v n cs,(∀x∈bk v,x<nx)->GV σ v n cs->GV s0 v n cs:=fun v n cs Y hg=>by
   rcases hg with hg|⟨b,q1,rfl,q3⟩
   .exact .inl hg
   .exact .inr ⟨b,q1,rfl,(Yo b (Y b (by simp[bk]))).trans q3⟩
  refine⟨w3,gv _ _ _ (fun x Y=>b2 x (by simp[Y])) g2,fun i hi=>(Yo _ (b2 _ (by simp[zu hi]))).trans (g3 i hi),gv _ _ _ (fun x Y=>b2 x (by simp[Y])) g4,(Yo bc (b2 bc (by simp))).trans g5,g6,g7⟩
 have hlR:∀D1:TQ,EW s0 bt bc vr vb rb D1 N->D1.R.length=rb.length:=fun D1 h1=>h1.len.symm
 obtain⟨L,eL⟩:∃L,L=D.R.length:=⟨_,rfl⟩;have az':L<=1000:=by have:=(hI D hQ).Gn;omega
 have hlen:Dz ZL 235 vr=some (I L):=by
  rcases h.r with ⟨q1,rfl⟩|⟨br,q1,rfl,_⟩
  .have:L=0:=by omega
   subst this;exact nU (by kernel_rfl)
  .rw[eL];exact nT (by kernel_rfl)
 unfold CO at l6⊢;rw[mg [.tmp 4] [14,15,21,22,27] func186];simp only[go_sem,<- l6,w3,hlen];generalize hL:dI _ _=y;obtain⟨x,rfl,T1,S,G,D1,rfl,t1,t2,j3,b8,k5,UK,c3,b9,n4⟩:=oZ hL L (fun i st=>st.T 1= .rp bt 0/\st.T 2= .rp nx 0/\st.T 18=I L/\st.T 19=I i/\nx+1<=st.nx/\st.σ nx=some ⟨CO m n A b c,0,true⟩/\(∀x,x<nx->x∉bc :: (bk vb++rb)->st.σ x=σ x)/\∃D1,Qp D1/\D1.R.length=L/\(∀q,q<i->Ew n D1 q)/\EW st.σ bt bc vr vb rb D1 N)
  (fun x=>∃T S G D1,x=(.exit 0,⟨T,S,G⟩)/\T 1= .rp bt 0/\T 2= .rp nx 0/\nx+1<=G/\S nx=some ⟨CO m n A b c,0,true⟩/\(∀x,x<nx->x∉bc :: (bk vb++rb)->S x=σ x)/\Qp D1/\(∀q,q<L->Ew n D1 q)/\EW S bt bc vr vb rb D1 N/\D1.R.length=L) (by
   clear hL;rintro i ⟨T,S,G⟩ hi ⟨t1,t2,Dp,t19,j3,b8,k5,D1,UK,q9,c3,b9⟩;simp only at t1 t2 Dp t19 j3 b8 b9;unfold CO at b8;have g1:(i:Int)<(L:Int):=by omega
   have g2:=jD i;have g3:=ZT (n:=(i:Int)+1);refine bC ?_
   conv=>
    enter [1,r,1,1]
    simp only[go_sem,t1,t2,Dp,t19,g1]
   generalize hL:dI _ _=z;obtain⟨x,rfl,T2,σ2,BX,D2,rfl,t1,t2,Dp,t19,c6,b3,j1,c7,b5,a6,a7⟩:=oZ hL n (fun j st=>st.T 1= .rp bt 0/\st.T 2= .rp nx 0/\st.T 18=I L/\st.T 19=I i/\st.T 5=I i/\st.T 6=I j/\nx+1<=st.nx/\st.σ nx=some ⟨[I m,I n,LI A,LI b,LI c],0,true⟩/\(∀x,x<nx->x∉bc :: (bk vb++rb)->st.σ x=σ x)/\∃D1,Qp D1/\D1.R.length=L/\(∀q,q<i->Ew n D1 q)/\EW st.σ bt bc vr vb rb D1 N/\(n<=D1.B.getD i 0->∀q,q<j->BP D1.R i q=0))
    (fun x=>∃T S G D1,x=(.exit 2,⟨T,S,G⟩)/\T 1= .rp bt 0/\T 2= .rp nx 0/\T 18=I L/\T 19=I i/\nx+1<=G/\S nx=some ⟨[I m,I n,LI A,LI b,LI c],0,true⟩/\(∀x,x<nx->x∉bc :: (bk vb++rb)->S x=σ x)/\Qp D1/\D1.R.length=L/\(∀q,q<i+1->Ew n D1 q)/\EW S bt bc vr vb rb D1 N) (by
     clear hL;rintro j ⟨T,σ2,BX⟩ hj ⟨t1,t2,Dp,t19,t5,t6,c6,b3,j1,D2,c7,b5,a6,a7,hz⟩;simp only at t1 t2 Dp t19 t5 t6 c6 b3 a7;have q1:(j:Int)<(n:Int):=by omega
     have q2:=jD j;have q3:=ZT (n:=(j:Int)+1);have j4:=hI D2 c7;have r0:=a7.t;obtain⟨br,rfl,l7⟩:∃br,vr= .rs br 0 L/\σ2 br=some ⟨rb.map fun b=>V.rs b 0 (N+1),1,true⟩:=by
      rcases a7.r with ⟨e,_⟩|⟨br,_,e,e2⟩
      .omega
      .exact⟨br,by rw[e,b5],e2⟩
     obtain⟨bb,rfl,k6⟩:∃bb,vb= .rs bb 0 L/\σ2 bb=some ⟨(BR D2.B).flatMap cI,1,true⟩:=by
      rcases a7.b with ⟨e,_⟩|⟨bb,_,e,e2⟩
      .omega
      .exact⟨bb,by rw[e,b5],e2⟩
     have l1:nx<BX:=by omega
     have l2:bt<BX:=by have:=b2 bt (by simp);omega
     have l3:bb<BX:=by have:=b2 bb (by simp[bk]);omega
     have w4:=j4.Bc;have b1:=idx (xs:=BR D2.B) (k:=i) (by rw[aA];omega);rw[aB (by omega)]at b1
     by_cases hB:n<=D2.B.getD i 0
     .have c1:(n:Int)<=((D2.B.getD i 0:Nat):Int):=by omega
      have c0:i<rb.length:=by have:=a7.len;omega
      have r1:(rb.map fun b=>V.rs b 0 (N+1))[i]?=some (.rs rb[i] 0 (N+1)):=by rw[zF,zy c0];rfl
      have r2:=a7.row i c0;have rl:=dP j4.row (show i<D2.R.length by omega);have r3:=pX (R:=D2.R) (i:=i) (j:=j) (by omega);have r4:=bZ (c:=cQ) (s:=3) qG (Eh D2.R i);rw[rl]at r4;have r5:(j:Int)<((N+1:Nat):Int):=by omega
      have r6:j*3+3<=(N+1)*3:=by omega
      have bq:Ln 6 (BP D2.R i j):=by
       rw[<- oC (by omega)];exact j4.big _ (by rw[dR (show i<D2.R.length by omega)];exact zu _) _ (zu _)
      have k1:=dL (BP D2.R i j) (bq.mono (by decide));have s1:=abk (BP D2.R i j)
      by_cases h0:BP D2.R i j=0
      .rw[sF h0,um]at s1
       refine .inl ⟨_,by simp only[go_sem,t1,t2,Dp,t19,t5,t6,b3,r0,b5,l7,k6,b1,g1,g2,q1,q2,q3,c1,l1,l2,l3,r1,r2,r3,r4,r5,r6,k1,s1];rfl,?_⟩;simp only[go_sem,t1,t2,Dp,t19,t5];refine⟨rfl,c6,b3,j1,D2,c7,b5,a6,a7,fun _ q hq=>?_⟩
       by_cases e:q=j
       .subst e;exact h0
       .exact hz hB q (by omega)
      .rw[sD h0,vU]at s1
       have w5:=hpv D2 i j c7 (by omega) hB hj h0;obtain⟨a8,J,k2,NT,j5,Fh⟩:=aic (nx:=BX) a7 j4 (hI _ w5) (fun b hb=>by have:=b2 b hb;omega) (show i<D2.R.length by omega) (show j<N by omega) h0;have hl3:(Nw D2 i j).R.length=L:=(iC ..).trans b5;refine .inl ⟨_,by simp only[go_sem,qB,t1,t2,Dp,t19,t5,t6,b3,r0,b5,l7,k6,b1,g1,g2,q1,q2,q3,c1,l1,l2,l3,r1,r2,r3,r4,r5,r6,k1,s1,k2];rfl,?_⟩;simp only[go_sem,t1,t2,Dp,t19,t5];refine⟨rfl,by omega,?_,fun x Y l8=>(Fh x (by omega) l8).trans (j1 x Y l8),_,w5,hl3,fun q hq=>(a6 q hq).piv j4.row j4.Bc (by omega) (by omega) hj (by omega) (by omega),NT,fun hB3=>?_⟩
       .rw[Fh nx (by omega) fun hm=>by have:=b2 nx (by simp only[zV,wP]at hm⊢;rcases hm with h|h|h<;>simp[h]);omega]
        exact b3
       .have:(D2.B.set i j).getD i 0=j:=by rw[zx,sZ (by omega)];rfl
        have hB4:n<=(D2.B.set i j).getD i 0:=hB3;omega
     .have c1:¬(n:Int)<=((D2.B.getD i 0:Nat):Int):=by omega
      refine .inr ⟨_,by simp only[go_sem,t1,t2,Dp,t19,t5,t6,b3,r0,b5,k6,b1,g1,g2,q1,c1,l1,l2,l3];rfl,by simp,_,_,_,D2,rfl,?_⟩;simp only[go_sem,t1,t2,Dp,t19];refine⟨c6,b3,j1,c7,b5,fun q hq=>?_,a7⟩
      by_cases e:q=i
      .subst e;exact fun h=>absurd h hB
      .exact a6 q (by omega)) (by
     clear hL;rintro ⟨T,σ2,BX⟩ ⟨t1,t2,Dp,t19,t5,t6,c6,b3,j1,D2,c7,b5,a6,a7,hz⟩;simp only at t1 t2 Dp t19 t5 t6 c6 b3 a7;have l1:nx<BX:=by omega
     refine⟨_,by simp only[go_sem,t2,t6,b3,zk,l1];rfl,by simp,_,_,_,D2,rfl,?_⟩;simp only[go_sem,t1,t2,Dp,t19];refine⟨c6,b3,j1,c7,b5,fun q hq=>?_,a7⟩
     by_cases e:q=i
     .subst e;exact hz
     .exact a6 q (by omega)) (by
     simp only[go_sem,t1,t2,Dp,t19];exact⟨j3,b8,k5,D1,UK,q9,c3,b9,fun _ q hq=>absurd hq (zX _)⟩)
   refine⟨_,by simp only[go_sem,t19,g3];rfl,.inl ⟨_,rfl,?_⟩⟩;simp only[go_sem,t1,t2,Dp];exact⟨rfl,c6,b3,j1,D2,c7,b5,a6,a7⟩) (by
   clear hL;rintro ⟨T,S,G⟩ ⟨t1,t2,Dp,t19,j3,b8,k5,D1,UK,q9,c3,b9⟩;simp only at t1 t2 Dp t19 j3 b8 b9;refine⟨_,by simp only[go_sem,Dp,t19,zk];rfl,by simp,_,_,_,D1,rfl,?_⟩;simp only[go_sem,t1,t2];exact⟨j3,b8,k5,UK,c3,b9,q9⟩) (by
   simp only[go_sem];exact⟨s0n,fun x Y _=>Yo x Y,D,hQ,eL.symm,fun q hq=>absurd hq (zX _),atr⟩)
 clear hL;have kI:∀j,fn ZL conv ext 133 [I (c.getD j 0)]=some (.agg (cQ ((c.getD j 0:Int):Rat))):=fun j=>by
  have:=lD hc1 j;exact dO _ (by omega) (by omega)
 have k0:fn ZL conv ext 133 [I 0]=some (.agg (cQ 0)):=dO 0 (by decide) (by decide)
 have snp:∀j,j<n->(qs c).take j++[((c.getD j 0:Int):Rat)]=(qs c).take (j+1):=fun j h=>by
  rw[yM,zy (by rw[gU];omega),Oz (by omega),lF (by omega)];rfl
 unfold CO at b8;have d1:¬nx=G:=by omega
 simp only[go_sem,t1,t2,b8,d1];generalize hL:dI _ _=y;obtain⟨x,rfl,T3,a8,J,rfl,t1,t2,t7,j5,Uk,Fh,j2⟩:=oZ hL n (fun j st=>st.T 1= .rp bt 0/\st.T 2= .rp nx 0/\st.T 7= .rp G 0/\st.T 8=I j/\G<st.nx/\st.σ nx=some ⟨[I m,I n,LI A,LI b,LI c],0,true⟩/\(∀x,x<G->st.σ x=S x)/\((j=0/\st.σ G=some ⟨[I n,.nil,.nil,.nil],0,true⟩)\/∃bc,0<j/\G<bc/\bc<st.nx/\st.σ G=some ⟨[I n,.nil,.nil,.rs bc 0 j],0,true⟩/\st.σ bc=some ⟨((qs c).take j).flatMap cQ,3,true⟩))
  (fun x=>∃T a8 J,x=(.exit 4,⟨T,a8,J⟩)/\T 1= .rp bt 0/\T 2= .rp nx 0/\T 7= .rp G 0/\G<J/\a8 nx=some ⟨[I m,I n,LI A,LI b,LI c],0,true⟩/\(∀x,x<G->a8 x=S x)/\((n=0/\a8 G=some ⟨[I n,.nil,.nil,.nil],0,true⟩)\/∃bc,0<n/\G<bc/\bc<J/\a8 G=some ⟨[I n,.nil,.nil,.rs bc 0 n],0,true⟩/\a8 bc=some ⟨((qs c).take n).flatMap cQ,3,true⟩)) (by
   clear hL;rintro j ⟨T,a8,J⟩ hj ⟨t1,t2,t7,t8,j5,Uk,Fh,j2⟩;simp only at t1 t2 t7 t8 j5 Uk Fh j2;have g1:(j:Int)<(n:Int):=by omega
   have g2:=jD j;have g3:=ZT (n:=(j:Int)+1);have g4:(j:Int)<(c.length:Int):=by omega
   have g5:(c.flatMap cI)[j]?=some (I (c.getD j 0)):=by
    rw[idx (by omega),zx,zy (by omega)];rfl
   have g6:=AU c j (by omega);have k1:=kI j;have hs:=snp j hj;generalize ((c.getD j 0:Int):Rat)=w at k1 hs;have y1:nx<J:=by omega
   have y2:¬nx=J:=by omega
   have y3:(nx==J)=false:=by rw[sG];omega
   have y4:(J==nx)=false:=by rw[sG];omega
   have y5:G<J:=by omega
   have y6:¬G=J:=by omega
   have y7:(G==J)=false:=by rw[sG];omega
   have y8:(J==G)=false:=by rw[sG];omega
   have y9:nx<J+1:=by omega
   have XT:¬nx=J+1:=by omega
   have XU:(nx==J+1)=false:=by rw[sG];omega
   have XV:(J+1==nx)=false:=by rw[sG];omega
   have c8:G<J+1:=by omega
   have XW:¬G=J+1:=by omega
   have c9:(G==J+1)=false:=by rw[sG];omega
   have e8:(J+1==G)=false:=by rw[sG];omega
   have e9:nx<J+1+1:=by omega
   have h4:¬nx=J+1+1:=by omega
   have h5:(nx==J+1+1)=false:=by rw[sG];omega
   have h6:(J+1+1==nx)=false:=by rw[sG];omega
   have h7:G<J+1+1:=by omega
   have h8:¬G=J+1+1:=by omega
   have h9:(G==J+1+1)=false:=by rw[sG];omega
   have i0:(J+1+1==G)=false:=by rw[sG];omega
   have i1:¬nx=G:=by omega
   have i2:¬G=nx:=by omega
   have i3:(nx==G)=false:=by rw[sG];omega
   have i4:(G==nx)=false:=by rw[sG];omega
   have i5:J<J+1:=by omega
   have i6:J+1<J+1+1:=by omega
   rcases j2 with ⟨h0,st⟩|⟨O,hj0,c1,c2,st,sc⟩
   .have g7:(qs c).take 0=[]:=rfl
    refine .inl ⟨_,by simp only[go_sem,t1,t2,t7,t8,Uk,st,g1,g2,g3,g4,g5,g6,k1,y1,y2,y3,y4,y5,y6,y7,y8,y9,XT,XU,XV,c8,XW,c9,e8,e9,h4,h5,h6,h7,h8,h9,i0,i1,i2,i3,i4,i5,i6];rfl,?_⟩;simp only[go_sem,t1,t2,t7];refine⟨rfl,by omega,?_,fun x Y=>?_,.inr ⟨J+1,by omega,by omega,by omega,by rw[h0],?_⟩⟩
    .rw[Zm,Zm,Zm];exact Uk
    .rw[Zm,Zm,Zm];exact Fh x Y
    .rw[Zm,Zk,<- hs,h0,g7];simp
   .have k7:=r_ (σ:=restrict (upd a8 J (some ⟨cQ w,3,true⟩)) [O,J]) (nx:=J+1) (size:=3) (bytes:=56) (b:=O) (len:=j) (m:=1) (row:=cQ w) (by rw[fK,Zm];exact sc) (by rw[bZ qG,zh,gU];omega) (by decide) (by decide) (by unfold maxLen;omega) (by omega) rfl
    have x1:O<J+1:=by omega
    have x2:(G==O)=false:=by rw[sG];omega
    have x3:(O==G)=false:=by rw[sG];omega
    have x4:¬G=O:=by omega
    have x5:(nx==O)=false:=by rw[sG];omega
    have x6:(O==nx)=false:=by rw[sG];omega
    have x7:¬nx=O:=by omega
    refine .inl ⟨_,by simp only[go_sem,t1,t2,t7,t8,Uk,st,g1,g2,g3,g4,g5,g6,k1,k7,x1,x2,x3,x4,x5,x6,x7,y1,y2,y3,y4,y5,y6,y7,y8,y9,XT,XU,XV,c8,XW,c9,e8,e9,h4,h5,h6,h7,h8,h9,i0,i1,i2,i3,i4,i5,i6];rfl,?_⟩;simp only[go_sem,t1,t2,t7];refine⟨rfl,by omega,?_,fun x Y=>?_,.inr ⟨J+1,by omega,by omega,by omega,rfl,?_⟩⟩
    .rw[Zm,Zm,Zm,Zm];exact Uk
    .rw[Zm,Zm,Zm,Zm];exact Fh x Y
    .rw[Zm,Zk,<- hs,zT];simp) (by
   clear hL;rintro ⟨T,a8,J⟩ ⟨t1,t2,t7,t8,j5,Uk,Fh,j2⟩;simp only at t1 t2 t7 t8 j5 Uk Fh j2;refine⟨_,by simp only[go_sem,t2,t8,Uk,zk];rfl,by simp,_,_,_,rfl,?_⟩;simp only[go_sem,t1,t2,t7];exact⟨j5,Uk,Fh,j2⟩) (by
   simp only[go_sem,t1,t2];refine⟨by omega,?_,fun x Y=>?_,.inl trivial⟩
   .rw[Zl _ _ d1];exact b8
   .rw[Zm])
 clear hL;have y1:nx<J:=by omega
 have y2:¬nx=J:=by omega
 have y3:(nx==J)=false:=by rw[sG];omega
 have y4:(J==nx)=false:=by rw[sG];omega
 have y5:G<J:=by omega
 have y6:¬G=J:=by omega
 have y7:(G==J)=false:=by rw[sG];omega
 have y8:(J==G)=false:=by rw[sG];omega
 have y9:nx<J+1:=by omega
 have XT:¬nx=J+1:=by omega
 have XU:(nx==J+1)=false:=by rw[sG];omega
 have XV:(J+1==nx)=false:=by rw[sG];omega
 have c8:G<J+1:=by omega
 have XW:¬G=J+1:=by omega
 have c9:(G==J+1)=false:=by rw[sG];omega
 have e8:(J+1==G)=false:=by rw[sG];omega
 have e9:nx<J+1+1:=by omega
 have h4:¬nx=J+1+1:=by omega
 have h5:(nx==J+1+1)=false:=by rw[sG];omega
 have h6:(J+1+1==nx)=false:=by rw[sG];omega
 have h7:G<J+1+1:=by omega
 have h8:¬G=J+1+1:=by omega
 have h9:(G==J+1+1)=false:=by rw[sG];omega
 have i0:(J+1+1==G)=false:=by rw[sG];omega
 have i1:¬nx=G:=by omega
 have i2:(nx==G)=false:=by rw[sG];omega
 have i3:¬G=nx:=by omega
 have i4:(G==nx)=false:=by rw[sG];omega
 have i5:J<J+1:=by omega
 have i6:J+1<J+1+1:=by omega
 have s2:=b9.t;have ltt:=b2 bt (by simp);have k8:bt<J+1+1:=by omega
 have i7:¬bt=G:=by omega
 have i9:¬bt=J:=by omega
 have k9:¬bt=J+1:=by omega
 have hqs:(qs c).take n=qs c:=zl (by rw[gU];omega);rcases j2 with ⟨h0,st⟩|⟨O,hj0,c1,c2,st,sc⟩
 case' inl=>
  obtain⟨CP,e4⟩:∃CP,CP=upd (upd (upd a8 J (some ⟨cQ 0,3,true⟩)) (J+1) (some ⟨cQ 0,3,true⟩)) G (some ⟨[I n,.nil,.nil,.rs (J+1) 0 1],0,true⟩):=⟨_,rfl⟩;have w7:CP G=some ⟨[I n,.nil,.nil,.rs (J+1) 0 (n+1)],0,true⟩:=by rw[e4,Zk,h0]
  have w8:CP (J+1)=some ⟨(GY c).flatMap cQ,3,true⟩:=by
   have:c=[]:=zZ (by omega);rw[e4,Zm,Zk,this];rfl
  have l9:∀x,x<G->CP x=S x:=fun x Y=>by rw[e4,Zm,Zm,Zm];exact Fh x Y
  have s4:CP bt=_:=(l9 bt (by omega)).trans s2;simp only[go_sem,t1,t2,t7,st,k0,y1,y2,y3,y4,y5,y6,y7,y8,y9,XT,XU,XV,c8,XW,c9,e8,e9,h4,h5,h6,h7,h8,h9,i0,i1,i2,i3,i4,i5,i6,k8,i7,i9,k9,<- e4,s4,hlen]
 case' inr=>
  have k7:=r_ (σ:=restrict (upd a8 J (some ⟨cQ 0,3,true⟩)) [O,J]) (nx:=J+1) (size:=3) (bytes:=56) (b:=O) (len:=n) (m:=1) (row:=cQ 0) (by rw[fK,Zm];exact sc) (by rw[bZ qG,zh,gU];omega) (by decide) (by decide) (by unfold maxLen;omega) (by omega) rfl;have x1:O<J+1:=by omega
  have x2:(G==O)=false:=by rw[sG];omega
  have x3:(O==G)=false:=by rw[sG];omega
  have x4:¬G=O:=by omega
  have x7:¬bt=O:=by omega
  obtain⟨CP,e4⟩:∃CP,CP=upd (upd (upd (upd a8 J (some ⟨cQ 0,3,true⟩)) O none) (J+1) (some ⟨((qs c).take n).flatMap cQ++cQ 0,3,true⟩)) G (some ⟨[I n,.nil,.nil,.rs (J+1) 0 (n+1)],0,true⟩):=⟨_,rfl⟩;have w7:CP G=some ⟨[I n,.nil,.nil,.rs (J+1) 0 (n+1)],0,true⟩:=by rw[e4,Zk]
  have w8:CP (J+1)=some ⟨(GY c).flatMap cQ,3,true⟩:=by
   rw[e4,Zm,Zk,hqs];unfold GY;rw[zT];simp
  have l9:∀x,x<G->CP x=S x:=fun x Y=>by rw[e4,Zm,Zm,Zm,Zm];exact Fh x Y
  have s4:CP bt=_:=(l9 bt (by omega)).trans s2;simp only[go_sem,t1,t2,t7,st,k0,k7,x1,x2,x3,x4,x7,y1,y2,y3,y4,y5,y6,y7,y8,y9,XT,XU,XV,c8,XW,c9,e8,e9,h4,h5,h6,h7,h8,h9,i0,i1,i2,i3,i4,i5,i6,k8,i7,i9,k9,<- e4,s4,hlen]
 all_goals
  clear e4;have j6:=hI D1 UK;have w4:=j6.Bc;have hlR:=b9.len;generalize hL:dI _ _=y;obtain⟨x,rfl,T5,EG,E,j7,n0,c4,rfl,t7,j8,b4,Gp,GL⟩:=oZ hL L (fun i st=>st.T 1= .rp bt 0/\st.T 2= .rp nx 0/\st.T 7= .rp G 0/\st.T 95=vr/\st.T 96=I L/\st.T 97=I i/\J+1<st.nx/\(∀x,x<G->st.σ x=S x)/\∃XY XZ Ho,EW st.σ G (J+1) XY XZ Ho ⟨(pick n (D1.R.take i) (D1.B.take i)).1,(pick n (D1.R.take i) (D1.B.take i)).2,GY c⟩ n/\∀x∈G :: (J+1) :: (bk XY++bk XZ++Ho),G<=x/\x<st.nx)
   (fun x=>∃T EG E XY XZ Ho,x=(.exit 6,⟨T,EG,E⟩)/\T 7= .rp G 0/\J+1<E/\(∀x,x<G->EG x=S x)/\EW EG G (J+1) XY XZ Ho ⟨(pick n D1.R D1.B).1,(pick n D1.R D1.B).2,GY c⟩ n/\∀x∈G :: (J+1) :: (bk XY++bk XZ++Ho),G<=x/\x<E) (by
    clear hL;rintro i ⟨T,EG,E⟩ hi ⟨t1,t2,t7,t95,t96,t97,j8,b4,XY,XZ,Ho,Gp,GL⟩;simp only at t1 t2 t7 t95 t96 t97 j8 b4 Gp GL;obtain⟨br,rfl,l7⟩:∃br,vr= .rs br 0 L/\S br=some ⟨rb.map fun b=>V.rs b 0 (N+1),1,true⟩:=by
     rcases b9.r with ⟨e,_⟩|⟨br,_,e,e2⟩
     .omega
     .exact⟨br,by rw[e,n4],e2⟩
    obtain⟨bb,rfl,k6⟩:∃bb,vb= .rs bb 0 L/\S bb=some ⟨(BR D1.B).flatMap cI,1,true⟩:=by
     rcases b9.b with ⟨e,_⟩|⟨bb,_,e,e2⟩
     .omega
     .exact⟨bb,by rw[e,n4],e2⟩
    have c0:i<rb.length:=by omega
    obtain⟨bi,Fb⟩:∃bi,bi=rb[i]:=⟨_,rfl⟩;have lb1:=b2 br (by simp[bk]);have lb2:=b2 bb (by simp[bk]);have lb3:bi<nx:=by rw[Fb];exact b2 _ (by simp[zu c0])
    have g1:(i:Int)<(L:Int):=by omega
    have g2:=jD i;have g3:=ZT (n:=(i:Int)+1);have e1:EG bt=_:=(b4 bt (by omega)).trans s2;have e2:EG br=_:=(b4 br (by omega)).trans l7;have e3:EG bb=_:=(b4 bb (by omega)).trans k6;have e4:EG bi=some ⟨(Eh D1.R i).flatMap cQ,3,true⟩:=(b4 bi (by omega)).trans (by rw[Fb];exact b9.row i c0);have e5:EG nx=_:=(b4 nx (by omega)).trans b8;have r1:(rb.map fun b=>V.rs b 0 (N+1))[i]?=some (.rs bi 0 (N+1)):=by rw[zF,zy c0,Fb];rfl
    have b1:=idx (xs:=BR D1.B) (k:=i) (by rw[aA];omega);rw[aB (by omega)]at b1;have j9:=QY (n:=n) (Eh D1.R i) (D1.B.getD i 0) (R:=D1.R.take i) (B:=D1.B.take i) (by rw[zh,zh,w4]);have pR:D1.R.take i++[Eh D1.R i]=D1.R.take (i+1):=by rw[yM,zy (by omega),dR (by omega)];rfl
    have pB:D1.B.take i++[D1.B.getD i 0]=D1.B.take (i+1):=by rw[yM,zy (by omega),lF (by omega)];rfl
    rw[pR,pB]at j9;have l1:bt<E:=by omega
    have l2:bb<E:=by omega
    have l3:nx<E:=by omega
    by_cases hB:D1.B.getD i 0<n
    .rw[sH hB]at j9
     have c1:((D1.B.getD i 0:Nat):Int)<(n:Int):=by omega
     have rl:=dP j6.row (show i<D1.R.length by omega);obtain⟨w,ew⟩:∃w,w=(Eh D1.R i).take n:=⟨_,rfl⟩;have hwl:w.length=n:=by rw[ew,zh];omega
     obtain⟨z,ez⟩:∃z,z=BP D1.R i N:=⟨_,rfl⟩;have s5:(Eh D1.R i).getLastD 0=z:=by
      rw[List.getLastD_eq_getLast?,List.getLast?_eq_getElem?,rl,ez];unfold BP Eh;rw[zx];rfl
     rw[<- ew,s5]at j9;have r3:=pX (R:=D1.R) (i:=i) (j:=N) (by omega);rw[<- ez]at r3;have r4:=bZ (c:=cQ) (s:=3) qG (Eh D1.R i);rw[rl]at r4;have r5:(N:Int)<((N+1:Nat):Int):=by omega
     have r6:N*3+3<=(N+1)*3:=by omega
     have r7:=jD N;have r8:=jD n;have r9:(n:Int)<=((N+1:Nat):Int):=by omega
     have w9:n<=N+1:=by omega
     have x0:n*3<=(N+1)*3:=by omega
     have x8:((Eh D1.R i).flatMap cQ).take (n*3)=w.flatMap cQ:=by rw[ew,aeZ qG _ (by omega)]
     have x9:¬n=0:=by omega
     have y0:n<=maxLen/\n*56<=140737488355328:=by unfold maxLen;omega
     have y1:nx<E:=by omega
     have y2:¬nx=E:=by omega
     have y3:(nx==E)=false:=by rw[sG];omega
     have y4:(E==nx)=false:=by rw[sG];omega
     have y5:G<E:=by omega
     have y6:¬G=E:=by omega
     have y7:(G==E)=false:=by rw[sG];omega
     have y8:(E==G)=false:=by rw[sG];omega
     have y9:bt<E:=by omega
     have XT:¬bt=E:=by omega
     have XU:(bt==E)=false:=by rw[sG];omega
     have XV:(E==bt)=false:=by rw[sG];omega
     have c8:bi<E:=by omega
     have XW:¬bi=E:=by omega
     have c9:(bi==E)=false:=by rw[sG];omega
     have e8:(E==bi)=false:=by rw[sG];omega
     have e9:nx<E+1:=by omega
     have h4:¬nx=E+1:=by omega
     have h5:(nx==E+1)=false:=by rw[sG];omega
     have h6:(E+1==nx)=false:=by rw[sG];omega
     have h7:G<E+1:=by omega
     have h8:¬G=E+1:=by omega
     have h9:(G==E+1)=false:=by rw[sG];omega
     have i0:(E+1==G)=false:=by rw[sG];omega
     have i1:bt<E+1:=by omega
     have i2:¬bt=E+1:=by omega
     have i3:(bt==E+1)=false:=by rw[sG];omega
     have i4:(E+1==bt)=false:=by rw[sG];omega
     have i5:bi<E+1:=by omega
     have i6:¬bi=E+1:=by omega
     have z6:(bi==E+1)=false:=by rw[sG];omega
     have z7:(E+1==bi)=false:=by rw[sG];omega
     have z8:nx<E+1+1:=by omega
     have A0:¬nx=E+1+1:=by omega
     have A1:(nx==E+1+1)=false:=by rw[sG];omega
     have A2:(E+1+1==nx)=false:=by rw[sG];omega
     have A3:G<E+1+1:=by omega
     have A4:¬G=E+1+1:=by omega
     have A5:(G==E+1+1)=false:=by rw[sG];omega
     have A6:(E+1+1==G)=false:=by rw[sG];omega
     have A7:bt<E+1+1:=by omega
     have A9:¬bt=E+1+1:=by omega
     have B1:(bt==E+1+1)=false:=by rw[sG];omega
     have B2:(E+1+1==bt)=false:=by rw[sG];omega
     have B3:bi<E+1+1:=by omega
     have B4:¬bi=E+1+1:=by omega
     have B5:(bi==E+1+1)=false:=by rw[sG];omega
     have B6:(E+1+1==bi)=false:=by rw[sG];omega
     have B7:nx<E+1+1+1:=by omega
     have B8:¬nx=E+1+1+1:=by omega
     have B9:(nx==E+1+1+1)=false:=by rw[sG];omega
     have C0:(E+1+1+1==nx)=false:=by rw[sG];omega
     have C1:G<E+1+1+1:=by omega
     have C2:¬G=E+1+1+1:=by omega
     have C3:(G==E+1+1+1)=false:=by rw[sG];omega
     have C4:(E+1+1+1==G)=false:=by rw[sG];omega
     have C5:bt<E+1+1+1:=by omega
     have C6:¬bt=E+1+1+1:=by omega
     have C7:(bt==E+1+1+1)=false:=by rw[sG];omega
     have C8:(E+1+1+1==bt)=false:=by rw[sG];omega
     have D3:bi<E+1+1+1:=by omega
     have D4:¬bi=E+1+1+1:=by omega
     have D5:(bi==E+1+1+1)=false:=by rw[sG];omega
     have D6:(E+1+1+1==bi)=false:=by rw[sG];omega
     have D8:nx<E+1+1+1+1:=by omega
     have E0:¬nx=E+1+1+1+1:=by omega
     have E1:(nx==E+1+1+1+1)=false:=by rw[sG];omega
     have E2:(E+1+1+1+1==nx)=false:=by rw[sG];omega
     have E3:G<E+1+1+1+1:=by omega
     have E4:¬G=E+1+1+1+1:=by omega
     have E6:(G==E+1+1+1+1)=false:=by rw[sG];omega
     have E7:(E+1+1+1+1==G)=false:=by rw[sG];omega
     have E9:bt<E+1+1+1+1:=by omega
     have F0:¬bt=E+1+1+1+1:=by omega
     have F1:(bt==E+1+1+1+1)=false:=by rw[sG];omega
     have F2:(E+1+1+1+1==bt)=false:=by rw[sG];omega
     have F3:bi<E+1+1+1+1:=by omega
     have F4:¬bi=E+1+1+1+1:=by omega
     have G0:(bi==E+1+1+1+1)=false:=by rw[sG];omega
     have G1:(E+1+1+1+1==bi)=false:=by rw[sG];omega
     have G3:nx<E+1+1+1+1+1:=by omega
     have G4:¬nx=E+1+1+1+1+1:=by omega
     have H0:(nx==E+1+1+1+1+1)=false:=by rw[sG];omega
     have H1:(E+1+1+1+1+1==nx)=false:=by rw[sG];omega
     have H2:G<E+1+1+1+1+1:=by omega
     have H3:¬G=E+1+1+1+1+1:=by omega
     have H4:(G==E+1+1+1+1+1)=false:=by rw[sG];omega
     have H5:(E+1+1+1+1+1==G)=false:=by rw[sG];omega
     have I0:bt<E+1+1+1+1+1:=by omega
     have I1:¬bt=E+1+1+1+1+1:=by omega
     have I2:(bt==E+1+1+1+1+1)=false:=by rw[sG];omega
     have I3:(E+1+1+1+1+1==bt)=false:=by rw[sG];omega
     have I6:bi<E+1+1+1+1+1:=by omega
     have J0:¬bi=E+1+1+1+1+1:=by omega
     have J1:(bi==E+1+1+1+1+1)=false:=by rw[sG];omega
     have J2:(E+1+1+1+1+1==bi)=false:=by rw[sG];omega
     have K0:nx<E+1+1+1+1+1+1:=by omega
     have K1:¬nx=E+1+1+1+1+1+1:=by omega
     have K2:(nx==E+1+1+1+1+1+1)=false:=by rw[sG];omega
     have k8:(E+1+1+1+1+1+1==nx)=false:=by rw[sG];omega
     have i7:G<E+1+1+1+1+1+1:=by omega
     have i9:¬G=E+1+1+1+1+1+1:=by omega
     have k9:(G==E+1+1+1+1+1+1)=false:=by rw[sG];omega
     have n5:(E+1+1+1+1+1+1==G)=false:=by rw[sG];omega
     have K3:bt<E+1+1+1+1+1+1:=by omega
     have K4:¬bt=E+1+1+1+1+1+1:=by omega
     have K5:(bt==E+1+1+1+1+1+1)=false:=by rw[sG];omega
     have K6:(E+1+1+1+1+1+1==bt)=false:=by rw[sG];omega
     have K7:bi<E+1+1+1+1+1+1:=by omega
     have K8:¬bi=E+1+1+1+1+1+1:=by omega
     have K9:(bi==E+1+1+1+1+1+1)=false:=by rw[sG];omega
     have n6:(E+1+1+1+1+1+1==bi)=false:=by rw[sG];omega
     have n7:¬nx=G:=by omega
     have n8:(nx==G)=false:=by rw[sG];omega
     have n9:¬G=nx:=by omega
     have L0:(G==nx)=false:=by rw[sG];omega
     have L1:¬G=bt:=by omega
     have L2:(G==bt)=false:=by rw[sG];omega
     have L3:¬G=bi:=by omega
     have L4:(G==bi)=false:=by rw[sG];omega
     have L5:¬bt=G:=by omega
     have L7:(bt==G)=false:=by rw[sG];omega
     have M0:¬bi=G:=by omega
     have M1:(bi==G)=false:=by rw[sG];omega
     have M2:E<E+1:=by omega
     have M3:¬E=E+1:=by omega
     have M4:(E==E+1)=false:=by rw[sG];omega
     have M5:(E+1==E)=false:=by rw[sG];omega
     have M6:E<E+1+1:=by omega
     have M7:¬E=E+1+1:=by omega
     have M8:(E==E+1+1)=false:=by rw[sG];omega
     have M9:(E+1+1==E)=false:=by rw[sG];omega
     have N0:E<E+1+1+1:=by omega
     have N1:¬E=E+1+1+1:=by omega
     have N2:(E==E+1+1+1)=false:=by rw[sG];omega
     have N3:(E+1+1+1==E)=false:=by rw[sG];omega
     have N4:E<E+1+1+1+1:=by omega
     have N5:¬E=E+1+1+1+1:=by omega
     have N6:(E==E+1+1+1+1)=false:=by rw[sG];omega
     have O0:(E+1+1+1+1==E)=false:=by rw[sG];omega
     have O2:E<E+1+1+1+1+1:=by omega
     have O3:¬E=E+1+1+1+1+1:=by omega
     have O7:(E==E+1+1+1+1+1)=false:=by rw[sG];omega
     have O8:(E+1+1+1+1+1==E)=false:=by rw[sG];omega
     have O9:E<E+1+1+1+1+1+1:=by omega
     have P0:¬E=E+1+1+1+1+1+1:=by omega
     have P1:(E==E+1+1+1+1+1+1)=false:=by rw[sG];omega
     have P2:(E+1+1+1+1+1+1==E)=false:=by rw[sG];omega
     have P3:E+1<E+1+1:=by omega
     have o0:¬E+1=E+1+1:=by omega
     have o2:(E+1==E+1+1)=false:=by rw[sG];omega
     have o3:(E+1+1==E+1)=false:=by rw[sG];omega
     have o4:E+1<E+1+1+1:=by omega
     have P4:¬E+1=E+1+1+1:=by omega
     have Q0:(E+1==E+1+1+1)=false:=by rw[sG];omega
     have Q4:(E+1+1+1==E+1)=false:=by rw[sG];omega
     have o5:E+1<E+1+1+1+1:=by omega
     have p6:¬E+1=E+1+1+1+1:=by omega
     have p7:(E+1==E+1+1+1+1)=false:=by rw[sG];omega
     have p8:(E+1+1+1+1==E+1)=false:=by rw[sG];omega
     have Q6:E+1<E+1+1+1+1+1:=by omega
     have R0:¬E+1=E+1+1+1+1+1:=by omega
     have R1:(E+1==E+1+1+1+1+1)=false:=by rw[sG];omega
     have R2:(E+1+1+1+1+1==E+1)=false:=by rw[sG];omega
     have R3:E+1<E+1+1+1+1+1+1:=by omega
     have R4:¬E+1=E+1+1+1+1+1+1:=by omega
     have p9:(E+1==E+1+1+1+1+1+1)=false:=by rw[sG];omega
     have q0:(E+1+1+1+1+1+1==E+1)=false:=by rw[sG];omega
     have R5:E+1+1<E+1+1+1:=by omega
     have R6:¬E+1+1=E+1+1+1:=by omega
     have R7:(E+1+1==E+1+1+1)=false:=by rw[sG];omega
     have R8:(E+1+1+1==E+1+1)=false:=by rw[sG];omega
     have R9:E+1+1<E+1+1+1+1:=by omega
     have S0:¬E+1+1=E+1+1+1+1:=by omega
     have S1:(E+1+1==E+1+1+1+1)=false:=by rw[sG];omega
     have S2:(E+1+1+1+1==E+1+1)=false:=by rw[sG];omega
     have S3:E+1+1<E+1+1+1+1+1:=by omega
     have S4:¬E+1+1=E+1+1+1+1+1:=by omega
     have S5:(E+1+1==E+1+1+1+1+1)=false:=by rw[sG];omega
     have S6:(E+1+1+1+1+1==E+1+1)=false:=by rw[sG];omega
     have S7:E+1+1<E+1+1+1+1+1+1:=by omega
     have S8:¬E+1+1=E+1+1+1+1+1+1:=by omega
     have T4:(E+1+1==E+1+1+1+1+1+1)=false:=by rw[sG];omega
     have T7:(E+1+1+1+1+1+1==E+1+1)=false:=by rw[sG];omega
     have T8:E+1+1+1<E+1+1+1+1:=by omega
     have T9:¬E+1+1+1=E+1+1+1+1:=by omega
     have U1:(E+1+1+1==E+1+1+1+1)=false:=by rw[sG];omega
     have U4:(E+1+1+1+1==E+1+1+1)=false:=by rw[sG];omega
     have U6:E+1+1+1<E+1+1+1+1+1:=by omega
     have V0:¬E+1+1+1=E+1+1+1+1+1:=by omega
     have V1:(E+1+1+1==E+1+1+1+1+1)=false:=by rw[sG];omega
     have V2:(E+1+1+1+1+1==E+1+1+1)=false:=by rw[sG];omega
     have V4:E+1+1+1<E+1+1+1+1+1+1:=by omega
     have V5:¬E+1+1+1=E+1+1+1+1+1+1:=by omega
     have W0:(E+1+1+1==E+1+1+1+1+1+1)=false:=by rw[sG];omega
     have W1:(E+1+1+1+1+1+1==E+1+1+1)=false:=by rw[sG];omega
     have W2:E+1+1+1+1<E+1+1+1+1+1:=by omega
     have W3:¬E+1+1+1+1=E+1+1+1+1+1:=by omega
     have W4:(E+1+1+1+1==E+1+1+1+1+1)=false:=by rw[sG];omega
     have W5:(E+1+1+1+1+1==E+1+1+1+1)=false:=by rw[sG];omega
     have W6:E+1+1+1+1<E+1+1+1+1+1+1:=by omega
     have W7:¬E+1+1+1+1=E+1+1+1+1+1+1:=by omega
     have W8:(E+1+1+1+1==E+1+1+1+1+1+1)=false:=by rw[sG];omega
     have X0:(E+1+1+1+1+1+1==E+1+1+1+1)=false:=by rw[sG];omega
     have X1:E+1+1+1+1+1<E+1+1+1+1+1+1:=by omega
     have X2:¬E+1+1+1+1+1=E+1+1+1+1+1+1:=by omega
     have X3:(E+1+1+1+1+1==E+1+1+1+1+1+1)=false:=by rw[sG];omega
     have Z0:(E+1+1+1+1+1+1==E+1+1+1+1+1)=false:=by rw[sG];omega
     have Z1:bb<E:=by omega
     have Z2:¬bb=E:=by omega
     have Z3:(bb==E)=false:=by rw[sG];omega
     have Z6:(E==bb)=false:=by rw[sG];omega
     have au8:bb<E+1:=by omega
     have au9:¬bb=E+1:=by omega
     have au_:(bb==E+1)=false:=by rw[sG];omega
     have au':(E+1==bb)=false:=by rw[sG];omega
     have ava:bb<E+1+1:=by omega
     have avb:¬bb=E+1+1:=by omega
     have avc:(bb==E+1+1)=false:=by rw[sG];omega
     have avd:(E+1+1==bb)=false:=by rw[sG];omega
     have ave:bb<E+1+1+1:=by omega
     have avf:¬bb=E+1+1+1:=by omega
     have avg:(bb==E+1+1+1)=false:=by rw[sG];omega
     have avh:(E+1+1+1==bb)=false:=by rw[sG];omega
     have avi:bb<E+1+1+1+1:=by omega
     have avj:¬bb=E+1+1+1+1:=by omega
     have avk:(bb==E+1+1+1+1)=false:=by rw[sG];omega
     have avl:(E+1+1+1+1==bb)=false:=by rw[sG];omega
     have avm:bb<E+1+1+1+1+1:=by omega
     have avn:¬bb=E+1+1+1+1+1:=by omega
     have avo:(bb==E+1+1+1+1+1)=false:=by rw[sG];omega
     have avp:(E+1+1+1+1+1==bb)=false:=by rw[sG];omega
     have avq:bb<E+1+1+1+1+1+1:=by omega
     have avr:¬bb=E+1+1+1+1+1+1:=by omega
     have avs:(bb==E+1+1+1+1+1+1)=false:=by rw[sG];omega
     have avt:(E+1+1+1+1+1+1==bb)=false:=by rw[sG];omega
     have avu:¬bb=G:=by omega
     have avv:¬G=bb:=by omega
     have avw:(bb==G)=false:=by rw[sG];omega
     have avx:(G==bb)=false:=by rw[sG];omega
     obtain⟨K,eK⟩:∃K,K=(pick n (D1.R.take i) (D1.B.take i)).1.length:=⟨_,rfl⟩;have eK2:(pick n (D1.R.take i) (D1.B.take i)).2.length=K:=by rw[eK];exact I5
     have hKL:K<=1000:=by
      have h1:=Gp.len;have h2:∀(R:List (List Rat)) (B:List Nat),(pick n R B).1.length<=R.length:=by
       intro R
       induction R with
       |nil=>intro B;simp[pick]
       |cons x R ih=>
        intro B;cases B with
        |nil=>simp[pick]
        |cons b B=>unfold pick;have:=ih B;split<;>simp<;>omega
      have:=h2 (D1.R.take i) (D1.B.take i);rw[zh]at this;omega
     have aCF:Ho.length=K:=Gp.len.trans eK.symm;have hb:=Gp.t
     have fin:∀σ' nx',E+1+1+1+1+1+1<nx'->σ' G=some ⟨[I n,.rs (E+1+1+1+1) 0 (K+1),.rs (E+1+1+1+1+1+1) 0 (K+1),.rs (J+1) 0 (n+1)],0,true⟩->σ' (E+1+1+1+1)=some ⟨(Ho++[E+1+1]).map fun b=>V.rs b 0 (n+1),1,true⟩->σ' (E+1+1+1+1+1+1)=some ⟨(BR ((pick n (D1.R.take i) (D1.B.take i)).2++[D1.B.getD i 0])).flatMap cI,1,true⟩->σ' (E+1+1)=some ⟨(w++[z]).flatMap cQ,3,true⟩->(∀y,y<E->y≠G->y∉bk XY++bk XZ->σ' y=EG y) ->
       (∀x,x<G->σ' x=S x)/\∃XY XZ Ho,EW σ' G (J+1) XY XZ Ho ⟨(pick n (D1.R.take (i+1)) (D1.B.take (i+1))).1,(pick n (D1.R.take (i+1)) (D1.B.take (i+1))).2,GY c⟩ n/\∀x∈G :: (J+1) :: (bk XY++bk XZ++Ho),G<=x/\x<nx':=fun σ' nx' p0 p1 p2 p3 p4 p5=>by
      refine⟨fun x Y=>(p5 x (by omega) (by omega) fun hm=>?_).trans (b4 x Y),.rs (E+1+1+1+1) 0 (K+1),.rs (E+1+1+1+1+1+1) 0 (K+1),Ho++[E+1+1],?_,fun x Y=>?_⟩
      .have:=GL x (by simp only[zV];exact .inr (.inr (zD _ hm)))
       omega
      .rw[j9]
       have:=air (x:=w++[z]) (b:=D1.B.getD i 0) Gp (m0:=E) (br:=E+1+1+1+1) (bb:=E+1+1+1+1+1+1) (bw:=E+1+1) (σ':=σ') (fun y hy=>(GL y hy).2) (by omega) (by omega) (by omega) (by omega) (by omega) (by omega)
        (by show σ' G=some (FT.mk [_,.rs _ 0 ((pick n (D1.R.take i) (D1.B.take i)).1.length+1),.rs _ 0 ((pick n (D1.R.take i) (D1.B.take i)).1.length+1),_] _ _);rw[<- eK];exact p1) p2 p3 p4 p5
       rw[show(⟨(pick n (D1.R.take i) (D1.B.take i)).1,(pick n (D1.R.take i) (D1.B.take i)).2,GY c⟩:TQ).R.length=K from eK.symm]at this;exact this
      .simp only[bk,yT,yO,zV,wP,yc,or_false]at Y
       rcases Y with rfl|rfl|rfl|rfl|Y|rfl
       .omega
       .omega
       .omega
       .omega
       .have:=GL x (by simp only[zV];exact .inr (.inr (yw _ Y)));omega
       .omega
     have ha1:=r_ (σ:=restrict (upd (upd EG E (some ⟨w.flatMap cQ,3,true⟩)) (E+1) (some ⟨cQ z,3,true⟩)) [E,E+1]) (nx:=E+1+1) (size:=3) (bytes:=56) (b:=E) (len:=n) (m:=1) (row:=cQ z) (by rw[fK,Zm,Zk]) (by rw[bZ qG,hwl]) (by decide) (by decide) (by unfold maxLen;omega) (by omega) rfl;obtain⟨DF,e6⟩:∃DF,DF=upd (upd (upd (upd EG E (some ⟨w.flatMap cQ,3,true⟩)) (E+1) (some ⟨cQ z,3,true⟩)) E none) (E+1+1) (some ⟨w.flatMap cQ++cQ z,3,true⟩):=⟨_,rfl⟩;have o6:∀y,y<E->DF y=EG y:=fun y hy=>by rw[e6,Zm,Zm,Zm,Zm]
     have lx1:G<E:=by omega
     have w6:DF (E+1+1)=some ⟨(w++[z]).flatMap cQ,3,true⟩:=by rw[e6,Zk,zT];simp
     have b6:DF G=_:=(o6 G lx1).trans hb;have t6:DF bt=_:=(o6 bt (by omega)).trans e1;have n1:DF bb=_:=(o6 bb (by omega)).trans e3;have Bf:DF nx=_:=(o6 nx (by omega)).trans e5;have u50:G<E+1+1+1+1+1+1+1:=by omega
     have hpK:∀q,q=(pick n (D1.R.take i) (D1.B.take i)).1.length->q=K:=fun q h=>h.trans eK.symm
     rcases Gp.r with ⟨n2,rfl⟩|⟨Hr,n2,s6,TF⟩<;>rcases Gp.b with ⟨s7,rfl⟩|⟨a1,s7,s8,TG⟩
     .have hK0:K=0:=eK.trans n2
      have ayE:Ho=[]:=zZ (by omega);have hP2:(pick n (D1.R.take i) (D1.B.take i)).2=[]:=zZ (by omega);obtain⟨FU,e7⟩:∃FU,FU=upd (upd (upd DF (E+1+1+1) (some ⟨[V.rs (E+1+1) 0 (n+1)],1,true⟩)) (E+1+1+1+1) (some ⟨[V.rs (E+1+1) 0 (n+1)],1,true⟩)) G (some ⟨[I n,.rs (E+1+1+1+1) 0 1,.nil,.rs (J+1) 0 (n+1)],0,true⟩):=⟨_,rfl⟩;have b7:FU G=some ⟨[I n,.rs (E+1+1+1+1) 0 1,.nil,.rs (J+1) 0 (n+1)],0,true⟩:=by rw[e7,Zk]
      have o7:∀y,y<E+1+1+1->y≠G->FU y=DF y:=fun y h1 h2=>by rw[e7,Zl _ _ h2,Zm,Zm]
      have s9:FU bt=_:=(o7 bt (by omega) (by omega)).trans t6;have u0:FU bb=_:=(o7 bb (by omega) (by omega)).trans n1;refine .inl ⟨_,by simp only[go_sem,t1,t2,t7,t95,t96,t97,e1,e2,e3,e4,e5,r1,b1,g1,g2,g3,c1,l1,l2,l3,r3,r4,r5,r6,r7,r8,r9,w9,x0,x8,x9,y0,hb,ha1,u50,<- e6,b6,t6,n1,Bf,<- e7,b7,s9,u0,y1,y2,y3,y4,y5,y6,y7,y8,y9,XT,XU,XV,c8,XW,c9,e8,e9,h4,h5,h6,h7,h8,h9,i0,i1,i2,i3,i4,i5,i6,z6,z7,z8,A0,A1,A2,A3,A4,A5,A6,A7,A9,B1,B2,B3,B4,B5,B6,B7,B8,B9,C0,C1,C2,C3,C4,C5,C6,C7,C8,D3,D4,D5,D6,D8,E0,E1,E2,E3,E4,E6,E7,E9,F0,F1,F2,F3,F4,G0,G1,G3,G4,H0,H1,H2,H3,H4,H5,I0,I1,I2,I3,I6,J0,J1,J2,K0,K1,K2,k8,i7,i9,k9,n5,K3,K4,K5,K6,K7,K8,K9,n6,n7,n8,n9,L0,L1,L2,L3,L4,L5,L7,M0,M1,M2,M3,M4,M5,M6,M7,M8,M9,N0,N1,N2,N3,N4,N5,N6,O0,O2,O3,O7,O8,O9,P0,P1,P2,P3,o0,o2,o3,o4,P4,Q0,Q4,o5,p6,p7,p8,Q6,R0,R1,R2,R3,R4,p9,q0,R5,R6,R7,R8,R9,S0,S1,S2,S3,S4,S5,S6,S7,S8,T4,T7,T8,T9,U1,U4,U6,V0,V1,V2,V4,V5,W0,W1,W2,W3,W4,W5,W6,W7,W8,X0,X1,X2,X3,Z0,Z1,Z2,Z3,Z6,au8,au9,au_,au',ava,avb,avc,avd,ave,avf,avg,avh,avi,avj,avk,avl,avm,avn,avo,avp,avq,avr,avs,avt,avu,avv,avw,avx];rfl,?_⟩;simp only[go_sem,t1,t2,t7,t95,t96];refine⟨rfl,by omega,fin _ _ (by omega) ?_ ?_ ?_ ?_ fun y h1 h2 _=>?_⟩
      .rw[Zk,hK0]
      .rw[Zm,Zm,Zm,e7,Zm,Zk,ayE];rfl
      .rw[Zm,Zk,hP2];rfl
      .rw[Zm,Zm,Zm,o7 _ (by omega) (by omega)];exact w6
      .rw[Zl _ _ h2,Zm,Zm,o7 y (by omega) h2];exact o6 y h1
     .exact absurd s7 (by rw[n2];decide)
     .exact absurd n2 (by rw[s7];decide)
     .replace s6:XY= .rs Hr 0 K:=by rw[s6,eK]
      replace s8:XZ= .rs a1 0 K:=by rw[s8,eK]
      subst s6 s8;have nd5:=Gp.nd;simp only[bk,yT,yO,xW,zV,not_or]at nd5;obtain⟨⟨m1,m2,m3,m4⟩,⟨m5,m6,m7⟩,⟨m8,m9⟩,m10,m11⟩:=nd5;have lr':=GL Hr (by simp[bk]);have lb':=GL a1 (by simp[bk]);have ahy:DF Hr=_:=(o6 Hr lr'.2).trans TF;have ahx:DF a1=_:=(o6 a1 lb'.2).trans TG;have ha2:=rC (σ:=restrict (upd DF (E+1+1+1) (some ⟨[V.rs (E+1+1) 0 (n+1)],1,true⟩)) [Hr,E+1+1+1]) (nx:=E+1+1+1+1) (bytes:=24) (b:=Hr) (len:=K) (m:=1) (row:=[V.rs (E+1+1) 0 (n+1)]) (by rw[fK,Zm];exact ahy) (by simp;omega) rfl (by decide) (by unfold maxLen;omega) (by omega) rfl;obtain⟨FU,e7⟩:∃FU,FU=upd (upd (upd (upd DF (E+1+1+1) (some ⟨[V.rs (E+1+1) 0 (n+1)],1,true⟩)) Hr none) (E+1+1+1+1) (some ⟨(Ho.map fun b=>V.rs b 0 (n+1))++[V.rs (E+1+1) 0 (n+1)],1,true⟩)) G (some ⟨[I n,.rs (E+1+1+1+1) 0 (K+1),.rs a1 0 K,.rs (J+1) 0 (n+1)],0,true⟩):=⟨_,rfl⟩;have b7:FU G=some ⟨[I n,.rs (E+1+1+1+1) 0 (K+1),.rs a1 0 K,.rs (J+1) 0 (n+1)],0,true⟩:=by rw[e7,Zk]
      have o7:∀y,y<E+1+1+1->y≠G->y≠Hr->FU y=DF y:=fun y h1 h2 h3=>by rw[e7,Zl _ _ h2,Zm,Zl _ _ h3,Zm]
      have s9:FU bt=_:=(o7 bt (by omega) (by omega) (by omega)).trans t6;have u0:FU bb=_:=(o7 bb (by omega) (by omega) (by omega)).trans n1;have bb7:FU a1=_:=(o7 a1 (by omega) (yu m3) (yu m8)).trans ahx;have ha3:=rC (σ:=restrict (upd FU (E+1+1+1+1+1) (some ⟨[I ((D1.B.getD i 0:Nat):Int)],1,true⟩)) [a1,E+1+1+1+1+1]) (nx:=E+1+1+1+1+1+1) (bytes:=8) (b:=a1) (len:=K) (m:=1) (row:=[I ((D1.B.getD i 0:Nat):Int)]) (by rw[fK,Zm];exact bb7) (by show((BR (pick n (D1.R.take i) (D1.B.take i)).2).flatMap cI).length=K;rw[qL,aA];exact eK2) rfl (by decide) (by unfold maxLen;omega) (by omega) rfl;have u1:¬G=Hr:=m2;have u2:¬G=a1:=m3;have u3:(G==Hr)=false:=beq_false_of_ne m2;have u4:(G==a1)=false:=beq_false_of_ne m3;have u5:(Hr==G)=false:=beq_false_of_ne (yu m2);have u6:(a1==G)=false:=beq_false_of_ne (yu m3);have u7:Hr<E+1+1+1:=by omega
      have u8:Hr<E+1+1+1+1:=by omega
      have u9:a1<E+1+1+1+1+1:=by omega
      have u10:a1<E+1+1+1+1+1+1:=by omega
      have u11:(bt==Hr)=false:=by rw[sG];omega
      have u12:(bt==a1)=false:=by rw[sG];omega
      have u13:(bi==Hr)=false:=by rw[sG];omega
      have u14:(bb==Hr)=false:=by rw[sG];omega
      have u15:(bb==a1)=false:=by rw[sG];omega
      have u16:¬bt=Hr:=by omega
      have u17:¬bb=Hr:=by omega
      have u18:¬bt=a1:=by omega
      have u19:¬bb=a1:=by omega
      have u20:(Hr==E)=false:=by rw[sG];omega
      have u21:(E==Hr)=false:=by rw[sG];omega
      have u22:(Hr==E+1)=false:=by rw[sG];omega
      have u23:(E+1==Hr)=false:=by rw[sG];omega
      refine .inl ⟨_,by simp only[go_sem,t1,t2,t7,t95,t96,t97,e1,e2,e3,e4,e5,r1,b1,g1,g2,g3,c1,l1,l2,l3,r3,r4,r5,r6,r7,r8,r9,w9,x0,x8,x9,y0,hb,ha1,u50,<- e6,b6,t6,n1,Bf,ha2,<- e7,b7,s9,u0,ha3,u1,u2,u3,u4,u5,u6,u7,u8,u9,u10,u11,u12,u13,u14,u15,u16,u17,u18,u19,u20,u21,u22,u23,y1,y2,y3,y4,y5,y6,y7,y8,y9,XT,XU,XV,c8,XW,c9,e8,e9,h4,h5,h6,h7,h8,h9,i0,i1,i2,i3,i4,i5,i6,z6,z7,z8,A0,A1,A2,A3,A4,A5,A6,A7,A9,B1,B2,B3,B4,B5,B6,B7,B8,B9,C0,C1,C2,C3,C4,C5,C6,C7,C8,D3,D4,D5,D6,D8,E0,E1,E2,E3,E4,E6,E7,E9,F0,F1,F2,F3,F4,G0,G1,G3,G4,H0,H1,H2,H3,H4,H5,I0,I1,I2,I3,I6,J0,J1,J2,K0,K1,K2,k8,i7,i9,k9,n5,K3,K4,K5,K6,K7,K8,K9,n6,n7,n8,n9,L0,L1,L2,L3,L4,L5,L7,M0,M1,M2,M3,M4,M5,M6,M7,M8,M9,N0,N1,N2,N3,N4,N5,N6,O0,O2,O3,O7,O8,O9,P0,P1,P2,P3,o0,o2,o3,o4,P4,Q0,Q4,o5,p6,p7,p8,Q6,R0,R1,R2,R3,R4,p9,q0,R5,R6,R7,R8,R9,S0,S1,S2,S3,S4,S5,S6,S7,S8,T4,T7,T8,T9,U1,U4,U6,V0,V1,V2,V4,V5,W0,W1,W2,W3,W4,W5,W6,W7,W8,X0,X1,X2,X3,Z0,Z1,Z2,Z3,Z6,au8,au9,au_,au',ava,avb,avc,avd,ave,avf,avg,avh,avi,avj,avk,avl,avm,avn,avo,avp,avq,avr,avs,avt,avu,avv,avw,avx];rfl,?_⟩;simp only[go_sem,t1,t2,t7,t95,t96];refine⟨rfl,by omega,fin _ _ (by omega) ?_ ?_ ?_ ?_ fun y h1 h2 h3=>?_⟩
      .rw[Zk]
      .rw[Zm,Zm,Zm,Zm,e7,Zm,Zk,wQ];rfl
      .rw[Zm,Zk]
       show some (FT.mk ((BR (pick n (D1.R.take i) (D1.B.take i)).2).flatMap cI++[I ((D1.B.getD i 0:Nat):Int)]) 1 true)=_;unfold BR;rw[wQ,zT];rfl
      .rw[Zm,Zm,Zm,Zm,o7 _ (by omega) (by omega) (by omega)];exact w6
      .simp only[bk,yT,yO,zV,yc,or_false,not_or]at h3
       rw[Zl _ _ h2,Zm,Zl _ _ h3.2,Zm,o7 y (by omega) h2 h3.1];exact o6 y h1
    .rw[sJ hB]at j9
     have c1:¬((D1.B.getD i 0:Nat):Int)<(n:Int):=by omega
     refine .inl ⟨_,by simp only[go_sem,t1,t2,t7,t95,t96,t97,e1,e2,e3,e5,r1,b1,g1,g2,g3,c1,l1,l2,l3];rfl,?_⟩;simp only[go_sem,t1,t2,t7,t95,t96];exact⟨rfl,j8,b4,XY,XZ,Ho,by rw[j9];exact Gp,GL⟩) (by
    clear hL;rintro ⟨T,EG,E⟩ ⟨t1,t2,t7,t95,t96,t97,j8,b4,XY,XZ,Ho,Gp,GL⟩;simp only at t1 t2 t7 t95 t96 t97 j8 b4 Gp GL;refine⟨_,by simp only[go_sem,t96,t97,zk];rfl,by simp,_,_,_,XY,XZ,Ho,rfl,?_⟩;simp only[go_sem,t7];rw[zl (by omega),zl (by omega)]at Gp;exact⟨j8,b4,Gp,GL⟩) (by
    simp only[go_sem,t1,t2,t7];refine⟨by omega,l9,.nil,.nil,[],⟨w7,.inl ⟨rfl,rfl⟩,fun i h=>absurd h (zX _),.inl ⟨rfl,rfl⟩,w8,rfl,?_⟩,fun x Y=>?_⟩
    .simp only[bk,zC,xW,w_,yc,not_false_iff,true_and,List.nodup_nil,and_true]
     omega
    .simp only[bk,zC,zV,yc,or_false]at Y
     omega)
  clear hL;obtain⟨P,eP⟩:∃P,P=pick n D1.R D1.B:=⟨_,rfl⟩;have n3:=I7 (n:=n) (R:=D1.R) (B:=D1.B);have hpl:=I5 (n:=n) (R:=D1.R) (B:=D1.B);have avy:=hcl D1 UK fun i hi=>c3 i (by omega)
  rw[<- eP]at n3 hpl Gp avy;have akV:∀x∈P.1,x.length=n+1:=fun x Y=>by
   obtain⟨y,hy,rfl⟩:=n3.1 x Y;have:=j6.row y hy;rw[zo,zh];simp;omega
  have pln:∀x∈P.1,∀q∈x,Ln 6 q:=fun x Y q hq=>by
   obtain⟨y,hy,rfl⟩:=n3.1 x Y;have hyl:=j6.row y hy;rcases List.mem_append.mp hq with hq|hq
   .exact j6.big y hy q (wH hq)
   .rw[List.mem_singleton.mp hq,List.getLastD_eq_getLast?,List.getLast?_eq_getElem?,zy (by omega)]
    exact j6.big y hy _ (zu _)
  obtain⟨K,eK⟩:∃K,K=P.1.length:=⟨_,rfl⟩;have v6:(⟨P.1,P.2,GY c⟩:TQ).R.length=K:=eK.symm;have apx:K<=1000:=by
   have h2:∀(R:List (List Rat)) (B:List Nat),(pick n R B).1.length<=R.length:=by
    intro R
    induction R with
    |nil=>intro B;simp[pick]
    |cons x R ih=>
     intro B;cases B with
     |nil=>simp[pick]
     |cons b B=>unfold pick;have:=ih B;split<;>simp<;>omega
   have:=h2 D1.R D1.B;rw[<- eP]at this;omega
  have v7:Dz ZL 235 j7=some (I K):=by
   rcases Gp.r with ⟨q1,rfl⟩|⟨br,q1,rfl,_⟩
   .rw[v6]at q1
    rw[q1];exact nU (by kernel_rfl)
   .rw[v6];exact nT (by kernel_rfl)
  have hb5:=Gp.t;simp only[go_sem,t7,hb5,v7];generalize hL:dI _ _=y;obtain⟨x,rfl,T6,DF,Bf,rfl,t7,KX,QX,j0⟩:=oZ hL K (fun i st=>st.T 7= .rp G 0/\st.T 157=j7/\st.T 158=I K/\st.T 159=I i/\E<=st.nx/\(∀x,x<G->st.σ x=EG x)/\EW st.σ G (J+1) j7 n0 c4 ⟨P.1,P.2,clears (GY c) (P.1.take i) (P.2.take i)⟩ n)
   (fun x=>∃T DF Bf,x=(.exit 8,⟨T,DF,Bf⟩)/\T 7= .rp G 0/\E<=Bf/\(∀x,x<G->DF x=EG x)/\EW DF G (J+1) j7 n0 c4 ⟨P.1,P.2,clears (GY c) P.1 P.2⟩ n) (by
    clear hL;rintro i ⟨T,DF,Bf⟩ hi ⟨t7,t157,k3,t159,KX,QX,j0⟩;simp only at t7 t157 k3 t159 KX j0;obtain⟨q1,q2,q3,q4,q5,q6,q7⟩:=j0;have hl6:c4.length=K:=q6.trans v6;rcases q2 with ⟨w0,_⟩|⟨k4,_,v8,ak7⟩
    .have:P.1.length=0:=w0
     omega
    rcases q4 with ⟨w0,_⟩|⟨c5,_,w2,ak8⟩
    .have:P.1.length=0:=w0
     omega
    replace v8:j7= .rs k4 0 K:=by rw[v8,eK]
    replace w2:n0= .rs c5 0 K:=by rw[w2,eK]
    subst v8 w2;have c0:i<c4.length:=by omega
    obtain⟨bi,Fb⟩:∃bi,bi=c4[i]:=⟨_,rfl⟩;have Yj:DF bi=some ⟨(Eh P.1 i).flatMap cQ,3,true⟩:=by rw[Fb];exact q3 i c0
    have q7':=q7;simp only[bk,yT,yO,xW,zV,not_or]at q7;obtain⟨⟨m1,m2,m3,m4⟩,⟨m5,m6,m7⟩,⟨m8,m9⟩,m10,m11⟩:=q7;have l5:bi∈c4:=by rw[Fb];exact zu c0
    have d1:G≠bi:=fun e=>m4 (e ▸ l5)
    have d2:J+1≠bi:=fun e=>m7 (e ▸ l5)
    have d3:k4≠bi:=fun e=>m9 (e ▸ l5)
    have d4:c5≠bi:=fun e=>m10 (e ▸ l5)
    have g1:(i:Int)<(K:Int):=by omega
    have g2:=jD i;have g3:=ZT (n:=(i:Int)+1);have r1:(c4.map fun b=>V.rs b 0 (n+1))[i]?=some (.rs bi 0 (n+1)):=by rw[zF,zy c0,Fb];rfl
    have b1:((BR P.2).flatMap cI)[i]?=some (I ((P.2.getD i 0:Nat):Int)):=by
     rw[idx (by rw[aA];omega),aB (by omega)]
    have l1:G<Bf:=by have:=GL G (by simp);omega
    have l2:J+1<Bf:=by omega
    have l3:c5<Bf:=by have:=GL c5 (by simp[bk]);omega
    have l4:bi<Bf:=by have:=GL bi (by simp[l5]);omega
    have z1:(G==J+1)=false:=beq_false_of_ne m1;have z2:(G==bi)=false:=beq_false_of_ne d1;have z3:(c5==J+1)=false:=beq_false_of_ne (yu m6);have z4:(c5==bi)=false:=beq_false_of_ne d4;have hPi:P.2.getD i 0<n:=by rw[lF (by omega)];exact n3.2 _ (zu _)
    have avz:Eh P.1 i∈P.1:=by rw[dR (by omega)];exact zu _
    have ayI:(GY c).length=n+1:=by unfold GY;rw[zo,gU];simp;omega
    obtain⟨s3,m3',aCN,kc,pe,f1,f2,f3⟩:=Uh (σ:=DF) (nx:=Bf) (bi:=J+1) (bR:=bi) (N:=n) (k:=P.2.getD i 0) (x:=clears (GY c) (P.1.take i) (P.2.take i)) (t:=Eh P.1 i) (OA ayI fun x Y=>akV x (wH Y)) (akV _ avz) (by omega) (by omega) (avy i (by omega)) (pln _ avz) q5 Yj d2 l2 l4;have esn:KQ (clears (GY c) (P.1.take i) (P.2.take i)) (Eh P.1 i) ((clears (GY c) (P.1.take i) (P.2.take i)).getD (P.2.getD i 0) 0)=clears (GY c) (P.1.take (i+1)) (P.2.take (i+1)):=by
     have e1:P.1.take (i+1)=P.1.take i++[Eh P.1 i]:=by rw[yM,zy (by omega),dR (by omega)];rfl
     have e2:P.2.take (i+1)=P.2.take i++[P.2.getD i 0]:=by rw[yM,zy (by omega),lF (by omega)];rfl
     rw[e1,e2,KD _ _ (by rw[zh,zh,hpl])]
    refine .inl ⟨_,by simp only[go_sem,t7,t157,k3,t159,q1,ak7,ak8,b1,r1,g1,g2,g3,l1,l2,l3,l4,z1,z2,z3,z4,kc,pe];rfl,?_⟩;simp only[go_sem,t7,t157,k3];refine⟨rfl,by omega,fun x Y=>(f3 x (by omega) (by omega)).trans (QX x Y),⟨(f3 G l1 m1).trans q1,.inr ⟨k4,by show 0<P.1.length;omega,by show _=V.rs k4 0 P.1.length;rw[eK],(f3 k4 (by have:=GL k4 (by simp[bk]);omega) (yu m5)).trans ak7⟩,fun j hj=>?_,.inr ⟨c5,by show 0<P.1.length;omega,by show _=V.rs c5 0 P.1.length;rw[eK],(f3 c5 l3 (yu m6)).trans ak8⟩,?_,q6,q7'⟩⟩
    .have hm:=zu hj
     rw[f3 _ (by have:=GL c4[j] (by simp[hm]);omega) fun e=>m7 (e ▸ hm)];exact q3 j hj
    .rw[f1]
     show some (FT.mk (List.flatMap cQ (KQ _ _ _)) 3 true)=_;rw[esn]) (by
    clear hL;rintro ⟨T,DF,Bf⟩ ⟨t7,t157,k3,t159,KX,QX,j0⟩;simp only at t7 t157 k3 t159 KX j0;refine⟨_,by simp only[go_sem,k3,t159,zk];rfl,by simp,_,_,_,rfl,?_⟩;simp only[go_sem,t7];rw[zl (by omega),zl (by omega)]at j0;exact⟨KX,QX,j0⟩) (by
    simp only[go_sem,t7];have e0:clears (GY c) [] []=GY c:=by unfold clears;rfl
    rw[e0];exact⟨fun _ _=>trivial,Gp⟩)
  refine⟨DF,Bf,G,J+1,j7,n0,c4,D1,by simp only[go_sem,t7],UK,fun i hi=>c3 i (by omega),?_,fun x Y=>?_,fun x Y l8=>(QX x (by omega)).trans ((b4 x (by omega)).trans (k5 x Y l8))⟩
  .unfold D2q;rw[<- eP];exact j0
  .have:=GL x Y;omega
end Go.Proofs.YtkpdoehbhmipcaaGreat
namespace Go.Proofs.YtkpdoehbhmipcaaGreat
open Go Go.TV Go.Lp
theorem QZ{M:Nat}(E:1<=M):∀ {k m:Nat},m<=k->fact M m<=fact M k
 |0,m,h=>by have:m=0:=by omega
            subst this;exact zq _
 |k+1,m,h=>by
  by_cases e:m=k+1
  .subst e;exact zq _
  .refine zU (QZ E (k:=k) (m:=m) (by omega)) ?_
   show fact M k<=(k+1)*(M*fact M k);have G:1*fact M k<=M*fact M k:=zL _ E;have J:1*(M*fact M k)<=(k+1)*(M*fact M k):=zL _ (by omega);omega
def BM:Nat:=13*(1000*fact 1000 12)+fact 1000 12
theorem amG:ln BM<=6:=jZ.mpr (by decide+kernel)
theorem Q5{K m:Nat}(E:K<=1000)(hm:m<=12):(m+1)*(K*fact 1000 m)+fact 1000 m<=BM:=by
 have G:=QZ (M:=1000) (by decide) hm;have J:K*fact 1000 m<=1000*fact 1000 12:=xq E G;have O:(m+1)*(K*fact 1000 m)<=13*(1000*fact 1000 12):=xq (by omega) J;unfold BM;omega
theorem OB{M:Nat}{q:Rat}(h:q.num.natAbs<=M/\q.den<=M)(E:M<=BM):Ln 6 q :=
 ⟨zU (jY (zU h.1 E)) amG,zU (jY (zU h.2 E)) amG⟩
theorem Ul{k:Nat}{q:Rat}(h:Ln k q):Ln k (-q):=⟨by rw[Rat.neg_num,vT];exact h.1,by rw[Rat.neg_den];exact h.2⟩
theorem alO:Ln 6 0:=Ln.mono (ru (z:=0) (by decide)) (by decide)
structure PrS (A b c:List Int) (m n:Nat):Prop where
 hA:A.length=m*n
 hb:b.length=m
 hc:c.length=n
 hm:m<=12
 hn:n<=16
 bA:∀x∈A,-1000<=x/\x<=1000
 bb:∀x∈b,-1000<=x/\x<=1000
 bc:∀x∈c,-1000<=x/\x<=1000
theorem gY{A b c:List Int}{m n:Nat}(h:PrS A b c m n):Whole (AO A b c m n) 1000 :=
 ⟨by decide,fun j k _ _=>⟨_,rfl,Qz (lD h.bA _)⟩,fun k _=>⟨_,rfl,Qz (lD h.bb _)⟩⟩
section
variable {A b c:List Int} {m n n':Nat} {C:Nat->Rat} {T:Tab} {D:TQ} {ι:List Nat}
theorem apA(hp:PrS A b c m n)(E:(AO A b c m n).Good T){i j:Nat}(hi:i<m)(G:j<n+m):Ln 6 (T.e i j) :=
 OB (akE E (gY hp) hi G) (by have:=Q5 (K:=0) (m:=m) (by decide) hp.hm;show fact 1000 m<=BM;omega)
theorem aiv(hp:PrS A b c m n)(E:(AO A b c m n).Good T){i:Nat}(hi:i<m):Ln 6 (T.b i) :=
 OB (aeo E (gY hp) hi) (by have:=Q5 (K:=0) (m:=m) (by decide) hp.hm;show fact 1000 m<=BM;omega)
theorem abp(hp:PrS A b c m n)(h:Vq (AO A b c m n) n' C T D ι)(E:(AO A b c m n).Good T)(hC:∀j,ZB 1000 (C j)):ShF D n'/\D.B.Nodup:=by
 have hm:=hp.hm;have hn:=hp.hn;have hle:n'<=n+m:=h.le;have hl:D.R.length<=m:=by
  rw[<- h.len];have h2:ι ⊆ List.range m:=fun r hr=>List.mem_range.mpr (h.lt r hr)
  have h3:=h.nd.length_le_of_subset h2
  rwa [uF]at h3
 refine⟨⟨h.row,h.Bc,h.Gm,by omega,by omega,fun x hx q J=>?_,fun q J=>?_,fun q J=>?_⟩,?_⟩
 .obtain⟨i,hi,rfl⟩:=yZ hx
  obtain⟨j,O,rfl⟩:=yZ J;have a6:=h.row _ (zu hi);have e:(D.R[i])[j]=BP D.R i j:=by
   have:=oC (R:=D.R) (i:=i) (j:=j) (by rw[dR hi];exact O);rw[<- this];simp only[dR hi]
  rw[e]
  by_cases G:j<n'
  .rw[h.ent i j hi G];exact apA hp E (h.io hi) (by omega)
  .have:j=n':=by omega
   subst this;rw[h.rhs i hi];exact aiv hp E (h.io hi)
 .obtain⟨j,O,rfl⟩:=yZ J
  have a7:=h.Gm;rw[<- lF O 0]
  by_cases G:j<n'
  .rw[h.cost j G]
   exact OB (anP E (gY hp) hC (show j<n+m by omega)) (Q5 (zq _) hm)
  .have:j=n':=by omega
   subst this;rw[h.val];exact Ul (OB (anQ E (gY hp) hC) (Q5 (zq _) hm))
 .obtain⟨i,hi,rfl⟩:=yZ J
  have S:=h.Bc;rw[<- lF hi 0,h.Bj i (by omega)];have:T.B (ι.getD i 0)<n+m:=E.ok.bn _ (h.io (by omega));omega
 .rw[List.nodup_iff_pairwise_ne,List.pairwise_iff_getElem]
  intro i j hi O a8 e;have S:=h.Bc;rw[<- lF hi 0,<- lF O 0,h.Bj i (by omega),h.Bj j (by omega)]at e;have Y:=E.ok.un _ _ (h.io (i:=i) (by omega)) (h.io (i:=j) (by omega));have u2:=E.ok.un _ _ (h.io (i:=i) (by omega)) (h.io (i:=i) (by omega));rw[sH rfl]at u2;rw[<- e,u2]at Y;have:ι.getD i 0=ι.getD j 0:=by
   refine zf fun a1=>?_
   rw[sJ a1]at Y;exact absurd Y (by decide)
  have:=ku h.nd (by rw[h.len];omega) (by rw[h.len];omega) this;omega
theorem amH(j:Nat):ZB 1000 ((AO A b c m n).c1 j):=by
 unfold Prog.c1
 split
 .exact⟨0,rfl,by decide⟩
 .exact⟨-1,rfl,by decide⟩
theorem avA(hp:PrS A b c m n)(j:Nat):ZB 1000 ((AO A b c m n).C 0 j):=by
 unfold Prog.C;rw[sH rfl]
 split
 .exact⟨c.getD j 0,rfl,by have:=lD hp.bc j;omega⟩
 .exact⟨0,rfl,by decide⟩
theorem OC:∀ {R:List (List Rat)} {B:List Nat} (q:Nat),Units R B->Units (R.take q) (B.take q)
 |[],_,q,_=>by simp[Units]
 |_ :: _,[],q,_=>by cases q<;>simp[Units]
 |x :: R,b :: B,0,_=>by simp[Units]
 |x :: R,b :: B,q+1,h=>⟨fun b' E=>h.1 b' (wH E),OC (R:=R) (B:=B) q h.2⟩
theorem acN{c:List Rat}{j F:Nat}{Δ:Rat}(hc:∀i,ZB 1000 (c.getD i 0)):∀ {R:List (List Rat)} {B:List Nat},(∀x∈R,ZB F (x.getD j 0*Δ))->ZB (R.length*(1000*F)) (FD c j R B*Δ)
 |[],_,_=>by
  have e:FD c j [] ‹List Nat›=0:=by unfold FD;rfl
  rw[e];exact⟨0,by grind,vV _⟩
 |x :: R,[],_=>by
  have e:FD c j (x :: R) []=0:=by unfold FD;rfl
  rw[e];exact⟨0,by grind,vV _⟩
 |x :: R,b :: B,h=>by
  have e:FD c j (x :: R) (b :: B)*Δ=c.getD b 0*(x.getD j 0*Δ)+FD c j R B*Δ:=by
   show(c.getD b 0*x.getD j 0+FD c j R B)*Δ=_;grind
  rw[e];have E:=(hc b).mul (h x zM);have G:=acN hc (R:=R) (B:=B) fun y J=>h y (zY _ J)
  exact(E.add G).mono (by rw[zH,xk R.length (1000*F)];exact Nat.le_of_eq (wG _ _))
theorem Um(c:List Int)(i:Nat):(GY c).getD i 0=((c.getD i 0:Int):Rat):=by
 unfold GY qs;rw[zx,zx]
 by_cases h:i<c.length
 .rw[zW (by simpa using h),zF,zy h];rfl
 .rw[zN (by simp;omega),z_ (l:=c) (by omega)]
  by_cases E:i=c.length
  .subst E;simp
  .rw[z_ (by simp;omega)];rfl
theorem acO(hc:c.length=n):(GY c).length=n+1:=by unfold GY;rw[zo,gU];simp;omega
theorem amI(hp:PrS A b c m n)(h:Vq (AO A b c m n) (n+m) (AO A b c m n).c1 T D ι)(G:(AO A b c m n).Good T)(J:∀r,r<m->r∈ι)(O:Zero (AO A b c m n) T)(E:∀i,i<D.R.length->Ew n D i) :
  Vq (AO A b c m n) n ((AO A b c m n).C 0) T (D2q n D c) (CJ n ι D.B) :=
 WS (p:=AO A b c m n) h G J O E (acO hp.hc) (fun j S=>Um c j) (by
  show(GY c).getD n 0=0;rw[Um,zx,z_ (by have:=hp.hc;omega)];rfl)
theorem ae2(hp:PrS A b c m n)(h:Vq (AO A b c m n) (n+m) (AO A b c m n).c1 T D ι)(E:(AO A b c m n).Good T)(O7:∀r,r<m->r∈ι)(hz:Zero (AO A b c m n) T)(Y:∀i,i<D.R.length->Ew n D i) :
  ∀q,q<=(pick n D.R D.B).1.length->∀u∈clears (GY c) ((pick n D.R D.B).1.take q) ((pick n D.R D.B).2.take q),Ln 6 u:=fun q S u hu=>by
 have V:=amI hp h E O7 hz Y;have b2:=acO hp.hc;have G:=I7 (n:=n) (R:=D.R) (B:=D.B);have J:=I5 (n:=n) (R:=D.R) (B:=D.B);have hw:=gY hp;have b3:(pick n D.R D.B).1.length<=m:=by
  have h1:(CJ n ι D.B).length=(pick n D.R D.B).1.length:=V.len;rw[<- h1];have h2:CJ n ι D.B ⊆ List.range m:=fun r hr=>List.mem_range.mpr (V.lt r hr)
  have h3:=V.nd.length_le_of_subset h2
  rwa [uF]at h3
 obtain⟨P,eP⟩:∃P,P=pick n D.R D.B:=⟨_,rfl⟩;unfold D2q at V;rw[<- eP]at V G J S hu b3;have a1:∀i,i<P.1.length->P.2.getD i 0<n:=fun i hi=>by rw[lF (by omega)];exact G.2 _ (zu _)
 have b4:Units P.1 P.2:=by
  have:=WR (R:=P.1) (k:=0) (B:=P.2) (by rw[yY];exact J) fun i q hi S b9 _=>by
   rw[Nat.sub_zero,V.ent i _ hi (a1 q S),show P.2.getD q 0=T.B ((CJ n ι D.B).getD q 0)from V.Bj q S,E.ok.un _ _ (V.io hi) (V.io S)];rw[sJ fun e=>by have:=ku V.nd (by rw[V.len];exact hi) (by rw[V.len];exact S) e;omega]
  rwa [yY]at this
 obtain⟨k1,k2⟩:=JF (n:=n+1) (R:=P.1.take q) (B:=P.2.take q) b2 (fun x hx=>V.row x (wH hx)) (fun d hd=>by have:=G.2 d (wH hd);omega) (OC q b4) (by rw[zh,zh,J]);obtain⟨j,hj,rfl⟩:=yZ hu;rw[<- lF hj 0,k2 j (by omega)];obtain⟨Δ,O⟩:∃Δ,Δ=Lp.Ci m fun q=>(AO A b c m n).A (T.B q):=⟨_,rfl⟩
 obtain⟨F,eF⟩:∃F,F=fact 1000 m:=⟨_,rfl⟩;have a6:ZB F Δ:=by rw[O,eF];exact E.ed.EM E.ok.bn hw.A
 have b5:Δ≠0:=by rw[O];exact E.ed.ind
 have a7:∀i,ZB 1000 ((GY c).getD i 0):=fun i=>⟨c.getD i 0,Um c i,by have:=lD hp.bc i;omega⟩
 have b6:=acN (j:=j) (F:=F) (Δ:=Δ) a7 (R:=P.1.take q) (B:=P.2.take q) fun x hx=>by
  obtain⟨i,hi,rfl⟩:=yZ (wH hx);have e:P.1[i].getD j 0=BP P.1 i j:=by show _=(Eh P.1 i).getD j 0;rw[dR hi]
  rw[e,O,eF]
  by_cases b7:j<n
  .rw[show BP P.1 i j=T.e ((CJ n ι D.B).getD i 0) j from V.ent i j hi b7]
   exact E.ed.Nk E.ok.bn hw.A (V.io hi) (show j<n+m by omega)
  .have:j=n:=by omega
   subst this;rw[show BP P.1 i j=T.b ((CJ j ι D.B).getD i 0)from V.rhs i hi];exact E.ed.FC E.ok.bn hw.A hw.w (V.io hi)
 have a8:ZB ((m+1)*(1000*F)+F) (((GY c).getD j 0-FD (GY c) j (P.1.take q) (P.2.take q))*Δ):=by
  have e:((GY c).getD j 0-FD (GY c) j (P.1.take q) (P.2.take q))*Δ=(GY c).getD j 0*Δ+ -(FD (GY c) j (P.1.take q) (P.2.take q)*Δ):=by grind
  rw[e];refine(((a7 j).mul a6).add b6.neg).mono ?_;have:(P.1.take q).length*(1000*F)<=m*(1000*F):=zL _ (by rw[zh];omega);rw[xk m (1000*F)];exact zU (Nat.add_le_add_left this _) (by rw[wG];exact Nat.le_add_right _ _)
 have b8:ZB ((m+1)*(1000*F)+F) Δ:=a6.mono (by omega);exact OB (bJ b8 b5 a8) (by rw[eF];exact Q5 (zq _) hp.hm)
end
theorem Un(f:Nat->Int):∀k,sm (fun i=>((f i:Int):Rat)) k=((FN f k:Int):Rat)
 |0=>rfl
 |k+1=>by
  show sm (fun i=>((f i:Int):Rat)) k+((f k:Int):Rat)=((FN f k+f k:Int):Rat);rw[Un f k,Rat.intCast_add]
section
variable {A b c:List Int} {m n:Nat}
theorem aiw{i j:Nat}(hi:i<m)(E:j<n+m+1):BP (Dq A b m n m).R i j=((cell0 A b m n i j:Int):Rat):=by
 have G:(Dq A b m n m).R.length=m:=by unfold Dq En;simp
 have e:Eh (Dq A b m n m).R i=qs (row0 A b m n i):=by
  rw[dR (by omega)];simp[Dq,En]
 show(Eh (Dq A b m n m).R i).getD j 0=_;rw[e,lF (by rw[gU,fE];omega),Oz (by rw[fE];omega),fF _ _ _ _ _ (by omega)]
theorem avD{i j:Nat}(hi:i<m)(J:j<n+m):(AO A b c m n).T0.e i j=((cell0 A b m n i j:Int):Rat):=by
 show(AO A b c m n).A j i=_;unfold cell0 Prog.A;show(if j<n then _ else if i+n=j then 1 else 0)=_
 by_cases E:j<n
 .rw[sH E,sH E];rfl
 .rw[sJ E,sJ E,sH J]
  by_cases G:j=n+i
  .rw[sH G,sH (by omega)];rfl
  .rw[sJ G,sJ (by omega)];rfl
theorem avE{i:Nat}:(AO A b c m n).T0.b i=((cell0 A b m n i (n+m):Int):Rat):=by
 show((sg b i*b.getD i 0:Int):Rat)=_;unfold cell0;rw[sJ (by omega),sJ (by omega)]
theorem Q7{k:Nat}:∀ {m:Nat},FN (fun i=>if k=i then 1 else 0) m=if k<m then 1 else 0
 |0=>rfl
 |m+1=>by
  show FN _ m+(if k=m then 1 else 0)=_;rw[Q7]
  by_cases h:k<m
  .rw[sH h,sJ (by omega),sH (by omega)];rfl
  .by_cases E:k=m
   .rw[sJ h,sH E,sH (by omega)];rfl
   .rw[sJ h,sJ E,sJ (by omega)];rfl
theorem OD{f g:Nat->Int}:∀ {m:Nat},(∀i,i<m->f i=g i)->FN f m=FN g m
 |0,_=>rfl
 |m+1,h=>by
  show FN f m+f m=FN g m+g m;rw[OD fun i hi=>h i (by omega),h m (by omega)]
theorem abq:Vq (AO A b c m n) (n+m) (AO A b c m n).c1 (AO A b c m n).T0 (Dq A b m n m) (List.range m):=by
 have J:(Dq A b m n m).R.length=m:=by unfold Dq En;simp
 have O:∀i,i<m->(AO A b c m n).c1 ((AO A b c m n).T0.B i)= -1:=fun i hi=>by
  show(if i+n<n then(0:Rat)else -1)= -1;rw[sJ (by omega)]
 have S:∀j,j<n+m+1->(Dq A b m n m).c.getD j 0=((if j<n\/j=n+m then FN (fun i=>cell0 A b m n i j) m else 0:Int):Rat):=fun j G=>by
  show(qs (EX A b m n m)).getD j 0=_;rw[lF (by rw[gU,og];omega),Oz (by rw[og];omega),I4 _ _ _ _ _ G]
 refine⟨by rw[J];simp,by rw[J];simp[Dq],by show(qs (EX A b m n m)).length=_;rw[gU,og],fun x hx=>?_,fun r Y=>List.mem_range.mp Y,List.nodup_range,zq _,fun i j hi G=>?_,fun i hi=>?_,fun i hi=>?_,fun j G=>?_,?_,fun r Y hn=>absurd (List.mem_range.mpr Y) hn⟩
 .obtain⟨y,hy,rfl⟩:=List.mem_map.mp hx
  obtain⟨i,-,rfl⟩:=List.mem_map.mp hy;rw[gU,fE]
 .rw[J]at hi
  rw[g_ hi,aiw hi (by omega),avD hi G]
 .rw[J]at hi
  rw[g_ hi,aiw hi (by omega),avE]
 .rw[J]at hi
  rw[g_ hi];show((List.range m).map fun i=>n+i).getD i 0=i+n;rw[zx,zF,xM hi];show n+i=i+n;omega
 .rw[S j (by omega)]
  have e:gm (AO A b c m n).m (AO A b c m n).T0 (AO A b c m n).c1 j=(AO A b c m n).c1 j+((FN (fun i=>cell0 A b m n i j) m:Int):Rat):=by
   rw[<- Un];have E:sm (fun i=>(AO A b c m n).T0.e i j*(AO A b c m n).c1 ((AO A b c m n).T0.B i)) m= -1*sm (fun i=>((cell0 A b m n i j:Int):Rat)) m:=by
    rw[<- bT];exact bU fun i hi=>by rw[avD hi G,O i hi];grind
   show(AO A b c m n).c1 j-sm (fun i=>(AO A b c m n).T0.e i j*(AO A b c m n).c1 ((AO A b c m n).T0.B i)) m=_;rw[E];grind
  rw[e]
  by_cases E:j<n
  .rw[sH (.inl E)]
   show _=(if j<n then(0:Rat)else -1)+_;rw[sH E];grind
  .rw[sJ (by omega)]
   show _=(if j<n then(0:Rat)else -1)+_;rw[sJ E,OD (g:=fun i=>if j-n=i then 1 else 0) fun i hi=>by
    unfold cell0;rw[sJ E,sH G]
    by_cases h2:j=n+i
    .rw[sH h2,sH (by omega)]
    .rw[sJ h2,sJ (by omega)],Q7,sH (by omega)]
   decide+kernel
 .rw[S (n+m) (by omega),sH (.inr rfl),<- Un]
  have E:sm (fun i=>(AO A b c m n).T0.b i*(AO A b c m n).c1 ((AO A b c m n).T0.B i)) m= -1*sm (fun i=>((cell0 A b m n i (n+m):Int):Rat)) m:=by
   rw[<- bT];exact bU fun i hi=>by rw[avE,O i hi];grind
  show _= -sm (fun i=>(AO A b c m n).T0.b i*(AO A b c m n).c1 ((AO A b c m n).T0.B i)) m;rw[E];grind
end
attribute [-go_sem] qw
def avG(p:Prog)(r:V):Prop:=(r= .agg [I 2,.ts [] 0,Bo false,.ts [] 0,.ts [] 0]/\p.None)\/(r= .agg [I 3,.ts [] 0,Bo false,.ts [] 0,.ts [] 0]/\p.Open) \/
 ∃x:Nat->Rat,p.Best x/\(∀j,j<p.n->Ln 6 (x j))/\Ln 6 (ob p.n p.c x)/\r= .agg (I 0 :: LL cQ ((List.range p.n).map x) :: cQ (ob p.n p.c x))/\∃T,p.Good T/\x=Bj p.m T
section
variable {A b c:List Int} {m n:Nat}
def Q1(A b c:List Int)(m n:Nat)(D:TQ):Prop:=∃T,Vq (AO A b c m n) (n+m) (AO A b c m n).c1 T D (List.range m)/\(AO A b c m n).Good T
def Q2(A b c:List Int)(m n:Nat)(D:TQ):Prop:=∃T,Vq (AO A b c m n) (n+m) (AO A b c m n).c1 T D (List.range m)/\(AO A b c m n).Good T/\Zero (AO A b c m n) T
def Q3(A b c:List Int)(m n:Nat)(ι:List Nat)(D:TQ):Prop:=∃T,Vq (AO A b c m n) n ((AO A b c m n).C 0) T D ι/\(AO A b c m n).Good T/\(AO A b c m n).Out T/\∀x∈D.B,x<n
theorem alQ{D E:TQ}(h:Q1 A b c m n D)(hs:Ny (n+m) 1 D E):Q1 A b c m n E:=by
 obtain⟨T,G,J⟩:=h;obtain⟨T',O,S⟩:=G.step (C:=fun _=>(AO A b c m n).c1) (NC (p:=AO A b c m n) (n':=n+m)) hs;exact⟨T',S,J.step O⟩
theorem alR{ι:List Nat}{D G:TQ}(h:Q3 A b c m n ι D)(hs:Ny n (n+1) D G):Q3 A b c m n ι G:=by
 obtain⟨T,S,Y,J,h4⟩:=h;obtain⟨T',O,k2⟩:=S.step (C:=(AO A b c m n).C) (NG (p:=AO A b c m n)) hs;refine⟨T',k2,Y.step O,?_,fun x E=>?_⟩
 case refine_2=>
  obtain⟨s,r,g1,-,rfl⟩:=hs;rcases u_ E with E|rfl
  .exact h4 x E
  .exact g1.lt
 obtain⟨s,r,g1,g2,rfl⟩:=O
 by_cases hB:T.B r<n
 .exact J.piv hB g1.fr
 .have:=(J.z r g2.lt (by show n<=T.B r;omega)).2 s g1.fr
  have:=g2.pos;grind
theorem apB{D:TQ}(h:Q2 A b c m n D)(E:∀i,i<D.R.length->Ew n D i):∃T,Vq (AO A b c m n) (n+m) (AO A b c m n).c1 T D (List.range m)/\(AO A b c m n).Good T/\Zero (AO A b c m n) T/\(AO A b c m n).Out T:=by
 obtain⟨T,G,h2,O⟩:=h;refine⟨T,G,h2,O,⟨fun i hi S=>⟨O i hi S,fun j Y=>?_⟩⟩⟩;have hl:D.R.length=m:=by rw[<- G.len];simp
 have J:i<m:=hi;have e1:=G.ent i j (by omega) (by have:j<n:=Y;omega);have e2:=G.Bj i (by omega);rw[g_ J]at e1 e2;rw[<- e1];exact E i (by omega) (by rw[e2];exact S) j Y
theorem acP{C:Nat->Nat->Rat}{p:Prog}{n':Nat}{T:Tab}{D:TQ}{ι:List Nat}(h:Vq p n' (C 0) T D ι){j:Nat}(E:j<n')(hn:j∉D.B):Bj p.m T j=0:=by
 unfold Bj;refine bK fun i hi=>?_
 rw[sJ fun e=>hn ((h.mem E).mpr ⟨i,hi,e⟩)]
theorem abr(a b c d e:V)(v:Rat):patch [a,b,c,d,e] 2 (cQ v)=a :: b :: cQ v:=rfl
theorem abt(a b c d e x y:V)(v:Rat):patch [a,b,c,d,e] 0 (x :: y :: cQ v)=x :: y :: cQ v:=rfl
theorem alS(a b:V)(v:Rat):(a :: b :: cQ v).length=5:=rfl
theorem alT(a b:V)(v:Rat):(a :: b :: cQ v).all qI=(qI a && (qI b && true)):=rfl
theorem alU(x:Value):qI (.sc x)=true:=rfl
theorem aix:qI .nil=true:=rfl
theorem alV(b o l:Nat):qI (.rs b o l)=true:=rfl
theorem aiy(a b:V)(v:Rat):(a :: b :: cQ v)[1]?=some b:=rfl
theorem aiz(a b w:V)(v:Rat):(a :: b :: cQ v).set 1 w=a :: w :: cQ v:=rfl
theorem aiA(a b:V)(v:Rat):(a :: b :: cQ v).take 5=a :: b :: cQ v:=rfl
attribute [go_sem] abr abt alS alT alU aix alV aiy aiz aiA
theorem apC(hp:PrS A b c m n):∃r,fn ZL pI Ad 128 [.agg (CO m n A b c)]=some r/\avG (AO A b c m n) r:=by
 have hm:=hp.hm;have hn:=hp.hn;have hc:=hp.hc;have b6:∀x,(-1000<=x/\x<=1000)->(-1000000<=x/\x<=1000000):=fun x h=>by omega
 obtain⟨N,hN⟩:∃N,N=n+m:=⟨_,rfl⟩;obtain⟨s1,b4⟩:∃s1,s1=upd (upd lI 0 (some ⟨CO m n A b c,0,true⟩)) 1 (some ⟨[I 0,.nil,Bo false,.nil,.nil],0,true⟩):=⟨_,rfl⟩;have b5:s1 0=some ⟨CO m n A b c,0,true⟩:=by rw[b4,Zl _ _ (by decide),Zk]
 have h8:s1 1=some ⟨[I 0,.nil,Bo false,.nil,.nil],0,true⟩:=by rw[b4,Zk]
 obtain⟨σ2,BX,bt,k1,bc,vr,vb,rb,j5,S,FK⟩:=aps (c:=c) hp.hA hp.hb (by omega) (by omega) hp.bA hp.bb s1 2;have j6:Q1 A b c m n (Dq A b m n m):=⟨_,abq,gi⟩;have h9:∀D,Q1 A b c m n D->ShF D (n+m)/\D.B.Nodup:=fun D h=>by
  obtain⟨T,h1,h2⟩:=h;exact abp hp h1 h2 amH
 have j7:WQ (n+m) 1 (2^(n+m)) (Dq A b m n m):=Vq.aaJ (C:=fun _=>(AO A b c m n).c1) NC abq (ab5 gi.ok);obtain⟨j8,Au,p0,D3,k2,j9,k7,NT,p1,Fh⟩:=atb (Q1 A b c m n) false (d:=1) rfl h9 (fun D D' h hs=>alQ h hs) j6 j7 j5 (fun b hb=>(S b hb).2);obtain⟨T3,v3,g3,z3,k8⟩:=aaL (p:=AO A b c m n) j9 abq gi fun r hr=>List.mem_range.mpr hr
 have i0:=(h9 D3 k7).1;have i1:=i0.Gm;have KU:=NT.t;have e0:=NT.c;rw[<- hN]at KU i1;have l1:bt<Au:=by have:=S bt (by simp);omega
 have l2:bc<Au:=by have:=S bc (by simp);omega
 have a1:=jD N;have a2:(N:Int)<((N+1:Nat):Int):=by omega
 have a3:=d_ (c:=cQ) (s:=3) qG D3.c N (by omega);rw[<- lF (by omega) 0]at a3;have a4:=bZ (c:=cQ) (s:=3) qG D3.c;rw[i1]at a4;have a5:N*3+3<=(N+1)*3:=by omega
 have k9:Ln 6 (D3.c.getD N 0):=by rw[lF (by omega)];exact i0.alI _ (zu _)
 have k3:=dL (D3.c.getD N 0) (k9.mono (by decide));have b7:=abk (D3.c.getD N 0);have e5:∀x,x<2->j8 x=s1 x:=fun x hx=>by
  rw[Fh x (by have:=S bt (by simp);omega) fun hm=>by have:=S x (by simp only[zV,wP]at hm⊢;rcases hm with h|h|h<;>simp[h]);omega];exact FK x hx
 have e6:=(e5 0 (by decide)).trans b5;have l6:=(e5 1 (by decide)).trans h8;unfold CO at b4 b5 e6 k1⊢;rw[m_,mg [.cell 2 179] [8,12,16] func128]
 by_cases hz:D3.c.getD N 0=0
 .rw[sF hz,um]at b7
  have l7:Q2 A b c m n D3:=⟨T3,v3,g3,z3 (by rw[show(AO A b c m n).N=N from hN.symm];exact hz)⟩;have c9:∀r,r<m->r∈List.range m:=fun r hr=>List.mem_range.mpr hr
  obtain⟨CP,Fe,Y,i2,l8,e7,c0,D4,k4,l9,i3,m1,Uo,m2⟩:=alL (nx:=Au) (A:=A) (b:=b) (m:=m) (N:=N) (Q2 A b c m n) hc hN (by omega) hp.bc (fun D h=>by
   obtain⟨T,h1,h2,h3⟩:=h;rw[hN];exact(abp hp h1 h2 amH).1) (fun D i k h hi hB hk m3=>by
   obtain⟨T,h1,h2,h3⟩:=h;exact⟨_,aaM (p:=AO A b c m n) h1 h2 h3 hi hB hk m3⟩) (fun D h i4=>by
   obtain⟨T,h1,h2,h3⟩:=h;exact ae2 hp h1 h2 c9 h3 i4) l7 (by rw[hN];exact NT) (fun x hx=>by have:=S x hx;omega)
  obtain⟨T4,v4,g4,z4,o4⟩:=apB l9 i3;have V4:=amI hp v4 g4 c9 z4 i3;have i5:∀D,Q3 A b c m n (CJ n (List.range m) D4.B) D->ShF D n/\D.B.Nodup:=fun D h=>by
   obtain⟨T,h1,h2,h3,h4⟩:=h;exact abp hp h1 h2 (avA hp)
  obtain⟨EG,G,m4,J,k5,m5,i6,Gp,p2,m6⟩:=atb (Q3 A b c m n (CJ n (List.range m) D4.B)) true (d:=n+1) rfl i5 (fun D D' h hs=>alR h hs) ⟨T4,V4,g4,o4,I7.2⟩ (Vq.aaJ (C:=(AO A b c m n).C) NG V4 (ab5 g4.ok)) m1 (fun b hb=>(Uo b hb).2);obtain⟨T5,V5,g5,o5,m7,m8⟩:=aaN (p:=AO A b c m n) m5 V4 g4 o4;unfold CO at k4;have p3:=(S bt (by simp)).1;have p4:=(S bt (by simp)).2;have i7:∀x,x<2->EG x=s1 x:=fun x hx=>by
   rw[m6 x (by have:=Uo Y (by simp);omega) fun hm=>by have:=Uo x (by simp only[zV,wP]at hm⊢;rcases hm with h|h|h<;>simp[h]);omega];rw[m2 x (by omega) fun hm=>by have:=S x (by simp only[zV,wP]at hm⊢;rcases hm with h|h|h<;>simp[h]);omega];rw[e5 x hx]
  have i9:=(i7 0 (by decide)).trans b5;have j0:=(i7 1 (by decide)).trans h8;cases m4 with
  |false=>
   refine⟨_,by simp only[go_sem,qB,<- b4,b5,k1,k2,KU,e0,a1,a2,a3,a4,a5,k3,b7,l1,l2,e6,k4,k5,j0],.inr (.inl ⟨rfl,m8 rfl⟩)⟩
  |true=>
   obtain⟨a8,p5⟩:=i5 J i6;have e9:=Gp.t;have m9:=Gp.c;have n0:=a8.Gm;have d1:Y<G:=by have:=Uo Y (by simp);omega
   have d2:i2<G:=by have:=Uo i2 (by simp);omega
   have c1:=jD n;have c2:(n:Int)<((n+1:Nat):Int):=by omega
   have c3:=d_ (c:=cQ) (s:=3) qG J.c n (by omega);rw[<- lF (by omega) 0]at c3;have c4:=bZ (c:=cQ) (s:=3) qG J.c;rw[n0]at c4;have c5:n*3+3<=(n+1)*3:=by omega
   have h5:Ln 6 (J.c.getD n 0):=by rw[lF (by omega)];exact a8.alI _ (zu _)
   have d3:G<G+1:=by omega
   have k6:=agC (J.c.getD n 0) (by have:=h5.1;omega) (by have:=h5.2;omega);have j1:-J.c.getD n 0=ob n (AO A b c m n).c (Bj m T5):=anT (p:=AO A b c m n) V5 g5;have h6:=Ul h5;rw[j1]at k6 h6;generalize J.c.getD n 0=q at c3 k6;generalize hv:ob n (AO A b c m n).c (Bj m T5)=v at k6 h6;simp only[go_sem,qB,<- b4,b5,k1,k2,KU,e0,a1,a2,a3,a4,a5,k3,b7,l1,l2,e6,k4,k5,e9,m9,c1,c2,c3,c4,c5,d1,d2,d3,k6];have k0:fn ZL conv ext 133 [I 0]=some (.agg (cQ 0)):=dO 0 (by decide) (by decide)
   have n1:1<G:=by have:=Uo Y (by simp);omega
   generalize hL:dI _ _=y;obtain⟨x,rfl,T6,DF,O,rfl,t2,t4,t5,KX,QX,b3⟩:=oZ hL n (fun j st=>st.T 1= .rp 0 0/\st.T 2= .rp 1 0/\st.T 4= .rp Y 0/\st.T 5= .rp G 0/\st.T 6=I j/\G<st.nx/\(∀y,y<G->st.σ y=EG y)/\((j=0/\st.σ G=some ⟨I 0 :: .nil :: cQ v,0,true⟩)\/∃E,0<j/\G<E/\E<st.nx/\st.σ G=some ⟨I 0 :: .rs E 0 j :: cQ v,0,true⟩/\st.σ E=some ⟨(List.replicate j (0:Rat)).flatMap cQ,3,true⟩))
    (fun x=>∃T DF O,x=(.exit 0,⟨T,DF,O⟩)/\T 2= .rp 1 0/\T 4= .rp Y 0/\T 5= .rp G 0/\G<O/\(∀y,y<G->DF y=EG y)/\((n=0/\DF G=some ⟨I 0 :: .nil :: cQ v,0,true⟩)\/∃E,0<n/\G<E/\E<O/\DF G=some ⟨I 0 :: .rs E 0 n :: cQ v,0,true⟩/\DF E=some ⟨(List.replicate n (0:Rat)).flatMap cQ,3,true⟩)) (by
     clear hL;rintro j ⟨T,DF,O⟩ hj ⟨t1,t2,t4,t5,t6,KX,QX,b3⟩;simp only at t1 t2 t4 t5 t6 KX QX b3;have g1:(j:Int)<(n:Int):=by omega
     have g3:=ZT (n:=(j:Int)+1);have c7:DF 0=_:=(QX 0 (by omega)).trans i9;have y1:G<O:=by omega
     have y2:¬G=O:=by omega
     have y3:(G==O)=false:=by rw[sG];omega
     have y4:(O==G)=false:=by rw[sG];omega
     have y5:G<O+1:=by omega
     have y6:¬G=O+1:=by omega
     have y7:(G==O+1)=false:=by rw[sG];omega
     have y8:(O+1==G)=false:=by rw[sG];omega
     have y9:G<O+1+1:=by omega
     have XT:¬G=O+1+1:=by omega
     have XU:(G==O+1+1)=false:=by rw[sG];omega
     have XV:(O+1+1==G)=false:=by rw[sG];omega
     have j2:O<O+1:=by omega
     have XW:O+1<O+1+1:=by omega
     rcases b3 with ⟨h0,st⟩|⟨E,p6,c1,c2,st,sx⟩
     .refine .inl ⟨_,by simp only[go_sem,t1,t2,t4,t5,t6,c7,st,g1,g3,k0,y1,y2,y3,y4,y5,y6,y7,y8,y9,XT,XU,XV,j2,XW];rfl,?_⟩
      simp only[go_sem,t1,t2,t4,t5];refine⟨rfl,by omega,fun x hx=>?_,.inr ⟨O+1,by omega,by omega,by omega,by rw[h0],?_⟩⟩
      .rw[Zm,Zm,Zm];exact QX x hx
      .rw[Zm,Zk,h0];rfl
     .have j3:=r_ (σ:=restrict (upd DF O (some ⟨cQ 0,3,true⟩)) [E,O]) (nx:=O+1) (size:=3) (bytes:=56) (b:=E) (len:=j) (m:=1) (row:=cQ 0) (by rw[fK,Zm];exact sx) (by rw[bZ qG,yU]) (by decide) (by decide) (by unfold maxLen;omega) (by omega) rfl
      have x1:E<O+1:=by omega
      have x2:(G==E)=false:=by rw[sG];omega
      have x3:(E==G)=false:=by rw[sG];omega
      have x4:¬G=E:=by omega
      refine .inl ⟨_,by simp only[go_sem,t1,t2,t4,t5,t6,c7,st,g1,g3,k0,j3,x1,x2,x3,x4,y1,y2,y3,y4,y5,y6,y7,y8,y9,XT,XU,XV,j2,XW];rfl,?_⟩;simp only[go_sem,t1,t2,t4,t5];refine⟨rfl,by omega,fun x hx=>?_,.inr ⟨O+1,by omega,by omega,by omega,rfl,?_⟩⟩
      .rw[Zm,Zm,Zm,Zm];exact QX x hx
      .rw[Zm,Zk,uD,zT];simp) (by
     clear hL;rintro ⟨T,DF,O⟩ ⟨t1,t2,t4,t5,t6,KX,QX,b3⟩;simp only at t1 t2 t4 t5 t6 KX QX b3;have c7:DF 0=_:=(QX 0 (by omega)).trans i9;refine⟨_,by simp only[go_sem,t1,t6,c7,zk];rfl,by simp,_,_,_,rfl,?_⟩;simp only[go_sem,t2,t4,t5];exact⟨KX,QX,b3⟩) (by
     simp only[go_sem];exact⟨by omega,fun y hy=>by rw[Zm],.inl trivial⟩)
   clear hL;have n2:∀x∈J.B,x<n:=i6.choose_spec.2.2.2;obtain⟨K,eK⟩:∃K,K=J.R.length:=⟨_,rfl⟩;have p7:=a8.Bc;have p8:=a8.Gn;obtain⟨f,ef⟩:∃f,f=Bj m T5:=⟨_,rfl⟩;have b8:∀i,i<K->BP J.R i n=f (J.B.getD i 0):=fun i hi=>by rw[ef];exact ar7 (p:=AO A b c m n) V5 g5 (by omega)
   have hlen:Dz ZL 27 e7=some (I K):=by
    rcases Gp.b with ⟨q1,rfl⟩|⟨bb,q1,rfl,_⟩
    .rw[show K=0 by omega];exact nU (by kernel_rfl)
    .rw[eK];exact nT (by kernel_rfl)
   obtain⟨vx,n3,n4⟩:∃vx,DF G=some ⟨I 0 :: vx :: cQ v,0,true⟩/\((n=0/\vx= .nil)\/∃E,0<n/\G<E/\E<O/\vx= .rs E 0 n/\DF E=some ⟨(List.replicate n (0:Rat)).flatMap cQ,3,true⟩):=by
    rcases b3 with ⟨h0,h1⟩|⟨E,h0,h1,h2,h3,h4⟩
    .exact⟨_,h1,.inl ⟨h0,rfl⟩⟩
    .exact⟨_,h3,.inr ⟨E,h0,h1,h2,rfl,h4⟩⟩
   have n5:DF Y=_:=(QX Y d1).trans e9;simp only[go_sem,t2,t4,t5,n5,hlen];generalize hL:dI _ _=y;obtain⟨x,rfl,T7,FU,a7,rfl,t2,t5,a6,b2,X3⟩:=oZ hL K (fun i st=>st.T 2= .rp 1 0/\st.T 4= .rp Y 0/\st.T 5= .rp G 0/\st.T 60=e7/\st.T 61=I K/\st.T 62=I i/\O<=st.nx/\(∀y,y<G->st.σ y=EG y)/\st.σ G=some ⟨I 0 :: vx :: cQ v,0,true⟩/\((n=0/\vx= .nil)\/∃E,0<n/\G<E/\E<O/\vx= .rs E 0 n/\st.σ E=some ⟨(xB J.B f i n).flatMap cQ,3,true⟩))
    (fun x=>∃T FU a7,x=(.exit 2,⟨T,FU,a7⟩)/\T 2= .rp 1 0/\T 5= .rp G 0/\(∀y,y<G->FU y=EG y)/\FU G=some ⟨I 0 :: vx :: cQ v,0,true⟩/\((n=0/\vx= .nil)\/∃E,0<n/\G<E/\E<O/\vx= .rs E 0 n/\FU E=some ⟨(xB J.B f K n).flatMap cQ,3,true⟩)) (by
     clear hL;rintro i ⟨T,FU,a7⟩ hi ⟨t2,t4,t5,t60,t61,t62,c8,a6,b2,X3⟩;simp only at t2 t4 t5 t60 t61 t62 c8 a6 b2 X3;have j4:J.B.getD i 0<n:=by rw[lF (by omega)];exact n2 _ (zu _)
     rcases X3 with ⟨h0,_⟩|⟨E,h0,h1,h2,rfl,h4⟩
     .omega
     obtain⟨br,rfl,n6⟩:∃br,l8= .rs br 0 K/\EG br=some ⟨c0.map fun b=>V.rs b 0 (n+1),1,true⟩:=by
      rcases Gp.r with ⟨e,_⟩|⟨br,_,e,e2⟩
      .omega
      .exact⟨br,by rw[e,eK],e2⟩
     obtain⟨bb,rfl,n7⟩:∃bb,e7= .rs bb 0 K/\EG bb=some ⟨(BR J.B).flatMap cI,1,true⟩:=by
      rcases Gp.b with ⟨e,_⟩|⟨bb,_,e,e2⟩
      .omega
      .exact⟨bb,by rw[e,eK],e2⟩
     have h7:i<c0.length:=by have:=Gp.len;omega
     obtain⟨bi,Fb⟩:∃bi,bi=c0[i]:=⟨_,rfl⟩;have p9:=Uo br (by simp[bk]);have q0:=Uo bb (by simp[bk]);have q2:bi<Fe:=by rw[Fb];exact(Uo _ (by simp[zu h7])).2
     have g1:(i:Int)<(K:Int):=by omega
     have g2:=jD i;have g3:=ZT (n:=(i:Int)+1);have e1:FU Y=_:=(a6 Y d1).trans e9;have e2:FU br=_:=(a6 br (by omega)).trans n6;have e3:FU bb=_:=(a6 bb (by omega)).trans n7;have e4:FU bi=some ⟨(Eh J.R i).flatMap cQ,3,true⟩:=(a6 bi (by omega)).trans (by rw[Fb];exact Gp.row i h7);have r1:(c0.map fun b=>V.rs b 0 (n+1))[i]?=some (.rs bi 0 (n+1)):=by rw[zF,zy h7,Fb];rfl
     have b1:=idx (xs:=BR J.B) (k:=i) (by rw[aA];omega);rw[aB (by omega)]at b1;have rl:=dP a8.row (show i<J.R.length by omega);have r3:=pX (R:=J.R) (i:=i) (j:=n) (by omega);have lq:Ln 6 (BP J.R i n):=by
      rw[<- oC (by omega)];exact a8.big _ (by rw[dR (show i<J.R.length by omega)];exact zu _) _ (zu _)
     rw[b8 i hi]at r3 lq;have r4:=bZ (c:=cQ) (s:=3) qG (Eh J.R i);rw[rl]at r4;have kc:=aph (f (J.B.getD i 0)) (lq.mono (by decide));have c6:patch ((xB J.B f i n).flatMap cQ) (J.B.getD i 0*3) (cQ (f (J.B.getD i 0)))=(xB J.B f (i+1) n).flatMap cQ:=by
      rw[iF qG _ _ (by rw[ZP];exact j4),aht f (by omega)]
     have g5:=bZ (c:=cQ) (s:=3) qG (xB J.B f i n);rw[ZP]at g5;generalize J.B.getD i 0=B at j4 b1 r3 kc c6;have g6:=jD B;have g7:(B:Int)<(n:Int):=by omega
     have g8:B*3+3<=n*3:=by omega
     have l1:G<a7:=by omega
     have l2:Y<a7:=by omega
     have l3:br<a7:=by omega
     have l4:bi<a7:=by omega
     have l5:E<a7:=by omega
     have z1:(G==E)=false:=by rw[sG];omega
     have z2:(Y==E)=false:=by rw[sG];omega
     have z3:(br==E)=false:=by rw[sG];omega
     have z4:(bi==E)=false:=by rw[sG];omega
     refine .inl ⟨_,by simp only[go_sem,t2,t4,t5,t60,t61,t62,e1,e2,e3,e4,b2,h4,r1,b1,r3,r4,g1,g2,g3,g5,g6,g7,g8,c1,c2,c5,kc,c6,l1,l2,l3,l4,l5,z1,z2,z3,z4];rfl,?_⟩;simp only[go_sem,t2,t4,t5,t60,t61];refine⟨rfl,c8,fun y hy=>?_,?_,.inr ⟨E,h0,h1,h2,rfl,?_⟩⟩
     .rw[Zm];exact a6 y hy
     .rw[Zm];exact b2
     .rw[Zk]) (by
     clear hL;rintro ⟨T,FU,a7⟩ ⟨t2,t4,t5,t60,t61,t62,c8,a6,b2,X3⟩;simp only at t2 t4 t5 t60 t61 t62 c8 a6 b2 X3;refine⟨_,by simp only[go_sem,t61,t62,zk];rfl,by simp,_,_,_,rfl,?_⟩;simp only[go_sem,t2,t5];exact⟨a6,b2,X3⟩) (by
     simp only[go_sem,t2,t4,t5];refine⟨QX,n3,?_⟩;rcases n4 with h|⟨E,h0,h1,h2,h3,h4⟩
     .exact .inl h
     .exact .inr ⟨E,h0,h1,h2,h3,by rw[acz];exact h4⟩)
   clear hL;have n8:FU 1=_:=(a6 1 n1).trans j0;have hX:xB J.B f K n=(List.range n).map f:=by
    unfold xB;rw[zl (by omega)];refine xG fun j hj=>?_
    by_cases h:j∈J.B
    .rw[sH h]
    .rw[sJ h,ef]
     exact(acP (C:=(AO A b c m n).C) V5 (List.mem_range.mp hj) h).symm
   have n9:∀j,j<n->Ln 6 (f j):=fun j hj=>by
    by_cases h:j∈J.B
    .obtain⟨i,hi,rfl⟩:=yZ h
     rw[<- lF hi 0,<- b8 i (by omega),<- oC (by rw[dP a8.row (by omega)];omega)];exact a8.big _ (by rw[dR (show i<J.R.length by omega)];exact zu _) _ (zu _)
    .have e:Bj m T5 j=0:=acP (C:=(AO A b c m n).C) V5 hj h
     rw[ef,e];exact alO
   obtain⟨ids,o0⟩:∃ids,∀σ',(∀y,y≠1->σ' y=FU y)->strip σ' 6 vx=some (LL cQ ((List.range n).map f),ids):=by
    rcases X3 with ⟨h0,rfl⟩|⟨E,h0,h1,h2,rfl,h4⟩
    .exact⟨[],fun σ' _=>by rw[aS,h0];rfl⟩
    .exact⟨[E],fun σ' h=>fD (by rw[h E (by omega),<- hX];exact h4) (by simp)⟩
   obtain⟨b9,e8⟩:∃b9,b9=upd FU 1 (some ⟨I 0 :: vx :: cQ v,0,true⟩):=⟨_,rfl⟩;have o2:=o0 b9 fun y hy=>by rw[e8,Zl _ _ hy]
   have o3:b9 1=some ⟨I 0 :: vx :: cQ v,0,true⟩:=by rw[e8,Zk]
   have o6:=qF b9 6 v;have o7:qI vx=true:=by
    rcases X3 with ⟨-,rfl⟩|⟨E,-,-,-,rfl,-⟩<;>rfl
   refine⟨.agg (I 0 :: LL cQ ((List.range n).map f) :: cQ v),?_,.inr (.inr ⟨f,by rw[ef];exact m7 rfl,n9,by rw[show ob (AO A b c m n).n (AO A b c m n).c f=v by rw[ef];exact hv];exact h6,by rw[show ob (AO A b c m n).n (AO A b c m n).c f=v by rw[ef];exact hv];rfl,T5,g5,ef⟩)⟩;simp only[go_sem,t2,t5,b2,n8,<- e8,o3,o2,o6,o7,ah]
 .rw[sD hz,vU]at b7
  refine⟨_,by simp only[go_sem,qB,<- b4,b5,k1,k2,KU,e0,a1,a2,a3,a4,a5,k3,b7,l1,l2,l6],.inl ⟨rfl,k8 (by rw[show(AO A b c m n).N=N from hN.symm];exact hz)⟩⟩
end
theorem X4{s:Structure}(h:SG s):fn ZL conv ext 115 [.agg (cStructure s)]=some (LI (free s)):=by
 have Pj:=h.nj;unfold free;rw[m_,mg [.tmp 2] [] func115];simp only[go_sem];generalize hL:dI _ _=y;obtain⟨r,rfl,T',σ',nx',rfl,h2⟩:=oZ hL s.joints.length (fun k st=>st.T 8=LL cJoint s.joints/\st.T 9=I s.joints.length/\st.T 10=I k/\Grow st.T st.σ st.nx 3 (EY (C9 s) k))
  (fun r=>∃T σ nx',r=(.exit 0,⟨T,σ,nx'⟩)/\Grow T σ nx' 3 (EY (C9 s) s.joints.length)) (by
   clear hL;rintro k ⟨T,σ,nx⟩ G ⟨O,E,J,S⟩;simp only at O E J S;have f1:(k:Int)<(s.joints.length:Int):=by omega
   have f2:=jD k;have f3:=ZT (n:=(k:Int)+1);have f4:=KN s.joints k G;have f5:=Gf s.joints;have f6:k*4+4<=s.joints.length*4:=by omega
   have f9:=O1 s.joints k G;have hle:=Zp (C9 s) k;have Y:=fun x=>kR S x
   cases hp:s.joints[k].fixed with
   |false=>
    have hq:C9 s k=true:=by simp[C9,zy G,hp]
    obtain⟨σ',ha,hs⟩:=kQ (Y (some ⟨[Sg s.joints[k].name,I s.joints[k].x,I s.joints[k].y,Bo false],0,true⟩)) (k:Int) (by omega);refine .inl ⟨_,by simp only[go_sem,O,E,J,f1,f2,f3,f4,f5,f6,f9,hp,G,ha];rfl,?_⟩;simp only[go_sem,O,E];rw[Iu hq];exact⟨rfl,kN hs (by simp[go_sem]) (by simp)⟩
   |true=>
    have hq:C9 s k=false:=by simp[C9,zy G,hp]
    refine .inl ⟨_,by simp only[go_sem,O,E,J,f1,f2,f3,f4,f5,f6,f9,hp,G];rfl,?_⟩;simp only[go_sem,O,E];rw[Nc hq];exact⟨rfl,kP (T:=T) (by simp only[go_sem]) (Y _)⟩) (by
   rintro ⟨T,σ,nx⟩ ⟨O,E,J,S⟩;simp only at O E J S;exact⟨_,by simp only[go_sem,E,J,zk];rfl,by simp,_,_,_,rfl,kP (by simp only[go_sem]) S⟩) (by
   simp only[go_sem];exact .inl ⟨by simp only[go_sem],rfl⟩)
 obtain⟨ids,hs⟩:=kM h2 6;simp only[go_sem,hs]
theorem Us{s:Structure}(h:SG s){k:Nat}(E:k<s.members.length):fn ZL conv ext 229 [.agg (cStructure s),I k]=some (.AB [I (vx s k),I (vy s k)]):=by
 have J:=h.mr k E;rw[jJ E]at J;have hb:=Zf h k;have a1:=h.nm;have Pj:=h.nj;have O:=Ik s.members k E;rw[jJ E]at O;have f1:(k:Int)<(s.members.length:Int):=by omega
 have f2:=jD k;have f4:=E_ s.members;have f5:k*3+3<=s.members.length*3:=by omega
 have f6:=Il s.members k E;have S:(s.members.flatMap cMember)[k*3+0]?=some (I (mem s k).a):=by rw[<- jJ E];exact cO (c:=cMember) (fun _=>rfl) s.members k E (j:=0) (by decide)
 have m2:(s.members.flatMap cMember)[k*3+1]?=some (I (mem s k).b):=by rw[<- jJ E];exact cO (c:=cMember) (fun _=>rfl) s.members k E (j:=1) (by decide)
 rw[uN]at S;unfold vx vy at hb⊢;generalize mem s k=mm at *;obtain⟨Y,mb,mk⟩:=mm;obtain⟨r1,r2,r3,r4,r5,r6⟩:=J;simp only at *;obtain⟨a,rfl⟩:∃a:Nat,Y=(a:Int):=⟨Y.toNat,by omega⟩;obtain⟨b,rfl⟩:∃b:Nat,mb=(b:Int):=⟨mb.toNat,by omega⟩;have ha:a<s.joints.length:=by omega
 have G:b<s.joints.length:=by omega
 have ea:Xp s (a:Int)=s.joints[a]:=by unfold Xp;rw[zJ,zy ha];rfl
 have eb:Xp s (b:Int)=s.joints[b]:=by unfold Xp;rw[zJ,zy G];rfl
 rw[ea,eb]at hb⊢;have g4:=Gf s.joints;have g6:=O1 s.joints a ha;have p1:=KN s.joints a ha;have p2:=KN s.joints b G;have p3:a*4+4<=s.joints.length*4:=by omega
 have p4:b*4+4<=s.joints.length*4:=by omega
 have w1:=ZT (n:=s.joints[b].x-s.joints[a].x);have w2:=ZT (n:=s.joints[b].y-s.joints[a].y);rw[m_,mg [.tmp 4,.tmp 5] [1,2] func229];simp only[go_sem,O,f1,f2,f4,f5,f6,S,m2,r1,r2,r3,r4,g4,g6,p1,p2,p3,p4,w1,w2]
def G2(v1 v2:V)(σ:Store)(nx:Nat)(E G:List Int):Prop:=(E=[]/\v1= .nil/\G=[]/\v2= .nil)\/∃b1 J,b1≠J/\b1<nx/\J<nx/\E≠[]/\G≠[]/\v1= .rs b1 0 E.length/\v2= .rs J 0 G.length/\σ b1=some ⟨E.flatMap cI,1,true⟩/\σ J=some ⟨G.flatMap cI,1,true⟩
theorem G2.congr{v1 v2:V}{σ σ':Store}{nx nx':Nat}{E G:List Int}(h:G2 v1 v2 σ nx E G)(hn:nx<=nx')(e:∀b,b<nx->σ' b=σ b):G2 v1 v2 σ' nx' E G:=by
 rcases h with h|⟨b1,J,O,S,Y,h4,h5,h6,h7,h8,h9⟩
 .exact .inl h
 .exact .inr ⟨b1,J,O,by omega,by omega,h4,h5,h6,h7,(e b1 S).trans h8,(e J Y).trans h9⟩
theorem lN{v1 v2:V}{σ:Store}{nx:Nat}{O S:List Int}(h:G2 v1 v2 σ nx O S)(x y:Int)(h1:O.length<100000)(h2:S.length<100000) :
  ∃E σ2,Ag (upd σ nx (some ⟨[I x],1,true⟩)) (nx+1) 1 8 v1 [I x] 1=some (.rs (nx+1) 0 (O.length+1),E,nx+1+1)/\Ag (upd E (nx+1+1) (some ⟨[I y],1,true⟩)) (nx+1+1+1) 1 8 v2 [I y] 1=some (.rs (nx+1+1+1) 0 (S.length+1),σ2,nx+1+1+1+1) /\
   G2 (.rs (nx+1) 0 (O.length+1)) (.rs (nx+1+1+1) 0 (S.length+1)) σ2 (nx+1+1+1+1) (O++[x]) (S++[y])/\∀b,b<nx->(∀o l,v1≠ .rs b o l)->(∀o l,v2≠ .rs b o l)->σ2 b=σ b:=by
 have g1:Cb cI 1 (fun _=>v1) σ nx 0 O:=by
  rcases h with ⟨J,G,-,-⟩|⟨b1,Y,J,G,q3,q4,q5,q6,q7,q8,q9⟩
  .exact .inl ⟨G,J⟩
  .exact .inr ⟨b1,q6,q4,q8,G⟩
 obtain⟨E,a1,a2,a3⟩:=kW (c:=cI) (s:=1) (bytes:=8) (fun _=>rfl) (fun _=>rfl) (by decide) g1 x h1 (by decide);have o1:∀b,b<nx->(∀o l,v1≠ .rs b o l)->E b=σ b:=fun b hb hv=>a3 b hb fun b' o l e e2=>hv o l (by rw[e2];exact e)
 have g2:Cb cI 1 (fun _=>v2) E (nx+1+1) 0 S:=by
  rcases h with ⟨-,-,J,G⟩|⟨b1,Y,J,G,q3,q4,q5,q6,q7,q8,q9⟩
  .exact .inl ⟨G,J⟩
  .exact .inr ⟨Y,q7,q5,(o1 Y q3 fun o l e=>by rw[q6]at e;simp only[V.rs.injEq]at e;exact J e.1).trans q9,by omega⟩
 obtain⟨σ2,c1,c2,c3⟩:=kW (c:=cI) (s:=1) (bytes:=8) (fun _=>rfl) (fun _=>rfl) (by decide) g2 y h2 (by decide);refine⟨E,σ2,a1,c1,.inr ⟨nx+1,nx+1+1+1,by omega,by omega,by omega,by simp,by simp,by rw[zo];rfl,by rw[zo];rfl,?_,c2⟩,fun b hb a6 a7=>?_⟩
 .rw[c3 (nx+1) (by omega) fun b o l e e2=>?_];exact a2
  rcases h with ⟨-,-,-,G⟩|⟨b1,Y,J,G,q3,q4,q5,q6,q7,q8,q9⟩
  .rw[G]at e;cases e
  .rw[q7]at e;simp only[V.rs.injEq]at e;omega
 .rw[c3 b (by omega) fun b' o l e e2=>a7 o l (by rw[e2];exact e)]
  exact o1 b hb a6
theorem G2.ne{v1 v2:V}{σ:Store}{nx:Nat}{J O:List Int}(h:G2 v1 v2 σ nx J O){b:Nat}(hb:nx<=b):(∀o l,v1≠ .rs b o l)/\∀o l,v2≠ .rs b o l:=by
 rcases h with ⟨-,E,-,G⟩|⟨b1,b2,E,G,q3,q4,q5,S,Y,q8,q9⟩
 .rw[E,G];exact⟨fun o l e=>(by cases e),fun o l e=>(by cases e)⟩
 .rw[S,Y]
  exact⟨fun o l e=>by simp only[V.rs.injEq]at e;omega,fun o l e=>by simp only[V.rs.injEq]at e;omega⟩
theorem G2.len{v1 v2:V}{σ:Store}{nx:Nat}{E G:List Int}(h:G2 v1 v2 σ nx E G)(d:Nat):(∃i,strip σ (d+1) v1=some (LI E,i))/\∃i,strip σ (d+1) v2=some (LI G,i):=by
 rcases h with ⟨rfl,rfl,rfl,rfl⟩|⟨b1,S,Y,q2,q3,q4,q5,rfl,rfl,J,O⟩
 .exact⟨⟨[],by rw[aS];rfl⟩,⟨[],by rw[aS];rfl⟩⟩
 .exact⟨⟨_,kD J rfl d⟩,⟨_,kD O rfl d⟩⟩
def FP(p:Int×Int):Int:=p.1
def Gs(p:Int×Int):Int:=p.2
theorem X5{s:Structure}(h:SG s):fn ZL conv ext 189 [.agg (cStructure s)]=some (.AB [LI ((cols s s.members.length).map FP),LI ((cols s s.members.length).map Gs)]):=by
 have b8:=h.nm;rw[m_,mg [.tmp 2,.tmp 3] [] func189];simp only[go_sem];generalize hL:dI _ _=y;obtain⟨r,rfl,T',σ',nx',rfl,h2⟩:=oZ hL s.members.length (fun k st=>st.T 11=LL cMember s.members/\st.T 12=I s.members.length/\st.T 13=I k/\G2 (st.T 4) (st.T 5) st.σ st.nx ((cols s k).map FP) ((cols s k).map Gs))
  (fun r=>∃T σ nx',r=(.exit 0,⟨T,σ,nx'⟩)/\G2 (T 4) (T 5) σ nx' ((cols s s.members.length).map FP) ((cols s s.members.length).map Gs)) (by
   clear hL;rintro k ⟨T,σ,nx⟩ a7 ⟨G,E,J,hg⟩;simp only at G E J hg;have f1:(k:Int)<(s.members.length:Int):=by omega
   have f2:=jD k;have f3:=ZT (n:=(k:Int)+1);have f4:=Ik s.members k a7;have f5:=E_ s.members;have f6:k*3+3<=s.members.length*3:=by omega
   have f9:=Il s.members k a7;have hr:=h.mr k a7;rw[jJ a7]at f4 hr;have hle:=oz s k;have e1:((cols s k).map FP).length<=16:=by rw[zS];omega
   have e2:((cols s k).map Gs).length<=16:=by rw[zS];omega
   rw[oh,wQ,wQ];generalize (cols s k).map FP=L1 at *;generalize (cols s k).map Gs=L2 at *;obtain⟨S,em⟩:∃S,S=mem s k:=⟨_,rfl⟩;rw[<- em]at f4 hr⊢;obtain⟨s0,O⟩:∃s0,s0=upd σ nx (some ⟨cMember S,0,true⟩):=⟨_,rfl⟩;have b5:G2 (T 4) (T 5) s0 (nx+1) L1 L2:=hg.congr (by omega) fun b hb=>by rw[O,Zm]
   have Y:s0 nx=some ⟨cMember S,0,true⟩:=by rw[O,Zk]
   unfold cMember at O;have a8:=hg.ne (zq nx);unfold ET
   by_cases k2:S.kind=2
   .have g1:(S.kind !=2)=false:=by simpa using k2
    have g2:(S.kind !=1)=true:=by simp[k2]
    obtain⟨b6,σ2,a1,a2,a3,a4⟩:=lN b5 (k:Int) (-1) (by omega) (by omega);refine .inl ⟨_,by simp only[go_sem,G,E,J,f1,f2,f3,f4,f5,f6,f9,<- O,Y,g1,g2,a1,a2];rfl,?_⟩;simp only[go_sem,G,E];rw[sH k2,sJ (by omega)];exact⟨rfl,a3⟩
   .by_cases k1:S.kind=1
    .have g1:(S.kind !=2)=true:=by simpa using k2
     have g2:(S.kind !=1)=false:=by simpa using k1
     obtain⟨b6,σ2,a1,a2,a3,a4⟩:=lN b5 (k:Int) 1 (by omega) (by omega);have a6:σ2 nx=_:=(a4 nx (by omega) a8.1 a8.2).trans Y;refine .inl ⟨_,by simp only[go_sem,G,E,J,f1,f2,f3,f4,f5,f6,f9,<- O,Y,g1,g2,a1,a2,a6];rfl,?_⟩;simp only[go_sem,G,E];rw[sJ k2,sH k1];exact⟨rfl,a3⟩
    .have g1:(S.kind !=2)=true:=by simpa using k2
     have g2:(S.kind !=1)=true:=by simpa using k1
     obtain⟨b6,σ2,a1,a2,a3,a4⟩:=lN b5 (k:Int) 1 (by omega) (by omega);have a6:σ2 nx=_:=(a4 nx (by omega) a8.1 a8.2).trans Y;obtain⟨b9,CP,b1,b2,b3,b4⟩:=lN a3 (k:Int) (-1) (by simp;omega) (by simp;omega);simp only[zo,yL]at b1 b2 b3;refine .inl ⟨_,by simp only[go_sem,G,E,J,f1,f2,f3,f4,f5,f6,f9,<- O,Y,g1,g2,a1,a2,a6,b1,b2];rfl,?_⟩;simp only[go_sem,G,E];rw[sJ k2,sJ k1];refine⟨rfl,?_⟩;have e3:∀(L:List Int) (f:Int×Int->Int) (x y:Int×Int),L++List.map f ([x]++[y])=L++[f x]++[f y]:=fun L f x y=>by simp
     rw[e3,e3];exact b3) (by
   rintro ⟨T,σ,nx⟩ ⟨G,E,J,hg⟩;simp only at G E J hg;refine⟨_,by simp only[go_sem,E,J,zk];rfl,by simp,_,_,_,rfl,?_⟩;simp only[go_sem];exact hg) (by
   simp only[go_sem];exact .inl ⟨rfl,rfl,rfl,rfl⟩)
 obtain⟨⟨i1,b7⟩,⟨i2,a6⟩⟩:=h2.len 5;simp only[go_sem,b7,a6]
def pB(l:List Int)(j:Int):List Int:=[-l.getD (2*j.toNat) 0,-l.getD (2*j.toNat+1) 0]
theorem acQ(l:List Int)(E:List Int):(E.flatMap (pB l)).length=2*E.length:=by
 induction E with
 |nil=>rfl
 |cons j E G=>rw[zK,zo,G,zH];show 2+_=_;omega
theorem Ut{s:Structure}{i:Nat}(hi:i<(free s).length):∃q:Nat,(free s)[i]=(q:Int)/\q<s.joints.length:=by
 have hm:=zu hi;generalize (free s)[i]=z at hm;unfold free EY at hm;obtain⟨q,E,rfl⟩:=List.mem_map.mp hm;exact⟨q,rfl,List.mem_range.mp (List.mem_filter.mp E).1⟩
theorem apF{s:Structure}(h:SG s){l:List Int}(hl:l.length=2*s.joints.length)(hb:∀x∈l,-100<=x/\x<=100):fn ZL conv ext 191 [.agg (cStructure s),LI l]=some (LI (GI s l)):=by
 have a7:=lS s;have Pj:=h.nj;have k1:=X4 h;have O:∀q,-100<=l.getD q 0/\l.getD q 0<=100:=fun q=>by
  rw[zx]
  by_cases hq:q<l.length
  .rw[zy hq];exact hb _ (zu hq)
  .rw[z_ (by omega)];simp
 rw[m_,mg [.tmp 4] [5] func191];unfold cStructure at k1⊢;simp only[go_sem,k1];generalize hL:dI _ _=y;obtain⟨r,rfl,T',σ',nx',rfl,h2⟩:=oZ hL (free s).length (fun i st=>st.T 1=LI l/\st.T 10=LI (free s)/\st.T 11=I (free s).length/\st.T 12=I i/\((i=0/\st.T 5= .nil)\/∃b,0<i/\b<st.nx/\st.T 5= .rs b 0 (2*i)/\st.σ b=some ⟨(((free s).take i).flatMap (pB l)).flatMap cI,1,true⟩))
  (fun r=>∃T σ nx',r=(.exit 0,⟨T,σ,nx'⟩)/\(((free s).length=0/\T 5= .nil)\/∃b,0<(free s).length/\b<nx'/\T 5= .rs b 0 (2*(free s).length)/\σ b=some ⟨(((free s).take (free s).length).flatMap (pB l)).flatMap cI,1,true⟩)) (by
   clear hL;rintro i ⟨T,σ,nx⟩ hi ⟨t1,t10,t11,t12,S⟩;simp only at t1 t10 t11 t12 S;obtain⟨q,eq,hq⟩:=Ut hi;have f1:(i:Int)<((free s).length:Int):=by omega
   have f2:=jD i;have f3:=ZT (n:=(i:Int)+1);have f4:=AU (free s) i hi;have f5:=idx hi;rw[eq]at f5;have w1:=ZT (n:=2*(q:Int));have w2:=ZT (n:=2*(q:Int)+1);have e1:2*(q:Int)=((2*q:Nat):Int):=by omega
   have e2:((2*q:Nat):Int)+1=((2*q+1:Nat):Int):=by omega
   rw[e1]at w1 w2;rw[e2]at w2;have g1:((2*q:Nat):Int)<(l.length:Int):=by omega
   have g2:((2*q+1:Nat):Int)<(l.length:Int):=by omega
   have g3:(0:Int)<=((2*q:Nat):Int):=by omega
   have g4:(0:Int)<=((2*q+1:Nat):Int):=by omega
   have g5:=idx (xs:=l) (k:=2*q) (by omega);have g6:=idx (xs:=l) (k:=2*q+1) (by omega);rw[<- lF (by omega) 0]at g5 g6;have g7:=AU l (2*q) (by omega);have b1:=O (2*q);have b2:=O (2*q+1);have Y:((free s).take (i+1)).flatMap (pB l)=((free s).take i).flatMap (pB l)++[0-l.getD (2*q) 0,0-l.getD (2*q+1) 0]:=by
    rw[yM,zy hi,eq,zT];simp[pB]
   generalize l.getD (2*q) 0=u at *;generalize l.getD (2*q+1) 0=v at *;have w3:=ZT (n:=0-u);have w4:=ZT (n:=0-v);have y1:nx<nx+1:=by omega
   have y2:2<=maxLen:=by unfold maxLen;decide
   rcases S with ⟨J,E⟩|⟨b,J,h1,E,G⟩
   .refine .inl ⟨_,by simp only[go_sem,t1,t10,t11,t12,E,f1,f2,f3,f4,f5,e1,e2,w1,w2,w3,w4,g1,g2,g3,g4,g5,g6,g7,y1,y2];rfl,?_⟩
    simp only[go_sem,t1,t10,t11];refine⟨rfl,.inr ⟨nx+1,by omega,by omega,by rw[J],?_⟩⟩;rw[Zk,Y,J];rfl
   .have a1:=rC (σ:=restrict (upd σ nx (some ⟨[I (0-u),I (0-v)],1,true⟩)) [b,nx]) (nx:=nx+1) (bytes:=8) (b:=b) (len:=2*i) (m:=2) (row:=[I (0-u),I (0-v)]) (by rw[fK,Zm];exact G) (by show((((free s).take i).flatMap (pB l)).flatMap cI).length=_;rw[qL,acQ,zh];omega) rfl (by decide) (by unfold maxLen;omega) (by omega) rfl
    have x1:b<nx+1:=by omega
    refine .inl ⟨_,by simp only[go_sem,t1,t10,t11,t12,E,f1,f2,f3,f4,f5,e1,e2,w1,w2,w3,w4,g1,g2,g3,g4,g5,g6,g7,y1,y2,a1,x1];rfl,?_⟩;simp only[go_sem,t1,t10,t11];refine⟨rfl,.inr ⟨nx+1,by omega,by omega,by rw[show 2*(i+1)=2*i+2 by omega],?_⟩⟩;rw[Zk,Y,zT];rfl) (by
   rintro ⟨T,σ,nx⟩ ⟨t1,t10,t11,t12,S⟩;simp only at t1 t10 t11 t12 S;refine⟨_,by simp only[go_sem,t11,t12,zk];rfl,by simp,_,_,_,rfl,?_⟩;simp only[go_sem];exact S) (by
   simp only[go_sem];exact .inl trivial)
 have e:GI s l=(free s).flatMap (pB l):=rfl;rw[zl (zq _)]at h2;rcases h2 with ⟨J,E⟩|⟨b,J,h1,E,G⟩
 .have:free s=[]:=zZ J
  rw[e,this]
  (simp only[go_sem,E])<;>rfl
 .have a6:=kD G (acQ l (free s)) 6
  rw[<- e]at a6;simp only[go_sem,E,a6]
def G2l(lo:Nat)(v1 v2:V)(σ:Store)(nx:Nat)(E G:List Int):Prop:=G2 v1 v2 σ nx E G/\(∀b o l,v1= .rs b o l->lo<=b)/\∀b o l,v2= .rs b o l->lo<=b
theorem acR{v:V}{σ:Store}{nx:Nat}{G E:List Int}(h:Cb cI 1 (fun _=>v) σ nx 0 G)(h2:E≠[])(hl:G.length+E.length<100000) :
  ∃σ',Ag σ nx 1 8 v (E.flatMap cI) E.length=some (.rs nx 0 (G.length+E.length),σ',nx+1)/\Cb cI 1 (fun _=> .rs nx 0 (G.length+E.length)) σ' (nx+1) 0 (G++E)/\∀y,y<nx->(∀o l,v≠ .rs y o l)->σ' y=σ y:=by
 have O:E.length≠0:=fun e=>h2 (zZ e)
 have S:(E.flatMap cI).all qI=true:=by
  rw[wO];intro w hw;obtain⟨x,-,hx⟩:=List.mem_flatMap.mp hw;rw[List.mem_singleton.mp hx];rfl
 have Y:G++E≠[]:=fun e=>h2 (List.append_eq_nil_iff.mp e).2
 rcases h with ⟨J,rfl⟩|⟨b,J,a7,a6,a8⟩
 .have J:v= .nil:=J
  subst J;refine⟨upd σ nx (some ⟨E.flatMap cI,1,true⟩),by rw[qx,sJ O,sH ⟨by unfold maxLen;omega,by omega⟩,wR,yX];rfl,.inr ⟨nx,by rw[zo],Y,by rw[Zk,yO],by omega⟩,fun y hy _=>by rw[Zm]⟩
 .have J:v= .rs b 0 G.length:=J
  subst J;have a1:=rC (σ:=σ) (nx:=nx) (bytes:=8) (b:=b) (len:=G.length) (m:=E.length) (row:=E.flatMap cI) a6 (qL G) rfl O (by unfold maxLen;omega) (by omega) S;refine⟨_,a1,.inr ⟨nx,by rw[zo],Y,by rw[Zk,zT],by omega⟩,fun y hy hv=>?_⟩;rw[Zm,Zl _ _ fun e=>hv 0 G.length (by rw[e])]
def GZ(s:Structure)(j:Int):List Int:=(List.range s.members.length).map (eX s j)++(List.range s.members.length).map (eY s j)
theorem ayT{s:Structure}(h:SG s)(j:Int)(k:Nat):(-100<=eX s j k/\eX s j k<=100)/\-100<=eY s j k/\eY s j k<=100:=by
 have:=Zf h k;unfold eX eY;constructor
 .split
  .omega
  .split<;>omega
 .split
  .omega
  .split<;>omega
theorem aiD(s:Structure)(j:Int):(GZ s j).length=2*s.members.length:=by unfold GZ;simp;omega
theorem Q8(s:Structure):∀E:List Int,(E.flatMap (GZ s)).length=2*s.members.length*E.length
 |[]=>rfl
 |j :: E=>by rw[zK,zo,Q8 s E,aiD,zH,Nat.mul_succ];omega
theorem avL{s:Structure}(h:SG s)(hm:0<s.members.length):fn ZL conv ext 190 [.agg (cStructure s)]=some (LI ((free s).flatMap (GZ s))):=by
 have c9:=h.nm;have e0:=lS s;have Pj:=h.nj;have k1:=X4 h;have kV:=fun k hk=>Us h (k:=k) hk
 rw[m_,mg [.tmp 2] [] func190];unfold cStructure at k1 kV⊢;simp only[go_sem,k1];generalize hL:dI _ _=y;obtain⟨r,rfl,T',σ',nx',rfl,h2⟩:=oZ hL (free s).length (fun i st=>st.T 1= .rp 0 0/\st.T 14=LI (free s)/\st.T 15=I (free s).length/\st.T 16=I i/\0<st.nx/\st.σ 0=some ⟨[LL cJoint s.joints,LL cMember s.members],0,true⟩/\Cb cI 1 (fun _=>st.T 3) st.σ st.nx 0 (((free s).take i).flatMap (GZ s))/\∀o l,st.T 3≠ .rs 0 o l)
  (fun r=>∃T σ nx',r=(.exit 0,⟨T,σ,nx'⟩)/\Cb cI 1 (fun _=>T 3) σ nx' 0 ((free s).flatMap (GZ s))) (by
   clear hL;rintro i ⟨T,σ,nx⟩ hi ⟨t1,t14,t15,t16,a6,s0,hg,a8⟩;simp only at t1 t14 t15 t16 a6 s0 hg a8;obtain⟨j,ej⟩:∃j,j=(free s)[i]:=⟨_,rfl⟩;have f1:(i:Int)<((free s).length:Int):=by omega
   have f2:=jD i;have f3:=ZT (n:=(i:Int)+1);have f4:=AU (free s) i hi;have f5:=idx hi;rw[<- ej]at f5;refine bC ?_
   conv=>
    enter [1,r,1,1]
    simp only[go_sem,t1,t14,t15,t16,s0,f1,f2,f4,f5]
   generalize hL:dI _ _=z;obtain⟨x,rfl,T2,σ2,S,rfl,t1,t14,t15,t16,t3,a7,FK,E⟩:=oZ hL s.members.length (fun k st=>st.T 1= .rp 0 0/\st.T 14=LI (free s)/\st.T 15=I (free s).length/\st.T 16=I i/\st.T 3=T 3/\st.T 5=I j/\st.T 23=LL cMember s.members/\st.T 24=I s.members.length/\st.T 25=I k/\nx<=st.nx/\(∀y,y<nx->st.σ y=σ y)/\G2l nx (st.T 6) (st.T 7) st.σ st.nx ((List.range k).map (eX s j)) ((List.range k).map (eY s j)))
    (fun x=>∃T2 σ2 S,x=(.exit 2,⟨T2,σ2,S⟩)/\T2 1= .rp 0 0/\T2 14=LI (free s)/\T2 15=I (free s).length/\T2 16=I i/\T2 3=T 3/\nx<=S/\(∀y,y<nx->σ2 y=σ y)/\G2l nx (T2 6) (T2 7) σ2 S ((List.range s.members.length).map (eX s j)) ((List.range s.members.length).map (eY s j))) (by
     clear hL;rintro k ⟨T2,σ2,S⟩ hk ⟨t1,t14,t15,t16,t3,t5,t23,t24,t25,a7,FK,E,J,O⟩;simp only at t1 t14 t15 t16 t3 t5 t23 t24 t25 a7 FK E J O;have g1:(k:Int)<(s.members.length:Int):=by omega
     have g2:=jD k;have g3:=ZT (n:=(k:Int)+1);have g4:=Ik s.members k hk;have g5:=E_ s.members;have g6:k*3+3<=s.members.length*3:=by omega
     have g9:=Il s.members k hk;rw[jJ hk]at g4;have kv:=kV k hk;have e1:=Zf h k;have b7:σ2 0=_:=(FK 0 a6).trans s0;obtain⟨m1,em⟩:∃m1,m1=mem s k:=⟨_,rfl⟩;rw[<- em]at g4;obtain⟨s3,G⟩:∃s3,s3=upd σ2 S (some ⟨cMember m1,0,true⟩):=⟨_,rfl⟩;have b8:G2 (T2 6) (T2 7) s3 (S+1) ((List.range k).map (eX s j)) ((List.range k).map (eY s j)):=E.congr (by omega) fun b hb=>by rw[G,Zm]
     have b3:s3 S=some ⟨cMember m1,0,true⟩:=by rw[G,Zk]
     have b4:s3 0=_:=(by rw[G,Zm]:s3 0=σ2 0).trans b7;have Fh:∀y,y<nx->s3 y=σ y:=fun y hy=>by rw[G,Zm];exact FK y hy
     obtain⟨CP,EG,a1,a2,a3,a4⟩:=lN b8 (eX s j k) (eY s j k) (by simp;omega) (by simp;omega);have eR:∀f:Nat->Int,(List.range (k+1)).map f=(List.range k).map f++[f k]:=fun f=>by rw[wJ,wQ];rfl
     have hl:((List.range k).map (eX s j)).length=k:=by simp
     have b9:((List.range k).map (eY s j)).length=k:=by simp
     rw[hl]at a1 a3;rw[b9]at a2 a3;have fin:(∀y,y<nx->EG y=σ y):=fun y hy=>(a4 y (by omega) (fun o l e=>by have:=J _ _ _ e;omega) fun o l e=>by have:=O _ _ _ e;omega).trans (Fh y hy)
     have done:G2l nx (.rs (S+1+1) 0 (k+1)) (.rs (S+1+1+1+1) 0 (k+1)) EG (S+1+1+1+1+1) ((List.range (k+1)).map (eX s j)) ((List.range (k+1)).map (eY s j)):=by
      rw[eR,eR];exact⟨a3,fun b o l e=>by simp only[V.rs.injEq]at e;omega,fun b o l e=>by simp only[V.rs.injEq]at e;omega⟩
     unfold cMember at G
     by_cases ja:j=m1.a
     .have c1:(j==m1.a)=true:=beq_iff_eq.mpr ja
      have ex:eX s j k=vx s k:=by unfold eX;rw[sH (by rw[<- em];exact ja)]
      have ey:eY s j k=vy s k:=by unfold eY;rw[sH (by rw[<- em];exact ja)]
      rw[ex]at a1;rw[ey]at a2;refine .inl ⟨_,by simp only[go_sem,t1,t14,t15,t16,t3,t5,t23,t24,t25,g1,g2,g3,g4,g5,g6,g9,<- G,b3,b4,kv,c1,a1,a2];rfl,?_⟩;simp only[go_sem,t1,t14,t15,t16,t3,t5,t23,t24];rw[<- wJ];exact⟨rfl,by omega,fin,done⟩
     .have c1:(j==m1.a)=false:=beq_false_of_ne ja
      by_cases jb:j=m1.b
      .have c2:(j==m1.b)=true:=beq_iff_eq.mpr jb
       have ex:eX s j k=0-vx s k:=by unfold eX;rw[sJ (by rw[<- em];exact ja),sH (by rw[<- em];exact jb)];omega
       have ey:eY s j k=0-vy s k:=by unfold eY;rw[sJ (by rw[<- em];exact ja),sH (by rw[<- em];exact jb)];omega
       have w1:=ZT (n:=0-vx s k);have w2:=ZT (n:=0-vy s k);rw[ex]at a1;rw[ey]at a2;refine .inl ⟨_,by simp only[go_sem,t1,t14,t15,t16,t3,t5,t23,t24,t25,g1,g2,g3,g4,g5,g6,g9,<- G,b3,b4,kv,c1,c2,w1,w2,a1,a2];rfl,?_⟩;simp only[go_sem,t1,t14,t15,t16,t3,t5,t23,t24];rw[<- wJ];exact⟨rfl,by omega,fin,done⟩
      .have c2:(j==m1.b)=false:=beq_false_of_ne jb
       have ex:eX s j k=0:=by unfold eX;rw[sJ (by rw[<- em];exact ja),sJ (by rw[<- em];exact jb)]
       have ey:eY s j k=0:=by unfold eY;rw[sJ (by rw[<- em];exact ja),sJ (by rw[<- em];exact jb)]
       rw[ex]at a1;rw[ey]at a2;refine .inl ⟨_,by simp only[go_sem,t1,t14,t15,t16,t3,t5,t23,t24,t25,g1,g2,g3,g4,g5,g6,g9,<- G,b3,b4,kv,c1,c2,a1,a2];rfl,?_⟩;simp only[go_sem,t1,t14,t15,t16,t3,t5,t23,t24];rw[<- wJ];exact⟨rfl,by omega,fin,done⟩) (by
     clear hL;rintro ⟨T2,σ2,S⟩ ⟨t1,t14,t15,t16,t3,t5,t23,t24,t25,a7,FK,E⟩;simp only at t1 t14 t15 t16 t3 t5 t23 t24 t25 a7 FK E;refine⟨_,by simp only[go_sem,t24,t25,zk];rfl,by simp,_,_,_,rfl,?_⟩;simp only[go_sem,t1,t14,t15,t16,t3];exact⟨a7,FK,E⟩) (by
     simp only[go_sem,t1,t14,t15,t16];exact⟨fun _ _=>trivial,.inl ⟨rfl,rfl,rfl,rfl⟩,fun _ _ _ e=>(by cases e),fun _ _ _ e=>(by cases e)⟩)
   clear hL;obtain⟨E,J,O⟩:=E;obtain⟨X,b5⟩:∃X,X=(List.range s.members.length).map (eX s j):=⟨_,rfl⟩;obtain⟨Y,b6⟩:∃Y,Y=(List.range s.members.length).map (eY s j):=⟨_,rfl⟩;have lX:X.length=s.members.length:=by rw[b5];simp
   have lY:Y.length=s.members.length:=by rw[b6];simp
   rw[<- b5,<- b6]at E;rcases E with ⟨q1,-⟩|⟨b1,b2,q1,q2,q3,q4,q5,q6,q7,q8,q9⟩
   .rw[q1]at lX;simp at lX;omega
   have e2:=J _ _ _ q6;have c0:=O _ _ _ q7;obtain⟨L,eL⟩:∃L,L=((free s).take i).flatMap (GZ s):=⟨_,rfl⟩;have e3:L.length<=100:=by
    rw[eL,Q8,zh];have:2*s.members.length*min i (free s).length<=16*6:=xq (by omega) (by omega);omega
   rw[<- eL]at hg;have c4:Cb cI 1 (fun _=>T 3) σ2 S 0 L:=by
    rcases hg with h|⟨b,p1,p2,p3,p4⟩
    .exact .inl h
    .exact .inr ⟨b,p1,p2,(FK b p4).trans p3,by omega⟩
   have hv:∀y,nx<=y->∀o l,T 3≠ .rs y o l:=fun y hy o l e=>by
    have:=kU hg (b:=y) (o:=o) (l:=l) e;omega
   obtain⟨c5,a1,a2,a3⟩:=acR c4 q4 (by omega);obtain⟨CP,c1,c2,c3⟩:=acR a2 q5 (by rw[zo];omega);have s3:c5 b2=_:=(a3 b2 q3 (hv b2 c0)).trans q9;have c6:CP 0=some ⟨[LL cJoint s.joints,LL cMember s.members],0,true⟩:=by
    rw[c3 0 (by omega) fun o l e=>by simp only[V.rs.injEq]at e;omega,a3 0 (by omega) a8,FK 0 a6];exact s0
   simp only[zo,lX,lY]at a1 c1 c2 q6 q7;have eT:((free s).take (i+1)).flatMap (GZ s)=L++X++Y:=by
    rw[yM,zy hi,zT,<- eL,<- ej,yj];show L++(GZ s j++[])=_;unfold GZ;rw[<- b5,<- b6,zC]
   have tX:(X.flatMap cI).take s.members.length=X.flatMap cI:=zl (by rw[qL];omega);have tY:(Y.flatMap cI).take s.members.length=Y.flatMap cI:=zl (by rw[qL];omega);have c7:s.members.length<=X.length:=by omega
   have c8:s.members.length<=Y.length:=by omega
   refine⟨_,by simp only[go_sem,t16,f3,t3,q6,q7,q8,tX,tY,c7,c8,a1,s3,c1];rfl,.inl ⟨_,rfl,?_⟩⟩;simp only[go_sem,t1,t14,t15];rw[eT];exact⟨rfl,by omega,c6,c2,fun o l e=>by simp only[V.rs.injEq]at e;omega⟩) (by
   rintro ⟨T,σ,nx⟩ ⟨t1,t14,t15,t16,a6,s0,hg,a8⟩;simp only at t1 t14 t15 t16 a6 s0 hg a8;refine⟨_,by simp only[go_sem,t15,t16,zk];rfl,by simp,_,_,_,rfl,?_⟩;simp only[go_sem];rw[zl (zq _)]at hg;exact hg) (by
   simp only[go_sem];exact⟨.inl ⟨rfl,rfl⟩,fun _ _=>trivial⟩)
 obtain⟨ids,hs⟩:=kS (c:=cI) (s:=1) (fun _=>rfl) 6 (fun x=>by rw[ah,aP,aX];rfl) h2;simp only[go_sem,hs]
theorem abu(s:Structure)(E:List Int):E.flatMap (GZ s)=(E.flatMap (Ey s)).flatMap id:=by
 induction E with
 |nil=>rfl
 |cons j E G=>
  rw[zK,zK,zT,G];show GZ s j++_=(((List.range s.members.length).map (eX s j))++(((List.range s.members.length).map (eY s j))++[]))++_;rw[zC];rfl
theorem apG{s:Structure}(h:SG s)(hm:s.members=[]):fn ZL conv ext 190 [.agg (cStructure s)]=some (LI []):=by
 have O:=lS s;have Y:=h.nj;have G:=X4 h;rw[m_,mg [.tmp 2] [] func190];unfold cStructure at G⊢;rw[hm]at G⊢;have G:fn ZL conv ext 115 [.agg [LL cJoint s.joints,.ts [] 0]]=some (LI (free s)):=G
 simp only[go_sem,G];generalize J:dI _ _=y;obtain⟨r,rfl,T',σ',nx',rfl,S⟩:=oZ J (free s).length (fun i st=>st.T 1= .rp 0 0/\st.T 14=LI (free s)/\st.T 15=I (free s).length/\st.T 16=I i/\st.T 3= .nil/\0<st.nx/\st.σ 0=some ⟨[LL cJoint s.joints,.ts [] 0],0,true⟩)
  (fun r=>∃T σ nx',r=(.exit 0,⟨T,σ,nx'⟩)/\T 3= .nil) (by
   clear J;rintro i ⟨T,σ,nx⟩ hi ⟨t1,t14,t15,t16,t3,E,s0⟩;simp only at t1 t14 t15 t16 t3 E s0;have f1:(i:Int)<((free s).length:Int):=by omega
   have f2:=jD i;have f3:=ZT (n:=(i:Int)+1);have f4:=AU (free s) i hi;have f5:=idx hi;refine bC ?_
   conv=>
    enter [1,r,1,1]
    simp only[go_sem,t1,t14,t15,t16,t3,s0,f1,f2,f4,f5]
   generalize J:dI _ _=z;obtain rfl:=jR J (by simp only[go_sem];rfl) (by simp);refine⟨_,by simp only[go_sem,t3,t16,f3];rfl,.inl ⟨_,rfl,?_⟩⟩;simp only[go_sem,t1,t14,t15,t16,t3];exact⟨rfl,E,s0⟩) (by
   rintro ⟨T,σ,nx⟩ ⟨t1,t14,t15,t16,t3,E,s0⟩;simp only at t1 t14 t15 t16 t3 E s0;refine⟨_,by simp only[go_sem,t15,t16,zk];rfl,by simp,_,_,_,rfl,?_⟩;simp only[go_sem,t3]) (by
   simp only[go_sem];rfl)
 (simp only[go_sem,S])<;>rfl
theorem apH{s:Structure}(h:SG s):fn ZL conv ext 190 [.agg (cStructure s)]=some (LI ((free s).flatMap (GZ s))):=by
 by_cases hm:s.members=[]
 .have e:(free s).flatMap (GZ s)=[]:=by
   rw[List.flatMap_eq_nil_iff];intro j _;unfold GZ;rw[hm];rfl
  rw[e];exact apG h hm
 .exact avL h (List.length_pos_iff.mpr hm)
theorem Q9{C:Nat}:∀ {xs:List (List Int)} {i c:Nat},(∀x∈xs,x.length=C)->(hi:i<xs.length)->c<C->(xs.flatMap id)[i*C+c]?=(xs[i])[c]?
 |[],i,c,_,hi,_=>absurd hi (zX _)
 |x :: xs,0,c,hx,_,hc=>by
  rw[zK,uX,yX,zW (by rw[id,hx x zM];exact hc)];rfl
 |x :: xs,i+1,c,hx,hi,hc=>by
  have E:=hx x zM;rw[zK,zN (by rw[id,E,xk];omega),id,E,show(i+1)*C+c-C=i*C+c by rw[xk];omega,Q9 (fun y G=>hx y (zY _ G)) (by simpa using hi) hc];rfl
def alX(σ:Store)(nx:Nat)(G:List Int)(R C:Nat)(B:V)(p:Nat):Prop:=(p=0/\σ 3=some ⟨[I R,I C,.nil,B,.rs 2 0 C],0,true⟩)\/∃E,0<p/\3<E/\E<nx/\σ 3=some ⟨[I R,I C,.rs E 0 p,B,.rs 2 0 C],0,true⟩/\σ E=some ⟨(G.take p).flatMap cI,1,true⟩
theorem aiE{s:Structure}(h:SG s){l:List Int}(hl:l.length=2*s.joints.length)(hb:∀x∈l,-100<=x/\x<=100) :
  fn ZL conv ext 129 [.agg (cStructure s),LI l]=some (.agg (CO (JK s) (Cc s) (OM s) (GI s l) (List.replicate (Cc s) 0))):=by
 have c7:=h.nm;have i6:=lS s;have Pj:=h.nj;have i7:=oz s s.members.length;have k1:=X5 h;have k2:=apH h;have k3:=X4 h;have k4:=apF h hl hb;have c8:=ny s;obtain⟨E,hE⟩:∃E,E=BO s (free s).length:=⟨_,rfl⟩;obtain⟨K,hK⟩:∃K,K=cols s s.members.length:=⟨_,rfl⟩;obtain⟨RF,b6⟩:∃RF,RF=(free s).flatMap (GZ s):=⟨_,rfl⟩;obtain⟨R,eR⟩:∃R,R=JK s:=⟨_,rfl⟩;obtain⟨C,eC⟩:∃C,C=Cc s:=⟨_,rfl⟩;have hR:E.length=R:=by rw[hE,eR];exact c8
 have hC:K.length=C:=by rw[hK,eC];rfl
 have c9:R<=12:=by rw[eR];unfold JK;omega
 have e0:C<=16:=by rw[<- hC,hK];omega
 have b7:(OM s).length=R*C:=by rw[eR,eC];exact LP s
 have i9:R*C<=12*16:=xq c9 e0;rw[<- hK]at k1;rw[<- b6]at k2;rw[<- eR,<- eC];have k1:fn ZL conv ext 189 [.agg (cStructure s)]=some (.AB [.ts ((K.map FP).flatMap cI) C,LI (K.map Gs)]):=by rw[k1,<- hC];show some (V.AB [V.ts _ (K.map FP).length,_])=_;rw[zS]
 have f0:=jD C;have f5:8*(C:Int)<=281474976710656:=by omega
 have f6:(C:Int)<=9223372036854775807:=by omega
 have e2:2*((free s).length:Int)=(R:Int):=by rw[eR];unfold JK;omega
 have w2:=ZT (n:=(R:Int));rw[m_,mg [.cell 4 142] [4,11] func129];unfold cStructure at k1 k2 k3 k4⊢;simp only[go_sem,k1,k2,k3,k4,e2,w2,f0,f5,f6];generalize hL:dI _ _=y;obtain⟨J,a7⟩:∃J,J=OM s:=⟨_,rfl⟩;rw[<- a7]at b7;have e1:RF=E.flatMap id:=by
  rw[b6,hE,abu];unfold BO;rw[yg]
 have b8:∀r∈E,r.length=s.members.length:=by rw[hE];exact fun r hr=>QG hr
 have e5:∀i c (hi:i<R) (hc:c<C) (hq:i*C+c<J.length),J[i*C+c]=(K[c]'(by omega)).2*(E[i]'(by omega)).getD (K[c]'(by omega)).1.toNat 0:=fun i c hi hc hq=>by
  have:=mG (fun r:List Int=>K.map fun p=>p.2*r.getD p.1.toNat 0) (C:=C) (fun _=>by rw[zS];exact hC) E (i:=i) (c:=c) (by omega) hc;rw[zF,zy (l:=K) (i:=c) (by omega)]at this;have e2:J=E.flatMap fun r=>K.map fun p=>p.2*r.getD p.1.toNat 0:=by rw[a7,hE,hK];rfl
  rw[<- e2,zy hq]at this;exact Option.some.inj this
 have e6:∀x∈J,-1000<=x/\x<=1000:=by rw[a7];exact aa6 h
 obtain⟨x,rfl,T1,b2,nI,rfl,t4,t9,j0,e7,e9,h5⟩:=oZ hL R (fun i st=>st.T 4= .rp 1 0/\st.T 5= .ts ((K.map FP).flatMap cI) C/\st.T 6=LI (K.map Gs)/\st.T 7=I s.members.length/\st.T 8=LI RF/\st.T 9= .rp 3 0/\st.T 10=I i/\3<st.nx/\st.σ 1=some ⟨[I 0,I 0,.nil,.nil,.nil],0,true⟩/\st.σ 2=some ⟨(List.replicate C 0).flatMap cI,1,true⟩/\alX st.σ st.nx J R C (LI (GI s l)) (i*C))
  (fun x=>∃T σ nx,x=(.exit 0,⟨T,σ,nx⟩)/\T 4= .rp 1 0/\T 9= .rp 3 0/\3<nx/\σ 1=some ⟨[I 0,I 0,.nil,.nil,.nil],0,true⟩/\σ 2=some ⟨(List.replicate C 0).flatMap cI,1,true⟩/\alX σ nx J R C (LI (GI s l)) (R*C)) (by
   clear hL;rintro i ⟨T,σ,nx⟩ hi ⟨t4,t5,t6,t7,t8,t9,t10,G,O,S,hA⟩;simp only at t4 t5 t6 t7 t8 t9 t10 G O S hA;have f1:(i:Int)<(R:Int):=by omega
   have f2:=jD i;have f3:=ZT (n:=(i:Int)+1);obtain⟨vA,a1⟩:∃vA,σ 3=some ⟨[I R,I C,vA,LI (GI s l),.rs 2 0 C],0,true⟩:=by
    rcases hA with ⟨-,Y⟩|⟨ba,-,-,-,Y,-⟩<;>exact⟨_,Y⟩
   refine bC ?_
   conv=>
    enter [1,r,1,1]
    simp only[go_sem,t5,t9,t10,a1,f1]
   generalize hL:dI _ _=z;obtain⟨x,rfl,T2,σ2,BX,rfl,t4,t5,t6,t7,t8,t9,t10,h6,O,S,b9⟩:=oZ hL C (fun c st=>st.T 4= .rp 1 0/\st.T 5= .ts ((K.map FP).flatMap cI) C/\st.T 6=LI (K.map Gs)/\st.T 7=I s.members.length/\st.T 8=LI RF/\st.T 9= .rp 3 0/\st.T 10=I i/\st.T 42= .ts ((K.map FP).flatMap cI) C/\st.T 43=I C/\st.T 44=I c/\3<st.nx/\st.σ 1=some ⟨[I 0,I 0,.nil,.nil,.nil],0,true⟩/\st.σ 2=some ⟨(List.replicate C 0).flatMap cI,1,true⟩/\alX st.σ st.nx J R C (LI (GI s l)) (i*C+c))
    (fun x=>∃T σ nx,x=(.exit 2,⟨T,σ,nx⟩)/\T 4= .rp 1 0/\T 5= .ts ((K.map FP).flatMap cI) C/\T 6=LI (K.map Gs)/\T 7=I s.members.length/\T 8=LI RF/\T 9= .rp 3 0/\T 10=I i/\3<nx/\σ 1=some ⟨[I 0,I 0,.nil,.nil,.nil],0,true⟩/\σ 2=some ⟨(List.replicate C 0).flatMap cI,1,true⟩/\alX σ nx J R C (LI (GI s l)) (i*C+C)) (by
     clear hL;rintro c ⟨T,σ,nx⟩ hc ⟨t4,t5,t6,t7,t8,t9,t10,t42,t43,t44,G,O,S,hA⟩;simp only at t4 t5 t6 t7 t8 t9 t10 t42 t43 t44 G O S hA;have h7:K[c]'(by omega)∈cols s s.members.length:=by rw[<- hK];exact zu _
     obtain⟨⟨q,c0,h8⟩,j1⟩:=ou h7;obtain⟨u,eu⟩:∃u,u=(K[c]'(by omega)).2:=⟨_,rfl⟩;have b3:i*C+c<J.length:=by
      have:(i+1)*C<=R*C:=zL _ (by omega);rw[xk]at this;omega
     obtain⟨e,ee⟩:∃e,e=(E[i]'(by omega)).getD q 0:=⟨_,rfl⟩;have b4:=e5 i c hi hc b3;rw[c0,zJ,<- ee,<- eu]at b4;have h9:=e6 _ (zu b3);rw[b4]at h9;have g1:(c:Int)<(C:Int):=by omega
     have g2:=jD c;have g3:=ZT (n:=(c:Int)+1);have g4:=idx (xs:=K.map FP) (k:=c) (by rw[zS];omega);rw[xg,show FP (K[c]'(by omega))=(q:Int)from c0]at g4;have g5:=idx (xs:=K.map Gs) (k:=c) (by rw[zS];omega);rw[xg,show Gs (K[c]'(by omega))=u from eu.symm]at g5;have g6:=AU (K.map FP) c (by rw[zS];omega);have g7:=AU (K.map Gs) c (by rw[zS];omega);have g8:(c:Int)<((K.map Gs).length:Int):=by rw[zS];omega
     have j2:i*s.members.length<=12*8:=xq (by omega) c7;have e3:(i:Int)*(s.members.length:Int)=((i*s.members.length:Nat):Int):=by push_cast;rfl
     have w1:=ZT (n:=((i*s.members.length:Nat):Int));have e4:((i*s.members.length:Nat):Int)+(q:Int)=((i*s.members.length+q:Nat):Int):=by push_cast;rfl
     have c2:=ZT (n:=((i*s.members.length+q:Nat):Int));have w3:=ZT (n:=u*e);have j3:=b8 _ (zu (l:=E) (n:=i) (by omega));have a8:RF[i*s.members.length+q]?=some e:=by
      rw[e1,Q9 b8 (by omega) h8,ee,zx,zy (by omega)];rfl
     have b5:i*s.members.length+q<RF.length:=by
      refine zf fun hn=>?_
      rw[z_ (by omega)]at a8;cases a8
     have g9:=idx (xs:=RF) b5;rw[zy b5]at a8;rw[Option.some.inj a8]at g9;have g10:((i*s.members.length+q:Nat):Int)<(RF.length:Int):=by omega
     have g11:(0:Int)<=((i*s.members.length+q:Nat):Int):=by omega
     have g12:=AU RF _ b5;have c3:J.take (i*C+(c+1))=J.take (i*C+c)++[u*e]:=by
      rw[<- vZ,yM,zy b3,b4];rfl
     have j4:i*C+c<=200:=by omega
     have y1:3<nx:=by omega
     have y2:¬3=nx:=by omega
     have y3:(3==nx)=false:=by rw[sG];omega
     have y4:(nx==3)=false:=by rw[sG];omega
     have y5:3<nx+1:=by omega
     have y6:¬3=nx+1:=by omega
     have y7:(3==nx+1)=false:=by rw[sG];omega
     have y8:(nx+1==3)=false:=by rw[sG];omega
     have y9:3<nx+1+1:=by omega
     have XT:¬3=nx+1+1:=by omega
     have XU:(3==nx+1+1)=false:=by rw[sG];omega
     have XV:(nx+1+1==3)=false:=by rw[sG];omega
     have c4:nx<nx+1:=by omega
     have XW:nx+1<nx+1+1:=by omega
     rcases hA with ⟨h0,Y⟩|⟨ba,h0,h1,h2,Y,h4⟩
     .refine .inl ⟨_,by simp only[go_sem,t4,t5,t6,t7,t8,t9,t10,t42,t43,t44,Y,g1,g2,g3,g4,g5,g6,g7,g8,e3,w1,e4,c2,w3,g9,g10,g11,g12,y1,y2,y3,y4,y5,y6,y7,y8,y9,XT,XU,XV,c4,XW];rfl,?_⟩
      simp only[go_sem,t4,t5,t6,t7,t8,t9,t10,t42,t43];refine⟨rfl,by omega,?_,?_,.inr ⟨nx+1,by omega,by omega,by omega,?_,?_⟩⟩
      .repeat rw[Zm]
       exact O
      .repeat rw[Zm]
       exact S
      .rw[Zk,show i*C+(c+1)=1 by omega]
      .rw[Zm,Zk,c3,h0];rfl
     .have c5:=rC (σ:=restrict (upd σ nx (some ⟨[I (u*e)],1,true⟩)) [ba,nx]) (nx:=nx+1) (bytes:=8) (b:=ba) (len:=i*C+c) (m:=1) (row:=[I (u*e)]) (by rw[fK,Zm];exact h4) (by show((J.take (i*C+c)).flatMap cI).length=_;rw[qL,zh];omega) rfl (by decide) (by unfold maxLen;omega) (by omega) rfl
      have x1:ba<nx+1:=by omega
      have x2:(3==ba)=false:=by rw[sG];omega
      have x3:(ba==3)=false:=by rw[sG];omega
      have x4:¬3=ba:=by omega
      refine .inl ⟨_,by simp only[go_sem,t4,t5,t6,t7,t8,t9,t10,t42,t43,t44,Y,g1,g2,g3,g4,g5,g6,g7,g8,e3,w1,e4,c2,w3,g9,g10,g11,g12,c5,x1,x2,x3,x4,y1,y2,y3,y4,y5,y6,y7,y8,y9,XT,XU,XV,c4,XW];rfl,?_⟩;simp only[go_sem,t4,t5,t6,t7,t8,t9,t10,t42,t43];refine⟨rfl,by omega,?_,?_,.inr ⟨nx+1,by omega,by omega,by omega,?_,?_⟩⟩
      .repeat rw[Zm]
       exact O
      .repeat rw[Zm]
       exact S
      .rw[Zk];rfl
      .rw[Zm,Zk,c3,zT];rfl) (by
     clear hL;rintro ⟨T,σ,nx⟩ ⟨t4,t5,t6,t7,t8,t9,t10,t42,t43,t44,G,O,S,hA⟩;simp only at t4 t5 t6 t7 t8 t9 t10 t42 t43 t44 G O S hA;refine⟨_,by simp only[go_sem,t43,t44,zk];rfl,by simp,_,_,_,rfl,?_⟩;simp only[go_sem,t4,t5,t6,t7,t8,t9,t10];exact⟨G,O,S,hA⟩) (by
     simp only[go_sem,t4,t5,t6,t7,t8,t9,t10];exact⟨G,O,S,hA⟩)
   refine⟨_,by simp only[go_sem,t10,f3];rfl,.inl ⟨_,rfl,?_⟩⟩;simp only[go_sem,t4,t5,t6,t7,t8,t9];rw[<- xk]at b9;exact⟨rfl,h6,O,S,b9⟩) (by
   clear hL;rintro ⟨T,σ,nx⟩ ⟨t4,t5,t6,t7,t8,t9,t10,G,O,S,hA⟩;simp only at t4 t5 t6 t7 t8 t9 t10 G O S hA;obtain⟨vA,a1⟩:∃vA,σ 3=some ⟨[I R,I C,vA,LI (GI s l),.rs 2 0 C],0,true⟩:=by
    rcases hA with ⟨-,Y⟩|⟨ba,-,-,-,Y,-⟩<;>exact⟨_,Y⟩
   refine⟨_,by simp only[go_sem,t9,t10,a1,zk];rfl,by simp,_,_,_,rfl,?_⟩;simp only[go_sem,t4,t9];exact⟨G,O,S,hA⟩) (by
   simp only[go_sem];refine⟨by rw[<- fP],.inl ⟨rfl,by rw[Zk]⟩⟩)
 clear hL;obtain⟨vA,a1,i0,i2⟩:∃vA,b2 3=some ⟨[I R,I C,vA,LI (GI s l),.rs 2 0 C],0,true⟩/\qI vA=true/\∀σ',(∀y,y≠1->σ' y=b2 y)->∃ids,strip σ' 6 vA=some (LI J,ids):=by
  rcases h5 with ⟨h0,Y⟩|⟨ba,h0,h1,h2,Y,h4⟩
  .have:J=[]:=zZ (by omega)
   exact⟨_,Y,rfl,fun σ' _=>⟨[],by rw[aS,this];rfl⟩⟩
  .rw[zl (by omega)]at h4
   exact⟨_,Y,rfl,fun σ' i3=>⟨_,kD ((i3 ba (by omega)).trans h4) b7 5⟩⟩
 obtain⟨a6,e8⟩:∃a6,a6=upd b2 1 (some ⟨[I R,I C,vA,LI (GI s l),.rs 2 0 C],0,true⟩):=⟨_,rfl⟩;have i4:a6 1=some ⟨[I R,I C,vA,LI (GI s l),.rs 2 0 C],0,true⟩:=by rw[e8,Zk]
 obtain⟨i1,c6⟩:=i2 a6 fun y hy=>by rw[e8,Zl _ _ hy]
 have i5:=kD (σ:=a6) (b:=2) (xs:=List.replicate C 0) (by rw[e8,Zl _ _ (by decide)];exact e9) (n:=C) (by simp) 5;rw[a7]at c6;simp only[go_sem,t4,t9,a1,e7,i0,<- e8,i4,c6,i5,ah]
 try rfl
end Go.Proofs.YtkpdoehbhmipcaaGreat
namespace Go.Proofs.YtkpdoehbhmipcaaGreat
open Go Go.TV Go.Lp
theorem avM{s:Structure}(h:SG s){l:List Int}(hb:∀x∈l,-100<=x/\x<=100):PrS (OM s) (GI s l) (List.replicate (Cc s) 0) (JK s) (Cc s):=by
 have E:=lS s;have S:=h.nj;have G:=h.nm;have J:=oz s s.members.length;refine⟨LP s,by rw[TY];rfl,by simp,?_,?_,aa6 h,ahQ hb,fun x O=>?_⟩
 .unfold JK;omega
 .unfold Cc;omega
 .rw[(List.mem_replicate.mp O).2];decide
theorem alZ{s:Structure}(h:SG s){l:List Int}(hb:∀x∈l,-100<=x/\x<=100) :
  ∃r,fn ZL pI Ad 128 [.agg (CO (JK s) (Cc s) (OM s) (GI s l) (List.replicate (Cc s) 0))]=some r/\avG (EH s l) r:=apC (avM h hb)
attribute [-go_sem] qw
theorem dM{a b:Nat}(x y:Rat)(G:Ln a x)(J:Ln b y)(E:a+b<=23):fn ZL conv ext 176 [.agg (cQ x),.agg (cQ y)]=some (.agg (cQ (x+y))):=by
 have o1:=JQ x (G.mono (by omega));have O:=JQ y (J.mono (by omega));have S:=acK x y G J E;unfold cQ at *;rw[m_,mg [.cell 4 161] [] func176];simp only[go_sem,o1,O,S]
theorem aiF{a b:Nat}(x y:Rat)(J:Ln a x)(E:Ln b y)(G:a+b<=23):fn ZL conv ext 193 [.agg (cQ x),.agg (cQ y)]=some (.agg (cQ (x-y))):=by
 have o1:=JQ x (J.mono (by omega));have S:=JQ y (E.mono (by omega));have Y:=agC y (by have:=E.1;omega) (by have:=E.2;omega);have O:=acK x (-y) J (Ul E) G;rw[<- Rat.sub_eq_add_neg]at O;unfold cQ at *;rw[m_,mg [.cell 4 161] [] func193];simp only[go_sem,o1,S,Y,O]
theorem abv{xs:List Rat}(h:∀x∈xs,Ln 24 x)(O:xs.length<=1000):fn ZL conv ext 174 [LL cQ xs]=some (Bo true):=by
 rw[m_,mg [.tmp 2] [] func174];simp only[go_sem];generalize G:dI _ _=y;obtain⟨r,rfl,T',σ',nx',rfl⟩:=oZ G xs.length (fun k st=>st.T 5=LL cQ xs/\st.T 6=I xs.length/\st.T 7=I k)
  (fun r=>∃T σ nx',r=(.exit 0,⟨T,σ,nx'⟩)) (by
   clear G;rintro k ⟨T,σ,nx⟩ E ⟨t5,t6,t7⟩;simp only at t5 t6 t7;have f1:(k:Int)<(xs.length:Int):=by omega
   have f2:=jD k;have f3:=ZT (n:=(k:Int)+1);have f4:=d_ (c:=cQ) (s:=3) qG xs k E;have f5:=bZ (c:=cQ) (s:=3) qG xs;have f6:k*3+3<=xs.length*3:=by omega
   have f7:=bg (c:=cQ) (s:=3) qG (by omega) xs k E;have J:=JQ xs[k] (h _ (zu E));refine .inl ⟨_,by simp only[go_sem,t5,t6,t7,f1,f2,f3,f4,f5,f6,f7,J];rfl,?_⟩;simp only[go_sem,t5,t6];rfl) (by
   rintro ⟨T,σ,nx⟩ ⟨t5,t6,t7⟩;simp only at t5 t6 t7;exact⟨_,by simp only[go_sem,t6,t7,zk];rfl,by simp,_,_,_,rfl⟩) (by
   simp only[go_sem])
 simp only[go_sem]
theorem avN:fn ZL conv ext 280 []=some (.agg (cQ 0)):=by
 have E:fn ZL conv ext 133 [I 0]=some (.agg (cQ 0)):=dO 0 (by decide) (by decide)
 rw[m_,mg [.cell 0 161] [] func280];simp only[go_sem,E]
theorem apJ(n:Nat)(hn:n<=1000)(σ:Store)(nx:Nat):∃v σ' nx',ev ZL pI Ad 245 [I n] σ nx=some (v,σ',nx')/\nx<=nx'/\GK v σ' nx nx' (List.replicate n (0:Rat))/\∀y,y<nx->σ' y=σ y:=by
 have k0:=avN;rw[mg [.tmp 2] [] func245];simp only[go_sem];generalize hL:dI _ _=y;obtain⟨r,rfl,T',σ',nx',rfl,O,G,FK⟩:=oZ hL n (fun k st=>st.T 0=I n/\nx<=st.nx/\GK (st.T 3) st.σ nx st.nx (List.replicate k (0:Rat))/\∀y,y<nx->st.σ y=σ y)
  (fun r=>∃T σ' nx',r=(.exit 0,⟨T,σ',nx'⟩)/\nx<=nx'/\GK (T 3) σ' nx nx' (List.replicate n (0:Rat))/\∀y,y<nx->σ' y=σ y) (by
   clear hL;rintro k ⟨T,S,nI⟩ hk ⟨t0,E,hA,fr⟩;simp only at t0 E hA fr;have f1:(k:Int)<(n:Int):=by omega
   have hlen:Dz ZL 39 (T 3)=some (I k):=by
    rcases hA with ⟨J,G⟩|⟨b,J,G,h3,Y,h5⟩
    .rw[G]
     have:k=0:=by have:=congrArg List.length J;simpa using this
     rw[this];exact nU (by kernel_rfl)
    .rw[Y,yU];exact nT (by kernel_rfl)
   obtain⟨σ',a1,a2,a3⟩:=rG hA E 0 (by rw[yU];omega);rw[yU]at a1 a2;refine .inl ⟨_,by simp only[go_sem,t0,hlen,f1,k0,a1];rfl,?_⟩;simp only[go_sem,t0];rw[uD];exact⟨by omega,a2,fun y hy=>(a3 y hy).trans (fr y hy)⟩) (by
   rintro ⟨T,S,nI⟩ ⟨t0,E,hA,fr⟩;simp only at t0 E hA fr;have hlen:Dz ZL 39 (T 3)=some (I n):=by
    rcases hA with ⟨J,G⟩|⟨b,J,G,h3,Y,h5⟩
    .rw[G]
     have:n=0:=by have:=congrArg List.length J;simpa using this
     rw[this];exact nU (by kernel_rfl)
    .rw[Y,yU];exact nT (by kernel_rfl)
   refine⟨_,by simp only[go_sem,t0,hlen,zk];rfl,by simp,_,_,_,rfl,?_⟩;simp only[go_sem];exact⟨E,hA,fr⟩) (by
   simp only[go_sem];exact⟨.inl ⟨rfl,rfl⟩,fun _ _=>trivial⟩)
 exact⟨_,σ',nx',by simp only[go_sem],O,G,FK⟩
def Fj(K:List (Int×Int))(X:List Rat)(nm:Nat):Nat->List Rat
 |0=>List.replicate nm 0
 |c+1=>(Fj K X nm c).set (K.getD c (0,0)).1.toNat ((Fj K X nm c).getD (K.getD c (0,0)).1.toNat 0+OO (K.getD c (0,0)).2 (X.getD c 0))
theorem oD(K:List (Int×Int))(X:List Rat)(nm:Nat):∀c,(Fj K X nm c).length=nm
 |0=>by simp[Fj]
 |c+1=>by rw[Fj,xu];exact oD K X nm c
def Uu(K:List (Int×Int))(k c:Nat):Nat:=((K.take c).filter fun p=>p.1.toNat==k).length
theorem JV{K:List (Int×Int)}{c:Nat}(h:c<K.length)(k:Nat):Uu K k (c+1)=Uu K k c+if K[c].1.toNat=k then 1 else 0:=by
 unfold Uu;rw[yM,zy h,List.filter_append,zo];congr 1
 by_cases e:K[c].1.toNat=k
 .simp[e]
 .simp[e]
theorem LV(K:List (Int×Int))(k c:Nat):Uu K k c<=(K.filter fun p=>p.1.toNat==k).length :=
 ((List.take_sublist c K).filter _).length_le
theorem abw(m:Member)(j k:Nat):((ET m j).filter fun p=>p.1.toNat==k).length<=(if j=k then 2 else 0)/\(j=k->0<((ET m j).filter fun p=>p.1.toNat==k).length):=by
 unfold ET
 by_cases E:m.kind=2<;>by_cases G:m.kind=1<;>by_cases e:j=k<;>simp[E,G,e]
theorem OE(s:Structure)(k:Nat):∀n,((cols s n).filter fun p=>p.1.toNat==k).length<=(if k<n then 2 else 0)/\(k<n->0<((cols s n).filter fun p=>p.1.toNat==k).length)
 |0=>by simp[cols]
 |n+1=>by
  obtain⟨E,O⟩:=OE s k n;obtain⟨J,S⟩:=abw (mem s n) n k;rw[oh,List.filter_append,zo]
  by_cases e:n=k
  .subst e
   rw[sJ (Nat.lt_irrefl _)]at E;rw[sH rfl]at J;rw[sH (Nat.lt_succ_self _)];exact⟨by omega,fun _=>by have:=S rfl;omega⟩
  .rw[sJ e]at J
   by_cases G:k<n
   .rw[sH G]at E
    rw[sH (by omega)];exact⟨by omega,fun _=>by have:=O G;omega⟩
   .rw[sJ G]at E
    rw[sJ (by omega)];exact⟨by omega,fun h=>by omega⟩
theorem kY{α:Type}(l:List α)(i k:Nat)(v d:α)(h:i<l.length):(l.set i v).getD k d=if i=k then v else l.getD k d:=by
 rw[zx,zx,List.getElem?_set]
 by_cases e:i=k
 .subst e;rw[sH rfl,sH h,sH rfl];rfl
 .rw[sJ e,sJ e]
theorem avO{k:Nat}{q:Rat}(s:Int)(h:Ln k q):Ln k (OO s q):=by
 unfold OO
 split
 .exact Ul h
 .exact h
section
variable {K:List (Int×Int)} {X:List Rat} {nm:Nat}
def DnI(K:List (Int×Int))(X:List Rat)(nm c k:Nat):Prop:=(Uu K k c=0/\(Gh K X nm c).getD k none=none/\(Fj K X nm c).getD k 0=0) \/
 (0<Uu K k c/\(Gh K X nm c).getD k none=some ((Fj K X nm c).getD k 0)/\Ln (7*Uu K k c) ((Fj K X nm c).getD k 0))
theorem Uw(S:∀x∈X,Ln 6 x)(Y:∀k,(K.filter fun p=>p.1.toNat==k).length<=2)(hk:∀c (h:c<K.length),K[c].1.toNat<nm):∀c,c<=K.length->∀k,k<nm->DnI K X nm c k
 |0,_,k,hkn=> .inl ⟨rfl,by
   rw[Gh,zx,wZ,sH hkn];rfl,by
   rw[Fj,zx,wZ,sH hkn];rfl⟩
 |c+1,hc,k,hkn=>by
  have ih:=Uw S Y hk c (by omega) k hkn;have G:=hk c (by omega);have e1:K.getD c (0,0)=K[c]'(by omega):=by rw[zx,zy (by omega)];rfl
  have hx:Ln 6 (X.getD c 0):=by
   rw[zx]
   by_cases hc:c<X.length
   .rw[zy hc];exact S _ (zu hc)
   .rw[z_ (by omega)];exact(ru (z:=0) (by decide)).mono (by decide)
  have E:=JV (K:=K) (c:=c) (by omega) k;have hle:=zU (LV K k (c+1)) (Y k);unfold DnI;rw[Gh,Fj,e1,kY _ _ _ _ _ (by rw[lT];exact G),kY _ _ _ _ _ (by rw[oD];exact G)];have hv:=avO (K[c]'(by omega)).2 hx;generalize OO (K[c]'(by omega)).2 (X.getD c 0)=v at *
  by_cases e:(K[c]'(by omega)).1.toNat=k
  .rw[sH e]at E
   rw[sH e,sH e,e];refine .inr ⟨by omega,?_⟩;rcases ih with ⟨i1,J,O⟩|⟨i1,J,O⟩
   .rw[J,O]
    have:(0:Rat)+v=v:=by grind
    rw[this];exact⟨rfl,hv.mono (by omega)⟩
   .rw[J]
    have hs:=N_ O hv;exact⟨mO (hs.mono (by omega)),hs.mono (by omega)⟩
  .rw[sJ e]at E
   rw[sJ e,sJ e,E];exact ih
theorem avP(S:∀x∈X,Ln 6 x)(J:∀k,(K.filter fun p=>p.1.toNat==k).length<=2)(O:∀c (h:c<K.length),K[c].1.toNat<nm){c:Nat}(hc:c<K.length):Ln 7 ((Fj K X nm c).getD K[c].1.toNat 0):=by
 have hle:=zU (LV K K[c].1.toNat (c+1)) (J _);have E:=JV hc K[c].1.toNat;rw[sH rfl]at E;rcases Uw S J O c (by omega) _ (O c hc)with ⟨Y,i2,G⟩|⟨Y,i2,G⟩
 .rw[G];exact(ru (z:=0) (by decide)).mono (by decide)
 .exact G.mono (by omega)
theorem apK(Y:∀x∈X,Ln 6 x)(O:∀k,(K.filter fun p=>p.1.toNat==k).length<=2)(hk:∀c (h:c<K.length),K[c].1.toNat<nm){c:Nat}(hc:c<=K.length):∀q∈Fj K X nm c,Ln 14 q:=fun q hq=>by
 obtain⟨k,E,e⟩:=yZ hq;have J:k<nm:=by rw[oD]at E;exact E
 have S:(Fj K X nm c).getD k 0=q:=by rw[zx,zy E,<- e];rfl
 have hle:=zU (LV K k c) (O _);rcases Uw Y O hk c hc _ J with ⟨i1,i2,G⟩|⟨i1,i2,G⟩
 .rw[S]at G;rw[G];exact(ru (z:=0) (by decide)).mono (by decide)
 .rw[S]at G;exact G.mono (by omega)
theorem Q_:∀l:List Rat,BK (l.map some)=some l
 |[]=>rfl
 |q :: l=>by
  show(BK (l.map some)).map _=_;rw[Q_ l];rfl
theorem avQ(O:∀x∈X,Ln 6 x)(S:∀k,(K.filter fun p=>p.1.toNat==k).length<=2)(Y:∀k,k<nm->0<(K.filter fun p=>p.1.toNat==k).length)(hk:∀c (h:c<K.length),K[c].1.toNat<nm):BK (Gh K X nm K.length)=some (Fj K X nm K.length):=by
 rw[<- Q_];congr 1;refine yS (by rw[lT,zS,oD]) fun k g1 g2=>?_
 have E:k<nm:=by rw[lT]at g1;exact g1
 have e1:(Gh K X nm K.length).getD k none=(Gh K X nm K.length)[k]:=by rw[zx,zy g1];rfl
 have e2:(Fj K X nm K.length).getD k 0=(Fj K X nm K.length)[k]'(by rw[oD];exact E):=by rw[zx,zy (by rw[oD];exact E)];rfl
 have h3:=Y k E;rcases Uw O S hk K.length (zq _) k E with ⟨G,J,i3⟩|⟨G,J,i3⟩
 .unfold Uu at G;rw[yg]at G;omega
 .rw[<- e1,J,xg,e2]
end
def FQ(s:Structure)(x:Nat->Rat):List Rat:=Fj (cols s s.members.length) ((List.range (Cc s)).map x) s.members.length (Cc s)
theorem Rf(s:Structure)(x:Nat->Rat):(FQ s x).length=s.members.length:=oD _ _ _ _
theorem Ux(s:Structure)(k:Nat):((cols s s.members.length).filter fun p=>p.1.toNat==k).length<=2:=by
 have:=(OE s k s.members.length).1
 split at this<;>omega
theorem Uy(s:Structure):∀c (h:c<(cols s s.members.length).length),(cols s s.members.length)[c].1.toNat<s.members.length:=fun c h=>by
 obtain⟨⟨q,e,E⟩,-⟩:=ou (zu h);rw[e,zJ];exact E
theorem apL{x:Nat->Rat}{n:Nat}(h:∀j,j<n->Ln 6 (x j)):∀y∈(List.range n).map x,Ln 6 y:=fun y E=>by
 obtain⟨j,G,rfl⟩:=List.mem_map.mp E;exact h j (List.mem_range.mp G)
theorem OG{s:Structure}{x:Nat->Rat}(h:∀j,j<Cc s->Ln 6 (x j)):∀q∈FQ s x,Ln 14 q:=apK (apL h) (Ux s) (Uy s) (zq _)
theorem aiG{s:Structure}{x:Nat->Rat}(h:∀j,j<Cc s->Ln 6 (x j)):BK (Gh (cols s s.members.length) ((List.range (Cc s)).map x) s.members.length (Cc s))=some (FQ s x) :=
 avQ (apL h) (Ux s) (fun k E=>(OE s k _).2 E) (Uy s)
theorem I8{s:Structure}{l:List Int}{x:Nat->Rat}(h:(EH s l).Best x)(G:(EH s l).Open):False:=by
 obtain⟨y,J,E⟩:=G 1;have e:ob (EH s l).n (EH s l).c y=0:=by
  unfold ob;refine bK fun j O=>?_
  have:(EH s l).c j=0:=by
   show((((List.replicate (Cc s) (0:Int)).getD j 0:Int)):Rat)=0;rw[zx]
   by_cases hc:j<Cc s
   .rw[wZ,sH hc];rfl
   .rw[wZ,sJ hc];rfl
  rw[this];grind
 rw[e]at E;exact absurd E (by decide)
def badR:List V:=[Bo false,.ts [] 0,.ts [] 0]
def cR(a:Option Rat):List V:=match a with
 |none=>badR
 |some q=>cQ q
theorem apM(a:Option Rat):(cR a).length=3:=by cases a<;>rfl
theorem aiH(a:Option Rat):(cR a).all qI=true:=by cases a<;>rfl
theorem al0(a:Option Rat):(cR a).take 3=cR a:=by cases a<;>rfl
theorem ae4(x y z:V)(a:Option Rat):patch [x,y,z] 0 (cR a)=cR a:=by cases a<;>rfl
theorem aiI(σ:Store)(d:Nat)(a:Option Rat):stripL (strip σ d) (cR a)=some (cR a,[]):=by
 cases a with
 |none=>unfold cR badR;rw[ah,aP,ah,aK,ah,aK,aX];rfl
 |some q=>exact qF σ d q
attribute [go_sem] apM aiH al0 ae4 aiI
theorem avR(neg:Bool)(m n:Nat)(hm:ln m<=1000)(h0:n≠0)(hn:ln n<=1000) :
  fn ZL conv ext 275 [Bo neg,LI (dg m),LI (dg n)]=some (.agg (if ln (m / Nat.gcd m n)<=24/\ln (n / Nat.gcd m n)<=24 then [Bo (neg && decide (0<(dg (m / Nat.gcd m n)).length)),LI (dg (m / Nat.gcd m n)),LI (dg (n / Nat.gcd m n))]else badR)):=by
 have a1:Nat.gcd m n≠0:=fun e=>h0 (tK e)
 have a6:Nat.gcd m n<=n:=Nat.gcd_le_right _ (by omega);have a7:n / Nat.gcd m n≠0:=by
  have:=Nat.div_pos a6 (by omega);omega
 have hg:=jY a6;have Y:=b_ (dg m) (dA (by omega));have k2:=b_ (dg n) (dA (by omega));rw[Zu]at Y k2;have G:=Qc n (by omega);have k4:=ahV m n (by omega) (by omega);have J:=Qc (Nat.gcd m n) (by omega);have k6:=Xv m (Nat.gcd m n) a1 (by omega) (by omega);have k7:=Xv n (Nat.gcd m n) a1 (by omega) (by omega);have l0:(((dg n).length:Int)==0)=false:=by rw[sG];have:=qy (oO h0);omega
 have z1:¬(dg (n / Nat.gcd m n)).length=0:=qy (oO a7)
 by_cases r1:ln (m / Nat.gcd m n)<=24
 .by_cases r2:ln (n / Nat.gcd m n)<=24
  .rw[sH ⟨r1,r2⟩]
   have k8:=agt neg (dg (m / Nat.gcd m n)) (dA (by omega)) (by rw[Zu];show ln _<=60;omega);rw[Zu]at k8;have c1:¬(24:Int)<((dg (m / Nat.gcd m n)).length:Int):=by unfold ln at r1;omega
   have O:¬(24:Int)<((dg (n / Nat.gcd m n)).length:Int):=by unfold ln at r2;omega
   have s1:(dg (n / Nat.gcd m n)).length<=maxLen/\(dg (n / Nat.gcd m n)).length*8<=140737488355328:=by unfold maxLen;unfold ln at r2;omega
   rw[m_,mg [.cell 6 161] [] func275]
   by_cases S:n=1
   .have E:Nat.gcd m n=1:=by rw[S,Nat.gcd_one_right]
    simp only[E,wV]at c1 O k8 z1 s1⊢;rw[sF S]at G;simp only[go_sem,Y,k2,G,k8,l0,c1,O,z1,s1]
   .rw[sD S]at G
    by_cases E:Nat.gcd m n=1
    .rw[sF E]at J
     rw[E]at k4 J;simp only[E,wV]at c1 O k8 z1 s1⊢;simp only[go_sem,Y,k2,G,k4,J,k8,l0,c1,O,z1,s1]
    .rw[sD E]at J
     simp only[go_sem,Y,k2,G,k4,J,k6,k7,k8,l0,c1,O,z1,s1]
  .rw[sJ (fun h=>r2 h.2)]
   have c1:¬(24:Int)<((dg (m / Nat.gcd m n)).length:Int):=by unfold ln at r1;omega
   have O:(24:Int)<((dg (n / Nat.gcd m n)).length:Int):=by unfold ln at r2;omega
   unfold badR;rw[m_,mg [.cell 6 161] [] func275]
   by_cases S:n=1
   .have E:Nat.gcd m n=1:=by rw[S,Nat.gcd_one_right]
    simp only[E,wV]at c1 O;rw[sF S]at G;simp only[go_sem,Y,k2,G,l0,c1,O]
   .rw[sD S]at G
    by_cases E:Nat.gcd m n=1
    .rw[sF E]at J
     rw[E]at k4 J;simp only[E,wV]at c1 O;simp only[go_sem,Y,k2,G,k4,J,l0,c1,O]
    .rw[sD E]at J
     simp only[go_sem,Y,k2,G,k4,J,k6,k7,l0,c1,O]
 .rw[sJ (fun h=>r1 h.1)]
  have c1:(24:Int)<((dg (m / Nat.gcd m n)).length:Int):=by unfold ln at r1;omega
  unfold badR;rw[m_,mg [.cell 6 161] [] func275]
  by_cases S:n=1
  .have E:Nat.gcd m n=1:=by rw[S,Nat.gcd_one_right]
   simp only[E,wV]at c1;rw[sF S]at G;simp only[go_sem,Y,k2,G,l0,c1]
  .rw[sD S]at G
   by_cases E:Nat.gcd m n=1
   .rw[sF E]at J
    rw[E]at k4 J;simp only[E,wV]at c1;simp only[go_sem,Y,k2,G,k4,J,l0,c1]
   .rw[sD E]at J
    simp only[go_sem,Y,k2,G,k4,J,k6,k7,l0,c1]
theorem avS(z:Int){d:Nat}(h:d≠0):(mkRat z d).num.natAbs=z.natAbs / Nat.gcd z.natAbs d/\(mkRat z d).den=d / Nat.gcd z.natAbs d:=by
 have E:(Nat.gcd z.natAbs d:Int) ∣ z:=Int.ofNat_dvd_left.mpr (Nat.gcd_dvd_left _ _);have e:(mkRat z d).num=z / (Nat.gcd z.natAbs d:Nat)/\(mkRat z d).den=d / Nat.gcd z.natAbs d:=by
  rw[Rat.mkRat_def,dif_neg h,Rat.normalize_eq];exact⟨rfl,rfl⟩
 refine⟨?_,e.2⟩;rw[e.1,Int.natAbs_ediv_of_dvd E];rfl
theorem avT(z:Int)(d:Nat)(hz:ln z.natAbs<=1000)(G:d≠0)(hd:ln d<=1000)(b:Bool)(n:Nat)(hb:AL b n=z):fn ZL conv ext 275 [Bo b,LI (dg n),LI (dg d)]=some (.agg (cR (FI (mkRat z d)))):=by
 have hn:n=z.natAbs:=by rw[<- hb];unfold AL;split<;>omega
 subst hn;rw[avR b z.natAbs d hz G hd];obtain⟨S,Y⟩:=avS z G;rw[<- S,<- Y];unfold FI
 by_cases E:ln (mkRat z d).num.natAbs<=24/\ln (mkRat z d).den<=24
 .rw[sH E,sH E]
  show some (V.agg _)=some (V.agg (cQ (mkRat z d)));rw[agA z G,S,Y];unfold aeb
  by_cases J:z.natAbs=0
  .rw[J,Nat.zero_div,oJ];simp
  .have:b=decide (z<0):=by
    have O:=hb;unfold AL at O;cases b with
    |true=>rw[sH rfl]at O;rw[sF (by omega)]
    |false=>rw[sJ (by decide)]at O;rw[sD (by omega)]
   rw[this]
 .rw[sJ E,sJ E]
  rfl
theorem apN(a:Option Rat)(h:LnO 24 a):fn ZL conv ext 177 [.agg (cR a)]=some (Bo a.isSome):=by
 cases a with
 |some q=>exact JQ q (h q rfl)
 |none=>
  have E:=P8 false [] (by unfold Short;simp);have G:=Sr [] (by unfold Short;simp);have g:Cm []:=⟨fun x J=>by(cases J),by simp,rfl⟩;rw[iD g]at E G;have E:fn ZL conv ext 232 [.agg [Bo false,.ts [] 0]]=some (Bo true):=E
  have G:fn ZL conv ext 233 [.ts [] 0]=some (Bo true):=G
  show fn ZL conv ext 177 [.agg badR]=some (Bo false)
  unfold badR;rw[m_,mg [.tmp 2] [] func177];simp only[go_sem,E,G]
theorem I9(a b:Option Rat)(ha:LnO 24 a)(hb:LnO 24 b):fn ZL conv ext 230 [.agg (cR a),.agg (cR b)]=some (.agg (cR (F7 a b))):=by
 have o1:=apN a ha;have E:=apN b hb;cases a with
 |none=>
  show fn ZL conv ext 230 [.agg badR,.agg (cR b)]=some (.agg badR)
  have o1:fn ZL conv ext 177 [.agg badR]=some (Bo false):=o1
  have G:∃u v w,cR b=[u,v,w]:=by cases b<;>exact⟨_,_,_,rfl⟩
  obtain⟨u,v,w,e⟩:=G;rw[e];unfold badR at *;rw[m_,mg [.cell 4 161] [] func230];simp only[go_sem,o1]
 |some x=>cases b with
  |none=>
   show fn ZL conv ext 230 [.agg (cQ x),.agg badR]=some (.agg badR)
   have o1:fn ZL conv ext 177 [.agg (cQ x)]=some (Bo true):=o1
   have E:fn ZL conv ext 177 [.agg badR]=some (Bo false):=E
   unfold badR at *;unfold cQ at *;rw[m_,mg [.cell 4 161] [] func230];simp only[go_sem,o1,E]
  |some y=>
   have o1:fn ZL conv ext 177 [.agg (cQ x)]=some (Bo true):=o1
   have E:fn ZL conv ext 177 [.agg (cQ y)]=some (Bo true):=E
   have J:=ha x rfl;have O:=hb y rfl;have ux:=J.up (by omega);have uy:=O.up (by omega);have n1:=amD J O;have n2:=NJ J O;have k1:=dN x.num.natAbs y.num.natAbs ux.1 uy.1;have k2:=dN x.den y.den ux.2 uy.2;have S:=avT (AL (decide (x.num<0) !=decide (y.num<0)) (x.num.natAbs*y.num.natAbs)) (x.den*y.den) (by rw[Uf];omega) (dd0 x y) (by omega) _ _ rfl;rw[<- acn]at S;have e:∀a b:Bool,(!a==b)=(a !=b):=by decide
   have k4:fn ZL conv ext 273 [.agg (cQ x),.agg (cQ y)]=some (.agg (cR (FI (x*y)))):=by
    unfold cQ at *;rw[m_,mg [.cell 4 161] [] func273];obtain⟨o,Y⟩:∃o,o=FI (x*y):=⟨_,rfl⟩;rw[<- Y]at S⊢;simp only[go_sem,k1,k2,S,e]
   show fn ZL conv ext 230 [.agg (cQ x),.agg (cQ y)]=some (.agg (cR (FI (x*y))))
   obtain⟨o,Y⟩:∃o,o=FI (x*y):=⟨_,rfl⟩;rw[<- Y]at k4⊢;unfold cQ at *;rw[m_,mg [.cell 4 161] [] func230];simp only[go_sem,o1,E,k4]
end Go.Proofs.YtkpdoehbhmipcaaGreat
