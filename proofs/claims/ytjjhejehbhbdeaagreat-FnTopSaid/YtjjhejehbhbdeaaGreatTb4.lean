import Derived.Test.YtjjhejehbhbdeaaGreatTb3
set_option linter.unusedSimpArgs false
set_option linter.unusedVariables false
set_option linter.unusedSectionVars false
set_option linter.defProp false
set_option maxRecDepth 10000
set_option maxHeartbeats 4000000
open Go.Proofs.Tryz renaming prog->ZK
open Go.Proofs.Tryz
open Bool renaming and_eq_true->zD,not_false->vZ,not_true->uz,and_true->uJ
open Classical renaming byContradiction->zh
open Int renaming lt_irrefl->zi,toNat_natCast->zA,tdiv_eq_ediv_of_nonneg->xq,le_refl->xJ,natAbs_neg->vY,mul_zero->vT
open List renaming getElem?_eq_getElem->zy,getD_eq_getElem?_getD->zx,getElem_mem->zu,length_append->zo,take_of_length_le->zl,length_take->zf,eq_nil_of_length_eq_zero->zZ,mem_cons_of_mem->zY,mem_cons->zX,length_cons->zW,getElem?_append_left->zV,flatMap_append->zS,length_map->zQ,length_drop->zN,getElem?_append_right->zM,mem_cons_self->zL,flatMap_cons->zJ,not_mem_nil->zH,getElem?_map->zF,append_nil->zC,mem_append_left->zB,getElem?_eq_none->yw,mem_append_right->yj,append_assoc->yh,getElem_of_mem->yc,drop_zero->yZ,take_length->yX,length_nil->yV,length_singleton->yU,length_replicate->yT,cons_append->yS,ext_getElem->yR,length_set->yP,length_eraseIdx_of_lt->yN,nil_append->yM,take_add_one->yJ,getElem_append_left->yG,drop_of_length_le->xk,getElem_map->xZ,mem_singleton->xY,replicate_succ->xX,nodup_cons->xW,getElem?_drop->xQ,getElem?_range->xO,set_append_right->xH,map_congr_left->xG,mem_append->wz,all_eq_true->wo,getElem?_replicate->wZ,getElem?_take->wX,map_append->wR,take_left'->wP,range_succ->wK,mem_of_mem_take->wJ,getElem_set->wG,getElem_append_right->wF,flatMap_nil->w_,replicate_append_replicate->vk,drop_append_of_le_length->vV,all_nil->vU,all_cons->vO,set_cons_zero->um,take_append_drop->uj,getElem_range->uh,mem_or_eq_of_mem_set->ug,eraseIdx_eq_take_drop_succ->uf,take_append_of_le_length->uT,getElem_inj->uP,map_cons->uK,length_range->uH,replicate_succ'->uG,getElem_cons_zero->su,eraseIdx_sublist->sZ
open Nat renaming le_refl->zq,not_lt_zero->zU,le_trans->zT,mul_le_mul_right->zK,zero_add->yY,sub_self->yQ,mul_one->yO,succ_mul->xg,lt_of_lt_of_le->xK,div_le_self->xA,mul_le_mul->x9,div_div_eq_div_mul->wV,mul_comm->wE,mod_eq_of_lt->wC,zero_le->vg,add_mul->vP,mod_lt->vM,div_one->vC,mul_assoc->uw,div_eq_of_lt->uq,zero_mul->uY,pow_succ->uX,div_lt_iff_lt_mul->uN,le_div_iff_mul_le->uM,mul_le_mul_left->tV,div_mul_le_self->tK
open Ne renaming symm->yu
open Option renaming bind_some->zk,map_some->zG,getD_some->xE
open Option.some renaming injEq->sS
open Prod.mk renaming injEq->sQ
namespace Go.Proofs.YtjjhejehbhbdeaaGreat
open Go Go.TV Go.Lp
theorem nd4{bt br bb bf:Nat}{rb:List Nat}(h:(bt :: br :: bb :: bf :: rb).Nodup):bt≠br/\bt≠bb/\bt≠bf/\br≠bb/\br≠bf/\bb≠bf/\(∀b∈rb,b≠bt/\b≠br/\b≠bb/\b≠bf)/\rb.Nodup:=by
 simp only[xW,zX,not_or]at h;obtain⟨⟨J,O,S,Y⟩,⟨h5,h6,h7⟩,⟨h8,h9⟩,E,G⟩:=h;refine⟨J,O,S,h5,h6,h8,fun b hb=>⟨fun e=>Y (e ▸ hb),fun e=>h7 (e ▸ hb),fun e=>h9 (e ▸ hb),fun e=>E (e ▸ hb)⟩,G⟩
theorem fQ{rb:List Nat}{ex:List V}{n i:Nat}(h:i<rb.length):(rb.map (fun b=>V.rs b 0 n)++ex)[i]?=some (.rs rb[i] 0 n):=by
 rw[zV (by simpa using h),zF,zy h];rfl
def Gl(R:List (List Int))(P:List (List Int))(i j:Nat):List Int:=if j<i then D8 P j else D8 R j
theorem ahg{u p f v:Int}(hu:ln u.natAbs<=50)(hp:ln p.natAbs<=50)(E:ln f.natAbs<=50)(G:ln v.natAbs<=50) :
  ln (u*p).natAbs<=1000000/\ln (f*v).natAbs<=1000000/\ln (u*p-f*v).natAbs<=1000000:=by
 have J:=jV u p;have O:=jV f v;have S:=acp (u*p) (f*v);omega
theorem ahh{σ:Store}{nx bt br bb bf:Nat}{rb:List Nat}{D:TZ}{N:Nat}(h:DI σ bt br bb bf rb D N)(hs:Xg D N)(e6:∀b∈bt :: br :: bb :: bf :: rb,b<nx){r k:Nat}(hr:r<D.R.length)(hk:k<N)(hp:en D.R r k≠0)(h6:D.Bl≠0) :
  ∃σ' nx',ev ZK wI Am 157 [.rp bt 0,I r,I k] σ nx=some (.Bf [],σ',nx')/\DI σ' bt br bb bf rb (Gj D r k) N/\nx<=nx'/\∀b,b<nx->b≠bt->b≠bb->b∉rb->σ' b=σ b:=by
 obtain⟨n1,n2,n3,n4,n5,n6,n7,n8⟩:=nd4 h.nd;have hN:=hs.sz;have hR:=hs.Gv;obtain⟨Pz,f6⟩:=h.r;obtain⟨LX,k7⟩:=h.b;have f7:=h.t;have hlen:=h.len;have TN:=e6 bt (by simp);have TP:=e6 br (by simp);have k8:=e6 bb (by simp);have k9:=e6 bf (by simp);have E5:∀j (J:j<rb.length),rb[j]<nx:=fun j J=>e6 _ (by simp[zu J])
 have f8:r<rb.length:=by omega
 obtain⟨bR,Yn⟩:∃bR,bR=rb[r]:=⟨_,rfl⟩;have l2:bR<nx:=by rw[Yn];exact E5 r f8
 have nR:=n7 bR (by rw[Yn];exact zu f8);obtain⟨Lr,h7,i9,m5⟩:=h.row r f8;rw[<- Yn]at h7;have a0:∀j,j<D.R.length->(D8 D.R j).length=N+1:=fun j J=>by rw[dO J];exact hs.row _ (zu J)
 have Yo:Lr.length=N+1:=by have:=congrArg List.length i9;rw[zQ,a0 r hr]at this;exact this
 have ent:∀j c (J:j<D.R.length) (hc:c<N+1),(D8 D.R j)[c]'(by rw[a0 j J];exact hc)=en D.R j c:=fun j c J hc=>by
  unfold en;rw[zx,zy];rfl
 have e7:∀c (hc:c<N+1),(Lr[c]'(by omega)).1=en D.R r c:=fun c hc=>by
  obtain⟨_,e⟩:=QI i9 (c:=c) (by rw[a0 r hr];exact hc);rw[e,ent r c hr hc]
 have lz:∀c (hc:c<Lr.length),(Lr[c]).2=true->(Lr[c]).1=0:=fun c hc=>m5 _ (zu hc)
 have a1:=jC r;have a2:(r:Int)<(D.R.length:Int):=by omega
 have a3:=jC k;have a4:(k:Int)<((N+1:Nat):Int):=by omega
 have a5:=fQ (ex:=Pz) (n:=N+1) f8;rw[<- Yn]at a5;have a6:=cO (c:=zc) (s:=2) ZN Lr k (by omega);have a7:=bU (c:=zc) (s:=2) ZN Lr;rw[Yo]at a7;have a8:k*2+2<=(N+1)*2:=by omega
 obtain⟨sp,f9⟩:∃sp,sp=upd σ nx (some ⟨zc Lr[k],0,true⟩):=⟨_,rfl⟩;have c9:∀b,b<nx->sp b=σ b:=fun b hb=>by rw[f9,Zk]
 have j0:sp nx=some ⟨zc Lr[k],0,true⟩:=by rw[f9,Zi]
 have j1:=(c9 bt TN).trans f7;have j2:=(c9 br TP).trans f6;rw[mg [] [10,12,13] func157];simp only[go_sem,f7,f6,h7,a1,a2,a3,a4,a5,a6,a7,a8,ZN,Zh,<- f9,j1,j2];generalize hL:jI _ _=y;have P0:=gq D.R r k D.Bl
 obtain⟨x,rfl,T1,c5,qI,rfl,t0,E,G,t7,o0,d0,j3,JO⟩:=oZ hL D.R.length (fun i st=>st.T 0= .rp bt 0/\st.T 1=I r/\st.T 2=I k/\st.T 6= .rs bR 0 (N+1)/\st.T 7= .rp nx 0/\st.T 30= .rs br 0 D.R.length/\st.T 31=I D.R.length/\st.T 32=I i/\nx<st.nx/\st.σ nx=some ⟨zc Lr[k],0,true⟩/\st.σ bR=some ⟨Lr.flatMap zc,2,true⟩ /\
   (∀j (J:j<rb.length),Eu st.σ rb[j] (Gl D.R (BJ D.R r k D.Bl) i j))/\∀b,b<nx->b∉rb->st.σ b=σ b)
  (fun x=>∃T σ' nx',x=(.exit 0,⟨T,σ',nx'⟩)/\T 0= .rp bt 0/\T 1=I r/\T 2=I k/\T 7= .rp nx 0/\nx<nx'/\σ' nx=some ⟨zc Lr[k],0,true⟩/\(∀j (J:j<rb.length),Eu σ' rb[j] (D8 (BJ D.R r k D.Bl) j))/\∀b,b<nx->b∉rb->σ' b=σ b) (by
   clear hL;rintro i ⟨T,σ',nx'⟩ hi ⟨t0,E,G,t6,t7,S,O,Y,b3,sn,sR,rows,frame⟩;simp only at t0 E G t6 t7 S O Y b3 sn;have f1:(i:Int)<(D.R.length:Int):=by omega
   have f2:=jC i;have f3:=ZR (n:=(i:Int)+1);have b4:i<rb.length:=by omega
   obtain⟨bi,FC⟩:∃bi,bi=rb[i]:=⟨_,rfl⟩;have o5:bi<nx:=by rw[FC];exact E5 i b4
   have ni:=n7 bi (by rw[FC];exact zu b4);have f5:=fQ (ex:=Pz) (n:=N+1) b4;rw[<- FC]at f5;have g0:σ' br=_:=(frame br TP fun e=>(n7 br e).2.1 rfl).trans f6
   by_cases Yk:i=r
   .have c1:((i:Int)==(r:Int))=true:=by rw[Yk];simp
    refine .inl ⟨_,by simp only[go_sem,t0,E,G,t6,t7,S,O,Y,g0,f1,f2,f3,f5,c1];rfl,?_⟩;simp only[go_sem,t0,E,G,t6,t7,S,O];refine⟨rfl,b3,sn,sR,fun j J=>?_,frame⟩;have b9:=rows j J;unfold Gl at b9⊢
    by_cases c3:j<i
    .rw[sN c3]at b9
     rw[sN (by omega)];exact b9
    .rw[sO c3]at b9
     by_cases o6:j=i
     .rw[sN (by omega),acu (by omega),sN (by omega)]
      exact b9
     .rw[sO (by omega)]
      exact b9
   .have c1:((i:Int)==(r:Int))=false:=by rw[sJ];omega
    have j4:bi≠bR:=fun e=>Yk (by rw[FC,Yn]at e;exact(uP n8).mp e)
    obtain⟨Li,TS,G8,TT⟩:=rows i b4;have g8:σ' bi=some ⟨Li.flatMap zc,2,true⟩:=by rw[FC];exact TS
    have e8:Gl D.R (BJ D.R r k D.Bl) i i=D8 D.R i:=by unfold Gl;rw[sO (by omega)]
    rw[e8]at G8;have KZ:Li.length=N+1:=by have:=congrArg List.length G8;rw[zQ,a0 i hi]at this;exact this
    have h4:∀c (hc:c<N+1),(Li[c]'(by omega)).1=en D.R i c:=fun c hc=>by
     obtain⟨_,e⟩:=QI G8 (c:=c) (by rw[a0 i hi];exact hc);rw[e,ent i c hi hc]
    have iz:∀c (hc:c<Li.length),(Li[c]).2=true->(Li[c]).1=0:=fun c hc=>TT _ (zu hc)
    have b6:=cO (c:=zc) (s:=2) ZN Li k (by omega);have b7:=bU (c:=zc) (s:=2) ZN Li;rw[KZ]at b7;obtain⟨s6,h8⟩:∃s6,s6=upd σ' nx' (some ⟨zc Li[k],0,true⟩):=⟨_,rfl⟩;have c4:∀b,b<nx'->s6 b=σ' b:=fun b hb=>by rw[h8,Zk]
    have m6:s6 nx'=some ⟨zc Li[k],0,true⟩:=by rw[h8,Zi]
    obtain⟨W,eW⟩:∃W,W=EX (en D.R r k) (en D.R i k) D.Bl (D8 D.R i) (D8 D.R r):=⟨_,rfl⟩;have m7:W.length=N+1:=by rw[eW,aaT _ _ _ (by rw[a0 i hi,a0 r hr]),a0 i hi]
    have b2:W.length=Li.length:=by omega
    have h9:∀c (hc:c<N+1),W[c]'(by omega)=(en D.R i c*en D.R r k-en D.R i k*en D.R r c).tdiv D.Bl:=fun c hc=>by
     subst eW;rw[aaU _ _ _ (by rw[a0 i hi];exact hc) (by rw[a0 r hr];exact hc),ent i c hi hc,ent r c hr hc]
    refine bC ?_
    conv=>
     enter [1,r,1,1]
     simp only[go_sem,t0,E,G,t6,t7,S,O,Y,g0,f1,f2,f5,c1,g8,a3,a4,a8,b6,b7,Zh,<- h8]
    generalize hL:jI _ _=z
    obtain⟨x,rfl,T1,σ2,CG,rfl,t0,E,G,t6,t7,S,O,Y,o7,Ed,FX⟩:=oZ hL (N+1) (fun c st=>st.T 0= .rp bt 0/\st.T 1=I r/\st.T 2=I k/\st.T 6= .rs bR 0 (N+1)/\st.T 7= .rp nx 0/\st.T 30= .rs br 0 D.R.length/\st.T 31=I D.R.length/\st.T 32=I i/\st.T 9= .rs bi 0 (N+1)/\st.T 10= .rp nx' 0/\st.T 45=I ((N+1:Nat):Int)/\st.T 46=I c/\nx'<st.nx /\
      (∀b,b<=nx'->b≠bi->st.σ b=s6 b)/\st.σ bi=some ⟨(newR W Li c).flatMap zc,2,true⟩)
     (fun x=>∃T PD j5,x=(.exit 2,⟨T,PD,j5⟩)/\T 0= .rp bt 0/\T 1=I r/\T 2=I k/\T 6= .rs bR 0 (N+1)/\T 7= .rp nx 0/\T 30= .rs br 0 D.R.length/\T 31=I D.R.length/\T 32=I i/\nx'<j5/\(∀b,b<=nx'->b≠bi->PD b=s6 b)/\Eu PD bi W) (by
      clear hL;rintro c ⟨T,σ2,m0⟩ hc ⟨t0,E,G,t6,t7,S,O,Y,t9,c0,b5,c7,b8,Ed,FX⟩;simp only at t0 E G t6 t7 S O Y t9 c0 b5 c7 b8 FX;have g1:(c:Int)<((N+1:Nat):Int):=by omega
      have g2:=jC c;have g3:=ZR (n:=(c:Int)+1);have g4:=cO (c:=zc) (s:=2) ZN (newR W Li c) c (by rw[jB b2 (by omega)];omega);rw[Xn b2 (by omega)]at g4;have g5:=bU (c:=zc) (s:=2) ZN (newR W Li c);rw[jB b2 (by omega),KZ]at g5;have g6:c*2+2<=(N+1)*2:=by omega
      have g7:=cO (c:=zc) (s:=2) ZN Lr c (by omega);have z1:∀σ d,stripL (strip σ d) (zc Li[c])=some (cZ (en D.R i c),[]):=fun σ d=>by rw[ZM σ d (iz c (by omega)),h4 c (by omega)]
      have z2:∀σ d,stripL (strip σ d) (zc Lr[k])=some (cZ (en D.R r k),[]):=fun σ d=>by rw[ZM σ d (lz k (by omega)),e7 k (by omega)]
      have z3:∀σ d,stripL (strip σ d) (zc Li[k])=some (cZ (en D.R i k),[]):=fun σ d=>by rw[ZM σ d (iz k (by omega)),h4 k (by omega)]
      have z4:∀σ d,stripL (strip σ d) (zc Lr[c])=some (cZ (en D.R r c),[]):=fun σ d=>by rw[ZM σ d (lz c (by omega)),e7 c (by omega)]
      have e1:σ2 bt=_:=(Ed bt (by omega) (yu ni.1)).trans ((c4 bt (by omega)).trans ((frame bt TN fun e=>(n7 bt e).1 rfl).trans f7));have e3:σ2 nx=_:=(Ed nx (by omega) (by omega)).trans ((c4 nx (by omega)).trans sn);have e4:σ2 nx'=_:=(Ed nx' (zq _) (by omega)).trans m6;have e5:σ2 bR=_:=(Ed bR (by omega) (yu j4)).trans ((c4 bR (by omega)).trans sR);have d1:¬bt=m0:=by omega
      have d3:¬nx=m0:=by omega
      have d4:¬nx'=m0:=by omega
      have d5:¬bR=m0:=by omega
      have d6:¬bi=m0:=by omega
      have l1:bt<m0+1:=by omega
      have l3:nx<m0+1:=by omega
      have l4:nx'<m0+1:=by omega
      have l5:bR<m0+1:=by omega
      have l6:bi<m0+1:=by omega
      have l7:m0<m0+1:=by omega
      have l8:bi<m0:=by omega
      have l9:nx<m0:=by omega
      have i0:nx'<m0:=by omega
      have i1:bR<m0:=by omega
      have i2:bt<m0:=by omega
      have u1:=hs.big i c (by omega) (by omega);have u2:=hs.big r k hr (by omega);have u3:=hs.big i k (by omega) (by omega);have u4:=hs.big r c hr (by omega);obtain⟨v1,v2,v3⟩:=ahg (u:=en D.R i c) (p:=en D.R r k) (f:=en D.R i k) (v:=en D.R r c) u1 u2 u3 u4;have k1:=kN (en D.R i c) (en D.R r k) (by omega) (by omega);have k2:=kD (en D.R i k);have k3:=kD (en D.R r c);have k4:=kN (en D.R i k) (en D.R r c) (by omega) (by omega);have k5:=ab1 (en D.R i c*en D.R r k) (en D.R i k*en D.R r c) v1 v2;have s2:=TL (en D.R i k);have s3:=TL (en D.R r c);have p0:=hs.Bl;have fin:∀y:Int,y=W[c]'(by omega)->patch ((newR W Li c).flatMap zc) (c*2) (cZ y)=(newR W Li (c+1)).flatMap zc:=fun y hy=>by
       rw[<- acs,iC ZN _ _ (by rw[jB b2 (by omega)];omega),hy,N8 b2 (by omega)]
      have wv:=h9 c hc
      by_cases i3:en D.R i k=0
      .rw[sH i3,uz]at s2
       have k6:fn ZK wI Am 185 [.agg (cZ (en D.R i c*en D.R r k)),.agg [Bo (decide (D.Bl<0)),LI (dg D.Bl.natAbs)]]=_:=NV (en D.R i c*en D.R r k) D.Bl v1 (by omega) h6;have c6:=fin ((en D.R i c*en D.R r k).tdiv D.Bl) (by rw[wv,i3,Int.zero_mul,Int.sub_zero]);refine .inl ⟨_,by simp only[go_sem,t0,E,G,t6,t7,t9,c0,b5,c7,FX,e1,e3,e4,e5,a3,a4,a8,g1,g2,g3,g4,g5,g6,g7,z1,z2,z3,z4,d1,d3,d4,d5,d6,l1,l3,l4,l5,l6,l7,l8,l9,i0,i1,i2,k1,k2,s2,k6,c6,Zh];rfl,?_⟩;simp only[go_sem,t0,E,G,t6,t7,S,O,Y,t9,c0,b5];refine⟨rfl,by omega,fun b hb a9=>?_⟩;rw[Zj _ _ a9,Zk];exact Ed b hb a9
      .rw[sG i3,vZ]at s2
       by_cases i4:en D.R r c=0
       .rw[sH i4,uz]at s3
        have k6:fn ZK wI Am 185 [.agg (cZ (en D.R i c*en D.R r k)),.agg [Bo (decide (D.Bl<0)),LI (dg D.Bl.natAbs)]]=_:=NV (en D.R i c*en D.R r k) D.Bl v1 (by omega) h6;have c6:=fin ((en D.R i c*en D.R r k).tdiv D.Bl) (by rw[wv,i4,vT,Int.sub_zero]);refine .inl ⟨_,by simp only[go_sem,t0,E,G,t6,t7,t9,c0,b5,c7,FX,e1,e3,e4,e5,a3,a4,a7,a8,g1,g2,g3,g4,g5,g6,g7,z1,z2,z3,z4,d1,d3,d4,d5,d6,l1,l3,l4,l5,l6,l7,l8,l9,i0,i1,i2,k1,k2,s2,k3,s3,k6,c6,Zh];rfl,?_⟩;simp only[go_sem,t0,E,G,t6,t7,S,O,Y,t9,c0,b5];refine⟨rfl,by omega,fun b hb a9=>?_⟩;rw[Zj _ _ a9,Zk];exact Ed b hb a9
       .rw[sG i4,vZ]at s3
        have k6:fn ZK wI Am 185 [.agg (cZ (en D.R i c*en D.R r k-en D.R i k*en D.R r c)),.agg [Bo (decide (D.Bl<0)),LI (dg D.Bl.natAbs)]]=_:=NV (en D.R i c*en D.R r k-en D.R i k*en D.R r c) D.Bl v3 (by omega) h6;have c6:=fin ((en D.R i c*en D.R r k-en D.R i k*en D.R r c).tdiv D.Bl) wv.symm;refine .inl ⟨_,by simp only[go_sem,t0,E,G,t6,t7,t9,c0,b5,c7,FX,e1,e3,e4,e5,a3,a4,a7,a8,g1,g2,g3,g4,g5,g6,g7,z1,z2,z3,z4,d1,d3,d4,d5,d6,l1,l3,l4,l5,l6,l7,l8,l9,i0,i1,i2,k1,k2,s2,k3,s3,k4,k5,k6,c6,Zh];rfl,?_⟩;simp only[go_sem,t0,E,G,t6,t7,S,O,Y,t9,c0,b5];refine⟨rfl,by omega,fun b hb a9=>?_⟩;rw[Zj _ _ a9,Zk];exact Ed b hb a9) (by
      clear hL;rintro ⟨T,σ2,m0⟩ ⟨t0,E,G,t6,t7,S,O,Y,t9,c0,b5,c7,b8,Ed,FX⟩;simp only at t0 E G t6 t7 S O Y t9 c0 b5 c7 b8 FX;refine⟨_,by simp only[go_sem,b5,c7,zi];rfl,by simp,_,_,_,rfl,?_⟩;simp only[go_sem,t0,E,G,t6,t7,S,O,Y];exact⟨b8,Ed,Xo b2 (by rw[KZ];exact FX)⟩) (by
      simp only[go_sem,t0,E,G,t6,t7,S,O,Y];refine⟨by omega,fun _ _ _=>trivial,?_⟩;rw[JM,c4 bi (by omega)];exact g8)
    refine⟨_,by simp only[go_sem,Y,f3];rfl,.inl ⟨_,rfl,?_⟩⟩;simp only[go_sem,t0,E,G,t6,t7,S,O];refine⟨rfl,by omega,?_,?_,fun j J=>?_,fun b hb hn=>?_⟩
    .exact(Ed nx (by omega) (by omega)).trans ((c4 nx (by omega)).trans sn)
    .exact(Ed bR (by omega) (yu j4)).trans ((c4 bR (by omega)).trans sR)
    .by_cases c3:j=i
     .subst c3
      rw[<- FC];unfold Gl;rw[sN (by omega),acu (by omega),sO Yk,<- eW];exact FX
     .have a9:rb[j]≠bi:=fun e=>c3 (by rw[FC]at e;exact(uP n8).mp e)
      have:=E5 j J;have e2:Gl D.R (BJ D.R r k D.Bl) (i+1) j=Gl D.R (BJ D.R r k D.Bl) i j:=by
       unfold Gl
       by_cases hq:j<i
       .rw[sN hq,sN (by omega)]
       .rw[sO hq,sO (by omega)]
      rw[e2];exact(rows j J).congr ((Ed _ (by omega) a9).trans (c4 _ (by omega)))
    .exact(Ed b (by omega) fun e=>hn (by rw[e,FC];exact zu b4)).trans ((c4 b (by omega)).trans (frame b hb hn))) (by
   clear hL;rintro ⟨T,σ',nx'⟩ ⟨t0,E,G,t6,t7,S,O,Y,b3,sn,sR,rows,frame⟩;simp only at t0 E G t6 t7 S O Y b3 sn;refine⟨_,by simp only[go_sem,O,Y,zi];rfl,by simp,_,_,_,rfl,?_⟩;simp only[go_sem,t0,E,G,t7];refine⟨b3,sn,fun j J=>?_,frame⟩;have:=rows j J;unfold Gl at this;rw[sN (by omega)]at this;exact this) (by
   simp only[go_sem];refine⟨by omega,j0,(c9 bR l2).trans h7,fun j J=>?_,fun b hb _=>c9 b hb⟩;unfold Gl;rw[sO (by omega)];exact(h.row j J).congr (c9 _ (E5 j J)))
 have m8:zc Lr[k]=cZ (en D.R r k):=by
  have e1:=e7 k (by omega);have e2:=lz k (by omega);generalize Lr[k]=q at e1 e2;obtain⟨z,b⟩:=q;simp only at e1 e2;subst e1;cases b with
  |false=>rfl
  |true=>exact absurd (e2 rfl) hp
 rw[m8]at d0;obtain⟨p,ep⟩:∃p,p=en D.R r k:=⟨_,rfl⟩;rw[<- ep]at d0 hp;have e1:c5 bt=_:=(JO bt TN fun e=>(n7 bt e).1 rfl).trans f7;have e2:c5 bb=_:=(JO bb k8 fun e=>(n7 bb e).2.2.1 rfl).trans k7;have e3:c5 br=_:=(JO br TP fun e=>(n7 br e).2.1 rfl).trans f6;have e4:c5 bf=_:=(JO bf k9 fun e=>(n7 bf e).2.2.2 rfl).trans h.f;have hB:(Ce D.B).length=D.R.length:=by rw[aA];exact hs.Bz
 have m1:r<((Ce D.B).flatMap cI++LX).length:=by rw[zo,qM];omega
 have m2:((Ce D.B).flatMap cI++LX).set r (I k)=(Ce (D.B.set r k)).flatMap cI++LX:=by
  rw[List.set_append_left _ _ (by rw[qM];omega),qL];unfold Ce;rw[List.map_set]
 have m3:∀a b c d e f:V,patch [a,b,c,d,e,f] 1 (cZ p)=[a,Bo (decide (p<0)),LI (dg p.natAbs),d,e,f]:=fun _ _ _ _ _ _=>rfl
 have m4:∀a b c d e f:V,patch [a,b,c,d,e,f] 1 (cZ (-p))=[a,Bo (decide (-p<0)),LI (dg (-p).natAbs),d,e,f]:=fun _ _ _ _ _ _=>rfl
 have d1:¬bt=nx:=by omega
 have d2:¬bb=nx:=by omega
 have d3:¬nx=bt:=by omega
 have d4:¬nx=bb:=by omega
 have d5:¬bb=bt:=fun e=>n2 e.symm
 have d6:¬bt=bb:=n2;have d7:¬br=bt:=fun e=>n1 e.symm
 have d8:¬br=bb:=n4;have k1:=kD p;obtain⟨s1,d9⟩:∃s1,s1=upd (upd c5 bt (some ⟨[.rs br 0 D.R.length,Bo (decide (p<0)),LI (dg p.natAbs),.rs bb 0 D.R.length,I N,.rs bf 0 N],0,true⟩)) bb (some ⟨(Ce (D.B.set r k)).flatMap cI++LX,1,true⟩):=⟨_,rfl⟩;have j6:s1 bt=some ⟨[.rs br 0 D.R.length,Bo (decide (p<0)),LI (dg p.natAbs),.rs bb 0 D.R.length,I N,.rs bf 0 N],0,true⟩:=by rw[d9,Zj _ _ d6,Zi]
 have c8:∀b,b≠bt->b≠bb->s1 b=c5 b:=fun b h1 h2=>by rw[d9,Zj _ _ h2,Zj _ _ h1]
 have j7:s1 bb=some ⟨(Ce (D.B.set r k)).flatMap cI++LX,1,true⟩:=by rw[d9,Zi]
 have i5:s1 nx=some ⟨cZ p,0,true⟩:=(c8 nx d3 d4).trans d0;have j8:s1 br=_:=(c8 br d7 d8).trans e3;have j9:∀j (J:j<rb.length),s1 rb[j]=c5 rb[j]:=fun j J=>by
  have:=n7 rb[j] (zu J);exact c8 _ this.1 this.2.2.1
 have pz:Gj D r k=if 0<p then ⟨BJ D.R r k D.Bl,p,D.B.set r k,D.fr⟩else ⟨negR (BJ D.R r k D.Bl),-p,D.B.set r k,D.fr⟩:=by unfold Gj;rw[ep]
 by_cases h5:0<p
 .have c1:Az p 0=1:=by unfold Az;rw[sO (by omega),sO (by omega)]
  rw[c1]at k1;have c2:(0:Int)<1:=by decide
  refine⟨s1,qI,by simp only[go_sem,t0,E,G,t7,e1,e2,d0,a1,a2,m1,m2,m3,d1,d2,d3,d4,d5,d6,k1,c2,<- d9,i5],?_,by omega,fun b hb h1 h2 h3=>by rw[c8 b h1 h2];exact JO b hb h3⟩;rw[pz,sN h5];have pl:(BJ D.R r k D.Bl).length=D.R.length:=P0;refine⟨by show s1 bt=some ⟨[.rs br 0 (BJ D.R r k D.Bl).length,_,_,.rs bb 0 (BJ D.R r k D.Bl).length,_,_],0,true⟩;rw[pl];exact j6,⟨Pz,j8⟩,fun j J=>(j3 j J).congr (j9 j J),⟨LX,j7⟩,?_,by show rb.length=(BJ D.R r k D.Bl).length;omega,h.nd⟩;rw[c8 bf (yu n3) (yu n6)];exact e4
 .have c1:Az p 0= -1:=by unfold Az;rw[sN (by omega)]
  rw[c1]at k1;have c2:¬(0:Int)< -1:=by decide
  have k2:=kE p;obtain⟨s2,g9⟩:∃s2,s2=upd s1 bt (some ⟨[.rs br 0 D.R.length,Bo (decide (-p<0)),LI (dg (-p).natAbs),.rs bb 0 D.R.length,I N,.rs bf 0 N],0,true⟩):=⟨_,rfl⟩;have k0:s2 bt=some ⟨[.rs br 0 D.R.length,Bo (decide (-p<0)),LI (dg (-p).natAbs),.rs bb 0 D.R.length,I N,.rs bf 0 N],0,true⟩:=by rw[g9,Zi]
  have e9:∀b,b≠bt->s2 b=s1 b:=fun b h1=>by rw[g9,Zj _ _ h1]
  have i6:s2 br=_:=(e9 br d7).trans j8;have pl:(BJ D.R r k D.Bl).length=D.R.length:=P0;have m9:∀x∈BJ D.R r k D.Bl,x.length=N+1:=NM hs.row hr _;have nl:(negR (BJ D.R r k D.Bl)).length=D.R.length:=by rw[NJ,pl]
  have i7:∀j,j<D.R.length->(D8 (BJ D.R r k D.Bl) j).length=N+1:=fun j J=>by rw[dO (by omega)];exact m9 _ (zu (by omega))
  have n0:∀j,j<D.R.length->D8 (negR (BJ D.R r k D.Bl)) j=(D8 (BJ D.R r k D.Bl) j).map fun z=> -z:=fun j J=>by
   rw[dO (by omega),dO (by omega)];unfold negR;rw[xZ]
  have n9:∀b,b<nx->b≠bt->b≠bb->b∉rb->s2 b=σ b:=fun b h0 h1 h2 h3=>by rw[e9 b h1,c8 b h1 h2];exact JO b h0 h3
  rw[<- and_true (∃σ' nx',_)];refine⟨?_,trivial⟩;simp only[go_sem,t0,E,G,t7,e1,e2,d0,a1,a2,m1,m2,m3,d1,d2,d3,d4,d5,d6,k1,c2,<- d9,i5,j6,k2,m4,<- g9,k0,i6];clear k1 k2 m3 m4 d9 g9 d0 e1 e2 e3 i5 j0 c9 f9 t0 E G t7 j1 j2 a5 a6 a7;generalize hL:jI _ _=y;obtain⟨x,rfl,T2,σ2,rfl,EI,N9⟩:=oZ hL D.R.length (fun i st=>st.T 107= .rs br 0 D.R.length/\st.T 108=I D.R.length/\st.T 109=I i/\st.nx=qI/\(∀j (J:j<rb.length),Eu st.σ rb[j] (Gl (BJ D.R r k D.Bl) (negR (BJ D.R r k D.Bl)) i j))/\∀b,b∉rb->st.σ b=s2 b)
   (fun x=>∃T σ',x=(.exit 4,⟨T,σ',qI⟩)/\(∀j (J:j<rb.length),Eu σ' rb[j] (D8 (negR (BJ D.R r k D.Bl)) j))/\∀b,b∉rb->σ' b=s2 b) (by
    clear hL;rintro i ⟨T,σ',nx'⟩ hi ⟨t0,E,G,b3,rows,frame⟩;simp only at t0 E G b3;subst b3;have f1:(i:Int)<(D.R.length:Int):=by omega
    have f2:=jC i;have f3:=ZR (n:=(i:Int)+1);have b4:i<rb.length:=by omega
    obtain⟨bi,FC⟩:∃bi,bi=rb[i]:=⟨_,rfl⟩;have ni:=n7 bi (by rw[FC];exact zu b4);have f5:=fQ (ex:=Pz) (n:=N+1) b4;rw[<- FC]at f5;have g0:σ' br=_:=(frame br fun e=>(n7 br e).2.1 rfl).trans i6;obtain⟨Li,TS,G8,TT⟩:=rows i b4;have g8:σ' bi=some ⟨Li.flatMap zc,2,true⟩:=by rw[FC];exact TS
    have e8:Gl (BJ D.R r k D.Bl) (negR (BJ D.R r k D.Bl)) i i=D8 (BJ D.R r k D.Bl) i:=by unfold Gl;rw[sO (by omega)]
    rw[e8]at G8;have KZ:Li.length=N+1:=by have:=congrArg List.length G8;rw[zQ,i7 i hi]at this;exact this
    have iz:∀c (hc:c<Li.length),(Li[c]).2=true->(Li[c]).1=0:=fun c hc=>TT _ (zu hc)
    obtain⟨W,eW⟩:∃W,W=(D8 (BJ D.R r k D.Bl) i).map fun z=> -z:=⟨_,rfl⟩
    have m7:W.length=N+1:=by rw[eW,zQ,i7 i hi]
    have b2:W.length=Li.length:=by omega
    have h9:∀c (hc:c<N+1),W[c]'(by omega)= -(Li[c]'(by omega)).1:=fun c hc=>by
     subst eW;obtain⟨_,e⟩:=QI G8 (c:=c) (by rw[i7 i hi];exact hc);rw[xZ,e]
    refine bC ?_
    conv=>
     enter [1,r,1,1]
     simp only[go_sem,t0,E,G,g0,f1,f2,f5]
    generalize hL:jI _ _=z
    obtain⟨x,rfl,T1,σ2,rfl,t0,E,G,Ed,FX⟩:=oZ hL (N+1) (fun c st=>st.T 107= .rs br 0 D.R.length/\st.T 108=I D.R.length/\st.T 109=I i/\st.T 14= .rs bi 0 (N+1)/\st.T 114=I ((N+1:Nat):Int)/\st.T 115=I c/\st.nx=nx' /\
      (∀b,b≠bi->st.σ b=σ' b)/\st.σ bi=some ⟨(newR W Li c).flatMap zc,2,true⟩)
     (fun x=>∃T PD,x=(.exit 6,⟨T,PD,nx'⟩)/\T 107= .rs br 0 D.R.length/\T 108=I D.R.length/\T 109=I i/\(∀b,b≠bi->PD b=σ' b)/\Eu PD bi W) (by
      clear hL;rintro c ⟨T,σ2,m0⟩ hc ⟨t0,E,G,f0,e0,f4,b8,Ed,FX⟩;simp only at t0 E G f0 e0 f4 b8 FX;subst b8;have g1:(c:Int)<((N+1:Nat):Int):=by omega
      have g2:=jC c;have g3:=ZR (n:=(c:Int)+1);have g4:=cO (c:=zc) (s:=2) ZN (newR W Li c) c (by rw[jB b2 (by omega)];omega);rw[Xn b2 (by omega)]at g4;have g5:=bU (c:=zc) (s:=2) ZN (newR W Li c);rw[jB b2 (by omega),KZ]at g5;have g6:c*2+2<=(N+1)*2:=by omega
      have z1:∀σ d,stripL (strip σ d) (zc Li[c])=some (cZ (Li[c]).1,[]):=fun σ d=>ZM σ d (iz c (by omega))
      have k1:=kE (Li[c]).1;have c6:patch ((newR W Li c).flatMap zc) (c*2) (cZ (-(Li[c]).1))=(newR W Li (c+1)).flatMap zc:=by
       rw[<- acs,iC ZN _ _ (by rw[jB b2 (by omega)];omega),<- h9 c hc,N8 b2 (by omega)]
      refine .inl ⟨_,by simp only[go_sem,t0,E,G,f0,e0,f4,FX,g1,g2,g3,g4,g5,g6,z1,k1,c6];rfl,?_⟩;simp only[go_sem,t0,E,G,f0,e0];refine⟨rfl,fun b a9=>?_⟩;rw[Zj _ _ a9];exact Ed b a9) (by
      clear hL;rintro ⟨T,σ2,m0⟩ ⟨t0,E,G,f0,e0,f4,b8,Ed,FX⟩;simp only at t0 E G f0 e0 f4 b8 FX;subst b8;refine⟨_,by simp only[go_sem,e0,f4,zi];rfl,by simp,_,_,rfl,?_⟩;simp only[go_sem,t0,E,G];exact⟨Ed,Xo b2 (by rw[KZ];exact FX)⟩) (by
      simp only[go_sem,t0,E,G];refine⟨fun _ _=>trivial,?_⟩;rw[JM];exact g8)
    refine⟨_,by simp only[go_sem,G,f3];rfl,.inl ⟨_,rfl,?_⟩⟩;simp only[go_sem,t0,E];refine⟨rfl,fun j J=>?_,fun b hn=>?_⟩
    .by_cases c3:j=i
     .subst c3
      rw[<- FC];unfold Gl;rw[sN (by omega),n0 j (by omega),<- eW];exact FX
     .have a9:rb[j]≠bi:=fun e=>c3 (by rw[FC]at e;exact(uP n8).mp e)
      have e2:Gl (BJ D.R r k D.Bl) (negR (BJ D.R r k D.Bl)) (i+1) j=Gl (BJ D.R r k D.Bl) (negR (BJ D.R r k D.Bl)) i j:=by
       unfold Gl
       by_cases hq:j<i
       .rw[sN hq,sN (by omega)]
       .rw[sO hq,sO (by omega)]
      rw[e2];exact(rows j J).congr (Ed _ a9)
    .exact(Ed b fun e=>hn (by rw[e,FC];exact zu b4)).trans (frame b hn)) (by
    clear hL;rintro ⟨T,σ',nx'⟩ ⟨t0,E,G,b3,rows,frame⟩;simp only at t0 E G b3;subst b3;refine⟨_,by simp only[go_sem,E,G,zi];rfl,by simp,_,_,rfl,fun j J=>?_,frame⟩;have:=rows j J;unfold Gl at this;rw[sN (by omega)]at this;exact this) (by
    simp only[go_sem];refine⟨fun j J=>?_,fun _ _=>trivial⟩;unfold Gl;rw[sO (by omega)];exact(j3 j J).congr ((e9 _ (n7 _ (zu J)).1).trans (j9 j J)))
  refine⟨σ2,qI,by simp only[go_sem],?_,by omega,fun b hb h1 h2 h3=>by rw[N9 b h3];exact n9 b hb h1 h2 h3⟩;rw[pz,sO h5];have o1:bt∉rb:=fun e=>(n7 bt e).1 rfl
  have o2:br∉rb:=fun e=>(n7 br e).2.1 rfl
  have o3:bb∉rb:=fun e=>(n7 bb e).2.2.1 rfl
  have o4:bf∉rb:=fun e=>(n7 bf e).2.2.2 rfl
  refine⟨by show σ2 bt=some ⟨[.rs br 0 (negR (BJ D.R r k D.Bl)).length,_,_,.rs bb 0 (negR (BJ D.R r k D.Bl)).length,_,_],0,true⟩;rw[nl,N9 bt o1];exact k0,⟨Pz,by rw[N9 br o2];exact i6⟩,EI,⟨LX,by rw[N9 bb o3,e9 bb d5];exact j7⟩,?_,by show rb.length=(negR (BJ D.R r k D.Bl)).length;omega,h.nd⟩;rw[N9 bf o4,e9 bf (yu n3),c8 bf (yu n3) (yu n6)];exact e4
theorem ay{f:V->Option (V×List Nat)}:∀ {a b E b':List V} {i j:List Nat},stripL f a=some (E,i)->stripL f b=some (b',j)->stripL f (a++b)=some (E++b',i++j)
 |[],b,E,b',i,j,h,h'=>by
  rw[aX]at h;simp only[sS,sQ]at h;obtain⟨rfl,rfl⟩:=h;exact h'
 |v :: a,b,E,b',i,j,h,h'=>by
  rw[ak]at h;cases G:f v with
  |none=>rw[G]at h;cases h
  |some p=>
   cases ha:stripL f a with
   |none=>rw[G,ha]at h;cases h
   |some q=>
    rw[G,ha]at h;simp only[zk,zG,sS,sQ]at h;obtain⟨rfl,rfl⟩:=h;rw[yS,ak,G,ay ha h'];simp
theorem Xp(σ:Store)(d:Nat):∀L:List (Int×Bool),(∀p∈L,p.2=true->p.1=0)->stripL (strip σ d) (L.flatMap zc)=some ((L.map (·.1)).flatMap cZ,[])
 |[],_=>rfl
 |p :: L,h=>by
  rw[zJ,uK,zJ];have:=ay (ZM σ d (h p zL)) (Xp σ d L fun q E=>h q (zY _ E));exact this
theorem aeI{σ:Store}{b n:Nat}{G:List Int}(h:Eu σ b G)(J:G.length=n)(d:Nat):strip σ (d+1) (.rs b 0 n)=some (LL cZ G,[b]):=by
 obtain⟨L,Y,O,h3⟩:=h;have S:L.length=n:=by rw[<- J,<- O,zQ]
 have E:=bU (c:=zc) (s:=2) ZN L;rw[aQ,Y];simp only[zk,yY,yZ];rw[sN (by rw[E,S];exact zq _),zl (by rw[E,S];exact zq _),Xp σ d L h3,O];show some (V.ts _ n,[b])=_;rw[<- J]
theorem N_{σ:Store}{n d:Nat}:∀ {rb:List Nat} {R:List (List Int)},rb.length=R.length->(∀i (h:i<rb.length),Eu σ rb[i] (D8 R i))->(∀x∈R,x.length=n)->∃ids,stripL (strip σ (d+1)) (rb.map fun b=>V.rs b 0 n)=some (R.flatMap aaQ,ids)
 |[],[],_,_,_=>⟨[],rfl⟩
 |[],_ :: _,h,_,_=>by simp at h
 |_ :: _,[],h,_,_=>by simp at h
 |b :: rb,x :: R,h,hr,hn=>by
  obtain⟨ids,hi⟩:=N_ (rb:=rb) (R:=R) (d:=d) (by simpa using h) (fun i hi=>by
   have:=hr (i+1) (by simpa using hi);exact this) fun y E=>hn y (zY _ E)
  have G:Eu σ b x:=hr 0 (by simp);refine⟨[b]++ids,?_⟩;rw[uK,ak,aeI G (hn x zL) d];simp only[zk];rw[hi];rfl
theorem ahk(σ:Store)(d:Nat)(E:List Bool):stripL (strip σ d) (E.flatMap Hw)=some (E.flatMap Hw,[]) :=
 aW (fun b=>by rw[ak,aP,aX];rfl) E
def acv:=bU (c:=Hw) (s:=1) (fun _=>rfl)
theorem QJ{σ:Store}{bt br bb bf:Nat}{rb:List Nat}{D:TZ}{N:Nat}(h:DI σ bt br bb bf rb D N)(hs:Xg D N):∃ids,strip σ 7 (.rp bt 0)=some (ahc D N,ids):=by
 obtain⟨Pz,G⟩:=h.r;obtain⟨LX,J⟩:=h.b;obtain⟨ids,E⟩:=N_ (d:=4) h.len h.row hs.row;have O:(Ce D.B).length=D.R.length:=by rw[aA];exact hs.Bz
 have Y:strip σ 6 (.rs br 0 D.R.length)=some (LL aaQ D.R,br :: ids):=by
  rw[aQ,G];simp only[zk,yO,yY,yZ];rw[sN (by rw[zo,zQ,h.len];omega),wP (by rw[zQ,h.len]),E];rfl
 have s2:strip σ 6 (.rs bb 0 D.R.length)=some (LI (Ce D.B),[bb]):=by
  rw[aQ,J];simp only[zk,yO,yY,yZ];rw[sN (by rw[zo,qM,O];omega),wP (by rw[qM,O]),Dn,<- O];rfl
 have S:(D.fr.flatMap Hw).length=N:=by rw[acv,yO,hs.Xh]
 have s3:strip σ 6 (.rs bf 0 N)=some (LL Hw D.fr,[bf]):=by
  rw[aQ,h.f];simp only[zk,yO,yY,yZ];rw[sN (by rw[S];exact zq _),zl (by rw[S];exact zq _),ahk];show some (V.ts _ N,[bf])=_;rw[<- hs.Xh]
 have key:stripL (strip σ 6) [.rs br 0 D.R.length,Bo (decide (D.Bl<0)),LI (dg D.Bl.natAbs),.rs bb 0 D.R.length,I N,.rs bf 0 N]=some (Xf D N,(br :: ids)++([]++([]++([bb]++([]++([bf]++[])))))):=by
  simp only[ak,Y,s2,s3,aP,aK,aX,zG,zk];rfl
 exact⟨_,by rw[M_,h.t,zk,key];rfl⟩
theorem KF{σ:Store}{bt br bb bf:Nat}{rb:List Nat}{D:TZ}{N:Nat}(h:DI σ bt br bb bf rb D N)(hs:Xg D N)(d:Nat):strip σ (d+1) (.rs bb 0 D.R.length)=some (LI (Ce D.B),[bb]):=by
 obtain⟨J,E⟩:=h.b;have G:(Ce D.B).length=D.R.length:=by rw[aA];exact hs.Bz
 rw[aQ,E];simp only[zk,yO,yY,yZ];rw[sN (by rw[zo,qM,G];omega),wP (by rw[qM,G]),Dn,<- G];rfl
theorem ax1(xs:List Int)(m:Int)(h:xs.length<=1000000):fn ZK conv ext 69 [LI xs,I m]=some (I (ix (fun x=>m==x) xs)):=by
 rw[m_,mg [.tmp 4] [] func69];simp only[go_sem];generalize Y:jI _ _=y;obtain⟨r,rfl,hr⟩:=oZ Y xs.length (fun k st=>st.T 0=LI xs/\st.T 1=I m/\st.T 7=I xs.length/\st.T 8=I k/\∀i (h:i<xs.length),i<k->(m==xs[i])=false)
  (fun r=>(∃T σ nx,r=(.exit 0,⟨T,σ,nx⟩)/\ix (fun x=>m==x) xs= -1)\/(∃T σ nx,r=(.ret,⟨T,σ,nx⟩)/\T 4=I (ix (fun x=>m==x) xs))) (by
   clear Y;rintro k ⟨T,σ,nx⟩ E ⟨O,S,G,J,hi⟩;simp only at O S G J;have f1:(k:Int)<(xs.length:Int):=by omega
   have f2:=jC k;have f3:=ZR (n:=(k:Int)+1);have f5:=Bg xs k E;have f6:=idx E;cases hp:(m==xs[k])with
   |true=>
    refine .inr ⟨_,by simp only[go_sem,O,S,G,J,f1,f2,f5,f6,hp];rfl,by simp,.inr ⟨_,_,_,rfl,?_⟩⟩;simp only[go_sem];rw[jr E hi hp]
   |false=>
    refine .inl ⟨_,by simp only[go_sem,O,S,G,J,f1,f2,f3,f5,f6,hp];rfl,?_⟩;simp only[go_sem,O,S,G];exact⟨rfl,jo E hi hp⟩) (by
   clear Y;rintro ⟨T,σ,nx⟩ ⟨O,S,G,J,hi⟩;simp only at G J;exact⟨_,by simp only[go_sem,G,J,zi];rfl,by simp,.inl ⟨_,_,_,rfl,jq fun i h=>hi i h h⟩⟩) (by
   simp only[go_sem];exact fun i _ h=>absurd h (zU _))
 rcases hr with ⟨T,σ,nx,rfl,hx⟩|⟨T,σ,nx,rfl,hx⟩
 .simp only[go_sem,hx]
 .simp only[go_sem,hx]
theorem aoJ(xs:List Int)(m:Int)(h:xs.length<=1000000):fn ZK conv ext 35 [LI xs,I m]=some (Bo (decide (m∈xs))):=by
 have E:=ax1 xs m h;have e:decide (0<=ix (fun x=>m==x) xs)=decide (m∈xs):=by
  rw[decide_eq_decide];constructor
  .intro J
   refine zh fun hn=>?_
   have:=(Ky (fun x=>m==x) xs).mpr fun x G=>by
    rw[sJ];intro e;subst e;exact hn G
   omega
  .intro hm
   refine Int.not_lt.mp fun hn=>?_
   have:=(Ky (fun x=>m==x) xs).mp hn m hm;simp at this
 rw[m_,mg [.tmp 4] [] func35]
 by_cases hc:0<=ix (fun x=>m==x) xs
 .rw[sH hc]at e
  simp only[go_sem,E,hc,<- e]
 .rw[sG hc]at e
  simp only[go_sem,E,hc,<- e]
theorem LY{B:List Nat}{k:Nat}:(k:Int)∈Ce B↔k∈B:=by
 unfold Ce;rw[List.mem_map];constructor
 .rintro ⟨j,E,e⟩
  have:j=k:=by omega
  subst this;exact E
 .intro h;exact⟨k,h,rfl⟩
def EF(D:TZ)(o:Nat->Int)(j:Nat):Bool:=D.fr.getD j false && !(!decide (j∈D.B) && decide (BI D o j<0))
def PE(D:TZ)(o:Nat->Int)(k:Nat):List Bool:=(List.range D.fr.length).map fun j=>if j<k then EF D o j else D.fr.getD j false
theorem lV(D:TZ)(o:Nat->Int)(k:Nat):(PE D o k).length=D.fr.length:=by simp[PE]
theorem lW(D:TZ)(o:Nat->Int){k j:Nat}(h:j<D.fr.length):(PE D o k)[j]'(by rw[lV];exact h)=if j<k then EF D o j else D.fr.getD j false:=by
 simp[PE]
theorem ahl(D:TZ)(o:Nat->Int):PE D o 0=D.fr:=by
 apply yR
 .rw[lV]
 .intro i G E
  rw[lW D o E,sO (by omega),zx,zy E];rfl
theorem acw(D:TZ)(o:Nat->Int){k:Nat}(h:k<D.fr.length):(PE D o k).set k (EF D o k)=PE D o (k+1):=by
 apply yR
 .rw[yP,lV,lV]
 .intro i J E
  rw[lV]at E;rw[wG,lW D o E,lW D o E]
  by_cases e:k=i
  .subst e;rw[sN rfl,sN (by omega)]
  .rw[sO e]
   by_cases G:i<k
   .rw[sN G,sN (by omega)]
   .rw[sO G,sO (by omega)]
theorem ahm(D:TZ)(o:Nat->Int){k:Nat}(h:k<D.fr.length)(hb:EF D o k=D.fr.getD k false):PE D o k=PE D o (k+1):=by
 rw[<- acw D o h,hb];apply yR
 .rw[yP]
 .intro i E G
  rw[wG]
  split
  .rename_i e;subst e;rw[lW D o h,sO (by omega)]
  .rfl
theorem asv(D:TZ)(o:Nat->Int){N:Nat}(h:D.fr.length=N):frZ N o D (PE D o N):=by
 refine⟨lV D o N,fun j E=>?_⟩;have e:(PE D o N).getD j false=EF D o j:=by
  rw[zx,zy (by rw[lV];omega),xE,lW D o (by omega),sN E]
 rw[e];unfold EF;cases D.fr.getD j false with
 |false=>simp
 |true=>
  by_cases hb:j∈D.B<;>by_cases G:BI D o j<0<;>simp[hb,G]
theorem TU(xs:List Bool)(k:Nat)(b:Bool):(xs.flatMap Hw).set k (Bo b)=(xs.set k b).flatMap Hw:=by
 induction xs generalizing k with
 |nil=>rfl
 |cons x xs E=>
  cases k with
  |zero=>rfl
  |succ k=>
   show Bo x :: (xs.flatMap Hw).set k (Bo b)=Bo x :: (xs.set k b).flatMap Hw;rw[E]
theorem Xg.free{D:TZ}{N:Nat}(h:Xg D N){fr:List Bool}(E:fr.length=N):Xg { D with fr:=fr } N:=⟨h.row,h.Bz,h.Gv,E,h.sz,h.big,h.Bl,h.inB⟩
theorem DI.free{σ σ':Store}{bt br bb bf:Nat}{rb:List Nat}{D:TZ}{N:Nat}(h:DI σ bt br bb bf rb D N){fr:List Bool}(O:σ' bf=some ⟨fr.flatMap Hw,1,true⟩)(E:∀b,b≠bf->σ' b=σ b):DI σ' bt br bb bf rb { D with fr:=fr } N:=by
 obtain⟨n1,n2,S,n4,Y,n6,n7,n8⟩:=nd4 h.nd;obtain⟨Pz,G⟩:=h.r;obtain⟨LX,J⟩:=h.b;exact⟨(E bt S).trans h.t,⟨Pz,(E br Y).trans G⟩,fun i hi=>(h.row i hi).congr (E _ (n7 _ (zu hi)).2.2.2),⟨LX,(E bb n6).trans J⟩,O,h.len,h.nd⟩
theorem kF{σ:Store}{b:Nat}{xs:List Int}(h:σ b=some ⟨xs.flatMap cI,1,true⟩){n:Nat}(hn:xs.length=n)(d:Nat):strip σ (d+1) (.rs b 0 n)=some (LI xs,[b]):=by
 rw[aQ,h];simp only[zk,yO,yY,yZ,qM];rw[sN (by omega),zl (by rw[qM];omega),Dn];show some (V.ts _ n,[b])=_;rw[<- hn]
def Obj(o:List Int)(N:Nat):Prop:=o.length=N/\∀x∈o,-1000000<=x/\x<=1000000
abbrev oF(o:List Int)(j:Nat):Int:=o.getD j 0
theorem asw(Qp:TZ->Prop){N:Nat}{o:List Int}(hI:∀D,Qp D->Xg D N/\0<D.Bl)(c3:∀D D',Qp D->EY N (oF o) D D'->Qp D')(ho:Obj o N)
  {σ:Store} {nx bt br bb bf bo:Nat} {rb:List Nat} {D:TZ} {n:Nat} (d8:Qp D) (hn:IG N (oF o) n D) (h:DI σ bt br bb bf rb D N) (d9:∀b∈bt :: br :: bb :: bf :: rb,b<nx) (d1:σ bo=some ⟨o.flatMap cI,1,true⟩) (d2:bo<nx) (e0:bo∉bt :: br :: bb :: bf :: rb) :
  ∃σ' nx' d3 D',ev ZK wI Am 131 [.rp bt 0,.rs bo 0 N] σ nx=some (Bo d3,σ',nx')/\TD N (oF o) D d3 D'/\DI σ' bt br bb bf rb D' N/\nx<=nx'/\∀b,b<nx->b∉bt :: bb :: bf :: rb->σ' b=σ b:=by
 have c0:=ho.1;have c4:bo∉bt :: bb :: bf :: rb:=fun e=>e0 (by
  simp only[zX]at e⊢;rcases e with e|e|e|e<;>simp[e])
 rw[mg [.tmp 4] [] func131];simp only[go_sem];generalize hL:jI _ _=y
 obtain⟨x,rfl,hx⟩:=jP hL (fun m st=>st.T 0= .rp bt 0/\st.T 1= .rs bo 0 N/\nx<=st.nx/\(∀b,b<nx->b∉bt :: bb :: bf :: rb->st.σ b=σ b)/\∃D1,EZ N (oF o) D D1/\Qp D1/\DI st.σ bt br bb bf rb D1 N /\
   ((st.T 5=Bo true/\∃m',m=m'+1/\IG N (oF o) m' D1)\/(st.T 5=Bo false/\∀j,j<N->D1.fr.getD j false=true->j∉D1.B->¬0<BI D1 (oF o) j)))
  (fun x=>∃T σ' nx',nx<=nx'/\(∀b,b<nx->b∉bt :: bb :: bf :: rb->σ' b=σ b)/\∃D1,EZ N (oF o) D D1/\Qp D1/\DI σ' bt br bb bf rb D1 N /\
   ((x=(.ret,⟨T,σ',nx'⟩)/\T 4=Bo false/\∃s,IE N D1 (oF o) s/\∀i,i<D1.R.length->¬0<en D1.R i s)\/(x=(.exit 0,⟨T,σ',nx'⟩)/\T 0= .rp bt 0/\T 1= .rs bo 0 N/\∀j,j<N->D1.fr.getD j false=true->j∉D1.B->¬0<BI D1 (oF o) j))) (by
   clear hL;rintro m ⟨T,a0,qI⟩ ⟨t0,G,a1,fr,D1,hr,a8,hT,h5⟩;simp only at t0 G a1 hT h5;obtain⟨hS,d4⟩:=hI D1 a8;have a6:=hT.t;rcases h5 with ⟨t5,m',rfl,d5⟩|⟨t5,b6⟩
   .have hlen:=hT.len
    obtain⟨n1,n2,n3,n4,n5,n6,n7,n8⟩:=nd4 hT.nd;have e1:=hS.sz;have c5:a0 bo=_:=(fr bo d2 c4).trans d1;obtain⟨ids,b3⟩:=QJ hT hS;have a4:=KF hT hS 6;have b4:=kF c5 c0 6;have Yp:=hT.f;refine bC ?_
    conv=>
     enter [1,r,1,1]
     simp only[go_sem,t0,G,t5,a6]
    generalize hL:jI _ _=z;obtain⟨x,rfl,T1,σ2,CG,E,hx⟩:=oZ hL N (fun k st=>st.T 0= .rp bt 0/\st.T 1= .rs bo 0 N/\st.T 5=Bo false/\st.T 13=I N/\st.T 14=I k/\st.σ=a0/\st.nx=qI/\∀j,j<k->D1.fr.getD j false=true->j∉D1.B->¬0<BI D1 (oF o) j)
     (fun x=>∃T σ2 CG,qI<=CG/\((x=(.exit 2,⟨T,σ2,CG⟩)/\T 0= .rp bt 0/\T 1= .rs bo 0 N/\T 5=Bo false/\σ2=a0/\∀j,j<N->D1.fr.getD j false=true->j∉D1.B->¬0<BI D1 (oF o) j) \/
      (x=(.exit 2,⟨T,σ2,CG⟩)/\T 0= .rp bt 0/\T 1= .rs bo 0 N/\T 5=Bo true/\∃D2,EY N (oF o) D1 D2/\DI σ2 bt br bb bf rb D2 N/\∀b,b<qI->b∉bt :: bb :: bf :: rb->σ2 b=a0 b) \/
      (x=(.ret,⟨T,σ2,CG⟩)/\T 4=Bo false/\σ2=a0/\∃s,IE N D1 (oF o) s/\∀i,i<D1.R.length->¬0<en D1.R i s))) (by
      clear hL;rintro k ⟨T,σ2,CG⟩ hk ⟨t0,G,t5,J,a5,b7,E,a3⟩;simp only at t0 G t5 J a5 b7 E;subst b7 E;have f1:(k:Int)<(N:Int):=by omega
      have f2:=jC k;have f3:=ZR (n:=(k:Int)+1);have b5:k<D1.fr.length:=by rw[hS.Xh];exact hk
      have f4:=bg Bo D1.fr k b5;have a9:(D1.fr.flatMap Hw)[k]?=some (Bo (D1.fr.getD k false)):=by
       rw[zx,zy b5];exact f4
      have k1:=aoJ (Ce D1.B) k (by rw[aA,hS.Bz];have:=hS.Gv;omega);have k2:=amM D1 N hS o c0 ho.2 k hk;have step:∀(b8:¬(D1.fr.getD k false=true/\k∉D1.B/\0<BI D1 (oF o) k)),∀j,j<k+1->D1.fr.getD j false=true->j∉D1.B->¬0<BI D1 (oF o) j:=fun b8 j hj h1 h2 h3=>by
       by_cases e:j=k
       .subst e;exact b8 ⟨h1,h2,h3⟩
       .exact a3 j (by omega) h1 h2 h3
      cases S:D1.fr.getD k false with
      |false=>
       rw[S]at a9;refine .inl ⟨_,by simp only[go_sem,t0,G,t5,J,a5,a6,Yp,f1,f2,f3,a9];rfl,?_⟩;simp only[go_sem,t0,G,t5,J];exact⟨rfl,step fun h=>by rw[S]at h;cases h.1⟩
      |true=>
       rw[S]at a9
       by_cases hm:k∈D1.B
       .rw[sH (LY.mpr hm)]at k1
        refine .inl ⟨_,by simp only[go_sem,t0,G,t5,J,a5,a6,Yp,f1,f2,f3,a9,a4,k1];rfl,?_⟩;simp only[go_sem,t0,G,t5,J];exact⟨rfl,step fun h=>h.2.1 hm⟩
       .rw[sG (mt LY.mp hm)]at k1
        by_cases hg:0<BI D1 (oF o) k
        .have c1:¬Az (BI D1 (oF o) k) 0<=0:=fun e=>(pG _).mp e hg
         have b2:IE N D1 (oF o) k:=⟨hk,S,hm,hg,fun j hj=>a3 j hj⟩;obtain⟨r,k3,hb⟩:=ahd D1 N hS k hk;rcases hb with ⟨rfl,hb⟩|⟨r',rfl,d6,e2,e3,e4⟩
         .have c2:(-1:Int)<0:=by decide
          refine .inr ⟨_,by simp only[go_sem,t0,G,t5,J,a5,a6,Yp,f1,f2,f3,a9,a4,k1,b3,b4,k2,c1,k3,c2];rfl,by simp,_,_,_,zq _,.inr (.inr ⟨rfl,?_⟩)⟩;simp only[go_sem];exact⟨k,b2,hb⟩
         .have c2:¬(r':Int)<0:=by omega
          obtain⟨e8,AO,k4,Oa,e5,e6⟩:=ahh hT hS (fun b hb=>xK (d9 b hb) a1) d6 hk (by omega) (by omega);refine .inr ⟨_,by simp only[go_sem,qC,t0,G,t5,J,a5,a6,Yp,f1,f2,f3,a9,a4,k1,b3,b4,k2,c1,k3,c2,k4];rfl,by simp,_,_,_,e5,.inr (.inl ⟨rfl,?_⟩)⟩;simp only[go_sem,t0,G];refine⟨_,⟨k,r',b2,⟨d6,e2,fun i hi hp=>e3 i hi hp,fun i hi hp he=>e4 i hi hp he⟩,rfl⟩,Oa,fun b hb a2=>?_⟩;simp only[zX,not_or]at a2;exact e6 b hb a2.1 a2.2.1 a2.2.2.2
        .have c1:Az (BI D1 (oF o) k) 0<=0:=(pG _).mpr hg
         refine .inl ⟨_,by simp only[go_sem,t0,G,t5,J,a5,a6,Yp,f1,f2,f3,a9,a4,k1,b3,b4,k2,c1];rfl,?_⟩;simp only[go_sem,t0,G,t5,J];exact⟨rfl,step fun h=>hg h.2.2⟩) (by
      clear hL;rintro ⟨T,σ2,CG⟩ ⟨t0,G,t5,J,a5,b7,E,a3⟩;simp only at t0 G t5 J a5 b7 E;subst b7 E;refine⟨_,by simp only[go_sem,J,a5,zi];rfl,by simp,_,_,_,zq _,.inl ⟨rfl,?_⟩⟩;simp only[go_sem,t0,G,t5];exact a3) (by
      simp only[go_sem,t0,G];exact fun j hj=>absurd hj (zU j))
    rcases hx with ⟨rfl,t0,G,t5,rfl,a3⟩|⟨rfl,t0,G,t5,D2,c8,b9,c9⟩|⟨rfl,t4,rfl,Gt⟩
    .refine⟨_,by simp only[go_sem],.inl ⟨⟨T1,_,CG⟩,rfl,m',by omega,t0,G,zT a1 E,fr,D1,hr,a8,hT,.inr ⟨t5,a3⟩⟩⟩
    .cases m' with
     |zero=>exact absurd d5 id
     |succ d7=>
      refine⟨_,by simp only[go_sem],.inl ⟨⟨T1,_,CG⟩,rfl,d7+1,by omega,t0,G,zT a1 E,fun b hb a2=>?_,D2,hr.tail c8,c3 _ _ a8 c8,b9,.inl ⟨t5,d7,rfl,d5 D2 c8⟩⟩⟩;exact(c9 b (xK hb a1) a2).trans (fr b hb a2)
    .refine⟨_,by simp only[go_sem],.inr ⟨by simp,_,_,CG,zT a1 E,fr,D1,hr,a8,hT,.inl ⟨rfl,t4,Gt⟩⟩⟩
   .refine .inr ⟨_,by simp only[go_sem,t5];rfl,by simp,_,a0,qI,a1,fr,D1,hr,a8,hT,.inr ⟨rfl,?_⟩⟩
    simp only[go_sem,t0,G];exact b6) (n+1) (by
   simp only[go_sem];exact⟨fun _ _ _=>trivial,D,EZ.refl D,d8,h,.inl ⟨n,rfl,hn⟩⟩)
 obtain⟨T1,a0,qI,a1,fr,D1,hr,a8,hT,hx⟩:=hx;obtain⟨hS,d4⟩:=hI D1 a8;rcases hx with ⟨rfl,t4,s,b2,Gt⟩|⟨rfl,t0,G,b6⟩
 .exact⟨a0,qI,false,D1,by simp only[go_sem,t4],⟨D1,hr,.inr ⟨rfl,rfl,s,b2,Gt⟩⟩,hT,a1,fr⟩
 .have a6:=hT.t
  have hlen:=hT.len;obtain⟨n1,n2,n3,n4,n5,n6,n7,n8⟩:=nd4 hT.nd;have e1:=hS.sz;simp only[go_sem,t0,a6];generalize hL:jI _ _=z;obtain⟨x,rfl,T2,σ2,rfl,c9,Y⟩:=oZ hL N (fun k st=>st.T 0= .rp bt 0/\st.T 1= .rs bo 0 N/\st.T 53=I N/\st.T 54=I k/\st.nx=qI/\st.σ bf=some ⟨(PE D1 (oF o) k).flatMap Hw,1,true⟩/\∀b,b≠bf->st.σ b=a0 b)
   (fun x=>∃T σ2,x=(.exit 4,⟨T,σ2,qI⟩)/\σ2 bf=some ⟨(PE D1 (oF o) N).flatMap Hw,1,true⟩/\∀b,b≠bf->σ2 b=a0 b) (by
    clear hL;rintro k ⟨T,σ2,CG⟩ hk ⟨t0,G,O,a7,E,Yp,Y⟩;simp only at t0 G O a7 E Yp;subst E;have hl:(PE D1 (oF o) k).length=N:=by rw[lV];exact hS.Xh
    have b9:=hT.free Yp Y;have d0:=hS.free hl;have Ob:=b9.t;obtain⟨ids,b3⟩:=QJ b9 d0;have a4:=KF b9 d0 6;have c5:σ2 bo=_:=(Y bo fun e=>c4 (by simp[e])).trans ((fr bo d2 c4).trans d1);have b4:=kF c5 c0 6;have f1:(k:Int)<(N:Int):=by omega
    have f2:=jC k;have f3:=ZR (n:=(k:Int)+1);have b5:k<D1.fr.length:=by rw[hS.Xh];exact hk
    have f4:((PE D1 (oF o) k).flatMap Hw)[k]?=some (Bo (D1.fr.getD k false)):=by
     rw[bg Bo (PE D1 (oF o) k) k (by omega),lW _ _ b5,sO (by omega)]
    have f5:k<((PE D1 (oF o) k).flatMap Hw).length:=by rw[acv,hl];omega
    have k1:=aoJ (Ce D1.B) k (by rw[aA,hS.Bz];have:=hS.Gv;omega);have k2:=amM _ N d0 o c0 ho.2 k hk;have eg:BI { D1 with fr:=PE D1 (oF o) k } (fun j=>o.getD j 0) k=BI D1 (oF o) k:=rfl;rw[eg]at k2;simp only at Ob a4;have keep:EF D1 (oF o) k=D1.fr.getD k false->σ2 bf=some ⟨(PE D1 (oF o) (k+1)).flatMap Hw,1,true⟩:=fun h=>by rw[<- ahm _ _ b5 h];exact Yp
    cases S:D1.fr.getD k false with
    |false=>
     rw[S]at f4;refine .inl ⟨_,by simp only[go_sem,t0,G,O,a7,Ob,Yp,f1,f2,f3,f4];rfl,?_⟩;simp only[go_sem,t0,G,O];exact⟨rfl,keep (by unfold EF;rw[S];rfl),Y⟩
    |true=>
     rw[S]at f4
     by_cases hm:k∈D1.B
     .rw[sH (LY.mpr hm)]at k1
      refine .inl ⟨_,by simp only[go_sem,t0,G,O,a7,Ob,Yp,f1,f2,f3,f4,a4,k1];rfl,?_⟩;simp only[go_sem,t0,G,O];exact⟨rfl,keep (by unfold EF;rw[S,sH hm];rfl),Y⟩
     .rw[sG (mt LY.mp hm)]at k1
      by_cases hg:BI D1 (oF o) k<0
      .have c1:Az (BI D1 (oF o) k) 0<0:=(cmp_neg _).mpr hg
       have c6:=TU (PE D1 (oF o) k) k false;have c7:=acw D1 (oF o) b5;have e7:EF D1 (oF o) k=false:=by unfold EF;rw[S,sG hm,sH hg];rfl
       rw[e7]at c7;rw[c7]at c6;refine .inl ⟨_,by simp only[go_sem,t0,G,O,a7,Ob,Yp,f1,f2,f3,f4,f5,a4,k1,b3,b4,k2,c1,c6];rfl,?_⟩;simp only[go_sem,t0,G,O];refine⟨rfl,fun b hb=>?_⟩;rw[Zj _ _ hb];exact Y b hb
      .have c1:¬Az (BI D1 (oF o) k) 0<0:=fun e=>hg ((cmp_neg _).mp e)
       refine .inl ⟨_,by simp only[go_sem,t0,G,O,a7,Ob,Yp,f1,f2,f3,f4,a4,k1,b3,b4,k2,c1];rfl,?_⟩;simp only[go_sem,t0,G,O];exact⟨rfl,keep (by unfold EF;rw[S,sG hm,sG hg];rfl),Y⟩) (by
    clear hL;rintro ⟨T,σ2,CG⟩ ⟨t0,G,O,a7,E,Yp,Y⟩;simp only at t0 G O a7 E Yp;subst E;exact⟨_,by simp only[go_sem,O,a7,zi];rfl,by simp,_,_,rfl,Yp,Y⟩) (by
    simp only[go_sem,t0,G];refine⟨?_,fun _ _=>trivial⟩;rw[ahl];exact hT.f)
  refine⟨σ2,qI,true,_,by simp only[go_sem],⟨D1,hr,.inl ⟨rfl,b6,PE D1 (oF o) N,asv _ _ hS.Xh,rfl⟩⟩,hT.free c9 Y,a1,fun b hb a2=>?_⟩;rw[Y b fun e=>a2 (by simp[e])];exact fr b hb a2
section
variable {P:Program} {conv:FuncId->Conv} {call:TV.Call} (d:Option Tmp) (ty:TypeId) (ps:String) (af:Array Edge) (gd:Option (Nat×Bool)) (T:Nat->V) (σ:Store) (nx:Nat)
theorem aaV(t:TypeId)(x:Operand)(lo hi E:Option Operand):Af conv T σ ⟨d,.slice t x lo hi E,ty,ps,af,gd⟩=Aa (val T x):=rfl
theorem ak8(t:TypeId)(x:Operand)(lo hi E:Option Operand):writer conv ⟨d,.slice t x lo hi E,ty,ps,af,gd⟩=false:=rfl
theorem lg(s x:Operand)(ts:Array TypeId):Af conv T σ ⟨d,.call ⟨.builtin .append,#[s,x],ts⟩,ty,ps,af,gd⟩=Aa (val T s)++Aa (val T x):=by
 show([val T s,val T x].flatMap Aa)=_;simp only[zJ,w_,zC]
theorem Nj(s x:Operand)(ts:Array TypeId):writer conv ⟨d,.call ⟨.builtin .append,#[s,x],ts⟩,ty,ps,af,gd⟩=true:=rfl
def TW(P:Program)(σ:Store)(nx:Nat)(t:TypeId)(lo hi E:Option V):V->Option V
 | .rs b off len=>if b<nx then AX P t (.rs b off len) lo hi E σ else none
 |v=>if((Aa v).all fun b=>decide (b<nx))=true then AX P t v lo hi E (restrict σ (Aa v))else none
theorem aeJ(t:TypeId)(x:Operand)(lo hi E:Option Operand):Aq P conv call ⟨d,.slice t x lo hi E,ty,ps,af,gd⟩ T σ nx=(TW P σ nx t (lo.map (val T)) (hi.map (val T)) (E.map (val T)) (val T x)).map (·,σ,nx):=by
 rw[nN (F:=Aa (val T x)) T σ nx rfl (fun _=>rfl)];show(if((Aa (val T x)).all fun b=>decide (b<nx))=true then match(AX P t (val T x) (lo.map (val T)) (hi.map (val T)) (E.map (val T)) (restrict σ (Aa (val T x)))).map (·,restrict σ (Aa (val T x)),nx)with|some (v,σ1,qI)=>some (v,zI (Aa (val T x)) nx qI σ σ1,qI)|none=>none else none)=_;generalize val T x=v;have gen:(if((Aa v).all fun b=>decide (b<nx))=true then match(AX P t v (lo.map (val T)) (hi.map (val T)) (E.map (val T)) (restrict σ (Aa v))).map (·,restrict σ (Aa v),nx)with|some (w,σ1,qI)=>some (w,zI (Aa v) nx qI σ σ1,qI)|none=>none else none)=(if((Aa v).all fun b=>decide (b<nx))=true then AX P t v (lo.map (val T)) (hi.map (val T)) (E.map (val T)) (restrict σ (Aa v))else none).map (·,σ,nx):=by
  split
  .cases AX P t v (lo.map (val T)) (hi.map (val T)) (E.map (val T)) (restrict σ (Aa v))with
   |none=>rfl
   |some w=>simp only[zG,iH]
  .rfl
 rw[gen];cases v with
 |rs b off len=>
  have key:AX P t (.rs b off len) (lo.map (val T)) (hi.map (val T)) (E.map (val T)) (restrict σ [b])=AX P t (.rs b off len) (lo.map (val T)) (hi.map (val T)) (E.map (val T)) σ:=by
   unfold AX restrict;simp
  simp only[Aa,vO,vU,uJ,decide_eq_true_eq,TW,key]
 |_=>rfl
theorem aeK(t:TypeId)(lo hi E:Option V)(b off len:Nat):TW P σ nx t lo hi E (.rs b off len)=if b<nx then AX P t (.rs b off len) lo hi E σ else none:=rfl
def aoN(F:List Nat)(σ:Store)(nx:Nat):J6->J6
 |some (v,σ1,qI)=>some (v,zI F nx qI σ σ1,qI)
 |none=>none
theorem aeL(F:List Nat)(v:V)(E:Store)(G:Nat):aoN F σ nx (some (v,E,G))=some (v,zI F nx G σ E,G):=rfl
theorem iV(s x:Operand)(t u:TypeId):Aq P conv call ⟨d,.call ⟨.builtin .append,#[s,x],#[t,u]⟩,ty,ps,af,gd⟩ T σ nx=
  if((Aa (val T s)++Aa (val T x)).all fun b=>decide (b<nx))=true then aoN (Aa (val T s)++Aa (val T x)) σ nx (DN P #[t,u] (val T s) (val T x) (restrict σ (Aa (val T s)++Aa (val T x))) nx)else none:=by
 rw[nN (F:=Aa (val T s)++Aa (val T x)) T σ nx (by
  show some ([val T s,val T x].flatMap Aa)=_;simp only[zJ,w_,zC]) (fun _=>rfl)]
 rfl
end
attribute [go_sem] aaV ak8 lg Nj aeJ aeK iV aeL vg
theorem fE(σ:Store)(b:Nat):restrict σ [b,b] b=σ b:=by unfold restrict;simp
theorem PG(σ:Store)(b nx:Nat)(x:Option Fj):zI [b,b] nx nx σ (upd (restrict σ [b,b]) b x)=upd σ b x:=by
 funext i;unfold zI upd restrict
 by_cases h:i=b
 .simp[h]
 .rw[sO (by simp only[zX,zH,or_false,or_self,h,false_or];omega),sO h]
theorem fG(σ:Store)(b:Nat):restrict σ [b] b=σ b:=by unfold restrict;simp
theorem qy(σ:Store)(nx size bytes b off len:Nat)(row:List V)(m:Nat):Aj σ nx size bytes (.rs b off len) row m=(σ b).bind fun B=>if m=0 then some (.rs b off len,σ,nx)else
      if off+(len+m)*size<=B.cells.length then
    if B.wr=true/\B.st=size/\row.all vI=true then some (.rs b off (len+m),upd σ b (some { B with cells:=patch B.cells (off+len*size) row }),nx)else none
      else if off+len*size=B.cells.length/\B.st=size/\len+m<=maxLen/\(len+m)*bytes<=140737488355328/\row.all vI=true then
    some (.rs nx 0 (len+m),upd (upd σ b none) nx (some ⟨B.cells.drop off++row,size,B.wr⟩),nx+1)
      else none:=by
 cases h:σ b with
 |none=>simp only[Aj,h];rfl
 |some B=>simp only[Aj,h];rfl
theorem aaW(σ:Store)(b nx:Nat):zI [b] nx nx σ (restrict σ [b])=σ:=by
 funext i;unfold zI restrict
 by_cases h:i=b
 .simp[h]
 .rw[sO (by simp only[xY,h,false_or];omega)]
theorem Xq(σ:Store)(nx size bytes b off len:Nat)(row:List V){B:Fj}(h:σ b=some B):Aj σ nx size bytes (.rs b off len) row 0=some (.rs b off len,σ,nx):=by
 unfold Aj;simp only[h,if_true]
theorem aoO{σ:Store}{nx bytes b len m:Nat}{row cells:List V}(h:σ b=some ⟨cells,1,true⟩)(hm:m≠0)(G:len+m<=cells.length)(E:row.all vI=true) :
  Aj σ nx 1 bytes (.rs b 0 len) row m=some (.rs b 0 (len+m),upd σ b (some ⟨patch cells len row,1,true⟩),nx):=by
 unfold Aj;simp only[h];rw[sO hm,sN (by omega),sN ⟨by trivial,by trivial,E⟩];simp
attribute [go_sem] fE fG qy PG aaW
theorem iE(L ex:List V){i m:Nat}(hm:L.length=m)(hi:i<m)(J:m - (i+1)≠0):∃E,patch (L++ex) i (L.drop (i+1))=L.eraseIdx i++E:=by
 have G:(L.drop (i+1)).length=m - (i+1):=by rw[zN,hm]
 rw[iF _ _ _ (by rw[G,zo,hm];omega)];refine⟨(L++ex).drop (i+(m - (i+1))),?_⟩;rw[G,uT (by omega),uf]
theorem Oc(L ex:List V){i:Nat}(h:i+1=L.length):∃E,L++ex=L.eraseIdx i++E:=by
 refine⟨L.drop i++ex,?_⟩;rw[uf,xk (l:=L) (i:=i+1) (by omega),zC,<- yh,uj]
theorem jK{α β:Type}(f:α->β)(l:List α)(i:Nat):(l.map f).eraseIdx i=(l.eraseIdx i).map f:=by
 induction l generalizing i with
 |nil=>rfl
 |cons a l E=>cases i with
  |zero=>rfl
  |succ i=>show f a :: (l.map f).eraseIdx i=_;rw[E];rfl
def QK(D:TZ)(i:Nat):TZ:={ D with R:=D.R.eraseIdx i,B:=D.B.eraseIdx i }
theorem DI.dropped{σ σ':Store}{bt br bb bf:Nat}{rb:List Nat}{D:TZ}{N i:Nat}(h:DI σ bt br bb bf rb D N)(hi:i<D.R.length)(a0:D.B.length=D.R.length)
  (ht:σ' bt=some ⟨[.rs br 0 (D.R.length-1),Bo (decide (D.Bl<0)),LI (dg D.Bl.natAbs),.rs bb 0 (D.R.length-1),I N,.rs bf 0 N],0,true⟩)
  (E:∃ex,σ' br=some ⟨(rb.map (fun b=>V.rs b 0 (N+1))).eraseIdx i++ex,1,true⟩) (hb:∃ex,σ' bb=some ⟨((Ce D.B).flatMap cI).eraseIdx i++ex,1,true⟩) (Y:∀b,b≠bt->b≠br->b≠bb->σ' b=σ b) :
  DI σ' bt br bb bf (rb.eraseIdx i) (QK D i) N:=by
 obtain⟨n1,n2,n3,n4,n5,n6,n7,n8⟩:=nd4 h.nd;have hl:(D.R.eraseIdx i).length=D.R.length-1:=yN hi;have hlen:=h.len;obtain⟨G,E⟩:=E;obtain⟨J,hb⟩:=hb;refine⟨?_,⟨G,?_⟩,fun j O=>?_,⟨J,?_⟩,?_,?_,?_⟩
 .show σ' bt=some ⟨[.rs br 0 (D.R.eraseIdx i).length,_,_,.rs bb 0 (D.R.eraseIdx i).length,_,_],0,true⟩
  rw[hl];exact ht
 .rw[E,jK]
 .have a1:j<rb.length-1:=by rw[yN (by omega)]at O;exact O
  have e:D8 (D.R.eraseIdx i) j=D8 D.R (if j<i then j else j+1):=by
   unfold D8;rw[lC]
  show Eu σ' (rb.eraseIdx i)[j] (D8 (D.R.eraseIdx i) j);have S:(if j<i then j else j+1)<rb.length:=by split<;>omega
  have e2:(rb.eraseIdx i)[j]=rb[if j<i then j else j+1]:=by
   have:(rb.eraseIdx i)[j]?=rb[if j<i then j else j+1]?:=by
    rw[List.getElem?_eraseIdx];split<;>rfl
   rw[zy O,zy S]at this;exact Option.some.inj this
  rw[e,e2];have hn:=n7 _ (zu S);exact(h.row _ S).congr (Y _ hn.1 hn.2.1 hn.2.2.1)
 .rw[hb]
  have:((Ce D.B).flatMap cI).eraseIdx i=(Ce (D.B.eraseIdx i)).flatMap cI:=by
   have e1:∀xs:List Int,xs.flatMap cI=xs.map I:=fun xs=>by
    induction xs with
    |nil=>rfl
    |cons x xs ih=>rw[zJ,ih];rfl
   rw[e1,e1,jK];unfold Ce;rw[jK]
  rw[this];rfl
 .rw[Y bf (yu n3) (yu n5) (yu n6)];exact h.f
 .show(rb.eraseIdx i).length=(D.R.eraseIdx i).length
  rw[hl,yN (by omega),hlen]
 .exact h.nd.sublist ((((sZ rb i).cons_cons bf).cons_cons bb).cons_cons br|>.cons_cons bt)
theorem aoP(Qp:TZ->Prop){N n:Nat}(hQ:∀D,Qp D->Xg D N/\0<D.Bl)(d6:n<=N)(h1:∀D i k,Qp D->i<D.R.length->n<=D.B.getD i 0->k<n->en D.R i k≠0->Qp (Gj D i k))
  (h2:∀D i,Qp D->i<D.R.length->n<=D.B.getD i 0->(∀k,k<n->en D.R i k=0)->Qp (QK D i))
  {σ:Store} {nx bt br bb bf:Nat} {rb:List Nat} {D:TZ} (hD:Qp D) (h:DI σ bt br bb bf rb D N) (c5:∀b∈bt :: br :: bb :: bf :: rb,b<nx) :
  ∃σ' nx' Hy D',ev ZK wI Am 154 [.rp bt 0,I n] σ nx=some (.Bf [],σ',nx')/\DI σ' bt br bb bf Hy D' N/\nx<=nx'/\Qp D'/\(∀i,i<D'.R.length->D'.B.getD i 0<n)/\Hy.Sublist rb/\∀b,b<nx->b∉bt :: br :: bb :: rb->σ' b=σ b:=by
 rw[mg [] [10,11] func154];simp only[go_sem];generalize hL:jI _ _=y;obtain⟨x,rfl,T',σ',nx',Hy,D',rfl,hT,a0,c6,b4,G,a3⟩:=jP hL (fun m st=>st.T 0= .rp bt 0/\st.T 1=I n/\nx<=st.nx/\∃i Hy D',st.T 4=I ((i:Nat):Int)/\m+i=D'.R.length/\DI st.σ bt br bb bf Hy D' N/\Qp D'/\(∀j,j<i->D'.B.getD j 0<n)/\Hy.Sublist rb/\∀b,b<nx->b∉bt :: br :: bb :: rb->st.σ b=σ b)
  (fun x=>∃T σ' nx' Hy D',x=(.exit 0,⟨T,σ',nx'⟩)/\DI σ' bt br bb bf Hy D' N/\nx<=nx'/\Qp D'/\(∀i,i<D'.R.length->D'.B.getD i 0<n)/\Hy.Sublist rb/\∀b,b<nx->b∉bt :: br :: bb :: rb->σ' b=σ b) (by
   clear hL;rintro m ⟨T,a1,qI⟩ ⟨t0,O,a0,i,S,D1,Y,d7,hT,U0,a2,G,a3⟩;simp only at t0 O Y a0 hT;obtain⟨hS,d5⟩:=hQ D1 U0;have a4:=hT.t;have hR:=hS.Gv;have hlen:=hT.len;obtain⟨Pz,a6⟩:=hT.r;obtain⟨LX,a7⟩:=hT.b;have hB:(Ce D1.B).length=D1.R.length:=by rw[aA];exact hS.Bz
   have a5:∀b∈bt :: br :: bb :: bf :: S,b<qI:=fun b hb=>by
    refine xK (c5 b ?_) a0;simp only[zX]at hb⊢;rcases hb with h|h|h|h|h
    .exact .inl h
    .exact .inr (.inl h)
    .exact .inr (.inr (.inl h))
    .exact .inr (.inr (.inr (.inl h)))
    .exact .inr (.inr (.inr (.inr (G.subset h))))
   obtain⟨n1,n2,n3,n4,n5,n6,n7,n8⟩:=nd4 hT.nd
   by_cases hi:i<D1.R.length
   .have f1:(i:Int)<(D1.R.length:Int):=by omega
    have f2:=jC i;have f3:=ZR (n:=(i:Int)+1);have f4:((Ce D1.B).flatMap cI++LX)[i]?=some (I ((D1.B.getD i 0:Nat):Int)):=by
     rw[zV (by rw[qM];omega),idx (by omega),aB (by have:=hS.Bz;omega)]
    by_cases hb:D1.B.getD i 0<n
    .have f5:((D1.B.getD i 0:Nat):Int)<(n:Int):=by omega
     refine .inl ⟨_,by simp only[go_sem,t0,O,Y,a4,a7,f1,f2,f3,f4,f5];rfl,m-1,by omega,?_⟩;simp only[go_sem,t0,O];refine⟨a0,i+1,S,D1,rfl,by omega,hT,U0,fun j hj=>?_,G,a3⟩
     by_cases e:j=i
     .subst e;exact hb
     .exact a2 j (by omega)
    .have f5:¬((D1.B.getD i 0:Nat):Int)<(n:Int):=by omega
     have b5:i<S.length:=by omega
     have f6:=fQ (ex:=Pz) (n:=N+1) b5;obtain⟨bi,FC⟩:∃bi,bi=S[i]:=⟨_,rfl⟩;rw[<- FC]at f6;obtain⟨Li,TS,G8,TT⟩:=hT.row i b5;have b6:a1 bi=some ⟨Li.flatMap zc,2,true⟩:=by rw[FC];exact TS
     have rl:(D8 D1.R i).length=N+1:=by rw[dO hi];exact hS.row _ (zu hi)
     have KZ:Li.length=N+1:=by have:=congrArg List.length G8;rw[zQ,rl]at this;exact this
     have b7:=bU (c:=zc) (s:=2) ZN Li;rw[KZ]at b7;refine bC ?_
     conv=>
      enter [1,r,1,1]
      simp only[go_sem,t0,O,Y,a4,a7,f1,f2,f4,f5]
     generalize hL:jI _ _=z;obtain⟨x,rfl,T1,k,rfl,t0,O,Y,t5,d8,hz,b8⟩:=jP hL (fun q st=>st.T 0= .rp bt 0/\st.T 1=I n/\st.T 4=I i/\st.σ=a1/\st.nx=qI/\∃k,st.T 5=I ((k:Nat):Int)/\q+k=n/\∀j,j<k->en D1.R i j=0)
      (fun x=>∃T k,x=(.exit 2,⟨T,a1,qI⟩)/\T 0= .rp bt 0/\T 1=I n/\T 4=I i/\T 5=I ((k:Nat):Int)/\k<=n/\(∀j,j<k->en D1.R i j=0)/\(k<n->en D1.R i k≠0)) (by
       clear hL;rintro q ⟨T,σ2,CG⟩ ⟨t0,O,Y,b9,c0,k,t5,d9,hz⟩;simp only at t0 O Y t5 b9 c0;subst b9 c0
       by_cases hk:k<n
       .have g1:(k:Int)<(n:Int):=by omega
        have g2:=jC k;have e0:=hS.sz;have g3:=ZR (n:=(k:Int)+1);have g4:=cO (c:=zc) (s:=2) ZN Li k (by omega);have g5:k*2+2<=(N+1)*2:=by omega
        have g6:(k:Int)<((N+1:Nat):Int):=by omega
        obtain⟨hq,e⟩:=QI G8 (c:=k) (by rw[rl];omega);have e2:(D8 D1.R i)[k]'(by rw[rl];omega)=en D1.R i k:=by
         unfold en;rw[zx,zy];rfl
        have z1:∀σ d,stripL (strip σ d) (zc Li[k])=some (cZ (en D1.R i k),[]):=fun σ d=>by
         rw[ZM σ d (TT _ (zu hq)),e,e2]
        have k1:=kD (en D1.R i k);have c1:=NZ (en D1.R i k)
        by_cases a9:en D1.R i k=0
        .rw[sH a9]at c1
         refine .inl ⟨_,by simp only[go_sem,t0,O,Y,t5,a4,a6,b6,f1,f2,f6,g1,g2,g3,g4,g5,g6,b7,z1,k1,c1];rfl,q-1,by omega,?_⟩;simp only[go_sem,t0,O,Y];refine⟨k+1,rfl,by omega,fun j hj=>?_⟩
         by_cases e:j=k
         .subst e;exact a9
         .exact hz j (by omega)
        .rw[sG a9]at c1
         refine .inr ⟨_,by simp only[go_sem,t0,O,Y,t5,a4,a6,b6,f1,f2,f6,g1,g2,g3,g4,g5,g6,b7,z1,k1,c1];rfl,by simp,_,k,rfl,?_⟩;simp only[go_sem,t0,O,Y,t5];exact⟨by omega,hz,fun _=>a9⟩
       .have g1:¬(k:Int)<(n:Int):=by omega
        refine .inr ⟨_,by simp only[go_sem,O,t5,g1];rfl,by simp,_,k,rfl,?_⟩;simp only[go_sem,t0,O,Y,t5];exact⟨by omega,hz,fun h=>absurd h hk⟩) n (by
       simp only[go_sem,t0,O,Y];exact⟨0,rfl,by omega,fun j hj=>absurd hj (zU j)⟩)
     by_cases hk:k<n
     .have g1:(k:Int)<(n:Int):=by omega
      obtain⟨e3,AO,k4,Oa,e4,c7⟩:=ahh hT hS a5 hi (by omega) (b8 hk) (by omega);have b2:=h1 D1 i k U0 hi (by omega) hk (b8 hk);have b3:(Gj D1 i k).R.length=D1.R.length:=by
       unfold Gj
       split
       .exact gq ..
       .show(negR _).length=_;rw[NJ,gq]
      have c8:(Gj D1 i k).B=D1.B.set i k:=by unfold Gj;split<;>rfl
      refine⟨_,by simp only[go_sem,qC,t0,O,Y,t5,g1,f3,k4];rfl,.inl ⟨_,rfl,m-1,by omega,?_⟩⟩;simp only[go_sem,t0,O];refine⟨by omega,i+1,S,_,rfl,by omega,Oa,b2,fun j hj=>?_,G,fun b a8 E=>?_⟩
      .rw[c8,kY (by have:=hS.Bz;omega)]
       by_cases e:j=i
       .rw[sN e];exact hk
       .rw[sO e];exact a2 j (by omega)
      .simp only[zX,not_or]at E
       exact(c7 b (by omega) E.1 E.2.2.1 fun e=>E.2.2.2 (G.subset e)).trans (a3 b a8 (by simp only[zX,not_or];exact E))
     .have g1:¬(k:Int)<(n:Int):=by omega
      have hzero:∀j,j<n->en D1.R i j=0:=fun j hj=>hz j (by omega)
      have b2:=h2 D1 i U0 hi (by omega) hzero;have g2:(0:Int)<=(i:Int)+1:=by omega
      have c4:D1.B.length=D1.R.length:=hS.Bz;have h3:restrict a1 [br,br] br=_:=(fE a1 br).trans a6;have h4:restrict a1 [bb,bb] bb=_:=(fE a1 bb).trans a7;have p1:bt<qI:=a5 bt (by simp);have p2:br<qI:=a5 br (by simp);have p3:bb<qI:=a5 bb (by simp);have p4:(i:Int)+1<=(D1.R.length:Int):=by omega
      have p5:(i:Int)<=(D1.R.length:Int):=by omega
      have q0:(S.map (fun b=>V.rs b 0 (N+1))).length=D1.R.length:=by rw[zQ,hlen]
      have q1:i<=(S.map (fun b=>V.rs b 0 (N+1))++Pz).length:=by rw[zo,q0];omega
      have q2:D1.R.length<=(S.map (fun b=>V.rs b 0 (N+1))++Pz).length:=by rw[zo,q0];omega
      have q3:i<=((Ce D1.B).flatMap cI++LX).length:=by rw[zo,qM];omega
      have q4:D1.R.length<=((Ce D1.B).flatMap cI++LX).length:=by rw[zo,qM];omega
      have q5:((i:Int)+1).toNat=i+1:=by omega
      have b3:(QK D1 i).R.length=D1.R.length-1:=yN hi;have w1:(bt==br)=false:=beq_eq_false_iff_ne.mpr n1;have w2:(br==bt)=false:=beq_eq_false_iff_ne.mpr (yu n1);have w3:(bt==bb)=false:=beq_eq_false_iff_ne.mpr n2;have w4:(bb==bt)=false:=beq_eq_false_iff_ne.mpr (yu n2);have v1:¬bb=bt:=yu n2;have v2:¬bb=br:=yu n4;have v3:¬br=bt:=yu n1
      by_cases J:i+1=D1.R.length
      .have q6:i+1<=D1.R.length:=by omega
       have q7:¬D1.R.length=0:=by omega
       refine⟨_,by simp only[go_sem,t0,O,Y,t5,g1,g2,f1,f2,f3,a4,a6,a7,h3,h4,q1,q2,q3,q4,q5,q6,q7,J,v1,v2,v3,w1,w2,w3,w4,p1,p2,p3,p4,p5,n1,n2,n3,n4,n5,n6];rfl,.inl ⟨_,rfl,m-1,by omega,?_⟩⟩;simp only[go_sem,t0,O,Y];refine⟨a0,i,S.eraseIdx i,QK D1 i,rfl,by rw[b3];omega,?_,b2,fun j hj=>?_,(sZ S i).trans G,fun b a8 E=>?_⟩
       .refine DI.dropped hT hi c4 (by rw[Zi,<- J];rfl)
         (by
          obtain⟨e1,he⟩:=Oc (S.map (fun b=>V.rs b 0 (N+1))) Pz (i:=i) (by rw[q0];exact J);exact⟨e1,by rw[Zj _ _ v3,a6,he]⟩)
         (by
          obtain⟨e1,he⟩:=Oc ((Ce D1.B).flatMap cI) LX (i:=i) (by rw[qM,hB];exact J);exact⟨e1,by rw[Zj _ _ v1,a7,he]⟩) fun b c1 c2 c3=>Zj _ _ c1
       .show(D1.B.eraseIdx i).getD j 0<n
        rw[lC,sN hj];exact a2 j hj
       .simp only[zX,not_or]at E
        rw[Zj _ _ E.1];exact a3 b a8 (by simp only[zX,not_or];exact E)
      .have q6:i+1<=D1.R.length:=by omega
       have q7:¬D1.R.length - (i+1)=0:=by omega
       have q8:i+(D1.R.length - (i+1))<=(S.map (fun b=>V.rs b 0 (N+1))++Pz).length:=by rw[zo,q0];omega
       have q9:i+(D1.R.length - (i+1))<=((Ce D1.B).flatMap cI++LX).length:=by rw[zo,qM];omega
       have c9:i+1+(D1.R.length - (i+1))<=(S.map (fun b=>V.rs b 0 (N+1))++Pz).length:=by rw[zo,q0];omega
       have d0:i+1+(D1.R.length - (i+1))<=((Ce D1.B).flatMap cI++LX).length:=by rw[zo,qM];omega
       have d1:((S.map (fun b=>V.rs b 0 (N+1))++Pz).drop (i+1)).take (D1.R.length - (i+1))=(S.map (fun b=>V.rs b 0 (N+1))).drop (i+1):=by
        rw[vV (by rw[q0];omega),uT (by rw[zN,q0];omega),zl (by rw[zN,q0];omega)]
       have d2:(((Ce D1.B).flatMap cI++LX).drop (i+1)).take (D1.R.length - (i+1))=((Ce D1.B).flatMap cI).drop (i+1):=by
        rw[vV (by rw[qM];omega),uT (by rw[zN,qM];omega),zl (by rw[zN,qM];omega)]
       have d3:((S.map (fun b=>V.rs b 0 (N+1))).drop (i+1)).all vI=true:=by
        rw[wo];intro v hv;obtain⟨b,-,rfl⟩:=List.mem_map.mp (List.mem_of_mem_drop hv);rfl
       have d4:(((Ce D1.B).flatMap cI).drop (i+1)).all vI=true:=by
        rw[wo];intro v hv;obtain⟨b,-,hv⟩:=List.mem_flatMap.mp (List.mem_of_mem_drop hv);rw[List.mem_singleton.mp hv];rfl
       refine⟨_,by simp only[go_sem,t0,O,Y,t5,g1,g2,f1,f2,f3,a4,a6,a7,h3,h4,q1,q2,q3,q4,q5,q6,q7,q8,q9,c9,d0,d1,d2,d3,d4,J,v1,v2,v3,w1,w2,w3,w4,p1,p2,p3,p4,p5,n1,n2,n3,n4,n5,n6];rfl,.inl ⟨_,rfl,m-1,by omega,?_⟩⟩;simp only[go_sem,t0,O,Y];refine⟨a0,i,S.eraseIdx i,QK D1 i,rfl,by rw[b3];omega,?_,b2,fun j hj=>?_,(sZ S i).trans G,fun b a8 E=>?_⟩
       .refine DI.dropped hT hi c4 ?_ ?_ ?_ fun b c1 c2 c3=>by rw[Zj _ _ c1,Zj _ _ c3,Zj _ _ c1,Zj _ _ c2]
        .rw[Zi,show i+(D1.R.length - (i+1))=D1.R.length-1 by omega]
        .obtain⟨e1,he⟩:=iE (S.map (fun b=>V.rs b 0 (N+1))) Pz (i:=i) q0 hi q7
         exact⟨e1,by rw[Zj _ _ v3,Zj _ _ n4,Zj _ _ v3,Zi,he]⟩
        .obtain⟨e1,he⟩:=iE ((Ce D1.B).flatMap cI) LX (i:=i) (by rw[qM,hB]) hi q7
         exact⟨e1,by rw[Zj _ _ v1,Zi,he]⟩
       .show(D1.B.eraseIdx i).getD j 0<n
        rw[lC,sN hj];exact a2 j hj
       .simp only[zX,not_or]at E
        rw[Zj _ _ E.1,Zj _ _ E.2.2.1,Zj _ _ E.1,Zj _ _ E.2.1];exact a3 b a8 (by simp only[zX,not_or];exact E)
   .have f1:¬(i:Int)<(D1.R.length:Int):=by omega
    refine .inr ⟨_,by simp only[go_sem,t0,Y,a4,f1];rfl,by simp,_,a1,qI,S,D1,rfl,hT,a0,U0,fun j hj=>a2 j (by omega),G,a3⟩) D.R.length (by
   simp only[go_sem];exact⟨0,rb,D,rfl,by omega,h,hD,fun j hj=>absurd hj (zU j),List.Sublist.refl _,fun _ _ _=>trivial⟩)
 exact⟨σ',nx',Hy,D',by simp only[go_sem],hT,a0,c6,b4,G,a3⟩
section
variable {P:Program} {conv:FuncId->Conv} {call:TV.Call} (d:Option Tmp) (ty:TypeId) (ps:String) (af:Array Edge) (gd:Option (Nat×Bool)) (T:Nat->V) (σ:Store) (nx:Nat)
theorem Oe(t:TypeId)(l c:Operand):Af conv T σ ⟨d,.makeSlice t l c,ty,ps,af,gd⟩=[]:=rfl
theorem Xr(t:TypeId)(l c:Operand):writer conv ⟨d,.makeSlice t l c,ty,ps,af,gd⟩=false:=rfl
theorem PI(t:TypeId)(l c:Operand):Aq P conv call ⟨d,.makeSlice t l c,ty,ps,af,gd⟩ T σ nx=ER P t (val T l) (val T c) σ nx:=by
 generalize E:ER P t (val T l) (val T c) (fun _=>none) nx=r;have key:∀σ,ER P t (val T l) (val T c) σ nx=(r.map fun p=>((p.2.1 nx).elim ([],0,p.1) fun B=>(B.cells,B.st,p.1))).map fun p=>(p.2.2,AA σ nx p.1 p.2.1,nx+1):=fun σ=>by
  rw[<- E];unfold ER
  split
  .split
   .split
    .split
     .simp only[zG,AA,Zi];rfl
     .rfl
    .rfl
   .rfl
  .rfl
 have:=Ij (P:=P) (conv:=conv) (call:=call) (o:=⟨d,.makeSlice t l c,ty,ps,af,gd⟩) T σ nx rfl fun σ=>(Ih d ty ps af gd T σ nx t l c).trans (key σ)
 exact this.trans (key σ).symm
theorem K_(t:TypeId)(x:Operand)(h:(Ae P t).slice=true)(E:(Ae P t).Si=true)(hs:(Ae P t).G6=1)(G:(Ae P t).Eh.length=1)(hc:vI (val T x)=true) :
  Aq P conv call ⟨d,.buildSlice t 1 #[(0,x)],ty,ps,af,gd⟩ T σ nx=some (.rs nx 0 1,upd σ nx (some ⟨[val T x],1,true⟩),nx+1):=by
 have:=Ij (P:=P) (conv:=conv) (call:=call) (o:=⟨d,.buildSlice t 1 #[(0,x)],ty,ps,af,gd⟩) (m:=some ([val T x],1,V.rs nx 0 1)) T σ nx rfl fun σ=>iQ d ty ps af gd T σ nx t x h E hs G hc
 exact this
theorem aeM(t:TypeId)(lo hi E:Option V)(row:List V)(len:Nat):TW P σ nx t lo hi E (.ts row len)=AX P t (.ts row len) lo hi E σ:=by
 show(if(([]:List Nat).all fun b=>decide (b<nx))=true then AX P t (.ts row len) lo hi E (restrict σ [])else none)=_;rw[vU,sN rfl];unfold AX;rfl
end
attribute [go_sem] aeM Oe Xr PI K_
theorem Xt(xs:List Int):∀k,(xs.flatMap cI).drop k=(xs.drop k).flatMap cI:=by
 induction xs with
 |nil=>intro k;simp
 |cons x xs E=>intro k;cases k with
  |zero=>rfl
  |succ k=>exact E k
def CZ(m n:Nat)(A b c:List Int):List V:=[I m,I n,LI A,LI b,LI c]
theorem asx{m n:Nat}{A b c:List Int}(hA:A.length=m*n)(hm:m<=1000)(hn:n<=1000){i:Nat}(hi:i<m) :
  fn ZK conv ext 153 [.tp (CZ m n A b c) 0,I i]=some (.ts (((A.drop (i*n)).take n).flatMap cI) n):=by
 have h1:i*n<=m*n:=zK _ (by omega);have h2:(i+1)*n<=m*n:=zK _ (by omega);have h3:m*n<=1000*1000:=x9 hm hn;have E:(i:Int)*(n:Int)=((i*n:Nat):Int):=by push_cast;rfl
 have G:((i:Int)+1)*(n:Int)=(((i+1)*n:Nat):Int):=by push_cast;rfl
 have J:=ZR (n:=((i*n:Nat):Int));have O:=ZR (n:=(((i+1)*n:Nat):Int)) (by omega) (by omega);have S:=ZR (n:=(i:Int)+1);have Y:i*n<=(i+1)*n:=zK _ (by omega);have f5:(i+1)*n<=A.length:=by omega
 have f6:(0:Int)<=((i*n:Nat):Int):=by omega
 have f7:(0:Int)<=(((i+1)*n:Nat):Int):=by omega
 have f8:(i+1)*n-i*n=n:=by rw[xg];omega
 unfold CZ;rw[m_,mg [.tmp 4] [] func153];simp only[go_sem,E,G,J,O,S,Y,f5,f6,f7,f8];rw[Xt,qK]
theorem fH(σ:Store)(b x:Nat):restrict σ [b,x] b=σ b:=by unfold restrict;simp
theorem fF(σ:Store)(b x:Nat):restrict σ [b,x] x=σ x:=by unfold restrict;simp
theorem aeN(σ:Store)(b x nx:Nat)(v:Option Fj):zI [b,x] nx (nx+1) σ (upd (upd (restrict σ [b,x]) b none) nx v)=upd (upd σ b none) nx v:=by
 funext i;unfold zI upd restrict
 by_cases h:i=nx
 .subst h;simp
 .by_cases E:i=b
  .subst E;simp[h]
  .by_cases G:i=x
   .subst G;simp[h,E]
   .rw[sO (by simp only[zX,zH,or_false];omega),sO h,sO E]
theorem aaX(σ:Store)(x nx:Nat)(v:Option Fj):zI [x] nx (nx+1) σ (upd (restrict σ [x]) nx v)=upd σ nx v:=by
 funext i;unfold zI upd restrict
 by_cases h:i=nx
 .subst h;simp
 .by_cases E:i=x
  .subst E;simp[h]
  .rw[sO (by simp only[zX,zH,or_false];omega),sO h]
attribute [go_sem] fH fF aeN aaX
def pm{α:Type}(f g:Nat->α)(k N:Nat):List α:=(List.range N).map fun j=>if j<k then f j else g j
theorem gi{α:Type}(f g:Nat->α)(k N:Nat):(pm f g k N).length=N:=by simp[pm]
theorem TX{α:Type}(f g:Nat->α){k N j:Nat}(h:j<N):(pm f g k N)[j]'(by rw[gi];exact h)=if j<k then f j else g j:=by simp[pm]
theorem Og{α:Type}(f g:Nat->α){k N:Nat}(h:k<N):(pm f g k N).set k (f k)=pm f g (k+1) N:=by
 apply yR
 .rw[yP,gi,gi]
 .intro j J E
  rw[gi]at E;rw[wG,TX _ _ E,TX _ _ E]
  by_cases e:k=j
  .subst e;rw[sN rfl,sN (by omega)]
  .rw[sO e]
   by_cases G:j<k
   .rw[sN G,sN (by omega)]
   .rw[sO G,sO (by omega)]
theorem TY{α:Type}(f g:Nat->α){k N:Nat}(h:f k=g k):pm f g k N=pm f g (k+1) N:=by
 apply yR
 .rw[gi,gi]
 .intro j J E
  rw[gi]at E;rw[TX _ _ E,TX _ _ E]
  by_cases G:j<k
  .rw[sN G,sN (by omega)]
  .rw[sO G]
   by_cases e:j=k
   .subst e;rw[sN (by omega),h]
   .rw[sO (by omega)]
theorem IU{α:Type}(f g:Nat->α)(N:Nat):pm f g 0 N=(List.range N).map g:=by simp[pm]
theorem T_{α:Type}(f g:Nat->α)(N:Nat):pm f g N N=(List.range N).map f:=by
 unfold pm;apply xG;intro j E;rw[sN (List.mem_range.mp E)]
theorem aaY(l:List Bool){N:Nat}(h:l.length=N):((List.range N).map fun j=>l.getD j false)=l:=by
 apply yR
 .simp[h]
 .intro j G E
  simp[zx,zy E]
theorem fZ{α:Type}(a:α)(N:Nat):((List.range N).map fun _=>a)=List.replicate N a:=by
 rw[List.map_const',uH]
theorem fM(N:Nat)(x:Int):rep N [I x]=(List.replicate N x).flatMap cI:=by
 induction N with
 |zero=>rfl
 |succ N E=>rw[fJ,E,xX];rfl
theorem ahn(N:Nat)(x:Bool):rep N [Bo x]=(List.replicate N x).flatMap Hw:=by
 induction N with
 |zero=>rfl
 |succ N E=>rw[fJ,E,xX];rfl
def sg(b:List Int)(i:Nat):Int:=if b.getD i 0<0 then -1 else 1
def cell0(A b:List Int)(m n i j:Nat):Int:=if j<n then sg b i*A.getD (i*n+j) 0 else if j<n+m then(if j=n+i then 1 else 0)else sg b i*b.getD i 0
def row0(A b:List Int)(m n i:Nat):List Int:=(List.range (n+m+1)).map fun j=>cell0 A b m n i j
def Ew(A b:List Int)(m n k:Nat):List (List Int):=(List.range k).map fun i=>row0 A b m n i
def fr0(m n:Nat):List Bool:=(List.range (n+m)).map fun j=>decide (j<n)
def D0(A b:List Int)(m n k:Nat):TZ:={ R:=Ew A b m n k,Bl:=1,B:=(List.range k).map fun i=>n+i,fr:=fr0 m n }
theorem fB(A b:List Int)(m n i:Nat):(row0 A b m n i).length=n+m+1:=by simp[row0]
theorem fC(A b:List Int)(m n i:Nat){j:Nat}(h:j<n+m+1):(row0 A b m n i)[j]'(by rw[fB];exact h)=cell0 A b m n i j:=by simp[row0]
def Gm(A b:List Int)(m n i k:Nat):List (Int×Bool):=newR (row0 A b m n i) (List.replicate (n+m+1) (0,true)) k
theorem aeO(A b:List Int)(m n i:Nat):(Gm A b m n i 0).flatMap zc=rep (n+m+1) [Bo false,.nil]:=by
 unfold Gm;rw[JM];generalize n+m+1=q
 induction q with
 |zero=>rfl
 |succ q E=>rw[xX,fJ,zJ,E];rfl
theorem qR(A b:List Int)(m n i:Nat){k:Nat}(E:k<=n+m+1):(Gm A b m n i k).length=n+m+1:=by
 unfold Gm;rw[jB (by rw[fB,yT]) (by rw[yT];exact E),yT]
theorem aho(A b:List Int)(m n i:Nat){k:Nat}(E:k<n+m+1):(Gm A b m n i k).set k (cell0 A b m n i k,false)=Gm A b m n i (k+1):=by
 unfold Gm;rw[<- N8 (by rw[fB,yT]) (c:=k) (by rw[yT];exact E),fC _ _ _ _ _ E]
theorem QM(A b:List Int){m n i:Nat}(hi:i<m):let L:=((Gm A b m n i n).set (n+i) (1,false)).set (n+m) (sg b i*b.getD i 0,false)
  L.map (·.1)=row0 A b m n i/\∀p∈L,p.2=true->p.1=0:=by
 intro L;have hl:L.length=n+m+1:=by simp only[L,yP];exact qR _ _ _ _ _ (by omega)
 have hg:∀j (h:j<n+m+1),L[j]'(by rw[hl];exact h)=if j<n then(cell0 A b m n i j,false)else if j=n+m then(sg b i*b.getD i 0,false)else if j=n+i then(1,false)else(0,true):=fun j h=>by
  have e:(Gm A b m n i n)[j]'(by rw[qR _ _ _ _ _ (by omega)];exact h)=if j<n then(cell0 A b m n i j,false)else(0,true):=by
   have:(Gm A b m n i n)[j]?=some (if j<n then(cell0 A b m n i j,false)else(0,true)):=by
    unfold Gm newR;have J:(((row0 A b m n i).take n).map fun z=>(z,false)).length=n:=by rw[zQ,zf,fB];omega
    by_cases O:j<n
    .rw[zV (by rw[J];exact O),sN O,zF,wX,sN O,zy (by rw[fB];omega),fC _ _ _ _ _ (by omega)]
     rfl
    .rw[zM (by rw[J];omega),J,xQ,sO O,wZ,sN (by omega)]
   rw[zy (by rw[qR _ _ _ _ _ (by omega)];exact h)]at this;exact Option.some.inj this
  simp only[L,wG,e]
  by_cases E:j<n
  .rw[sO (by omega),sO (by omega),sN E,sN E]
  .by_cases Y:j=n+m
   .rw[sN Y.symm,sO E,sN Y]
   .rw[sO (yu Y),sO E,sO Y]
    by_cases h3:j=n+i
    .rw[sN h3.symm,sO E,sN h3]
    .rw[sO (yu h3),sO E,sO h3]
 refine⟨yR (by rw[zQ,hl,fB]) fun j E Y=>?_,fun p hp G=>?_⟩
 .rw[zQ,hl]at E
  rw[xZ,hg j E,fC _ _ _ _ _ E]
  by_cases c1:j<n
  .rw[sN c1]
  .rw[sO c1]
   unfold cell0;rw[sO c1]
   by_cases c2:j=n+m
   .rw[sN c2,sO (by omega)]
   .rw[sO c2,sN (show j<n+m by omega)]
    by_cases S:j=n+i
    .rw[sN S,sN S]
    .rw[sO S,sO S]
 .obtain⟨j,O,rfl⟩:=yc hp
  rw[hl]at O;rw[hg j O]at G⊢
  by_cases c1:j<n
  .rw[sN c1]at G;cases G
  .rw[sO c1]at G⊢
   by_cases c2:j=n+m
   .rw[sN c2]at G;cases G
   .rw[sO c2]at G⊢
    by_cases S:j=n+i
    .rw[sN S]at G;cases G
    .rw[sO S]
def Made(A b:List Int)(m n:Nat)(GL:Nat)(σ:Store)(nx bt bf k:Nat):Prop :=
 ∃E G br bb rb,σ bt=some ⟨[E,Bo false,LI (dg 1),G,I ((n+m:Nat):Int),.rs bf 0 (n+m)],0,true⟩ /\
  ((k=0/\E= .nil/\G= .nil/\rb=[])\/(0<k/\E= .rs br 0 k/\G= .rs bb 0 k/\σ br=some ⟨rb.map fun b=>V.rs b 0 (n+m+1),1,true⟩/\σ bb=some ⟨(Ce ((List.range k).map fun i=>n+i)).flatMap cI,1,true⟩/\br≠bb/\br∉bt :: bf :: rb/\bb∉bt :: bf :: rb/\GL<=br/\br<nx/\GL<=bb/\bb<nx)) /\
  rb.length=k/\(∀i (h:i<rb.length),Eu σ rb[i] (row0 A b m n i))/\(bt :: bf :: rb).Nodup/\(∀x∈bt :: bf :: rb,GL<=x/\x<nx)/\σ bf=some ⟨(List.replicate (n+m) false).flatMap Hw,1,true⟩
theorem QN{A b:List Int}{m n nx:Nat}{S σ':Store}{E i:Nat}{rb:List Nat}{L:List (Int×Bool)}(hi:i<m)(Y:rb.length=i)(a0:∀j (h:j<rb.length),Eu S rb[j] (row0 A b m n j))(G:((nx+1) :: nx :: rb).Nodup)(O:∀x∈(nx+1) :: nx :: rb,nx<=x/\x<E)
  (a2:S nx=some ⟨(List.replicate (n+m) false).flatMap Hw,1,true⟩) (hL:L.map (·.1)=row0 A b m n i/\∀p∈L,p.2=true->p.1=0)
  (ht:σ' (nx+1)=some ⟨[.rs (E+1+1) 0 (i+1),Bo false,LI (dg 1),.rs (E+1+1+1+1) 0 (i+1),I ((n+m:Nat):Int),.rs nx 0 (n+m)],0,true⟩)
  (hr:σ' (E+1+1)=some ⟨rb.map (fun b=>V.rs b 0 (n+m+1))++[.rs E 0 (n+m+1)],1,true⟩)
  (hb:σ' (E+1+1+1+1)=some ⟨(Ce ((List.range i).map fun i=>n+i)).flatMap cI++[I ((n+i:Nat):Int)],1,true⟩)
  (J:σ' E=some ⟨L.flatMap zc,2,true⟩) (ho:∀x∈nx :: rb,σ' x=S x):Made A b m n nx σ' (E+1+1+1+1+1) (nx+1) nx (i+1):=by
 have a1:∀x∈rb,x≠nx+1/\x≠nx/\nx<=x/\x<E:=fun x J=>by
  have h:=O x (by simp[J]);refine⟨fun e=>?_,fun e=>?_,h.1,h.2⟩
  .subst e;simp at G;exact G.1 J
  .subst e;simp at G;exact G.2.1 J
 have a3:=O (nx+1) (by simp);refine⟨_,_,E+1+1,E+1+1+1+1,rb++[E],ht,.inr ⟨by omega,rfl,rfl,?_,?_,by omega,?_,?_,by omega,by omega,by omega,by omega⟩,by simp[Y],fun j hj=>?_,?_,fun x J=>?_,?_⟩
 .rw[hr,wR];rfl
 .rw[hb,wK,wR]
  unfold Ce;rw[wR,zS];rfl
 .simp only[zX,wz,zH,or_false,not_or]
  exact⟨by omega,by omega,fun h=>by have:=a1 _ h;omega,by omega⟩
 .simp only[zX,wz,zH,or_false,not_or]
  exact⟨by omega,by omega,fun h=>by have:=a1 _ h;omega,by omega⟩
 .by_cases h:j<rb.length
  .rw[yG h]
   exact(a0 j h).congr (ho _ (zY _ (zu h)))
  .have:j=i:=by rw[zo,yU]at hj;omega
   subst this;rw[wF (by omega)];simp only[Y,yQ,su];exact⟨L,J,hL.1,hL.2⟩
 .rw[<- yS,<- yS]
  rw[List.nodup_append];refine⟨G,by simp,fun x J y hy=>?_⟩;rw[List.mem_singleton.mp hy];have:=O x J;omega
 .rw[<- yS,<- yS,wz]at J
  rcases J with h|h
  .have:=O x h;omega
  .rw[List.mem_singleton.mp h];omega
 .rw[ho nx (by simp)];exact a2
def o1L(m n:Nat):List Int:=(List.range (n+m)).map fun j=>if j<n then 0 else -1
theorem ak_(m n:Nat):Obj (o1L m n) (n+m):=⟨by simp[o1L],fun x E=>by
 obtain⟨j,-,rfl⟩:=List.mem_map.mp E
 split<;>omega⟩
theorem acy{N:Nat}{o:Nat->Int}{Q:TZ->Prop}(h:∀D E,Q D->EY N o D E->Q E){D E:TZ}(G:EZ N o D E):Q D->Q E:=by
 induction G with
 |refl=>exact id
 |tail Y J O=>exact fun S=>h _ _ (O S) J
theorem amP{N:Nat}{o:Nat->Int}{Q:TZ->Prop}(h:∀D E,Q D->EY N o D E->Q E){D E:TZ}{G:Bool}(hm:TD N o D G E)(O:Q D):∃D1 fr,Q D1/\E={ D1 with fr:=fr }/\fr.length=D1.fr.length:=by
 obtain⟨D1,S,J|J⟩:=hm
 .obtain⟨-,-,fr,Y,rfl⟩:=J
  exact⟨D1,fr,acy h S O,rfl,Y.1⟩
 .obtain⟨-,rfl,-⟩:=J
  exact⟨E,E.fr,acy h S O,rfl,rfl⟩
def ak'(Q2:TZ->Prop)(A b:List Int)(m n:Nat)(σ:Store)(nx:Nat)(r:V×Store×Nat):Prop :=
 ∃σ' nx',nx<=nx'/\(∀x,x<nx->σ' x=σ x)/\∃D1 E,TD (n+m) (oF (o1L m n)) (D0 A b m n m) E D1 /\
  ((r=(.Bf [.sc (.pointer none),Bo false],σ',nx')/\∃i,i<D1.R.length/\n<=D1.B.getD i 0/\0<en D1.R i (n+m)) \/
   (∃bt br bb bf rb D2,r=(.Bf [.rp bt 0,Bo true],σ',nx')/\(∀i,i<D1.R.length->n<=D1.B.getD i 0->¬0<en D1.R i (n+m))/\DI σ' bt br bb bf rb D2 (n+m)/\Q2 D2/\(∀i,i<D2.R.length->D2.B.getD i 0<n)/\∀x∈bt :: br :: bb :: bf :: rb,nx<=x/\x<nx'))
theorem aoQ(Q1 Q2:TZ->Prop){A b c:List Int}{m n:Nat}(hA:A.length=m*n)(hb:b.length=m)(O:0<m)(hm:m<=400)(hn:n<=400)(o2:∀x∈A,-1000000<=x/\x<=1000000)(o3:∀x∈b,-1000000<=x/\x<=1000000)
  (U0:∀D,Q1 D->Xg D (n+m)/\0<D.Bl) (f8:∀D D',Q1 D->EY (n+m) (oF (o1L m n)) D D'->Q1 D') (i7:Q1 (D0 A b m n m)) {K:Nat} (o4:IG (n+m) (oF (o1L m n)) K (D0 A b m n m))
  (o5:∀D,Q2 D->Xg D (n+m)/\0<D.Bl) (h1:∀D i k,Q2 D->i<D.R.length->n<=D.B.getD i 0->k<n->en D.R i k≠0->Q2 (Gj D i k))
  (o6:∀D i,Q2 D->i<D.R.length->n<=D.B.getD i 0->(∀k,k<n->en D.R i k=0)->Q2 (QK D i))
  (j9:∀D1 f9,TD (n+m) (oF (o1L m n)) (D0 A b m n m) f9 D1->(∀i,i<D1.R.length->n<=D1.B.getD i 0->¬0<en D1.R i (n+m))->Q2 { D1 with fr:=fr0 m n })
  (σ:Store) (nx:Nat):∃r,ev ZK wI Am 130 [.tp (CZ m n A b c) 0] σ nx=some r/\ak' Q2 A b m n σ nx r:=by
 obtain⟨N,hN⟩:∃N,N=n+m:=⟨_,rfl⟩;have f1:(n:Int)+(m:Int)=(N:Int):=by omega
 have f2:=ZR (n:=(N:Int));have f3:=jC N;have f4:1*(N:Int)<=281474976710656:=by omega
 have f5:(N:Int)<=9223372036854775807:=by omega
 have k1:fn ZK conv ext 107 [I 1]=some (.agg [Bo false,LI (dg 1)]):=kJ 1 (by decide) (by decide)
 unfold CZ;rw[mg [.tmp 2,.tmp 3] [15,18,24,38] func130];simp only[go_sem,f1,f2,f3,f4,f5,k1];generalize hL:jI _ _=y;obtain⟨x,rfl,T1,c3,E,rfl,t0,J,G,s9,o7,hM⟩:=oZ hL m (fun i st=>st.T 0= .tp (CZ m n A b c) 0/\st.T 4=I N/\st.T 5= .rp (nx+1) 0/\st.T 34=I m/\st.T 35=I i/\nx<=st.nx/\(∀x,x<nx->st.σ x=σ x)/\Made A b m n nx st.σ st.nx (nx+1) nx i)
  (fun x=>∃T c3 E,x=(.exit 0,⟨T,c3,E⟩)/\T 0= .tp (CZ m n A b c) 0/\T 4=I N/\T 5= .rp (nx+1) 0/\nx<=E/\(∀x,x<nx->c3 x=σ x)/\Made A b m n nx c3 E (nx+1) nx m) (by
   clear hL;rintro i ⟨T,c3,E⟩ hi ⟨t0,J,G,S,Y,h5,e5,hM⟩;simp only at t0 J G S Y h5 e5 hM;have g1:(i:Int)<(m:Int):=by omega
   have g2:=jC i;have g3:=ZR (n:=(i:Int)+1);unfold CZ at t0;have g4:=ZR (n:=(N:Int)+1);have g5:(0:Int)<=(N:Int)+1:=by omega
   have g6:32*((N:Int)+1)<=281474976710656:=by omega
   have g7:(N:Int)+1<=9223372036854775807:=by omega
   have g8:((N:Int)+1).toNat=N+1:=by omega
   have g9:(i:Int)<(b.length:Int):=by omega
   have i9:(b.flatMap cI)[i]?=some (I (b.getD i 0)):=by
    rw[idx (by omega),zx,zy (by omega)];rfl
   have j0:=Bg b i (by omega);have bl:(b.flatMap cI).length=b.length:=qM b;have t9:-1000000<=b.getD i 0/\b.getD i 0<=1000000:=by
    rw[zx,zy (by omega)];exact o3 _ (zu (by omega))
   have k2:=asx (b:=b) (c:=c) hA (by omega) (by omega) hi;unfold CZ at k2;obtain⟨Rw,j1⟩:∃Rw,Rw=(A.drop (i*n)).take n:=⟨_,rfl⟩;rw[<- j1]at k2;have h1:(i+1)*n<=m*n:=zK _ (by omega);rw[xg]at h1;have h6:Rw.length=n:=by rw[j1,zf,zN];omega
   have p0:∀j (h:j<n),Rw[j]'(by omega)=A.getD (i*n+j) 0:=fun j h=>by
    subst j1;rw[List.getElem_take,List.getElem_drop,zx,zy (by omega)];rfl
   have p1:∀j (h:j<n),-1000000<=A.getD (i*n+j) 0/\A.getD (i*n+j) 0<=1000000:=fun j h=>by
    rw[zx,zy (by omega)];exact o2 _ (zu (by omega))
   obtain⟨s,hs,k0⟩:∃s,s=sg b i/\((b.getD i 0<0/\s= -1)\/(¬b.getD i 0<0/\s=1)):=by
    refine⟨_,rfl,?_⟩;unfold sg
    by_cases h:b.getD i 0<0
    .exact .inl ⟨h,sN h⟩
    .exact .inr ⟨h,sO h⟩
   have k3:s=1\/s= -1:=by rcases k0 with ⟨_,h⟩|⟨_,h⟩<;>simp[h]
   refine bC ?_;rcases k0 with ⟨h8,k4⟩|⟨h8,k4⟩
   all_goals
    conv=>
     enter [1,r,1,1]
     simp only[go_sem,t0,J,G,S,Y,g1,g2,g3,g4,g5,g6,g7,g8,g9,i9,j0,bl,h8,k2]
    generalize hL:jI _ _=z;obtain⟨x,rfl,T1,rfl,t0,J,G,t6,t7,t8,S,Y⟩:=oZ hL n (fun j st=>st.T 0= .tp (CZ m n A b c) 0/\st.T 4=I N/\st.T 5= .rp (nx+1) 0/\st.T 6=I i/\st.T 7= .rs E 0 (N+1)/\st.T 8=I s/\st.T 34=I m/\st.T 35=I i/\st.T 51= .ts (Rw.flatMap cI) n/\st.T 52=I n/\st.T 53=I j/\st.nx=E+1/\st.σ=upd c3 E (some ⟨(Gm A b m n i j).flatMap zc,2,true⟩))
     (fun x=>∃T,x=(.exit 2,⟨T,upd c3 E (some ⟨(Gm A b m n i n).flatMap zc,2,true⟩),E+1⟩)/\T 0= .tp (CZ m n A b c) 0/\T 4=I N/\T 5= .rp (nx+1) 0/\T 6=I i/\T 7= .rs E 0 (N+1)/\T 8=I s/\T 34=I m/\T 35=I i) (by
      clear hL;rintro j ⟨T,σ2,m0⟩ hj ⟨t0,J,G,t6,t7,t8,S,Y,g0,e6,e7,O,c4⟩;simp only at t0 J G t6 t7 t8 S Y g0 e6 e7 O c4;subst O c4;have a1:(j:Int)<(n:Int):=by omega
      have a2:=jC j;have a3:=ZR (n:=(j:Int)+1);have a4:(Rw.flatMap cI)[j]?=some (I (A.getD (i*n+j) 0)):=by rw[idx (by omega),p0 j hj]
      have h7:=Bg Rw j (by omega);have a5:(Rw.flatMap cI).length=n:=by rw[qM,h6]
      have hx:=p1 j hj;obtain⟨x,ex⟩:∃x,x=A.getD (i*n+j) 0:=⟨_,rfl⟩;rw[<- ex]at a4 hx;have p2:-1000000<=s*x/\s*x<=1000000:=by rcases k3 with h|h<;>rw[h]<;>omega
      have a6:=ZR (n:=s*x);have a7:=kJ (s*x) (by omega) (by omega);have a8:=bU (c:=zc) (s:=2) ZN (Gm A b m n i j);rw[qR _ _ _ _ _ (by omega),<- hN]at a8;have a9:(j:Int)<((N+1:Nat):Int):=by omega
      have h9:j*2+2<=(N+1)*2:=by omega
      have i0:patch ((Gm A b m n i j).flatMap zc) (j*2) (cZ (s*x))=(Gm A b m n i (j+1)).flatMap zc:=by
       rw[<- acs,iC ZN _ _ (by rw[qR _ _ _ _ _ (by omega)];omega),<- aho _ _ _ _ _ (by omega)];congr 3;unfold cell0;rw[sN hj,<- ex,hs]
      refine .inl ⟨_,by simp only[go_sem,t0,J,G,t6,t7,t8,S,Y,g0,e6,e7,a1,a2,a3,a4,a5,a6,a7,a8,a9,h9,i0,h7];rfl,?_⟩;simp only[go_sem,t0,J,G,t6,t7,t8,S,Y,g0,e6,e7];rfl) (by
      rintro ⟨T,σ2,m0⟩ ⟨t0,J,G,t6,t7,t8,S,Y,g0,e6,e7,O,c4⟩;simp only at t0 J G t6 t7 t8 S Y g0 e6 e7 O c4;subst O c4;have a1:¬(n:Int)<(n:Int):=by omega
      refine⟨_,by simp only[go_sem,e6,e7,a1];rfl,by simp,_,rfl,?_⟩;simp only[go_sem,t0,J,G,t6,t7,t8,S,Y]) (by
      simp only[go_sem,aeO,<- hN,k4,CZ,t0,J,G,S,Y])
    clear hL;obtain⟨L2,i1⟩:∃L2,L2=(Gm A b m n i n).set (n+i) (1,false):=⟨_,rfl⟩;obtain⟨L3,i2⟩:∃L3,L3=L2.set (n+m) (s*b.getD i 0,false):=⟨_,rfl⟩;have j2:=qR A b m n i (k:=n) (by omega);have j3:L2.length=n+m+1:=by rw[i1,yP];exact j2
    have u0:L3.length=n+m+1:=by rw[i2,yP];exact j3
    have d1:patch ((Gm A b m n i n).flatMap zc) ((n+i)*2) [Bo false,LI (dg 1)]=L2.flatMap zc:=by
     rw[i1,<- iC ZN _ _ (by rw[j2];omega)];rfl
    have d2:patch (L2.flatMap zc) (N*2) (cZ (s*b.getD i 0))=L3.flatMap zc:=by
     rw[i2,hN,<- iC ZN _ _ (by rw[j3];omega),<- acs]
    have d3:=bU (c:=zc) (s:=2) ZN (Gm A b m n i n);rw[j2,<- hN]at d3;have d4:=bU (c:=zc) (s:=2) ZN L2;rw[j3,<- hN]at d4;have p2:-1000000<=s*b.getD i 0/\s*b.getD i 0<=1000000:=by rcases k3 with h|h<;>rw[h]<;>omega
    have a1:=ZR (n:=s*b.getD i 0);have a2:=kJ (s*b.getD i 0) (by omega) (by omega);have a3:(n:Int)+(i:Int)=((n+i:Nat):Int):=by omega
    have a4:=ZR (n:=((n+i:Nat):Int));have a5:((n+i:Nat):Int)<((N+1:Nat):Int):=by omega
    have a6:(0:Int)<=((n+i:Nat):Int):=by omega
    have a7:(N:Int)<((N+1:Nat):Int):=by omega
    have a8:(n+i)*2+2<=(N+1)*2:=by omega
    have a9:N*2+2<=(N+1)*2:=by omega
    have h9:E<E+1:=by omega
    obtain⟨rV,bV,br,bb,rb,e8,d5,h0,e0,c8,c9,i3⟩:=hM;have u1:nx+1<E:=(c9 _ (by simp)).2;have i0:¬nx+1=E:=by omega
    have h7:¬nx+1=E+1:=by omega
    have k5:¬nx+1=E+1+1:=by omega
    have k6:¬nx+1=E+1+1+1:=by omega
    have k7:¬nx+1=E+1+1+1+1:=by omega
    have k8:nx+1<E+1+1:=by omega
    have k9:nx+1<E+1+1+1:=by omega
    have l1:nx+1<E+1+1+1+1:=by omega
    have l2:1<=maxLen:=by decide
    have l3:nx+1<E+1+1+1+1+1:=by omega
    have l4:E+1+1+1<E+1+1+1+1:=by omega
    have l5:E+1+1<E+1+1+1:=by omega
    have l6:E+1<E+1+1:=by omega
    have l7:¬E+1=nx+1:=by omega
    have e9:¬E+1+1=nx+1:=by omega
    have l8:¬E+1+1+1=nx+1:=by omega
    have i4:¬E+1+1+1+1=nx+1:=by omega
    unfold CZ at t0;rcases d5 with ⟨hi0,rfl,rfl,rfl⟩|⟨hk,rfl,rfl,j4,j5,a0,Ua,Ub,l9,j6,m1,j7⟩
    .refine⟨_,by simp only[go_sem,t0,J,G,t6,t7,t8,S,Y,e8,k1,f3,g1,g2,g3,g9,i9,j0,bl,d1,d2,d3,d4,a1,a2,a3,a4,a5,a6,a7,a8,a9,h9,i0,h7,k5,k6,k7,k8,k9,l1,l2,l7,e9,l8,i4,l3,l4,l5,l6];rfl,.inl ⟨_,rfl,?_⟩⟩
     simp only[go_sem,t0,J,G,S,Y];refine⟨rfl,rfl,by omega,fun x hx=>?_,QN (L:=L3) hi h0 e0 c8 c9 i3 (by rw[i2,i1,hs];exact QM A b hi) ?_ ?_ ?_ ?_ fun x hx=>?_⟩
     .rw[Zk,Zk,Zk,Zk,Zk,Zk,Zk]
      exact e5 x hx
     .rw[Zi,hi0]
     .rw[Zj _ _ e9,Zk,Zk,Zj _ _ e9,Zi,hN];rfl
     .rw[Zj _ _ i4,Zi,hi0];rfl
     .rw[Zk,Zk,Zk,Zk,Zk,Zk,Zi]
     .rw[List.mem_singleton.mp hx]
      rw[Zk,Zk,Zk,Zk,Zk,Zk,Zk]
    .have b1:(rb.map fun b=>V.rs b 0 (n+m+1)).length=i:=by rw[zQ,h0]
     have b2:((Ce ((List.range i).map fun i=>n+i)).flatMap cI).length=i:=by rw[qM,aA];simp
     have b3:¬i+1<=i:=by omega
     have b4:i+1<=maxLen:=by unfold maxLen;omega
     have b5:(i+1)*24<=140737488355328:=by omega
     have b6:(i+1)*8<=140737488355328:=by omega
     have b7:¬br=E:=by omega
     have b8:¬br=E+1:=by omega
     have b9:¬bb=E:=by omega
     have p3:¬bb=E+1:=by omega
     have p4:¬bb=E+1+1:=by omega
     have p5:¬bb=E+1+1+1:=by omega
     have m2:¬bb=nx+1:=fun e=>Ub (by simp[e])
     have m3:¬br=nx+1:=fun e=>Ua (by simp[e])
     have p6:¬bb=br:=yu a0;have p7:¬nx+1=br:=yu m3;have p8:¬nx+1=bb:=yu m2;have p9:bb<E+1+1+1:=by omega
     have q0:bb<E+1+1+1+1:=by omega
     refine⟨_,by simp only[go_sem,t0,J,G,t6,t7,t8,S,Y,e8,k1,f3,g1,g2,g3,g9,i9,j0,bl,d1,d2,d3,d4,a1,a2,a3,a4,a5,a6,a7,a8,a9,h9,i0,h7,k5,k6,k7,k8,k9,l1,l2,l7,e9,l8,i4,l3,l4,l5,l6,j4,j5,b1,b2,b3,b4,b5,b6,b7,b8,b9,p3,p4,p5,m2,m3,p6,p7,p8,p9,q0];rfl,.inl ⟨_,rfl,?_⟩⟩;simp only[go_sem,t0,J,G,S,Y];refine⟨rfl,rfl,by omega,fun x hx=>?_,QN (L:=L3) hi h0 e0 c8 c9 i3 (by rw[i2,i1,hs];exact QM A b hi) ?_ ?_ ?_ ?_ fun x hx=>?_⟩
     .repeat rw[Zk]
      exact e5 x hx
     .rw[Zi]
     .rw[Zj _ _ e9,Zk,Zk,Zk,Zj _ _ e9,Zi,hN]
     .rw[Zj _ _ i4,Zi]
     .repeat rw[Zk]
      rw[Zi]
     .have u2:=c9 x (zY _ hx)
      have e1:x≠nx+1:=fun e=>by subst e;exact(List.nodup_cons.mp c8).1 hx
      have e2:x≠br:=fun e=>by subst e;exact Ua (zY _ hx)
      have e3:x≠bb:=fun e=>by subst e;exact Ub (zY _ hx)
      repeat rw[Zk]) (by
   rintro ⟨T,c3,E⟩ ⟨t0,J,G,S,Y,h5,e5,hM⟩;simp only at t0 J G S Y h5 e5 hM;have g1:¬(m:Int)<(m:Int):=by omega
   refine⟨_,by simp only[go_sem,S,Y,g1];rfl,by simp,_,_,_,rfl,?_⟩;exact⟨t0,J,G,h5,e5,hM⟩) (by
   simp only[go_sem];refine⟨rfl,by omega,fun x hx=>?_,?_⟩
   .rw[Zk,Zk]
   .refine⟨.nil,.nil,0,0,[],?_,.inl ⟨rfl,rfl,rfl,rfl⟩,rfl,fun i h=>absurd h (zU _),by simp,by simp;omega,?_⟩
    .rw[Zi,hN]
    .rw[Zk,Zi,<- hN,<- ahn])
 clear hL;obtain⟨rV,bV,br,bb,rb,e8,d5,h0,e0,c8,c9,i3⟩:=hM;obtain⟨-,rfl,rfl,j4,j5,a0,Ua,Ub,l9,j6,m1,j7⟩:0<m/\rV= .rs br 0 m/\bV= .rs bb 0 m/\c3 br=some ⟨rb.map fun b=>V.rs b 0 (n+m+1),1,true⟩/\c3 bb=some ⟨(Ce ((List.range m).map fun i=>n+i)).flatMap cI,1,true⟩/\br≠bb/\br∉(nx+1) :: nx :: rb/\bb∉(nx+1) :: nx :: rb/\nx<=br/\br<E/\nx<=bb/\bb<E:=by
  rcases d5 with ⟨h,_⟩|h
  .omega
  .exact h
 have u5:nx+1<E:=(c9 _ (by simp)).2;have c1:8*(N:Int)<=281474976710656:=by omega
 unfold CZ at t0;rw[<- hN]at e8;simp only[go_sem,t0,J,G,f2,f3,c1,f5];generalize hL:jI _ _=z
 obtain⟨x,rfl,T2,σ2,rfl,t0,J,G,c5,r0,r1,h2⟩:=oZ hL N (fun k st=>st.T 0= .tp (CZ m n A b c) 0/\st.T 4=I N/\st.T 5= .rp (nx+1) 0/\st.T 11= .rs E 0 N/\st.T 117=I N/\st.T 118=I k/\st.nx=E+1 /\
   st.σ nx=some ⟨(pm (fun j=>decide (j<n)) (fun _=>false) k N).flatMap Hw,1,true⟩/\st.σ E=some ⟨(pm (fun j=>if j<n then(0:Int)else -1) (fun _=>0) k N).flatMap cI,1,true⟩/\∀x,x<E->x≠nx->st.σ x=c3 x)
  (fun x=>∃T σ2,x=(.exit 4,⟨T,σ2,E+1⟩)/\T 0= .tp (CZ m n A b c) 0/\T 4=I N/\T 5= .rp (nx+1) 0/\T 11= .rs E 0 N /\
   σ2 nx=some ⟨(fr0 m n).flatMap Hw,1,true⟩/\σ2 E=some ⟨(o1L m n).flatMap cI,1,true⟩/\∀x,x<E->x≠nx->σ2 x=c3 x) (by
   clear hL;rintro k ⟨T,σ2,m0⟩ hk ⟨t0,J,G,c5,c0,f0,O,hf,ho,hs⟩;simp only at t0 J G c5 c0 f0 O hf ho hs;subst O;have g1:(k:Int)<(N:Int):=by omega
   have g2:=jC k;have g3:=ZR (n:=(k:Int)+1);have Ob:=(hs (nx+1) (by omega) (by omega)).trans e8;have q1:nx+1<E+1:=by omega
   have q2:nx<E+1:=by omega
   have q3:¬nx+1=nx:=by omega
   have q4:¬nx=nx+1:=by omega
   have q5:¬E=nx:=by omega
   have q6:((pm (fun j=>decide (j<n)) (fun _=>false) k N).flatMap Hw).length=N:=by rw[acv,gi,yO]
   have q7:((pm (fun j=>if j<n then(0:Int)else -1) (fun _=>0) k N).flatMap cI).length=N:=by rw[qM,gi]
   have q8:k+1<=N:=hk;unfold CZ at t0;have e1:∀bb,bb=decide (k<n)->((pm (fun j=>decide (j<n)) (fun _=>false) k N).flatMap Hw).set k (Bo bb)=(pm (fun j=>decide (j<n)) (fun _=>false) (k+1) N).flatMap Hw:=fun bb h=>by
    rw[TU,h,Og (fun j=>decide (j<n)) (fun _=>false) hk]
   by_cases d6:k<n
   .have g4:(k:Int)<(n:Int):=by omega
    have g5:¬(n:Int)<=(k:Int):=by omega
    have e2:=e1 true (by rw[sH d6]);have e3:=TY (fun j=>if j<n then(0:Int)else -1) (fun _=>0) (k:=k) (N:=N) (by simp only[sN d6]);refine .inl ⟨_,by simp only[go_sem,t0,J,G,c5,c0,f0,Ob,hf,ho,hk,g1,g2,g3,g4,g5,q1,q2,q3,q4,q5,q6,q7,q8,e2];rfl,?_⟩;simp only[go_sem,t0,J,G,c5,c0,q5];exact⟨rfl,rfl,by rw[ho,e3],fun x hx a0=>by rw[Zj _ _ a0];exact hs x hx a0⟩
   .have g4:¬(k:Int)<(n:Int):=by omega
    have g5:(n:Int)<=(k:Int):=by omega
    have e2:=e1 false (by rw[sG d6]);have e3:((pm (fun j=>if j<n then(0:Int)else -1) (fun _=>0) k N).flatMap cI).set k (I (-1))=(pm (fun j=>if j<n then(0:Int)else -1) (fun _=>0) (k+1) N).flatMap cI:=by
     rw[qL,<- Og (fun j=>if j<n then(0:Int)else -1) (fun _=>0) hk];simp only[sO d6]
    refine .inl ⟨_,by simp only[go_sem,t0,J,G,c5,c0,f0,Ob,hf,ho,hk,g1,g2,g3,g4,g5,q1,q2,q3,q4,q5,q6,q7,q8,e2,e3];rfl,?_⟩;simp only[go_sem,t0,J,G,c5,c0,q5];refine⟨rfl,rfl,?_,fun x hx a0=>?_⟩
    .rw[Zk,Zi]
    .rw[Zk,Zj _ _ a0];exact hs x hx a0) (by
   rintro ⟨T,σ2,m0⟩ ⟨t0,J,G,c5,c0,f0,O,hf,ho,hs⟩;simp only at t0 J G c5 c0 f0 O hf ho hs;subst O;have g1:¬(N:Int)<(N:Int):=by omega
   refine⟨_,by simp only[go_sem,c0,f0,g1];rfl,by simp,_,_,rfl,?_⟩;simp only[go_sem,t0,J,G,c5];rw[T_]at hf ho;unfold fr0 o1L;rw[<- hN];exact⟨hf,ho,hs⟩) (by
   simp only[go_sem,t0,J,G];refine⟨rfl,?_,?_,fun x hx _=>?_⟩
   .rw[Zk,IU,fZ,hN];exact i3
   .rw[IU,fZ,<- fM]
   .rw[Zk])
 clear hL;have d7:∀x∈(nx+1) :: br :: bb :: nx :: rb,nx<=x/\x<E:=fun x hx=>by
  simp only[zX]at hx;rcases hx with h|h|h|h|h
  .exact c9 x (by simp[h])
  .subst h;exact⟨l9,j6⟩
  .subst h;exact⟨m1,j7⟩
  .exact c9 x (by simp[h])
  .exact c9 x (by simp[h])
 have m4:((nx+1) :: br :: bb :: nx :: rb).Nodup:=by
  simp only[xW,zX,not_or]at c8 Ua Ub⊢;exact⟨⟨fun e=>Ua.1 e.symm,fun e=>Ub.1 e.symm,c8.1.1,c8.1.2⟩,⟨a0,Ua.2.1,Ua.2.2⟩,⟨Ub.2.1,Ub.2.2⟩,c8.2.1,c8.2.2⟩
 have hT:DI σ2 (nx+1) br bb nx rb (D0 A b m n m) (n+m):=by
  obtain⟨n1,n2,n3,n4,n5,n6,n7,n8⟩:=nd4 m4;have h6:(D0 A b m n m).R.length=m:=by simp[D0,Ew]
  refine⟨?_,⟨[],?_⟩,fun i hi=>?_,⟨[],?_⟩,r0,by rw[h6,h0],m4⟩
  .rw[h2 (nx+1) (by omega) (by omega),e8,h6,hN];rfl
  .rw[h2 br j6 n5,j4,zC]
  .have r2:=zu hi
   have:=d7 rb[i] (by simp);have e:D8 (D0 A b m n m).R i=row0 A b m n i:=by
    unfold D0 Ew D8;rw[zx,zF,xO (by omega)];rfl
   rw[e];exact(e0 i hi).congr (h2 _ this.2 (n7 _ r2).2.2.2)
  .rw[h2 bb j7 n6,j5,zC];rfl
 obtain⟨u6,u7⟩:=U0 _ i7;obtain⟨d8,AO,f9,D1,ke,d0,Oa,t1,r3⟩:=asw Q1 U0 f8 (ak_ m n) i7 o4 hT (nx:=E+1) (fun x hx=>by have:=d7 x hx;omega) r1 (by omega) (fun hx=>by have:=d7 E hx;omega);rw[<- hN]at ke;obtain⟨r4,m5,m6,rfl,r5⟩:=amP f8 d0 i7;have f7:=(U0 _ m6).1.free (fr:=m5) (by rw[r5];exact(U0 _ m6).1.Xh);obtain⟨D1,r6⟩:∃D1:TZ,D1={ r4 with fr:=m5 }:=⟨_,rfl⟩;rw[<- r6]at Oa d0 f7;have La:=Oa.t;have i5:nx+1<AO:=by omega
 simp only[go_sem,qC,t0,J,G,c5,ke,La,i5];generalize hL:jI _ _=z;obtain⟨n1,n2,n3,n4,n5,n6,n7,n8⟩:=nd4 Oa.nd;have u9:=f7.Gv;have r7:=Oa.len;obtain⟨Pz,m7⟩:=Oa.r;obtain⟨LX,j8⟩:=Oa.b;have v0:(Ce D1.B).length=D1.R.length:=by rw[aA];exact f7.Bz
 obtain⟨x,rfl,hx⟩:=oZ hL D1.R.length (fun i st=>st.T 0= .tp (CZ m n A b c) 0/\st.T 4=I N/\st.T 5= .rp (nx+1) 0/\st.T 149= .rs bb 0 D1.R.length/\st.T 150=I D1.R.length/\st.T 151=I i/\st.σ=d8/\st.nx=AO/\∀j,j<i->n<=D1.B.getD j 0->¬0<en D1.R j (n+m))
  (fun x=>∃T,(x=(.exit 6,⟨T,d8,AO⟩)/\T 0= .tp (CZ m n A b c) 0/\T 5= .rp (nx+1) 0/\∀j,j<D1.R.length->n<=D1.B.getD j 0->¬0<en D1.R j (n+m)) \/
   (x=(.ret,⟨T,d8,AO⟩)/\T 2= .sc (.pointer none)/\T 3=Bo false/\∃i,i<D1.R.length/\n<=D1.B.getD i 0/\0<en D1.R i (n+m))) (by
   clear hL;rintro i ⟨T,BN,FD⟩ hi ⟨t0,J,G,Xu,Uc,d9,c4,h3,c6⟩;simp only at t0 J G Xu Uc d9 c4 h3;subst c4 h3;have g1:(i:Int)<(D1.R.length:Int):=by omega
   have g2:=jC i;have g3:=ZR (n:=(i:Int)+1);have g4:((Ce D1.B).flatMap cI++LX)[i]?=some (I ((D1.B.getD i 0:Nat):Int)):=by
    rw[zV (by rw[qM];omega),idx (by omega),aB (by have:=f7.Bz;omega)]
   unfold CZ at t0;have next:∀(hn:n<=D1.B.getD i 0->¬0<en D1.R i (n+m)),∀j,j<i+1->n<=D1.B.getD j 0->¬0<en D1.R j (n+m):=fun hn j hj h=>by
    by_cases e:j=i
    .subst e;exact hn h
    .exact c6 j (by omega) h
   by_cases m8:n<=D1.B.getD i 0
   .have g5:(n:Int)<=((D1.B.getD i 0:Nat):Int):=by omega
    have m9:i<rb.length:=by omega
    have f6:=fQ (ex:=Pz) (n:=n+m+1) m9;obtain⟨bi,FC⟩:∃bi,bi=rb[i]:=⟨_,rfl⟩;rw[<- FC]at f6;obtain⟨Li,TS,G8,TT⟩:=Oa.row i m9;have n0:BN bi=some ⟨Li.flatMap zc,2,true⟩:=by rw[FC];exact TS
    have rl:(D8 D1.R i).length=n+m+1:=by rw[dO hi];exact f7.row _ (zu hi)
    have KZ:Li.length=n+m+1:=by have:=congrArg List.length G8;rw[zQ,rl]at this;exact this
    have b7:=bU (c:=zc) (s:=2) ZN Li;rw[KZ]at b7;have g6:=cO (c:=zc) (s:=2) ZN Li N (by omega);have g7:N*2+2<=(n+m+1)*2:=by omega
    have g8:(N:Int)<((n+m+1:Nat):Int):=by omega
    obtain⟨hq,e⟩:=QI G8 (c:=N) (by rw[rl];omega);have e2:(D8 D1.R i)[N]'(by rw[rl];omega)=en D1.R i (n+m):=by
     unfold en;rw[zx,zy (by rw[rl];omega)];simp only[hN];rfl
    have z1:∀σ d,stripL (strip σ d) (zc Li[N])=some (cZ (en D1.R i (n+m)),[]):=fun σ d=>by
     rw[ZM σ d (TT _ (zu hq)),e,e2]
    have k1:=kD (en D1.R i (n+m));have c1:=pG (en D1.R i (n+m))
    by_cases e4:0<en D1.R i (n+m)
    .have c2:0<Az (en D1.R i (n+m)) 0:=by
      have:=mt c1.mp (fun h=>h e4);omega
     refine .inr ⟨_,by simp only[go_sem,t0,J,G,Xu,Uc,d9,La,j8,m7,n0,f3,f6,g1,g2,g3,g4,g5,g6,g7,g8,b7,z1,k1,c2];rfl,by simp,_,.inr ⟨rfl,?_⟩⟩;simp only[go_sem];exact⟨i,hi,m8,e4⟩
    .have c2:¬0<Az (en D1.R i (n+m)) 0:=by
      have:=c1.mpr e4;omega
     refine .inl ⟨_,by simp only[go_sem,t0,J,G,Xu,Uc,d9,La,j8,m7,n0,f3,f6,g1,g2,g3,g4,g5,g6,g7,g8,b7,z1,k1,c2];rfl,?_⟩;simp only[go_sem,t0,J,G,Xu,Uc];exact⟨rfl,rfl,next fun _=>e4⟩
   .have g5:¬(n:Int)<=((D1.B.getD i 0:Nat):Int):=by omega
    refine .inl ⟨_,by simp only[go_sem,t0,J,G,Xu,Uc,d9,j8,g1,g2,g3,g4,g5];rfl,?_⟩;simp only[go_sem,t0,J,G,Xu,Uc];exact⟨rfl,rfl,next fun h=>absurd h m8⟩) (by
   rintro ⟨T,BN,FD⟩ ⟨t0,J,G,Xu,Uc,d9,c4,h3,c6⟩;simp only at t0 J G Xu Uc d9 c4 h3;subst c4 h3;have g1:¬(D1.R.length:Int)<(D1.R.length:Int):=by omega
   refine⟨_,by simp only[go_sem,Uc,d9,g1];rfl,by simp,_,.inl ⟨rfl,?_⟩⟩;simp only[go_sem,t0,G];exact c6) (by
   simp only[go_sem,t0,J,G];exact fun j hj=>absurd hj (zU j))
 clear hL;have i6:∀x,x<nx->d8 x=σ x:=fun x hx=>by
  have e1:=r3 x (by omega) (fun h=>by
   have:=d7 x (by simp only[zX]at h⊢;rcases h with h|h|h|h<;>simp[h]);omega)
  rw[e1,h2 x (by omega) (by omega),o7 x hx]
 rcases hx with ⟨T3,⟨rfl,t0,G,c6⟩|⟨rfl,t2,t3,hi⟩⟩
 .unfold CZ at t0
  have r8:=Oa.f;have r9:D1.fr.length=N:=by rw[f7.Xh,hN]
  have n9:nx<AO:=by omega
  simp only[go_sem,t0,G,La,i5];generalize hL:jI _ _=z
  obtain⟨x,rfl,T4,BN,rfl,t0,G,s1,h4⟩:=oZ hL N (fun k st=>st.T 0= .tp (CZ m n A b c) 0/\st.T 5= .rp (nx+1) 0/\st.T 181=I N/\st.T 182=I k/\st.nx=AO /\
    st.σ nx=some ⟨(pm (fun j=>decide (j<n)) (fun j=>D1.fr.getD j false) k N).flatMap Hw,1,true⟩/\∀x,x≠nx->st.σ x=d8 x)
   (fun x=>∃T BN,x=(.exit 8,⟨T,BN,AO⟩)/\T 0= .tp (CZ m n A b c) 0/\T 5= .rp (nx+1) 0/\BN nx=some ⟨(fr0 m n).flatMap Hw,1,true⟩/\∀x,x≠nx->BN x=d8 x) (by
    clear hL;rintro k ⟨T,BN,m0⟩ hk ⟨t0,G,Xv,c7,O,hf,hs⟩;simp only at t0 G Xv c7 O hf hs;subst O;have g1:(k:Int)<(N:Int):=by omega
    have g2:=jC k;have g3:=ZR (n:=(k:Int)+1);have o0:=(hs (nx+1) (by omega)).trans La;have q3:¬nx+1=nx:=by omega
    have q4:¬nx=nx+1:=by omega
    have q6:((pm (fun j=>decide (j<n)) (fun j=>D1.fr.getD j false) k N).flatMap Hw).length=N:=by rw[acv,gi,yO]
    have q8:k+1<=N:=hk;have q9:(k:Int)<((n+m:Nat):Int):=by omega
    unfold CZ at t0;have e1:∀bb,bb=decide (k<n)->((pm (fun j=>decide (j<n)) (fun j=>D1.fr.getD j false) k N).flatMap Hw).set k (Bo bb)=(pm (fun j=>decide (j<n)) (fun j=>D1.fr.getD j false) (k+1) N).flatMap Hw:=fun bb h=>by
     rw[TU,h,Og (fun j=>decide (j<n)) (fun j=>D1.fr.getD j false) hk]
    by_cases d6:k<n
    .have g4:(k:Int)<(n:Int):=by omega
     have e2:=e1 true (by rw[sH d6]);refine .inl ⟨_,by simp only[go_sem,t0,G,Xv,c7,o0,hf,hk,g1,g2,g3,g4,i5,n9,q3,q4,q6,q8,q9,e2];rfl,?_⟩;simp only[go_sem,t0,G,Xv];exact⟨rfl,rfl,fun x a0=>by rw[Zj _ _ a0];exact hs x a0⟩
    .have g4:¬(k:Int)<(n:Int):=by omega
     have e2:=e1 false (by rw[sG d6]);refine .inl ⟨_,by simp only[go_sem,t0,G,Xv,c7,o0,hf,hk,g1,g2,g3,g4,i5,n9,q3,q4,q6,q8,q9,e2];rfl,?_⟩;simp only[go_sem,t0,G,Xv];exact⟨rfl,rfl,fun x a0=>by rw[Zj _ _ a0];exact hs x a0⟩) (by
    rintro ⟨T,BN,m0⟩ ⟨t0,G,Xv,c7,O,hf,hs⟩;simp only at t0 G Xv c7 O hf hs;subst O;have g1:¬(N:Int)<(N:Int):=by omega
    refine⟨_,by simp only[go_sem,Xv,c7,g1];rfl,by simp,_,_,rfl,?_⟩;simp only[go_sem,t0,G];rw[T_]at hf;unfold fr0;rw[<- hN];exact⟨hf,hs⟩) (by
    simp only[go_sem,t0,G,<- hN];refine⟨rfl,?_⟩;rw[IU,aaY _ r9];exact⟨r8,fun _ _=>trivial⟩)
  clear hL;have s2:=Oa.free (fr:=fr0 m n) (σ':=BN) s1 h4;obtain⟨Dx,uI,s3,D5,s4,Gw,v2,s5,s6,s7,s8⟩:=aoP Q2 o5 (Nat.le_add_right n m) h1 o6 (j9 D1 f9 d0 c6) s2 (nx:=AO) (fun x hx=>by have:=d7 x hx;omega);unfold CZ at t0;refine⟨_,by simp only[go_sem,qC,t0,G,s4];rfl,?_⟩;refine⟨Dx,uI,by omega,fun x hx=>?_,D1,f9,d0,.inr ⟨nx+1,br,bb,nx,s3,D5,rfl,c6,Gw,s5,s6,fun x hx=>?_⟩⟩
  .rw[s8 x (by omega) (fun h=>by
    have:=d7 x (by simp only[zX]at h⊢;rcases h with h|h|h|h<;>simp[h]);omega),h4 x (by omega),i6 x hx]
  .have:=d7 x (by
    simp only[zX]at hx⊢;rcases hx with h|h|h|h|h
    .exact .inl h
    .exact .inr (.inl h)
    .exact .inr (.inr (.inl h))
    .exact .inr (.inr (.inr (.inl h)))
    .exact .inr (.inr (.inr (.inr (s7.subset h)))))
   omega
 .refine⟨_,by simp only[go_sem,t2,t3],d8,AO,by omega,i6,D1,f9,d0,.inl ⟨rfl,hi⟩⟩
def AV(A b c:List Int)(m n:Nat):Prog:=⟨m,n,fun j k=>((sg b k*A.getD (k*n+j) 0:Int):Rat),fun k=>((sg b k*b.getD k 0:Int):Rat),fun j=>((c.getD j 0:Int):Rat)⟩
structure Lc (A b c:List Int) (m n:Nat):Prop where
 hA:A.length=m*n
 hb:b.length=m
 hc:c.length=n
 m0:0<m
 hm:m<=12
 hn:n<=16
 bA:∀x∈A,-1000<=x/\x<=1000
 bb:∀x∈b,-1000<=x/\x<=1000
 bc:∀x∈c,-1000<=x/\x<=1000
theorem lD{l:List Int}(h:∀x∈l,-1000<=x/\x<=1000)(i:Nat):-1000<=l.getD i 0/\l.getD i 0<=1000:=by
 rw[zx]
 by_cases hi:i<l.length
 .rw[zy hi];exact h _ (zu hi)
 .rw[yw (by omega)];simp
theorem Xw(b:List Int)(i:Nat):sg b i=1\/sg b i= -1:=by
 unfold sg;split<;>simp
theorem QO{b:List Int}{i:Nat}{x:Int}(h:-1000<=x/\x<=1000):(sg b i*x).natAbs<=1000:=by
 rcases Xw b i with e|e<;>rw[e]<;>omega
theorem aeQ(b:List Int)(i:Nat):0<=sg b i*b.getD i 0:=by
 unfold sg
 split<;>omega
section
variable {A b c:List Int} {m n:Nat}
theorem gX(h:Lc A b c m n):Whole (AV A b c m n) 1000 :=
 ⟨by decide,fun j k _ _=>⟨_,rfl,QO (lD h.bA _)⟩,fun k _=>⟨_,rfl,QO (lD h.bb _)⟩⟩
theorem gY:(AV A b c m n).Good (AV A b c m n).T0:=Prog.arX fun k _=>by
 show(0:Rat)<=((sg b k*b.getD k 0:Int):Rat)
 exact_mod_cast aeQ b k
theorem Ud:∀m,m<=12->ln (fact 1000 m)<=m+1
 |0,_=>by show ln 1<=1;exact jS (by decide)
 |m+1,h=>by
  show ln ((m+1)*(1000*fact 1000 m))<=_;rw[<- uw];have E:=jW ((m+1)*1000) (fact 1000 m);have G:=Ud m (by omega);have J:ln ((m+1)*1000)<=1:=jS (by omega);omega
theorem Xx{i j k:Nat}(hi:i<k)(E:j<n+m+1):en (Ew A b m n k) i j=cell0 A b m n i j:=by
 have e:D8 (Ew A b m n k) i=row0 A b m n i:=by
  unfold Ew D8;rw[zx,zF,xO hi];rfl
 unfold en;rw[e,zx,zy (by rw[fB];exact E),fC _ _ _ _ _ E];rfl
theorem fV{k i:Nat}(h:i<k):(List.range k).getD i 0=i:=by
 rw[zx,xO h];rfl
theorem view0:Vw (AV A b c m n) (AV A b c m n).T0 (D0 A b m n m) (List.range m):=by
 have E:(D0 A b m n m).R.length=m:=by simp[D0,Ew]
 have Y:∀i,i<m->(D0 A b m n m).B.getD i 0=n+i:=fun i hi=>by
  unfold D0;rw[zx,zF,xO hi];rfl
 refine⟨by rw[E];simp,by rw[E];simp[D0],fun x hx=>?_,fun r J=>List.mem_range.mp J,List.nodup_range,fun i j hi hj=>?_,fun i hi=>?_,fun i hi=>?_,Int.zero_lt_one,.inl ?_,fun r J hn=>absurd (List.mem_range.mpr J) hn⟩
 .obtain⟨i,-,rfl⟩:=List.mem_map.mp hx
  rw[fB];rfl
 .rw[E]at hi
  have O:j<n+m:=hj;rw[fV hi];show((en (Ew A b m n m) i j:Int):Rat)=((1:Int):Rat)*(AV A b c m n).A j i;rw[Xx hi (by omega)];unfold cell0 Prog.A;show _=((1:Int):Rat)*(if j<n then _ else if i+n=j then 1 else 0)
  by_cases G:j<n
  .rw[sN G,sN G]
   show((sg b i*A.getD (i*n+j) 0:Int):Rat)=((1:Int):Rat)*((sg b i*A.getD (i*n+j) 0:Int):Rat);generalize ((sg b i*A.getD (i*n+j) 0:Int):Rat)=q;have:((1:Int):Rat)=1:=rfl;rw[this];grind
  .rw[sO G,sO G,sN O]
   by_cases S:j=n+i
   .rw[sN S,sN (by omega)];decide+kernel
   .rw[sO S,sO (by omega)];decide+kernel
 .rw[E]at hi
  rw[fV hi];show((en (Ew A b m n m) i (n+m):Int):Rat)=((1:Int):Rat)*((sg b i*b.getD i 0:Int):Rat);rw[Xx hi (by omega)];unfold cell0;rw[sO (by omega),sO (by omega)];generalize ((sg b i*b.getD i 0:Int):Rat)=q;have:((1:Int):Rat)=1:=rfl;rw[this];grind
 .rw[E]at hi
  rw[fV hi,Y i hi];show n+i=i+n;omega
 .show((1:Int):Rat)=Lp.CU m fun q=>(AV A b c m n).A (q+n)
  have:=TA m;rw[<- show Lp.CU m (fun i k=>if i=k then(1:Rat)else 0)=Lp.CU m fun q=>(AV A b c m n).A (q+n)from oV fun i k _ _=>by
   have e:=Prog.Gi (p:=AV A b c m n) (i:=i) (k:=k);rw[show(AV A b c m n).A (i+n) k=(AV A b c m n).A (i+(AV A b c m n).n) k from rfl,e]
   by_cases h:i=k
   .rw[sN h,sN h.symm]
   .rw[sO h,sO (yu h)],this]
  rfl
theorem ahr{p:Prog}{T:Tab}{D:TZ}{ι:List Nat}(h:Vw p T D ι):D.R.length<=p.m:=by
 rw[<- h.len];have G:ι ⊆ List.range p.m:=fun r J=>List.mem_range.mpr (h.lt r J)
 have E:=h.nd.length_le_of_subset G;rw[uH]at E;exact E
theorem alc(hp:Lc A b c m n){T:Tab}{D:TZ}{ι:List Nat}(h:Vw (AV A b c m n) T D ι)(E:(AV A b c m n).Good T):(∀i j,i<D.R.length->j<=n+m->ln (en D.R i j).natAbs<=13)/\ln D.Bl.natAbs<=13:=by
 obtain⟨G,J⟩:=h.bound E (gX hp);have hm:=hp.hm;have O:=Ud m hm;have e:fact 1000 (AV A b c m n).m=fact 1000 m:=rfl;refine⟨fun i j hi S=>?_,?_⟩
 .have:=jX (G i j hi S)
  rw[e]at this;omega
 .have:=jX J
  rw[e]at this;omega
theorem IV(hp:Lc A b c m n){T:Tab}{D:TZ}{ι:List Nat}(h:Vw (AV A b c m n) T D ι)(E:(AV A b c m n).Good T)(G:D.fr.length=n+m):Xg D (n+m)/\0<D.Bl:=by
 obtain⟨J,O⟩:=h.bound E (gX hp);have S:=ahr h;have hm:=hp.hm;have hn:=hp.hn;have Y:D.R.length<=m:=S;have a0:=Ud m hm;refine⟨⟨h.row,h.Bz,by omega,G,by omega,fun i j hi hj=>?_,?_,fun i hi=>?_⟩,h.pos⟩
 .have:=jX (J i j hi hj)
  have e:fact 1000 (AV A b c m n).m=fact 1000 m:=rfl;rw[e]at this;omega
 .have:=jX O
  have e:fact 1000 (AV A b c m n).m=fact 1000 m:=rfl;rw[e]at this;omega
 .rw[h.BH i hi]
  exact E.ok.bn _ (h.io hi)
end
theorem KG{o E:Nat->Int}(k:Nat):∀(R:List (List Int)) (B:List Nat),(∀x∈B,o x=E x)->Ei o k R B=Ei E k R B
 |[],_,_=>by simp[Ei]
 |_ :: _,[],_=>by simp[Ei]
 |x :: R,y :: B,h=>by
  unfold Ei;rw[KG k R B fun z G=>h z (zY _ G),h y (by simp)]
theorem lM{o E:Nat->Int}{D:TZ}{N k:Nat}(h:∀j,j<N->o j=E j)(G:k<N)(J:∀x∈D.B,x<N):BI D o k=BI D E k:=by
 unfold BI;rw[h k G,KG k D.R D.B fun x O=>h x (J x O)]
theorem bD{o G:Nat->Int}{N:Nat}(h:∀j,j<N->o j=G j){D J:TZ}(O:∀x∈D.B,x<N)(hs:EY N o D J):EY N G D J:=by
 obtain⟨s,r,E,S,Y⟩:=hs;refine⟨s,r,⟨E.lt,E.fr,E.non,?_,fun j hj hf hm=>?_⟩,S,Y⟩
 .rw[<- lM h E.lt O];exact E.pos
 .rw[<- lM h (by have:=E.lt;omega) O];exact E.low j hj hf hm
theorem Oh{o J:Nat->Int}{N:Nat}(h:∀j,j<N->J j=o j){Q:TZ->Prop}(O:∀D,Q D->∀x∈D.B,x<N)(E:∀D G,Q D->EY N J D G->Q G):∀ {k:Nat} {D:TZ},Q D->IG N o k D->IG N J k D
 |0,_,_,hn=>hn
 |k+1,D,hq,hn=>fun G hs=>Oh h O E (E D G hq hs) (hn G (bD h (O D hq) hs))
theorem aeR{o o':Nat->Int}{N:Nat}(h:∀j,j<N->o j=o' j){Q:TZ->Prop}(hQ:∀D,Q D->∀x∈D.B,x<N)(a0:∀D G,Q D->EY N o D G->Q G){D G:TZ}{J:Bool}(hq:Q D)(hm:TD N o D J G):TD N o' D J G:=by
 obtain⟨D1,hr,O⟩:=hm;have S:EZ N o' D D1/\Q D1:=by
  clear O
  induction hr with
  |refl=>exact⟨.refl _,hq⟩
  |tail O Y ih=>exact⟨.tail ih.1 (bD h (hQ _ ih.2) Y),a0 _ _ ih.2 Y⟩
 have hB:=hQ _ S.2;refine⟨D1,S.1,?_⟩;rcases O with ⟨e,O,fr,⟨a1,a2⟩,h3⟩|⟨e,Y,s,h3,h4⟩
 .refine .inl ⟨e,fun j E hf hm=>?_,fr,⟨a1,fun j E=>?_⟩,h3⟩
  .rw[<- lM h E hB];exact O j E hf hm
  .rw[<- lM h E hB];exact a2 j E
 .refine .inr ⟨e,Y,s,⟨h3.lt,h3.fr,h3.non,?_,fun j E hf hm=>?_⟩,h4⟩
  .rw[<- lM h h3.lt hB];exact h3.pos
  .rw[<- lM h (by have:=h3.lt;omega) hB];exact h3.low j E hf hm
theorem Oi{D:TZ}{N:Nat}(h:Xg D N):∀x∈D.B,x<N:=fun x E=>by
 obtain⟨i,hi,e⟩:=jG E;rw[<- e];exact h.inB i (by rw[<- h.Bz];exact hi)
def LZ(m n:Nat)(c:List Int)(q:Nat):List Int:=(List.range (n+m)).map (oq n (fun j=>c.getD j 0) q)
theorem Xy(f:Nat->Int){N:Nat}{j:Nat}(E:j<N):oF ((List.range N).map f) j=f j:=by
 unfold oF;rw[zx,zF,xO E];rfl
theorem asF(m n:Nat)(c:List Int)(q:Nat):oF (LZ m n c q)=oq n (fun j=>c.getD j 0) q:=by
 funext j
 by_cases E:j<n+m
 .exact Xy _ E
 .unfold oF LZ oq
  rw[zx,yw (by simp;omega)]
  split
  .rw[sO (by omega)];rfl
  .rw[sO (by omega)];rfl
theorem Ue{m n:Nat}{c:List Int}(h:∀x∈c,-1000<=x/\x<=1000)(q:Nat):Obj (LZ m n c q) (n+m):=⟨by simp[LZ],fun x E=>by
 obtain⟨j,-,rfl⟩:=List.mem_map.mp E;have:=lD h j;unfold oq;simp only
 split
 .split<;>omega
 .split<;>omega⟩
section
variable {A b c:List Int} {m n:Nat}
def QA(A b c:List Int)(m n:Nat)(D:TZ):Prop:=D.fr=fr0 m n/\∃T,Vw (AV A b c m n) T D (List.range m)/\(AV A b c m n).Good T
def QB(A b c:List Int)(m n:Nat)(D:TZ):Prop:=D.fr=fr0 m n/\∃T ι,Vw (AV A b c m n) T D ι/\(AV A b c m n).Good T/\Zero (AV A b c m n) T
theorem Uf(m n:Nat):(fr0 m n).length=n+m:=by simp[fr0]
theorem acz(m n j:Nat):(fr0 m n).getD j false=true↔j<n:=by
 unfold fr0;rw[zx,zF]
 by_cases h:j<n+m
 .rw[xO h];simp
 .rw[yw (by simp;omega)];simp;omega
theorem Oj(m n:Nat):∀j,j<n+m->oF (o1L m n) j=o1 n j:=fun j E=>Xy _ E
theorem asG{T:Tab}(o:Nat->Int)(fr:List Bool):Fit (AV A b c m n) T (List.range m) o fr:=⟨fun r E hn=>absurd (List.mem_range.mpr E) hn,fun _ _=> .inr fun r E=>List.mem_range.mpr E⟩
theorem Ug(hp:Lc A b c m n){D:TZ}(h:QA A b c m n D):Xg D (n+m)/\0<D.Bl:=by
 obtain⟨E,T,G,J⟩:=h;exact IV hp G J (by rw[E];exact Uf m n)
theorem aoU(hp:Lc A b c m n){D:TZ}(h:QB A b c m n D):Xg D (n+m)/\0<D.Bl:=by
 obtain⟨E,T,ι,G,J,_⟩:=h;exact IV hp G J (by rw[E];exact Uf m n)
theorem ahs(hp:Lc A b c m n){D E:TZ}(h:QA A b c m n D)(hs:EY (n+m) (o1 n) D E):QA A b c m n E:=by
 obtain⟨J,T,O,G⟩:=h;obtain⟨T',S,Y,g3⟩:=O.step G (gX hp) (asG (o1 n) D.fr) hs;exact⟨g3.trans J,T',Y,G.step S⟩
theorem Uh(hp:Lc A b c m n){D E:TZ}(h:QA A b c m n D)(hs:EY (n+m) (oF (o1L m n)) D E):QA A b c m n E :=
 ahs hp h (bD (Oj m n) (Oi (Ug hp h).1) hs)
theorem Ui:QA A b c m n (D0 A b m n m):=⟨rfl,_,view0,gY⟩
theorem ald(hp:Lc A b c m n):∃K,IG (n+m) (oF (o1L m n)) K (D0 A b m n m) :=
 ⟨_,Oh (Oj m n) (fun D h=>Oi (Ug hp h).1) (fun D E h hs=>Uh hp h hs) Ui
  (Vw.aaL (o:=o1 n) (gX hp) view0 gY (asG (o1 n) _) (ab8 gY.ok))⟩
def ax9(A b c:List Int)(m n:Nat)(σ:Store)(nx:Nat)(r:V×Store×Nat):Prop :=
 ∃σ' nx',nx<=nx'/\(∀x,x<nx->σ' x=σ x) /\
  ((r=(.Bf [.sc (.pointer none),Bo false],σ',nx')/\(AV A b c m n).None) \/
   (∃bt br bb bf rb D T ι,r=(.Bf [.rp bt 0,Bo true],σ',nx')/\DI σ' bt br bb bf rb D (n+m)/\D.fr=fr0 m n/\Vw (AV A b c m n) T D ι/\(AV A b c m n).Good T/\(AV A b c m n).Out T/\(∀x∈D.B,x<n)/\∀x∈bt :: br :: bb :: bf :: rb,nx<=x/\x<nx'))
theorem ale(hp:Lc A b c m n)(σ:Store)(nx:Nat):∃r,ev ZK wI Am 130 [.tp (CZ m n A b c) 0] σ nx=some r/\ax9 A b c m n σ nx r:=by
 obtain⟨K,hK⟩:=ald hp;have hN:(AV A b c m n).N=n+m:=rfl;have first:∀D1 E,TD (n+m) (oF (o1L m n)) (D0 A b m n m) E D1->∃T,Vw (AV A b c m n) T D1 (List.range m)/\(AV A b c m n).Good T/\((∀i,i<D1.R.length->n<=D1.B.getD i 0->¬0<en D1.R i (n+m))->Zero (AV A b c m n) T)/\((∃i,i<D1.R.length/\n<=D1.B.getD i 0/\0<en D1.R i (n+m))->(AV A b c m n).None):=fun D1 E hm=>
  aev (p:=AV A b c m n) (gX hp) (aeR (Oj m n) (fun D h=>Oi (Ug hp h).1) (fun D D' h hs=>Uh hp h hs) Ui hm) view0 gY (fun r hr=>List.mem_range.mpr hr) (acz m n)
 obtain⟨r,h1,σ',nx',h2,h3,D1,E,h4,h5⟩:=aoQ (QA A b c m n) (QB A b c m n) (c:=c) hp.hA hp.hb hp.m0 (by have:=hp.hm;omega) (by have:=hp.hn;omega) (fun x O=>by have:=hp.bA x O;omega) (fun x O=>by have:=hp.bb x O;omega)
  (fun D h=>Ug hp h) (fun D D' h hs=>Uh hp h hs) Ui hK (fun D h=>aoU hp h)
  (fun D i k h hi hB hk a0=>by
   obtain⟨S,T,ι,v1,J,G⟩:=h;obtain⟨g1,g2,g3⟩:=aew (gX hp) v1 J G hi hB hk a0;refine⟨?_,_,_,g1,g2,g3⟩;rw[<- S];unfold Gj;split<;>rfl)
  (fun D i h hi hB hz=>by
   obtain⟨S,T,ι,v1,J,G⟩:=h;exact⟨S,T,_,aaM v1 G hi hB hz,J,G⟩)
  (fun D1 E hm Y=>by
   obtain⟨T,v1,J,G,_⟩:=first D1 E hm
   exact⟨rfl,T,_,v1.frame _,J,G Y⟩) σ nx
 refine⟨r,h1,σ',nx',h2,h3,?_⟩;obtain⟨T,v1,J,G,v4⟩:=first D1 E h4
 rcases h5 with ⟨rfl,h5⟩|⟨bt,br,bb,bf,rb,D2,rfl,h5,h6,⟨S,T2,a1,w1,w2,w3⟩,h8,h9⟩
 .exact .inl ⟨rfl,v4 h5⟩
 .exact .inr ⟨bt,br,bb,bf,rb,D2,T2,a1,rfl,h6,S,w1,w2,aex w1 h8,fun x O=>by
   obtain⟨i,hi,e⟩:=jG O;rw[<- e];exact h8 i (by rw[<- w1.Bz];exact hi),h9⟩
end
theorem TB{p:Prog}{T:Tab}(h:p.Good T)(ho:p.Out T){q s:Nat}(J:q≠0)(hs:s<p.n)(O:¬basic p.m T s)(hg:0<gm p.m T (p.C q) s)(Gt:∀i,i<p.m->T.e i s<=0):False:=by
 obtain⟨E,e⟩:∃E:Prog,E={ p with c:=p.C q }:=⟨_,rfl⟩;have hC:E.C 0=p.C q:=by
  subst e;funext j;unfold Prog.C;rw[sN rfl,sO J];show(if j<p.n then(if q=0 then _ else if j+1=q/\j<p.n then(-1:Rat)else 0)else 0)=_;rw[sO J]
  by_cases G:j<p.n
  .rw[sN G]
  .rw[sO G,sO (fun h=>G h.2)]
 have S:E.Good T:=by
  subst e;exact⟨h.ok,h.ed,h.sol⟩
 have Y:E.Out T:=by
  subst e;exact⟨ho.z⟩
 have a0:E.Open:=Prog.NI (p:=E) S Y (s:=s) (by subst e;exact hs) (by subst e;exact O) (by rw[hC];subst e;exact hg) (by subst e;exact Gt);obtain⟨x,hx,h1⟩:=a0 1;have a1:∀j,j<p.n->0<=x j:=by subst e;exact hx.2
 have hle:ob p.n (p.C q) x<=0:=by
  unfold ob;have:=bM (f:=fun j=> -(p.C q j*x j)) (n:=p.n) fun j G=>by
   have:=a1 j G;unfold Prog.C;rw[sO J]
   split<;>grind
  have e2:=bP (-1) (fun j=>p.C q j*x j) p.n;have e3:sm (fun j=> -(p.C q j*x j)) p.n=sm (fun j=> -1*(p.C q j*x j)) p.n:=bQ fun j _=>by grind
  rw[e3,e2]at this;grind
 have:ob E.n E.c x=ob p.n (p.C q) x:=by subst e;rfl
 rw[this]at h1;grind
section
variable {A b c:List Int} {m n:Nat}
def QC(A b c:List Int)(m n:Nat)(ι:List Nat)(fr:List Bool)(D:TZ):Prop:=D.fr=fr/\∃T,Vw (AV A b c m n) T D ι/\(AV A b c m n).Good T
theorem amQ(hp:Lc A b c m n){q:Nat}{v:Nat->Rat}{σ:Store}{nx bt br bb bf bo:Nat}{rb ι:List Nat}{D:TZ}{T:Tab}(h:DI σ bt br bb bf rb D (n+m))(hv:Vw (AV A b c m n) T D ι)(hg:(AV A b c m n).Good T)(ho:(AV A b c m n).Out T)
  (a0:(AV A b c m n).Et q v (fun j=>D.fr.getD j false=true) T) (O:D.fr.length=n+m) (a1:∀x∈D.B,x<n) (a2:∀b∈bt :: br :: bb :: bf :: rb,b<nx) (a3:σ bo=some ⟨(LZ m n c q).flatMap cI,1,true⟩) (a4:bo<nx) (a5:bo∉bt :: br :: bb :: bf :: rb) :
  ∃σ' nx' E J T',ev ZK wI Am 131 [.rp bt 0,.rs bo 0 (n+m)] σ nx=some (Bo E,σ',nx')/\DI σ' bt br bb bf rb J (n+m)/\nx<=nx'/\(∀b,b<nx->b∉bt :: bb :: bf :: rb->σ' b=σ b) /\
   Vw (AV A b c m n) T' J ι/\(AV A b c m n).Good T'/\(AV A b c m n).Out T'/\J.fr.length=n+m/\(∀x∈J.B,x<n)/\((E=true/\∃v',(AV A b c m n).Et (q+1) v' (fun j=>J.fr.getD j false=true) T')\/(E=false/\q=0/\(AV A b c m n).Open)):=by
 have hw:=gX hp;have S:∀j,D.fr.getD j false=true->j<n:=fun j hj=>a0.inn j hj
 have sh:∀D1,QC A b c m n ι D.fr D1->Xg D1 (n+m)/\0<D1.Bl:=fun D1 ⟨e,T1,h1,h2⟩=>IV hp h1 h2 (by rw[e];exact O)
 have oe:=asF m n c q;have Y:∀D1 D2,QC A b c m n ι D.fr D1->EY (n+m) (oF (LZ m n c q)) D1 D2->QC A b c m n ι D.fr D2:=fun D1 D2 ⟨e,T1,h1,h2⟩ hs=>by
  rw[oe]at hs;obtain⟨T2,g1,g2,g3⟩:=h1.step h2 hw (an6 (c:=fun j=>c.getD j 0) (q:=q) h1 (by rw[e];exact S)) hs;exact⟨g3.trans e,T2,g2,h2.step g1⟩
 have a6:IG (n+m) (oF (LZ m n c q)) (2^(n+m)) D:=by
  rw[oe];exact Vw.aaL (o:=oq n (fun j=>c.getD j 0) q) hw hv hg (an6 hv S) (ab8 hg.ok)
 obtain⟨σ',nx',E,J,ke,G,hT,hn,hf⟩:=asw (QC A b c m n ι D.fr) sh Y (Ue hp.bc q) ⟨rfl,T,hv,hg⟩ a6 h a2 a3 a4 a5;rw[oe]at G;obtain⟨T',v1,v2,v3,v4,v5⟩:=aey (p:=AV A b c m n) hw (c:=fun j=>c.getD j 0) (fun j _=>rfl) G hv hg ho a0 (by rw[O];exact zq _);have a7:∀x∈J.B,x<n:=by
  obtain⟨D1,fr,⟨_,h1⟩,rfl,-⟩:=amP (Q:=fun D1=>D1.fr=D.fr/\∀x∈D1.B,x<n) (fun D1 D2 ⟨e,hB⟩ hs=>by
   obtain⟨s,r,g1,g2,rfl⟩:=hs;have e1:(Gj D1 r s).fr=D1.fr:=by unfold Gj;split<;>rfl
   have e2:(Gj D1 r s).B=D1.B.set r s:=by unfold Gj;split<;>rfl
   refine⟨e1.trans e,fun x hx=>?_⟩;rw[e2]at hx;rcases ug hx with h|h
   .exact hB x h
   .subst h;exact S _ (by rw[<- e];exact g1.fr)) G ⟨rfl,a1⟩
  exact h1
 refine⟨σ',nx',E,J,T',ke,hT,hn,hf,v1,v2,v3,v4.trans O,a7,?_⟩;rcases v5 with ⟨e,v5⟩|⟨e,s,s1,s2,s3,s4⟩
 .exact .inl ⟨e,_,v5⟩
 .by_cases hq:q=0
  .subst hq
   exact .inr ⟨e,rfl,Prog.NI v2 v3 s1 s2 s3 s4⟩
  .exact(TB v2 v3 hq s1 s2 s3 s4).elim
end
theorem DI.congr{σ σ':Store}{bt br bb bf:Nat}{rb:List Nat}{D:TZ}{N:Nat}(h:DI σ bt br bb bf rb D N)(e:∀x∈bt :: br :: bb :: bf :: rb,σ' x=σ x):DI σ' bt br bb bf rb D N:=by
 refine⟨?_,?_,fun i hi=>(h.row i hi).congr (e _ ?_),?_,?_,h.len,h.nd⟩
 .rw[e bt (by simp)];exact h.t
 .rw[e br (by simp)];exact h.r
 .have:=zu hi
  simp[this]
 .rw[e bb (by simp)];exact h.b
 .rw[e bf (by simp)];exact h.f
section
variable {A b c:List Int} {m n:Nat}
theorem aht(hc:c.length=n):LZ m n c 0=c++List.replicate m 0:=by
 apply yR
 .simp[LZ,hc]
 .intro j E G
  have J:j<n+m:=by simpa[LZ]using E
  have e:(LZ m n c 0)[j]=if j<n then c.getD j 0 else 0:=by simp[LZ,oq]
  rw[e,List.getElem_append]
  by_cases h:j<n
  .rw[sN h,dif_pos (by omega),zx,zy (by omega)];rfl
  .rw[sO h,dif_neg (by omega),List.getElem_replicate]
theorem ahu(k:Nat)(G:k<n):LZ m n c (k+1)=(List.replicate (n+m) 0).set k (-1):=by
 apply yR
 .simp[LZ]
 .intro j E J
  have O:j<n+m:=by simpa[LZ]using E
  have e:(LZ m n c (k+1))[j]=if j=k/\j<n then -1 else 0:=by simp[LZ,oq]
  rw[e,wG]
  by_cases h:k=j
  .rw[sN h,sN ⟨h.symm,by omega⟩]
  .rw[sO h,sO (fun g=>h g.1.symm),List.getElem_replicate]
theorem aoV(hc:c.length=n)(σ:Store)(nx b:Nat):Hu (upd σ b (some ⟨rep (n+m) [I 0],1,true⟩)) nx (c.flatMap cI) c.length (.rs b 0 (n+m))=some (I ((n:Nat):Int),upd σ b (some ⟨(LZ m n c 0).flatMap cI,1,true⟩),nx):=by
 unfold Hu;have e:min c.length (n+m)=n:=by omega
 have E:(c.flatMap cI).length=n:=by rw[qM,hc]
 have G:(LZ m n c 0).flatMap cI=c.flatMap cI++rep m [I 0]:=by rw[aht hc,zS,fM]
 simp only[e,Zi,zk,Zh];rw[G]
 by_cases hn:n=0
 .rw[sN hn]
  have:c=[]:=zZ (by omega);subst hn this;simp
 .rw[sO hn,sN ⟨trivial,by rw[fK];simp,by
   rw[wo];intro v J;obtain⟨x,-,O⟩:=List.mem_flatMap.mp (wJ J);rw[List.mem_singleton.mp O];rfl⟩]
  rw[zl (by omega),iF _ _ _ (by rw[E,fK];simp),E];congr 4;rw[List.take_zero,yM,yY];congr 1;have:rep (n+m) [I 0]=rep n [I 0]++rep m [I 0]:=by rw[fM,fM,fM,<- zS,vk]
  rw[this,List.drop_left' (by rw[fK];simp)]
theorem alf{L:List Int}{N:Nat}(S:L.length=N)(σ:Store)(nx b:Nat)(hb:σ b=some ⟨L.flatMap cI,1,true⟩)(G:N≠0):Gg σ nx [I 0] (.rs b 0 N)=some (.Bf [],upd σ b (some ⟨(List.replicate N 0).flatMap cI,1,true⟩),nx):=by
 unfold Gg;simp only;rw[sO G,hb];have E:(rep N [I 0]).length=N:=by rw[fK];simp
 simp only[zk];rw[sN ⟨trivial,by rw[qM];omega,by
  rw[fM,wo];intro v J;obtain⟨x,-,O⟩:=List.mem_flatMap.mp J;rw[List.mem_singleton.mp O];rfl⟩]
 rw[iF _ _ _ (by rw[E,qM];omega),E,List.take_zero,yM,yY,xk (by rw[qM];omega),zC,fM]
def cF(q:Rat):List V:=[.tp (cQ q) 0]
def asH(p:Prog)(r:V):Prop:=(r= .Bf [I 2,.ts [] 0,.sc (.pointer none)]/\p.None)\/(r= .Bf [I 3,.ts [] 0,.sc (.pointer none)]/\p.Open) \/
 ∃x:Nat->Rat,p.Best x/\(∀j,j<p.n->Ln 24 (x j))/\r= .Bf [I 0,LL cF ((List.range p.n).map x),.tp (cQ (ob p.n p.c x)) 0]
theorem acA{a:Int}{d k:Nat}(ha:ln a.natAbs<=k)(E:ln d<=k)(G:1<=k):Ln k (mkRat a d):=by
 constructor
 .rw[Rat.num_mkRat]
  split
  .show ln 0<=k;rw[jR];omega
  .exact zT (jX (Int.natAbs_ediv_le_natAbs _ _)) ha
 .rw[Rat.den_mkRat]
  split
  .exact zT (jS (by decide)) G
  .exact zT (jX (xA _ _)) E
theorem aa1{x y:Rat}{k l:Nat}(h:Ln k x)(E:Ln l y)(G:1<=k+l):Ln (k+l) (x*y):=by
 rw[Rat.mul_def'];refine acA ?_ (QG h E) G;have:=jV x.num y.num;have:=h.1;have:=E.1;omega
theorem aa2{x y:Rat}{k l:Nat}(h:Ln k x)(E:Ln l y):Ln (k+l+1) (x+y):=by
 rw[Rat.add_def'];refine acA ?_ (zT (QG h E) (by omega)) (by omega);have G:=jU h E;have J:=jU E h;have:=IL (x.num*y.den) (y.num*x.den);omega
theorem sF{z:Int}(h:-1000000<=z/\z<=1000000):Ln 1 (z:Rat):=⟨jS (by show z.natAbs<_;omega),jS (by show 1<_;decide)⟩
theorem aoW(X:List Rat):∀(k:Nat) (q:Rat),(X.flatMap cF).set k (.tp (cQ q) 0)=(X.set k q).flatMap cF:=by
 induction X with
 |nil=>intro k q;rfl
 |cons a X E=>intro k q;cases k with
  |zero=>rfl
  |succ k=>show V.tp (cQ a) 0 :: ((X.flatMap cF).set k (.tp (cQ q) 0))=_;rw[E];rfl
theorem qO(X:List Rat):(X.flatMap cF).length=X.length:=by
 induction X with
 |nil=>rfl
 |cons a X E=>rw[zJ,zo,E,zW];show 1+_=_;omega
theorem qP(X:List Rat){k:Nat}(h:k<X.length):(X.flatMap cF)[k]?=some (.tp (cQ X[k]) 0):=by
 induction X generalizing k with
 |nil=>exact absurd h (zU k)
 |cons a X E=>cases k with
  |zero=>rfl
  |succ k=>exact E (k:=k) (by simpa using h)
theorem ahv(k N:Nat)(h:k<N):((List.replicate k (0:Rat)).flatMap cF++rep (N-k) [.sc (.pointer none)]).set k (.tp (cQ 0) 0)=(List.replicate (k+1) (0:Rat)).flatMap cF++rep (N - (k+1)) [.sc (.pointer none)]:=by
 rw[xH _ _ (by rw[qO,yT];exact zq _),qO,yT,yQ,show N-k=N - (k+1)+1 by omega,fJ,uG,zS,yh];rfl
theorem IW(σ:Store)(d:Nat):∀X:List Rat,stripL (strip σ (d+1)) (X.flatMap cF)=some (X.flatMap cF,[])
 |[]=>by rw[w_,aX]
 |q :: X=>by
  rw[zJ,show cF q++X.flatMap cF=V.tp (cQ q) 0 :: X.flatMap cF from rfl,ak,aN,IW σ d X];rfl
def xB(B:List Nat)(f:Nat->Rat)(i n:Nat):List Rat:=(List.range n).map fun j=>if j∈B.take i then f j else 0
theorem ZO(B:List Nat)(f:Nat->Rat)(i n:Nat):(xB B f i n).length=n:=by simp[xB]
theorem acB(B:List Nat)(f:Nat->Rat)(n:Nat):xB B f 0 n=List.replicate n 0:=by simp[xB,List.map_const']
theorem ahw{B:List Nat}(f:Nat->Rat){i n:Nat}(hi:i<B.length):(xB B f i n).set (B.getD i 0) (f (B.getD i 0))=xB B f (i+1) n:=by
 have hb:B[i]=B.getD i 0:=by rw[zx,zy hi];rfl
 apply yR
 .rw[yP,ZO,ZO]
 .intro j O G
  have J:j<n:=by rw[ZO]at G;exact G
  have e:∀i,(xB B f i n)[j]'(by rw[ZO];exact J)=if j∈B.take i then f j else 0:=fun i=>by simp[xB]
  rw[wG,e,e,yJ,zy hi,hb]
  by_cases h:B.getD i 0=j
  .rw[sN h,h,sN (by simp)]
  .rw[sO h]
   by_cases E:j∈B.take i
   .rw[sN E,sN (by simp[E])]
   .rw[sO E,sO (by simp[E];exact fun e=>h e.symm)]
theorem aoX(hp:Lc A b c m n):∃r,fn ZK wI Am 95 [.tp (CZ m n A b c) 0]=some r/\asH (AV A b c m n) r:=by
 have O:=hp.m0;have hm:=hp.hm;have hn:=hp.hn;have hc:=hp.hc;obtain⟨r0,kb,d5,qI,l6,-,hr⟩:=ale hp pI 0;obtain⟨N,hN⟩:∃N,N=n+m:=⟨_,rfl⟩;rw[m_,mg [.tmp 2,.tmp 3,.tmp 4] [24] func95];unfold CZ at kb⊢;rcases hr with ⟨rfl,d0⟩|⟨bt,br,bb,bf,rb,D,T,ι,rfl,hT,d6,hv,hg,ho,f5,a1⟩
 .simp only[go_sem,qC,kb]
  exact⟨_,rfl,.inl ⟨rfl,d0⟩⟩
 .have d1:=hT.t
  have f1:bt<qI:=(a1 bt (by simp)).2;rw[<- hN]at d1;have f2:=jC N;have f3:8*(N:Int)<=281474976710656:=by omega
  have f4:(N:Int)<=9223372036854775807:=by omega
  have kc:=aoV (m:=m) hc d5 (qI+1) qI;rw[<- hN]at kc;obtain⟨σ2,EC⟩:∃σ2,σ2=upd d5 qI (some ⟨(LZ m n c 0).flatMap cI,1,true⟩):=⟨_,rfl⟩;rw[<- EC]at kc;have f7:DI σ2 bt br bb bf rb D (n+m):=hT.congr fun x G=>by rw[EC,Zj _ _ (by have:=a1 x G;omega)]
  obtain⟨l7,AO,f8,D3,T3,km,Oa,l8,f9,g0,h0,h4,h5,h6,d7⟩:=amQ hp (q:=0) (v:=fun _=>0) (bo:=qI) (nx:=qI+1) f7 hv hg ho (by
   rw[d6];have:(fun j=>(fr0 m n).getD j false=true)=fun j=>j<(AV A b c m n).n:=by funext j;exact propext (acz m n j)
   rw[this];exact Prog.stage0) (by rw[d6];exact Uf m n) f5 (fun x G=>by have:=a1 x G;omega) (by rw[EC,Zi]) (by omega) (fun G=>by have:=a1 qI G;omega)
  rw[<- hN]at km;rcases d7 with ⟨rfl,v1,h7⟩|⟨rfl,-,h8⟩
  .simp only[go_sem,qC,kb,d1,f1,f2,f3,f4,kc,km]
   generalize hL:jI _ _=y
   obtain⟨x,rfl,T4,BN,J,rfl,t0,Y,E,U4,v4,a5,a2,a4,b3,Xz⟩:=oZ hL n (fun k st=>st.T 0= .tp (CZ m n A b c) 0/\st.T 5= .rp bt 0/\st.T 7= .rs qI 0 N/\st.T 41=I n/\st.T 42=I k/\qI<st.nx/\(∃L:List Int,L.length=N/\st.σ qI=some ⟨L.flatMap cI,1,true⟩) /\
     ∃D U v,DI st.σ bt br bb bf rb D (n+m)/\Vw (AV A b c m n) U D ι/\(AV A b c m n).Good U/\(AV A b c m n).Out U/\D.fr.length=n+m/\(∀x∈D.B,x<n)/\(AV A b c m n).Et (k+1) v (fun j=>D.fr.getD j false=true) U)
    (fun x=>∃T BN J,x=(.exit 0,⟨T,BN,J⟩)/\T 0= .tp (CZ m n A b c) 0/\T 5= .rp bt 0/\∃D U v,DI BN bt br bb bf rb D (n+m)/\Vw (AV A b c m n) U D ι/\(AV A b c m n).Good U/\(AV A b c m n).Out U/\D.fr.length=n+m/\(∀x∈D.B,x<n)/\(∀x∈bt :: br :: bb :: bf :: rb,x<J)/\(AV A b c m n).Et (n+1) v (fun j=>D.fr.getD j false=true) U) (by
     clear hL;rintro k ⟨T,BN,J⟩ hk ⟨t0,Y,t7,a7,b4,b5,⟨L,hL,c5⟩,E,U,v,a5,a2,a4,b3,b6,b8,Xz⟩;simp only at t0 Y t7 a7 b4 b5 c5 a5;have g1:(k:Int)<(n:Int):=by omega
     have g2:=jC k;have g3:=ZR (n:=(k:Int)+1);have g4:=alf hL BN J qI c5 (by omega);obtain⟨Dx,c6⟩:∃Dx,Dx=upd BN qI (some ⟨(LZ m n c (k+1)).flatMap cI,1,true⟩):=⟨_,rfl⟩;have g5:((List.replicate N (0:Int)).flatMap cI).set k (I (-1))=(LZ m n c (k+1)).flatMap cI:=by rw[qL,ahu k hk,hN]
     have g6:((List.replicate N (0:Int)).flatMap cI).length=N:=by rw[qM];simp
     have g7:(k:Int)<(N:Int):=by omega
     have g8:k<N:=by omega
     have g9:k+1<=N:=by omega
     have Gw:DI Dx bt br bb bf rb E (n+m):=a5.congr fun x G=>by rw[c6,Zj _ _ (by have:=a1 x G;omega)]
     obtain⟨CY,BD,f8,D6,U6,d8,h9,Ol,i0,i1,i2,i3,d9,i4,i5⟩:=amQ hp (q:=k+1) (bo:=qI) (nx:=J) Gw a2 a4 b3 Xz b6 b8 (fun x G=>by have:=a1 x G;omega) (by rw[c6,Zi]) b5 (fun G=>by have:=a1 qI G;omega);rw[<- hN]at d8;unfold CZ at t0;rcases i5 with ⟨rfl,v6,i6⟩|⟨_,h,_⟩
     .refine .inl ⟨_,by simp only[go_sem,qC,t0,Y,t7,a7,b4,g1,g2,g3,g4,g5,g6,g7,g8,g9,<- c6,d8];rfl,?_⟩
      simp only[go_sem,t0,Y,t7,a7];refine⟨rfl,rfl,by omega,⟨LZ m n c (k+1),by rw[(Ue hp.bc _).1,hN],?_⟩,D6,U6,v6,h9,i1,i2,i3,d9,i4,i6⟩;rw[i0 qI b5 (fun G=>by
       have:=a1 qI (by simp only[zX]at G⊢;rcases G with h|h|h|h<;>simp[h]);omega),c6,Zi]
     .omega) (by
     rintro ⟨T,BN,J⟩ ⟨t0,Y,t7,a7,b4,b5,c5,E,U,v,a5,a2,a4,b3,b6,b8,Xz⟩;simp only at t0 Y t7 a7 b4 b5 c5 a5;have g1:¬(n:Int)<(n:Int):=by omega
     refine⟨_,by simp only[go_sem,a7,b4,g1];rfl,by simp,_,_,_,rfl,?_⟩;simp only[go_sem,t0,Y];exact⟨E,U,v,a5,a2,a4,b3,b6,b8,fun x G=>by have:=a1 x G;omega,Xz⟩) (by
     simp only[go_sem,CZ];refine⟨by omega,⟨LZ m n c 0,by rw[(Ue hp.bc _).1,hN],?_⟩,D3,T3,v1,Oa,g0,h0,h4,h5,h6,h7⟩;rw[f9 qI (by omega) (fun G=>by
      have:=a1 qI (by simp only[zX]at G⊢;rcases G with h|h|h|h<;>simp[h]);omega),EC,Zi])
   clear hL;obtain⟨b6,b8,a3,e0⟩:=Xz;have i7:=IV hp a2 a4 b6;have i9:=e0.best a4 b3;have h1:=jC n;have h2:8*(n:Int)<=281474976710656:=by omega
   have h3:(n:Int)<=9223372036854775807:=by omega
   unfold CZ at t0;simp only[go_sem,t0,Y,h1,h2,h3];generalize hL:jI _ _=y;obtain⟨x,rfl,T5,Dx,rfl,t0,Y,S,j0,j1⟩:=oZ hL n (fun k st=>st.T 0= .tp (CZ m n A b c) 0/\st.T 5= .rp bt 0/\st.T 9= .rs J 0 n/\st.T 59=I n/\st.T 60=I k/\st.nx=J+1/\st.σ J=some ⟨(List.replicate k (0:Rat)).flatMap cF++rep (n-k) [.sc (.pointer none)],1,true⟩/\∀x,x<J->st.σ x=BN x)
    (fun x=>∃T Dx,x=(.exit 2,⟨T,Dx,J+1⟩)/\T 0= .tp (CZ m n A b c) 0/\T 5= .rp bt 0/\T 9= .rs J 0 n/\Dx J=some ⟨(List.replicate n (0:Rat)).flatMap cF,1,true⟩/\∀x,x<J->Dx x=BN x) (by
     clear hL;rintro k ⟨T,Dx,m0⟩ hk ⟨t0,Y,S,a8,b9,O,G,hs⟩;simp only at t0 Y S a8 b9 O G hs;subst O;have g1:(k:Int)<(n:Int):=by omega
     have g2:=jC k;have g3:=ZR (n:=(k:Int)+1);have g4:fn ZK conv ext 65 [I 0]=some (.tp (cQ 0) 0):=jv 0 (by decide) (by decide)
     have g5:=ahv k n hk;have g6:((List.replicate k (0:Rat)).flatMap cF++rep (n-k) [.sc (.pointer none)]).length=n:=by rw[zo,qO,fK];simp;omega
     have g7:k+1<=n:=hk;refine .inl ⟨_,by simp only[go_sem,t0,Y,S,a8,b9,G,hk,g1,g2,g3,g4,g5,g6,g7];rfl,?_⟩;simp only[go_sem,t0,Y,S,a8];exact⟨rfl,fun x G=>by rw[Zk];exact hs x G⟩) (by
     rintro ⟨T,Dx,m0⟩ ⟨t0,Y,S,a8,b9,O,G,hs⟩;simp only at t0 Y S a8 b9 O G hs;subst O;have g1:¬(n:Int)<(n:Int):=by omega
     refine⟨_,by simp only[go_sem,a8,b9,g1];rfl,by simp,_,_,rfl,?_⟩;simp only[go_sem,t0,Y,S];rw[yQ]at G;have:rep 0 [V.sc (.pointer none)]=[]:=rfl;rw[this,zC]at G;exact⟨G,hs⟩) (by
     simp only[go_sem,t0,Y,CZ];exact⟨rfl,fun x G=>by rw[Zk]⟩)
   clear hL;have Gw:DI Dx bt br bb bf rb E (n+m):=a5.congr fun x G=>j1 x (a3 x G)
   obtain⟨hS,l5⟩:=i7;have e1:=Gw.t;have j2:bt<J:=a3 bt (by simp);unfold CZ at t0;obtain⟨n1,n2,n3,n4,n5,n6,n7,n8⟩:=nd4 Gw.nd;have l9:=hS.Gv;have j3:=Gw.len;obtain⟨Pz,j4⟩:=Gw.r;obtain⟨LX,j5⟩:=Gw.b;have m1:(Ce E.B).length=E.R.length:=by rw[aA];exact hS.Bz
   have j6:E.B.length=E.R.length:=hS.Bz;have e3:bt<J+1:=by omega
   have d9:∀x,x∈bt :: br :: bb :: bf :: rb->x<J:=a3;simp only[go_sem,t0,Y,e1,e3];generalize hL:jI _ _=y;obtain⟨x,rfl,T6,CY,rfl,t0,S,c7⟩:=oZ hL E.R.length (fun i st=>st.T 0= .tp (CZ m n A b c) 0/\st.T 5= .rp bt 0/\st.T 9= .rs J 0 n/\st.T 71= .rs bb 0 E.R.length/\st.T 72=I E.R.length/\st.T 73=I i/\st.nx=J+1/\st.σ J=some ⟨(xB E.B (BH m U4) i n).flatMap cF,1,true⟩/\∀x,x<J->st.σ x=Dx x)
    (fun x=>∃T CY,x=(.exit 4,⟨T,CY,J+1⟩)/\T 0= .tp (CZ m n A b c) 0/\T 9= .rs J 0 n/\CY J=some ⟨(xB E.B (BH m U4) E.R.length n).flatMap cF,1,true⟩) (by
     clear hL;rintro i ⟨T,CY,m0⟩ hi ⟨t0,Y,S,c0,a9,c2,O,G,hs⟩;simp only at t0 Y S c0 a9 c2 O G hs;subst O;have g1:(i:Int)<(E.R.length:Int):=by omega
     have g2:=jC i;have g3:=ZR (n:=(i:Int)+1);have g4:((Ce E.B).flatMap cI++LX)[i]?=some (I ((E.B.getD i 0:Nat):Int)):=by
      rw[zV (by rw[qM];omega),idx (by omega),aB (by omega)]
     have e4:E.B.getD i 0<n:=b8 _ (kZ (by omega));have a0:=read a2 a4 hi;have c9:=ahw (B:=E.B) (BH m U4) (i:=i) (n:=n) (by omega);obtain⟨bi,FC⟩:∃bi,bi=E.B.getD i 0:=⟨_,rfl⟩;rw[<- FC]at g4 e4 a0 c9;have e6:i<rb.length:=by omega
     have f6:=fQ (ex:=Pz) (n:=n+m+1) e6;obtain⟨ri,d2⟩:∃ri,ri=rb[i]:=⟨_,rfl⟩;rw[<- d2]at f6;obtain⟨Li,TS,G8,TT⟩:=Gw.row i e6;have Yk:ri<J:=a3 ri (by rw[d2];simp[zu]);have j7:CY ri=some ⟨Li.flatMap zc,2,true⟩:=by rw[hs ri Yk,d2];exact TS
     have rl:(D8 E.R i).length=n+m+1:=by rw[dO hi];exact hS.row _ (zu hi)
     have KZ:Li.length=n+m+1:=by have:=congrArg List.length G8;rw[zQ,rl]at this;exact this
     have b7:=bU (c:=zc) (s:=2) ZN Li;rw[KZ]at b7;have g6:=cO (c:=zc) (s:=2) ZN Li (n+m) (by omega);have g7:(n+m)*2+2<=(n+m+1)*2:=by omega
     have g8:((n+m:Nat):Int)<((n+m+1:Nat):Int):=by omega
     have g9:(0:Int)<=((n+m:Nat):Int):=by omega
     obtain⟨hq,e⟩:=QI G8 (c:=n+m) (by rw[rl];omega);have e2:(D8 E.R i)[n+m]'(by rw[rl];omega)=en E.R i (n+m):=by
      unfold en;rw[zx,zy (by rw[rl];omega)];rfl
     have z1:∀σ d,stripL (strip σ d) (zc Li[n+m])=some (cZ (en E.R i (n+m)),[]):=fun σ d=>by
      rw[ZM σ d (TT _ (zu hq)),e,e2]
     have k1:fn ZK wI Am 132 [.agg (cZ (en E.R i (n+m))),LI (dg E.Bl.natAbs)]=some (.tp (cQ (BH m U4 bi)) 0):=by
      rw[NW _ _ (by have:=hS.big i (n+m) hi (zq _);omega) (by omega) (by have:=hS.Bl;omega)];have:mkRat (en E.R i (n+m)) E.Bl.natAbs=BH m U4 bi:=by
       rw[<- show((en E.R i (n+m):Int):Rat) / E.Bl=BH m U4 bi from a0,Rat.mkRat_eq_div];congr 1;have:((E.Bl.natAbs:Nat):Int)=E.Bl:=by omega
       rw[<- Rat.intCast_natCast,this]
      rw[this]
     have j8:(bi:Int)<(n:Int):=by omega
     have j9:=jC bi;have k0:bi+1<=n:=by omega
     have q1:=aoW (xB E.B (BH m U4) i n) bi (BH m U4 bi);rw[c9]at q1;have q2:((xB E.B (BH m U4) i n).flatMap cF).length=n:=by rw[qO,ZO]
     have q3:bb<J:=a3 bb (by simp);have q4:br<J:=a3 br (by simp);have k4:=(hs bb q3).trans j5;have k5:=(hs br q4).trans j4;have k6:=(hs bt j2).trans e1;have q5:bb<J+1:=by omega
     have q6:br<J+1:=by omega
     have q7:ri<J+1:=by omega
     have q8:J<J+1:=by omega
     unfold CZ at t0;refine .inl ⟨_,by simp only[go_sem,t0,Y,S,c0,a9,c2,G,k4,k5,k6,j7,f6,g1,g2,g3,g4,g6,g7,g8,g9,j8,j9,k0,e3,b7,z1,k1,e4,q1,q2,q5,q6,q7,q8];rfl,?_⟩;simp only[go_sem,t0,Y,S,c0,a9];exact⟨rfl,rfl,fun x G=>by rw[Zk];exact hs x G⟩) (by
     rintro ⟨T,CY,m0⟩ ⟨t0,Y,S,c0,a9,c2,O,G,hs⟩;simp only at t0 Y S c0 a9 c2 O G hs;subst O;have g1:¬(E.R.length:Int)<(E.R.length:Int):=by omega
     refine⟨_,by simp only[go_sem,a9,c2,g1];rfl,by simp,_,_,rfl,?_⟩;simp only[go_sem,t0,S];exact G) (by
     simp only[go_sem,t0,Y,S,CZ,acB];exact⟨j0,fun _ _=>trivial⟩)
   clear hL;have k7:xB E.B (BH m U4) E.R.length n=(List.range n).map (BH m U4):=by
    unfold xB;rw[<- j6,yX];apply xG;intro j hj
    by_cases h:j∈E.B
    .rw[sN h]
    .rw[sO h];exact(WW a2 (List.mem_range.mp hj) h).symm
   rw[k7]at c7;have e7:=alc hp a2 a4;have e8:∀j,j<n->Ln 24 (BH m U4 j):=fun j hj=>by
    by_cases h:j∈E.B
    .obtain⟨i,hi,e⟩:=jG h
     have e9:i<E.R.length:=by omega
     have a0:=read a2 a4 e9;rw[e]at a0;have:mkRat (en E.R i (n+m)) E.Bl.natAbs=BH m U4 j:=by
      rw[<- show((en E.R i (n+m):Int):Rat) / E.Bl=BH m U4 j from a0,Rat.mkRat_eq_div];congr 1;have:((E.Bl.natAbs:Nat):Int)=E.Bl:=by omega
      rw[<- Rat.intCast_natCast,this]
     rw[<- this];exact acA (zT (e7.1 i (n+m) e9 (zq _)) (by decide)) (zT e7.2 (by decide)) (by decide)
    .rw[show BH m U4 j=0 from WW a2 hj h]
     exact(sF (z:=0) (by decide)).mono (by decide)
   obtain⟨X,hX⟩:∃X:List Rat,X=(List.range n).map (BH m U4):=⟨_,rfl⟩;have c8:X.length=n:=by rw[hX];simp
   have k8:∀j (h:j<n),X[j]'(by omega)=BH m U4 j:=fun j h=>by subst hX;simp
   rw[<- hX]at c7;have g4:fn ZK conv ext 65 [I 0]=some (.tp (cQ 0) 0):=jv 0 (by decide) (by decide)
   unfold CZ at t0;simp only[go_sem,t0,S,g4];generalize hL:jI _ _=y;obtain⟨x,rfl,T7,rfl,S,a6⟩:=oZ hL n (fun k st=>st.T 0= .tp (CZ m n A b c) 0/\st.T 9= .rs J 0 n/\st.T 102= .rs J 0 n/\st.T 103=I n/\st.T 104=I k/\st.nx=J+1/\st.σ=CY/\∃s,st.T 13= .tp (cQ s) 0/\s=sm (fun j=>((c.getD j 0:Int):Rat)*BH m U4 j) k/\Ln (1+52*k) s)
    (fun x=>∃T,x=(.exit 6,⟨T,CY,J+1⟩)/\T 9= .rs J 0 n/\T 13= .tp (cQ (sm (fun j=>((c.getD j 0:Int):Rat)*BH m U4 j) n)) 0) (by
     clear hL;rintro k ⟨T,EN,m0⟩ hk ⟨t0,S,c3,b2,c4,O,hs,s,a6,d3,d4⟩;simp only at t0 S c3 b2 c4 O hs a6;subst O hs;have g1:(k:Int)<(n:Int):=by omega
     have g2:=jC k;have g3:=ZR (n:=(k:Int)+1);have g4:=qP X (k:=k) (by omega);rw[k8 k hk]at g4;have k9:=lD hp.bc k;have g5:=idx (xs:=c) (k:=k) (by omega);have e5:c[k]'(by omega)=c.getD k 0:=by rw[zx,zy (by omega)];rfl
     rw[e5]at g5;have g6:=Bg c k (by omega);have g7:(k:Int)<(c.length:Int):=by omega
     have g8:(c.flatMap cI).length=c.length:=qM c;have g9:(X.flatMap cF).length=n:=by rw[qO,c8]
     obtain⟨ck,f0⟩:∃ck,ck=c.getD k 0:=⟨_,rfl⟩;rw[<- f0]at g5 k9;have k1:=jv ck (by omega) (by omega);have l1:=sF (z:=ck) (by omega);have l2:=(e8 k hk).mono (show 24<=50 by decide);have k2:=acr (BH m U4 k) (ck:Rat) (l2.mono (by decide)) (l1.mono (by decide));have l3:=aa1 l2 l1 (by decide);have k3:=ahb s (BH m U4 k*(ck:Rat)) (d4.mono (by omega)) (l3.mono (by decide));have l4:=aa2 d4 l3;unfold CZ at t0;refine .inl ⟨_,by simp only[go_sem,t0,S,c3,b2,c4,a6,c7,g1,g2,g3,g4,g5,g6,g7,g8,g9,k1,k2,k3];rfl,?_⟩;simp only[go_sem,t0,S,c3,b2];refine⟨rfl,rfl,_,rfl,?_,l4.mono (by omega)⟩;show _=sm _ k+((c.getD k 0:Int):Rat)*BH m U4 k;rw[d3,<- f0,Rat.mul_comm]) (by
     rintro ⟨T,EN,m0⟩ ⟨t0,S,c3,b2,c4,O,hs,s,a6,d3,d4⟩;simp only at t0 S c3 b2 c4 O hs a6;subst O hs;have g1:¬(n:Int)<(n:Int):=by omega
     refine⟨_,by simp only[go_sem,b2,c4,g1];rfl,by simp,_,rfl,?_⟩;simp only[go_sem,S,a6,d3]) (by
     simp only[go_sem,t0,S,CZ];exact⟨0,rfl,rfl,sF (z:=0) (by decide)⟩)
   clear hL;have z1:n<=(X.flatMap cF).length:=by rw[qO,c8];exact zq _
   have z2:(X.flatMap cF).take n=X.flatMap cF:=zl (by rw[qO,c8];exact zq _);have z3:=IW CY 4 X;simp only[go_sem,S,a6,c7,z1,z2,z3];refine⟨_,rfl,.inr (.inr ⟨BH m U4,i9,e8,?_⟩)⟩;rw[show(AV A b c m n).n=n from rfl,<- hX];show V.Bf [I 0,V.ts (X.flatMap cF) n,_]=V.Bf [I 0,V.ts (X.flatMap cF) X.length,_];rw[c8];rfl
  .simp only[go_sem,qC,kb,d1,f1,f2,f3,f4,kc,km]
   exact⟨_,rfl,.inr (.inl ⟨rfl,h8⟩)⟩
end
theorem jQ{body:St->Option (Ex×St)}{st E:St}{y:Option (Ex×St)}{e:Ex}(G:jI body st=y)(h:body st=some (e,E))(J:e≠ .norm):y=some (e,E):=by
 obtain⟨r,rfl,O⟩:=jP G (fun _ s=>s=st) (fun r=>r=(e,E)) (fun n s hs=>by subst hs;exact .inr ⟨_,h,fun s h=>J (congrArg Prod.fst h),rfl⟩) 0 rfl;rw[O]
theorem aeT{body:St->Option (Ex×St)}{st st1 E:St}{y:Option (Ex×St)}{e:Ex}(G:jI body st=y)(J:body st=some (.norm,st1))(h:body st1=some (e,E))(O:e≠ .norm):y=some (e,E):=by
 obtain⟨r,rfl,S⟩:=jP G (fun n s=>(n=1/\s=st)\/(n=0/\s=st1)) (fun r=>r=(e,E)) (fun n s hs=>by
  rcases hs with ⟨rfl,rfl⟩|⟨rfl,rfl⟩
  .exact .inl ⟨_,J,0,by omega,.inr ⟨rfl,rfl⟩⟩
  .exact .inr ⟨_,h,fun s h=>O (congrArg Prod.fst h),rfl⟩) 1 (.inl ⟨rfl,rfl⟩)
 rw[S]
theorem amR{σ:Store}{nx bt bf bo:Nat}(E:σ bt=some ⟨[.nil,Bo false,LI (dg 1),.nil,I 0,.rs bf 0 0],0,true⟩)(G:bt<nx) :
  ev ZK wI Am 131 [.rp bt 0,.rs bo 0 0] σ nx=some (Bo true,σ,nx):=by
 rw[mg [.tmp 4] [] func131];simp only[go_sem];generalize J:jI _ _=y;have S:¬(0:Int)<0:=by decide
 obtain rfl:=aeT J (by
  simp only[go_sem,E,G];generalize O:jI _ _=Y;obtain rfl:=jQ O (by simp only[go_sem];rfl) (by simp);simp only[go_sem];rfl) (by simp only[go_sem];rfl) (by simp)
 clear J;simp only[go_sem,E,G];generalize J:jI _ _=y;obtain rfl:=jQ J (by simp only[go_sem];rfl) (by simp);simp only[go_sem]
theorem alj{σ:Store}{nx bt bf:Nat}(E:σ bt=some ⟨[.nil,Bo false,LI (dg 1),.nil,I 0,.rs bf 0 0],0,true⟩)(G:bt<nx) :
  ev ZK wI Am 154 [.rp bt 0,I 0] σ nx=some (.Bf [],σ,nx):=by
 rw[mg [] [10,11] func154];simp only[go_sem];generalize J:jI _ _=y;obtain rfl:=jQ J (by simp only[go_sem,E,G];rfl) (by simp);simp only[go_sem]
theorem alk(σ:Store):∃r,ev ZK wI Am 130 [.tp (CZ 0 0 [] [] []) 0] σ 0=some r/\∃σ' nx' bt bf,r=(.Bf [.rp bt 0,Bo true],σ',nx')/\bt<nx'/\σ' bt=some ⟨[.nil,Bo false,LI (dg 1),.nil,I 0,.rs bf 0 0],0,true⟩:=by
 have k1:fn ZK conv ext 107 [I 1]=some (.agg [Bo false,LI (dg 1)]):=kJ 1 (by decide) (by decide)
 have z2:IntKind.i64.wrap (0+0)=0:=by decide
 have z3:(1:Int)*0<=281474976710656:=by decide
 have O:(0:Int)<=9223372036854775807:=by decide
 have S:Int.toNat 0=0:=rfl;have z6:(8:Int)*0<=281474976710656:=by decide
 unfold CZ;rw[mg [.tmp 2,.tmp 3] [15,18,24,38] func130];simp only[go_sem,k1,z2,z3,O,S];generalize E:jI _ _=y;obtain rfl:=jQ E (by simp only[go_sem];rfl) (by simp);clear E;simp only[go_sem,O,S,z6];generalize E:jI _ _=y;obtain rfl:=jQ E (by simp only[go_sem];rfl) (by simp);clear E;obtain⟨σ2,Y⟩:∃σ2,σ2=upd (upd (upd σ 0 (some ⟨rep 0 [V.sc (Value.bool false)],1,true⟩)) 1 (some ⟨[.nil,Bo false,LI (dg 1),.nil,I 0,.rs 0 0 0],0,true⟩)) 2 (some ⟨rep 0 [I 0],1,true⟩):=⟨_,rfl⟩;have G:σ2 1=some ⟨[.nil,Bo false,LI (dg 1),.nil,I 0,.rs 0 0 0],0,true⟩:=by rw[Y];rfl
 have hm:=amR (nx:=3) (bo:=2) G (by decide);have hl:=alj (nx:=3) G (by decide);have J:1<3:=by decide
 simp only[go_sem,qC,<- Y,hm,G,J];generalize E:jI _ _=y;obtain rfl:=jQ E (by simp only[go_sem];rfl) (by simp);clear E;simp only[go_sem,G,J];generalize E:jI _ _=y;obtain rfl:=jQ E (by simp only[go_sem];rfl) (by simp);clear E;simp only[go_sem,qC,hl];exact⟨_,rfl,σ2,3,1,0,rfl,J,G⟩
theorem alm:fn ZK wI Am 95 [.tp (CZ 0 0 [] [] []) 0]=some (.Bf [I 0,.ts [] 0,.tp (cQ 0) 0]):=by
 obtain⟨r0,kb,S,E,bt,bf,rfl,a2,Y⟩:=alk pI;have z3:(8:Int)*0<=281474976710656:=by decide
 have z4:(0:Int)<=9223372036854775807:=by decide
 have z5:Int.toNat 0=0:=rfl;obtain⟨σ2,EC⟩:∃σ2,σ2=upd S E (some ⟨rep 0 [I 0],1,true⟩):=⟨_,rfl⟩;have Ob:σ2 bt=some ⟨[.nil,Bo false,LI (dg 1),.nil,I 0,.rs bf 0 0],0,true⟩:=by rw[EC,Zk];exact Y
 have a0:bt<E+1:=by omega
 have km:=amR (nx:=E+1) (bo:=E) Ob a0;have kc:Hu σ2 (E+1) [] 0 (.rs E 0 0)=some (I 0,σ2,E+1):=rfl;have g4:fn ZK conv ext 65 [I 0]=some (.tp (cQ 0) 0):=jv 0 (by decide) (by decide)
 rw[m_,mg [.tmp 2,.tmp 3,.tmp 4] [24] func95];have kb:ev ZK wI Am 130 [.tp [I 0,I 0,LI [],LI [],LI []] 0] pI 0=some (.Bf [.rp bt 0,Bo true],S,E):=kb;unfold CZ;have kl:List.flatMap cI []=[]:=rfl;simp only[go_sem,qC,kb,Y,a2,z3,z4,z5,<- EC,kc,km,kl];generalize G:jI _ _=y;obtain rfl:=jQ G (by simp only[go_sem];rfl) (by simp);clear G;simp only[go_sem,z3,z4,z5];generalize G:jI _ _=y;obtain rfl:=jQ G (by simp only[go_sem];rfl) (by simp);clear G;obtain⟨J,O⟩:∃J,J=upd σ2 (E+1) (some ⟨rep 0 [V.sc (.pointer none)],1,true⟩):=⟨_,rfl⟩;have La:J bt=some ⟨[.nil,Bo false,LI (dg 1),.nil,I 0,.rs bf 0 0],0,true⟩:=by rw[O,Zk];exact Ob
 have a1:bt<E+1+1:=by omega
 simp only[go_sem,<- O,La,a1];generalize G:jI _ _=y;obtain rfl:=jQ G (by simp only[go_sem];rfl) (by simp);clear G;simp only[go_sem,g4];generalize G:jI _ _=y;obtain rfl:=jQ G (by simp only[go_sem];rfl) (by simp);clear G;have hx:J (E+1)=some ⟨[],1,true⟩:=by rw[O,Zi];rfl
 simp only[go_sem,hx]
structure SG (s:Structure):Prop where
 nj:s.bI.length<=6
 nm:s.members.length<=8
 pl:∀i (h:i<s.bI.length),-50<=s.bI[i].x/\s.bI[i].x<=50/\-50<=s.bI[i].y/\s.bI[i].y<=50
 mr:∀k (h:k<s.members.length),Dy s.bI.length s.members[k]
theorem Ba.sg{s:Structure}(h:Ba s):SG s:=by
 obtain⟨O,S,Y,h4⟩:=h;refine⟨O,S,fun i hi=>?_,fun k hk=>?_⟩
 .have E:=(Y i hi).1
  unfold D7 at E;rw[zD,zD]at E;have G:=kG E.2.1;have J:=kG E.2.2;exact⟨G.1,G.2,J.1,J.2⟩
 .have E:=h4 _ (zu hk)
  refine zh fun hn=>?_
  rw[jJ hn]at E;cases E
def mem(s:Structure)(k:Nat):Member:=(s.members[k]?).getD ⟨0,0,0⟩
def XA(s:Structure)(i:Int):Dk:=(s.bI[i.toNat]?).getD ⟨ByteArray.empty,0,0,false⟩
def vx(s:Structure)(k:Nat):Int:=(XA s (mem s k).b).x - (XA s (mem s k).a).x
def vy(s:Structure)(k:Nat):Int:=(XA s (mem s k).b).y - (XA s (mem s k).a).y
theorem jH{s:Structure}{k:Nat}(h:k<s.members.length):s.members[k]=mem s k:=by unfold mem;rw[zy h];rfl
theorem ahE{s:Structure}(h:SG s)(i:Int):-50<=(XA s i).x/\(XA s i).x<=50/\-50<=(XA s i).y/\(XA s i).y<=50:=by
 unfold XA
 by_cases hi:i.toNat<s.bI.length
 .rw[zy hi];exact h.pl _ hi
 .rw[yw (by omega)];simp
theorem Ze{s:Structure}(h:SG s)(k:Nat):-100<=vx s k/\vx s k<=100/\-100<=vy s k/\vy s k<=100:=by
 have E:=ahE h (mem s k).a;have G:=ahE h (mem s k).b;unfold vx vy;omega
theorem bZ{α:Type}{c:α->List V}{s:Nat}(hc:∀x,(c x).length=s)(xs:List α)(k:Nat)(h:k<xs.length){j:Nat}(E:j<s):(xs.flatMap c)[k*s+j]?=(c xs[k])[j]?:=by
 rw[<- cO hc xs k h,wX,sN E,xQ]
theorem Uj{s:Structure}(h:SG s){k:Nat}(G:k<s.members.length):fn ZK conv ext 103 [.tp (iI s) 0,I k]=some (.Bf [I (vx s k),I (vy s k)]):=by
 have J:=h.mr k G;rw[jH G]at J;have hb:=Ze h k;have a0:=h.nm;have Yq:=h.nj;have O:=Nl s.members k G;rw[jH G]at O;have f1:(k:Int)<(s.members.length:Int):=by omega
 have f2:=jC k;have f4:=GR s.members;have f5:k*3+3<=s.members.length*3:=by omega
 have f6:=Np s.members k G;unfold vx vy at hb⊢;generalize mem s k=mm at *;obtain⟨S,Y,mk⟩:=mm;obtain⟨r1,r2,r3,r4,r5,r6⟩:=J;simp only at *;obtain⟨a,rfl⟩:∃a:Nat,S=(a:Int):=⟨S.toNat,by omega⟩;obtain⟨b,rfl⟩:∃b:Nat,Y=(b:Int):=⟨Y.toNat,by omega⟩;have ha:a<s.bI.length:=by omega
 have E:b<s.bI.length:=by omega
 have ea:XA s (a:Int)=s.bI[a]:=by unfold XA;rw[zA,zy ha];rfl
 have eb:XA s (b:Int)=s.bI[b]:=by unfold XA;rw[zA,zy E];rfl
 rw[ea,eb]at hb⊢;have g4:=Gp s.bI;have g6:=Po s.bI a ha;have p1:(s.bI.flatMap Ag)[a*4+1]?=some (I s.bI[a].x):=bZ (c:=Ag) (fun _=>rfl) s.bI a ha (j:=1) (by decide);have p2:(s.bI.flatMap Ag)[a*4+2]?=some (I s.bI[a].y):=bZ (c:=Ag) (fun _=>rfl) s.bI a ha (j:=2) (by decide);have p3:(s.bI.flatMap Ag)[b*4+1]?=some (I s.bI[b].x):=bZ (c:=Ag) (fun _=>rfl) s.bI b E (j:=1) (by decide);have p4:(s.bI.flatMap Ag)[b*4+2]?=some (I s.bI[b].y):=bZ (c:=Ag) (fun _=>rfl) s.bI b E (j:=2) (by decide);have w1:=ZR (n:=s.bI[b].x-s.bI[a].x);have w2:=ZR (n:=s.bI[b].y-s.bI[a].y);rw[m_,mg [.tmp 4,.tmp 5] [2] func103];simp only[go_sem,O,f1,f2,f4,f5,f6,r1,r2,r3,r4,g4,g6,p1,p2,p3,p4,w1,w2]
def Dt(s:Structure)(i:Nat):Bool:=(s.bI[i]?).elim false fun j=> !j.fixed
def free(s:Structure):List Int:=F8 (Dt s) s.bI.length
theorem Oo{T:Nat->V}{σ:Store}{nx t:Nat}{acc:List Int}(J:Grow T σ nx t acc)(x:Option Fj):Grow T (upd σ nx x) (nx+1) t acc:=by
 rcases J with ⟨E,G⟩|⟨b,E,G,O,S⟩
 .exact .inl ⟨E,G⟩
 .exact .inr ⟨b,E,G,by rw[Zk];exact O,by omega⟩
theorem kK{s:Structure}(h:SG s):fn ZK conv ext 61 [.tp (iI s) 0]=some (LI (free s)):=by
 have Yq:=h.nj;unfold free;rw[m_,mg [.tmp 2] [] func61];simp only[go_sem];generalize hL:jI _ _=y;obtain⟨r,rfl,T',σ',nx',rfl,h2⟩:=oZ hL s.bI.length (fun k st=>st.T 9=LL Ag s.bI/\st.T 10=I s.bI.length/\st.T 11=I k/\Grow st.T st.σ st.nx 3 (F8 (Dt s) k))
  (fun r=>∃T σ nx',r=(.exit 0,⟨T,σ,nx'⟩)/\Grow T σ nx' 3 (F8 (Dt s) s.bI.length)) (by
   clear hL;rintro k ⟨T,σ,nx⟩ G ⟨O,E,J,S⟩;simp only at O E J S;have f1:(k:Int)<(s.bI.length:Int):=by omega
   have f2:=jC k;have f3:=ZR (n:=(k:Int)+1);have f4:=Jz s.bI k G;have f5:=Gp s.bI;have f6:k*4+4<=s.bI.length*4:=by omega
   have f9:=Po s.bI k G;have hle:=Zo (Dt s) k;have Y:=fun x=>Oo S x
   cases hp:s.bI[k].fixed with
   |false=>
    have hq:Dt s k=true:=by simp[Dt,zy G,hp]
    obtain⟨σ',ha,hs⟩:=kS (Y (some ⟨[Sg s.bI[k].name,I s.bI[k].x,I s.bI[k].y,Bo false],0,true⟩)) (k:Int) (by omega);refine .inl ⟨_,by simp only[go_sem,O,E,J,f1,f2,f3,f4,f5,f6,f9,hp,G,ha];rfl,?_⟩;simp only[go_sem,O,E];rw[LJ hq];exact⟨rfl,kQ hs (by simp[go_sem]) (by simp)⟩
   |true=>
    have hq:Dt s k=false:=by simp[Dt,zy G,hp]
    refine .inl ⟨_,by simp only[go_sem,O,E,J,f1,f2,f3,f4,f5,f6,f9,hp,G];rfl,?_⟩;simp only[go_sem,O,E];rw[Tj hq];exact⟨rfl,kR (T:=T) (by simp only[go_sem]) (Y _)⟩) (by
   rintro ⟨T,σ,nx⟩ ⟨O,E,J,S⟩;simp only at O E J S;exact⟨_,by simp only[go_sem,E,J,zi];rfl,by simp,_,_,_,rfl,kR (by simp only[go_sem]) S⟩) (by
   simp only[go_sem];exact .inl ⟨by simp only[go_sem],rfl⟩)
 obtain⟨ids,hs⟩:=kP h2 6;simp only[go_sem,hs]
end Go.Proofs.YtjjhejehbhbdeaaGreat
namespace Go.Plan
inductive Way (mv:Nat->Nat->Bool) (al:Nat->Bool):Nat->Nat->Nat->Prop
 |nil {a:Nat} (h:al a=true):Way mv al 0 a a
 |cons {k a b c:Nat} (h:al a=true) (hm:mv a b=true) (hw:Way mv al k b c):Way mv al (k+1) a c
section
variable {mv:Nat->Nat->Bool} {al:Nat->Bool}
theorem Way.fst{k a b:Nat}(h:Way mv al k a b):al a=true:=by cases h<;>assumption
theorem Way.lst{k a b:Nat}(h:Way mv al k a b):al b=true:=by induction h<;>assumption
theorem Way.snoc{k a b c:Nat}(h:Way mv al k a b)(hm:mv b c=true)(hc:al c=true):Way mv al (k+1) a c:=by
 induction h with
 |nil h=>exact .cons h hm (.nil hc)
 |cons h E _ G=>exact .cons h E (G hm)
theorem Way.zero{a b:Nat}(h:Way mv al 0 a b):a=b/\al a=true:=by
 cases h with
 |nil h=>exact⟨rfl,h⟩
theorem Way.succ{k a c:Nat}(h:Way mv al (k+1) a c):al a=true/\∃b,mv a b=true/\Way mv al k b c:=by
 cases h with
 |cons h hm hw=>exact⟨h,_,hm,hw⟩
theorem least{p:Nat->Prop}(h:∃k,p k):∃k,p k/\∀j,p j->k<=j:=by
 obtain⟨k,E⟩:=h
 induction k using Nat.strongRecOn with
 |_ k G=>
  by_cases h:∃j,j<k/\p j
  .obtain⟨j,J,hp⟩:=h;exact G j J hp
  .exact⟨k,E,fun j hp=>zh fun O=>h ⟨j,by omega,hp⟩⟩
def JQ(mv:Nat->Nat->Bool)(al:Nat->Bool)(to i:Nat)(d:Int):Prop:=(d= -1/\∀k,¬Way mv al k i to)\/∃k:Nat,d=(k:Int)/\Way mv al k i to/\∀j,Way mv al j i to->k<=j
theorem acC(mv:Nat->Nat->Bool)(al:Nat->Bool)(to i:Nat):∃d,JQ mv al to i d:=by
 by_cases h:∃k,Way mv al k i to
 .obtain⟨k,E,G⟩:=least h
  exact⟨k,.inr ⟨k,rfl,E,G⟩⟩
 .exact⟨-1,.inl ⟨rfl,fun k J=>h ⟨k,J⟩⟩⟩
noncomputable def dst(mv:Nat->Nat->Bool)(al:Nat->Bool)(to i:Nat):Int:=Classical.choose (acC mv al to i)
theorem aa3(mv:Nat->Nat->Bool)(al:Nat->Bool)(to i:Nat):JQ mv al to i (dst mv al to i):=Classical.choose_spec (acC mv al to i)
theorem JQ.uniq{to i:Nat}{d e:Int}(E:JQ mv al to i d)(G:JQ mv al to i e):d=e:=by
 rcases E with ⟨rfl,E⟩|⟨k,rfl,E,J⟩<;>rcases G with ⟨rfl,G⟩|⟨j,rfl,G,O⟩
 .rfl
 .exact absurd G (E _)
 .exact absurd E (G _)
 .have:=J _ G;have:=O _ E;omega
theorem ahF{to i:Nat}{d:Int}(h:JQ mv al to i d):dst mv al to i=d:=(aa3 mv al to i).uniq h
theorem L6{to i:Nat}(h:0<=dst mv al to i):∃k:Nat,dst mv al to i=k/\Way mv al k i to/\∀j,Way mv al j i to->k<=j:=by
 rcases aa3 mv al to i with ⟨E,_⟩|E
 .omega
 .exact E
theorem aa4{to i k:Nat}(h:Way mv al k i to):0<=dst mv al to i/\dst mv al to i<=k:=by
 rcases aa3 mv al to i with ⟨_,E⟩|⟨j,E,J,G⟩
 .exact absurd h (E _)
 .have:=G _ h;omega
theorem ahG{to i:Nat}(h:∀k,¬Way mv al k i to):dst mv al to i= -1:=ahF (.inl ⟨rfl,h⟩)
theorem Uk{to i:Nat}(h:0<=dst mv al to i):al i=true/\al to=true:=by
 obtain⟨k,_,E,_⟩:=L6 h;exact⟨E.fst,E.lst⟩
theorem ahH{to i m:Nat}(hi:al i=true)(hm:mv i m=true)(h:0<=dst mv al to m):0<=dst mv al to i/\dst mv al to i<=dst mv al to m+1:=by
 obtain⟨k,G,E,_⟩:=L6 h;have:=aa4 (Way.cons hi hm E);omega
theorem ahI{to i:Nat}(h:0<dst mv al to i):al i=true/\∃m,mv i m=true/\al m=true/\dst mv al to m=dst mv al to i-1:=by
 obtain⟨k,Y,O,h3⟩:=L6 (mv:=mv) (al:=al) (to:=to) (i:=i) (by omega);cases k with
 |zero=>omega
 |succ k=>
  obtain⟨E,b,G,J⟩:=O.succ;have S:=aa4 J;have h8:=ahH E G S.1;exact⟨E,b,G,J.fst,by omega⟩
theorem jA:∀ {n:Nat} {l:List Nat},l.Nodup->(∀x∈l,x<n)->l.length<=n
 |0,[],_,_=>zq 0
 |0,x :: _,_,h=>absurd (h x zL) (zU _)
 |n+1,l,hn,h=>by
  have G:=jA (n:=n) (l:=l.erase n) (hn.sublist List.erase_sublist) fun x J=>by
   have E:=(List.Nodup.mem_erase_iff hn).mp J;have:=h x E.2;have:=E.1;omega
  by_cases hm:n∈l
  .have:=List.length_erase_of_mem hm
   omega
  .rw[List.erase_of_not_mem hm]at G
   omega
structure XB (mv:Nat->Nat->Bool) (al:Nat->Bool) (to:Nat) (all:List Nat) (p:Nat) (out:Nat->Int):Prop where
 nd:all.Nodup
 lab:∀i,i∉all->out i= -1
 way:∀i,i∈all->∃k:Nat,out i=k/\Way mv al k i to
 t0:to∈all/\out to=0
 srt:∀a b (ha:a<all.length) (hb:b<all.length),a<=b->out all[a]<=out all[b]
 don:∀a (ha:a<all.length),a<p->∀i,al i=true->mv i all[a]=true->i∈all/\out i<=out all[a]+1
 one:∀(hp:p<all.length),∀i∈all,out i<=out all[p]+1
 bnd:∀i,i∈all->out i<all.length
def put(out:Nat->Int)(x:Nat)(v:Int):Nat->Int:=fun i=>if i=x then v else out i
theorem gQ(out:Nat->Int)(x:Nat)(v:Int):put out x v x=v:=sN rfl
theorem aa5{out:Nat->Int}{x i:Nat}{v:Int}(h:i≠x):put out x v i=out i:=sO h
theorem aeU{to:Nat}(h:al to=true):XB mv al to [to] 0 (put (fun _=> -1) to 0):=by
 refine⟨by simp,fun i hi=>?_,fun i hi=>?_,⟨by simp,gQ _ _ _⟩,fun a b ha hb _=>?_,fun a ha E=>absurd E (zU _),fun hp i hi=>?_,fun i hi=>?_⟩
 .exact aa5 (by simpa using hi)
 .have:i=to:=by simpa using hi
  subst this;exact⟨0,gQ _ _ _,.nil h⟩
 .have G:a=0:=by simpa using ha
  have J:b=0:=by simpa using hb
  subst G J;exact xJ _
 .have:i=to:=by simpa using hi
  subst this;show put _ _ _ _<=put _ _ _ i+1;omega
 .have:i=to:=by simpa using hi
  subst this;rw[gQ];simp
theorem XB.lo{to:Nat}{all:List Nat}{p:Nat}{out:Nat->Int}(h:XB mv al to all p out)(i:Nat):(out i<0↔i∉all):=by
 constructor
 .intro E G
  obtain⟨k,J,_⟩:=h.way i G;omega
 .intro E
  rw[h.lab i E];omega
theorem XB.add{to:Nat}{all:List Nat}{p:Nat}{out:Nat->Int}(h:XB mv al to all p out)(hp:p<all.length){x:Nat}(hx:x∉all)(Y:al x=true)(a0:mv x all[p]=true):XB mv al to (all++[x]) p (put out x (out all[p]+1)):=by
 have ne:∀ {i:Nat},i∈all->put out x (out all[p]+1) i=out i:=fun {i} hi=>aa5 fun e=>hx (e ▸ hi)
 obtain⟨kp,a4,a1⟩:=h.way all[p] (zu hp);have G:∀i∈all++[x],put out x (out all[p]+1) i<=out all[p]+1:=fun i hi=>by
  rcases List.mem_append.mp hi with hi|hi
  .rw[ne hi];exact h.one hp i hi
  .have:i=x:=by simpa using hi
   subst this;rw[gQ];exact xJ _
 have gl:∀ {a:Nat} (ha:a<(all++[x]).length),(∃h':a<all.length,(all++[x])[a]=all[a])\/(a=all.length/\(all++[x])[a]=x):=fun {a} ha=>by
  by_cases h':a<all.length
  .exact .inl ⟨h',yG h'⟩
  .have:a=all.length:=by simp at ha;omega
   subst this;exact .inr ⟨rfl,by simp⟩
 refine⟨?_,fun i hi=>?_,fun i hi=>?_,⟨zB _ h.t0.1,?_⟩,fun a b ha hb a2=>?_,fun a ha a3 i hi hm=>?_,fun a5 i hi=>?_,fun i hi=>?_⟩
 .rw[List.nodup_append]
  exact⟨h.nd,by simp,fun a ha b hb=>by have:b=x:=by simpa using hb
                                       subst this;exact fun e=>hx (e ▸ ha)⟩
 .have h1:i∉all:=fun e=>hi (zB _ e)
  have h2:i≠x:=fun e=>hi (yj _ (by simp[e]))
  rw[aa5 h2];exact h.lab i h1
 .rcases List.mem_append.mp hi with hi|hi
  .rw[ne hi];exact h.way i hi
  .have:i=x:=by simpa using hi
   subst this;exact⟨kp+1,by rw[gQ];omega,.cons Y a0 a1⟩
 .rw[ne h.t0.1];exact h.t0.2
 .rcases gl ha with ⟨E,J⟩|⟨ra,J⟩<;>rcases gl hb with ⟨O,S⟩|⟨rb,S⟩
  .rw[J,S,ne (zu E),ne (zu O)]
   exact h.srt a b E O a2
  .rw[J,S,gQ,ne (zu E)]
   exact h.one hp _ (zu E)
  .omega
  .rw[J,S];exact xJ _
 .rcases gl ha with ⟨E,J⟩|⟨ra,J⟩
  .rw[J]at hm⊢
   have:=h.don a E a3 i hi hm;rw[ne this.1,ne (zu E)];exact⟨zB _ this.1,this.2⟩
  .omega
 .have e:(all++[x])[p]=all[p]:=yG hp
  rw[e,ne (zu hp)];exact G i hi
 .have h1:=G i hi
  have h2:=h.bnd all[p] (zu hp);rw[zo,yU];omega
theorem XB.next{to:Nat}{all:List Nat}{p:Nat}{out:Nat->Int}(h:XB mv al to all p out)(hp:p<all.length)(G:∀i,al i=true->mv i all[p]=true->i∈all):XB mv al to all (p+1) out:=by
 refine⟨h.nd,h.lab,h.way,h.t0,h.srt,fun a ha J i hi hm=>?_,fun E i hi=>?_,h.bnd⟩
 .by_cases e:a=p
  .subst e
   exact⟨G i hi hm,h.one hp i (G i hi hm)⟩
  .exact h.don a ha (by omega) i hi hm
 .have O:=h.one hp i hi
  have S:=h.srt p (p+1) hp E (by omega);omega
theorem XB.fin{to:Nat}{all:List Nat}{p:Nat}{out:Nat->Int}(h:XB mv al to all p out)(hp:all.length<=p)(i:Nat):dst mv al to i=out i:=by
 have key:∀k i,Way mv al k i to->i∈all/\out i<=k:=by
  intro k
  induction k with
  |zero=>
   intro i hw;obtain⟨rfl,_⟩:=hw.zero;exact⟨h.t0.1,by rw[h.t0.2];omega⟩
  |succ k J=>
   intro i hw;obtain⟨E,b,G,O⟩:=hw.succ;obtain⟨S,h5⟩:=J b O;obtain⟨a,ha,rfl⟩:=yc S;obtain⟨Y,h7⟩:=h.don a ha (by omega) i E G;exact⟨Y,by omega⟩
 apply ahF
 by_cases hm:i∈all
 .obtain⟨k,E,G⟩:=h.way i hm
  exact .inr ⟨k,E,G,fun j hj=>by have:=(key j i hj).2;omega⟩
 .exact .inl ⟨h.lab i hm,fun k hk=>hm (key k i hk).1⟩
theorem XB.bound{to:Nat}{all:List Nat}{p n:Nat}{out:Nat->Int}(h:XB mv al to all p out)(hn:∀i,al i=true->i<n):all.length<=n :=
 jA h.nd fun i hi=>by obtain⟨k,_,hw⟩:=h.way i hi;exact hn i hw.fst
structure Fwd (mv:Nat->Nat->Bool) (al:Nat->Bool) (fr:Nat) (all:List Nat) (p:Nat):Prop where
 nd:all.Nodup
 way:∀i,i∈all->∃k:Nat,Way mv al k fr i
 t0:fr∈all
 don:∀a (ha:a<all.length),a<p->∀i,al i=true->mv all[a] i=true->i∈all
theorem aeV{fr:Nat}(h:al fr=true):Fwd mv al fr [fr] 0 :=
 ⟨by simp,fun i hi=>by have:i=fr:=by simpa using hi
                       subst this;exact⟨0,.nil h⟩,by simp,fun a ha E=>absurd E (zU _)⟩
theorem Fwd.add{fr:Nat}{all:List Nat}{p:Nat}(h:Fwd mv al fr all p)(hp:p<all.length){x:Nat}(Y:x∉all)(G:al x=true)(J:mv all[p] x=true):Fwd mv al fr (all++[x]) p:=by
 obtain⟨kp,O⟩:=h.way all[p] (zu hp);refine⟨?_,fun i hi=>?_,zB _ h.t0,fun a ha S i hi hm=>?_⟩
 .rw[List.nodup_append]
  exact⟨h.nd,by simp,fun a ha b hb=>by have:b=x:=by simpa using hb
                                       subst this;exact fun e=>Y (e ▸ ha)⟩
 .rcases List.mem_append.mp hi with hi|hi
  .exact h.way i hi
  .have:i=x:=by simpa using hi
   subst this;exact⟨kp+1,O.snoc J G⟩
 .have E:a<all.length:=by omega
  have e:(all++[x])[a]=all[a]:=yG E;rw[e]at hm;exact zB _ (h.don a E S i hi hm)
theorem Fwd.next{fr:Nat}{all:List Nat}{p:Nat}(h:Fwd mv al fr all p)(hp:p<all.length)(E:∀i,al i=true->mv all[p] i=true->i∈all):Fwd mv al fr all (p+1) :=
 ⟨h.nd,h.way,h.t0,fun a ha G i hi hm=>by
  by_cases e:a=p
  .subst e;exact E i hi hm
  .exact h.don a ha (by omega) i hi hm⟩
theorem Fwd.fin{fr:Nat}{all:List Nat}{p:Nat}(h:Fwd mv al fr all p)(hp:all.length<=p)(i:Nat):i∈all↔0<=dst mv al i fr:=by
 have key:∀k a,Way mv al k a i->a∈all->i∈all:=by
  intro k a hw
  induction hw with
  |nil _=>exact id
  |cons h1 hm E O=>
   intro ha;obtain⟨S,G,rfl⟩:=yc ha;exact O (h.don S G (by omega) _ E.fst hm)
 constructor
 .intro hi
  obtain⟨k,J⟩:=h.way i hi;exact(aa4 J).1
 .intro Y
  obtain⟨k,_,J,_⟩:=L6 Y;exact key k fr J h.t0
theorem Fwd.bound{fr:Nat}{all:List Nat}{p n:Nat}(h:Fwd mv al fr all p)(hn:∀i,al i=true->i<n):all.length<=n :=
 jA h.nd fun i hi=>by obtain⟨k,hw⟩:=h.way i hi;exact hn i hw.lst
def Jg(mv:Nat->Nat->Bool)(out:Nat->Int)(n a:Nat):Nat:=((List.range n).find? fun i=>mv a i && (out i==out a-1)).getD a
def XC(mv:Nat->Nat->Bool)(out:Nat->Int)(n a:Nat):Nat->Nat
 |0=>a
 |k+1=>Jg mv out n (XC mv out n a k)
theorem aa6{n to:Nat}(hn:∀i,al i=true->i<n){a:Nat}(h:0<dst mv al to a):Jg mv (dst mv al to) n a<n/\mv a (Jg mv (dst mv al to) n a)=true/\dst mv al to (Jg mv (dst mv al to) n a)=dst mv al to a-1:=by
 obtain⟨_,m,J,O,S⟩:=ahI h;unfold Jg;cases E:(List.range n).find? fun i=>mv a i && (dst mv al to i==dst mv al to a-1)with
 |none=>
  rw[List.find?_eq_none]at E;have:=E m (by simpa using hn m O);simp[J,S]at this
 |some i=>
  have G:=List.find?_some E;have Y:=List.mem_of_find?_eq_some E;rw[zD,beq_iff_eq]at G;exact⟨by simpa using Y,G.1,G.2⟩
theorem jw{n to:Nat}(hn:∀i,al i=true->i<n){a:Nat}:∀k:Nat,(k:Int)<=dst mv al to a->dst mv al to (XC mv (dst mv al to) n a k)=dst mv al to a-k
 |0,_=>by unfold XC;omega
 |k+1,h=>by
  have E:=jw hn (to:=to) (a:=a) k (by omega);have G:=aa6 hn (mv:=mv) (to:=to) (a:=XC mv (dst mv al to) n a k) (by omega);unfold XC;omega
theorem ahJ{n to:Nat}(hn:∀i,al i=true->i<n){a:Nat}(h:0<=dst mv al to a):dst mv al to a<n:=by
 obtain⟨d,hd⟩:∃d:Nat,dst mv al to a=d:=⟨(dst mv al to a).toNat,by omega⟩;have G:((List.range (d+1)).map (XC mv (dst mv al to) n a)).Nodup:=by
  unfold List.Nodup;rw[List.pairwise_map];refine List.Pairwise.imp_of_mem ?_ (List.pairwise_lt_range (n:=d+1));intro i j hi J O e;rw[List.mem_range]at hi J;have E:=jw hn (mv:=mv) (to:=to) (a:=a) i (by omega);have S:=jw hn (mv:=mv) (to:=to) (a:=a) j (by omega);rw[e,S]at E;omega
 have Y:=jA (n:=n) G fun x hx=>by
  obtain⟨i,hi,rfl⟩:=List.mem_map.mp hx;rw[List.mem_range]at hi;have E:=jw hn (mv:=mv) (to:=to) (a:=a) i (by omega);exact hn _ (Uk (mv:=mv) (to:=to) (by omega)).1
 simp at Y;omega
def plan(mv:Nat->Nat->Bool)(out:Nat->Int)(n a:Nat):List Nat:=(List.range ((out a).toNat+1)).map (XC mv out n a)
theorem ahK(out:Nat->Int)(n a:Nat):(plan mv out n a).length=(out a).toNat+1:=by simp[plan]
end
end Go.Plan
namespace Go.Plan
section
variable {mv:Nat->Nat->Bool} {al:Nat->Bool}
noncomputable def lst(mv:Nat->Nat->Bool)(al:Nat->Bool)(to a:Nat):Int:=if 0<=dst mv al to a then dst mv al to a+1 else 0
def asN(f:Int->Int)(b:Int)(k:Int):Int:=if 0<f k/\(b=0\/f k<b)then f k else b
def best(f:Int->Int)(l:List Int):Int:=l.foldl (asN f) 0
end
end Go.Plan
namespace Go.Plan
section
variable {mv:Nat->Nat->Bool} {al:Nat->Bool}
end
end Go.Plan
namespace Go.Proofs.YtjjhejehbhbdeaaGreat
open Go Go.TV
def Hz(s:Nat):List V->Store->Nat->Option (V×Store×Nat)
 |[.ts row len],σ,nx=>if row.length=len*s/\len<=1000000/\row.all vI=true then(if len=0 then some (.nil,σ,nx)else some (.rs nx 0 len,AA σ nx row s,nx+1))else none
 |_,_,_=>none
theorem Ul(args:List V)(σ:Store)(nx:Nat)(v:V)(σ':Store)(nx':Nat)(h:Hz 4 args σ nx=some (v,σ',nx')):EL ZK 34 args σ nx v σ' nx':=by
 unfold Hz at h
 split at h
 .rename_i row len
  split at h
  .rename_i hc
   obtain⟨O,hs,G⟩:=hc;refine Nb (call:=fun _ _ _ _=>none) (conv:=fun _=> .KQ) (fun _ _ _ _ _ _ _ h=>by cases h) (by kernel_rfl) func34 rfl Tryz.underlying34 (n:=0) (by kernel_rfl) (st1:=⟨upd (DJ [.ts row len]) 2 .nil,σ,nx⟩) (T2:=upd (upd (DJ [.ts row len]) 2 .nil) 3 (.ts row len)) (v1:=.ts row len) (row:=row) (len:=len) (vs:=[v]) ?_ rfl ?_ rfl ?_ ?_
   .rfl
   .rfl
   .rfl
   .intro b hb
    cases b with
    |true=>
     have J:=hb rfl;subst J;have E:len=0:=by
      have S:0=len*4:=O;omega
     subst E;simp only[if_true,sS,sQ]at h;obtain⟨rfl,rfl,rfl⟩:=h;exact⟨.ret,_,rfl,.inr rfl,rfl,rfl,rfl⟩
    |false=>
     by_cases E:len=0
     .subst E
      have J:row=[]:=zZ (by omega);subst J;simp only[if_true,sS,sQ]at h;obtain⟨rfl,rfl,rfl⟩:=h;refine⟨.ret,?_,?_,.inr rfl,?_,?_,?_⟩
      .exact⟨upd (upd (upd (upd (upd (upd (upd (upd (DJ [.ts [] 0]) 2 .nil) 3 (.ts [] 0)) 4 (.sc (.bool false))) 5 .nil) 6 (.ts [] 0)) 7 .nil) 2 .nil) 2 .nil,σ,nx⟩
      .simp only[Ad,go_sem]
      .rfl
      .rfl
      .rfl
     .rw[sO E]at h
      simp only[sS,sQ]at h;obtain⟨rfl,rfl,rfl⟩:=h;have q0:len<=maxLen:=by unfold maxLen;omega
      have Y:len<=maxLen/\len*1<=140737488355328:=by unfold maxLen;omega
      have q2:len<=maxLen/\len*40<=140737488355328:=by unfold maxLen;omega
      have q3:len<=maxLen/\len<=140737488355328:=by unfold maxLen;omega
      refine⟨.ret,?_,?_,.inr rfl,?_,?_,?_⟩
      .exact⟨upd (upd (upd (upd (upd (upd (upd (DJ [.ts row len]) 2 .nil) 3 (.ts row len)) 4 (.sc (.bool false))) 5 .nil) 6 (.ts row len)) 7 (.rs nx 0 len)) 2 (.rs nx 0 len),AA σ nx row 4,nx+1⟩
      .simp only[Ad,go_sem,O,E,Y,q2,q3]
      .rfl
      .rfl
      .rfl
  .cases h
 .cases h
section
variable {P:Program} {conv:FuncId->Conv} {call:TV.Call} (d:Option Tmp) (ty:TypeId) (ps:String) (af:Array Edge) (gd:Option (Nat×Bool)) (T:Nat->V) (σ:Store) (nx:Nat)
theorem Oq(t:TypeId)(len:Nat)(parts:Array (Nat×Operand))(E:(decide (len=0) && !parts.isEmpty)=false)(G:¬len=0)(h:(Ae P t).slice=true)(J:(Ae P t).Si=true) :
  Aq P conv call ⟨d,.buildSlice t len parts,ty,ps,af,gd⟩ T σ nx=BX P t len (parts.toList.map fun p=>(p.1,val T p.2)) σ nx:=by
 have key:∀σ,BX P t len (parts.toList.map fun p=>(p.1,val T p.2)) σ nx=(if 0<(Ae P t).G6/\len*(Ae P t).G6<=1000 then(CV (fun j=>some (j*(Ae P t).G6,(Ae P t).G6)) (rep len (Ae P t).Eh) (parts.toList.map fun p=>(p.1,val T p.2))).map fun cells=>(cells,(Ae P t).G6,V.rs nx 0 len)else none).map fun p=>(p.2.2,AA σ nx p.1 p.2.1,nx+1):=fun σ=>by
  rw[ng h J,sO G]
  split
  .cases CV (fun j=>some (j*(Ae P t).G6,(Ae P t).G6)) (rep len (Ae P t).Eh) (parts.toList.map fun p=>(p.1,val T p.2))<;>rfl
  .rfl
 have:=Ij (P:=P) (conv:=conv) (call:=call) (o:=⟨d,.buildSlice t len parts,ty,ps,af,gd⟩) T σ nx rfl fun σ=>(iT d ty ps af gd T σ nx t len parts E).trans (key σ)
 exact this.trans (key σ).symm
end
theorem PK(σ:Store)(c b nx:Nat)(x:Option Fj):zI [c,b] nx nx σ (upd (restrict σ [c,b]) c x)=upd σ c x:=by
 funext i;unfold zI upd restrict
 by_cases E:i=c
 .simp[E]
 .by_cases G:i=b
  .simp[G]
  .rw[sO (by simp only[zX,zH,or_false,E,G,false_or];omega),sO E]
attribute [go_sem] Oq PK
theorem ahL(xs:List Int)(S:∀x∈xs,0<=x/\x<=255)(Y:xs.length<=1048576)(i h:Int)(hi:0<=i/\i<=xs.length)(n:Int)(h1:1<=n)(h2:n<=256) :
  ∃r E G,(∀(b st nx:Nat) (σ:Store),σ b=some (Qo xs i h st)->b<nx->ev ZK conv ext 47 [.rp b 0,I n] σ nx=some (Bo r,upd σ b (some (Qo xs E G st)),nx))/\0<=E/\E<=xs.length:=by
 obtain⟨r,E,G,k,hr,J⟩:=dL xs S Y i h hi n h1 h2;refine⟨r==0,E,G,fun b st nx σ O hb=>?_,J⟩;have k':=k b st nx σ O hb;rw[mg [.tmp 4] [] func47];simp only[go_sem,qC,k']
theorem aa7(xs:List Int)(hx:∀x∈xs,0<=x/\x<=255)(hl:xs.length<=1048576)(i h:Int)(hi:0<=i/\i<=xs.length)(E:List Int)(h1:1<=E.length)(h2:E.length<=256) :
  ∃r,∃hr:r<E.length,∃G J,(∀(c b nx:Nat) (σ:Store),σ c=some (Qo xs i h 0)->σ b=some ⟨E.flatMap cI,1,true⟩->c<nx->b<nx->b≠c->ev ZK conv ext 87 [.rp c 0,.rs b 0 E.length] σ nx=some (I E[r],upd σ c (some (Qo xs G J 0)),nx))/\0<=G/\G<=xs.length:=by
 obtain⟨r,G,J,k,hr,O⟩:=dL xs hx hl i h hi E.length (by omega) (by omega);obtain⟨q,rfl⟩:∃q:Nat,r=(q:Int):=⟨r.toNat,by omega⟩;have hq:q<E.length:=by omega
 refine⟨q,hq,G,J,fun c b nx σ S hb hc a0 Y=>?_,O⟩;have k':=k c 0 nx σ S hc;have f1:(q:Int)<(E.length:Int):=by omega
 have f2:=jC q;have f3:=idx (xs:=E) (k:=q) hq;rw[mg [.tmp 4] [] func87];simp only[go_sem,qC,k',f1,f2,f3,hb,Y]
def FY(i:Nat):ByteArray:=⟨#[116,(48+i).toUInt8]⟩
def ahM(i:Nat):ByteArray:=⟨#[(48+i).toUInt8]⟩
theorem QS{σ:Store}{i j:Nat}{x:Option Fj}(h:i=j):upd σ j x i=x:=by rw[h,Zi]
theorem ahN{body:St->Option (Ex×St)}{st E:St}{y:Option (Ex×St)}{e:Ex}(G:jI body st=y)(h:body st=some (e,E))(J:e≠ .norm):y=some (e,E):=by
 obtain⟨x,rfl,O⟩:=jP G (fun _ s=>s=st) (fun x=>x=(e,E)) (fun m s hs=>by
  subst hs;refine .inr ⟨_,h,fun s hs=>J (by cases hs;rfl),rfl⟩) 0 rfl
 rw[O]
theorem aoY(i:Nat)(h:i<4):fn ZK conv ext 85 [I i]=some (Sg (ahM i)):=by
 have hi:i=0\/i=1\/i=2\/i=3:=by omega
 have c1:¬(i:Int)<0:=by omega
 have G:¬9<(i:Int):=by omega
 have w1:=ZR (n:=48+(i:Int));have J:IntKind.u8.wrap (48+(i:Int))=48+(i:Int):=by
  rcases hi with rfl|rfl|rfl|rfl<;>decide
 have O:(0:Int)<=48+(i:Int)/\48+(i:Int)<256:=by omega
 have S:UInt8.ofNat (48+(i:Int)).toNat=(48+i).toUInt8:=by
  rcases hi with rfl|rfl|rfl|rfl<;>rfl
 rw[m_,mg [.tmp 2] [] func85];simp only[go_sem,c1];generalize Y:jI _ _=y;have E:=ahN Y (by simp only[go_sem,G];rfl) (by simp);subst E;have sz:(⟨#[(48+i).toUInt8]⟩:ByteArray).size+(⟨#[]⟩:ByteArray).size<=9223372036854775807:=by show 1+0<=_;omega
 simp only[go_sem,w1,J,O,S,sz];rfl
def acE(s:Structure):Prop:=∃E G J O S Y k:Int,((-4<=E/\E<= -1)/\(0<=G/\G<=2)/\(3<=J/\J<=6)/\(0<=O/\O<=2)/\(-1<=S/\S<=2)/\(-4<=Y/\Y<= -1)/\(k=1\/k=3)) /\
 (s=⟨[⟨⟨#[97]⟩,E,G,true⟩,⟨⟨#[98]⟩,J,O,true⟩,⟨⟨#[99]⟩,S,Y,false⟩],[⟨0,2,1⟩,⟨1,2,k⟩]⟩ \/
  ∃x4 k3:Int,(-1<=x4/\x4<=3)/\(k3=1\/k3=2\/k3=3)/\s=⟨[⟨⟨#[97]⟩,E,G,true⟩,⟨⟨#[98]⟩,J,O,true⟩,⟨⟨#[99]⟩,S,Y,false⟩,⟨⟨#[100]⟩,x4,-7,true⟩],[⟨0,2,1⟩,⟨1,2,k⟩,⟨3,2,k3⟩]⟩)
theorem asO(xs:List Int)(G:∀x∈xs,0<=x/\x<=255)(J:xs.length<=1048576)(i h:Int)(hi:0<=i/\i<=xs.length) :
  ∃s,acE s/\∃i' h' dj dm dn,(∀(c nx:Nat) (σ:Store),σ c=some (Qo xs i h 0)->c<nx->∃σ',ev ZK conv ext 84 [.rp c 0] σ nx=some (.agg [.rs (nx+dj) 0 s.bI.length,.rs (nx+dm) 0 s.members.length],σ',nx+dn) /\
   σ' c=some (Qo xs i' h' 0)/\σ' (nx+dj)=some ⟨s.bI.flatMap Ag,4,true⟩/\σ' (nx+dm)=some ⟨s.members.flatMap Ac,3,true⟩/\∀q,q<nx->q≠c->σ' q=σ q)/\dj<dn/\dm<dn/\dj≠dm/\0<=i'/\i'<=xs.length:=by
 obtain⟨r1,i1,h1,k1,b1,j1⟩:=dL xs G J i h hi 4 (by decide) (by decide);obtain⟨r2,i2,h2,k2,b2,j2⟩:=dL xs G J i1 h1 j1 3 (by decide) (by decide);obtain⟨r3,i3,h3,k3,b3,j3⟩:=dL xs G J i2 h2 j2 4 (by decide) (by decide);obtain⟨r4,i4,h4,k4,b4,j4⟩:=dL xs G J i3 h3 j3 3 (by decide) (by decide);obtain⟨r5,i5,h5,k5,b5,j5⟩:=dL xs G J i4 h4 j4 4 (by decide) (by decide);obtain⟨r6,i6,h6,k6,b6,j6⟩:=dL xs G J i5 h5 j5 4 (by decide) (by decide);obtain⟨r7,N4,i7,h7,k7,j7⟩:=aa7 xs G J i6 h6 j6 [1,1,1,3] (by decide) (by decide);obtain⟨r8,i8,h8,k8,j8⟩:=ahL xs G J i7 h7 j7 2 (by decide) (by decide);obtain⟨r9,i9,h9,k9,b9,j9⟩:=dL xs G J i8 h8 j8 5 (by decide) (by decide);obtain⟨O,N5,m3,m4,N6,N9⟩:=aa7 xs G J i9 h9 j9 [1,2,3] (by decide) (by decide);obtain⟨S,m5⟩:∃e,e=([1,1,1,3]:List Int)[r7]:=⟨_,rfl⟩;obtain⟨E,m6⟩:∃e,e=([1,2,3]:List Int)[O]:=⟨_,rfl⟩;have v7:S=1\/S=3:=by
  have:r7=0\/r7=1\/r7=2\/r7=3:=by simp at N4;omega
  rcases this with rfl|rfl|rfl|rfl<;>subst m5<;>simp
 have v10:E=1\/E=2\/E=3:=by
  have:O=0\/O=1\/O=2:=by simp at N5;omega
  rcases this with rfl|rfl|rfl<;>subst m6<;>simp
 have q1:=fun(b nx:Nat) (σ:Store)=>k1 b 0 nx σ
 have q2:=fun(b nx:Nat) (σ:Store)=>k2 b 0 nx σ
 have q3:=fun(b nx:Nat) (σ:Store)=>k3 b 0 nx σ
 have q4:=fun(b nx:Nat) (σ:Store)=>k4 b 0 nx σ
 have q5:=fun(b nx:Nat) (σ:Store)=>k5 b 0 nx σ
 have q6:=fun(b nx:Nat) (σ:Store)=>k6 b 0 nx σ
 have q8:=fun(b nx:Nat) (σ:Store)=>k8 b 0 nx σ
 have q9:=fun(b nx:Nat) (σ:Store)=>k9 b 0 nx σ
 have q7:∀(c b nx:Nat) (σ:Store),σ c=some (Qo xs i6 h6 0)->σ b=some ⟨[I 1,I 1,I 1,I 3],1,true⟩->c<nx->b<nx->b≠c->ev ZK conv ext 87 [.rp c 0,.rs b 0 4] σ nx=some (I S,upd σ c (some (Qo xs i7 h7 0)),nx):=by rw[m5];exact k7
 have O0:∀(c b nx:Nat) (σ:Store),σ c=some (Qo xs i9 h9 0)->σ b=some ⟨[I 1,I 2,I 3],1,true⟩->c<nx->b<nx->b≠c->ev ZK conv ext 87 [.rp c 0,.rs b 0 3] σ nx=some (I E,upd σ c (some (Qo xs m3 m4 0)),nx):=by rw[m6];exact N6
 have w1:=ZR (n:=-1-r1);have w3:=ZR (n:=3+r3);have w5:=ZR (n:=r5-1);have w6:=ZR (n:=-1-r6);have w9:=ZR (n:=r9-1);cases r8 with
 |false=>
  refine⟨⟨[⟨⟨#[97]⟩,-1-r1,r2,true⟩,⟨⟨#[98]⟩,3+r3,r4,true⟩,⟨⟨#[99]⟩,r5-1,-1-r6,false⟩],[⟨0,2,1⟩,⟨1,2,S⟩]⟩,⟨_,_,_,_,_,_,S,⟨by omega,by omega,by omega,by omega,by omega,by omega,v7⟩,.inl rfl⟩,i8,h8,2,4,5,fun c nx σ Y hc=>?_,by decide,by decide,by decide,j8⟩;have n0:¬c=nx:=by omega
  have n1:¬nx=c:=by omega
  have n2:c<nx+1:=by omega
  have n3:(c==nx)=false:=by rw[sJ];omega
  have n4:(nx==c)=false:=by rw[sJ];omega
  have n5:nx<nx+1:=by omega
  have n6:¬nx=nx+1:=by omega
  have n7:(nx==nx+1)=false:=by rw[sJ];omega
  have n8:nx<nx+1+1:=by omega
  have n9:¬nx=nx+1+1:=by omega
  have a0:(nx==nx+1+1)=false:=by rw[sJ];omega
  have a1:nx<nx+1+1+1:=by omega
  have a2:¬nx=nx+1+1+1:=by omega
  have a3:(nx==nx+1+1+1)=false:=by rw[sJ];omega
  have a4:nx<nx+1+1+1+1:=by omega
  have a5:¬nx=nx+1+1+1+1:=by omega
  have a6:(nx==nx+1+1+1+1)=false:=by rw[sJ];omega
  have a7:nx<nx+1+1+1+1+1:=by omega
  have a8:¬c=nx+1:=by omega
  have a9:¬nx+1=c:=by omega
  have b7:c<nx+1+1:=by omega
  have b8:(c==nx+1)=false:=by rw[sJ];omega
  have c0:(nx+1==c)=false:=by rw[sJ];omega
  have c2:¬nx+1=nx:=by omega
  have c3:(nx+1==nx)=false:=by rw[sJ];omega
  have c4:nx+1<nx+1+1:=by omega
  have c5:¬nx+1=nx+1+1:=by omega
  have c6:(nx+1==nx+1+1)=false:=by rw[sJ];omega
  have c7:nx+1<nx+1+1+1:=by omega
  have c8:¬nx+1=nx+1+1+1:=by omega
  have c9:(nx+1==nx+1+1+1)=false:=by rw[sJ];omega
  have d0:nx+1<nx+1+1+1+1:=by omega
  have d1:¬nx+1=nx+1+1+1+1:=by omega
  have d2:(nx+1==nx+1+1+1+1)=false:=by rw[sJ];omega
  have d3:nx+1<nx+1+1+1+1+1:=by omega
  have d4:¬c=nx+1+1:=by omega
  have d5:¬nx+1+1=c:=by omega
  have d6:c<nx+1+1+1:=by omega
  have d7:(c==nx+1+1)=false:=by rw[sJ];omega
  have d8:(nx+1+1==c)=false:=by rw[sJ];omega
  have d9:¬nx+1+1=nx:=by omega
  have e0:(nx+1+1==nx)=false:=by rw[sJ];omega
  have e1:¬nx+1+1=nx+1:=by omega
  have e2:(nx+1+1==nx+1)=false:=by rw[sJ];omega
  have e3:nx+1+1<nx+1+1+1:=by omega
  have e4:¬nx+1+1=nx+1+1+1:=by omega
  have e5:(nx+1+1==nx+1+1+1)=false:=by rw[sJ];omega
  have e6:nx+1+1<nx+1+1+1+1:=by omega
  have e8:¬nx+1+1=nx+1+1+1+1:=by omega
  have e9:(nx+1+1==nx+1+1+1+1)=false:=by rw[sJ];omega
  have f0:nx+1+1<nx+1+1+1+1+1:=by omega
  have f1:¬c=nx+1+1+1:=by omega
  have f2:¬nx+1+1+1=c:=by omega
  have f3:c<nx+1+1+1+1:=by omega
  have f4:(c==nx+1+1+1)=false:=by rw[sJ];omega
  have f5:(nx+1+1+1==c)=false:=by rw[sJ];omega
  have f6:¬nx+1+1+1=nx:=by omega
  have f7:(nx+1+1+1==nx)=false:=by rw[sJ];omega
  have f8:¬nx+1+1+1=nx+1:=by omega
  have f9:(nx+1+1+1==nx+1)=false:=by rw[sJ];omega
  have g0:¬nx+1+1+1=nx+1+1:=by omega
  have g1:(nx+1+1+1==nx+1+1)=false:=by rw[sJ];omega
  have g2:nx+1+1+1<nx+1+1+1+1:=by omega
  have g3:¬nx+1+1+1=nx+1+1+1+1:=by omega
  have g4:(nx+1+1+1==nx+1+1+1+1)=false:=by rw[sJ];omega
  have g5:nx+1+1+1<nx+1+1+1+1+1:=by omega
  have g6:¬c=nx+1+1+1+1:=by omega
  have g7:¬nx+1+1+1+1=c:=by omega
  have g8:c<nx+1+1+1+1+1:=by omega
  have g9:(c==nx+1+1+1+1)=false:=by rw[sJ];omega
  have h0:(nx+1+1+1+1==c)=false:=by rw[sJ];omega
  have i0:¬nx+1+1+1+1=nx:=by omega
  have j0:(nx+1+1+1+1==nx)=false:=by rw[sJ];omega
  have k0:¬nx+1+1+1+1=nx+1:=by omega
  have l1:(nx+1+1+1+1==nx+1)=false:=by rw[sJ];omega
  have l2:¬nx+1+1+1+1=nx+1+1:=by omega
  have l3:(nx+1+1+1+1==nx+1+1)=false:=by rw[sJ];omega
  have l4:¬nx+1+1+1+1=nx+1+1+1:=by omega
  have l5:(nx+1+1+1+1==nx+1+1+1)=false:=by rw[sJ];omega
  have l6:nx+1+1+1+1<nx+1+1+1+1+1:=by omega
  have l7:∀a b c d:V,rep 3 [a,b,c,d]=[a,b,c,d,a,b,c,d,a,b,c,d]:=fun _ _ _ _=>rfl
  have l8:∀a b c:V,rep 2 [a,b,c]=[a,b,c,a,b,c]:=fun _ _ _=>rfl
  have l9:∀a:V,rep 4 [a]=[a,a,a,a]:=fun _=>rfl
  have m1:∀a:V,rep 3 [a]=[a,a,a]:=fun _=>rfl
  have m2:∀z:List V,rep 1 z=z:=fun z=>by simp[rep]
  rw[mg [.cell 2 37] [5,6] func84];simp only[go_sem,l7,l8,l9,m1,m2,qC,q1,q2,q3,q4,q5,q6,q7,q8,Y,w1,w3,w5,w6,n0,n1,n2,n3,n4,n5,n6,n7,n8,n9,a0,a1,a2,a3,a4,a5,a6,a7,a8,a9,b7,b8,c0,c2,c3,c4,c5,c6,c7,c8,c9,d0,d1,d2,d3,d4,d5,d6,d7,d8,d9,e0,e1,e2,e3,e4,e5,e6,e8,e9,f0,f1,f2,f3,f4,f5,f6,f7,f8,f9,g0,g1,g2,g3,g4,g5,g6,g7,g8,g9,h0,i0,j0,k0,l1,l2,l3,l4,l5,l6];refine⟨_,rfl,?_,?_,?_,fun q hq O2=>?_⟩
  all_goals (repeat (first|rw[QS (by omega)]|rw[Zk]))
  all_goals rfl
 |true=>
  refine⟨⟨[⟨⟨#[97]⟩,-1-r1,r2,true⟩,⟨⟨#[98]⟩,3+r3,r4,true⟩,⟨⟨#[99]⟩,r5-1,-1-r6,false⟩,⟨⟨#[100]⟩,r9-1,-7,true⟩],[⟨0,2,1⟩,⟨1,2,S⟩,⟨3,2,E⟩]⟩,⟨_,_,_,_,_,_,S,⟨by omega,by omega,by omega,by omega,by omega,by omega,v7⟩,.inr ⟨_,E,by omega,v10,rfl⟩⟩,m3,m4,6,9,10,fun c nx σ Y hc=>?_,by decide,by decide,by decide,N9⟩;have n0:¬c=nx:=by omega
  have n1:¬nx=c:=by omega
  have n2:c<nx+1:=by omega
  have n3:(c==nx)=false:=by rw[sJ];omega
  have n4:(nx==c)=false:=by rw[sJ];omega
  have n5:nx<nx+1:=by omega
  have n6:¬nx=nx+1:=by omega
  have n7:(nx==nx+1)=false:=by rw[sJ];omega
  have n8:nx<nx+1+1:=by omega
  have n9:¬nx=nx+1+1:=by omega
  have a0:(nx==nx+1+1)=false:=by rw[sJ];omega
  have a1:nx<nx+1+1+1:=by omega
  have a2:¬nx=nx+1+1+1:=by omega
  have a3:(nx==nx+1+1+1)=false:=by rw[sJ];omega
  have a4:nx<nx+1+1+1+1:=by omega
  have a5:¬nx=nx+1+1+1+1:=by omega
  have a6:(nx==nx+1+1+1+1)=false:=by rw[sJ];omega
  have a7:nx<nx+1+1+1+1+1:=by omega
  have a8:¬nx=nx+1+1+1+1+1:=by omega
  have a9:(nx==nx+1+1+1+1+1)=false:=by rw[sJ];omega
  have b7:nx<nx+1+1+1+1+1+1:=by omega
  have b8:¬nx=nx+1+1+1+1+1+1:=by omega
  have c0:(nx==nx+1+1+1+1+1+1)=false:=by rw[sJ];omega
  have c2:nx<nx+1+1+1+1+1+1+1:=by omega
  have c3:¬nx=nx+1+1+1+1+1+1+1:=by omega
  have c4:(nx==nx+1+1+1+1+1+1+1)=false:=by rw[sJ];omega
  have c5:nx<nx+1+1+1+1+1+1+1+1:=by omega
  have c6:¬nx=nx+1+1+1+1+1+1+1+1:=by omega
  have c7:(nx==nx+1+1+1+1+1+1+1+1)=false:=by rw[sJ];omega
  have c8:nx<nx+1+1+1+1+1+1+1+1+1:=by omega
  have c9:¬nx=nx+1+1+1+1+1+1+1+1+1:=by omega
  have d0:(nx==nx+1+1+1+1+1+1+1+1+1)=false:=by rw[sJ];omega
  have d1:nx<nx+1+1+1+1+1+1+1+1+1+1:=by omega
  have d2:¬c=nx+1:=by omega
  have d3:¬nx+1=c:=by omega
  have d4:c<nx+1+1:=by omega
  have d5:(c==nx+1)=false:=by rw[sJ];omega
  have d6:(nx+1==c)=false:=by rw[sJ];omega
  have d7:¬nx+1=nx:=by omega
  have d8:(nx+1==nx)=false:=by rw[sJ];omega
  have d9:nx+1<nx+1+1:=by omega
  have e0:¬nx+1=nx+1+1:=by omega
  have e1:(nx+1==nx+1+1)=false:=by rw[sJ];omega
  have e2:nx+1<nx+1+1+1:=by omega
  have e3:¬nx+1=nx+1+1+1:=by omega
  have e4:(nx+1==nx+1+1+1)=false:=by rw[sJ];omega
  have e5:nx+1<nx+1+1+1+1:=by omega
  have e6:¬nx+1=nx+1+1+1+1:=by omega
  have e8:(nx+1==nx+1+1+1+1)=false:=by rw[sJ];omega
  have e9:nx+1<nx+1+1+1+1+1:=by omega
  have f0:¬nx+1=nx+1+1+1+1+1:=by omega
  have f1:(nx+1==nx+1+1+1+1+1)=false:=by rw[sJ];omega
  have f2:nx+1<nx+1+1+1+1+1+1:=by omega
  have f3:¬nx+1=nx+1+1+1+1+1+1:=by omega
  have f4:(nx+1==nx+1+1+1+1+1+1)=false:=by rw[sJ];omega
  have f5:nx+1<nx+1+1+1+1+1+1+1:=by omega
  have f6:¬nx+1=nx+1+1+1+1+1+1+1:=by omega
  have f7:(nx+1==nx+1+1+1+1+1+1+1)=false:=by rw[sJ];omega
  have f8:nx+1<nx+1+1+1+1+1+1+1+1:=by omega
  have f9:¬nx+1=nx+1+1+1+1+1+1+1+1:=by omega
  have g0:(nx+1==nx+1+1+1+1+1+1+1+1)=false:=by rw[sJ];omega
  have g1:nx+1<nx+1+1+1+1+1+1+1+1+1:=by omega
  have g2:¬nx+1=nx+1+1+1+1+1+1+1+1+1:=by omega
  have g3:(nx+1==nx+1+1+1+1+1+1+1+1+1)=false:=by rw[sJ];omega
  have g4:nx+1<nx+1+1+1+1+1+1+1+1+1+1:=by omega
  have g5:¬c=nx+1+1:=by omega
  have g6:¬nx+1+1=c:=by omega
  have g7:c<nx+1+1+1:=by omega
  have g8:(c==nx+1+1)=false:=by rw[sJ];omega
  have g9:(nx+1+1==c)=false:=by rw[sJ];omega
  have h0:¬nx+1+1=nx:=by omega
  have i0:(nx+1+1==nx)=false:=by rw[sJ];omega
  have j0:¬nx+1+1=nx+1:=by omega
  have k0:(nx+1+1==nx+1)=false:=by rw[sJ];omega
  have l1:nx+1+1<nx+1+1+1:=by omega
  have l2:¬nx+1+1=nx+1+1+1:=by omega
  have l3:(nx+1+1==nx+1+1+1)=false:=by rw[sJ];omega
  have l4:nx+1+1<nx+1+1+1+1:=by omega
  have l5:¬nx+1+1=nx+1+1+1+1:=by omega
  have l6:(nx+1+1==nx+1+1+1+1)=false:=by rw[sJ];omega
  have O3:nx+1+1<nx+1+1+1+1+1:=by omega
  have P0:¬nx+1+1=nx+1+1+1+1+1:=by omega
  have P1:(nx+1+1==nx+1+1+1+1+1)=false:=by rw[sJ];omega
  have P2:nx+1+1<nx+1+1+1+1+1+1:=by omega
  have P3:¬nx+1+1=nx+1+1+1+1+1+1:=by omega
  have P4:(nx+1+1==nx+1+1+1+1+1+1)=false:=by rw[sJ];omega
  have Q0:nx+1+1<nx+1+1+1+1+1+1+1:=by omega
  have Q4:¬nx+1+1=nx+1+1+1+1+1+1+1:=by omega
  have Q6:(nx+1+1==nx+1+1+1+1+1+1+1)=false:=by rw[sJ];omega
  have Q8:nx+1+1<nx+1+1+1+1+1+1+1+1:=by omega
  have R0:¬nx+1+1=nx+1+1+1+1+1+1+1+1:=by omega
  have R1:(nx+1+1==nx+1+1+1+1+1+1+1+1)=false:=by rw[sJ];omega
  have R2:nx+1+1<nx+1+1+1+1+1+1+1+1+1:=by omega
  have R3:¬nx+1+1=nx+1+1+1+1+1+1+1+1+1:=by omega
  have R4:(nx+1+1==nx+1+1+1+1+1+1+1+1+1)=false:=by rw[sJ];omega
  have R5:nx+1+1<nx+1+1+1+1+1+1+1+1+1+1:=by omega
  have R6:¬c=nx+1+1+1:=by omega
  have R7:¬nx+1+1+1=c:=by omega
  have R8:c<nx+1+1+1+1:=by omega
  have R9:(c==nx+1+1+1)=false:=by rw[sJ];omega
  have m7:(nx+1+1+1==c)=false:=by rw[sJ];omega
  have m8:¬nx+1+1+1=nx:=by omega
  have m9:(nx+1+1+1==nx)=false:=by rw[sJ];omega
  have o0:¬nx+1+1+1=nx+1:=by omega
  have o2:(nx+1+1+1==nx+1)=false:=by rw[sJ];omega
  have o3:¬nx+1+1+1=nx+1+1:=by omega
  have o4:(nx+1+1+1==nx+1+1)=false:=by rw[sJ];omega
  have o5:nx+1+1+1<nx+1+1+1+1:=by omega
  have o6:¬nx+1+1+1=nx+1+1+1+1:=by omega
  have o7:(nx+1+1+1==nx+1+1+1+1)=false:=by rw[sJ];omega
  have p0:nx+1+1+1<nx+1+1+1+1+1:=by omega
  have p1:¬nx+1+1+1=nx+1+1+1+1+1:=by omega
  have p2:(nx+1+1+1==nx+1+1+1+1+1)=false:=by rw[sJ];omega
  have p3:nx+1+1+1<nx+1+1+1+1+1+1:=by omega
  have p4:¬nx+1+1+1=nx+1+1+1+1+1+1:=by omega
  have p5:(nx+1+1+1==nx+1+1+1+1+1+1)=false:=by rw[sJ];omega
  have p6:nx+1+1+1<nx+1+1+1+1+1+1+1:=by omega
  have p7:¬nx+1+1+1=nx+1+1+1+1+1+1+1:=by omega
  have p8:(nx+1+1+1==nx+1+1+1+1+1+1+1)=false:=by rw[sJ];omega
  have p9:nx+1+1+1<nx+1+1+1+1+1+1+1+1:=by omega
  have q0:¬nx+1+1+1=nx+1+1+1+1+1+1+1+1:=by omega
  have r0:(nx+1+1+1==nx+1+1+1+1+1+1+1+1)=false:=by rw[sJ];omega
  have s1:nx+1+1+1<nx+1+1+1+1+1+1+1+1+1:=by omega
  have s2:¬nx+1+1+1=nx+1+1+1+1+1+1+1+1+1:=by omega
  have s3:(nx+1+1+1==nx+1+1+1+1+1+1+1+1+1)=false:=by rw[sJ];omega
  have s4:nx+1+1+1<nx+1+1+1+1+1+1+1+1+1+1:=by omega
  have s5:¬c=nx+1+1+1+1:=by omega
  have s6:¬nx+1+1+1+1=c:=by omega
  have s7:c<nx+1+1+1+1+1:=by omega
  have s8:(c==nx+1+1+1+1)=false:=by rw[sJ];omega
  have s9:(nx+1+1+1+1==c)=false:=by rw[sJ];omega
  have t1:¬nx+1+1+1+1=nx:=by omega
  have t2:(nx+1+1+1+1==nx)=false:=by rw[sJ];omega
  have t3:¬nx+1+1+1+1=nx+1:=by omega
  have t4:(nx+1+1+1+1==nx+1)=false:=by rw[sJ];omega
  have t5:¬nx+1+1+1+1=nx+1+1:=by omega
  have t6:(nx+1+1+1+1==nx+1+1)=false:=by rw[sJ];omega
  have t7:¬nx+1+1+1+1=nx+1+1+1:=by omega
  have t8:(nx+1+1+1+1==nx+1+1+1)=false:=by rw[sJ];omega
  have t9:nx+1+1+1+1<nx+1+1+1+1+1:=by omega
  have u0:¬nx+1+1+1+1=nx+1+1+1+1+1:=by omega
  have u1:(nx+1+1+1+1==nx+1+1+1+1+1)=false:=by rw[sJ];omega
  have u2:nx+1+1+1+1<nx+1+1+1+1+1+1:=by omega
  have u5:¬nx+1+1+1+1=nx+1+1+1+1+1+1:=by omega
  have u6:(nx+1+1+1+1==nx+1+1+1+1+1+1)=false:=by rw[sJ];omega
  have u7:nx+1+1+1+1<nx+1+1+1+1+1+1+1:=by omega
  have u9:¬nx+1+1+1+1=nx+1+1+1+1+1+1+1:=by omega
  have v0:(nx+1+1+1+1==nx+1+1+1+1+1+1+1)=false:=by rw[sJ];omega
  have v2:nx+1+1+1+1<nx+1+1+1+1+1+1+1+1:=by omega
  have v3:¬nx+1+1+1+1=nx+1+1+1+1+1+1+1+1:=by omega
  have v4:(nx+1+1+1+1==nx+1+1+1+1+1+1+1+1)=false:=by rw[sJ];omega
  have v5:nx+1+1+1+1<nx+1+1+1+1+1+1+1+1+1:=by omega
  have v6:¬nx+1+1+1+1=nx+1+1+1+1+1+1+1+1+1:=by omega
  have v8:(nx+1+1+1+1==nx+1+1+1+1+1+1+1+1+1)=false:=by rw[sJ];omega
  have v9:nx+1+1+1+1<nx+1+1+1+1+1+1+1+1+1+1:=by omega
  have w0:¬c=nx+1+1+1+1+1:=by omega
  have w2:¬nx+1+1+1+1+1=c:=by omega
  have w4:c<nx+1+1+1+1+1+1:=by omega
  have w7:(c==nx+1+1+1+1+1)=false:=by rw[sJ];omega
  have w8:(nx+1+1+1+1+1==c)=false:=by rw[sJ];omega
  have x0:¬nx+1+1+1+1+1=nx:=by omega
  have x1:(nx+1+1+1+1+1==nx)=false:=by rw[sJ];omega
  have x2:¬nx+1+1+1+1+1=nx+1:=by omega
  have x3:(nx+1+1+1+1+1==nx+1)=false:=by rw[sJ];omega
  have x4:¬nx+1+1+1+1+1=nx+1+1:=by omega
  have x5:(nx+1+1+1+1+1==nx+1+1)=false:=by rw[sJ];omega
  have x6:¬nx+1+1+1+1+1=nx+1+1+1:=by omega
  have x7:(nx+1+1+1+1+1==nx+1+1+1)=false:=by rw[sJ];omega
  have x8:¬nx+1+1+1+1+1=nx+1+1+1+1:=by omega
  have x9:(nx+1+1+1+1+1==nx+1+1+1+1)=false:=by rw[sJ];omega
  have y0:nx+1+1+1+1+1<nx+1+1+1+1+1+1:=by omega
  have y1:¬nx+1+1+1+1+1=nx+1+1+1+1+1+1:=by omega
  have y2:(nx+1+1+1+1+1==nx+1+1+1+1+1+1)=false:=by rw[sJ];omega
  have y3:nx+1+1+1+1+1<nx+1+1+1+1+1+1+1:=by omega
  have y4:¬nx+1+1+1+1+1=nx+1+1+1+1+1+1+1:=by omega
  have y5:(nx+1+1+1+1+1==nx+1+1+1+1+1+1+1)=false:=by rw[sJ];omega
  have y6:nx+1+1+1+1+1<nx+1+1+1+1+1+1+1+1:=by omega
  have y7:¬nx+1+1+1+1+1=nx+1+1+1+1+1+1+1+1:=by omega
  have y8:(nx+1+1+1+1+1==nx+1+1+1+1+1+1+1+1)=false:=by rw[sJ];omega
  have y9:nx+1+1+1+1+1<nx+1+1+1+1+1+1+1+1+1:=by omega
  have z0:¬nx+1+1+1+1+1=nx+1+1+1+1+1+1+1+1+1:=by omega
  have z1:(nx+1+1+1+1+1==nx+1+1+1+1+1+1+1+1+1)=false:=by rw[sJ];omega
  have z2:nx+1+1+1+1+1<nx+1+1+1+1+1+1+1+1+1+1:=by omega
  have z3:¬c=nx+1+1+1+1+1+1:=by omega
  have z4:¬nx+1+1+1+1+1+1=c:=by omega
  have z5:c<nx+1+1+1+1+1+1+1:=by omega
  have z6:(c==nx+1+1+1+1+1+1)=false:=by rw[sJ];omega
  have z7:(nx+1+1+1+1+1+1==c)=false:=by rw[sJ];omega
  have z8:¬nx+1+1+1+1+1+1=nx:=by omega
  have z9:(nx+1+1+1+1+1+1==nx)=false:=by rw[sJ];omega
  have A0:¬nx+1+1+1+1+1+1=nx+1:=by omega
  have A1:(nx+1+1+1+1+1+1==nx+1)=false:=by rw[sJ];omega
  have A2:¬nx+1+1+1+1+1+1=nx+1+1:=by omega
  have A3:(nx+1+1+1+1+1+1==nx+1+1)=false:=by rw[sJ];omega
  have A4:¬nx+1+1+1+1+1+1=nx+1+1+1:=by omega
  have A5:(nx+1+1+1+1+1+1==nx+1+1+1)=false:=by rw[sJ];omega
  have A6:¬nx+1+1+1+1+1+1=nx+1+1+1+1:=by omega
  have A7:(nx+1+1+1+1+1+1==nx+1+1+1+1)=false:=by rw[sJ];omega
  have A9:¬nx+1+1+1+1+1+1=nx+1+1+1+1+1:=by omega
  have B1:(nx+1+1+1+1+1+1==nx+1+1+1+1+1)=false:=by rw[sJ];omega
  have B2:nx+1+1+1+1+1+1<nx+1+1+1+1+1+1+1:=by omega
  have B3:¬nx+1+1+1+1+1+1=nx+1+1+1+1+1+1+1:=by omega
  have B4:(nx+1+1+1+1+1+1==nx+1+1+1+1+1+1+1)=false:=by rw[sJ];omega
  have B5:nx+1+1+1+1+1+1<nx+1+1+1+1+1+1+1+1:=by omega
  have B6:¬nx+1+1+1+1+1+1=nx+1+1+1+1+1+1+1+1:=by omega
  have B7:(nx+1+1+1+1+1+1==nx+1+1+1+1+1+1+1+1)=false:=by rw[sJ];omega
  have B8:nx+1+1+1+1+1+1<nx+1+1+1+1+1+1+1+1+1:=by omega
  have B9:¬nx+1+1+1+1+1+1=nx+1+1+1+1+1+1+1+1+1:=by omega
  have C0:(nx+1+1+1+1+1+1==nx+1+1+1+1+1+1+1+1+1)=false:=by rw[sJ];omega
  have C1:nx+1+1+1+1+1+1<nx+1+1+1+1+1+1+1+1+1+1:=by omega
  have C2:¬c=nx+1+1+1+1+1+1+1:=by omega
  have C3:¬nx+1+1+1+1+1+1+1=c:=by omega
  have C4:c<nx+1+1+1+1+1+1+1+1:=by omega
  have C5:(c==nx+1+1+1+1+1+1+1)=false:=by rw[sJ];omega
  have C6:(nx+1+1+1+1+1+1+1==c)=false:=by rw[sJ];omega
  have C7:¬nx+1+1+1+1+1+1+1=nx:=by omega
  have C8:(nx+1+1+1+1+1+1+1==nx)=false:=by rw[sJ];omega
  have D3:¬nx+1+1+1+1+1+1+1=nx+1:=by omega
  have D4:(nx+1+1+1+1+1+1+1==nx+1)=false:=by rw[sJ];omega
  have D5:¬nx+1+1+1+1+1+1+1=nx+1+1:=by omega
  have D6:(nx+1+1+1+1+1+1+1==nx+1+1)=false:=by rw[sJ];omega
  have E0:¬nx+1+1+1+1+1+1+1=nx+1+1+1:=by omega
  have E1:(nx+1+1+1+1+1+1+1==nx+1+1+1)=false:=by rw[sJ];omega
  have E2:¬nx+1+1+1+1+1+1+1=nx+1+1+1+1:=by omega
  have E3:(nx+1+1+1+1+1+1+1==nx+1+1+1+1)=false:=by rw[sJ];omega
  have E4:¬nx+1+1+1+1+1+1+1=nx+1+1+1+1+1:=by omega
  have E5:(nx+1+1+1+1+1+1+1==nx+1+1+1+1+1)=false:=by rw[sJ];omega
  have E6:¬nx+1+1+1+1+1+1+1=nx+1+1+1+1+1+1:=by omega
  have E7:(nx+1+1+1+1+1+1+1==nx+1+1+1+1+1+1)=false:=by rw[sJ];omega
  have E9:nx+1+1+1+1+1+1+1<nx+1+1+1+1+1+1+1+1:=by omega
  have F0:¬nx+1+1+1+1+1+1+1=nx+1+1+1+1+1+1+1+1:=by omega
  have F1:(nx+1+1+1+1+1+1+1==nx+1+1+1+1+1+1+1+1)=false:=by rw[sJ];omega
  have F2:nx+1+1+1+1+1+1+1<nx+1+1+1+1+1+1+1+1+1:=by omega
  have F3:¬nx+1+1+1+1+1+1+1=nx+1+1+1+1+1+1+1+1+1:=by omega
  have F4:(nx+1+1+1+1+1+1+1==nx+1+1+1+1+1+1+1+1+1)=false:=by rw[sJ];omega
  have G0:nx+1+1+1+1+1+1+1<nx+1+1+1+1+1+1+1+1+1+1:=by omega
  have G1:¬c=nx+1+1+1+1+1+1+1+1:=by omega
  have G3:¬nx+1+1+1+1+1+1+1+1=c:=by omega
  have G4:c<nx+1+1+1+1+1+1+1+1+1:=by omega
  have G8:(c==nx+1+1+1+1+1+1+1+1)=false:=by rw[sJ];omega
  have H0:(nx+1+1+1+1+1+1+1+1==c)=false:=by rw[sJ];omega
  have H1:¬nx+1+1+1+1+1+1+1+1=nx:=by omega
  have H2:(nx+1+1+1+1+1+1+1+1==nx)=false:=by rw[sJ];omega
  have H3:¬nx+1+1+1+1+1+1+1+1=nx+1:=by omega
  have H4:(nx+1+1+1+1+1+1+1+1==nx+1)=false:=by rw[sJ];omega
  have H5:¬nx+1+1+1+1+1+1+1+1=nx+1+1:=by omega
  have I0:(nx+1+1+1+1+1+1+1+1==nx+1+1)=false:=by rw[sJ];omega
  have I1:¬nx+1+1+1+1+1+1+1+1=nx+1+1+1:=by omega
  have I2:(nx+1+1+1+1+1+1+1+1==nx+1+1+1)=false:=by rw[sJ];omega
  have I3:¬nx+1+1+1+1+1+1+1+1=nx+1+1+1+1:=by omega
  have I6:(nx+1+1+1+1+1+1+1+1==nx+1+1+1+1)=false:=by rw[sJ];omega
  have J0:¬nx+1+1+1+1+1+1+1+1=nx+1+1+1+1+1:=by omega
  have J1:(nx+1+1+1+1+1+1+1+1==nx+1+1+1+1+1)=false:=by rw[sJ];omega
  have J2:¬nx+1+1+1+1+1+1+1+1=nx+1+1+1+1+1+1:=by omega
  have K0:(nx+1+1+1+1+1+1+1+1==nx+1+1+1+1+1+1)=false:=by rw[sJ];omega
  have K1:¬nx+1+1+1+1+1+1+1+1=nx+1+1+1+1+1+1+1:=by omega
  have K2:(nx+1+1+1+1+1+1+1+1==nx+1+1+1+1+1+1+1)=false:=by rw[sJ];omega
  have K3:nx+1+1+1+1+1+1+1+1<nx+1+1+1+1+1+1+1+1+1:=by omega
  have K4:¬nx+1+1+1+1+1+1+1+1=nx+1+1+1+1+1+1+1+1+1:=by omega
  have K5:(nx+1+1+1+1+1+1+1+1==nx+1+1+1+1+1+1+1+1+1)=false:=by rw[sJ];omega
  have K6:nx+1+1+1+1+1+1+1+1<nx+1+1+1+1+1+1+1+1+1+1:=by omega
  have K7:¬c=nx+1+1+1+1+1+1+1+1+1:=by omega
  have K8:¬nx+1+1+1+1+1+1+1+1+1=c:=by omega
  have K9:c<nx+1+1+1+1+1+1+1+1+1+1:=by omega
  have L0:(c==nx+1+1+1+1+1+1+1+1+1)=false:=by rw[sJ];omega
  have L1:(nx+1+1+1+1+1+1+1+1+1==c)=false:=by rw[sJ];omega
  have L2:¬nx+1+1+1+1+1+1+1+1+1=nx:=by omega
  have L3:(nx+1+1+1+1+1+1+1+1+1==nx)=false:=by rw[sJ];omega
  have L4:¬nx+1+1+1+1+1+1+1+1+1=nx+1:=by omega
  have L5:(nx+1+1+1+1+1+1+1+1+1==nx+1)=false:=by rw[sJ];omega
  have L7:¬nx+1+1+1+1+1+1+1+1+1=nx+1+1:=by omega
  have M0:(nx+1+1+1+1+1+1+1+1+1==nx+1+1)=false:=by rw[sJ];omega
  have M1:¬nx+1+1+1+1+1+1+1+1+1=nx+1+1+1:=by omega
  have M2:(nx+1+1+1+1+1+1+1+1+1==nx+1+1+1)=false:=by rw[sJ];omega
  have M3:¬nx+1+1+1+1+1+1+1+1+1=nx+1+1+1+1:=by omega
  have M4:(nx+1+1+1+1+1+1+1+1+1==nx+1+1+1+1)=false:=by rw[sJ];omega
  have M5:¬nx+1+1+1+1+1+1+1+1+1=nx+1+1+1+1+1:=by omega
  have M6:(nx+1+1+1+1+1+1+1+1+1==nx+1+1+1+1+1)=false:=by rw[sJ];omega
  have M7:¬nx+1+1+1+1+1+1+1+1+1=nx+1+1+1+1+1+1:=by omega
  have M8:(nx+1+1+1+1+1+1+1+1+1==nx+1+1+1+1+1+1)=false:=by rw[sJ];omega
  have M9:¬nx+1+1+1+1+1+1+1+1+1=nx+1+1+1+1+1+1+1:=by omega
  have N0:(nx+1+1+1+1+1+1+1+1+1==nx+1+1+1+1+1+1+1)=false:=by rw[sJ];omega
  have N1:¬nx+1+1+1+1+1+1+1+1+1=nx+1+1+1+1+1+1+1+1:=by omega
  have N2:(nx+1+1+1+1+1+1+1+1+1==nx+1+1+1+1+1+1+1+1)=false:=by rw[sJ];omega
  have N3:nx+1+1+1+1+1+1+1+1+1<nx+1+1+1+1+1+1+1+1+1+1:=by omega
  have l7:∀a b c d:V,rep 3 [a,b,c,d]=[a,b,c,d,a,b,c,d,a,b,c,d]:=fun _ _ _ _=>rfl
  have l8:∀a b c:V,rep 2 [a,b,c]=[a,b,c,a,b,c]:=fun _ _ _=>rfl
  have l9:∀a:V,rep 4 [a]=[a,a,a,a]:=fun _=>rfl
  have m1:∀a:V,rep 3 [a]=[a,a,a]:=fun _=>rfl
  have m2:∀z:List V,rep 1 z=z:=fun z=>by simp[rep]
  rw[mg [.cell 2 37] [5,6] func84];have S0:3<=maxLen:=by decide
  have S1:4<=maxLen:=by decide
  simp only[go_sem,S0,S1,l7,l8,l9,m1,m2,qC,q1,q2,q3,q4,q5,q6,q7,q8,q9,O0,Y,w1,w3,w5,w6,w9,n0,n1,n2,n3,n4,n5,n6,n7,n8,n9,a0,a1,a2,a3,a4,a5,a6,a7,a8,a9,b7,b8,c0,c2,c3,c4,c5,c6,c7,c8,c9,d0,d1,d2,d3,d4,d5,d6,d7,d8,d9,e0,e1,e2,e3,e4,e5,e6,e8,e9,f0,f1,f2,f3,f4,f5,f6,f7,f8,f9,g0,g1,g2,g3,g4,g5,g6,g7,g8,g9,h0,i0,j0,k0,l1,l2,l3,l4,l5,l6,O3,P0,P1,P2,P3,P4,Q0,Q4,Q6,Q8,R0,R1,R2,R3,R4,R5,R6,R7,R8,R9,m7,m8,m9,o0,o2,o3,o4,o5,o6,o7,p0,p1,p2,p3,p4,p5,p6,p7,p8,p9,q0,r0,s1,s2,s3,s4,s5,s6,s7,s8,s9,t1,t2,t3,t4,t5,t6,t7,t8,t9,u0,u1,u2,u5,u6,u7,u9,v0,v2,v3,v4,v5,v6,v8,v9,w0,w2,w4,w7,w8,x0,x1,x2,x3,x4,x5,x6,x7,x8,x9,y0,y1,y2,y3,y4,y5,y6,y7,y8,y9,z0,z1,z2,z3,z4,z5,z6,z7,z8,z9,A0,A1,A2,A3,A4,A5,A6,A7,A9,B1,B2,B3,B4,B5,B6,B7,B8,B9,C0,C1,C2,C3,C4,C5,C6,C7,C8,D3,D4,D5,D6,E0,E1,E2,E3,E4,E5,E6,E7,E9,F0,F1,F2,F3,F4,G0,G1,G3,G4,G8,H0,H1,H2,H3,H4,H5,I0,I1,I2,I3,I6,J0,J1,J2,K0,K1,K2,K3,K4,K5,K6,K7,K8,K9,L0,L1,L2,L3,L4,L5,L7,M0,M1,M2,M3,M4,M5,M6,M7,M8,M9,N0,N1,N2,N3];refine⟨_,rfl,?_,?_,?_,fun q hq O2=>?_⟩
  all_goals (repeat (first|rw[QS (by omega)]|rw[Zk]))
  all_goals rfl
theorem name1(u:UInt8)(h:CO u=true):DW ⟨#[u]⟩:=by
 refine⟨fun k b hb=>?_,zq 1,by show 1<=8;omega⟩;have J:=LC hb;have E:k=0:=by
  have:(⟨#[u]⟩:ByteArray).size=1:=rfl;omega
 subst E;have:b=u:=by
  have G:(⟨#[u]⟩:ByteArray)[0]?=some u:=rfl;rw[G]at hb;cases hb;rfl
 subst this;exact .inl h
theorem name2(u v:UInt8)(h:CO u=true)(J:Em v=true):DW ⟨#[u,v]⟩:=by
 refine⟨fun k b hb=>?_,by show 1<=2;omega,by show 2<=8;omega⟩;have O:=LC hb;have:(⟨#[u,v]⟩:ByteArray).size=2:=rfl;have E:k=0\/k=1:=by omega
 rcases E with rfl|rfl
 .have G:(⟨#[u,v]⟩:ByteArray)[0]?=some u:=rfl
  rw[G]at hb;cases hb;exact .inl h
 .have G:(⟨#[u,v]⟩:ByteArray)[1]?=some v:=rfl
  rw[G]at hb;cases hb;exact .inr ⟨by decide,J⟩
theorem asQ(u v:UInt8):((⟨#[u]⟩:ByteArray).toList==(⟨#[v]⟩:ByteArray).toList)=(u==v):=by
 have h:∀w:UInt8,(⟨#[w]⟩:ByteArray).toList=[w]:=fun w=>by
  unfold ByteArray.toList ByteArray.toList.loop ByteArray.toList.loop;rfl
 rw[h,h];show((u==v) && true)=_;rw[uJ]
theorem L8{n a b:Int}(h:a<=n/\n<=b):inB n a b=true:=by unfold inB;rw[sH h.1,sH h.2];rfl
theorem ji(u:UInt8)(h:CO u=true){x y:Int}{f:Bool}(E:-50<=x/\x<=50)(G:-50<=y/\y<=50):D7 ⟨⟨#[u]⟩,x,y,f⟩=true:=by
 unfold D7;rw[gy (name1 u h),L8 E,L8 G];rfl
theorem Ot{js:List Dk}{m:Member}(E:Dy js.length m)(hp:∀a b,js[m.a.toNat]?=some a->js[m.b.toNat]?=some b->Kz a b=true):Ns js m=true:=gy ⟨E,hp⟩
theorem XD{js:List Dk}(G:∀i j (hi:i<js.length) (O:j<js.length),i<j->Bh js[j].name js[i]=false)(i:Nat)(hi:i<js.length):ix (Bh js[i].name) js=i :=
 jr hi (fun J E h=>G J i E hi h) (by simp[Bh])
theorem IX(u v:UInt8)(h:(u==v)=false):((⟨#[u]⟩:ByteArray).toList==(⟨#[v]⟩:ByteArray).toList)=false:=(asQ u v).trans h
theorem alo{s:Structure}(h:acE s):Ba s/\Ah s:=by
 have J:∀u:UInt8,okS ⟨#[u]⟩:=fun u=>by unfold okS;show 1<=_;omega
 have E:∀n:Int,-100<=n/\n<=100->okI n:=fun n h=>Ip.mpr (by omega)
 have O:CO 97=true:=by decide
 have S:CO 98=true:=by decide
 have Y:CO 99=true:=by decide
 have a0:CO 100=true:=by decide
 have mx:4<=maxLen:=by decide
 have pr:∀ {n1 n2:ByteArray} {x y x' y':Int} {f:Bool},y≠y'->Kz ⟨n1,x,y,f⟩ ⟨n2,x',y',false⟩=true:=fun {n1 n2 x y x' y' f} h=>by
  unfold Kz;have:(y==y')=false:=by simpa using h
  simp[this]
 obtain⟨x1,y1,x2,y2,x3,y3,k,⟨b1,b2,b3,b4,b5,b6,hk⟩,rfl|⟨x4,k3,b7,a2,rfl⟩⟩:=h
 .refine⟨⟨by simp,by simp,fun i hi=>⟨?_,XD (fun i j hi G a1=>?_) i hi⟩,fun m hm=>?_⟩,⟨fun j G=>?_,by simp,by simp only[zW,yV];omega⟩,⟨fun m hm=>?_,by simp,by simp only[zW,yV];omega⟩⟩
  .have:i=0\/i=1\/i=2:=by simp only[zW,yV]at hi;omega
   rcases this with rfl|rfl|rfl
   .exact ji _ O (by omega) (by omega)
   .exact ji _ S (by omega) (by omega)
   .exact ji _ Y (by omega) (by omega)
  .have:(i=0/\j=1)\/(i=0/\j=2)\/(i=1/\j=2):=by simp only[zW,yV]at hi G;omega
   rcases this with ⟨rfl,rfl⟩|⟨rfl,rfl⟩|⟨rfl,rfl⟩
   .exact IX 97 98 rfl
   .exact IX 97 99 rfl
   .exact IX 98 99 rfl
  .simp only[zX,zH,or_false]at hm
   rcases hm with rfl|rfl
   .exact Ot (by unfold Dy;simp only[zW,yV];omega) fun a b ha hb=>by
     cases ha;cases hb;exact pr (by omega)
   .exact Ot (by unfold Dy;simp only[zW,yV];omega) fun a b ha hb=>by
     cases ha;cases hb;exact pr (by omega)
  .simp only[zX,zH,or_false]at G
   rcases G with rfl|rfl|rfl<;>exact⟨J _,E _ (by simp only;omega),E _ (by simp only;omega),trivial⟩
  .simp only[zX,zH,or_false]at hm
   rcases hm with rfl|rfl<;>exact⟨E _ (by simp only;omega),E _ (by simp only;omega),E _ (by simp only;omega)⟩
 .refine⟨⟨by simp,by simp,fun i hi=>⟨?_,XD (fun i j hi G a1=>?_) i hi⟩,fun m hm=>?_⟩,⟨fun j G=>?_,by simp,by simp only[zW,yV];omega⟩,⟨fun m hm=>?_,by simp,by simp only[zW,yV];omega⟩⟩
  .have:i=0\/i=1\/i=2\/i=3:=by simp only[zW,yV]at hi;omega
   rcases this with rfl|rfl|rfl|rfl
   .exact ji _ O (by omega) (by omega)
   .exact ji _ S (by omega) (by omega)
   .exact ji _ Y (by omega) (by omega)
   .exact ji _ a0 (by omega) (by omega)
  .have:(i=0/\j=1)\/(i=0/\j=2)\/(i=1/\j=2)\/(i=0/\j=3)\/(i=1/\j=3)\/(i=2/\j=3):=by simp only[zW,yV]at hi G;omega
   rcases this with ⟨rfl,rfl⟩|⟨rfl,rfl⟩|⟨rfl,rfl⟩|⟨rfl,rfl⟩|⟨rfl,rfl⟩|⟨rfl,rfl⟩
   .exact IX 97 98 rfl
   .exact IX 97 99 rfl
   .exact IX 98 99 rfl
   .exact IX 97 100 rfl
   .exact IX 98 100 rfl
   .exact IX 99 100 rfl
  .simp only[zX,zH,or_false]at hm
   rcases hm with rfl|rfl|rfl
   .exact Ot (by unfold Dy;simp only[zW,yV];omega) fun a b ha hb=>by
     cases ha;cases hb;exact pr (by omega)
   .exact Ot (by unfold Dy;simp only[zW,yV];omega) fun a b ha hb=>by
     cases ha;cases hb;exact pr (by omega)
   .exact Ot (by unfold Dy;simp only[zW,yV];omega) fun a b ha hb=>by
     cases ha;cases hb;exact pr (by omega)
  .simp only[zX,zH,or_false]at G
   rcases G with rfl|rfl|rfl|rfl<;>exact⟨J _,E _ (by simp only;omega),E _ (by simp only;omega),trivial⟩
  .simp only[zX,zH,or_false]at hm
   rcases hm with rfl|rfl|rfl<;>exact⟨E _ (by simp only;omega),E _ (by simp only;omega),E _ (by simp only;omega)⟩
def BP(σ:Store)(c:Nat)(xs:List Int):Prop:=∃i h,σ c=some (Qo xs i h 0)/\0<=i/\i<=xs.length
theorem BP.upd{σ:Store}{c b:Nat}{xs:List Int}{x:Option Fj}(h:BP σ c xs)(hb:c≠b):BP (upd σ b x) c xs:=by
 obtain⟨i,g,E,G⟩:=h;exact⟨i,g,by rw[Zj _ _ hb];exact E,G⟩
theorem Um{xs:List Int}(E:∀x∈xs,0<=x/\x<=255)(G:xs.length<=1048576){σ:Store}{c nx:Nat}(hc:BP σ c xs)(hn:c<nx)(n:Int)(J:1<=n)(O:n<=256) :
  ∃r x,ev ZK conv ext 48 [.rp c 0,I n] σ nx=some (I r,upd σ c x,nx)/\(0<=r/\r<n)/\BP (upd σ c x) c xs:=by
 obtain⟨i,h,S,Y⟩:=hc;obtain⟨r,i',h',k,b,j⟩:=dL xs E G i h Y n J O;exact⟨r,_,k c 0 nx σ S hn,b,i',h',Zi _ _ _,j⟩
theorem aa8{xs:List Int}(E:∀x∈xs,0<=x/\x<=255)(G:xs.length<=1048576){σ:Store}{c nx:Nat}(hc:BP σ c xs)(hn:c<nx)(n:Int)(J:1<=n)(O:n<=256) :
  ∃r x,ev ZK conv ext 47 [.rp c 0,I n] σ nx=some (Bo r,upd σ c x,nx)/\BP (upd σ c x) c xs:=by
 obtain⟨i,h,S,Y⟩:=hc;obtain⟨r,i',h',k,j⟩:=ahL xs E G i h Y n J O;exact⟨r,_,k c 0 nx σ S hn,i',h',Zi _ _ _,j⟩
theorem aoZ{xs:List Int}(S:∀x∈xs,0<=x/\x<=255)(Y:xs.length<=1048576){σ:Store}{c b nx:Nat}(hc:BP σ c xs)(hn:c<nx)(E:List Int)(h1:1<=E.length)(h2:E.length<=256)(hb:σ b=some ⟨E.flatMap cI,1,true⟩)(G:b<nx)(J:b≠c) :
  ∃r,∃O:r<E.length,∃x,ev ZK conv ext 87 [.rp c 0,.rs b 0 E.length] σ nx=some (I E[r],upd σ c x,nx)/\BP (upd σ c x) c xs:=by
 obtain⟨i,h,k1,k2⟩:=hc;obtain⟨r,O,i',h',k,j⟩:=aa7 xs S Y i h k2 E h1 h2;exact⟨r,O,_,k c b nx σ k1 hb hn G J,i',h',Zi _ _ _,j⟩
theorem aa9(xs:List Int)(k:Nat)(v:Int):(xs.flatMap cI).set k (I v)=(xs.set k v).flatMap cI:=by
 induction xs generalizing k with
 |nil=>rfl
 |cons x xs E=>
  cases k with
  |zero=>rfl
  |succ k=>show I x :: (xs.flatMap cI).set k (I v)=_;rw[E];rfl
theorem XE(n:Nat):rep n [V.sc (.int .i64 0)]=(List.replicate n (0:Int)).flatMap cI:=by
 induction n with
 |zero=>rfl
 |succ n E=>rw[fJ,E,xX];rfl
def Bd(L:List Int):Prop:=∀x∈L,-100<=x/\x<=100
theorem Bd.set{L:List Int}(h:Bd L){k:Nat}{v:Int}(G:-100<=v/\v<=100):Bd (L.set k v):=fun x E=>by
 rcases ug E with E|rfl
 .exact h x E
 .exact G
theorem asR{xs:List Int}(hx:∀x∈xs,0<=x/\x<=255)(hl:xs.length<=1048576){js:List Dk}(b4:1<=js.length)(b5:js.length<=4){σ:Store}{c nx jb:Nat}{w:V}{wr:Bool}(hc:BP σ c xs)(c6:c<nx)(hj:σ jb=some ⟨js.flatMap Ag,4,wr⟩)(b6:jb<nx)(b7:jb≠c)(hw:vI w=true) :
  ∃L lb σ' nx',ev ZK conv ext 86 [.rp c 0,.agg [.rs jb 0 js.length,w]] σ nx=some (.rs lb 0 (2*js.length),σ',nx')/\L.length=2*js.length/\Bd L/\σ' lb=some ⟨L.flatMap cI,1,true⟩/\nx<=lb/\lb<nx'/\BP σ' c xs/\∀q,q<nx->q≠c->σ' q=σ q:=by
 obtain⟨n,en⟩:∃n,n=js.length:=⟨_,rfl⟩;have e1:(2*(n:Int)).toNat=2*n:=by omega
 have w1:=ZR (n:=2*(n:Int));have e3:(0:Int)<=2*(n:Int):=by omega
 have e4:8*(2*(n:Int))<=281474976710656:=by omega
 have e5:2*(n:Int)<=9223372036854775807:=by omega
 rw[<- en]at b4 b5⊢;have cw:=pV hw;have nj:¬jb=nx:=by omega
 have b8:¬jb=nx+1:=by omega
 have nn:¬nx=nx+1:=by omega
 have rz:=XE (2*n);rw[mg [.tmp 4] [] func86];simp only[go_sem,hw,cw,w1,e1,e3,e4,e5,xJ,nj,b8,nn,rz];generalize hL:jI _ _=y;obtain⟨x,rfl,T,E,qI,rfl,t0,t5,c5,hC,L,Yo,S,Y,G⟩:=oZ hL n (fun k st=>st.T 0= .rp c 0/\st.T 5= .rs (nx+1) 0 (2*n)/\st.T 14= .rs jb 0 n/\st.T 15=I n/\st.T 16=I k/\nx+1<st.nx/\BP st.σ c xs/\∃L:List Int,L.length=2*n/\Bd L/\st.σ (nx+1)=some ⟨L.flatMap cI,1,true⟩/\∀q,q<nx->q≠c->st.σ q=σ q)
  (fun x=>∃T E qI,x=(.exit 0,⟨T,E,qI⟩)/\T 0= .rp c 0/\T 5= .rs (nx+1) 0 (2*n)/\nx+1<qI/\BP E c xs/\∃L:List Int,L.length=2*n/\Bd L/\E (nx+1)=some ⟨L.flatMap cI,1,true⟩/\∀q,q<nx->q≠c->E q=σ q) (by
   clear hL;rintro k ⟨T,E,m⟩ hk ⟨t0,t5,a0,J,a1,hm,hC,L,Yo,S,Y,G⟩;simp only at t0 t5 a0 J a1 hm hC Y G;have b9:k<js.length:=by omega
   have f1:(k:Int)<(n:Int):=by omega
   have f2:=jC k;have f3:=ZR (n:=(k:Int)+1);have f4:=Jz js k b9;have f5:=Gp js;rw[<- en]at f5;have f6:k*4+4<=n*4:=by omega
   have a9:E jb=some ⟨js.flatMap Ag,4,wr⟩:=by rw[G jb b6 b7];exact hj
   obtain⟨j,ej⟩:∃j,j=js[k]:=⟨_,rfl⟩;rw[<- ej]at f4;obtain⟨jn,jx,jy,jf⟩:=j;obtain⟨σ2,e2⟩:∃σ2,σ2=upd E m (some ⟨Ag ⟨jn,jx,jy,jf⟩,0,true⟩):=⟨_,rfl⟩;have m1:σ2 m=some ⟨Ag ⟨jn,jx,jy,jf⟩,0,true⟩:=by rw[e2,Zi]
   have a2:BP σ2 c xs:=by rw[e2];exact hC.upd (by omega)
   have b3:σ2 (nx+1)=some ⟨L.flatMap cI,1,true⟩:=by rw[e2,Zk];exact Y
   have O:∀q,q<nx->q≠c->σ2 q=σ q:=fun q h1 h2=>by rw[e2,Zk];exact G q h1 h2
   have hlen:(L.flatMap cI).length=2*n:=by rw[qM,Yo]
   cases jf with
   |true=>
    refine .inl ⟨_,by simp only[go_sem,t0,t5,a0,J,a1,f1,f2,f3,f4,f5,f6,a9,<- e2,m1];rfl,?_⟩;simp only[go_sem,t0,t5,a0,J];exact⟨rfl,by omega,a2,L,Yo,S,b3,O⟩
   |false=>
    obtain⟨r1,x1,k1,b1,c0⟩:=Um hx hl a2 (show c<m+1 by omega) 7 (by decide) (by decide);have g1:=ZR (n:=2*(k:Int));have g2:=ZR (n:=r1-3);have g3:(2*(k:Int)).toNat=2*k:=by omega
    have g4:(0:Int)<=2*(k:Int):=by omega
    have g5:2*(k:Int)<((2*n:Nat):Int):=by omega
    have g6:2*k<2*n:=by omega
    have a3:upd σ2 c x1 (nx+1)=some ⟨L.flatMap cI,1,true⟩:=by rw[Zk];exact b3
    have s1:=aa9 L (2*k) (r1-3);obtain⟨a4,e3⟩:∃a4,a4=upd (upd σ2 c x1) (nx+1) (some ⟨(L.set (2*k) (r1-3)).flatMap cI,1,true⟩):=⟨_,rfl⟩;have c2:BP a4 c xs:=by rw[e3];exact c0.upd (by omega)
    obtain⟨r2,x2,k2,b2,c3⟩:=Um hx hl c2 (show c<m+1 by omega) 9 (by decide) (by decide);have g7:=ZR (n:=2*(k:Int)+1);have g8:=ZR (n:=0-r2);have g9:(2*(k:Int)+1).toNat=2*k+1:=by omega
    have a5:(0:Int)<=2*(k:Int)+1:=by omega
    have a6:2*(k:Int)+1<((2*n:Nat):Int):=by omega
    have a7:2*k+1<2*n:=by omega
    have c4:upd a4 c x2 (nx+1)=some ⟨(L.set (2*k) (r1-3)).flatMap cI,1,true⟩:=by rw[Zk,e3,Zi]
    have s2:=aa9 (L.set (2*k) (r1-3)) (2*k+1) (0-r2);have a8:((L.set (2*k) (r1-3)).flatMap cI).length=2*n:=by rw[qM,yP,Yo]
    refine .inl ⟨_,by simp only[go_sem,qC,t0,t5,a0,J,a1,f1,f2,f3,f4,f5,f6,a9,<- e2,m1,k1,g1,g2,g3,g4,g5,g6,a3,hlen,s1,<- e3,k2,g7,g8,g9,a5,a6,a7,c4,s2,a8];rfl,?_⟩;simp only[go_sem,t0,t5,a0,J];refine⟨rfl,by omega,c3.upd (by omega),(L.set (2*k) (r1-3)).set (2*k+1) (0-r2),by rw[yP,yP,Yo],(S.set (by omega)).set (by omega),rfl,fun q h1 h2=>?_⟩;rw[Zk,Zj _ _ h2,e3,Zk,Zj _ _ h2];exact O q h1 h2) (by
   clear hL;rintro ⟨T,E,m⟩ ⟨t0,t5,a0,J,a1,hm,hC,L,Yo,S,Y,G⟩;simp only at t0 t5 a0 J a1 hm hC Y G;exact⟨_,by simp only[go_sem,J,a1,zi];rfl,by simp,_,_,_,rfl,by simp only[go_sem,t0],by simp only[go_sem,t5],hm,hC,L,Yo,S,Y,G⟩) (by
   simp only[go_sem];refine⟨by omega,(hc.upd (by omega)).upd (by omega),List.replicate (2*n) 0,by simp,fun x hx=>by rw[List.eq_of_mem_replicate hx];omega,rfl,fun q h1 h2=>?_⟩;rw[Zk,Zk])
 obtain⟨r,x3,k3,a2⟩:=aa8 hx hl hC (show c<qI by omega) 8 (by decide) (by decide);have a3:upd E c x3 (nx+1)=some ⟨L.flatMap cI,1,true⟩:=by rw[Zk];exact Y
 have hlen:(L.flatMap cI).length=2*n:=by rw[qM,Yo]
 have O:∀q,q<nx->q≠c->upd E c x3 q=σ q:=fun q h1 h2=>by rw[Zj _ _ h2];exact G q h1 h2
 cases r with
 |false=>
  simp only[go_sem,qC,t0,t5,k3];exact⟨L,nx+1,_,_,rfl,Yo,S,a3,by omega,by omega,a2,O⟩
 |true=>
  have g7:=ZR (n:=((2*n:Nat):Int) - 1);have g9:(((2*n:Nat):Int) - 1).toNat=2*n-1:=by omega
  have a5:(0:Int)<=((2*n:Nat):Int) - 1:=by omega
  have a6:((2*n:Nat):Int) - 1<((2*n:Nat):Int):=by omega
  have a7:2*n-1<2*n:=by omega
  have s2:=aa9 L (2*n-1) 4;simp only[go_sem,qC,t0,t5,k3,g7,g9,a5,a6,a7,a3,hlen,s2];refine⟨L.set (2*n-1) 4,nx+1,_,_,rfl,by rw[yP,Yo],S.set (by omega),Zi _ _ _,by omega,by omega,a2.upd (by omega),fun q h1 h2=>?_⟩;rw[Zk];exact O q h1 h2
open Go.Lp
attribute [-go_sem] qy
def Ci{α:Type}(c:α->List V)(s:Nat)(T:Nat->V)(σ:Store)(nx t:Nat)(acc:List α):Prop:=(T t= .nil/\acc=[])\/∃b,T t= .rs b 0 acc.length/\acc≠[]/\σ b=some ⟨acc.flatMap c,s,true⟩/\b<nx
section
variable {α:Type} {c:α->List V} {s:Nat} {T:Nat->V} {σ:Store} {nx t:Nat} {acc:List α}
theorem kX(J:Ci c s T σ nx t acc)(x:Option Fj):Ci c s T (upd σ nx x) (nx+1) t acc:=by
 rcases J with ⟨E,G⟩|⟨b,E,G,O,S⟩
 .exact .inl ⟨E,G⟩
 .exact .inr ⟨b,E,G,by rw[Zk];exact O,by omega⟩
theorem ahO{T':Nat->V}{E:Nat}(h:T' E=T t)(G:Ci c s T σ nx t acc):Ci c s T' σ nx E acc:=by
 unfold Ci at *;rw[h];exact G
theorem kW(hc:∀x,(c x).length=s)(E:∀x,(c x).all vI=true)(hs:0<s){bytes:Nat}(S:Ci c s T σ nx t acc)(x:α)(hl:acc.length<100000)(hb:bytes<=1000) :
  ∃σ',Aj (upd σ nx (some ⟨c x,s,true⟩)) (nx+1) s bytes (T t) (c x) 1=some (.rs (nx+1) 0 (acc.length+1),σ',nx+1+1)/\σ' (nx+1)=some ⟨(acc++[x]).flatMap c,s,true⟩/\∀y,y<nx->(∀b o l,T t= .rs b o l->y≠b)->σ' y=σ y:=by
 have hm:acc.length+1<=maxLen:=by unfold maxLen;omega
 have hmul:(acc.length+1)*bytes<=100000*1000:=x9 (by omega) hb;rcases S with ⟨J,rfl⟩|⟨b,J,G,O,Y⟩
 .refine⟨_,by rw[J,r_,sO (by decide),sN ⟨by decide,by omega⟩];rfl,?_⟩
  refine⟨by simp[AA,upd],fun y hy _=>?_⟩;unfold AA;rw[Zk,Zk]
 .have hlen:(acc.flatMap c).length=acc.length*s:=bU hc acc
  refine⟨upd (upd (upd σ nx (some ⟨c x,s,true⟩)) b none) (nx+1) (some ⟨acc.flatMap c++c x,s,true⟩),?_,?_,fun y hy G=>?_⟩
  .rw[J,qy,Zk,O]
   simp only[zk];rw[sO (by decide),sO (by rw[hlen,vP];omega),sN ⟨by rw[hlen];omega,trivial,hm,by omega,E x⟩];rfl
  .rw[Zi,zS];simp
  .have:=G _ _ _ J
   rw[Zk,Zj _ _ this,Zk]
theorem kU(G:Ci c s T σ nx t acc){b o l:Nat}(h:T t= .rs b o l):b<nx:=by
 rcases G with ⟨E,_⟩|⟨b',E,_,_,J⟩
 .rw[E]at h;cases h
 .rw[E]at h;cases h;exact J
theorem kT{σ':Store}(h:σ' (nx+1)=some ⟨acc.flatMap c,s,true⟩)(G:T t= .rs (nx+1) 0 acc.length)(E:acc≠[]):Ci c s T σ' (nx+1+1) t acc:=.inr ⟨nx+1,G,E,h,by omega⟩
theorem KH(hc:∀x,(c x).length=s)(d:Nat)(E:∀x,stripL (strip σ d) (c x)=some (c x,[]))(J:Ci c s T σ nx t acc):∃ids,strip σ (d+1) (T t)=some (LL c acc,ids):=by
 rcases J with ⟨G,rfl⟩|⟨b,G,O,hb,S⟩
 .exact⟨[],by rw[G,aS];rfl⟩
 .refine⟨[b],?_⟩
  rw[G,aQ,hb];have Y:=bU hc acc;simp only[zk,yY,yZ,Y,zq,if_true];rw[zl (by omega),aW E];rfl
end
theorem alp(z:List V):rep 1 z=z:=by simp[rep]
theorem Jv(a b c d:V):patch [a,b] 0 [c,d]=[c,d]:=rfl
attribute [go_sem] alp Jv
abbrev E8(p:Int×Int):List V:=[I p.1,I p.2]
def E_(m:Member)(k:Nat):List (Int×Int):=(if m.kind=2 then []else [((k:Int),1)])++(if m.kind=1 then []else [((k:Int),-1)])
def cols(s:Structure)(n:Nat):List (Int×Int):=(List.range n).flatMap fun k=>E_ (mem s k) k
theorem oh(s:Structure)(n:Nat):cols s (n+1)=cols s n++E_ (mem s n) n:=by simp[cols,wK]
theorem aa_(m:Member)(k:Nat):(E_ m k).length<=2:=by
 unfold E_
 split<;>split<;>simp
theorem oz(s:Structure):∀n,(cols s n).length<=2*n
 |0=>by simp[cols]
 |n+1=>by
  rw[oh,zo];have:=oz s n;have:=aa_ (mem s n) n;omega
theorem Ou{s:Structure}(h:SG s):fn ZK conv ext 96 [.tp (iI s) 0]=some (LL E8 (cols s s.members.length)):=by
 have a5:=h.nm;rw[m_,mg [.tmp 2] [] func96];simp only[go_sem];generalize hL:jI _ _=y;obtain⟨r,rfl,T',σ',nx',rfl,h2⟩:=oZ hL s.members.length (fun k st=>st.T 9=LL Ac s.members/\st.T 10=I s.members.length/\st.T 11=I k/\Ci E8 2 st.T st.σ st.nx 3 (cols s k))
  (fun r=>∃T σ nx',r=(.exit 0,⟨T,σ,nx'⟩)/\Ci E8 2 T σ nx' 3 (cols s s.members.length)) (by
   clear hL;rintro k ⟨T,σ,nx⟩ O ⟨S,E,G,hg⟩;simp only at S E G hg;have f1:(k:Int)<(s.members.length:Int):=by omega
   have f2:=jC k;have f3:=ZR (n:=(k:Int)+1);have f4:=Nl s.members k O;have f5:=GR s.members;have f6:k*3+3<=s.members.length*3:=by omega
   have f9:=Np s.members k O;have hr:=h.mr k O;rw[jH O]at f4 hr;have hle:=oz s k;rw[oh];obtain⟨J,e1⟩:∃J,J=mem s k:=⟨_,rfl⟩;rw[<- e1]at f4 hr⊢;have a0:=fun x=>kX hg x
   unfold E_
   by_cases k2:J.kind=2
   .have g1:(J.kind !=2)=false:=by simpa using k2
    have g2:(J.kind !=1)=true:=by simp[k2]
    obtain⟨σ',ha,hs,Y⟩:=kW (c:=E8) (s:=2) (bytes:=16) (fun _=>rfl) (fun _=>rfl) (by decide) (a0 (some ⟨Ac J,0,true⟩)) ((k:Int),-1) (by omega) (by decide);refine .inl ⟨_,by simp only[go_sem,S,E,G,f1,f2,f3,f4,f5,f6,f9,g1,g2,ha];rfl,?_⟩;simp only[go_sem,S,E];rw[sN k2,sO (by omega),yM];exact⟨rfl,kT hs (by simp[go_sem]) (by simp)⟩
   .by_cases k1:J.kind=1
    .have g1:(J.kind !=2)=true:=by simpa using k2
     have g2:(J.kind !=1)=false:=by simpa using k1
     obtain⟨σ',ha,hs,Y⟩:=kW (c:=E8) (s:=2) (bytes:=16) (fun _=>rfl) (fun _=>rfl) (by decide) (a0 (some ⟨Ac J,0,true⟩)) ((k:Int),1) (by omega) (by decide);have a1:σ' nx=some ⟨Ac J,0,true⟩:=by
      rw[Y nx (by omega) (fun b o l h=>by have:=kU hg h;omega),Zi]
     refine .inl ⟨_,by simp only[go_sem,S,E,G,f1,f2,f3,f4,f5,f6,f9,g1,g2,ha,a1];rfl,?_⟩;simp only[go_sem,S,E];rw[sO k2,sN k1,zC];exact⟨rfl,kT hs (by simp[go_sem]) (by simp)⟩
    .have g1:(J.kind !=2)=true:=by simpa using k2
     have g2:(J.kind !=1)=true:=by simpa using k1
     obtain⟨σ',ha,hs,Y⟩:=kW (c:=E8) (s:=2) (bytes:=16) (fun _=>rfl) (fun _=>rfl) (by decide) (a0 (some ⟨Ac J,0,true⟩)) ((k:Int),1) (by omega) (by decide);have a1:σ' nx=some ⟨Ac J,0,true⟩:=by
      rw[Y nx (by omega) (fun b o l h=>by have:=kU hg h;omega),Zi]
     have a3:Ci E8 2 (upd T 3 (.rs (nx+1+1) 0 ((cols s k).length+1))) σ' (nx+1+1+1) 3 (cols s k++[((k:Int),1)]):=kT hs (by simp[go_sem]) (by simp);obtain⟨σ2,a2,a4,_⟩:=kW (c:=E8) (s:=2) (bytes:=16) (fun _=>rfl) (fun _=>rfl) (by decide) a3 ((k:Int),-1) (by simp;omega) (by decide);rw[Zi]at a2;refine .inl ⟨_,by simp only[go_sem,S,E,G,f1,f2,f3,f4,f5,f6,f9,g1,g2,ha,a2,a1];rfl,?_⟩;simp only[go_sem,S,E];rw[sO k2,sO k1,<- yh];exact⟨rfl,kT a4 (by simp[go_sem]) (by simp)⟩) (by
   rintro ⟨T,σ,nx⟩ ⟨S,E,G,hg⟩;simp only at S E G hg;exact⟨_,by simp only[go_sem,E,G,zi];rfl,by simp,_,_,_,rfl,ahO (by simp only[go_sem]) hg⟩) (by
   simp only[go_sem];exact .inl ⟨by simp only[go_sem],rfl⟩)
 obtain⟨ids,hs⟩:=KH (c:=E8) (s:=2) (fun _=>rfl) 6 (fun x=>by rw[ak,aP,ak,aP,aX];rfl) h2;simp only[go_sem,hs]
theorem PL{α:Type}{c:α->List V}{s:Nat}{T:Nat->V}{σ:Store}{nx t:Nat}{acc:List α}(hc:∀x,(c x).length=s)(E:∀x,(c x).all vI=true)(hs:0<s){bytes:Nat}(hg:Ci c s T σ nx t acc)(xs:List α)(hx:xs≠[])(hl:acc.length+xs.length<100000)(hb:bytes<=1000) :
  ∃σ',Aj (upd σ nx (some ⟨xs.flatMap c,s,true⟩)) (nx+1) s bytes (T t) (xs.flatMap c) xs.length=some (.rs (nx+1) 0 (acc.length+xs.length),σ',nx+1+1)/\σ' (nx+1)=some ⟨(acc++xs).flatMap c,s,true⟩/\∀y,y<nx->(∀b o l,T t= .rs b o l->y≠b)->σ' y=σ y:=by
 have hm:acc.length+xs.length<=maxLen:=by unfold maxLen;omega
 have G:xs.length≠0:=fun e=>hx (zZ e)
 have hmul:(acc.length+xs.length)*bytes<=100000*1000:=x9 (by omega) hb;have a0:xs.length*bytes<=100000*1000:=x9 (by omega) hb;have J:(xs.flatMap c).all vI=true:=by
  rw[wo];intro v hv;obtain⟨x,-,h⟩:=List.mem_flatMap.mp hv;exact List.all_eq_true.mp (E x) v h
 rcases hg with ⟨S,rfl⟩|⟨b,S,O,Y,a1⟩
 .refine⟨_,by rw[S,r_,sO G,sN ⟨by unfold maxLen;omega,by omega⟩];simp only[yV,yY];rfl,?_⟩
  refine⟨by simp[AA,upd],fun y hy _=>?_⟩;unfold AA;rw[Zk,Zk]
 .have hlen:(acc.flatMap c).length=acc.length*s:=bU hc acc
  have hp:0<xs.length*s:=Nat.mul_pos (by omega) hs;refine⟨upd (upd (upd σ nx (some ⟨xs.flatMap c,s,true⟩)) b none) (nx+1) (some ⟨acc.flatMap c++xs.flatMap c,s,true⟩),?_,?_,fun y hy O=>?_⟩
  .rw[S,qy,Zk,Y]
   simp only[zk];rw[sO G,sO (by rw[hlen,vP];omega),sN ⟨by rw[hlen];omega,trivial,hm,by omega,J⟩];rfl
  .rw[Zi,zS]
  .have:=O _ _ _ S
   rw[Zk,Zj _ _ this,Zk]
def eX(s:Structure)(j:Int)(k:Nat):Int:=if j=(mem s k).a then vx s k else if j=(mem s k).b then -vx s k else 0
def eY(s:Structure)(j:Int)(k:Nat):Int:=if j=(mem s k).a then vy s k else if j=(mem s k).b then -vy s k else 0
def EI(s:Structure)(j:Int):List (List Int):=[(List.range s.members.length).map (eX s j),(List.range s.members.length).map (eY s j)]
def Cb(s:Structure)(n:Nat):List (List Int):=((free s).take n).flatMap (EI s)
abbrev cRw(r:List Int):List V:=[LI r]
abbrev cRf(n:Nat)(b:Nat):List V:=[.rs b 0 n]
def JR(σ:Store)(nx t n:Nat)(T:Nat->V)(rb:List Nat)(R:List (List Int)):Prop :=
 Ci (cRf n) 1 T σ nx t rb/\rb.length=R.length/\(∀j (h:j<rb.length) (E:j<R.length),σ rb[j]=some ⟨R[j].flatMap cI,1,true⟩)/\(∀r∈R,r.length=n)/\∀b∈rb,b<nx/\∀c o l,T t= .rs c o l->b≠c
theorem Un{σ:Store}{nx t n:Nat}{T:Nat->V}{rb:List Nat}{R:List (List Int)}(h:JR σ nx t n T rb R)(d:Nat):∃ids,strip σ (d+1+1) (T t)=some (LL cRw R,ids):=by
 obtain⟨Y,G,hr,hn,-⟩:=h;have key:∀ {rb:List Nat} {R:List (List Int)},rb.length=R.length->(∀j (h:j<rb.length) (J:j<R.length),σ rb[j]=some ⟨R[j].flatMap cI,1,true⟩)->(∀r∈R,r.length=n)->∃ids,stripL (strip σ (d+1)) (rb.flatMap (cRf n))=some (R.flatMap cRw,ids):=by
  intro rb
  induction rb with
  |nil=>intro R E _ _;cases R with
   |nil=>exact⟨[],rfl⟩
   |cons=>cases E
  |cons b rb ih=>intro R E O S;cases R with
   |nil=>cases E
   |cons r R=>
    obtain⟨ids,e⟩:=ih (R:=R) (by simpa using E) (fun j h J=>O (j+1) (by simpa using h) (by simpa using J)) (fun x hx=>S x (by simp[hx]));have e1:=kF (O 0 (by simp) (by simp)) (S _ (by simp)) d;refine⟨b :: ids,?_⟩;rw[zJ,zJ,show cRf n b++rb.flatMap (cRf n)=V.rs b 0 n :: rb.flatMap (cRf n)from rfl,ak,show strip σ (d+1) (V.rs b 0 n)=some (LI r,[b])from e1,e];rfl
 rcases Y with ⟨E,rfl⟩|⟨b,E,a0,hb,a1⟩
 .have:R=[]:=zZ (by simpa using G.symm)
  subst this;exact⟨[],by rw[E,aS];rfl⟩
 .obtain⟨ids,e⟩:=key G hr hn
  refine⟨b :: ids,?_⟩;rw[E,aQ,hb];have hlen:=bU (c:=cRf n) (s:=1) (fun _=>rfl) rb;simp only[zk,yY,yZ,hlen,zq,if_true];rw[zl (by omega),e];simp only[zG];rw[G]
theorem QT{σ σ':Store}{nx nx' t n:Nat}{T T':Nat->V}{rb:List Nat}{R:List (List Int)}(h:JR σ nx t n T rb R)(E:T' t=T t)(hn:nx<=nx')(e:∀b,b<nx->σ' b=σ b):JR σ' nx' t n T' rb R:=by
 obtain⟨S,Y,hr,G,hb⟩:=h;refine⟨?_,Y,fun j h h'=>?_,G,fun b h=>?_⟩
 .rcases S with ⟨J,O⟩|⟨b,J,O,g3,g4⟩
  .exact .inl ⟨E.trans J,O⟩
  .exact .inr ⟨b,E.trans J,O,by rw[e b g4];exact g3,by omega⟩
 .rw[e _ (hb _ (zu h)).1];exact hr j h h'
 .obtain⟨h1,h2⟩:=hb b h
  exact⟨by omega,fun c o l hc=>h2 c o l (E ▸ hc)⟩
theorem amS{s:Structure}(h:SG s)(j:Int)(k:Nat):-100<=eX s j k/\eX s j k<=100/\-100<=eY s j k/\eY s j k<=100:=by
 have:=Ze h k;unfold eX eY
 split
 .omega
 .split<;>omega
theorem ahQ(z:V):rep 2 [z]=[z,z]:=rfl
theorem alq(x y a b:V):([x,y].set 0 a).set 1 b=[a,b]:=rfl
attribute [go_sem] ahQ alq
theorem aa'(s:Structure){i:Nat}(h:i<(free s).length):Cb s (i+1)=Cb s i++EI s (free s)[i]:=by
 unfold Cb;rw[yJ,zy h,zS];simp
theorem ahR{R:List (List Int)}{j:Nat}(a b:List Int)(h:j<(R++[a,b]).length):(R++[a,b])[j]=if E:j<R.length then R[j]else if j=R.length then a else b:=by
 by_cases E:j<R.length
 .rw[yG E,dif_pos E]
 .rw[dif_neg E,wF (by omega)]
  rw[zo]at h;simp only[zW,yV]at h
  by_cases G:j=R.length
  .rw[sN G];simp[G]
  .rw[sO G]
   have:j-R.length=1:=by omega
   simp[this]
theorem lS(s:Structure):(free s).length<=s.bI.length:=Zo _ _
theorem Uo{s:Structure}(h:SG s):fn ZK conv ext 98 [.tp (iI s) 0]=some (LL cRw (Cb s (free s).length)):=by
 have b5:=h.nm;have b6:=lS s;have Yq:=h.nj;have k1:=kK h;obtain⟨nm,hm⟩:∃nm,nm=s.members.length:=⟨_,rfl⟩;rw[m_,mg [.tmp 2] [] func98];simp only[go_sem,k1];generalize hL:jI _ _=y;obtain⟨r,rfl,T',σ',nx',rb,rfl,h2⟩:=oZ hL (free s).length (fun i st=>st.T 0= .tp (iI s) 0/\st.T 13=LI (free s)/\st.T 14=I (free s).length/\st.T 15=I i/\∃rb,JR st.σ st.nx 3 nm st.T rb (Cb s i))
  (fun r=>∃T σ nx' rb,r=(.exit 0,⟨T,σ,nx'⟩)/\JR σ nx' 3 nm T rb (Cb s (free s).length)) (by
   clear hL;rintro i ⟨T,σ,nx⟩ a6 ⟨h0,a3,FT,a2,rb,hR⟩;simp only at h0 a3 FT a2 hR;have f1:(i:Int)<((free s).length:Int):=by omega
   have f2:=jC i;have f3:=ZR (n:=(i:Int)+1);have f4:=idx (xs:=free s) (k:=i) a6;have f5:=Bg (free s) i a6;obtain⟨j,hj⟩:∃j,j=(free s)[i]:=⟨_,rfl⟩;rw[<- hj]at f4;have m1:(0:Int)<=(s.members.length:Int):=by omega
   have m2:8*(s.members.length:Int)<=281474976710656:=by omega
   have m3:(s.members.length:Int)<=9223372036854775807:=by omega
   refine bC ?_
   conv=>
    enter [1,r,1,1]
    simp only[go_sem,h0,a3,FT,a2,f1,f2,f4,f5,m1,m2,m3]
   generalize hL:jI _ _=z
   obtain⟨x,rfl,T1,O,qI,rfl,t0,t6,t7,E,G,J,hx,hy,a4,a5⟩:=oZ hL s.members.length (fun k st=>st.T 0= .tp (iI s) 0/\st.T 5=I j/\st.T 6= .rs nx 0 s.members.length/\st.T 7= .rs (nx+1) 0 s.members.length/\st.T 13=LI (free s)/\st.T 14=I (free s).length/\st.T 15=I i/\st.T 34=LL Ac s.members/\st.T 35=I s.members.length/\st.T 36=I k /\
     st.σ nx=some ⟨(pm (eX s j) (fun _=>0) k s.members.length).flatMap cI,1,true⟩/\st.σ (nx+1)=some ⟨(pm (eY s j) (fun _=>0) k s.members.length).flatMap cI,1,true⟩/\nx+1<st.nx/\st.T 3=T 3/\∀b,b<nx->st.σ b=σ b)
    (fun x=>∃T1 O qI,x=(.exit 2,⟨T1,O,qI⟩)/\T1 0= .tp (iI s) 0/\T1 6= .rs nx 0 s.members.length/\T1 7= .rs (nx+1) 0 s.members.length/\T1 13=LI (free s)/\T1 14=I (free s).length/\T1 15=I i/\O nx=some ⟨(pm (eX s j) (fun _=>0) s.members.length s.members.length).flatMap cI,1,true⟩/\O (nx+1)=some ⟨(pm (eY s j) (fun _=>0) s.members.length s.members.length).flatMap cI,1,true⟩/\nx+1<qI/\T1 3=T 3/\∀b,b<nx->O b=σ b) (by
     clear hL;rintro k ⟨T1,O,qI⟩ hk ⟨t0,t5,t6,t7,E,G,J,Y,S,a0,hx,hy,a4,t3,hs⟩;simp only at t0 t5 t6 t7 E G J Y S a0 hx hy a4 t3 hs;have g1:(k:Int)<(s.members.length:Int):=by omega
     have g2:=jC k;have g3:=ZR (n:=(k:Int)+1);have g4:=Nl s.members k hk;rw[jH hk]at g4;have g5:=GR s.members;have g6:k*3+3<=s.members.length*3:=by omega
     have g9:=Np s.members k hk;have k2:=Uj h hk;have hb:=Ze h k;have q1:((pm (eX s j) (fun _=>0) k s.members.length).flatMap cI).length=s.members.length:=by rw[qM,gi]
     have q2:((pm (eY s j) (fun _=>0) k s.members.length).flatMap cI).length=s.members.length:=by rw[qM,gi]
     have q3:=Og (eX s j) (fun _=>0) hk;have q4:=Og (eY s j) (fun _=>0) hk;have d1:¬nx=qI:=by omega
     have d2:¬nx+1=qI:=by omega
     have d3:¬nx+1=nx:=by omega
     have d4:¬nx=nx+1:=by omega
     have d5:¬qI=nx:=by omega
     have d6:¬qI=nx+1:=by omega
     have g7:k+1<=s.members.length:=hk;have w1:=ZR (n:=-vx s k);have w2:=ZR (n:=-vy s k);have w3:IntKind.i64.wrap (0-vx s k)= -vx s k:=by rw[ZR];omega
     have w4:IntKind.i64.wrap (0-vy s k)= -vy s k:=by rw[ZR];omega
     by_cases c1:j=(mem s k).a
     .have e1:(j==(mem s k).a)=true:=by simpa using c1
      have e2:((pm (eX s j) (fun _=>0) k s.members.length).flatMap cI).set k (I (vx s k))=(pm (eX s j) (fun _=>0) (k+1) s.members.length).flatMap cI:=by
       rw[qL,<- q3];unfold eX;rw[sN c1]
      have e3:((pm (eY s j) (fun _=>0) k s.members.length).flatMap cI).set k (I (vy s k))=(pm (eY s j) (fun _=>0) (k+1) s.members.length).flatMap cI:=by
       rw[qL,<- q4];unfold eY;rw[sN c1]
      refine .inl ⟨_,by simp only[go_sem,t0,t5,t6,t7,E,G,J,Y,S,a0,hx,hy,g1,g2,g3,g4,g5,g6,g7,g9,k2,q1,q2,hk,d1,d2,d3,d4,d5,d6,e1,e2,e3];rfl,?_⟩;simp only[go_sem,t0,t5,t6,t7,E,G,J,Y,S,d1,d2,d3,d4];exact⟨rfl,by omega,t3,fun b hb=>by rw[Zk,Zk,Zk];exact hs b hb⟩
     .have e1:(j==(mem s k).a)=false:=by simpa using c1
      by_cases c2:j=(mem s k).b
      .have e4:(j==(mem s k).b)=true:=by simpa using c2
       have e2:((pm (eX s j) (fun _=>0) k s.members.length).flatMap cI).set k (I (-vx s k))=(pm (eX s j) (fun _=>0) (k+1) s.members.length).flatMap cI:=by
        rw[qL,<- q3];unfold eX;rw[sO c1,sN c2]
       have e3:((pm (eY s j) (fun _=>0) k s.members.length).flatMap cI).set k (I (-vy s k))=(pm (eY s j) (fun _=>0) (k+1) s.members.length).flatMap cI:=by
        rw[qL,<- q4];unfold eY;rw[sO c1,sN c2]
       refine .inl ⟨_,by simp only[go_sem,t0,t5,t6,t7,E,G,J,Y,S,a0,hx,hy,g1,g2,g3,g4,g5,g6,g7,g9,k2,q1,q2,hk,d1,d2,d3,d4,d5,d6,e1,e4,e2,e3,w1,w2,w3,w4];rfl,?_⟩;simp only[go_sem,t0,t5,t6,t7,E,G,J,Y,S,d1,d2,d3,d4];exact⟨rfl,by omega,t3,fun b hb=>by rw[Zk,Zk,Zk];exact hs b hb⟩
      .have e4:(j==(mem s k).b)=false:=by simpa using c2
       have e2:=TY (eX s j) (fun _=>0) (k:=k) (N:=s.members.length) (by unfold eX;rw[sO c1,sO c2]);have e3:=TY (eY s j) (fun _=>0) (k:=k) (N:=s.members.length) (by unfold eY;rw[sO c1,sO c2]);refine .inl ⟨_,by simp only[go_sem,t0,t5,t6,t7,E,G,J,Y,S,a0,hx,hy,g1,g2,g3,g4,g5,g6,g7,g9,k2,q1,q2,hk,d1,d2,d3,d4,d5,d6,e1,e4];rfl,?_⟩;simp only[go_sem,t0,t5,t6,t7,E,G,J,Y,S,d1,d2,d3,d4];refine⟨rfl,by rw[hx,e2],by rw[hy,e3],by omega,t3,fun b hb=>by rw[Zk];exact hs b hb⟩) (by
     rintro ⟨T1,O,qI⟩ ⟨t0,t5,t6,t7,E,G,J,Y,S,a0,hx,hy,a4,t3,hs⟩;simp only at t0 t5 t6 t7 E G J Y S a0 hx hy a4 t3 hs;have g1:¬(s.members.length:Int)<(s.members.length:Int):=by omega
     refine⟨_,by simp only[go_sem,S,a0,g1];rfl,by simp,_,_,_,rfl,?_⟩;simp only[go_sem,t0,t6,t7,E,G,J];exact⟨hx,hy,a4,t3,hs⟩) (by
     simp only[go_sem,h0,a3,FT,a2];rw[IU,IU,fZ,<- fM,Zk,Zi];exact⟨rfl,rfl,by omega,fun b hb=>by rw[Zk,Zk]⟩)
   rw[T_]at hx hy;have a8:=a5.1;have a5:JR O qI 3 nm T1 rb (Cb s i):=QT hR a5.1 (by omega) a5.2;obtain⟨hg,hl,hr,a9,a7⟩:=a5;have b7:rb.length<=2*i:=by
    rw[hl];unfold Cb;have:=List.length_take_le i (free s);have e:∀l:List Int,(l.flatMap (EI s)).length=2*l.length:=fun l=>by
     induction l with
     |nil=>rfl
     |cons a l ih=>rw[zJ,zo,ih,zW];simp only[EI,zW,yV];omega
    rw[e];omega
   obtain⟨σ2,ha,b2,b3⟩:=PL (c:=cRf nm) (s:=1) (bytes:=24) (fun _=>rfl) (fun _=>rfl) (by decide) hg [nx,nx+1] (by simp) (by simp only[zW,yV];omega) (by decide);have ha:Aj (upd O qI (some ⟨[V.rs nx 0 s.members.length,V.rs (nx+1) 0 s.members.length],1,true⟩)) (qI+1) 1 24 (T1 3) [V.rs nx 0 s.members.length,V.rs (nx+1) 0 s.members.length] 2=some (.rs (qI+1) 0 (rb.length+2),σ2,qI+1+1):=by rw[<- hm];exact ha
   refine⟨_,by simp only[go_sem,t0,t6,t7,E,G,J,f3,ha];rfl,.inl ⟨_,rfl,?_⟩⟩;simp only[go_sem,t0,E,G];have a1:∀b,b<qI->(b∈rb\/b=nx\/b=nx+1)->σ2 b=O b:=fun b hb hc=>by
    refine b3 b hb fun c o l h=>?_
    rcases hc with hc|hc|hc
    .exact(a7 b hc).2 c o l h
    .have:=kU hR.1 (a8 ▸ h);omega
    .have:=kU hR.1 (a8 ▸ h);omega
   refine⟨rfl,rb++[nx,nx+1],?_⟩;rw[aa' s a6,<- hj];refine⟨.inr ⟨qI+1,by simp[go_sem],by simp,b2,by omega⟩,by simp[hl,EI],fun q h1 h2=>?_,fun r b4=>?_,fun b hb=>?_⟩
   .have hq:(Cb s i++EI s j)[q]=if h1:q<(Cb s i).length then(Cb s i)[q]else if q=(Cb s i).length then(List.range s.members.length).map (eX s j)else(List.range s.members.length).map (eY s j):=ahR _ _ h2
    rw[hq]
    by_cases c1:q<rb.length
    .rw[dif_pos (by omega),yG c1,a1 _ (a7 _ (zu c1)).1 (.inl (zu c1))]
     exact hr q c1 (by omega)
    .rw[dif_neg (by omega),wF (by omega)]
     rw[zo]at h1;simp only[zW,yV]at h1
     by_cases c2:q=(Cb s i).length
     .rw[sN c2]
      have:q-rb.length=0:=by omega
      simp only[this,su];rw[a1 nx (by omega) (.inr (.inl rfl))];exact hx
     .rw[sO c2]
      have:q-rb.length=1:=by omega
      simp only[this,List.getElem_cons_succ,su];rw[a1 (nx+1) (by omega) (.inr (.inr rfl))];exact hy
   .rcases List.mem_append.mp b4 with h|h
    .exact a9 r h
    .simp only[EI,zX,zH,or_false]at h
     rcases h with h|h<;>rw[h]<;>simp[hm]
   .have b8:b<qI:=by
     rcases List.mem_append.mp hb with h|h
     .exact(a7 b h).1
     .simp only[zX,zH,or_false]at h;omega
    refine⟨by omega,fun c o l h=>?_⟩;simp only[go_sem,V.rs.injEq]at h;omega) (by
   rintro ⟨T,σ,nx⟩ ⟨h0,a3,FT,a2,rb,hR⟩;simp only at h0 a3 FT a2 hR;exact⟨_,by simp only[go_sem,FT,a2,zi];rfl,by simp,_,_,_,rb,rfl,QT hR (by simp only[go_sem]) (zq _) fun _ _=>rfl⟩) (by
   simp only[go_sem];refine⟨[],.inl ⟨by simp only[go_sem],rfl⟩,by simp[Cb],?_,?_,?_⟩
   .intro j h;cases h
   .intro r hr;simp[Cb]at hr
   .intro b hb;cases hb)
 obtain⟨ids,hs⟩:=Un h2 5;simp only[go_sem,hs]
def Fa(X:List Int)(k:Nat):List Int:=X.take k++List.replicate (X.length-k) 0
theorem Ov(X:List Int){k:Nat}(h:k<=X.length):(Fa X k).length=X.length:=by unfold Fa;rw[zo,zf,yT];omega
theorem QU(X:List Int):Fa X 0=List.replicate X.length 0:=by simp[Fa]
theorem QV(X:List Int):Fa X X.length=X:=by simp[Fa]
theorem Ox(X:List Int){k:Nat}(h:k<X.length):(Fa X k).set k X[k]=Fa X (k+1):=by
 unfold Fa;have E:(X.take k).length=k:=by rw[zf];omega
 rw[xH _ _ (by omega),E,yQ,show X.length-k=X.length - (k+1)+1 by omega,xX,um,aH h,yh];rfl
def O6(s:Structure):List Int:=(Cb s (free s).length).flatMap fun r=>(cols s s.members.length).map fun p=>p.2*r.getD p.1.toNat 0
def GY(s:Structure)(l:List Int):List Int:=(free s).flatMap fun j=>[-l.getD (2*j.toNat) 0,-l.getD (2*j.toNat+1) 0]
theorem Oy{α:Type}(f:α->List Int){C:Nat}(E:∀x,(f x).length=C):∀xs:List α,(xs.flatMap f).length=xs.length*C
 |[]=>by simp
 |x :: xs=>by rw[zJ,zo,Oy f E xs,E,zW,xg];omega
theorem mG{α:Type}(f:α->List Int){C:Nat}(E:∀x,(f x).length=C):∀(xs:List α) {i c:Nat} (hi:i<xs.length) (hc:c<C),(xs.flatMap f)[i*C+c]?=(f xs[i])[c]?
 |x :: xs,0,c,_,hc=>by rw[zJ,uY,yY,zV (by rw[E];exact hc)];rfl
 |x :: xs,i+1,c,hi,hc=>by
  rw[zJ,zM (by rw[E,xg];omega),E,show(i+1)*C+c-C=i*C+c by rw[xg];omega,mG f E xs (by simpa using hi) hc];rfl
theorem ny(s:Structure):(Cb s (free s).length).length=2*(free s).length:=by
 unfold Cb;rw[yX]
 induction free s with
 |nil=>rfl
 |cons a l E=>rw[zJ,zo,E,zW];simp only[EI,zW,yV];omega
theorem QW{s:Structure}{r:List Int}(h:r∈Cb s (free s).length):r.length=s.members.length:=by
 unfold Cb at h;obtain⟨j,-,h⟩:=List.mem_flatMap.mp h;simp only[EI,zX,zH,or_false]at h;rcases h with h|h<;>rw[h]<;>simp
theorem XF{s:Structure}(hs:SG s){r:List Int}(h:r∈Cb s (free s).length):∀x∈r,-100<=x/\x<=100:=by
 unfold Cb at h;obtain⟨j,-,h⟩:=List.mem_flatMap.mp h;simp only[EI,zX,zH,or_false]at h;intro x E;rcases h with h|h<;>rw[h]at E<;>obtain⟨k,-,rfl⟩:=List.mem_map.mp E
 .have:=amS hs j k;omega
 .have:=amS hs j k;omega
theorem ou{s:Structure}:∀ {n:Nat} {p:Int×Int},p∈cols s n->(∃k:Nat,p.1=(k:Int)/\k<n)/\(p.2=1\/p.2= -1):=fun {n p} h=>by
 unfold cols at h;obtain⟨k,G,h⟩:=List.mem_flatMap.mp h;have E:=List.mem_range.mp G;unfold E_ at h;rcases List.mem_append.mp h with h|h
 .split at h
  .cases h
  .rw[List.mem_singleton.mp h];exact⟨⟨k,rfl,E⟩,.inl rfl⟩
 .split at h
  .cases h
  .rw[List.mem_singleton.mp h];exact⟨⟨k,rfl,E⟩,.inr rfl⟩
theorem L9(s:Structure):(O6 s).length=2*(free s).length*(cols s s.members.length).length:=by
 unfold O6;rw[Oy _ (fun _=>zQ _),ny]
theorem Us(s:Structure)(l:List Int):(GY s l).length=2*(free s).length:=by
 unfold GY;rw[Oy _ (C:=2) (fun _=>rfl)];omega
def JU(s:Structure):Nat:=2*(free s).length
def CQ(s:Structure):Nat:=(cols s s.members.length).length
theorem PN{s:Structure}(h:SG s){l:List Int}(hl:l.length=2*s.bI.length)(hb:∀x∈l,-100<=x/\x<=100):fn ZK conv ext 57 [.tp (iI s) 0,LI l,I 0,I 0]=some (.agg (CZ (JU s) (CQ s) (O6 s) (GY s l) (List.replicate (CQ s) 0))):=by
 have k0:=h.nm;have k4:=lS s;have Yq:=h.nj;have k5:=oz s s.members.length;have k1:=Uo h;have k2:=Ou h;have k3:=kK h;have h9:=ny s;obtain⟨E,hE⟩:∃E,E=Cb s (free s).length:=⟨_,rfl⟩;obtain⟨K,hK⟩:∃K,K=cols s s.members.length:=⟨_,rfl⟩;have hR:E.length=JU s:=by rw[hE];exact h9
 have hC:K.length=CQ s:=by rw[hK];rfl
 have h0:JU s<=12:=by unfold JU;omega
 have h1:CQ s<=16:=by rw[<- hC,hK];omega
 have b3:(O6 s).length=JU s*CQ s:=L9 s;have h2:JU s*CQ s<=12*16:=x9 h0 h1;rw[<- hE]at k1;rw[<- hK]at k2;have k1:fn ZK conv ext 98 [.tp (iI s) 0]=some (.ts (E.flatMap cRw) (JU s)):=by rw[<- hR];exact k1
 have k2:fn ZK conv ext 96 [.tp (iI s) 0]=some (.ts (K.flatMap E8) (CQ s)):=by rw[<- hC];exact k2
 obtain⟨R,eR⟩:∃R,R=JU s:=⟨_,rfl⟩;obtain⟨C,eC⟩:∃C,C=CQ s:=⟨_,rfl⟩;rw[<- eR]at k1 hR h0 b3 h2⊢;rw[<- eC]at k2 hC h1 b3 h2⊢;have f1:=ZR (n:=(R:Int));have f2:=ZR (n:=(C:Int));have e3:(R:Int)*(C:Int)=((R*C:Nat):Int):=by push_cast;rfl
 have f3:=ZR (n:=((R*C:Nat):Int));have f4:(0:Int)<=((R*C:Nat):Int):=by omega
 have f5:8*((R*C:Nat):Int)<=281474976710656:=by omega
 have f6:((R*C:Nat):Int)<=9223372036854775807:=by omega
 have f7:=jC R;have f8:8*(R:Int)<=281474976710656:=by omega
 have f9:(R:Int)<=9223372036854775807:=by omega
 have i0:=jC C;have i1:8*(C:Int)<=281474976710656:=by omega
 have i2:(C:Int)<=9223372036854775807:=by omega
 have i3:(R:Int)+0=R:=by omega
 have i4:(C:Int)+0=C:=by omega
 rw[m_,mg [.cell 8 104] [3,10,16] func57];unfold CZ;simp only[go_sem,k1,k2,f1,f2,e3,f3,f4,f5,f6,f7,f8,f9,i0,i1,i2,i3,i4];generalize hL:jI _ _=y;have k6:=b3;obtain⟨FA,h3⟩:∃FA,FA=O6 s:=⟨_,rfl⟩;have i5:∀i c (hi:i<R) (hc:c<C) (hq:i*C+c<FA.length),FA[i*C+c]=(K[c]'(by omega)).2*(E[i]'(by omega)).getD (K[c]'(by omega)).1.toNat 0:=fun i c hi hc hq=>by
  have:=mG (fun r:List Int=>K.map fun p=>p.2*r.getD p.1.toNat 0) (C:=C) (fun _=>by rw[zQ];exact hC) E (i:=i) (c:=c) (by omega) hc;rw[zF,zy (l:=K) (i:=c) (by omega)]at this;have e2:FA=E.flatMap fun r=>K.map fun p=>p.2*r.getD p.1.toNat 0:=by rw[h3,hE,hK];rfl
  rw[<- e2,zy hq]at this;exact Option.some.inj this
 rw[<- h3]at b3⊢
 obtain⟨x,rfl,T1,b4,qI,rfl,t0,t1,t8,G,i6,s0,s1,s2,s3,s4⟩:=oZ hL R (fun i st=>st.T 0= .tp (iI s) 0/\st.T 1=LI l/\st.T 8= .rp 0 0/\st.T 11= .rp 1 0/\st.T 10= .ts (K.flatMap E8) C/\st.T 46= .ts (E.flatMap cRw) R/\st.T 47=I R/\st.T 48=I i/\4<st.nx /\
   st.σ 0=some ⟨[I 0,I 0,.nil,.nil,.nil],0,true⟩/\st.σ 1=some ⟨[I R,I C,.rs 2 0 (R*C),.rs 3 0 R,.rs 4 0 C],0,true⟩/\st.σ 2=some ⟨(Fa FA (i*C)).flatMap cI,1,true⟩/\st.σ 3=some ⟨(List.replicate R 0).flatMap cI,1,true⟩/\st.σ 4=some ⟨(List.replicate C 0).flatMap cI,1,true⟩)
  (fun x=>∃T1 b4 qI,x=(.exit 0,⟨T1,b4,qI⟩)/\T1 0= .tp (iI s) 0/\T1 1=LI l/\T1 8= .rp 0 0/\T1 11= .rp 1 0/\4<qI/\b4 0=some ⟨[I 0,I 0,.nil,.nil,.nil],0,true⟩/\b4 1=some ⟨[I R,I C,.rs 2 0 (R*C),.rs 3 0 R,.rs 4 0 C],0,true⟩/\b4 2=some ⟨FA.flatMap cI,1,true⟩/\b4 3=some ⟨(List.replicate R 0).flatMap cI,1,true⟩/\b4 4=some ⟨(List.replicate C 0).flatMap cI,1,true⟩) (by
   clear hL;rintro i ⟨T,σ,nx⟩ hi ⟨t0,t1,t8,G,S,Y,O,a0,J,s0,s1,s2,s3,s4⟩;simp only at t0 t1 t8 G S Y O a0 J s0 s1 s2 s3 s4;have g1:(i:Int)<(R:Int):=by omega
   have g2:=jC i;have g3:=ZR (n:=(i:Int)+1);have g4:(E.flatMap cRw)[i]?=some (LI (E[i]'(by omega))):=bg (fun r=>LI r) E i (by omega);have g5:=bY (c:=cRw) (s:=1) (fun _=>rfl) (by omega) E i (by omega);have g6:(E.flatMap cRw).length=R:=by rw[bU (c:=cRw) (s:=1) (fun _=>rfl),hR,yO]
   have h4:(E[i]'(by omega)).length=s.members.length:=by subst hE;exact QW (zu _)
   have h5:∀x∈(E[i]'(by omega)),-100<=x/\x<=100:=by subst hE;exact XF h (zu _)
   obtain⟨r,er⟩:∃r,r=E[i]'(by omega):=⟨_,rfl⟩;have i7:=i5 i;rw[<- er]at g4 h4 h5;refine bC ?_
   conv=>
    enter [1,q,1,1]
    simp only[go_sem,t0,t1,t8,G,S,Y,O,a0,g1,g2,g4,g5,g6]
   generalize hL:jI _ _=z;have i9:(i+1)*C<=R*C:=zK _ hi;rw[xg]at i9
   obtain⟨x,rfl,T2,σ2,CG,rfl,t0,t1,t8,G,S,Y,O,a0,J,s0,s1,s2,s3,s4⟩:=oZ hL C (fun c st=>st.T 0= .tp (iI s) 0/\st.T 1=LI l/\st.T 8= .rp 0 0/\st.T 11= .rp 1 0/\st.T 10= .ts (K.flatMap E8) C/\st.T 46= .ts (E.flatMap cRw) R/\st.T 47=I R/\st.T 48=I i/\st.T 12=I i/\st.T 13=LI r/\st.T 53= .ts (K.flatMap E8) C/\st.T 54=I C/\st.T 55=I c/\4<st.nx /\
     st.σ 0=some ⟨[I 0,I 0,.nil,.nil,.nil],0,true⟩/\st.σ 1=some ⟨[I R,I C,.rs 2 0 (R*C),.rs 3 0 R,.rs 4 0 C],0,true⟩/\st.σ 2=some ⟨(Fa FA (i*C+c)).flatMap cI,1,true⟩/\st.σ 3=some ⟨(List.replicate R 0).flatMap cI,1,true⟩/\st.σ 4=some ⟨(List.replicate C 0).flatMap cI,1,true⟩)
    (fun x=>∃T2 σ2 CG,x=(.exit 2,⟨T2,σ2,CG⟩)/\T2 0= .tp (iI s) 0/\T2 1=LI l/\T2 8= .rp 0 0/\T2 11= .rp 1 0/\T2 10= .ts (K.flatMap E8) C/\T2 46= .ts (E.flatMap cRw) R/\T2 47=I R/\T2 48=I i/\4<CG /\
     σ2 0=some ⟨[I 0,I 0,.nil,.nil,.nil],0,true⟩/\σ2 1=some ⟨[I R,I C,.rs 2 0 (R*C),.rs 3 0 R,.rs 4 0 C],0,true⟩/\σ2 2=some ⟨(Fa FA (i*C+C)).flatMap cI,1,true⟩/\σ2 3=some ⟨(List.replicate R 0).flatMap cI,1,true⟩/\σ2 4=some ⟨(List.replicate C 0).flatMap cI,1,true⟩) (by
     clear hL;rintro c ⟨T2,σ2,CG⟩ hc ⟨t0,t1,t8,G,S,Y,O,a0,c0,c2,c3,b7,c4,J,s0,s1,s2,s3,s4⟩;simp only at t0 t1 t8 G S Y O a0 c0 c2 c3 b7 c4 J s0 s1 s2 s3 s4;have a1:(c:Int)<(C:Int):=by omega
     have a2:=jC c;have a3:=ZR (n:=(c:Int)+1);have c8:c<K.length:=by omega
     have a4:=cO (c:=E8) (s:=2) (fun _=>rfl) K c c8;have a5:=bY (c:=E8) (s:=2) (fun _=>rfl) (by omega) K c c8;have a6:(K.flatMap E8).length=C*2:=by rw[bU (c:=E8) (s:=2) (fun _=>rfl),hC]
     have a7:c*2+2<=C*2:=by omega
     have b6:K[c]∈cols s s.members.length:=by rw[<- hK];exact zu c8
     obtain⟨⟨k,hk,k7⟩,c9⟩:=ou b6;have hq:i*C+c<FA.length:=by omega
     have b2:=i7 c hi hc hq;rw[<- er]at b2;obtain⟨kp,j0⟩:∃kp,kp=K[c]:=⟨_,rfl⟩;rw[<- j0]at a4 hk c9 b2;obtain⟨k8,c7⟩:=kp;simp only at hk c9 b2 a4;subst hk;rw[zA]at b2;have a8:=idx (xs:=r) (k:=k) (by omega);have e8:r[k]'(by omega)=r.getD k 0:=by rw[zx,zy (by omega)];rfl
     have j1:=h5 _ (zu (l:=r) (n:=k) (by omega));rw[e8]at a8 j1;have a9:=Bg r k (by omega);have e0:(k:Int)<(r.length:Int):=by omega
     have e1:=jC k;have k9:-100<=c7*r.getD k 0/\c7*r.getD k 0<=100:=by rcases c9 with e|e<;>rw[e]<;>omega
     have e4:=ZR (n:=c7*r.getD k 0);have e5:(i:Int)*(C:Int)=((i*C:Nat):Int):=by push_cast;rfl
     have e6:=ZR (n:=((i*C:Nat):Int));have e7:((i*C:Nat):Int)+(c:Int)=((i*C+c:Nat):Int):=by omega
     have e9:=ZR (n:=((i*C+c:Nat):Int));have f0:((i*C+c:Nat):Int)<((R*C:Nat):Int):=by omega
     have g7:(0:Int)<=((i*C+c:Nat):Int):=by omega
     have g8:i*C+c<R*C:=by omega
     have j2:i*C+c+1<=R*C:=by omega
     have j3:((Fa FA (i*C+c)).flatMap cI).length=R*C:=by rw[qM,Ov _ (by omega),b3]
     have j4:((Fa FA (i*C+c)).flatMap cI).set (i*C+c) (I (c7*r.getD k 0))=(Fa FA (i*C+c+1)).flatMap cI:=by
      rw[qL,<- Ox FA hq,b2]
     have j5:(r.flatMap cI).length=r.length:=qM r;have d0:¬0=CG:=by omega
     have d1:¬1=CG:=by omega
     have d2:¬2=CG:=by omega
     have d3:¬3=CG:=by omega
     have d4:¬4=CG:=by omega
     have d5:¬CG=2:=by omega
     have d6:1<CG+1:=by omega
     have d7:2<CG+1:=by omega
     have d8:CG<CG+1:=by omega
     have d9:¬CG=1:=by omega
     refine .inl ⟨_,by simp only[go_sem,t0,t1,t8,G,S,Y,O,a0,c0,c2,c3,b7,c4,s1,s2,a1,a2,a3,a4,a5,a6,a7,a8,a9,e0,e1,e4,e5,e6,e7,e9,f0,g7,g8,j2,j3,j4,j5,d0,d1,d2,d3,d4,d5,d6,d7,d8,d9];rfl,?_⟩;simp only[go_sem,t0,t1,t8,G,S,Y,O,a0,c0,c2,c3,b7];refine⟨rfl,by omega,?_,?_,rfl,?_,?_⟩
     .rw[Zj _ _ d0];exact s0
     .rw[Zj _ _ d1];exact s1
     .rw[Zj _ _ d3];exact s3
     .rw[Zj _ _ d4];exact s4) (by
     rintro ⟨T2,σ2,CG⟩ ⟨t0,t1,t8,G,S,Y,O,a0,c0,c2,c3,b7,c4,J,s0,s1,s2,s3,s4⟩;simp only at t0 t1 t8 G S Y O a0 c0 c2 c3 b7 c4 J s0 s1 s2 s3 s4;have a1:¬(C:Int)<(C:Int):=by omega
     refine⟨_,by simp only[go_sem,b7,c4,a1];rfl,by simp,_,_,_,rfl,?_⟩;simp only[go_sem,t0,t1,t8,G,S,Y,O,a0];exact⟨J,s0,s1,s2,s3,s4⟩) (by
     simp only[go_sem,t0,t1,t8,G,S,Y,O,a0];exact⟨J,s0,s1,s2,s3,s4⟩)
   refine⟨_,by simp only[go_sem,t0,t1,t8,G,S,Y,O,a0,g3];rfl,.inl ⟨_,rfl,?_⟩⟩;simp only[go_sem,t0,t1,t8,G,S,Y,O];refine⟨rfl,J,s0,s1,?_,s3,s4⟩;rw[xg];exact s2) (by
   rintro ⟨T,σ,nx⟩ ⟨t0,t1,t8,G,S,Y,O,a0,J,s0,s1,s2,s3,s4⟩;simp only at t0 t1 t8 G S Y O a0 J s0 s1 s2 s3 s4;have g1:¬(R:Int)<(R:Int):=by omega
   refine⟨_,by simp only[go_sem,O,a0,g1];rfl,by simp,_,_,_,rfl,?_⟩;simp only[go_sem,t0,t1,t8,G];rw[<- b3,QV]at s2;exact⟨J,s0,s1,s2,s3,s4⟩) (by
   simp only[go_sem,QU,b3,<- fM])
 clear hL;simp only[go_sem,t0,k3];generalize hL:jI _ _=y;obtain⟨F,eF⟩:∃F,F=free s:=⟨_,rfl⟩;have j6:R=2*F.length:=by rw[eR,eF];rfl
 have g9:=Us s l;obtain⟨FB,h6⟩:∃FB,FB=GY s l:=⟨_,rfl⟩;rw[<- h6]at g9⊢;rw[<- eF]at g9;have j7:∀i (hi:i<F.length),∃j:Nat,F[i]=(j:Int)/\j<s.bI.length/\FB[2*i]'(by omega)= -l.getD (2*j) 0/\FB[2*i+1]'(by omega)= -l.getD (2*j+1) 0:=fun i hi=>by
  have b6:F[i]∈F8 (Dt s) s.bI.length:=by subst eF;exact zu hi
  unfold F8 at b6;obtain⟨j,hj,e⟩:=List.mem_map.mp b6;have j8:=List.mem_range.mp (List.mem_filter.mp hj).1;have e2:FB=F.flatMap fun j=>[-l.getD (2*j.toNat) 0,-l.getD (2*j.toNat+1) 0]:=by rw[h6,eF];rfl
  have g0:=mG (fun j:Int=>[-l.getD (2*j.toNat) 0,-l.getD (2*j.toNat+1) 0]) (C:=2) (fun _=>rfl) F (i:=i) (c:=0) hi (by decide);have g1:=mG (fun j:Int=>[-l.getD (2*j.toNat) 0,-l.getD (2*j.toNat+1) 0]) (C:=2) (fun _=>rfl) F (i:=i) (c:=1) hi (by decide);rw[<- e2,<- e,zA]at g0 g1;refine⟨j,e.symm,j8,?_,?_⟩
  .rw[show i*2+0=2*i by omega,zy (by omega)]at g0
   exact Option.some.inj g0
  .rw[show i*2+1=2*i+1 by omega,zy (by omega)]at g1
   exact Option.some.inj g1
 have l1:F.length<=6:=by rw[eF];omega
 obtain⟨x,rfl,T3,b5,AO,rfl,t8,G,s0,s1,s2,s3,s4⟩:=oZ hL F.length (fun i st=>st.T 1=LI l/\st.T 8= .rp 0 0/\st.T 11= .rp 1 0/\st.T 80=LI F/\st.T 81=I F.length/\st.T 82=I i/\4<st.nx /\
   st.σ 0=some ⟨[I 0,I 0,.nil,.nil,.nil],0,true⟩/\st.σ 1=some ⟨[I R,I C,.rs 2 0 (R*C),.rs 3 0 R,.rs 4 0 C],0,true⟩/\st.σ 2=some ⟨FA.flatMap cI,1,true⟩/\st.σ 3=some ⟨(Fa FB (2*i)).flatMap cI,1,true⟩/\st.σ 4=some ⟨(List.replicate C 0).flatMap cI,1,true⟩)
  (fun x=>∃T3 b5 AO,x=(.exit 4,⟨T3,b5,AO⟩)/\T3 8= .rp 0 0/\T3 11= .rp 1 0/\b5 0=some ⟨[I 0,I 0,.nil,.nil,.nil],0,true⟩/\b5 1=some ⟨[I R,I C,.rs 2 0 (R*C),.rs 3 0 R,.rs 4 0 C],0,true⟩/\b5 2=some ⟨FA.flatMap cI,1,true⟩/\b5 3=some ⟨FB.flatMap cI,1,true⟩/\b5 4=some ⟨(List.replicate C 0).flatMap cI,1,true⟩) (by
   clear hL;rintro i ⟨T,σ,nx⟩ hi ⟨t1,t8,G,c5,b8,c6,J,s0,s1,s2,s3,s4⟩;simp only at t1 t8 G c5 b8 c6 J s0 s1 s2 s3 s4;obtain⟨j,hj,l2,hx,hy⟩:=j7 i hi;have g1:(i:Int)<(F.length:Int):=by omega
   have g2:=jC i;have g3:=ZR (n:=(i:Int)+1);have g4:=idx (xs:=F) (k:=i) hi;rw[hj]at g4;have g5:=Bg F i hi;have a1:(2:Int)*(i:Int)=((2*i:Nat):Int):=by push_cast;rfl
   have a2:=ZR (n:=((2*i:Nat):Int));have a3:((2*i:Nat):Int)+1=((2*i+1:Nat):Int):=by omega
   have a4:=ZR (n:=((2*i+1:Nat):Int));have a5:(2:Int)*(j:Int)=((2*j:Nat):Int):=by push_cast;rfl
   have a6:=ZR (n:=((2*j:Nat):Int));have a7:((2*j:Nat):Int)+1=((2*j+1:Nat):Int):=by omega
   have a8:=ZR (n:=((2*j+1:Nat):Int));have h7:∀q (h:q<l.length),(l.flatMap cI)[q]?=some (I (l.getD q 0)):=fun q h=>by
    rw[idx h,zx,zy h];rfl
   have h8:∀q (h:q<l.length),-100<=l.getD q 0/\l.getD q 0<=100:=fun q h=>by
    rw[zx,zy h];exact hb _ (zu h)
   have a9:=h7 (2*j) (by omega);have e0:=h7 (2*j+1) (by omega);have b9:=h8 (2*j) (by omega);have l3:=h8 (2*j+1) (by omega);have e1:=Bg l (2*j) (by omega);have e4:((2*j:Nat):Int)<(l.length:Int):=by omega
   have e5:((2*j+1:Nat):Int)<(l.length:Int):=by omega
   have e6:(0:Int)<=((2*j:Nat):Int):=by omega
   have e7:(0:Int)<=((2*j+1:Nat):Int):=by omega
   have e9:((2*i:Nat):Int)<(R:Int):=by omega
   have f0:((2*i+1:Nat):Int)<(R:Int):=by omega
   have g7:(0:Int)<=((2*i:Nat):Int):=by omega
   have g8:(0:Int)<=((2*i+1:Nat):Int):=by omega
   have w1:=ZR (n:=-l.getD (2*j) 0);have w2:=ZR (n:=-l.getD (2*j+1) 0);have w3:IntKind.i64.wrap (0-l.getD (2*j) 0)= -l.getD (2*j) 0:=by rw[ZR];omega
   have w4:IntKind.i64.wrap (0-l.getD (2*j+1) 0)= -l.getD (2*j+1) 0:=by rw[ZR];omega
   have p1:((Fa FB (2*i)).flatMap cI).length=R:=by rw[qM,Ov _ (by omega)];omega
   have p2:((Fa FB (2*i+1)).flatMap cI).length=R:=by rw[qM,Ov _ (by omega)];omega
   have p3:((Fa FB (2*i)).flatMap cI).set (2*i) (I (-l.getD (2*j) 0))=(Fa FB (2*i+1)).flatMap cI:=by
    rw[qL,<- Ox FB (k:=2*i) (by omega),hx]
   have p4:((Fa FB (2*i+1)).flatMap cI).set (2*i+1) (I (-l.getD (2*j+1) 0))=(Fa FB (2*i+1+1)).flatMap cI:=by
    rw[qL,<- Ox FB (k:=2*i+1) (by omega),hy]
   have p5:2*i<R:=by omega
   have p6:2*i+1<R:=by omega
   have p7:2*i+1<=R:=by omega
   have p8:2*i+1+1<=R:=by omega
   have p9:3<nx:=by omega
   have j9:1<nx:=by omega
   refine .inl ⟨_,by simp only[go_sem,t1,t8,G,c5,b8,c6,s1,s3,g1,g2,g3,g4,g5,a1,a2,a3,a4,a5,a6,a7,a8,a9,e0,e1,e4,e5,e6,e7,e9,f0,g7,g8,w1,w2,w3,w4,p1,p2,p3,p4,p5,p6,p7,p8,p9,j9];rfl,?_⟩;simp only[go_sem,t1,t8,G,c5,b8];exact⟨rfl,J,s0,s1,s2,by rw[show 2*(i+1)=2*i+1+1 by omega],s4⟩) (by
   rintro ⟨T,σ,nx⟩ ⟨t1,t8,G,c5,b8,c6,J,s0,s1,s2,s3,s4⟩;simp only at t1 t8 G c5 b8 c6 J s0 s1 s2 s3 s4;have g1:¬(F.length:Int)<(F.length:Int):=by omega
   refine⟨_,by simp only[go_sem,b8,c6,g1];rfl,by simp,_,_,_,rfl,?_⟩;simp only[go_sem,t8,G];have:Fa FB (2*F.length)=FB:=by rw[show 2*F.length=FB.length by omega,QV]
   rw[this]at s3;exact⟨s0,s1,s2,s3,s4⟩) (by
   simp only[go_sem,t1,t8,G,Nat.mul_zero,QU,<- eF];rw[g9,<- j6];exact⟨i6,s0,s1,s2,s3,s4⟩)
 clear hL;have u1:R*C<=FA.length:=by omega
 have u2:R<=FB.length:=by omega
 have u3:C<=(List.replicate C (0:Int)).length:=by simp
 have v1:(FA.flatMap cI).take (R*C)=FA.flatMap cI:=zl (by rw[qM];omega);have v2:(FB.flatMap cI).take R=FB.flatMap cI:=zl (by rw[qM];omega);have v3:((List.replicate C (0:Int)).flatMap cI).take C=(List.replicate C (0:Int)).flatMap cI:=zl (by rw[qM];simp);simp only[go_sem,t8,G,s0,s1,s2,s3,s4,u1,u2,u3,v1,v2,v3];have w1:FA.length=R*C:=by omega
 have w2:FB.length=R:=by omega
 have w3:(List.replicate C (0:Int)).length=C:=by simp
 show some (V.agg [I R,I C,V.ts (FA.flatMap cI) (R*C),V.ts (FB.flatMap cI) R,V.ts ((List.replicate C (0:Int)).flatMap cI) C])=some (V.agg [I R,I C,V.ts (FA.flatMap cI) FA.length,V.ts (FB.flatMap cI) FB.length,V.ts ((List.replicate C (0:Int)).flatMap cI) (List.replicate C (0:Int)).length]);rw[w1,w2,w3]
theorem alr{P:Program}{t e:TypeId}{x y:Operand}(h:P.underlying t=some (.pointer e)):Aw P .eql t x y (.sc (.pointer none)) (.sc (.pointer none))=some (Bo true):=by
 have key:xI P ((Op.equal t (.pointer none) (.pointer none)).bind fun r=>pure (Value.bool r))=some (.bool true):=by
  show xI P ((Op.equalIn (9999+1) t _ _).bind fun r=>pure (Value.bool r))=_;unfold Op.equalIn underlying;show xI P (.program fun p=>_)=_;simp only[xI];have pb:∀ {β E:Type} (a:β) (f:β->Sem E),(Sem.pure a).bind f=f a:=fun _ _=>rfl
  have G:∀ {β E:Type} (a:β) (f:β->Sem E),(pure a:Sem β).bind f=f a:=fun _ _=>rfl
  simp only[h,pb,G];rfl
 simp only[Aw,toVal,eqGuard_at_pointer,pure_bind,binOp];erw[key];rfl
theorem ao2(x y:Operand):Aw ZK .eql 110 x y (.sc (.pointer none)) (.sc (.pointer none))=some (Bo true):=alr Tryz.underlying110
attribute [go_sem] ao2
def ahS:Option Rat->Option Rat->Option Rat
 |some x,some y=>IQ (x+y)
 |_,_=>none
def Lh:Option Rat->Option Rat->Option Rat
 |some x,some y=>IQ (x*y)
 |_,_=>none
def LnO(k:Nat)(a:Option Rat):Prop:=∀x,a=some x->Ln k x
theorem ayn(a:Option Rat):fn ZK conv ext 134 [pQ a]=some (pQ (a.map fun x=> -x)):=by
 cases a with
 |none=>
  show fn ZK conv ext 134 [.sc (.pointer none)]=some (.sc (.pointer none))
  rw[m_,mg [.tmp 2] [] func134];simp only[go_sem]
 |some x=>
  have k:=kE x.num;have E:(-x).num= -x.num:=rfl;have G:(-x).den=x.den:=rfl;show fn ZK conv ext 134 [.tp (cQ x) 0]=some (.tp (cQ (-x)) 0)
  rw[m_,mg [.tmp 2] [] func134];unfold cQ;rw[E,G];unfold cZ at k;simp only[go_sem,k]
theorem Oz(σ:Store)(a:Option Rat):Option.map (fun x=>x.1) (strip σ 7 (pQ a))=some (pQ a):=by
 cases a with
 |none=>rfl
 |some q=>unfold pQ;rw[aN];rfl
theorem aeW{a b:Option Rat}(ha:LnO 100 a)(hb:LnO 100 b):fn ZK wI Am 64 [pQ a,pQ b]=some (pQ (ahS a b)):=by
 cases a with
 |none=>
  show fn ZK wI Am 64 [.sc (.pointer none),pQ b]=some (.sc (.pointer none));rw[m_,mg [.tmp 4] [] func64];simp only[go_sem]
 |some x=>cases b with
  |none=>
   show fn ZK wI Am 64 [.tp (cQ x) 0,.sc (.pointer none)]=some (.sc (.pointer none));rw[m_,mg [.tmp 4] [] func64];simp only[go_sem]
  |some y=>
   have E:=ahb x y ((ha x rfl).mono (by decide)) ((hb y rfl).mono (by decide));have G:=aso (x+y) (Ln.mono (aa2 (ha x rfl) (hb y rfl) ) (by decide));show fn ZK wI Am 64 [.tp (cQ x) 0,.tp (cQ y) 0]=some (pQ (IQ (x+y)));rw[m_,mg [.tmp 4] [] func64];simp only[go_sem,E,G];exact Oz _ _
theorem alu{a b:Option Rat}(ha:LnO 100 a)(hb:LnO 100 b):fn ZK wI Am 104 [pQ a,pQ b]=some (pQ (Lh a b)):=by
 cases a with
 |none=>
  show fn ZK wI Am 104 [.sc (.pointer none),pQ b]=some (.sc (.pointer none));rw[m_,mg [.tmp 4] [] func104];simp only[go_sem]
 |some x=>cases b with
  |none=>
   show fn ZK wI Am 104 [.tp (cQ x) 0,.sc (.pointer none)]=some (.sc (.pointer none));rw[m_,mg [.tmp 4] [] func104];simp only[go_sem]
  |some y=>
   have E:=acr x y ((ha x rfl).mono (by decide)) ((hb y rfl).mono (by decide));have G:=aso (x*y) (Ln.mono (aa1 (ha x rfl) (hb y rfl) (by decide)) (by decide));show fn ZK wI Am 104 [.tp (cQ x) 0,.tp (cQ y) 0]=some (pQ (IQ (x*y)));rw[m_,mg [.tmp 4] [] func104];simp only[go_sem,E,G];exact Oz _ _
abbrev Gx(a:Option Rat):List V:=[pQ a]
def alv(o:Option Rat)(v:Rat):Option Rat:=match o with
 |none=>some v
 |some y=>IQ (y+v)
def O7(s:Int)(x:Rat):Rat:=if s<0 then -x else x
def Gq(K:List (Int×Int))(X:List Rat)(nm:Nat):Nat->List (Option Rat)
 |0=>List.replicate nm none
 |c+1=>(Gq K X nm c).set (K.getD c (0,0)).1.toNat (alv ((Gq K X nm c).getD (K.getD c (0,0)).1.toNat none) (O7 (K.getD c (0,0)).2 (X.getD c 0)))
theorem lT(K:List (Int×Int))(X:List Rat)(nm:Nat):∀c,(Gq K X nm c).length=nm
 |0=>by simp[Gq]
 |c+1=>by rw[Gq,yP];exact lT K X nm c
theorem acF{q y:Rat}(h:IQ q=some y):Ln 24 y:=by
 unfold IQ at h
 split at h
 .cases h;assumption
 .cases h
theorem Ut{K:List (Int×Int)}{X:List Rat}{nm:Nat}(O:∀x∈X,Ln 24 x):∀c,∀o∈Gq K X nm c,LnO 24 o
 |0=>fun o G y E=>by
  have:=(List.mem_replicate.mp G).2;rw[this]at E;cases E
 |c+1=>fun o G y E=>by
  rw[Gq]at G;rcases ug G with h|h
  .exact Ut O c o h y E
  .subst h
   unfold alv at E
   split at E
   .cases E
    have J:Ln 24 (X.getD c 0):=by
     rw[zx]
     by_cases hc:c<X.length
     .rw[zy hc];exact O _ (zu hc)
     .rw[yw (by omega)];exact(sF (z:=0) (by decide)).mono (by decide)
    unfold O7
    split
    .have S:(-(X.getD c 0)).num= -(X.getD c 0).num:=rfl
     have Y:(-(X.getD c 0)).den=(X.getD c 0).den:=rfl;exact⟨by rw[S,vY];exact J.1,by rw[Y];exact J.2⟩
    .exact J
   .exact(acF E).mono (by decide)
theorem alx(X:List (Option Rat)):∀(k:Nat) (q:Option Rat),(X.flatMap Gx).set k (pQ q)=(X.set k q).flatMap Gx:=by
 induction X with
 |nil=>intro k q;rfl
 |cons a X E=>intro k q;cases k with
  |zero=>rfl
  |succ k=>show pQ a :: ((X.flatMap Gx).set k (pQ q))=_;rw[E];rfl
theorem ahT(N:Nat):rep N [V.sc (.pointer none)]=(List.replicate N (none:Option Rat)).flatMap Gx:=by
 induction N with
 |zero=>rfl
 |succ N E=>rw[fJ,E,xX];rfl
theorem ahU(a:Option Rat):cellsOfV (pQ a)=some [pQ a]:=by cases a<;>rfl
theorem aly(a:Option Rat):vI (pQ a)=true:=by cases a<;>rfl
theorem JV(σ:Store)(d:Nat):∀X:List (Option Rat),stripL (strip σ d) (X.flatMap Gx)=some (X.flatMap Gx,[])
 |[]=>by rw[w_,aX]
 |a :: X=>by
  rw[zJ,show Gx a++X.flatMap Gx=pQ a :: X.flatMap Gx from rfl,ak,JV σ d X];cases a with
  |none=>unfold pQ;rw[aP];rfl
  |some q=>unfold pQ;rw[aN];rfl
attribute [go_sem] ahU aly
def acG:=bU (c:=Gx) (s:=1) (fun _=>rfl)
theorem asW{s:Structure}(h:SG s){X:List Rat}(hX:X.length=(cols s s.members.length).length)(hL:∀x∈X,Ln 24 x) :
  fn ZK wI Am 97 [.tp (iI s) 0,LL cF X]=some (LL Gx (Gq (cols s s.members.length) X s.members.length (cols s s.members.length).length)):=by
 have d4:=h.nm;have d5:=oz s s.members.length;have k2:=Ou h;have m1:(0:Int)<=(s.members.length:Int):=by omega
 have m2:8*(s.members.length:Int)<=281474976710656:=by omega
 have m3:(s.members.length:Int)<=9223372036854775807:=by omega
 obtain⟨K,hK⟩:∃K,K=cols s s.members.length:=⟨_,rfl⟩;have c5:∀c (hc:c<K.length),(∃k:Nat,K[c].1=(k:Int)/\k<s.members.length)/\(K[c].2=1\/K[c].2= -1):=fun c hc=>by subst hK;exact ou (zu hc)
 rw[<- hK]at k2 hX d5⊢;rw[m_,mg [.tmp 4] [10] func97];simp only[go_sem,k2,m1,m2,m3];generalize c6:jI _ _=y;obtain⟨nm,c7⟩:∃nm,nm=s.members.length:=⟨_,rfl⟩;rw[<- c7]at c5 d4 m1 m2 m3⊢;obtain⟨x,rfl,T1,a1,qI,rfl,S,s0⟩:=oZ c6 K.length (fun c st=>st.T 1=LL cF X/\st.T 5= .rs 0 0 nm/\st.T 16=LL E8 K/\st.T 17=I K.length/\st.T 18=I c/\0<st.nx/\st.σ 0=some ⟨(Gq K X nm c).flatMap Gx,1,true⟩)
  (fun x=>∃T1 a1 qI,x=(.exit 0,⟨T1,a1,qI⟩)/\T1 5= .rs 0 0 nm/\a1 0=some ⟨(Gq K X nm K.length).flatMap Gx,1,true⟩) (by
   clear c6;rintro c ⟨T,σ,nx⟩ hc ⟨t1,S,G,E,EG,c0,s0⟩;simp only at t1 S G E EG c0 s0;have g1:(c:Int)<(K.length:Int):=by omega
   have g2:=jC c;have g3:=ZR (n:=(c:Int)+1);have a4:=cO (c:=E8) (s:=2) (fun _=>rfl) K c hc;have a5:=bY (c:=E8) (s:=2) (fun _=>rfl) (by omega) K c hc;have a6:=bU (c:=E8) (s:=2) (fun _=>rfl) K;have a7:c*2+2<=K.length*2:=by omega
   have a8:=qP X (k:=c) (by omega);have a9:(X.flatMap cF).length=X.length:=qO X;have a2:(c:Int)<(X.length:Int):=by omega
   have a3:X.flatMap cF≠[]:=fun e=>by rw[e]at a9;have:X.length=0:=a9.symm;omega
   obtain⟨⟨k,hk,a0⟩,c2⟩:=c5 c hc;have Y:Gq K X nm (c+1)=(Gq K X nm c).set K[c].1.toNat (alv ((Gq K X nm c).getD K[c].1.toNat none) (O7 K[c].2 X[c])):=by
    rw[Gq];have e1:K.getD c (0,0)=K[c]:=by rw[zx,zy hc];rfl
    have e2:X.getD c 0=X[c]'(by omega):=by rw[zx,zy (by omega)];rfl
    rw[e1,e2]
   have b7:=hL _ (zu (l:=X) (n:=c) (by omega));obtain⟨kp,d6⟩:∃kp,kp=K[c]:=⟨_,rfl⟩;rw[<- d6]at a4 hk c2 Y;obtain⟨k1,c8⟩:=kp;simp only at hk c2 Y;subst hk;rw[zA]at Y;obtain⟨J,d7⟩:∃J,J=X[c]'(by omega):=⟨_,rfl⟩;rw[<- d7]at a8 Y b7;have hlen:=lT K X nm c;have c9:=Ut (K:=K) (nm:=nm) hL c;obtain⟨O,eO⟩:∃O,O=Gq K X nm c:=⟨_,rfl⟩;rw[<- eO]at s0 Y hlen c9;have b1:=bg (fun a=>pQ a) O k (by omega);have b1:(O.flatMap Gx)[k]?=some (pQ (O.getD k none)):=by
    rw[b1,zx,zy (by omega)];rfl
   have c3:LnO 24 (O.getD k none):=by
    rw[zx,zy (by omega)];exact c9 _ (zu _)
   have b2:(O.flatMap Gx).length=nm:=by rw[acG,hlen,yO]
   have b3:(k:Int)<(nm:Int):=by omega
   have b4:=jC k;have b5:k+1<=nm:=a0;have b8:Ln 24 (O7 c8 J):=by
    unfold O7
    split
    .exact⟨by show ln (-J.num).natAbs<=24;rw[vY];exact b7.1,b7.2⟩
    .exact b7
   have b6:=alx O k (alv (O.getD k none) (O7 c8 J));rw[<- Y]at b6;obtain⟨o,eo⟩:∃o,o=O.getD k none:=⟨_,rfl⟩;rw[<- eo]at b1 b6 c3;have b9:fn ZK conv ext 134 [.tp (cQ J) 0]=some (.tp (cQ (-J)) 0):=ayn (some J)
   have d0:¬nx=0:=by omega
   have d1:¬0=nx:=by omega
   have d2:0<nx+1:=by omega
   have d3:nx<nx+1:=by omega
   refine bC ?_;have n1:¬(1:Int)<0:=by decide
   have n2:(-1:Int)<0:=by decide
   rcases c2 with rfl|rfl
   .have sv:O7 1 J=J:=rfl
    rw[sv]at b6 b8;rcases o with _|y
    .have e6:(O.flatMap Gx).set k (.tp (cQ (J)) 0)=(Gq K X nm (c+1)).flatMap Gx:=b6
     have e1:(O.flatMap Gx)[k]?=some (.sc (.pointer none)):=b1;refine⟨_,by simp only[go_sem,t1,S,G,E,EG,s0,g1,g2,g3,a4,a5,a6,a7,a8,a9,a2,a3,b2,b3,b4,b5,a0,e1,e6,b9,n1,n2,d0,d1,d2,d3];rfl,.inl ⟨_,rfl,?_⟩⟩;simp only[go_sem,t1,S,G,E,d0,d1,d2]
     first|rfl|exact⟨rfl,rfl⟩|trace_state
    .have e6:(O.flatMap Gx).set k (pQ (IQ (y+J)))=(Gq K X nm (c+1)).flatMap Gx:=b6
     have e1:(O.flatMap Gx)[k]?=some (.tp (cQ y) 0):=b1;have c4:fn ZK wI Am 64 [.tp (cQ y) 0,.tp (cQ (J)) 0]=some (pQ (IQ (y+J))):=aeW (a:=some y) (b:=some (J)) (fun z hz=>(c3 z hz).mono (by decide)) (fun z hz=>by cases hz;exact b8.mono (by decide));refine⟨_,by simp only[go_sem,t1,S,G,E,EG,s0,g1,g2,g3,a4,a5,a6,a7,a8,a9,a2,a3,b2,b3,b4,b5,a0,e1,e6,b9,c4,n1,n2,d0,d1,d2,d3];rfl,.inl ⟨_,rfl,?_⟩⟩;simp only[go_sem,t1,S,G,E,d0,d1,d2]
     first|rfl|exact⟨rfl,rfl⟩|trace_state
   .have sv:O7 (-1) J= -J:=rfl
    rw[sv]at b6 b8;rcases o with _|y
    .have e6:(O.flatMap Gx).set k (.tp (cQ (-J)) 0)=(Gq K X nm (c+1)).flatMap Gx:=b6
     have e1:(O.flatMap Gx)[k]?=some (.sc (.pointer none)):=b1;refine⟨_,by simp only[go_sem,t1,S,G,E,EG,s0,g1,g2,g3,a4,a5,a6,a7,a8,a9,a2,a3,b2,b3,b4,b5,a0,e1,e6,b9,n1,n2,d0,d1,d2,d3];rfl,.inl ⟨_,rfl,?_⟩⟩;simp only[go_sem,t1,S,G,E,d0,d1,d2]
     first|rfl|exact⟨rfl,rfl⟩|trace_state
    .have e6:(O.flatMap Gx).set k (pQ (IQ (y+ -J)))=(Gq K X nm (c+1)).flatMap Gx:=b6
     have e1:(O.flatMap Gx)[k]?=some (.tp (cQ y) 0):=b1;have c4:fn ZK wI Am 64 [.tp (cQ y) 0,.tp (cQ (-J)) 0]=some (pQ (IQ (y+ -J))):=aeW (a:=some y) (b:=some (-J)) (fun z hz=>(c3 z hz).mono (by decide)) (fun z hz=>by cases hz;exact b8.mono (by decide));refine⟨_,by simp only[go_sem,t1,S,G,E,EG,s0,g1,g2,g3,a4,a5,a6,a7,a8,a9,a2,a3,b2,b3,b4,b5,a0,e1,e6,b9,c4,n1,n2,d0,d1,d2,d3];rfl,.inl ⟨_,rfl,?_⟩⟩;simp only[go_sem,t1,S,G,E,d0,d1,d2]
     first|rfl|exact⟨rfl,rfl⟩|trace_state) (by
   rintro ⟨T,σ,nx⟩ ⟨t1,S,G,E,EG,c0,s0⟩;simp only at t1 S G E EG c0 s0;have g1:¬(K.length:Int)<(K.length:Int):=by omega
   refine⟨_,by simp only[go_sem,E,EG,g1];rfl,by simp,_,_,_,rfl,?_⟩;simp only[go_sem,S];exact s0) (by
   simp only[go_sem,<- c7];rw[Gq,<- ahT])
 have hlen:=lT K X nm K.length;have u1:nm<=((Gq K X nm K.length).flatMap Gx).length:=by rw[acG,hlen];omega
 have u2:((Gq K X nm K.length).flatMap Gx).take nm=(Gq K X nm K.length).flatMap Gx:=zl (by rw[acG,hlen];omega);have u3:=JV a1 6 (Gq K X nm K.length);simp only[go_sem,S,s0,u1,u2,u3];show some (V.ts _ nm)=some (V.ts _ (Gq K X nm K.length).length);rw[hlen]
def EP(s:Structure)(l:List Int):Prog:=AV (O6 s) (GY s l) (List.replicate (CQ s) 0) (JU s) (CQ s)
theorem abb{s:Structure}(h:SG s):∀x∈O6 s,-1000<=x/\x<=1000:=fun x E=>by
 unfold O6 at E;obtain⟨r,G,E⟩:=List.mem_flatMap.mp E;obtain⟨p,hp,rfl⟩:=List.mem_map.mp E;have hb:-100<=r.getD p.1.toNat 0/\r.getD p.1.toNat 0<=100:=by
  rw[zx]
  by_cases hi:p.1.toNat<r.length
  .rw[zy hi];exact XF h G _ (zu hi)
  .rw[yw (by omega)];simp
 rcases (ou hp).2 with e|e<;>rw[e]<;>omega
theorem ahV{s:Structure}{l:List Int}(hb:∀x∈l,-100<=x/\x<=100):∀x∈GY s l,-1000<=x/\x<=1000:=fun x E=>by
 unfold GY at E;obtain⟨j,-,E⟩:=List.mem_flatMap.mp E;have key:∀q,-100<=l.getD q 0/\l.getD q 0<=100:=fun q=>by
  rw[zx]
  by_cases hi:q<l.length
  .rw[zy hi];exact hb _ (zu hi)
  .rw[yw (by omega)];simp
 simp only[zX,zH,or_false]at E;rcases E with rfl|rfl
 .have:=key (2*j.toNat);omega
 .have:=key (2*j.toNat+1);omega
theorem asY{s:Structure}(h:SG s){l:List Int}(hb:∀x∈l,-100<=x/\x<=100)(E:0<JU s):Lc (O6 s) (GY s l) (List.replicate (CQ s) 0) (JU s) (CQ s):=by
 have J:=lS s;have O:=h.nj;have S:=oz s s.members.length;have Y:=h.nm;refine⟨L9 s,Us s l,by simp,E,by unfold JU;omega,by unfold CQ;omega,abb h,ahV hb,fun x G=>?_⟩;rw[(List.mem_replicate.mp G).2];omega
theorem aeX{s:Structure}(h:Ba s)(J:free s=[]):s.members=[]:=by
 refine zh fun hn=>?_
 obtain⟨m,ms,e⟩:=List.exists_cons_of_ne_nil hn;have hm:m∈s.members:=by rw[e];simp
 have E:=h.2.2.2 m hm;have G:Dy s.bI.length m:=zh fun G=>by rw[jJ G]at E;cases E
 obtain⟨O,S,Y,r4,r5,r6⟩:=G;have ha:m.a.toNat<s.bI.length:=by omega
 have hb:m.b.toNat<s.bI.length:=by omega
 rw[JB ⟨O,S,Y,r4,r5,r6⟩ (zy ha) (zy hb)]at E;have fixed:∀i (hi:i<s.bI.length),s.bI[i].fixed=true:=fun i hi=>by
  cases hf:s.bI[i].fixed with
  |true=>rfl
  |false=>
   have hq:Dt s i=true:=by simp[Dt,zy hi,hf]
   have:(i:Int)∈free s:=by
    unfold free F8;exact List.mem_map.mpr ⟨i,List.mem_filter.mpr ⟨List.mem_range.mpr hi,hq⟩,rfl⟩
   rw[J]at this;cases this
 unfold Kz at E;rw[fixed _ ha,fixed _ hb]at E;simp at E
theorem alC{s:Structure}(h:Ba s){l:List Int}(hb:∀x∈l,-100<=x/\x<=100):∃r,fn ZK wI Am 95 [.tp (CZ (JU s) (CQ s) (O6 s) (GY s l) (List.replicate (CQ s) 0)) 0]=some r/\asH (EP s l) r:=by
 by_cases Y:0<JU s
 .exact aoX (asY h.sg hb Y)
 .have E:free s=[]:=zZ (by unfold JU at Y;omega)
  have e1:=aeX h E;have G:JU s=0:=by omega
  have J:CQ s=0:=by unfold CQ;rw[e1];rfl
  have O:O6 s=[]:=by unfold O6 Cb;rw[E];rfl
  have S:GY s l=[]:=by unfold GY;rw[E];rfl
  refine⟨_,by rw[G,J,O,S];exact alm,.inr (.inr ⟨fun _=>0,?_,fun j hj=>?_,?_⟩)⟩
  .unfold EP
   rw[G,J,O,S];refine⟨⟨fun k hk=>absurd hk (zU k),fun j hj=>absurd hj (zU j)⟩,fun y hy=>?_⟩;refine .inr fun q _=>?_
   show(0:Rat) - 0=0;grind
  .exact(sF (z:=0) (by decide)).mono (by decide)
  .unfold EP
   rw[G,J,O,S];rfl
def asZ(s:Structure)(l:List Int)(r:V):Prop:=(r= .Bf [.ts [] 0,.ts [] 0,Bo false]/\((EP s l).None\/(EP s l).Open)) \/
 ∃x:Nat->Rat,(EP s l).Best x/\(∀j,j<CQ s->Ln 24 (x j))/\r= .Bf [LL Gx (Gq (cols s s.members.length) ((List.range (CQ s)).map x) s.members.length (CQ s)),.ts [] 0,Bo true]
theorem alD{s:Structure}(h:Ba s){l:List Int}(hb:∀x∈l,-100<=x/\x<=100):∃r,fn ZK wI Am 56 [.tp (iI s) 0,.agg (CZ (JU s) (CQ s) (O6 s) (GY s l) (List.replicate (CQ s) 0))]=some r/\asZ s l r:=by
 obtain⟨r0,E,hr⟩:=alC h hb;have k2:=Ou h.sg;have hC:(cols s s.members.length).length=CQ s:=rfl;obtain⟨C,eC⟩:∃C,C=CQ s:=⟨_,rfl⟩;have hn:(EP s l).n=CQ s:=rfl;have a0:CQ s<=16:=by have:=oz s s.members.length;have:=h.sg.nm;omega
 rw[m_,mg [.tmp 4,.tmp 5,.tmp 6] [] func56];unfold CZ at E⊢;rcases hr with ⟨rfl,G⟩|⟨rfl,G⟩|⟨x,G,S,rfl⟩
 .refine⟨_,by simp only[go_sem,E];rfl,.inl ⟨rfl,.inl G⟩⟩
 .refine⟨_,by simp only[go_sem,E];rfl,.inl ⟨rfl,.inr G⟩⟩
 .rw[hn]at E S
  obtain⟨X,O⟩:∃X:List Rat,X=(List.range (CQ s)).map x:=⟨_,rfl⟩;have J:X.length=CQ s:=by rw[O];simp
  have kf:=asW h.sg (X:=X) (by rw[J];rfl) (fun y hy=>by
   rw[O]at hy;obtain⟨j,hj,rfl⟩:=List.mem_map.mp hy;exact S j (List.mem_range.mp hj))
  rw[<- O]at E;have Y:fn ZK conv ext 96 [.tp (iI s) 0]=some (.ts ((cols s s.members.length).flatMap E8) X.length):=by rw[J];exact k2
  have z1:(X.flatMap cF).take X.length=X.flatMap cF:=zl (by rw[qO];exact zq _);have z2:(X.flatMap cF).drop X.length=[]:=xk (by rw[qO];exact zq _);have z0:(0:Int)<=(X.length:Int):=by omega
  refine⟨_,by simp only[go_sem,E,Y,z0,z1,z2,kf,yQ,List.take_nil,JV];rfl,.inr ⟨x,G,S,?_⟩⟩;rw[<- O];rfl
def CP:List (Option Rat)->Option (List Rat)
 |[]=>some []
 |none :: _=>none
 |some q :: l=>(CP l).map (q :: ·)
theorem dD:∀(l:List (Option Rat)) (a:Option Rat),CP (l++[a])=(CP l).bind fun qs=>a.map fun q=>qs++[q]
 |[],none=>rfl
 |[],some q=>rfl
 |none :: l,a=>rfl
 |some q :: l,a=>by
  show(CP (l++[a])).map _=((CP l).map _).bind _;rw[dD l a];cases CP l with
  |none=>rfl
  |some qs=>cases a<;>rfl
theorem JW:∀ {l l':List (Option Rat)},CP l=none->CP (l++l')=none
 |[],_,h=>by cases h
 |none :: l,_,_=>rfl
 |some q :: l,l',h=>by
  show(CP (l++l')).map _=none;have:CP l=none:=by
   cases e:CP l with
   |none=>rfl
   |some qs=>rw[show CP (some q :: l)=(CP l).map (q :: ·)from rfl,e]at h;cases h
  rw[JW this];rfl
theorem dF:∀ {l:List (Option Rat)} {qs:List Rat},CP l=some qs->qs.length=l.length
 |[],qs,h=>by cases h;rfl
 |none :: l,_,h=>by cases h
 |some q :: l,qs,h=>by
  cases e:CP l with
  |none=>rw[show CP (some q :: l)=(CP l).map (q :: ·)from rfl,e]at h;cases h
  |some rs=>rw[show CP (some q :: l)=(CP l).map (q :: ·)from rfl,e]at h;cases h;simp[dF e]
abbrev zR:List V:=[Bo false,.nil,.nil]
def PO(qs:List Rat)(n:Nat):List V:=qs.flatMap cQ++rep (n-qs.length) zR
def acH:=bU (c:=cQ) (s:=3) (fun _=>rfl)
theorem XG(qs:List Rat){n:Nat}(h:qs.length<=n):(PO qs n).length=n*3:=by
 unfold PO;rw[zo,acH,fK];simp only[zW,yV];omega
theorem ahW(qs:List Rat){n:Nat}(h:qs.length<n)(q:Rat):patch (PO qs n) (qs.length*3) (cQ q)=PO (qs++[q]) n:=by
 have E:=acH qs;rw[iF _ _ _ (by rw[XG qs (by omega)];show qs.length*3+3<=n*3;omega)];unfold PO;rw[uT (by omega),zl (by omega),zS,zo,yU,show n-qs.length=n - (qs.length+1)+1 by omega,fJ];rw[List.drop_append,xk (by rw[E];omega),yM,E,show qs.length*3+(cQ q).length-qs.length*3=3 by show qs.length*3+3-qs.length*3=3;omega];simp
theorem QX(σ:Store)(d:Nat)(qs:List Rat):stripL (strip σ d) (qs.flatMap cQ)=some (qs.flatMap cQ,[]):=aW (fun q=>qG σ d q) qs
theorem ahX(q:Rat):(cQ q).all vI=true:=rfl
theorem alE(q:Rat):(cQ q).take 3=cQ q:=rfl
theorem alF(q:Rat):(cQ q).length=3:=rfl
attribute [go_sem] ahX alE alF
def En(O:List (Option Rat)):V:=match CP O with
 |some qs=> .Bf [LL cQ qs,Bo true]
 |none=> .Bf [.ts [] 0,Bo false]
theorem alG(O:List (Option Rat))(hL:∀o∈O,LnO 24 o)(hn:O.length<=1000):fn ZK conv ext 58 [LL Gx O]=some (En O):=by
 have m1:(0:Int)<=(O.length:Int):=by omega
 have m2:56*(O.length:Int)<=281474976710656:=by omega
 have m3:(O.length:Int)<=9223372036854775807:=by omega
 rw[m_,mg [.tmp 2,.tmp 3] [] func58];simp only[go_sem,m1,m2,m3];generalize a2:jI _ _=y;obtain⟨x,rfl,hx⟩:=oZ a2 O.length (fun k st=>st.T 4= .rs 0 0 O.length/\st.T 10=LL Gx O/\st.T 11=I O.length/\st.T 12=I k/\0<st.nx/\∃qs,CP (O.take k)=some qs/\st.σ 0=some ⟨PO qs O.length,3,true⟩)
  (fun x=>∃T σ nx,(x=(.exit 0,⟨T,σ,nx⟩)/\T 4= .rs 0 0 O.length/\∃qs,CP O=some qs/\σ 0=some ⟨PO qs O.length,3,true⟩)\/(x=(.ret,⟨T,σ,nx⟩)/\T 2= .nil/\T 3=Bo false/\CP O=none)) (by
   clear a2;rintro k ⟨T,σ,nx⟩ hk ⟨Y,J,G,S,a0,qs,E,s0⟩;simp only at Y J G S a0 s0;have g1:(k:Int)<(O.length:Int):=by omega
   have g2:=jC k;have g3:=ZR (n:=(k:Int)+1);have g4:(O.flatMap Gx)[k]?=some (pQ O[k]):=bg (fun a=>pQ a) O k hk;have g5:=bY (c:=Gx) (s:=1) (fun _=>rfl) (by omega) O k hk;have g6:=acG O;rw[yO]at g6;have a3:qs.length=k:=by rw[dF E,zf];omega
   have a1:O.take (k+1)=O.take k++[O[k]]:=aH hk;have ho:=hL _ (zu hk);obtain⟨o,eo⟩:∃o,o=O[k]:=⟨_,rfl⟩;rw[<- eo]at g4 a1 ho;cases o with
   |none=>
    have g4:(O.flatMap Gx)[k]?=some (.sc (.pointer none)):=g4;refine .inr ⟨_,by simp only[go_sem,Y,J,G,S,g1,g2,g4,g5,g6,hk];rfl,by simp,_,_,_,.inr ⟨rfl,?_⟩⟩;simp only[go_sem];have:O=O.take (k+1)++O.drop (k+1):=(uj _ _).symm;rw[this,a1];refine JW ?_;rw[dD,E];rfl
   |some q=>
    have g4:(O.flatMap Gx)[k]?=some (.tp (cQ q) 0):=g4;have hq:=ho q rfl;have ks:=aki q hq.1 hq.2;have p1:=XG qs (n:=O.length) (by omega);have p2:=ahW qs (n:=O.length) (by omega) q;rw[a3]at p2;have p3:k*3+3<=O.length*3:=by omega
    refine .inl ⟨_,by simp only[go_sem,Y,J,G,S,s0,g1,g2,g3,g4,g5,g6,hk,ks,p1,p2,p3];rfl,?_⟩;simp only[go_sem,Y,J,G];refine⟨rfl,a0,qs++[q],?_,rfl⟩;rw[a1,dD,E];rfl) (by
   rintro ⟨T,σ,nx⟩ ⟨Y,J,G,S,a0,qs,E,s0⟩;simp only at Y J G S a0 s0;have g1:¬(O.length:Int)<(O.length:Int):=by omega
   refine⟨_,by simp only[go_sem,G,S,g1];rfl,by simp,_,_,_,.inl ⟨rfl,?_⟩⟩;simp only[go_sem,Y];rw[yX]at E;exact⟨qs,E,s0⟩) (by
   simp only[go_sem];refine⟨[],rfl,?_⟩;unfold PO;rfl)
 rcases hx with ⟨T,σ,nx,⟨rfl,Y,qs,E,s0⟩|⟨rfl,t2,t3,E⟩⟩
 .have hl:=dF E
  have e1:PO qs O.length=qs.flatMap cQ:=by unfold PO;rw[hl,yQ];exact zC _
  rw[e1]at s0;have u0:=acH qs;have u1:O.length*3<=(qs.flatMap cQ).length:=by rw[u0];omega
  have u2:(qs.flatMap cQ).take (O.length*3)=qs.flatMap cQ:=zl (by rw[u0];omega);have u3:=QX σ 5 qs;unfold En;rw[E];simp only[go_sem,Y,s0,u1,u2,u3];show some (V.Bf [V.ts _ O.length,_])=some (V.Bf [V.ts _ qs.length,_]);rw[hl]
 .unfold En
  rw[E];simp only[go_sem,t2,t3]
def abd(P:Program)(ts:Array TypeId)(ty:TypeId)(a b:V)(σ:Store)(nx:Nat):J6:=EO P .min ts ty [a,b] σ nx
theorem ao4{P:Program}{conv:FuncId->Conv}{call:TV.Call}(d:Option Tmp)(ty:TypeId)(ps:String)(E:Array Edge)(G:Option (Nat×Bool))(T:Nat->V)(σ:Store)(nx:Nat)(a b:Operand)(ts:Array TypeId) :
  AP P conv call ⟨d,.call ⟨.builtin .min,#[a,b],ts⟩,ty,ps,E,G⟩ T σ nx=abd P ts ty (val T a) (val T b) σ nx:=rfl
theorem abe{P:Program}{ts:Array TypeId}{ty:TypeId}{m n:Int}{σ:Store}{nx:Nat}:abd P ts ty (I m) (I n) σ nx=some (I (if n<m then n else m),σ,nx):=by
 unfold abd;simp only[EO,Hr,afv];rfl
attribute [go_sem] ao4 abe
theorem abf{b n:Nat}(hn:ln b=n+1):1<=b / 1000000000^n/\b / 1000000000^n<1000000000/\(dg b)[n]?=some ((b / 1000000000^n:Nat):Int):=by
 have E:b<1000000000^(n+1):=by
  have:=(jY (n:=b) (k:=n+1)).mp (by omega);rw[qX]at this;omega
 have O:¬b<1000000000^n:=fun h=>by
  have:ln b<=n:=(jY (n:=b) (k:=n)).mpr (by rw[qX];omega);omega
 have hp:0<1000000000^n:=Nat.pow_pos (by decide);have G:b / 1000000000^n<1000000000:=by
  rw[uN hp];rw[uX]at E;rw[wE];exact E
 have J:n<(dg b).length:=by unfold ln at hn;omega
 refine⟨by rw[uM hp];omega,G,?_⟩;rw[zy J,oQ J,wC G]
theorem alH(m n:Nat):Bj m n<=0↔m<=n:=by
 unfold Bj
 split
 .omega
 .split<;>omega
theorem alI(m n:Nat):Bj m n<0↔m<n:=by
 unfold Bj
 split
 .omega
 .split<;>omega
theorem ao5{r b P:Nat}(E:0<P)(hb:0<b):r / P / (b / P+1)<=r / b:=by
 rw[uM hb];have G:b<=(b / P+1)*P:=by
  have:=Nat.lt_mul_div_succ b E;rw[wE];omega
 calc r / P / (b / P+1)*b<=r / P / (b / P+1)*((b / P+1)*P):=tV _ G
  _=r / P / (b / P+1)*(b / P+1)*P:=by rw[uw]
  _<=r / P*P:=zK _ (tK _ _)
  _<=r:=tK _ _
theorem ao6{r b P:Nat}(E:0<P)(hb:0<b / P):r / b<=r / P / (b / P):=by
 rw[uM hb,uM E];have G:b / P*P<=b:=tK _ _
 calc r / b*(b / P)*P=r / b*(b / P*P):=uw _ _ _
  _<=r / b*b:=tV _ G
  _<=r:=tK _ _
theorem alJ(r b:Nat)(b7:1000000000<=b)(hle:b<=r)(b2:r<b*1000000000)(b8:ln b<=10000):fn ZK conv ext 228 [LI (dg r),LI (dg b)]=some (I ((r / b:Nat):Int)):=by
 obtain⟨n,hn⟩:∃n,ln b=n+1:=⟨ln b-1,by have:=jT (n:=b) (by omega);omega⟩;obtain⟨t1,t2,t3⟩:=abf hn;obtain⟨P,eP⟩:∃P,P=1000000000^n:=⟨_,rfl⟩;rw[<- eP]at t1 t2 t3;have hP:0<P:=by rw[eP];exact Nat.pow_pos (by decide)
 have a5:n+1<=ln r:=by rw[<- hn];exact jX hle
 have b3:ln r<=n+2:=by
  rw[jY,qX];have h1:b<1000000000^(n+1):=by
   have:=(jY (n:=b) (k:=n+1)).mp (by omega);rw[qX]at this;omega
  have h2:1000000000^(n+2)=1000000000^(n+1)*1000000000:=uX _ _;omega
 obtain⟨X,eX⟩:∃X,X=r / P:=⟨_,rfl⟩;obtain⟨bt,a1⟩:∃bt,bt=b / P:=⟨_,rfl⟩;rw[<- a1]at t1 t2 t3;obtain⟨Q,eQ⟩:∃Q,Q=r / b:=⟨_,rfl⟩;rw[<- eQ];have b9:Q<1000000000:=by rw[eQ,uN (by omega),wE];exact b2
 have q1:X / (bt+1)<=Q:=by rw[eX,a1,eQ];exact ao5 hP (by omega)
 have q2:Q<=X / bt:=by rw[eX,a1,eQ];exact ao6 hP (by omega)
 have hX:X<1000000000000000000:=by
  rw[eX,uN hP];have h1:r<1000000000^(n+2):=by
   have:=(jY (n:=r) (k:=n+2)).mp b3;rw[qX]at this;omega
  have h2:1000000000^(n+2)=1000000000000000000*P:=by rw[eP,Nat.pow_add,wE]
  omega
 have a2:(dg b).length=n+1:=hn;have u1:((n+1:Nat):Int) - 1=(n:Int):=by omega
 have w1:=ZR (n:=(n:Int));have i0:=jC n;have i1:(n:Int)<((n+1:Nat):Int):=by omega
 have i2:(n:Int)<((dg r).length:Int):=by unfold ln at a5;omega
 have n1:n<(dg r).length:=by unfold ln at a5;omega
 have n2:n<n+1:=by omega
 have a6:((dg b).flatMap cI)[n]?=some (I (bt:Int)):=by
  have G:n<(dg b).length:=by omega
  have e:(dg b)[n]=(bt:Int):=by
   rw[zy G]at t3;exact Option.some.inj t3
  rw[idx (xs:=dg b) (k:=n) G,e]
 have a7:(dg b).flatMap cI≠[]:=fun e=>by have h:=qM (dg b);rw[e,a2]at h;have h:0=n+1:=h;omega
 have a8:(dg r).flatMap cI≠[]:=fun e=>by have h:=qM (dg r);rw[e]at h;have h:0=(dg r).length:=h;omega
 have a3:((dg r).flatMap cI)[n]?=some (I ((r / P%1000000000:Nat):Int)):=by
  rw[idx (xs:=dg r) (k:=n) n1,oQ n1,eP]
 have v1:=ZR (n:=(bt:Int)+1);have c1:¬(bt:Int)+1=0:=by omega
 have c2:¬(bt:Int)=0:=by omega
 obtain⟨L0,J⟩:∃L0,L0=X / (bt+1):=⟨_,rfl⟩;obtain⟨O,S⟩:∃O,O=X / bt:=⟨_,rfl⟩;have c0:L0<=X:=by rw[J];exact xA _ _
 have c5:O<=X:=by rw[S];exact xA _ _
 rw[<- J]at q1;rw[<- S]at q2;have d1:(X:Int).tdiv ((bt:Int)+1)=(L0:Int):=by
  rw[xq (by omega),show(bt:Int)+1=((bt+1:Nat):Int) by omega,<- Int.natCast_ediv,J]
 have d2:(X:Int).tdiv (bt:Int)=(O:Int):=by rw[xq (by omega),<- Int.natCast_ediv,S]
 clear J S;have v2:=ZR (n:=(L0:Int));have v3:=ZR (n:=(O:Int));obtain⟨H,eH,b4,b5⟩:∃H:Nat,(if(O:Int)<999999999 then(O:Int)else 999999999)=(H:Int)/\Q<=H/\H<=999999999:=by
  by_cases h:(O:Int)<999999999
  .exact⟨O,by rw[sN h],q2,by omega⟩
  .exact⟨999999999,by rw[sO h];rfl,by omega,by omega⟩
 have E:ln r=n+1\/ln r=n+2:=by omega
 rw[m_,mg [.tmp 4] [] func228];rcases E with E|E
 case' inl=>
  have e1:r / P%1000000000=X:=by
   rw[eX];obtain⟨_,h2,_⟩:=abf E;rw[<- eP]at h2;exact wC h2
  rw[e1]at a3;have a4:(dg r).length=n+1:=E;have c3:¬((n+1:Nat):Int)<((n+1:Nat):Int):=by omega
  simp only[go_sem,a2,a4,u1,w1,i0,i1,n2,a3,a6,a7,a8,c3,v1,c1,c2,d1,d2,v2,v3,eH]
 case' inr=>
  obtain⟨y1,y2,y3⟩:=abf E;obtain⟨Y,eY⟩:∃Y,Y=r / 1000000000^(n+1):=⟨_,rfl⟩;rw[<- eY]at y2 y3;have e1:r / P%1000000000+Y*1000000000=X:=by
   have:=oL r n;rw[<- eP,<- eY,<- eX]at this;rw[<- eX];omega
  have a4:(dg r).length=n+1+1:=E;have c3:((n+1:Nat):Int)<((n+1+1:Nat):Int):=by omega
  have i3:(0:Int)<=((n+1:Nat):Int):=by omega
  have i4:(n:Int)<((n+1+1:Nat):Int):=by omega
  have n3:n+1<n+1+1:=by omega
  have n4:n<n+1+1:=by omega
  have tn:((n+1:Nat):Int).toNat=n+1:=zA _;have b6:((dg r).flatMap cI)[n+1]?=some (I (Y:Int)):=by
   have G:n+1<(dg r).length:=by omega
   have e:(dg r)[n+1]=(Y:Int):=by
    rw[zy G]at y3;exact Option.some.inj y3
   rw[idx (xs:=dg r) (k:=n+1) G,e]
  have v4:=ZR (n:=(Y:Int)*1000000000);have v5:IntKind.i64.wrap (((r / P%1000000000:Nat):Int)+(Y:Int)*1000000000)=(X:Int):=by
   rw[ZR];omega
  simp only[go_sem,a2,a4,u1,w1,i0,i1,i3,i4,n2,n3,n4,tn,a3,b6,a6,a7,a8,c3,v1,v4,v5,c1,c2,d1,d2,v2,v3,eH]
 all_goals
  generalize hL:jI _ _=y;obtain⟨x,rfl,T,σ,nx,rfl,t7⟩:=jP hL (fun m st=>st.T 0=LI (dg r)/\st.T 1=LI (dg b)/\∃lo hi:Nat,st.T 7=I (lo:Int)/\st.T 8=I (hi:Int)/\lo<=Q/\Q<=hi/\hi<=999999999/\m+lo=hi)
   (fun x=>∃T σ nx,x=(.exit 0,⟨T,σ,nx⟩)/\T 7=I (Q:Int)) (by
    clear hL;rintro m ⟨T,σ,nx⟩ ⟨t0,t1,lo,hi,t7,t8,h1,h2,h3,h4⟩;simp only at t0 t1 t7 t8
    by_cases c6:lo<hi
    .have g1:(lo:Int)<(hi:Int):=by omega
     obtain⟨q,eq⟩:∃q,q=(lo+hi+1) / 2:=⟨_,rfl⟩;have g2:=ZR (n:=(lo:Int)+(hi:Int));have g3:=ZR (n:=(lo:Int)+(hi:Int)+1);have g4:((lo:Int)+(hi:Int)+1).tdiv 2=(q:Int):=by
      rw[xq (by omega)];omega
     have g5:=ZR (n:=(q:Int));have g6:=ZR (n:=(q:Int) - 1);have g7:¬(2:Int)=0:=by decide
     have k1:=Nu q (by omega);have lq:=jS (n:=q) (by omega);have k2:=dJ b q (by omega) (by omega);have lm:=jW b q;have k3:=WE (b*q) r (by show ln (b*q)<=_;omega) (by show ln r<=_;omega);have a0:=alH (b*q) r;have a9:b*q<=r↔q<=Q:=by rw[eQ,uM (by omega),wE]
     by_cases hq:q<=Q
     .have c4:Bj (b*q) r<=0:=a0.mpr (a9.mpr hq)
      refine .inl ⟨_,by simp only[go_sem,t0,t1,t7,t8,g1,g2,g3,g4,g5,g7,k1,k2,k3,c4];rfl,hi-q,by omega,?_⟩;simp only[go_sem,t0,t1,t8];exact⟨q,hi,rfl,rfl,hq,h2,h3,by omega⟩
     .have c4:¬Bj (b*q) r<=0:=fun h=>hq (a9.mp (a0.mp h))
      refine .inl ⟨_,by simp only[go_sem,t0,t1,t7,t8,g1,g2,g3,g4,g5,g6,g7,k1,k2,k3,c4];rfl,q-1-lo,by omega,?_⟩;simp only[go_sem,t0,t1,t7];exact⟨lo,q-1,rfl,by rw[show((q-1:Nat):Int)=(q:Int) - 1 by omega],h1,by omega,by omega,by omega⟩
    .have g1:¬(lo:Int)<(hi:Int):=by omega
     refine .inr ⟨_,by simp only[go_sem,t7,t8,g1];rfl,by simp,_,_,_,rfl,?_⟩;simp only[go_sem,t7];rw[show(lo:Int)=(Q:Int) by omega]) (H-L0) (by
    simp only[go_sem];exact⟨L0,H,rfl,rfl,q1,b4,b5,by omega⟩)
  simp only[go_sem,t7]
def Ee(n k i:Nat):List Int:=(List.range k).map fun j=>if j<i then 0 else((n / 1000000000^j%1000000000:Nat):Int)
theorem OA(n k i:Nat):(Ee n k i).length=k:=by simp[Ee]
theorem ahY(n k:Nat):Ee n k k=List.replicate k 0:=by
 refine yR (by simp[Ee]) fun j E G=>?_
 simp only[Ee,xZ,uh,List.getElem_replicate];rw[sN (by simpa[Ee]using E)]
theorem aeZ(n k:Nat):Ee n k 0=pad n k:=by
 refine yR (by simp[Ee,pad]) fun j E G=>?_
 simp[Ee,pad]
theorem OB{n k i:Nat}(E:i<k):(Ee n k (i+1)).set i ((n / 1000000000^i%1000000000:Nat):Int)=Ee n k i:=by
 refine yR (by simp[Ee]) fun j G J=>?_
 rw[wG];simp only[Ee,xZ,uh]
 by_cases e:i=j
 .subst e;simp
 .rw[sO e]
  by_cases h:j<i
  .rw[sN (by omega),sN h]
  .rw[sO (by omega),sO h]
theorem QY{n k i:Nat}(h:i<k)(E:n / 1000000000^i%1000000000=0):Ee n k (i+1)=Ee n k i:=by
 rw[<- OB h,E];refine yR (by simp[Ee]) fun j G J=>?_
 rw[wG]
 by_cases e:i=j
 .subst e
  rw[sN rfl];simp only[Ee,xZ,uh];rw[sN (by omega)];rfl
 .rw[sO e]
theorem as3(xs:List Int)(k:Nat)(v:Int):(xs.flatMap cI).set k (I v)=(xs.set k v).flatMap cI:=by
 induction xs generalizing k with
 |nil=>rfl
 |cons x xs E=>
  cases k with
  |zero=>rfl
  |succ k=>show I x :: (xs.flatMap cI).set k (I v)=_;rw[E];rfl
theorem ayt(n:Nat):rep n [V.sc (.int .i64 0)]=(List.replicate n (0:Int)).flatMap cI:=by
 induction n with
 |zero=>rfl
 |succ n E=>rw[fJ,E,xX];rfl
theorem abg{σ:Store}{b:Nat}{xs:List Int}{w:Bool}(h:σ b=some ⟨xs.flatMap cI,1,w⟩){n:Nat}(hn:xs.length=n)(d:Nat):strip σ (d+1) (.rs b 0 n)=some (LI xs,[b]):=by
 rw[aQ,h];simp only[zk,yO,yY,yZ,qM];rw[sN (by omega),zl (by rw[qM];omega),aW (fun x=>by rw[ak,aP,aX];rfl)];show some (V.ts _ n,[b])=_;rw[<- hn]
theorem ahZ(a b i:Nat)(hb:b≠0):a / 1000000000^i%b=(a / 1000000000^(i+1)%b*1000000000+a / 1000000000^i%1000000000)%b/\a / b / 1000000000^i%1000000000=(a / 1000000000^(i+1)%b*1000000000+a / 1000000000^i%1000000000) / b:=by
 obtain⟨A,J⟩:∃A,A=a / 1000000000^(i+1):=⟨_,rfl⟩;obtain⟨D,G⟩:∃D,D=a / 1000000000^i%1000000000:=⟨_,rfl⟩;have h:=oL a i;rw[<- J,<- G]at h⊢;have Y:D<1000000000:=by rw[G];exact vM _ (by decide)
 have O:a / b / 1000000000^i=a / 1000000000^i / b:=by rw[wV,wV,wE]
 rw[O,<- h];have hA:A=b*(A / b)+A%b:=(Nat.div_add_mod A b).symm;obtain⟨q,eq⟩:∃q,q=A / b:=⟨_,rfl⟩;obtain⟨r,E⟩:∃r,r=A%b:=⟨_,rfl⟩;rw[<- eq,<- E]at hA;rw[<- E];have hr:r<b:=by rw[E];exact vM _ (by omega)
 have S:A*1000000000+D=r*1000000000+D+b*(q*1000000000):=by
  rw[hA,vP,uw];omega
 rw[S];constructor
 .rw[Nat.add_mul_mod_self_left]
 .rw[Nat.add_mul_div_left _ _ (by omega:0<b),Nat.add_mul_mod_self_right]
  refine wC ?_;rw[uN (by omega)];have:(r+1)*1000000000<=b*1000000000:=zK _ (by omega);omega
theorem ah0(a b:Nat)(h0:b≠0)(la:ln a<=1000)(lb:ln b<=1000):fn ZK conv ext 224 [LI (dg a),LI (dg b)]=some (.Bf [LI (dg (a / b)),LI (dg (a%b))]):=by
 have hb:=jT h0
 by_cases a5:b<1000000000
 .have h1:=ake a b (by show ln a<=_;omega) h0 a5
  have hr:a%b<b:=vM _ (by omega);have h2:=Nu (a%b) (by omega);have z1:(0:Int)<1:=by decide
  have z3:(0:Int).toNat=0:=id rfl;have hd:dg b=[(b:Int)]:=by rw[oM h0,uq a5,oJ,wC a5]
  rw[hd];rw[m_,mg [.tmp 4,.tmp 5] [] func224];simp only[go_sem,z1,z3,h1,h2]
 have b7:2<=ln b:=by
  refine zh fun hn=>?_
  have:=(jY (n:=b) (k:=1)).mp (by omega);have e:bp 1=1000000000:=rfl;omega
 have b8:((dg b).length:Int)≠1:=by unfold ln at b7;omega
 have c0:(((dg b).length:Int)==1)=false:=by simpa using b8
 obtain⟨N,eN⟩:∃N,N=ln a:=⟨_,rfl⟩;have hN:(dg a).length=N:=by rw[eN];rfl
 have e1:=jC N;have e2:8*(N:Int)<=281474976710656:=by omega
 have e3:(N:Int)<=9223372036854775807:=by omega
 have w1:=ZR (n:=(N:Int) - 1);have rz:=ayt N;rw[<- ahY (a / b) N]at rz;rw[m_,mg [.tmp 4,.tmp 5] [] func224];simp only[go_sem,c0,hN,e1,e2,e3,w1,rz,xJ];generalize hL:jI _ _=y;obtain⟨x,rfl,T,σ,nx,rfl,Y,t9,hs⟩:=jP hL (fun i st=>i<=N/\st.T 0=LI (dg a)/\st.T 1=LI (dg b)/\st.T 8= .rs 0 0 N/\st.T 10=I ((i:Int) - 1)/\0<st.nx/\(st.T 9=LI (dg (a / 1000000000^i%b))\/(st.T 9= .nil/\a / 1000000000^i%b=0))/\st.σ 0=some ⟨(Ee (a / b) N i).flatMap cI,1,true⟩)
  (fun x=>∃T σ nx,x=(.exit 0,⟨T,σ,nx⟩)/\T 8= .rs 0 0 N/\(T 9=LI (dg (a%b))\/(T 9= .nil/\a%b=0))/\σ 0=some ⟨(Ee (a / b) N 0).flatMap cI,1,true⟩) (by
   clear hL;rintro i ⟨T,σ,nx⟩ ⟨hi,t0,t1,Y,O,b9,t9,hs⟩;simp only at t0 t1 Y O b9 t9 hs;cases i with
   |zero=>
    have g1:¬(0:Int)<=((0:Nat):Int) - 1:=by omega
    refine .inr ⟨_,by simp only[go_sem,O,g1];rfl,by simp,_,_,_,rfl,by simp only[go_sem,Y],?_,hs⟩;have e:a / 1000000000^0%b=a%b:=by rw[Nat.pow_zero,vC]
    rw[e]at t9
    simpa only[go_sem]using t9
   |succ i=>
    have e4:((i+1:Nat):Int) - 1=(i:Int):=by omega
    rw[e4]at O;have g1:=jC i;have g2:(i:Int)<(N:Int):=by omega
    have g3:i<N:=by omega
    have b3:i<(dg a).length:=by omega
    have g4:((dg a).flatMap cI)[i]?=some (I ((a / 1000000000^i%1000000000:Nat):Int)):=by
     rw[idx (xs:=dg a) (k:=i) b3,oQ b3]
    have g5:(dg a).flatMap cI≠[]:=fun e=>by have h:=qM (dg a);rw[e]at h;have h:0=(dg a).length:=h;omega
    have g6:=ZR (n:=(i:Int) - 1);obtain⟨G,J⟩:=ahZ a b i h0;obtain⟨r,er⟩:∃r,r=a / 1000000000^(i+1)%b:=⟨_,rfl⟩;obtain⟨D,eD⟩:∃D,D=a / 1000000000^i%1000000000:=⟨_,rfl⟩;rw[<- er,<- eD]at G J;rw[<- er]at t9;rw[<- eD]at g4;have hD:D<1000000000:=by rw[eD];exact vM _ (by decide)
    have c5:r<b:=by rw[er];exact vM _ (by omega)
    obtain⟨R,eR⟩:∃R,R=r*1000000000+D:=⟨_,rfl⟩;rw[<- eR]at G J;have a6:ln r<=1000:=zT (jX (by omega)) lb;have c6:ln R<=1001:=by
     rw[jY];have h1:=(jY (n:=r) (k:=1000)).mp a6;have h2:bp 1001=1000000000*bp 1000:=qV 1000;omega
    have hR:R<b*1000000000:=by
     have:(r+1)*1000000000<=b*1000000000:=zK _ (by omega);omega
    have k3:=WE R b (by show ln R<=_;omega) (by show ln b<=_;omega);have S:=alI R b;have tr:Bv ((D:Int) :: dg r)=dg R:=CW (Dg.app (xs:=[(D:Int)]) (fun x hx=>by rw[xY]at hx;omega) (oU r)) (by
     show(D:Int)+1000000000*vl (dg r)=(R:Int);rw[Zd];omega)
    have sh:Short ((D:Int) :: dg r):=by unfold Short;rw[zW];unfold ln at a6;omega
    have k2:=KC ((D:Int) :: dg r) sh;rw[tr]at k2;have sg:b<=R->fn ZK conv ext 228 [LI (dg R),LI (dg b)]=some (I ((R / b:Nat):Int))/\fn ZK conv ext 217 [I ((R / b:Nat):Int)]=some (LI (dg (R / b)))/\fn ZK conv ext 206 [LI (dg b),LI (dg (R / b))]=some (LI (dg (b*(R / b))))/\fn ZK conv ext 223 [LI (dg R),LI (dg (b*(R / b)))]=some (LI (dg (R-b*(R / b)))):=fun hle=>by
     have hq:R / b<1000000000:=by rw[uN (by omega),wE];exact hR
     have lq:=jS hq;exact⟨alJ R b (by omega) hle hR (by omega),Nu _ (by omega),dJ b _ (by omega) (by omega),WG R _ (by omega) (by rw[wE];exact tK _ _)⟩
    have a4:R-b*(R / b)=R%b:=by have:=Nat.div_add_mod R b;omega
    have nz:¬0=nx:=by omega
    have b4:¬0=nx+1:=by omega
    by_cases a0:T 9= .nil\/r=0
    ·-- nothing stands behind the limb
     have a7:r=0:=by
      rcases a0 with h|h
      .rcases t9 with h'|⟨_,h'⟩
       .rw[h]at h';cases h'
       .exact h'
      .exact h
     have d0:dg r=[]:=by rw[a7,oJ]
     rw[d0]at k2;have b5:fn ZK conv ext 221 [.ts [I (D:Int)] 1]=some (LI (dg R)):=k2
     have h9:T 9= .nil\/T 9= .ts [] 0:=by
      rcases t9 with h|h
      .right;rw[h,d0];rfl
      .exact .inl h.1
     have ha:Aj (upd σ nx (some ⟨[I (D:Int)],1,true⟩)) (nx+1) 1 8 (.rs nx 0 1) [] 0=some (.rs nx 0 1,upd σ nx (some ⟨[I (D:Int)],1,true⟩),nx+1):=by
      have e:(upd σ nx (some ⟨[I (D:Int)],1,true⟩)) nx=some ⟨[I (D:Int)],1,true⟩:=Zi _ _ _;unfold Aj;simp only[e,if_true]
     have bh:behind (upd σ nx (some ⟨[I (D:Int)],1,true⟩)) [nx] (LI (dg R)) 0=some ⟨(Ee (a / b) N (i+1)).flatMap cI,1,true⟩:=by
      rw[Jy (by simp;omega),Zj _ _ nz];exact hs
     obtain⟨b6,e3⟩:∃b6,b6=behind (upd σ nx (some ⟨[I (D:Int)],1,true⟩)) [nx] (LI (dg R)):=⟨_,rfl⟩;rw[<- e3]at bh
     by_cases E:R<b
     .have c1:Bj R b<0:=S.mpr E
      have a8:R%b=R:=wC E;have a9:R / b=0:=uq E;rw[a8]at G;rw[a9]at J;rcases h9 with h9|h9
      all_goals
       refine .inl ⟨_,by simp only[go_sem,t0,t1,Y,O,h9,g1,g2,g3,g4,g5,g6,hN,ha,b5,<- e3,k3,c1,nz,b4,iW];rfl,i,by omega,?_⟩;simp only[go_sem,t0,t1,Y];refine⟨by omega,by omega,.inl (by rw[G]),?_⟩;rw[<- QY (by omega) J];exact bh
     .have c1:¬Bj R b<0:=fun h=>E (S.mp h)
      obtain⟨k4,k5,k6,k7⟩:=sg (by omega);rw[a4,<- G]at k7;have w8:((Ee (a / b) N (i+1)).flatMap cI).length=N:=by rw[qM,OA]
      have a1:((Ee (a / b) N (i+1)).flatMap cI).set i (I ((R / b:Nat):Int))=(Ee (a / b) N i).flatMap cI:=by
       rw[as3,<- J,OB (by omega)]
      rcases h9 with h9|h9
      all_goals
       refine .inl ⟨_,by simp only[go_sem,t0,t1,Y,O,h9,g1,g2,g3,g4,g5,g6,hN,ha,b5,<- e3,k3,c1,k4,k5,k6,k7,bh,w8,a1,nz,b4,iW];rfl,i,by omega,?_⟩;simp only[go_sem,t0,t1,Y];exact⟨by omega,by omega,.inl trivial⟩
    .have h9:T 9=LI (dg r):=by
      rcases t9 with h|⟨h,_⟩
      .exact h
      .exact absurd (.inl h) a0
     have a7:¬r=0:=fun h=>a0 (.inr h)
     have c2:¬(dg r).length=0:=fun h=>by
      have:=jT a7;unfold ln at this;omega
     have c4:(dg r).length<=1000:=a6;have ha:=rE (σ:=upd σ nx (some ⟨[I (D:Int)],1,true⟩)) (nx:=nx+1) (bytes:=8) (b:=nx) (len:=1) (m:=(dg r).length) (B:=⟨[I (D:Int)],1,true⟩) (row:=(dg r).flatMap cI) (Zi _ _ _) rfl rfl c2 (by unfold maxLen;omega) (by omega) (qN _);obtain⟨a2,e1⟩:∃a2,a2=upd (upd (upd σ nx (some ⟨[I (D:Int)],1,true⟩)) nx none) (nx+1) (some ⟨[I (D:Int)]++(dg r).flatMap cI,1,true⟩):=⟨_,rfl⟩;rw[<- e1]at ha;have b1:a2 (nx+1)=some ⟨((D:Int) :: dg r).flatMap cI,1,true⟩:=by rw[e1,Zi];rfl
     have b0:a2 0=some ⟨(Ee (a / b) N (i+1)).flatMap cI,1,true⟩:=by rw[e1,Zk,Zk,Zk];exact hs
     have s1:=fun d=>abg b1 (n:=1+(dg r).length) (by rw[zW];omega) d
     have tk:((dg r).flatMap cI).take (dg r).length=(dg r).flatMap cI:=zl (by rw[qM];omega);have a3:(dg r).length<=((dg r).flatMap cI).length:=by rw[qM];omega
     obtain⟨σ2,e2⟩:∃σ2,σ2=behind a2 [nx+1] (LI (dg R)):=⟨_,rfl⟩;have b2:σ2 0=some ⟨(Ee (a / b) N (i+1)).flatMap cI,1,true⟩:=by
      rw[e2,Jy (by simp)];exact b0
     by_cases E:R<b
     .have c1:Bj R b<0:=S.mpr E
      have a8:R%b=R:=wC E;have a9:R / b=0:=uq E;rw[a8]at G;rw[a9]at J;refine .inl ⟨_,by simp only[go_sem,t0,t1,Y,O,h9,g1,g2,g3,g4,g5,g6,hN,tk,a3,ha,s1,k2,<- e2,k3,c1];rfl,i,by omega,?_⟩;simp only[go_sem,t0,t1,Y];refine⟨by omega,by omega,.inl (by rw[G]),?_⟩;rw[<- QY (by omega) J];exact b2
     .have c1:¬Bj R b<0:=fun h=>E (S.mp h)
      obtain⟨k4,k5,k6,k7⟩:=sg (by omega);rw[a4,<- G]at k7;have w8:((Ee (a / b) N (i+1)).flatMap cI).length=N:=by rw[qM,OA]
      have a1:((Ee (a / b) N (i+1)).flatMap cI).set i (I ((R / b:Nat):Int))=(Ee (a / b) N i).flatMap cI:=by
       rw[as3,<- J,OB (by omega)]
      refine .inl ⟨_,by simp only[go_sem,t0,t1,Y,O,h9,g1,g2,g3,g4,g5,g6,hN,tk,a3,ha,s1,k2,<- e2,k3,c1,k4,k5,k6,k7,b2,w8,a1];rfl,i,by omega,?_⟩;simp only[go_sem,t0,t1,Y];exact⟨by omega,by omega,.inl trivial⟩) N (by
   simp only[go_sem];refine .inr ?_;have:a<1000000000^N:=by
    have:=(jY (n:=a) (k:=N)).mp (by omega);rw[qX]at this;omega
   rw[uq this,Nat.zero_mod])
 have s8:=fun d=>abg hs (n:=N) (OA _ _ _) d
 rw[aeZ]at s8;have k9:=KC (pad (a / b) N) (by unfold Short;rw[iJ];omega);have c3:a / b<1000000000^N:=by
  have:=(jY (n:=a) (k:=N)).mp (by omega);rw[qX]at this;have:=xA a b;omega
 rw[Iw N (a / b) c3]at k9;rcases t9 with t9|⟨t9,h9⟩
 .simp only[go_sem,Y,t9,s8,k9]
 .rw[h9,oJ]
  simp only[go_sem,Y,t9,s8,k9];rfl
theorem Uu{σ:Store}{ids:List Nat}{t:V}{b:Nat}{c:List V}{st:Nat}{wr:Bool}(h:σ b=some ⟨c,st,wr⟩):∃E,behind σ ids t b=some ⟨c,st,E⟩:=by
 have J:∀(ids:List Nat) {σ:Store} {wr:Bool},σ b=some ⟨c,st,wr⟩->∃E,DF σ ids b=some ⟨c,st,E⟩:=by
  intro ids
  induction ids with
  |nil=>intro σ wr h;exact⟨wr,h⟩
  |cons i ids G=>
   intro σ wr h;unfold DF
   by_cases e:b=i
   .subst e
    exact G (σ:=upd σ b ((σ b).map fun B=>{ B with wr:=false })) (wr:=false) (by rw[Zi,h];rfl)
   .exact G (wr:=wr) (by rw[Zj _ _ e];exact h)
 unfold behind
 split
 .exact⟨wr,h⟩
 .exact J ids h
def Rd(σ:Store)(v:V)(xs:List Int):Prop:=v=LI xs\/(v= .nil/\xs=[])\/∃b w,v= .rs b 0 xs.length/\σ b=some ⟨xs.flatMap cI,1,w⟩
theorem Rd.strip{σ:Store}{v:V}{xs:List Int}(h:Rd σ v xs):∃ids,∀d,TV.strip σ (d+1) v=some (LI xs,ids):=by
 rcases h with rfl|⟨rfl,rfl⟩|⟨b,w,rfl,h⟩
 .exact⟨[],fun d=>aK _ _ _ _⟩
 .exact⟨[],fun d=>aS _ _⟩
 .exact⟨[b],fun d=>abg h rfl d⟩
theorem Rd.len{P:Program}{σ:Store}{v:V}{xs:List Int}(h:Rd σ v xs){t:TypeId}(E:(Ae P t).slice=true):DR P t v=some (I xs.length):=by
 rcases h with rfl|⟨rfl,rfl⟩|⟨b,w,rfl,h⟩
 .exact VA E
 .exact nU E
 .exact nT E
theorem Rd.behind{σ:Store}{v:V}{xs:List Int}(h:Rd σ v xs)(ids:List Nat)(t:V):Rd (TV.behind σ ids t) v xs:=by
 rcases h with h|h|⟨b,w,E,G⟩
 .exact .inl h
 .exact .inr (.inl h)
 .obtain⟨w',J⟩:=Uu (ids:=ids) (t:=t) G
  exact .inr (.inr ⟨b,w',E,J⟩)
theorem amV(m n:Nat)(lm:ln m<=1000)(l2:ln n<=1000):fn ZK conv ext 214 [LI (dg m),LI (dg n)]=some (LI (dg (Nat.gcd m n))):=by
 obtain⟨G,eG⟩:∃G,G=Nat.gcd m n:=⟨_,rfl⟩;rw[<- eG];have hm:(dg m).length<=maxLen/\(dg m).length*8<=140737488355328:=by unfold ln at lm;unfold maxLen;omega
 have hn:(dg n).length<=maxLen/\(dg n).length*8<=140737488355328:=by unfold ln at l2;unfold maxLen;omega
 have z:∀k:Nat,(dg k).length=0↔k=0:=fun k=>by
  constructor
  .intro h
   refine zh fun h0=>?_
   have:=jT h0;unfold ln at this;omega
  .rintro rfl;rw[oJ];rfl
 rw[m_,mg [.tmp 4] [] func214];rcases (show(m=0/\n=0)\/(m=0/\¬n=0)\/(¬m=0/\n=0)\/(¬m=0/\¬n=0) by omega)with ⟨E,J⟩|⟨E,J⟩|⟨E,J⟩|⟨E,J⟩
 case' inl=>
  have dm:dg m=[]:=by rw[E,oJ]
  have dn:dg n=[]:=by rw[J,oJ]
  rw[dm,dn];simp only[go_sem]
 case' inr.inl=>
  have dm:dg m=[]:=by rw[E,oJ]
  have nn:¬(dg n).length=0:=fun h=>J ((z n).mp h)
  rw[dm];simp only[go_sem,nn,hn]
 case' inr.inr.inl=>
  have nm:¬(dg m).length=0:=fun h=>E ((z m).mp h)
  have dn:dg n=[]:=by rw[J,oJ]
  rw[dn];simp only[go_sem,nm,hm]
 case' inr.inr.inr=>
  have nm:¬(dg m).length=0:=fun h=>E ((z m).mp h)
  have nn:¬(dg n).length=0:=fun h=>J ((z n).mp h)
  simp only[go_sem,nm,hm,nn,hn]
 all_goals
  generalize hL:jI _ _=y;obtain⟨r,rfl,hr⟩:=jP hL (fun k st=>∃x:Nat,Rd st.σ (st.T 5) (dg x)/\Rd st.σ (st.T 6) (dg k)/\Nat.gcd x k=G/\ln x<=1000/\ln k<=1000)
   (fun r=>∃T σ nx,(r=(.exit 0,⟨T,σ,nx⟩)/\Rd σ (T 5) (dg G))\/(r=(.ret,⟨T,σ,nx⟩)/\T 4=LI (dg G))) (by
    clear hL;rintro k ⟨T,σ,nx⟩ ⟨x,S,h6,hg,lx,lk⟩;simp only at S h6;have Y:=h6.len (P:=ZK) (t:=29) (by kernel_rfl);have l5:=S.len (P:=ZK) (t:=29) (by kernel_rfl)
    by_cases hk:k=0
    .subst hk
     rw[oJ]at Y;have c1:¬(0:Int)<(([]:List Int).length:Int):=by simp
     refine .inr ⟨_,by simp only[go_sem,Y,c1];rfl,by simp,_,_,_,.inl ⟨rfl,?_⟩⟩;rw[Nat.gcd_zero_right]at hg;rw[<- hg]
     simpa only[go_sem]using S
    .have c1:(0:Int)<((dg k).length:Int):=by have:=jT hk;unfold ln at this;omega
     obtain⟨i5,s5⟩:=S.strip;obtain⟨i6,s6⟩:=h6.strip
     by_cases O:ln x<3/\ln k<3
     .have c2:((dg x).length:Int)<3:=by have:=O.1;unfold ln at this;omega
      have c3:((dg k).length:Int)<3:=by have:=O.2;unfold ln at this;omega
      have b1:x<1000000000000000000:=by
       have:=(jY (n:=x) (k:=2)).mp (by omega);have e:bp 2=1000000000000000000:=rfl;omega
      have b2:k<1000000000000000000:=by
       have:=(jY (n:=k) (k:=2)).mp (by omega);have e:bp 2=1000000000000000000:=rfl;omega
      have t1:=Ql x b1;have t2:=Ql k b2;have t3:=anN x k (by omega) (by omega);rw[hg]at t3;refine .inr ⟨_,by simp only[go_sem,l5,Y,c1,c2,c3,s5,s6,t1,t2,t3];rfl,by simp,_,_,_,.inr ⟨rfl,by simp only[go_sem]⟩⟩
     .have t4:=ah0 x k hk lx lk
      have a0:x%k<k:=vM _ (by omega)
      have fin:∀T' σ' nx',T' 5=T 6->T' 6=LI (dg (x%k))->σ'=behind σ (i5++i6) (.Bf [LI (dg (x / k)),LI (dg (x%k))]) ->
        ∃k',k'<k/\∃x':Nat,Rd (⟨T',σ',nx'⟩:St).σ ((⟨T',σ',nx'⟩:St).T 5) (dg x')/\Rd (⟨T',σ',nx'⟩:St).σ ((⟨T',σ',nx'⟩:St).T 6) (dg k')/\Nat.gcd x' k'=G/\ln x'<=1000/\ln k'<=1000:=fun T' σ' nx' e5 e6 a1=>by
       refine⟨x%k,a0,k,?_,.inl e6,?_,lk,zT (jX (by omega)) lk⟩
       .show Rd σ' (T' 5) (dg k)
        rw[e5,a1];exact h6.behind _ _
       .rw[<- hg,Nat.gcd_comm x k,Nat.gcd_rec k x,Nat.gcd_comm]
      by_cases c2:((dg x).length:Int)<3
      .have c3:¬((dg k).length:Int)<3:=fun h=>O ⟨by unfold ln;omega,by unfold ln;omega⟩
       refine .inl ⟨_,by simp only[go_sem,l5,Y,c1,c2,c3,s5,s6,t4];rfl,fin _ _ _ (by simp only[go_sem]) (by simp only[go_sem]) (by simp only[go_sem])⟩
      .refine .inl ⟨_,by simp only[go_sem,l5,Y,c1,c2,s5,s6,t4];rfl,fin _ _ _ (by simp only[go_sem]) (by simp only[go_sem]) (by simp only[go_sem])⟩) n (by
    refine⟨m,?_,?_,eG.symm,lm,l2⟩
    all_goals simp only[go_sem]
    all_goals first
     |exact .inr (.inl ⟨rfl,by assumption⟩)
     |exact .inr (.inr ⟨_,true,rfl,rfl⟩)
     |(refine .inr (.inr ⟨_,true,rfl,?_⟩);rw[Zk,Zi])
     |exact .inr (.inl ⟨rfl,by rw[E,oJ]⟩)
     |exact .inr (.inl ⟨rfl,by rw[J,oJ]⟩))
  rcases hr with ⟨T,σ,nx,⟨rfl,S⟩|⟨rfl,t4⟩⟩
  .obtain⟨ids,s5⟩:=S.strip
   simp only[go_sem,s5]
  .simp only[go_sem,t4]
end Go.Proofs.YtjjhejehbhbdeaaGreat
