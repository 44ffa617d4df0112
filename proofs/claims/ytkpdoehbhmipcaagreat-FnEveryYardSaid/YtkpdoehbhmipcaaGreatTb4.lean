import Derived.Test.YtkpdoehbhmipcaaGreatTb3
set_option linter.unusedSimpArgs false
set_option linter.unusedVariables false
set_option linter.unusedSectionVars false
set_option linter.defProp false
set_option maxRecDepth 10000
set_option maxHeartbeats 4000000
open Go.Proofs.Tryz renaming prog->ZL
open Go.Proofs.Tryz
open Bool renaming and_eq_true->zA,false_eq_true->yJ,and_false->wS,not_false->vU,not_true->um,false_and->ug
open Classical renaming byContradiction->zf
open Int renaming lt_irrefl->zk,toNat_natCast->zJ,tdiv_eq_ediv_of_nonneg->yG,le_refl->xA,natAbs_neg->vT,natAbs_mul_self->vS,mul_zero->vN
open List renaming getElem?_eq_getElem->zy,getD_eq_getElem?_getD->zx,getElem_mem->zu,length_append->zo,take_of_length_le->zl,length_take->zh,eq_nil_of_length_eq_zero->zZ,mem_cons_of_mem->zY,getElem?_append_left->zW,mem_cons->zV,flatMap_append->zT,length_map->zS,length_drop->zO,getElem?_append_right->zN,mem_cons_self->zM,flatMap_cons->zK,length_cons->zH,getElem?_map->zF,mem_append_left->zD,append_nil->zC,getElem?_eq_none->z_,mem_append_right->yw,append_assoc->yj,take_length->yg,not_mem_nil->yc,getElem_of_mem->yZ,drop_zero->yY,length_eraseIdx_of_lt->yV,length_replicate->yU,cons_append->yT,ext_getElem->yS,nil_append->yO,take_add_one->yM,length_singleton->yL,drop_of_length_le->xw,length_set->xu,getElem_map->xg,getElem_append_left->xY,nodup_cons->xW,getElem?_drop->xQ,replicate_succ->xO,getElem?_range->xM,set_append_right->xH,map_congr_left->xG,take_left'->wu,getElem?_replicate->wZ,getElem?_take->wX,length_nil->wR,map_append->wQ,mem_append->wP,all_eq_true->wO,range_succ->wJ,mem_of_mem_take->wH,getElem_set->wF,take_append_drop->wC,mem_singleton->w_,flatMap_nil->vg,replicate_append_replicate->vY,eraseIdx_eq_take_drop_succ->vX,getElem_append_right->vP,drop_append_of_le_length->vO,all_nil->uw,map_cons->uo,set_cons_zero->uf,getElem_range->uZ,take_append_of_le_length->uS,getElem_inj->uO,all_cons->uH,getElem_take->uG,length_range->uF,replicate_succ'->uD,mem_or_eq_of_mem_set->u_,getElem?_set_self->sZ,eraseIdx_sublist->sS
open Nat renaming le_refl->zq,not_lt_zero->zX,le_trans->zU,mul_le_mul_right->zL,zero_add->yX,mul_one->yQ,sub_self->yP,mul_le_mul->xq,succ_mul->xk,min_eq_left->xK,lt_of_lt_of_le->wz,div_le_self->wo,div_div_eq_div_mul->wW,div_one->wV,mul_comm->wB,mod_eq_of_lt->vw,zero_le->vV,mod_lt->vJ,add_mul->uz,mul_assoc->uj,div_eq_of_lt->uh,zero_mul->uX,pow_succ->uV,div_lt_iff_lt_mul->uK,le_div_iff_mul_le->uJ,mul_le_mul_left->tJ,div_mul_le_self->tC,le_mul_of_pos_left->sW
open Ne renaming symm->yu
open Option renaming bind_some->zi,map_some->zG,getD_some->xE
open Option.some renaming injEq->sO
open Prod.mk renaming injEq->sN
namespace Go.Proofs.YtkpdoehbhmipcaaGreat
open Go Go.TV Go.Lp
theorem nd4{bt br bb bf:Nat}{rb:List Nat}(h:(bt :: br :: bb :: bf :: rb).Nodup):bt≠br/\bt≠bb/\bt≠bf/\br≠bb/\br≠bf/\bb≠bf/\(∀b∈rb,b≠bt/\b≠br/\b≠bb/\b≠bf)/\rb.Nodup:=by
 simp only[xW,zV,not_or]at h;obtain⟨⟨J,O,S,Y⟩,⟨h5,h6,h7⟩,⟨h8,h9⟩,E,G⟩:=h;refine⟨J,O,S,h5,h6,h8,fun b hb=>⟨fun e=>Y (e ▸ hb),fun e=>h7 (e ▸ hb),fun e=>h9 (e ▸ hb),fun e=>E (e ▸ hb)⟩,G⟩
theorem fV{rb:List Nat}{ex:List V}{n i:Nat}(h:i<rb.length):(rb.map (fun b=>V.rs b 0 n)++ex)[i]?=some (.rs rb[i] 0 n):=by
 rw[zW (by simpa using h),zF,zy h];rfl
def F5(R:List (List Int))(P:List (List Int))(i j:Nat):List Int:=if j<i then DL P j else DL R j
theorem ahd{u p f v:Int}(hu:ln u.natAbs<=50)(hp:ln p.natAbs<=50)(E:ln f.natAbs<=50)(G:ln v.natAbs<=50) :
  ln (u*p).natAbs<=1000000/\ln (f*v).natAbs<=1000000/\ln (u*p-f*v).natAbs<=1000000:=by
 have J:=jW u p;have O:=jW f v;have S:=acj (u*p) (f*v);omega
theorem ahe{σ:Store}{nx bt br bb bf:Nat}{rb:List Nat}{D:TZ}{N:Nat}(h:Dn σ bt br bb bf rb D N)(hs:W9 D N)(c8:∀b∈bt :: br :: bb :: bf :: rb,b<nx){r k:Nat}(hr:r<D.R.length)(hk:k<N)(hp:en D.R r k≠0)(i1:D.A8≠0) :
  ∃σ' nx',ev ZL pI Ad 264 [.rp bt 0,I r,I k] σ nx=some (.AB [],σ',nx')/\Dn σ' bt br bb bf rb (FZ D r k) N/\nx<=nx'/\∀b,b<nx->b≠bt->b≠bb->b∉rb->σ' b=σ b:=by
 obtain⟨n1,n2,n3,n4,n5,n6,n7,n8⟩:=nd4 h.nd;have hN:=hs.sz;have hR:=hs.Gn;obtain⟨O9,e8⟩:=h.r;obtain⟨LJ,m6⟩:=h.b;have e9:=h.t;have hlen:=h.len;have Tm:=c8 bt (by simp);have Tn:=c8 br (by simp);have m7:=c8 bb (by simp);have m8:=c8 bf (by simp);have ER:∀j (E:j<rb.length),rb[j]<nx:=fun j E=>c8 _ (by simp[zu E])
 have h4:r<rb.length:=by omega
 obtain⟨bR,Ym⟩:∃bR,bR=rb[r]:=⟨_,rfl⟩;have m9:bR<nx:=by rw[Ym];exact ER r h4
 have nR:=n7 bR (by rw[Ym];exact zu h4);obtain⟨Lr,i2,j4,n0⟩:=h.row r h4;rw[<- Ym]at i2;have J:∀j,j<D.R.length->(DL D.R j).length=N+1:=fun j E=>by rw[dS E];exact hs.row _ (zu E)
 have n9:Lr.length=N+1:=by have:=congrArg List.length j4;rw[zS,J r hr]at this;exact this
 have ent:∀j c (E:j<D.R.length) (hc:c<N+1),(DL D.R j)[c]'(by rw[J j E];exact hc)=en D.R j c:=fun j c E hc=>by
  unfold en;rw[zx,zy];rfl
 have c9:∀c (hc:c<N+1),(Lr[c]'(by omega)).1=en D.R r c:=fun c hc=>by
  obtain⟨_,e⟩:=Qs j4 (c:=c) (by rw[J r hr];exact hc);rw[e,ent r c hr hc]
 have lz:∀c (hc:c<Lr.length),(Lr[c]).2=true->(Lr[c]).1=0:=fun c hc=>n0 _ (zu hc)
 have a1:=jD r;have a2:(r:Int)<(D.R.length:Int):=by omega
 have a3:=jD k;have a4:(k:Int)<((N+1:Nat):Int):=by omega
 have a5:=fV (ex:=O9) (n:=N+1) h4;rw[<- Ym]at a5;have a6:=d_ (c:=zc) (s:=2) ZO Lr k (by omega);have a7:=bZ (c:=zc) (s:=2) ZO Lr;rw[n9]at a7;have a8:k*2+2<=(N+1)*2:=by omega
 obtain⟨sp,h5⟩:∃sp,sp=upd σ nx (some ⟨zc Lr[k],0,true⟩):=⟨_,rfl⟩;have c3:∀b,b<nx->sp b=σ b:=fun b hb=>by rw[h5,Zm]
 have j5:sp nx=some ⟨zc Lr[k],0,true⟩:=by rw[h5,Zk]
 have j6:=(c3 bt Tm).trans e9;have j7:=(c3 br Tn).trans e8;rw[mg [] [10,12,13] func264];simp only[go_sem,e9,e8,i2,a1,a2,a3,a4,a5,a6,a7,a8,ZO,Zj,<- h5,j6,j7];generalize hL:dI _ _=y;have P0:=h_ D.R r k D.A8
 obtain⟨x,rfl,T1,b9,nI,rfl,t0,t1,t2,t7,p2,c4,j8,JH⟩:=oZ hL D.R.length (fun i st=>st.T 0= .rp bt 0/\st.T 1=I r/\st.T 2=I k/\st.T 6= .rs bR 0 (N+1)/\st.T 7= .rp nx 0/\st.T 30= .rs br 0 D.R.length/\st.T 31=I D.R.length/\st.T 32=I i/\nx<st.nx/\st.σ nx=some ⟨zc Lr[k],0,true⟩/\st.σ bR=some ⟨Lr.flatMap zc,2,true⟩ /\
   (∀j (E:j<rb.length),Em st.σ rb[j] (F5 D.R (Bq D.R r k D.A8) i j))/\∀b,b<nx->b∉rb->st.σ b=σ b)
  (fun x=>∃T σ' nx',x=(.exit 0,⟨T,σ',nx'⟩)/\T 0= .rp bt 0/\T 1=I r/\T 2=I k/\T 7= .rp nx 0/\nx<nx'/\σ' nx=some ⟨zc Lr[k],0,true⟩/\(∀j (E:j<rb.length),Em σ' rb[j] (DL (Bq D.R r k D.A8) j))/\∀b,b<nx->b∉rb->σ' b=σ b) (by
   clear hL;rintro i ⟨T,σ',nx'⟩ hi ⟨t0,t1,t2,t6,t7,t30,t31,t32,Y,sn,sR,rows,frame⟩;simp only at t0 t1 t2 t6 t7 t30 t31 t32 Y sn;have f1:(i:Int)<(D.R.length:Int):=by omega
   have f2:=jD i;have f3:=ZT (n:=(i:Int)+1);have b2:i<rb.length:=by omega
   obtain⟨bi,Fb⟩:∃bi,bi=rb[i]:=⟨_,rfl⟩;have p3:bi<nx:=by rw[Fb];exact ER i b2
   have ni:=n7 bi (by rw[Fb];exact zu b2);have f5:=fV (ex:=O9) (n:=N+1) b2;rw[<- Fb]at f5;have h6:σ' br=_:=(frame br Tn fun e=>(n7 br e).2.1 rfl).trans e8
   by_cases Yj:i=r
   .have c1:((i:Int)==(r:Int))=true:=by rw[Yj];simp
    refine .inl ⟨_,by simp only[go_sem,t0,t1,t2,t6,t7,t30,t31,t32,h6,f1,f2,f3,f5,c1];rfl,?_⟩;simp only[go_sem,t0,t1,t2,t6,t7,t30,t31];refine⟨rfl,Y,sn,sR,fun j E=>?_,frame⟩;have b4:=rows j E;unfold F5 at b4⊢
    by_cases b5:j<i
    .rw[sH b5]at b4
     rw[sH (by omega)];exact b4
    .rw[sJ b5]at b4
     by_cases p4:j=i
     .rw[sH (by omega),acr (by omega),sH (by omega)]
      exact b4
     .rw[sJ (by omega)]
      exact b4
   .have c1:((i:Int)==(r:Int))=false:=by rw[sG];omega
    have j9:bi≠bR:=fun e=>Yj (by rw[Fb,Ym]at e;exact(uO n8).mp e)
    obtain⟨G,Tq,GX,Tt⟩:=rows i b2;have h7:σ' bi=some ⟨G.flatMap zc,2,true⟩:=by rw[Fb];exact Tq
    have e0:F5 D.R (Bq D.R r k D.A8) i i=DL D.R i:=by unfold F5;rw[sJ (by omega)]
    rw[e0]at GX;have KR:G.length=N+1:=by have:=congrArg List.length GX;rw[zS,J i hi]at this;exact this
    have h9:∀c (hc:c<N+1),(G[c]'(by omega)).1=en D.R i c:=fun c hc=>by
     obtain⟨_,e⟩:=Qs GX (c:=c) (by rw[J i hi];exact hc);rw[e,ent i c hi hc]
    have iz:∀c (hc:c<G.length),(G[c]).2=true->(G[c]).1=0:=fun c hc=>Tt _ (zu hc)
    have b6:=d_ (c:=zc) (s:=2) ZO G k (by omega);have b7:=bZ (c:=zc) (s:=2) ZO G;rw[KR]at b7;obtain⟨s6,i3⟩:∃s6,s6=upd σ' nx' (some ⟨zc G[k],0,true⟩):=⟨_,rfl⟩;have b8:∀b,b<nx'->s6 b=σ' b:=fun b hb=>by rw[i3,Zm]
    have o0:s6 nx'=some ⟨zc G[k],0,true⟩:=by rw[i3,Zk]
    obtain⟨W,eW⟩:∃W,W=EN (en D.R r k) (en D.R i k) D.A8 (DL D.R i) (DL D.R r):=⟨_,rfl⟩;have o5:W.length=N+1:=by rw[eW,aaR _ _ _ (by rw[J i hi,J r hr]),J i hi]
    have S:W.length=G.length:=by omega
    have i4:∀c (hc:c<N+1),W[c]'(by omega)=(en D.R i c*en D.R r k-en D.R i k*en D.R r c).tdiv D.A8:=fun c hc=>by
     subst eW;rw[aaS _ _ _ (by rw[J i hi];exact hc) (by rw[J r hr];exact hc),ent i c hi hc,ent r c hr hc]
    refine bC ?_
    conv=>
     enter [1,r,1,1]
     simp only[go_sem,t0,t1,t2,t6,t7,t30,t31,t32,h6,f1,f2,f5,c1,h7,a3,a4,a8,b6,b7,Zj,<- i3]
    generalize hL:dI _ _=z
    obtain⟨x,rfl,T1,σ2,BX,rfl,t0,t1,t2,t6,t7,t30,t31,t32,p5,FK,FH⟩:=oZ hL (N+1) (fun c st=>st.T 0= .rp bt 0/\st.T 1=I r/\st.T 2=I k/\st.T 6= .rs bR 0 (N+1)/\st.T 7= .rp nx 0/\st.T 30= .rs br 0 D.R.length/\st.T 31=I D.R.length/\st.T 32=I i/\st.T 9= .rs bi 0 (N+1)/\st.T 10= .rp nx' 0/\st.T 45=I ((N+1:Nat):Int)/\st.T 46=I c/\nx'<st.nx /\
      (∀b,b<=nx'->b≠bi->st.σ b=s6 b)/\st.σ bi=some ⟨(newR W G c).flatMap zc,2,true⟩)
     (fun x=>∃T O_ k0,x=(.exit 2,⟨T,O_,k0⟩)/\T 0= .rp bt 0/\T 1=I r/\T 2=I k/\T 6= .rs bR 0 (N+1)/\T 7= .rp nx 0/\T 30= .rs br 0 D.R.length/\T 31=I D.R.length/\T 32=I i/\nx'<k0/\(∀b,b<=nx'->b≠bi->O_ b=s6 b)/\Em O_ bi W) (by
      clear hL;rintro c ⟨T,σ2,m0⟩ hc ⟨t0,t1,t2,t6,t7,t30,t31,t32,t9,t10,t45,t46,b3,FK,FH⟩;simp only at t0 t1 t2 t6 t7 t30 t31 t32 t9 t10 t45 t46 b3 FH;have g1:(c:Int)<((N+1:Nat):Int):=by omega
      have g2:=jD c;have g3:=ZT (n:=(c:Int)+1);have g4:=d_ (c:=zc) (s:=2) ZO (newR W G c) c (by rw[jC S (by omega)];omega);rw[Xf S (by omega)]at g4;have g5:=bZ (c:=zc) (s:=2) ZO (newR W G c);rw[jC S (by omega),KR]at g5;have g6:c*2+2<=(N+1)*2:=by omega
      have g7:=d_ (c:=zc) (s:=2) ZO Lr c (by omega);have z1:∀σ d,stripL (strip σ d) (zc G[c])=some (cZ (en D.R i c),[]):=fun σ d=>by rw[ZN σ d (iz c (by omega)),h9 c (by omega)]
      have z2:∀σ d,stripL (strip σ d) (zc Lr[k])=some (cZ (en D.R r k),[]):=fun σ d=>by rw[ZN σ d (lz k (by omega)),c9 k (by omega)]
      have z3:∀σ d,stripL (strip σ d) (zc G[k])=some (cZ (en D.R i k),[]):=fun σ d=>by rw[ZN σ d (iz k (by omega)),h9 k (by omega)]
      have z4:∀σ d,stripL (strip σ d) (zc Lr[c])=some (cZ (en D.R r c),[]):=fun σ d=>by rw[ZN σ d (lz c (by omega)),c9 c (by omega)]
      have e1:σ2 bt=_:=(FK bt (by omega) (yu ni.1)).trans ((b8 bt (by omega)).trans ((frame bt Tm fun e=>(n7 bt e).1 rfl).trans e9));have e3:σ2 nx=_:=(FK nx (by omega) (by omega)).trans ((b8 nx (by omega)).trans sn);have e4:σ2 nx'=_:=(FK nx' (zq _) (by omega)).trans o0;have e5:σ2 bR=_:=(FK bR (by omega) (yu j9)).trans ((b8 bR (by omega)).trans sR);have d1:¬bt=m0:=by omega
      have d3:¬nx=m0:=by omega
      have d4:¬nx'=m0:=by omega
      have d5:¬bR=m0:=by omega
      have d6:¬bi=m0:=by omega
      have l1:bt<m0+1:=by omega
      have l3:nx<m0+1:=by omega
      have l4:nx'<m0+1:=by omega
      have l5:bR<m0+1:=by omega
      have l6:bi<m0+1:=by omega
      have l7:m0<m0+1:=by omega
      have l8:bi<m0:=by omega
      have l9:nx<m0:=by omega
      have i5:nx'<m0:=by omega
      have i6:bR<m0:=by omega
      have i7:bt<m0:=by omega
      have u1:=hs.big i c (by omega) (by omega);have u2:=hs.big r k hr (by omega);have u3:=hs.big i k (by omega) (by omega);have u4:=hs.big r c hr (by omega);obtain⟨v1,v2,v3⟩:=ahd (u:=en D.R i c) (p:=en D.R r k) (f:=en D.R i k) (v:=en D.R r c) u1 u2 u3 u4;have k1:=kL (en D.R i c) (en D.R r k) (by omega) (by omega);have k2:=jy (en D.R i k);have k3:=jy (en D.R r c);have k4:=kL (en D.R i k) (en D.R r c) (by omega) (by omega);have k5:=abY (en D.R i c*en D.R r k) (en D.R i k*en D.R r c) v1 v2;have s2:=Ti (en D.R i k);have s3:=Ti (en D.R r c);have p6:=hs.A8;have fin:∀y:Int,y=W[c]'(by omega)->patch ((newR W G c).flatMap zc) (c*2) (cZ y)=(newR W G (c+1)).flatMap zc:=fun y hy=>by
       rw[<- acp,iF ZO _ _ (by rw[jC S (by omega)];omega),hy,NQ S (by omega)]
      have wv:=i4 c hc
      by_cases i9:en D.R i k=0
      .rw[sF i9,um]at s2
       have k6:fn ZL pI Ad 284 [.agg (cZ (en D.R i c*en D.R r k)),.agg [Bo (decide (D.A8<0)),LI (dg D.A8.natAbs)]]=_:=NH (en D.R i c*en D.R r k) D.A8 v1 (by omega) i1;have c6:=fin ((en D.R i c*en D.R r k).tdiv D.A8) (by rw[wv,i9,Int.zero_mul,Int.sub_zero]);refine .inl ⟨_,by simp only[go_sem,t0,t1,t2,t6,t7,t9,t10,t45,t46,FH,e1,e3,e4,e5,a3,a4,a8,g1,g2,g3,g4,g5,g6,g7,z1,z2,z3,z4,d1,d3,d4,d5,d6,l1,l3,l4,l5,l6,l7,l8,l9,i5,i6,i7,k1,k2,s2,k6,c6,Zj];rfl,?_⟩;simp only[go_sem,t0,t1,t2,t6,t7,t30,t31,t32,t9,t10,t45];refine⟨rfl,by omega,fun b hb O=>?_⟩;rw[Zl _ _ O,Zm];exact FK b hb O
      .rw[sD i9,vU]at s2
       by_cases j0:en D.R r c=0
       .rw[sF j0,um]at s3
        have k6:fn ZL pI Ad 284 [.agg (cZ (en D.R i c*en D.R r k)),.agg [Bo (decide (D.A8<0)),LI (dg D.A8.natAbs)]]=_:=NH (en D.R i c*en D.R r k) D.A8 v1 (by omega) i1;have c6:=fin ((en D.R i c*en D.R r k).tdiv D.A8) (by rw[wv,j0,vN,Int.sub_zero]);refine .inl ⟨_,by simp only[go_sem,t0,t1,t2,t6,t7,t9,t10,t45,t46,FH,e1,e3,e4,e5,a3,a4,a7,a8,g1,g2,g3,g4,g5,g6,g7,z1,z2,z3,z4,d1,d3,d4,d5,d6,l1,l3,l4,l5,l6,l7,l8,l9,i5,i6,i7,k1,k2,s2,k3,s3,k6,c6,Zj];rfl,?_⟩;simp only[go_sem,t0,t1,t2,t6,t7,t30,t31,t32,t9,t10,t45];refine⟨rfl,by omega,fun b hb O=>?_⟩;rw[Zl _ _ O,Zm];exact FK b hb O
       .rw[sD j0,vU]at s3
        have k6:fn ZL pI Ad 284 [.agg (cZ (en D.R i c*en D.R r k-en D.R i k*en D.R r c)),.agg [Bo (decide (D.A8<0)),LI (dg D.A8.natAbs)]]=_:=NH (en D.R i c*en D.R r k-en D.R i k*en D.R r c) D.A8 v3 (by omega) i1;have c6:=fin ((en D.R i c*en D.R r k-en D.R i k*en D.R r c).tdiv D.A8) wv.symm;refine .inl ⟨_,by simp only[go_sem,t0,t1,t2,t6,t7,t9,t10,t45,t46,FH,e1,e3,e4,e5,a3,a4,a7,a8,g1,g2,g3,g4,g5,g6,g7,z1,z2,z3,z4,d1,d3,d4,d5,d6,l1,l3,l4,l5,l6,l7,l8,l9,i5,i6,i7,k1,k2,s2,k3,s3,k4,k5,k6,c6,Zj];rfl,?_⟩;simp only[go_sem,t0,t1,t2,t6,t7,t30,t31,t32,t9,t10,t45];refine⟨rfl,by omega,fun b hb O=>?_⟩;rw[Zl _ _ O,Zm];exact FK b hb O) (by
      clear hL;rintro ⟨T,σ2,m0⟩ ⟨t0,t1,t2,t6,t7,t30,t31,t32,t9,t10,t45,t46,b3,FK,FH⟩;simp only at t0 t1 t2 t6 t7 t30 t31 t32 t9 t10 t45 t46 b3 FH;refine⟨_,by simp only[go_sem,t45,t46,zk];rfl,by simp,_,_,_,rfl,?_⟩;simp only[go_sem,t0,t1,t2,t6,t7,t30,t31,t32];exact⟨b3,FK,Xg S (by rw[KR];exact FH)⟩) (by
      simp only[go_sem,t0,t1,t2,t6,t7,t30,t31,t32];refine⟨by omega,fun _ _ _=>trivial,?_⟩;rw[JG,b8 bi (by omega)];exact h7)
    refine⟨_,by simp only[go_sem,t32,f3];rfl,.inl ⟨_,rfl,?_⟩⟩;simp only[go_sem,t0,t1,t2,t6,t7,t30,t31];refine⟨rfl,by omega,?_,?_,fun j E=>?_,fun b hb hn=>?_⟩
    .exact(FK nx (by omega) (by omega)).trans ((b8 nx (by omega)).trans sn)
    .exact(FK bR (by omega) (yu j9)).trans ((b8 bR (by omega)).trans sR)
    .by_cases b5:j=i
     .subst b5
      rw[<- Fb];unfold F5;rw[sH (by omega),acr (by omega),sJ Yj,<- eW];exact FH
     .have O:rb[j]≠bi:=fun e=>b5 (by rw[Fb]at e;exact(uO n8).mp e)
      have:=ER j E;have e2:F5 D.R (Bq D.R r k D.A8) (i+1) j=F5 D.R (Bq D.R r k D.A8) i j:=by
       unfold F5
       by_cases hq:j<i
       .rw[sH hq,sH (by omega)]
       .rw[sJ hq,sJ (by omega)]
      rw[e2];exact(rows j E).congr ((FK _ (by omega) O).trans (b8 _ (by omega)))
    .exact(FK b (by omega) fun e=>hn (by rw[e,Fb];exact zu b2)).trans ((b8 b (by omega)).trans (frame b hb hn))) (by
   clear hL;rintro ⟨T,σ',nx'⟩ ⟨t0,t1,t2,t6,t7,t30,t31,t32,Y,sn,sR,rows,frame⟩;simp only at t0 t1 t2 t6 t7 t30 t31 t32 Y sn;refine⟨_,by simp only[go_sem,t31,t32,zk];rfl,by simp,_,_,_,rfl,?_⟩;simp only[go_sem,t0,t1,t2,t7];refine⟨Y,sn,fun j E=>?_,frame⟩;have:=rows j E;unfold F5 at this;rw[sH (by omega)]at this;exact this) (by
   simp only[go_sem];refine⟨by omega,j5,(c3 bR m9).trans i2,fun j E=>?_,fun b hb _=>c3 b hb⟩;unfold F5;rw[sJ (by omega)];exact(h.row j E).congr (c3 _ (ER j E)))
 have o6:zc Lr[k]=cZ (en D.R r k):=by
  have e1:=c9 k (by omega);have e2:=lz k (by omega);generalize Lr[k]=q at e1 e2;obtain⟨z,b⟩:=q;simp only at e1 e2;subst e1;cases b with
  |false=>rfl
  |true=>exact absurd (e2 rfl) hp
 rw[o6]at c4;obtain⟨p,ep⟩:∃p,p=en D.R r k:=⟨_,rfl⟩;rw[<- ep]at c4 hp;have e1:b9 bt=_:=(JH bt Tm fun e=>(n7 bt e).1 rfl).trans e9;have e2:b9 bb=_:=(JH bb m7 fun e=>(n7 bb e).2.2.1 rfl).trans m6;have e3:b9 br=_:=(JH br Tn fun e=>(n7 br e).2.1 rfl).trans e8;have e4:b9 bf=_:=(JH bf m8 fun e=>(n7 bf e).2.2.2 rfl).trans h.f;have hB:(BR D.B).length=D.R.length:=by rw[aA];exact hs.Bc
 have m1:r<((BR D.B).flatMap cI++LJ).length:=by rw[zo,qL];omega
 have m2:((BR D.B).flatMap cI++LJ).set r (I k)=(BR (D.B.set r k)).flatMap cI++LJ:=by
  rw[List.set_append_left _ _ (by rw[qL];omega),qK];unfold BR;rw[List.map_set]
 have m3:∀a b c d e f:V,patch [a,b,c,d,e,f] 1 (cZ p)=[a,Bo (decide (p<0)),LI (dg p.natAbs),d,e,f]:=fun _ _ _ _ _ _=>rfl
 have m4:∀a b c d e f:V,patch [a,b,c,d,e,f] 1 (cZ (-p))=[a,Bo (decide (-p<0)),LI (dg (-p).natAbs),d,e,f]:=fun _ _ _ _ _ _=>rfl
 have d1:¬bt=nx:=by omega
 have d2:¬bb=nx:=by omega
 have d3:¬nx=bt:=by omega
 have d4:¬nx=bb:=by omega
 have d5:¬bb=bt:=fun e=>n2 e.symm
 have d6:¬bt=bb:=n2;have d7:¬br=bt:=fun e=>n1 e.symm
 have d8:¬br=bb:=n4;have k1:=jy p;obtain⟨s1,c5⟩:∃s1,s1=upd (upd b9 bt (some ⟨[.rs br 0 D.R.length,Bo (decide (p<0)),LI (dg p.natAbs),.rs bb 0 D.R.length,I N,.rs bf 0 N],0,true⟩)) bb (some ⟨(BR (D.B.set r k)).flatMap cI++LJ,1,true⟩):=⟨_,rfl⟩;have k7:s1 bt=some ⟨[.rs br 0 D.R.length,Bo (decide (p<0)),LI (dg p.natAbs),.rs bb 0 D.R.length,I N,.rs bf 0 N],0,true⟩:=by rw[c5,Zl _ _ d6,Zk]
 have c0:∀b,b≠bt->b≠bb->s1 b=b9 b:=fun b h1 h2=>by rw[c5,Zl _ _ h2,Zl _ _ h1]
 have k8:s1 bb=some ⟨(BR (D.B.set r k)).flatMap cI++LJ,1,true⟩:=by rw[c5,Zk]
 have j1:s1 nx=some ⟨cZ p,0,true⟩:=(c0 nx d3 d4).trans c4;have k9:s1 br=_:=(c0 br d7 d8).trans e3;have l2:∀j (E:j<rb.length),s1 rb[j]=b9 rb[j]:=fun j E=>by
  have:=n7 rb[j] (zu E);exact c0 _ this.1 this.2.2.1
 have pz:FZ D r k=if 0<p then ⟨Bq D.R r k D.A8,p,D.B.set r k,D.fr⟩else ⟨negR (Bq D.R r k D.A8),-p,D.B.set r k,D.fr⟩:=by unfold FZ;rw[ep]
 by_cases i0:0<p
 .have c1:Am p 0=1:=by unfold Am;rw[sJ (by omega),sJ (by omega)]
  rw[c1]at k1;have c2:(0:Int)<1:=by decide
  refine⟨s1,nI,by simp only[go_sem,t0,t1,t2,t7,e1,e2,c4,a1,a2,m1,m2,m3,d1,d2,d3,d4,d5,d6,k1,c2,<- c5,j1],?_,by omega,fun b hb h1 h2 h3=>by rw[c0 b h1 h2];exact JH b hb h3⟩;rw[pz,sH i0];have pl:(Bq D.R r k D.A8).length=D.R.length:=P0;refine⟨by show s1 bt=some ⟨[.rs br 0 (Bq D.R r k D.A8).length,_,_,.rs bb 0 (Bq D.R r k D.A8).length,_,_],0,true⟩;rw[pl];exact k7,⟨O9,k9⟩,fun j E=>(j8 j E).congr (l2 j E),⟨LJ,k8⟩,?_,by show rb.length=(Bq D.R r k D.A8).length;omega,h.nd⟩;rw[c0 bf (yu n3) (yu n6)];exact e4
 .have c1:Am p 0= -1:=by unfold Am;rw[sH (by omega)]
  rw[c1]at k1;have c2:¬(0:Int)< -1:=by decide
  have k2:=kC p;obtain⟨s2,h8⟩:∃s2,s2=upd s1 bt (some ⟨[.rs br 0 D.R.length,Bo (decide (-p<0)),LI (dg (-p).natAbs),.rs bb 0 D.R.length,I N,.rs bf 0 N],0,true⟩):=⟨_,rfl⟩;have m5:s2 bt=some ⟨[.rs br 0 D.R.length,Bo (decide (-p<0)),LI (dg (-p).natAbs),.rs bb 0 D.R.length,I N,.rs bf 0 N],0,true⟩:=by rw[h8,Zk]
  have e6:∀b,b≠bt->s2 b=s1 b:=fun b h1=>by rw[h8,Zl _ _ h1]
  have j2:s2 br=_:=(e6 br d7).trans k9;have pl:(Bq D.R r k D.A8).length=D.R.length:=P0;have o7:∀x∈Bq D.R r k D.A8,x.length=N+1:=Nv hs.row hr _;have nl:(negR (Bq D.R r k D.A8)).length=D.R.length:=by rw[Ns,pl]
  have j3:∀j,j<D.R.length->(DL (Bq D.R r k D.A8) j).length=N+1:=fun j E=>by rw[dS (by omega)];exact o7 _ (zu (by omega))
  have p0:∀j,j<D.R.length->DL (negR (Bq D.R r k D.A8)) j=(DL (Bq D.R r k D.A8) j).map fun z=> -z:=fun j E=>by
   rw[dS (by omega),dS (by omega)];unfold negR;rw[xg]
  have p1:∀b,b<nx->b≠bt->b≠bb->b∉rb->s2 b=σ b:=fun b h0 h1 h2 h3=>by rw[e6 b h1,c0 b h1 h2];exact JH b h0 h3
  rw[<- and_true (∃σ' nx',_)];refine⟨?_,trivial⟩;simp only[go_sem,t0,t1,t2,t7,e1,e2,c4,a1,a2,m1,m2,m3,d1,d2,d3,d4,d5,d6,k1,c2,<- c5,j1,k7,k2,m4,<- h8,m5,j2];clear k1 k2 m3 m4 c5 h8 c4 e1 e2 e3 j1 j5 c3 h5 t0 t1 t2 t7 j6 j7 a5 a6 a7;generalize hL:dI _ _=y;obtain⟨x,rfl,T2,σ2,rfl,Ey,NR⟩:=oZ hL D.R.length (fun i st=>st.T 107= .rs br 0 D.R.length/\st.T 108=I D.R.length/\st.T 109=I i/\st.nx=nI/\(∀j (E:j<rb.length),Em st.σ rb[j] (F5 (Bq D.R r k D.A8) (negR (Bq D.R r k D.A8)) i j))/\∀b,b∉rb->st.σ b=s2 b)
   (fun x=>∃T σ',x=(.exit 4,⟨T,σ',nI⟩)/\(∀j (E:j<rb.length),Em σ' rb[j] (DL (negR (Bq D.R r k D.A8)) j))/\∀b,b∉rb->σ' b=s2 b) (by
    clear hL;rintro i ⟨T,σ',nx'⟩ hi ⟨t0,t1,t2,Y,rows,frame⟩;simp only at t0 t1 t2 Y;subst Y;have f1:(i:Int)<(D.R.length:Int):=by omega
    have f2:=jD i;have f3:=ZT (n:=(i:Int)+1);have b2:i<rb.length:=by omega
    obtain⟨bi,Fb⟩:∃bi,bi=rb[i]:=⟨_,rfl⟩;have ni:=n7 bi (by rw[Fb];exact zu b2);have f5:=fV (ex:=O9) (n:=N+1) b2;rw[<- Fb]at f5;have h6:σ' br=_:=(frame br fun e=>(n7 br e).2.1 rfl).trans j2;obtain⟨G,Tq,GX,Tt⟩:=rows i b2;have h7:σ' bi=some ⟨G.flatMap zc,2,true⟩:=by rw[Fb];exact Tq
    have e0:F5 (Bq D.R r k D.A8) (negR (Bq D.R r k D.A8)) i i=DL (Bq D.R r k D.A8) i:=by unfold F5;rw[sJ (by omega)]
    rw[e0]at GX;have KR:G.length=N+1:=by have:=congrArg List.length GX;rw[zS,j3 i hi]at this;exact this
    have iz:∀c (hc:c<G.length),(G[c]).2=true->(G[c]).1=0:=fun c hc=>Tt _ (zu hc)
    obtain⟨W,eW⟩:∃W,W=(DL (Bq D.R r k D.A8) i).map fun z=> -z:=⟨_,rfl⟩
    have o5:W.length=N+1:=by rw[eW,zS,j3 i hi]
    have S:W.length=G.length:=by omega
    have i4:∀c (hc:c<N+1),W[c]'(by omega)= -(G[c]'(by omega)).1:=fun c hc=>by
     subst eW;obtain⟨_,e⟩:=Qs GX (c:=c) (by rw[j3 i hi];exact hc);rw[xg,e]
    refine bC ?_
    conv=>
     enter [1,r,1,1]
     simp only[go_sem,t0,t1,t2,h6,f1,f2,f5]
    generalize hL:dI _ _=z
    obtain⟨x,rfl,T1,σ2,rfl,t0,t1,t2,FK,FH⟩:=oZ hL (N+1) (fun c st=>st.T 107= .rs br 0 D.R.length/\st.T 108=I D.R.length/\st.T 109=I i/\st.T 14= .rs bi 0 (N+1)/\st.T 114=I ((N+1:Nat):Int)/\st.T 115=I c/\st.nx=nx' /\
      (∀b,b≠bi->st.σ b=σ' b)/\st.σ bi=some ⟨(newR W G c).flatMap zc,2,true⟩)
     (fun x=>∃T O_,x=(.exit 6,⟨T,O_,nx'⟩)/\T 107= .rs br 0 D.R.length/\T 108=I D.R.length/\T 109=I i/\(∀b,b≠bi->O_ b=σ' b)/\Em O_ bi W) (by
      clear hL;rintro c ⟨T,σ2,m0⟩ hc ⟨t0,t1,t2,t14,c7,e7,b3,FK,FH⟩;simp only at t0 t1 t2 t14 c7 e7 b3 FH;subst b3;have g1:(c:Int)<((N+1:Nat):Int):=by omega
      have g2:=jD c;have g3:=ZT (n:=(c:Int)+1);have g4:=d_ (c:=zc) (s:=2) ZO (newR W G c) c (by rw[jC S (by omega)];omega);rw[Xf S (by omega)]at g4;have g5:=bZ (c:=zc) (s:=2) ZO (newR W G c);rw[jC S (by omega),KR]at g5;have g6:c*2+2<=(N+1)*2:=by omega
      have z1:∀σ d,stripL (strip σ d) (zc G[c])=some (cZ (G[c]).1,[]):=fun σ d=>ZN σ d (iz c (by omega))
      have k1:=kC (G[c]).1;have c6:patch ((newR W G c).flatMap zc) (c*2) (cZ (-(G[c]).1))=(newR W G (c+1)).flatMap zc:=by
       rw[<- acp,iF ZO _ _ (by rw[jC S (by omega)];omega),<- i4 c hc,NQ S (by omega)]
      refine .inl ⟨_,by simp only[go_sem,t0,t1,t2,t14,c7,e7,FH,g1,g2,g3,g4,g5,g6,z1,k1,c6];rfl,?_⟩;simp only[go_sem,t0,t1,t2,t14,c7];refine⟨rfl,fun b O=>?_⟩;rw[Zl _ _ O];exact FK b O) (by
      clear hL;rintro ⟨T,σ2,m0⟩ ⟨t0,t1,t2,t14,c7,e7,b3,FK,FH⟩;simp only at t0 t1 t2 t14 c7 e7 b3 FH;subst b3;refine⟨_,by simp only[go_sem,c7,e7,zk];rfl,by simp,_,_,rfl,?_⟩;simp only[go_sem,t0,t1,t2];exact⟨FK,Xg S (by rw[KR];exact FH)⟩) (by
      simp only[go_sem,t0,t1,t2];refine⟨fun _ _=>trivial,?_⟩;rw[JG];exact h7)
    refine⟨_,by simp only[go_sem,t2,f3];rfl,.inl ⟨_,rfl,?_⟩⟩;simp only[go_sem,t0,t1];refine⟨rfl,fun j E=>?_,fun b hn=>?_⟩
    .by_cases b5:j=i
     .subst b5
      rw[<- Fb];unfold F5;rw[sH (by omega),p0 j (by omega),<- eW];exact FH
     .have O:rb[j]≠bi:=fun e=>b5 (by rw[Fb]at e;exact(uO n8).mp e)
      have e2:F5 (Bq D.R r k D.A8) (negR (Bq D.R r k D.A8)) (i+1) j=F5 (Bq D.R r k D.A8) (negR (Bq D.R r k D.A8)) i j:=by
       unfold F5
       by_cases hq:j<i
       .rw[sH hq,sH (by omega)]
       .rw[sJ hq,sJ (by omega)]
      rw[e2];exact(rows j E).congr (FK _ O)
    .exact(FK b fun e=>hn (by rw[e,Fb];exact zu b2)).trans (frame b hn)) (by
    clear hL;rintro ⟨T,σ',nx'⟩ ⟨t0,t1,t2,Y,rows,frame⟩;simp only at t0 t1 t2 Y;subst Y;refine⟨_,by simp only[go_sem,t1,t2,zk];rfl,by simp,_,_,rfl,fun j E=>?_,frame⟩;have:=rows j E;unfold F5 at this;rw[sH (by omega)]at this;exact this) (by
    simp only[go_sem];refine⟨fun j E=>?_,fun _ _=>trivial⟩;unfold F5;rw[sJ (by omega)];exact(j8 j E).congr ((e6 _ (n7 _ (zu E)).1).trans (l2 j E)))
  refine⟨σ2,nI,by simp only[go_sem],?_,by omega,fun b hb h1 h2 h3=>by rw[NR b h3];exact p1 b hb h1 h2 h3⟩;rw[pz,sJ i0];have o1:bt∉rb:=fun e=>(n7 bt e).1 rfl
  have o2:br∉rb:=fun e=>(n7 br e).2.1 rfl
  have o3:bb∉rb:=fun e=>(n7 bb e).2.2.1 rfl
  have o4:bf∉rb:=fun e=>(n7 bf e).2.2.2 rfl
  refine⟨by show σ2 bt=some ⟨[.rs br 0 (negR (Bq D.R r k D.A8)).length,_,_,.rs bb 0 (negR (Bq D.R r k D.A8)).length,_,_],0,true⟩;rw[nl,NR bt o1];exact m5,⟨O9,by rw[NR br o2];exact j2⟩,Ey,⟨LJ,by rw[NR bb o3,e6 bb d5];exact k8⟩,?_,by show rb.length=(negR (Bq D.R r k D.A8)).length;omega,h.nd⟩;rw[NR bf o4,e6 bf (yu n3),c0 bf (yu n3) (yu n6)];exact e4
theorem au{f:V->Option (V×List Nat)}:∀ {a b E b':List V} {i j:List Nat},stripL f a=some (E,i)->stripL f b=some (b',j)->stripL f (a++b)=some (E++b',i++j)
 |[],b,E,b',i,j,h,h'=>by
  rw[aX]at h;simp only[sO,sN]at h;obtain⟨rfl,rfl⟩:=h;exact h'
 |v :: a,b,E,b',i,j,h,h'=>by
  rw[ah]at h;cases G:f v with
  |none=>rw[G]at h;cases h
  |some p=>
   cases ha:stripL f a with
   |none=>rw[G,ha]at h;cases h
   |some q=>
    rw[G,ha]at h;simp only[zi,zG,sO,sN]at h;obtain⟨rfl,rfl⟩:=h;rw[yT,ah,G,au ha h'];simp
theorem Xh(σ:Store)(d:Nat):∀L:List (Int×Bool),(∀p∈L,p.2=true->p.1=0)->stripL (strip σ d) (L.flatMap zc)=some ((L.map (·.1)).flatMap cZ,[])
 |[],_=>rfl
 |p :: L,h=>by
  rw[zK,uo,zK];have:=au (ZN σ d (h p zM)) (Xh σ d L fun q E=>h q (zY _ E));exact this
theorem aez{σ:Store}{b n:Nat}{G:List Int}(h:Em σ b G)(J:G.length=n)(d:Nat):strip σ (d+1) (.rs b 0 n)=some (LL cZ G,[b]):=by
 obtain⟨L,Y,O,h3⟩:=h;have S:L.length=n:=by rw[<- J,<- O,zS]
 have E:=bZ (c:=zc) (s:=2) ZO L;rw[aQ,Y];simp only[zi,yX,yY];rw[sH (by rw[E,S];exact zq _),zl (by rw[E,S];exact zq _),Xh σ d L h3,O];show some (V.ts _ n,[b])=_;rw[<- J]
theorem NS{σ:Store}{n d:Nat}:∀ {rb:List Nat} {R:List (List Int)},rb.length=R.length->(∀i (h:i<rb.length),Em σ rb[i] (DL R i))->(∀x∈R,x.length=n)->∃ids,stripL (strip σ (d+1)) (rb.map fun b=>V.rs b 0 n)=some (R.flatMap aaO,ids)
 |[],[],_,_,_=>⟨[],rfl⟩
 |[],_ :: _,h,_,_=>by simp at h
 |_ :: _,[],h,_,_=>by simp at h
 |b :: rb,x :: R,h,hr,hn=>by
  obtain⟨ids,hi⟩:=NS (rb:=rb) (R:=R) (d:=d) (by simpa using h) (fun i hi=>by
   have:=hr (i+1) (by simpa using hi);exact this) fun y E=>hn y (zY _ E)
  have G:Em σ b x:=hr 0 (by simp);refine⟨[b]++ids,?_⟩;rw[uo,ah,aez G (hn x zM) d];simp only[zi];rw[hi];rfl
theorem ahh(σ:Store)(d:Nat)(E:List Bool):stripL (strip σ d) (E.flatMap Hl)=some (E.flatMap Hl,[]) :=
 aW (fun b=>by rw[ah,aP,aX];rfl) E
def acs:=bZ (c:=Hl) (s:=1) (fun _=>rfl)
theorem Qu{σ:Store}{bt br bb bf:Nat}{rb:List Nat}{D:TZ}{N:Nat}(h:Dn σ bt br bb bf rb D N)(hs:W9 D N):∃ids,strip σ 7 (.rp bt 0)=some (ag' D N,ids):=by
 obtain⟨O9,G⟩:=h.r;obtain⟨LJ,J⟩:=h.b;obtain⟨ids,E⟩:=NS (d:=4) h.len h.row hs.row;have O:(BR D.B).length=D.R.length:=by rw[aA];exact hs.Bc
 have Y:strip σ 6 (.rs br 0 D.R.length)=some (LL aaO D.R,br :: ids):=by
  rw[aQ,G];simp only[zi,yQ,yX,yY];rw[sH (by rw[zo,zS,h.len];omega),wu (by rw[zS,h.len]),E];rfl
 have s2:strip σ 6 (.rs bb 0 D.R.length)=some (LI (BR D.B),[bb]):=by
  rw[aQ,J];simp only[zi,yQ,yX,yY];rw[sH (by rw[zo,qL,O];omega),wu (by rw[qL,O]),CZ,<- O];rfl
 have S:(D.fr.flatMap Hl).length=N:=by rw[acs,yQ,hs.W_]
 have s3:strip σ 6 (.rs bf 0 N)=some (LL Hl D.fr,[bf]):=by
  rw[aQ,h.f];simp only[zi,yQ,yX,yY];rw[sH (by rw[S];exact zq _),zl (by rw[S];exact zq _),ahh];show some (V.ts _ N,[bf])=_;rw[<- hs.W_]
 have key:stripL (strip σ 6) [.rs br 0 D.R.length,Bo (decide (D.A8<0)),LI (dg D.A8.natAbs),.rs bb 0 D.R.length,I N,.rs bf 0 N]=some (WZ D N,(br :: ids)++([]++([]++([bb]++([]++([bf]++[])))))):=by
  simp only[ah,Y,s2,s3,aP,aK,aX,zG,zi];rfl
 exact⟨_,by rw[ML,h.t,zi,key];rfl⟩
theorem Ky{σ:Store}{bt br bb bf:Nat}{rb:List Nat}{D:TZ}{N:Nat}(h:Dn σ bt br bb bf rb D N)(hs:W9 D N)(d:Nat):strip σ (d+1) (.rs bb 0 D.R.length)=some (LI (BR D.B),[bb]):=by
 obtain⟨J,E⟩:=h.b;have G:(BR D.B).length=D.R.length:=by rw[aA];exact hs.Bc
 rw[aQ,E];simp only[zi,yQ,yX,yY];rw[sH (by rw[zo,qL,G];omega),wu (by rw[qL,G]),CZ,<- G];rfl
theorem axS(xs:List Int)(m:Int)(h:xs.length<=1000000):fn ZL conv ext 120 [LI xs,I m]=some (I (ix (fun x=>m==x) xs)):=by
 rw[m_,mg [.tmp 4] [] func120];simp only[go_sem];generalize Y:dI _ _=y;obtain⟨r,rfl,hr⟩:=oZ Y xs.length (fun k st=>st.T 0=LI xs/\st.T 1=I m/\st.T 7=I xs.length/\st.T 8=I k/\∀i (h:i<xs.length),i<k->(m==xs[i])=false)
  (fun r=>(∃T σ nx,r=(.exit 0,⟨T,σ,nx⟩)/\ix (fun x=>m==x) xs= -1)\/(∃T σ nx,r=(.ret,⟨T,σ,nx⟩)/\T 4=I (ix (fun x=>m==x) xs))) (by
   clear Y;rintro k ⟨T,σ,nx⟩ E ⟨O,S,G,J,hi⟩;simp only at O S G J;have f1:(k:Int)<(xs.length:Int):=by omega
   have f2:=jD k;have f3:=ZT (n:=(k:Int)+1);have f5:=AU xs k E;have f6:=idx E;cases hp:(m==xs[k])with
   |true=>
    refine .inr ⟨_,by simp only[go_sem,O,S,G,J,f1,f2,f5,f6,hp];rfl,by simp,.inr ⟨_,_,_,rfl,?_⟩⟩;simp only[go_sem];rw[Ij E hi hp]
   |false=>
    refine .inl ⟨_,by simp only[go_sem,O,S,G,J,f1,f2,f3,f5,f6,hp];rfl,?_⟩;simp only[go_sem,O,S,G];exact⟨rfl,jo E hi hp⟩) (by
   clear Y;rintro ⟨T,σ,nx⟩ ⟨O,S,G,J,hi⟩;simp only at G J;exact⟨_,by simp only[go_sem,G,J,zk];rfl,by simp,.inl ⟨_,_,_,rfl,jq fun i h=>hi i h h⟩⟩) (by
   simp only[go_sem];exact fun i _ h=>absurd h (zX _))
 rcases hr with ⟨T,σ,nx,rfl,hx⟩|⟨T,σ,nx,rfl,hx⟩
 .simp only[go_sem,hx]
 .simp only[go_sem,hx]
theorem aos(xs:List Int)(m:Int)(h:xs.length<=1000000):fn ZL conv ext 65 [LI xs,I m]=some (Bo (decide (m∈xs))):=by
 have E:=axS xs m h;have e:decide (0<=ix (fun x=>m==x) xs)=decide (m∈xs):=by
  rw[decide_eq_decide];constructor
  .intro J
   refine zf fun hn=>?_
   have:=(Kr (fun x=>m==x) xs).mpr fun x G=>by
    rw[sG];intro e;subst e;exact hn G
   omega
  .intro hm
   refine Int.not_lt.mp fun hn=>?_
   have:=(Kr (fun x=>m==x) xs).mp hn m hm;simp at this
 rw[m_,mg [.tmp 4] [] func65]
 by_cases hc:0<=ix (fun x=>m==x) xs
 .rw[sF hc]at e
  simp only[go_sem,E,hc,<- e]
 .rw[sD hc]at e
  simp only[go_sem,E,hc,<- e]
theorem LK{B:List Nat}{k:Nat}:(k:Int)∈BR B↔k∈B:=by
 unfold BR;rw[List.mem_map];constructor
 .rintro ⟨j,E,e⟩
  have:j=k:=by omega
  subst this;exact E
 .intro h;exact⟨k,h,rfl⟩
def Eu(D:TZ)(o:Nat->Int)(j:Nat):Bool:=D.fr.getD j false && !(!decide (j∈D.B) && decide (Bl D o j<0))
def Pe(D:TZ)(o:Nat->Int)(k:Nat):List Bool:=(List.range D.fr.length).map fun j=>if j<k then Eu D o j else D.fr.getD j false
theorem lV(D:TZ)(o:Nat->Int)(k:Nat):(Pe D o k).length=D.fr.length:=by simp[Pe]
theorem lW(D:TZ)(o:Nat->Int){k j:Nat}(h:j<D.fr.length):(Pe D o k)[j]'(by rw[lV];exact h)=if j<k then Eu D o j else D.fr.getD j false:=by
 simp[Pe]
theorem ahi(D:TZ)(o:Nat->Int):Pe D o 0=D.fr:=by
 apply yS
 .rw[lV]
 .intro i G E
  rw[lW D o E,sJ (by omega),zx,zy E];rfl
theorem acu(D:TZ)(o:Nat->Int){k:Nat}(h:k<D.fr.length):(Pe D o k).set k (Eu D o k)=Pe D o (k+1):=by
 apply yS
 .rw[xu,lV,lV]
 .intro i J E
  rw[lV]at E;rw[wF,lW D o E,lW D o E]
  by_cases e:k=i
  .subst e;rw[sH rfl,sH (by omega)]
  .rw[sJ e]
   by_cases G:i<k
   .rw[sH G,sH (by omega)]
   .rw[sJ G,sJ (by omega)]
theorem ahj(D:TZ)(o:Nat->Int){k:Nat}(h:k<D.fr.length)(hb:Eu D o k=D.fr.getD k false):Pe D o k=Pe D o (k+1):=by
 rw[<- acu D o h,hb];apply yS
 .rw[xu]
 .intro i E G
  rw[wF]
  split
  .rename_i e;subst e;rw[lW D o h,sJ (by omega)]
  .rfl
theorem asv(D:TZ)(o:Nat->Int){N:Nat}(h:D.fr.length=N):frZ N o D (Pe D o N):=by
 refine⟨lV D o N,fun j E=>?_⟩;have e:(Pe D o N).getD j false=Eu D o j:=by
  rw[zx,zy (by rw[lV];omega),xE,lW D o (by omega),sH E]
 rw[e];unfold Eu;cases D.fr.getD j false with
 |false=>simp
 |true=>
  by_cases hb:j∈D.B<;>by_cases G:Bl D o j<0<;>simp[hb,G]
theorem Tv(xs:List Bool)(k:Nat)(b:Bool):(xs.flatMap Hl).set k (Bo b)=(xs.set k b).flatMap Hl:=by
 induction xs generalizing k with
 |nil=>rfl
 |cons x xs E=>
  cases k with
  |zero=>rfl
  |succ k=>
   show Bo x :: (xs.flatMap Hl).set k (Bo b)=Bo x :: (xs.set k b).flatMap Hl;rw[E]
theorem W9.free{D:TZ}{N:Nat}(h:W9 D N){fr:List Bool}(E:fr.length=N):W9 { D with fr:=fr } N:=⟨h.row,h.Bc,h.Gn,E,h.sz,h.big,h.A8,h.inB⟩
theorem Dn.free{σ σ':Store}{bt br bb bf:Nat}{rb:List Nat}{D:TZ}{N:Nat}(h:Dn σ bt br bb bf rb D N){fr:List Bool}(O:σ' bf=some ⟨fr.flatMap Hl,1,true⟩)(E:∀b,b≠bf->σ' b=σ b):Dn σ' bt br bb bf rb { D with fr:=fr } N:=by
 obtain⟨n1,n2,S,n4,Y,n6,n7,n8⟩:=nd4 h.nd;obtain⟨O9,G⟩:=h.r;obtain⟨LJ,J⟩:=h.b;exact⟨(E bt S).trans h.t,⟨O9,(E br Y).trans G⟩,fun i hi=>(h.row i hi).congr (E _ (n7 _ (zu hi)).2.2.2),⟨LJ,(E bb n6).trans J⟩,O,h.len,h.nd⟩
theorem kD{σ:Store}{b:Nat}{xs:List Int}(h:σ b=some ⟨xs.flatMap cI,1,true⟩){n:Nat}(hn:xs.length=n)(d:Nat):strip σ (d+1) (.rs b 0 n)=some (LI xs,[b]):=by
 rw[aQ,h];simp only[zi,yQ,yX,yY,qL];rw[sH (by omega),zl (by rw[qL];omega),CZ];show some (V.ts _ n,[b])=_;rw[<- hn]
def Obj(o:List Int)(N:Nat):Prop:=o.length=N/\∀x∈o,-1000000<=x/\x<=1000000
abbrev oF(o:List Int)(j:Nat):Int:=o.getD j 0
theorem asw(Qp:TZ->Prop){N:Nat}{o:List Int}(hI:∀D,Qp D->W9 D N/\0<D.A8)(c4:∀D D',Qp D->EO N (oF o) D D'->Qp D')(ho:Obj o N)
  {σ:Store} {nx bt br bb bf bo:Nat} {rb:List Nat} {D:TZ} {n:Nat} (e9:Qp D) (hn:IB N (oF o) n D) (h:Dn σ bt br bb bf rb D N) (h0:∀b∈bt :: br :: bb :: bf :: rb,b<nx) (e2:σ bo=some ⟨o.flatMap cI,1,true⟩) (e3:bo<nx) (h4:bo∉bt :: br :: bb :: bf :: rb) :
  ∃σ' nx' e4 D',ev ZL pI Ad 219 [.rp bt 0,.rs bo 0 N] σ nx=some (Bo e4,σ',nx')/\S9 N (oF o) D e4 D'/\Dn σ' bt br bb bf rb D' N/\nx<=nx'/\∀b,b<nx->b∉bt :: bb :: bf :: rb->σ' b=σ b:=by
 have c3:=ho.1;have c5:bo∉bt :: bb :: bf :: rb:=fun e=>h4 (by
  simp only[zV]at e⊢;rcases e with e|e|e|e<;>simp[e])
 rw[mg [.tmp 4] [] func219];simp only[go_sem];generalize hL:dI _ _=y
 obtain⟨x,rfl,hx⟩:=jQ hL (fun m st=>st.T 0= .rp bt 0/\st.T 1= .rs bo 0 N/\nx<=st.nx/\(∀b,b<nx->b∉bt :: bb :: bf :: rb->st.σ b=σ b)/\∃D1,EP N (oF o) D D1/\Qp D1/\Dn st.σ bt br bb bf rb D1 N /\
   ((st.T 5=Bo true/\∃m',m=m'+1/\IB N (oF o) m' D1)\/(st.T 5=Bo false/\∀j,j<N->D1.fr.getD j false=true->j∉D1.B->¬0<Bl D1 (oF o) j)))
  (fun x=>∃T σ' nx',nx<=nx'/\(∀b,b<nx->b∉bt :: bb :: bf :: rb->σ' b=σ b)/\∃D1,EP N (oF o) D D1/\Qp D1/\Dn σ' bt br bb bf rb D1 N /\
   ((x=(.ret,⟨T,σ',nx'⟩)/\T 4=Bo false/\∃s,Iz N D1 (oF o) s/\∀i,i<D1.R.length->¬0<en D1.R i s)\/(x=(.exit 0,⟨T,σ',nx'⟩)/\T 0= .rp bt 0/\T 1= .rs bo 0 N/\∀j,j<N->D1.fr.getD j false=true->j∉D1.B->¬0<Bl D1 (oF o) j))) (by
   clear hL;rintro m ⟨T,O,nI⟩ ⟨t0,t1,S,fr,D1,hr,a8,hT,h5⟩;simp only at t0 t1 S hT h5;obtain⟨hS,e5⟩:=hI D1 a8;have a7:=hT.t;rcases h5 with ⟨t5,m',rfl,e6⟩|⟨t5,b7⟩
   .have hlen:=hT.len
    obtain⟨n1,n2,n3,n4,n5,n6,n7,n8⟩:=nd4 hT.nd;have h6:=hS.sz;have c8:O bo=_:=(fr bo e3 c5).trans e2;obtain⟨ids,b4⟩:=Qu hT hS;have a6:=Ky hT hS 6;have b5:=kD c8 c3 6;have Yn:=hT.f;refine bC ?_
    conv=>
     enter [1,r,1,1]
     simp only[go_sem,t0,t1,t5,a7]
    generalize hL:dI _ _=z;obtain⟨x,rfl,T1,σ2,BX,E,hx⟩:=oZ hL N (fun k st=>st.T 0= .rp bt 0/\st.T 1= .rs bo 0 N/\st.T 5=Bo false/\st.T 13=I N/\st.T 14=I k/\st.σ=O/\st.nx=nI/\∀j,j<k->D1.fr.getD j false=true->j∉D1.B->¬0<Bl D1 (oF o) j)
     (fun x=>∃T σ2 BX,nI<=BX/\((x=(.exit 2,⟨T,σ2,BX⟩)/\T 0= .rp bt 0/\T 1= .rs bo 0 N/\T 5=Bo false/\σ2=O/\∀j,j<N->D1.fr.getD j false=true->j∉D1.B->¬0<Bl D1 (oF o) j) \/
      (x=(.exit 2,⟨T,σ2,BX⟩)/\T 0= .rp bt 0/\T 1= .rs bo 0 N/\T 5=Bo true/\∃D2,EO N (oF o) D1 D2/\Dn σ2 bt br bb bf rb D2 N/\∀b,b<nI->b∉bt :: bb :: bf :: rb->σ2 b=O b) \/
      (x=(.ret,⟨T,σ2,BX⟩)/\T 4=Bo false/\σ2=O/\∃s,Iz N D1 (oF o) s/\∀i,i<D1.R.length->¬0<en D1.R i s))) (by
      clear hL;rintro k ⟨T,σ2,BX⟩ hk ⟨t0,t1,t5,t13,t14,b8,E,a1⟩;simp only at t0 t1 t5 t13 t14 b8 E;subst b8 E;have f1:(k:Int)<(N:Int):=by omega
      have f2:=jD k;have f3:=ZT (n:=(k:Int)+1);have b6:k<D1.fr.length:=by rw[hS.W_];exact hk
      have f4:=cu Bo D1.fr k b6;have b2:(D1.fr.flatMap Hl)[k]?=some (Bo (D1.fr.getD k false)):=by
       rw[zx,zy b6];exact f4
      have k1:=aos (BR D1.B) k (by rw[aA,hS.Bc];have:=hS.Gn;omega);have k2:=amq D1 N hS o c3 ho.2 k hk;have step:∀(b9:¬(D1.fr.getD k false=true/\k∉D1.B/\0<Bl D1 (oF o) k)),∀j,j<k+1->D1.fr.getD j false=true->j∉D1.B->¬0<Bl D1 (oF o) j:=fun b9 j hj h1 h2 h3=>by
       by_cases e:j=k
       .subst e;exact b9 ⟨h1,h2,h3⟩
       .exact a1 j (by omega) h1 h2 h3
      cases G:D1.fr.getD k false with
      |false=>
       rw[G]at b2;refine .inl ⟨_,by simp only[go_sem,t0,t1,t5,t13,t14,a7,Yn,f1,f2,f3,b2];rfl,?_⟩;simp only[go_sem,t0,t1,t5,t13];exact⟨rfl,step fun h=>by rw[G]at h;cases h.1⟩
      |true=>
       rw[G]at b2
       by_cases hm:k∈D1.B
       .rw[sF (LK.mpr hm)]at k1
        refine .inl ⟨_,by simp only[go_sem,t0,t1,t5,t13,t14,a7,Yn,f1,f2,f3,b2,a6,k1];rfl,?_⟩;simp only[go_sem,t0,t1,t5,t13];exact⟨rfl,step fun h=>h.2.1 hm⟩
       .rw[sD (mt LK.mp hm)]at k1
        by_cases hg:0<Bl D1 (oF o) k
        .have c1:¬Am (Bl D1 (oF o) k) 0<=0:=fun e=>(pG _).mp e hg
         have b3:Iz N D1 (oF o) k:=⟨hk,G,hm,hg,fun j hj=>a1 j hj⟩;obtain⟨r,k3,hb⟩:=aha D1 N hS k hk;rcases hb with ⟨rfl,hb⟩|⟨r',rfl,e7,h7,h8,h9⟩
         .have c2:(-1:Int)<0:=by decide
          refine .inr ⟨_,by simp only[go_sem,t0,t1,t5,t13,t14,a7,Yn,f1,f2,f3,b2,a6,k1,b4,b5,k2,c1,k3,c2];rfl,by simp,_,_,_,zq _,.inr (.inr ⟨rfl,?_⟩)⟩;simp only[go_sem];exact⟨k,b3,hb⟩
         .have c2:¬(r':Int)<0:=by omega
          obtain⟨i3,Au,k4,NT,i0,i1⟩:=ahe hT hS (fun b hb=>wz (h0 b hb) S) e7 hk (by omega) (by omega);refine .inr ⟨_,by simp only[go_sem,qB,t0,t1,t5,t13,t14,a7,Yn,f1,f2,f3,b2,a6,k1,b4,b5,k2,c1,k3,c2,k4];rfl,by simp,_,_,_,i0,.inr (.inl ⟨rfl,?_⟩)⟩;simp only[go_sem,t0,t1];refine⟨_,⟨k,r',b3,⟨e7,h7,fun i hi hp=>h8 i hi hp,fun i hi hp he=>h9 i hi hp he⟩,rfl⟩,NT,fun b hb Y=>?_⟩;simp only[zV,not_or]at Y;exact i1 b hb Y.1 Y.2.1 Y.2.2.2
        .have c1:Am (Bl D1 (oF o) k) 0<=0:=(pG _).mpr hg
         refine .inl ⟨_,by simp only[go_sem,t0,t1,t5,t13,t14,a7,Yn,f1,f2,f3,b2,a6,k1,b4,b5,k2,c1];rfl,?_⟩;simp only[go_sem,t0,t1,t5,t13];exact⟨rfl,step fun h=>hg h.2.2⟩) (by
      clear hL;rintro ⟨T,σ2,BX⟩ ⟨t0,t1,t5,t13,t14,b8,E,a1⟩;simp only at t0 t1 t5 t13 t14 b8 E;subst b8 E;refine⟨_,by simp only[go_sem,t13,t14,zk];rfl,by simp,_,_,_,zq _,.inl ⟨rfl,?_⟩⟩;simp only[go_sem,t0,t1,t5];exact a1) (by
      simp only[go_sem,t0,t1];exact fun j hj=>absurd hj (zX j))
    rcases hx with ⟨rfl,t0,t1,t5,rfl,a1⟩|⟨rfl,t0,t1,t5,D2,c9,c0,e0⟩|⟨rfl,t4,rfl,Gl⟩
    .refine⟨_,by simp only[go_sem],.inl ⟨⟨T1,_,BX⟩,rfl,m',by omega,t0,t1,zU S E,fr,D1,hr,a8,hT,.inr ⟨t5,a1⟩⟩⟩
    .cases m' with
     |zero=>exact absurd e6 id
     |succ e8=>
      refine⟨_,by simp only[go_sem],.inl ⟨⟨T1,_,BX⟩,rfl,e8+1,by omega,t0,t1,zU S E,fun b hb Y=>?_,D2,hr.tail c9,c4 _ _ a8 c9,c0,.inl ⟨t5,e8,rfl,e6 D2 c9⟩⟩⟩;exact(e0 b (wz hb S) Y).trans (fr b hb Y)
    .refine⟨_,by simp only[go_sem],.inr ⟨by simp,_,_,BX,zU S E,fr,D1,hr,a8,hT,.inl ⟨rfl,t4,Gl⟩⟩⟩
   .refine .inr ⟨_,by simp only[go_sem,t5];rfl,by simp,_,O,nI,S,fr,D1,hr,a8,hT,.inr ⟨rfl,?_⟩⟩
    simp only[go_sem,t0,t1];exact b7) (n+1) (by
   simp only[go_sem];exact⟨fun _ _ _=>trivial,D,EP.refl D,e9,h,.inl ⟨n,rfl,hn⟩⟩)
 obtain⟨T1,O,nI,S,fr,D1,hr,a8,hT,hx⟩:=hx;obtain⟨hS,e5⟩:=hI D1 a8;rcases hx with ⟨rfl,t4,s,b3,Gl⟩|⟨rfl,t0,t1,b7⟩
 .exact⟨O,nI,false,D1,by simp only[go_sem,t4],⟨D1,hr,.inr ⟨rfl,rfl,s,b3,Gl⟩⟩,hT,S,fr⟩
 .have a7:=hT.t
  have hlen:=hT.len;obtain⟨n1,n2,n3,n4,n5,n6,n7,n8⟩:=nd4 hT.nd;have h6:=hS.sz;simp only[go_sem,t0,a7];generalize hL:dI _ _=z;obtain⟨x,rfl,T2,σ2,rfl,e0,J⟩:=oZ hL N (fun k st=>st.T 0= .rp bt 0/\st.T 1= .rs bo 0 N/\st.T 53=I N/\st.T 54=I k/\st.nx=nI/\st.σ bf=some ⟨(Pe D1 (oF o) k).flatMap Hl,1,true⟩/\∀b,b≠bf->st.σ b=O b)
   (fun x=>∃T σ2,x=(.exit 4,⟨T,σ2,nI⟩)/\σ2 bf=some ⟨(Pe D1 (oF o) N).flatMap Hl,1,true⟩/\∀b,b≠bf->σ2 b=O b) (by
    clear hL;rintro k ⟨T,σ2,BX⟩ hk ⟨t0,t1,t53,t54,E,Yn,J⟩;simp only at t0 t1 t53 t54 E Yn;subst E;have hl:(Pe D1 (oF o) k).length=N:=by rw[lV];exact hS.W_
    have c0:=hT.free Yn J;have e1:=hS.free hl;have NU:=c0.t;obtain⟨ids,b4⟩:=Qu c0 e1;have a6:=Ky c0 e1 6;have c8:σ2 bo=_:=(J bo fun e=>c5 (by simp[e])).trans ((fr bo e3 c5).trans e2);have b5:=kD c8 c3 6;have f1:(k:Int)<(N:Int):=by omega
    have f2:=jD k;have f3:=ZT (n:=(k:Int)+1);have b6:k<D1.fr.length:=by rw[hS.W_];exact hk
    have f4:((Pe D1 (oF o) k).flatMap Hl)[k]?=some (Bo (D1.fr.getD k false)):=by
     rw[cu Bo (Pe D1 (oF o) k) k (by omega),lW _ _ b6,sJ (by omega)]
    have f5:k<((Pe D1 (oF o) k).flatMap Hl).length:=by rw[acs,hl];omega
    have k1:=aos (BR D1.B) k (by rw[aA,hS.Bc];have:=hS.Gn;omega);have k2:=amq _ N e1 o c3 ho.2 k hk;have eg:Bl { D1 with fr:=Pe D1 (oF o) k } (fun j=>o.getD j 0) k=Bl D1 (oF o) k:=rfl;rw[eg]at k2;simp only at NU a6;have keep:Eu D1 (oF o) k=D1.fr.getD k false->σ2 bf=some ⟨(Pe D1 (oF o) (k+1)).flatMap Hl,1,true⟩:=fun h=>by rw[<- ahj _ _ b6 h];exact Yn
    cases G:D1.fr.getD k false with
    |false=>
     rw[G]at f4;refine .inl ⟨_,by simp only[go_sem,t0,t1,t53,t54,NU,Yn,f1,f2,f3,f4];rfl,?_⟩;simp only[go_sem,t0,t1,t53];exact⟨rfl,keep (by unfold Eu;rw[G];rfl),J⟩
    |true=>
     rw[G]at f4
     by_cases hm:k∈D1.B
     .rw[sF (LK.mpr hm)]at k1
      refine .inl ⟨_,by simp only[go_sem,t0,t1,t53,t54,NU,Yn,f1,f2,f3,f4,a6,k1];rfl,?_⟩;simp only[go_sem,t0,t1,t53];exact⟨rfl,keep (by unfold Eu;rw[G,sF hm];rfl),J⟩
     .rw[sD (mt LK.mp hm)]at k1
      by_cases hg:Bl D1 (oF o) k<0
      .have c1:Am (Bl D1 (oF o) k) 0<0:=(cmp_neg _).mpr hg
       have c6:=Tv (Pe D1 (oF o) k) k false;have c7:=acu D1 (oF o) b6;have i2:Eu D1 (oF o) k=false:=by unfold Eu;rw[G,sD hm,sF hg];rfl
       rw[i2]at c7;rw[c7]at c6;refine .inl ⟨_,by simp only[go_sem,t0,t1,t53,t54,NU,Yn,f1,f2,f3,f4,f5,a6,k1,b4,b5,k2,c1,c6];rfl,?_⟩;simp only[go_sem,t0,t1,t53];refine⟨rfl,fun b hb=>?_⟩;rw[Zl _ _ hb];exact J b hb
      .have c1:¬Am (Bl D1 (oF o) k) 0<0:=fun e=>hg ((cmp_neg _).mp e)
       refine .inl ⟨_,by simp only[go_sem,t0,t1,t53,t54,NU,Yn,f1,f2,f3,f4,a6,k1,b4,b5,k2,c1];rfl,?_⟩;simp only[go_sem,t0,t1,t53];exact⟨rfl,keep (by unfold Eu;rw[G,sD hm,sD hg];rfl),J⟩) (by
    clear hL;rintro ⟨T,σ2,BX⟩ ⟨t0,t1,t53,t54,E,Yn,J⟩;simp only at t0 t1 t53 t54 E Yn;subst E;exact⟨_,by simp only[go_sem,t53,t54,zk];rfl,by simp,_,_,rfl,Yn,J⟩) (by
    simp only[go_sem,t0,t1];refine⟨?_,fun _ _=>trivial⟩;rw[ahi];exact hT.f)
  refine⟨σ2,nI,true,_,by simp only[go_sem],⟨D1,hr,.inl ⟨rfl,b7,Pe D1 (oF o) N,asv _ _ hS.W_,rfl⟩⟩,hT.free e0 J,S,fun b hb Y=>?_⟩;rw[J b fun e=>Y (by simp[e])];exact fr b hb Y
section
variable {P:Program} {conv:FuncId->Conv} {call:TV.Call} (d:Option Tmp) (ty:TypeId) (ps:String) (af:Array Edge) (gd:Option (Nat×Bool)) (T:Nat->V) (σ:Store) (nx:Nat)
theorem aaT(t:TypeId)(x:Operand)(lo hi E:Option Operand):zI conv T σ ⟨d,.slice t x lo hi E,ty,ps,af,gd⟩=wI (val T x):=rfl
theorem akW(t:TypeId)(x:Operand)(lo hi E:Option Operand):writer conv ⟨d,.slice t x lo hi E,ty,ps,af,gd⟩=false:=rfl
theorem lg(s x:Operand)(ts:Array TypeId):zI conv T σ ⟨d,.call ⟨.builtin .append,#[s,x],ts⟩,ty,ps,af,gd⟩=wI (val T s)++wI (val T x):=by
 show([val T s,val T x].flatMap wI)=_;simp only[zK,vg,zC]
theorem MR(s x:Operand)(ts:Array TypeId):writer conv ⟨d,.call ⟨.builtin .append,#[s,x],ts⟩,ty,ps,af,gd⟩=true:=rfl
def Tz(P:Program)(σ:Store)(nx:Nat)(t:TypeId)(lo hi E:Option V):V->Option V
 | .rs b off len=>if b<nx then AP P t (.rs b off len) lo hi E σ else none
 |v=>if((wI v).all fun b=>decide (b<nx))=true then AP P t v lo hi E (restrict σ (wI v))else none
theorem aeA(t:TypeId)(x:Operand)(lo hi E:Option Operand):Ah P conv call ⟨d,.slice t x lo hi E,ty,ps,af,gd⟩ T σ nx=(Tz P σ nx t (lo.map (val T)) (hi.map (val T)) (E.map (val T)) (val T x)).map (·,σ,nx):=by
 rw[nN (F:=wI (val T x)) T σ nx rfl (fun _=>rfl)];show(if((wI (val T x)).all fun b=>decide (b<nx))=true then match(AP P t (val T x) (lo.map (val T)) (hi.map (val T)) (E.map (val T)) (restrict σ (wI (val T x)))).map (·,restrict σ (wI (val T x)),nx)with|some (v,σ1,nI)=>some (v,Aa (wI (val T x)) nx nI σ σ1,nI)|none=>none else none)=_;generalize val T x=v;have gen:(if((wI v).all fun b=>decide (b<nx))=true then match(AP P t v (lo.map (val T)) (hi.map (val T)) (E.map (val T)) (restrict σ (wI v))).map (·,restrict σ (wI v),nx)with|some (w,σ1,nI)=>some (w,Aa (wI v) nx nI σ σ1,nI)|none=>none else none)=(if((wI v).all fun b=>decide (b<nx))=true then AP P t v (lo.map (val T)) (hi.map (val T)) (E.map (val T)) (restrict σ (wI v))else none).map (·,σ,nx):=by
  split
  .cases AP P t v (lo.map (val T)) (hi.map (val T)) (E.map (val T)) (restrict σ (wI v))with
   |none=>rfl
   |some w=>simp only[zG,iL]
  .rfl
 rw[gen];cases v with
 |rs b off len=>
  have key:AP P t (.rs b off len) (lo.map (val T)) (hi.map (val T)) (E.map (val T)) (restrict σ [b])=AP P t (.rs b off len) (lo.map (val T)) (hi.map (val T)) (E.map (val T)) σ:=by
   unfold AP restrict;simp
  simp only[wI,uH,uw,Bool.and_true,decide_eq_true_eq,Tz,key]
 |_=>rfl
theorem aeB(t:TypeId)(lo hi E:Option V)(b off len:Nat):Tz P σ nx t lo hi E (.rs b off len)=if b<nx then AP P t (.rs b off len) lo hi E σ else none:=rfl
def aow(F:List Nat)(σ:Store)(nx:Nat):JZ->JZ
 |some (v,σ1,nI)=>some (v,Aa F nx nI σ σ1,nI)
 |none=>none
theorem aeC(F:List Nat)(v:V)(E:Store)(G:Nat):aow F σ nx (some (v,E,G))=some (v,Aa F nx G σ E,G):=rfl
theorem iZ(s x:Operand)(t u:TypeId):Ah P conv call ⟨d,.call ⟨.builtin .append,#[s,x],#[t,u]⟩,ty,ps,af,gd⟩ T σ nx=
  if((wI (val T s)++wI (val T x)).all fun b=>decide (b<nx))=true then aow (wI (val T s)++wI (val T x)) σ nx (Dx P #[t,u] (val T s) (val T x) (restrict σ (wI (val T s)++wI (val T x))) nx)else none:=by
 rw[nN (F:=wI (val T s)++wI (val T x)) T σ nx (by
  show some ([val T s,val T x].flatMap wI)=_;simp only[zK,vg,zC]) (fun _=>rfl)]
 rfl
end
attribute [go_sem] aaT akW lg MR aeA aeB iZ aeC vV
theorem fH(σ:Store)(b:Nat):restrict σ [b,b] b=σ b:=by unfold restrict;simp
theorem Pg(σ:Store)(b nx:Nat)(x:Option FT):Aa [b,b] nx nx σ (upd (restrict σ [b,b]) b x)=upd σ b x:=by
 funext i;unfold Aa upd restrict
 by_cases h:i=b
 .simp[h]
 .rw[sJ (by simp only[zV,yc,or_false,or_self,h,false_or];omega),sJ h]
theorem fJ(σ:Store)(b:Nat):restrict σ [b] b=σ b:=by unfold restrict;simp
theorem qw(σ:Store)(nx size bytes b off len:Nat)(row:List V)(m:Nat):Ag σ nx size bytes (.rs b off len) row m=(σ b).bind fun B=>if m=0 then some (.rs b off len,σ,nx)else
      if off+(len+m)*size<=B.cells.length then
    if B.wr=true/\B.st=size/\row.all qI=true then some (.rs b off (len+m),upd σ b (some { B with cells:=patch B.cells (off+len*size) row }),nx)else none
      else if off+len*size=B.cells.length/\B.st=size/\len+m<=maxLen/\(len+m)*bytes<=140737488355328/\row.all qI=true then
    some (.rs nx 0 (len+m),upd (upd σ b none) nx (some ⟨B.cells.drop off++row,size,B.wr⟩),nx+1)
      else none:=by
 cases h:σ b with
 |none=>simp only[Ag,h];rfl
 |some B=>simp only[Ag,h];rfl
theorem aaU(σ:Store)(b nx:Nat):Aa [b] nx nx σ (restrict σ [b])=σ:=by
 funext i;unfold Aa restrict
 by_cases h:i=b
 .simp[h]
 .rw[sJ (by simp only[w_,h,false_or];omega)]
theorem NV(σ:Store)(nx size bytes b off len:Nat)(row:List V){B:FT}(h:σ b=some B):Ag σ nx size bytes (.rs b off len) row 0=some (.rs b off len,σ,nx):=by
 unfold Ag;simp only[h,if_true]
theorem aox{σ:Store}{nx bytes b len m:Nat}{row cells:List V}(h:σ b=some ⟨cells,1,true⟩)(hm:m≠0)(G:len+m<=cells.length)(E:row.all qI=true) :
  Ag σ nx 1 bytes (.rs b 0 len) row m=some (.rs b 0 (len+m),upd σ b (some ⟨patch cells len row,1,true⟩),nx):=by
 unfold Ag;simp only[h];rw[sJ hm,sH (by omega),sH ⟨by trivial,by trivial,E⟩];simp
attribute [go_sem] fH fJ qw Pg aaU
theorem iH(L ex:List V){i m:Nat}(hm:L.length=m)(hi:i<m)(J:m - (i+1)≠0):∃E,patch (L++ex) i (L.drop (i+1))=L.eraseIdx i++E:=by
 have G:(L.drop (i+1)).length=m - (i+1):=by rw[zO,hm]
 rw[iJ _ _ _ (by rw[G,zo,hm];omega)];refine⟨(L++ex).drop (i+(m - (i+1))),?_⟩;rw[G,uS (by omega),vX]
theorem NW(L ex:List V){i:Nat}(h:i+1=L.length):∃E,L++ex=L.eraseIdx i++E:=by
 refine⟨L.drop i++ex,?_⟩;rw[vX,xw (l:=L) (i:=i+1) (by omega),zC,<- yj,wC]
theorem jL{α β:Type}(f:α->β)(l:List α)(i:Nat):(l.map f).eraseIdx i=(l.eraseIdx i).map f:=by
 induction l generalizing i with
 |nil=>rfl
 |cons a l E=>cases i with
  |zero=>rfl
  |succ i=>show f a :: (l.map f).eraseIdx i=_;rw[E];rfl
def Qv(D:TZ)(i:Nat):TZ:={ D with R:=D.R.eraseIdx i,B:=D.B.eraseIdx i }
theorem Dn.dropped{σ σ':Store}{bt br bb bf:Nat}{rb:List Nat}{D:TZ}{N i:Nat}(h:Dn σ bt br bb bf rb D N)(hi:i<D.R.length)(a1:D.B.length=D.R.length)
  (ht:σ' bt=some ⟨[.rs br 0 (D.R.length-1),Bo (decide (D.A8<0)),LI (dg D.A8.natAbs),.rs bb 0 (D.R.length-1),I N,.rs bf 0 N],0,true⟩)
  (E:∃ex,σ' br=some ⟨(rb.map (fun b=>V.rs b 0 (N+1))).eraseIdx i++ex,1,true⟩) (hb:∃ex,σ' bb=some ⟨((BR D.B).flatMap cI).eraseIdx i++ex,1,true⟩) (Y:∀b,b≠bt->b≠br->b≠bb->σ' b=σ b) :
  Dn σ' bt br bb bf (rb.eraseIdx i) (Qv D i) N:=by
 obtain⟨n1,n2,n3,n4,n5,n6,n7,n8⟩:=nd4 h.nd;have hl:(D.R.eraseIdx i).length=D.R.length-1:=yV hi;have hlen:=h.len;obtain⟨G,E⟩:=E;obtain⟨J,hb⟩:=hb;refine⟨?_,⟨G,?_⟩,fun j O=>?_,⟨J,?_⟩,?_,?_,?_⟩
 .show σ' bt=some ⟨[.rs br 0 (D.R.eraseIdx i).length,_,_,.rs bb 0 (D.R.eraseIdx i).length,_,_],0,true⟩
  rw[hl];exact ht
 .rw[E,jL]
 .have a6:j<rb.length-1:=by rw[yV (by omega)]at O;exact O
  have e:DL (D.R.eraseIdx i) j=DL D.R (if j<i then j else j+1):=by
   unfold DL;rw[lC]
  show Em σ' (rb.eraseIdx i)[j] (DL (D.R.eraseIdx i) j);have S:(if j<i then j else j+1)<rb.length:=by split<;>omega
  have e2:(rb.eraseIdx i)[j]=rb[if j<i then j else j+1]:=by
   have:(rb.eraseIdx i)[j]?=rb[if j<i then j else j+1]?:=by
    rw[List.getElem?_eraseIdx];split<;>rfl
   rw[zy O,zy S]at this;exact Option.some.inj this
  rw[e,e2];have hn:=n7 _ (zu S);exact(h.row _ S).congr (Y _ hn.1 hn.2.1 hn.2.2.1)
 .rw[hb]
  have:((BR D.B).flatMap cI).eraseIdx i=(BR (D.B.eraseIdx i)).flatMap cI:=by
   have e1:∀xs:List Int,xs.flatMap cI=xs.map I:=fun xs=>by
    induction xs with
    |nil=>rfl
    |cons x xs ih=>rw[zK,ih];rfl
   rw[e1,e1,jL];unfold BR;rw[jL]
  rw[this];rfl
 .rw[Y bf (yu n3) (yu n5) (yu n6)];exact h.f
 .show(rb.eraseIdx i).length=(D.R.eraseIdx i).length
  rw[hl,yV (by omega),hlen]
 .exact h.nd.sublist ((((sS rb i).cons_cons bf).cons_cons bb).cons_cons br|>.cons_cons bt)
theorem aoy(Qp:TZ->Prop){N n:Nat}(hQ:∀D,Qp D->W9 D N/\0<D.A8)(h6:n<=N)(h1:∀D i k,Qp D->i<D.R.length->n<=D.B.getD i 0->k<n->en D.R i k≠0->Qp (FZ D i k))
  (h2:∀D i,Qp D->i<D.R.length->n<=D.B.getD i 0->(∀k,k<n->en D.R i k=0)->Qp (Qv D i))
  {σ:Store} {nx bt br bb bf:Nat} {rb:List Nat} {D:TZ} (hD:Qp D) (h:Dn σ bt br bb bf rb D N) (c9:∀b∈bt :: br :: bb :: bf :: rb,b<nx) :
  ∃σ' nx' Ho D',ev ZL pI Ad 261 [.rp bt 0,I n] σ nx=some (.AB [],σ',nx')/\Dn σ' bt br bb bf Ho D' N/\nx<=nx'/\Qp D'/\(∀i,i<D'.R.length->D'.B.getD i 0<n)/\Ho.Sublist rb/\∀b,b<nx->b∉bt :: br :: bb :: rb->σ' b=σ b:=by
 rw[mg [] [10,11] func261];simp only[go_sem];generalize hL:dI _ _=y;obtain⟨x,rfl,T',σ',nx',Ho,D',rfl,hT,S,e0,b9,G,a6⟩:=jQ hL (fun m st=>st.T 0= .rp bt 0/\st.T 1=I n/\nx<=st.nx/\∃i Ho D',st.T 4=I ((i:Nat):Int)/\m+i=D'.R.length/\Dn st.σ bt br bb bf Ho D' N/\Qp D'/\(∀j,j<i->D'.B.getD j 0<n)/\Ho.Sublist rb/\∀b,b<nx->b∉bt :: br :: bb :: rb->st.σ b=σ b)
  (fun x=>∃T σ' nx' Ho D',x=(.exit 0,⟨T,σ',nx'⟩)/\Dn σ' bt br bb bf Ho D' N/\nx<=nx'/\Qp D'/\(∀i,i<D'.R.length->D'.B.getD i 0<n)/\Ho.Sublist rb/\∀b,b<nx->b∉bt :: br :: bb :: rb->σ' b=σ b) (by
   clear hL;rintro m ⟨T,Y,nI⟩ ⟨t0,t1,S,i,O,D1,t4,h7,hT,UK,a1,G,a6⟩;simp only at t0 t1 t4 S hT;obtain⟨hS,h5⟩:=hQ D1 UK;have a7:=hT.t;have hR:=hS.Gn;have hlen:=hT.len;obtain⟨O9,b2⟩:=hT.r;obtain⟨LJ,b3⟩:=hT.b;have hB:(BR D1.B).length=D1.R.length:=by rw[aA];exact hS.Bc
   have a8:∀b∈bt :: br :: bb :: bf :: O,b<nI:=fun b hb=>by
    refine wz (c9 b ?_) S;simp only[zV]at hb⊢;rcases hb with h|h|h|h|h
    .exact .inl h
    .exact .inr (.inl h)
    .exact .inr (.inr (.inl h))
    .exact .inr (.inr (.inr (.inl h)))
    .exact .inr (.inr (.inr (.inr (G.subset h))))
   obtain⟨n1,n2,n3,n4,n5,n6,n7,n8⟩:=nd4 hT.nd
   by_cases hi:i<D1.R.length
   .have f1:(i:Int)<(D1.R.length:Int):=by omega
    have f2:=jD i;have f3:=ZT (n:=(i:Int)+1);have f4:((BR D1.B).flatMap cI++LJ)[i]?=some (I ((D1.B.getD i 0:Nat):Int)):=by
     rw[zW (by rw[qL];omega),idx (by omega),aB (by have:=hS.Bc;omega)]
    by_cases hb:D1.B.getD i 0<n
    .have f5:((D1.B.getD i 0:Nat):Int)<(n:Int):=by omega
     refine .inl ⟨_,by simp only[go_sem,t0,t1,t4,a7,b3,f1,f2,f3,f4,f5];rfl,m-1,by omega,?_⟩;simp only[go_sem,t0,t1];refine⟨S,i+1,O,D1,rfl,by omega,hT,UK,fun j hj=>?_,G,a6⟩
     by_cases e:j=i
     .subst e;exact hb
     .exact a1 j (by omega)
    .have f5:¬((D1.B.getD i 0:Nat):Int)<(n:Int):=by omega
     have c0:i<O.length:=by omega
     have f6:=fV (ex:=O9) (n:=N+1) c0;obtain⟨bi,Fb⟩:∃bi,bi=O[i]:=⟨_,rfl⟩;rw[<- Fb]at f6;obtain⟨Li,Tq,GX,Tt⟩:=hT.row i c0;have c4:Y bi=some ⟨Li.flatMap zc,2,true⟩:=by rw[Fb];exact Tq
     have rl:(DL D1.R i).length=N+1:=by rw[dS hi];exact hS.row _ (zu hi)
     have KR:Li.length=N+1:=by have:=congrArg List.length GX;rw[zS,rl]at this;exact this
     have b7:=bZ (c:=zc) (s:=2) ZO Li;rw[KR]at b7;refine bC ?_
     conv=>
      enter [1,r,1,1]
      simp only[go_sem,t0,t1,t4,a7,b3,f1,f2,f4,f5]
     generalize hL:dI _ _=z;obtain⟨x,rfl,T1,k,rfl,t0,t1,t4,t5,h8,hz,c5⟩:=jQ hL (fun q st=>st.T 0= .rp bt 0/\st.T 1=I n/\st.T 4=I i/\st.σ=Y/\st.nx=nI/\∃k,st.T 5=I ((k:Nat):Int)/\q+k=n/\∀j,j<k->en D1.R i j=0)
      (fun x=>∃T k,x=(.exit 2,⟨T,Y,nI⟩)/\T 0= .rp bt 0/\T 1=I n/\T 4=I i/\T 5=I ((k:Nat):Int)/\k<=n/\(∀j,j<k->en D1.R i j=0)/\(k<n->en D1.R i k≠0)) (by
       clear hL;rintro q ⟨T,σ2,BX⟩ ⟨t0,t1,t4,c6,c7,k,t5,h9,hz⟩;simp only at t0 t1 t4 t5 c6 c7;subst c6 c7
       by_cases hk:k<n
       .have g1:(k:Int)<(n:Int):=by omega
        have g2:=jD k;have i0:=hS.sz;have g3:=ZT (n:=(k:Int)+1);have g4:=d_ (c:=zc) (s:=2) ZO Li k (by omega);have g5:k*2+2<=(N+1)*2:=by omega
        have g6:(k:Int)<((N+1:Nat):Int):=by omega
        obtain⟨hq,e⟩:=Qs GX (c:=k) (by rw[rl];omega);have e2:(DL D1.R i)[k]'(by rw[rl];omega)=en D1.R i k:=by
         unfold en;rw[zx,zy];rfl
        have z1:∀σ d,stripL (strip σ d) (zc Li[k])=some (cZ (en D1.R i k),[]):=fun σ d=>by
         rw[ZN σ d (Tt _ (zu hq)),e,e2]
        have k1:=jy (en D1.R i k);have c1:=NM (en D1.R i k)
        by_cases b5:en D1.R i k=0
        .rw[sF b5]at c1
         refine .inl ⟨_,by simp only[go_sem,t0,t1,t4,t5,a7,b2,c4,f1,f2,f6,g1,g2,g3,g4,g5,g6,b7,z1,k1,c1];rfl,q-1,by omega,?_⟩;simp only[go_sem,t0,t1,t4];refine⟨k+1,rfl,by omega,fun j hj=>?_⟩
         by_cases e:j=k
         .subst e;exact b5
         .exact hz j (by omega)
        .rw[sD b5]at c1
         refine .inr ⟨_,by simp only[go_sem,t0,t1,t4,t5,a7,b2,c4,f1,f2,f6,g1,g2,g3,g4,g5,g6,b7,z1,k1,c1];rfl,by simp,_,k,rfl,?_⟩;simp only[go_sem,t0,t1,t4,t5];exact⟨by omega,hz,fun _=>b5⟩
       .have g1:¬(k:Int)<(n:Int):=by omega
        refine .inr ⟨_,by simp only[go_sem,t1,t5,g1];rfl,by simp,_,k,rfl,?_⟩;simp only[go_sem,t0,t1,t4,t5];exact⟨by omega,hz,fun h=>absurd h hk⟩) n (by
       simp only[go_sem,t0,t1,t4];exact⟨0,rfl,by omega,fun j hj=>absurd hj (zX j)⟩)
     by_cases hk:k<n
     .have g1:(k:Int)<(n:Int):=by omega
      obtain⟨i1,Au,k4,NT,i2,e3⟩:=ahe hT hS a8 hi (by omega) (c5 hk) (by omega);have b6:=h1 D1 i k UK hi (by omega) hk (c5 hk);have b8:(FZ D1 i k).R.length=D1.R.length:=by
       unfold FZ
       split
       .exact h_ ..
       .show(negR _).length=_;rw[Ns,h_]
      have e4:(FZ D1 i k).B=D1.B.set i k:=by unfold FZ;split<;>rfl
      refine⟨_,by simp only[go_sem,qB,t0,t1,t4,t5,g1,f3,k4];rfl,.inl ⟨_,rfl,m-1,by omega,?_⟩⟩;simp only[go_sem,t0,t1];refine⟨by omega,i+1,O,_,rfl,by omega,NT,b6,fun j hj=>?_,G,fun b b4 E=>?_⟩
      .rw[e4,kY (by have:=hS.Bc;omega)]
       by_cases e:j=i
       .rw[sH e];exact hk
       .rw[sJ e];exact a1 j (by omega)
      .simp only[zV,not_or]at E
       exact(e3 b (by omega) E.1 E.2.2.1 fun e=>E.2.2.2 (G.subset e)).trans (a6 b b4 (by simp only[zV,not_or];exact E))
     .have g1:¬(k:Int)<(n:Int):=by omega
      have hzero:∀j,j<n->en D1.R i j=0:=fun j hj=>hz j (by omega)
      have b6:=h2 D1 i UK hi (by omega) hzero;have g2:(0:Int)<=(i:Int)+1:=by omega
      have c8:D1.B.length=D1.R.length:=hS.Bc;have h3:restrict Y [br,br] br=_:=(fH Y br).trans b2;have h4:restrict Y [bb,bb] bb=_:=(fH Y bb).trans b3;have p1:bt<nI:=a8 bt (by simp);have p2:br<nI:=a8 br (by simp);have p3:bb<nI:=a8 bb (by simp);have p4:(i:Int)+1<=(D1.R.length:Int):=by omega
      have p5:(i:Int)<=(D1.R.length:Int):=by omega
      have q0:(O.map (fun b=>V.rs b 0 (N+1))).length=D1.R.length:=by rw[zS,hlen]
      have q1:i<=(O.map (fun b=>V.rs b 0 (N+1))++O9).length:=by rw[zo,q0];omega
      have q2:D1.R.length<=(O.map (fun b=>V.rs b 0 (N+1))++O9).length:=by rw[zo,q0];omega
      have q3:i<=((BR D1.B).flatMap cI++LJ).length:=by rw[zo,qL];omega
      have q4:D1.R.length<=((BR D1.B).flatMap cI++LJ).length:=by rw[zo,qL];omega
      have q5:((i:Int)+1).toNat=i+1:=by omega
      have b8:(Qv D1 i).R.length=D1.R.length-1:=yV hi;have w1:(bt==br)=false:=beq_eq_false_iff_ne.mpr n1;have w2:(br==bt)=false:=beq_eq_false_iff_ne.mpr (yu n1);have w3:(bt==bb)=false:=beq_eq_false_iff_ne.mpr n2;have w4:(bb==bt)=false:=beq_eq_false_iff_ne.mpr (yu n2);have v1:¬bb=bt:=yu n2;have v2:¬bb=br:=yu n4;have v3:¬br=bt:=yu n1
      by_cases J:i+1=D1.R.length
      .have q6:i+1<=D1.R.length:=by omega
       have q7:¬D1.R.length=0:=by omega
       refine⟨_,by simp only[go_sem,t0,t1,t4,t5,g1,g2,f1,f2,f3,a7,b2,b3,h3,h4,q1,q2,q3,q4,q5,q6,q7,J,v1,v2,v3,w1,w2,w3,w4,p1,p2,p3,p4,p5,n1,n2,n3,n4,n5,n6];rfl,.inl ⟨_,rfl,m-1,by omega,?_⟩⟩;simp only[go_sem,t0,t1,t4];refine⟨S,i,O.eraseIdx i,Qv D1 i,rfl,by rw[b8];omega,?_,b6,fun j hj=>?_,(sS O i).trans G,fun b b4 E=>?_⟩
       .refine Dn.dropped hT hi c8 (by rw[Zk,<- J];rfl)
         (by
          obtain⟨e1,he⟩:=NW (O.map (fun b=>V.rs b 0 (N+1))) O9 (i:=i) (by rw[q0];exact J);exact⟨e1,by rw[Zl _ _ v3,b2,he]⟩)
         (by
          obtain⟨e1,he⟩:=NW ((BR D1.B).flatMap cI) LJ (i:=i) (by rw[qL,hB];exact J);exact⟨e1,by rw[Zl _ _ v1,b3,he]⟩) fun b c1 c2 c3=>Zl _ _ c1
       .show(D1.B.eraseIdx i).getD j 0<n
        rw[lC,sH hj];exact a1 j hj
       .simp only[zV,not_or]at E
        rw[Zl _ _ E.1];exact a6 b b4 (by simp only[zV,not_or];exact E)
      .have q6:i+1<=D1.R.length:=by omega
       have q7:¬D1.R.length - (i+1)=0:=by omega
       have q8:i+(D1.R.length - (i+1))<=(O.map (fun b=>V.rs b 0 (N+1))++O9).length:=by rw[zo,q0];omega
       have q9:i+(D1.R.length - (i+1))<=((BR D1.B).flatMap cI++LJ).length:=by rw[zo,qL];omega
       have e5:i+1+(D1.R.length - (i+1))<=(O.map (fun b=>V.rs b 0 (N+1))++O9).length:=by rw[zo,q0];omega
       have e6:i+1+(D1.R.length - (i+1))<=((BR D1.B).flatMap cI++LJ).length:=by rw[zo,qL];omega
       have e7:((O.map (fun b=>V.rs b 0 (N+1))++O9).drop (i+1)).take (D1.R.length - (i+1))=(O.map (fun b=>V.rs b 0 (N+1))).drop (i+1):=by
        rw[vO (by rw[q0];omega),uS (by rw[zO,q0];omega),zl (by rw[zO,q0];omega)]
       have e8:(((BR D1.B).flatMap cI++LJ).drop (i+1)).take (D1.R.length - (i+1))=((BR D1.B).flatMap cI).drop (i+1):=by
        rw[vO (by rw[qL];omega),uS (by rw[zO,qL];omega),zl (by rw[zO,qL];omega)]
       have e9:((O.map (fun b=>V.rs b 0 (N+1))).drop (i+1)).all qI=true:=by
        rw[wO];intro v hv;obtain⟨b,-,rfl⟩:=List.mem_map.mp (List.mem_of_mem_drop hv);rfl
       have h0:(((BR D1.B).flatMap cI).drop (i+1)).all qI=true:=by
        rw[wO];intro v hv;obtain⟨b,-,hv⟩:=List.mem_flatMap.mp (List.mem_of_mem_drop hv);rw[List.mem_singleton.mp hv];rfl
       refine⟨_,by simp only[go_sem,t0,t1,t4,t5,g1,g2,f1,f2,f3,a7,b2,b3,h3,h4,q1,q2,q3,q4,q5,q6,q7,q8,q9,e5,e6,e7,e8,e9,h0,J,v1,v2,v3,w1,w2,w3,w4,p1,p2,p3,p4,p5,n1,n2,n3,n4,n5,n6];rfl,.inl ⟨_,rfl,m-1,by omega,?_⟩⟩;simp only[go_sem,t0,t1,t4];refine⟨S,i,O.eraseIdx i,Qv D1 i,rfl,by rw[b8];omega,?_,b6,fun j hj=>?_,(sS O i).trans G,fun b b4 E=>?_⟩
       .refine Dn.dropped hT hi c8 ?_ ?_ ?_ fun b c1 c2 c3=>by rw[Zl _ _ c1,Zl _ _ c3,Zl _ _ c1,Zl _ _ c2]
        .rw[Zk,show i+(D1.R.length - (i+1))=D1.R.length-1 by omega]
        .obtain⟨e1,he⟩:=iH (O.map (fun b=>V.rs b 0 (N+1))) O9 (i:=i) q0 hi q7
         exact⟨e1,by rw[Zl _ _ v3,Zl _ _ n4,Zl _ _ v3,Zk,he]⟩
        .obtain⟨e1,he⟩:=iH ((BR D1.B).flatMap cI) LJ (i:=i) (by rw[qL,hB]) hi q7
         exact⟨e1,by rw[Zl _ _ v1,Zk,he]⟩
       .show(D1.B.eraseIdx i).getD j 0<n
        rw[lC,sH hj];exact a1 j hj
       .simp only[zV,not_or]at E
        rw[Zl _ _ E.1,Zl _ _ E.2.2.1,Zl _ _ E.1,Zl _ _ E.2.1];exact a6 b b4 (by simp only[zV,not_or];exact E)
   .have f1:¬(i:Int)<(D1.R.length:Int):=by omega
    refine .inr ⟨_,by simp only[go_sem,t0,t4,a7,f1];rfl,by simp,_,Y,nI,O,D1,rfl,hT,S,UK,fun j hj=>a1 j (by omega),G,a6⟩) D.R.length (by
   simp only[go_sem];exact⟨0,rb,D,rfl,by omega,h,hD,fun j hj=>absurd hj (zX j),List.Sublist.refl _,fun _ _ _=>trivial⟩)
 exact⟨σ',nx',Ho,D',by simp only[go_sem],hT,S,e0,b9,G,a6⟩
section
variable {P:Program} {conv:FuncId->Conv} {call:TV.Call} (d:Option Tmp) (ty:TypeId) (ps:String) (af:Array Edge) (gd:Option (Nat×Bool)) (T:Nat->V) (σ:Store) (nx:Nat)
theorem NY(t:TypeId)(l c:Operand):zI conv T σ ⟨d,.makeSlice t l c,ty,ps,af,gd⟩=[]:=rfl
theorem Xi(t:TypeId)(l c:Operand):writer conv ⟨d,.makeSlice t l c,ty,ps,af,gd⟩=false:=rfl
theorem Ph(t:TypeId)(l c:Operand):Ah P conv call ⟨d,.makeSlice t l c,ty,ps,af,gd⟩ T σ nx=EI P t (val T l) (val T c) σ nx:=by
 generalize E:EI P t (val T l) (val T c) (fun _=>none) nx=r;have key:∀σ,EI P t (val T l) (val T c) σ nx=(r.map fun p=>((p.2.1 nx).elim ([],0,p.1) fun B=>(B.cells,B.st,p.1))).map fun p=>(p.2.2,Aq σ nx p.1 p.2.1,nx+1):=fun σ=>by
  rw[<- E];unfold EI
  split
  .split
   .split
    .split
     .simp only[zG,Aq,Zk];rfl
     .rfl
    .rfl
   .rfl
  .rfl
 have:=Ie (P:=P) (conv:=conv) (call:=call) (o:=⟨d,.makeSlice t l c,ty,ps,af,gd⟩) T σ nx rfl fun σ=>(Ib d ty ps af gd T σ nx t l c).trans (key σ)
 exact this.trans (key σ).symm
theorem KT(t:TypeId)(x:Operand)(h:(vI P t).slice=true)(E:(vI P t).Rz=true)(hs:(vI P t).GR=1)(G:(vI P t).D_.length=1)(hc:qI (val T x)=true) :
  Ah P conv call ⟨d,.buildSlice t 1 #[(0,x)],ty,ps,af,gd⟩ T σ nx=some (.rs nx 0 1,upd σ nx (some ⟨[val T x],1,true⟩),nx+1):=by
 have:=Ie (P:=P) (conv:=conv) (call:=call) (o:=⟨d,.buildSlice t 1 #[(0,x)],ty,ps,af,gd⟩) (m:=some ([val T x],1,V.rs nx 0 1)) T σ nx rfl fun σ=>iU d ty ps af gd T σ nx t x h E hs G hc
 exact this
theorem aeD(t:TypeId)(lo hi E:Option V)(row:List V)(len:Nat):Tz P σ nx t lo hi E (.ts row len)=AP P t (.ts row len) lo hi E σ:=by
 show(if(([]:List Nat).all fun b=>decide (b<nx))=true then AP P t (.ts row len) lo hi E (restrict σ [])else none)=_;rw[uw,sH rfl];unfold AP;rfl
end
attribute [go_sem] aeD NY Xi Ph KT
theorem Xj(xs:List Int):∀k,(xs.flatMap cI).drop k=(xs.drop k).flatMap cI:=by
 induction xs with
 |nil=>intro k;simp
 |cons x xs E=>intro k;cases k with
  |zero=>rfl
  |succ k=>exact E k
def CO(m n:Nat)(A b c:List Int):List V:=[I m,I n,LI A,LI b,LI c]
theorem asx{m n:Nat}{A b c:List Int}(hA:A.length=m*n)(hm:m<=1000)(hn:n<=1000){i:Nat}(hi:i<m) :
  fn ZL conv ext 260 [.tp (CO m n A b c) 0,I i]=some (.ts (((A.drop (i*n)).take n).flatMap cI) n):=by
 have J:i*n<=m*n:=zL _ (by omega);have O:(i+1)*n<=m*n:=zL _ (by omega);have S:m*n<=1000*1000:=xq hm hn;have E:(i:Int)*(n:Int)=((i*n:Nat):Int):=by push_cast;rfl
 have G:((i:Int)+1)*(n:Int)=(((i+1)*n:Nat):Int):=by push_cast;rfl
 have f1:=ZT (n:=((i*n:Nat):Int));have f2:=ZT (n:=(((i+1)*n:Nat):Int)) (by omega) (by omega);have f3:=ZT (n:=(i:Int)+1);have f4:i*n<=(i+1)*n:=zL _ (by omega);have f5:(i+1)*n<=A.length:=by omega
 have f6:(0:Int)<=((i*n:Nat):Int):=by omega
 have f7:(0:Int)<=(((i+1)*n:Nat):Int):=by omega
 have f8:(i+1)*n-i*n=n:=by rw[xk];omega
 unfold CO;rw[m_,mg [.tmp 4] [] func260];simp only[go_sem,E,G,f1,f2,f3,f4,f5,f6,f7,f8];rw[Xj,qJ]
theorem fK(σ:Store)(b x:Nat):restrict σ [b,x] b=σ b:=by unfold restrict;simp
theorem IJ(σ:Store)(b x:Nat):restrict σ [b,x] x=σ x:=by unfold restrict;simp
theorem aeE(σ:Store)(b x nx:Nat)(v:Option FT):Aa [b,x] nx (nx+1) σ (upd (upd (restrict σ [b,x]) b none) nx v)=upd (upd σ b none) nx v:=by
 funext i;unfold Aa upd restrict
 by_cases h:i=nx
 .subst h;simp
 .by_cases E:i=b
  .subst E;simp[h]
  .by_cases G:i=x
   .subst G;simp[h,E]
   .rw[sJ (by simp only[zV,yc,or_false];omega),sJ h,sJ E]
theorem aaV(σ:Store)(x nx:Nat)(v:Option FT):Aa [x] nx (nx+1) σ (upd (restrict σ [x]) nx v)=upd σ nx v:=by
 funext i;unfold Aa upd restrict
 by_cases h:i=nx
 .subst h;simp
 .by_cases E:i=x
  .subst E;simp[h]
  .rw[sJ (by simp only[zV,yc,or_false];omega),sJ h]
attribute [go_sem] fK IJ aeE aaV
def pm{α:Type}(f g:Nat->α)(k N:Nat):List α:=(List.range N).map fun j=>if j<k then f j else g j
theorem gu{α:Type}(f g:Nat->α)(k N:Nat):(pm f g k N).length=N:=by simp[pm]
theorem TA{α:Type}(f g:Nat->α){k N j:Nat}(h:j<N):(pm f g k N)[j]'(by rw[gu];exact h)=if j<k then f j else g j:=by simp[pm]
theorem NZ{α:Type}(f g:Nat->α){k N:Nat}(h:k<N):(pm f g k N).set k (f k)=pm f g (k+1) N:=by
 apply yS
 .rw[xu,gu,gu]
 .intro j J E
  rw[gu]at E;rw[wF,TA _ _ E,TA _ _ E]
  by_cases e:k=j
  .subst e;rw[sH rfl,sH (by omega)]
  .rw[sJ e]
   by_cases G:j<k
   .rw[sH G,sH (by omega)]
   .rw[sJ G,sJ (by omega)]
theorem TB{α:Type}(f g:Nat->α){k N:Nat}(h:f k=g k):pm f g k N=pm f g (k+1) N:=by
 apply yS
 .rw[gu,gu]
 .intro j J E
  rw[gu]at E;rw[TA _ _ E,TA _ _ E]
  by_cases G:j<k
  .rw[sH G,sH (by omega)]
  .rw[sJ G]
   by_cases e:j=k
   .subst e;rw[sH (by omega),h]
   .rw[sJ (by omega)]
theorem IK{α:Type}(f g:Nat->α)(N:Nat):pm f g 0 N=(List.range N).map g:=by simp[pm]
theorem TD{α:Type}(f g:Nat->α)(N:Nat):pm f g N N=(List.range N).map f:=by
 unfold pm;apply xG;intro j E;rw[sH (List.mem_range.mp E)]
theorem aaW(l:List Bool){N:Nat}(h:l.length=N):((List.range N).map fun j=>l.getD j false)=l:=by
 apply yS
 .simp[h]
 .intro j G E
  simp[zx,zy E]
theorem gG{α:Type}(a:α)(N:Nat):((List.range N).map fun _=>a)=List.replicate N a:=by
 rw[List.map_const',uF]
theorem fP(N:Nat)(x:Int):rep N [I x]=(List.replicate N x).flatMap cI:=by
 induction N with
 |zero=>rfl
 |succ N E=>rw[fM,E,xO];rfl
theorem ahk(N:Nat)(x:Bool):rep N [Bo x]=(List.replicate N x).flatMap Hl:=by
 induction N with
 |zero=>rfl
 |succ N E=>rw[fM,E,xO];rfl
def sg(b:List Int)(i:Nat):Int:=if b.getD i 0<0 then -1 else 1
def cell0(A b:List Int)(m n i j:Nat):Int:=if j<n then sg b i*A.getD (i*n+j) 0 else if j<n+m then(if j=n+i then 1 else 0)else sg b i*b.getD i 0
def row0(A b:List Int)(m n i:Nat):List Int:=(List.range (n+m+1)).map fun j=>cell0 A b m n i j
def En(A b:List Int)(m n k:Nat):List (List Int):=(List.range k).map fun i=>row0 A b m n i
def fr0(m n:Nat):List Bool:=(List.range (n+m)).map fun j=>decide (j<n)
def D0(A b:List Int)(m n k:Nat):TZ:={ R:=En A b m n k,A8:=1,B:=(List.range k).map fun i=>n+i,fr:=fr0 m n }
theorem fE(A b:List Int)(m n i:Nat):(row0 A b m n i).length=n+m+1:=by simp[row0]
theorem fF(A b:List Int)(m n i:Nat){j:Nat}(h:j<n+m+1):(row0 A b m n i)[j]'(by rw[fE];exact h)=cell0 A b m n i j:=by simp[row0]
def F6(A b:List Int)(m n i k:Nat):List (Int×Bool):=newR (row0 A b m n i) (List.replicate (n+m+1) (0,true)) k
theorem aeF(A b:List Int)(m n i:Nat):(F6 A b m n i 0).flatMap zc=rep (n+m+1) [Bo false,.nil]:=by
 unfold F6;rw[JG];generalize n+m+1=q
 induction q with
 |zero=>rfl
 |succ q E=>rw[xO,fM,zK,E];rfl
theorem qQ(A b:List Int)(m n i:Nat){k:Nat}(E:k<=n+m+1):(F6 A b m n i k).length=n+m+1:=by
 unfold F6;rw[jC (by rw[fE,yU]) (by rw[yU];exact E),yU]
theorem ahl(A b:List Int)(m n i:Nat){k:Nat}(E:k<n+m+1):(F6 A b m n i k).set k (cell0 A b m n i k,false)=F6 A b m n i (k+1):=by
 unfold F6;rw[<- NQ (by rw[fE,yU]) (c:=k) (by rw[yU];exact E),fF _ _ _ _ _ E]
theorem Qx(A b:List Int){m n i:Nat}(hi:i<m):let L:=((F6 A b m n i n).set (n+i) (1,false)).set (n+m) (sg b i*b.getD i 0,false)
  L.map (·.1)=row0 A b m n i/\∀p∈L,p.2=true->p.1=0:=by
 intro L;have hl:L.length=n+m+1:=by simp only[L,xu];exact qQ _ _ _ _ _ (by omega)
 have hg:∀j (h:j<n+m+1),L[j]'(by rw[hl];exact h)=if j<n then(cell0 A b m n i j,false)else if j=n+m then(sg b i*b.getD i 0,false)else if j=n+i then(1,false)else(0,true):=fun j h=>by
  have e:(F6 A b m n i n)[j]'(by rw[qQ _ _ _ _ _ (by omega)];exact h)=if j<n then(cell0 A b m n i j,false)else(0,true):=by
   have:(F6 A b m n i n)[j]?=some (if j<n then(cell0 A b m n i j,false)else(0,true)):=by
    unfold F6 newR;have J:(((row0 A b m n i).take n).map fun z=>(z,false)).length=n:=by rw[zS,zh,fE];omega
    by_cases O:j<n
    .rw[zW (by rw[J];exact O),sH O,zF,wX,sH O,zy (by rw[fE];omega),fF _ _ _ _ _ (by omega)]
     rfl
    .rw[zN (by rw[J];omega),J,xQ,sJ O,wZ,sH (by omega)]
   rw[zy (by rw[qQ _ _ _ _ _ (by omega)];exact h)]at this;exact Option.some.inj this
  simp only[L,wF,e]
  by_cases E:j<n
  .rw[sJ (by omega),sJ (by omega),sH E,sH E]
  .by_cases Y:j=n+m
   .rw[sH Y.symm,sJ E,sH Y]
   .rw[sJ (yu Y),sJ E,sJ Y]
    by_cases h3:j=n+i
    .rw[sH h3.symm,sJ E,sH h3]
    .rw[sJ (yu h3),sJ E,sJ h3]
 refine⟨yS (by rw[zS,hl,fE]) fun j E Y=>?_,fun p hp G=>?_⟩
 .rw[zS,hl]at E
  rw[xg,hg j E,fF _ _ _ _ _ E]
  by_cases c1:j<n
  .rw[sH c1]
  .rw[sJ c1]
   unfold cell0;rw[sJ c1]
   by_cases c2:j=n+m
   .rw[sH c2,sJ (by omega)]
   .rw[sJ c2,sH (show j<n+m by omega)]
    by_cases S:j=n+i
    .rw[sH S,sH S]
    .rw[sJ S,sJ S]
 .obtain⟨j,O,rfl⟩:=yZ hp
  rw[hl]at O;rw[hg j O]at G⊢
  by_cases c1:j<n
  .rw[sH c1]at G;cases G
  .rw[sJ c1]at G⊢
   by_cases c2:j=n+m
   .rw[sH c2]at G;cases G
   .rw[sJ c2]at G⊢
    by_cases S:j=n+i
    .rw[sH S]at G;cases G
    .rw[sJ S]
def Made(A b:List Int)(m n:Nat)(Gx:Nat)(σ:Store)(nx bt bf k:Nat):Prop :=
 ∃E G br bb rb,σ bt=some ⟨[E,Bo false,LI (dg 1),G,I ((n+m:Nat):Int),.rs bf 0 (n+m)],0,true⟩ /\
  ((k=0/\E= .nil/\G= .nil/\rb=[])\/(0<k/\E= .rs br 0 k/\G= .rs bb 0 k/\σ br=some ⟨rb.map fun b=>V.rs b 0 (n+m+1),1,true⟩/\σ bb=some ⟨(BR ((List.range k).map fun i=>n+i)).flatMap cI,1,true⟩/\br≠bb/\br∉bt :: bf :: rb/\bb∉bt :: bf :: rb/\Gx<=br/\br<nx/\Gx<=bb/\bb<nx)) /\
  rb.length=k/\(∀i (h:i<rb.length),Em σ rb[i] (row0 A b m n i))/\(bt :: bf :: rb).Nodup/\(∀x∈bt :: bf :: rb,Gx<=x/\x<nx)/\σ bf=some ⟨(List.replicate (n+m) false).flatMap Hl,1,true⟩
theorem Qy{A b:List Int}{m n nx:Nat}{S σ':Store}{E i:Nat}{rb:List Nat}{L:List (Int×Bool)}(hi:i<m)(Y:rb.length=i)(a1:∀j (h:j<rb.length),Em S rb[j] (row0 A b m n j))(G:((nx+1) :: nx :: rb).Nodup)(O:∀x∈(nx+1) :: nx :: rb,nx<=x/\x<E)
  (a7:S nx=some ⟨(List.replicate (n+m) false).flatMap Hl,1,true⟩) (hL:L.map (·.1)=row0 A b m n i/\∀p∈L,p.2=true->p.1=0)
  (ht:σ' (nx+1)=some ⟨[.rs (E+1+1) 0 (i+1),Bo false,LI (dg 1),.rs (E+1+1+1+1) 0 (i+1),I ((n+m:Nat):Int),.rs nx 0 (n+m)],0,true⟩)
  (hr:σ' (E+1+1)=some ⟨rb.map (fun b=>V.rs b 0 (n+m+1))++[.rs E 0 (n+m+1)],1,true⟩)
  (hb:σ' (E+1+1+1+1)=some ⟨(BR ((List.range i).map fun i=>n+i)).flatMap cI++[I ((n+i:Nat):Int)],1,true⟩)
  (J:σ' E=some ⟨L.flatMap zc,2,true⟩) (ho:∀x∈nx :: rb,σ' x=S x):Made A b m n nx σ' (E+1+1+1+1+1) (nx+1) nx (i+1):=by
 have a6:∀x∈rb,x≠nx+1/\x≠nx/\nx<=x/\x<E:=fun x J=>by
  have h:=O x (by simp[J]);refine⟨fun e=>?_,fun e=>?_,h.1,h.2⟩
  .subst e;simp at G;exact G.1 J
  .subst e;simp at G;exact G.2.1 J
 have a8:=O (nx+1) (by simp);refine⟨_,_,E+1+1,E+1+1+1+1,rb++[E],ht,.inr ⟨by omega,rfl,rfl,?_,?_,by omega,?_,?_,by omega,by omega,by omega,by omega⟩,by simp[Y],fun j hj=>?_,?_,fun x J=>?_,?_⟩
 .rw[hr,wQ];rfl
 .rw[hb,wJ,wQ]
  unfold BR;rw[wQ,zT];rfl
 .simp only[zV,wP,yc,or_false,not_or]
  exact⟨by omega,by omega,fun h=>by have:=a6 _ h;omega,by omega⟩
 .simp only[zV,wP,yc,or_false,not_or]
  exact⟨by omega,by omega,fun h=>by have:=a6 _ h;omega,by omega⟩
 .by_cases h:j<rb.length
  .rw[xY h]
   exact(a1 j h).congr (ho _ (zY _ (zu h)))
  .have:j=i:=by rw[zo,yL]at hj;omega
   subst this;rw[vP (by omega)];simp only[Y,yP,List.getElem_cons_zero];exact⟨L,J,hL.1,hL.2⟩
 .rw[<- yT,<- yT]
  rw[List.nodup_append];refine⟨G,by simp,fun x J y hy=>?_⟩;rw[List.mem_singleton.mp hy];have:=O x J;omega
 .rw[<- yT,<- yT,wP]at J
  rcases J with h|h
  .have:=O x h;omega
  .rw[List.mem_singleton.mp h];omega
 .rw[ho nx (by simp)];exact a7
def o1L(m n:Nat):List Int:=(List.range (n+m)).map fun j=>if j<n then 0 else -1
theorem akY(m n:Nat):Obj (o1L m n) (n+m):=⟨by simp[o1L],fun x E=>by
 obtain⟨j,-,rfl⟩:=List.mem_map.mp E
 split<;>omega⟩
theorem acv{N:Nat}{o:Nat->Int}{Q:TZ->Prop}(h:∀D E,Q D->EO N o D E->Q E){D E:TZ}(G:EP N o D E):Q D->Q E:=by
 induction G with
 |refl=>exact id
 |tail Y J O=>exact fun S=>h _ _ (O S) J
theorem amu{N:Nat}{o:Nat->Int}{Q:TZ->Prop}(h:∀D E,Q D->EO N o D E->Q E){D E:TZ}{G:Bool}(hm:S9 N o D G E)(O:Q D):∃D1 fr,Q D1/\E={ D1 with fr:=fr }/\fr.length=D1.fr.length:=by
 obtain⟨D1,S,J|J⟩:=hm
 .obtain⟨-,-,fr,Y,rfl⟩:=J
  exact⟨D1,fr,acv h S O,rfl,Y.1⟩
 .obtain⟨-,rfl,-⟩:=J
  exact⟨E,E.fr,acv h S O,rfl,rfl⟩
def akZ(Q2:TZ->Prop)(A b:List Int)(m n:Nat)(σ:Store)(nx:Nat)(r:V×Store×Nat):Prop :=
 ∃σ' nx',nx<=nx'/\(∀x,x<nx->σ' x=σ x)/\∃D1 E,S9 (n+m) (oF (o1L m n)) (D0 A b m n m) E D1 /\
  ((r=(.AB [.sc (.pointer none),Bo false],σ',nx')/\∃i,i<D1.R.length/\n<=D1.B.getD i 0/\0<en D1.R i (n+m)) \/
   (∃bt br bb bf rb D2,r=(.AB [.rp bt 0,Bo true],σ',nx')/\(∀i,i<D1.R.length->n<=D1.B.getD i 0->¬0<en D1.R i (n+m))/\Dn σ' bt br bb bf rb D2 (n+m)/\Q2 D2/\(∀i,i<D2.R.length->D2.B.getD i 0<n)/\∀x∈bt :: br :: bb :: bf :: rb,nx<=x/\x<nx'))
theorem aoz(Q1 Q2:TZ->Prop){A b c:List Int}{m n:Nat}(hA:A.length=m*n)(hb:b.length=m)(G:0<m)(hm:m<=400)(hn:n<=400)(m8:∀x∈A,-1000000<=x/\x<=1000000)(m9:∀x∈b,-1000000<=x/\x<=1000000)
  (UK:∀D,Q1 D->W9 D (n+m)/\0<D.A8) (h0:∀D D',Q1 D->EO (n+m) (oF (o1L m n)) D D'->Q1 D') (i7:Q1 (D0 A b m n m)) {K:Nat} (n0:IB (n+m) (oF (o1L m n)) K (D0 A b m n m))
  (n9:∀D,Q2 D->W9 D (n+m)/\0<D.A8) (h1:∀D i k,Q2 D->i<D.R.length->n<=D.B.getD i 0->k<n->en D.R i k≠0->Q2 (FZ D i k))
  (o0:∀D i,Q2 D->i<D.R.length->n<=D.B.getD i 0->(∀k,k<n->en D.R i k=0)->Q2 (Qv D i))
  (j7:∀D1 h3,S9 (n+m) (oF (o1L m n)) (D0 A b m n m) h3 D1->(∀i,i<D1.R.length->n<=D1.B.getD i 0->¬0<en D1.R i (n+m))->Q2 { D1 with fr:=fr0 m n })
  (σ:Store) (nx:Nat):∃r,ev ZL pI Ad 218 [.tp (CO m n A b c) 0] σ nx=some r/\akZ Q2 A b m n σ nx r:=by
 obtain⟨N,hN⟩:∃N,N=n+m:=⟨_,rfl⟩;have f1:(n:Int)+(m:Int)=(N:Int):=by omega
 have f2:=ZT (n:=(N:Int));have f3:=jD N;have f4:1*(N:Int)<=281474976710656:=by omega
 have f5:(N:Int)<=9223372036854775807:=by omega
 have k1:fn ZL conv ext 172 [I 1]=some (.agg [Bo false,LI (dg 1)]):=kG 1 (by decide) (by decide)
 unfold CO;rw[mg [.tmp 2,.tmp 3] [15,18,24,38] func218];simp only[go_sem,f1,f2,f3,f4,f5,k1];generalize hL:dI _ _=y;obtain⟨x,rfl,T1,S,E,rfl,t0,t4,t5,s4,o2,hM⟩:=oZ hL m (fun i st=>st.T 0= .tp (CO m n A b c) 0/\st.T 4=I N/\st.T 5= .rp (nx+1) 0/\st.T 34=I m/\st.T 35=I i/\nx<=st.nx/\(∀x,x<nx->st.σ x=σ x)/\Made A b m n nx st.σ st.nx (nx+1) nx i)
  (fun x=>∃T S E,x=(.exit 0,⟨T,S,E⟩)/\T 0= .tp (CO m n A b c) 0/\T 4=I N/\T 5= .rp (nx+1) 0/\nx<=E/\(∀x,x<nx->S x=σ x)/\Made A b m n nx S E (nx+1) nx m) (by
   clear hL;rintro i ⟨T,S,E⟩ hi ⟨t0,t4,t5,t34,t35,h7,e6,hM⟩;simp only at t0 t4 t5 t34 t35 h7 e6 hM;have g1:(i:Int)<(m:Int):=by omega
   have g2:=jD i;have g3:=ZT (n:=(i:Int)+1);unfold CO at t0;have g4:=ZT (n:=(N:Int)+1);have g5:(0:Int)<=(N:Int)+1:=by omega
   have g6:32*((N:Int)+1)<=281474976710656:=by omega
   have g7:(N:Int)+1<=9223372036854775807:=by omega
   have g8:((N:Int)+1).toNat=N+1:=by omega
   have g9:(i:Int)<(b.length:Int):=by omega
   have g10:(b.flatMap cI)[i]?=some (I (b.getD i 0)):=by
    rw[idx (by omega),zx,zy (by omega)];rfl
   have g11:=AU b i (by omega);have bl:(b.flatMap cI).length=b.length:=qL b;have s6:-1000000<=b.getD i 0/\b.getD i 0<=1000000:=by
    rw[zx,zy (by omega)];exact m9 _ (zu (by omega))
   have k2:=asx (b:=b) (c:=c) hA (by omega) (by omega) hi;unfold CO at k2;obtain⟨Rw,i9⟩:∃Rw,Rw=(A.drop (i*n)).take n:=⟨_,rfl⟩;rw[<- i9]at k2;have h1:(i+1)*n<=m*n:=zL _ (by omega);rw[xk]at h1;have h9:Rw.length=n:=by rw[i9,zh,zO];omega
   have o3:∀j (h:j<n),Rw[j]'(by omega)=A.getD (i*n+j) 0:=fun j h=>by
    subst i9;rw[uG,List.getElem_drop,zx,zy (by omega)];rfl
   have o4:∀j (h:j<n),-1000000<=A.getD (i*n+j) 0/\A.getD (i*n+j) 0<=1000000:=fun j h=>by
    rw[zx,zy (by omega)];exact m8 _ (zu (by omega))
   obtain⟨s,hs,j8⟩:∃s,s=sg b i/\((b.getD i 0<0/\s= -1)\/(¬b.getD i 0<0/\s=1)):=by
    refine⟨_,rfl,?_⟩;unfold sg
    by_cases h:b.getD i 0<0
    .exact .inl ⟨h,sH h⟩
    .exact .inr ⟨h,sJ h⟩
   have j9:s=1\/s= -1:=by rcases j8 with ⟨_,h⟩|⟨_,h⟩<;>simp[h]
   refine bC ?_;rcases j8 with ⟨h8,k0⟩|⟨h8,k0⟩
   all_goals
    conv=>
     enter [1,r,1,1]
     simp only[go_sem,t0,t4,t5,t34,t35,g1,g2,g3,g4,g5,g6,g7,g8,g9,g10,g11,bl,h8,k2]
    generalize hL:dI _ _=z;obtain⟨x,rfl,T1,rfl,t0,t4,t5,t6,t7,t8,t34,t35⟩:=oZ hL n (fun j st=>st.T 0= .tp (CO m n A b c) 0/\st.T 4=I N/\st.T 5= .rp (nx+1) 0/\st.T 6=I i/\st.T 7= .rs E 0 (N+1)/\st.T 8=I s/\st.T 34=I m/\st.T 35=I i/\st.T 51= .ts (Rw.flatMap cI) n/\st.T 52=I n/\st.T 53=I j/\st.nx=E+1/\st.σ=upd S E (some ⟨(F6 A b m n i j).flatMap zc,2,true⟩))
     (fun x=>∃T,x=(.exit 2,⟨T,upd S E (some ⟨(F6 A b m n i n).flatMap zc,2,true⟩),E+1⟩)/\T 0= .tp (CO m n A b c) 0/\T 4=I N/\T 5= .rp (nx+1) 0/\T 6=I i/\T 7= .rs E 0 (N+1)/\T 8=I s/\T 34=I m/\T 35=I i) (by
      clear hL;rintro j ⟨T,σ2,m0⟩ hj ⟨t0,t4,t5,t6,t7,t8,t34,t35,t51,t52,t53,G,Y⟩;simp only at t0 t4 t5 t6 t7 t8 t34 t35 t51 t52 t53 G Y;subst G Y;have a1:(j:Int)<(n:Int):=by omega
      have a2:=jD j;have a3:=ZT (n:=(j:Int)+1);have a4:(Rw.flatMap cI)[j]?=some (I (A.getD (i*n+j) 0)):=by rw[idx (by omega),o3 j hj]
      have a12:=AU Rw j (by omega);have a5:(Rw.flatMap cI).length=n:=by rw[qL,h9]
      have J:=o4 j hj;obtain⟨x,ex⟩:∃x,x=A.getD (i*n+j) 0:=⟨_,rfl⟩;rw[<- ex]at a4 J;have o5:-1000000<=s*x/\s*x<=1000000:=by rcases j9 with h|h<;>rw[h]<;>omega
      have a6:=ZT (n:=s*x);have a7:=kG (s*x) (by omega) (by omega);have a8:=bZ (c:=zc) (s:=2) ZO (F6 A b m n i j);rw[qQ _ _ _ _ _ (by omega),<- hN]at a8;have a9:(j:Int)<((N+1:Nat):Int):=by omega
      have i0:j*2+2<=(N+1)*2:=by omega
      have i1:patch ((F6 A b m n i j).flatMap zc) (j*2) (cZ (s*x))=(F6 A b m n i (j+1)).flatMap zc:=by
       rw[<- acp,iF ZO _ _ (by rw[qQ _ _ _ _ _ (by omega)];omega),<- ahl _ _ _ _ _ (by omega)];congr 3;unfold cell0;rw[sH hj,<- ex,hs]
      refine .inl ⟨_,by simp only[go_sem,t0,t4,t5,t6,t7,t8,t34,t35,t51,t52,t53,a1,a2,a3,a4,a5,a6,a7,a8,a9,i0,i1,a12];rfl,?_⟩;simp only[go_sem,t0,t4,t5,t6,t7,t8,t34,t35,t51,t52,t53];rfl) (by
      rintro ⟨T,σ2,m0⟩ ⟨t0,t4,t5,t6,t7,t8,t34,t35,t51,t52,t53,G,Y⟩;simp only at t0 t4 t5 t6 t7 t8 t34 t35 t51 t52 t53 G Y;subst G Y;have a1:¬(n:Int)<(n:Int):=by omega
      refine⟨_,by simp only[go_sem,t52,t53,a1];rfl,by simp,_,rfl,?_⟩;simp only[go_sem,t0,t4,t5,t6,t7,t8,t34,t35]) (by
      simp only[go_sem,aeF,<- hN,k0,CO,t0,t4,t5,t34,t35])
    clear hL;obtain⟨L2,i2⟩:∃L2,L2=(F6 A b m n i n).set (n+i) (1,false):=⟨_,rfl⟩;obtain⟨L3,i3⟩:∃L3,L3=L2.set (n+m) (s*b.getD i 0,false):=⟨_,rfl⟩;have j0:=qQ A b m n i (k:=n) (by omega);have j1:L2.length=n+m+1:=by rw[i2,xu];exact j0
    have s7:L3.length=n+m+1:=by rw[i3,xu];exact j1
    have d1:patch ((F6 A b m n i n).flatMap zc) ((n+i)*2) [Bo false,LI (dg 1)]=L2.flatMap zc:=by
     rw[i2,<- iF ZO _ _ (by rw[j0];omega)];rfl
    have d2:patch (L2.flatMap zc) (N*2) (cZ (s*b.getD i 0))=L3.flatMap zc:=by
     rw[i3,hN,<- iF ZO _ _ (by rw[j1];omega),<- acp]
    have d3:=bZ (c:=zc) (s:=2) ZO (F6 A b m n i n);rw[j0,<- hN]at d3;have d4:=bZ (c:=zc) (s:=2) ZO L2;rw[j1,<- hN]at d4;have o5:-1000000<=s*b.getD i 0/\s*b.getD i 0<=1000000:=by rcases j9 with h|h<;>rw[h]<;>omega
    have a1:=ZT (n:=s*b.getD i 0);have a2:=kG (s*b.getD i 0) (by omega) (by omega);have a3:(n:Int)+(i:Int)=((n+i:Nat):Int):=by omega
    have a4:=ZT (n:=((n+i:Nat):Int));have a5:((n+i:Nat):Int)<((N+1:Nat):Int):=by omega
    have a6:(0:Int)<=((n+i:Nat):Int):=by omega
    have a7:(N:Int)<((N+1:Nat):Int):=by omega
    have a8:(n+i)*2+2<=(N+1)*2:=by omega
    have a9:N*2+2<=(N+1)*2:=by omega
    have i0:E<E+1:=by omega
    obtain⟨rV,bV,br,bb,rb,e7,c6,h5,e4,c3,c4,i4⟩:=hM;have s8:nx+1<E:=(c4 _ (by simp)).2;have i1:¬nx+1=E:=by omega
    have a12:¬nx+1=E+1:=by omega
    have k3:¬nx+1=E+1+1:=by omega
    have k4:¬nx+1=E+1+1+1:=by omega
    have k5:¬nx+1=E+1+1+1+1:=by omega
    have k6:nx+1<E+1+1:=by omega
    have k7:nx+1<E+1+1+1:=by omega
    have k8:nx+1<E+1+1+1+1:=by omega
    have k9:1<=maxLen:=by decide
    have a24:nx+1<E+1+1+1+1+1:=by omega
    have l1:E+1+1+1<E+1+1+1+1:=by omega
    have l2:E+1+1<E+1+1+1:=by omega
    have l3:E+1<E+1+1:=by omega
    have a20:¬E+1=nx+1:=by omega
    have a21:¬E+1+1=nx+1:=by omega
    have l4:¬E+1+1+1=nx+1:=by omega
    have i5:¬E+1+1+1+1=nx+1:=by omega
    unfold CO at t0;rcases c6 with ⟨hi0,rfl,rfl,rfl⟩|⟨hk,rfl,rfl,j2,j3,O,TF,TG,l5,j4,l6,j5⟩
    .refine⟨_,by simp only[go_sem,t0,t4,t5,t6,t7,t8,t34,t35,e7,k1,f3,g1,g2,g3,g9,g10,g11,bl,d1,d2,d3,d4,a1,a2,a3,a4,a5,a6,a7,a8,a9,i0,i1,a12,k3,k4,k5,k6,k7,k8,k9,a20,a21,l4,i5,a24,l1,l2,l3];rfl,.inl ⟨_,rfl,?_⟩⟩
     simp only[go_sem,t0,t4,t5,t34,t35];refine⟨rfl,rfl,by omega,fun x J=>?_,Qy (L:=L3) hi h5 e4 c3 c4 i4 (by rw[i3,i2,hs];exact Qx A b hi) ?_ ?_ ?_ ?_ fun x J=>?_⟩
     .rw[Zm,Zm,Zm,Zm,Zm,Zm,Zm]
      exact e6 x J
     .rw[Zk,hi0]
     .rw[Zl _ _ a21,Zm,Zm,Zl _ _ a21,Zk,hN];rfl
     .rw[Zl _ _ i5,Zk,hi0];rfl
     .rw[Zm,Zm,Zm,Zm,Zm,Zm,Zk]
     .rw[List.mem_singleton.mp J]
      rw[Zm,Zm,Zm,Zm,Zm,Zm,Zm]
    .have b1:(rb.map fun b=>V.rs b 0 (n+m+1)).length=i:=by rw[zS,h5]
     have b2:((BR ((List.range i).map fun i=>n+i)).flatMap cI).length=i:=by rw[qL,aA];simp
     have b3:¬i+1<=i:=by omega
     have b4:i+1<=maxLen:=by unfold maxLen;omega
     have b5:(i+1)*24<=140737488355328:=by omega
     have b6:(i+1)*8<=140737488355328:=by omega
     have b7:¬br=E:=by omega
     have b8:¬br=E+1:=by omega
     have b9:¬bb=E:=by omega
     have o6:¬bb=E+1:=by omega
     have o7:¬bb=E+1+1:=by omega
     have p0:¬bb=E+1+1+1:=by omega
     have l7:¬bb=nx+1:=fun e=>TG (by simp[e])
     have l8:¬br=nx+1:=fun e=>TF (by simp[e])
     have p1:¬bb=br:=yu O;have p2:¬nx+1=br:=yu l8;have p3:¬nx+1=bb:=yu l7;have p4:bb<E+1+1+1:=by omega
     have p5:bb<E+1+1+1+1:=by omega
     refine⟨_,by simp only[go_sem,t0,t4,t5,t6,t7,t8,t34,t35,e7,k1,f3,g1,g2,g3,g9,g10,g11,bl,d1,d2,d3,d4,a1,a2,a3,a4,a5,a6,a7,a8,a9,i0,i1,a12,k3,k4,k5,k6,k7,k8,k9,a20,a21,l4,i5,a24,l1,l2,l3,j2,j3,b1,b2,b3,b4,b5,b6,b7,b8,b9,o6,o7,p0,l7,l8,p1,p2,p3,p4,p5];rfl,.inl ⟨_,rfl,?_⟩⟩;simp only[go_sem,t0,t4,t5,t34,t35];refine⟨rfl,rfl,by omega,fun x J=>?_,Qy (L:=L3) hi h5 e4 c3 c4 i4 (by rw[i3,i2,hs];exact Qx A b hi) ?_ ?_ ?_ ?_ fun x J=>?_⟩
     .repeat rw[Zm]
      exact e6 x J
     .rw[Zk]
     .rw[Zl _ _ a21,Zm,Zm,Zm,Zl _ _ a21,Zk,hN]
     .rw[Zl _ _ i5,Zk]
     .repeat rw[Zm]
      rw[Zk]
     .have s9:=c4 x (zY _ J)
      have e1:x≠nx+1:=fun e=>by subst e;exact(List.nodup_cons.mp c3).1 J
      have e2:x≠br:=fun e=>by subst e;exact TF (zY _ J)
      have e3:x≠bb:=fun e=>by subst e;exact TG (zY _ J)
      repeat rw[Zm]) (by
   rintro ⟨T,S,E⟩ ⟨t0,t4,t5,t34,t35,h7,e6,hM⟩;simp only at t0 t4 t5 t34 t35 h7 e6 hM;have g1:¬(m:Int)<(m:Int):=by omega
   refine⟨_,by simp only[go_sem,t34,t35,g1];rfl,by simp,_,_,_,rfl,?_⟩;exact⟨t0,t4,t5,h7,e6,hM⟩) (by
   simp only[go_sem];refine⟨rfl,by omega,fun x J=>?_,?_⟩
   .rw[Zm,Zm]
   .refine⟨.nil,.nil,0,0,[],?_,.inl ⟨rfl,rfl,rfl,rfl⟩,rfl,fun i h=>absurd h (zX _),by simp,by simp;omega,?_⟩
    .rw[Zk,hN]
    .rw[Zm,Zk,<- hN,<- ahk])
 clear hL;obtain⟨rV,bV,br,bb,rb,e7,c6,h5,e4,c3,c4,i4⟩:=hM;obtain⟨-,rfl,rfl,j2,j3,O,TF,TG,l5,j4,l6,j5⟩:0<m/\rV= .rs br 0 m/\bV= .rs bb 0 m/\S br=some ⟨rb.map fun b=>V.rs b 0 (n+m+1),1,true⟩/\S bb=some ⟨(BR ((List.range m).map fun i=>n+i)).flatMap cI,1,true⟩/\br≠bb/\br∉(nx+1) :: nx :: rb/\bb∉(nx+1) :: nx :: rb/\nx<=br/\br<E/\nx<=bb/\bb<E:=by
  rcases c6 with ⟨h,_⟩|h
  .omega
  .exact h
 have u0:nx+1<E:=(c4 _ (by simp)).2;have c1:8*(N:Int)<=281474976710656:=by omega
 unfold CO at t0;rw[<- hN]at e7;simp only[go_sem,t0,t4,t5,f2,f3,c1,f5];generalize hL:dI _ _=z
 obtain⟨x,rfl,T2,σ2,rfl,t0,t4,t5,t11,p6,p7,h2⟩:=oZ hL N (fun k st=>st.T 0= .tp (CO m n A b c) 0/\st.T 4=I N/\st.T 5= .rp (nx+1) 0/\st.T 11= .rs E 0 N/\st.T 117=I N/\st.T 118=I k/\st.nx=E+1 /\
   st.σ nx=some ⟨(pm (fun j=>decide (j<n)) (fun _=>false) k N).flatMap Hl,1,true⟩/\st.σ E=some ⟨(pm (fun j=>if j<n then(0:Int)else -1) (fun _=>0) k N).flatMap cI,1,true⟩/\∀x,x<E->x≠nx->st.σ x=S x)
  (fun x=>∃T σ2,x=(.exit 4,⟨T,σ2,E+1⟩)/\T 0= .tp (CO m n A b c) 0/\T 4=I N/\T 5= .rp (nx+1) 0/\T 11= .rs E 0 N /\
   σ2 nx=some ⟨(fr0 m n).flatMap Hl,1,true⟩/\σ2 E=some ⟨(o1L m n).flatMap cI,1,true⟩/\∀x,x<E->x≠nx->σ2 x=S x) (by
   clear hL;rintro k ⟨T,σ2,m0⟩ hk ⟨t0,t4,t5,t11,t117,e8,G,hf,ho,hs⟩;simp only at t0 t4 t5 t11 t117 e8 G hf ho hs;subst G;have g1:(k:Int)<(N:Int):=by omega
   have g2:=jD k;have g3:=ZT (n:=(k:Int)+1);have NU:=(hs (nx+1) (by omega) (by omega)).trans e7;have q1:nx+1<E+1:=by omega
   have q2:nx<E+1:=by omega
   have q3:¬nx+1=nx:=by omega
   have q4:¬nx=nx+1:=by omega
   have q5:¬E=nx:=by omega
   have q6:((pm (fun j=>decide (j<n)) (fun _=>false) k N).flatMap Hl).length=N:=by rw[acs,gu,yQ]
   have q7:((pm (fun j=>if j<n then(0:Int)else -1) (fun _=>0) k N).flatMap cI).length=N:=by rw[qL,gu]
   have q8:k+1<=N:=hk;unfold CO at t0;have e1:∀bb,bb=decide (k<n)->((pm (fun j=>decide (j<n)) (fun _=>false) k N).flatMap Hl).set k (Bo bb)=(pm (fun j=>decide (j<n)) (fun _=>false) (k+1) N).flatMap Hl:=fun bb h=>by
    rw[Tv,h,NZ (fun j=>decide (j<n)) (fun _=>false) hk]
   by_cases c7:k<n
   .have g4:(k:Int)<(n:Int):=by omega
    have g5:¬(n:Int)<=(k:Int):=by omega
    have e2:=e1 true (by rw[sF c7]);have e3:=TB (fun j=>if j<n then(0:Int)else -1) (fun _=>0) (k:=k) (N:=N) (by simp only[sH c7]);refine .inl ⟨_,by simp only[go_sem,t0,t4,t5,t11,t117,e8,NU,hf,ho,hk,g1,g2,g3,g4,g5,q1,q2,q3,q4,q5,q6,q7,q8,e2];rfl,?_⟩;simp only[go_sem,t0,t4,t5,t11,t117,q5];exact⟨rfl,rfl,by rw[ho,e3],fun x J O=>by rw[Zl _ _ O];exact hs x J O⟩
   .have g4:¬(k:Int)<(n:Int):=by omega
    have g5:(n:Int)<=(k:Int):=by omega
    have e2:=e1 false (by rw[sD c7]);have e3:((pm (fun j=>if j<n then(0:Int)else -1) (fun _=>0) k N).flatMap cI).set k (I (-1))=(pm (fun j=>if j<n then(0:Int)else -1) (fun _=>0) (k+1) N).flatMap cI:=by
     rw[qK,<- NZ (fun j=>if j<n then(0:Int)else -1) (fun _=>0) hk];simp only[sJ c7]
    refine .inl ⟨_,by simp only[go_sem,t0,t4,t5,t11,t117,e8,NU,hf,ho,hk,g1,g2,g3,g4,g5,q1,q2,q3,q4,q5,q6,q7,q8,e2,e3];rfl,?_⟩;simp only[go_sem,t0,t4,t5,t11,t117,q5];refine⟨rfl,rfl,?_,fun x J O=>?_⟩
    .rw[Zm,Zk]
    .rw[Zm,Zl _ _ O];exact hs x J O) (by
   rintro ⟨T,σ2,m0⟩ ⟨t0,t4,t5,t11,t117,e8,G,hf,ho,hs⟩;simp only at t0 t4 t5 t11 t117 e8 G hf ho hs;subst G;have g1:¬(N:Int)<(N:Int):=by omega
   refine⟨_,by simp only[go_sem,t117,e8,g1];rfl,by simp,_,_,rfl,?_⟩;simp only[go_sem,t0,t4,t5,t11];rw[TD]at hf ho;unfold fr0 o1L;rw[<- hN];exact⟨hf,ho,hs⟩) (by
   simp only[go_sem,t0,t4,t5];refine⟨rfl,?_,?_,fun x J _=>?_⟩
   .rw[Zm,IK,gG,hN];exact i4
   .rw[IK,gG,<- fP]
   .rw[Zm])
 clear hL;have c8:∀x∈(nx+1) :: br :: bb :: nx :: rb,nx<=x/\x<E:=fun x J=>by
  simp only[zV]at J;rcases J with h|h|h|h|h
  .exact c4 x (by simp[h])
  .subst h;exact⟨l5,j4⟩
  .subst h;exact⟨l6,j5⟩
  .exact c4 x (by simp[h])
  .exact c4 x (by simp[h])
 have l9:((nx+1) :: br :: bb :: nx :: rb).Nodup:=by
  simp only[xW,zV,not_or]at c3 TF TG⊢;exact⟨⟨fun e=>TF.1 e.symm,fun e=>TG.1 e.symm,c3.1.1,c3.1.2⟩,⟨O,TF.2.1,TF.2.2⟩,⟨TG.2.1,TG.2.2⟩,c3.2.1,c3.2.2⟩
 have hT:Dn σ2 (nx+1) br bb nx rb (D0 A b m n m) (n+m):=by
  obtain⟨n1,n2,n3,n4,n5,n6,n7,n8⟩:=nd4 l9;have h9:(D0 A b m n m).R.length=m:=by simp[D0,En]
  refine⟨?_,⟨[],?_⟩,fun i hi=>?_,⟨[],?_⟩,p6,by rw[h9,h5],l9⟩
  .rw[h2 (nx+1) (by omega) (by omega),e7,h9,hN];rfl
  .rw[h2 br j4 n5,j2,zC]
  .have p8:=zu hi
   have:=c8 rb[i] (by simp);have e:DL (D0 A b m n m).R i=row0 A b m n i:=by
    unfold D0 En DL;rw[zx,zF,xM (by omega)];rfl
   rw[e];exact(e4 i hi).congr (h2 _ this.2 (n7 _ p8).2.2.2)
  .rw[h2 bb j5 n6,j3,zC];rfl
 obtain⟨u1,u2⟩:=UK _ i7;obtain⟨c9,Au,h3,D1,ke,c5,NT,s5,p9⟩:=asw Q1 UK h0 (akY m n) i7 n0 hT (nx:=E+1) (fun x J=>by have:=c8 x J;omega) p7 (by omega) (fun J=>by have:=c8 E J;omega);rw[<- hN]at ke;obtain⟨q0,m1,m2,rfl,r0⟩:=amu h0 c5 i7;have e9:=(UK _ m2).1.free (fr:=m1) (by rw[r0];exact(UK _ m2).1.W_);obtain⟨D1,r1⟩:∃D1:TZ,D1={ q0 with fr:=m1 }:=⟨_,rfl⟩;rw[<- r1]at NT c5 e9;have KU:=NT.t;have f13:nx+1<Au:=by omega
 simp only[go_sem,qB,t0,t4,t5,t11,ke,KU,f13];generalize hL:dI _ _=z;obtain⟨n1,n2,n3,n4,n5,n6,n7,n8⟩:=nd4 NT.nd;have u5:=e9.Gn;have r2:=NT.len;obtain⟨O9,m3⟩:=NT.r;obtain⟨LJ,j6⟩:=NT.b;have u6:(BR D1.B).length=D1.R.length:=by rw[aA];exact e9.Bc
 obtain⟨x,rfl,J⟩:=oZ hL D1.R.length (fun i st=>st.T 0= .tp (CO m n A b c) 0/\st.T 4=I N/\st.T 5= .rp (nx+1) 0/\st.T 149= .rs bb 0 D1.R.length/\st.T 150=I D1.R.length/\st.T 151=I i/\st.σ=c9/\st.nx=Au/\∀j,j<i->n<=D1.B.getD j 0->¬0<en D1.R j (n+m))
  (fun x=>∃T,(x=(.exit 6,⟨T,c9,Au⟩)/\T 0= .tp (CO m n A b c) 0/\T 5= .rp (nx+1) 0/\∀j,j<D1.R.length->n<=D1.B.getD j 0->¬0<en D1.R j (n+m)) \/
   (x=(.ret,⟨T,c9,Au⟩)/\T 2= .sc (.pointer none)/\T 3=Bo false/\∃i,i<D1.R.length/\n<=D1.B.getD i 0/\0<en D1.R i (n+m))) (by
   clear hL;rintro i ⟨T,CP,Fe⟩ hi ⟨t0,t4,t5,Xk,TI,e0,Y,h6,c0⟩;simp only at t0 t4 t5 Xk TI e0 Y h6;subst Y h6;have g1:(i:Int)<(D1.R.length:Int):=by omega
   have g2:=jD i;have g3:=ZT (n:=(i:Int)+1);have g4:((BR D1.B).flatMap cI++LJ)[i]?=some (I ((D1.B.getD i 0:Nat):Int)):=by
    rw[zW (by rw[qL];omega),idx (by omega),aB (by have:=e9.Bc;omega)]
   unfold CO at t0;have next:∀(hn:n<=D1.B.getD i 0->¬0<en D1.R i (n+m)),∀j,j<i+1->n<=D1.B.getD j 0->¬0<en D1.R j (n+m):=fun hn j hj h=>by
    by_cases e:j=i
    .subst e;exact hn h
    .exact c0 j (by omega) h
   by_cases m4:n<=D1.B.getD i 0
   .have g5:(n:Int)<=((D1.B.getD i 0:Nat):Int):=by omega
    have m5:i<rb.length:=by omega
    have f6:=fV (ex:=O9) (n:=n+m+1) m5;obtain⟨bi,Fb⟩:∃bi,bi=rb[i]:=⟨_,rfl⟩;rw[<- Fb]at f6;obtain⟨Li,Tq,GX,Tt⟩:=NT.row i m5;have m6:CP bi=some ⟨Li.flatMap zc,2,true⟩:=by rw[Fb];exact Tq
    have rl:(DL D1.R i).length=n+m+1:=by rw[dS hi];exact e9.row _ (zu hi)
    have KR:Li.length=n+m+1:=by have:=congrArg List.length GX;rw[zS,rl]at this;exact this
    have b7:=bZ (c:=zc) (s:=2) ZO Li;rw[KR]at b7;have g6:=d_ (c:=zc) (s:=2) ZO Li N (by omega);have g7:N*2+2<=(n+m+1)*2:=by omega
    have g8:(N:Int)<((n+m+1:Nat):Int):=by omega
    obtain⟨hq,e⟩:=Qs GX (c:=N) (by rw[rl];omega);have e2:(DL D1.R i)[N]'(by rw[rl];omega)=en D1.R i (n+m):=by
     unfold en;rw[zx,zy (by rw[rl];omega)];simp only[hN];rfl
    have z1:∀σ d,stripL (strip σ d) (zc Li[N])=some (cZ (en D1.R i (n+m)),[]):=fun σ d=>by
     rw[ZN σ d (Tt _ (zu hq)),e,e2]
    have k1:=jy (en D1.R i (n+m));have c1:=pG (en D1.R i (n+m))
    by_cases e5:0<en D1.R i (n+m)
    .have c2:0<Am (en D1.R i (n+m)) 0:=by
      have:=mt c1.mp (fun h=>h e5);omega
     refine .inr ⟨_,by simp only[go_sem,t0,t4,t5,Xk,TI,e0,KU,j6,m3,m6,f3,f6,g1,g2,g3,g4,g5,g6,g7,g8,b7,z1,k1,c2];rfl,by simp,_,.inr ⟨rfl,?_⟩⟩;simp only[go_sem];exact⟨i,hi,m4,e5⟩
    .have c2:¬0<Am (en D1.R i (n+m)) 0:=by
      have:=c1.mpr e5;omega
     refine .inl ⟨_,by simp only[go_sem,t0,t4,t5,Xk,TI,e0,KU,j6,m3,m6,f3,f6,g1,g2,g3,g4,g5,g6,g7,g8,b7,z1,k1,c2];rfl,?_⟩;simp only[go_sem,t0,t4,t5,Xk,TI];exact⟨rfl,rfl,next fun _=>e5⟩
   .have g5:¬(n:Int)<=((D1.B.getD i 0:Nat):Int):=by omega
    refine .inl ⟨_,by simp only[go_sem,t0,t4,t5,Xk,TI,e0,j6,g1,g2,g3,g4,g5];rfl,?_⟩;simp only[go_sem,t0,t4,t5,Xk,TI];exact⟨rfl,rfl,next fun h=>absurd h m4⟩) (by
   rintro ⟨T,CP,Fe⟩ ⟨t0,t4,t5,Xk,TI,e0,Y,h6,c0⟩;simp only at t0 t4 t5 Xk TI e0 Y h6;subst Y h6;have g1:¬(D1.R.length:Int)<(D1.R.length:Int):=by omega
   refine⟨_,by simp only[go_sem,TI,e0,g1];rfl,by simp,_,.inl ⟨rfl,?_⟩⟩;simp only[go_sem,t0,t5];exact c0) (by
   simp only[go_sem,t0,t4,t5];exact fun j hj=>absurd hj (zX j))
 clear hL;have i6:∀x,x<nx->c9 x=σ x:=fun x J=>by
  have e1:=p9 x (by omega) (fun h=>by
   have:=c8 x (by simp only[zV]at h⊢;rcases h with h|h|h|h<;>simp[h]);omega)
  rw[e1,h2 x (by omega) (by omega),o2 x J]
 rcases J with ⟨T3,⟨rfl,t0,t5,c0⟩|⟨rfl,t2,t3,hi⟩⟩
 .unfold CO at t0
  have r3:=NT.f;have r4:D1.fr.length=N:=by rw[e9.W_,hN]
  have f14:nx<Au:=by omega
  simp only[go_sem,t0,t5,KU,f13];generalize hL:dI _ _=z
  obtain⟨x,rfl,T4,CP,rfl,t0,t5,r5,h4⟩:=oZ hL N (fun k st=>st.T 0= .tp (CO m n A b c) 0/\st.T 5= .rp (nx+1) 0/\st.T 181=I N/\st.T 182=I k/\st.nx=Au /\
    st.σ nx=some ⟨(pm (fun j=>decide (j<n)) (fun j=>D1.fr.getD j false) k N).flatMap Hl,1,true⟩/\∀x,x≠nx->st.σ x=c9 x)
   (fun x=>∃T CP,x=(.exit 8,⟨T,CP,Au⟩)/\T 0= .tp (CO m n A b c) 0/\T 5= .rp (nx+1) 0/\CP nx=some ⟨(fr0 m n).flatMap Hl,1,true⟩/\∀x,x≠nx->CP x=c9 x) (by
    clear hL;rintro k ⟨T,CP,m0⟩ hk ⟨t0,t5,Xl,t182,G,hf,hs⟩;simp only at t0 t5 Xl t182 G hf hs;subst G;have g1:(k:Int)<(N:Int):=by omega
    have g2:=jD k;have g3:=ZT (n:=(k:Int)+1);have m7:=(hs (nx+1) (by omega)).trans KU;have q3:¬nx+1=nx:=by omega
    have q4:¬nx=nx+1:=by omega
    have q6:((pm (fun j=>decide (j<n)) (fun j=>D1.fr.getD j false) k N).flatMap Hl).length=N:=by rw[acs,gu,yQ]
    have q8:k+1<=N:=hk;have q9:(k:Int)<((n+m:Nat):Int):=by omega
    unfold CO at t0;have e1:∀bb,bb=decide (k<n)->((pm (fun j=>decide (j<n)) (fun j=>D1.fr.getD j false) k N).flatMap Hl).set k (Bo bb)=(pm (fun j=>decide (j<n)) (fun j=>D1.fr.getD j false) (k+1) N).flatMap Hl:=fun bb h=>by
     rw[Tv,h,NZ (fun j=>decide (j<n)) (fun j=>D1.fr.getD j false) hk]
    by_cases c7:k<n
    .have g4:(k:Int)<(n:Int):=by omega
     have e2:=e1 true (by rw[sF c7]);refine .inl ⟨_,by simp only[go_sem,t0,t5,Xl,t182,m7,hf,hk,g1,g2,g3,g4,f13,f14,q3,q4,q6,q8,q9,e2];rfl,?_⟩;simp only[go_sem,t0,t5,Xl];exact⟨rfl,rfl,fun x O=>by rw[Zl _ _ O];exact hs x O⟩
    .have g4:¬(k:Int)<(n:Int):=by omega
     have e2:=e1 false (by rw[sD c7]);refine .inl ⟨_,by simp only[go_sem,t0,t5,Xl,t182,m7,hf,hk,g1,g2,g3,g4,f13,f14,q3,q4,q6,q8,q9,e2];rfl,?_⟩;simp only[go_sem,t0,t5,Xl];exact⟨rfl,rfl,fun x O=>by rw[Zl _ _ O];exact hs x O⟩) (by
    rintro ⟨T,CP,m0⟩ ⟨t0,t5,Xl,t182,G,hf,hs⟩;simp only at t0 t5 Xl t182 G hf hs;subst G;have g1:¬(N:Int)<(N:Int):=by omega
    refine⟨_,by simp only[go_sem,Xl,t182,g1];rfl,by simp,_,_,rfl,?_⟩;simp only[go_sem,t0,t5];rw[TD]at hf;unfold fr0;rw[<- hN];exact⟨hf,hs⟩) (by
    simp only[go_sem,t0,t5,<- hN];refine⟨rfl,?_⟩;rw[IK,aaW _ r4];exact⟨r3,fun _ _=>trivial⟩)
  clear hL;have r6:=NT.free (fr:=fr0 m n) (σ':=CP) r5 h4;obtain⟨EG,oI,r7,D5,r8,Gp,u7,r9,s1,s2,s3⟩:=aoy Q2 n9 (Nat.le_add_right n m) h1 o0 (j7 D1 h3 c5 c0) r6 (nx:=Au) (fun x J=>by have:=c8 x J;omega);unfold CO at t0;refine⟨_,by simp only[go_sem,qB,t0,t5,r8];rfl,?_⟩;refine⟨EG,oI,by omega,fun x J=>?_,D1,h3,c5,.inr ⟨nx+1,br,bb,nx,r7,D5,rfl,c0,Gp,r9,s1,fun x J=>?_⟩⟩
  .rw[s3 x (by omega) (fun h=>by
    have:=c8 x (by simp only[zV]at h⊢;rcases h with h|h|h|h<;>simp[h]);omega),h4 x (by omega),i6 x J]
  .have:=c8 x (by
    simp only[zV]at J⊢;rcases J with h|h|h|h|h
    .exact .inl h
    .exact .inr (.inl h)
    .exact .inr (.inr (.inl h))
    .exact .inr (.inr (.inr (.inl h)))
    .exact .inr (.inr (.inr (.inr (s2.subset h)))))
   omega
 .refine⟨_,by simp only[go_sem,t2,t3],c9,Au,by omega,i6,D1,h3,c5,.inl ⟨rfl,hi⟩⟩
def AO(A b c:List Int)(m n:Nat):Prog:=⟨m,n,fun j k=>((sg b k*A.getD (k*n+j) 0:Int):Rat),fun k=>((sg b k*b.getD k 0:Int):Rat),fun j=>((c.getD j 0:Int):Rat)⟩
structure KW (A b c:List Int) (m n:Nat):Prop where
 hA:A.length=m*n
 hb:b.length=m
 hc:c.length=n
 m0:0<m
 hm:m<=12
 hn:n<=16
 bA:∀x∈A,-1000<=x/\x<=1000
 bb:∀x∈b,-1000<=x/\x<=1000
 bc:∀x∈c,-1000<=x/\x<=1000
theorem lD{l:List Int}(h:∀x∈l,-1000<=x/\x<=1000)(i:Nat):-1000<=l.getD i 0/\l.getD i 0<=1000:=by
 rw[zx]
 by_cases hi:i<l.length
 .rw[zy hi];exact h _ (zu hi)
 .rw[z_ (by omega)];simp
theorem Xm(b:List Int)(i:Nat):sg b i=1\/sg b i= -1:=by
 unfold sg;split<;>simp
theorem Qz{b:List Int}{i:Nat}{x:Int}(h:-1000<=x/\x<=1000):(sg b i*x).natAbs<=1000:=by
 rcases Xm b i with e|e<;>rw[e]<;>omega
theorem aeH(b:List Int)(i:Nat):0<=sg b i*b.getD i 0:=by
 unfold sg
 split<;>omega
section
variable {A b c:List Int} {m n:Nat}
theorem gZ(h:KW A b c m n):Whole (AO A b c m n) 1000 :=
 ⟨by decide,fun j k _ _=>⟨_,rfl,Qz (lD h.bA _)⟩,fun k _=>⟨_,rfl,Qz (lD h.bb _)⟩⟩
theorem gi:(AO A b c m n).Good (AO A b c m n).T0:=Prog.arX fun k _=>by
 show(0:Rat)<=((sg b k*b.getD k 0:Int):Rat)
 exact_mod_cast aeH b k
theorem TJ:∀m,m<=12->ln (fact 1000 m)<=m+1
 |0,_=>by show ln 1<=1;exact jT (by decide)
 |m+1,h=>by
  show ln ((m+1)*(1000*fact 1000 m))<=_;rw[<- uj];have E:=jX ((m+1)*1000) (fact 1000 m);have G:=TJ m (by omega);have J:ln ((m+1)*1000)<=1:=jT (by omega);omega
theorem Xn{i j k:Nat}(hi:i<k)(E:j<n+m+1):en (En A b m n k) i j=cell0 A b m n i j:=by
 have e:DL (En A b m n k) i=row0 A b m n i:=by
  unfold En DL;rw[zx,zF,xM hi];rfl
 unfold en;rw[e,zx,zy (by rw[fE];exact E),fF _ _ _ _ _ E];rfl
theorem g_{k i:Nat}(h:i<k):(List.range k).getD i 0=i:=by
 rw[zx,xM h];rfl
theorem view0:Vw (AO A b c m n) (AO A b c m n).T0 (D0 A b m n m) (List.range m):=by
 have E:(D0 A b m n m).R.length=m:=by simp[D0,En]
 have Y:∀i,i<m->(D0 A b m n m).B.getD i 0=n+i:=fun i hi=>by
  unfold D0;rw[zx,zF,xM hi];rfl
 refine⟨by rw[E];simp,by rw[E];simp[D0],fun x hx=>?_,fun r J=>List.mem_range.mp J,List.nodup_range,fun i j hi hj=>?_,fun i hi=>?_,fun i hi=>?_,Int.zero_lt_one,.inl ?_,fun r J hn=>absurd (List.mem_range.mpr J) hn⟩
 .obtain⟨i,-,rfl⟩:=List.mem_map.mp hx
  rw[fE];rfl
 .rw[E]at hi
  have O:j<n+m:=hj;rw[g_ hi];show((en (En A b m n m) i j:Int):Rat)=((1:Int):Rat)*(AO A b c m n).A j i;rw[Xn hi (by omega)];unfold cell0 Prog.A;show _=((1:Int):Rat)*(if j<n then _ else if i+n=j then 1 else 0)
  by_cases G:j<n
  .rw[sH G,sH G]
   show((sg b i*A.getD (i*n+j) 0:Int):Rat)=((1:Int):Rat)*((sg b i*A.getD (i*n+j) 0:Int):Rat);generalize ((sg b i*A.getD (i*n+j) 0:Int):Rat)=q;have:((1:Int):Rat)=1:=rfl;rw[this];grind
  .rw[sJ G,sJ G,sH O]
   by_cases S:j=n+i
   .rw[sH S,sH (by omega)];decide+kernel
   .rw[sJ S,sJ (by omega)];decide+kernel
 .rw[E]at hi
  rw[g_ hi];show((en (En A b m n m) i (n+m):Int):Rat)=((1:Int):Rat)*((sg b i*b.getD i 0:Int):Rat);rw[Xn hi (by omega)];unfold cell0;rw[sJ (by omega),sJ (by omega)];generalize ((sg b i*b.getD i 0:Int):Rat)=q;have:((1:Int):Rat)=1:=rfl;rw[this];grind
 .rw[E]at hi
  rw[g_ hi,Y i hi];show n+i=i+n;omega
 .show((1:Int):Rat)=Lp.Ci m fun q=>(AO A b c m n).A (q+n)
  have:=SX m;rw[<- show Lp.Ci m (fun i k=>if i=k then(1:Rat)else 0)=Lp.Ci m fun q=>(AO A b c m n).A (q+n)from oV fun i k _ _=>by
   have e:=Prog.FY (p:=AO A b c m n) (i:=i) (k:=k);rw[show(AO A b c m n).A (i+n) k=(AO A b c m n).A (i+(AO A b c m n).n) k from rfl,e]
   by_cases h:i=k
   .rw[sH h,sH h.symm]
   .rw[sJ h,sJ (yu h)],this]
  rfl
theorem aho{p:Prog}{T:Tab}{D:TZ}{ι:List Nat}(h:Vw p T D ι):D.R.length<=p.m:=by
 rw[<- h.len];have G:ι ⊆ List.range p.m:=fun r J=>List.mem_range.mpr (h.lt r J)
 have E:=h.nd.length_le_of_subset G;rw[uF]at E;exact E
theorem ak2(hp:KW A b c m n){T:Tab}{D:TZ}{ι:List Nat}(h:Vw (AO A b c m n) T D ι)(E:(AO A b c m n).Good T):(∀i j,i<D.R.length->j<=n+m->ln (en D.R i j).natAbs<=13)/\ln D.A8.natAbs<=13:=by
 obtain⟨G,J⟩:=h.bound E (gZ hp);have hm:=hp.hm;have O:=TJ m hm;have e:fact 1000 (AO A b c m n).m=fact 1000 m:=rfl;refine⟨fun i j hi S=>?_,?_⟩
 .have:=jY (G i j hi S)
  rw[e]at this;omega
 .have:=jY J
  rw[e]at this;omega
theorem IL(hp:KW A b c m n){T:Tab}{D:TZ}{ι:List Nat}(h:Vw (AO A b c m n) T D ι)(E:(AO A b c m n).Good T)(G:D.fr.length=n+m):W9 D (n+m)/\0<D.A8:=by
 obtain⟨J,O⟩:=h.bound E (gZ hp);have S:=aho h;have hm:=hp.hm;have hn:=hp.hn;have Y:D.R.length<=m:=S;have a1:=TJ m hm;refine⟨⟨h.row,h.Bc,by omega,G,by omega,fun i j hi hj=>?_,?_,fun i hi=>?_⟩,h.pos⟩
 .have:=jY (J i j hi hj)
  have e:fact 1000 (AO A b c m n).m=fact 1000 m:=rfl;rw[e]at this;omega
 .have:=jY O
  have e:fact 1000 (AO A b c m n).m=fact 1000 m:=rfl;rw[e]at this;omega
 .rw[h.Bj i hi]
  exact E.ok.bn _ (h.io hi)
end
theorem Kz{o E:Nat->Int}(k:Nat):∀(R:List (List Int)) (B:List Nat),(∀x∈B,o x=E x)->Ea o k R B=Ea E k R B
 |[],_,_=>by simp[Ea]
 |_ :: _,[],_=>by simp[Ea]
 |x :: R,y :: B,h=>by
  unfold Ea;rw[Kz k R B fun z G=>h z (zY _ G),h y (by simp)]
theorem lM{o E:Nat->Int}{D:TZ}{N k:Nat}(h:∀j,j<N->o j=E j)(G:k<N)(J:∀x∈D.B,x<N):Bl D o k=Bl D E k:=by
 unfold Bl;rw[h k G,Kz k D.R D.B fun x O=>h x (J x O)]
theorem bD{o G:Nat->Int}{N:Nat}(h:∀j,j<N->o j=G j){D J:TZ}(O:∀x∈D.B,x<N)(hs:EO N o D J):EO N G D J:=by
 obtain⟨s,r,E,S,Y⟩:=hs;refine⟨s,r,⟨E.lt,E.fr,E.non,?_,fun j hj hf hm=>?_⟩,S,Y⟩
 .rw[<- lM h E.lt O];exact E.pos
 .rw[<- lM h (by have:=E.lt;omega) O];exact E.low j hj hf hm
theorem N7{o J:Nat->Int}{N:Nat}(h:∀j,j<N->J j=o j){Q:TZ->Prop}(O:∀D,Q D->∀x∈D.B,x<N)(E:∀D G,Q D->EO N J D G->Q G):∀ {k:Nat} {D:TZ},Q D->IB N o k D->IB N J k D
 |0,_,_,hn=>hn
 |k+1,D,hq,hn=>fun G hs=>N7 h O E (E D G hq hs) (hn G (bD h (O D hq) hs))
theorem aeI{o o':Nat->Int}{N:Nat}(h:∀j,j<N->o j=o' j){Q:TZ->Prop}(hQ:∀D,Q D->∀x∈D.B,x<N)(a1:∀D G,Q D->EO N o D G->Q G){D G:TZ}{J:Bool}(hq:Q D)(hm:S9 N o D J G):S9 N o' D J G:=by
 obtain⟨D1,hr,O⟩:=hm;have S:EP N o' D D1/\Q D1:=by
  clear O
  induction hr with
  |refl=>exact⟨.refl _,hq⟩
  |tail O Y ih=>exact⟨.tail ih.1 (bD h (hQ _ ih.2) Y),a1 _ _ ih.2 Y⟩
 have hB:=hQ _ S.2;refine⟨D1,S.1,?_⟩;rcases O with ⟨e,O,fr,⟨a6,a7⟩,h3⟩|⟨e,Y,s,h3,h4⟩
 .refine .inl ⟨e,fun j E hf hm=>?_,fr,⟨a6,fun j E=>?_⟩,h3⟩
  .rw[<- lM h E hB];exact O j E hf hm
  .rw[<- lM h E hB];exact a7 j E
 .refine .inr ⟨e,Y,s,⟨h3.lt,h3.fr,h3.non,?_,fun j E hf hm=>?_⟩,h4⟩
  .rw[<- lM h h3.lt hB];exact h3.pos
  .rw[<- lM h (by have:=h3.lt;omega) hB];exact h3.low j E hf hm
theorem N8{D:TZ}{N:Nat}(h:W9 D N):∀x∈D.B,x<N:=fun x E=>by
 obtain⟨i,hi,e⟩:=jH E;rw[<- e];exact h.inB i (by rw[<- h.Bc];exact hi)
def LM(m n:Nat)(c:List Int)(q:Nat):List Int:=(List.range (n+m)).map (oq n (fun j=>c.getD j 0) q)
theorem Xo(f:Nat->Int){N:Nat}{j:Nat}(E:j<N):oF ((List.range N).map f) j=f j:=by
 unfold oF;rw[zx,zF,xM E];rfl
theorem asF(m n:Nat)(c:List Int)(q:Nat):oF (LM m n c q)=oq n (fun j=>c.getD j 0) q:=by
 funext j
 by_cases E:j<n+m
 .exact Xo _ E
 .unfold oF LM oq
  rw[zx,z_ (by simp;omega)]
  split
  .rw[sJ (by omega)];rfl
  .rw[sJ (by omega)];rfl
theorem TK{m n:Nat}{c:List Int}(h:∀x∈c,-1000<=x/\x<=1000)(q:Nat):Obj (LM m n c q) (n+m):=⟨by simp[LM],fun x E=>by
 obtain⟨j,-,rfl⟩:=List.mem_map.mp E;have:=lD h j;unfold oq;simp only
 split
 .split<;>omega
 .split<;>omega⟩
section
variable {A b c:List Int} {m n:Nat}
def QA(A b c:List Int)(m n:Nat)(D:TZ):Prop:=D.fr=fr0 m n/\∃T,Vw (AO A b c m n) T D (List.range m)/\(AO A b c m n).Good T
def QB(A b c:List Int)(m n:Nat)(D:TZ):Prop:=D.fr=fr0 m n/\∃T ι,Vw (AO A b c m n) T D ι/\(AO A b c m n).Good T/\Zero (AO A b c m n) T
theorem TL(m n:Nat):(fr0 m n).length=n+m:=by simp[fr0]
theorem acw(m n j:Nat):(fr0 m n).getD j false=true↔j<n:=by
 unfold fr0;rw[zx,zF]
 by_cases h:j<n+m
 .rw[xM h];simp
 .rw[z_ (by simp;omega)];simp;omega
theorem N9(m n:Nat):∀j,j<n+m->oF (o1L m n) j=o1 n j:=fun j E=>Xo _ E
theorem asG{T:Tab}(o:Nat->Int)(fr:List Bool):Fit (AO A b c m n) T (List.range m) o fr:=⟨fun r E hn=>absurd (List.mem_range.mpr E) hn,fun _ _=> .inr fun r E=>List.mem_range.mpr E⟩
theorem TM(hp:KW A b c m n){D:TZ}(h:QA A b c m n D):W9 D (n+m)/\0<D.A8:=by
 obtain⟨E,T,G,J⟩:=h;exact IL hp G J (by rw[E];exact TL m n)
theorem aoD(hp:KW A b c m n){D:TZ}(h:QB A b c m n D):W9 D (n+m)/\0<D.A8:=by
 obtain⟨E,T,ι,G,J,_⟩:=h;exact IL hp G J (by rw[E];exact TL m n)
theorem ahp(hp:KW A b c m n){D E:TZ}(h:QA A b c m n D)(hs:EO (n+m) (o1 n) D E):QA A b c m n E:=by
 obtain⟨J,T,O,G⟩:=h;obtain⟨T',g1,g2,g3⟩:=O.step G (gZ hp) (asG (o1 n) D.fr) hs;exact⟨g3.trans J,T',g2,G.step g1⟩
theorem TN(hp:KW A b c m n){D E:TZ}(h:QA A b c m n D)(hs:EO (n+m) (oF (o1L m n)) D E):QA A b c m n E :=
 ahp hp h (bD (N9 m n) (N8 (TM hp h).1) hs)
theorem TP:QA A b c m n (D0 A b m n m):=⟨rfl,_,view0,gi⟩
theorem ak3(hp:KW A b c m n):∃K,IB (n+m) (oF (o1L m n)) K (D0 A b m n m) :=
 ⟨_,N7 (N9 m n) (fun D h=>N8 (TM hp h).1) (fun D E h hs=>TN hp h hs) TP
  (Vw.aaJ (o:=o1 n) (gZ hp) view0 gi (asG (o1 n) _) (ab5 gi.ok))⟩
def ax0(A b c:List Int)(m n:Nat)(σ:Store)(nx:Nat)(r:V×Store×Nat):Prop :=
 ∃σ' nx',nx<=nx'/\(∀x,x<nx->σ' x=σ x) /\
  ((r=(.AB [.sc (.pointer none),Bo false],σ',nx')/\(AO A b c m n).None) \/
   (∃bt br bb bf rb D T ι,r=(.AB [.rp bt 0,Bo true],σ',nx')/\Dn σ' bt br bb bf rb D (n+m)/\D.fr=fr0 m n/\Vw (AO A b c m n) T D ι/\(AO A b c m n).Good T/\(AO A b c m n).Out T/\(∀x∈D.B,x<n)/\∀x∈bt :: br :: bb :: bf :: rb,nx<=x/\x<nx'))
theorem ak4(hp:KW A b c m n)(σ:Store)(nx:Nat):∃r,ev ZL pI Ad 218 [.tp (CO m n A b c) 0] σ nx=some r/\ax0 A b c m n σ nx r:=by
 obtain⟨K,hK⟩:=ak3 hp;have hN:(AO A b c m n).N=n+m:=rfl;have first:∀D1 E,S9 (n+m) (oF (o1L m n)) (D0 A b m n m) E D1->∃T,Vw (AO A b c m n) T D1 (List.range m)/\(AO A b c m n).Good T/\((∀i,i<D1.R.length->n<=D1.B.getD i 0->¬0<en D1.R i (n+m))->Zero (AO A b c m n) T)/\((∃i,i<D1.R.length/\n<=D1.B.getD i 0/\0<en D1.R i (n+m))->(AO A b c m n).None):=fun D1 E hm=>
  aek (p:=AO A b c m n) (gZ hp) (aeI (N9 m n) (fun D h=>N8 (TM hp h).1) (fun D D' h hs=>TN hp h hs) TP hm) view0 gi (fun r hr=>List.mem_range.mpr hr) (acw m n)
 obtain⟨r,h1,σ',nx',h2,h3,D1,E,h4,S⟩:=aoz (QA A b c m n) (QB A b c m n) (c:=c) hp.hA hp.hb hp.m0 (by have:=hp.hm;omega) (by have:=hp.hn;omega) (fun x G=>by have:=hp.bA x G;omega) (fun x G=>by have:=hp.bb x G;omega)
  (fun D h=>TM hp h) (fun D D' h hs=>TN hp h hs) TP hK (fun D h=>aoD hp h)
  (fun D i k h hi Y hk a1=>by
   obtain⟨J,T,ι,v1,v2,v3⟩:=h;obtain⟨g1,g2,g3⟩:=ael (gZ hp) v1 v2 v3 hi Y hk a1;refine⟨?_,_,_,g1,g2,g3⟩;rw[<- J];unfold FZ;split<;>rfl)
  (fun D i h hi Y hz=>by
   obtain⟨J,T,ι,v1,v2,v3⟩:=h;exact⟨J,T,_,aaK v1 v3 hi Y hz,v2,v3⟩)
  (fun D1 E hm O=>by
   obtain⟨T,v1,v2,v3,_⟩:=first D1 E hm
   exact⟨rfl,T,_,v1.frame _,v2,v3 O⟩) σ nx
 refine⟨r,h1,σ',nx',h2,h3,?_⟩;obtain⟨T,v1,v2,v3,v4⟩:=first D1 E h4
 rcases S with ⟨rfl,S⟩|⟨bt,br,bb,bf,rb,D2,rfl,S,h6,⟨J,T2,a6,w1,w2,w3⟩,h8,h9⟩
 .exact .inl ⟨rfl,v4 S⟩
 .exact .inr ⟨bt,br,bb,bf,rb,D2,T2,a6,rfl,h6,J,w1,w2,aem w1 h8,fun x G=>by
   obtain⟨i,hi,e⟩:=jH G;rw[<- e];exact h8 i (by rw[<- w1.Bc];exact hi),h9⟩
end
theorem SY{p:Prog}{T:Tab}(h:p.Good T)(ho:p.Out T){q s:Nat}(J:q≠0)(hs:s<p.n)(O:¬basic p.m T s)(hg:0<gm p.m T (p.C q) s)(Gl:∀i,i<p.m->T.e i s<=0):False:=by
 obtain⟨E,e⟩:∃E:Prog,E={ p with c:=p.C q }:=⟨_,rfl⟩;have hC:E.C 0=p.C q:=by
  subst e;funext j;unfold Prog.C;rw[sH rfl,sJ J];show(if j<p.n then(if q=0 then _ else if j+1=q/\j<p.n then(-1:Rat)else 0)else 0)=_;rw[sJ J]
  by_cases G:j<p.n
  .rw[sH G]
  .rw[sJ G,sJ (fun h=>G h.2)]
 have S:E.Good T:=by
  subst e;exact⟨h.ok,h.ed,h.sol⟩
 have Y:E.Out T:=by
  subst e;exact⟨ho.z⟩
 have a1:E.Open:=Prog.Nr (p:=E) S Y (s:=s) (by subst e;exact hs) (by subst e;exact O) (by rw[hC];subst e;exact hg) (by subst e;exact Gl);obtain⟨x,hx,h1⟩:=a1 1;have a6:∀j,j<p.n->0<=x j:=by subst e;exact hx.2
 have hle:ob p.n (p.C q) x<=0:=by
  unfold ob;have:=bQ (f:=fun j=> -(p.C q j*x j)) (n:=p.n) fun j G=>by
   have:=a6 j G;unfold Prog.C;rw[sJ J]
   split<;>grind
  have e2:=bT (-1) (fun j=>p.C q j*x j) p.n;have e3:sm (fun j=> -(p.C q j*x j)) p.n=sm (fun j=> -1*(p.C q j*x j)) p.n:=bU fun j _=>by grind
  rw[e3,e2]at this;grind
 have:ob E.n E.c x=ob p.n (p.C q) x:=by subst e;rfl
 rw[this]at h1;grind
section
variable {A b c:List Int} {m n:Nat}
def QC(A b c:List Int)(m n:Nat)(ι:List Nat)(fr:List Bool)(D:TZ):Prop:=D.fr=fr/\∃T,Vw (AO A b c m n) T D ι/\(AO A b c m n).Good T
theorem amv(hp:KW A b c m n){q:Nat}{v:Nat->Rat}{σ:Store}{nx bt br bb bf bo:Nat}{rb ι:List Nat}{D:TZ}{T:Tab}(h:Dn σ bt br bb bf rb D (n+m))(hv:Vw (AO A b c m n) T D ι)(hg:(AO A b c m n).Good T)(ho:(AO A b c m n).Out T)
  (a1:(AO A b c m n).Ej q v (fun j=>D.fr.getD j false=true) T) (O:D.fr.length=n+m) (a6:∀x∈D.B,x<n) (a7:∀b∈bt :: br :: bb :: bf :: rb,b<nx) (a8:σ bo=some ⟨(LM m n c q).flatMap cI,1,true⟩) (b2:bo<nx) (b3:bo∉bt :: br :: bb :: bf :: rb) :
  ∃σ' nx' E J T',ev ZL pI Ad 219 [.rp bt 0,.rs bo 0 (n+m)] σ nx=some (Bo E,σ',nx')/\Dn σ' bt br bb bf rb J (n+m)/\nx<=nx'/\(∀b,b<nx->b∉bt :: bb :: bf :: rb->σ' b=σ b) /\
   Vw (AO A b c m n) T' J ι/\(AO A b c m n).Good T'/\(AO A b c m n).Out T'/\J.fr.length=n+m/\(∀x∈J.B,x<n)/\((E=true/\∃v',(AO A b c m n).Ej (q+1) v' (fun j=>J.fr.getD j false=true) T')\/(E=false/\q=0/\(AO A b c m n).Open)):=by
 have hw:=gZ hp;have S:∀j,D.fr.getD j false=true->j<n:=fun j hj=>a1.inn j hj
 have sh:∀D1,QC A b c m n ι D.fr D1->W9 D1 (n+m)/\0<D1.A8:=fun D1 ⟨e,T1,h1,h2⟩=>IL hp h1 h2 (by rw[e];exact O)
 have oe:=asF m n c q;have Y:∀D1 D2,QC A b c m n ι D.fr D1->EO (n+m) (oF (LM m n c q)) D1 D2->QC A b c m n ι D.fr D2:=fun D1 D2 ⟨e,T1,h1,h2⟩ hs=>by
  rw[oe]at hs;obtain⟨T2,g1,g2,g3⟩:=h1.step h2 hw (anM (c:=fun j=>c.getD j 0) (q:=q) h1 (by rw[e];exact S)) hs;exact⟨g3.trans e,T2,g2,h2.step g1⟩
 have b4:IB (n+m) (oF (LM m n c q)) (2^(n+m)) D:=by
  rw[oe];exact Vw.aaJ (o:=oq n (fun j=>c.getD j 0) q) hw hv hg (anM hv S) (ab5 hg.ok)
 obtain⟨σ',nx',E,J,ke,G,hT,hn,hf⟩:=asw (QC A b c m n ι D.fr) sh Y (TK hp.bc q) ⟨rfl,T,hv,hg⟩ b4 h a7 a8 b2 b3;rw[oe]at G;obtain⟨T',v1,v2,v3,v4,v5⟩:=aen (p:=AO A b c m n) hw (c:=fun j=>c.getD j 0) (fun j _=>rfl) G hv hg ho a1 (by rw[O];exact zq _);have b5:∀x∈J.B,x<n:=by
  obtain⟨D1,fr,⟨_,h1⟩,rfl,-⟩:=amu (Q:=fun D1=>D1.fr=D.fr/\∀x∈D1.B,x<n) (fun D1 D2 ⟨e,hB⟩ hs=>by
   obtain⟨s,r,g1,g2,rfl⟩:=hs;have e1:(FZ D1 r s).fr=D1.fr:=by unfold FZ;split<;>rfl
   have e2:(FZ D1 r s).B=D1.B.set r s:=by unfold FZ;split<;>rfl
   refine⟨e1.trans e,fun x hx=>?_⟩;rw[e2]at hx;rcases u_ hx with h|h
   .exact hB x h
   .subst h;exact S _ (by rw[<- e];exact g1.fr)) G ⟨rfl,a6⟩
  exact h1
 refine⟨σ',nx',E,J,T',ke,hT,hn,hf,v1,v2,v3,v4.trans O,b5,?_⟩;rcases v5 with ⟨e,v5⟩|⟨e,s,s1,s2,s3,s4⟩
 .exact .inl ⟨e,_,v5⟩
 .by_cases hq:q=0
  .subst hq
   exact .inr ⟨e,rfl,Prog.Nr v2 v3 s1 s2 s3 s4⟩
  .exact(SY v2 v3 hq s1 s2 s3 s4).elim
end
theorem Dn.congr{σ σ':Store}{bt br bb bf:Nat}{rb:List Nat}{D:TZ}{N:Nat}(h:Dn σ bt br bb bf rb D N)(e:∀x∈bt :: br :: bb :: bf :: rb,σ' x=σ x):Dn σ' bt br bb bf rb D N:=by
 refine⟨?_,?_,fun i hi=>(h.row i hi).congr (e _ ?_),?_,?_,h.len,h.nd⟩
 .rw[e bt (by simp)];exact h.t
 .rw[e br (by simp)];exact h.r
 .have:=zu hi
  simp[this]
 .rw[e bb (by simp)];exact h.b
 .rw[e bf (by simp)];exact h.f
section
variable {A b c:List Int} {m n:Nat}
theorem ahq(hc:c.length=n):LM m n c 0=c++List.replicate m 0:=by
 apply yS
 .simp[LM,hc]
 .intro j E G
  have J:j<n+m:=by simpa[LM]using E
  have e:(LM m n c 0)[j]=if j<n then c.getD j 0 else 0:=by simp[LM,oq]
  rw[e,List.getElem_append]
  by_cases h:j<n
  .rw[sH h,dif_pos (by omega),zx,zy (by omega)];rfl
  .rw[sJ h,dif_neg (by omega),List.getElem_replicate]
theorem ahr(k:Nat)(G:k<n):LM m n c (k+1)=(List.replicate (n+m) 0).set k (-1):=by
 apply yS
 .simp[LM]
 .intro j E J
  have O:j<n+m:=by simpa[LM]using E
  have e:(LM m n c (k+1))[j]=if j=k/\j<n then -1 else 0:=by simp[LM,oq]
  rw[e,wF]
  by_cases h:k=j
  .rw[sH h,sH ⟨h.symm,by omega⟩]
  .rw[sJ h,sJ (fun g=>h g.1.symm),List.getElem_replicate]
theorem aoE(hc:c.length=n)(σ:Store)(nx b:Nat):Hg (upd σ b (some ⟨rep (n+m) [I 0],1,true⟩)) nx (c.flatMap cI) c.length (.rs b 0 (n+m))=some (I ((n:Nat):Int),upd σ b (some ⟨(LM m n c 0).flatMap cI,1,true⟩),nx):=by
 unfold Hg;have e:min c.length (n+m)=n:=by omega
 have E:(c.flatMap cI).length=n:=by rw[qL,hc]
 have G:(LM m n c 0).flatMap cI=c.flatMap cI++rep m [I 0]:=by rw[ahq hc,zT,fP]
 simp only[e,Zk,zi,Zj];rw[G]
 by_cases hn:n=0
 .rw[sH hn]
  have:c=[]:=zZ (by omega);subst hn this;simp
 .rw[sJ hn,sH ⟨trivial,by rw[fO];simp,by
   rw[wO];intro v J;obtain⟨x,-,O⟩:=List.mem_flatMap.mp (wH J);rw[List.mem_singleton.mp O];rfl⟩]
  rw[zl (by omega),iJ _ _ _ (by rw[E,fO];simp),E];congr 4;rw[List.take_zero,yO,yX];congr 1;have:rep (n+m) [I 0]=rep n [I 0]++rep m [I 0]:=by rw[fP,fP,fP,<- zT,vY]
  rw[this,List.drop_left' (by rw[fO];simp)]
theorem ak5{L:List Int}{N:Nat}(S:L.length=N)(σ:Store)(nx b:Nat)(hb:σ b=some ⟨L.flatMap cI,1,true⟩)(G:N≠0):FX σ nx [I 0] (.rs b 0 N)=some (.AB [],upd σ b (some ⟨(List.replicate N 0).flatMap cI,1,true⟩),nx):=by
 unfold FX;simp only;rw[sJ G,hb];have E:(rep N [I 0]).length=N:=by rw[fO];simp
 simp only[zi];rw[sH ⟨trivial,by rw[qL];omega,by
  rw[fP,wO];intro v J;obtain⟨x,-,O⟩:=List.mem_flatMap.mp J;rw[List.mem_singleton.mp O];rfl⟩]
 rw[iJ _ _ _ (by rw[E,qL];omega),E,List.take_zero,yO,yX,xw (by rw[qL];omega),zC,fP]
def cF(q:Rat):List V:=[.tp (cQ q) 0]
def asH(p:Prog)(r:V):Prop:=(r= .AB [I 2,.ts [] 0,.sc (.pointer none)]/\p.None)\/(r= .AB [I 3,.ts [] 0,.sc (.pointer none)]/\p.Open) \/
 ∃x:Nat->Rat,p.Best x/\(∀j,j<p.n->Ln 24 (x j))/\r= .AB [I 0,LL cF ((List.range p.n).map x),.tp (cQ (ob p.n p.c x)) 0]
theorem acy{a:Int}{d k:Nat}(ha:ln a.natAbs<=k)(E:ln d<=k)(G:1<=k):Ln k (mkRat a d):=by
 constructor
 .rw[Rat.num_mkRat]
  split
  .show ln 0<=k;rw[jS];omega
  .exact zU (jY (Int.natAbs_ediv_le_natAbs _ _)) ha
 .rw[Rat.den_mkRat]
  split
  .exact zU (jT (by decide)) G
  .exact zU (jY (wo _ _)) E
theorem aaZ{x y:Rat}{k l:Nat}(h:Ln k x)(E:Ln l y)(G:1<=k+l):Ln (k+l) (x*y):=by
 rw[Rat.mul_def'];refine acy ?_ (NJ h E) G;have:=jW x.num y.num;have:=h.1;have:=E.1;omega
theorem N_{x y:Rat}{k l:Nat}(h:Ln k x)(E:Ln l y):Ln (k+l+1) (x+y):=by
 rw[Rat.add_def'];refine acy ?_ (zU (NJ h E) (by omega)) (by omega);have G:=jV h E;have J:=jV E h;have:=II (x.num*y.den) (y.num*x.den);omega
theorem ru{z:Int}(h:-1000000<=z/\z<=1000000):Ln 1 (z:Rat):=⟨jT (by show z.natAbs<_;omega),jT (by show 1<_;decide)⟩
theorem aoF(X:List Rat):∀(k:Nat) (q:Rat),(X.flatMap cF).set k (.tp (cQ q) 0)=(X.set k q).flatMap cF:=by
 induction X with
 |nil=>intro k q;rfl
 |cons a X E=>intro k q;cases k with
  |zero=>rfl
  |succ k=>show V.tp (cQ a) 0 :: ((X.flatMap cF).set k (.tp (cQ q) 0))=_;rw[E];rfl
theorem qN(X:List Rat):(X.flatMap cF).length=X.length:=by
 induction X with
 |nil=>rfl
 |cons a X E=>rw[zK,zo,E,zH];show 1+_=_;omega
theorem qO(X:List Rat){k:Nat}(h:k<X.length):(X.flatMap cF)[k]?=some (.tp (cQ X[k]) 0):=by
 induction X generalizing k with
 |nil=>exact absurd h (zX k)
 |cons a X E=>cases k with
  |zero=>rfl
  |succ k=>exact E (k:=k) (by simpa using h)
theorem ahs(k N:Nat)(h:k<N):((List.replicate k (0:Rat)).flatMap cF++rep (N-k) [.sc (.pointer none)]).set k (.tp (cQ 0) 0)=(List.replicate (k+1) (0:Rat)).flatMap cF++rep (N - (k+1)) [.sc (.pointer none)]:=by
 rw[xH _ _ (by rw[qN,yU];exact zq _),qN,yU,yP,show N-k=N - (k+1)+1 by omega,fM,uD,zT,yj];rfl
theorem IQ(σ:Store)(d:Nat):∀X:List Rat,stripL (strip σ (d+1)) (X.flatMap cF)=some (X.flatMap cF,[])
 |[]=>by rw[vg,aX]
 |q :: X=>by
  rw[zK,show cF q++X.flatMap cF=V.tp (cQ q) 0 :: X.flatMap cF from rfl,ah,aN,IQ σ d X];rfl
def xB(B:List Nat)(f:Nat->Rat)(i n:Nat):List Rat:=(List.range n).map fun j=>if j∈B.take i then f j else 0
theorem ZP(B:List Nat)(f:Nat->Rat)(i n:Nat):(xB B f i n).length=n:=by simp[xB]
theorem acz(B:List Nat)(f:Nat->Rat)(n:Nat):xB B f 0 n=List.replicate n 0:=by simp[xB,List.map_const']
theorem aht{B:List Nat}(f:Nat->Rat){i n:Nat}(hi:i<B.length):(xB B f i n).set (B.getD i 0) (f (B.getD i 0))=xB B f (i+1) n:=by
 have hb:B[i]=B.getD i 0:=by rw[zx,zy hi];rfl
 apply yS
 .rw[xu,ZP,ZP]
 .intro j O G
  have J:j<n:=by rw[ZP]at G;exact G
  have e:∀i,(xB B f i n)[j]'(by rw[ZP];exact J)=if j∈B.take i then f j else 0:=fun i=>by simp[xB]
  rw[wF,e,e,yM,zy hi,hb]
  by_cases h:B.getD i 0=j
  .rw[sH h,h,sH (by simp)]
  .rw[sJ h]
   by_cases E:j∈B.take i
   .rw[sH E,sH (by simp[E])]
   .rw[sJ E,sJ (by simp[E];exact fun e=>h e.symm)]
theorem aoG(hp:KW A b c m n):∃r,fn ZL pI Ad 160 [.tp (CO m n A b c) 0]=some r/\asH (AO A b c m n) r:=by
 have O:=hp.m0;have hm:=hp.hm;have hn:=hp.hn;have hc:=hp.hc;obtain⟨r0,kb,e4,nI,m7,-,hr⟩:=ak4 hp lI 0;obtain⟨N,hN⟩:∃N,N=n+m:=⟨_,rfl⟩;rw[m_,mg [.tmp 2,.tmp 3,.tmp 4] [24] func160];unfold CO at kb⊢;rcases hr with ⟨rfl,c8⟩|⟨bt,br,bb,bf,rb,D,T,ι,rfl,hT,e6,hv,hg,ho,i1,a1⟩
 .simp only[go_sem,qB,kb]
  exact⟨_,rfl,.inl ⟨rfl,c8⟩⟩
 .have c9:=hT.t
  have f1:bt<nI:=(a1 bt (by simp)).2;rw[<- hN]at c9;have f2:=jD N;have f3:8*(N:Int)<=281474976710656:=by omega
  have f4:(N:Int)<=9223372036854775807:=by omega
  have kc:=aoE (m:=m) hc e4 (nI+1) nI;rw[<- hN]at kc;obtain⟨σ2,Ep⟩:∃σ2,σ2=upd e4 nI (some ⟨(LM m n c 0).flatMap cI,1,true⟩):=⟨_,rfl⟩;rw[<- Ep]at kc;have i2:Dn σ2 bt br bb bf rb D (n+m):=hT.congr fun x G=>by rw[Ep,Zl _ _ (by have:=a1 x G;omega)]
  obtain⟨m8,Au,i3,D3,T3,km,NT,m9,i4,i5,i6,i7,i9,j0,e7⟩:=amv hp (q:=0) (v:=fun _=>0) (bo:=nI) (nx:=nI+1) i2 hv hg ho (by
   rw[e6];have:(fun j=>(fr0 m n).getD j false=true)=fun j=>j<(AO A b c m n).n:=by funext j;exact propext (acw m n j)
   rw[this];exact Prog.stage0) (by rw[e6];exact TL m n) i1 (fun x G=>by have:=a1 x G;omega) (by rw[Ep,Zk]) (by omega) (fun G=>by have:=a1 nI G;omega)
  rw[<- hN]at km;rcases e7 with ⟨rfl,v1,j1⟩|⟨rfl,-,j2⟩
  .simp only[go_sem,qB,kb,c9,f1,f2,f3,f4,kc,km]
   generalize hL:dI _ _=y
   obtain⟨x,rfl,T4,CP,J,rfl,t0,t5,E,S,v4,b2,a6,a8,b4,b5⟩:=oZ hL n (fun k st=>st.T 0= .tp (CO m n A b c) 0/\st.T 5= .rp bt 0/\st.T 7= .rs nI 0 N/\st.T 41=I n/\st.T 42=I k/\nI<st.nx/\(∃L:List Int,L.length=N/\st.σ nI=some ⟨L.flatMap cI,1,true⟩) /\
     ∃D U v,Dn st.σ bt br bb bf rb D (n+m)/\Vw (AO A b c m n) U D ι/\(AO A b c m n).Good U/\(AO A b c m n).Out U/\D.fr.length=n+m/\(∀x∈D.B,x<n)/\(AO A b c m n).Ej (k+1) v (fun j=>D.fr.getD j false=true) U)
    (fun x=>∃T CP J,x=(.exit 0,⟨T,CP,J⟩)/\T 0= .tp (CO m n A b c) 0/\T 5= .rp bt 0/\∃D U v,Dn CP bt br bb bf rb D (n+m)/\Vw (AO A b c m n) U D ι/\(AO A b c m n).Good U/\(AO A b c m n).Out U/\D.fr.length=n+m/\(∀x∈D.B,x<n)/\(∀x∈bt :: br :: bb :: bf :: rb,x<J)/\(AO A b c m n).Ej (n+1) v (fun j=>D.fr.getD j false=true) U) (by
     clear hL;rintro k ⟨T,CP,J⟩ hk ⟨t0,t5,t7,t41,t42,b6,⟨L,hL,c3⟩,E,U,v,b2,a6,a8,b4,b8,b9,b5⟩;simp only at t0 t5 t7 t41 t42 b6 c3 b2;have g1:(k:Int)<(n:Int):=by omega
     have g2:=jD k;have g3:=ZT (n:=(k:Int)+1);have g4:=ak5 hL CP J nI c3 (by omega);obtain⟨EG,c4⟩:∃EG,EG=upd CP nI (some ⟨(LM m n c (k+1)).flatMap cI,1,true⟩):=⟨_,rfl⟩;have g5:((List.replicate N (0:Int)).flatMap cI).set k (I (-1))=(LM m n c (k+1)).flatMap cI:=by rw[qK,ahr k hk,hN]
     have g6:((List.replicate N (0:Int)).flatMap cI).length=N:=by rw[qL];simp
     have g7:(k:Int)<(N:Int):=by omega
     have g8:k<N:=by omega
     have g9:k+1<=N:=by omega
     have Gp:Dn EG bt br bb bf rb E (n+m):=b2.congr fun x G=>by rw[c4,Zl _ _ (by have:=a1 x G;omega)]
     obtain⟨DF,Bf,i3,D6,U6,e8,j3,KX,j4,j5,j6,j7,e9,j8,j9⟩:=amv hp (q:=k+1) (bo:=nI) (nx:=J) Gp a6 a8 b4 b5 b8 b9 (fun x G=>by have:=a1 x G;omega) (by rw[c4,Zk]) b6 (fun G=>by have:=a1 nI G;omega);rw[<- hN]at e8;unfold CO at t0;rcases j9 with ⟨rfl,v6,k0⟩|⟨_,h,_⟩
     .refine .inl ⟨_,by simp only[go_sem,qB,t0,t5,t7,t41,t42,g1,g2,g3,g4,g5,g6,g7,g8,g9,<- c4,e8];rfl,?_⟩
      simp only[go_sem,t0,t5,t7,t41];refine⟨rfl,rfl,by omega,⟨LM m n c (k+1),by rw[(TK hp.bc _).1,hN],?_⟩,D6,U6,v6,j3,j5,j6,j7,e9,j8,k0⟩;rw[j4 nI b6 (fun G=>by
       have:=a1 nI (by simp only[zV]at G⊢;rcases G with h|h|h|h<;>simp[h]);omega),c4,Zk]
     .omega) (by
     rintro ⟨T,CP,J⟩ ⟨t0,t5,t7,t41,t42,b6,c3,E,U,v,b2,a6,a8,b4,b8,b9,b5⟩;simp only at t0 t5 t7 t41 t42 b6 c3 b2;have g1:¬(n:Int)<(n:Int):=by omega
     refine⟨_,by simp only[go_sem,t41,t42,g1];rfl,by simp,_,_,_,rfl,?_⟩;simp only[go_sem,t0,t5];exact⟨E,U,v,b2,a6,a8,b4,b8,b9,fun x G=>by have:=a1 x G;omega,b5⟩) (by
     simp only[go_sem,CO];refine⟨by omega,⟨LM m n c 0,by rw[(TK hp.bc _).1,hN],?_⟩,D3,T3,v1,NT,i5,i6,i7,i9,j0,j1⟩;rw[i4 nI (by omega) (fun G=>by
      have:=a1 nI (by simp only[zV]at G⊢;rcases G with h|h|h|h<;>simp[h]);omega),Ep,Zk])
   clear hL;obtain⟨b8,b9,a7,h0⟩:=b5;have k4:=IL hp a6 a8 b8;have k5:=h0.best a8 b4;have h1:=jD n;have h2:8*(n:Int)<=281474976710656:=by omega
   have h3:(n:Int)<=9223372036854775807:=by omega
   unfold CO at t0;simp only[go_sem,t0,t5,h1,h2,h3];generalize hL:dI _ _=y;obtain⟨x,rfl,T5,EG,rfl,t0,t5,t9,k6,k7⟩:=oZ hL n (fun k st=>st.T 0= .tp (CO m n A b c) 0/\st.T 5= .rp bt 0/\st.T 9= .rs J 0 n/\st.T 59=I n/\st.T 60=I k/\st.nx=J+1/\st.σ J=some ⟨(List.replicate k (0:Rat)).flatMap cF++rep (n-k) [.sc (.pointer none)],1,true⟩/\∀x,x<J->st.σ x=CP x)
    (fun x=>∃T EG,x=(.exit 2,⟨T,EG,J+1⟩)/\T 0= .tp (CO m n A b c) 0/\T 5= .rp bt 0/\T 9= .rs J 0 n/\EG J=some ⟨(List.replicate n (0:Rat)).flatMap cF,1,true⟩/\∀x,x<J->EG x=CP x) (by
     clear hL;rintro k ⟨T,EG,m0⟩ hk ⟨t0,t5,t9,t59,t60,O,G,hs⟩;simp only at t0 t5 t9 t59 t60 O G hs;subst O;have g1:(k:Int)<(n:Int):=by omega
     have g2:=jD k;have g3:=ZT (n:=(k:Int)+1);have g4:fn ZL conv ext 112 [I 0]=some (.tp (cQ 0) 0):=jr 0 (by decide) (by decide)
     have g5:=ahs k n hk;have g6:((List.replicate k (0:Rat)).flatMap cF++rep (n-k) [.sc (.pointer none)]).length=n:=by rw[zo,qN,fO];simp;omega
     have g7:k+1<=n:=hk;refine .inl ⟨_,by simp only[go_sem,t0,t5,t9,t59,t60,G,hk,g1,g2,g3,g4,g5,g6,g7];rfl,?_⟩;simp only[go_sem,t0,t5,t9,t59];exact⟨rfl,fun x G=>by rw[Zm];exact hs x G⟩) (by
     rintro ⟨T,EG,m0⟩ ⟨t0,t5,t9,t59,t60,O,G,hs⟩;simp only at t0 t5 t9 t59 t60 O G hs;subst O;have g1:¬(n:Int)<(n:Int):=by omega
     refine⟨_,by simp only[go_sem,t59,t60,g1];rfl,by simp,_,_,rfl,?_⟩;simp only[go_sem,t0,t5,t9];rw[yP]at G;have:rep 0 [V.sc (.pointer none)]=[]:=rfl;rw[this,zC]at G;exact⟨G,hs⟩) (by
     simp only[go_sem,t0,t5,CO];exact⟨rfl,fun x G=>by rw[Zm]⟩)
   clear hL;have Gp:Dn EG bt br bb bf rb E (n+m):=b2.congr fun x G=>k7 x (a7 x G)
   obtain⟨hS,m6⟩:=k4;have h4:=Gp.t;have k8:bt<J:=a7 bt (by simp);unfold CO at t0;obtain⟨n1,n2,n3,n4,n5,n6,n7,n8⟩:=nd4 Gp.nd;have n0:=hS.Gn;have k9:=Gp.len;obtain⟨O9,l5⟩:=Gp.r;obtain⟨LJ,l6⟩:=Gp.b;have n9:(BR E.B).length=E.R.length:=by rw[aA];exact hS.Bc
   have l7:E.B.length=E.R.length:=hS.Bc;have g13:bt<J+1:=by omega
   have e9:∀x,x∈bt :: br :: bb :: bf :: rb->x<J:=a7;simp only[go_sem,t0,t5,h4,g13];generalize hL:dI _ _=y;obtain⟨x,rfl,T6,DF,rfl,t0,t9,c5⟩:=oZ hL E.R.length (fun i st=>st.T 0= .tp (CO m n A b c) 0/\st.T 5= .rp bt 0/\st.T 9= .rs J 0 n/\st.T 71= .rs bb 0 E.R.length/\st.T 72=I E.R.length/\st.T 73=I i/\st.nx=J+1/\st.σ J=some ⟨(xB E.B (Bj m S) i n).flatMap cF,1,true⟩/\∀x,x<J->st.σ x=EG x)
    (fun x=>∃T DF,x=(.exit 4,⟨T,DF,J+1⟩)/\T 0= .tp (CO m n A b c) 0/\T 9= .rs J 0 n/\DF J=some ⟨(xB E.B (Bj m S) E.R.length n).flatMap cF,1,true⟩) (by
     clear hL;rintro i ⟨T,DF,m0⟩ hi ⟨t0,t5,t9,t71,t72,t73,O,G,hs⟩;simp only at t0 t5 t9 t71 t72 t73 O G hs;subst O;have g1:(i:Int)<(E.R.length:Int):=by omega
     have g2:=jD i;have g3:=ZT (n:=(i:Int)+1);have g4:((BR E.B).flatMap cI++LJ)[i]?=some (I ((E.B.getD i 0:Nat):Int)):=by
      rw[zW (by rw[qL];omega),idx (by omega),aB (by omega)]
     have h5:E.B.getD i 0<n:=b9 _ (kZ (by omega));have Y:=read a6 a8 hi;have c7:=aht (B:=E.B) (Bj m S) (i:=i) (n:=n) (by omega);obtain⟨bi,Fb⟩:∃bi,bi=E.B.getD i 0:=⟨_,rfl⟩;rw[<- Fb]at g4 h5 Y c7;have h6:i<rb.length:=by omega
     have f6:=fV (ex:=O9) (n:=n+m+1) h6;obtain⟨ri,e0⟩:∃ri,ri=rb[i]:=⟨_,rfl⟩;rw[<- e0]at f6;obtain⟨Li,Tq,GX,Tt⟩:=Gp.row i h6;have Yj:ri<J:=a7 ri (by rw[e0];simp[zu]);have l8:DF ri=some ⟨Li.flatMap zc,2,true⟩:=by rw[hs ri Yj,e0];exact Tq
     have rl:(DL E.R i).length=n+m+1:=by rw[dS hi];exact hS.row _ (zu hi)
     have KR:Li.length=n+m+1:=by have:=congrArg List.length GX;rw[zS,rl]at this;exact this
     have b7:=bZ (c:=zc) (s:=2) ZO Li;rw[KR]at b7;have g6:=d_ (c:=zc) (s:=2) ZO Li (n+m) (by omega);have g7:(n+m)*2+2<=(n+m+1)*2:=by omega
     have g8:((n+m:Nat):Int)<((n+m+1:Nat):Int):=by omega
     have g9:(0:Int)<=((n+m:Nat):Int):=by omega
     obtain⟨hq,e⟩:=Qs GX (c:=n+m) (by rw[rl];omega);have e2:(DL E.R i)[n+m]'(by rw[rl];omega)=en E.R i (n+m):=by
      unfold en;rw[zx,zy (by rw[rl];omega)];rfl
     have z1:∀σ d,stripL (strip σ d) (zc Li[n+m])=some (cZ (en E.R i (n+m)),[]):=fun σ d=>by
      rw[ZN σ d (Tt _ (zu hq)),e,e2]
     have k1:fn ZL pI Ad 220 [.agg (cZ (en E.R i (n+m))),LI (dg E.A8.natAbs)]=some (.tp (cQ (Bj m S bi)) 0):=by
      rw[NI _ _ (by have:=hS.big i (n+m) hi (zq _);omega) (by omega) (by have:=hS.A8;omega)];have:mkRat (en E.R i (n+m)) E.A8.natAbs=Bj m S bi:=by
       rw[<- show((en E.R i (n+m):Int):Rat) / E.A8=Bj m S bi from Y,Rat.mkRat_eq_div];congr 1;have:((E.A8.natAbs:Nat):Int)=E.A8:=by omega
       rw[<- Rat.intCast_natCast,this]
      rw[this]
     have g10:(bi:Int)<(n:Int):=by omega
     have g11:=jD bi;have g12:bi+1<=n:=by omega
     have q1:=aoF (xB E.B (Bj m S) i n) bi (Bj m S bi);rw[c7]at q1;have q2:((xB E.B (Bj m S) i n).flatMap cF).length=n:=by rw[qN,ZP]
     have q3:bb<J:=a7 bb (by simp);have q4:br<J:=a7 br (by simp);have l9:=(hs bb q3).trans l6;have m1:=(hs br q4).trans l5;have m2:=(hs bt k8).trans h4;have q5:bb<J+1:=by omega
     have q6:br<J+1:=by omega
     have q7:ri<J+1:=by omega
     have q8:J<J+1:=by omega
     unfold CO at t0;refine .inl ⟨_,by simp only[go_sem,t0,t5,t9,t71,t72,t73,G,l9,m1,m2,l8,f6,g1,g2,g3,g4,g6,g7,g8,g9,g10,g11,g12,g13,b7,z1,k1,h5,q1,q2,q5,q6,q7,q8];rfl,?_⟩;simp only[go_sem,t0,t5,t9,t71,t72];exact⟨rfl,rfl,fun x G=>by rw[Zm];exact hs x G⟩) (by
     rintro ⟨T,DF,m0⟩ ⟨t0,t5,t9,t71,t72,t73,O,G,hs⟩;simp only at t0 t5 t9 t71 t72 t73 O G hs;subst O;have g1:¬(E.R.length:Int)<(E.R.length:Int):=by omega
     refine⟨_,by simp only[go_sem,t72,t73,g1];rfl,by simp,_,_,rfl,?_⟩;simp only[go_sem,t0,t9];exact G) (by
     simp only[go_sem,t0,t5,t9,CO,acz];exact⟨k6,fun _ _=>trivial⟩)
   clear hL;have m3:xB E.B (Bj m S) E.R.length n=(List.range n).map (Bj m S):=by
    unfold xB;rw[<- l7,yg];apply xG;intro j hj
    by_cases h:j∈E.B
    .rw[sH h]
    .rw[sJ h];exact(WM a6 (List.mem_range.mp hj) h).symm
   rw[m3]at c5;have h7:=ak2 hp a6 a8;have h8:∀j,j<n->Ln 24 (Bj m S j):=fun j hj=>by
    by_cases h:j∈E.B
    .obtain⟨i,hi,e⟩:=jH h
     have h9:i<E.R.length:=by omega
     have Y:=read a6 a8 h9;rw[e]at Y;have:mkRat (en E.R i (n+m)) E.A8.natAbs=Bj m S j:=by
      rw[<- show((en E.R i (n+m):Int):Rat) / E.A8=Bj m S j from Y,Rat.mkRat_eq_div];congr 1;have:((E.A8.natAbs:Nat):Int)=E.A8:=by omega
      rw[<- Rat.intCast_natCast,this]
     rw[<- this];exact acy (zU (h7.1 i (n+m) h9 (zq _)) (by decide)) (zU h7.2 (by decide)) (by decide)
    .rw[show Bj m S j=0 from WM a6 hj h]
     exact(ru (z:=0) (by decide)).mono (by decide)
   obtain⟨X,hX⟩:∃X:List Rat,X=(List.range n).map (Bj m S):=⟨_,rfl⟩;have c6:X.length=n:=by rw[hX];simp
   have m4:∀j (h:j<n),X[j]'(by omega)=Bj m S j:=fun j h=>by subst hX;simp
   rw[<- hX]at c5;have g4:fn ZL conv ext 112 [I 0]=some (.tp (cQ 0) 0):=jr 0 (by decide) (by decide)
   unfold CO at t0;simp only[go_sem,t0,t9,g4];generalize hL:dI _ _=y;obtain⟨x,rfl,T7,rfl,t9,t13⟩:=oZ hL n (fun k st=>st.T 0= .tp (CO m n A b c) 0/\st.T 9= .rs J 0 n/\st.T 102= .rs J 0 n/\st.T 103=I n/\st.T 104=I k/\st.nx=J+1/\st.σ=DF/\∃s,st.T 13= .tp (cQ s) 0/\s=sm (fun j=>((c.getD j 0:Int):Rat)*Bj m S j) k/\Ln (1+52*k) s)
    (fun x=>∃T,x=(.exit 6,⟨T,DF,J+1⟩)/\T 9= .rs J 0 n/\T 13= .tp (cQ (sm (fun j=>((c.getD j 0:Int):Rat)*Bj m S j) n)) 0) (by
     clear hL;rintro k ⟨T,FU,m0⟩ hk ⟨t0,t9,c0,b3,c2,O,hs,s,t13,e1,e3⟩;simp only at t0 t9 c0 b3 c2 O hs t13;subst O hs;have g1:(k:Int)<(n:Int):=by omega
     have g2:=jD k;have g3:=ZT (n:=(k:Int)+1);have g4:=qO X (k:=k) (by omega);rw[m4 k hk]at g4;have m5:=lD hp.bc k;have g5:=idx (xs:=c) (k:=k) (by omega);have e5:c[k]'(by omega)=c.getD k 0:=by rw[zx,zy (by omega)];rfl
     rw[e5]at g5;have g6:=AU c k (by omega);have g7:(k:Int)<(c.length:Int):=by omega
     have g8:(c.flatMap cI).length=c.length:=qL c;have g9:(X.flatMap cF).length=n:=by rw[qN,c6]
     obtain⟨ck,i0⟩:∃ck,ck=c.getD k 0:=⟨_,rfl⟩;rw[<- i0]at g5 m5;have k1:=jr ck (by omega) (by omega);have l1:=ru (z:=ck) (by omega);have l2:=(h8 k hk).mono (show 24<=50 by decide);have k2:=aco (Bj m S k) (ck:Rat) (l2.mono (by decide)) (l1.mono (by decide));have l3:=aaZ l2 l1 (by decide);have k3:=ag_ s (Bj m S k*(ck:Rat)) (e3.mono (by omega)) (l3.mono (by decide));have l4:=N_ e3 l3;unfold CO at t0;refine .inl ⟨_,by simp only[go_sem,t0,t9,c0,b3,c2,t13,c5,g1,g2,g3,g4,g5,g6,g7,g8,g9,k1,k2,k3];rfl,?_⟩;simp only[go_sem,t0,t9,c0,b3];refine⟨rfl,rfl,_,rfl,?_,l4.mono (by omega)⟩;show _=sm _ k+((c.getD k 0:Int):Rat)*Bj m S k;rw[e1,<- i0,Rat.mul_comm]) (by
     rintro ⟨T,FU,m0⟩ ⟨t0,t9,c0,b3,c2,O,hs,s,t13,e1,e3⟩;simp only at t0 t9 c0 b3 c2 O hs t13;subst O hs;have g1:¬(n:Int)<(n:Int):=by omega
     refine⟨_,by simp only[go_sem,b3,c2,g1];rfl,by simp,_,rfl,?_⟩;simp only[go_sem,t9,t13,e1]) (by
     simp only[go_sem,t0,t9,CO];exact⟨0,rfl,rfl,ru (z:=0) (by decide)⟩)
   clear hL;have z1:n<=(X.flatMap cF).length:=by rw[qN,c6];exact zq _
   have z2:(X.flatMap cF).take n=X.flatMap cF:=zl (by rw[qN,c6];exact zq _);have z3:=IQ DF 4 X;simp only[go_sem,t9,t13,c5,z1,z2,z3];refine⟨_,rfl,.inr (.inr ⟨Bj m S,k5,h8,?_⟩)⟩;rw[show(AO A b c m n).n=n from rfl,<- hX];show V.AB [I 0,V.ts (X.flatMap cF) n,_]=V.AB [I 0,V.ts (X.flatMap cF) X.length,_];rw[c6];rfl
  .simp only[go_sem,qB,kb,c9,f1,f2,f3,f4,kc,km]
   exact⟨_,rfl,.inr (.inl ⟨rfl,j2⟩)⟩
end
theorem jR{body:St->Option (Ex×St)}{st E:St}{y:Option (Ex×St)}{e:Ex}(G:dI body st=y)(h:body st=some (e,E))(J:e≠ .norm):y=some (e,E):=by
 obtain⟨r,rfl,O⟩:=jQ G (fun _ s=>s=st) (fun r=>r=(e,E)) (fun n s hs=>by subst hs;exact .inr ⟨_,h,fun s h=>J (congrArg Prod.fst h),rfl⟩) 0 rfl;rw[O]
theorem aeK{body:St->Option (Ex×St)}{st st1 E:St}{y:Option (Ex×St)}{e:Ex}(G:dI body st=y)(J:body st=some (.norm,st1))(h:body st1=some (e,E))(O:e≠ .norm):y=some (e,E):=by
 obtain⟨r,rfl,S⟩:=jQ G (fun n s=>(n=1/\s=st)\/(n=0/\s=st1)) (fun r=>r=(e,E)) (fun n s hs=>by
  rcases hs with ⟨rfl,rfl⟩|⟨rfl,rfl⟩
  .exact .inl ⟨_,J,0,by omega,.inr ⟨rfl,rfl⟩⟩
  .exact .inr ⟨_,h,fun s h=>O (congrArg Prod.fst h),rfl⟩) 1 (.inl ⟨rfl,rfl⟩)
 rw[S]
theorem amw{σ:Store}{nx bt bf bo:Nat}(E:σ bt=some ⟨[.nil,Bo false,LI (dg 1),.nil,I 0,.rs bf 0 0],0,true⟩)(G:bt<nx) :
  ev ZL pI Ad 219 [.rp bt 0,.rs bo 0 0] σ nx=some (Bo true,σ,nx):=by
 rw[mg [.tmp 4] [] func219];simp only[go_sem];generalize J:dI _ _=y;have S:¬(0:Int)<0:=by decide
 obtain rfl:=aeK J (by
  simp only[go_sem,E,G];generalize O:dI _ _=Y;obtain rfl:=jR O (by simp only[go_sem];rfl) (by simp);simp only[go_sem];rfl) (by simp only[go_sem];rfl) (by simp)
 clear J;simp only[go_sem,E,G];generalize J:dI _ _=y;obtain rfl:=jR J (by simp only[go_sem];rfl) (by simp);simp only[go_sem]
theorem ak9{σ:Store}{nx bt bf:Nat}(E:σ bt=some ⟨[.nil,Bo false,LI (dg 1),.nil,I 0,.rs bf 0 0],0,true⟩)(G:bt<nx) :
  ev ZL pI Ad 261 [.rp bt 0,I 0] σ nx=some (.AB [],σ,nx):=by
 rw[mg [] [10,11] func261];simp only[go_sem];generalize J:dI _ _=y;obtain rfl:=jR J (by simp only[go_sem,E,G];rfl) (by simp);simp only[go_sem]
theorem ak_(σ:Store):∃r,ev ZL pI Ad 218 [.tp (CO 0 0 [] [] []) 0] σ 0=some r/\∃σ' nx' bt bf,r=(.AB [.rp bt 0,Bo true],σ',nx')/\bt<nx'/\σ' bt=some ⟨[.nil,Bo false,LI (dg 1),.nil,I 0,.rs bf 0 0],0,true⟩:=by
 have S:fn ZL conv ext 172 [I 1]=some (.agg [Bo false,LI (dg 1)]):=kG 1 (by decide) (by decide)
 have z2:IntKind.i64.wrap (0+0)=0:=by decide
 have z3:(1:Int)*0<=281474976710656:=by decide
 have z4:(0:Int)<=9223372036854775807:=by decide
 have z5:Int.toNat 0=0:=rfl;have Y:(8:Int)*0<=281474976710656:=by decide
 unfold CO;rw[mg [.tmp 2,.tmp 3] [15,18,24,38] func218];simp only[go_sem,S,z2,z3,z4,z5];generalize E:dI _ _=y;obtain rfl:=jR E (by simp only[go_sem];rfl) (by simp);clear E;simp only[go_sem,z4,z5,Y];generalize E:dI _ _=y;obtain rfl:=jR E (by simp only[go_sem];rfl) (by simp);clear E;obtain⟨σ2,O⟩:∃σ2,σ2=upd (upd (upd σ 0 (some ⟨rep 0 [V.sc (Value.bool false)],1,true⟩)) 1 (some ⟨[.nil,Bo false,LI (dg 1),.nil,I 0,.rs 0 0 0],0,true⟩)) 2 (some ⟨rep 0 [I 0],1,true⟩):=⟨_,rfl⟩;have G:σ2 1=some ⟨[.nil,Bo false,LI (dg 1),.nil,I 0,.rs 0 0 0],0,true⟩:=by rw[O];rfl
 have hm:=amw (nx:=3) (bo:=2) G (by decide);have hl:=ak9 (nx:=3) G (by decide);have J:1<3:=by decide
 simp only[go_sem,qB,<- O,hm,G,J];generalize E:dI _ _=y;obtain rfl:=jR E (by simp only[go_sem];rfl) (by simp);clear E;simp only[go_sem,G,J];generalize E:dI _ _=y;obtain rfl:=jR E (by simp only[go_sem];rfl) (by simp);clear E;simp only[go_sem,qB,hl];exact⟨_,rfl,σ2,3,1,0,rfl,J,G⟩
theorem ak':fn ZL pI Ad 160 [.tp (CO 0 0 [] [] []) 0]=some (.AB [I 0,.ts [] 0,.tp (cQ 0) 0]):=by
 obtain⟨r0,kb,S,E,bt,bf,rfl,a7,Y⟩:=ak_ lI;have z3:(8:Int)*0<=281474976710656:=by decide
 have z4:(0:Int)<=9223372036854775807:=by decide
 have z5:Int.toNat 0=0:=rfl;obtain⟨σ2,Ep⟩:∃σ2,σ2=upd S E (some ⟨rep 0 [I 0],1,true⟩):=⟨_,rfl⟩;have NU:σ2 bt=some ⟨[.nil,Bo false,LI (dg 1),.nil,I 0,.rs bf 0 0],0,true⟩:=by rw[Ep,Zm];exact Y
 have a1:bt<E+1:=by omega
 have km:=amw (nx:=E+1) (bo:=E) NU a1;have kc:Hg σ2 (E+1) [] 0 (.rs E 0 0)=some (I 0,σ2,E+1):=rfl;have g4:fn ZL conv ext 112 [I 0]=some (.tp (cQ 0) 0):=jr 0 (by decide) (by decide)
 rw[m_,mg [.tmp 2,.tmp 3,.tmp 4] [24] func160];have kb:ev ZL pI Ad 218 [.tp [I 0,I 0,LI [],LI [],LI []] 0] lI 0=some (.AB [.rp bt 0,Bo true],S,E):=kb;unfold CO;have kl:List.flatMap cI []=[]:=rfl;simp only[go_sem,qB,kb,Y,a7,z3,z4,z5,<- Ep,kc,km,kl];generalize G:dI _ _=y;obtain rfl:=jR G (by simp only[go_sem];rfl) (by simp);clear G;simp only[go_sem,z3,z4,z5];generalize G:dI _ _=y;obtain rfl:=jR G (by simp only[go_sem];rfl) (by simp);clear G;obtain⟨J,O⟩:∃J,J=upd σ2 (E+1) (some ⟨rep 0 [V.sc (.pointer none)],1,true⟩):=⟨_,rfl⟩;have KU:J bt=some ⟨[.nil,Bo false,LI (dg 1),.nil,I 0,.rs bf 0 0],0,true⟩:=by rw[O,Zm];exact NU
 have a6:bt<E+1+1:=by omega
 simp only[go_sem,<- O,KU,a6];generalize G:dI _ _=y;obtain rfl:=jR G (by simp only[go_sem];rfl) (by simp);clear G;simp only[go_sem,g4];generalize G:dI _ _=y;obtain rfl:=jR G (by simp only[go_sem];rfl) (by simp);clear G;have hx:J (E+1)=some ⟨[],1,true⟩:=by rw[O,Zk];rfl
 simp only[go_sem,hx]
structure SG (s:Structure):Prop where
 nj:s.joints.length<=6
 nm:s.members.length<=8
 pl:∀i (h:i<s.joints.length),-50<=s.joints[i].x/\s.joints[i].x<=50/\-50<=s.joints[i].y/\s.joints[i].y<=50
 mr:∀k (h:k<s.members.length),Gy s.joints.length s.members[k]
theorem Aj.sg{s:Structure}(h:Aj s):SG s:=by
 obtain⟨O,S,Y,h4⟩:=h;refine⟨O,S,fun i hi=>?_,fun k hk=>?_⟩
 .have E:=(Y i hi).1
  unfold Et at E;rw[zA,zA]at E;have G:=kE E.2.1;have J:=kE E.2.2;exact⟨G.1,G.2,J.1,J.2⟩
 .have E:=h4 _ (zu hk)
  refine zf fun hn=>?_
  rw[jK hn]at E;cases E
def mem(s:Structure)(k:Nat):Member:=(s.members[k]?).getD ⟨0,0,0⟩
def Xp(s:Structure)(i:Int):Joint:=(s.joints[i.toNat]?).getD ⟨ByteArray.empty,0,0,false⟩
def vx(s:Structure)(k:Nat):Int:=(Xp s (mem s k).b).x - (Xp s (mem s k).a).x
def vy(s:Structure)(k:Nat):Int:=(Xp s (mem s k).b).y - (Xp s (mem s k).a).y
theorem jJ{s:Structure}{k:Nat}(h:k<s.members.length):s.members[k]=mem s k:=by unfold mem;rw[zy h];rfl
theorem ahC{s:Structure}(h:SG s)(i:Int):-50<=(Xp s i).x/\(Xp s i).x<=50/\-50<=(Xp s i).y/\(Xp s i).y<=50:=by
 unfold Xp
 by_cases hi:i.toNat<s.joints.length
 .rw[zy hi];exact h.pl _ hi
 .rw[z_ (by omega)];simp
theorem Zf{s:Structure}(h:SG s)(k:Nat):-100<=vx s k/\vx s k<=100/\-100<=vy s k/\vy s k<=100:=by
 have E:=ahC h (mem s k).a;have G:=ahC h (mem s k).b;unfold vx vy;omega
theorem cO{α:Type}{c:α->List V}{s:Nat}(hc:∀x,(c x).length=s)(xs:List α)(k:Nat)(h:k<xs.length){j:Nat}(E:j<s):(xs.flatMap c)[k*s+j]?=(c xs[k])[j]?:=by
 rw[<- d_ hc xs k h,wX,sH E,xQ]
theorem TS{s:Structure}(h:SG s){k:Nat}(G:k<s.members.length):fn ZL conv ext 168 [.tp (cStructure s) 0,I k]=some (.AB [I (vx s k),I (vy s k)]):=by
 have J:=h.mr k G;rw[jJ G]at J;have hb:=Zf h k;have a1:=h.nm;have Pj:=h.nj;have O:=Ik s.members k G;rw[jJ G]at O;have f1:(k:Int)<(s.members.length:Int):=by omega
 have f2:=jD k;have f4:=E_ s.members;have f5:k*3+3<=s.members.length*3:=by omega
 have f6:=Il s.members k G;unfold vx vy at hb⊢;generalize mem s k=mm at *;obtain⟨S,Y,mk⟩:=mm;obtain⟨r1,r2,r3,r4,r5,r6⟩:=J;simp only at *;obtain⟨a,rfl⟩:∃a:Nat,S=(a:Int):=⟨S.toNat,by omega⟩;obtain⟨b,rfl⟩:∃b:Nat,Y=(b:Int):=⟨Y.toNat,by omega⟩;have ha:a<s.joints.length:=by omega
 have E:b<s.joints.length:=by omega
 have ea:Xp s (a:Int)=s.joints[a]:=by unfold Xp;rw[zJ,zy ha];rfl
 have eb:Xp s (b:Int)=s.joints[b]:=by unfold Xp;rw[zJ,zy E];rfl
 rw[ea,eb]at hb⊢;have g4:=Gf s.joints;have g6:=O1 s.joints a ha;have p1:(s.joints.flatMap cJoint)[a*4+1]?=some (I s.joints[a].x):=cO (c:=cJoint) (fun _=>rfl) s.joints a ha (j:=1) (by decide);have p2:(s.joints.flatMap cJoint)[a*4+2]?=some (I s.joints[a].y):=cO (c:=cJoint) (fun _=>rfl) s.joints a ha (j:=2) (by decide);have p3:(s.joints.flatMap cJoint)[b*4+1]?=some (I s.joints[b].x):=cO (c:=cJoint) (fun _=>rfl) s.joints b E (j:=1) (by decide);have p4:(s.joints.flatMap cJoint)[b*4+2]?=some (I s.joints[b].y):=cO (c:=cJoint) (fun _=>rfl) s.joints b E (j:=2) (by decide);have w1:=ZT (n:=s.joints[b].x-s.joints[a].x);have w2:=ZT (n:=s.joints[b].y-s.joints[a].y);rw[m_,mg [.tmp 4,.tmp 5] [2] func168];simp only[go_sem,O,f1,f2,f4,f5,f6,r1,r2,r3,r4,g4,g6,p1,p2,p3,p4,w1,w2]
def C9(s:Structure)(i:Nat):Bool:=(s.joints[i]?).elim false fun j=> !j.fixed
def free(s:Structure):List Int:=EY (C9 s) s.joints.length
theorem kR{T:Nat->V}{σ:Store}{nx t:Nat}{acc:List Int}(E:Grow T σ nx t acc)(x:Option FT):Grow T (upd σ nx x) (nx+1) t acc:=by
 rcases E with ⟨g1,g2⟩|⟨b,g1,g2,g3,g4⟩
 .exact .inl ⟨g1,g2⟩
 .exact .inr ⟨b,g1,g2,by rw[Zm];exact g3,by omega⟩
theorem kH{s:Structure}(h:SG s):fn ZL conv ext 108 [.tp (cStructure s) 0]=some (LI (free s)):=by
 have Pj:=h.nj;unfold free;rw[m_,mg [.tmp 2] [] func108];simp only[go_sem];generalize hL:dI _ _=y;obtain⟨r,rfl,T',σ',nx',rfl,h2⟩:=oZ hL s.joints.length (fun k st=>st.T 9=LL cJoint s.joints/\st.T 10=I s.joints.length/\st.T 11=I k/\Grow st.T st.σ st.nx 3 (EY (C9 s) k))
  (fun r=>∃T σ nx',r=(.exit 0,⟨T,σ,nx'⟩)/\Grow T σ nx' 3 (EY (C9 s) s.joints.length)) (by
   clear hL;rintro k ⟨T,σ,nx⟩ G ⟨O,E,J,S⟩;simp only at O E J S;have f1:(k:Int)<(s.joints.length:Int):=by omega
   have f2:=jD k;have f3:=ZT (n:=(k:Int)+1);have f4:=KN s.joints k G;have f5:=Gf s.joints;have f6:k*4+4<=s.joints.length*4:=by omega
   have f9:=O1 s.joints k G;have hle:=Zp (C9 s) k;have Y:=fun x=>kR S x
   cases hp:s.joints[k].fixed with
   |false=>
    have hq:C9 s k=true:=by simp[C9,zy G,hp]
    obtain⟨σ',ha,hs⟩:=kQ (Y (some ⟨[Sg s.joints[k].name,I s.joints[k].x,I s.joints[k].y,Bo false],0,true⟩)) (k:Int) (by omega);refine .inl ⟨_,by simp only[go_sem,O,E,J,f1,f2,f3,f4,f5,f6,f9,hp,G,ha];rfl,?_⟩;simp only[go_sem,O,E];rw[Iu hq];exact⟨rfl,kN hs (by simp[go_sem]) (by simp)⟩
   |true=>
    have hq:C9 s k=false:=by simp[C9,zy G,hp]
    refine .inl ⟨_,by simp only[go_sem,O,E,J,f1,f2,f3,f4,f5,f6,f9,hp,G];rfl,?_⟩;simp only[go_sem,O,E];rw[Nc hq];exact⟨rfl,kP (T:=T) (by simp only[go_sem]) (Y _)⟩) (by
   rintro ⟨T,σ,nx⟩ ⟨O,E,J,S⟩;simp only at O E J S;exact⟨_,by simp only[go_sem,E,J,zk];rfl,by simp,_,_,_,rfl,kP (by simp only[go_sem]) S⟩) (by
   simp only[go_sem];exact .inl ⟨by simp only[go_sem],rfl⟩)
 obtain⟨ids,hs⟩:=kM h2 6;simp only[go_sem,hs]
end Go.Proofs.YtkpdoehbhmipcaaGreat
namespace Go.Plan
inductive Way (mv:Nat->Nat->Bool) (al:Nat->Bool):Nat->Nat->Nat->Prop
 |nil {a:Nat} (h:al a=true):Way mv al 0 a a
 |cons {k a b c:Nat} (h:al a=true) (hm:mv a b=true) (hw:Way mv al k b c):Way mv al (k+1) a c
section
variable {mv:Nat->Nat->Bool} {al:Nat->Bool}
theorem Way.fst{k a b:Nat}(h:Way mv al k a b):al a=true:=by cases h<;>assumption
theorem Way.lst{k a b:Nat}(h:Way mv al k a b):al b=true:=by induction h<;>assumption
theorem Way.snoc{k a b c:Nat}(h:Way mv al k a b)(hm:mv b c=true)(hc:al c=true):Way mv al (k+1) a c:=by
 induction h with
 |nil h=>exact .cons h hm (.nil hc)
 |cons h E _ G=>exact .cons h E (G hm)
theorem Way.zero{a b:Nat}(h:Way mv al 0 a b):a=b/\al a=true:=by
 cases h with
 |nil h=>exact⟨rfl,h⟩
theorem Way.succ{k a c:Nat}(h:Way mv al (k+1) a c):al a=true/\∃b,mv a b=true/\Way mv al k b c:=by
 cases h with
 |cons h hm hw=>exact⟨h,_,hm,hw⟩
theorem least{p:Nat->Prop}(h:∃k,p k):∃k,p k/\∀j,p j->k<=j:=by
 obtain⟨k,E⟩:=h
 induction k using Nat.strongRecOn with
 |_ k G=>
  by_cases h:∃j,j<k/\p j
  .obtain⟨j,J,hp⟩:=h;exact G j J hp
  .exact⟨k,E,fun j hp=>zf fun O=>h ⟨j,by omega,hp⟩⟩
def JI(mv:Nat->Nat->Bool)(al:Nat->Bool)(to i:Nat)(d:Int):Prop:=(d= -1/\∀k,¬Way mv al k i to)\/∃k:Nat,d=(k:Int)/\Way mv al k i to/\∀j,Way mv al j i to->k<=j
theorem acA(mv:Nat->Nat->Bool)(al:Nat->Bool)(to i:Nat):∃d,JI mv al to i d:=by
 by_cases h:∃k,Way mv al k i to
 .obtain⟨k,E,G⟩:=least h
  exact⟨k,.inr ⟨k,rfl,E,G⟩⟩
 .exact⟨-1,.inl ⟨rfl,fun k J=>h ⟨k,J⟩⟩⟩
noncomputable def dst(mv:Nat->Nat->Bool)(al:Nat->Bool)(to i:Nat):Int:=Classical.choose (acA mv al to i)
theorem aa0(mv:Nat->Nat->Bool)(al:Nat->Bool)(to i:Nat):JI mv al to i (dst mv al to i):=Classical.choose_spec (acA mv al to i)
theorem JI.uniq{to i:Nat}{d e:Int}(E:JI mv al to i d)(G:JI mv al to i e):d=e:=by
 rcases E with ⟨rfl,E⟩|⟨k,rfl,E,J⟩<;>rcases G with ⟨rfl,G⟩|⟨j,rfl,G,O⟩
 .rfl
 .exact absurd G (E _)
 .exact absurd E (G _)
 .have:=J _ G;have:=O _ E;omega
theorem ahD{to i:Nat}{d:Int}(h:JI mv al to i d):dst mv al to i=d:=(aa0 mv al to i).uniq h
theorem IU{to i:Nat}(h:0<=dst mv al to i):∃k:Nat,dst mv al to i=k/\Way mv al k i to/\∀j,Way mv al j i to->k<=j:=by
 rcases aa0 mv al to i with ⟨E,_⟩|E
 .omega
 .exact E
theorem aa1{to i k:Nat}(h:Way mv al k i to):0<=dst mv al to i/\dst mv al to i<=k:=by
 rcases aa0 mv al to i with ⟨_,E⟩|⟨j,E,J,G⟩
 .exact absurd h (E _)
 .have:=G _ h;omega
theorem ahE{to i:Nat}(h:∀k,¬Way mv al k i to):dst mv al to i= -1:=ahD (.inl ⟨rfl,h⟩)
theorem ahF{to i:Nat}(h:dst mv al to i=0):i=to/\al to=true:=by
 obtain⟨k,J,E,_⟩:=IU (mv:=mv) (al:=al) (to:=to) (i:=i) (by omega);have:k=0:=by omega
 subst this;obtain⟨rfl,G⟩:=E.zero;exact⟨rfl,G⟩
theorem Ob{to i:Nat}(h:0<=dst mv al to i):al i=true/\al to=true:=by
 obtain⟨k,_,E,_⟩:=IU h;exact⟨E.fst,E.lst⟩
theorem ahG{to i m:Nat}(hi:al i=true)(hm:mv i m=true)(h:0<=dst mv al to m):0<=dst mv al to i/\dst mv al to i<=dst mv al to m+1:=by
 obtain⟨k,G,E,_⟩:=IU h;have:=aa1 (Way.cons hi hm E);omega
theorem ahH{to i:Nat}(h:0<dst mv al to i):al i=true/\∃m,mv i m=true/\al m=true/\dst mv al to m=dst mv al to i-1:=by
 obtain⟨k,Y,O,h3⟩:=IU (mv:=mv) (al:=al) (to:=to) (i:=i) (by omega);cases k with
 |zero=>omega
 |succ k=>
  obtain⟨E,b,G,J⟩:=O.succ;have S:=aa1 J;have h8:=ahG E G S.1;exact⟨E,b,G,J.fst,by omega⟩
theorem jB:∀ {n:Nat} {l:List Nat},l.Nodup->(∀x∈l,x<n)->l.length<=n
 |0,[],_,_=>zq 0
 |0,x :: _,_,h=>absurd (h x zM) (zX _)
 |n+1,l,hn,h=>by
  have G:=jB (n:=n) (l:=l.erase n) (hn.sublist List.erase_sublist) fun x J=>by
   have E:=(List.Nodup.mem_erase_iff hn).mp J;have:=h x E.2;have:=E.1;omega
  by_cases hm:n∈l
  .have:=List.length_erase_of_mem hm
   omega
  .rw[List.erase_of_not_mem hm]at G
   omega
structure Xq (mv:Nat->Nat->Bool) (al:Nat->Bool) (to:Nat) (all:List Nat) (p:Nat) (out:Nat->Int):Prop where
 nd:all.Nodup
 lab:∀i,i∉all->out i= -1
 way:∀i,i∈all->∃k:Nat,out i=k/\Way mv al k i to
 t0:to∈all/\out to=0
 srt:∀a b (ha:a<all.length) (hb:b<all.length),a<=b->out all[a]<=out all[b]
 don:∀a (ha:a<all.length),a<p->∀i,al i=true->mv i all[a]=true->i∈all/\out i<=out all[a]+1
 one:∀(hp:p<all.length),∀i∈all,out i<=out all[p]+1
 bnd:∀i,i∈all->out i<all.length
def put(out:Nat->Int)(x:Nat)(v:Int):Nat->Int:=fun i=>if i=x then v else out i
theorem gV(out:Nat->Int)(x:Nat)(v:Int):put out x v x=v:=sH rfl
theorem aa2{out:Nat->Int}{x i:Nat}{v:Int}(h:i≠x):put out x v i=out i:=sJ h
theorem aeL{to:Nat}(h:al to=true):Xq mv al to [to] 0 (put (fun _=> -1) to 0):=by
 refine⟨by simp,fun i hi=>?_,fun i hi=>?_,⟨by simp,gV _ _ _⟩,fun a b ha hb _=>?_,fun a ha E=>absurd E (zX _),fun hp i hi=>?_,fun i hi=>?_⟩
 .exact aa2 (by simpa using hi)
 .have:i=to:=by simpa using hi
  subst this;exact⟨0,gV _ _ _,.nil h⟩
 .have G:a=0:=by simpa using ha
  have J:b=0:=by simpa using hb
  subst G J;exact xA _
 .have:i=to:=by simpa using hi
  subst this;show put _ _ _ _<=put _ _ _ i+1;omega
 .have:i=to:=by simpa using hi
  subst this;rw[gV];simp
theorem Xq.lo{to:Nat}{all:List Nat}{p:Nat}{out:Nat->Int}(h:Xq mv al to all p out)(i:Nat):(out i<0↔i∉all):=by
 constructor
 .intro E G
  obtain⟨k,J,_⟩:=h.way i G;omega
 .intro E
  rw[h.lab i E];omega
theorem Xq.add{to:Nat}{all:List Nat}{p:Nat}{out:Nat->Int}(h:Xq mv al to all p out)(hp:p<all.length){x:Nat}(hx:x∉all)(Y:al x=true)(a1:mv x all[p]=true):Xq mv al to (all++[x]) p (put out x (out all[p]+1)):=by
 have ne:∀ {i:Nat},i∈all->put out x (out all[p]+1) i=out i:=fun {i} hi=>aa2 fun e=>hx (e ▸ hi)
 obtain⟨kp,b2,a6⟩:=h.way all[p] (zu hp);have G:∀i∈all++[x],put out x (out all[p]+1) i<=out all[p]+1:=fun i hi=>by
  rcases List.mem_append.mp hi with hi|hi
  .rw[ne hi];exact h.one hp i hi
  .have:i=x:=by simpa using hi
   subst this;rw[gV];exact xA _
 have gl:∀ {a:Nat} (ha:a<(all++[x]).length),(∃h':a<all.length,(all++[x])[a]=all[a])\/(a=all.length/\(all++[x])[a]=x):=fun {a} ha=>by
  by_cases h':a<all.length
  .exact .inl ⟨h',xY h'⟩
  .have:a=all.length:=by simp at ha;omega
   subst this;exact .inr ⟨rfl,by simp⟩
 refine⟨?_,fun i hi=>?_,fun i hi=>?_,⟨zD _ h.t0.1,?_⟩,fun a b ha hb a7=>?_,fun a ha a8 i hi hm=>?_,fun b3 i hi=>?_,fun i hi=>?_⟩
 .rw[List.nodup_append]
  exact⟨h.nd,by simp,fun a ha b hb=>by have:b=x:=by simpa using hb
                                       subst this;exact fun e=>hx (e ▸ ha)⟩
 .have h1:i∉all:=fun e=>hi (zD _ e)
  have h2:i≠x:=fun e=>hi (yw _ (by simp[e]))
  rw[aa2 h2];exact h.lab i h1
 .rcases List.mem_append.mp hi with hi|hi
  .rw[ne hi];exact h.way i hi
  .have:i=x:=by simpa using hi
   subst this;exact⟨kp+1,by rw[gV];omega,.cons Y a1 a6⟩
 .rw[ne h.t0.1];exact h.t0.2
 .rcases gl ha with ⟨E,J⟩|⟨ra,J⟩<;>rcases gl hb with ⟨O,S⟩|⟨rb,S⟩
  .rw[J,S,ne (zu E),ne (zu O)]
   exact h.srt a b E O a7
  .rw[J,S,gV,ne (zu E)]
   exact h.one hp _ (zu E)
  .omega
  .rw[J,S];exact xA _
 .rcases gl ha with ⟨E,J⟩|⟨ra,J⟩
  .rw[J]at hm⊢
   have:=h.don a E a8 i hi hm;rw[ne this.1,ne (zu E)];exact⟨zD _ this.1,this.2⟩
  .omega
 .have e:(all++[x])[p]=all[p]:=xY hp
  rw[e,ne (zu hp)];exact G i hi
 .have h1:=G i hi
  have h2:=h.bnd all[p] (zu hp);rw[zo,yL];omega
theorem Xq.next{to:Nat}{all:List Nat}{p:Nat}{out:Nat->Int}(h:Xq mv al to all p out)(hp:p<all.length)(G:∀i,al i=true->mv i all[p]=true->i∈all):Xq mv al to all (p+1) out:=by
 refine⟨h.nd,h.lab,h.way,h.t0,h.srt,fun a ha J i hi hm=>?_,fun E i hi=>?_,h.bnd⟩
 .by_cases e:a=p
  .subst e
   exact⟨G i hi hm,h.one hp i (G i hi hm)⟩
  .exact h.don a ha (by omega) i hi hm
 .have O:=h.one hp i hi
  have S:=h.srt p (p+1) hp E (by omega);omega
theorem Xq.fin{to:Nat}{all:List Nat}{p:Nat}{out:Nat->Int}(h:Xq mv al to all p out)(hp:all.length<=p)(i:Nat):dst mv al to i=out i:=by
 have key:∀k i,Way mv al k i to->i∈all/\out i<=k:=by
  intro k
  induction k with
  |zero=>
   intro i hw;obtain⟨rfl,_⟩:=hw.zero;exact⟨h.t0.1,by rw[h.t0.2];omega⟩
  |succ k J=>
   intro i hw;obtain⟨E,b,G,O⟩:=hw.succ;obtain⟨S,h5⟩:=J b O;obtain⟨a,ha,rfl⟩:=yZ S;obtain⟨Y,h7⟩:=h.don a ha (by omega) i E G;exact⟨Y,by omega⟩
 apply ahD
 by_cases hm:i∈all
 .obtain⟨k,E,G⟩:=h.way i hm
  exact .inr ⟨k,E,G,fun j hj=>by have:=(key j i hj).2;omega⟩
 .exact .inl ⟨h.lab i hm,fun k hk=>hm (key k i hk).1⟩
theorem Xq.bound{to:Nat}{all:List Nat}{p n:Nat}{out:Nat->Int}(h:Xq mv al to all p out)(hn:∀i,al i=true->i<n):all.length<=n :=
 jB h.nd fun i hi=>by obtain⟨k,_,hw⟩:=h.way i hi;exact hn i hw.fst
structure Fwd (mv:Nat->Nat->Bool) (al:Nat->Bool) (fr:Nat) (all:List Nat) (p:Nat):Prop where
 nd:all.Nodup
 way:∀i,i∈all->∃k:Nat,Way mv al k fr i
 t0:fr∈all
 don:∀a (ha:a<all.length),a<p->∀i,al i=true->mv all[a] i=true->i∈all
theorem aeM{fr:Nat}(h:al fr=true):Fwd mv al fr [fr] 0 :=
 ⟨by simp,fun i hi=>by have:i=fr:=by simpa using hi
                       subst this;exact⟨0,.nil h⟩,by simp,fun a ha E=>absurd E (zX _)⟩
theorem Fwd.add{fr:Nat}{all:List Nat}{p:Nat}(h:Fwd mv al fr all p)(hp:p<all.length){x:Nat}(Y:x∉all)(G:al x=true)(J:mv all[p] x=true):Fwd mv al fr (all++[x]) p:=by
 obtain⟨kp,O⟩:=h.way all[p] (zu hp);refine⟨?_,fun i hi=>?_,zD _ h.t0,fun a ha S i hi hm=>?_⟩
 .rw[List.nodup_append]
  exact⟨h.nd,by simp,fun a ha b hb=>by have:b=x:=by simpa using hb
                                       subst this;exact fun e=>Y (e ▸ ha)⟩
 .rcases List.mem_append.mp hi with hi|hi
  .exact h.way i hi
  .have:i=x:=by simpa using hi
   subst this;exact⟨kp+1,O.snoc J G⟩
 .have E:a<all.length:=by omega
  have e:(all++[x])[a]=all[a]:=xY E;rw[e]at hm;exact zD _ (h.don a E S i hi hm)
theorem Fwd.next{fr:Nat}{all:List Nat}{p:Nat}(h:Fwd mv al fr all p)(hp:p<all.length)(E:∀i,al i=true->mv all[p] i=true->i∈all):Fwd mv al fr all (p+1) :=
 ⟨h.nd,h.way,h.t0,fun a ha G i hi hm=>by
  by_cases e:a=p
  .subst e;exact E i hi hm
  .exact h.don a ha (by omega) i hi hm⟩
theorem Fwd.fin{fr:Nat}{all:List Nat}{p:Nat}(h:Fwd mv al fr all p)(hp:all.length<=p)(i:Nat):i∈all↔0<=dst mv al i fr:=by
 have key:∀k a,Way mv al k a i->a∈all->i∈all:=by
  intro k a hw
  induction hw with
  |nil _=>exact id
  |cons h1 hm E O=>
   intro ha;obtain⟨S,G,rfl⟩:=yZ ha;exact O (h.don S G (by omega) _ E.fst hm)
 constructor
 .intro hi
  obtain⟨k,J⟩:=h.way i hi;exact(aa1 J).1
 .intro Y
  obtain⟨k,_,J,_⟩:=IU Y;exact key k fr J h.t0
theorem Fwd.bound{fr:Nat}{all:List Nat}{p n:Nat}(h:Fwd mv al fr all p)(hn:∀i,al i=true->i<n):all.length<=n :=
 jB h.nd fun i hi=>by obtain⟨k,hw⟩:=h.way i hi;exact hn i hw.lst
def Jc(mv:Nat->Nat->Bool)(out:Nat->Int)(n a:Nat):Nat:=((List.range n).find? fun i=>mv a i && (out i==out a-1)).getD a
def TT(mv:Nat->Nat->Bool)(out:Nat->Int)(n a:Nat):Nat->Nat
 |0=>a
 |k+1=>Jc mv out n (TT mv out n a k)
theorem aa3{n to:Nat}(hn:∀i,al i=true->i<n){a:Nat}(h:0<dst mv al to a):Jc mv (dst mv al to) n a<n/\mv a (Jc mv (dst mv al to) n a)=true/\dst mv al to (Jc mv (dst mv al to) n a)=dst mv al to a-1:=by
 obtain⟨_,m,J,O,S⟩:=ahH h;unfold Jc;cases E:(List.range n).find? fun i=>mv a i && (dst mv al to i==dst mv al to a-1)with
 |none=>
  rw[List.find?_eq_none]at E;have:=E m (by simpa using hn m O);simp[J,S]at this
 |some i=>
  have G:=List.find?_some E;have Y:=List.mem_of_find?_eq_some E;rw[zA,beq_iff_eq]at G;exact⟨by simpa using Y,G.1,G.2⟩
theorem jv{n to:Nat}(hn:∀i,al i=true->i<n){a:Nat}:∀k:Nat,(k:Int)<=dst mv al to a->dst mv al to (TT mv (dst mv al to) n a k)=dst mv al to a-k
 |0,_=>by unfold TT;omega
 |k+1,h=>by
  have E:=jv hn (to:=to) (a:=a) k (by omega);have G:=aa3 hn (mv:=mv) (to:=to) (a:=TT mv (dst mv al to) n a k) (by omega);unfold TT;omega
theorem ahI{n to:Nat}(hn:∀i,al i=true->i<n){a:Nat}(h:0<=dst mv al to a):dst mv al to a<n:=by
 obtain⟨d,hd⟩:∃d:Nat,dst mv al to a=d:=⟨(dst mv al to a).toNat,by omega⟩;have G:((List.range (d+1)).map (TT mv (dst mv al to) n a)).Nodup:=by
  unfold List.Nodup;rw[List.pairwise_map];refine List.Pairwise.imp_of_mem ?_ (List.pairwise_lt_range (n:=d+1));intro i j hi J O e;rw[List.mem_range]at hi J;have E:=jv hn (mv:=mv) (to:=to) (a:=a) i (by omega);have S:=jv hn (mv:=mv) (to:=to) (a:=a) j (by omega);rw[e,S]at E;omega
 have Y:=jB (n:=n) G fun x hx=>by
  obtain⟨i,hi,rfl⟩:=List.mem_map.mp hx;rw[List.mem_range]at hi;have E:=jv hn (mv:=mv) (to:=to) (a:=a) i (by omega);exact hn _ (Ob (mv:=mv) (to:=to) (by omega)).1
 simp at Y;omega
def plan(mv:Nat->Nat->Bool)(out:Nat->Int)(n a:Nat):List Nat:=(List.range ((out a).toNat+1)).map (TT mv out n a)
theorem ahJ(out:Nat->Int)(n a:Nat):(plan mv out n a).length=(out a).toNat+1:=by simp[plan]
end
end Go.Plan
namespace Go.Plan
section
variable {mv:Nat->Nat->Bool} {al:Nat->Bool}
noncomputable def lst(mv:Nat->Nat->Bool)(al:Nat->Bool)(to a:Nat):Int:=if 0<=dst mv al to a then dst mv al to a+1 else 0
def asN(f:Int->Int)(b:Int)(k:Int):Int:=if 0<f k/\(b=0\/f k<b)then f k else b
def best(f:Int->Int)(l:List Int):Int:=l.foldl (asN f) 0
end
end Go.Plan
namespace Go.Plan
section
variable {mv:Nat->Nat->Bool} {al:Nat->Bool}
end
end Go.Plan
namespace Go.Proofs.YtkpdoehbhmipcaaGreat
open Go Go.TV
def Hq(s:Nat):List V->Store->Nat->Option (V×Store×Nat)
 |[.ts row len],σ,nx=>if row.length=len*s/\len<=1000000/\row.all qI=true then(if len=0 then some (.nil,σ,nx)else some (.rs nx 0 len,Aq σ nx row s,nx+1))else none
 |_,_,_=>none
theorem TU(args:List V)(σ:Store)(nx:Nat)(v:V)(σ':Store)(nx':Nat)(h:Hq 4 args σ nx=some (v,σ',nx')):Ee ZL 64 args σ nx v σ' nx':=by
 unfold Hq at h
 split at h
 .rename_i row len
  split at h
  .rename_i hc
   obtain⟨O,hs,G⟩:=hc;refine MO (call:=fun _ _ _ _=>none) (conv:=fun _=> .KH) (fun _ _ _ _ _ _ _ h=>by cases h) (by kernel_rfl) func64 rfl Tryz.underlying33 (n:=0) (by kernel_rfl) (st1:=⟨upd (Dt [.ts row len]) 2 .nil,σ,nx⟩) (T2:=upd (upd (Dt [.ts row len]) 2 .nil) 3 (.ts row len)) (v1:=.ts row len) (row:=row) (len:=len) (vs:=[v]) ?_ rfl ?_ rfl ?_ ?_
   .rfl
   .rfl
   .rfl
   .intro b hb
    cases b with
    |true=>
     have J:=hb rfl;subst J;have E:len=0:=by
      have S:0=len*4:=O;omega
     subst E;simp only[if_true,sO,sN]at h;obtain⟨rfl,rfl,rfl⟩:=h;exact⟨.ret,_,rfl,.inr rfl,rfl,rfl,rfl⟩
    |false=>
     by_cases E:len=0
     .subst E
      have J:row=[]:=zZ (by omega);subst J;simp only[if_true,sO,sN]at h;obtain⟨rfl,rfl,rfl⟩:=h;refine⟨.ret,?_,?_,.inr rfl,?_,?_,?_⟩
      .exact⟨upd (upd (upd (upd (upd (upd (upd (upd (Dt [.ts [] 0]) 2 .nil) 3 (.ts [] 0)) 4 (.sc (.bool false))) 5 .nil) 6 (.ts [] 0)) 7 .nil) 2 .nil) 2 .nil,σ,nx⟩
      .simp only[xI,go_sem]
      .rfl
      .rfl
      .rfl
     .rw[sJ E]at h
      simp only[sO,sN]at h;obtain⟨rfl,rfl,rfl⟩:=h;have q0:len<=maxLen:=by unfold maxLen;omega
      have Y:len<=maxLen/\len*1<=140737488355328:=by unfold maxLen;omega
      have q2:len<=maxLen/\len*40<=140737488355328:=by unfold maxLen;omega
      have q3:len<=maxLen/\len<=140737488355328:=by unfold maxLen;omega
      refine⟨.ret,?_,?_,.inr rfl,?_,?_,?_⟩
      .exact⟨upd (upd (upd (upd (upd (upd (upd (Dt [.ts row len]) 2 .nil) 3 (.ts row len)) 4 (.sc (.bool false))) 5 .nil) 6 (.ts row len)) 7 (.rs nx 0 len)) 2 (.rs nx 0 len),Aq σ nx row 4,nx+1⟩
      .simp only[xI,go_sem,O,E,Y,q2,q3]
      .rfl
      .rfl
      .rfl
  .cases h
 .cases h
section
variable {P:Program} {conv:FuncId->Conv} {call:TV.Call} (d:Option Tmp) (ty:TypeId) (ps:String) (af:Array Edge) (gd:Option (Nat×Bool)) (T:Nat->V) (σ:Store) (nx:Nat)
theorem Oc(t:TypeId)(len:Nat)(parts:Array (Nat×Operand))(E:(decide (len=0) && !parts.isEmpty)=false)(G:¬len=0)(h:(vI P t).slice=true)(J:(vI P t).Rz=true) :
  Ah P conv call ⟨d,.buildSlice t len parts,ty,ps,af,gd⟩ T σ nx=BJ P t len (parts.toList.map fun p=>(p.1,val T p.2)) σ nx:=by
 have key:∀σ,BJ P t len (parts.toList.map fun p=>(p.1,val T p.2)) σ nx=(if 0<(vI P t).GR/\len*(vI P t).GR<=1000 then(CB (fun j=>some (j*(vI P t).GR,(vI P t).GR)) (rep len (vI P t).D_) (parts.toList.map fun p=>(p.1,val T p.2))).map fun cells=>(cells,(vI P t).GR,V.rs nx 0 len)else none).map fun p=>(p.2.2,Aq σ nx p.1 p.2.1,nx+1):=fun σ=>by
  rw[ng h J,sJ G]
  split
  .cases CB (fun j=>some (j*(vI P t).GR,(vI P t).GR)) (rep len (vI P t).D_) (parts.toList.map fun p=>(p.1,val T p.2))<;>rfl
  .rfl
 have:=Ie (P:=P) (conv:=conv) (call:=call) (o:=⟨d,.buildSlice t len parts,ty,ps,af,gd⟩) T σ nx rfl fun σ=>(iW d ty ps af gd T σ nx t len parts E).trans (key σ)
 exact this.trans (key σ).symm
end
attribute [go_sem] Oc
def Bd(L:List Int):Prop:=∀x∈L,-100<=x/\x<=100
open Go.Lp
attribute [-go_sem] qw
def Cb{α:Type}(c:α->List V)(s:Nat)(T:Nat->V)(σ:Store)(nx t:Nat)(acc:List α):Prop:=(T t= .nil/\acc=[])\/∃b,T t= .rs b 0 acc.length/\acc≠[]/\σ b=some ⟨acc.flatMap c,s,true⟩/\b<nx
section
variable {α:Type} {c:α->List V} {s:Nat} {T:Nat->V} {σ:Store} {nx t:Nat} {acc:List α}
theorem kX(E:Cb c s T σ nx t acc)(x:Option FT):Cb c s T (upd σ nx x) (nx+1) t acc:=by
 rcases E with ⟨g1,g2⟩|⟨b,g1,g2,g3,g4⟩
 .exact .inl ⟨g1,g2⟩
 .exact .inr ⟨b,g1,g2,by rw[Zm];exact g3,by omega⟩
theorem Xr{T':Nat->V}{E:Nat}(h:T' E=T t)(G:Cb c s T σ nx t acc):Cb c s T' σ nx E acc:=by
 unfold Cb at *;rw[h];exact G
theorem kW(hc:∀x,(c x).length=s)(E:∀x,(c x).all qI=true)(hs:0<s){bytes:Nat}(S:Cb c s T σ nx t acc)(x:α)(hl:acc.length<100000)(hb:bytes<=1000) :
  ∃σ',Ag (upd σ nx (some ⟨c x,s,true⟩)) (nx+1) s bytes (T t) (c x) 1=some (.rs (nx+1) 0 (acc.length+1),σ',nx+1+1)/\σ' (nx+1)=some ⟨(acc++[x]).flatMap c,s,true⟩/\∀y,y<nx->(∀b o l,T t= .rs b o l->y≠b)->σ' y=σ y:=by
 have hm:acc.length+1<=maxLen:=by unfold maxLen;omega
 have hmul:(acc.length+1)*bytes<=100000*1000:=xq (by omega) hb;rcases S with ⟨J,rfl⟩|⟨b,J,G,O,Y⟩
 .refine⟨_,by rw[J,qx,sJ (by decide),sH ⟨by decide,by omega⟩];rfl,?_⟩
  refine⟨by simp[Aq,upd],fun y hy _=>?_⟩;unfold Aq;rw[Zm,Zm]
 .have hlen:(acc.flatMap c).length=acc.length*s:=bZ hc acc
  refine⟨upd (upd (upd σ nx (some ⟨c x,s,true⟩)) b none) (nx+1) (some ⟨acc.flatMap c++c x,s,true⟩),?_,?_,fun y hy G=>?_⟩
  .rw[J,qw,Zm,O]
   simp only[zi];rw[sJ (by decide),sJ (by rw[hlen,uz];omega),sH ⟨by rw[hlen];omega,trivial,hm,by omega,E x⟩];rfl
  .rw[Zk,zT];simp
  .have:=G _ _ _ J
   rw[Zm,Zl _ _ this,Zm]
theorem kU(G:Cb c s T σ nx t acc){b o l:Nat}(h:T t= .rs b o l):b<nx:=by
 rcases G with ⟨E,_⟩|⟨b',E,_,_,J⟩
 .rw[E]at h;cases h
 .rw[E]at h;cases h;exact J
theorem kT{σ':Store}(h:σ' (nx+1)=some ⟨acc.flatMap c,s,true⟩)(G:T t= .rs (nx+1) 0 acc.length)(E:acc≠[]):Cb c s T σ' (nx+1+1) t acc:=.inr ⟨nx+1,G,E,h,by omega⟩
theorem kS(hc:∀x,(c x).length=s)(d:Nat)(E:∀x,stripL (strip σ d) (c x)=some (c x,[]))(J:Cb c s T σ nx t acc):∃ids,strip σ (d+1) (T t)=some (LL c acc,ids):=by
 rcases J with ⟨G,rfl⟩|⟨b,G,O,hb,S⟩
 .exact⟨[],by rw[G,aS];rfl⟩
 .refine⟨[b],?_⟩
  rw[G,aQ,hb];have Y:=bZ hc acc;simp only[zi,yX,yY,Y,zq,if_true];rw[zl (by omega),aW E];rfl
end
theorem ala(z:List V):rep 1 z=z:=by simp[rep]
theorem Jr(a b c d:V):patch [a,b] 0 [c,d]=[c,d]:=rfl
attribute [go_sem] ala Jr
abbrev ES(p:Int×Int):List V:=[I p.1,I p.2]
def ET(m:Member)(k:Nat):List (Int×Int):=(if m.kind=2 then []else [((k:Int),1)])++(if m.kind=1 then []else [((k:Int),-1)])
def cols(s:Structure)(n:Nat):List (Int×Int):=(List.range n).flatMap fun k=>ET (mem s k) k
theorem oh(s:Structure)(n:Nat):cols s (n+1)=cols s n++ET (mem s n) n:=by simp[cols,wJ]
theorem aa4(m:Member)(k:Nat):(ET m k).length<=2:=by
 unfold ET
 split<;>split<;>simp
theorem oz(s:Structure):∀n,(cols s n).length<=2*n
 |0=>by simp[cols]
 |n+1=>by
  rw[oh,zo];have:=oz s n;have:=aa4 (mem s n) n;omega
theorem Oe{s:Structure}(h:SG s):fn ZL conv ext 161 [.tp (cStructure s) 0]=some (LL ES (cols s s.members.length)):=by
 have b3:=h.nm;rw[m_,mg [.tmp 2] [] func161];simp only[go_sem];generalize hL:dI _ _=y;obtain⟨r,rfl,T',σ',nx',rfl,h2⟩:=oZ hL s.members.length (fun k st=>st.T 9=LL cMember s.members/\st.T 10=I s.members.length/\st.T 11=I k/\Cb ES 2 st.T st.σ st.nx 3 (cols s k))
  (fun r=>∃T σ nx',r=(.exit 0,⟨T,σ,nx'⟩)/\Cb ES 2 T σ nx' 3 (cols s s.members.length)) (by
   clear hL;rintro k ⟨T,σ,nx⟩ O ⟨S,E,G,hg⟩;simp only at S E G hg;have f1:(k:Int)<(s.members.length:Int):=by omega
   have f2:=jD k;have f3:=ZT (n:=(k:Int)+1);have f4:=Ik s.members k O;have f5:=E_ s.members;have f6:k*3+3<=s.members.length*3:=by omega
   have f9:=Il s.members k O;have hr:=h.mr k O;rw[jJ O]at f4 hr;have hle:=oz s k;rw[oh];obtain⟨J,e1⟩:∃J,J=mem s k:=⟨_,rfl⟩;rw[<- e1]at f4 hr⊢;have a1:=fun x=>kX hg x
   unfold ET
   by_cases k2:J.kind=2
   .have g1:(J.kind !=2)=false:=by simpa using k2
    have g2:(J.kind !=1)=true:=by simp[k2]
    obtain⟨σ',ha,hs,Y⟩:=kW (c:=ES) (s:=2) (bytes:=16) (fun _=>rfl) (fun _=>rfl) (by decide) (a1 (some ⟨cMember J,0,true⟩)) ((k:Int),-1) (by omega) (by decide);refine .inl ⟨_,by simp only[go_sem,S,E,G,f1,f2,f3,f4,f5,f6,f9,g1,g2,ha];rfl,?_⟩;simp only[go_sem,S,E];rw[sH k2,sJ (by omega),yO];exact⟨rfl,kT hs (by simp[go_sem]) (by simp)⟩
   .by_cases k1:J.kind=1
    .have g1:(J.kind !=2)=true:=by simpa using k2
     have g2:(J.kind !=1)=false:=by simpa using k1
     obtain⟨σ',ha,hs,Y⟩:=kW (c:=ES) (s:=2) (bytes:=16) (fun _=>rfl) (fun _=>rfl) (by decide) (a1 (some ⟨cMember J,0,true⟩)) ((k:Int),1) (by omega) (by decide);have a6:σ' nx=some ⟨cMember J,0,true⟩:=by
      rw[Y nx (by omega) (fun b o l h=>by have:=kU hg h;omega),Zk]
     refine .inl ⟨_,by simp only[go_sem,S,E,G,f1,f2,f3,f4,f5,f6,f9,g1,g2,ha,a6];rfl,?_⟩;simp only[go_sem,S,E];rw[sJ k2,sH k1,zC];exact⟨rfl,kT hs (by simp[go_sem]) (by simp)⟩
    .have g1:(J.kind !=2)=true:=by simpa using k2
     have g2:(J.kind !=1)=true:=by simpa using k1
     obtain⟨σ',ha,hs,Y⟩:=kW (c:=ES) (s:=2) (bytes:=16) (fun _=>rfl) (fun _=>rfl) (by decide) (a1 (some ⟨cMember J,0,true⟩)) ((k:Int),1) (by omega) (by decide);have a6:σ' nx=some ⟨cMember J,0,true⟩:=by
      rw[Y nx (by omega) (fun b o l h=>by have:=kU hg h;omega),Zk]
     have a8:Cb ES 2 (upd T 3 (.rs (nx+1+1) 0 ((cols s k).length+1))) σ' (nx+1+1+1) 3 (cols s k++[((k:Int),1)]):=kT hs (by simp[go_sem]) (by simp);obtain⟨σ2,a7,b2,_⟩:=kW (c:=ES) (s:=2) (bytes:=16) (fun _=>rfl) (fun _=>rfl) (by decide) a8 ((k:Int),-1) (by simp;omega) (by decide);rw[Zk]at a7;refine .inl ⟨_,by simp only[go_sem,S,E,G,f1,f2,f3,f4,f5,f6,f9,g1,g2,ha,a7,a6];rfl,?_⟩;simp only[go_sem,S,E];rw[sJ k2,sJ k1,<- yj];exact⟨rfl,kT b2 (by simp[go_sem]) (by simp)⟩) (by
   rintro ⟨T,σ,nx⟩ ⟨S,E,G,hg⟩;simp only at S E G hg;exact⟨_,by simp only[go_sem,E,G,zk];rfl,by simp,_,_,_,rfl,Xr (by simp only[go_sem]) hg⟩) (by
   simp only[go_sem];exact .inl ⟨by simp only[go_sem],rfl⟩)
 obtain⟨ids,hs⟩:=kS (c:=ES) (s:=2) (fun _=>rfl) 6 (fun x=>by rw[ah,aP,ah,aP,aX];rfl) h2;simp only[go_sem,hs]
theorem Pm{α:Type}{c:α->List V}{s:Nat}{T:Nat->V}{σ:Store}{nx t:Nat}{acc:List α}(hc:∀x,(c x).length=s)(E:∀x,(c x).all qI=true)(hs:0<s){bytes:Nat}(hg:Cb c s T σ nx t acc)(xs:List α)(hx:xs≠[])(hl:acc.length+xs.length<100000)(hb:bytes<=1000) :
  ∃σ',Ag (upd σ nx (some ⟨xs.flatMap c,s,true⟩)) (nx+1) s bytes (T t) (xs.flatMap c) xs.length=some (.rs (nx+1) 0 (acc.length+xs.length),σ',nx+1+1)/\σ' (nx+1)=some ⟨(acc++xs).flatMap c,s,true⟩/\∀y,y<nx->(∀b o l,T t= .rs b o l->y≠b)->σ' y=σ y:=by
 have hm:acc.length+xs.length<=maxLen:=by unfold maxLen;omega
 have G:xs.length≠0:=fun e=>hx (zZ e)
 have hmul:(acc.length+xs.length)*bytes<=100000*1000:=xq (by omega) hb;have a1:xs.length*bytes<=100000*1000:=xq (by omega) hb;have J:(xs.flatMap c).all qI=true:=by
  rw[wO];intro v hv;obtain⟨x,-,h⟩:=List.mem_flatMap.mp hv;exact List.all_eq_true.mp (E x) v h
 rcases hg with ⟨S,rfl⟩|⟨b,S,O,Y,a6⟩
 .refine⟨_,by rw[S,qx,sJ G,sH ⟨by unfold maxLen;omega,by omega⟩];simp only[wR,yX];rfl,?_⟩
  refine⟨by simp[Aq,upd],fun y hy _=>?_⟩;unfold Aq;rw[Zm,Zm]
 .have hlen:(acc.flatMap c).length=acc.length*s:=bZ hc acc
  have hp:0<xs.length*s:=Nat.mul_pos (by omega) hs;refine⟨upd (upd (upd σ nx (some ⟨xs.flatMap c,s,true⟩)) b none) (nx+1) (some ⟨acc.flatMap c++xs.flatMap c,s,true⟩),?_,?_,fun y hy O=>?_⟩
  .rw[S,qw,Zm,Y]
   simp only[zi];rw[sJ G,sJ (by rw[hlen,uz];omega),sH ⟨by rw[hlen];omega,trivial,hm,by omega,J⟩];rfl
  .rw[Zk,zT]
  .have:=O _ _ _ S
   rw[Zm,Zl _ _ this,Zm]
def eX(s:Structure)(j:Int)(k:Nat):Int:=if j=(mem s k).a then vx s k else if j=(mem s k).b then -vx s k else 0
def eY(s:Structure)(j:Int)(k:Nat):Int:=if j=(mem s k).a then vy s k else if j=(mem s k).b then -vy s k else 0
def Ey(s:Structure)(j:Int):List (List Int):=[(List.range s.members.length).map (eX s j),(List.range s.members.length).map (eY s j)]
def BO(s:Structure)(n:Nat):List (List Int):=((free s).take n).flatMap (Ey s)
abbrev cRw(r:List Int):List V:=[LI r]
abbrev cRf(n:Nat)(b:Nat):List V:=[.rs b 0 n]
def JJ(σ:Store)(nx t n:Nat)(T:Nat->V)(rb:List Nat)(R:List (List Int)):Prop :=
 Cb (cRf n) 1 T σ nx t rb/\rb.length=R.length/\(∀j (h:j<rb.length) (E:j<R.length),σ rb[j]=some ⟨R[j].flatMap cI,1,true⟩)/\(∀r∈R,r.length=n)/\∀b∈rb,b<nx/\∀c o l,T t= .rs c o l->b≠c
theorem TW{σ:Store}{nx t n:Nat}{T:Nat->V}{rb:List Nat}{R:List (List Int)}(h:JJ σ nx t n T rb R)(d:Nat):∃ids,strip σ (d+1+1) (T t)=some (LL cRw R,ids):=by
 obtain⟨Y,G,hr,hn,-⟩:=h;have key:∀ {rb:List Nat} {R:List (List Int)},rb.length=R.length->(∀j (h:j<rb.length) (J:j<R.length),σ rb[j]=some ⟨R[j].flatMap cI,1,true⟩)->(∀r∈R,r.length=n)->∃ids,stripL (strip σ (d+1)) (rb.flatMap (cRf n))=some (R.flatMap cRw,ids):=by
  intro rb
  induction rb with
  |nil=>intro R E _ _;cases R with
   |nil=>exact⟨[],rfl⟩
   |cons=>cases E
  |cons b rb ih=>intro R E O S;cases R with
   |nil=>cases E
   |cons r R=>
    obtain⟨ids,e⟩:=ih (R:=R) (by simpa using E) (fun j h J=>O (j+1) (by simpa using h) (by simpa using J)) (fun x hx=>S x (by simp[hx]));have e1:=kD (O 0 (by simp) (by simp)) (S _ (by simp)) d;refine⟨b :: ids,?_⟩;rw[zK,zK,show cRf n b++rb.flatMap (cRf n)=V.rs b 0 n :: rb.flatMap (cRf n)from rfl,ah,show strip σ (d+1) (V.rs b 0 n)=some (LI r,[b])from e1,e];rfl
 rcases Y with ⟨E,rfl⟩|⟨b,E,a1,hb,a6⟩
 .have:R=[]:=zZ (by simpa using G.symm)
  subst this;exact⟨[],by rw[E,aS];rfl⟩
 .obtain⟨ids,e⟩:=key G hr hn
  refine⟨b :: ids,?_⟩;rw[E,aQ,hb];have hlen:=bZ (c:=cRf n) (s:=1) (fun _=>rfl) rb;simp only[zi,yX,yY,hlen,zq,if_true];rw[zl (by omega),e];simp only[zG];rw[G]
theorem QD{σ σ':Store}{nx nx' t n:Nat}{T T':Nat->V}{rb:List Nat}{R:List (List Int)}(h:JJ σ nx t n T rb R)(E:T' t=T t)(hn:nx<=nx')(e:∀b,b<nx->σ' b=σ b):JJ σ' nx' t n T' rb R:=by
 obtain⟨J,O,S,G,hb⟩:=h;refine⟨?_,O,fun j h Y=>?_,G,fun b h=>?_⟩
 .rcases J with ⟨g1,g2⟩|⟨b,g1,g2,g3,g4⟩
  .exact .inl ⟨E.trans g1,g2⟩
  .exact .inr ⟨b,E.trans g1,g2,by rw[e b g4];exact g3,by omega⟩
 .rw[e _ (hb _ (zu h)).1];exact S j h Y
 .obtain⟨h1,h2⟩:=hb b h
  exact⟨by omega,fun c o l hc=>h2 c o l (E ▸ hc)⟩
theorem amx{s:Structure}(h:SG s)(j:Int)(k:Nat):-100<=eX s j k/\eX s j k<=100/\-100<=eY s j k/\eY s j k<=100:=by
 have:=Zf h k;unfold eX eY
 split
 .omega
 .split<;>omega
theorem ahL(z:V):rep 2 [z]=[z,z]:=rfl
theorem alb(x y a b:V):([x,y].set 0 a).set 1 b=[a,b]:=rfl
attribute [go_sem] ahL alb
theorem aa5(s:Structure){i:Nat}(h:i<(free s).length):BO s (i+1)=BO s i++Ey s (free s)[i]:=by
 unfold BO;rw[yM,zy h,zT];simp
theorem ahM{R:List (List Int)}{j:Nat}(a b:List Int)(h:j<(R++[a,b]).length):(R++[a,b])[j]=if E:j<R.length then R[j]else if j=R.length then a else b:=by
 by_cases E:j<R.length
 .rw[xY E,dif_pos E]
 .rw[dif_neg E,vP (by omega)]
  rw[zo]at h;simp only[zH,wR]at h
  by_cases G:j=R.length
  .rw[sH G];simp[G]
  .rw[sJ G]
   have:j-R.length=1:=by omega
   simp[this]
theorem lS(s:Structure):(free s).length<=s.joints.length:=Zp _ _
theorem TX{s:Structure}(h:SG s):fn ZL conv ext 163 [.tp (cStructure s) 0]=some (LL cRw (BO s (free s).length)):=by
 have b7:=h.nm;have b8:=lS s;have Pj:=h.nj;have k1:=kH h;obtain⟨nm,hm⟩:∃nm,nm=s.members.length:=⟨_,rfl⟩;rw[m_,mg [.tmp 2] [] func163];simp only[go_sem,k1];generalize hL:dI _ _=y;obtain⟨r,rfl,T',σ',nx',rb,rfl,h2⟩:=oZ hL (free s).length (fun i st=>st.T 0= .tp (cStructure s) 0/\st.T 13=LI (free s)/\st.T 14=I (free s).length/\st.T 15=I i/\∃rb,JJ st.σ st.nx 3 nm st.T rb (BO s i))
  (fun r=>∃T σ nx' rb,r=(.exit 0,⟨T,σ,nx'⟩)/\JJ σ nx' 3 nm T rb (BO s (free s).length)) (by
   clear hL;rintro i ⟨T,σ,nx⟩ a7 ⟨h0,Y,Fz,O,rb,hR⟩;simp only at h0 Y Fz O hR;have f1:(i:Int)<((free s).length:Int):=by omega
   have f2:=jD i;have f3:=ZT (n:=(i:Int)+1);have f4:=idx (xs:=free s) (k:=i) a7;have f5:=AU (free s) i a7;obtain⟨j,hj⟩:∃j,j=(free s)[i]:=⟨_,rfl⟩;rw[<- hj]at f4;have m1:(0:Int)<=(s.members.length:Int):=by omega
   have m2:8*(s.members.length:Int)<=281474976710656:=by omega
   have m3:(s.members.length:Int)<=9223372036854775807:=by omega
   refine bC ?_
   conv=>
    enter [1,r,1,1]
    simp only[go_sem,h0,Y,Fz,O,f1,f2,f4,f5,m1,m2,m3]
   generalize hL:dI _ _=z
   obtain⟨x,rfl,S,E,G,rfl,t0,t6,t7,t13,t14,t15,hx,hy,a1,a6⟩:=oZ hL s.members.length (fun k st=>st.T 0= .tp (cStructure s) 0/\st.T 5=I j/\st.T 6= .rs nx 0 s.members.length/\st.T 7= .rs (nx+1) 0 s.members.length/\st.T 13=LI (free s)/\st.T 14=I (free s).length/\st.T 15=I i/\st.T 34=LL cMember s.members/\st.T 35=I s.members.length/\st.T 36=I k /\
     st.σ nx=some ⟨(pm (eX s j) (fun _=>0) k s.members.length).flatMap cI,1,true⟩/\st.σ (nx+1)=some ⟨(pm (eY s j) (fun _=>0) k s.members.length).flatMap cI,1,true⟩/\nx+1<st.nx/\st.T 3=T 3/\∀b,b<nx->st.σ b=σ b)
    (fun x=>∃S E G,x=(.exit 2,⟨S,E,G⟩)/\S 0= .tp (cStructure s) 0/\S 6= .rs nx 0 s.members.length/\S 7= .rs (nx+1) 0 s.members.length/\S 13=LI (free s)/\S 14=I (free s).length/\S 15=I i/\E nx=some ⟨(pm (eX s j) (fun _=>0) s.members.length s.members.length).flatMap cI,1,true⟩/\E (nx+1)=some ⟨(pm (eY s j) (fun _=>0) s.members.length s.members.length).flatMap cI,1,true⟩/\nx+1<G/\S 3=T 3/\∀b,b<nx->E b=σ b) (by
     clear hL;rintro k ⟨S,E,G⟩ hk ⟨t0,t5,t6,t7,t13,t14,t15,t34,t35,t36,hx,hy,a1,t3,hs⟩;simp only at t0 t5 t6 t7 t13 t14 t15 t34 t35 t36 hx hy a1 t3 hs;have g1:(k:Int)<(s.members.length:Int):=by omega
     have g2:=jD k;have g3:=ZT (n:=(k:Int)+1);have g4:=Ik s.members k hk;rw[jJ hk]at g4;have g5:=E_ s.members;have g6:k*3+3<=s.members.length*3:=by omega
     have g9:=Il s.members k hk;have k2:=TS h hk;have hb:=Zf h k;have q1:((pm (eX s j) (fun _=>0) k s.members.length).flatMap cI).length=s.members.length:=by rw[qL,gu]
     have q2:((pm (eY s j) (fun _=>0) k s.members.length).flatMap cI).length=s.members.length:=by rw[qL,gu]
     have q3:=NZ (eX s j) (fun _=>0) hk;have q4:=NZ (eY s j) (fun _=>0) hk;have d1:¬nx=G:=by omega
     have d2:¬nx+1=G:=by omega
     have d3:¬nx+1=nx:=by omega
     have d4:¬nx=nx+1:=by omega
     have d5:¬G=nx:=by omega
     have d6:¬G=nx+1:=by omega
     have g7:k+1<=s.members.length:=hk;have w1:=ZT (n:=-vx s k);have w2:=ZT (n:=-vy s k);have w3:IntKind.i64.wrap (0-vx s k)= -vx s k:=by rw[ZT];omega
     have w4:IntKind.i64.wrap (0-vy s k)= -vy s k:=by rw[ZT];omega
     by_cases c1:j=(mem s k).a
     .have e1:(j==(mem s k).a)=true:=by simpa using c1
      have e2:((pm (eX s j) (fun _=>0) k s.members.length).flatMap cI).set k (I (vx s k))=(pm (eX s j) (fun _=>0) (k+1) s.members.length).flatMap cI:=by
       rw[qK,<- q3];unfold eX;rw[sH c1]
      have e3:((pm (eY s j) (fun _=>0) k s.members.length).flatMap cI).set k (I (vy s k))=(pm (eY s j) (fun _=>0) (k+1) s.members.length).flatMap cI:=by
       rw[qK,<- q4];unfold eY;rw[sH c1]
      refine .inl ⟨_,by simp only[go_sem,t0,t5,t6,t7,t13,t14,t15,t34,t35,t36,hx,hy,g1,g2,g3,g4,g5,g6,g7,g9,k2,q1,q2,hk,d1,d2,d3,d4,d5,d6,e1,e2,e3];rfl,?_⟩;simp only[go_sem,t0,t5,t6,t7,t13,t14,t15,t34,t35,d1,d2,d3,d4];exact⟨rfl,by omega,t3,fun b hb=>by rw[Zm,Zm,Zm];exact hs b hb⟩
     .have e1:(j==(mem s k).a)=false:=by simpa using c1
      by_cases c2:j=(mem s k).b
      .have e4:(j==(mem s k).b)=true:=by simpa using c2
       have e2:((pm (eX s j) (fun _=>0) k s.members.length).flatMap cI).set k (I (-vx s k))=(pm (eX s j) (fun _=>0) (k+1) s.members.length).flatMap cI:=by
        rw[qK,<- q3];unfold eX;rw[sJ c1,sH c2]
       have e3:((pm (eY s j) (fun _=>0) k s.members.length).flatMap cI).set k (I (-vy s k))=(pm (eY s j) (fun _=>0) (k+1) s.members.length).flatMap cI:=by
        rw[qK,<- q4];unfold eY;rw[sJ c1,sH c2]
       refine .inl ⟨_,by simp only[go_sem,t0,t5,t6,t7,t13,t14,t15,t34,t35,t36,hx,hy,g1,g2,g3,g4,g5,g6,g7,g9,k2,q1,q2,hk,d1,d2,d3,d4,d5,d6,e1,e4,e2,e3,w1,w2,w3,w4];rfl,?_⟩;simp only[go_sem,t0,t5,t6,t7,t13,t14,t15,t34,t35,d1,d2,d3,d4];exact⟨rfl,by omega,t3,fun b hb=>by rw[Zm,Zm,Zm];exact hs b hb⟩
      .have e4:(j==(mem s k).b)=false:=by simpa using c2
       have e2:=TB (eX s j) (fun _=>0) (k:=k) (N:=s.members.length) (by unfold eX;rw[sJ c1,sJ c2]);have e3:=TB (eY s j) (fun _=>0) (k:=k) (N:=s.members.length) (by unfold eY;rw[sJ c1,sJ c2]);refine .inl ⟨_,by simp only[go_sem,t0,t5,t6,t7,t13,t14,t15,t34,t35,t36,hx,hy,g1,g2,g3,g4,g5,g6,g7,g9,k2,q1,q2,hk,d1,d2,d3,d4,d5,d6,e1,e4];rfl,?_⟩;simp only[go_sem,t0,t5,t6,t7,t13,t14,t15,t34,t35,d1,d2,d3,d4];refine⟨rfl,by rw[hx,e2],by rw[hy,e3],by omega,t3,fun b hb=>by rw[Zm];exact hs b hb⟩) (by
     rintro ⟨S,E,G⟩ ⟨t0,t5,t6,t7,t13,t14,t15,t34,t35,t36,hx,hy,a1,t3,hs⟩;simp only at t0 t5 t6 t7 t13 t14 t15 t34 t35 t36 hx hy a1 t3 hs;have g1:¬(s.members.length:Int)<(s.members.length:Int):=by omega
     refine⟨_,by simp only[go_sem,t35,t36,g1];rfl,by simp,_,_,_,rfl,?_⟩;simp only[go_sem,t0,t6,t7,t13,t14,t15];exact⟨hx,hy,a1,t3,hs⟩) (by
     simp only[go_sem,h0,Y,Fz,O];rw[IK,IK,gG,<- fP,Zm,Zk];exact⟨rfl,rfl,by omega,fun b hb=>by rw[Zm,Zm]⟩)
   rw[TD]at hx hy;have b2:=a6.1;have a6:JJ E G 3 nm S rb (BO s i):=QD hR a6.1 (by omega) a6.2;obtain⟨hg,hl,hr,b3,a8⟩:=a6;have b9:rb.length<=2*i:=by
    rw[hl];unfold BO;have:=List.length_take_le i (free s);have e:∀l:List Int,(l.flatMap (Ey s)).length=2*l.length:=fun l=>by
     induction l with
     |nil=>rfl
     |cons a l ih=>rw[zK,zo,ih,zH];simp only[Ey,zH,wR];omega
    rw[e];omega
   obtain⟨σ2,ha,b4,b5⟩:=Pm (c:=cRf nm) (s:=1) (bytes:=24) (fun _=>rfl) (fun _=>rfl) (by decide) hg [nx,nx+1] (by simp) (by simp only[zH,wR];omega) (by decide);have ha:Ag (upd E G (some ⟨[V.rs nx 0 s.members.length,V.rs (nx+1) 0 s.members.length],1,true⟩)) (G+1) 1 24 (S 3) [V.rs nx 0 s.members.length,V.rs (nx+1) 0 s.members.length] 2=some (.rs (G+1) 0 (rb.length+2),σ2,G+1+1):=by rw[<- hm];exact ha
   refine⟨_,by simp only[go_sem,t0,t6,t7,t13,t14,t15,f3,ha];rfl,.inl ⟨_,rfl,?_⟩⟩;simp only[go_sem,t0,t13,t14];have J:∀b,b<G->(b∈rb\/b=nx\/b=nx+1)->σ2 b=E b:=fun b hb hc=>by
    refine b5 b hb fun c o l h=>?_
    rcases hc with hc|hc|hc
    .exact(a8 b hc).2 c o l h
    .have:=kU hR.1 (b2 ▸ h);omega
    .have:=kU hR.1 (b2 ▸ h);omega
   refine⟨rfl,rb++[nx,nx+1],?_⟩;rw[aa5 s a7,<- hj];refine⟨.inr ⟨G+1,by simp[go_sem],by simp,b4,by omega⟩,by simp[hl,Ey],fun q h1 h2=>?_,fun r b6=>?_,fun b hb=>?_⟩
   .have hq:(BO s i++Ey s j)[q]=if h1:q<(BO s i).length then(BO s i)[q]else if q=(BO s i).length then(List.range s.members.length).map (eX s j)else(List.range s.members.length).map (eY s j):=ahM _ _ h2
    rw[hq]
    by_cases c1:q<rb.length
    .rw[dif_pos (by omega),xY c1,J _ (a8 _ (zu c1)).1 (.inl (zu c1))]
     exact hr q c1 (by omega)
    .rw[dif_neg (by omega),vP (by omega)]
     rw[zo]at h1;simp only[zH,wR]at h1
     by_cases c2:q=(BO s i).length
     .rw[sH c2]
      have:q-rb.length=0:=by omega
      simp only[this,List.getElem_cons_zero];rw[J nx (by omega) (.inr (.inl rfl))];exact hx
     .rw[sJ c2]
      have:q-rb.length=1:=by omega
      simp only[this,List.getElem_cons_succ,List.getElem_cons_zero];rw[J (nx+1) (by omega) (.inr (.inr rfl))];exact hy
   .rcases List.mem_append.mp b6 with h|h
    .exact b3 r h
    .simp only[Ey,zV,yc,or_false]at h
     rcases h with h|h<;>rw[h]<;>simp[hm]
   .have c0:b<G:=by
     rcases List.mem_append.mp hb with h|h
     .exact(a8 b h).1
     .simp only[zV,yc,or_false]at h;omega
    refine⟨by omega,fun c o l h=>?_⟩;simp only[go_sem,V.rs.injEq]at h;omega) (by
   rintro ⟨T,σ,nx⟩ ⟨h0,Y,Fz,O,rb,hR⟩;simp only at h0 Y Fz O hR;exact⟨_,by simp only[go_sem,Fz,O,zk];rfl,by simp,_,_,_,rb,rfl,QD hR (by simp only[go_sem]) (zq _) fun _ _=>rfl⟩) (by
   simp only[go_sem];refine⟨[],.inl ⟨by simp only[go_sem],rfl⟩,by simp[BO],?_,?_,?_⟩
   .intro j h;cases h
   .intro r hr;simp[BO]at hr
   .intro b hb;cases hb)
 obtain⟨ids,hs⟩:=TW h2 5;simp only[go_sem,hs]
def EU(X:List Int)(k:Nat):List Int:=X.take k++List.replicate (X.length-k) 0
theorem Og(X:List Int){k:Nat}(h:k<=X.length):(EU X k).length=X.length:=by unfold EU;rw[zo,zh,yU];omega
theorem QE(X:List Int):EU X 0=List.replicate X.length 0:=by simp[EU]
theorem QF(X:List Int):EU X X.length=X:=by simp[EU]
theorem Oh(X:List Int){k:Nat}(h:k<X.length):(EU X k).set k X[k]=EU X (k+1):=by
 unfold EU;have E:(X.take k).length=k:=by rw[zh];omega
 rw[xH _ _ (by omega),E,yP,show X.length-k=X.length - (k+1)+1 by omega,xO,uf,aH h,yj];rfl
def OM(s:Structure):List Int:=(BO s (free s).length).flatMap fun r=>(cols s s.members.length).map fun p=>p.2*r.getD p.1.toNat 0
def GI(s:Structure)(l:List Int):List Int:=(free s).flatMap fun j=>[-l.getD (2*j.toNat) 0,-l.getD (2*j.toNat+1) 0]
theorem Oi{α:Type}(f:α->List Int){C:Nat}(E:∀x,(f x).length=C):∀xs:List α,(xs.flatMap f).length=xs.length*C
 |[]=>by simp
 |x :: xs=>by rw[zK,zo,Oi f E xs,E,zH,xk];omega
theorem mG{α:Type}(f:α->List Int){C:Nat}(E:∀x,(f x).length=C):∀(xs:List α) {i c:Nat} (hi:i<xs.length) (hc:c<C),(xs.flatMap f)[i*C+c]?=(f xs[i])[c]?
 |x :: xs,0,c,_,hc=>by rw[zK,uX,yX,zW (by rw[E];exact hc)];rfl
 |x :: xs,i+1,c,hi,hc=>by
  rw[zK,zN (by rw[E,xk];omega),E,show(i+1)*C+c-C=i*C+c by rw[xk];omega,mG f E xs (by simpa using hi) hc];rfl
theorem ny(s:Structure):(BO s (free s).length).length=2*(free s).length:=by
 unfold BO;rw[yg]
 induction free s with
 |nil=>rfl
 |cons a l E=>rw[zK,zo,E,zH];simp only[Ey,zH,wR];omega
theorem QG{s:Structure}{r:List Int}(h:r∈BO s (free s).length):r.length=s.members.length:=by
 unfold BO at h;obtain⟨j,-,h⟩:=List.mem_flatMap.mp h;simp only[Ey,zV,yc,or_false]at h;rcases h with h|h<;>rw[h]<;>simp
theorem Xt{s:Structure}(hs:SG s){r:List Int}(h:r∈BO s (free s).length):∀x∈r,-100<=x/\x<=100:=by
 unfold BO at h;obtain⟨j,-,h⟩:=List.mem_flatMap.mp h;simp only[Ey,zV,yc,or_false]at h;intro x E;rcases h with h|h<;>rw[h]at E<;>obtain⟨k,-,rfl⟩:=List.mem_map.mp E
 .have:=amx hs j k;omega
 .have:=amx hs j k;omega
theorem ou{s:Structure}:∀ {n:Nat} {p:Int×Int},p∈cols s n->(∃k:Nat,p.1=(k:Int)/\k<n)/\(p.2=1\/p.2= -1):=fun {n p} h=>by
 unfold cols at h;obtain⟨k,G,h⟩:=List.mem_flatMap.mp h;have E:=List.mem_range.mp G;unfold ET at h;rcases List.mem_append.mp h with h|h
 .split at h
  .cases h
  .rw[List.mem_singleton.mp h];exact⟨⟨k,rfl,E⟩,.inl rfl⟩
 .split at h
  .cases h
  .rw[List.mem_singleton.mp h];exact⟨⟨k,rfl,E⟩,.inr rfl⟩
theorem LP(s:Structure):(OM s).length=2*(free s).length*(cols s s.members.length).length:=by
 unfold OM;rw[Oi _ (fun _=>zS _),ny]
theorem TY(s:Structure)(l:List Int):(GI s l).length=2*(free s).length:=by
 unfold GI;rw[Oi _ (C:=2) (fun _=>rfl)];omega
def JK(s:Structure):Nat:=2*(free s).length
def Cc(s:Structure):Nat:=(cols s s.members.length).length
theorem Pn{s:Structure}(h:SG s){l:List Int}(hl:l.length=2*s.joints.length)(hb:∀x∈l,-100<=x/\x<=100):fn ZL conv ext 104 [.tp (cStructure s) 0,LI l,I 0,I 0]=some (.agg (CO (JK s) (Cc s) (OM s) (GI s l) (List.replicate (Cc s) 0))):=by
 have i7:=h.nm;have i9:=lS s;have Pj:=h.nj;have j0:=oz s s.members.length;have k1:=TX h;have k2:=Oe h;have k3:=kH h;have h4:=ny s;obtain⟨E,hE⟩:∃E,E=BO s (free s).length:=⟨_,rfl⟩;obtain⟨K,hK⟩:∃K,K=cols s s.members.length:=⟨_,rfl⟩;have hR:E.length=JK s:=by rw[hE];exact h4
 have hC:K.length=Cc s:=by rw[hK];rfl
 have e4:JK s<=12:=by unfold JK;omega
 have e5:Cc s<=16:=by rw[<- hC,hK];omega
 have b3:(OM s).length=JK s*Cc s:=LP s;have e6:JK s*Cc s<=12*16:=xq e4 e5;rw[<- hE]at k1;rw[<- hK]at k2;have k1:fn ZL conv ext 163 [.tp (cStructure s) 0]=some (.ts (E.flatMap cRw) (JK s)):=by rw[<- hR];exact k1
 have k2:fn ZL conv ext 161 [.tp (cStructure s) 0]=some (.ts (K.flatMap ES) (Cc s)):=by rw[<- hC];exact k2
 obtain⟨R,eR⟩:∃R,R=JK s:=⟨_,rfl⟩;obtain⟨C,eC⟩:∃C,C=Cc s:=⟨_,rfl⟩;rw[<- eR]at k1 hR e4 b3 e6⊢;rw[<- eC]at k2 hC e5 b3 e6⊢;have f1:=ZT (n:=(R:Int));have f2:=ZT (n:=(C:Int));have e3:(R:Int)*(C:Int)=((R*C:Nat):Int):=by push_cast;rfl
 have f3:=ZT (n:=((R*C:Nat):Int));have f4:(0:Int)<=((R*C:Nat):Int):=by omega
 have f5:8*((R*C:Nat):Int)<=281474976710656:=by omega
 have f6:((R*C:Nat):Int)<=9223372036854775807:=by omega
 have f7:=jD R;have f8:8*(R:Int)<=281474976710656:=by omega
 have f9:(R:Int)<=9223372036854775807:=by omega
 have f10:=jD C;have f11:8*(C:Int)<=281474976710656:=by omega
 have f12:(C:Int)<=9223372036854775807:=by omega
 have f13:(R:Int)+0=R:=by omega
 have f14:(C:Int)+0=C:=by omega
 rw[m_,mg [.cell 8 142] [3,10,16] func104];unfold CO;simp only[go_sem,k1,k2,f1,f2,e3,f3,f4,f5,f6,f7,f8,f9,f10,f11,f12,f13,f14];generalize hL:dI _ _=y;have j1:=b3;obtain⟨FA,e7⟩:∃FA,FA=OM s:=⟨_,rfl⟩;have h5:∀i c (hi:i<R) (hc:c<C) (hq:i*C+c<FA.length),FA[i*C+c]=(K[c]'(by omega)).2*(E[i]'(by omega)).getD (K[c]'(by omega)).1.toNat 0:=fun i c hi hc hq=>by
  have:=mG (fun r:List Int=>K.map fun p=>p.2*r.getD p.1.toNat 0) (C:=C) (fun _=>by rw[zS];exact hC) E (i:=i) (c:=c) (by omega) hc;rw[zF,zy (l:=K) (i:=c) (by omega)]at this;have e2:FA=E.flatMap fun r=>K.map fun p=>p.2*r.getD p.1.toNat 0:=by rw[e7,hE,hK];rfl
  rw[<- e2,zy hq]at this;exact Option.some.inj this
 rw[<- e7]at b3⊢
 obtain⟨x,rfl,T1,b4,nI,rfl,t0,t1,t8,t11,h6,s0,J,S,Y,s4⟩:=oZ hL R (fun i st=>st.T 0= .tp (cStructure s) 0/\st.T 1=LI l/\st.T 8= .rp 0 0/\st.T 11= .rp 1 0/\st.T 10= .ts (K.flatMap ES) C/\st.T 46= .ts (E.flatMap cRw) R/\st.T 47=I R/\st.T 48=I i/\4<st.nx /\
   st.σ 0=some ⟨[I 0,I 0,.nil,.nil,.nil],0,true⟩/\st.σ 1=some ⟨[I R,I C,.rs 2 0 (R*C),.rs 3 0 R,.rs 4 0 C],0,true⟩/\st.σ 2=some ⟨(EU FA (i*C)).flatMap cI,1,true⟩/\st.σ 3=some ⟨(List.replicate R 0).flatMap cI,1,true⟩/\st.σ 4=some ⟨(List.replicate C 0).flatMap cI,1,true⟩)
  (fun x=>∃T1 b4 nI,x=(.exit 0,⟨T1,b4,nI⟩)/\T1 0= .tp (cStructure s) 0/\T1 1=LI l/\T1 8= .rp 0 0/\T1 11= .rp 1 0/\4<nI/\b4 0=some ⟨[I 0,I 0,.nil,.nil,.nil],0,true⟩/\b4 1=some ⟨[I R,I C,.rs 2 0 (R*C),.rs 3 0 R,.rs 4 0 C],0,true⟩/\b4 2=some ⟨FA.flatMap cI,1,true⟩/\b4 3=some ⟨(List.replicate R 0).flatMap cI,1,true⟩/\b4 4=some ⟨(List.replicate C 0).flatMap cI,1,true⟩) (by
   clear hL;rintro i ⟨T,σ,nx⟩ hi ⟨t0,t1,t8,t11,t10,t46,t47,t48,G,s0,J,S,Y,s4⟩;simp only at t0 t1 t8 t11 t10 t46 t47 t48 G s0 J S Y s4;have g1:(i:Int)<(R:Int):=by omega
   have g2:=jD i;have g3:=ZT (n:=(i:Int)+1);have g4:(E.flatMap cRw)[i]?=some (LI (E[i]'(by omega))):=cu (fun r=>LI r) E i (by omega);have g5:=bg (c:=cRw) (s:=1) (fun _=>rfl) (by omega) E i (by omega);have g6:(E.flatMap cRw).length=R:=by rw[bZ (c:=cRw) (s:=1) (fun _=>rfl),hR,yQ]
   have e9:(E[i]'(by omega)).length=s.members.length:=by subst hE;exact QG (zu _)
   have h0:∀x∈(E[i]'(by omega)),-100<=x/\x<=100:=by subst hE;exact Xt h (zu _)
   obtain⟨r,er⟩:∃r,r=E[i]'(by omega):=⟨_,rfl⟩;have h7:=h5 i;rw[<- er]at g4 e9 h0;refine bC ?_
   conv=>
    enter [1,q,1,1]
    simp only[go_sem,t0,t1,t8,t11,t10,t46,t47,t48,g1,g2,g4,g5,g6]
   generalize hL:dI _ _=z;have h8:(i+1)*C<=R*C:=zL _ hi;rw[xk]at h8
   obtain⟨x,rfl,T2,σ2,BX,rfl,t0,t1,t8,t11,t10,t46,t47,t48,G,s0,J,S,Y,s4⟩:=oZ hL C (fun c st=>st.T 0= .tp (cStructure s) 0/\st.T 1=LI l/\st.T 8= .rp 0 0/\st.T 11= .rp 1 0/\st.T 10= .ts (K.flatMap ES) C/\st.T 46= .ts (E.flatMap cRw) R/\st.T 47=I R/\st.T 48=I i/\st.T 12=I i/\st.T 13=LI r/\st.T 53= .ts (K.flatMap ES) C/\st.T 54=I C/\st.T 55=I c/\4<st.nx /\
     st.σ 0=some ⟨[I 0,I 0,.nil,.nil,.nil],0,true⟩/\st.σ 1=some ⟨[I R,I C,.rs 2 0 (R*C),.rs 3 0 R,.rs 4 0 C],0,true⟩/\st.σ 2=some ⟨(EU FA (i*C+c)).flatMap cI,1,true⟩/\st.σ 3=some ⟨(List.replicate R 0).flatMap cI,1,true⟩/\st.σ 4=some ⟨(List.replicate C 0).flatMap cI,1,true⟩)
    (fun x=>∃T2 σ2 BX,x=(.exit 2,⟨T2,σ2,BX⟩)/\T2 0= .tp (cStructure s) 0/\T2 1=LI l/\T2 8= .rp 0 0/\T2 11= .rp 1 0/\T2 10= .ts (K.flatMap ES) C/\T2 46= .ts (E.flatMap cRw) R/\T2 47=I R/\T2 48=I i/\4<BX /\
     σ2 0=some ⟨[I 0,I 0,.nil,.nil,.nil],0,true⟩/\σ2 1=some ⟨[I R,I C,.rs 2 0 (R*C),.rs 3 0 R,.rs 4 0 C],0,true⟩/\σ2 2=some ⟨(EU FA (i*C+C)).flatMap cI,1,true⟩/\σ2 3=some ⟨(List.replicate R 0).flatMap cI,1,true⟩/\σ2 4=some ⟨(List.replicate C 0).flatMap cI,1,true⟩) (by
     clear hL;rintro c ⟨T2,σ2,BX⟩ hc ⟨t0,t1,t8,t11,t10,t46,t47,t48,t12,t13,t53,t54,t55,G,s0,J,S,Y,s4⟩;simp only at t0 t1 t8 t11 t10 t46 t47 t48 t12 t13 t53 t54 t55 G s0 J S Y s4;have a1:(c:Int)<(C:Int):=by omega
     have a2:=jD c;have a3:=ZT (n:=(c:Int)+1);have b8:c<K.length:=by omega
     have a4:=d_ (c:=ES) (s:=2) (fun _=>rfl) K c b8;have a5:=bg (c:=ES) (s:=2) (fun _=>rfl) (by omega) K c b8;have a6:(K.flatMap ES).length=C*2:=by rw[bZ (c:=ES) (s:=2) (fun _=>rfl),hC]
     have a7:c*2+2<=C*2:=by omega
     have b6:K[c]∈cols s s.members.length:=by rw[<- hK];exact zu b8
     obtain⟨⟨k,hk,j2⟩,c0⟩:=ou b6;have hq:i*C+c<FA.length:=by omega
     have b2:=h7 c hi hc hq;rw[<- er]at b2;obtain⟨kp,h9⟩:∃kp,kp=K[c]:=⟨_,rfl⟩;rw[<- h9]at a4 hk c0 b2;obtain⟨j3,b7⟩:=kp;simp only at hk c0 b2 a4;subst hk;rw[zJ]at b2;have a8:=idx (xs:=r) (k:=k) (by omega);have e8:r[k]'(by omega)=r.getD k 0:=by rw[zx,zy (by omega)];rfl
     have i0:=h0 _ (zu (l:=r) (n:=k) (by omega));rw[e8]at a8 i0;have a9:=AU r k (by omega);have c2:(k:Int)<(r.length:Int):=by omega
     have c3:=jD k;have j4:-100<=b7*r.getD k 0/\b7*r.getD k 0<=100:=by rcases c0 with e|e<;>rw[e]<;>omega
     have a12:=ZT (n:=b7*r.getD k 0);have c4:(i:Int)*(C:Int)=((i*C:Nat):Int):=by push_cast;rfl
     have c5:=ZT (n:=((i*C:Nat):Int));have c6:((i*C:Nat):Int)+(c:Int)=((i*C+c:Nat):Int):=by omega
     have c7:=ZT (n:=((i*C+c:Nat):Int));have c8:((i*C+c:Nat):Int)<((R*C:Nat):Int):=by omega
     have c9:(0:Int)<=((i*C+c:Nat):Int):=by omega
     have e0:i*C+c<R*C:=by omega
     have a20:i*C+c+1<=R*C:=by omega
     have a21:((EU FA (i*C+c)).flatMap cI).length=R*C:=by rw[qL,Og _ (by omega),b3]
     have i1:((EU FA (i*C+c)).flatMap cI).set (i*C+c) (I (b7*r.getD k 0))=(EU FA (i*C+c+1)).flatMap cI:=by
      rw[qK,<- Oh FA hq,b2]
     have i2:(r.flatMap cI).length=r.length:=qL r;have d0:¬0=BX:=by omega
     have d1:¬1=BX:=by omega
     have d2:¬2=BX:=by omega
     have d3:¬3=BX:=by omega
     have d4:¬4=BX:=by omega
     have d5:¬BX=2:=by omega
     have d6:1<BX+1:=by omega
     have d7:2<BX+1:=by omega
     have d8:BX<BX+1:=by omega
     have d9:¬BX=1:=by omega
     refine .inl ⟨_,by simp only[go_sem,t0,t1,t8,t11,t10,t46,t47,t48,t12,t13,t53,t54,t55,J,S,a1,a2,a3,a4,a5,a6,a7,a8,a9,c2,c3,a12,c4,c5,c6,c7,c8,c9,e0,a20,a21,i1,i2,d0,d1,d2,d3,d4,d5,d6,d7,d8,d9];rfl,?_⟩;simp only[go_sem,t0,t1,t8,t11,t10,t46,t47,t48,t12,t13,t53,t54];refine⟨rfl,by omega,?_,?_,rfl,?_,?_⟩
     .rw[Zl _ _ d0];exact s0
     .rw[Zl _ _ d1];exact J
     .rw[Zl _ _ d3];exact Y
     .rw[Zl _ _ d4];exact s4) (by
     rintro ⟨T2,σ2,BX⟩ ⟨t0,t1,t8,t11,t10,t46,t47,t48,t12,t13,t53,t54,t55,G,s0,J,S,Y,s4⟩;simp only at t0 t1 t8 t11 t10 t46 t47 t48 t12 t13 t53 t54 t55 G s0 J S Y s4;have a1:¬(C:Int)<(C:Int):=by omega
     refine⟨_,by simp only[go_sem,t54,t55,a1];rfl,by simp,_,_,_,rfl,?_⟩;simp only[go_sem,t0,t1,t8,t11,t10,t46,t47,t48];exact⟨G,s0,J,S,Y,s4⟩) (by
     simp only[go_sem,t0,t1,t8,t11,t10,t46,t47,t48];exact⟨G,s0,J,S,Y,s4⟩)
   refine⟨_,by simp only[go_sem,t0,t1,t8,t11,t10,t46,t47,t48,g3];rfl,.inl ⟨_,rfl,?_⟩⟩;simp only[go_sem,t0,t1,t8,t11,t10,t46,t47];refine⟨rfl,G,s0,J,?_,Y,s4⟩;rw[xk];exact S) (by
   rintro ⟨T,σ,nx⟩ ⟨t0,t1,t8,t11,t10,t46,t47,t48,G,s0,J,S,Y,s4⟩;simp only at t0 t1 t8 t11 t10 t46 t47 t48 G s0 J S Y s4;have g1:¬(R:Int)<(R:Int):=by omega
   refine⟨_,by simp only[go_sem,t47,t48,g1];rfl,by simp,_,_,_,rfl,?_⟩;simp only[go_sem,t0,t1,t8,t11];rw[<- b3,QF]at S;exact⟨G,s0,J,S,Y,s4⟩) (by
   simp only[go_sem,QE,b3,<- fP])
 clear hL;simp only[go_sem,t0,k3];generalize hL:dI _ _=y;obtain⟨F,eF⟩:∃F,F=free s:=⟨_,rfl⟩;have i3:R=2*F.length:=by rw[eR,eF];rfl
 have e1:=TY s l;obtain⟨O,h1⟩:∃O,O=GI s l:=⟨_,rfl⟩;rw[<- h1]at e1⊢;rw[<- eF]at e1;have i4:∀i (hi:i<F.length),∃j:Nat,F[i]=(j:Int)/\j<s.joints.length/\O[2*i]'(by omega)= -l.getD (2*j) 0/\O[2*i+1]'(by omega)= -l.getD (2*j+1) 0:=fun i hi=>by
  have b6:F[i]∈EY (C9 s) s.joints.length:=by subst eF;exact zu hi
  unfold EY at b6;obtain⟨j,hj,e⟩:=List.mem_map.mp b6;have i5:=List.mem_range.mp (List.mem_filter.mp hj).1;have e2:O=F.flatMap fun j=>[-l.getD (2*j.toNat) 0,-l.getD (2*j.toNat+1) 0]:=by rw[h1,eF];rfl
  have g0:=mG (fun j:Int=>[-l.getD (2*j.toNat) 0,-l.getD (2*j.toNat+1) 0]) (C:=2) (fun _=>rfl) F (i:=i) (c:=0) hi (by decide);have g1:=mG (fun j:Int=>[-l.getD (2*j.toNat) 0,-l.getD (2*j.toNat+1) 0]) (C:=2) (fun _=>rfl) F (i:=i) (c:=1) hi (by decide);rw[<- e2,<- e,zJ]at g0 g1;refine⟨j,e.symm,i5,?_,?_⟩
  .rw[show i*2+0=2*i by omega,zy (by omega)]at g0
   exact Option.some.inj g0
  .rw[show i*2+1=2*i+1 by omega,zy (by omega)]at g1
   exact Option.some.inj g1
 have j5:F.length<=6:=by rw[eF];omega
 obtain⟨x,rfl,T3,b5,Au,rfl,t8,t11,s0,J,S,Y,s4⟩:=oZ hL F.length (fun i st=>st.T 1=LI l/\st.T 8= .rp 0 0/\st.T 11= .rp 1 0/\st.T 80=LI F/\st.T 81=I F.length/\st.T 82=I i/\4<st.nx /\
   st.σ 0=some ⟨[I 0,I 0,.nil,.nil,.nil],0,true⟩/\st.σ 1=some ⟨[I R,I C,.rs 2 0 (R*C),.rs 3 0 R,.rs 4 0 C],0,true⟩/\st.σ 2=some ⟨FA.flatMap cI,1,true⟩/\st.σ 3=some ⟨(EU O (2*i)).flatMap cI,1,true⟩/\st.σ 4=some ⟨(List.replicate C 0).flatMap cI,1,true⟩)
  (fun x=>∃T3 b5 Au,x=(.exit 4,⟨T3,b5,Au⟩)/\T3 8= .rp 0 0/\T3 11= .rp 1 0/\b5 0=some ⟨[I 0,I 0,.nil,.nil,.nil],0,true⟩/\b5 1=some ⟨[I R,I C,.rs 2 0 (R*C),.rs 3 0 R,.rs 4 0 C],0,true⟩/\b5 2=some ⟨FA.flatMap cI,1,true⟩/\b5 3=some ⟨O.flatMap cI,1,true⟩/\b5 4=some ⟨(List.replicate C 0).flatMap cI,1,true⟩) (by
   clear hL;rintro i ⟨T,σ,nx⟩ hi ⟨t1,t8,t11,t80,t81,t82,G,s0,J,S,Y,s4⟩;simp only at t1 t8 t11 t80 t81 t82 G s0 J S Y s4;obtain⟨j,hj,j6,hx,hy⟩:=i4 i hi;have g1:(i:Int)<(F.length:Int):=by omega
   have g2:=jD i;have g3:=ZT (n:=(i:Int)+1);have g4:=idx (xs:=F) (k:=i) hi;rw[hj]at g4;have g5:=AU F i hi;have a1:(2:Int)*(i:Int)=((2*i:Nat):Int):=by push_cast;rfl
   have a2:=ZT (n:=((2*i:Nat):Int));have a3:((2*i:Nat):Int)+1=((2*i+1:Nat):Int):=by omega
   have a4:=ZT (n:=((2*i+1:Nat):Int));have a5:(2:Int)*(j:Int)=((2*j:Nat):Int):=by push_cast;rfl
   have a6:=ZT (n:=((2*j:Nat):Int));have a7:((2*j:Nat):Int)+1=((2*j+1:Nat):Int):=by omega
   have a8:=ZT (n:=((2*j+1:Nat):Int));have h2:∀q (h:q<l.length),(l.flatMap cI)[q]?=some (I (l.getD q 0)):=fun q h=>by
    rw[idx h,zx,zy h];rfl
   have h3:∀q (h:q<l.length),-100<=l.getD q 0/\l.getD q 0<=100:=fun q h=>by
    rw[zx,zy h];exact hb _ (zu h)
   have a9:=h2 (2*j) (by omega);have c2:=h2 (2*j+1) (by omega);have b9:=h3 (2*j) (by omega);have j7:=h3 (2*j+1) (by omega);have c3:=AU l (2*j) (by omega);have a12:((2*j:Nat):Int)<(l.length:Int):=by omega
   have c4:((2*j+1:Nat):Int)<(l.length:Int):=by omega
   have c5:(0:Int)<=((2*j:Nat):Int):=by omega
   have c6:(0:Int)<=((2*j+1:Nat):Int):=by omega
   have c7:((2*i:Nat):Int)<(R:Int):=by omega
   have c8:((2*i+1:Nat):Int)<(R:Int):=by omega
   have c9:(0:Int)<=((2*i:Nat):Int):=by omega
   have e0:(0:Int)<=((2*i+1:Nat):Int):=by omega
   have w1:=ZT (n:=-l.getD (2*j) 0);have w2:=ZT (n:=-l.getD (2*j+1) 0);have w3:IntKind.i64.wrap (0-l.getD (2*j) 0)= -l.getD (2*j) 0:=by rw[ZT];omega
   have w4:IntKind.i64.wrap (0-l.getD (2*j+1) 0)= -l.getD (2*j+1) 0:=by rw[ZT];omega
   have p1:((EU O (2*i)).flatMap cI).length=R:=by rw[qL,Og _ (by omega)];omega
   have p2:((EU O (2*i+1)).flatMap cI).length=R:=by rw[qL,Og _ (by omega)];omega
   have p3:((EU O (2*i)).flatMap cI).set (2*i) (I (-l.getD (2*j) 0))=(EU O (2*i+1)).flatMap cI:=by
    rw[qK,<- Oh O (k:=2*i) (by omega),hx]
   have p4:((EU O (2*i+1)).flatMap cI).set (2*i+1) (I (-l.getD (2*j+1) 0))=(EU O (2*i+1+1)).flatMap cI:=by
    rw[qK,<- Oh O (k:=2*i+1) (by omega),hy]
   have p5:2*i<R:=by omega
   have p6:2*i+1<R:=by omega
   have p7:2*i+1<=R:=by omega
   have p8:2*i+1+1<=R:=by omega
   have p9:3<nx:=by omega
   have i6:1<nx:=by omega
   refine .inl ⟨_,by simp only[go_sem,t1,t8,t11,t80,t81,t82,J,Y,g1,g2,g3,g4,g5,a1,a2,a3,a4,a5,a6,a7,a8,a9,c2,c3,a12,c4,c5,c6,c7,c8,c9,e0,w1,w2,w3,w4,p1,p2,p3,p4,p5,p6,p7,p8,p9,i6];rfl,?_⟩;simp only[go_sem,t1,t8,t11,t80,t81];exact⟨rfl,G,s0,J,S,by rw[show 2*(i+1)=2*i+1+1 by omega],s4⟩) (by
   rintro ⟨T,σ,nx⟩ ⟨t1,t8,t11,t80,t81,t82,G,s0,J,S,Y,s4⟩;simp only at t1 t8 t11 t80 t81 t82 G s0 J S Y s4;have g1:¬(F.length:Int)<(F.length:Int):=by omega
   refine⟨_,by simp only[go_sem,t81,t82,g1];rfl,by simp,_,_,_,rfl,?_⟩;simp only[go_sem,t8,t11];have:EU O (2*F.length)=O:=by rw[show 2*F.length=O.length by omega,QF]
   rw[this]at Y;exact⟨s0,J,S,Y,s4⟩) (by
   simp only[go_sem,t1,t8,t11,Nat.mul_zero,QE,<- eF];rw[e1,<- i3];exact⟨h6,s0,J,S,Y,s4⟩)
 clear hL;have u1:R*C<=FA.length:=by omega
 have u2:R<=O.length:=by omega
 have u3:C<=(List.replicate C (0:Int)).length:=by simp
 have v1:(FA.flatMap cI).take (R*C)=FA.flatMap cI:=zl (by rw[qL];omega);have v2:(O.flatMap cI).take R=O.flatMap cI:=zl (by rw[qL];omega);have v3:((List.replicate C (0:Int)).flatMap cI).take C=(List.replicate C (0:Int)).flatMap cI:=zl (by rw[qL];simp);simp only[go_sem,t8,t11,s0,J,S,Y,s4,u1,u2,u3,v1,v2,v3];have w1:FA.length=R*C:=by omega
 have w2:O.length=R:=by omega
 have w3:(List.replicate C (0:Int)).length=C:=by simp
 show some (V.agg [I R,I C,V.ts (FA.flatMap cI) (R*C),V.ts (O.flatMap cI) R,V.ts ((List.replicate C (0:Int)).flatMap cI) C])=some (V.agg [I R,I C,V.ts (FA.flatMap cI) FA.length,V.ts (O.flatMap cI) O.length,V.ts ((List.replicate C (0:Int)).flatMap cI) (List.replicate C (0:Int)).length]);rw[w1,w2,w3]
theorem alc{P:Program}{t e:TypeId}{x y:Operand}(h:P.underlying t=some (.pointer e)):Aw P .eql t x y (.sc (.pointer none)) (.sc (.pointer none))=some (Bo true):=by
 have key:uI P ((Op.equal t (.pointer none) (.pointer none)).bind fun r=>pure (Value.bool r))=some (.bool true):=by
  show uI P ((Op.equalIn (9999+1) t _ _).bind fun r=>pure (Value.bool r))=_;unfold Op.equalIn underlying;show uI P (.program fun p=>_)=_;simp only[uI];have pb:∀ {β E:Type} (a:β) (f:β->Sem E),(Sem.pure a).bind f=f a:=fun _ _=>rfl
  have G:∀ {β E:Type} (a:β) (f:β->Sem E),(pure a:Sem β).bind f=f a:=fun _ _=>rfl
  simp only[h,pb,G];rfl
 simp only[Aw,toVal,eqGuard_at_pointer,pure_bind,binOp];erw[key];rfl
theorem aoJ(x y:Operand):Aw ZL .eql 148 x y (.sc (.pointer none)) (.sc (.pointer none))=some (Bo true):=alc Tryz.underlying148
attribute [go_sem] aoJ
def ahN:Option Rat->Option Rat->Option Rat
 |some x,some y=>FI (x+y)
 |_,_=>none
def F7:Option Rat->Option Rat->Option Rat
 |some x,some y=>FI (x*y)
 |_,_=>none
def LnO(k:Nat)(a:Option Rat):Prop:=∀x,a=some x->Ln k x
theorem ax'(a:Option Rat):fn ZL conv ext 222 [pQ a]=some (pQ (a.map fun x=> -x)):=by
 cases a with
 |none=>
  show fn ZL conv ext 222 [.sc (.pointer none)]=some (.sc (.pointer none))
  rw[m_,mg [.tmp 2] [] func222];simp only[go_sem]
 |some x=>
  have k:=kC x.num;have E:(-x).num= -x.num:=rfl;have G:(-x).den=x.den:=rfl;show fn ZL conv ext 222 [.tp (cQ x) 0]=some (.tp (cQ (-x)) 0)
  rw[m_,mg [.tmp 2] [] func222];unfold cQ;rw[E,G];unfold cZ at k;simp only[go_sem,k]
theorem Oj(σ:Store)(a:Option Rat):Option.map (fun x=>x.1) (strip σ 7 (pQ a))=some (pQ a):=by
 cases a with
 |none=>rfl
 |some q=>unfold pQ;rw[aN];rfl
theorem aeN{a b:Option Rat}(ha:LnO 100 a)(hb:LnO 100 b):fn ZL pI Ad 111 [pQ a,pQ b]=some (pQ (ahN a b)):=by
 cases a with
 |none=>
  show fn ZL pI Ad 111 [.sc (.pointer none),pQ b]=some (.sc (.pointer none));rw[m_,mg [.tmp 4] [] func111];simp only[go_sem]
 |some x=>cases b with
  |none=>
   show fn ZL pI Ad 111 [.tp (cQ x) 0,.sc (.pointer none)]=some (.sc (.pointer none));rw[m_,mg [.tmp 4] [] func111];simp only[go_sem]
  |some y=>
   have E:=ag_ x y ((ha x rfl).mono (by decide)) ((hb y rfl).mono (by decide));have G:=aso (x+y) (Ln.mono (N_ (ha x rfl) (hb y rfl) ) (by decide));show fn ZL pI Ad 111 [.tp (cQ x) 0,.tp (cQ y) 0]=some (pQ (FI (x+y)));rw[m_,mg [.tmp 4] [] func111];simp only[go_sem,E,G];exact Oj _ _
theorem ald{a b:Option Rat}(ha:LnO 100 a)(hb:LnO 100 b):fn ZL pI Ad 169 [pQ a,pQ b]=some (pQ (F7 a b)):=by
 cases a with
 |none=>
  show fn ZL pI Ad 169 [.sc (.pointer none),pQ b]=some (.sc (.pointer none));rw[m_,mg [.tmp 4] [] func169];simp only[go_sem]
 |some x=>cases b with
  |none=>
   show fn ZL pI Ad 169 [.tp (cQ x) 0,.sc (.pointer none)]=some (.sc (.pointer none));rw[m_,mg [.tmp 4] [] func169];simp only[go_sem]
  |some y=>
   have E:=aco x y ((ha x rfl).mono (by decide)) ((hb y rfl).mono (by decide));have G:=aso (x*y) (Ln.mono (aaZ (ha x rfl) (hb y rfl) (by decide)) (by decide));show fn ZL pI Ad 169 [.tp (cQ x) 0,.tp (cQ y) 0]=some (pQ (FI (x*y)));rw[m_,mg [.tmp 4] [] func169];simp only[go_sem,E,G];exact Oj _ _
abbrev Gq(a:Option Rat):List V:=[pQ a]
def ale(o:Option Rat)(v:Rat):Option Rat:=match o with
 |none=>some v
 |some y=>FI (y+v)
def OO(s:Int)(x:Rat):Rat:=if s<0 then -x else x
def Gh(K:List (Int×Int))(X:List Rat)(nm:Nat):Nat->List (Option Rat)
 |0=>List.replicate nm none
 |c+1=>(Gh K X nm c).set (K.getD c (0,0)).1.toNat (ale ((Gh K X nm c).getD (K.getD c (0,0)).1.toNat none) (OO (K.getD c (0,0)).2 (X.getD c 0)))
theorem lT(K:List (Int×Int))(X:List Rat)(nm:Nat):∀c,(Gh K X nm c).length=nm
 |0=>by simp[Gh]
 |c+1=>by rw[Gh,xu];exact lT K X nm c
theorem acC{q y:Rat}(h:FI q=some y):Ln 24 y:=by
 unfold FI at h
 split at h
 .cases h;assumption
 .cases h
theorem T_{K:List (Int×Int)}{X:List Rat}{nm:Nat}(O:∀x∈X,Ln 24 x):∀c,∀o∈Gh K X nm c,LnO 24 o
 |0=>fun o G y E=>by
  have:=(List.mem_replicate.mp G).2;rw[this]at E;cases E
 |c+1=>fun o G y E=>by
  rw[Gh]at G;rcases u_ G with h|h
  .exact T_ O c o h y E
  .subst h
   unfold ale at E
   split at E
   .cases E
    have J:Ln 24 (X.getD c 0):=by
     rw[zx]
     by_cases hc:c<X.length
     .rw[zy hc];exact O _ (zu hc)
     .rw[z_ (by omega)];exact(ru (z:=0) (by decide)).mono (by decide)
    unfold OO
    split
    .have S:(-(X.getD c 0)).num= -(X.getD c 0).num:=rfl
     have Y:(-(X.getD c 0)).den=(X.getD c 0).den:=rfl;exact⟨by rw[S,vT];exact J.1,by rw[Y];exact J.2⟩
    .exact J
   .exact(acC E).mono (by decide)
theorem alf(X:List (Option Rat)):∀(k:Nat) (q:Option Rat),(X.flatMap Gq).set k (pQ q)=(X.set k q).flatMap Gq:=by
 induction X with
 |nil=>intro k q;rfl
 |cons a X E=>intro k q;cases k with
  |zero=>rfl
  |succ k=>show pQ a :: ((X.flatMap Gq).set k (pQ q))=_;rw[E];rfl
theorem ahO(N:Nat):rep N [V.sc (.pointer none)]=(List.replicate N (none:Option Rat)).flatMap Gq:=by
 induction N with
 |zero=>rfl
 |succ N E=>rw[fM,E,xO];rfl
theorem ahP(a:Option Rat):cellsOfV (pQ a)=some [pQ a]:=by cases a<;>rfl
theorem alg(a:Option Rat):qI (pQ a)=true:=by cases a<;>rfl
theorem JL(σ:Store)(d:Nat):∀X:List (Option Rat),stripL (strip σ d) (X.flatMap Gq)=some (X.flatMap Gq,[])
 |[]=>by rw[vg,aX]
 |a :: X=>by
  rw[zK,show Gq a++X.flatMap Gq=pQ a :: X.flatMap Gq from rfl,ah,JL σ d X];cases a with
  |none=>unfold pQ;rw[aP];rfl
  |some q=>unfold pQ;rw[aN];rfl
attribute [go_sem] ahP alg
def acD:=bZ (c:=Gq) (s:=1) (fun _=>rfl)
theorem asQ{s:Structure}(h:SG s){X:List Rat}(hX:X.length=(cols s s.members.length).length)(hL:∀x∈X,Ln 24 x) :
  fn ZL pI Ad 162 [.tp (cStructure s) 0,LL cF X]=some (LL Gq (Gh (cols s s.members.length) X s.members.length (cols s s.members.length).length)):=by
 have e0:=h.nm;have e3:=oz s s.members.length;have k2:=Oe h;have m1:(0:Int)<=(s.members.length:Int):=by omega
 have m2:8*(s.members.length:Int)<=281474976710656:=by omega
 have m3:(s.members.length:Int)<=9223372036854775807:=by omega
 obtain⟨K,hK⟩:∃K,K=cols s s.members.length:=⟨_,rfl⟩;have c5:∀c (hc:c<K.length),(∃k:Nat,K[c].1=(k:Int)/\k<s.members.length)/\(K[c].2=1\/K[c].2= -1):=fun c hc=>by subst hK;exact ou (zu hc)
 rw[<- hK]at k2 hX e3⊢;rw[m_,mg [.tmp 4] [10] func162];simp only[go_sem,k2,m1,m2,m3];generalize c6:dI _ _=y;obtain⟨nm,c7⟩:∃nm,nm=s.members.length:=⟨_,rfl⟩;rw[<- c7]at c5 e0 m1 m2 m3⊢;obtain⟨x,rfl,T1,S,nI,rfl,t5,s0⟩:=oZ c6 K.length (fun c st=>st.T 1=LL cF X/\st.T 5= .rs 0 0 nm/\st.T 16=LL ES K/\st.T 17=I K.length/\st.T 18=I c/\0<st.nx/\st.σ 0=some ⟨(Gh K X nm c).flatMap Gq,1,true⟩)
  (fun x=>∃T1 S nI,x=(.exit 0,⟨T1,S,nI⟩)/\T1 5= .rs 0 0 nm/\S 0=some ⟨(Gh K X nm K.length).flatMap Gq,1,true⟩) (by
   clear c6;rintro c ⟨T,σ,nx⟩ hc ⟨t1,t5,t16,t17,Dp,c0,s0⟩;simp only at t1 t5 t16 t17 Dp c0 s0;have g1:(c:Int)<(K.length:Int):=by omega
   have g2:=jD c;have g3:=ZT (n:=(c:Int)+1);have a4:=d_ (c:=ES) (s:=2) (fun _=>rfl) K c hc;have a5:=bg (c:=ES) (s:=2) (fun _=>rfl) (by omega) K c hc;have a6:=bZ (c:=ES) (s:=2) (fun _=>rfl) K;have a7:c*2+2<=K.length*2:=by omega
   have a8:=qO X (k:=c) (by omega);have a9:(X.flatMap cF).length=X.length:=qN X;have Y:(c:Int)<(X.length:Int):=by omega
   have a1:X.flatMap cF≠[]:=fun e=>by rw[e]at a9;have:X.length=0:=a9.symm;omega
   obtain⟨⟨k,hk,J⟩,c2⟩:=c5 c hc;have G:Gh K X nm (c+1)=(Gh K X nm c).set K[c].1.toNat (ale ((Gh K X nm c).getD K[c].1.toNat none) (OO K[c].2 X[c])):=by
    rw[Gh];have e1:K.getD c (0,0)=K[c]:=by rw[zx,zy hc];rfl
    have e2:X.getD c 0=X[c]'(by omega):=by rw[zx,zy (by omega)];rfl
    rw[e1,e2]
   have b7:=hL _ (zu (l:=X) (n:=c) (by omega));obtain⟨kp,e4⟩:∃kp,kp=K[c]:=⟨_,rfl⟩;rw[<- e4]at a4 hk c2 G;obtain⟨k1,c8⟩:=kp;simp only at hk c2 G;subst hk;rw[zJ]at G;obtain⟨E,e5⟩:∃E,E=X[c]'(by omega):=⟨_,rfl⟩;rw[<- e5]at a8 G b7;have hlen:=lT K X nm c;have c9:=T_ (K:=K) (nm:=nm) hL c;obtain⟨O,eO⟩:∃O,O=Gh K X nm c:=⟨_,rfl⟩;rw[<- eO]at s0 G hlen c9;have b1:=cu (fun a=>pQ a) O k (by omega);have b1:(O.flatMap Gq)[k]?=some (pQ (O.getD k none)):=by
    rw[b1,zx,zy (by omega)];rfl
   have c3:LnO 24 (O.getD k none):=by
    rw[zx,zy (by omega)];exact c9 _ (zu _)
   have b2:(O.flatMap Gq).length=nm:=by rw[acD,hlen,yQ]
   have b3:(k:Int)<(nm:Int):=by omega
   have b4:=jD k;have b5:k+1<=nm:=J;have b8:Ln 24 (OO c8 E):=by
    unfold OO
    split
    .exact⟨by show ln (-E.num).natAbs<=24;rw[vT];exact b7.1,b7.2⟩
    .exact b7
   have b6:=alf O k (ale (O.getD k none) (OO c8 E));rw[<- G]at b6;obtain⟨o,eo⟩:∃o,o=O.getD k none:=⟨_,rfl⟩;rw[<- eo]at b1 b6 c3;have b9:fn ZL conv ext 222 [.tp (cQ E) 0]=some (.tp (cQ (-E)) 0):=ax' (some E)
   have d0:¬nx=0:=by omega
   have d1:¬0=nx:=by omega
   have d2:0<nx+1:=by omega
   have d3:nx<nx+1:=by omega
   refine bC ?_;have n1:¬(1:Int)<0:=by decide
   have n2:(-1:Int)<0:=by decide
   rcases c2 with rfl|rfl
   .have sv:OO 1 E=E:=rfl
    rw[sv]at b6 b8;rcases o with _|y
    .have e6:(O.flatMap Gq).set k (.tp (cQ (E)) 0)=(Gh K X nm (c+1)).flatMap Gq:=b6
     have e1:(O.flatMap Gq)[k]?=some (.sc (.pointer none)):=b1;refine⟨_,by simp only[go_sem,t1,t5,t16,t17,Dp,s0,g1,g2,g3,a4,a5,a6,a7,a8,a9,Y,a1,b2,b3,b4,b5,J,e1,e6,b9,n1,n2,d0,d1,d2,d3];rfl,.inl ⟨_,rfl,?_⟩⟩;simp only[go_sem,t1,t5,t16,t17,d0,d1,d2]
     first|rfl|exact⟨rfl,rfl⟩|trace_state
    .have e6:(O.flatMap Gq).set k (pQ (FI (y+E)))=(Gh K X nm (c+1)).flatMap Gq:=b6
     have e1:(O.flatMap Gq)[k]?=some (.tp (cQ y) 0):=b1;have c4:fn ZL pI Ad 111 [.tp (cQ y) 0,.tp (cQ (E)) 0]=some (pQ (FI (y+E))):=aeN (a:=some y) (b:=some (E)) (fun z hz=>(c3 z hz).mono (by decide)) (fun z hz=>by cases hz;exact b8.mono (by decide));refine⟨_,by simp only[go_sem,t1,t5,t16,t17,Dp,s0,g1,g2,g3,a4,a5,a6,a7,a8,a9,Y,a1,b2,b3,b4,b5,J,e1,e6,b9,c4,n1,n2,d0,d1,d2,d3];rfl,.inl ⟨_,rfl,?_⟩⟩;simp only[go_sem,t1,t5,t16,t17,d0,d1,d2]
     first|rfl|exact⟨rfl,rfl⟩|trace_state
   .have sv:OO (-1) E= -E:=rfl
    rw[sv]at b6 b8;rcases o with _|y
    .have e6:(O.flatMap Gq).set k (.tp (cQ (-E)) 0)=(Gh K X nm (c+1)).flatMap Gq:=b6
     have e1:(O.flatMap Gq)[k]?=some (.sc (.pointer none)):=b1;refine⟨_,by simp only[go_sem,t1,t5,t16,t17,Dp,s0,g1,g2,g3,a4,a5,a6,a7,a8,a9,Y,a1,b2,b3,b4,b5,J,e1,e6,b9,n1,n2,d0,d1,d2,d3];rfl,.inl ⟨_,rfl,?_⟩⟩;simp only[go_sem,t1,t5,t16,t17,d0,d1,d2]
     first|rfl|exact⟨rfl,rfl⟩|trace_state
    .have e6:(O.flatMap Gq).set k (pQ (FI (y+ -E)))=(Gh K X nm (c+1)).flatMap Gq:=b6
     have e1:(O.flatMap Gq)[k]?=some (.tp (cQ y) 0):=b1;have c4:fn ZL pI Ad 111 [.tp (cQ y) 0,.tp (cQ (-E)) 0]=some (pQ (FI (y+ -E))):=aeN (a:=some y) (b:=some (-E)) (fun z hz=>(c3 z hz).mono (by decide)) (fun z hz=>by cases hz;exact b8.mono (by decide));refine⟨_,by simp only[go_sem,t1,t5,t16,t17,Dp,s0,g1,g2,g3,a4,a5,a6,a7,a8,a9,Y,a1,b2,b3,b4,b5,J,e1,e6,b9,c4,n1,n2,d0,d1,d2,d3];rfl,.inl ⟨_,rfl,?_⟩⟩;simp only[go_sem,t1,t5,t16,t17,d0,d1,d2]
     first|rfl|exact⟨rfl,rfl⟩|trace_state) (by
   rintro ⟨T,σ,nx⟩ ⟨t1,t5,t16,t17,Dp,c0,s0⟩;simp only at t1 t5 t16 t17 Dp c0 s0;have g1:¬(K.length:Int)<(K.length:Int):=by omega
   refine⟨_,by simp only[go_sem,t17,Dp,g1];rfl,by simp,_,_,_,rfl,?_⟩;simp only[go_sem,t5];exact s0) (by
   simp only[go_sem,<- c7];rw[Gh,<- ahO])
 have hlen:=lT K X nm K.length;have u1:nm<=((Gh K X nm K.length).flatMap Gq).length:=by rw[acD,hlen];omega
 have u2:((Gh K X nm K.length).flatMap Gq).take nm=(Gh K X nm K.length).flatMap Gq:=zl (by rw[acD,hlen];omega);have u3:=JL S 6 (Gh K X nm K.length);simp only[go_sem,t5,s0,u1,u2,u3];show some (V.ts _ nm)=some (V.ts _ (Gh K X nm K.length).length);rw[hlen]
def EH(s:Structure)(l:List Int):Prog:=AO (OM s) (GI s l) (List.replicate (Cc s) 0) (JK s) (Cc s)
theorem aa6{s:Structure}(h:SG s):∀x∈OM s,-1000<=x/\x<=1000:=fun x E=>by
 unfold OM at E;obtain⟨r,G,E⟩:=List.mem_flatMap.mp E;obtain⟨p,hp,rfl⟩:=List.mem_map.mp E;have hb:-100<=r.getD p.1.toNat 0/\r.getD p.1.toNat 0<=100:=by
  rw[zx]
  by_cases hi:p.1.toNat<r.length
  .rw[zy hi];exact Xt h G _ (zu hi)
  .rw[z_ (by omega)];simp
 rcases (ou hp).2 with e|e<;>rw[e]<;>omega
theorem ahQ{s:Structure}{l:List Int}(hb:∀x∈l,-100<=x/\x<=100):∀x∈GI s l,-1000<=x/\x<=1000:=fun x E=>by
 unfold GI at E;obtain⟨j,-,E⟩:=List.mem_flatMap.mp E;have key:∀q,-100<=l.getD q 0/\l.getD q 0<=100:=fun q=>by
  rw[zx]
  by_cases hi:q<l.length
  .rw[zy hi];exact hb _ (zu hi)
  .rw[z_ (by omega)];simp
 simp only[zV,yc,or_false]at E;rcases E with rfl|rfl
 .have:=key (2*j.toNat);omega
 .have:=key (2*j.toNat+1);omega
theorem asT{s:Structure}(h:SG s){l:List Int}(hb:∀x∈l,-100<=x/\x<=100)(E:0<JK s):KW (OM s) (GI s l) (List.replicate (Cc s) 0) (JK s) (Cc s):=by
 have J:=lS s;have O:=h.nj;have S:=oz s s.members.length;have Y:=h.nm;refine⟨LP s,TY s l,by simp,E,by unfold JK;omega,by unfold Cc;omega,aa6 h,ahQ hb,fun x G=>?_⟩;rw[(List.mem_replicate.mp G).2];omega
theorem aeO{s:Structure}(h:Aj s)(J:free s=[]):s.members=[]:=by
 refine zf fun hn=>?_
 obtain⟨m,ms,e⟩:=List.exists_cons_of_ne_nil hn;have hm:m∈s.members:=by rw[e];simp
 have E:=h.2.2.2 m hm;have G:Gy s.joints.length m:=zf fun G=>by rw[jK G]at E;cases E
 obtain⟨O,S,Y,r4,r5,r6⟩:=G;have ha:m.a.toNat<s.joints.length:=by omega
 have hb:m.b.toNat<s.joints.length:=by omega
 rw[Ju ⟨O,S,Y,r4,r5,r6⟩ (zy ha) (zy hb)]at E;have fixed:∀i (hi:i<s.joints.length),s.joints[i].fixed=true:=fun i hi=>by
  cases hf:s.joints[i].fixed with
  |true=>rfl
  |false=>
   have hq:C9 s i=true:=by simp[C9,zy hi,hf]
   have:(i:Int)∈free s:=by
    unfold free EY;exact List.mem_map.mpr ⟨i,List.mem_filter.mpr ⟨List.mem_range.mpr hi,hq⟩,rfl⟩
   rw[J]at this;cases this
 unfold Wi at E;rw[fixed _ ha,fixed _ hb]at E;simp at E
theorem alj{s:Structure}(h:Aj s){l:List Int}(hb:∀x∈l,-100<=x/\x<=100):∃r,fn ZL pI Ad 160 [.tp (CO (JK s) (Cc s) (OM s) (GI s l) (List.replicate (Cc s) 0)) 0]=some r/\asH (EH s l) r:=by
 by_cases Y:0<JK s
 .exact aoG (asT h.sg hb Y)
 .have E:free s=[]:=zZ (by unfold JK at Y;omega)
  have e1:=aeO h E;have G:JK s=0:=by omega
  have J:Cc s=0:=by unfold Cc;rw[e1];rfl
  have O:OM s=[]:=by unfold OM BO;rw[E];rfl
  have S:GI s l=[]:=by unfold GI;rw[E];rfl
  refine⟨_,by rw[G,J,O,S];exact ak',.inr (.inr ⟨fun _=>0,?_,fun j hj=>?_,?_⟩)⟩
  .unfold EH
   rw[G,J,O,S];refine⟨⟨fun k hk=>absurd hk (zX k),fun j hj=>absurd hj (zX j)⟩,fun y hy=>?_⟩;refine .inr fun q _=>?_
   show(0:Rat) - 0=0;grind
  .exact(ru (z:=0) (by decide)).mono (by decide)
  .unfold EH
   rw[G,J,O,S];rfl
def asU(s:Structure)(l:List Int)(r:V):Prop:=(r= .AB [.ts [] 0,.ts [] 0,Bo false]/\((EH s l).None\/(EH s l).Open)) \/
 ∃x:Nat->Rat,(EH s l).Best x/\(∀j,j<Cc s->Ln 24 (x j))/\r= .AB [LL Gq (Gh (cols s s.members.length) ((List.range (Cc s)).map x) s.members.length (Cc s)),.ts [] 0,Bo true]
theorem alk{s:Structure}(h:Aj s){l:List Int}(hb:∀x∈l,-100<=x/\x<=100):∃r,fn ZL pI Ad 103 [.tp (cStructure s) 0,.agg (CO (JK s) (Cc s) (OM s) (GI s l) (List.replicate (Cc s) 0))]=some r/\asU s l r:=by
 obtain⟨r0,E,hr⟩:=alj h hb;have k2:=Oe h.sg;have hC:(cols s s.members.length).length=Cc s:=rfl;obtain⟨C,eC⟩:∃C,C=Cc s:=⟨_,rfl⟩;have hn:(EH s l).n=Cc s:=rfl;have a1:Cc s<=16:=by have:=oz s s.members.length;have:=h.sg.nm;omega
 rw[m_,mg [.tmp 4,.tmp 5,.tmp 6] [] func103];unfold CO at E⊢;rcases hr with ⟨rfl,G⟩|⟨rfl,G⟩|⟨x,G,S,rfl⟩
 .refine⟨_,by simp only[go_sem,E];rfl,.inl ⟨rfl,.inl G⟩⟩
 .refine⟨_,by simp only[go_sem,E];rfl,.inl ⟨rfl,.inr G⟩⟩
 .rw[hn]at E S
  obtain⟨X,O⟩:∃X:List Rat,X=(List.range (Cc s)).map x:=⟨_,rfl⟩;have J:X.length=Cc s:=by rw[O];simp
  have kf:=asQ h.sg (X:=X) (by rw[J];rfl) (fun y hy=>by
   rw[O]at hy;obtain⟨j,hj,rfl⟩:=List.mem_map.mp hy;exact S j (List.mem_range.mp hj))
  rw[<- O]at E;have Y:fn ZL conv ext 161 [.tp (cStructure s) 0]=some (.ts ((cols s s.members.length).flatMap ES) X.length):=by rw[J];exact k2
  have z1:(X.flatMap cF).take X.length=X.flatMap cF:=zl (by rw[qN];exact zq _);have z2:(X.flatMap cF).drop X.length=[]:=xw (by rw[qN];exact zq _);have z0:(0:Int)<=(X.length:Int):=by omega
  refine⟨_,by simp only[go_sem,E,Y,z0,z1,z2,kf,yP,List.take_nil,JL];rfl,.inr ⟨x,G,S,?_⟩⟩;rw[<- O];rfl
def BK:List (Option Rat)->Option (List Rat)
 |[]=>some []
 |none :: _=>none
 |some q :: l=>(BK l).map (q :: ·)
theorem dF:∀(l:List (Option Rat)) (a:Option Rat),BK (l++[a])=(BK l).bind fun qs=>a.map fun q=>qs++[q]
 |[],none=>rfl
 |[],some q=>rfl
 |none :: l,a=>rfl
 |some q :: l,a=>by
  show(BK (l++[a])).map _=((BK l).map _).bind _;rw[dF l a];cases BK l with
  |none=>rfl
  |some qs=>cases a<;>rfl
theorem dG:∀ {l l':List (Option Rat)},BK l=none->BK (l++l')=none
 |[],_,h=>by cases h
 |none :: l,_,_=>rfl
 |some q :: l,l',h=>by
  show(BK (l++l')).map _=none;have:BK l=none:=by
   cases e:BK l with
   |none=>rfl
   |some qs=>rw[show BK (some q :: l)=(BK l).map (q :: ·)from rfl,e]at h;cases h
  rw[dG this];rfl
theorem dH:∀ {l:List (Option Rat)} {qs:List Rat},BK l=some qs->qs.length=l.length
 |[],qs,h=>by cases h;rfl
 |none :: l,_,h=>by cases h
 |some q :: l,qs,h=>by
  cases e:BK l with
  |none=>rw[show BK (some q :: l)=(BK l).map (q :: ·)from rfl,e]at h;cases h
  |some rs=>rw[show BK (some q :: l)=(BK l).map (q :: ·)from rfl,e]at h;cases h;simp[dH e]
abbrev zR:List V:=[Bo false,.nil,.nil]
def Po(qs:List Rat)(n:Nat):List V:=qs.flatMap cQ++rep (n-qs.length) zR
def QH:=bZ (c:=cQ) (s:=3) (fun _=>rfl)
theorem Xu(qs:List Rat){n:Nat}(h:qs.length<=n):(Po qs n).length=n*3:=by
 unfold Po;rw[zo,QH,fO];simp only[zH,wR];omega
theorem ahR(qs:List Rat){n:Nat}(h:qs.length<n)(q:Rat):patch (Po qs n) (qs.length*3) (cQ q)=Po (qs++[q]) n:=by
 have E:=QH qs;rw[iJ _ _ _ (by rw[Xu qs (by omega)];show qs.length*3+3<=n*3;omega)];unfold Po;rw[uS (by omega),zl (by omega),zT,zo,yL,show n-qs.length=n - (qs.length+1)+1 by omega,fM];rw[List.drop_append,xw (by rw[E];omega),yO,E,show qs.length*3+(cQ q).length-qs.length*3=3 by show qs.length*3+3-qs.length*3=3;omega];simp
theorem QI(σ:Store)(d:Nat)(qs:List Rat):stripL (strip σ d) (qs.flatMap cQ)=some (qs.flatMap cQ,[]):=aW (fun q=>qF σ d q) qs
theorem ahS(q:Rat):(cQ q).all qI=true:=rfl
theorem alm(q:Rat):(cQ q).take 3=cQ q:=rfl
theorem aln(q:Rat):(cQ q).length=3:=rfl
attribute [go_sem] ahS alm aln
def CW(O:List (Option Rat)):V:=match BK O with
 |some qs=> .AB [LL cQ qs,Bo true]
 |none=> .AB [.ts [] 0,Bo false]
theorem alo(O:List (Option Rat))(hL:∀o∈O,LnO 24 o)(hn:O.length<=1000):fn ZL conv ext 105 [LL Gq O]=some (CW O):=by
 have m1:(0:Int)<=(O.length:Int):=by omega
 have m2:56*(O.length:Int)<=281474976710656:=by omega
 have m3:(O.length:Int)<=9223372036854775807:=by omega
 rw[m_,mg [.tmp 2,.tmp 3] [] func105];simp only[go_sem,m1,m2,m3];generalize Y:dI _ _=y;obtain⟨x,rfl,hx⟩:=oZ Y O.length (fun k st=>st.T 4= .rs 0 0 O.length/\st.T 10=LL Gq O/\st.T 11=I O.length/\st.T 12=I k/\0<st.nx/\∃qs,BK (O.take k)=some qs/\st.σ 0=some ⟨Po qs O.length,3,true⟩)
  (fun x=>∃T σ nx,(x=(.exit 0,⟨T,σ,nx⟩)/\T 4= .rs 0 0 O.length/\∃qs,BK O=some qs/\σ 0=some ⟨Po qs O.length,3,true⟩)\/(x=(.ret,⟨T,σ,nx⟩)/\T 2= .nil/\T 3=Bo false/\BK O=none)) (by
   clear Y;rintro k ⟨T,σ,nx⟩ S ⟨t4,t10,t11,t12,G,qs,E,s0⟩;simp only at t4 t10 t11 t12 G s0;have g1:(k:Int)<(O.length:Int):=by omega
   have g2:=jD k;have g3:=ZT (n:=(k:Int)+1);have g4:(O.flatMap Gq)[k]?=some (pQ O[k]):=cu (fun a=>pQ a) O k S;have g5:=bg (c:=Gq) (s:=1) (fun _=>rfl) (by omega) O k S;have g6:=acD O;rw[yQ]at g6;have a1:qs.length=k:=by rw[dH E,zh];omega
   have J:O.take (k+1)=O.take k++[O[k]]:=aH S;have ho:=hL _ (zu S);obtain⟨o,eo⟩:∃o,o=O[k]:=⟨_,rfl⟩;rw[<- eo]at g4 J ho;cases o with
   |none=>
    have g4:(O.flatMap Gq)[k]?=some (.sc (.pointer none)):=g4;refine .inr ⟨_,by simp only[go_sem,t4,t10,t11,t12,g1,g2,g4,g5,g6,S];rfl,by simp,_,_,_,.inr ⟨rfl,?_⟩⟩;simp only[go_sem];have:O=O.take (k+1)++O.drop (k+1):=(wC _ _).symm;rw[this,J];refine dG ?_;rw[dF,E];rfl
   |some q=>
    have g4:(O.flatMap Gq)[k]?=some (.tp (cQ q) 0):=g4;have hq:=ho q rfl;have ks:=aj8 q hq.1 hq.2;have p1:=Xu qs (n:=O.length) (by omega);have p2:=ahR qs (n:=O.length) (by omega) q;rw[a1]at p2;have p3:k*3+3<=O.length*3:=by omega
    refine .inl ⟨_,by simp only[go_sem,t4,t10,t11,t12,s0,g1,g2,g3,g4,g5,g6,S,ks,p1,p2,p3];rfl,?_⟩;simp only[go_sem,t4,t10,t11];refine⟨rfl,G,qs++[q],?_,rfl⟩;rw[J,dF,E];rfl) (by
   rintro ⟨T,σ,nx⟩ ⟨t4,t10,t11,t12,G,qs,E,s0⟩;simp only at t4 t10 t11 t12 G s0;have g1:¬(O.length:Int)<(O.length:Int):=by omega
   refine⟨_,by simp only[go_sem,t11,t12,g1];rfl,by simp,_,_,_,.inl ⟨rfl,?_⟩⟩;simp only[go_sem,t4];rw[yg]at E;exact⟨qs,E,s0⟩) (by
   simp only[go_sem];refine⟨[],rfl,?_⟩;unfold Po;rfl)
 rcases hx with ⟨T,σ,nx,⟨rfl,t4,qs,E,s0⟩|⟨rfl,t2,t3,E⟩⟩
 .have hl:=dH E
  have e1:Po qs O.length=qs.flatMap cQ:=by unfold Po;rw[hl,yP];exact zC _
  rw[e1]at s0;have u0:=QH qs;have u1:O.length*3<=(qs.flatMap cQ).length:=by rw[u0];omega
  have u2:(qs.flatMap cQ).take (O.length*3)=qs.flatMap cQ:=zl (by rw[u0];omega);have u3:=QI σ 5 qs;unfold CW;rw[E];simp only[go_sem,t4,s0,u1,u2,u3];show some (V.AB [V.ts _ O.length,_])=some (V.AB [V.ts _ qs.length,_]);rw[hl]
 .unfold CW
  rw[E];simp only[go_sem,t2,t3]
def aa7(P:Program)(ts:Array TypeId)(ty:TypeId)(a b:V)(σ:Store)(nx:Nat):JZ:=EF P .min ts ty [a,b] σ nx
theorem aoL{P:Program}{conv:FuncId->Conv}{call:TV.Call}(d:Option Tmp)(ty:TypeId)(ps:String)(E:Array Edge)(G:Option (Nat×Bool))(T:Nat->V)(σ:Store)(nx:Nat)(a b:Operand)(ts:Array TypeId) :
  Az P conv call ⟨d,.call ⟨.builtin .min,#[a,b],ts⟩,ty,ps,E,G⟩ T σ nx=aa7 P ts ty (val T a) (val T b) σ nx:=rfl
theorem aa8{P:Program}{ts:Array TypeId}{ty:TypeId}{m n:Int}{σ:Store}{nx:Nat}:aa7 P ts ty (I m) (I n) σ nx=some (I (if n<m then n else m),σ,nx):=by
 unfold aa7;simp only[EF,He,afq];rfl
attribute [go_sem] aoL aa8
theorem aa9{b n:Nat}(hn:ln b=n+1):1<=b / 1000000000^n/\b / 1000000000^n<1000000000/\(dg b)[n]?=some ((b / 1000000000^n:Nat):Int):=by
 have E:b<1000000000^(n+1):=by
  have:=(jZ (n:=b) (k:=n+1)).mp (by omega);rw[qW]at this;omega
 have O:¬b<1000000000^n:=fun h=>by
  have:ln b<=n:=(jZ (n:=b) (k:=n)).mpr (by rw[qW];omega);omega
 have hp:0<1000000000^n:=Nat.pow_pos (by decide);have G:b / 1000000000^n<1000000000:=by
  rw[uK hp];rw[uV]at E;rw[wB];exact E
 have J:n<(dg b).length:=by unfold ln at hn;omega
 refine⟨by rw[uJ hp];omega,G,?_⟩;rw[zy J,oQ J,vw G]
theorem alp(m n:Nat):AY m n<=0↔m<=n:=by
 unfold AY
 split
 .omega
 .split<;>omega
theorem alq(m n:Nat):AY m n<0↔m<n:=by
 unfold AY
 split
 .omega
 .split<;>omega
theorem aoM{r b P:Nat}(E:0<P)(hb:0<b):r / P / (b / P+1)<=r / b:=by
 rw[uJ hb];have G:b<=(b / P+1)*P:=by
  have:=Nat.lt_mul_div_succ b E;rw[wB];omega
 calc r / P / (b / P+1)*b<=r / P / (b / P+1)*((b / P+1)*P):=tJ _ G
  _=r / P / (b / P+1)*(b / P+1)*P:=by rw[uj]
  _<=r / P*P:=zL _ (tC _ _)
  _<=r:=tC _ _
theorem aoN{r b P:Nat}(E:0<P)(hb:0<b / P):r / b<=r / P / (b / P):=by
 rw[uJ hb,uJ E];have G:b / P*P<=b:=tC _ _
 calc r / b*(b / P)*P=r / b*(b / P*P):=uj _ _ _
  _<=r / b*b:=tJ _ G
  _<=r:=tC _ _
theorem alr(r b:Nat)(c7:1000000000<=b)(hle:b<=r)(b8:r<b*1000000000)(c8:ln b<=10000):fn ZL conv ext 293 [LI (dg r),LI (dg b)]=some (I ((r / b:Nat):Int)):=by
 obtain⟨n,hn⟩:∃n,ln b=n+1:=⟨ln b-1,by have:=jU (n:=b) (by omega);omega⟩;obtain⟨t1,t2,t3⟩:=aa9 hn;obtain⟨P,eP⟩:∃P,P=1000000000^n:=⟨_,rfl⟩;rw[<- eP]at t1 t2 t3;have hP:0<P:=by rw[eP];exact Nat.pow_pos (by decide)
 have b3:n+1<=ln r:=by rw[<- hn];exact jY hle
 have b9:ln r<=n+2:=by
  rw[jZ,qW];have h1:b<1000000000^(n+1):=by
   have:=(jZ (n:=b) (k:=n+1)).mp (by omega);rw[qW]at this;omega
  have h2:1000000000^(n+2)=1000000000^(n+1)*1000000000:=uV _ _;omega
 obtain⟨X,eX⟩:∃X,X=r / P:=⟨_,rfl⟩;obtain⟨bt,a6⟩:∃bt,bt=b / P:=⟨_,rfl⟩;rw[<- a6]at t1 t2 t3;obtain⟨Q,eQ⟩:∃Q,Q=r / b:=⟨_,rfl⟩;rw[<- eQ];have c9:Q<1000000000:=by rw[eQ,uK (by omega),wB];exact b8
 have q1:X / (bt+1)<=Q:=by rw[eX,a6,eQ];exact aoM hP (by omega)
 have q2:Q<=X / bt:=by rw[eX,a6,eQ];exact aoN hP (by omega)
 have hX:X<1000000000000000000:=by
  rw[eX,uK hP];have h1:r<1000000000^(n+2):=by
   have:=(jZ (n:=r) (k:=n+2)).mp b9;rw[qW]at this;omega
  have h2:1000000000^(n+2)=1000000000000000000*P:=by rw[eP,Nat.pow_add,wB]
  omega
 have a7:(dg b).length=n+1:=hn;have u1:((n+1:Nat):Int) - 1=(n:Int):=by omega
 have w1:=ZT (n:=(n:Int));have i0:=jD n;have i1:(n:Int)<((n+1:Nat):Int):=by omega
 have i2:(n:Int)<((dg r).length:Int):=by unfold ln at b3;omega
 have n1:n<(dg r).length:=by unfold ln at b3;omega
 have n2:n<n+1:=by omega
 have b4:((dg b).flatMap cI)[n]?=some (I (bt:Int)):=by
  have G:n<(dg b).length:=by omega
  have e:(dg b)[n]=(bt:Int):=by
   rw[zy G]at t3;exact Option.some.inj t3
  rw[idx (xs:=dg b) (k:=n) G,e]
 have b5:(dg b).flatMap cI≠[]:=fun e=>by have h:=qL (dg b);rw[e,a7]at h;have h:0=n+1:=h;omega
 have b6:(dg r).flatMap cI≠[]:=fun e=>by have h:=qL (dg r);rw[e]at h;have h:0=(dg r).length:=h;omega
 have a8:((dg r).flatMap cI)[n]?=some (I ((r / P%1000000000:Nat):Int)):=by
  rw[idx (xs:=dg r) (k:=n) n1,oQ n1,eP]
 have v1:=ZT (n:=(bt:Int)+1);have c1:¬(bt:Int)+1=0:=by omega
 have c2:¬(bt:Int)=0:=by omega
 obtain⟨L0,J⟩:∃L0,L0=X / (bt+1):=⟨_,rfl⟩;obtain⟨O,S⟩:∃O,O=X / bt:=⟨_,rfl⟩;have e0:L0<=X:=by rw[J];exact wo _ _
 have e2:O<=X:=by rw[S];exact wo _ _
 rw[<- J]at q1;rw[<- S]at q2;have d1:(X:Int).tdiv ((bt:Int)+1)=(L0:Int):=by
  rw[yG (by omega),show(bt:Int)+1=((bt+1:Nat):Int) by omega,<- Int.natCast_ediv,J]
 have d2:(X:Int).tdiv (bt:Int)=(O:Int):=by rw[yG (by omega),<- Int.natCast_ediv,S]
 clear J S;have v2:=ZT (n:=(L0:Int));have v3:=ZT (n:=(O:Int));obtain⟨H,eH,c0,c5⟩:∃H:Nat,(if(O:Int)<999999999 then(O:Int)else 999999999)=(H:Int)/\Q<=H/\H<=999999999:=by
  by_cases h:(O:Int)<999999999
  .exact⟨O,by rw[sH h],q2,by omega⟩
  .exact⟨999999999,by rw[sJ h];rfl,by omega,by omega⟩
 have E:ln r=n+1\/ln r=n+2:=by omega
 rw[m_,mg [.tmp 4] [] func293];rcases E with E|E
 case' inl=>
  have e1:r / P%1000000000=X:=by
   rw[eX];obtain⟨_,h2,_⟩:=aa9 E;rw[<- eP]at h2;exact vw h2
  rw[e1]at a8;have b2:(dg r).length=n+1:=E;have c3:¬((n+1:Nat):Int)<((n+1:Nat):Int):=by omega
  simp only[go_sem,a7,b2,u1,w1,i0,i1,n2,a8,b4,b5,b6,c3,v1,c1,c2,d1,d2,v2,v3,eH]
 case' inr=>
  obtain⟨y1,y2,y3⟩:=aa9 E;obtain⟨Y,eY⟩:∃Y,Y=r / 1000000000^(n+1):=⟨_,rfl⟩;rw[<- eY]at y2 y3;have e1:r / P%1000000000+Y*1000000000=X:=by
   have:=oL r n;rw[<- eP,<- eY,<- eX]at this;rw[<- eX];omega
  have b2:(dg r).length=n+1+1:=E;have c3:((n+1:Nat):Int)<((n+1+1:Nat):Int):=by omega
  have i3:(0:Int)<=((n+1:Nat):Int):=by omega
  have i4:(n:Int)<((n+1+1:Nat):Int):=by omega
  have n3:n+1<n+1+1:=by omega
  have n4:n<n+1+1:=by omega
  have tn:((n+1:Nat):Int).toNat=n+1:=zJ _;have c6:((dg r).flatMap cI)[n+1]?=some (I (Y:Int)):=by
   have G:n+1<(dg r).length:=by omega
   have e:(dg r)[n+1]=(Y:Int):=by
    rw[zy G]at y3;exact Option.some.inj y3
   rw[idx (xs:=dg r) (k:=n+1) G,e]
  have v4:=ZT (n:=(Y:Int)*1000000000);have v5:IntKind.i64.wrap (((r / P%1000000000:Nat):Int)+(Y:Int)*1000000000)=(X:Int):=by
   rw[ZT];omega
  simp only[go_sem,a7,b2,u1,w1,i0,i1,i3,i4,n2,n3,n4,tn,a8,c6,b4,b5,b6,c3,v1,v4,v5,c1,c2,d1,d2,v2,v3,eH]
 all_goals
  generalize hL:dI _ _=y;obtain⟨x,rfl,T,σ,nx,rfl,t7⟩:=jQ hL (fun m st=>st.T 0=LI (dg r)/\st.T 1=LI (dg b)/\∃lo hi:Nat,st.T 7=I (lo:Int)/\st.T 8=I (hi:Int)/\lo<=Q/\Q<=hi/\hi<=999999999/\m+lo=hi)
   (fun x=>∃T σ nx,x=(.exit 0,⟨T,σ,nx⟩)/\T 7=I (Q:Int)) (by
    clear hL;rintro m ⟨T,σ,nx⟩ ⟨t0,t1,lo,hi,t7,t8,h1,h2,h3,h4⟩;simp only at t0 t1 t7 t8
    by_cases e3:lo<hi
    .have g1:(lo:Int)<(hi:Int):=by omega
     obtain⟨q,eq⟩:∃q,q=(lo+hi+1) / 2:=⟨_,rfl⟩;have g2:=ZT (n:=(lo:Int)+(hi:Int));have g3:=ZT (n:=(lo:Int)+(hi:Int)+1);have g4:((lo:Int)+(hi:Int)+1).tdiv 2=(q:Int):=by
      rw[yG (by omega)];omega
     have g5:=ZT (n:=(q:Int));have g6:=ZT (n:=(q:Int) - 1);have g7:¬(2:Int)=0:=by decide
     have k1:=M_ q (by omega);have lq:=jT (n:=q) (by omega);have k2:=dN b q (by omega) (by omega);have lm:=jX b q;have k3:=Ws (b*q) r (by show ln (b*q)<=_;omega) (by show ln r<=_;omega);have a1:=alp (b*q) r;have b7:b*q<=r↔q<=Q:=by rw[eQ,uJ (by omega),wB]
     by_cases hq:q<=Q
     .have c4:AY (b*q) r<=0:=a1.mpr (b7.mpr hq)
      refine .inl ⟨_,by simp only[go_sem,t0,t1,t7,t8,g1,g2,g3,g4,g5,g7,k1,k2,k3,c4];rfl,hi-q,by omega,?_⟩;simp only[go_sem,t0,t1,t8];exact⟨q,hi,rfl,rfl,hq,h2,h3,by omega⟩
     .have c4:¬AY (b*q) r<=0:=fun h=>hq (b7.mp (a1.mp h))
      refine .inl ⟨_,by simp only[go_sem,t0,t1,t7,t8,g1,g2,g3,g4,g5,g6,g7,k1,k2,k3,c4];rfl,q-1-lo,by omega,?_⟩;simp only[go_sem,t0,t1,t7];exact⟨lo,q-1,rfl,by rw[show((q-1:Nat):Int)=(q:Int) - 1 by omega],h1,by omega,by omega,by omega⟩
    .have g1:¬(lo:Int)<(hi:Int):=by omega
     refine .inr ⟨_,by simp only[go_sem,t7,t8,g1];rfl,by simp,_,_,_,rfl,?_⟩;simp only[go_sem,t7];rw[show(lo:Int)=(Q:Int) by omega]) (H-L0) (by
    simp only[go_sem];exact⟨L0,H,rfl,rfl,q1,c0,c5,by omega⟩)
  simp only[go_sem,t7]
def D7(n k i:Nat):List Int:=(List.range k).map fun j=>if j<i then 0 else((n / 1000000000^j%1000000000:Nat):Int)
theorem Ol(n k i:Nat):(D7 n k i).length=k:=by simp[D7]
theorem ahT(n k:Nat):D7 n k k=List.replicate k 0:=by
 refine yS (by simp[D7]) fun j E G=>?_
 simp only[D7,xg,uZ,List.getElem_replicate];rw[sH (by simpa[D7]using E)]
theorem aeR(n k:Nat):D7 n k 0=pad n k:=by
 refine yS (by simp[D7,pad]) fun j E G=>?_
 simp[D7,pad]
theorem Om{n k i:Nat}(E:i<k):(D7 n k (i+1)).set i ((n / 1000000000^i%1000000000:Nat):Int)=D7 n k i:=by
 refine yS (by simp[D7]) fun j G J=>?_
 rw[wF];simp only[D7,xg,uZ]
 by_cases e:i=j
 .subst e;simp
 .rw[sJ e]
  by_cases h:j<i
  .rw[sH (by omega),sH h]
  .rw[sJ (by omega),sJ h]
theorem QJ{n k i:Nat}(h:i<k)(E:n / 1000000000^i%1000000000=0):D7 n k (i+1)=D7 n k i:=by
 rw[<- Om h,E];refine yS (by simp[D7]) fun j G J=>?_
 rw[wF]
 by_cases e:i=j
 .subst e
  rw[sH rfl];simp only[D7,xg,uZ];rw[sH (by omega)];rfl
 .rw[sJ e]
theorem asX(xs:List Int)(k:Nat)(v:Int):(xs.flatMap cI).set k (I v)=(xs.set k v).flatMap cI:=by
 induction xs generalizing k with
 |nil=>rfl
 |cons x xs E=>
  cases k with
  |zero=>rfl
  |succ k=>show I x :: (xs.flatMap cI).set k (I v)=_;rw[E];rfl
theorem ayf(n:Nat):rep n [V.sc (.int .i64 0)]=(List.replicate n (0:Int)).flatMap cI:=by
 induction n with
 |zero=>rfl
 |succ n E=>rw[fM,E,xO];rfl
theorem aa_{σ:Store}{b:Nat}{xs:List Int}{w:Bool}(h:σ b=some ⟨xs.flatMap cI,1,w⟩){n:Nat}(hn:xs.length=n)(d:Nat):strip σ (d+1) (.rs b 0 n)=some (LI xs,[b]):=by
 rw[aQ,h];simp only[zi,yQ,yX,yY,qL];rw[sH (by omega),zl (by rw[qL];omega),aW (fun x=>by rw[ah,aP,aX];rfl)];show some (V.ts _ n,[b])=_;rw[<- hn]
theorem ahU(a b i:Nat)(hb:b≠0):a / 1000000000^i%b=(a / 1000000000^(i+1)%b*1000000000+a / 1000000000^i%1000000000)%b/\a / b / 1000000000^i%1000000000=(a / 1000000000^(i+1)%b*1000000000+a / 1000000000^i%1000000000) / b:=by
 obtain⟨A,J⟩:∃A,A=a / 1000000000^(i+1):=⟨_,rfl⟩;obtain⟨D,G⟩:∃D,D=a / 1000000000^i%1000000000:=⟨_,rfl⟩;have h:=oL a i;rw[<- J,<- G]at h⊢;have Y:D<1000000000:=by rw[G];exact vJ _ (by decide)
 have O:a / b / 1000000000^i=a / 1000000000^i / b:=by rw[wW,wW,wB]
 rw[O,<- h];have hA:A=b*(A / b)+A%b:=(Nat.div_add_mod A b).symm;obtain⟨q,eq⟩:∃q,q=A / b:=⟨_,rfl⟩;obtain⟨r,E⟩:∃r,r=A%b:=⟨_,rfl⟩;rw[<- eq,<- E]at hA;rw[<- E];have hr:r<b:=by rw[E];exact vJ _ (by omega)
 have S:A*1000000000+D=r*1000000000+D+b*(q*1000000000):=by
  rw[hA,uz,uj];omega
 rw[S];constructor
 .rw[Nat.add_mul_mod_self_left]
 .rw[Nat.add_mul_div_left _ _ (by omega:0<b),Nat.add_mul_mod_self_right]
  refine vw ?_;rw[uK (by omega)];have:(r+1)*1000000000<=b*1000000000:=zL _ (by omega);omega
theorem Xv(a b:Nat)(h0:b≠0)(la:ln a<=1000)(lb:ln b<=1000):fn ZL conv ext 278 [LI (dg a),LI (dg b)]=some (.AB [LI (dg (a / b)),LI (dg (a%b))]):=by
 have hb:=jU h0
 by_cases b3:b<1000000000
 .have h1:=aj2 a b (by show ln a<=_;omega) h0 b3
  have hr:a%b<b:=vJ _ (by omega);have h2:=M_ (a%b) (by omega);have z1:(0:Int)<1:=by decide
  have z3:(0:Int).toNat=0:=id rfl;have hd:dg b=[(b:Int)]:=by rw[oM h0,uh b3,oJ,vw b3]
  rw[hd];rw[m_,mg [.tmp 4,.tmp 5] [] func278];simp only[go_sem,z1,z3,h1,h2]
 have c4:2<=ln b:=by
  refine zf fun hn=>?_
  have:=(jZ (n:=b) (k:=1)).mp (by omega);have e:bp 1=1000000000:=rfl;omega
 have c5:((dg b).length:Int)≠1:=by unfold ln at c4;omega
 have c0:(((dg b).length:Int)==1)=false:=by simpa using c5
 obtain⟨N,eN⟩:∃N,N=ln a:=⟨_,rfl⟩;have hN:(dg a).length=N:=by rw[eN];rfl
 have e1:=jD N;have e2:8*(N:Int)<=281474976710656:=by omega
 have e3:(N:Int)<=9223372036854775807:=by omega
 have w1:=ZT (n:=(N:Int) - 1);have rz:=ayf N;rw[<- ahT (a / b) N]at rz;rw[m_,mg [.tmp 4,.tmp 5] [] func278];simp only[go_sem,c0,hN,e1,e2,e3,w1,rz,xA];generalize hL:dI _ _=y;obtain⟨x,rfl,T,σ,nx,rfl,t8,t9,hs⟩:=jQ hL (fun i st=>i<=N/\st.T 0=LI (dg a)/\st.T 1=LI (dg b)/\st.T 8= .rs 0 0 N/\st.T 10=I ((i:Int) - 1)/\0<st.nx/\(st.T 9=LI (dg (a / 1000000000^i%b))\/(st.T 9= .nil/\a / 1000000000^i%b=0))/\st.σ 0=some ⟨(D7 (a / b) N i).flatMap cI,1,true⟩)
  (fun x=>∃T σ nx,x=(.exit 0,⟨T,σ,nx⟩)/\T 8= .rs 0 0 N/\(T 9=LI (dg (a%b))\/(T 9= .nil/\a%b=0))/\σ 0=some ⟨(D7 (a / b) N 0).flatMap cI,1,true⟩) (by
   clear hL;rintro i ⟨T,σ,nx⟩ ⟨hi,t0,t1,t8,t10,c6,t9,hs⟩;simp only at t0 t1 t8 t10 c6 t9 hs;cases i with
   |zero=>
    have g1:¬(0:Int)<=((0:Nat):Int) - 1:=by omega
    refine .inr ⟨_,by simp only[go_sem,t10,g1];rfl,by simp,_,_,_,rfl,by simp only[go_sem,t8],?_,hs⟩;have e:a / 1000000000^0%b=a%b:=by rw[Nat.pow_zero,wV]
    rw[e]at t9
    simpa only[go_sem]using t9
   |succ i=>
    have e4:((i+1:Nat):Int) - 1=(i:Int):=by omega
    rw[e4]at t10;have g1:=jD i;have g2:(i:Int)<(N:Int):=by omega
    have g3:i<N:=by omega
    have b8:i<(dg a).length:=by omega
    have g4:((dg a).flatMap cI)[i]?=some (I ((a / 1000000000^i%1000000000:Nat):Int)):=by
     rw[idx (xs:=dg a) (k:=i) b8,oQ b8]
    have g5:(dg a).flatMap cI≠[]:=fun e=>by have h:=qL (dg a);rw[e]at h;have h:0=(dg a).length:=h;omega
    have g6:=ZT (n:=(i:Int) - 1);obtain⟨G,J⟩:=ahU a b i h0;obtain⟨r,er⟩:∃r,r=a / 1000000000^(i+1)%b:=⟨_,rfl⟩;obtain⟨D,eD⟩:∃D,D=a / 1000000000^i%1000000000:=⟨_,rfl⟩;rw[<- er,<- eD]at G J;rw[<- er]at t9;rw[<- eD]at g4;have hD:D<1000000000:=by rw[eD];exact vJ _ (by decide)
    have e0:r<b:=by rw[er];exact vJ _ (by omega)
    obtain⟨R,eR⟩:∃R,R=r*1000000000+D:=⟨_,rfl⟩;rw[<- eR]at G J;have b4:ln r<=1000:=zU (jY (by omega)) lb;have e5:ln R<=1001:=by
     rw[jZ];have h1:=(jZ (n:=r) (k:=1000)).mp b4;have h2:bp 1001=1000000000*bp 1000:=qU 1000;omega
    have hR:R<b*1000000000:=by
     have:(r+1)*1000000000<=b*1000000000:=zL _ (by omega);omega
    have k3:=Ws R b (by show ln R<=_;omega) (by show ln b<=_;omega);have O:=alq R b;have tr:Ba ((D:Int) :: dg r)=dg R:=CG (Dg.app (xs:=[(D:Int)]) (fun x hx=>by rw[w_]at hx;omega) (oU r)) (by
     show(D:Int)+1000000000*vl (dg r)=(R:Int);rw[Ze];omega)
    have sh:Short ((D:Int) :: dg r):=by unfold Short;rw[zH];unfold ln at b4;omega
    have k2:=b_ ((D:Int) :: dg r) sh;rw[tr]at k2;have sg:b<=R->fn ZL conv ext 293 [LI (dg R),LI (dg b)]=some (I ((R / b:Nat):Int))/\fn ZL conv ext 250 [I ((R / b:Nat):Int)]=some (LI (dg (R / b)))/\fn ZL conv ext 197 [LI (dg b),LI (dg (R / b))]=some (LI (dg (b*(R / b))))/\fn ZL conv ext 291 [LI (dg R),LI (dg (b*(R / b)))]=some (LI (dg (R-b*(R / b)))):=fun hle=>by
     have hq:R / b<1000000000:=by rw[uK (by omega),wB];exact hR
     have lq:=jT hq;exact⟨alr R b (by omega) hle hR (by omega),M_ _ (by omega),dN b _ (by omega) (by omega),Wu R _ (by omega) (by rw[wB];exact tC _ _)⟩
    have a8:R-b*(R / b)=R%b:=by have:=Nat.div_add_mod R b;omega
    have nz:¬0=nx:=by omega
    have b9:¬0=nx+1:=by omega
    by_cases Y:T 9= .nil\/r=0
    ·-- nothing stands behind the limb
     have b5:r=0:=by
      rcases Y with h|h
      .rcases t9 with h'|⟨_,h'⟩
       .rw[h]at h';cases h'
       .exact h'
      .exact h
     have d0:dg r=[]:=by rw[b5,oJ]
     rw[d0]at k2;have c2:fn ZL conv ext 249 [.ts [I (D:Int)] 1]=some (LI (dg R)):=k2
     have S:T 9= .nil\/T 9= .ts [] 0:=by
      rcases t9 with h|h
      .right;rw[h,d0];rfl
      .exact .inl h.1
     have ha:Ag (upd σ nx (some ⟨[I (D:Int)],1,true⟩)) (nx+1) 1 8 (.rs nx 0 1) [] 0=some (.rs nx 0 1,upd σ nx (some ⟨[I (D:Int)],1,true⟩),nx+1):=by
      have e:(upd σ nx (some ⟨[I (D:Int)],1,true⟩)) nx=some ⟨[I (D:Int)],1,true⟩:=Zk _ _ _;unfold Ag;simp only[e,if_true]
     have bh:behind (upd σ nx (some ⟨[I (D:Int)],1,true⟩)) [nx] (LI (dg R)) 0=some ⟨(D7 (a / b) N (i+1)).flatMap cI,1,true⟩:=by
      rw[Js (by simp;omega),Zl _ _ nz];exact hs
     obtain⟨c3,e3⟩:∃c3,c3=behind (upd σ nx (some ⟨[I (D:Int)],1,true⟩)) [nx] (LI (dg R)):=⟨_,rfl⟩;rw[<- e3]at bh
     by_cases E:R<b
     .have c1:AY R b<0:=O.mpr E
      have b6:R%b=R:=vw E;have b7:R / b=0:=uh E;rw[b6]at G;rw[b7]at J;rcases S with S|S
      all_goals
       refine .inl ⟨_,by simp only[go_sem,t0,t1,t8,t10,S,g1,g2,g3,g4,g5,g6,hN,ha,c2,<- e3,k3,c1,nz,b9,ig];rfl,i,by omega,?_⟩;simp only[go_sem,t0,t1,t8];refine⟨by omega,by omega,.inl (by rw[G]),?_⟩;rw[<- QJ (by omega) J];exact bh
     .have c1:¬AY R b<0:=fun h=>E (O.mp h)
      obtain⟨k4,k5,k6,k7⟩:=sg (by omega);rw[a8,<- G]at k7;have w8:((D7 (a / b) N (i+1)).flatMap cI).length=N:=by rw[qL,Ol]
      have a1:((D7 (a / b) N (i+1)).flatMap cI).set i (I ((R / b:Nat):Int))=(D7 (a / b) N i).flatMap cI:=by
       rw[asX,<- J,Om (by omega)]
      rcases S with S|S
      all_goals
       refine .inl ⟨_,by simp only[go_sem,t0,t1,t8,t10,S,g1,g2,g3,g4,g5,g6,hN,ha,c2,<- e3,k3,c1,k4,k5,k6,k7,bh,w8,a1,nz,b9,ig];rfl,i,by omega,?_⟩;simp only[go_sem,t0,t1,t8];exact⟨by omega,by omega,.inl trivial⟩
    .have S:T 9=LI (dg r):=by
      rcases t9 with h|⟨h,_⟩
      .exact h
      .exact absurd (.inl h) Y
     have b5:¬r=0:=fun h=>Y (.inr h)
     have c7:¬(dg r).length=0:=fun h=>by
      have:=jU b5;unfold ln at this;omega
     have c9:(dg r).length<=1000:=b4;have ha:=rC (σ:=upd σ nx (some ⟨[I (D:Int)],1,true⟩)) (nx:=nx+1) (bytes:=8) (b:=nx) (len:=1) (m:=(dg r).length) (B:=⟨[I (D:Int)],1,true⟩) (row:=(dg r).flatMap cI) (Zk _ _ _) rfl rfl c7 (by unfold maxLen;omega) (by omega) (qM _);obtain⟨a6,e1⟩:∃a6,a6=upd (upd (upd σ nx (some ⟨[I (D:Int)],1,true⟩)) nx none) (nx+1) (some ⟨[I (D:Int)]++(dg r).flatMap cI,1,true⟩):=⟨_,rfl⟩;rw[<- e1]at ha;have b1:a6 (nx+1)=some ⟨((D:Int) :: dg r).flatMap cI,1,true⟩:=by rw[e1,Zk];rfl
     have b0:a6 0=some ⟨(D7 (a / b) N (i+1)).flatMap cI,1,true⟩:=by rw[e1,Zm,Zm,Zm];exact hs
     have s1:=fun d=>aa_ b1 (n:=1+(dg r).length) (by rw[zH];omega) d
     have tk:((dg r).flatMap cI).take (dg r).length=(dg r).flatMap cI:=zl (by rw[qL];omega);have a7:(dg r).length<=((dg r).flatMap cI).length:=by rw[qL];omega
     obtain⟨σ2,e2⟩:∃σ2,σ2=behind a6 [nx+1] (LI (dg R)):=⟨_,rfl⟩;have b2:σ2 0=some ⟨(D7 (a / b) N (i+1)).flatMap cI,1,true⟩:=by
      rw[e2,Js (by simp)];exact b0
     by_cases E:R<b
     .have c1:AY R b<0:=O.mpr E
      have b6:R%b=R:=vw E;have b7:R / b=0:=uh E;rw[b6]at G;rw[b7]at J;refine .inl ⟨_,by simp only[go_sem,t0,t1,t8,t10,S,g1,g2,g3,g4,g5,g6,hN,tk,a7,ha,s1,k2,<- e2,k3,c1];rfl,i,by omega,?_⟩;simp only[go_sem,t0,t1,t8];refine⟨by omega,by omega,.inl (by rw[G]),?_⟩;rw[<- QJ (by omega) J];exact b2
     .have c1:¬AY R b<0:=fun h=>E (O.mp h)
      obtain⟨k4,k5,k6,k7⟩:=sg (by omega);rw[a8,<- G]at k7;have w8:((D7 (a / b) N (i+1)).flatMap cI).length=N:=by rw[qL,Ol]
      have a1:((D7 (a / b) N (i+1)).flatMap cI).set i (I ((R / b:Nat):Int))=(D7 (a / b) N i).flatMap cI:=by
       rw[asX,<- J,Om (by omega)]
      refine .inl ⟨_,by simp only[go_sem,t0,t1,t8,t10,S,g1,g2,g3,g4,g5,g6,hN,tk,a7,ha,s1,k2,<- e2,k3,c1,k4,k5,k6,k7,b2,w8,a1];rfl,i,by omega,?_⟩;simp only[go_sem,t0,t1,t8];exact⟨by omega,by omega,.inl trivial⟩) N (by
   simp only[go_sem];refine .inr ?_;have:a<1000000000^N:=by
    have:=(jZ (n:=a) (k:=N)).mp (by omega);rw[qW]at this;omega
   rw[uh this,Nat.zero_mod])
 have s8:=fun d=>aa_ hs (n:=N) (Ol _ _ _) d
 rw[aeR]at s8;have k9:=b_ (pad (a / b) N) (by unfold Short;rw[iM];omega);have c8:a / b<1000000000^N:=by
  have:=(jZ (n:=a) (k:=N)).mp (by omega);rw[qW]at this;have:=wo a b;omega
 rw[Ip N (a / b) c8]at k9;rcases t9 with t9|⟨t9,S⟩
 .simp only[go_sem,t8,t9,s8,k9]
 .rw[S,oJ]
  simp only[go_sem,t8,t9,s8,k9];rfl
theorem Ua{σ:Store}{ids:List Nat}{t:V}{b:Nat}{c:List V}{st:Nat}{wr:Bool}(h:σ b=some ⟨c,st,wr⟩):∃E,behind σ ids t b=some ⟨c,st,E⟩:=by
 have J:∀(ids:List Nat) {σ:Store} {wr:Bool},σ b=some ⟨c,st,wr⟩->∃E,Dl σ ids b=some ⟨c,st,E⟩:=by
  intro ids
  induction ids with
  |nil=>intro σ wr h;exact⟨wr,h⟩
  |cons i ids G=>
   intro σ wr h;unfold Dl
   by_cases e:b=i
   .subst e
    exact G (σ:=upd σ b ((σ b).map fun B=>{ B with wr:=false })) (wr:=false) (by rw[Zk,h];rfl)
   .exact G (wr:=wr) (by rw[Zl _ _ e];exact h)
 unfold behind
 split
 .exact⟨wr,h⟩
 .exact J ids h
def Rd(σ:Store)(v:V)(xs:List Int):Prop:=v=LI xs\/(v= .nil/\xs=[])\/∃b w,v= .rs b 0 xs.length/\σ b=some ⟨xs.flatMap cI,1,w⟩
theorem Rd.strip{σ:Store}{v:V}{xs:List Int}(h:Rd σ v xs):∃ids,∀d,TV.strip σ (d+1) v=some (LI xs,ids):=by
 rcases h with rfl|⟨rfl,rfl⟩|⟨b,w,rfl,h⟩
 .exact⟨[],fun d=>aK _ _ _ _⟩
 .exact⟨[],fun d=>aS _ _⟩
 .exact⟨[b],fun d=>aa_ h rfl d⟩
theorem Rd.len{P:Program}{σ:Store}{v:V}{xs:List Int}(h:Rd σ v xs){t:TypeId}(E:(vI P t).slice=true):Dz P t v=some (I xs.length):=by
 rcases h with rfl|⟨rfl,rfl⟩|⟨b,w,rfl,h⟩
 .exact Vj E
 .exact nU E
 .exact nT E
theorem Rd.behind{σ:Store}{v:V}{xs:List Int}(h:Rd σ v xs)(ids:List Nat)(t:V):Rd (TV.behind σ ids t) v xs:=by
 rcases h with h|h|⟨b,w,E,G⟩
 .exact .inl h
 .exact .inr (.inl h)
 .obtain⟨w',J⟩:=Ua (ids:=ids) (t:=t) G
  exact .inr (.inr ⟨b,w',E,J⟩)
theorem ahV(m n:Nat)(lm:ln m<=1000)(l2:ln n<=1000):fn ZL conv ext 235 [LI (dg m),LI (dg n)]=some (LI (dg (Nat.gcd m n))):=by
 obtain⟨G,eG⟩:∃G,G=Nat.gcd m n:=⟨_,rfl⟩;rw[<- eG];have hm:(dg m).length<=maxLen/\(dg m).length*8<=140737488355328:=by unfold ln at lm;unfold maxLen;omega
 have hn:(dg n).length<=maxLen/\(dg n).length*8<=140737488355328:=by unfold ln at l2;unfold maxLen;omega
 have z:∀k:Nat,(dg k).length=0↔k=0:=fun k=>by
  constructor
  .intro h
   refine zf fun h0=>?_
   have:=jU h0;unfold ln at this;omega
  .rintro rfl;rw[oJ];rfl
 rw[m_,mg [.tmp 4] [] func235];rcases (show(m=0/\n=0)\/(m=0/\¬n=0)\/(¬m=0/\n=0)\/(¬m=0/\¬n=0) by omega)with ⟨E,J⟩|⟨E,J⟩|⟨E,J⟩|⟨E,J⟩
 case' inl=>
  have dm:dg m=[]:=by rw[E,oJ]
  have dn:dg n=[]:=by rw[J,oJ]
  rw[dm,dn];simp only[go_sem]
 case' inr.inl=>
  have dm:dg m=[]:=by rw[E,oJ]
  have nn:¬(dg n).length=0:=fun h=>J ((z n).mp h)
  rw[dm];simp only[go_sem,nn,hn]
 case' inr.inr.inl=>
  have nm:¬(dg m).length=0:=fun h=>E ((z m).mp h)
  have dn:dg n=[]:=by rw[J,oJ]
  rw[dn];simp only[go_sem,nm,hm]
 case' inr.inr.inr=>
  have nm:¬(dg m).length=0:=fun h=>E ((z m).mp h)
  have nn:¬(dg n).length=0:=fun h=>J ((z n).mp h)
  simp only[go_sem,nm,hm,nn,hn]
 all_goals
  generalize hL:dI _ _=y;obtain⟨r,rfl,hr⟩:=jQ hL (fun k st=>∃x:Nat,Rd st.σ (st.T 5) (dg x)/\Rd st.σ (st.T 6) (dg k)/\Nat.gcd x k=G/\ln x<=1000/\ln k<=1000)
   (fun r=>∃T σ nx,(r=(.exit 0,⟨T,σ,nx⟩)/\Rd σ (T 5) (dg G))\/(r=(.ret,⟨T,σ,nx⟩)/\T 4=LI (dg G))) (by
    clear hL;rintro k ⟨T,σ,nx⟩ ⟨x,S,h6,hg,lx,lk⟩;simp only at S h6;have Y:=h6.len (P:=ZL) (t:=27) (by kernel_rfl);have l5:=S.len (P:=ZL) (t:=27) (by kernel_rfl)
    by_cases hk:k=0
    .subst hk
     rw[oJ]at Y;have c1:¬(0:Int)<(([]:List Int).length:Int):=by simp
     refine .inr ⟨_,by simp only[go_sem,Y,c1];rfl,by simp,_,_,_,.inl ⟨rfl,?_⟩⟩;rw[Nat.gcd_zero_right]at hg;rw[<- hg]
     simpa only[go_sem]using S
    .have c1:(0:Int)<((dg k).length:Int):=by have:=jU hk;unfold ln at this;omega
     obtain⟨i5,s5⟩:=S.strip;obtain⟨i6,s6⟩:=h6.strip
     by_cases O:ln x<3/\ln k<3
     .have c2:((dg x).length:Int)<3:=by have:=O.1;unfold ln at this;omega
      have c3:((dg k).length:Int)<3:=by have:=O.2;unfold ln at this;omega
      have b1:x<1000000000000000000:=by
       have:=(jZ (n:=x) (k:=2)).mp (by omega);have e:bp 2=1000000000000000000:=rfl;omega
      have b2:k<1000000000000000000:=by
       have:=(jZ (n:=k) (k:=2)).mp (by omega);have e:bp 2=1000000000000000000:=rfl;omega
      have t1:=P9 x b1;have t2:=P9 k b2;have t3:=ant x k (by omega) (by omega);rw[hg]at t3;refine .inr ⟨_,by simp only[go_sem,l5,Y,c1,c2,c3,s5,s6,t1,t2,t3];rfl,by simp,_,_,_,.inr ⟨rfl,by simp only[go_sem]⟩⟩
     .have t4:=Xv x k hk lx lk
      have a1:x%k<k:=vJ _ (by omega)
      have fin:∀T' σ' nx',T' 5=T 6->T' 6=LI (dg (x%k))->σ'=behind σ (i5++i6) (.AB [LI (dg (x / k)),LI (dg (x%k))]) ->
        ∃k',k'<k/\∃x':Nat,Rd (⟨T',σ',nx'⟩:St).σ ((⟨T',σ',nx'⟩:St).T 5) (dg x')/\Rd (⟨T',σ',nx'⟩:St).σ ((⟨T',σ',nx'⟩:St).T 6) (dg k')/\Nat.gcd x' k'=G/\ln x'<=1000/\ln k'<=1000:=fun T' σ' nx' e5 e6 a6=>by
       refine⟨x%k,a1,k,?_,.inl e6,?_,lk,zU (jY (by omega)) lk⟩
       .show Rd σ' (T' 5) (dg k)
        rw[e5,a6];exact h6.behind _ _
       .rw[<- hg,Nat.gcd_comm x k,Nat.gcd_rec k x,Nat.gcd_comm]
      by_cases c2:((dg x).length:Int)<3
      .have c3:¬((dg k).length:Int)<3:=fun h=>O ⟨by unfold ln;omega,by unfold ln;omega⟩
       refine .inl ⟨_,by simp only[go_sem,l5,Y,c1,c2,c3,s5,s6,t4];rfl,fin _ _ _ (by simp only[go_sem]) (by simp only[go_sem]) (by simp only[go_sem])⟩
      .refine .inl ⟨_,by simp only[go_sem,l5,Y,c1,c2,s5,s6,t4];rfl,fin _ _ _ (by simp only[go_sem]) (by simp only[go_sem]) (by simp only[go_sem])⟩) n (by
    refine⟨m,?_,?_,eG.symm,lm,l2⟩
    all_goals simp only[go_sem]
    all_goals first
     |exact .inr (.inl ⟨rfl,by assumption⟩)
     |exact .inr (.inr ⟨_,true,rfl,rfl⟩)
     |(refine .inr (.inr ⟨_,true,rfl,?_⟩);rw[Zm,Zk])
     |exact .inr (.inl ⟨rfl,by rw[E,oJ]⟩)
     |exact .inr (.inl ⟨rfl,by rw[J,oJ]⟩))
  rcases hr with ⟨T,σ,nx,⟨rfl,S⟩|⟨rfl,t4⟩⟩
  .obtain⟨ids,s5⟩:=S.strip
   simp only[go_sem,s5]
  .simp only[go_sem,t4]
theorem aa'(σ:Store)(b:Nat)(cells:List V)(st:Nat)(wr:Bool)(t:V):behind (upd σ b (some ⟨cells,st,wr⟩)) [b] t=upd σ b (some ⟨cells,st,wr && flat depth t⟩):=by
 unfold behind;cases E:flat depth t with
 |true=>simp
 |false=>
  simp only[List.isEmpty_cons,Bool.or_self,yJ,if_false,wS];unfold Dl Dl;rw[Zk,Zj];rfl
attribute [go_sem] aa'
def UL:V:=.AB [.ts [] 0,Bo false]
def Xw(s:Structure)(l:List Int)(r:V):Prop:=(¬(Aj s/\Ai s.joints.length l)/\r=UL)\/(Aj s/\Ai s.joints.length l/\((r=UL/\((EH s l).None\/(EH s l).Open)) \/
 ∃x:Nat->Rat,(EH s l).Best x/\(∀j,j<Cc s->Ln 24 (x j))/\r=CW (Gh (cols s s.members.length) ((List.range (Cc s)).map x) s.members.length (Cc s))))
theorem IV{s:Structure}(h:okStructure s){l:List Int}(hl:l.length<=maxLen):∃r,fn ZL pI Ad 58 [.agg (cStructure s),LI l]=some r/\Xw s l r:=by
 have G:=abQ s l h hl
 by_cases E:Aj s/\Ai s.joints.length l
 .obtain⟨J,S⟩:=E
  rw[iD J,iD S]at G;have hb:∀x∈l,-100<=x/\x<=100:=fun x hx=>kE (S.2 x hx)
  have k2:=Pn J.sg S.1 hb;obtain⟨r0,Y,hr⟩:=alk J hb;unfold CO at k2 Y;rw[m_,mg [.tmp 4,.tmp 5] [] func58];rcases hr with ⟨rfl,h3⟩|⟨x,h3,h4,rfl⟩
  .refine⟨_,by simp only[go_sem,G,k2,Y];rfl,.inr ⟨J,S,.inl ⟨rfl,h3⟩⟩⟩
  .obtain⟨O,eO⟩:∃O,O=Gh (cols s s.members.length) ((List.range (Cc s)).map x) s.members.length (Cc s):=⟨_,rfl⟩
   have a1:∀o∈O,LnO 24 o:=by
    rw[eO];exact T_ (fun y hy=>by
     obtain⟨j,hj,rfl⟩:=List.mem_map.mp hy;exact h4 j (List.mem_range.mp hj)) _
   have a6:O.length<=1000:=by rw[eO,lT];have:=J.2.1;omega
   have k4:=alo O a1 a6;rw[<- eO]at Y;refine⟨CW O,?_,.inr ⟨J,S,.inr ⟨x,h3,h4,by rw[eO]⟩⟩⟩;unfold CW at k4⊢;cases hq:BK O with
   |none=>rw[hq]at k4;simp only[go_sem,G,k2,Y,k4]
   |some qs=>rw[hq]at k4;simp only[go_sem,G,k2,Y,k4]
 .have hf:(pb (Aj s) && pb (Ai s.joints.length l))=false:=by
   by_cases a:Aj s
   .have:¬Ai s.joints.length l:=fun b=>E ⟨a,b⟩
    rw[iE this,wS]
   .rw[iE a,ug]
  rw[hf]at G;rw[m_,mg [.tmp 4,.tmp 5] [] func58];refine⟨_,by simp only[go_sem,G];rfl,.inl ⟨E,rfl⟩⟩
theorem jE{n:Nat}(h:ln n<=60):Cm (dg n) :=
 ⟨fun x E=>by have:=aav n x E;unfold inB;rw[sF this.1,sF this.2];rfl,h,Zu n⟩
theorem aoO(q:Rat)(h:Ln 24 q):fn ZL pI Ad 269 [.agg (cQ q)]=some (Bo true):=by
 have Y:(dg q.num.natAbs).length<=24:=h.1;have a1:(dg q.den).length<=24:=h.2;have E:=aea (decide (q.num<0)) (dg q.num.natAbs) (by unfold Short;omega);have G:(decide (q.num<0) && decide (dg q.num.natAbs=[]))=false:=by
  by_cases hz:q.num<0
  .rw[sD (oO (n:=q.num.natAbs) (by omega)),wS]
  .rw[sD hz];rfl
 rw[iD (jE (by have:=h.1;omega)),G]at E;have O:=agv (dg q.den) (by unfold Short;omega);rw[iD (jE (by have:=h.2;omega))]at O;have S:=WY q.num.natAbs q.den (by have:=h.1;omega) (by have:=h.2;omega);rw[show Nat.gcd q.num.natAbs q.den=1 from q.reduced,oN (d:=1) (by decide) (by decide)]at S;have k4:fn ZL conv ext 236 [.ts [I 1] 1,.ts [I 1] 1]=some (I 0):=by
  have:=arP 1 (by decide);rw[oN (d:=1) (by decide) (by decide)]at this;exact this
 have J:fn ZL pI Ad 265 [LI (dg q.num.natAbs),LI (dg q.den)]=some (.ts [I 1] 1):=S;have c0:(((dg q.den).length:Int)==0)=false:=by rw[sG];have:=qy (oO q.den_nz);omega
 have c1:¬(24:Int)<((dg q.num.natAbs).length:Int):=by omega
 have c2:¬(24:Int)<((dg q.den).length:Int):=by omega
 unfold cQ;rw[m_,mg [.tmp 2] [] func269];simp only[go_sem]at E;simp only[go_sem,E,O,J,k4,c0,c1,c2]
theorem asY(q:Rat)(h:Ln 24 q):fn ZL pI Ad 224 [.agg (cQ q)]=some (.tp (cQ q) 0):=by
 have E:=aoO q h;unfold cQ at E⊢;rw[m_,mg [.tmp 2] [] func224];simp only[go_sem,E]
theorem ahW(qs:List Rat){k:Nat}(h:k<qs.length):((qs.take k).flatMap cF++rep (qs.length-k) [V.sc (.pointer none)]).set k (.tp (cQ qs[k]) 0)=(qs.take (k+1)).flatMap cF++rep (qs.length - (k+1)) [V.sc (.pointer none)]:=by
 have E:((qs.take k).flatMap cF).length=k:=by rw[qN,zh];omega
 rw[xH _ _ (by omega),E,yP,show qs.length-k=qs.length - (k+1)+1 by omega,fM,aH h,zT,yj];rfl
theorem ahX(qs:List Rat){k:Nat}(h:k<qs.length):((qs.take (k+1)).flatMap cF++rep (qs.length - (k+1)) [V.sc (.pointer none)])[k]?=some (.tp (cQ qs[k]) 0):=by
 have E:k<(qs.take (k+1)).length:=by rw[zh];omega
 rw[zW (by rw[qN];exact E),qO _ E,uG]
theorem Xx(qs:List Rat){k:Nat}(h:k<=qs.length):((qs.take k).flatMap cF++rep (qs.length-k) [V.sc (.pointer none)]).length=qs.length:=by
 rw[zo,qN,fO,zh];simp;omega
theorem aeS(a b c:V)(q:Rat):patch [a,b,c] 0 (cQ q)=cQ q:=rfl
attribute [go_sem] aeS
theorem aoP(qs:List Rat)(hL:∀q∈qs,Ln 24 q)(hn:qs.length<=1000):fn ZL pI Ad 165 [LL cQ qs]=some (.AB [LL cF qs,Bo true]):=by
 have m1:(0:Int)<=(qs.length:Int):=by omega
 have m2:8*(qs.length:Int)<=281474976710656:=by omega
 have m3:(qs.length:Int)<=9223372036854775807:=by omega
 rw[m_,mg [.tmp 2,.tmp 3] [] func165];simp only[go_sem,m1,m2,m3];generalize J:dI _ _=y;obtain⟨x,rfl,T,σ,nx,rfl,t4,s0⟩:=oZ J qs.length (fun k st=>st.T 4= .rs 0 0 qs.length/\st.T 10=LL cQ qs/\st.T 11=I qs.length/\st.T 12=I k/\0<st.nx/\st.σ 0=some ⟨(qs.take k).flatMap cF++rep (qs.length-k) [V.sc (.pointer none)],1,true⟩)
  (fun x=>∃T σ nx,x=(.exit 0,⟨T,σ,nx⟩)/\T 4= .rs 0 0 qs.length/\σ 0=some ⟨qs.flatMap cF,1,true⟩) (by
   clear J;rintro k ⟨T,σ,nx⟩ E ⟨t4,t10,t11,t12,G,s0⟩;simp only at t4 t10 t11 t12 G s0;have g1:(k:Int)<(qs.length:Int):=by omega
   have g2:=jD k;have g3:=ZT (n:=(k:Int)+1);have g4:=d_ (c:=cQ) (s:=3) (fun _=>rfl) qs k E;have g5:=bg (c:=cQ) (s:=3) (fun _=>rfl) (by omega) qs k E;have g6:=QH qs;have g7:k*3+3<=qs.length*3:=by omega
   have O:=asY qs[k] (hL _ (zu E));have S:=ahW qs E;have Y:=ahX qs E;have p3:=Xx qs (k:=k) (by omega);have p4:=Xx qs (k:=k+1) (by omega);have d1:¬0=nx:=by omega
   have d2:¬nx=0:=by omega
   have d3:k+1<=qs.length:=E;obtain⟨q,eq⟩:∃q,q=qs[k]:=⟨_,rfl⟩;rw[<- eq]at g4 O S Y;have st1:∀σ d,stripL (strip σ d) (cQ q)=some (cQ q,[]):=fun σ d=>qF σ d q
   refine .inl ⟨_,by simp only[go_sem,t4,t10,t11,t12,s0,g1,g2,g3,g4,g5,g6,g7,E,O,S,Y,p3,p4,d1,d2,d3,st1];rfl,?_⟩;simp only[go_sem,t4,t10,t11,d1,d2];exact⟨rfl,by omega⟩) (by
   rintro ⟨T,σ,nx⟩ ⟨t4,t10,t11,t12,G,s0⟩;simp only at t4 t10 t11 t12 G s0;have g1:¬(qs.length:Int)<(qs.length:Int):=by omega
   refine⟨_,by simp only[go_sem,t11,t12,g1];rfl,by simp,_,_,_,rfl,?_⟩;simp only[go_sem,t4];have e:rep 0 [V.sc (.pointer none)]=[]:=rfl;rw[yg,yP,e,zC]at s0;exact s0) (by
   simp only[go_sem])
 have u1:qs.length<=(qs.flatMap cF).length:=by rw[qN];exact zq _
 have u2:(qs.flatMap cF).take qs.length=qs.flatMap cF:=zl (by rw[qN];exact zq _);have u3:=IQ σ 4 qs;simp only[go_sem,t4,s0,u1,u2,u3]
theorem je{s:Structure}(h:Aj s)(G:okStructure s){qs:List Rat}(J:qs.length=s.members.length)(O:∀q∈qs,Ln 24 q):fn ZL pI Ad 106 [.tp (cStructure s) 0,LL cQ qs]=some (.AB [LL cF qs,Bo true]):=by
 have S:=h.2.1;have E:=Io s G;rw[iD h]at E;have Y:=aoP qs O (by omega);have c0:((qs.length:Int) !=(s.members.length:Int))=false:=by rw[J];simp
 rw[m_,mg [.tmp 4,.tmp 5] [] func106];simp only[go_sem,E,Y,c0]
def sqQ(s:Structure)(q:Rat)(k:Nat):Option Rat:=F7 (F7 (some q) (some q)) (some ((vx s k*vx s k+vy s k*vy s k:Int):Rat))
theorem LQ{a b:Option Rat}:LnO 24 (F7 a b):=fun y h=>by
 cases a with
 |none=>cases h
 |some x=>cases b with
  |none=>cases h
  |some z=>exact acC h
theorem Ub{s:Structure}(h:SG s){qs:List Rat}(hl:qs.length=s.members.length)(hL:∀q∈qs,Ln 24 q){k:Nat}(G:k<qs.length) :
  fn ZL pI Ad 178 [.tp (cStructure s) 0,LL cF qs,I k]=some (pQ (sqQ s qs[k] k)):=by
 have k1:=TS h (k:=k) (by omega);have hb:=Zf h k;have a6:=h.nm;have g1:(k:Int)<(qs.length:Int):=by omega
 have g2:=jD k;have g4:=qO qs G;have g9:(qs.flatMap cF).length=qs.length:=qN qs;have J:qs.flatMap cF≠[]:=fun e=>by rw[e]at g9;have:qs.length=0:=g9.symm;omega
 have O:=hL _ (zu G);obtain⟨q,eq⟩:∃q,q=qs[k]:=⟨_,rfl⟩;rw[<- eq]at g4 O⊢;have x2:0<=vx s k*vx s k/\vx s k*vx s k<=10000:=by
  have h1:vx s k*vx s k=((vx s k).natAbs*(vx s k).natAbs:Nat):=by rw[vS]
  have h2:(vx s k).natAbs*(vx s k).natAbs<=100*100:=xq (by omega) (by omega);omega
 have y2:0<=vy s k*vy s k/\vy s k*vy s k<=10000:=by
  have h1:vy s k*vy s k=((vy s k).natAbs*(vy s k).natAbs:Nat):=by rw[vS]
  have h2:(vy s k).natAbs*(vy s k).natAbs<=100*100:=xq (by omega) (by omega);omega
 have w1:=ZT (n:=vx s k*vx s k);have w2:=ZT (n:=vy s k*vy s k);have w3:=ZT (n:=vx s k*vx s k+vy s k*vy s k);have k2:=jr (vx s k*vx s k+vy s k*vy s k) (by omega) (by omega);have k3:fn ZL pI Ad 169 [.tp (cQ q) 0,.tp (cQ q) 0]=some (pQ (F7 (some q) (some q))):=ald (a:=some q) (b:=some q) (fun z E=>by cases E;exact O.mono (by decide)) (fun z E=>by cases E;exact O.mono (by decide));have S:fn ZL pI Ad 169 [pQ (F7 (some q) (some q)),.tp (cQ ((vx s k*vx s k+vy s k*vy s k:Int):Rat)) 0]=some (pQ (sqQ s q k)) :=
  ald (b:=some ((vx s k*vx s k+vy s k*vy s k:Int):Rat)) (fun z E=>(LQ z E).mono (by decide)) (fun z E=>by cases E;exact(ru (by omega)).mono (by decide))
 have st1:∀σ d,strip σ d (pQ (F7 (some q) (some q)))=some (pQ (F7 (some q) (some q)),[]):=fun σ d=>by
  cases F7 (some q) (some q)with
  |none=>unfold pQ;rw[aP]
  |some z=>unfold pQ;rw[aN]
 have e1:(((vx s k*vx s k+vy s k*vy s k:Int):Rat))=((vx s k*vx s k+vy s k*vy s k:Int):Rat):=rfl;obtain⟨m1,Y⟩:∃m1,m1=pQ (F7 (some q) (some q)):=⟨_,rfl⟩;rw[<- Y]at k3 S st1;obtain⟨m2,a1⟩:∃m2,m2=cQ ((vx s k*vx s k+vy s k*vy s k:Int):Rat):=⟨_,rfl⟩;rw[<- a1]at k2 S;rw[m_,mg [.tmp 6] [] func178];simp only[go_sem,k1,g1,g2,g4,g9,J,G,w1,w2,w3,k2,k3,S,st1];exact Oj _ _
def G6(s:Structure)(qs:List Rat):List (Option Rat):=(List.range qs.length).map fun k=>sqQ s (qs.getD k 0) k
theorem bH(s:Structure)(qs:List Rat):(G6 s qs).length=qs.length:=by simp[G6]
theorem acE(s:Structure)(qs:List Rat){k:Nat}(h:k<qs.length):(G6 s qs)[k]'(by rw[bH];exact h)=sqQ s qs[k] k:=by
 simp[G6,zx,zy h]
def IW(O:List (Option Rat)):V:=match BK O with
 |some xs=> .AB [LL cF xs,Bo true]
 |none=> .AB [.ts [] 0,Bo false]
def IX(xs:List Rat)(n:Nat):List V:=xs.flatMap cF++rep (n-xs.length) [V.sc (.pointer none)]
theorem Xy(xs:List Rat){n:Nat}(h:xs.length<=n):(IX xs n).length=n:=by
 unfold IX;rw[zo,qN,fO];simp;omega
theorem ahZ(xs:List Rat){n:Nat}(h:xs.length<n)(q:Rat):(IX xs n).set xs.length (.tp (cQ q) 0)=IX (xs++[q]) n:=by
 unfold IX;rw[xH _ _ (by rw[qN];exact zq _),qN,yP,zo,yL,show n-xs.length=n - (xs.length+1)+1 by omega,fM,zT,yj];rfl
theorem ah0(xs:List Rat){n:Nat}(q:Rat):(IX (xs++[q]) n)[xs.length]?=some (.tp (cQ q) 0):=by
 unfold IX;rw[zW (by rw[qN];simp),qO _ (by simp)];simp
theorem Pq{s:Structure}(h:Aj s)(ho:okStructure s){qs:List Rat}(hl:qs.length=s.members.length)(hL:∀q∈qs,Ln 24 q) :
  fn ZL pI Ad 118 [.tp (cStructure s) 0,LL cQ qs]=some (IW (G6 s qs)):=by
 have a7:=h.2.1;have k1:=je h ho hl hL;have m1:(0:Int)<=(qs.length:Int):=by omega
 have m2:8*(qs.length:Int)<=281474976710656:=by omega
 have m3:(qs.length:Int)<=9223372036854775807:=by omega
 rw[m_,mg [.tmp 4,.tmp 5] [] func118];simp only[go_sem,k1,m1,m2,m3];generalize a1:dI _ _=y;obtain⟨x,rfl,hx⟩:=oZ a1 qs.length (fun k st=>st.T 0= .tp (cStructure s) 0/\st.T 6=LL cF qs/\st.T 8= .rs 0 0 qs.length/\st.T 22=I qs.length/\st.T 23=I k/\0<st.nx/\∃xs,BK ((G6 s qs).take k)=some xs/\st.σ 0=some ⟨IX xs qs.length,1,true⟩)
  (fun x=>∃T σ nx,(x=(.exit 0,⟨T,σ,nx⟩)/\T 8= .rs 0 0 qs.length/\∃xs,BK (G6 s qs)=some xs/\σ 0=some ⟨IX xs qs.length,1,true⟩)\/(x=(.ret,⟨T,σ,nx⟩)/\T 4= .nil/\T 5=Bo false/\BK (G6 s qs)=none)) (by
   clear a1;rintro k ⟨T,σ,nx⟩ Y ⟨t0,t6,t8,t22,t23,G,xs,E,s0⟩;simp only at t0 t6 t8 t22 t23 G s0;have g1:(k:Int)<(qs.length:Int):=by omega
   have g2:=jD k;have g3:=ZT (n:=(k:Int)+1);have a6:k<(G6 s qs).length:=by rw[bH];exact Y
   have J:xs.length=k:=by rw[dH E,zh];omega
   have O:(G6 s qs).take (k+1)=(G6 s qs).take k++[sqQ s qs[k] k]:=by rw[aH a6,acE s qs Y]
   have S:=Ub h.sg hl hL Y;have p1:=Xy xs (n:=qs.length) (by omega);have g5:k+1<=qs.length:=Y;cases hv:sqQ s qs[k] k with
   |none=>
    rw[hv]at S O;have S:fn ZL pI Ad 178 [.tp (cStructure s) 0,LL cF qs,I k]=some (.sc (.pointer none)):=S;have p3:((IX xs qs.length).set k (V.sc (.pointer none)))[k]?=some (V.sc (.pointer none)):=by
     rw[sZ (by omega)]
    have p4:((IX xs qs.length).set k (V.sc (.pointer none))).length=qs.length:=by rw[xu];exact p1
    refine .inr ⟨_,by simp only[go_sem,t0,t6,t8,t22,t23,s0,g1,g2,g5,Y,S,p1,p3,p4];rfl,by simp,_,_,_,.inr ⟨rfl,?_⟩⟩;simp only[go_sem];have:G6 s qs=(G6 s qs).take (k+1)++(G6 s qs).drop (k+1):=(wC _ _).symm;rw[this,O];refine dG ?_;rw[dF,E];rfl
   |some z=>
    rw[hv]at S O;have S:fn ZL pI Ad 178 [.tp (cStructure s) 0,LL cF qs,I k]=some (.tp (cQ z) 0):=S;have p2:=ahZ xs (n:=qs.length) (by omega) z;have p3:=ah0 xs (n:=qs.length) z;have p4:=Xy (xs++[z]) (n:=qs.length) (by simp;omega);rw[J]at p2 p3;refine .inl ⟨_,by simp only[go_sem,t0,t6,t8,t22,t23,s0,g1,g2,g3,g5,Y,S,p1,p2,p3,p4];rfl,?_⟩;simp only[go_sem,t0,t6,t8,t22];refine⟨rfl,G,xs++[z],?_,rfl⟩;rw[O,dF,E];rfl) (by
   rintro ⟨T,σ,nx⟩ ⟨t0,t6,t8,t22,t23,G,xs,E,s0⟩;simp only at t0 t6 t8 t22 t23 G s0;have g1:¬(qs.length:Int)<(qs.length:Int):=by omega
   refine⟨_,by simp only[go_sem,t22,t23,g1];rfl,by simp,_,_,_,.inl ⟨rfl,?_⟩⟩;simp only[go_sem,t8];rw[<- bH s qs,yg]at E;exact⟨xs,E,s0⟩) (by
   simp only[go_sem];refine⟨[],rfl,?_⟩;unfold IX;rfl)
 rcases hx with ⟨T,σ,nx,⟨rfl,t8,xs,E,s0⟩|⟨rfl,t4,t5,E⟩⟩
 .have J:xs.length=qs.length:=by rw[dH E,bH]
  have e1:IX xs qs.length=xs.flatMap cF:=by unfold IX;rw[J,yP];exact zC _
  rw[e1]at s0;have u1:qs.length<=(xs.flatMap cF).length:=by rw[qN];omega
  have u2:(xs.flatMap cF).take qs.length=xs.flatMap cF:=zl (by rw[qN];omega);have u3:=IQ σ 4 xs;unfold IW;rw[E];simp only[go_sem,t8,s0,u1,u2,u3];show some (V.AB [V.ts _ qs.length,_])=some (V.AB [V.ts _ xs.length,_]);rw[J]
 .unfold IW
  rw[E];simp only[go_sem,t4,t5]
theorem asZ(x y:Rat)(E:Ln 100 x)(G:Ln 100 y):fn ZL conv ext 119 [.tp (cQ x) 0,.tp (cQ y) 0]=some (I (Am (x.num*y.den) (y.num*x.den))):=by
 have Y:=jV E G;have n2:=jV G E;have J:=Iq x y.den (by have:=E.1;omega) (by have:=G.2;omega);have O:=Iq y x.den (by have:=G.1;omega) (by have:=E.2;omega);have S:=Qb (x.num*y.den) (y.num*x.den) (by omega) (by omega);unfold cQ at *;unfold cZ at *;rw[m_,mg [.tmp 4] [] func119];simp only[go_sem,J,O,S]
def Xz(x:Rat)(w:Int):Bool:=decide (0<Am (x.num*((w*w:Int):Rat).den) (((w*w:Int):Rat).num*x.den))
theorem Oo:∀ {l:List (Option Rat)} {xs:List Rat},BK l=some xs->∀x∈xs,some x∈l
 |[],xs,h,x,E=>by cases h;cases E
 |none :: l,_,h,_,_=>by cases h
 |some q :: l,xs,h,x,E=>by
  cases e:BK l with
  |none=>rw[show BK (some q :: l)=(BK l).map (q :: ·)from rfl,e]at h;cases h
  |some rs=>
   rw[show BK (some q :: l)=(BK l).map (q :: ·)from rfl,e]at h;cases h;rcases List.mem_cons.mp E with rfl|E
   .exact zM
   .exact zY _ (Oo e x E)
theorem ah1{s:Structure}{qs xs:List Rat}(h:BK (G6 s qs)=some xs):∀x∈xs,Ln 24 x:=fun x E=>by
 have:=Oo h x E;unfold G6 at this;obtain⟨k,-,e⟩:=List.mem_map.mp this;exact LQ x e
def DT(xs:List Rat)(w:List Int)(k:Nat):Bool:=Xz (xs.getD k 0) (w.getD k 0)
def overR(O:List (Option Rat))(w:List Int):V:=match BK O with
 |some xs=> .AB [LI (EY (DT xs w) xs.length),Bo true]
 |none=> .AB [.ts [] 0,Bo false]
theorem XA{s:Structure}(h:Aj s)(ho:okStructure s){qs:List Rat}(hl:qs.length=s.members.length)(hL:∀q∈qs,Ln 24 q){w:List Int}(hw:AZ s.members.length w) :
  fn ZL pI Ad 63 [.tp (cStructure s) 0,LL cQ qs,LI w]=some (overR (G6 s qs) w):=by
 have b2:=h.2.1;have O:=Pq h ho hl hL;have k2:=Kt (cStructure s) 0 s.members w rfl (by rw[hw.1];unfold maxLen;omega);rw[iD hw]at k2;unfold IW at O;unfold overR;rw[m_,mg [.tmp 6,.tmp 7] [] func63];cases hq:BK (G6 s qs)with
 |none=>
  rw[hq]at O;simp only[go_sem,O]
 |some xs=>
  rw[hq]at O;simp only[go_sem,O,k2];have b3:xs.length=s.members.length:=by rw[dH hq,bH,hl]
  generalize S:dI _ _=y;obtain⟨x,rfl,T,σ,nx,rfl,J⟩:=oZ S xs.length (fun k st=>st.T 2=LI w/\st.T 27=LL cF xs/\st.T 28=I xs.length/\st.T 29=I k/\Grow st.T st.σ st.nx 10 (EY (DT xs w) k))
   (fun x=>∃T σ nx,x=(.exit 0,⟨T,σ,nx⟩)/\Grow T σ nx 10 (EY (DT xs w) xs.length)) (by
    clear S;rintro k ⟨T,σ,nx⟩ Y ⟨t2,t27,t28,t29,J⟩;simp only at t2 t27 t28 t29 J;have g1:(k:Int)<(xs.length:Int):=by omega
    have g2:=jD k;have g3:=ZT (n:=(k:Int)+1);have g4:=qO xs Y;have g9:(xs.flatMap cF).length=xs.length:=qN xs;have a6:xs.flatMap cF≠[]:=fun e=>by rw[e]at g9;have:xs.length=0:=g9.symm;omega
    have G:k<w.length:=by rw[hw.1];omega
    have a7:=kE (hw.2 _ (zu G));have a1:=idx (xs:=w) (k:=k) G;have a2:=AU w k G;have a3:(k:Int)<(w.length:Int):=by omega
    have hx:=ah1 hq _ (zu Y);have E:DT xs w k=Xz xs[k] w[k]:=by
     unfold DT;rw[zx,zy Y,zx,zy G];rfl
    obtain⟨x,ex⟩:∃x,x=xs[k]:=⟨_,rfl⟩;obtain⟨v,ev⟩:∃v,v=w[k]:=⟨_,rfl⟩;rw[<- ex,<- ev]at E;rw[<- ex]at g4 hx;rw[<- ev]at a1 a7;have v2:0<=v*v/\v*v<=1000000:=by
     have h1:v*v=(v.natAbs*v.natAbs:Nat):=by rw[vS]
     have h2:v.natAbs*v.natAbs<=1000*1000:=xq (by omega) (by omega);omega
    have w1:=ZT (n:=v*v);have k3:=jr (v*v) (by omega) (by omega);have k4:=asZ x ((v*v:Int):Rat) (hx.mono (by decide)) ((ru (by omega)).mono (by decide));have hle:=Zp (DT xs w) k;unfold Xz at E;obtain⟨m2,a8⟩:∃m2,m2=cQ ((v*v:Int):Rat):=⟨_,rfl⟩;obtain⟨z,ez⟩:∃z,z=Am (x.num*((v*v:Int):Rat).den) (((v*v:Int):Rat).num*x.den):=⟨_,rfl⟩;rw[<- a8]at k3 k4;rw[<- ez]at k4 E
    by_cases hz:0<z
    .rw[sF hz]at E
     obtain⟨σ',ha,hs⟩:=kQ J (k:Int) (by omega);refine .inl ⟨_,by simp only[go_sem,t2,t27,t28,t29,g1,g2,g3,g4,g9,a6,Y,G,a1,a2,a3,w1,k3,k4,hz,ha];rfl,?_⟩;simp only[go_sem,t2,t27,t28];rw[Iu E];exact⟨rfl,kN hs (by simp[go_sem]) (by simp)⟩
    .rw[sD hz]at E
     refine .inl ⟨_,by simp only[go_sem,t2,t27,t28,t29,g1,g2,g3,g4,g9,a6,Y,G,a1,a2,a3,w1,k3,k4,hz];rfl,?_⟩;simp only[go_sem,t2,t27,t28];rw[Nc E];exact⟨rfl,kP (T:=T) (by simp only[go_sem]) J⟩) (by
    rintro ⟨T,σ,nx⟩ ⟨t2,t27,t28,t29,J⟩;simp only at t2 t27 t28 t29 J;exact⟨_,by simp only[go_sem,t28,t29,zk];rfl,by simp,_,_,_,rfl,kP (T:=T) (by simp only[go_sem]) J⟩) (by
    simp only[go_sem];exact .inl ⟨by simp only[go_sem],rfl⟩)
  obtain⟨ids,hs⟩:=kM J 5;simp only[go_sem,hs]
def DU(s:Structure)(qs:List Rat)(w:List Int):Bool:=match BK (G6 s qs)with
 |some xs=>decide ((EY (DT xs w) xs.length).length=0)
 |none=>false
theorem JM{s:Structure}(h:Aj s)(O:okStructure s){qs:List Rat}(S:qs.length=s.members.length)(Y:∀q∈qs,Ln 24 q){w:List Int}(hw:AZ s.members.length w) :
  fn ZL pI Ad 17 [.agg (cStructure s),LL cQ qs,LI w]=some (Bo (DU s qs w)):=by
 have E:=XA h O S Y hw;unfold overR at E;unfold DU;rw[m_,mg [.tmp 6] [] func17];cases J:BK (G6 s qs)with
 |none=>
  rw[J]at E;simp only[go_sem,E]
 |some xs=>
  rw[J]at E
  by_cases G:(EY (DT xs w) xs.length).length=0
  .have e:(((EY (DT xs w) xs.length).length:Int)==0)=true:=by rw[G];rfl
   simp only[go_sem,E,e,sF G]
  .have e:(((EY (DT xs w) xs.length).length:Int)==0)=false:=by rw[sG];omega
   simp only[go_sem,E,e,sD G]
def ah2(s:Structure)(l w:List Int)(r:V):Prop :=
 (∃qs,qs.length=s.members.length/\(∀q∈qs,Ln 24 q)/\Xw s l (.AB [LL cQ qs,Bo true])/\DU s qs w=true/\r= .AB [LL cQ qs,Bo true]) \/
 (r=UL/\(Xw s l UL\/∃qs,qs.length=s.members.length/\(∀q∈qs,Ln 24 q)/\Xw s l (.AB [LL cQ qs,Bo true])/\DU s qs w=false))
theorem Oq{s:Structure}(h:Aj s)(ho:okStructure s){l w:List Int}(hl:Ai s.joints.length l)(hw:AZ s.members.length w) :
  ∃r,fn ZL pI Ad 14 [.agg (cStructure s),LI l,LI w]=some r/\ah2 s l w r:=by
 have Pj:=h.1;obtain⟨r,O,hr⟩:=IV ho (l:=l) (by rw[hl.1];unfold maxLen;omega);have no:r=UL->∃r,fn ZL pI Ad 14 [.agg (cStructure s),LI l,LI w]=some r/\ah2 s l w r:=fun e=>by
  subst e;have a1:fn ZL pI Ad 58 [.agg (cStructure s),LI l]=some (.AB [.ts [] 0,Bo false]):=O;refine⟨UL,?_,.inr ⟨rfl,.inl hr⟩⟩;unfold UL;rw[m_,mg [.tmp 6,.tmp 7] [] func14];simp only[go_sem,a1]
 rcases hr with ⟨_,e⟩|⟨h1,h2,⟨e,_⟩|⟨x,hb,hx,e⟩⟩
 .exact no e
 .exact no e
 .cases S:BK (Gh (cols s s.members.length) ((List.range (Cc s)).map x) s.members.length (Cc s))with
  |none=>exact no (by rw[e];unfold CW;rw[S];rfl)
  |some qs=>
   have e2:r= .AB [LL cQ qs,Bo true]:=by rw[e];unfold CW;rw[S]
   have G:qs.length=s.members.length:=by rw[dH S,lT]
   have J:∀q∈qs,Ln 24 q:=fun q hm=>T_ (fun y hy=>by
    obtain⟨j,hj,rfl⟩:=List.mem_map.mp hy;exact hx j (List.mem_range.mp hj)) _ _ (Oo S q hm) q rfl
   have hD:Xw s l (.AB [LL cQ qs,Bo true]):=by
    rw[<- e2];exact .inr ⟨h1,h2,.inr ⟨x,hb,hx,e⟩⟩
   rw[e2]at O;have Y:=JM h ho G J hw;cases E:DU s qs w with
   |true=>
    rw[E]at Y;refine⟨.AB [LL cQ qs,Bo true],?_,.inl ⟨qs,G,J,hD,E,rfl⟩⟩;rw[m_,mg [.tmp 6,.tmp 7] [] func14];simp only[go_sem,O,Y]
   |false=>
    rw[E]at Y;refine⟨UL,?_,.inr ⟨rfl,.inr ⟨qs,G,J,hD,E⟩⟩⟩;unfold UL;rw[m_,mg [.tmp 6,.tmp 7] [] func14];simp only[go_sem,O,Y]
theorem alu{s:Structure}(h:Aj s)(J:okStructure s){l w:List Int}(O:Ai s.joints.length l)(hw:AZ s.members.length w) :
  ∃b r,fn ZL pI Ad 18 [.agg (cStructure s),LI l,LI w]=some (Bo b)/\ah2 s l w r/\(b=true↔r≠UL):=by
 obtain⟨r,E,S⟩:=Oq h J O hw;rcases S with ⟨qs,G,a2,a3,a4,rfl⟩|⟨rfl,G⟩
 .refine⟨true,_,?_,.inl ⟨qs,G,a2,a3,a4,rfl⟩,⟨fun _ e=>?_,fun _=>rfl⟩⟩
  .rw[m_,mg [.tmp 6] [] func18]
   simp only[go_sem,E]
  .unfold UL at e
   injection e with e
   injection e with _ e
   injection e with e _
   cases e
 .refine⟨false,_,?_,.inr ⟨rfl,G⟩,⟨fun e=>by(cases e),fun e=>absurd rfl e⟩⟩
  unfold UL at E;rw[m_,mg [.tmp 6] [] func18];simp only[go_sem,E]
theorem ay{f:V->Option (V×List Nat)}:∀ {a b E G:List V} {J O:List Nat},stripL f a=some (E,J)->stripL f b=some (G,O)->stripL f (a++b)=some (E++G,J++O)
 |[],b,E,G,J,O,h1,h2=>by
  rw[aX]at h1;cases h1;exact h2
 |v :: a,b,E,G,J,O,h1,h2=>by
  rw[ah]at h1;cases S:f v with
  |none=>rw[S]at h1;cases h1
  |some p=>
   cases Y:stripL f a with
   |none=>rw[S,Y]at h1;cases h1
   |some q=>
    rw[S,Y]at h1;have ih:=ay Y h2;rw[yT,ah,S,ih];simp only[zi,zG,sO,sN]at h1⊢;obtain⟨rfl,rfl⟩:=h1;exact⟨rfl,by rw[yj]⟩
theorem r_{σ:Store}{nx size bytes b len m:Nat}{cells row:List V}(hb:σ b=some ⟨cells,size,true⟩)(O:len*size=cells.length)(hs:0<size)(hm:m≠0)(E:len+m<=maxLen)(G:(len+m)*bytes<=140737488355328)(J:row.all qI=true) :
  Ag σ nx size bytes (.rs b 0 len) row m=some (.rs nx 0 (len+m),upd (upd σ b none) nx (some ⟨cells++row,size,true⟩),nx+1):=by
 rw[qw,hb];simp only[zi];have S:size<=m*size:=sW _ (by omega);rw[sJ hm,sJ (by rw[uz];omega),sH ⟨by omega,trivial,E,G,J⟩];rfl
end Go.Proofs.YtkpdoehbhmipcaaGreat
namespace Go.Proofs.YtkpdoehbhmipcaaGreat
open Go Go.TV
abbrev aoQ:List Nat:=[3,4,5,6,9,11,12,19,24,30,37,38,43,51,52,79,80,87,100,101,157,214]
abbrev aoR:List Nat:=[54,53,22,69,29,78,134,135,23,70,140,141,83,89,32,90,41,33]
def Du:FuncId->Conv:=fun f=>if f∈([19,9,11,54,100,79,30,87,38,215,64]:List Nat)then .own else if f∈([214,80,37,43,22,69,29,78,134,135,23,70,140,141,83,89,32,90,41,33]:List Nat)then .inl else .KH
noncomputable def EZ:Ext:=fun f=>if f=215 then some (Fq)else if f=64 then some (Hq 4)else if f∈aoQ then none else if f∈aoR then some (fun args σ nx=>ev ZL Bg Nb f args σ nx)else some fun args σ nx=>ev ZL pI Ad f args σ nx
theorem extSOk:Ia ZL EZ:=fun f g h args σ nx v σ' nx' J=>by
 unfold EZ at h
 by_cases E:f=215
 .subst E
  rw[sH rfl]at h;cases h;exact pO args σ nx v σ' nx' J
 have n215:=E
 by_cases G:f=64
 .subst G
  rw[sJ (by decide),sH rfl]at h;cases h;exact TU args σ nx v σ' nx' J
 have O:=G;simp only[n215,O,if_false]at h
 split at h
 .cases h
 .split at h
  .cases h
   exact mY (by kernel_rfl) anF f args σ nx v σ' nx' J
  .cases h
   exact mY (by kernel_rfl) an4 f args σ nx v σ' nx' J
theorem fnS{f:FuncId}(h:List.contains ([215,64]++aoQ++aoR) f=false)(ts:List V):fn ZL Du EZ f ts=fn ZL pI Ad f ts:=by
 have hn:¬f∈([215,64]++aoQ++aoR:List Nat):=fun e=>by rw[List.contains_iff_mem.mpr e]at h;cases h
 simp only[wP,not_or]at hn;have E:=hn.1.1;simp only[zV,yc,or_false,not_or]at E;rw[m_,m_,mZ (g:=fun args σ nx=>ev ZL pI Ad f args σ nx) (by unfold EZ;simp only[E,if_false];rw[sJ hn.1.2,sJ hn.2])]
theorem aoS(args:List V)(σ:Store)(nx:Nat):ev ZL Du EZ 54 args σ nx=ev ZL Bg Nb 54 args σ nx:=mZ (g:=fun args σ nx=>ev ZL Bg Nb 54 args σ nx) rfl args σ nx
theorem ah3(args:List V)(σ:Store)(nx:Nat):ev ZL Du EZ 53 args σ nx=ev ZL Bg Nb 53 args σ nx:=mZ (g:=fun args σ nx=>ev ZL Bg Nb 53 args σ nx) rfl args σ nx
theorem aoT(ts:List V):fn ZL Du EZ 53 ts=fn ZL Bg Nb 53 ts:=by rw[m_,m_,ah3]
theorem alv(args:List V)(σ:Store)(nx:Nat):ev ZL Du EZ 215 args σ nx=(Fq) args σ nx:=mZ (g:=(Fq)) rfl args σ nx
theorem aoU(args:List V)(σ:Store)(nx:Nat):ev ZL Du EZ 64 args σ nx=(Hq 4) args σ nx:=mZ (g:=(Hq 4)) rfl args σ nx
abbrev iI(n:Nat):Prop:=∀ts:List V,fn ZL Du EZ n ts=fn ZL pI Ad n ts
theorem aoV:iI 7/\iI 8/\iI 10/\iI 13/\iI 14/\iI 15/\iI 16/\iI 17/\iI 18/\iI 45/\iI 46/\iI 47/\iI 48/\iI 49/\iI 50/\iI 55/\iI 56/\iI 57/\iI 58/\iI 59/\iI 60/\iI 61/\iI 62/\iI 63:=by and_intros<;>exact fnS rfl
theorem aoW:iI 65/\iI 76/\iI 92/\iI 93/\iI 94/\iI 95/\iI 96/\iI 97/\iI 98/\iI 99/\iI 102/\iI 103/\iI 104/\iI 105/\iI 106/\iI 107/\iI 108/\iI 109/\iI 110/\iI 111/\iI 112/\iI 113/\iI 114/\iI 115:=by and_intros<;>exact fnS rfl
theorem aoX:iI 116/\iI 117/\iI 118/\iI 119/\iI 120/\iI 128/\iI 129/\iI 130/\iI 131/\iI 132/\iI 133/\iI 137/\iI 144/\iI 149/\iI 150/\iI 151/\iI 152/\iI 153/\iI 154/\iI 155/\iI 156/\iI 158/\iI 159/\iI 160:=by and_intros<;>exact fnS rfl
theorem aoY:iI 161/\iI 162/\iI 163/\iI 164/\iI 165/\iI 166/\iI 167/\iI 168/\iI 169/\iI 170/\iI 171/\iI 172/\iI 173/\iI 174/\iI 175/\iI 176/\iI 177/\iI 178/\iI 179/\iI 180/\iI 184/\iI 185/\iI 186/\iI 187:=by and_intros<;>exact fnS rfl
theorem aoZ:iI 188/\iI 189/\iI 190/\iI 191/\iI 192/\iI 193/\iI 194/\iI 195/\iI 196/\iI 197/\iI 198/\iI 205/\iI 206/\iI 207/\iI 208/\iI 209/\iI 210/\iI 211/\iI 213/\iI 216/\iI 217/\iI 218/\iI 219/\iI 220:=by and_intros<;>exact fnS rfl
theorem ao0:iI 221/\iI 222/\iI 223/\iI 224/\iI 225/\iI 226/\iI 227/\iI 228/\iI 229/\iI 230/\iI 231/\iI 232/\iI 233/\iI 234/\iI 235/\iI 236/\iI 239/\iI 240/\iI 241/\iI 242/\iI 243/\iI 244/\iI 245/\iI 246:=by and_intros<;>exact fnS rfl
theorem ao1:iI 247/\iI 248/\iI 249/\iI 250/\iI 255/\iI 256/\iI 257/\iI 258/\iI 259/\iI 260/\iI 261/\iI 262/\iI 263/\iI 264/\iI 265/\iI 266/\iI 267/\iI 268/\iI 269/\iI 270/\iI 271/\iI 272/\iI 273/\iI 274:=by and_intros<;>exact fnS rfl
theorem ao2:iI 275/\iI 276/\iI 277/\iI 278/\iI 279/\iI 280/\iI 281/\iI 282/\iI 283/\iI 284/\iI 285/\iI 286/\iI 287/\iI 288/\iI 289/\iI 290/\iI 291/\iI 292/\iI 293/\iI 294:=by and_intros<;>exact fnS rfl
abbrev aI(n:Nat):Prop:=Du n= .KH
abbrev F8(n:Nat):Prop:=Du n= .own
theorem ao3:aI 3/\aI 7/\aI 8/\F8 9/\aI 10/\F8 11/\aI 12/\aI 13/\aI 14/\aI 15/\aI 16/\aI 17/\aI 18/\F8 19/\aI 45/\aI 46/\aI 47/\aI 48/\aI 49/\aI 50/\aI 51/\aI 52/\aI 53/\F8 54:=by and_intros<;>exact rfl
theorem ao4:aI 55/\aI 56/\aI 57/\aI 58/\aI 59/\aI 60/\aI 61/\aI 62/\aI 63/\F8 64/\aI 65/\aI 76/\aI 92/\aI 93/\aI 94/\aI 95/\aI 96/\aI 97/\aI 98/\aI 99/\F8 100/\aI 101/\aI 102/\aI 103:=by and_intros<;>exact rfl
theorem ao5:aI 104/\aI 105/\aI 106/\aI 107/\aI 108/\aI 109/\aI 110/\aI 111/\aI 112/\aI 113/\aI 114/\aI 115/\aI 116/\aI 117/\aI 118/\aI 119/\aI 120/\aI 128/\aI 129/\aI 130/\aI 131/\aI 132/\aI 133/\aI 137:=by and_intros<;>exact rfl
theorem ao6:aI 144/\aI 149/\aI 150/\aI 151/\aI 152/\aI 153/\aI 154/\aI 155/\aI 156/\aI 157/\aI 158/\aI 159/\aI 160/\aI 161/\aI 162/\aI 163/\aI 164/\aI 165/\aI 166/\aI 167/\aI 168/\aI 169/\aI 170/\aI 171:=by and_intros<;>exact rfl
theorem ao7:aI 172/\aI 173/\aI 174/\aI 175/\aI 176/\aI 177/\aI 178/\aI 179/\aI 180/\aI 184/\aI 185/\aI 186/\aI 187/\aI 188/\aI 189/\aI 190/\aI 191/\aI 192/\aI 193/\aI 194/\aI 195/\aI 196/\aI 197/\aI 198:=by and_intros<;>exact rfl
theorem ao8:aI 205/\aI 206/\aI 207/\aI 208/\aI 209/\aI 210/\aI 211/\aI 213/\Du 214= .inl/\F8 215/\aI 216/\aI 217/\aI 218/\aI 219/\aI 220/\aI 221/\aI 222/\aI 223/\aI 224/\aI 225/\aI 226/\aI 227/\aI 228/\aI 229:=by and_intros<;>exact rfl
theorem ao9:aI 230/\aI 231/\aI 232/\aI 233/\aI 234/\aI 235/\aI 236/\aI 239/\aI 240/\aI 241/\aI 242/\aI 243/\aI 244/\aI 245/\aI 246/\aI 247/\aI 248/\aI 249/\aI 250/\aI 255/\aI 256/\aI 257/\aI 258/\aI 259:=by and_intros<;>exact rfl
theorem ao_:aI 260/\aI 261/\aI 262/\aI 263/\aI 264/\aI 265/\aI 266/\aI 267/\aI 268/\aI 269/\aI 270/\aI 271/\aI 272/\aI 273/\aI 274/\aI 275/\aI 276/\aI 277/\aI 278/\aI 279/\aI 280/\aI 281/\aI 282/\aI 283:=by and_intros<;>exact rfl
theorem apa:aI 284/\aI 285/\aI 286/\aI 287/\aI 288/\aI 289/\aI 290/\aI 291/\aI 292/\aI 293/\aI 294:=by and_intros<;>exact rfl
attribute [go_sem] aoV aoW aoX aoY aoZ ao0 ao1 ao2
attribute [go_sem] ao3 ao4 ao5 ao6 ao7 ao8 ao9 ao_ apa
attribute [go_sem] aoS ah3
attribute [go_sem] alv aoU
open Go.Plan
attribute [-go_sem] qw
def ayh(a b:Int):Int:=IntKind.u64.wrap ((BitVec.ofInt 64 a &&& BitVec.ofInt 64 b).toNat:Nat)
theorem alx{P:Program}{t:TypeId}{x y:Operand}{a b:Int}:Aw P .and t x y (.sc (.int .u64 a)) (.sc (.int .u64 b))=some (.sc (.int .u64 (ayh a b))):=by
 simp only[Aw,toVal,eqGuard_at_int,binOp_and];rfl
attribute [go_sem] alx
theorem apb(n:Nat)(G:1<=n)(J:n<=6):fn ZL conv ext 213 [.sc (.int .u64 1),.sc (.int .u64 n)]=some (.AB [.sc (.int .u64 0),.sc (.int .u64 n)]):=by
 have hn:n=1\/n=2\/n=3\/n=4\/n=5\/n=6:=by omega
 have E:¬(32:Int)<0:=by decide
 rcases hn with rfl|rfl|rfl|rfl|rfl|rfl<;>rw[m_,mg [.tmp 4,.tmp 5] [] func213]<;>simp only[go_sem,E]<;>rfl
theorem ayi(n:Nat)(E:1<=n)(G:n<=6):fn ZL conv ext 156 [.sc (.int .u64 1),.sc (.int .u64 n)]=some (.AB [.sc (.int .u64 0),.sc (.int .u64 n)]):=by
 have k:=apb n E G;rw[m_,mg [.tmp 4,.tmp 5] [] func156];simp only[go_sem,k]
theorem as2(k:IntKind)(n:Int)(σ:Store):BZ ZL 3 202 (.sc (.int k n)) σ=some (.sc (.int .u64 (IntKind.u64.wrap n))):=Si Tryz.underlying3 Tryz.underlying202
theorem as3(k:IntKind)(n:Int)(σ:Store):BZ ZL 202 3 (.sc (.int k n)) σ=some (.sc (.int .i64 (IntKind.i64.wrap n))):=Si Tryz.underlying202 Tryz.underlying3
section
variable {P:Program} {conv:FuncId->Conv} {call:TV.Call} (d:Option Tmp) (ty:TypeId) (ps:String) (af:Array Edge) (gd:Option (Nat×Bool)) (T:Nat->V) (σ:Store) (nx:Nat)
theorem aeT(s x:Operand)(ts:Array TypeId):zI conv T σ ⟨d,.call ⟨.builtin .copy,#[s,x],ts⟩,ty,ps,af,gd⟩=wI (val T s)++wI (val T x):=by
 show([val T s,val T x].flatMap wI)=_;simp only[zK,vg,zC]
theorem apc(s x:Operand)(ts:Array TypeId):writer conv ⟨d,.call ⟨.builtin .copy,#[s,x],ts⟩,ty,ps,af,gd⟩=true:=rfl
theorem ah4(s x:Operand)(t u:TypeId):Ah P conv call ⟨d,.call ⟨.builtin .copy,#[s,x],#[t,u]⟩,ty,ps,af,gd⟩ T σ nx=
  if((wI (val T s)++wI (val T x)).all fun b=>decide (b<nx))=true then aow (wI (val T s)++wI (val T x)) σ nx (Gv P #[t,u] (val T s) (val T x) (restrict σ (wI (val T s)++wI (val T x))) nx)else none:=by
 rw[nN (F:=wI (val T s)++wI (val T x)) T σ nx (by
  show some ([val T s,val T x].flatMap wI)=_;simp only[zK,vg,zC]) (fun _=>rfl)]
 rfl
end
attribute [go_sem] aeT apc ah4
def Ez(n k:Nat):List Int:=List.replicate k (-1)++List.replicate (n-k) 0
theorem QK{n k:Nat}(h:k<=n):(Ez n k).length=n:=by simp[Ez];omega
theorem abb{n k m:Nat}(h:k+m<=n)(hm:m<=k)(h0:m≠0):patch ((Ez n k).flatMap cI) k ((((Ez n k).flatMap cI).take k).take m)=(Ez n (k+m)).flatMap cI:=by
 have G:((Ez n k).flatMap cI).length=n:=by rw[qL,QK (by omega)]
 have E:((Ez n k).flatMap cI).take k=(List.replicate k (-1)).flatMap cI:=by
  rw[qJ];congr 1;unfold Ez;rw[wu (by simp)]
 have J:((List.replicate k (-1:Int)).flatMap cI).take m=(List.replicate m (-1)).flatMap cI:=by
  rw[qJ,List.take_replicate,xK hm]
 have O:∀(j:Nat) (xs:List Int),(xs.flatMap cI).drop j=(xs.drop j).flatMap cI:=fun j=>by
  induction j with
  |zero=>intro xs;rfl
  |succ j S=>
   intro xs;cases xs with
   |nil=>rfl
   |cons y Y=>exact S Y
 rw[E,J,iJ _ _ _ (by rw[qL,G];simp;omega),E,qL,yU,O,<- zT,<- zT];congr 1;unfold Ez;rw[List.drop_append,xw (by simp),yO,List.drop_replicate,yU,vY];congr 2;omega
theorem ah5(n:Nat)(O:1<=n)(h6:n<=6)(nx:Nat):∃J G,ev ZL Du EZ 100 [.ts [I (-1)] 1,I n] lI nx=some (.rs nx 0 n,J,G)/\nx<G/\J nx=some ⟨(List.replicate n (-1)).flatMap cI,1,true⟩:=by
 have c1:¬(n:Int)<0:=by omega
 have k:=ayi n O h6;have w1:=ZR (n:=(n:Int)) (by omega) (by omega);have w2:=ZR (n:=1) (by omega) (by omega);have w3:=ZT (n:=(n:Int));have c2:¬(0:Int)<0:=by decide
 have c3:¬(9223372036854775807:Int)<(n:Int):=by omega
 have m1:=jD n;have m2:8*(n:Int)<=281474976710656:=by omega
 have m3:(n:Int)<=9223372036854775807:=by omega
 have m4:min 1 n=1:=by omega
 have m5:¬(1:Nat)=0:=by decide
 have r1:((rep n [V.sc (.int .i64 0)])).length=n:=by rw[fO];simp
 have r2:patch (rep n [V.sc (.int .i64 0)]) 0 [I (-1)]=(Ez n 1).flatMap cI:=by
  have hn:n=1\/n=2\/n=3\/n=4\/n=5\/n=6:=by omega
  rcases hn with rfl|rfl|rfl|rfl|rfl|rfl<;>rfl
 have m6:1<=n:=O;rw[mg [.tmp 4] [9] func100];simp only[go_sem,c1,c2,c3,w1,w2,w3,k,m1,m2,m3,as2,as3,r1,m4,m5,m6,Hg,r2];generalize S:dI _ _=y;obtain⟨x,rfl,T,σ,G,rfl,E,t7,hs⟩:=jQ S (fun m st=>∃k,1<=k/\k<=n/\m+k=n/\nx<st.nx/\st.T 7= .rs nx 0 n/\st.T 8=I k/\st.σ nx=some ⟨(Ez n k).flatMap cI,1,true⟩)
  (fun x=>∃T σ G,x=(.exit 0,⟨T,σ,G⟩)/\nx<G/\T 7= .rs nx 0 n/\σ nx=some ⟨(Ez n n).flatMap cI,1,true⟩) (by
   clear S;rintro m ⟨T,σ,G⟩ ⟨k,k1,Y,k3,E,t7,t8,hs⟩;simp only at E t7 t8 hs;have hlen:((Ez n k).flatMap cI).length=n:=by rw[qL,QK Y]
   by_cases hk:k<n
   .have g1:(k:Int)<(n:Int):=by omega
    have g2:=jD k;have g3:¬k=0:=by omega
    have g4:¬k=n:=by omega
    have g5:k<=n:=Y;obtain⟨q,hq⟩:∃q,q=min k (n-k):=⟨_,rfl⟩;have g6:¬q=0:=by omega
    have g7:k+q<=n:=by omega
    have g8:(((Ez n k).flatMap cI).take k).take q=(List.replicate q (-1)).flatMap cI:=by
     rw[qJ,qJ];congr 1;unfold Ez;rw[wu (by simp),List.take_replicate,xK (by omega)]
    have g9:=abb (n:=n) (k:=k) (m:=q) (by omega) (by omega) g6;have g10:((List.replicate q (-1)).flatMap cI).all qI=true:=qM _;have w4:=ZT (n:=(k:Int)+(q:Int));rw[g8]at g9;refine .inl ⟨_,by simp only[go_sem,t7,t8,hs,g1,g2,g3,g4,g5,hlen,E,<- hq,g6,g7,g8,g9,g10,w4,Hg];rfl,m-q,by omega,k+q,by omega,by omega,by omega,?_⟩;simp only[go_sem,t7];exact⟨E,rfl⟩
   .have:k=n:=by omega
    subst this;refine .inr ⟨_,by simp only[go_sem,t7,t8,zk];rfl,by simp,_,_,_,rfl,E,?_,hs⟩;simp only[go_sem,t7]) (n-1) (by
   simp only[go_sem];exact⟨1,zq _,O,by omega,by omega,rfl,rfl⟩)
 simp only[go_sem,t7];refine⟨_,_,rfl,E,?_⟩;rw[hs];unfold Ez;rw[yP];simp
end Go.Proofs.YtkpdoehbhmipcaaGreat
