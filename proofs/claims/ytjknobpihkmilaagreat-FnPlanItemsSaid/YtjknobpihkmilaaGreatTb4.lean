import Derived.Test.YtjknobpihkmilaaGreatTb3
set_option linter.unusedSimpArgs false
set_option linter.unusedVariables false
set_option linter.unusedSectionVars false
set_option linter.defProp false
set_option maxRecDepth 10000
set_option maxHeartbeats 4000000
open Go.Proofs.Tryz renaming prog->ZM
open Go.Proofs.Tryz
open Bool renaming and_eq_true->zM,false_eq_true->yE,and_false->wY,false_and->wM,not_false->wE,not_true->vH,and_true->uj
open Classical renaming byContradiction->zf
open Int renaming lt_irrefl->zi,toNat_natCast->zF,tdiv_eq_ediv_of_nonneg->yB,le_refl->xP,le_of_lt->x9,natAbs_neg->wC,mul_zero->vk
open List renaming getElem?_eq_getElem->zy,getD_eq_getElem?_getD->zx,getElem_mem->zu,length_append->zo,take_of_length_le->zl,length_take->zh,eq_nil_of_length_eq_zero->zZ,mem_cons_of_mem->zY,mem_cons->zX,length_cons->zV,getElem?_append_left->zU,length_map->zT,flatMap_append->zQ,mem_cons_self->zO,getElem?_append_right->zN,not_mem_nil->zK,append_nil->zH,flatMap_cons->zG,length_drop->zC,getElem_of_mem->zA,mem_append_left->z_,append_assoc->yw,mem_append_right->yh,drop_zero->yg,getElem?_map->yc,length_nil->yY,getElem?_eq_none->yX,length_singleton->yV,length_replicate->yU,take_length->yT,cons_append->yR,ext_getElem->yQ,length_set->yP,getElem_append_left->yO,take_add_one->yL,nil_append->yJ,length_eraseIdx_of_lt->yH,mem_singleton->yD,getElem_map->yC,drop_of_length_le->yA,getElem?_drop->xw,replicate_succ->xu,nodup_cons->xk,mem_append->xW,set_append_right->xO,map_congr_left->xM,map_append->xH,take_left'->xG,getElem?_take->wz,getElem_range->wZ,range_succ->wX,getElem_set->wW,all_eq_true->wV,mem_of_mem_take->wR,getElem_append_right->wP,replicate_append_replicate->wG,getElem?_range->wB,all_nil->w_,flatMap_nil->vw,all_cons->vY,getElem?_replicate->vU,getElem_take->vS,set_cons_zero->vC,take_append_drop->vB,mem_or_eq_of_mem_set->uz,drop_append_of_le_length->ug,take_append_of_le_length->uf,getElem_inj->uX,getElem_cons_zero->uT,map_cons->uN,length_range->uM,replicate_succ'->uK,mem_of_mem_drop->uJ,eraseIdx_eq_take_drop_succ->tN,eraseIdx_sublist->su
open Nat renaming le_refl->zq,not_lt_zero->zW,le_trans->zL,mul_le_mul_right->zD,zero_add->yZ,mul_one->yN,sub_self->yM,succ_mul->xq,lt_of_lt_of_le->xQ,mul_le_mul->xK,div_le_self->xE,div_div_eq_div_mul->wu,mul_comm->wL,mod_eq_of_lt->wK,zero_le->wF,add_mul->vZ,mod_lt->vX,zero_mul->vM,div_one->vK,mul_assoc->vG,div_eq_of_lt->vF,pow_succ->uq,div_lt_iff_lt_mul->uP,le_div_iff_mul_le->uO,mul_le_mul_left->tu,div_mul_le_self->tV
open Ne renaming symm->yu
open Option renaming bind_some->zk,map_some->zJ,getD_some->yG
open Option.some renaming injEq->sW
open Prod.mk renaming injEq->sS
namespace Go.Proofs.YtjknobpihkmilaaGreat
open Go Go.TV Go.Lp
theorem nd4{bt br bb bf:Nat}{rb:List Nat}(h:(bt :: br :: bb :: bf :: rb).Nodup):bt≠br/\bt≠bb/\bt≠bf/\br≠bb/\br≠bf/\bb≠bf/\(∀b∈rb,b≠bt/\b≠br/\b≠bb/\b≠bf)/\rb.Nodup:=by
 simp only[xk,zX,not_or]at h;obtain⟨⟨J,O,S,Y⟩,⟨h5,h6,h7⟩,⟨h8,h9⟩,E,G⟩:=h;refine⟨J,O,S,h5,h6,h8,fun b hb=>⟨fun e=>Y (e ▸ hb),fun e=>h7 (e ▸ hb),fun e=>h9 (e ▸ hb),fun e=>E (e ▸ hb)⟩,G⟩
theorem g_{rb:List Nat}{ex:List V}{n i:Nat}(h:i<rb.length):(rb.map (fun b=>V.rs b 0 n)++ex)[i]?=some (.rs rb[i] 0 n):=by
 rw[zU (by simpa using h),yc,zy h];rfl
def Gq(R:List (List Int))(P:List (List Int))(i j:Nat):List Int:=if j<i then Ee P j else Ee R j
theorem ah0{u p f v:Int}(hu:ln u.natAbs<=50)(hp:ln p.natAbs<=50)(E:ln f.natAbs<=50)(G:ln v.natAbs<=50) :
  ln (u*p).natAbs<=1000000/\ln (f*v).natAbs<=1000000/\ln (u*p-f*v).natAbs<=1000000:=by
 have J:=jY u p;have O:=jY f v;have S:=acJ (u*p) (f*v);omega
theorem ah1{σ:Store}{nx bt br bb bf:Nat}{rb:List Nat}{D:TZ}{N:Nat}(h:DU σ bt br bb bf rb D N)(hs:Xw D N)(c8:∀b∈bt :: br :: bb :: bf :: rb,b<nx){r k:Nat}(hr:r<D.R.length)(hk:k<N)(hp:en D.R r k≠0)(i1:D.Bh≠0) :
  ∃σ' nx',ev ZM Aa Ak 173 [.rp bt 0,I r,I k] σ nx=some (.AX [],σ',nx')/\DU σ' bt br bb bf rb (Gp D r k) N/\nx<=nx'/\∀b,b<nx->b≠bt->b≠bb->b∉rb->σ' b=σ b:=by
 obtain⟨n1,n2,n3,n4,n5,n6,n7,n8⟩:=nd4 h.nd;have hN:=hs.sz;have hR:=hs.Gz;obtain⟨P7,e8⟩:=h.r;obtain⟨MO,m6⟩:=h.b;have e9:=h.t;have hlen:=h.len;have TX:=c8 bt (by simp);have TY:=c8 br (by simp);have m7:=c8 bb (by simp);have m8:=c8 bf (by simp);have Fg:∀j (E:j<rb.length),rb[j]<nx:=fun j E=>c8 _ (by simp[zu E])
 have h4:r<rb.length:=by omega
 obtain⟨bR,YH⟩:∃bR,bR=rb[r]:=⟨_,rfl⟩;have m9:bR<nx:=by rw[YH];exact Fg r h4
 have nR:=n7 bR (by rw[YH];exact zu h4);obtain⟨Lr,i2,j4,n0⟩:=h.row r h4;rw[<- YH]at i2;have J:∀j,j<D.R.length->(Ee D.R j).length=N+1:=fun j E=>by rw[dY E];exact hs.row _ (zu E)
 have Vb:Lr.length=N+1:=by have:=congrArg List.length j4;rw[zT,J r hr]at this;exact this
 have ent:∀j c (E:j<D.R.length) (hc:c<N+1),(Ee D.R j)[c]'(by rw[J j E];exact hc)=en D.R j c:=fun j c E hc=>by
  unfold en;rw[zx,zy];rfl
 have c9:∀c (hc:c<N+1),(Lr[c]'(by omega)).1=en D.R r c:=fun c hc=>by
  obtain⟨_,e⟩:=QZ j4 (c:=c) (by rw[J r hr];exact hc);rw[e,ent r c hr hc]
 have lz:∀c (hc:c<Lr.length),(Lr[c]).2=true->(Lr[c]).1=0:=fun c hc=>n0 _ (zu hc)
 have a1:=jF r;have a2:(r:Int)<(D.R.length:Int):=by omega
 have a3:=jF k;have a4:(k:Int)<((N+1:Nat):Int):=by omega
 have a5:=g_ (ex:=P7) (n:=N+1) h4;rw[<- YH]at a5;have a6:=d_ (c:=zc) (s:=2) ZP Lr k (by omega);have a7:=bZ (c:=zc) (s:=2) ZP Lr;rw[Vb]at a7;have a8:k*2+2<=(N+1)*2:=by omega
 obtain⟨sp,h5⟩:∃sp,sp=upd σ nx (some ⟨zc Lr[k],0,true⟩):=⟨_,rfl⟩;have c3:∀b,b<nx->sp b=σ b:=fun b hb=>by rw[h5,Zm]
 have j5:sp nx=some ⟨zc Lr[k],0,true⟩:=by rw[h5,Zj]
 have j6:=(c3 bt TX).trans e9;have j7:=(c3 br TY).trans e8;rw[nC [] [10,12,13] func173];simp only[go_sem,e9,e8,i2,a1,a2,a3,a4,a5,a6,a7,a8,ZP,Zi,<- h5,j6,j7];generalize hL:iI _ _=y;have P0:=gy D.R r k D.Bh
 obtain⟨x,rfl,T1,b9,qI,rfl,t0,t1,t2,t7,p1,c4,j8,Kr⟩:=oZ hL D.R.length (fun i st=>st.T 0= .rp bt 0/\st.T 1=I r/\st.T 2=I k/\st.T 6= .rs bR 0 (N+1)/\st.T 7= .rp nx 0/\st.T 30= .rs br 0 D.R.length/\st.T 31=I D.R.length/\st.T 32=I i/\nx<st.nx/\st.σ nx=some ⟨zc Lr[k],0,true⟩/\st.σ bR=some ⟨Lr.flatMap zc,2,true⟩ /\
   (∀j (E:j<rb.length),EI st.σ rb[j] (Gq D.R (BK D.R r k D.Bh) i j))/\∀b,b<nx->b∉rb->st.σ b=σ b)
  (fun x=>∃T σ' nx',x=(.exit 0,⟨T,σ',nx'⟩)/\T 0= .rp bt 0/\T 1=I r/\T 2=I k/\T 7= .rp nx 0/\nx<nx'/\σ' nx=some ⟨zc Lr[k],0,true⟩/\(∀j (E:j<rb.length),EI σ' rb[j] (Ee (BK D.R r k D.Bh) j))/\∀b,b<nx->b∉rb->σ' b=σ b) (by
   clear hL;rintro i ⟨T,σ',nx'⟩ hi ⟨t0,t1,t2,t6,t7,t30,t31,t32,Y,sn,sR,rows,frame⟩;simp only at t0 t1 t2 t6 t7 t30 t31 t32 Y sn;have f1:(i:Int)<(D.R.length:Int):=by omega
   have f2:=jF i;have f3:=ZU (n:=(i:Int)+1);have b2:i<rb.length:=by omega
   obtain⟨bi,FI⟩:∃bi,bi=rb[i]:=⟨_,rfl⟩;have p2:bi<nx:=by rw[FI];exact Fg i b2
   have ni:=n7 bi (by rw[FI];exact zu b2);have f5:=g_ (ex:=P7) (n:=N+1) b2;rw[<- FI]at f5;have h6:σ' br=_:=(frame br TY fun e=>(n7 br e).2.1 rfl).trans e8
   by_cases YD:i=r
   .have c1:((i:Int)==(r:Int))=true:=by rw[YD];simp
    refine .inl ⟨_,by simp only[go_sem,t0,t1,t2,t6,t7,t30,t31,t32,h6,f1,f2,f3,f5,c1];rfl,?_⟩;simp only[go_sem,t0,t1,t2,t6,t7,t30,t31];refine⟨rfl,Y,sn,sR,fun j E=>?_,frame⟩;have b4:=rows j E;unfold Gq at b4⊢
    by_cases b5:j<i
    .rw[sO b5]at b4
     rw[sO (by omega)];exact b4
    .rw[sQ b5]at b4
     by_cases p3:j=i
     .rw[sO (by omega),acM (by omega),sO (by omega)]
      exact b4
     .rw[sQ (by omega)]
      exact b4
   .have c1:((i:Int)==(r:Int))=false:=by rw[sN];omega
    have j9:bi≠bR:=fun e=>YD (by rw[FI,YH]at e;exact(uX n8).mp e)
    obtain⟨G,T_,Hl,Ua⟩:=rows i b2;have h7:σ' bi=some ⟨G.flatMap zc,2,true⟩:=by rw[FI];exact T_
    have e0:Gq D.R (BK D.R r k D.Bh) i i=Ee D.R i:=by unfold Gq;rw[sQ (by omega)]
    rw[e0]at Hl;have LX:G.length=N+1:=by have:=congrArg List.length Hl;rw[zT,J i hi]at this;exact this
    have h9:∀c (hc:c<N+1),(G[c]'(by omega)).1=en D.R i c:=fun c hc=>by
     obtain⟨_,e⟩:=QZ Hl (c:=c) (by rw[J i hi];exact hc);rw[e,ent i c hi hc]
    have iz:∀c (hc:c<G.length),(G[c]).2=true->(G[c]).1=0:=fun c hc=>Ua _ (zu hc)
    have b6:=d_ (c:=zc) (s:=2) ZP G k (by omega);have b7:=bZ (c:=zc) (s:=2) ZP G;rw[LX]at b7;obtain⟨s6,i3⟩:∃s6,s6=upd σ' nx' (some ⟨zc G[k],0,true⟩):=⟨_,rfl⟩;have b8:∀b,b<nx'->s6 b=σ' b:=fun b hb=>by rw[i3,Zm]
    have n9:s6 nx'=some ⟨zc G[k],0,true⟩:=by rw[i3,Zj]
    obtain⟨W,eW⟩:∃W,W=Fa (en D.R r k) (en D.R i k) D.Bh (Ee D.R i) (Ee D.R r):=⟨_,rfl⟩;have o0:W.length=N+1:=by rw[eW,aa8 _ _ _ (by rw[J i hi,J r hr]),J i hi]
    have S:W.length=G.length:=by omega
    have i4:∀c (hc:c<N+1),W[c]'(by omega)=(en D.R i c*en D.R r k-en D.R i k*en D.R r c).tdiv D.Bh:=fun c hc=>by
     subst eW;rw[aa9 _ _ _ (by rw[J i hi];exact hc) (by rw[J r hr];exact hc),ent i c hi hc,ent r c hr hc]
    refine bD ?_
    conv=>
     enter [1,r,1,1]
     simp only[go_sem,t0,t1,t2,t6,t7,t30,t31,t32,h6,f1,f2,f5,c1,h7,a3,a4,a8,b6,b7,Zi,<- i3]
    generalize hL:iI _ _=z
    obtain⟨x,rfl,T1,σ2,CU,rfl,t0,t1,t2,t6,t7,t30,t31,t32,p4,En,F7⟩:=oZ hL (N+1) (fun c st=>st.T 0= .rp bt 0/\st.T 1=I r/\st.T 2=I k/\st.T 6= .rs bR 0 (N+1)/\st.T 7= .rp nx 0/\st.T 30= .rs br 0 D.R.length/\st.T 31=I D.R.length/\st.T 32=I i/\st.T 9= .rs bi 0 (N+1)/\st.T 10= .rp nx' 0/\st.T 45=I ((N+1:Nat):Int)/\st.T 46=I c/\nx'<st.nx /\
      (∀b,b<=nx'->b≠bi->st.σ b=s6 b)/\st.σ bi=some ⟨(newR W G c).flatMap zc,2,true⟩)
     (fun x=>∃T P8 k0,x=(.exit 2,⟨T,P8,k0⟩)/\T 0= .rp bt 0/\T 1=I r/\T 2=I k/\T 6= .rs bR 0 (N+1)/\T 7= .rp nx 0/\T 30= .rs br 0 D.R.length/\T 31=I D.R.length/\T 32=I i/\nx'<k0/\(∀b,b<=nx'->b≠bi->P8 b=s6 b)/\EI P8 bi W) (by
      clear hL;rintro c ⟨T,σ2,m0⟩ hc ⟨t0,t1,t2,t6,t7,t30,t31,t32,t9,t10,t45,t46,b3,En,F7⟩;simp only at t0 t1 t2 t6 t7 t30 t31 t32 t9 t10 t45 t46 b3 F7;have g1:(c:Int)<((N+1:Nat):Int):=by omega
      have g2:=jF c;have g3:=ZU (n:=(c:Int)+1);have g4:=d_ (c:=zc) (s:=2) ZP (newR W G c) c (by rw[jE S (by omega)];omega);rw[XD S (by omega)]at g4;have g5:=bZ (c:=zc) (s:=2) ZP (newR W G c);rw[jE S (by omega),LX]at g5;have g6:c*2+2<=(N+1)*2:=by omega
      have g7:=d_ (c:=zc) (s:=2) ZP Lr c (by omega);have z1:∀σ d,stripL (strip σ d) (zc G[c])=some (cZ (en D.R i c),[]):=fun σ d=>by rw[ZO σ d (iz c (by omega)),h9 c (by omega)]
      have z2:∀σ d,stripL (strip σ d) (zc Lr[k])=some (cZ (en D.R r k),[]):=fun σ d=>by rw[ZO σ d (lz k (by omega)),c9 k (by omega)]
      have z3:∀σ d,stripL (strip σ d) (zc G[k])=some (cZ (en D.R i k),[]):=fun σ d=>by rw[ZO σ d (iz k (by omega)),h9 k (by omega)]
      have z4:∀σ d,stripL (strip σ d) (zc Lr[c])=some (cZ (en D.R r c),[]):=fun σ d=>by rw[ZO σ d (lz c (by omega)),c9 c (by omega)]
      have e1:σ2 bt=_:=(En bt (by omega) (yu ni.1)).trans ((b8 bt (by omega)).trans ((frame bt TX fun e=>(n7 bt e).1 rfl).trans e9));have e3:σ2 nx=_:=(En nx (by omega) (by omega)).trans ((b8 nx (by omega)).trans sn);have e4:σ2 nx'=_:=(En nx' (zq _) (by omega)).trans n9;have e5:σ2 bR=_:=(En bR (by omega) (yu j9)).trans ((b8 bR (by omega)).trans sR);have d1:¬bt=m0:=by omega
      have d3:¬nx=m0:=by omega
      have d4:¬nx'=m0:=by omega
      have d5:¬bR=m0:=by omega
      have d6:¬bi=m0:=by omega
      have l1:bt<m0+1:=by omega
      have l3:nx<m0+1:=by omega
      have l4:nx'<m0+1:=by omega
      have l5:bR<m0+1:=by omega
      have l6:bi<m0+1:=by omega
      have l7:m0<m0+1:=by omega
      have l8:bi<m0:=by omega
      have l9:nx<m0:=by omega
      have i5:nx'<m0:=by omega
      have i6:bR<m0:=by omega
      have i7:bt<m0:=by omega
      have u1:=hs.big i c (by omega) (by omega);have u2:=hs.big r k hr (by omega);have u3:=hs.big i k (by omega) (by omega);have u4:=hs.big r c hr (by omega);obtain⟨v1,v2,v3⟩:=ah0 (u:=en D.R i c) (p:=en D.R r k) (f:=en D.R i k) (v:=en D.R r c) u1 u2 u3 u4;have k1:=kQ (en D.R i c) (en D.R r k) (by omega) (by omega);have k2:=kG (en D.R i k);have k3:=kG (en D.R r c);have k4:=kQ (en D.R i k) (en D.R r c) (by omega) (by omega);have k5:=acn (en D.R i c*en D.R r k) (en D.R i k*en D.R r c) v1 v2;have s2:=TU (en D.R i k);have s3:=TU (en D.R r c);have p5:=hs.Bh;have fin:∀y:Int,y=W[c]'(by omega)->patch ((newR W G c).flatMap zc) (c*2) (cZ y)=(newR W G (c+1)).flatMap zc:=fun y hy=>by
       rw[<- acL,iE ZP _ _ (by rw[jE S (by omega)];omega),hy,Ov S (by omega)]
      have wv:=i4 c hc
      by_cases i9:en D.R i k=0
      .rw[sJ i9,vH]at s2
       have k6:fn ZM Aa Ak 204 [.agg (cZ (en D.R i c*en D.R r k)),.agg [Bo (decide (D.Bh<0)),LI (dg D.Bh.natAbs)]]=_:=Om (en D.R i c*en D.R r k) D.Bh v1 (by omega) i1;have c6:=fin ((en D.R i c*en D.R r k).tdiv D.Bh) (by rw[wv,i9,Int.zero_mul,Int.sub_zero]);refine .inl ⟨_,by simp only[go_sem,t0,t1,t2,t6,t7,t9,t10,t45,t46,F7,e1,e3,e4,e5,a3,a4,a8,g1,g2,g3,g4,g5,g6,g7,z1,z2,z3,z4,d1,d3,d4,d5,d6,l1,l3,l4,l5,l6,l7,l8,l9,i5,i6,i7,k1,k2,s2,k6,c6,Zi];rfl,?_⟩;simp only[go_sem,t0,t1,t2,t6,t7,t30,t31,t32,t9,t10,t45];refine⟨rfl,by omega,fun b hb O=>?_⟩;rw[Zk _ _ O,Zm];exact En b hb O
      .rw[sH i9,wE]at s2
       by_cases j0:en D.R r c=0
       .rw[sJ j0,vH]at s3
        have k6:fn ZM Aa Ak 204 [.agg (cZ (en D.R i c*en D.R r k)),.agg [Bo (decide (D.Bh<0)),LI (dg D.Bh.natAbs)]]=_:=Om (en D.R i c*en D.R r k) D.Bh v1 (by omega) i1;have c6:=fin ((en D.R i c*en D.R r k).tdiv D.Bh) (by rw[wv,j0,vk,Int.sub_zero]);refine .inl ⟨_,by simp only[go_sem,t0,t1,t2,t6,t7,t9,t10,t45,t46,F7,e1,e3,e4,e5,a3,a4,a7,a8,g1,g2,g3,g4,g5,g6,g7,z1,z2,z3,z4,d1,d3,d4,d5,d6,l1,l3,l4,l5,l6,l7,l8,l9,i5,i6,i7,k1,k2,s2,k3,s3,k6,c6,Zi];rfl,?_⟩;simp only[go_sem,t0,t1,t2,t6,t7,t30,t31,t32,t9,t10,t45];refine⟨rfl,by omega,fun b hb O=>?_⟩;rw[Zk _ _ O,Zm];exact En b hb O
       .rw[sH j0,wE]at s3
        have k6:fn ZM Aa Ak 204 [.agg (cZ (en D.R i c*en D.R r k-en D.R i k*en D.R r c)),.agg [Bo (decide (D.Bh<0)),LI (dg D.Bh.natAbs)]]=_:=Om (en D.R i c*en D.R r k-en D.R i k*en D.R r c) D.Bh v3 (by omega) i1;have c6:=fin ((en D.R i c*en D.R r k-en D.R i k*en D.R r c).tdiv D.Bh) wv.symm;refine .inl ⟨_,by simp only[go_sem,t0,t1,t2,t6,t7,t9,t10,t45,t46,F7,e1,e3,e4,e5,a3,a4,a7,a8,g1,g2,g3,g4,g5,g6,g7,z1,z2,z3,z4,d1,d3,d4,d5,d6,l1,l3,l4,l5,l6,l7,l8,l9,i5,i6,i7,k1,k2,s2,k3,s3,k4,k5,k6,c6,Zi];rfl,?_⟩;simp only[go_sem,t0,t1,t2,t6,t7,t30,t31,t32,t9,t10,t45];refine⟨rfl,by omega,fun b hb O=>?_⟩;rw[Zk _ _ O,Zm];exact En b hb O) (by
      clear hL;rintro ⟨T,σ2,m0⟩ ⟨t0,t1,t2,t6,t7,t30,t31,t32,t9,t10,t45,t46,b3,En,F7⟩;simp only at t0 t1 t2 t6 t7 t30 t31 t32 t9 t10 t45 t46 b3 F7;refine⟨_,by simp only[go_sem,t45,t46,zi];rfl,by simp,_,_,_,rfl,?_⟩;simp only[go_sem,t0,t1,t2,t6,t7,t30,t31,t32];exact⟨b3,En,XE S (by rw[LX];exact F7)⟩) (by
      simp only[go_sem,t0,t1,t2,t6,t7,t30,t31,t32];refine⟨by omega,fun _ _ _=>trivial,?_⟩;rw[Kq,b8 bi (by omega)];exact h7)
    refine⟨_,by simp only[go_sem,t32,f3];rfl,.inl ⟨_,rfl,?_⟩⟩;simp only[go_sem,t0,t1,t2,t6,t7,t30,t31];refine⟨rfl,by omega,?_,?_,fun j E=>?_,fun b hb hn=>?_⟩
    .exact(En nx (by omega) (by omega)).trans ((b8 nx (by omega)).trans sn)
    .exact(En bR (by omega) (yu j9)).trans ((b8 bR (by omega)).trans sR)
    .by_cases b5:j=i
     .subst b5
      rw[<- FI];unfold Gq;rw[sO (by omega),acM (by omega),sQ YD,<- eW];exact F7
     .have O:rb[j]≠bi:=fun e=>b5 (by rw[FI]at e;exact(uX n8).mp e)
      have:=Fg j E;have e2:Gq D.R (BK D.R r k D.Bh) (i+1) j=Gq D.R (BK D.R r k D.Bh) i j:=by
       unfold Gq
       by_cases hq:j<i
       .rw[sO hq,sO (by omega)]
       .rw[sQ hq,sQ (by omega)]
      rw[e2];exact(rows j E).congr ((En _ (by omega) O).trans (b8 _ (by omega)))
    .exact(En b (by omega) fun e=>hn (by rw[e,FI];exact zu b2)).trans ((b8 b (by omega)).trans (frame b hb hn))) (by
   clear hL;rintro ⟨T,σ',nx'⟩ ⟨t0,t1,t2,t6,t7,t30,t31,t32,Y,sn,sR,rows,frame⟩;simp only at t0 t1 t2 t6 t7 t30 t31 t32 Y sn;refine⟨_,by simp only[go_sem,t31,t32,zi];rfl,by simp,_,_,_,rfl,?_⟩;simp only[go_sem,t0,t1,t2,t7];refine⟨Y,sn,fun j E=>?_,frame⟩;have:=rows j E;unfold Gq at this;rw[sO (by omega)]at this;exact this) (by
   simp only[go_sem];refine⟨by omega,j5,(c3 bR m9).trans i2,fun j E=>?_,fun b hb _=>c3 b hb⟩;unfold Gq;rw[sQ (by omega)];exact(h.row j E).congr (c3 _ (Fg j E)))
 have o5:zc Lr[k]=cZ (en D.R r k):=by
  have e1:=c9 k (by omega);have e2:=lz k (by omega);generalize Lr[k]=q at e1 e2;obtain⟨z,b⟩:=q;simp only at e1 e2;subst e1;cases b with
  |false=>rfl
  |true=>exact absurd (e2 rfl) hp
 rw[o5]at c4;obtain⟨p,ep⟩:∃p,p=en D.R r k:=⟨_,rfl⟩;rw[<- ep]at c4 hp;have e1:b9 bt=_:=(Kr bt TX fun e=>(n7 bt e).1 rfl).trans e9;have e2:b9 bb=_:=(Kr bb m7 fun e=>(n7 bb e).2.2.1 rfl).trans m6;have e3:b9 br=_:=(Kr br TY fun e=>(n7 br e).2.1 rfl).trans e8;have e4:b9 bf=_:=(Kr bf m8 fun e=>(n7 bf e).2.2.2 rfl).trans h.f;have hB:(CB D.B).length=D.R.length:=by rw[aA];exact hs.Bq
 have m1:r<((CB D.B).flatMap cI++MO).length:=by rw[zo,qN];omega
 have m2:((CB D.B).flatMap cI++MO).set r (I k)=(CB (D.B.set r k)).flatMap cI++MO:=by
  rw[List.set_append_left _ _ (by rw[qN];omega),qM];unfold CB;rw[List.map_set]
 have m3:∀a b c d e f:V,patch [a,b,c,d,e,f] 1 (cZ p)=[a,Bo (decide (p<0)),LI (dg p.natAbs),d,e,f]:=fun _ _ _ _ _ _=>rfl
 have m4:∀a b c d e f:V,patch [a,b,c,d,e,f] 1 (cZ (-p))=[a,Bo (decide (-p<0)),LI (dg (-p).natAbs),d,e,f]:=fun _ _ _ _ _ _=>rfl
 have d1:¬bt=nx:=by omega
 have d2:¬bb=nx:=by omega
 have d3:¬nx=bt:=by omega
 have d4:¬nx=bb:=by omega
 have d5:¬bb=bt:=fun e=>n2 e.symm
 have d6:¬bt=bb:=n2;have d7:¬br=bt:=fun e=>n1 e.symm
 have d8:¬br=bb:=n4;have k1:=kG p;obtain⟨s1,c5⟩:∃s1,s1=upd (upd b9 bt (some ⟨[.rs br 0 D.R.length,Bo (decide (p<0)),LI (dg p.natAbs),.rs bb 0 D.R.length,I N,.rs bf 0 N],0,true⟩)) bb (some ⟨(CB (D.B.set r k)).flatMap cI++MO,1,true⟩):=⟨_,rfl⟩;have k7:s1 bt=some ⟨[.rs br 0 D.R.length,Bo (decide (p<0)),LI (dg p.natAbs),.rs bb 0 D.R.length,I N,.rs bf 0 N],0,true⟩:=by rw[c5,Zk _ _ d6,Zj]
 have c0:∀b,b≠bt->b≠bb->s1 b=b9 b:=fun b h1 h2=>by rw[c5,Zk _ _ h2,Zk _ _ h1]
 have k8:s1 bb=some ⟨(CB (D.B.set r k)).flatMap cI++MO,1,true⟩:=by rw[c5,Zj]
 have j1:s1 nx=some ⟨cZ p,0,true⟩:=(c0 nx d3 d4).trans c4;have k9:s1 br=_:=(c0 br d7 d8).trans e3;have l2:∀j (E:j<rb.length),s1 rb[j]=b9 rb[j]:=fun j E=>by
  have:=n7 rb[j] (zu E);exact c0 _ this.1 this.2.2.1
 have pz:Gp D r k=if 0<p then ⟨BK D.R r k D.Bh,p,D.B.set r k,D.fr⟩else ⟨negR (BK D.R r k D.Bh),-p,D.B.set r k,D.fr⟩:=by unfold Gp;rw[ep]
 by_cases i0:0<p
 .have c1:Ar p 0=1:=by unfold Ar;rw[sQ (by omega),sQ (by omega)]
  rw[c1]at k1;have c2:(0:Int)<1:=by decide
  refine⟨s1,qI,by simp only[go_sem,t0,t1,t2,t7,e1,e2,c4,a1,a2,m1,m2,m3,d1,d2,d3,d4,d5,d6,k1,c2,<- c5,j1],?_,by omega,fun b hb h1 h2 h3=>by rw[c0 b h1 h2];exact Kr b hb h3⟩;rw[pz,sO i0];have pl:(BK D.R r k D.Bh).length=D.R.length:=P0;refine⟨by show s1 bt=some ⟨[.rs br 0 (BK D.R r k D.Bh).length,_,_,.rs bb 0 (BK D.R r k D.Bh).length,_,_],0,true⟩;rw[pl];exact k7,⟨P7,k9⟩,fun j E=>(j8 j E).congr (l2 j E),⟨MO,k8⟩,?_,by show rb.length=(BK D.R r k D.Bh).length;omega,h.nd⟩;rw[c0 bf (yu n3) (yu n6)];exact e4
 .have c1:Ar p 0= -1:=by unfold Ar;rw[sO (by omega)]
  rw[c1]at k1;have c2:¬(0:Int)< -1:=by decide
  have k2:=kH p;obtain⟨s2,h8⟩:∃s2,s2=upd s1 bt (some ⟨[.rs br 0 D.R.length,Bo (decide (-p<0)),LI (dg (-p).natAbs),.rs bb 0 D.R.length,I N,.rs bf 0 N],0,true⟩):=⟨_,rfl⟩;have m5:s2 bt=some ⟨[.rs br 0 D.R.length,Bo (decide (-p<0)),LI (dg (-p).natAbs),.rs bb 0 D.R.length,I N,.rs bf 0 N],0,true⟩:=by rw[h8,Zj]
  have e6:∀b,b≠bt->s2 b=s1 b:=fun b h1=>by rw[h8,Zk _ _ h1]
  have j2:s2 br=_:=(e6 br d7).trans k9;have pl:(BK D.R r k D.Bh).length=D.R.length:=P0;have o6:∀x∈BK D.R r k D.Bh,x.length=N+1:=Oc hs.row hr _;have nl:(negR (BK D.R r k D.Bh)).length=D.R.length:=by rw[Oa,pl]
  have j3:∀j,j<D.R.length->(Ee (BK D.R r k D.Bh) j).length=N+1:=fun j E=>by rw[dY (by omega)];exact o6 _ (zu (by omega))
  have o7:∀j,j<D.R.length->Ee (negR (BK D.R r k D.Bh)) j=(Ee (BK D.R r k D.Bh) j).map fun z=> -z:=fun j E=>by
   rw[dY (by omega),dY (by omega)];unfold negR;rw[yC]
  have p0:∀b,b<nx->b≠bt->b≠bb->b∉rb->s2 b=σ b:=fun b h0 h1 h2 h3=>by rw[e6 b h1,c0 b h1 h2];exact Kr b h0 h3
  rw[<- and_true (∃σ' nx',_)];refine⟨?_,trivial⟩;simp only[go_sem,t0,t1,t2,t7,e1,e2,c4,a1,a2,m1,m2,m3,d1,d2,d3,d4,d5,d6,k1,c2,<- c5,j1,k7,k2,m4,<- h8,m5,j2];clear k1 k2 m3 m4 c5 h8 c4 e1 e2 e3 j1 j5 c3 h5 t0 t1 t2 t7 j6 j7 a5 a6 a7;generalize hL:iI _ _=y;obtain⟨x,rfl,T2,σ2,rfl,EO,Ox⟩:=oZ hL D.R.length (fun i st=>st.T 107= .rs br 0 D.R.length/\st.T 108=I D.R.length/\st.T 109=I i/\st.nx=qI/\(∀j (E:j<rb.length),EI st.σ rb[j] (Gq (BK D.R r k D.Bh) (negR (BK D.R r k D.Bh)) i j))/\∀b,b∉rb->st.σ b=s2 b)
   (fun x=>∃T σ',x=(.exit 4,⟨T,σ',qI⟩)/\(∀j (E:j<rb.length),EI σ' rb[j] (Ee (negR (BK D.R r k D.Bh)) j))/\∀b,b∉rb->σ' b=s2 b) (by
    clear hL;rintro i ⟨T,σ',nx'⟩ hi ⟨t0,t1,t2,Y,rows,frame⟩;simp only at t0 t1 t2 Y;subst Y;have f1:(i:Int)<(D.R.length:Int):=by omega
    have f2:=jF i;have f3:=ZU (n:=(i:Int)+1);have b2:i<rb.length:=by omega
    obtain⟨bi,FI⟩:∃bi,bi=rb[i]:=⟨_,rfl⟩;have ni:=n7 bi (by rw[FI];exact zu b2);have f5:=g_ (ex:=P7) (n:=N+1) b2;rw[<- FI]at f5;have h6:σ' br=_:=(frame br fun e=>(n7 br e).2.1 rfl).trans j2;obtain⟨G,T_,Hl,Ua⟩:=rows i b2;have h7:σ' bi=some ⟨G.flatMap zc,2,true⟩:=by rw[FI];exact T_
    have e0:Gq (BK D.R r k D.Bh) (negR (BK D.R r k D.Bh)) i i=Ee (BK D.R r k D.Bh) i:=by unfold Gq;rw[sQ (by omega)]
    rw[e0]at Hl;have LX:G.length=N+1:=by have:=congrArg List.length Hl;rw[zT,j3 i hi]at this;exact this
    have iz:∀c (hc:c<G.length),(G[c]).2=true->(G[c]).1=0:=fun c hc=>Ua _ (zu hc)
    obtain⟨W,eW⟩:∃W,W=(Ee (BK D.R r k D.Bh) i).map fun z=> -z:=⟨_,rfl⟩
    have o0:W.length=N+1:=by rw[eW,zT,j3 i hi]
    have S:W.length=G.length:=by omega
    have i4:∀c (hc:c<N+1),W[c]'(by omega)= -(G[c]'(by omega)).1:=fun c hc=>by
     subst eW;obtain⟨_,e⟩:=QZ Hl (c:=c) (by rw[j3 i hi];exact hc);rw[yC,e]
    refine bD ?_
    conv=>
     enter [1,r,1,1]
     simp only[go_sem,t0,t1,t2,h6,f1,f2,f5]
    generalize hL:iI _ _=z
    obtain⟨x,rfl,T1,σ2,rfl,t0,t1,t2,En,F7⟩:=oZ hL (N+1) (fun c st=>st.T 107= .rs br 0 D.R.length/\st.T 108=I D.R.length/\st.T 109=I i/\st.T 14= .rs bi 0 (N+1)/\st.T 114=I ((N+1:Nat):Int)/\st.T 115=I c/\st.nx=nx' /\
      (∀b,b≠bi->st.σ b=σ' b)/\st.σ bi=some ⟨(newR W G c).flatMap zc,2,true⟩)
     (fun x=>∃T P8,x=(.exit 6,⟨T,P8,nx'⟩)/\T 107= .rs br 0 D.R.length/\T 108=I D.R.length/\T 109=I i/\(∀b,b≠bi->P8 b=σ' b)/\EI P8 bi W) (by
      clear hL;rintro c ⟨T,σ2,m0⟩ hc ⟨t0,t1,t2,t14,c7,e7,b3,En,F7⟩;simp only at t0 t1 t2 t14 c7 e7 b3 F7;subst b3;have g1:(c:Int)<((N+1:Nat):Int):=by omega
      have g2:=jF c;have g3:=ZU (n:=(c:Int)+1);have g4:=d_ (c:=zc) (s:=2) ZP (newR W G c) c (by rw[jE S (by omega)];omega);rw[XD S (by omega)]at g4;have g5:=bZ (c:=zc) (s:=2) ZP (newR W G c);rw[jE S (by omega),LX]at g5;have g6:c*2+2<=(N+1)*2:=by omega
      have z1:∀σ d,stripL (strip σ d) (zc G[c])=some (cZ (G[c]).1,[]):=fun σ d=>ZO σ d (iz c (by omega))
      have k1:=kH (G[c]).1;have c6:patch ((newR W G c).flatMap zc) (c*2) (cZ (-(G[c]).1))=(newR W G (c+1)).flatMap zc:=by
       rw[<- acL,iE ZP _ _ (by rw[jE S (by omega)];omega),<- i4 c hc,Ov S (by omega)]
      refine .inl ⟨_,by simp only[go_sem,t0,t1,t2,t14,c7,e7,F7,g1,g2,g3,g4,g5,g6,z1,k1,c6];rfl,?_⟩;simp only[go_sem,t0,t1,t2,t14,c7];refine⟨rfl,fun b O=>?_⟩;rw[Zk _ _ O];exact En b O) (by
      clear hL;rintro ⟨T,σ2,m0⟩ ⟨t0,t1,t2,t14,c7,e7,b3,En,F7⟩;simp only at t0 t1 t2 t14 c7 e7 b3 F7;subst b3;refine⟨_,by simp only[go_sem,c7,e7,zi];rfl,by simp,_,_,rfl,?_⟩;simp only[go_sem,t0,t1,t2];exact⟨En,XE S (by rw[LX];exact F7)⟩) (by
      simp only[go_sem,t0,t1,t2];refine⟨fun _ _=>trivial,?_⟩;rw[Kq];exact h7)
    refine⟨_,by simp only[go_sem,t2,f3];rfl,.inl ⟨_,rfl,?_⟩⟩;simp only[go_sem,t0,t1];refine⟨rfl,fun j E=>?_,fun b hn=>?_⟩
    .by_cases b5:j=i
     .subst b5
      rw[<- FI];unfold Gq;rw[sO (by omega),o7 j (by omega),<- eW];exact F7
     .have O:rb[j]≠bi:=fun e=>b5 (by rw[FI]at e;exact(uX n8).mp e)
      have e2:Gq (BK D.R r k D.Bh) (negR (BK D.R r k D.Bh)) (i+1) j=Gq (BK D.R r k D.Bh) (negR (BK D.R r k D.Bh)) i j:=by
       unfold Gq
       by_cases hq:j<i
       .rw[sO hq,sO (by omega)]
       .rw[sQ hq,sQ (by omega)]
      rw[e2];exact(rows j E).congr (En _ O)
    .exact(En b fun e=>hn (by rw[e,FI];exact zu b2)).trans (frame b hn)) (by
    clear hL;rintro ⟨T,σ',nx'⟩ ⟨t0,t1,t2,Y,rows,frame⟩;simp only at t0 t1 t2 Y;subst Y;refine⟨_,by simp only[go_sem,t1,t2,zi];rfl,by simp,_,_,rfl,fun j E=>?_,frame⟩;have:=rows j E;unfold Gq at this;rw[sO (by omega)]at this;exact this) (by
    simp only[go_sem];refine⟨fun j E=>?_,fun _ _=>trivial⟩;unfold Gq;rw[sQ (by omega)];exact(j8 j E).congr ((e6 _ (n7 _ (zu E)).1).trans (l2 j E)))
  refine⟨σ2,qI,by simp only[go_sem],?_,by omega,fun b hb h1 h2 h3=>by rw[Ox b h3];exact p0 b hb h1 h2 h3⟩;rw[pz,sQ i0];have o1:bt∉rb:=fun e=>(n7 bt e).1 rfl
  have o2:br∉rb:=fun e=>(n7 br e).2.1 rfl
  have o3:bb∉rb:=fun e=>(n7 bb e).2.2.1 rfl
  have o4:bf∉rb:=fun e=>(n7 bf e).2.2.2 rfl
  refine⟨by show σ2 bt=some ⟨[.rs br 0 (negR (BK D.R r k D.Bh)).length,_,_,.rs bb 0 (negR (BK D.R r k D.Bh)).length,_,_],0,true⟩;rw[nl,Ox bt o1];exact m5,⟨P7,by rw[Ox br o2];exact j2⟩,EO,⟨MO,by rw[Ox bb o3,e6 bb d5];exact k8⟩,?_,by show rb.length=(negR (BK D.R r k D.Bh)).length;omega,h.nd⟩;rw[Ox bf o4,e6 bf (yu n3),c0 bf (yu n3) (yu n6)];exact e4
theorem b_{f:V->Option (V×List Nat)}:∀ {a b E b':List V} {i j:List Nat},stripL f a=some (E,i)->stripL f b=some (b',j)->stripL f (a++b)=some (E++b',i++j)
 |[],b,E,b',i,j,h,h'=>by
  rw[aY]at h;simp only[sW,sS]at h;obtain⟨rfl,rfl⟩:=h;exact h'
 |v :: a,b,E,b',i,j,h,h'=>by
  rw[au]at h;cases G:f v with
  |none=>rw[G]at h;cases h
  |some p=>
   cases ha:stripL f a with
   |none=>rw[G,ha]at h;cases h
   |some q=>
    rw[G,ha]at h;simp only[zk,zJ,sW,sS]at h;obtain⟨rfl,rfl⟩:=h;rw[yR,au,G,b_ ha h'];simp
theorem XF(σ:Store)(d:Nat):∀L:List (Int×Bool),(∀p∈L,p.2=true->p.1=0)->stripL (strip σ d) (L.flatMap zc)=some ((L.map (·.1)).flatMap cZ,[])
 |[],_=>rfl
 |p :: L,h=>by
  rw[zG,uN,zG];have:=b_ (ZO σ d (h p zO)) (XF σ d L fun q E=>h q (zY _ E));exact this
theorem afa{σ:Store}{b n:Nat}{G:List Int}(h:EI σ b G)(J:G.length=n)(d:Nat):strip σ (d+1) (.rs b 0 n)=some (LL cZ G,[b]):=by
 obtain⟨L,Y,O,h3⟩:=h;have S:L.length=n:=by rw[<- J,<- O,zT]
 have E:=bZ (c:=zc) (s:=2) ZP L;rw[aS,Y];simp only[zk,yZ,yg];rw[sO (by rw[E,S];exact zq _),zl (by rw[E,S];exact zq _),XF σ d L h3,O];show some (V.ts _ n,[b])=_;rw[<- J]
theorem Oy{σ:Store}{n d:Nat}:∀ {rb:List Nat} {R:List (List Int)},rb.length=R.length->(∀i (h:i<rb.length),EI σ rb[i] (Ee R i))->(∀x∈R,x.length=n)->∃ids,stripL (strip σ (d+1)) (rb.map fun b=>V.rs b 0 n)=some (R.flatMap aa6,ids)
 |[],[],_,_,_=>⟨[],rfl⟩
 |[],_ :: _,h,_,_=>by simp at h
 |_ :: _,[],h,_,_=>by simp at h
 |b :: rb,x :: R,h,hr,hn=>by
  obtain⟨ids,hi⟩:=Oy (rb:=rb) (R:=R) (d:=d) (by simpa using h) (fun i hi=>by
   have:=hr (i+1) (by simpa using hi);exact this) fun y E=>hn y (zY _ E)
  have G:EI σ b x:=hr 0 (by simp);refine⟨[b]++ids,?_⟩;rw[uN,au,afa G (hn x zO) d];simp only[zk];rw[hi];rfl
theorem ah4(σ:Store)(d:Nat)(E:List Bool):stripL (strip σ d) (E.flatMap Ia)=some (E.flatMap Ia,[]) :=
 aX (fun b=>by rw[au,aQ,aY];rfl) E
def acN:=bZ (c:=Ia) (s:=1) (fun _=>rfl)
theorem Q5{σ:Store}{bt br bb bf:Nat}{rb:List Nat}{D:TZ}{N:Nat}(h:DU σ bt br bb bf rb D N)(hs:Xw D N):∃ids,strip σ 7 (.rp bt 0)=some (ahW D N,ids):=by
 obtain⟨P7,G⟩:=h.r;obtain⟨MO,J⟩:=h.b;obtain⟨ids,E⟩:=Oy (d:=4) h.len h.row hs.row;have O:(CB D.B).length=D.R.length:=by rw[aA];exact hs.Bq
 have Y:strip σ 6 (.rs br 0 D.R.length)=some (LL aa6 D.R,br :: ids):=by
  rw[aS,G];simp only[zk,yN,yZ,yg];rw[sO (by rw[zo,zT,h.len];omega),xG (by rw[zT,h.len]),E];rfl
 have s2:strip σ 6 (.rs bb 0 D.R.length)=some (LI (CB D.B),[bb]):=by
  rw[aS,J];simp only[zk,yN,yZ,yg];rw[sO (by rw[zo,qN,O];omega),xG (by rw[qN,O]),Dt,<- O];rfl
 have S:(D.fr.flatMap Ia).length=N:=by rw[acN,yN,hs.Xx]
 have s3:strip σ 6 (.rs bf 0 N)=some (LL Ia D.fr,[bf]):=by
  rw[aS,h.f];simp only[zk,yN,yZ,yg];rw[sO (by rw[S];exact zq _),zl (by rw[S];exact zq _),ah4];show some (V.ts _ N,[bf])=_;rw[<- hs.Xx]
 have key:stripL (strip σ 6) [.rs br 0 D.R.length,Bo (decide (D.Bh<0)),LI (dg D.Bh.natAbs),.rs bb 0 D.R.length,I N,.rs bf 0 N]=some (Xv D N,(br :: ids)++([]++([]++([bb]++([]++([bf]++[])))))):=by
  simp only[au,Y,s2,s3,aQ,aN,aY,zJ,zk];rfl
 exact⟨_,by rw[ND,h.t,zk,key];rfl⟩
theorem Lh{σ:Store}{bt br bb bf:Nat}{rb:List Nat}{D:TZ}{N:Nat}(h:DU σ bt br bb bf rb D N)(hs:Xw D N)(d:Nat):strip σ (d+1) (.rs bb 0 D.R.length)=some (LI (CB D.B),[bb]):=by
 obtain⟨J,E⟩:=h.b;have G:(CB D.B).length=D.R.length:=by rw[aA];exact hs.Bq
 rw[aS,E];simp only[zk,yN,yZ,yg];rw[sO (by rw[zo,qN,G];omega),xG (by rw[qN,G]),Dt,<- G];rfl
theorem ay2(xs:List Int)(m:Int)(h:xs.length<=1000000):fn ZM conv ext 136 [LI xs,I m]=some (I (ix (fun x=>m==x) xs)):=by
 rw[mJ,nC [.tmp 4] [] func136];simp only[go_sem];generalize Y:iI _ _=y;obtain⟨r,rfl,hr⟩:=oZ Y xs.length (fun k st=>st.T 0=LI xs/\st.T 1=I m/\st.T 7=I xs.length/\st.T 8=I k/\∀i (h:i<xs.length),i<k->(m==xs[i])=false)
  (fun r=>(∃T σ nx,r=(.exit 0,⟨T,σ,nx⟩)/\ix (fun x=>m==x) xs= -1)\/(∃T σ nx,r=(.ret,⟨T,σ,nx⟩)/\T 4=I (ix (fun x=>m==x) xs))) (by
   clear Y;rintro k ⟨T,σ,nx⟩ E ⟨O,S,G,J,hi⟩;simp only at O S G J;have f1:(k:Int)<(xs.length:Int):=by omega
   have f2:=jF k;have f3:=ZU (n:=(k:Int)+1);have f5:=Ba xs k E;have f6:=idx E;cases hp:(m==xs[k])with
   |true=>
    refine .inr ⟨_,by simp only[go_sem,O,S,G,J,f1,f2,f5,f6,hp];rfl,by simp,.inr ⟨_,_,_,rfl,?_⟩⟩;simp only[go_sem];rw[kC E hi hp]
   |false=>
    refine .inl ⟨_,by simp only[go_sem,O,S,G,J,f1,f2,f3,f5,f6,hp];rfl,?_⟩;simp only[go_sem,O,S,G];exact⟨rfl,jv E hi hp⟩) (by
   clear Y;rintro ⟨T,σ,nx⟩ ⟨O,S,G,J,hi⟩;simp only at G J;exact⟨_,by simp only[go_sem,G,J,zi];rfl,by simp,.inl ⟨_,_,_,rfl,jw fun i h=>hi i h h⟩⟩) (by
   simp only[go_sem];exact fun i _ h=>absurd h (zW _))
 rcases hr with ⟨T,σ,nx,rfl,hx⟩|⟨T,σ,nx,rfl,hx⟩
 .simp only[go_sem,hx]
 .simp only[go_sem,hx]
theorem apD(xs:List Int)(m:Int)(h:xs.length<=1000000):fn ZM conv ext 102 [LI xs,I m]=some (Bo (decide (m∈xs))):=by
 have E:=ay2 xs m h;have e:decide (0<=ix (fun x=>m==x) xs)=decide (m∈xs):=by
  rw[decide_eq_decide];constructor
  .intro J
   refine zf fun hn=>?_
   have:=(KW (fun x=>m==x) xs).mpr fun x G=>by
    rw[sN];intro e;subst e;exact hn G
   omega
  .intro hm
   refine Int.not_lt.mp fun hn=>?_
   have:=(KW (fun x=>m==x) xs).mp hn m hm;simp at this
 rw[mJ,nC [.tmp 4] [] func102]
 by_cases hc:0<=ix (fun x=>m==x) xs
 .rw[sJ hc]at e
  simp only[go_sem,E,hc,<- e]
 .rw[sH hc]at e
  simp only[go_sem,E,hc,<- e]
theorem MP{B:List Nat}{k:Nat}:(k:Int)∈CB B↔k∈B:=by
 unfold CB;rw[List.mem_map];constructor
 .rintro ⟨j,E,e⟩
  have:j=k:=by omega
  subst this;exact E
 .intro h;exact⟨k,h,rfl⟩
def EM(D:TZ)(o:Nat->Int)(j:Nat):Bool:=D.fr.getD j false && !(!decide (j∈D.B) && decide (BI D o j<0))
def P9(D:TZ)(o:Nat->Int)(k:Nat):List Bool:=(List.range D.fr.length).map fun j=>if j<k then EM D o j else D.fr.getD j false
theorem mD(D:TZ)(o:Nat->Int)(k:Nat):(P9 D o k).length=D.fr.length:=by simp[P9]
theorem mF(D:TZ)(o:Nat->Int){k j:Nat}(h:j<D.fr.length):(P9 D o k)[j]'(by rw[mD];exact h)=if j<k then EM D o j else D.fr.getD j false:=by
 simp[P9]
theorem ah5(D:TZ)(o:Nat->Int):P9 D o 0=D.fr:=by
 apply yQ
 .rw[mD]
 .intro i G E
  rw[mF D o E,sQ (by omega),zx,zy E];rfl
theorem acO(D:TZ)(o:Nat->Int){k:Nat}(h:k<D.fr.length):(P9 D o k).set k (EM D o k)=P9 D o (k+1):=by
 apply yQ
 .rw[yP,mD,mD]
 .intro i J E
  rw[mD]at E;rw[wW,mF D o E,mF D o E]
  by_cases e:k=i
  .subst e;rw[sO rfl,sO (by omega)]
  .rw[sQ e]
   by_cases G:i<k
   .rw[sO G,sO (by omega)]
   .rw[sQ G,sQ (by omega)]
theorem ah6(D:TZ)(o:Nat->Int){k:Nat}(h:k<D.fr.length)(hb:EM D o k=D.fr.getD k false):P9 D o k=P9 D o (k+1):=by
 rw[<- acO D o h,hb];apply yQ
 .rw[yP]
 .intro i E G
  rw[wW]
  split
  .rename_i e;subst e;rw[mF D o h,sQ (by omega)]
  .rfl
theorem aty(D:TZ)(o:Nat->Int){N:Nat}(h:D.fr.length=N):frZ N o D (P9 D o N):=by
 refine⟨mD D o N,fun j E=>?_⟩;have e:(P9 D o N).getD j false=EM D o j:=by
  rw[zx,zy (by rw[mD];omega),yG,mF D o (by omega),sO E]
 rw[e];unfold EM;cases D.fr.getD j false with
 |false=>simp
 |true=>
  by_cases hb:j∈D.B<;>by_cases G:BI D o j<0<;>simp[hb,G]
theorem Ub(xs:List Bool)(k:Nat)(b:Bool):(xs.flatMap Ia).set k (Bo b)=(xs.set k b).flatMap Ia:=by
 induction xs generalizing k with
 |nil=>rfl
 |cons x xs E=>
  cases k with
  |zero=>rfl
  |succ k=>
   show Bo x :: (xs.flatMap Ia).set k (Bo b)=Bo x :: (xs.set k b).flatMap Ia;rw[E]
theorem Xw.free{D:TZ}{N:Nat}(h:Xw D N){fr:List Bool}(E:fr.length=N):Xw { D with fr:=fr } N:=⟨h.row,h.Bq,h.Gz,E,h.sz,h.big,h.Bh,h.inB⟩
theorem DU.free{σ σ':Store}{bt br bb bf:Nat}{rb:List Nat}{D:TZ}{N:Nat}(h:DU σ bt br bb bf rb D N){fr:List Bool}(O:σ' bf=some ⟨fr.flatMap Ia,1,true⟩)(E:∀b,b≠bf->σ' b=σ b):DU σ' bt br bb bf rb { D with fr:=fr } N:=by
 obtain⟨n1,n2,S,n4,Y,n6,n7,n8⟩:=nd4 h.nd;obtain⟨P7,G⟩:=h.r;obtain⟨MO,J⟩:=h.b;exact⟨(E bt S).trans h.t,⟨P7,(E br Y).trans G⟩,fun i hi=>(h.row i hi).congr (E _ (n7 _ (zu hi)).2.2.2),⟨MO,(E bb n6).trans J⟩,O,h.len,h.nd⟩
theorem kJ{σ:Store}{b:Nat}{xs:List Int}(h:σ b=some ⟨xs.flatMap cI,1,true⟩){n:Nat}(hn:xs.length=n)(d:Nat):strip σ (d+1) (.rs b 0 n)=some (LI xs,[b]):=by
 rw[aS,h];simp only[zk,yN,yZ,yg,qN];rw[sO (by omega),zl (by rw[qN];omega),Dt];show some (V.ts _ n,[b])=_;rw[<- hn]
def Obj(o:List Int)(N:Nat):Prop:=o.length=N/\∀x∈o,-1000000<=x/\x<=1000000
abbrev oF(o:List Int)(j:Nat):Int:=o.getD j 0
theorem atz(Qp:TZ->Prop){N:Nat}{o:List Int}(hI:∀D,Qp D->Xw D N/\0<D.Bh)(c4:∀D D',Qp D->Fb N (oF o) D D'->Qp D')(ho:Obj o N)
  {σ:Store} {nx bt br bb bf bo:Nat} {rb:List Nat} {D:TZ} {n:Nat} (e9:Qp D) (hn:I8 N (oF o) n D) (h:DU σ bt br bb bf rb D N) (h0:∀b∈bt :: br :: bb :: bf :: rb,b<nx) (e2:σ bo=some ⟨o.flatMap cI,1,true⟩) (e3:bo<nx) (h4:bo∉bt :: br :: bb :: bf :: rb) :
  ∃σ' nx' e4 D',ev ZM Aa Ak 144 [.rp bt 0,.rs bo 0 N] σ nx=some (Bo e4,σ',nx')/\TN N (oF o) D e4 D'/\DU σ' bt br bb bf rb D' N/\nx<=nx'/\∀b,b<nx->b∉bt :: bb :: bf :: rb->σ' b=σ b:=by
 have c3:=ho.1;have c5:bo∉bt :: bb :: bf :: rb:=fun e=>h4 (by
  simp only[zX]at e⊢;rcases e with e|e|e|e<;>simp[e])
 rw[nC [.tmp 4] [] func144];simp only[go_sem];generalize hL:iI _ _=y
 obtain⟨x,rfl,hx⟩:=jS hL (fun m st=>st.T 0= .rp bt 0/\st.T 1= .rs bo 0 N/\nx<=st.nx/\(∀b,b<nx->b∉bt :: bb :: bf :: rb->st.σ b=σ b)/\∃D1,Fe N (oF o) D D1/\Qp D1/\DU st.σ bt br bb bf rb D1 N /\
   ((st.T 5=Bo true/\∃m',m=m'+1/\I8 N (oF o) m' D1)\/(st.T 5=Bo false/\∀j,j<N->D1.fr.getD j false=true->j∉D1.B->¬0<BI D1 (oF o) j)))
  (fun x=>∃T σ' nx',nx<=nx'/\(∀b,b<nx->b∉bt :: bb :: bf :: rb->σ' b=σ b)/\∃D1,Fe N (oF o) D D1/\Qp D1/\DU σ' bt br bb bf rb D1 N /\
   ((x=(.ret,⟨T,σ',nx'⟩)/\T 4=Bo false/\∃s,I7 N D1 (oF o) s/\∀i,i<D1.R.length->¬0<en D1.R i s)\/(x=(.exit 0,⟨T,σ',nx'⟩)/\T 0= .rp bt 0/\T 1= .rs bo 0 N/\∀j,j<N->D1.fr.getD j false=true->j∉D1.B->¬0<BI D1 (oF o) j))) (by
   clear hL;rintro m ⟨T,O,qI⟩ ⟨t0,t1,S,fr,D1,hr,a8,hT,h5⟩;simp only at t0 t1 S hT h5;obtain⟨hS,e5⟩:=hI D1 a8;have a7:=hT.t;rcases h5 with ⟨t5,m',rfl,e6⟩|⟨t5,b7⟩
   .have hlen:=hT.len
    obtain⟨n1,n2,n3,n4,n5,n6,n7,n8⟩:=nd4 hT.nd;have h6:=hS.sz;have c8:O bo=_:=(fr bo e3 c5).trans e2;obtain⟨ids,b4⟩:=Q5 hT hS;have a6:=Lh hT hS 6;have b5:=kJ c8 c3 6;have YI:=hT.f;refine bD ?_
    conv=>
     enter [1,r,1,1]
     simp only[go_sem,t0,t1,t5,a7]
    generalize hL:iI _ _=z;obtain⟨x,rfl,T1,σ2,CU,E,hx⟩:=oZ hL N (fun k st=>st.T 0= .rp bt 0/\st.T 1= .rs bo 0 N/\st.T 5=Bo false/\st.T 13=I N/\st.T 14=I k/\st.σ=O/\st.nx=qI/\∀j,j<k->D1.fr.getD j false=true->j∉D1.B->¬0<BI D1 (oF o) j)
     (fun x=>∃T σ2 CU,qI<=CU/\((x=(.exit 2,⟨T,σ2,CU⟩)/\T 0= .rp bt 0/\T 1= .rs bo 0 N/\T 5=Bo false/\σ2=O/\∀j,j<N->D1.fr.getD j false=true->j∉D1.B->¬0<BI D1 (oF o) j) \/
      (x=(.exit 2,⟨T,σ2,CU⟩)/\T 0= .rp bt 0/\T 1= .rs bo 0 N/\T 5=Bo true/\∃D2,Fb N (oF o) D1 D2/\DU σ2 bt br bb bf rb D2 N/\∀b,b<qI->b∉bt :: bb :: bf :: rb->σ2 b=O b) \/
      (x=(.ret,⟨T,σ2,CU⟩)/\T 4=Bo false/\σ2=O/\∃s,I7 N D1 (oF o) s/\∀i,i<D1.R.length->¬0<en D1.R i s))) (by
      clear hL;rintro k ⟨T,σ2,CU⟩ hk ⟨t0,t1,t5,t13,t14,b8,E,a1⟩;simp only at t0 t1 t5 t13 t14 b8 E;subst b8 E;have f1:(k:Int)<(N:Int):=by omega
      have f2:=jF k;have f3:=ZU (n:=(k:Int)+1);have b6:k<D1.fr.length:=by rw[hS.Xx];exact hk
      have f4:=cu Bo D1.fr k b6;have b2:(D1.fr.flatMap Ia)[k]?=some (Bo (D1.fr.getD k false)):=by
       rw[zx,zy b6];exact f4
      have k1:=apD (CB D1.B) k (by rw[aA,hS.Bq];have:=hS.Gz;omega);have k2:=anz D1 N hS o c3 ho.2 k hk;have step:∀(b9:¬(D1.fr.getD k false=true/\k∉D1.B/\0<BI D1 (oF o) k)),∀j,j<k+1->D1.fr.getD j false=true->j∉D1.B->¬0<BI D1 (oF o) j:=fun b9 j hj h1 h2 h3=>by
       by_cases e:j=k
       .subst e;exact b9 ⟨h1,h2,h3⟩
       .exact a1 j (by omega) h1 h2 h3
      cases G:D1.fr.getD k false with
      |false=>
       rw[G]at b2;refine .inl ⟨_,by simp only[go_sem,t0,t1,t5,t13,t14,a7,YI,f1,f2,f3,b2];rfl,?_⟩;simp only[go_sem,t0,t1,t5,t13];exact⟨rfl,step fun h=>by rw[G]at h;cases h.1⟩
      |true=>
       rw[G]at b2
       by_cases hm:k∈D1.B
       .rw[sJ (MP.mpr hm)]at k1
        refine .inl ⟨_,by simp only[go_sem,t0,t1,t5,t13,t14,a7,YI,f1,f2,f3,b2,a6,k1];rfl,?_⟩;simp only[go_sem,t0,t1,t5,t13];exact⟨rfl,step fun h=>h.2.1 hm⟩
       .rw[sH (mt MP.mp hm)]at k1
        by_cases hg:0<BI D1 (oF o) k
        .have c1:¬Ar (BI D1 (oF o) k) 0<=0:=fun e=>(pG _).mp e hg
         have b3:I7 N D1 (oF o) k:=⟨hk,G,hm,hg,fun j hj=>a1 j hj⟩;obtain⟨r,k3,hb⟩:=ahX D1 N hS k hk;rcases hb with ⟨rfl,hb⟩|⟨r',rfl,e7,h7,h8,h9⟩
         .have c2:(-1:Int)<0:=by decide
          refine .inr ⟨_,by simp only[go_sem,t0,t1,t5,t13,t14,a7,YI,f1,f2,f3,b2,a6,k1,b4,b5,k2,c1,k3,c2];rfl,by simp,_,_,_,zq _,.inr (.inr ⟨rfl,?_⟩)⟩;simp only[go_sem];exact⟨k,b3,hb⟩
         .have c2:¬(r':Int)<0:=by omega
          obtain⟨i3,AA,k4,Oz,i0,i1⟩:=ah1 hT hS (fun b hb=>xQ (h0 b hb) S) e7 hk (by omega) (by omega);refine .inr ⟨_,by simp only[go_sem,qE,t0,t1,t5,t13,t14,a7,YI,f1,f2,f3,b2,a6,k1,b4,b5,k2,c1,k3,c2,k4];rfl,by simp,_,_,_,i0,.inr (.inl ⟨rfl,?_⟩)⟩;simp only[go_sem,t0,t1];refine⟨_,⟨k,r',b3,⟨e7,h7,fun i hi hp=>h8 i hi hp,fun i hi hp he=>h9 i hi hp he⟩,rfl⟩,Oz,fun b hb Y=>?_⟩;simp only[zX,not_or]at Y;exact i1 b hb Y.1 Y.2.1 Y.2.2.2
        .have c1:Ar (BI D1 (oF o) k) 0<=0:=(pG _).mpr hg
         refine .inl ⟨_,by simp only[go_sem,t0,t1,t5,t13,t14,a7,YI,f1,f2,f3,b2,a6,k1,b4,b5,k2,c1];rfl,?_⟩;simp only[go_sem,t0,t1,t5,t13];exact⟨rfl,step fun h=>hg h.2.2⟩) (by
      clear hL;rintro ⟨T,σ2,CU⟩ ⟨t0,t1,t5,t13,t14,b8,E,a1⟩;simp only at t0 t1 t5 t13 t14 b8 E;subst b8 E;refine⟨_,by simp only[go_sem,t13,t14,zi];rfl,by simp,_,_,_,zq _,.inl ⟨rfl,?_⟩⟩;simp only[go_sem,t0,t1,t5];exact a1) (by
      simp only[go_sem,t0,t1];exact fun j hj=>absurd hj (zW j))
    rcases hx with ⟨rfl,t0,t1,t5,rfl,a1⟩|⟨rfl,t0,t1,t5,D2,c9,c0,e0⟩|⟨rfl,t4,rfl,Gx⟩
    .refine⟨_,by simp only[go_sem],.inl ⟨⟨T1,_,CU⟩,rfl,m',by omega,t0,t1,zL S E,fr,D1,hr,a8,hT,.inr ⟨t5,a1⟩⟩⟩
    .cases m' with
     |zero=>exact absurd e6 id
     |succ e8=>
      refine⟨_,by simp only[go_sem],.inl ⟨⟨T1,_,CU⟩,rfl,e8+1,by omega,t0,t1,zL S E,fun b hb Y=>?_,D2,hr.tail c9,c4 _ _ a8 c9,c0,.inl ⟨t5,e8,rfl,e6 D2 c9⟩⟩⟩;exact(e0 b (xQ hb S) Y).trans (fr b hb Y)
    .refine⟨_,by simp only[go_sem],.inr ⟨by simp,_,_,CU,zL S E,fr,D1,hr,a8,hT,.inl ⟨rfl,t4,Gx⟩⟩⟩
   .refine .inr ⟨_,by simp only[go_sem,t5];rfl,by simp,_,O,qI,S,fr,D1,hr,a8,hT,.inr ⟨rfl,?_⟩⟩
    simp only[go_sem,t0,t1];exact b7) (n+1) (by
   simp only[go_sem];exact⟨fun _ _ _=>trivial,D,Fe.refl D,e9,h,.inl ⟨n,rfl,hn⟩⟩)
 obtain⟨T1,O,qI,S,fr,D1,hr,a8,hT,hx⟩:=hx;obtain⟨hS,e5⟩:=hI D1 a8;rcases hx with ⟨rfl,t4,s,b3,Gx⟩|⟨rfl,t0,t1,b7⟩
 .exact⟨O,qI,false,D1,by simp only[go_sem,t4],⟨D1,hr,.inr ⟨rfl,rfl,s,b3,Gx⟩⟩,hT,S,fr⟩
 .have a7:=hT.t
  have hlen:=hT.len;obtain⟨n1,n2,n3,n4,n5,n6,n7,n8⟩:=nd4 hT.nd;have h6:=hS.sz;simp only[go_sem,t0,a7];generalize hL:iI _ _=z;obtain⟨x,rfl,T2,σ2,rfl,e0,J⟩:=oZ hL N (fun k st=>st.T 0= .rp bt 0/\st.T 1= .rs bo 0 N/\st.T 53=I N/\st.T 54=I k/\st.nx=qI/\st.σ bf=some ⟨(P9 D1 (oF o) k).flatMap Ia,1,true⟩/\∀b,b≠bf->st.σ b=O b)
   (fun x=>∃T σ2,x=(.exit 4,⟨T,σ2,qI⟩)/\σ2 bf=some ⟨(P9 D1 (oF o) N).flatMap Ia,1,true⟩/\∀b,b≠bf->σ2 b=O b) (by
    clear hL;rintro k ⟨T,σ2,CU⟩ hk ⟨t0,t1,t53,t54,E,YI,J⟩;simp only at t0 t1 t53 t54 E YI;subst E;have hl:(P9 D1 (oF o) k).length=N:=by rw[mD];exact hS.Xx
    have c0:=hT.free YI J;have e1:=hS.free hl;have OA:=c0.t;obtain⟨ids,b4⟩:=Q5 c0 e1;have a6:=Lh c0 e1 6;have c8:σ2 bo=_:=(J bo fun e=>c5 (by simp[e])).trans ((fr bo e3 c5).trans e2);have b5:=kJ c8 c3 6;have f1:(k:Int)<(N:Int):=by omega
    have f2:=jF k;have f3:=ZU (n:=(k:Int)+1);have b6:k<D1.fr.length:=by rw[hS.Xx];exact hk
    have f4:((P9 D1 (oF o) k).flatMap Ia)[k]?=some (Bo (D1.fr.getD k false)):=by
     rw[cu Bo (P9 D1 (oF o) k) k (by omega),mF _ _ b6,sQ (by omega)]
    have f5:k<((P9 D1 (oF o) k).flatMap Ia).length:=by rw[acN,hl];omega
    have k1:=apD (CB D1.B) k (by rw[aA,hS.Bq];have:=hS.Gz;omega);have k2:=anz _ N e1 o c3 ho.2 k hk;have eg:BI { D1 with fr:=P9 D1 (oF o) k } (fun j=>o.getD j 0) k=BI D1 (oF o) k:=rfl;rw[eg]at k2;simp only at OA a6;have keep:EM D1 (oF o) k=D1.fr.getD k false->σ2 bf=some ⟨(P9 D1 (oF o) (k+1)).flatMap Ia,1,true⟩:=fun h=>by rw[<- ah6 _ _ b6 h];exact YI
    cases G:D1.fr.getD k false with
    |false=>
     rw[G]at f4;refine .inl ⟨_,by simp only[go_sem,t0,t1,t53,t54,OA,YI,f1,f2,f3,f4];rfl,?_⟩;simp only[go_sem,t0,t1,t53];exact⟨rfl,keep (by unfold EM;rw[G];rfl),J⟩
    |true=>
     rw[G]at f4
     by_cases hm:k∈D1.B
     .rw[sJ (MP.mpr hm)]at k1
      refine .inl ⟨_,by simp only[go_sem,t0,t1,t53,t54,OA,YI,f1,f2,f3,f4,a6,k1];rfl,?_⟩;simp only[go_sem,t0,t1,t53];exact⟨rfl,keep (by unfold EM;rw[G,sJ hm];rfl),J⟩
     .rw[sH (mt MP.mp hm)]at k1
      by_cases hg:BI D1 (oF o) k<0
      .have c1:Ar (BI D1 (oF o) k) 0<0:=(cmp_neg _).mpr hg
       have c6:=Ub (P9 D1 (oF o) k) k false;have c7:=acO D1 (oF o) b6;have i2:EM D1 (oF o) k=false:=by unfold EM;rw[G,sH hm,sJ hg];rfl
       rw[i2]at c7;rw[c7]at c6;refine .inl ⟨_,by simp only[go_sem,t0,t1,t53,t54,OA,YI,f1,f2,f3,f4,f5,a6,k1,b4,b5,k2,c1,c6];rfl,?_⟩;simp only[go_sem,t0,t1,t53];refine⟨rfl,fun b hb=>?_⟩;rw[Zk _ _ hb];exact J b hb
      .have c1:¬Ar (BI D1 (oF o) k) 0<0:=fun e=>hg ((cmp_neg _).mp e)
       refine .inl ⟨_,by simp only[go_sem,t0,t1,t53,t54,OA,YI,f1,f2,f3,f4,a6,k1,b4,b5,k2,c1];rfl,?_⟩;simp only[go_sem,t0,t1,t53];exact⟨rfl,keep (by unfold EM;rw[G,sH hm,sH hg];rfl),J⟩) (by
    clear hL;rintro ⟨T,σ2,CU⟩ ⟨t0,t1,t53,t54,E,YI,J⟩;simp only at t0 t1 t53 t54 E YI;subst E;exact⟨_,by simp only[go_sem,t53,t54,zi];rfl,by simp,_,_,rfl,YI,J⟩) (by
    simp only[go_sem,t0,t1];refine⟨?_,fun _ _=>trivial⟩;rw[ah5];exact hT.f)
  refine⟨σ2,qI,true,_,by simp only[go_sem],⟨D1,hr,.inl ⟨rfl,b7,P9 D1 (oF o) N,aty _ _ hS.Xx,rfl⟩⟩,hT.free e0 J,S,fun b hb Y=>?_⟩;rw[J b fun e=>Y (by simp[e])];exact fr b hb Y
section
variable {P:Program} {conv:FuncId->Conv} {call:TV.Call} (d:Option Tmp) (ty:TypeId) (ps:String) (af:Array Edge) (gd:Option (Nat×Bool)) (T:Nat->V) (σ:Store) (nx:Nat)
theorem aa_(t:TypeId)(x:Operand)(lo hi E:Option Operand):Ad conv T σ ⟨d,.slice t x lo hi E,ty,ps,af,gd⟩=Ae (val T x):=rfl
theorem alS(t:TypeId)(x:Operand)(lo hi E:Option Operand):writer conv ⟨d,.slice t x lo hi E,ty,ps,af,gd⟩=false:=rfl
theorem NM(s x:Operand)(ts:Array TypeId):writer conv ⟨d,.call ⟨.builtin .append,#[s,x],ts⟩,ty,ps,af,gd⟩=true:=rfl
def Uc(P:Program)(σ:Store)(nx:Nat)(t:TypeId)(lo hi E:Option V):V->Option V
 | .rs b off len=>if b<nx then AY P t (.rs b off len) lo hi E σ else none
 |v=>if((Ae v).all fun b=>decide (b<nx))=true then AY P t v lo hi E (restrict σ (Ae v))else none
theorem afb(t:TypeId)(x:Operand)(lo hi E:Option Operand):Ai P conv call ⟨d,.slice t x lo hi E,ty,ps,af,gd⟩ T σ nx=(Uc P σ nx t (lo.map (val T)) (hi.map (val T)) (E.map (val T)) (val T x)).map (·,σ,nx):=by
 rw[nP (F:=Ae (val T x)) T σ nx rfl (fun _=>rfl)];show(if((Ae (val T x)).all fun b=>decide (b<nx))=true then match(AY P t (val T x) (lo.map (val T)) (hi.map (val T)) (E.map (val T)) (restrict σ (Ae (val T x)))).map (·,restrict σ (Ae (val T x)),nx)with|some (v,σ1,qI)=>some (v,yI (Ae (val T x)) nx qI σ σ1,qI)|none=>none else none)=_;generalize val T x=v;have gen:(if((Ae v).all fun b=>decide (b<nx))=true then match(AY P t v (lo.map (val T)) (hi.map (val T)) (E.map (val T)) (restrict σ (Ae v))).map (·,restrict σ (Ae v),nx)with|some (w,σ1,qI)=>some (w,yI (Ae v) nx qI σ σ1,qI)|none=>none else none)=(if((Ae v).all fun b=>decide (b<nx))=true then AY P t v (lo.map (val T)) (hi.map (val T)) (E.map (val T)) (restrict σ (Ae v))else none).map (·,σ,nx):=by
  split
  .cases AY P t v (lo.map (val T)) (hi.map (val T)) (E.map (val T)) (restrict σ (Ae v))with
   |none=>rfl
   |some w=>simp only[zJ,iK]
  .rfl
 rw[gen];cases v with
 |rs b off len=>
  have key:AY P t (.rs b off len) (lo.map (val T)) (hi.map (val T)) (E.map (val T)) (restrict σ [b])=AY P t (.rs b off len) (lo.map (val T)) (hi.map (val T)) (E.map (val T)) σ:=by
   unfold AY restrict;simp
  simp only[Ae,vY,w_,uj,decide_eq_true_eq,Uc,key]
 |_=>rfl
theorem afc(t:TypeId)(lo hi E:Option V)(b off len:Nat):Uc P σ nx t lo hi E (.rs b off len)=if b<nx then AY P t (.rs b off len) lo hi E σ else none:=rfl
def atA(F:List Nat)(σ:Store)(nx:Nat):KF->KF
 |some (v,σ1,qI)=>some (v,yI F nx qI σ σ1,qI)
 |none=>none
theorem afd(F:List Nat)(v:V)(E:Store)(G:Nat):atA F σ nx (some (v,E,G))=some (v,yI F nx G σ E,G):=rfl
end
attribute [go_sem] aa_ alS KU NM afb afc NK afd wF
theorem fJ(σ:Store)(b:Nat):restrict σ [b,b] b=σ b:=by unfold restrict;simp
theorem P_(σ:Store)(b nx:Nat)(x:Option Fv):yI [b,b] nx nx σ (upd (restrict σ [b,b]) b x)=upd σ b x:=by
 funext i;unfold yI upd restrict
 by_cases h:i=b
 .simp[h]
 .rw[sQ (by simp only[zX,zK,or_false,or_self,h,false_or];omega),sQ h]
theorem fM(σ:Store)(b:Nat):restrict σ [b] b=σ b:=by unfold restrict;simp
theorem qy(σ:Store)(nx size bytes b off len:Nat)(row:List V)(m:Nat):Ah σ nx size bytes (.rs b off len) row m=(σ b).bind fun B=>if m=0 then some (.rs b off len,σ,nx)else
      if off+(len+m)*size<=B.cells.length then
    if B.wr=true/\B.st=size/\row.all vI=true then some (.rs b off (len+m),upd σ b (some { B with cells:=patch B.cells (off+len*size) row }),nx)else none
      else if off+len*size=B.cells.length/\B.st=size/\len+m<=maxLen/\(len+m)*bytes<=140737488355328/\row.all vI=true then
    some (.rs nx 0 (len+m),upd (upd σ b none) nx (some ⟨B.cells.drop off++row,size,B.wr⟩),nx+1)
      else none:=by
 cases h:σ b with
 |none=>simp only[Ah,h];rfl
 |some B=>simp only[Ah,h];rfl
theorem aa'(σ:Store)(b nx:Nat):yI [b] nx nx σ (restrict σ [b])=σ:=by
 funext i;unfold yI restrict
 by_cases h:i=b
 .simp[h]
 .rw[sQ (by simp only[yD,h,false_or];omega)]
theorem ah7(σ:Store)(nx size bytes b off len:Nat)(row:List V){B:Fv}(h:σ b=some B):Ah σ nx size bytes (.rs b off len) row 0=some (.rs b off len,σ,nx):=by
 unfold Ah;simp only[h,if_true]
theorem apH{σ:Store}{nx bytes b len m:Nat}{row cells:List V}(h:σ b=some ⟨cells,1,true⟩)(hm:m≠0)(G:len+m<=cells.length)(E:row.all vI=true) :
  Ah σ nx 1 bytes (.rs b 0 len) row m=some (.rs b 0 (len+m),upd σ b (some ⟨patch cells len row,1,true⟩),nx):=by
 unfold Ah;simp only[h];rw[sQ hm,sO (by omega),sO ⟨by trivial,by trivial,E⟩];simp
attribute [go_sem] fJ fM qy P_ aa'
theorem iG(L ex:List V){i m:Nat}(hm:L.length=m)(hi:i<m)(J:m - (i+1)≠0):∃E,patch (L++ex) i (L.drop (i+1))=L.eraseIdx i++E:=by
 have G:(L.drop (i+1)).length=m - (i+1):=by rw[zC,hm]
 rw[iH _ _ _ (by rw[G,zo,hm];omega)];refine⟨(L++ex).drop (i+(m - (i+1))),?_⟩;rw[G,uf (by omega),tN]
theorem OB(L ex:List V){i:Nat}(h:i+1=L.length):∃E,L++ex=L.eraseIdx i++E:=by
 refine⟨L.drop i++ex,?_⟩;rw[tN,yA (l:=L) (i:=i+1) (by omega),zH,<- yw,vB]
theorem jO{α β:Type}(f:α->β)(l:List α)(i:Nat):(l.map f).eraseIdx i=(l.eraseIdx i).map f:=by
 induction l generalizing i with
 |nil=>rfl
 |cons a l E=>cases i with
  |zero=>rfl
  |succ i=>show f a :: (l.map f).eraseIdx i=_;rw[E];rfl
def Q7(D:TZ)(i:Nat):TZ:={ D with R:=D.R.eraseIdx i,B:=D.B.eraseIdx i }
theorem DU.dropped{σ σ':Store}{bt br bb bf:Nat}{rb:List Nat}{D:TZ}{N i:Nat}(h:DU σ bt br bb bf rb D N)(hi:i<D.R.length)(a1:D.B.length=D.R.length)
  (ht:σ' bt=some ⟨[.rs br 0 (D.R.length-1),Bo (decide (D.Bh<0)),LI (dg D.Bh.natAbs),.rs bb 0 (D.R.length-1),I N,.rs bf 0 N],0,true⟩)
  (E:∃ex,σ' br=some ⟨(rb.map (fun b=>V.rs b 0 (N+1))).eraseIdx i++ex,1,true⟩) (hb:∃ex,σ' bb=some ⟨((CB D.B).flatMap cI).eraseIdx i++ex,1,true⟩) (Y:∀b,b≠bt->b≠br->b≠bb->σ' b=σ b) :
  DU σ' bt br bb bf (rb.eraseIdx i) (Q7 D i) N:=by
 obtain⟨n1,n2,n3,n4,n5,n6,n7,n8⟩:=nd4 h.nd;have hl:(D.R.eraseIdx i).length=D.R.length-1:=yH hi;have hlen:=h.len;obtain⟨G,E⟩:=E;obtain⟨J,hb⟩:=hb;refine⟨?_,⟨G,?_⟩,fun j O=>?_,⟨J,?_⟩,?_,?_,?_⟩
 .show σ' bt=some ⟨[.rs br 0 (D.R.eraseIdx i).length,_,_,.rs bb 0 (D.R.eraseIdx i).length,_,_],0,true⟩
  rw[hl];exact ht
 .rw[E,jO]
 .have a6:j<rb.length-1:=by rw[yH (by omega)]at O;exact O
  have e:Ee (D.R.eraseIdx i) j=Ee D.R (if j<i then j else j+1):=by
   unfold Ee;rw[lJ]
  show EI σ' (rb.eraseIdx i)[j] (Ee (D.R.eraseIdx i) j);have S:(if j<i then j else j+1)<rb.length:=by split<;>omega
  have e2:(rb.eraseIdx i)[j]=rb[if j<i then j else j+1]:=by
   have:(rb.eraseIdx i)[j]?=rb[if j<i then j else j+1]?:=by
    rw[List.getElem?_eraseIdx];split<;>rfl
   rw[zy O,zy S]at this;exact Option.some.inj this
  rw[e,e2];have hn:=n7 _ (zu S);exact(h.row _ S).congr (Y _ hn.1 hn.2.1 hn.2.2.1)
 .rw[hb]
  have:((CB D.B).flatMap cI).eraseIdx i=(CB (D.B.eraseIdx i)).flatMap cI:=by
   have e1:∀xs:List Int,xs.flatMap cI=xs.map I:=fun xs=>by
    induction xs with
    |nil=>rfl
    |cons x xs ih=>rw[zG,ih];rfl
   rw[e1,e1,jO];unfold CB;rw[jO]
  rw[this];rfl
 .rw[Y bf (yu n3) (yu n5) (yu n6)];exact h.f
 .show(rb.eraseIdx i).length=(D.R.eraseIdx i).length
  rw[hl,yH (by omega),hlen]
 .exact h.nd.sublist ((((su rb i).cons_cons bf).cons_cons bb).cons_cons br|>.cons_cons bt)
theorem apI(Qp:TZ->Prop){N n:Nat}(hQ:∀D,Qp D->Xw D N/\0<D.Bh)(h6:n<=N)(h1:∀D i k,Qp D->i<D.R.length->n<=D.B.getD i 0->k<n->en D.R i k≠0->Qp (Gp D i k))
  (h2:∀D i,Qp D->i<D.R.length->n<=D.B.getD i 0->(∀k,k<n->en D.R i k=0)->Qp (Q7 D i))
  {σ:Store} {nx bt br bb bf:Nat} {rb:List Nat} {D:TZ} (hD:Qp D) (h:DU σ bt br bb bf rb D N) (c9:∀b∈bt :: br :: bb :: bf :: rb,b<nx) :
  ∃σ' nx' Ib D',ev ZM Aa Ak 170 [.rp bt 0,I n] σ nx=some (.AX [],σ',nx')/\DU σ' bt br bb bf Ib D' N/\nx<=nx'/\Qp D'/\(∀i,i<D'.R.length->D'.B.getD i 0<n)/\Ib.Sublist rb/\∀b,b<nx->b∉bt :: br :: bb :: rb->σ' b=σ b:=by
 rw[nC [] [10,11] func170];simp only[go_sem];generalize hL:iI _ _=y;obtain⟨x,rfl,T',σ',nx',Ib,D',rfl,hT,S,e0,b9,G,a6⟩:=jS hL (fun m st=>st.T 0= .rp bt 0/\st.T 1=I n/\nx<=st.nx/\∃i Ib D',st.T 4=I ((i:Nat):Int)/\m+i=D'.R.length/\DU st.σ bt br bb bf Ib D' N/\Qp D'/\(∀j,j<i->D'.B.getD j 0<n)/\Ib.Sublist rb/\∀b,b<nx->b∉bt :: br :: bb :: rb->st.σ b=σ b)
  (fun x=>∃T σ' nx' Ib D',x=(.exit 0,⟨T,σ',nx'⟩)/\DU σ' bt br bb bf Ib D' N/\nx<=nx'/\Qp D'/\(∀i,i<D'.R.length->D'.B.getD i 0<n)/\Ib.Sublist rb/\∀b,b<nx->b∉bt :: br :: bb :: rb->σ' b=σ b) (by
   clear hL;rintro m ⟨T,Y,qI⟩ ⟨t0,t1,S,i,O,D1,t4,h7,hT,Vd,a1,G,a6⟩;simp only at t0 t1 t4 S hT;obtain⟨hS,h5⟩:=hQ D1 Vd;have a7:=hT.t;have hR:=hS.Gz;have hlen:=hT.len;obtain⟨P7,b2⟩:=hT.r;obtain⟨MO,b3⟩:=hT.b;have hB:(CB D1.B).length=D1.R.length:=by rw[aA];exact hS.Bq
   have a8:∀b∈bt :: br :: bb :: bf :: O,b<qI:=fun b hb=>by
    refine xQ (c9 b ?_) S;simp only[zX]at hb⊢;rcases hb with h|h|h|h|h
    .exact .inl h
    .exact .inr (.inl h)
    .exact .inr (.inr (.inl h))
    .exact .inr (.inr (.inr (.inl h)))
    .exact .inr (.inr (.inr (.inr (G.subset h))))
   obtain⟨n1,n2,n3,n4,n5,n6,n7,n8⟩:=nd4 hT.nd
   by_cases hi:i<D1.R.length
   .have f1:(i:Int)<(D1.R.length:Int):=by omega
    have f2:=jF i;have f3:=ZU (n:=(i:Int)+1);have f4:((CB D1.B).flatMap cI++MO)[i]?=some (I ((D1.B.getD i 0:Nat):Int)):=by
     rw[zU (by rw[qN];omega),idx (by omega),aB (by have:=hS.Bq;omega)]
    by_cases hb:D1.B.getD i 0<n
    .have f5:((D1.B.getD i 0:Nat):Int)<(n:Int):=by omega
     refine .inl ⟨_,by simp only[go_sem,t0,t1,t4,a7,b3,f1,f2,f3,f4,f5];rfl,m-1,by omega,?_⟩;simp only[go_sem,t0,t1];refine⟨S,i+1,O,D1,rfl,by omega,hT,Vd,fun j hj=>?_,G,a6⟩
     by_cases e:j=i
     .subst e;exact hb
     .exact a1 j (by omega)
    .have f5:¬((D1.B.getD i 0:Nat):Int)<(n:Int):=by omega
     have c0:i<O.length:=by omega
     have f6:=g_ (ex:=P7) (n:=N+1) c0;obtain⟨bi,FI⟩:∃bi,bi=O[i]:=⟨_,rfl⟩;rw[<- FI]at f6;obtain⟨Li,T_,Hl,Ua⟩:=hT.row i c0;have c4:Y bi=some ⟨Li.flatMap zc,2,true⟩:=by rw[FI];exact T_
     have rl:(Ee D1.R i).length=N+1:=by rw[dY hi];exact hS.row _ (zu hi)
     have LX:Li.length=N+1:=by have:=congrArg List.length Hl;rw[zT,rl]at this;exact this
     have b7:=bZ (c:=zc) (s:=2) ZP Li;rw[LX]at b7;refine bD ?_
     conv=>
      enter [1,r,1,1]
      simp only[go_sem,t0,t1,t4,a7,b3,f1,f2,f4,f5]
     generalize hL:iI _ _=z;obtain⟨x,rfl,T1,k,rfl,t0,t1,t4,t5,h8,hz,c5⟩:=jS hL (fun q st=>st.T 0= .rp bt 0/\st.T 1=I n/\st.T 4=I i/\st.σ=Y/\st.nx=qI/\∃k,st.T 5=I ((k:Nat):Int)/\q+k=n/\∀j,j<k->en D1.R i j=0)
      (fun x=>∃T k,x=(.exit 2,⟨T,Y,qI⟩)/\T 0= .rp bt 0/\T 1=I n/\T 4=I i/\T 5=I ((k:Nat):Int)/\k<=n/\(∀j,j<k->en D1.R i j=0)/\(k<n->en D1.R i k≠0)) (by
       clear hL;rintro q ⟨T,σ2,CU⟩ ⟨t0,t1,t4,c6,c7,k,t5,h9,hz⟩;simp only at t0 t1 t4 t5 c6 c7;subst c6 c7
       by_cases hk:k<n
       .have g1:(k:Int)<(n:Int):=by omega
        have g2:=jF k;have i0:=hS.sz;have g3:=ZU (n:=(k:Int)+1);have g4:=d_ (c:=zc) (s:=2) ZP Li k (by omega);have g5:k*2+2<=(N+1)*2:=by omega
        have g6:(k:Int)<((N+1:Nat):Int):=by omega
        obtain⟨hq,e⟩:=QZ Hl (c:=k) (by rw[rl];omega);have e2:(Ee D1.R i)[k]'(by rw[rl];omega)=en D1.R i k:=by
         unfold en;rw[zx,zy];rfl
        have z1:∀σ d,stripL (strip σ d) (zc Li[k])=some (cZ (en D1.R i k),[]):=fun σ d=>by
         rw[ZO σ d (Ua _ (zu hq)),e,e2]
        have k1:=kG (en D1.R i k);have c1:=Ot (en D1.R i k)
        by_cases b5:en D1.R i k=0
        .rw[sJ b5]at c1
         refine .inl ⟨_,by simp only[go_sem,t0,t1,t4,t5,a7,b2,c4,f1,f2,f6,g1,g2,g3,g4,g5,g6,b7,z1,k1,c1];rfl,q-1,by omega,?_⟩;simp only[go_sem,t0,t1,t4];refine⟨k+1,rfl,by omega,fun j hj=>?_⟩
         by_cases e:j=k
         .subst e;exact b5
         .exact hz j (by omega)
        .rw[sH b5]at c1
         refine .inr ⟨_,by simp only[go_sem,t0,t1,t4,t5,a7,b2,c4,f1,f2,f6,g1,g2,g3,g4,g5,g6,b7,z1,k1,c1];rfl,by simp,_,k,rfl,?_⟩;simp only[go_sem,t0,t1,t4,t5];exact⟨by omega,hz,fun _=>b5⟩
       .have g1:¬(k:Int)<(n:Int):=by omega
        refine .inr ⟨_,by simp only[go_sem,t1,t5,g1];rfl,by simp,_,k,rfl,?_⟩;simp only[go_sem,t0,t1,t4,t5];exact⟨by omega,hz,fun h=>absurd h hk⟩) n (by
       simp only[go_sem,t0,t1,t4];exact⟨0,rfl,by omega,fun j hj=>absurd hj (zW j)⟩)
     by_cases hk:k<n
     .have g1:(k:Int)<(n:Int):=by omega
      obtain⟨i1,AA,k4,Oz,i2,e3⟩:=ah1 hT hS a8 hi (by omega) (c5 hk) (by omega);have b6:=h1 D1 i k Vd hi (by omega) hk (c5 hk);have b8:(Gp D1 i k).R.length=D1.R.length:=by
       unfold Gp
       split
       .exact gy ..
       .show(negR _).length=_;rw[Oa,gy]
      have e4:(Gp D1 i k).B=D1.B.set i k:=by unfold Gp;split<;>rfl
      refine⟨_,by simp only[go_sem,qE,t0,t1,t4,t5,g1,f3,k4];rfl,.inl ⟨_,rfl,m-1,by omega,?_⟩⟩;simp only[go_sem,t0,t1];refine⟨by omega,i+1,O,_,rfl,by omega,Oz,b6,fun j hj=>?_,G,fun b b4 E=>?_⟩
      .rw[e4,lD (by have:=hS.Bq;omega)]
       by_cases e:j=i
       .rw[sO e];exact hk
       .rw[sQ e];exact a1 j (by omega)
      .simp only[zX,not_or]at E
       exact(e3 b (by omega) E.1 E.2.2.1 fun e=>E.2.2.2 (G.subset e)).trans (a6 b b4 (by simp only[zX,not_or];exact E))
     .have g1:¬(k:Int)<(n:Int):=by omega
      have hzero:∀j,j<n->en D1.R i j=0:=fun j hj=>hz j (by omega)
      have b6:=h2 D1 i Vd hi (by omega) hzero;have g2:(0:Int)<=(i:Int)+1:=by omega
      have c8:D1.B.length=D1.R.length:=hS.Bq;have h3:restrict Y [br,br] br=_:=(fJ Y br).trans b2;have h4:restrict Y [bb,bb] bb=_:=(fJ Y bb).trans b3;have p1:bt<qI:=a8 bt (by simp);have p2:br<qI:=a8 br (by simp);have p3:bb<qI:=a8 bb (by simp);have p4:(i:Int)+1<=(D1.R.length:Int):=by omega
      have p5:(i:Int)<=(D1.R.length:Int):=by omega
      have q0:(O.map (fun b=>V.rs b 0 (N+1))).length=D1.R.length:=by rw[zT,hlen]
      have q1:i<=(O.map (fun b=>V.rs b 0 (N+1))++P7).length:=by rw[zo,q0];omega
      have q2:D1.R.length<=(O.map (fun b=>V.rs b 0 (N+1))++P7).length:=by rw[zo,q0];omega
      have q3:i<=((CB D1.B).flatMap cI++MO).length:=by rw[zo,qN];omega
      have q4:D1.R.length<=((CB D1.B).flatMap cI++MO).length:=by rw[zo,qN];omega
      have q5:((i:Int)+1).toNat=i+1:=by omega
      have b8:(Q7 D1 i).R.length=D1.R.length-1:=yH hi;have w1:(bt==br)=false:=beq_eq_false_iff_ne.mpr n1;have w2:(br==bt)=false:=beq_eq_false_iff_ne.mpr (yu n1);have w3:(bt==bb)=false:=beq_eq_false_iff_ne.mpr n2;have w4:(bb==bt)=false:=beq_eq_false_iff_ne.mpr (yu n2);have v1:¬bb=bt:=yu n2;have v2:¬bb=br:=yu n4;have v3:¬br=bt:=yu n1
      by_cases J:i+1=D1.R.length
      .have q6:i+1<=D1.R.length:=by omega
       have q7:¬D1.R.length=0:=by omega
       refine⟨_,by simp only[go_sem,t0,t1,t4,t5,g1,g2,f1,f2,f3,a7,b2,b3,h3,h4,q1,q2,q3,q4,q5,q6,q7,J,v1,v2,v3,w1,w2,w3,w4,p1,p2,p3,p4,p5,n1,n2,n3,n4,n5,n6];rfl,.inl ⟨_,rfl,m-1,by omega,?_⟩⟩;simp only[go_sem,t0,t1,t4];refine⟨S,i,O.eraseIdx i,Q7 D1 i,rfl,by rw[b8];omega,?_,b6,fun j hj=>?_,(su O i).trans G,fun b b4 E=>?_⟩
       .refine DU.dropped hT hi c8 (by rw[Zj,<- J];rfl)
         (by
          obtain⟨e1,he⟩:=OB (O.map (fun b=>V.rs b 0 (N+1))) P7 (i:=i) (by rw[q0];exact J);exact⟨e1,by rw[Zk _ _ v3,b2,he]⟩)
         (by
          obtain⟨e1,he⟩:=OB ((CB D1.B).flatMap cI) MO (i:=i) (by rw[qN,hB];exact J);exact⟨e1,by rw[Zk _ _ v1,b3,he]⟩) fun b c1 c2 c3=>Zk _ _ c1
       .show(D1.B.eraseIdx i).getD j 0<n
        rw[lJ,sO hj];exact a1 j hj
       .simp only[zX,not_or]at E
        rw[Zk _ _ E.1];exact a6 b b4 (by simp only[zX,not_or];exact E)
      .have q6:i+1<=D1.R.length:=by omega
       have q7:¬D1.R.length - (i+1)=0:=by omega
       have q8:i+(D1.R.length - (i+1))<=(O.map (fun b=>V.rs b 0 (N+1))++P7).length:=by rw[zo,q0];omega
       have q9:i+(D1.R.length - (i+1))<=((CB D1.B).flatMap cI++MO).length:=by rw[zo,qN];omega
       have e5:i+1+(D1.R.length - (i+1))<=(O.map (fun b=>V.rs b 0 (N+1))++P7).length:=by rw[zo,q0];omega
       have e6:i+1+(D1.R.length - (i+1))<=((CB D1.B).flatMap cI++MO).length:=by rw[zo,qN];omega
       have e7:((O.map (fun b=>V.rs b 0 (N+1))++P7).drop (i+1)).take (D1.R.length - (i+1))=(O.map (fun b=>V.rs b 0 (N+1))).drop (i+1):=by
        rw[ug (by rw[q0];omega),uf (by rw[zC,q0];omega),zl (by rw[zC,q0];omega)]
       have e8:(((CB D1.B).flatMap cI++MO).drop (i+1)).take (D1.R.length - (i+1))=((CB D1.B).flatMap cI).drop (i+1):=by
        rw[ug (by rw[qN];omega),uf (by rw[zC,qN];omega),zl (by rw[zC,qN];omega)]
       have e9:((O.map (fun b=>V.rs b 0 (N+1))).drop (i+1)).all vI=true:=by
        rw[wV];intro v hv;obtain⟨b,-,rfl⟩:=List.mem_map.mp (uJ hv);rfl
       have h0:(((CB D1.B).flatMap cI).drop (i+1)).all vI=true:=by
        rw[wV];intro v hv;obtain⟨b,-,hv⟩:=List.mem_flatMap.mp (uJ hv);rw[List.mem_singleton.mp hv];rfl
       refine⟨_,by simp only[go_sem,t0,t1,t4,t5,g1,g2,f1,f2,f3,a7,b2,b3,h3,h4,q1,q2,q3,q4,q5,q6,q7,q8,q9,e5,e6,e7,e8,e9,h0,J,v1,v2,v3,w1,w2,w3,w4,p1,p2,p3,p4,p5,n1,n2,n3,n4,n5,n6];rfl,.inl ⟨_,rfl,m-1,by omega,?_⟩⟩;simp only[go_sem,t0,t1,t4];refine⟨S,i,O.eraseIdx i,Q7 D1 i,rfl,by rw[b8];omega,?_,b6,fun j hj=>?_,(su O i).trans G,fun b b4 E=>?_⟩
       .refine DU.dropped hT hi c8 ?_ ?_ ?_ fun b c1 c2 c3=>by rw[Zk _ _ c1,Zk _ _ c3,Zk _ _ c1,Zk _ _ c2]
        .rw[Zj,show i+(D1.R.length - (i+1))=D1.R.length-1 by omega]
        .obtain⟨e1,he⟩:=iG (O.map (fun b=>V.rs b 0 (N+1))) P7 (i:=i) q0 hi q7
         exact⟨e1,by rw[Zk _ _ v3,Zk _ _ n4,Zk _ _ v3,Zj,he]⟩
        .obtain⟨e1,he⟩:=iG ((CB D1.B).flatMap cI) MO (i:=i) (by rw[qN,hB]) hi q7
         exact⟨e1,by rw[Zk _ _ v1,Zj,he]⟩
       .show(D1.B.eraseIdx i).getD j 0<n
        rw[lJ,sO hj];exact a1 j hj
       .simp only[zX,not_or]at E
        rw[Zk _ _ E.1,Zk _ _ E.2.2.1,Zk _ _ E.1,Zk _ _ E.2.1];exact a6 b b4 (by simp only[zX,not_or];exact E)
   .have f1:¬(i:Int)<(D1.R.length:Int):=by omega
    refine .inr ⟨_,by simp only[go_sem,t0,t4,a7,f1];rfl,by simp,_,Y,qI,O,D1,rfl,hT,S,Vd,fun j hj=>a1 j (by omega),G,a6⟩) D.R.length (by
   simp only[go_sem];exact⟨0,rb,D,rfl,by omega,h,hD,fun j hj=>absurd hj (zW j),List.Sublist.refl _,fun _ _ _=>trivial⟩)
 exact⟨σ',nx',Ib,D',by simp only[go_sem],hT,S,e0,b9,G,a6⟩
section
variable {P:Program} {conv:FuncId->Conv} {call:TV.Call} (d:Option Tmp) (ty:TypeId) (ps:String) (af:Array Edge) (gd:Option (Nat×Bool)) (T:Nat->V) (σ:Store) (nx:Nat)
theorem OC(t:TypeId)(l c:Operand):Ad conv T σ ⟨d,.makeSlice t l c,ty,ps,af,gd⟩=[]:=rfl
theorem XG(t:TypeId)(l c:Operand):writer conv ⟨d,.makeSlice t l c,ty,ps,af,gd⟩=false:=rfl
theorem Qa(t:TypeId)(l c:Operand):Ai P conv call ⟨d,.makeSlice t l c,ty,ps,af,gd⟩ T σ nx=EZ P t (val T l) (val T c) σ nx:=by
 generalize E:EZ P t (val T l) (val T c) (fun _=>none) nx=r;have key:∀σ,EZ P t (val T l) (val T c) σ nx=(r.map fun p=>((p.2.1 nx).elim ([],0,p.1) fun B=>(B.cells,B.st,p.1))).map fun p=>(p.2.2,Au σ nx p.1 p.2.1,nx+1):=fun σ=>by
  rw[<- E];unfold EZ
  split
  .split
   .split
    .split
     .simp only[zJ,Au,Zj];rfl
     .rfl
    .rfl
   .rfl
  .rfl
 have:=IB (P:=P) (conv:=conv) (call:=call) (o:=⟨d,.makeSlice t l c,ty,ps,af,gd⟩) T σ nx rfl fun σ=>(Iy d ty ps af gd T σ nx t l c).trans (key σ)
 exact this.trans (key σ).symm
theorem LY(t:TypeId)(x:Operand)(h:(xI P t).slice=true)(E:(xI P t).SA=true)(hs:(xI P t).Hf=1)(G:(xI P t).Es.length=1)(hc:vI (val T x)=true) :
  Ai P conv call ⟨d,.buildSlice t 1 #[(0,x)],ty,ps,af,gd⟩ T σ nx=some (.rs nx 0 1,upd σ nx (some ⟨[val T x],1,true⟩),nx+1):=by
 have:=IB (P:=P) (conv:=conv) (call:=call) (o:=⟨d,.buildSlice t 1 #[(0,x)],ty,ps,af,gd⟩) (m:=some ([val T x],1,V.rs nx 0 1)) T σ nx rfl fun σ=>iU d ty ps af gd T σ nx t x h E hs G hc
 exact this
theorem afe(t:TypeId)(lo hi E:Option V)(row:List V)(len:Nat):Uc P σ nx t lo hi E (.ts row len)=AY P t (.ts row len) lo hi E σ:=by
 show(if(([]:List Nat).all fun b=>decide (b<nx))=true then AY P t (.ts row len) lo hi E (restrict σ [])else none)=_;rw[w_,sO rfl];unfold AY;rfl
end
attribute [go_sem] afe OC XG Qa LY
theorem XH(xs:List Int):∀k,(xs.flatMap cI).drop k=(xs.drop k).flatMap cI:=by
 induction xs with
 |nil=>intro k;simp
 |cons x xs E=>intro k;cases k with
  |zero=>rfl
  |succ k=>exact E k
def C9(m n:Nat)(A b c:List Int):List V:=[I m,I n,LI A,LI b,LI c]
theorem atB{m n:Nat}{A b c:List Int}(hA:A.length=m*n)(hm:m<=1000)(hn:n<=1000){i:Nat}(hi:i<m) :
  fn ZM conv ext 168 [.tp (C9 m n A b c) 0,I i]=some (.ts (((A.drop (i*n)).take n).flatMap cI) n):=by
 have J:i*n<=m*n:=zD _ (by omega);have O:(i+1)*n<=m*n:=zD _ (by omega);have S:m*n<=1000*1000:=xK hm hn;have E:(i:Int)*(n:Int)=((i*n:Nat):Int):=by push_cast;rfl
 have G:((i:Int)+1)*(n:Int)=(((i+1)*n:Nat):Int):=by push_cast;rfl
 have f1:=ZU (n:=((i*n:Nat):Int));have f2:=ZU (n:=(((i+1)*n:Nat):Int)) (by omega) (by omega);have f3:=ZU (n:=(i:Int)+1);have f4:i*n<=(i+1)*n:=zD _ (by omega);have f5:(i+1)*n<=A.length:=by omega
 have f6:(0:Int)<=((i*n:Nat):Int):=by omega
 have f7:(0:Int)<=(((i+1)*n:Nat):Int):=by omega
 have f8:(i+1)*n-i*n=n:=by rw[xq];omega
 unfold C9;rw[mJ,nC [.tmp 4] [] func168];simp only[go_sem,E,G,f1,f2,f3,f4,f5,f6,f7,f8];rw[XH,qL]
theorem fO(σ:Store)(b x:Nat):restrict σ [b,x] b=σ b:=by unfold restrict;simp
theorem fK(σ:Store)(b x:Nat):restrict σ [b,x] x=σ x:=by unfold restrict;simp
theorem aff(σ:Store)(b x nx:Nat)(v:Option Fv):yI [b,x] nx (nx+1) σ (upd (upd (restrict σ [b,x]) b none) nx v)=upd (upd σ b none) nx v:=by
 funext i;unfold yI upd restrict
 by_cases h:i=nx
 .subst h;simp
 .by_cases E:i=b
  .subst E;simp[h]
  .by_cases G:i=x
   .subst G;simp[h,E]
   .rw[sQ (by simp only[zX,zK,or_false];omega),sQ h,sQ E]
theorem abb(σ:Store)(x nx:Nat)(v:Option Fv):yI [x] nx (nx+1) σ (upd (restrict σ [x]) nx v)=upd σ nx v:=by
 funext i;unfold yI upd restrict
 by_cases h:i=nx
 .subst h;simp
 .by_cases E:i=x
  .subst E;simp[h]
  .rw[sQ (by simp only[zX,zK,or_false];omega),sQ h]
attribute [go_sem] fO fK aff abb
def pm{α:Type}(f g:Nat->α)(k N:Nat):List α:=(List.range N).map fun j=>if j<k then f j else g j
theorem gq{α:Type}(f g:Nat->α)(k N:Nat):(pm f g k N).length=N:=by simp[pm]
theorem Ud{α:Type}(f g:Nat->α){k N j:Nat}(h:j<N):(pm f g k N)[j]'(by rw[gq];exact h)=if j<k then f j else g j:=by simp[pm]
theorem OD{α:Type}(f g:Nat->α){k N:Nat}(h:k<N):(pm f g k N).set k (f k)=pm f g (k+1) N:=by
 apply yQ
 .rw[yP,gq,gq]
 .intro j J E
  rw[gq]at E;rw[wW,Ud _ _ E,Ud _ _ E]
  by_cases e:k=j
  .subst e;rw[sO rfl,sO (by omega)]
  .rw[sQ e]
   by_cases G:j<k
   .rw[sO G,sO (by omega)]
   .rw[sQ G,sQ (by omega)]
theorem Ue{α:Type}(f g:Nat->α){k N:Nat}(h:f k=g k):pm f g k N=pm f g (k+1) N:=by
 apply yQ
 .rw[gq,gq]
 .intro j J E
  rw[gq]at E;rw[Ud _ _ E,Ud _ _ E]
  by_cases G:j<k
  .rw[sO G,sO (by omega)]
  .rw[sQ G]
   by_cases e:j=k
   .subst e;rw[sO (by omega),h]
   .rw[sQ (by omega)]
theorem Jd{α:Type}(f g:Nat->α)(N:Nat):pm f g 0 N=(List.range N).map g:=by simp[pm]
theorem Uf{α:Type}(f g:Nat->α)(N:Nat):pm f g N N=(List.range N).map f:=by
 unfold pm;apply xM;intro j E;rw[sO (List.mem_range.mp E)]
theorem abd(l:List Bool){N:Nat}(h:l.length=N):((List.range N).map fun j=>l.getD j false)=l:=by
 apply yQ
 .simp[h]
 .intro j G E
  simp[zx,zy E]
theorem gJ{α:Type}(a:α)(N:Nat):((List.range N).map fun _=>a)=List.replicate N a:=by
 rw[List.map_const',uM]
theorem fU(N:Nat)(x:Int):rep N [I x]=(List.replicate N x).flatMap cI:=by
 induction N with
 |zero=>rfl
 |succ N E=>rw[fP,E,xu];rfl
theorem ah8(N:Nat)(x:Bool):rep N [Bo x]=(List.replicate N x).flatMap Ia:=by
 induction N with
 |zero=>rfl
 |succ N E=>rw[fP,E,xu];rfl
def sg(b:List Int)(i:Nat):Int:=if b.getD i 0<0 then -1 else 1
def cell0(A b:List Int)(m n i j:Nat):Int:=if j<n then sg b i*A.getD (i*n+j) 0 else if j<n+m then(if j=n+i then 1 else 0)else sg b i*b.getD i 0
def row0(A b:List Int)(m n i:Nat):List Int:=(List.range (n+m+1)).map fun j=>cell0 A b m n i j
def EJ(A b:List Int)(m n k:Nat):List (List Int):=(List.range k).map fun i=>row0 A b m n i
def fr0(m n:Nat):List Bool:=(List.range (n+m)).map fun j=>decide (j<n)
def D0(A b:List Int)(m n k:Nat):TZ:={ R:=EJ A b m n k,Bh:=1,B:=(List.range k).map fun i=>n+i,fr:=fr0 m n }
theorem fF(A b:List Int)(m n i:Nat):(row0 A b m n i).length=n+m+1:=by simp[row0]
theorem fG(A b:List Int)(m n i:Nat){j:Nat}(h:j<n+m+1):(row0 A b m n i)[j]'(by rw[fF];exact h)=cell0 A b m n i j:=by simp[row0]
def Gs(A b:List Int)(m n i k:Nat):List (Int×Bool):=newR (row0 A b m n i) (List.replicate (n+m+1) (0,true)) k
theorem afg(A b:List Int)(m n i:Nat):(Gs A b m n i 0).flatMap zc=rep (n+m+1) [Bo false,.nil]:=by
 unfold Gs;rw[Kq];generalize n+m+1=q
 induction q with
 |zero=>rfl
 |succ q E=>rw[xu,fP,zG,E];rfl
theorem qU(A b:List Int)(m n i:Nat){k:Nat}(E:k<=n+m+1):(Gs A b m n i k).length=n+m+1:=by
 unfold Gs;rw[jE (by rw[fF,yU]) (by rw[yU];exact E),yU]
theorem ah9(A b:List Int)(m n i:Nat){k:Nat}(E:k<n+m+1):(Gs A b m n i k).set k (cell0 A b m n i k,false)=Gs A b m n i (k+1):=by
 unfold Gs;rw[<- Ov (by rw[fF,yU]) (c:=k) (by rw[yU];exact E),fG _ _ _ _ _ E]
theorem Q9(A b:List Int){m n i:Nat}(hi:i<m):let L:=((Gs A b m n i n).set (n+i) (1,false)).set (n+m) (sg b i*b.getD i 0,false)
  L.map (·.1)=row0 A b m n i/\∀p∈L,p.2=true->p.1=0:=by
 intro L;have hl:L.length=n+m+1:=by simp only[L,yP];exact qU _ _ _ _ _ (by omega)
 have hg:∀j (h:j<n+m+1),L[j]'(by rw[hl];exact h)=if j<n then(cell0 A b m n i j,false)else if j=n+m then(sg b i*b.getD i 0,false)else if j=n+i then(1,false)else(0,true):=fun j h=>by
  have e:(Gs A b m n i n)[j]'(by rw[qU _ _ _ _ _ (by omega)];exact h)=if j<n then(cell0 A b m n i j,false)else(0,true):=by
   have:(Gs A b m n i n)[j]?=some (if j<n then(cell0 A b m n i j,false)else(0,true)):=by
    unfold Gs newR;have J:(((row0 A b m n i).take n).map fun z=>(z,false)).length=n:=by rw[zT,zh,fF];omega
    by_cases O:j<n
    .rw[zU (by rw[J];exact O),sO O,yc,wz,sO O,zy (by rw[fF];omega),fG _ _ _ _ _ (by omega)]
     rfl
    .rw[zN (by rw[J];omega),J,xw,sQ O,vU,sO (by omega)]
   rw[zy (by rw[qU _ _ _ _ _ (by omega)];exact h)]at this;exact Option.some.inj this
  simp only[L,wW,e]
  by_cases E:j<n
  .rw[sQ (by omega),sQ (by omega),sO E,sO E]
  .by_cases Y:j=n+m
   .rw[sO Y.symm,sQ E,sO Y]
   .rw[sQ (yu Y),sQ E,sQ Y]
    by_cases h3:j=n+i
    .rw[sO h3.symm,sQ E,sO h3]
    .rw[sQ (yu h3),sQ E,sQ h3]
 refine⟨yQ (by rw[zT,hl,fF]) fun j E Y=>?_,fun p hp G=>?_⟩
 .rw[zT,hl]at E
  rw[yC,hg j E,fG _ _ _ _ _ E]
  by_cases c1:j<n
  .rw[sO c1]
  .rw[sQ c1]
   unfold cell0;rw[sQ c1]
   by_cases c2:j=n+m
   .rw[sO c2,sQ (by omega)]
   .rw[sQ c2,sO (show j<n+m by omega)]
    by_cases S:j=n+i
    .rw[sO S,sO S]
    .rw[sQ S,sQ S]
 .obtain⟨j,O,rfl⟩:=zA hp
  rw[hl]at O;rw[hg j O]at G⊢
  by_cases c1:j<n
  .rw[sO c1]at G;cases G
  .rw[sQ c1]at G⊢
   by_cases c2:j=n+m
   .rw[sO c2]at G;cases G
   .rw[sQ c2]at G⊢
    by_cases S:j=n+i
    .rw[sO S]at G;cases G
    .rw[sQ S]
def Made(A b:List Int)(m n:Nat)(GX:Nat)(σ:Store)(nx bt bf k:Nat):Prop :=
 ∃E G br bb rb,σ bt=some ⟨[E,Bo false,LI (dg 1),G,I ((n+m:Nat):Int),.rs bf 0 (n+m)],0,true⟩ /\
  ((k=0/\E= .nil/\G= .nil/\rb=[])\/(0<k/\E= .rs br 0 k/\G= .rs bb 0 k/\σ br=some ⟨rb.map fun b=>V.rs b 0 (n+m+1),1,true⟩/\σ bb=some ⟨(CB ((List.range k).map fun i=>n+i)).flatMap cI,1,true⟩/\br≠bb/\br∉bt :: bf :: rb/\bb∉bt :: bf :: rb/\GX<=br/\br<nx/\GX<=bb/\bb<nx)) /\
  rb.length=k/\(∀i (h:i<rb.length),EI σ rb[i] (row0 A b m n i))/\(bt :: bf :: rb).Nodup/\(∀x∈bt :: bf :: rb,GX<=x/\x<nx)/\σ bf=some ⟨(List.replicate (n+m) false).flatMap Ia,1,true⟩
theorem Q_{A b:List Int}{m n nx:Nat}{S σ':Store}{E i:Nat}{rb:List Nat}{L:List (Int×Bool)}(hi:i<m)(Y:rb.length=i)(a1:∀j (h:j<rb.length),EI S rb[j] (row0 A b m n j))(G:((nx+1) :: nx :: rb).Nodup)(O:∀x∈(nx+1) :: nx :: rb,nx<=x/\x<E)
  (a7:S nx=some ⟨(List.replicate (n+m) false).flatMap Ia,1,true⟩) (hL:L.map (·.1)=row0 A b m n i/\∀p∈L,p.2=true->p.1=0)
  (ht:σ' (nx+1)=some ⟨[.rs (E+1+1) 0 (i+1),Bo false,LI (dg 1),.rs (E+1+1+1+1) 0 (i+1),I ((n+m:Nat):Int),.rs nx 0 (n+m)],0,true⟩)
  (hr:σ' (E+1+1)=some ⟨rb.map (fun b=>V.rs b 0 (n+m+1))++[.rs E 0 (n+m+1)],1,true⟩)
  (hb:σ' (E+1+1+1+1)=some ⟨(CB ((List.range i).map fun i=>n+i)).flatMap cI++[I ((n+i:Nat):Int)],1,true⟩)
  (J:σ' E=some ⟨L.flatMap zc,2,true⟩) (ho:∀x∈nx :: rb,σ' x=S x):Made A b m n nx σ' (E+1+1+1+1+1) (nx+1) nx (i+1):=by
 have a6:∀x∈rb,x≠nx+1/\x≠nx/\nx<=x/\x<E:=fun x J=>by
  have h:=O x (by simp[J]);refine⟨fun e=>?_,fun e=>?_,h.1,h.2⟩
  .subst e;simp at G;exact G.1 J
  .subst e;simp at G;exact G.2.1 J
 have a8:=O (nx+1) (by simp);refine⟨_,_,E+1+1,E+1+1+1+1,rb++[E],ht,.inr ⟨by omega,rfl,rfl,?_,?_,by omega,?_,?_,by omega,by omega,by omega,by omega⟩,by simp[Y],fun j hj=>?_,?_,fun x J=>?_,?_⟩
 .rw[hr,xH];rfl
 .rw[hb,wX,xH]
  unfold CB;rw[xH,zQ];rfl
 .simp only[zX,xW,zK,or_false,not_or]
  exact⟨by omega,by omega,fun h=>by have:=a6 _ h;omega,by omega⟩
 .simp only[zX,xW,zK,or_false,not_or]
  exact⟨by omega,by omega,fun h=>by have:=a6 _ h;omega,by omega⟩
 .by_cases h:j<rb.length
  .rw[yO h]
   exact(a1 j h).congr (ho _ (zY _ (zu h)))
  .have:j=i:=by rw[zo,yV]at hj;omega
   subst this;rw[wP (by omega)];simp only[Y,yM,uT];exact⟨L,J,hL.1,hL.2⟩
 .rw[<- yR,<- yR]
  rw[List.nodup_append];refine⟨G,by simp,fun x J y hy=>?_⟩;rw[List.mem_singleton.mp hy];have:=O x J;omega
 .rw[<- yR,<- yR,xW]at J
  rcases J with h|h
  .have:=O x h;omega
  .rw[List.mem_singleton.mp h];omega
 .rw[ho nx (by simp)];exact a7
def o1L(m n:Nat):List Int:=(List.range (n+m)).map fun j=>if j<n then 0 else -1
theorem alU(m n:Nat):Obj (o1L m n) (n+m):=⟨by simp[o1L],fun x E=>by
 obtain⟨j,-,rfl⟩:=List.mem_map.mp E
 split<;>omega⟩
theorem acP{N:Nat}{o:Nat->Int}{Q:TZ->Prop}(h:∀D E,Q D->Fb N o D E->Q E){D E:TZ}(G:Fe N o D E):Q D->Q E:=by
 induction G with
 |refl=>exact id
 |tail Y J O=>exact fun S=>h _ _ (O S) J
theorem anC{N:Nat}{o:Nat->Int}{Q:TZ->Prop}(h:∀D E,Q D->Fb N o D E->Q E){D E:TZ}{G:Bool}(hm:TN N o D G E)(O:Q D):∃D1 fr,Q D1/\E={ D1 with fr:=fr }/\fr.length=D1.fr.length:=by
 obtain⟨D1,S,J|J⟩:=hm
 .obtain⟨-,-,fr,Y,rfl⟩:=J
  exact⟨D1,fr,acP h S O,rfl,Y.1⟩
 .obtain⟨-,rfl,-⟩:=J
  exact⟨E,E.fr,acP h S O,rfl,rfl⟩
def alV(Q2:TZ->Prop)(A b:List Int)(m n:Nat)(σ:Store)(nx:Nat)(r:V×Store×Nat):Prop :=
 ∃σ' nx',nx<=nx'/\(∀x,x<nx->σ' x=σ x)/\∃D1 E,TN (n+m) (oF (o1L m n)) (D0 A b m n m) E D1 /\
  ((r=(.AX [.sc (.pointer none),Bo false],σ',nx')/\∃i,i<D1.R.length/\n<=D1.B.getD i 0/\0<en D1.R i (n+m)) \/
   (∃bt br bb bf rb D2,r=(.AX [.rp bt 0,Bo true],σ',nx')/\(∀i,i<D1.R.length->n<=D1.B.getD i 0->¬0<en D1.R i (n+m))/\DU σ' bt br bb bf rb D2 (n+m)/\Q2 D2/\(∀i,i<D2.R.length->D2.B.getD i 0<n)/\∀x∈bt :: br :: bb :: bf :: rb,nx<=x/\x<nx'))
theorem apJ(Q1 Q2:TZ->Prop){A b c:List Int}{m n:Nat}(hA:A.length=m*n)(hb:b.length=m)(G:0<m)(hm:m<=400)(hn:n<=400)(m8:∀x∈A,-1000000<=x/\x<=1000000)(m9:∀x∈b,-1000000<=x/\x<=1000000)
  (Vd:∀D,Q1 D->Xw D (n+m)/\0<D.Bh) (h0:∀D D',Q1 D->Fb (n+m) (oF (o1L m n)) D D'->Q1 D') (i7:Q1 (D0 A b m n m)) {K:Nat} (n0:I8 (n+m) (oF (o1L m n)) K (D0 A b m n m))
  (n9:∀D,Q2 D->Xw D (n+m)/\0<D.Bh) (h1:∀D i k,Q2 D->i<D.R.length->n<=D.B.getD i 0->k<n->en D.R i k≠0->Q2 (Gp D i k))
  (o0:∀D i,Q2 D->i<D.R.length->n<=D.B.getD i 0->(∀k,k<n->en D.R i k=0)->Q2 (Q7 D i))
  (j7:∀D1 h3,TN (n+m) (oF (o1L m n)) (D0 A b m n m) h3 D1->(∀i,i<D1.R.length->n<=D1.B.getD i 0->¬0<en D1.R i (n+m))->Q2 { D1 with fr:=fr0 m n })
  (σ:Store) (nx:Nat):∃r,ev ZM Aa Ak 143 [.tp (C9 m n A b c) 0] σ nx=some r/\alV Q2 A b m n σ nx r:=by
 obtain⟨N,hN⟩:∃N,N=n+m:=⟨_,rfl⟩;have f1:(n:Int)+(m:Int)=(N:Int):=by omega
 have f2:=ZU (n:=(N:Int));have f3:=jF N;have f4:1*(N:Int)<=281474976710656:=by omega
 have f5:(N:Int)<=9223372036854775807:=by omega
 have k1:fn ZM conv ext 154 [I 1]=some (.agg [Bo false,LI (dg 1)]):=kM 1 (by decide) (by decide)
 unfold C9;rw[nC [.tmp 2,.tmp 3] [15,18,24,38] func143];simp only[go_sem,f1,f2,f3,f4,f5,k1];generalize hL:iI _ _=y;obtain⟨x,rfl,T1,S,E,rfl,t0,t4,t5,s4,o2,hM⟩:=oZ hL m (fun i st=>st.T 0= .tp (C9 m n A b c) 0/\st.T 4=I N/\st.T 5= .rp (nx+1) 0/\st.T 34=I m/\st.T 35=I i/\nx<=st.nx/\(∀x,x<nx->st.σ x=σ x)/\Made A b m n nx st.σ st.nx (nx+1) nx i)
  (fun x=>∃T S E,x=(.exit 0,⟨T,S,E⟩)/\T 0= .tp (C9 m n A b c) 0/\T 4=I N/\T 5= .rp (nx+1) 0/\nx<=E/\(∀x,x<nx->S x=σ x)/\Made A b m n nx S E (nx+1) nx m) (by
   clear hL;rintro i ⟨T,S,E⟩ hi ⟨t0,t4,t5,t34,t35,h7,e6,hM⟩;simp only at t0 t4 t5 t34 t35 h7 e6 hM;have g1:(i:Int)<(m:Int):=by omega
   have g2:=jF i;have g3:=ZU (n:=(i:Int)+1);unfold C9 at t0;have g4:=ZU (n:=(N:Int)+1);have g5:(0:Int)<=(N:Int)+1:=by omega
   have g6:32*((N:Int)+1)<=281474976710656:=by omega
   have g7:(N:Int)+1<=9223372036854775807:=by omega
   have g8:((N:Int)+1).toNat=N+1:=by omega
   have g9:(i:Int)<(b.length:Int):=by omega
   have g10:(b.flatMap cI)[i]?=some (I (b.getD i 0)):=by
    rw[idx (by omega),zx,zy (by omega)];rfl
   have g11:=Ba b i (by omega);have bl:(b.flatMap cI).length=b.length:=qN b;have s6:-1000000<=b.getD i 0/\b.getD i 0<=1000000:=by
    rw[zx,zy (by omega)];exact m9 _ (zu (by omega))
   have k2:=atB (b:=b) (c:=c) hA (by omega) (by omega) hi;unfold C9 at k2;obtain⟨Rw,i9⟩:∃Rw,Rw=(A.drop (i*n)).take n:=⟨_,rfl⟩;rw[<- i9]at k2;have h1:(i+1)*n<=m*n:=zD _ (by omega);rw[xq]at h1;have h9:Rw.length=n:=by rw[i9,zh,zC];omega
   have o3:∀j (h:j<n),Rw[j]'(by omega)=A.getD (i*n+j) 0:=fun j h=>by
    subst i9;rw[vS,List.getElem_drop,zx,zy (by omega)];rfl
   have o4:∀j (h:j<n),-1000000<=A.getD (i*n+j) 0/\A.getD (i*n+j) 0<=1000000:=fun j h=>by
    rw[zx,zy (by omega)];exact m8 _ (zu (by omega))
   obtain⟨s,hs,j8⟩:∃s,s=sg b i/\((b.getD i 0<0/\s= -1)\/(¬b.getD i 0<0/\s=1)):=by
    refine⟨_,rfl,?_⟩;unfold sg
    by_cases h:b.getD i 0<0
    .exact .inl ⟨h,sO h⟩
    .exact .inr ⟨h,sQ h⟩
   have j9:s=1\/s= -1:=by rcases j8 with ⟨_,h⟩|⟨_,h⟩<;>simp[h]
   refine bD ?_;rcases j8 with ⟨h8,k0⟩|⟨h8,k0⟩
   all_goals
    conv=>
     enter [1,r,1,1]
     simp only[go_sem,t0,t4,t5,t34,t35,g1,g2,g3,g4,g5,g6,g7,g8,g9,g10,g11,bl,h8,k2]
    generalize hL:iI _ _=z;obtain⟨x,rfl,T1,rfl,t0,t4,t5,t6,t7,t8,t34,t35⟩:=oZ hL n (fun j st=>st.T 0= .tp (C9 m n A b c) 0/\st.T 4=I N/\st.T 5= .rp (nx+1) 0/\st.T 6=I i/\st.T 7= .rs E 0 (N+1)/\st.T 8=I s/\st.T 34=I m/\st.T 35=I i/\st.T 51= .ts (Rw.flatMap cI) n/\st.T 52=I n/\st.T 53=I j/\st.nx=E+1/\st.σ=upd S E (some ⟨(Gs A b m n i j).flatMap zc,2,true⟩))
     (fun x=>∃T,x=(.exit 2,⟨T,upd S E (some ⟨(Gs A b m n i n).flatMap zc,2,true⟩),E+1⟩)/\T 0= .tp (C9 m n A b c) 0/\T 4=I N/\T 5= .rp (nx+1) 0/\T 6=I i/\T 7= .rs E 0 (N+1)/\T 8=I s/\T 34=I m/\T 35=I i) (by
      clear hL;rintro j ⟨T,σ2,m0⟩ hj ⟨t0,t4,t5,t6,t7,t8,t34,t35,t51,t52,t53,G,Y⟩;simp only at t0 t4 t5 t6 t7 t8 t34 t35 t51 t52 t53 G Y;subst G Y;have a1:(j:Int)<(n:Int):=by omega
      have a2:=jF j;have a3:=ZU (n:=(j:Int)+1);have a4:(Rw.flatMap cI)[j]?=some (I (A.getD (i*n+j) 0)):=by rw[idx (by omega),o3 j hj]
      have a12:=Ba Rw j (by omega);have a5:(Rw.flatMap cI).length=n:=by rw[qN,h9]
      have J:=o4 j hj;obtain⟨x,ex⟩:∃x,x=A.getD (i*n+j) 0:=⟨_,rfl⟩;rw[<- ex]at a4 J;have o5:-1000000<=s*x/\s*x<=1000000:=by rcases j9 with h|h<;>rw[h]<;>omega
      have a6:=ZU (n:=s*x);have a7:=kM (s*x) (by omega) (by omega);have a8:=bZ (c:=zc) (s:=2) ZP (Gs A b m n i j);rw[qU _ _ _ _ _ (by omega),<- hN]at a8;have a9:(j:Int)<((N+1:Nat):Int):=by omega
      have i0:j*2+2<=(N+1)*2:=by omega
      have i1:patch ((Gs A b m n i j).flatMap zc) (j*2) (cZ (s*x))=(Gs A b m n i (j+1)).flatMap zc:=by
       rw[<- acL,iE ZP _ _ (by rw[qU _ _ _ _ _ (by omega)];omega),<- ah9 _ _ _ _ _ (by omega)];congr 3;unfold cell0;rw[sO hj,<- ex,hs]
      refine .inl ⟨_,by simp only[go_sem,t0,t4,t5,t6,t7,t8,t34,t35,t51,t52,t53,a1,a2,a3,a4,a5,a6,a7,a8,a9,i0,i1,a12];rfl,?_⟩;simp only[go_sem,t0,t4,t5,t6,t7,t8,t34,t35,t51,t52,t53];rfl) (by
      rintro ⟨T,σ2,m0⟩ ⟨t0,t4,t5,t6,t7,t8,t34,t35,t51,t52,t53,G,Y⟩;simp only at t0 t4 t5 t6 t7 t8 t34 t35 t51 t52 t53 G Y;subst G Y;have a1:¬(n:Int)<(n:Int):=by omega
      refine⟨_,by simp only[go_sem,t52,t53,a1];rfl,by simp,_,rfl,?_⟩;simp only[go_sem,t0,t4,t5,t6,t7,t8,t34,t35]) (by
      simp only[go_sem,afg,<- hN,k0,C9,t0,t4,t5,t34,t35])
    clear hL;obtain⟨L2,i2⟩:∃L2,L2=(Gs A b m n i n).set (n+i) (1,false):=⟨_,rfl⟩;obtain⟨L3,i3⟩:∃L3,L3=L2.set (n+m) (s*b.getD i 0,false):=⟨_,rfl⟩;have j0:=qU A b m n i (k:=n) (by omega);have j1:L2.length=n+m+1:=by rw[i2,yP];exact j0
    have s7:L3.length=n+m+1:=by rw[i3,yP];exact j1
    have d1:patch ((Gs A b m n i n).flatMap zc) ((n+i)*2) [Bo false,LI (dg 1)]=L2.flatMap zc:=by
     rw[i2,<- iE ZP _ _ (by rw[j0];omega)];rfl
    have d2:patch (L2.flatMap zc) (N*2) (cZ (s*b.getD i 0))=L3.flatMap zc:=by
     rw[i3,hN,<- iE ZP _ _ (by rw[j1];omega),<- acL]
    have d3:=bZ (c:=zc) (s:=2) ZP (Gs A b m n i n);rw[j0,<- hN]at d3;have d4:=bZ (c:=zc) (s:=2) ZP L2;rw[j1,<- hN]at d4;have o5:-1000000<=s*b.getD i 0/\s*b.getD i 0<=1000000:=by rcases j9 with h|h<;>rw[h]<;>omega
    have a1:=ZU (n:=s*b.getD i 0);have a2:=kM (s*b.getD i 0) (by omega) (by omega);have a3:(n:Int)+(i:Int)=((n+i:Nat):Int):=by omega
    have a4:=ZU (n:=((n+i:Nat):Int));have a5:((n+i:Nat):Int)<((N+1:Nat):Int):=by omega
    have a6:(0:Int)<=((n+i:Nat):Int):=by omega
    have a7:(N:Int)<((N+1:Nat):Int):=by omega
    have a8:(n+i)*2+2<=(N+1)*2:=by omega
    have a9:N*2+2<=(N+1)*2:=by omega
    have i0:E<E+1:=by omega
    obtain⟨rV,bV,br,bb,rb,e7,c6,h5,e4,c3,c4,i4⟩:=hM;have s8:nx+1<E:=(c4 _ (by simp)).2;have i1:¬nx+1=E:=by omega
    have a12:¬nx+1=E+1:=by omega
    have k3:¬nx+1=E+1+1:=by omega
    have k4:¬nx+1=E+1+1+1:=by omega
    have k5:¬nx+1=E+1+1+1+1:=by omega
    have k6:nx+1<E+1+1:=by omega
    have k7:nx+1<E+1+1+1:=by omega
    have k8:nx+1<E+1+1+1+1:=by omega
    have k9:1<=maxLen:=by decide
    have a24:nx+1<E+1+1+1+1+1:=by omega
    have l1:E+1+1+1<E+1+1+1+1:=by omega
    have l2:E+1+1<E+1+1+1:=by omega
    have l3:E+1<E+1+1:=by omega
    have a20:¬E+1=nx+1:=by omega
    have a21:¬E+1+1=nx+1:=by omega
    have l4:¬E+1+1+1=nx+1:=by omega
    have i5:¬E+1+1+1+1=nx+1:=by omega
    unfold C9 at t0;rcases c6 with ⟨hi0,rfl,rfl,rfl⟩|⟨hk,rfl,rfl,j2,j3,O,Ug,Uh,l5,j4,l6,j5⟩
    .refine⟨_,by simp only[go_sem,t0,t4,t5,t6,t7,t8,t34,t35,e7,k1,f3,g1,g2,g3,g9,g10,g11,bl,d1,d2,d3,d4,a1,a2,a3,a4,a5,a6,a7,a8,a9,i0,i1,a12,k3,k4,k5,k6,k7,k8,k9,a20,a21,l4,i5,a24,l1,l2,l3];rfl,.inl ⟨_,rfl,?_⟩⟩
     simp only[go_sem,t0,t4,t5,t34,t35];refine⟨rfl,rfl,by omega,fun x J=>?_,Q_ (L:=L3) hi h5 e4 c3 c4 i4 (by rw[i3,i2,hs];exact Q9 A b hi) ?_ ?_ ?_ ?_ fun x J=>?_⟩
     .rw[Zm,Zm,Zm,Zm,Zm,Zm,Zm]
      exact e6 x J
     .rw[Zj,hi0]
     .rw[Zk _ _ a21,Zm,Zm,Zk _ _ a21,Zj,hN];rfl
     .rw[Zk _ _ i5,Zj,hi0];rfl
     .rw[Zm,Zm,Zm,Zm,Zm,Zm,Zj]
     .rw[List.mem_singleton.mp J]
      rw[Zm,Zm,Zm,Zm,Zm,Zm,Zm]
    .have b1:(rb.map fun b=>V.rs b 0 (n+m+1)).length=i:=by rw[zT,h5]
     have b2:((CB ((List.range i).map fun i=>n+i)).flatMap cI).length=i:=by rw[qN,aA];simp
     have b3:¬i+1<=i:=by omega
     have b4:i+1<=maxLen:=by unfold maxLen;omega
     have b5:(i+1)*24<=140737488355328:=by omega
     have b6:(i+1)*8<=140737488355328:=by omega
     have b7:¬br=E:=by omega
     have b8:¬br=E+1:=by omega
     have b9:¬bb=E:=by omega
     have o6:¬bb=E+1:=by omega
     have o7:¬bb=E+1+1:=by omega
     have p0:¬bb=E+1+1+1:=by omega
     have l7:¬bb=nx+1:=fun e=>Uh (by simp[e])
     have l8:¬br=nx+1:=fun e=>Ug (by simp[e])
     have p1:¬bb=br:=yu O;have p2:¬nx+1=br:=yu l8;have p3:¬nx+1=bb:=yu l7;have p4:bb<E+1+1+1:=by omega
     have p5:bb<E+1+1+1+1:=by omega
     refine⟨_,by simp only[go_sem,t0,t4,t5,t6,t7,t8,t34,t35,e7,k1,f3,g1,g2,g3,g9,g10,g11,bl,d1,d2,d3,d4,a1,a2,a3,a4,a5,a6,a7,a8,a9,i0,i1,a12,k3,k4,k5,k6,k7,k8,k9,a20,a21,l4,i5,a24,l1,l2,l3,j2,j3,b1,b2,b3,b4,b5,b6,b7,b8,b9,o6,o7,p0,l7,l8,p1,p2,p3,p4,p5];rfl,.inl ⟨_,rfl,?_⟩⟩;simp only[go_sem,t0,t4,t5,t34,t35];refine⟨rfl,rfl,by omega,fun x J=>?_,Q_ (L:=L3) hi h5 e4 c3 c4 i4 (by rw[i3,i2,hs];exact Q9 A b hi) ?_ ?_ ?_ ?_ fun x J=>?_⟩
     .repeat rw[Zm]
      exact e6 x J
     .rw[Zj]
     .rw[Zk _ _ a21,Zm,Zm,Zm,Zk _ _ a21,Zj,hN]
     .rw[Zk _ _ i5,Zj]
     .repeat rw[Zm]
      rw[Zj]
     .have s9:=c4 x (zY _ J)
      have e1:x≠nx+1:=fun e=>by subst e;exact(List.nodup_cons.mp c3).1 J
      have e2:x≠br:=fun e=>by subst e;exact Ug (zY _ J)
      have e3:x≠bb:=fun e=>by subst e;exact Uh (zY _ J)
      repeat rw[Zm]) (by
   rintro ⟨T,S,E⟩ ⟨t0,t4,t5,t34,t35,h7,e6,hM⟩;simp only at t0 t4 t5 t34 t35 h7 e6 hM;have g1:¬(m:Int)<(m:Int):=by omega
   refine⟨_,by simp only[go_sem,t34,t35,g1];rfl,by simp,_,_,_,rfl,?_⟩;exact⟨t0,t4,t5,h7,e6,hM⟩) (by
   simp only[go_sem];refine⟨rfl,by omega,fun x J=>?_,?_⟩
   .rw[Zm,Zm]
   .refine⟨.nil,.nil,0,0,[],?_,.inl ⟨rfl,rfl,rfl,rfl⟩,rfl,fun i h=>absurd h (zW _),by simp,by simp;omega,?_⟩
    .rw[Zj,hN]
    .rw[Zm,Zj,<- hN,<- ah8])
 clear hL;obtain⟨rV,bV,br,bb,rb,e7,c6,h5,e4,c3,c4,i4⟩:=hM;obtain⟨-,rfl,rfl,j2,j3,O,Ug,Uh,l5,j4,l6,j5⟩:0<m/\rV= .rs br 0 m/\bV= .rs bb 0 m/\S br=some ⟨rb.map fun b=>V.rs b 0 (n+m+1),1,true⟩/\S bb=some ⟨(CB ((List.range m).map fun i=>n+i)).flatMap cI,1,true⟩/\br≠bb/\br∉(nx+1) :: nx :: rb/\bb∉(nx+1) :: nx :: rb/\nx<=br/\br<E/\nx<=bb/\bb<E:=by
  rcases c6 with ⟨h,_⟩|h
  .omega
  .exact h
 have u0:nx+1<E:=(c4 _ (by simp)).2;have c1:8*(N:Int)<=281474976710656:=by omega
 unfold C9 at t0;rw[<- hN]at e7;simp only[go_sem,t0,t4,t5,f2,f3,c1,f5];generalize hL:iI _ _=z
 obtain⟨x,rfl,T2,σ2,rfl,t0,t4,t5,t11,p6,p7,h2⟩:=oZ hL N (fun k st=>st.T 0= .tp (C9 m n A b c) 0/\st.T 4=I N/\st.T 5= .rp (nx+1) 0/\st.T 11= .rs E 0 N/\st.T 117=I N/\st.T 118=I k/\st.nx=E+1 /\
   st.σ nx=some ⟨(pm (fun j=>decide (j<n)) (fun _=>false) k N).flatMap Ia,1,true⟩/\st.σ E=some ⟨(pm (fun j=>if j<n then(0:Int)else -1) (fun _=>0) k N).flatMap cI,1,true⟩/\∀x,x<E->x≠nx->st.σ x=S x)
  (fun x=>∃T σ2,x=(.exit 4,⟨T,σ2,E+1⟩)/\T 0= .tp (C9 m n A b c) 0/\T 4=I N/\T 5= .rp (nx+1) 0/\T 11= .rs E 0 N /\
   σ2 nx=some ⟨(fr0 m n).flatMap Ia,1,true⟩/\σ2 E=some ⟨(o1L m n).flatMap cI,1,true⟩/\∀x,x<E->x≠nx->σ2 x=S x) (by
   clear hL;rintro k ⟨T,σ2,m0⟩ hk ⟨t0,t4,t5,t11,t117,e8,G,hf,ho,hs⟩;simp only at t0 t4 t5 t11 t117 e8 G hf ho hs;subst G;have g1:(k:Int)<(N:Int):=by omega
   have g2:=jF k;have g3:=ZU (n:=(k:Int)+1);have OA:=(hs (nx+1) (by omega) (by omega)).trans e7;have q1:nx+1<E+1:=by omega
   have q2:nx<E+1:=by omega
   have q3:¬nx+1=nx:=by omega
   have q4:¬nx=nx+1:=by omega
   have q5:¬E=nx:=by omega
   have q6:((pm (fun j=>decide (j<n)) (fun _=>false) k N).flatMap Ia).length=N:=by rw[acN,gq,yN]
   have q7:((pm (fun j=>if j<n then(0:Int)else -1) (fun _=>0) k N).flatMap cI).length=N:=by rw[qN,gq]
   have q8:k+1<=N:=hk;unfold C9 at t0;have e1:∀bb,bb=decide (k<n)->((pm (fun j=>decide (j<n)) (fun _=>false) k N).flatMap Ia).set k (Bo bb)=(pm (fun j=>decide (j<n)) (fun _=>false) (k+1) N).flatMap Ia:=fun bb h=>by
    rw[Ub,h,OD (fun j=>decide (j<n)) (fun _=>false) hk]
   by_cases c7:k<n
   .have g4:(k:Int)<(n:Int):=by omega
    have g5:¬(n:Int)<=(k:Int):=by omega
    have e2:=e1 true (by rw[sJ c7]);have e3:=Ue (fun j=>if j<n then(0:Int)else -1) (fun _=>0) (k:=k) (N:=N) (by simp only[sO c7]);refine .inl ⟨_,by simp only[go_sem,t0,t4,t5,t11,t117,e8,OA,hf,ho,hk,g1,g2,g3,g4,g5,q1,q2,q3,q4,q5,q6,q7,q8,e2];rfl,?_⟩;simp only[go_sem,t0,t4,t5,t11,t117,q5];exact⟨rfl,rfl,by rw[ho,e3],fun x J O=>by rw[Zk _ _ O];exact hs x J O⟩
   .have g4:¬(k:Int)<(n:Int):=by omega
    have g5:(n:Int)<=(k:Int):=by omega
    have e2:=e1 false (by rw[sH c7]);have e3:((pm (fun j=>if j<n then(0:Int)else -1) (fun _=>0) k N).flatMap cI).set k (I (-1))=(pm (fun j=>if j<n then(0:Int)else -1) (fun _=>0) (k+1) N).flatMap cI:=by
     rw[qM,<- OD (fun j=>if j<n then(0:Int)else -1) (fun _=>0) hk];simp only[sQ c7]
    refine .inl ⟨_,by simp only[go_sem,t0,t4,t5,t11,t117,e8,OA,hf,ho,hk,g1,g2,g3,g4,g5,q1,q2,q3,q4,q5,q6,q7,q8,e2,e3];rfl,?_⟩;simp only[go_sem,t0,t4,t5,t11,t117,q5];refine⟨rfl,rfl,?_,fun x J O=>?_⟩
    .rw[Zm,Zj]
    .rw[Zm,Zk _ _ O];exact hs x J O) (by
   rintro ⟨T,σ2,m0⟩ ⟨t0,t4,t5,t11,t117,e8,G,hf,ho,hs⟩;simp only at t0 t4 t5 t11 t117 e8 G hf ho hs;subst G;have g1:¬(N:Int)<(N:Int):=by omega
   refine⟨_,by simp only[go_sem,t117,e8,g1];rfl,by simp,_,_,rfl,?_⟩;simp only[go_sem,t0,t4,t5,t11];rw[Uf]at hf ho;unfold fr0 o1L;rw[<- hN];exact⟨hf,ho,hs⟩) (by
   simp only[go_sem,t0,t4,t5];refine⟨rfl,?_,?_,fun x J _=>?_⟩
   .rw[Zm,Jd,gJ,hN];exact i4
   .rw[Jd,gJ,<- fU]
   .rw[Zm])
 clear hL;have c8:∀x∈(nx+1) :: br :: bb :: nx :: rb,nx<=x/\x<E:=fun x J=>by
  simp only[zX]at J;rcases J with h|h|h|h|h
  .exact c4 x (by simp[h])
  .subst h;exact⟨l5,j4⟩
  .subst h;exact⟨l6,j5⟩
  .exact c4 x (by simp[h])
  .exact c4 x (by simp[h])
 have l9:((nx+1) :: br :: bb :: nx :: rb).Nodup:=by
  simp only[xk,zX,not_or]at c3 Ug Uh⊢;exact⟨⟨fun e=>Ug.1 e.symm,fun e=>Uh.1 e.symm,c3.1.1,c3.1.2⟩,⟨O,Ug.2.1,Ug.2.2⟩,⟨Uh.2.1,Uh.2.2⟩,c3.2.1,c3.2.2⟩
 have hT:DU σ2 (nx+1) br bb nx rb (D0 A b m n m) (n+m):=by
  obtain⟨n1,n2,n3,n4,n5,n6,n7,n8⟩:=nd4 l9;have h9:(D0 A b m n m).R.length=m:=by simp[D0,EJ]
  refine⟨?_,⟨[],?_⟩,fun i hi=>?_,⟨[],?_⟩,p6,by rw[h9,h5],l9⟩
  .rw[h2 (nx+1) (by omega) (by omega),e7,h9,hN];rfl
  .rw[h2 br j4 n5,j2,zH]
  .have p8:=zu hi
   have:=c8 rb[i] (by simp);have e:Ee (D0 A b m n m).R i=row0 A b m n i:=by
    unfold D0 EJ Ee;rw[zx,yc,wB (by omega)];rfl
   rw[e];exact(e4 i hi).congr (h2 _ this.2 (n7 _ p8).2.2.2)
  .rw[h2 bb j5 n6,j3,zH];rfl
 obtain⟨u1,u2⟩:=Vd _ i7;obtain⟨c9,AA,h3,D1,ke,c5,Oz,s5,p9⟩:=atz Q1 Vd h0 (alU m n) i7 n0 hT (nx:=E+1) (fun x J=>by have:=c8 x J;omega) p7 (by omega) (fun J=>by have:=c8 E J;omega);rw[<- hN]at ke;obtain⟨q0,m1,m2,rfl,r0⟩:=anC h0 c5 i7;have e9:=(Vd _ m2).1.free (fr:=m1) (by rw[r0];exact(Vd _ m2).1.Xx);obtain⟨D1,r1⟩:∃D1:TZ,D1={ q0 with fr:=m1 }:=⟨_,rfl⟩;rw[<- r1]at Oz c5 e9;have LZ:=Oz.t;have f13:nx+1<AA:=by omega
 simp only[go_sem,qE,t0,t4,t5,t11,ke,LZ,f13];generalize hL:iI _ _=z;obtain⟨n1,n2,n3,n4,n5,n6,n7,n8⟩:=nd4 Oz.nd;have u5:=e9.Gz;have r2:=Oz.len;obtain⟨P7,m3⟩:=Oz.r;obtain⟨MO,j6⟩:=Oz.b;have u6:(CB D1.B).length=D1.R.length:=by rw[aA];exact e9.Bq
 obtain⟨x,rfl,J⟩:=oZ hL D1.R.length (fun i st=>st.T 0= .tp (C9 m n A b c) 0/\st.T 4=I N/\st.T 5= .rp (nx+1) 0/\st.T 149= .rs bb 0 D1.R.length/\st.T 150=I D1.R.length/\st.T 151=I i/\st.σ=c9/\st.nx=AA/\∀j,j<i->n<=D1.B.getD j 0->¬0<en D1.R j (n+m))
  (fun x=>∃T,(x=(.exit 6,⟨T,c9,AA⟩)/\T 0= .tp (C9 m n A b c) 0/\T 5= .rp (nx+1) 0/\∀j,j<D1.R.length->n<=D1.B.getD j 0->¬0<en D1.R j (n+m)) \/
   (x=(.ret,⟨T,c9,AA⟩)/\T 2= .sc (.pointer none)/\T 3=Bo false/\∃i,i<D1.R.length/\n<=D1.B.getD i 0/\0<en D1.R i (n+m))) (by
   clear hL;rintro i ⟨T,Dz,FK⟩ hi ⟨t0,t4,t5,XI,Ui,e0,Y,h6,c0⟩;simp only at t0 t4 t5 XI Ui e0 Y h6;subst Y h6;have g1:(i:Int)<(D1.R.length:Int):=by omega
   have g2:=jF i;have g3:=ZU (n:=(i:Int)+1);have g4:((CB D1.B).flatMap cI++MO)[i]?=some (I ((D1.B.getD i 0:Nat):Int)):=by
    rw[zU (by rw[qN];omega),idx (by omega),aB (by have:=e9.Bq;omega)]
   unfold C9 at t0;have next:∀(hn:n<=D1.B.getD i 0->¬0<en D1.R i (n+m)),∀j,j<i+1->n<=D1.B.getD j 0->¬0<en D1.R j (n+m):=fun hn j hj h=>by
    by_cases e:j=i
    .subst e;exact hn h
    .exact c0 j (by omega) h
   by_cases m4:n<=D1.B.getD i 0
   .have g5:(n:Int)<=((D1.B.getD i 0:Nat):Int):=by omega
    have m5:i<rb.length:=by omega
    have f6:=g_ (ex:=P7) (n:=n+m+1) m5;obtain⟨bi,FI⟩:∃bi,bi=rb[i]:=⟨_,rfl⟩;rw[<- FI]at f6;obtain⟨Li,T_,Hl,Ua⟩:=Oz.row i m5;have m6:Dz bi=some ⟨Li.flatMap zc,2,true⟩:=by rw[FI];exact T_
    have rl:(Ee D1.R i).length=n+m+1:=by rw[dY hi];exact e9.row _ (zu hi)
    have LX:Li.length=n+m+1:=by have:=congrArg List.length Hl;rw[zT,rl]at this;exact this
    have b7:=bZ (c:=zc) (s:=2) ZP Li;rw[LX]at b7;have g6:=d_ (c:=zc) (s:=2) ZP Li N (by omega);have g7:N*2+2<=(n+m+1)*2:=by omega
    have g8:(N:Int)<((n+m+1:Nat):Int):=by omega
    obtain⟨hq,e⟩:=QZ Hl (c:=N) (by rw[rl];omega);have e2:(Ee D1.R i)[N]'(by rw[rl];omega)=en D1.R i (n+m):=by
     unfold en;rw[zx,zy (by rw[rl];omega)];simp only[hN];rfl
    have z1:∀σ d,stripL (strip σ d) (zc Li[N])=some (cZ (en D1.R i (n+m)),[]):=fun σ d=>by
     rw[ZO σ d (Ua _ (zu hq)),e,e2]
    have k1:=kG (en D1.R i (n+m));have c1:=pG (en D1.R i (n+m))
    by_cases e5:0<en D1.R i (n+m)
    .have c2:0<Ar (en D1.R i (n+m)) 0:=by
      have:=mt c1.mp (fun h=>h e5);omega
     refine .inr ⟨_,by simp only[go_sem,t0,t4,t5,XI,Ui,e0,LZ,j6,m3,m6,f3,f6,g1,g2,g3,g4,g5,g6,g7,g8,b7,z1,k1,c2];rfl,by simp,_,.inr ⟨rfl,?_⟩⟩;simp only[go_sem];exact⟨i,hi,m4,e5⟩
    .have c2:¬0<Ar (en D1.R i (n+m)) 0:=by
      have:=c1.mpr e5;omega
     refine .inl ⟨_,by simp only[go_sem,t0,t4,t5,XI,Ui,e0,LZ,j6,m3,m6,f3,f6,g1,g2,g3,g4,g5,g6,g7,g8,b7,z1,k1,c2];rfl,?_⟩;simp only[go_sem,t0,t4,t5,XI,Ui];exact⟨rfl,rfl,next fun _=>e5⟩
   .have g5:¬(n:Int)<=((D1.B.getD i 0:Nat):Int):=by omega
    refine .inl ⟨_,by simp only[go_sem,t0,t4,t5,XI,Ui,e0,j6,g1,g2,g3,g4,g5];rfl,?_⟩;simp only[go_sem,t0,t4,t5,XI,Ui];exact⟨rfl,rfl,next fun h=>absurd h m4⟩) (by
   rintro ⟨T,Dz,FK⟩ ⟨t0,t4,t5,XI,Ui,e0,Y,h6,c0⟩;simp only at t0 t4 t5 XI Ui e0 Y h6;subst Y h6;have g1:¬(D1.R.length:Int)<(D1.R.length:Int):=by omega
   refine⟨_,by simp only[go_sem,Ui,e0,g1];rfl,by simp,_,.inl ⟨rfl,?_⟩⟩;simp only[go_sem,t0,t5];exact c0) (by
   simp only[go_sem,t0,t4,t5];exact fun j hj=>absurd hj (zW j))
 clear hL;have i6:∀x,x<nx->c9 x=σ x:=fun x J=>by
  have e1:=p9 x (by omega) (fun h=>by
   have:=c8 x (by simp only[zX]at h⊢;rcases h with h|h|h|h<;>simp[h]);omega)
  rw[e1,h2 x (by omega) (by omega),o2 x J]
 rcases J with ⟨T3,⟨rfl,t0,t5,c0⟩|⟨rfl,t2,t3,hi⟩⟩
 .unfold C9 at t0
  have r3:=Oz.f;have r4:D1.fr.length=N:=by rw[e9.Xx,hN]
  have f14:nx<AA:=by omega
  simp only[go_sem,t0,t5,LZ,f13];generalize hL:iI _ _=z
  obtain⟨x,rfl,T4,Dz,rfl,t0,t5,r5,h4⟩:=oZ hL N (fun k st=>st.T 0= .tp (C9 m n A b c) 0/\st.T 5= .rp (nx+1) 0/\st.T 181=I N/\st.T 182=I k/\st.nx=AA /\
    st.σ nx=some ⟨(pm (fun j=>decide (j<n)) (fun j=>D1.fr.getD j false) k N).flatMap Ia,1,true⟩/\∀x,x≠nx->st.σ x=c9 x)
   (fun x=>∃T Dz,x=(.exit 8,⟨T,Dz,AA⟩)/\T 0= .tp (C9 m n A b c) 0/\T 5= .rp (nx+1) 0/\Dz nx=some ⟨(fr0 m n).flatMap Ia,1,true⟩/\∀x,x≠nx->Dz x=c9 x) (by
    clear hL;rintro k ⟨T,Dz,m0⟩ hk ⟨t0,t5,XJ,t182,G,hf,hs⟩;simp only at t0 t5 XJ t182 G hf hs;subst G;have g1:(k:Int)<(N:Int):=by omega
    have g2:=jF k;have g3:=ZU (n:=(k:Int)+1);have m7:=(hs (nx+1) (by omega)).trans LZ;have q3:¬nx+1=nx:=by omega
    have q4:¬nx=nx+1:=by omega
    have q6:((pm (fun j=>decide (j<n)) (fun j=>D1.fr.getD j false) k N).flatMap Ia).length=N:=by rw[acN,gq,yN]
    have q8:k+1<=N:=hk;have q9:(k:Int)<((n+m:Nat):Int):=by omega
    unfold C9 at t0;have e1:∀bb,bb=decide (k<n)->((pm (fun j=>decide (j<n)) (fun j=>D1.fr.getD j false) k N).flatMap Ia).set k (Bo bb)=(pm (fun j=>decide (j<n)) (fun j=>D1.fr.getD j false) (k+1) N).flatMap Ia:=fun bb h=>by
     rw[Ub,h,OD (fun j=>decide (j<n)) (fun j=>D1.fr.getD j false) hk]
    by_cases c7:k<n
    .have g4:(k:Int)<(n:Int):=by omega
     have e2:=e1 true (by rw[sJ c7]);refine .inl ⟨_,by simp only[go_sem,t0,t5,XJ,t182,m7,hf,hk,g1,g2,g3,g4,f13,f14,q3,q4,q6,q8,q9,e2];rfl,?_⟩;simp only[go_sem,t0,t5,XJ];exact⟨rfl,rfl,fun x O=>by rw[Zk _ _ O];exact hs x O⟩
    .have g4:¬(k:Int)<(n:Int):=by omega
     have e2:=e1 false (by rw[sH c7]);refine .inl ⟨_,by simp only[go_sem,t0,t5,XJ,t182,m7,hf,hk,g1,g2,g3,g4,f13,f14,q3,q4,q6,q8,q9,e2];rfl,?_⟩;simp only[go_sem,t0,t5,XJ];exact⟨rfl,rfl,fun x O=>by rw[Zk _ _ O];exact hs x O⟩) (by
    rintro ⟨T,Dz,m0⟩ ⟨t0,t5,XJ,t182,G,hf,hs⟩;simp only at t0 t5 XJ t182 G hf hs;subst G;have g1:¬(N:Int)<(N:Int):=by omega
    refine⟨_,by simp only[go_sem,XJ,t182,g1];rfl,by simp,_,_,rfl,?_⟩;simp only[go_sem,t0,t5];rw[Uf]at hf;unfold fr0;rw[<- hN];exact⟨hf,hs⟩) (by
    simp only[go_sem,t0,t5,<- hN];refine⟨rfl,?_⟩;rw[Jd,abd _ r4];exact⟨r3,fun _ _=>trivial⟩)
  clear hL;have r6:=Oz.free (fr:=fr0 m n) (σ':=Dz) r5 h4;obtain⟨DF,uI,r7,D5,r8,GH,u7,r9,s1,s2,s3⟩:=apI Q2 n9 (Nat.le_add_right n m) h1 o0 (j7 D1 h3 c5 c0) r6 (nx:=AA) (fun x J=>by have:=c8 x J;omega);unfold C9 at t0;refine⟨_,by simp only[go_sem,qE,t0,t5,r8];rfl,?_⟩;refine⟨DF,uI,by omega,fun x J=>?_,D1,h3,c5,.inr ⟨nx+1,br,bb,nx,r7,D5,rfl,c0,GH,r9,s1,fun x J=>?_⟩⟩
  .rw[s3 x (by omega) (fun h=>by
    have:=c8 x (by simp only[zX]at h⊢;rcases h with h|h|h|h<;>simp[h]);omega),h4 x (by omega),i6 x J]
  .have:=c8 x (by
    simp only[zX]at J⊢;rcases J with h|h|h|h|h
    .exact .inl h
    .exact .inr (.inl h)
    .exact .inr (.inr (.inl h))
    .exact .inr (.inr (.inr (.inl h)))
    .exact .inr (.inr (.inr (.inr (s2.subset h)))))
   omega
 .refine⟨_,by simp only[go_sem,t2,t3],c9,AA,by omega,i6,D1,h3,c5,.inl ⟨rfl,hi⟩⟩
def AV(A b c:List Int)(m n:Nat):Prog:=⟨m,n,fun j k=>((sg b k*A.getD (k*n+j) 0:Int):Rat),fun k=>((sg b k*b.getD k 0:Int):Rat),fun j=>((c.getD j 0:Int):Rat)⟩
structure L6 (A b c:List Int) (m n:Nat):Prop where
 hA:A.length=m*n
 hb:b.length=m
 hc:c.length=n
 m0:0<m
 hm:m<=12
 hn:n<=16
 bA:∀x∈A,-1000<=x/\x<=1000
 bb:∀x∈b,-1000<=x/\x<=1000
 bc:∀x∈c,-1000<=x/\x<=1000
theorem lK{l:List Int}(h:∀x∈l,-1000<=x/\x<=1000)(i:Nat):-1000<=l.getD i 0/\l.getD i 0<=1000:=by
 rw[zx]
 by_cases hi:i<l.length
 .rw[zy hi];exact h _ (zu hi)
 .rw[yX (by omega)];simp
theorem XK(b:List Int)(i:Nat):sg b i=1\/sg b i= -1:=by
 unfold sg;split<;>simp
theorem Rf{b:List Int}{i:Nat}{x:Int}(h:-1000<=x/\x<=1000):(sg b i*x).natAbs<=1000:=by
 rcases XK b i with e|e<;>rw[e]<;>omega
theorem afi(b:List Int)(i:Nat):0<=sg b i*b.getD i 0:=by
 unfold sg
 split<;>omega
section
variable {A b c:List Int} {m n:Nat}
theorem gY(h:L6 A b c m n):Whole (AV A b c m n) 1000 :=
 ⟨by decide,fun j k _ _=>⟨_,rfl,Rf (lK h.bA _)⟩,fun k _=>⟨_,rfl,Rf (lK h.bb _)⟩⟩
theorem gZ:(AV A b c m n).Good (AV A b c m n).T0:=Prog.as4 fun k _=>by
 show(0:Rat)<=((sg b k*b.getD k 0:Int):Rat)
 exact_mod_cast afi b k
theorem Uj:∀m,m<=12->ln (fact 1000 m)<=m+1
 |0,_=>by show ln 1<=1;exact jV (by decide)
 |m+1,h=>by
  show ln ((m+1)*(1000*fact 1000 m))<=_;rw[<- vG];have E:=jZ ((m+1)*1000) (fact 1000 m);have G:=Uj m (by omega);have J:ln ((m+1)*1000)<=1:=jV (by omega);omega
theorem XL{i j k:Nat}(hi:i<k)(E:j<n+m+1):en (EJ A b m n k) i j=cell0 A b m n i j:=by
 have e:Ee (EJ A b m n k) i=row0 A b m n i:=by
  unfold EJ Ee;rw[zx,yc,wB hi];rfl
 unfold en;rw[e,zx,zy (by rw[fF];exact E),fG _ _ _ _ _ E];rfl
theorem gG{k i:Nat}(h:i<k):(List.range k).getD i 0=i:=by
 rw[zx,wB h];rfl
theorem view0:Vw (AV A b c m n) (AV A b c m n).T0 (D0 A b m n m) (List.range m):=by
 have E:(D0 A b m n m).R.length=m:=by simp[D0,EJ]
 have Y:∀i,i<m->(D0 A b m n m).B.getD i 0=n+i:=fun i hi=>by
  unfold D0;rw[zx,yc,wB hi];rfl
 refine⟨by rw[E];simp,by rw[E];simp[D0],fun x hx=>?_,fun r J=>List.mem_range.mp J,List.nodup_range,fun i j hi hj=>?_,fun i hi=>?_,fun i hi=>?_,Int.zero_lt_one,.inl ?_,fun r J hn=>absurd (List.mem_range.mpr J) hn⟩
 .obtain⟨i,-,rfl⟩:=List.mem_map.mp hx
  rw[fF];rfl
 .rw[E]at hi
  have O:j<n+m:=hj;rw[gG hi];show((en (EJ A b m n m) i j:Int):Rat)=((1:Int):Rat)*(AV A b c m n).A j i;rw[XL hi (by omega)];unfold cell0 Prog.A;show _=((1:Int):Rat)*(if j<n then _ else if i+n=j then 1 else 0)
  by_cases G:j<n
  .rw[sO G,sO G]
   show((sg b i*A.getD (i*n+j) 0:Int):Rat)=((1:Int):Rat)*((sg b i*A.getD (i*n+j) 0:Int):Rat);generalize ((sg b i*A.getD (i*n+j) 0:Int):Rat)=q;have:((1:Int):Rat)=1:=rfl;rw[this];grind
  .rw[sQ G,sQ G,sO O]
   by_cases S:j=n+i
   .rw[sO S,sO (by omega)];decide+kernel
   .rw[sQ S,sQ (by omega)];decide+kernel
 .rw[E]at hi
  rw[gG hi];show((en (EJ A b m n m) i (n+m):Int):Rat)=((1:Int):Rat)*((sg b i*b.getD i 0:Int):Rat);rw[XL hi (by omega)];unfold cell0;rw[sQ (by omega),sQ (by omega)];generalize ((sg b i*b.getD i 0:Int):Rat)=q;have:((1:Int):Rat)=1:=rfl;rw[this];grind
 .rw[E]at hi
  rw[gG hi,Y i hi];show n+i=i+n;omega
 .show((1:Int):Rat)=Lp.CX m fun q=>(AV A b c m n).A (q+n)
  have:=TL m;rw[<- show Lp.CX m (fun i k=>if i=k then(1:Rat)else 0)=Lp.CX m fun q=>(AV A b c m n).A (q+n)from oV fun i k _ _=>by
   have e:=Prog.Gn (p:=AV A b c m n) (i:=i) (k:=k);rw[show(AV A b c m n).A (i+n) k=(AV A b c m n).A (i+(AV A b c m n).n) k from rfl,e]
   by_cases h:i=k
   .rw[sO h,sO h.symm]
   .rw[sQ h,sQ (yu h)],this]
  rfl
theorem aia{p:Prog}{T:Tab}{D:TZ}{ι:List Nat}(h:Vw p T D ι):D.R.length<=p.m:=by
 rw[<- h.len];have G:ι ⊆ List.range p.m:=fun r J=>List.mem_range.mpr (h.lt r J)
 have E:=h.nd.length_le_of_subset G;rw[uM]at E;exact E
theorem alY(hp:L6 A b c m n){T:Tab}{D:TZ}{ι:List Nat}(h:Vw (AV A b c m n) T D ι)(E:(AV A b c m n).Good T):(∀i j,i<D.R.length->j<=n+m->ln (en D.R i j).natAbs<=13)/\ln D.Bh.natAbs<=13:=by
 obtain⟨G,J⟩:=h.bound E (gY hp);have hm:=hp.hm;have O:=Uj m hm;have e:fact 1000 (AV A b c m n).m=fact 1000 m:=rfl;refine⟨fun i j hi S=>?_,?_⟩
 .have:=jc (G i j hi S)
  rw[e]at this;omega
 .have:=jc J
  rw[e]at this;omega
theorem Je(hp:L6 A b c m n){T:Tab}{D:TZ}{ι:List Nat}(h:Vw (AV A b c m n) T D ι)(E:(AV A b c m n).Good T)(G:D.fr.length=n+m):Xw D (n+m)/\0<D.Bh:=by
 obtain⟨J,O⟩:=h.bound E (gY hp);have S:=aia h;have hm:=hp.hm;have hn:=hp.hn;have Y:D.R.length<=m:=S;have a1:=Uj m hm;refine⟨⟨h.row,h.Bq,by omega,G,by omega,fun i j hi hj=>?_,?_,fun i hi=>?_⟩,h.pos⟩
 .have:=jc (J i j hi hj)
  have e:fact 1000 (AV A b c m n).m=fact 1000 m:=rfl;rw[e]at this;omega
 .have:=jc O
  have e:fact 1000 (AV A b c m n).m=fact 1000 m:=rfl;rw[e]at this;omega
 .rw[h.BH i hi]
  exact E.ok.bn _ (h.io hi)
end
theorem Lj{o E:Nat->Int}(k:Nat):∀(R:List (List Int)) (B:List Nat),(∀x∈B,o x=E x)->Et o k R B=Et E k R B
 |[],_,_=>by simp[Et]
 |_ :: _,[],_=>by simp[Et]
 |x :: R,y :: B,h=>by
  unfold Et;rw[Lj k R B fun z G=>h z (zY _ G),h y (by simp)]
theorem lW{o E:Nat->Int}{D:TZ}{N k:Nat}(h:∀j,j<N->o j=E j)(G:k<N)(J:∀x∈D.B,x<N):BI D o k=BI D E k:=by
 unfold BI;rw[h k G,Lj k D.R D.B fun x O=>h x (J x O)]
theorem bF{o G:Nat->Int}{N:Nat}(h:∀j,j<N->o j=G j){D J:TZ}(O:∀x∈D.B,x<N)(hs:Fb N o D J):Fb N G D J:=by
 obtain⟨s,r,E,S,Y⟩:=hs;refine⟨s,r,⟨E.lt,E.fr,E.non,?_,fun j hj hf hm=>?_⟩,S,Y⟩
 .rw[<- lW h E.lt O];exact E.pos
 .rw[<- lW h (by have:=E.lt;omega) O];exact E.low j hj hf hm
theorem OE{o J:Nat->Int}{N:Nat}(h:∀j,j<N->J j=o j){Q:TZ->Prop}(O:∀D,Q D->∀x∈D.B,x<N)(E:∀D G,Q D->Fb N J D G->Q G):∀ {k:Nat} {D:TZ},Q D->I8 N o k D->I8 N J k D
 |0,_,_,hn=>hn
 |k+1,D,hq,hn=>fun G hs=>OE h O E (E D G hq hs) (hn G (bF h (O D hq) hs))
theorem afj{o o':Nat->Int}{N:Nat}(h:∀j,j<N->o j=o' j){Q:TZ->Prop}(hQ:∀D,Q D->∀x∈D.B,x<N)(a1:∀D G,Q D->Fb N o D G->Q G){D G:TZ}{J:Bool}(hq:Q D)(hm:TN N o D J G):TN N o' D J G:=by
 obtain⟨D1,hr,O⟩:=hm;have S:Fe N o' D D1/\Q D1:=by
  clear O
  induction hr with
  |refl=>exact⟨.refl _,hq⟩
  |tail O Y ih=>exact⟨.tail ih.1 (bF h (hQ _ ih.2) Y),a1 _ _ ih.2 Y⟩
 have hB:=hQ _ S.2;refine⟨D1,S.1,?_⟩;rcases O with ⟨e,O,fr,⟨a6,a7⟩,h3⟩|⟨e,Y,s,h3,h4⟩
 .refine .inl ⟨e,fun j E hf hm=>?_,fr,⟨a6,fun j E=>?_⟩,h3⟩
  .rw[<- lW h E hB];exact O j E hf hm
  .rw[<- lW h E hB];exact a7 j E
 .refine .inr ⟨e,Y,s,⟨h3.lt,h3.fr,h3.non,?_,fun j E hf hm=>?_⟩,h4⟩
  .rw[<- lW h h3.lt hB];exact h3.pos
  .rw[<- lW h (by have:=h3.lt;omega) hB];exact h3.low j E hf hm
theorem OG{D:TZ}{N:Nat}(h:Xw D N):∀x∈D.B,x<N:=fun x E=>by
 obtain⟨i,hi,e⟩:=jK E;rw[<- e];exact h.inB i (by rw[<- h.Bq];exact hi)
def MQ(m n:Nat)(c:List Int)(q:Nat):List Int:=(List.range (n+m)).map (oq n (fun j=>c.getD j 0) q)
theorem XM(f:Nat->Int){N:Nat}{j:Nat}(E:j<N):oF ((List.range N).map f) j=f j:=by
 unfold oF;rw[zx,yc,wB E];rfl
theorem atJ(m n:Nat)(c:List Int)(q:Nat):oF (MQ m n c q)=oq n (fun j=>c.getD j 0) q:=by
 funext j
 by_cases E:j<n+m
 .exact XM _ E
 .unfold oF MQ oq
  rw[zx,yX (by simp;omega)]
  split
  .rw[sQ (by omega)];rfl
  .rw[sQ (by omega)];rfl
theorem Uk{m n:Nat}{c:List Int}(h:∀x∈c,-1000<=x/\x<=1000)(q:Nat):Obj (MQ m n c q) (n+m):=⟨by simp[MQ],fun x E=>by
 obtain⟨j,-,rfl⟩:=List.mem_map.mp E;have:=lK h j;unfold oq;simp only
 split
 .split<;>omega
 .split<;>omega⟩
section
variable {A b c:List Int} {m n:Nat}
def QA(A b c:List Int)(m n:Nat)(D:TZ):Prop:=D.fr=fr0 m n/\∃T,Vw (AV A b c m n) T D (List.range m)/\(AV A b c m n).Good T
def QB(A b c:List Int)(m n:Nat)(D:TZ):Prop:=D.fr=fr0 m n/\∃T ι,Vw (AV A b c m n) T D ι/\(AV A b c m n).Good T/\Zero (AV A b c m n) T
theorem Ul(m n:Nat):(fr0 m n).length=n+m:=by simp[fr0]
theorem acQ(m n j:Nat):(fr0 m n).getD j false=true↔j<n:=by
 unfold fr0;rw[zx,yc]
 by_cases h:j<n+m
 .rw[wB h];simp
 .rw[yX (by simp;omega)];simp;omega
theorem OH(m n:Nat):∀j,j<n+m->oF (o1L m n) j=o1 n j:=fun j E=>XM _ E
theorem atK{T:Tab}(o:Nat->Int)(fr:List Bool):Fit (AV A b c m n) T (List.range m) o fr:=⟨fun r E hn=>absurd (List.mem_range.mpr E) hn,fun _ _=> .inr fun r E=>List.mem_range.mpr E⟩
theorem Um(hp:L6 A b c m n){D:TZ}(h:QA A b c m n D):Xw D (n+m)/\0<D.Bh:=by
 obtain⟨E,T,G,J⟩:=h;exact Je hp G J (by rw[E];exact Ul m n)
theorem apN(hp:L6 A b c m n){D:TZ}(h:QB A b c m n D):Xw D (n+m)/\0<D.Bh:=by
 obtain⟨E,T,ι,G,J,_⟩:=h;exact Je hp G J (by rw[E];exact Ul m n)
theorem aib(hp:L6 A b c m n){D E:TZ}(h:QA A b c m n D)(hs:Fb (n+m) (o1 n) D E):QA A b c m n E:=by
 obtain⟨J,T,O,G⟩:=h;obtain⟨T',g1,g2,g3⟩:=O.step G (gY hp) (atK (o1 n) D.fr) hs;exact⟨g3.trans J,T',g2,G.step g1⟩
theorem Un(hp:L6 A b c m n){D E:TZ}(h:QA A b c m n D)(hs:Fb (n+m) (oF (o1L m n)) D E):QA A b c m n E :=
 aib hp h (bF (OH m n) (OG (Um hp h).1) hs)
theorem Uo:QA A b c m n (D0 A b m n m):=⟨rfl,_,view0,gZ⟩
theorem alZ(hp:L6 A b c m n):∃K,I8 (n+m) (oF (o1L m n)) K (D0 A b m n m) :=
 ⟨_,OE (OH m n) (fun D h=>OG (Um hp h).1) (fun D E h hs=>Un hp h hs) Uo
  (Vw.aa1 (o:=o1 n) (gY hp) view0 gZ (atK (o1 n) _) (acw gZ.ok))⟩
def ay_(A b c:List Int)(m n:Nat)(σ:Store)(nx:Nat)(r:V×Store×Nat):Prop :=
 ∃σ' nx',nx<=nx'/\(∀x,x<nx->σ' x=σ x) /\
  ((r=(.AX [.sc (.pointer none),Bo false],σ',nx')/\(AV A b c m n).None) \/
   (∃bt br bb bf rb D T ι,r=(.AX [.rp bt 0,Bo true],σ',nx')/\DU σ' bt br bb bf rb D (n+m)/\D.fr=fr0 m n/\Vw (AV A b c m n) T D ι/\(AV A b c m n).Good T/\(AV A b c m n).Out T/\(∀x∈D.B,x<n)/\∀x∈bt :: br :: bb :: bf :: rb,nx<=x/\x<nx'))
theorem al0(hp:L6 A b c m n)(σ:Store)(nx:Nat):∃r,ev ZM Aa Ak 143 [.tp (C9 m n A b c) 0] σ nx=some r/\ay_ A b c m n σ nx r:=by
 obtain⟨K,hK⟩:=alZ hp;have hN:(AV A b c m n).N=n+m:=rfl;have first:∀D1 E,TN (n+m) (oF (o1L m n)) (D0 A b m n m) E D1->∃T,Vw (AV A b c m n) T D1 (List.range m)/\(AV A b c m n).Good T/\((∀i,i<D1.R.length->n<=D1.B.getD i 0->¬0<en D1.R i (n+m))->Zero (AV A b c m n) T)/\((∃i,i<D1.R.length/\n<=D1.B.getD i 0/\0<en D1.R i (n+m))->(AV A b c m n).None):=fun D1 E hm=>
  aeY (p:=AV A b c m n) (gY hp) (afj (OH m n) (fun D h=>OG (Um hp h).1) (fun D D' h hs=>Un hp h hs) Uo hm) view0 gZ (fun r hr=>List.mem_range.mpr hr) (acQ m n)
 obtain⟨r,h1,σ',nx',h2,h3,D1,E,h4,S⟩:=apJ (QA A b c m n) (QB A b c m n) (c:=c) hp.hA hp.hb hp.m0 (by have:=hp.hm;omega) (by have:=hp.hn;omega) (fun x G=>by have:=hp.bA x G;omega) (fun x G=>by have:=hp.bb x G;omega)
  (fun D h=>Um hp h) (fun D D' h hs=>Un hp h hs) Uo hK (fun D h=>apN hp h)
  (fun D i k h hi Y hk a1=>by
   obtain⟨J,T,ι,v1,v2,v3⟩:=h;obtain⟨g1,g2,g3⟩:=aeZ (gY hp) v1 v2 v3 hi Y hk a1;refine⟨?_,_,_,g1,g2,g3⟩;rw[<- J];unfold Gp;split<;>rfl)
  (fun D i h hi Y hz=>by
   obtain⟨J,T,ι,v1,v2,v3⟩:=h;exact⟨J,T,_,aa2 v1 v3 hi Y hz,v2,v3⟩)
  (fun D1 E hm O=>by
   obtain⟨T,v1,v2,v3,_⟩:=first D1 E hm
   exact⟨rfl,T,_,v1.frame _,v2,v3 O⟩) σ nx
 refine⟨r,h1,σ',nx',h2,h3,?_⟩;obtain⟨T,v1,v2,v3,v4⟩:=first D1 E h4
 rcases S with ⟨rfl,S⟩|⟨bt,br,bb,bf,rb,D2,rfl,S,h6,⟨J,T2,a6,w1,w2,w3⟩,h8,h9⟩
 .exact .inl ⟨rfl,v4 S⟩
 .exact .inr ⟨bt,br,bb,bf,rb,D2,T2,a6,rfl,h6,J,w1,w2,ae0 w1 h8,fun x G=>by
   obtain⟨i,hi,e⟩:=jK G;rw[<- e];exact h8 i (by rw[<- w1.Bq];exact hi),h9⟩
end
theorem TM{p:Prog}{T:Tab}(h:p.Good T)(ho:p.Out T){q s:Nat}(J:q≠0)(hs:s<p.n)(O:¬basic p.m T s)(hg:0<gm p.m T (p.C q) s)(Gx:∀i,i<p.m->T.e i s<=0):False:=by
 obtain⟨E,e⟩:∃E:Prog,E={ p with c:=p.C q }:=⟨_,rfl⟩;have hC:E.C 0=p.C q:=by
  subst e;funext j;unfold Prog.C;rw[sO rfl,sQ J];show(if j<p.n then(if q=0 then _ else if j+1=q/\j<p.n then(-1:Rat)else 0)else 0)=_;rw[sQ J]
  by_cases G:j<p.n
  .rw[sO G]
  .rw[sQ G,sQ (fun h=>G h.2)]
 have S:E.Good T:=by
  subst e;exact⟨h.ok,h.ed,h.sol⟩
 have Y:E.Out T:=by
  subst e;exact⟨ho.z⟩
 have a1:E.Open:=Prog.N_ (p:=E) S Y (s:=s) (by subst e;exact hs) (by subst e;exact O) (by rw[hC];subst e;exact hg) (by subst e;exact Gx);obtain⟨x,hx,h1⟩:=a1 1;have a6:∀j,j<p.n->0<=x j:=by subst e;exact hx.2
 have hle:ob p.n (p.C q) x<=0:=by
  unfold ob;have:=bQ (f:=fun j=> -(p.C q j*x j)) (n:=p.n) fun j G=>by
   have:=a6 j G;unfold Prog.C;rw[sQ J]
   split<;>grind
  have e2:=bT (-1) (fun j=>p.C q j*x j) p.n;have e3:sm (fun j=> -(p.C q j*x j)) p.n=sm (fun j=> -1*(p.C q j*x j)) p.n:=bU fun j _=>by grind
  rw[e3,e2]at this;grind
 have:ob E.n E.c x=ob p.n (p.C q) x:=by subst e;rfl
 rw[this]at h1;grind
section
variable {A b c:List Int} {m n:Nat}
def QC(A b c:List Int)(m n:Nat)(ι:List Nat)(fr:List Bool)(D:TZ):Prop:=D.fr=fr/\∃T,Vw (AV A b c m n) T D ι/\(AV A b c m n).Good T
theorem anD(hp:L6 A b c m n){q:Nat}{v:Nat->Rat}{σ:Store}{nx bt br bb bf bo:Nat}{rb ι:List Nat}{D:TZ}{T:Tab}(h:DU σ bt br bb bf rb D (n+m))(hv:Vw (AV A b c m n) T D ι)(hg:(AV A b c m n).Good T)(ho:(AV A b c m n).Out T)
  (a1:(AV A b c m n).EH q v (fun j=>D.fr.getD j false=true) T) (O:D.fr.length=n+m) (a6:∀x∈D.B,x<n) (a7:∀b∈bt :: br :: bb :: bf :: rb,b<nx) (a8:σ bo=some ⟨(MQ m n c q).flatMap cI,1,true⟩) (b2:bo<nx) (b3:bo∉bt :: br :: bb :: bf :: rb) :
  ∃σ' nx' E J T',ev ZM Aa Ak 144 [.rp bt 0,.rs bo 0 (n+m)] σ nx=some (Bo E,σ',nx')/\DU σ' bt br bb bf rb J (n+m)/\nx<=nx'/\(∀b,b<nx->b∉bt :: bb :: bf :: rb->σ' b=σ b) /\
   Vw (AV A b c m n) T' J ι/\(AV A b c m n).Good T'/\(AV A b c m n).Out T'/\J.fr.length=n+m/\(∀x∈J.B,x<n)/\((E=true/\∃v',(AV A b c m n).EH (q+1) v' (fun j=>J.fr.getD j false=true) T')\/(E=false/\q=0/\(AV A b c m n).Open)):=by
 have hw:=gY hp;have S:∀j,D.fr.getD j false=true->j<n:=fun j hj=>a1.inn j hj
 have sh:∀D1,QC A b c m n ι D.fr D1->Xw D1 (n+m)/\0<D1.Bh:=fun D1 ⟨e,T1,h1,h2⟩=>Je hp h1 h2 (by rw[e];exact O)
 have oe:=atJ m n c q;have Y:∀D1 D2,QC A b c m n ι D.fr D1->Fb (n+m) (oF (MQ m n c q)) D1 D2->QC A b c m n ι D.fr D2:=fun D1 D2 ⟨e,T1,h1,h2⟩ hs=>by
  rw[oe]at hs;obtain⟨T2,g1,g2,g3⟩:=h1.step h2 hw (aoW (c:=fun j=>c.getD j 0) (q:=q) h1 (by rw[e];exact S)) hs;exact⟨g3.trans e,T2,g2,h2.step g1⟩
 have b4:I8 (n+m) (oF (MQ m n c q)) (2^(n+m)) D:=by
  rw[oe];exact Vw.aa1 (o:=oq n (fun j=>c.getD j 0) q) hw hv hg (aoW hv S) (acw hg.ok)
 obtain⟨σ',nx',E,J,ke,G,hT,hn,hf⟩:=atz (QC A b c m n ι D.fr) sh Y (Uk hp.bc q) ⟨rfl,T,hv,hg⟩ b4 h a7 a8 b2 b3;rw[oe]at G;obtain⟨T',v1,v2,v3,v4,v5⟩:=ae1 (p:=AV A b c m n) hw (c:=fun j=>c.getD j 0) (fun j _=>rfl) G hv hg ho a1 (by rw[O];exact zq _);have b5:∀x∈J.B,x<n:=by
  obtain⟨D1,fr,⟨_,h1⟩,rfl,-⟩:=anC (Q:=fun D1=>D1.fr=D.fr/\∀x∈D1.B,x<n) (fun D1 D2 ⟨e,hB⟩ hs=>by
   obtain⟨s,r,g1,g2,rfl⟩:=hs;have e1:(Gp D1 r s).fr=D1.fr:=by unfold Gp;split<;>rfl
   have e2:(Gp D1 r s).B=D1.B.set r s:=by unfold Gp;split<;>rfl
   refine⟨e1.trans e,fun x hx=>?_⟩;rw[e2]at hx;rcases uz hx with h|h
   .exact hB x h
   .subst h;exact S _ (by rw[<- e];exact g1.fr)) G ⟨rfl,a6⟩
  exact h1
 refine⟨σ',nx',E,J,T',ke,hT,hn,hf,v1,v2,v3,v4.trans O,b5,?_⟩;rcases v5 with ⟨e,v5⟩|⟨e,s,s1,s2,s3,s4⟩
 .exact .inl ⟨e,_,v5⟩
 .by_cases hq:q=0
  .subst hq
   exact .inr ⟨e,rfl,Prog.N_ v2 v3 s1 s2 s3 s4⟩
  .exact(TM v2 v3 hq s1 s2 s3 s4).elim
end
theorem DU.congr{σ σ':Store}{bt br bb bf:Nat}{rb:List Nat}{D:TZ}{N:Nat}(h:DU σ bt br bb bf rb D N)(e:∀x∈bt :: br :: bb :: bf :: rb,σ' x=σ x):DU σ' bt br bb bf rb D N:=by
 refine⟨?_,?_,fun i hi=>(h.row i hi).congr (e _ ?_),?_,?_,h.len,h.nd⟩
 .rw[e bt (by simp)];exact h.t
 .rw[e br (by simp)];exact h.r
 .have:=zu hi
  simp[this]
 .rw[e bb (by simp)];exact h.b
 .rw[e bf (by simp)];exact h.f
section
variable {A b c:List Int} {m n:Nat}
theorem aic(hc:c.length=n):MQ m n c 0=c++List.replicate m 0:=by
 apply yQ
 .simp[MQ,hc]
 .intro j E G
  have J:j<n+m:=by simpa[MQ]using E
  have e:(MQ m n c 0)[j]=if j<n then c.getD j 0 else 0:=by simp[MQ,oq]
  rw[e,List.getElem_append]
  by_cases h:j<n
  .rw[sO h,dif_pos (by omega),zx,zy (by omega)];rfl
  .rw[sQ h,dif_neg (by omega),List.getElem_replicate]
theorem aie(k:Nat)(G:k<n):MQ m n c (k+1)=(List.replicate (n+m) 0).set k (-1):=by
 apply yQ
 .simp[MQ]
 .intro j E J
  have O:j<n+m:=by simpa[MQ]using E
  have e:(MQ m n c (k+1))[j]=if j=k/\j<n then -1 else 0:=by simp[MQ,oq]
  rw[e,wW]
  by_cases h:k=j
  .rw[sO h,sO ⟨h.symm,by omega⟩]
  .rw[sQ h,sQ (fun g=>h g.1.symm),List.getElem_replicate]
theorem apO(hc:c.length=n)(σ:Store)(nx b:Nat):H9 (upd σ b (some ⟨rep (n+m) [I 0],1,true⟩)) nx (c.flatMap cI) c.length (.rs b 0 (n+m))=some (I ((n:Nat):Int),upd σ b (some ⟨(MQ m n c 0).flatMap cI,1,true⟩),nx):=by
 unfold H9;have e:min c.length (n+m)=n:=by omega
 have E:(c.flatMap cI).length=n:=by rw[qN,hc]
 have G:(MQ m n c 0).flatMap cI=c.flatMap cI++rep m [I 0]:=by rw[aic hc,zQ,fU]
 simp only[e,Zj,zk,Zi];rw[G]
 by_cases hn:n=0
 .rw[sO hn]
  have:c=[]:=zZ (by omega);subst hn this;simp
 .rw[sQ hn,sO ⟨trivial,by rw[fQ];simp,by
   rw[wV];intro v J;obtain⟨x,-,O⟩:=List.mem_flatMap.mp (wR J);rw[List.mem_singleton.mp O];rfl⟩]
  rw[zl (by omega),iH _ _ _ (by rw[E,fQ];simp),E];congr 4;rw[List.take_zero,yJ,yZ];congr 1;have:rep (n+m) [I 0]=rep n [I 0]++rep m [I 0]:=by rw[fU,fU,fU,<- zQ,wG]
  rw[this,List.drop_left' (by rw[fQ];simp)]
theorem al1{L:List Int}{N:Nat}(S:L.length=N)(σ:Store)(nx b:Nat)(hb:σ b=some ⟨L.flatMap cI,1,true⟩)(G:N≠0):ET σ nx [I 0] (.rs b 0 N)=some (.AX [],upd σ b (some ⟨(List.replicate N 0).flatMap cI,1,true⟩),nx):=by
 unfold ET;simp only;rw[sQ G,hb];have E:(rep N [I 0]).length=N:=by rw[fQ];simp
 simp only[zk];rw[sO ⟨trivial,by rw[qN];omega,by
  rw[fU,wV];intro v J;obtain⟨x,-,O⟩:=List.mem_flatMap.mp J;rw[List.mem_singleton.mp O];rfl⟩]
 rw[iH _ _ _ (by rw[E,qN];omega),E,List.take_zero,yJ,yZ,yA (by rw[qN];omega),zH,fU]
def cF(q:Rat):List V:=[.tp (cQ q) 0]
def atL(p:Prog)(r:V):Prop:=(r= .AX [I 2,.ts [] 0,.sc (.pointer none)]/\p.None)\/(r= .AX [I 3,.ts [] 0,.sc (.pointer none)]/\p.Open) \/
 ∃x:Nat->Rat,p.Best x/\(∀j,j<p.n->Ln 24 (x j))/\r= .AX [I 0,LL cF ((List.range p.n).map x),.tp (cQ (ob p.n p.c x)) 0]
theorem acR{a:Int}{d k:Nat}(ha:ln a.natAbs<=k)(E:ln d<=k)(G:1<=k):Ln k (mkRat a d):=by
 constructor
 .rw[Rat.num_mkRat]
  split
  .show ln 0<=k;rw[jU];omega
  .exact zL (jc (Int.natAbs_ediv_le_natAbs _ _)) ha
 .rw[Rat.den_mkRat]
  split
  .exact zL (jV (by decide)) G
  .exact zL (jc (xE _ _)) E
theorem abg{x y:Rat}{k l:Nat}(h:Ln k x)(E:Ln l y)(G:1<=k+l):Ln (k+l) (x*y):=by
 rw[Rat.mul_def'];refine acR ?_ (QX h E) G;have:=jY x.num y.num;have:=h.1;have:=E.1;omega
theorem abh{x y:Rat}{k l:Nat}(h:Ln k x)(E:Ln l y):Ln (k+l+1) (x+y):=by
 rw[Rat.add_def'];refine acR ?_ (zL (QX h E) (by omega)) (by omega);have G:=jX h E;have J:=jX E h;have:=Jb (x.num*y.den) (y.num*x.den);omega
theorem sG{z:Int}(h:-1000000<=z/\z<=1000000):Ln 1 (z:Rat):=⟨jV (by show z.natAbs<_;omega),jV (by show 1<_;decide)⟩
theorem apP(X:List Rat):∀(k:Nat) (q:Rat),(X.flatMap cF).set k (.tp (cQ q) 0)=(X.set k q).flatMap cF:=by
 induction X with
 |nil=>intro k q;rfl
 |cons a X E=>intro k q;cases k with
  |zero=>rfl
  |succ k=>show V.tp (cQ a) 0 :: ((X.flatMap cF).set k (.tp (cQ q) 0))=_;rw[E];rfl
theorem qP(X:List Rat):(X.flatMap cF).length=X.length:=by
 induction X with
 |nil=>rfl
 |cons a X E=>rw[zG,zo,E,zV];show 1+_=_;omega
theorem qQ(X:List Rat){k:Nat}(h:k<X.length):(X.flatMap cF)[k]?=some (.tp (cQ X[k]) 0):=by
 induction X generalizing k with
 |nil=>exact absurd h (zW k)
 |cons a X E=>cases k with
  |zero=>rfl
  |succ k=>exact E (k:=k) (by simpa using h)
theorem aif(k N:Nat)(h:k<N):((List.replicate k (0:Rat)).flatMap cF++rep (N-k) [.sc (.pointer none)]).set k (.tp (cQ 0) 0)=(List.replicate (k+1) (0:Rat)).flatMap cF++rep (N - (k+1)) [.sc (.pointer none)]:=by
 rw[xO _ _ (by rw[qP,yU];exact zq _),qP,yU,yM,show N-k=N - (k+1)+1 by omega,fP,uK,zQ,yw];rfl
theorem Jf(σ:Store)(d:Nat):∀X:List Rat,stripL (strip σ (d+1)) (X.flatMap cF)=some (X.flatMap cF,[])
 |[]=>by rw[vw,aY]
 |q :: X=>by
  rw[zG,show cF q++X.flatMap cF=V.tp (cQ q) 0 :: X.flatMap cF from rfl,au,aO,Jf σ d X];rfl
def xB(B:List Nat)(f:Nat->Rat)(i n:Nat):List Rat:=(List.range n).map fun j=>if j∈B.take i then f j else 0
theorem ZQ(B:List Nat)(f:Nat->Rat)(i n:Nat):(xB B f i n).length=n:=by simp[xB]
theorem acS(B:List Nat)(f:Nat->Rat)(n:Nat):xB B f 0 n=List.replicate n 0:=by simp[xB,List.map_const']
theorem aii{B:List Nat}(f:Nat->Rat){i n:Nat}(hi:i<B.length):(xB B f i n).set (B.getD i 0) (f (B.getD i 0))=xB B f (i+1) n:=by
 have hb:B[i]=B.getD i 0:=by rw[zx,zy hi];rfl
 apply yQ
 .rw[yP,ZQ,ZQ]
 .intro j O G
  have J:j<n:=by rw[ZQ]at G;exact G
  have e:∀i,(xB B f i n)[j]'(by rw[ZQ];exact J)=if j∈B.take i then f j else 0:=fun i=>by simp[xB]
  rw[wW,e,e,yL,zy hi,hb]
  by_cases h:B.getD i 0=j
  .rw[sO h,h,sO (by simp)]
  .rw[sQ h]
   by_cases E:j∈B.take i
   .rw[sO E,sO (by simp[E])]
   .rw[sQ E,sQ (by simp[E];exact fun e=>h e.symm)]
theorem apQ(hp:L6 A b c m n):∃r,fn ZM Aa Ak 107 [.tp (C9 m n A b c) 0]=some r/\atL (AV A b c m n) r:=by
 have O:=hp.m0;have hm:=hp.hm;have hn:=hp.hn;have hc:=hp.hc;obtain⟨r0,kb,e3,qI,m6,-,hr⟩:=al0 hp pI 0;obtain⟨N,hN⟩:∃N,N=n+m:=⟨_,rfl⟩;rw[mJ,nC [.tmp 2,.tmp 3,.tmp 4] [24] func107];unfold C9 at kb⊢;rcases hr with ⟨rfl,c7⟩|⟨bt,br,bb,bf,rb,D,T,ι,rfl,hT,e4,hv,hg,ho,i0,a1⟩
 .simp only[go_sem,qE,kb]
  exact⟨_,rfl,.inl ⟨rfl,c7⟩⟩
 .have c8:=hT.t
  have f1:bt<qI:=(a1 bt (by simp)).2;rw[<- hN]at c8;have f2:=jF N;have f3:8*(N:Int)<=281474976710656:=by omega
  have f4:(N:Int)<=9223372036854775807:=by omega
  have kc:=apO (m:=m) hc e3 (qI+1) qI;rw[<- hN]at kc;obtain⟨σ2,FY⟩:∃σ2,σ2=upd e3 qI (some ⟨(MQ m n c 0).flatMap cI,1,true⟩):=⟨_,rfl⟩;rw[<- FY]at kc;have i1:DU σ2 bt br bb bf rb D (n+m):=hT.congr fun x G=>by rw[FY,Zk _ _ (by have:=a1 x G;omega)]
  obtain⟨m7,AA,i2,D3,T3,km,Oz,m8,i3,i4,i5,i6,i7,i9,e6⟩:=anD hp (q:=0) (v:=fun _=>0) (bo:=qI) (nx:=qI+1) i1 hv hg ho (by
   rw[e4];have:(fun j=>(fr0 m n).getD j false=true)=fun j=>j<(AV A b c m n).n:=by funext j;exact propext (acQ m n j)
   rw[this];exact Prog.stage0) (by rw[e4];exact Ul m n) i0 (fun x G=>by have:=a1 x G;omega) (by rw[FY,Zj]) (by omega) (fun G=>by have:=a1 qI G;omega)
  rw[<- hN]at km;rcases e6 with ⟨rfl,v1,j0⟩|⟨rfl,-,j1⟩
  .simp only[go_sem,qE,kb,c8,f1,f2,f3,f4,kc,km]
   generalize hL:iI _ _=y
   obtain⟨x,rfl,T4,Dz,J,rfl,t0,t5,E,S,v4,b2,a6,a8,b4,XO⟩:=oZ hL n (fun k st=>st.T 0= .tp (C9 m n A b c) 0/\st.T 5= .rp bt 0/\st.T 7= .rs qI 0 N/\st.T 41=I n/\st.T 42=I k/\qI<st.nx/\(∃L:List Int,L.length=N/\st.σ qI=some ⟨L.flatMap cI,1,true⟩) /\
     ∃D U v,DU st.σ bt br bb bf rb D (n+m)/\Vw (AV A b c m n) U D ι/\(AV A b c m n).Good U/\(AV A b c m n).Out U/\D.fr.length=n+m/\(∀x∈D.B,x<n)/\(AV A b c m n).EH (k+1) v (fun j=>D.fr.getD j false=true) U)
    (fun x=>∃T Dz J,x=(.exit 0,⟨T,Dz,J⟩)/\T 0= .tp (C9 m n A b c) 0/\T 5= .rp bt 0/\∃D U v,DU Dz bt br bb bf rb D (n+m)/\Vw (AV A b c m n) U D ι/\(AV A b c m n).Good U/\(AV A b c m n).Out U/\D.fr.length=n+m/\(∀x∈D.B,x<n)/\(∀x∈bt :: br :: bb :: bf :: rb,x<J)/\(AV A b c m n).EH (n+1) v (fun j=>D.fr.getD j false=true) U) (by
     clear hL;rintro k ⟨T,Dz,J⟩ hk ⟨t0,t5,t7,t41,t42,b5,⟨L,hL,c2⟩,E,U,v,b2,a6,a8,b4,b6,b8,XO⟩;simp only at t0 t5 t7 t41 t42 b5 c2 b2;have g1:(k:Int)<(n:Int):=by omega
     have g2:=jF k;have g3:=ZU (n:=(k:Int)+1);have g4:=al1 hL Dz J qI c2 (by omega);obtain⟨DF,c3⟩:∃DF,DF=upd Dz qI (some ⟨(MQ m n c (k+1)).flatMap cI,1,true⟩):=⟨_,rfl⟩;have g5:((List.replicate N (0:Int)).flatMap cI).set k (I (-1))=(MQ m n c (k+1)).flatMap cI:=by rw[qM,aie k hk,hN]
     have g6:((List.replicate N (0:Int)).flatMap cI).length=N:=by rw[qN];simp
     have g7:(k:Int)<(N:Int):=by omega
     have g8:k<N:=by omega
     have g9:k+1<=N:=by omega
     have GH:DU DF bt br bb bf rb E (n+m):=b2.congr fun x G=>by rw[c3,Zk _ _ (by have:=a1 x G;omega)]
     obtain⟨CZ,Bz,i2,D6,U6,e7,j2,PI,j3,j4,j5,j6,e8,j7,j8⟩:=anD hp (q:=k+1) (bo:=qI) (nx:=J) GH a6 a8 b4 XO b6 b8 (fun x G=>by have:=a1 x G;omega) (by rw[c3,Zj]) b5 (fun G=>by have:=a1 qI G;omega);rw[<- hN]at e7;unfold C9 at t0;rcases j8 with ⟨rfl,v6,j9⟩|⟨_,h,_⟩
     .refine .inl ⟨_,by simp only[go_sem,qE,t0,t5,t7,t41,t42,g1,g2,g3,g4,g5,g6,g7,g8,g9,<- c3,e7];rfl,?_⟩
      simp only[go_sem,t0,t5,t7,t41];refine⟨rfl,rfl,by omega,⟨MQ m n c (k+1),by rw[(Uk hp.bc _).1,hN],?_⟩,D6,U6,v6,j2,j4,j5,j6,e8,j7,j9⟩;rw[j3 qI b5 (fun G=>by
       have:=a1 qI (by simp only[zX]at G⊢;rcases G with h|h|h|h<;>simp[h]);omega),c3,Zj]
     .omega) (by
     rintro ⟨T,Dz,J⟩ ⟨t0,t5,t7,t41,t42,b5,c2,E,U,v,b2,a6,a8,b4,b6,b8,XO⟩;simp only at t0 t5 t7 t41 t42 b5 c2 b2;have g1:¬(n:Int)<(n:Int):=by omega
     refine⟨_,by simp only[go_sem,t41,t42,g1];rfl,by simp,_,_,_,rfl,?_⟩;simp only[go_sem,t0,t5];exact⟨E,U,v,b2,a6,a8,b4,b6,b8,fun x G=>by have:=a1 x G;omega,XO⟩) (by
     simp only[go_sem,C9];refine⟨by omega,⟨MQ m n c 0,by rw[(Uk hp.bc _).1,hN],?_⟩,D3,T3,v1,Oz,i4,i5,i6,i7,i9,j0⟩;rw[i3 qI (by omega) (fun G=>by
      have:=a1 qI (by simp only[zX]at G⊢;rcases G with h|h|h|h<;>simp[h]);omega),FY,Zj])
   clear hL;obtain⟨b6,b8,a7,e9⟩:=XO;have k0:=Je hp a6 a8 b6;have k4:=e9.best a8 b4;have h1:=jF n;have h2:8*(n:Int)<=281474976710656:=by omega
   have h3:(n:Int)<=9223372036854775807:=by omega
   unfold C9 at t0;simp only[go_sem,t0,t5,h1,h2,h3];generalize hL:iI _ _=y;obtain⟨x,rfl,T5,DF,rfl,t0,t5,t9,k5,k6⟩:=oZ hL n (fun k st=>st.T 0= .tp (C9 m n A b c) 0/\st.T 5= .rp bt 0/\st.T 9= .rs J 0 n/\st.T 59=I n/\st.T 60=I k/\st.nx=J+1/\st.σ J=some ⟨(List.replicate k (0:Rat)).flatMap cF++rep (n-k) [.sc (.pointer none)],1,true⟩/\∀x,x<J->st.σ x=Dz x)
    (fun x=>∃T DF,x=(.exit 2,⟨T,DF,J+1⟩)/\T 0= .tp (C9 m n A b c) 0/\T 5= .rp bt 0/\T 9= .rs J 0 n/\DF J=some ⟨(List.replicate n (0:Rat)).flatMap cF,1,true⟩/\∀x,x<J->DF x=Dz x) (by
     clear hL;rintro k ⟨T,DF,m0⟩ hk ⟨t0,t5,t9,t59,t60,O,G,hs⟩;simp only at t0 t5 t9 t59 t60 O G hs;subst O;have g1:(k:Int)<(n:Int):=by omega
     have g2:=jF k;have g3:=ZU (n:=(k:Int)+1);have g4:fn ZM conv ext 115 [I 0]=some (.tp (cQ 0) 0):=kD 0 (by decide) (by decide)
     have g5:=aif k n hk;have g6:((List.replicate k (0:Rat)).flatMap cF++rep (n-k) [.sc (.pointer none)]).length=n:=by rw[zo,qP,fQ];simp;omega
     have g7:k+1<=n:=hk;refine .inl ⟨_,by simp only[go_sem,t0,t5,t9,t59,t60,G,hk,g1,g2,g3,g4,g5,g6,g7];rfl,?_⟩;simp only[go_sem,t0,t5,t9,t59];exact⟨rfl,fun x G=>by rw[Zm];exact hs x G⟩) (by
     rintro ⟨T,DF,m0⟩ ⟨t0,t5,t9,t59,t60,O,G,hs⟩;simp only at t0 t5 t9 t59 t60 O G hs;subst O;have g1:¬(n:Int)<(n:Int):=by omega
     refine⟨_,by simp only[go_sem,t59,t60,g1];rfl,by simp,_,_,rfl,?_⟩;simp only[go_sem,t0,t5,t9];rw[yM]at G;have:rep 0 [V.sc (.pointer none)]=[]:=rfl;rw[this,zH]at G;exact⟨G,hs⟩) (by
     simp only[go_sem,t0,t5,C9];exact⟨rfl,fun x G=>by rw[Zm]⟩)
   clear hL;have GH:DU DF bt br bb bf rb E (n+m):=b2.congr fun x G=>k6 x (a7 x G)
   obtain⟨hS,m5⟩:=k0;have h0:=GH.t;have k7:bt<J:=a7 bt (by simp);unfold C9 at t0;obtain⟨n1,n2,n3,n4,n5,n6,n7,n8⟩:=nd4 GH.nd;have m9:=hS.Gz;have k8:=GH.len;obtain⟨P7,k9⟩:=GH.r;obtain⟨MO,l5⟩:=GH.b;have n0:(CB E.B).length=E.R.length:=by rw[aA];exact hS.Bq
   have l6:E.B.length=E.R.length:=hS.Bq;have g13:bt<J+1:=by omega
   have e8:∀x,x∈bt :: br :: bb :: bf :: rb->x<J:=a7;simp only[go_sem,t0,t5,h0,g13];generalize hL:iI _ _=y;obtain⟨x,rfl,T6,CZ,rfl,t0,t9,c4⟩:=oZ hL E.R.length (fun i st=>st.T 0= .tp (C9 m n A b c) 0/\st.T 5= .rp bt 0/\st.T 9= .rs J 0 n/\st.T 71= .rs bb 0 E.R.length/\st.T 72=I E.R.length/\st.T 73=I i/\st.nx=J+1/\st.σ J=some ⟨(xB E.B (BH m S) i n).flatMap cF,1,true⟩/\∀x,x<J->st.σ x=DF x)
    (fun x=>∃T CZ,x=(.exit 4,⟨T,CZ,J+1⟩)/\T 0= .tp (C9 m n A b c) 0/\T 9= .rs J 0 n/\CZ J=some ⟨(xB E.B (BH m S) E.R.length n).flatMap cF,1,true⟩) (by
     clear hL;rintro i ⟨T,CZ,m0⟩ hi ⟨t0,t5,t9,t71,t72,t73,O,G,hs⟩;simp only at t0 t5 t9 t71 t72 t73 O G hs;subst O;have g1:(i:Int)<(E.R.length:Int):=by omega
     have g2:=jF i;have g3:=ZU (n:=(i:Int)+1);have g4:((CB E.B).flatMap cI++MO)[i]?=some (I ((E.B.getD i 0:Nat):Int)):=by
      rw[zU (by rw[qN];omega),idx (by omega),aB (by omega)]
     have h4:E.B.getD i 0<n:=b8 _ (lF (by omega));have Y:=read a6 a8 hi;have c6:=aii (B:=E.B) (BH m S) (i:=i) (n:=n) (by omega);obtain⟨bi,FI⟩:∃bi,bi=E.B.getD i 0:=⟨_,rfl⟩;rw[<- FI]at g4 h4 Y c6;have h5:i<rb.length:=by omega
     have f6:=g_ (ex:=P7) (n:=n+m+1) h5;obtain⟨ri,c9⟩:∃ri,ri=rb[i]:=⟨_,rfl⟩;rw[<- c9]at f6;obtain⟨Li,T_,Hl,Ua⟩:=GH.row i h5;have YD:ri<J:=a7 ri (by rw[c9];simp[zu]);have l7:CZ ri=some ⟨Li.flatMap zc,2,true⟩:=by rw[hs ri YD,c9];exact T_
     have rl:(Ee E.R i).length=n+m+1:=by rw[dY hi];exact hS.row _ (zu hi)
     have LX:Li.length=n+m+1:=by have:=congrArg List.length Hl;rw[zT,rl]at this;exact this
     have b7:=bZ (c:=zc) (s:=2) ZP Li;rw[LX]at b7;have g6:=d_ (c:=zc) (s:=2) ZP Li (n+m) (by omega);have g7:(n+m)*2+2<=(n+m+1)*2:=by omega
     have g8:((n+m:Nat):Int)<((n+m+1:Nat):Int):=by omega
     have g9:(0:Int)<=((n+m:Nat):Int):=by omega
     obtain⟨hq,e⟩:=QZ Hl (c:=n+m) (by rw[rl];omega);have e2:(Ee E.R i)[n+m]'(by rw[rl];omega)=en E.R i (n+m):=by
      unfold en;rw[zx,zy (by rw[rl];omega)];rfl
     have z1:∀σ d,stripL (strip σ d) (zc Li[n+m])=some (cZ (en E.R i (n+m)),[]):=fun σ d=>by
      rw[ZO σ d (Ua _ (zu hq)),e,e2]
     have k1:fn ZM Aa Ak 145 [.agg (cZ (en E.R i (n+m))),LI (dg E.Bh.natAbs)]=some (.tp (cQ (BH m S bi)) 0):=by
      rw[Oo _ _ (by have:=hS.big i (n+m) hi (zq _);omega) (by omega) (by have:=hS.Bh;omega)];have:mkRat (en E.R i (n+m)) E.Bh.natAbs=BH m S bi:=by
       rw[<- show((en E.R i (n+m):Int):Rat) / E.Bh=BH m S bi from Y,Rat.mkRat_eq_div];congr 1;have:((E.Bh.natAbs:Nat):Int)=E.Bh:=by omega
       rw[<- Rat.intCast_natCast,this]
      rw[this]
     have g10:(bi:Int)<(n:Int):=by omega
     have g11:=jF bi;have g12:bi+1<=n:=by omega
     have q1:=apP (xB E.B (BH m S) i n) bi (BH m S bi);rw[c6]at q1;have q2:((xB E.B (BH m S) i n).flatMap cF).length=n:=by rw[qP,ZQ]
     have q3:bb<J:=a7 bb (by simp);have q4:br<J:=a7 br (by simp);have l8:=(hs bb q3).trans l5;have l9:=(hs br q4).trans k9;have m1:=(hs bt k7).trans h0;have q5:bb<J+1:=by omega
     have q6:br<J+1:=by omega
     have q7:ri<J+1:=by omega
     have q8:J<J+1:=by omega
     unfold C9 at t0;refine .inl ⟨_,by simp only[go_sem,t0,t5,t9,t71,t72,t73,G,l8,l9,m1,l7,f6,g1,g2,g3,g4,g6,g7,g8,g9,g10,g11,g12,g13,b7,z1,k1,h4,q1,q2,q5,q6,q7,q8];rfl,?_⟩;simp only[go_sem,t0,t5,t9,t71,t72];exact⟨rfl,rfl,fun x G=>by rw[Zm];exact hs x G⟩) (by
     rintro ⟨T,CZ,m0⟩ ⟨t0,t5,t9,t71,t72,t73,O,G,hs⟩;simp only at t0 t5 t9 t71 t72 t73 O G hs;subst O;have g1:¬(E.R.length:Int)<(E.R.length:Int):=by omega
     refine⟨_,by simp only[go_sem,t72,t73,g1];rfl,by simp,_,_,rfl,?_⟩;simp only[go_sem,t0,t9];exact G) (by
     simp only[go_sem,t0,t5,t9,C9,acS];exact⟨k5,fun _ _=>trivial⟩)
   clear hL;have m2:xB E.B (BH m S) E.R.length n=(List.range n).map (BH m S):=by
    unfold xB;rw[<- l6,yT];apply xM;intro j hj
    by_cases h:j∈E.B
    .rw[sO h]
    .rw[sQ h];exact(Xj a6 (List.mem_range.mp hj) h).symm
   rw[m2]at c4;have h6:=alY hp a6 a8;have h7:∀j,j<n->Ln 24 (BH m S j):=fun j hj=>by
    by_cases h:j∈E.B
    .obtain⟨i,hi,e⟩:=jK h
     have h8:i<E.R.length:=by omega
     have Y:=read a6 a8 h8;rw[e]at Y;have:mkRat (en E.R i (n+m)) E.Bh.natAbs=BH m S j:=by
      rw[<- show((en E.R i (n+m):Int):Rat) / E.Bh=BH m S j from Y,Rat.mkRat_eq_div];congr 1;have:((E.Bh.natAbs:Nat):Int)=E.Bh:=by omega
      rw[<- Rat.intCast_natCast,this]
     rw[<- this];exact acR (zL (h6.1 i (n+m) h8 (zq _)) (by decide)) (zL h6.2 (by decide)) (by decide)
    .rw[show BH m S j=0 from Xj a6 hj h]
     exact(sG (z:=0) (by decide)).mono (by decide)
   obtain⟨X,hX⟩:∃X:List Rat,X=(List.range n).map (BH m S):=⟨_,rfl⟩;have c5:X.length=n:=by rw[hX];simp
   have m3:∀j (h:j<n),X[j]'(by omega)=BH m S j:=fun j h=>by subst hX;simp
   rw[<- hX]at c4;have g4:fn ZM conv ext 115 [I 0]=some (.tp (cQ 0) 0):=kD 0 (by decide) (by decide)
   unfold C9 at t0;simp only[go_sem,t0,t9,g4];generalize hL:iI _ _=y;obtain⟨x,rfl,T7,rfl,t9,t13⟩:=oZ hL n (fun k st=>st.T 0= .tp (C9 m n A b c) 0/\st.T 9= .rs J 0 n/\st.T 102= .rs J 0 n/\st.T 103=I n/\st.T 104=I k/\st.nx=J+1/\st.σ=CZ/\∃s,st.T 13= .tp (cQ s) 0/\s=sm (fun j=>((c.getD j 0:Int):Rat)*BH m S j) k/\Ln (1+52*k) s)
    (fun x=>∃T,x=(.exit 6,⟨T,CZ,J+1⟩)/\T 9= .rs J 0 n/\T 13= .tp (cQ (sm (fun j=>((c.getD j 0:Int):Rat)*BH m S j) n)) 0) (by
     clear hL;rintro k ⟨T,EU,m0⟩ hk ⟨t0,t9,b9,b3,c0,O,hs,s,t13,e0,e1⟩;simp only at t0 t9 b9 b3 c0 O hs t13;subst O hs;have g1:(k:Int)<(n:Int):=by omega
     have g2:=jF k;have g3:=ZU (n:=(k:Int)+1);have g4:=qQ X (k:=k) (by omega);rw[m3 k hk]at g4;have m4:=lK hp.bc k;have g5:=idx (xs:=c) (k:=k) (by omega);have e5:c[k]'(by omega)=c.getD k 0:=by rw[zx,zy (by omega)];rfl
     rw[e5]at g5;have g6:=Ba c k (by omega);have g7:(k:Int)<(c.length:Int):=by omega
     have g8:(c.flatMap cI).length=c.length:=qN c;have g9:(X.flatMap cF).length=n:=by rw[qP,c5]
     obtain⟨ck,h9⟩:∃ck,ck=c.getD k 0:=⟨_,rfl⟩;rw[<- h9]at g5 m4;have k1:=kD ck (by omega) (by omega);have l1:=sG (z:=ck) (by omega);have l2:=(h7 k hk).mono (show 24<=50 by decide);have k2:=acK (BH m S k) (ck:Rat) (l2.mono (by decide)) (l1.mono (by decide));have l3:=abg l2 l1 (by decide);have k3:=ahV s (BH m S k*(ck:Rat)) (e1.mono (by omega)) (l3.mono (by decide));have l4:=abh e1 l3;unfold C9 at t0;refine .inl ⟨_,by simp only[go_sem,t0,t9,b9,b3,c0,t13,c4,g1,g2,g3,g4,g5,g6,g7,g8,g9,k1,k2,k3];rfl,?_⟩;simp only[go_sem,t0,t9,b9,b3];refine⟨rfl,rfl,_,rfl,?_,l4.mono (by omega)⟩;show _=sm _ k+((c.getD k 0:Int):Rat)*BH m S k;rw[e0,<- h9,Rat.mul_comm]) (by
     rintro ⟨T,EU,m0⟩ ⟨t0,t9,b9,b3,c0,O,hs,s,t13,e0,e1⟩;simp only at t0 t9 b9 b3 c0 O hs t13;subst O hs;have g1:¬(n:Int)<(n:Int):=by omega
     refine⟨_,by simp only[go_sem,b3,c0,g1];rfl,by simp,_,rfl,?_⟩;simp only[go_sem,t9,t13,e0]) (by
     simp only[go_sem,t0,t9,C9];exact⟨0,rfl,rfl,sG (z:=0) (by decide)⟩)
   clear hL;have z1:n<=(X.flatMap cF).length:=by rw[qP,c5];exact zq _
   have z2:(X.flatMap cF).take n=X.flatMap cF:=zl (by rw[qP,c5];exact zq _);have z3:=Jf CZ 4 X;simp only[go_sem,t9,t13,c4,z1,z2,z3];refine⟨_,rfl,.inr (.inr ⟨BH m S,k4,h7,?_⟩)⟩;rw[show(AV A b c m n).n=n from rfl,<- hX];show V.AX [I 0,V.ts (X.flatMap cF) n,_]=V.AX [I 0,V.ts (X.flatMap cF) X.length,_];rw[c5];rfl
  .simp only[go_sem,qE,kb,c8,f1,f2,f3,f4,kc,km]
   exact⟨_,rfl,.inr (.inl ⟨rfl,j1⟩)⟩
end
theorem jT{body:St->Option (Ex×St)}{st E:St}{y:Option (Ex×St)}{e:Ex}(G:iI body st=y)(h:body st=some (e,E))(J:e≠ .norm):y=some (e,E):=by
 obtain⟨r,rfl,O⟩:=jS G (fun _ s=>s=st) (fun r=>r=(e,E)) (fun n s hs=>by subst hs;exact .inr ⟨_,h,fun s h=>J (congrArg Prod.fst h),rfl⟩) 0 rfl;rw[O]
theorem afl{body:St->Option (Ex×St)}{st st1 E:St}{y:Option (Ex×St)}{e:Ex}(G:iI body st=y)(J:body st=some (.norm,st1))(h:body st1=some (e,E))(O:e≠ .norm):y=some (e,E):=by
 obtain⟨r,rfl,S⟩:=jS G (fun n s=>(n=1/\s=st)\/(n=0/\s=st1)) (fun r=>r=(e,E)) (fun n s hs=>by
  rcases hs with ⟨rfl,rfl⟩|⟨rfl,rfl⟩
  .exact .inl ⟨_,J,0,by omega,.inr ⟨rfl,rfl⟩⟩
  .exact .inr ⟨_,h,fun s h=>O (congrArg Prod.fst h),rfl⟩) 1 (.inl ⟨rfl,rfl⟩)
 rw[S]
theorem anE{σ:Store}{nx bt bf bo:Nat}(E:σ bt=some ⟨[.nil,Bo false,LI (dg 1),.nil,I 0,.rs bf 0 0],0,true⟩)(G:bt<nx) :
  ev ZM Aa Ak 144 [.rp bt 0,.rs bo 0 0] σ nx=some (Bo true,σ,nx):=by
 rw[nC [.tmp 4] [] func144];simp only[go_sem];generalize J:iI _ _=y;have S:¬(0:Int)<0:=by decide
 obtain rfl:=afl J (by
  simp only[go_sem,E,G];generalize O:iI _ _=Y;obtain rfl:=jT O (by simp only[go_sem];rfl) (by simp);simp only[go_sem];rfl) (by simp only[go_sem];rfl) (by simp)
 clear J;simp only[go_sem,E,G];generalize J:iI _ _=y;obtain rfl:=jT J (by simp only[go_sem];rfl) (by simp);simp only[go_sem]
theorem al5{σ:Store}{nx bt bf:Nat}(E:σ bt=some ⟨[.nil,Bo false,LI (dg 1),.nil,I 0,.rs bf 0 0],0,true⟩)(G:bt<nx) :
  ev ZM Aa Ak 170 [.rp bt 0,I 0] σ nx=some (.AX [],σ,nx):=by
 rw[nC [] [10,11] func170];simp only[go_sem];generalize J:iI _ _=y;obtain rfl:=jT J (by simp only[go_sem,E,G];rfl) (by simp);simp only[go_sem]
theorem al6(σ:Store):∃r,ev ZM Aa Ak 143 [.tp (C9 0 0 [] [] []) 0] σ 0=some r/\∃σ' nx' bt bf,r=(.AX [.rp bt 0,Bo true],σ',nx')/\bt<nx'/\σ' bt=some ⟨[.nil,Bo false,LI (dg 1),.nil,I 0,.rs bf 0 0],0,true⟩:=by
 have S:fn ZM conv ext 154 [I 1]=some (.agg [Bo false,LI (dg 1)]):=kM 1 (by decide) (by decide)
 have z2:IntKind.i64.wrap (0+0)=0:=by decide
 have z3:(1:Int)*0<=281474976710656:=by decide
 have z4:(0:Int)<=9223372036854775807:=by decide
 have z5:Int.toNat 0=0:=rfl;have Y:(8:Int)*0<=281474976710656:=by decide
 unfold C9;rw[nC [.tmp 2,.tmp 3] [15,18,24,38] func143];simp only[go_sem,S,z2,z3,z4,z5];generalize E:iI _ _=y;obtain rfl:=jT E (by simp only[go_sem];rfl) (by simp);clear E;simp only[go_sem,z4,z5,Y];generalize E:iI _ _=y;obtain rfl:=jT E (by simp only[go_sem];rfl) (by simp);clear E;obtain⟨σ2,O⟩:∃σ2,σ2=upd (upd (upd σ 0 (some ⟨rep 0 [V.sc (Value.bool false)],1,true⟩)) 1 (some ⟨[.nil,Bo false,LI (dg 1),.nil,I 0,.rs 0 0 0],0,true⟩)) 2 (some ⟨rep 0 [I 0],1,true⟩):=⟨_,rfl⟩;have G:σ2 1=some ⟨[.nil,Bo false,LI (dg 1),.nil,I 0,.rs 0 0 0],0,true⟩:=by rw[O];rfl
 have hm:=anE (nx:=3) (bo:=2) G (by decide);have hl:=al5 (nx:=3) G (by decide);have J:1<3:=by decide
 simp only[go_sem,qE,<- O,hm,G,J];generalize E:iI _ _=y;obtain rfl:=jT E (by simp only[go_sem];rfl) (by simp);clear E;simp only[go_sem,G,J];generalize E:iI _ _=y;obtain rfl:=jT E (by simp only[go_sem];rfl) (by simp);clear E;simp only[go_sem,qE,hl];exact⟨_,rfl,σ2,3,1,0,rfl,J,G⟩
theorem al7:fn ZM Aa Ak 107 [.tp (C9 0 0 [] [] []) 0]=some (.AX [I 0,.ts [] 0,.tp (cQ 0) 0]):=by
 obtain⟨r0,kb,S,E,bt,bf,rfl,a7,Y⟩:=al6 pI;have z3:(8:Int)*0<=281474976710656:=by decide
 have z4:(0:Int)<=9223372036854775807:=by decide
 have z5:Int.toNat 0=0:=rfl;obtain⟨σ2,FY⟩:∃σ2,σ2=upd S E (some ⟨rep 0 [I 0],1,true⟩):=⟨_,rfl⟩;have OA:σ2 bt=some ⟨[.nil,Bo false,LI (dg 1),.nil,I 0,.rs bf 0 0],0,true⟩:=by rw[FY,Zm];exact Y
 have a1:bt<E+1:=by omega
 have km:=anE (nx:=E+1) (bo:=E) OA a1;have kc:H9 σ2 (E+1) [] 0 (.rs E 0 0)=some (I 0,σ2,E+1):=rfl;have g4:fn ZM conv ext 115 [I 0]=some (.tp (cQ 0) 0):=kD 0 (by decide) (by decide)
 rw[mJ,nC [.tmp 2,.tmp 3,.tmp 4] [24] func107];have kb:ev ZM Aa Ak 143 [.tp [I 0,I 0,LI [],LI [],LI []] 0] pI 0=some (.AX [.rp bt 0,Bo true],S,E):=kb;unfold C9;have kl:List.flatMap cI []=[]:=rfl;simp only[go_sem,qE,kb,Y,a7,z3,z4,z5,<- FY,kc,km,kl];generalize G:iI _ _=y;obtain rfl:=jT G (by simp only[go_sem];rfl) (by simp);clear G;simp only[go_sem,z3,z4,z5];generalize G:iI _ _=y;obtain rfl:=jT G (by simp only[go_sem];rfl) (by simp);clear G;obtain⟨J,O⟩:∃J,J=upd σ2 (E+1) (some ⟨rep 0 [V.sc (.pointer none)],1,true⟩):=⟨_,rfl⟩;have LZ:J bt=some ⟨[.nil,Bo false,LI (dg 1),.nil,I 0,.rs bf 0 0],0,true⟩:=by rw[O,Zm];exact OA
 have a6:bt<E+1+1:=by omega
 simp only[go_sem,<- O,LZ,a6];generalize G:iI _ _=y;obtain rfl:=jT G (by simp only[go_sem];rfl) (by simp);clear G;simp only[go_sem,g4];generalize G:iI _ _=y;obtain rfl:=jT G (by simp only[go_sem];rfl) (by simp);clear G;have hx:J (E+1)=some ⟨[],1,true⟩:=by rw[O,Zj];rfl
 simp only[go_sem,hx]
structure SG (s:Structure):Prop where
 nj:s.bI.length<=6
 nm:s.members.length<=8
 pl:∀i (h:i<s.bI.length),-50<=s.bI[i].x/\s.bI[i].x<=50/\-50<=s.bI[i].y/\s.bI[i].y<=50
 mr:∀k (h:k<s.members.length),DK s.bI.length s.members[k]
theorem Bf.sg{s:Structure}(h:Bf s):SG s:=by
 obtain⟨O,S,Y,h4⟩:=h;refine⟨O,S,fun i hi=>?_,fun k hk=>?_⟩
 .have E:=(Y i hi).1
  unfold Ed at E;rw[zM,zM]at E;have G:=kK E.2.1;have J:=kK E.2.2;exact⟨G.1,G.2,J.1,J.2⟩
 .have E:=h4 _ (zu hk)
  refine zf fun hn=>?_
  rw[jM hn]at E;cases E
def mem(s:Structure)(k:Nat):Member:=(s.members[k]?).getD ⟨0,0,0⟩
def XP(s:Structure)(i:Int):Dn:=(s.bI[i.toNat]?).getD ⟨ByteArray.empty,0,0,false⟩
def vx(s:Structure)(k:Nat):Int:=(XP s (mem s k).b).x - (XP s (mem s k).a).x
def vy(s:Structure)(k:Nat):Int:=(XP s (mem s k).b).y - (XP s (mem s k).a).y
theorem jL{s:Structure}{k:Nat}(h:k<s.members.length):s.members[k]=mem s k:=by unfold mem;rw[zy h];rfl
theorem air{s:Structure}(h:SG s)(i:Int):-50<=(XP s i).x/\(XP s i).x<=50/\-50<=(XP s i).y/\(XP s i).y<=50:=by
 unfold XP
 by_cases hi:i.toNat<s.bI.length
 .rw[zy hi];exact h.pl _ hi
 .rw[yX (by omega)];simp
theorem Kt{s:Structure}(h:SG s)(k:Nat):-100<=vx s k/\vx s k<=100/\-100<=vy s k/\vy s k<=100:=by
 have E:=air h (mem s k).a;have G:=air h (mem s k).b;unfold vx vy;omega
theorem cO{α:Type}{c:α->List V}{s:Nat}(hc:∀x,(c x).length=s)(xs:List α)(k:Nat)(h:k<xs.length){j:Nat}(E:j<s):(xs.flatMap c)[k*s+j]?=(c xs[k])[j]?:=by
 rw[<- d_ hc xs k h,wz,sO E,xw]
theorem acT{s:Structure}(h:SG s){k:Nat}(G:k<s.members.length):fn ZM conv ext 150 [.tp (jI s) 0,I k]=some (.AX [I (vx s k),I (vy s k)]):=by
 have J:=h.mr k G;rw[jL G]at J;have hb:=Kt h k;have a1:=h.nm;have a6:=h.nj;have O:=Tf s.members k G;rw[jL G]at O;have f1:(k:Int)<(s.members.length:Int):=by omega
 have f2:=jF k;have f4:=IG s.members;have f5:k*3+3<=s.members.length*3:=by omega
 have f6:=Ti s.members k G;unfold vx vy at hb⊢;generalize mem s k=mm at *;obtain⟨S,Y,mk⟩:=mm;obtain⟨r1,r2,r3,r4,r5,r6⟩:=J;simp only at *;obtain⟨a,rfl⟩:∃a:Nat,S=(a:Int):=⟨S.toNat,by omega⟩;obtain⟨b,rfl⟩:∃b:Nat,Y=(b:Int):=⟨Y.toNat,by omega⟩;have ha:a<s.bI.length:=by omega
 have E:b<s.bI.length:=by omega
 have ea:XP s (a:Int)=s.bI[a]:=by unfold XP;rw[zF,zy ha];rfl
 have eb:XP s (b:Int)=s.bI[b]:=by unfold XP;rw[zF,zy E];rfl
 rw[ea,eb]at hb⊢;have g4:=Gu s.bI;have g6:=PX s.bI a ha;have p1:(s.bI.flatMap Af)[a*4+1]?=some (I s.bI[a].x):=cO (c:=Af) (fun _=>rfl) s.bI a ha (j:=1) (by decide);have p2:(s.bI.flatMap Af)[a*4+2]?=some (I s.bI[a].y):=cO (c:=Af) (fun _=>rfl) s.bI a ha (j:=2) (by decide);have p3:(s.bI.flatMap Af)[b*4+1]?=some (I s.bI[b].x):=cO (c:=Af) (fun _=>rfl) s.bI b E (j:=1) (by decide);have p4:(s.bI.flatMap Af)[b*4+2]?=some (I s.bI[b].y):=cO (c:=Af) (fun _=>rfl) s.bI b E (j:=2) (by decide);have w1:=ZU (n:=s.bI[b].x-s.bI[a].x);have w2:=ZU (n:=s.bI[b].y-s.bI[a].y);rw[mJ,nC [.tmp 4,.tmp 5] [2] func150];simp only[go_sem,O,f1,f2,f4,f5,f6,r1,r2,r3,r4,g4,g6,p1,p2,p3,p4,w1,w2]
def Du(s:Structure)(i:Nat):Bool:=(s.bI[i]?).elim false fun j=> !j.fixed
def free(s:Structure):List Int:=F5 (Du s) s.bI.length
theorem kX{T:Nat->V}{σ:Store}{nx t:Nat}{acc:List Int}(E:Grow T σ nx t acc)(x:Option Fv):Grow T (upd σ nx x) (nx+1) t acc:=by
 rcases E with ⟨g1,g2⟩|⟨b,g1,g2,g3,g4⟩
 .exact .inl ⟨g1,g2⟩
 .exact .inr ⟨b,g1,g2,by rw[Zm];exact g3,by omega⟩
theorem Ll{s:Structure}(h:SG s):fn ZM conv ext 111 [.tp (jI s) 0]=some (LI (free s)):=by
 have a1:=h.nj;unfold free;rw[mJ,nC [.tmp 2] [] func111];simp only[go_sem];generalize hL:iI _ _=y;obtain⟨r,rfl,T',σ',nx',rfl,h2⟩:=oZ hL s.bI.length (fun k st=>st.T 9=LL Af s.bI/\st.T 10=I s.bI.length/\st.T 11=I k/\Grow st.T st.σ st.nx 3 (F5 (Du s) k))
  (fun r=>∃T σ nx',r=(.exit 0,⟨T,σ,nx'⟩)/\Grow T σ nx' 3 (F5 (Du s) s.bI.length)) (by
   clear hL;rintro k ⟨T,σ,nx⟩ G ⟨O,E,J,S⟩;simp only at O E J S;have f1:(k:Int)<(s.bI.length:Int):=by omega
   have f2:=jF k;have f3:=ZU (n:=(k:Int)+1);have f4:=JX s.bI k G;have f5:=Gu s.bI;have f6:k*4+4<=s.bI.length*4:=by omega
   have f9:=PX s.bI k G;have hle:=IX (Du s) k;have Y:=fun x=>kX S x
   cases hp:s.bI[k].fixed with
   |false=>
    have hq:Du s k=true:=by simp[Du,zy G,hp]
    obtain⟨σ',ha,hs⟩:=kW (Y (some ⟨[Sg s.bI[k].name,I s.bI[k].x,I s.bI[k].y,Bo false],0,true⟩)) (k:Int) (by omega);refine .inl ⟨_,by simp only[go_sem,O,E,J,f1,f2,f3,f4,f5,f6,f9,hp,G,ha];rfl,?_⟩;simp only[go_sem,O,E];rw[MF hq];exact⟨rfl,kS hs (by simp[go_sem]) (by simp)⟩
   |true=>
    have hq:Du s k=false:=by simp[Du,zy G,hp]
    refine .inl ⟨_,by simp only[go_sem,O,E,J,f1,f2,f3,f4,f5,f6,f9,hp,G];rfl,?_⟩;simp only[go_sem,O,E];rw[TF hq];exact⟨rfl,kU (T:=T) (by simp only[go_sem]) (Y _)⟩) (by
   rintro ⟨T,σ,nx⟩ ⟨O,E,J,S⟩;simp only at O E J S;exact⟨_,by simp only[go_sem,E,J,zi];rfl,by simp,_,_,_,rfl,kU (by simp only[go_sem]) S⟩) (by
   simp only[go_sem];exact .inl ⟨by simp only[go_sem],rfl⟩)
 obtain⟨ids,hs⟩:=kR h2 6;simp only[go_sem,hs]
end Go.Proofs.YtjknobpihkmilaaGreat
namespace Go.Plan
inductive Way (mv:Nat->Nat->Bool) (al:Nat->Bool):Nat->Nat->Nat->Prop
 |nil {a:Nat} (h:al a=true):Way mv al 0 a a
 |cons {k a b c:Nat} (h:al a=true) (hm:mv a b=true) (hw:Way mv al k b c):Way mv al (k+1) a c
section
variable {mv:Nat->Nat->Bool} {al:Nat->Bool}
theorem Way.fst{k a b:Nat}(h:Way mv al k a b):al a=true:=by cases h<;>assumption
theorem Way.lst{k a b:Nat}(h:Way mv al k a b):al b=true:=by induction h<;>assumption
theorem Way.zero{a b:Nat}(h:Way mv al 0 a b):a=b/\al a=true:=by
 cases h with
 |nil h=>exact⟨rfl,h⟩
theorem Way.succ{k a c:Nat}(h:Way mv al (k+1) a c):al a=true/\∃b,mv a b=true/\Way mv al k b c:=by
 cases h with
 |cons h hm hw=>exact⟨h,_,hm,hw⟩
theorem least{p:Nat->Prop}(h:∃k,p k):∃k,p k/\∀j,p j->k<=j:=by
 obtain⟨k,E⟩:=h
 induction k using Nat.strongRecOn with
 |_ k G=>
  by_cases h:∃j,j<k/\p j
  .obtain⟨j,J,hp⟩:=h;exact G j J hp
  .exact⟨k,E,fun j hp=>zf fun O=>h ⟨j,by omega,hp⟩⟩
def Ku(mv:Nat->Nat->Bool)(al:Nat->Bool)(to i:Nat)(d:Int):Prop:=(d= -1/\∀k,¬Way mv al k i to)\/∃k:Nat,d=(k:Int)/\Way mv al k i to/\∀j,Way mv al j i to->k<=j
theorem acV(mv:Nat->Nat->Bool)(al:Nat->Bool)(to i:Nat):∃d,Ku mv al to i d:=by
 by_cases h:∃k,Way mv al k i to
 .obtain⟨k,E,G⟩:=least h
  exact⟨k,.inr ⟨k,rfl,E,G⟩⟩
 .exact⟨-1,.inl ⟨rfl,fun k J=>h ⟨k,J⟩⟩⟩
noncomputable def dst(mv:Nat->Nat->Bool)(al:Nat->Bool)(to i:Nat):Int:=Classical.choose (acV mv al to i)
theorem abj(mv:Nat->Nat->Bool)(al:Nat->Bool)(to i:Nat):Ku mv al to i (dst mv al to i):=Classical.choose_spec (acV mv al to i)
theorem Ku.uniq{to i:Nat}{d e:Int}(E:Ku mv al to i d)(G:Ku mv al to i e):d=e:=by
 rcases E with ⟨rfl,E⟩|⟨k,rfl,E,J⟩<;>rcases G with ⟨rfl,G⟩|⟨j,rfl,G,O⟩
 .rfl
 .exact absurd G (E _)
 .exact absurd E (G _)
 .have:=J _ G;have:=O _ E;omega
theorem ais{to i:Nat}{d:Int}(h:Ku mv al to i d):dst mv al to i=d:=(abj mv al to i).uniq h
theorem Us{to i:Nat}(h:0<=dst mv al to i):∃k:Nat,dst mv al to i=k/\Way mv al k i to/\∀j,Way mv al j i to->k<=j:=by
 rcases abj mv al to i with ⟨E,_⟩|E
 .omega
 .exact E
theorem ait{to i k:Nat}(h:Way mv al k i to):0<=dst mv al to i/\dst mv al to i<=k:=by
 rcases abj mv al to i with ⟨_,E⟩|⟨j,E,J,G⟩
 .exact absurd h (E _)
 .have:=G _ h;omega
theorem aiu{to i:Nat}(h:∀k,¬Way mv al k i to):dst mv al to i= -1:=ais (.inl ⟨rfl,h⟩)
theorem OJ{to i:Nat}(h:0<=dst mv al to i):al i=true/\al to=true:=by
 obtain⟨k,_,E,_⟩:=Us h;exact⟨E.fst,E.lst⟩
theorem aiv{to i m:Nat}(hi:al i=true)(hm:mv i m=true)(h:0<=dst mv al to m):0<=dst mv al to i/\dst mv al to i<=dst mv al to m+1:=by
 obtain⟨k,G,E,_⟩:=Us h;have:=ait (Way.cons hi hm E);omega
theorem aiw{to i:Nat}(h:0<dst mv al to i):al i=true/\∃m,mv i m=true/\al m=true/\dst mv al to m=dst mv al to i-1:=by
 obtain⟨k,Y,O,h3⟩:=Us (mv:=mv) (al:=al) (to:=to) (i:=i) (by omega);cases k with
 |zero=>omega
 |succ k=>
  obtain⟨E,b,G,J⟩:=O.succ;have S:=ait J;have h8:=aiv E G S.1;exact⟨E,b,G,J.fst,by omega⟩
theorem jC:∀ {n:Nat} {l:List Nat},l.Nodup->(∀x∈l,x<n)->l.length<=n
 |0,[],_,_=>zq 0
 |0,x :: _,_,h=>absurd (h x zO) (zW _)
 |n+1,l,hn,h=>by
  have G:=jC (n:=n) (l:=l.erase n) (hn.sublist List.erase_sublist) fun x J=>by
   have E:=(List.Nodup.mem_erase_iff hn).mp J;have:=h x E.2;have:=E.1;omega
  by_cases hm:n∈l
  .have:=List.length_erase_of_mem hm
   omega
  .rw[List.erase_of_not_mem hm]at G
   omega
structure XQ (mv:Nat->Nat->Bool) (al:Nat->Bool) (to:Nat) (all:List Nat) (p:Nat) (out:Nat->Int):Prop where
 nd:all.Nodup
 lab:∀i,i∉all->out i= -1
 way:∀i,i∈all->∃k:Nat,out i=k/\Way mv al k i to
 t0:to∈all/\out to=0
 srt:∀a b (ha:a<all.length) (hb:b<all.length),a<=b->out all[a]<=out all[b]
 don:∀a (ha:a<all.length),a<p->∀i,al i=true->mv i all[a]=true->i∈all/\out i<=out all[a]+1
 one:∀(hp:p<all.length),∀i∈all,out i<=out all[p]+1
 bnd:∀i,i∈all->out i<all.length
def put(out:Nat->Int)(x:Nat)(v:Int):Nat->Int:=fun i=>if i=x then v else out i
theorem gU(out:Nat->Int)(x:Nat)(v:Int):put out x v x=v:=sO rfl
theorem abk{out:Nat->Int}{x i:Nat}{v:Int}(h:i≠x):put out x v i=out i:=sQ h
theorem afm{to:Nat}(h:al to=true):XQ mv al to [to] 0 (put (fun _=> -1) to 0):=by
 refine⟨by simp,fun i hi=>?_,fun i hi=>?_,⟨by simp,gU _ _ _⟩,fun a b ha hb _=>?_,fun a ha E=>absurd E (zW _),fun hp i hi=>?_,fun i hi=>?_⟩
 .exact abk (by simpa using hi)
 .have:i=to:=by simpa using hi
  subst this;exact⟨0,gU _ _ _,.nil h⟩
 .have G:a=0:=by simpa using ha
  have J:b=0:=by simpa using hb
  subst G J;exact xP _
 .have:i=to:=by simpa using hi
  subst this;show put _ _ _ _<=put _ _ _ i+1;omega
 .have:i=to:=by simpa using hi
  subst this;rw[gU];simp
theorem XQ.lo{to:Nat}{all:List Nat}{p:Nat}{out:Nat->Int}(h:XQ mv al to all p out)(i:Nat):(out i<0↔i∉all):=by
 constructor
 .intro E G
  obtain⟨k,J,_⟩:=h.way i G;omega
 .intro E
  rw[h.lab i E];omega
theorem XQ.add{to:Nat}{all:List Nat}{p:Nat}{out:Nat->Int}(h:XQ mv al to all p out)(hp:p<all.length){x:Nat}(hx:x∉all)(Y:al x=true)(a1:mv x all[p]=true):XQ mv al to (all++[x]) p (put out x (out all[p]+1)):=by
 have ne:∀ {i:Nat},i∈all->put out x (out all[p]+1) i=out i:=fun {i} hi=>abk fun e=>hx (e ▸ hi)
 obtain⟨kp,b2,a6⟩:=h.way all[p] (zu hp);have G:∀i∈all++[x],put out x (out all[p]+1) i<=out all[p]+1:=fun i hi=>by
  rcases List.mem_append.mp hi with hi|hi
  .rw[ne hi];exact h.one hp i hi
  .have:i=x:=by simpa using hi
   subst this;rw[gU];exact xP _
 have gl:∀ {a:Nat} (ha:a<(all++[x]).length),(∃h':a<all.length,(all++[x])[a]=all[a])\/(a=all.length/\(all++[x])[a]=x):=fun {a} ha=>by
  by_cases h':a<all.length
  .exact .inl ⟨h',yO h'⟩
  .have:a=all.length:=by simp at ha;omega
   subst this;exact .inr ⟨rfl,by simp⟩
 refine⟨?_,fun i hi=>?_,fun i hi=>?_,⟨z_ _ h.t0.1,?_⟩,fun a b ha hb a7=>?_,fun a ha a8 i hi hm=>?_,fun b3 i hi=>?_,fun i hi=>?_⟩
 .rw[List.nodup_append]
  exact⟨h.nd,by simp,fun a ha b hb=>by have:b=x:=by simpa using hb
                                       subst this;exact fun e=>hx (e ▸ ha)⟩
 .have h1:i∉all:=fun e=>hi (z_ _ e)
  have h2:i≠x:=fun e=>hi (yh _ (by simp[e]))
  rw[abk h2];exact h.lab i h1
 .rcases List.mem_append.mp hi with hi|hi
  .rw[ne hi];exact h.way i hi
  .have:i=x:=by simpa using hi
   subst this;exact⟨kp+1,by rw[gU];omega,.cons Y a1 a6⟩
 .rw[ne h.t0.1];exact h.t0.2
 .rcases gl ha with ⟨E,J⟩|⟨ra,J⟩<;>rcases gl hb with ⟨O,S⟩|⟨rb,S⟩
  .rw[J,S,ne (zu E),ne (zu O)]
   exact h.srt a b E O a7
  .rw[J,S,gU,ne (zu E)]
   exact h.one hp _ (zu E)
  .omega
  .rw[J,S];exact xP _
 .rcases gl ha with ⟨E,J⟩|⟨ra,J⟩
  .rw[J]at hm⊢
   have:=h.don a E a8 i hi hm;rw[ne this.1,ne (zu E)];exact⟨z_ _ this.1,this.2⟩
  .omega
 .have e:(all++[x])[p]=all[p]:=yO hp
  rw[e,ne (zu hp)];exact G i hi
 .have h1:=G i hi
  have h2:=h.bnd all[p] (zu hp);rw[zo,yV];omega
theorem XQ.next{to:Nat}{all:List Nat}{p:Nat}{out:Nat->Int}(h:XQ mv al to all p out)(hp:p<all.length)(G:∀i,al i=true->mv i all[p]=true->i∈all):XQ mv al to all (p+1) out:=by
 refine⟨h.nd,h.lab,h.way,h.t0,h.srt,fun a ha J i hi hm=>?_,fun E i hi=>?_,h.bnd⟩
 .by_cases e:a=p
  .subst e
   exact⟨G i hi hm,h.one hp i (G i hi hm)⟩
  .exact h.don a ha (by omega) i hi hm
 .have O:=h.one hp i hi
  have S:=h.srt p (p+1) hp E (by omega);omega
theorem XQ.fin{to:Nat}{all:List Nat}{p:Nat}{out:Nat->Int}(h:XQ mv al to all p out)(hp:all.length<=p)(i:Nat):dst mv al to i=out i:=by
 have key:∀k i,Way mv al k i to->i∈all/\out i<=k:=by
  intro k
  induction k with
  |zero=>
   intro i hw;obtain⟨rfl,_⟩:=hw.zero;exact⟨h.t0.1,by rw[h.t0.2];omega⟩
  |succ k J=>
   intro i hw;obtain⟨E,b,G,O⟩:=hw.succ;obtain⟨S,h5⟩:=J b O;obtain⟨a,ha,rfl⟩:=zA S;obtain⟨Y,h7⟩:=h.don a ha (by omega) i E G;exact⟨Y,by omega⟩
 apply ais
 by_cases hm:i∈all
 .obtain⟨k,E,G⟩:=h.way i hm
  exact .inr ⟨k,E,G,fun j hj=>by have:=(key j i hj).2;omega⟩
 .exact .inl ⟨h.lab i hm,fun k hk=>hm (key k i hk).1⟩
theorem XQ.bound{to:Nat}{all:List Nat}{p n:Nat}{out:Nat->Int}(h:XQ mv al to all p out)(hn:∀i,al i=true->i<n):all.length<=n :=
 jC h.nd fun i hi=>by obtain⟨k,_,hw⟩:=h.way i hi;exact hn i hw.fst
def Jv(mv:Nat->Nat->Bool)(out:Nat->Int)(n a:Nat):Nat:=((List.range n).find? fun i=>mv a i && (out i==out a-1)).getD a
def Ve(mv:Nat->Nat->Bool)(out:Nat->Int)(n a:Nat):Nat->Nat
 |0=>a
 |k+1=>Jv mv out n (Ve mv out n a k)
theorem Ut{n to:Nat}(hn:∀i,al i=true->i<n){a:Nat}(h:0<dst mv al to a):Jv mv (dst mv al to) n a<n/\mv a (Jv mv (dst mv al to) n a)=true/\dst mv al to (Jv mv (dst mv al to) n a)=dst mv al to a-1:=by
 obtain⟨_,m,J,O,S⟩:=aiw h;unfold Jv;cases E:(List.range n).find? fun i=>mv a i && (dst mv al to i==dst mv al to a-1)with
 |none=>
  rw[List.find?_eq_none]at E;have:=E m (by simpa using hn m O);simp[J,S]at this
 |some i=>
  have G:=List.find?_some E;have Y:=List.mem_of_find?_eq_some E;rw[zM,beq_iff_eq]at G;exact⟨by simpa using Y,G.1,G.2⟩
theorem kE{n to:Nat}(hn:∀i,al i=true->i<n){a:Nat}:∀k:Nat,(k:Int)<=dst mv al to a->dst mv al to (Ve mv (dst mv al to) n a k)=dst mv al to a-k
 |0,_=>by unfold Ve;omega
 |k+1,h=>by
  have E:=kE hn (to:=to) (a:=a) k (by omega);have G:=Ut hn (mv:=mv) (to:=to) (a:=Ve mv (dst mv al to) n a k) (by omega);unfold Ve;omega
theorem aix{n to:Nat}(hn:∀i,al i=true->i<n){a:Nat}(h:0<=dst mv al to a):dst mv al to a<n:=by
 obtain⟨d,hd⟩:∃d:Nat,dst mv al to a=d:=⟨(dst mv al to a).toNat,by omega⟩;have G:((List.range (d+1)).map (Ve mv (dst mv al to) n a)).Nodup:=by
  unfold List.Nodup;rw[List.pairwise_map];refine List.Pairwise.imp_of_mem ?_ (List.pairwise_lt_range (n:=d+1));intro i j hi J O e;rw[List.mem_range]at hi J;have E:=kE hn (mv:=mv) (to:=to) (a:=a) i (by omega);have S:=kE hn (mv:=mv) (to:=to) (a:=a) j (by omega);rw[e,S]at E;omega
 have Y:=jC (n:=n) G fun x hx=>by
  obtain⟨i,hi,rfl⟩:=List.mem_map.mp hx;rw[List.mem_range]at hi;have E:=kE hn (mv:=mv) (to:=to) (a:=a) i (by omega);exact hn _ (OJ (mv:=mv) (to:=to) (by omega)).1
 simp at Y;omega
def plan(mv:Nat->Nat->Bool)(out:Nat->Int)(n a:Nat):List Nat:=(List.range ((out a).toNat+1)).map (Ve mv out n a)
theorem aiy(out:Nat->Int)(n a:Nat):(plan mv out n a).length=(out a).toNat+1:=by simp[plan]
end
end Go.Plan
namespace Go.Plan
section
variable {mv:Nat->Nat->Bool} {al:Nat->Bool}
noncomputable def lst(mv:Nat->Nat->Bool)(al:Nat->Bool)(to a:Nat):Int:=if 0<=dst mv al to a then dst mv al to a+1 else 0
def atS(f:Int->Int)(b:Int)(k:Int):Int:=if 0<f k/\(b=0\/f k<b)then f k else b
def best(f:Int->Int)(l:List Int):Int:=l.foldl (atS f) 0
end
end Go.Plan
namespace Go.Plan
section
variable {mv:Nat->Nat->Bool} {al:Nat->Bool}
end
end Go.Plan
namespace Go.Proofs.YtjknobpihkmilaaGreat
open Go Go.TV
def Ic(s:Nat):List V->Store->Nat->Option (V×Store×Nat)
 |[.ts row len],σ,nx=>if row.length=len*s/\len<=1000000/\row.all vI=true then(if len=0 then some (.nil,σ,nx)else some (.rs nx 0 len,Au σ nx row s,nx+1))else none
 |_,_,_=>none
theorem Uu(args:List V)(σ:Store)(nx:Nat)(v:V)(σ':Store)(nx':Nat)(h:Ic 4 args σ nx=some (v,σ',nx')):Ey ZM 101 args σ nx v σ' nx':=by
 unfold Ic at h
 split at h
 .rename_i row len
  split at h
  .rename_i hc
   obtain⟨O,hs,G⟩:=hc;refine NH (call:=fun _ _ _ _=>none) (conv:=fun _=> .KI) (fun _ _ _ _ _ _ _ h=>by cases h) (by kernel_rfl) func101 rfl Tryz.underlying38 (n:=0) (by kernel_rfl) (st1:=⟨upd (DW [.ts row len]) 2 .nil,σ,nx⟩) (T2:=upd (upd (DW [.ts row len]) 2 .nil) 3 (.ts row len)) (v1:=.ts row len) (row:=row) (len:=len) (vs:=[v]) ?_ rfl ?_ rfl ?_ ?_
   .rfl
   .rfl
   .rfl
   .intro b hb
    cases b with
    |true=>
     have J:=hb rfl;subst J;have E:len=0:=by
      have S:0=len*4:=O;omega
     subst E;simp only[if_true,sW,sS]at h;obtain⟨rfl,rfl,rfl⟩:=h;exact⟨.ret,_,rfl,.inr rfl,rfl,rfl,rfl⟩
    |false=>
     by_cases E:len=0
     .subst E
      have J:row=[]:=zZ (by omega);subst J;simp only[if_true,sW,sS]at h;obtain⟨rfl,rfl,rfl⟩:=h;refine⟨.ret,?_,?_,.inr rfl,?_,?_,?_⟩
      .exact⟨upd (upd (upd (upd (upd (upd (upd (upd (DW [.ts [] 0]) 2 .nil) 3 (.ts [] 0)) 4 (.sc (.bool false))) 5 .nil) 6 (.ts [] 0)) 7 .nil) 2 .nil) 2 .nil,σ,nx⟩
      .simp only[zI,go_sem]
      .rfl
      .rfl
      .rfl
     .rw[sQ E]at h
      simp only[sW,sS]at h;obtain⟨rfl,rfl,rfl⟩:=h;have q0:len<=maxLen:=by unfold maxLen;omega
      have Y:len<=maxLen/\len*1<=140737488355328:=by unfold maxLen;omega
      have q2:len<=maxLen/\len*40<=140737488355328:=by unfold maxLen;omega
      have q3:len<=maxLen/\len<=140737488355328:=by unfold maxLen;omega
      refine⟨.ret,?_,?_,.inr rfl,?_,?_,?_⟩
      .exact⟨upd (upd (upd (upd (upd (upd (upd (DW [.ts row len]) 2 .nil) 3 (.ts row len)) 4 (.sc (.bool false))) 5 .nil) 6 (.ts row len)) 7 (.rs nx 0 len)) 2 (.rs nx 0 len),Au σ nx row 4,nx+1⟩
      .simp only[zI,go_sem,O,E,Y,q2,q3]
      .rfl
      .rfl
      .rfl
  .cases h
 .cases h
section
variable {P:Program} {conv:FuncId->Conv} {call:TV.Call} (d:Option Tmp) (ty:TypeId) (ps:String) (af:Array Edge) (gd:Option (Nat×Bool)) (T:Nat->V) (σ:Store) (nx:Nat)
theorem OL(t:TypeId)(len:Nat)(parts:Array (Nat×Operand))(E:(decide (len=0) && !parts.isEmpty)=false)(G:¬len=0)(h:(xI P t).slice=true)(J:(xI P t).SA=true) :
  Ai P conv call ⟨d,.buildSlice t len parts,ty,ps,af,gd⟩ T σ nx=Cc P t len (parts.toList.map fun p=>(p.1,val T p.2)) σ nx:=by
 have key:∀σ,Cc P t len (parts.toList.map fun p=>(p.1,val T p.2)) σ nx=(if 0<(xI P t).Hf/\len*(xI P t).Hf<=1000 then(CV (fun j=>some (j*(xI P t).Hf,(xI P t).Hf)) (rep len (xI P t).Es) (parts.toList.map fun p=>(p.1,val T p.2))).map fun cells=>(cells,(xI P t).Hf,V.rs nx 0 len)else none).map fun p=>(p.2.2,Au σ nx p.1 p.2.1,nx+1):=fun σ=>by
  rw[ny h J,sQ G]
  split
  .cases CV (fun j=>some (j*(xI P t).Hf,(xI P t).Hf)) (rep len (xI P t).Es) (parts.toList.map fun p=>(p.1,val T p.2))<;>rfl
  .rfl
 have:=IB (P:=P) (conv:=conv) (call:=call) (o:=⟨d,.buildSlice t len parts,ty,ps,af,gd⟩) T σ nx rfl fun σ=>(iW d ty ps af gd T σ nx t len parts E).trans (key σ)
 exact this.trans (key σ).symm
end
theorem Qb(σ:Store)(c b nx:Nat)(x:Option Fv):yI [c,b] nx nx σ (upd (restrict σ [c,b]) c x)=upd σ c x:=by
 funext i;unfold yI upd restrict
 by_cases E:i=c
 .simp[E]
 .by_cases G:i=b
  .simp[G]
  .rw[sQ (by simp only[zX,zK,or_false,E,G,false_or];omega),sQ E]
attribute [go_sem] OL Qb
theorem aiz(xs:List Int)(S:∀x∈xs,0<=x/\x<=255)(Y:xs.length<=1048576)(i h:Int)(hi:0<=i/\i<=xs.length)(n:Int)(h1:1<=n)(h2:n<=256) :
  ∃r E G,(∀(b st nx:Nat) (σ:Store),σ b=some (QI xs i h st)->b<nx->ev ZM conv ext 58 [.rp b 0,I n] σ nx=some (Bo r,upd σ b (some (QI xs E G st)),nx))/\0<=E/\E<=xs.length:=by
 obtain⟨r,E,G,k,hr,J⟩:=dP xs S Y i h hi n h1 h2;refine⟨r==0,E,G,fun b st nx σ O hb=>?_,J⟩;have k':=k b st nx σ O hb;rw[nC [.tmp 4] [] func58];simp only[go_sem,qE,k']
theorem abl(xs:List Int)(hx:∀x∈xs,0<=x/\x<=255)(hl:xs.length<=1048576)(i h:Int)(hi:0<=i/\i<=xs.length)(E:List Int)(h1:1<=E.length)(h2:E.length<=256) :
  ∃r,∃hr:r<E.length,∃G J,(∀(c b nx:Nat) (σ:Store),σ c=some (QI xs i h 0)->σ b=some ⟨E.flatMap cI,1,true⟩->c<nx->b<nx->b≠c->ev ZM conv ext 99 [.rp c 0,.rs b 0 E.length] σ nx=some (I E[r],upd σ c (some (QI xs G J 0)),nx))/\0<=G/\G<=xs.length:=by
 obtain⟨r,G,J,k,hr,O⟩:=dP xs hx hl i h hi E.length (by omega) (by omega);obtain⟨q,rfl⟩:∃q:Nat,r=(q:Int):=⟨r.toNat,by omega⟩;have hq:q<E.length:=by omega
 refine⟨q,hq,G,J,fun c b nx σ S hb hc a1 Y=>?_,O⟩;have k':=k c 0 nx σ S hc;have f1:(q:Int)<(E.length:Int):=by omega
 have f2:=jF q;have f3:=idx (xs:=E) (k:=q) hq;rw[nC [.tmp 4] [] func99];simp only[go_sem,qE,k',f1,f2,f3,hb,Y]
def F8(i:Nat):ByteArray:=⟨#[116,(48+i).toUInt8]⟩
def acW(i:Nat):ByteArray:=⟨#[(48+i).toUInt8]⟩
theorem Ri{σ:Store}{i j:Nat}{x:Option Fv}(h:i=j):upd σ j x i=x:=by rw[h,Zj]
theorem aiA{body:St->Option (Ex×St)}{st E:St}{y:Option (Ex×St)}{e:Ex}(G:iI body st=y)(h:body st=some (e,E))(J:e≠ .norm):y=some (e,E):=by
 obtain⟨x,rfl,O⟩:=jS G (fun _ s=>s=st) (fun x=>x=(e,E)) (fun m s hs=>by
  subst hs;refine .inr ⟨_,h,fun s hs=>J (by cases hs;rfl),rfl⟩) 0 rfl
 rw[O]
theorem apR(i:Nat)(h:i<4):fn ZM conv ext 97 [I i]=some (Sg (acW i)):=by
 have hi:i=0\/i=1\/i=2\/i=3:=by omega
 have c1:¬(i:Int)<0:=by omega
 have G:¬9<(i:Int):=by omega
 have w1:=ZU (n:=48+(i:Int));have J:IntKind.u8.wrap (48+(i:Int))=48+(i:Int):=by
  rcases hi with rfl|rfl|rfl|rfl<;>decide
 have O:(0:Int)<=48+(i:Int)/\48+(i:Int)<256:=by omega
 have S:UInt8.ofNat (48+(i:Int)).toNat=(48+i).toUInt8:=by
  rcases hi with rfl|rfl|rfl|rfl<;>rfl
 rw[mJ,nC [.tmp 2] [] func97];simp only[go_sem,c1];generalize Y:iI _ _=y;have E:=aiA Y (by simp only[go_sem,G];rfl) (by simp);subst E;have sz:(⟨#[(48+i).toUInt8]⟩:ByteArray).size+(⟨#[]⟩:ByteArray).size<=9223372036854775807:=by show 1+0<=_;omega
 simp only[go_sem,w1,J,O,S,sz];rfl
def acX(s:Structure):Prop:=∃E G J O S Y k:Int,((-4<=E/\E<= -1)/\(0<=G/\G<=2)/\(3<=J/\J<=6)/\(0<=O/\O<=2)/\(-1<=S/\S<=2)/\(-4<=Y/\Y<= -1)/\(k=1\/k=3)) /\
 (s=⟨[⟨⟨#[97]⟩,E,G,true⟩,⟨⟨#[98]⟩,J,O,true⟩,⟨⟨#[99]⟩,S,Y,false⟩],[⟨0,2,1⟩,⟨1,2,k⟩]⟩ \/
  ∃x4 k3:Int,(-1<=x4/\x4<=3)/\(k3=1\/k3=2\/k3=3)/\s=⟨[⟨⟨#[97]⟩,E,G,true⟩,⟨⟨#[98]⟩,J,O,true⟩,⟨⟨#[99]⟩,S,Y,false⟩,⟨⟨#[100]⟩,x4,-7,true⟩],[⟨0,2,1⟩,⟨1,2,k⟩,⟨3,2,k3⟩]⟩)
theorem atT(xs:List Int)(G:∀x∈xs,0<=x/\x<=255)(J:xs.length<=1048576)(i h:Int)(hi:0<=i/\i<=xs.length) :
  ∃s,acX s/\∃i' h' dj dm dn,(∀(c nx:Nat) (σ:Store),σ c=some (QI xs i h 0)->c<nx->∃σ',ev ZM conv ext 96 [.rp c 0] σ nx=some (.agg [.rs (nx+dj) 0 s.bI.length,.rs (nx+dm) 0 s.members.length],σ',nx+dn) /\
   σ' c=some (QI xs i' h' 0)/\σ' (nx+dj)=some ⟨s.bI.flatMap Af,4,true⟩/\σ' (nx+dm)=some ⟨s.members.flatMap Ac,3,true⟩/\∀q,q<nx->q≠c->σ' q=σ q)/\dj<dn/\dm<dn/\dj≠dm/\0<=i'/\i'<=xs.length:=by
 obtain⟨r1,i1,h1,k1,b1,j1⟩:=dP xs G J i h hi 4 (by decide) (by decide);obtain⟨r2,i2,h2,k2,b2,j2⟩:=dP xs G J i1 h1 j1 3 (by decide) (by decide);obtain⟨r3,i3,h3,k3,b3,j3⟩:=dP xs G J i2 h2 j2 4 (by decide) (by decide);obtain⟨r4,i4,h4,k4,b4,j4⟩:=dP xs G J i3 h3 j3 3 (by decide) (by decide);obtain⟨r5,i5,h5,k5,b5,j5⟩:=dP xs G J i4 h4 j4 4 (by decide) (by decide);obtain⟨r6,i6,h6,k6,b6,j6⟩:=dP xs G J i5 h5 j5 4 (by decide) (by decide);obtain⟨r7,u7,i7,h7,k7,j7⟩:=abl xs G J i6 h6 j6 [1,1,1,3] (by decide) (by decide);obtain⟨r8,i8,h8,k8,j8⟩:=aiz xs G J i7 h7 j7 2 (by decide) (by decide);obtain⟨r9,i9,h9,k9,b9,j9⟩:=dP xs G J i8 h8 j8 5 (by decide) (by decide);obtain⟨O,u9,u1,u2,v6,v8⟩:=abl xs G J i9 h9 j9 [1,2,3] (by decide) (by decide);obtain⟨S,u5⟩:∃e,e=([1,1,1,3]:List Int)[r7]:=⟨_,rfl⟩;obtain⟨E,u6⟩:∃e,e=([1,2,3]:List Int)[O]:=⟨_,rfl⟩;have v7:S=1\/S=3:=by
  have:r7=0\/r7=1\/r7=2\/r7=3:=by simp at u7;omega
  rcases this with rfl|rfl|rfl|rfl<;>subst u5<;>simp
 have v10:E=1\/E=2\/E=3:=by
  have:O=0\/O=1\/O=2:=by simp at u9;omega
  rcases this with rfl|rfl|rfl<;>subst u6<;>simp
 have q1:=fun(b nx:Nat) (σ:Store)=>k1 b 0 nx σ
 have q2:=fun(b nx:Nat) (σ:Store)=>k2 b 0 nx σ
 have q3:=fun(b nx:Nat) (σ:Store)=>k3 b 0 nx σ
 have q4:=fun(b nx:Nat) (σ:Store)=>k4 b 0 nx σ
 have q5:=fun(b nx:Nat) (σ:Store)=>k5 b 0 nx σ
 have q6:=fun(b nx:Nat) (σ:Store)=>k6 b 0 nx σ
 have q8:=fun(b nx:Nat) (σ:Store)=>k8 b 0 nx σ
 have q9:=fun(b nx:Nat) (σ:Store)=>k9 b 0 nx σ
 have q7:∀(c b nx:Nat) (σ:Store),σ c=some (QI xs i6 h6 0)->σ b=some ⟨[I 1,I 1,I 1,I 3],1,true⟩->c<nx->b<nx->b≠c->ev ZM conv ext 99 [.rp c 0,.rs b 0 4] σ nx=some (I S,upd σ c (some (QI xs i7 h7 0)),nx):=by rw[u5];exact k7
 have w0:∀(c b nx:Nat) (σ:Store),σ c=some (QI xs i9 h9 0)->σ b=some ⟨[I 1,I 2,I 3],1,true⟩->c<nx->b<nx->b≠c->ev ZM conv ext 99 [.rp c 0,.rs b 0 3] σ nx=some (I E,upd σ c (some (QI xs u1 u2 0)),nx):=by rw[u6];exact v6
 have w1:=ZU (n:=-1-r1);have w3:=ZU (n:=3+r3);have w5:=ZU (n:=r5-1);have w6:=ZU (n:=-1-r6);have w9:=ZU (n:=r9-1);cases r8 with
 |false=>
  refine⟨⟨[⟨⟨#[97]⟩,-1-r1,r2,true⟩,⟨⟨#[98]⟩,3+r3,r4,true⟩,⟨⟨#[99]⟩,r5-1,-1-r6,false⟩],[⟨0,2,1⟩,⟨1,2,S⟩]⟩,⟨_,_,_,_,_,_,S,⟨by omega,by omega,by omega,by omega,by omega,by omega,v7⟩,.inl rfl⟩,i8,h8,2,4,5,fun c nx σ Y hc=>?_,by decide,by decide,by decide,j8⟩;have n0:¬c=nx:=by omega
  have n1:¬nx=c:=by omega
  have n2:c<nx+1:=by omega
  have n3:(c==nx)=false:=by rw[sN];omega
  have n4:(nx==c)=false:=by rw[sN];omega
  have n5:nx<nx+1:=by omega
  have n6:¬nx=nx+1:=by omega
  have n7:(nx==nx+1)=false:=by rw[sN];omega
  have n8:nx<nx+1+1:=by omega
  have n9:¬nx=nx+1+1:=by omega
  have a1:(nx==nx+1+1)=false:=by rw[sN];omega
  have a6:nx<nx+1+1+1:=by omega
  have a7:¬nx=nx+1+1+1:=by omega
  have a8:(nx==nx+1+1+1)=false:=by rw[sN];omega
  have b7:nx<nx+1+1+1+1:=by omega
  have b8:¬nx=nx+1+1+1+1:=by omega
  have c0:(nx==nx+1+1+1+1)=false:=by rw[sN];omega
  have c2:nx<nx+1+1+1+1+1:=by omega
  have c3:¬c=nx+1:=by omega
  have c4:¬nx+1=c:=by omega
  have c5:c<nx+1+1:=by omega
  have c6:(c==nx+1)=false:=by rw[sN];omega
  have c7:(nx+1==c)=false:=by rw[sN];omega
  have c8:¬nx+1=nx:=by omega
  have c9:(nx+1==nx)=false:=by rw[sN];omega
  have e0:nx+1<nx+1+1:=by omega
  have e1:¬nx+1=nx+1+1:=by omega
  have e2:(nx+1==nx+1+1)=false:=by rw[sN];omega
  have e3:nx+1<nx+1+1+1:=by omega
  have e4:¬nx+1=nx+1+1+1:=by omega
  have e5:(nx+1==nx+1+1+1)=false:=by rw[sN];omega
  have e6:nx+1<nx+1+1+1+1:=by omega
  have e8:¬nx+1=nx+1+1+1+1:=by omega
  have e9:(nx+1==nx+1+1+1+1)=false:=by rw[sN];omega
  have h0:nx+1<nx+1+1+1+1+1:=by omega
  have i0:¬c=nx+1+1:=by omega
  have j0:¬nx+1+1=c:=by omega
  have k0:c<nx+1+1+1:=by omega
  have l1:(c==nx+1+1)=false:=by rw[sN];omega
  have l2:(nx+1+1==c)=false:=by rw[sN];omega
  have l3:¬nx+1+1=nx:=by omega
  have l4:(nx+1+1==nx)=false:=by rw[sN];omega
  have l5:¬nx+1+1=nx+1:=by omega
  have l6:(nx+1+1==nx+1)=false:=by rw[sN];omega
  have l7:nx+1+1<nx+1+1+1:=by omega
  have l8:¬nx+1+1=nx+1+1+1:=by omega
  have l9:(nx+1+1==nx+1+1+1)=false:=by rw[sN];omega
  have m1:nx+1+1<nx+1+1+1+1:=by omega
  have m2:¬nx+1+1=nx+1+1+1+1:=by omega
  have m3:(nx+1+1==nx+1+1+1+1)=false:=by rw[sN];omega
  have m4:nx+1+1<nx+1+1+1+1+1:=by omega
  have m5:¬c=nx+1+1+1:=by omega
  have m6:¬nx+1+1+1=c:=by omega
  have m7:c<nx+1+1+1+1:=by omega
  have m8:(c==nx+1+1+1)=false:=by rw[sN];omega
  have m9:(nx+1+1+1==c)=false:=by rw[sN];omega
  have o0:¬nx+1+1+1=nx:=by omega
  have o2:(nx+1+1+1==nx)=false:=by rw[sN];omega
  have o3:¬nx+1+1+1=nx+1:=by omega
  have o4:(nx+1+1+1==nx+1)=false:=by rw[sN];omega
  have o5:¬nx+1+1+1=nx+1+1:=by omega
  have o6:(nx+1+1+1==nx+1+1)=false:=by rw[sN];omega
  have o7:nx+1+1+1<nx+1+1+1+1:=by omega
  have p0:¬nx+1+1+1=nx+1+1+1+1:=by omega
  have p1:(nx+1+1+1==nx+1+1+1+1)=false:=by rw[sN];omega
  have p2:nx+1+1+1<nx+1+1+1+1+1:=by omega
  have p3:¬c=nx+1+1+1+1:=by omega
  have p4:¬nx+1+1+1+1=c:=by omega
  have p5:c<nx+1+1+1+1+1:=by omega
  have p6:(c==nx+1+1+1+1)=false:=by rw[sN];omega
  have p7:(nx+1+1+1+1==c)=false:=by rw[sN];omega
  have p8:¬nx+1+1+1+1=nx:=by omega
  have p9:(nx+1+1+1+1==nx)=false:=by rw[sN];omega
  have q0:¬nx+1+1+1+1=nx+1:=by omega
  have r0:(nx+1+1+1+1==nx+1)=false:=by rw[sN];omega
  have s1:¬nx+1+1+1+1=nx+1+1:=by omega
  have s2:(nx+1+1+1+1==nx+1+1)=false:=by rw[sN];omega
  have s3:¬nx+1+1+1+1=nx+1+1+1:=by omega
  have s4:(nx+1+1+1+1==nx+1+1+1)=false:=by rw[sN];omega
  have s5:nx+1+1+1+1<nx+1+1+1+1+1:=by omega
  have s6:∀a b c d:V,rep 3 [a,b,c,d]=[a,b,c,d,a,b,c,d,a,b,c,d]:=fun _ _ _ _=>rfl
  have s7:∀a b c:V,rep 2 [a,b,c]=[a,b,c,a,b,c]:=fun _ _ _=>rfl
  have s8:∀a:V,rep 4 [a]=[a,a,a,a]:=fun _=>rfl
  have s9:∀a:V,rep 3 [a]=[a,a,a]:=fun _=>rfl
  have u0:∀z:List V,rep 1 z=z:=fun z=>by simp[rep]
  rw[nC [.cell 2 41] [5,6] func96];simp only[go_sem,s6,s7,s8,s9,u0,qE,q1,q2,q3,q4,q5,q6,q7,q8,Y,w1,w3,w5,w6,n0,n1,n2,n3,n4,n5,n6,n7,n8,n9,a1,a6,a7,a8,b7,b8,c0,c2,c3,c4,c5,c6,c7,c8,c9,e0,e1,e2,e3,e4,e5,e6,e8,e9,h0,i0,j0,k0,l1,l2,l3,l4,l5,l6,l7,l8,l9,m1,m2,m3,m4,m5,m6,m7,m8,m9,o0,o2,o3,o4,o5,o6,o7,p0,p1,p2,p3,p4,p5,p6,p7,p8,p9,q0,r0,s1,s2,s3,s4,s5];refine⟨_,rfl,?_,?_,?_,fun q hq w2=>?_⟩
  all_goals (repeat (first|rw[Ri (by omega)]|rw[Zm]))
  all_goals rfl
 |true=>
  refine⟨⟨[⟨⟨#[97]⟩,-1-r1,r2,true⟩,⟨⟨#[98]⟩,3+r3,r4,true⟩,⟨⟨#[99]⟩,r5-1,-1-r6,false⟩,⟨⟨#[100]⟩,r9-1,-7,true⟩],[⟨0,2,1⟩,⟨1,2,S⟩,⟨3,2,E⟩]⟩,⟨_,_,_,_,_,_,S,⟨by omega,by omega,by omega,by omega,by omega,by omega,v7⟩,.inr ⟨_,E,by omega,v10,rfl⟩⟩,u1,u2,6,9,10,fun c nx σ Y hc=>?_,by decide,by decide,by decide,v8⟩;have n0:¬c=nx:=by omega
  have n1:¬nx=c:=by omega
  have n2:c<nx+1:=by omega
  have n3:(c==nx)=false:=by rw[sN];omega
  have n4:(nx==c)=false:=by rw[sN];omega
  have n5:nx<nx+1:=by omega
  have n6:¬nx=nx+1:=by omega
  have n7:(nx==nx+1)=false:=by rw[sN];omega
  have n8:nx<nx+1+1:=by omega
  have n9:¬nx=nx+1+1:=by omega
  have a1:(nx==nx+1+1)=false:=by rw[sN];omega
  have a6:nx<nx+1+1+1:=by omega
  have a7:¬nx=nx+1+1+1:=by omega
  have a8:(nx==nx+1+1+1)=false:=by rw[sN];omega
  have b7:nx<nx+1+1+1+1:=by omega
  have b8:¬nx=nx+1+1+1+1:=by omega
  have c0:(nx==nx+1+1+1+1)=false:=by rw[sN];omega
  have c2:nx<nx+1+1+1+1+1:=by omega
  have c3:¬nx=nx+1+1+1+1+1:=by omega
  have c4:(nx==nx+1+1+1+1+1)=false:=by rw[sN];omega
  have c5:nx<nx+1+1+1+1+1+1:=by omega
  have c6:¬nx=nx+1+1+1+1+1+1:=by omega
  have c7:(nx==nx+1+1+1+1+1+1)=false:=by rw[sN];omega
  have c8:nx<nx+1+1+1+1+1+1+1:=by omega
  have c9:¬nx=nx+1+1+1+1+1+1+1:=by omega
  have e0:(nx==nx+1+1+1+1+1+1+1)=false:=by rw[sN];omega
  have e1:nx<nx+1+1+1+1+1+1+1+1:=by omega
  have e2:¬nx=nx+1+1+1+1+1+1+1+1:=by omega
  have e3:(nx==nx+1+1+1+1+1+1+1+1)=false:=by rw[sN];omega
  have e4:nx<nx+1+1+1+1+1+1+1+1+1:=by omega
  have e5:¬nx=nx+1+1+1+1+1+1+1+1+1:=by omega
  have e6:(nx==nx+1+1+1+1+1+1+1+1+1)=false:=by rw[sN];omega
  have e8:nx<nx+1+1+1+1+1+1+1+1+1+1:=by omega
  have e9:¬c=nx+1:=by omega
  have h0:¬nx+1=c:=by omega
  have i0:c<nx+1+1:=by omega
  have j0:(c==nx+1)=false:=by rw[sN];omega
  have k0:(nx+1==c)=false:=by rw[sN];omega
  have l1:¬nx+1=nx:=by omega
  have l2:(nx+1==nx)=false:=by rw[sN];omega
  have l3:nx+1<nx+1+1:=by omega
  have l4:¬nx+1=nx+1+1:=by omega
  have l5:(nx+1==nx+1+1)=false:=by rw[sN];omega
  have l6:nx+1<nx+1+1+1:=by omega
  have l7:¬nx+1=nx+1+1+1:=by omega
  have l8:(nx+1==nx+1+1+1)=false:=by rw[sN];omega
  have l9:nx+1<nx+1+1+1+1:=by omega
  have m1:¬nx+1=nx+1+1+1+1:=by omega
  have m2:(nx+1==nx+1+1+1+1)=false:=by rw[sN];omega
  have m3:nx+1<nx+1+1+1+1+1:=by omega
  have m4:¬nx+1=nx+1+1+1+1+1:=by omega
  have m5:(nx+1==nx+1+1+1+1+1)=false:=by rw[sN];omega
  have m6:nx+1<nx+1+1+1+1+1+1:=by omega
  have m7:¬nx+1=nx+1+1+1+1+1+1:=by omega
  have m8:(nx+1==nx+1+1+1+1+1+1)=false:=by rw[sN];omega
  have m9:nx+1<nx+1+1+1+1+1+1+1:=by omega
  have o0:¬nx+1=nx+1+1+1+1+1+1+1:=by omega
  have o2:(nx+1==nx+1+1+1+1+1+1+1)=false:=by rw[sN];omega
  have o3:nx+1<nx+1+1+1+1+1+1+1+1:=by omega
  have o4:¬nx+1=nx+1+1+1+1+1+1+1+1:=by omega
  have o5:(nx+1==nx+1+1+1+1+1+1+1+1)=false:=by rw[sN];omega
  have o6:nx+1<nx+1+1+1+1+1+1+1+1+1:=by omega
  have o7:¬nx+1=nx+1+1+1+1+1+1+1+1+1:=by omega
  have p0:(nx+1==nx+1+1+1+1+1+1+1+1+1)=false:=by rw[sN];omega
  have p1:nx+1<nx+1+1+1+1+1+1+1+1+1+1:=by omega
  have p2:¬c=nx+1+1:=by omega
  have p3:¬nx+1+1=c:=by omega
  have p4:c<nx+1+1+1:=by omega
  have p5:(c==nx+1+1)=false:=by rw[sN];omega
  have p6:(nx+1+1==c)=false:=by rw[sN];omega
  have p7:¬nx+1+1=nx:=by omega
  have p8:(nx+1+1==nx)=false:=by rw[sN];omega
  have p9:¬nx+1+1=nx+1:=by omega
  have q0:(nx+1+1==nx+1)=false:=by rw[sN];omega
  have r0:nx+1+1<nx+1+1+1:=by omega
  have s1:¬nx+1+1=nx+1+1+1:=by omega
  have s2:(nx+1+1==nx+1+1+1)=false:=by rw[sN];omega
  have s3:nx+1+1<nx+1+1+1+1:=by omega
  have s4:¬nx+1+1=nx+1+1+1+1:=by omega
  have s5:(nx+1+1==nx+1+1+1+1)=false:=by rw[sN];omega
  have w4:nx+1+1<nx+1+1+1+1+1:=by omega
  have w7:¬nx+1+1=nx+1+1+1+1+1:=by omega
  have w8:(nx+1+1==nx+1+1+1+1+1)=false:=by rw[sN];omega
  have x0:nx+1+1<nx+1+1+1+1+1+1:=by omega
  have x1:¬nx+1+1=nx+1+1+1+1+1+1:=by omega
  have x2:(nx+1+1==nx+1+1+1+1+1+1)=false:=by rw[sN];omega
  have x3:nx+1+1<nx+1+1+1+1+1+1+1:=by omega
  have x4:¬nx+1+1=nx+1+1+1+1+1+1+1:=by omega
  have x5:(nx+1+1==nx+1+1+1+1+1+1+1)=false:=by rw[sN];omega
  have x6:nx+1+1<nx+1+1+1+1+1+1+1+1:=by omega
  have x7:¬nx+1+1=nx+1+1+1+1+1+1+1+1:=by omega
  have x8:(nx+1+1==nx+1+1+1+1+1+1+1+1)=false:=by rw[sN];omega
  have x9:nx+1+1<nx+1+1+1+1+1+1+1+1+1:=by omega
  have y0:¬nx+1+1=nx+1+1+1+1+1+1+1+1+1:=by omega
  have y1:(nx+1+1==nx+1+1+1+1+1+1+1+1+1)=false:=by rw[sN];omega
  have y2:nx+1+1<nx+1+1+1+1+1+1+1+1+1+1:=by omega
  have y3:¬c=nx+1+1+1:=by omega
  have y4:¬nx+1+1+1=c:=by omega
  have y5:c<nx+1+1+1+1:=by omega
  have n99:(c==nx+1+1+1)=false:=by rw[sN];omega
  have n100:(nx+1+1+1==c)=false:=by rw[sN];omega
  have n101:¬nx+1+1+1=nx:=by omega
  have n102:(nx+1+1+1==nx)=false:=by rw[sN];omega
  have n103:¬nx+1+1+1=nx+1:=by omega
  have n104:(nx+1+1+1==nx+1)=false:=by rw[sN];omega
  have n105:¬nx+1+1+1=nx+1+1:=by omega
  have n106:(nx+1+1+1==nx+1+1)=false:=by rw[sN];omega
  have n107:nx+1+1+1<nx+1+1+1+1:=by omega
  have n108:¬nx+1+1+1=nx+1+1+1+1:=by omega
  have n109:(nx+1+1+1==nx+1+1+1+1)=false:=by rw[sN];omega
  have n110:nx+1+1+1<nx+1+1+1+1+1:=by omega
  have n111:¬nx+1+1+1=nx+1+1+1+1+1:=by omega
  have n112:(nx+1+1+1==nx+1+1+1+1+1)=false:=by rw[sN];omega
  have n113:nx+1+1+1<nx+1+1+1+1+1+1:=by omega
  have n114:¬nx+1+1+1=nx+1+1+1+1+1+1:=by omega
  have n115:(nx+1+1+1==nx+1+1+1+1+1+1)=false:=by rw[sN];omega
  have n116:nx+1+1+1<nx+1+1+1+1+1+1+1:=by omega
  have n117:¬nx+1+1+1=nx+1+1+1+1+1+1+1:=by omega
  have n118:(nx+1+1+1==nx+1+1+1+1+1+1+1)=false:=by rw[sN];omega
  have n119:nx+1+1+1<nx+1+1+1+1+1+1+1+1:=by omega
  have n120:¬nx+1+1+1=nx+1+1+1+1+1+1+1+1:=by omega
  have n121:(nx+1+1+1==nx+1+1+1+1+1+1+1+1)=false:=by rw[sN];omega
  have n122:nx+1+1+1<nx+1+1+1+1+1+1+1+1+1:=by omega
  have n123:¬nx+1+1+1=nx+1+1+1+1+1+1+1+1+1:=by omega
  have n124:(nx+1+1+1==nx+1+1+1+1+1+1+1+1+1)=false:=by rw[sN];omega
  have n125:nx+1+1+1<nx+1+1+1+1+1+1+1+1+1+1:=by omega
  have n126:¬c=nx+1+1+1+1:=by omega
  have n127:¬nx+1+1+1+1=c:=by omega
  have n128:c<nx+1+1+1+1+1:=by omega
  have n129:(c==nx+1+1+1+1)=false:=by rw[sN];omega
  have n130:(nx+1+1+1+1==c)=false:=by rw[sN];omega
  have n131:¬nx+1+1+1+1=nx:=by omega
  have n132:(nx+1+1+1+1==nx)=false:=by rw[sN];omega
  have n133:¬nx+1+1+1+1=nx+1:=by omega
  have n134:(nx+1+1+1+1==nx+1)=false:=by rw[sN];omega
  have n135:¬nx+1+1+1+1=nx+1+1:=by omega
  have n136:(nx+1+1+1+1==nx+1+1)=false:=by rw[sN];omega
  have n137:¬nx+1+1+1+1=nx+1+1+1:=by omega
  have n138:(nx+1+1+1+1==nx+1+1+1)=false:=by rw[sN];omega
  have n139:nx+1+1+1+1<nx+1+1+1+1+1:=by omega
  have n140:¬nx+1+1+1+1=nx+1+1+1+1+1:=by omega
  have n141:(nx+1+1+1+1==nx+1+1+1+1+1)=false:=by rw[sN];omega
  have n142:nx+1+1+1+1<nx+1+1+1+1+1+1:=by omega
  have n143:¬nx+1+1+1+1=nx+1+1+1+1+1+1:=by omega
  have n144:(nx+1+1+1+1==nx+1+1+1+1+1+1)=false:=by rw[sN];omega
  have n145:nx+1+1+1+1<nx+1+1+1+1+1+1+1:=by omega
  have n146:¬nx+1+1+1+1=nx+1+1+1+1+1+1+1:=by omega
  have n147:(nx+1+1+1+1==nx+1+1+1+1+1+1+1)=false:=by rw[sN];omega
  have n148:nx+1+1+1+1<nx+1+1+1+1+1+1+1+1:=by omega
  have n149:¬nx+1+1+1+1=nx+1+1+1+1+1+1+1+1:=by omega
  have n150:(nx+1+1+1+1==nx+1+1+1+1+1+1+1+1)=false:=by rw[sN];omega
  have n151:nx+1+1+1+1<nx+1+1+1+1+1+1+1+1+1:=by omega
  have n152:¬nx+1+1+1+1=nx+1+1+1+1+1+1+1+1+1:=by omega
  have n153:(nx+1+1+1+1==nx+1+1+1+1+1+1+1+1+1)=false:=by rw[sN];omega
  have n154:nx+1+1+1+1<nx+1+1+1+1+1+1+1+1+1+1:=by omega
  have n155:¬c=nx+1+1+1+1+1:=by omega
  have n156:¬nx+1+1+1+1+1=c:=by omega
  have n157:c<nx+1+1+1+1+1+1:=by omega
  have n158:(c==nx+1+1+1+1+1)=false:=by rw[sN];omega
  have n159:(nx+1+1+1+1+1==c)=false:=by rw[sN];omega
  have n160:¬nx+1+1+1+1+1=nx:=by omega
  have n161:(nx+1+1+1+1+1==nx)=false:=by rw[sN];omega
  have n162:¬nx+1+1+1+1+1=nx+1:=by omega
  have n163:(nx+1+1+1+1+1==nx+1)=false:=by rw[sN];omega
  have n164:¬nx+1+1+1+1+1=nx+1+1:=by omega
  have n165:(nx+1+1+1+1+1==nx+1+1)=false:=by rw[sN];omega
  have n166:¬nx+1+1+1+1+1=nx+1+1+1:=by omega
  have n167:(nx+1+1+1+1+1==nx+1+1+1)=false:=by rw[sN];omega
  have n168:¬nx+1+1+1+1+1=nx+1+1+1+1:=by omega
  have n169:(nx+1+1+1+1+1==nx+1+1+1+1)=false:=by rw[sN];omega
  have n170:nx+1+1+1+1+1<nx+1+1+1+1+1+1:=by omega
  have n171:¬nx+1+1+1+1+1=nx+1+1+1+1+1+1:=by omega
  have n172:(nx+1+1+1+1+1==nx+1+1+1+1+1+1)=false:=by rw[sN];omega
  have n173:nx+1+1+1+1+1<nx+1+1+1+1+1+1+1:=by omega
  have n174:¬nx+1+1+1+1+1=nx+1+1+1+1+1+1+1:=by omega
  have n175:(nx+1+1+1+1+1==nx+1+1+1+1+1+1+1)=false:=by rw[sN];omega
  have n176:nx+1+1+1+1+1<nx+1+1+1+1+1+1+1+1:=by omega
  have n177:¬nx+1+1+1+1+1=nx+1+1+1+1+1+1+1+1:=by omega
  have n178:(nx+1+1+1+1+1==nx+1+1+1+1+1+1+1+1)=false:=by rw[sN];omega
  have n179:nx+1+1+1+1+1<nx+1+1+1+1+1+1+1+1+1:=by omega
  have n180:¬nx+1+1+1+1+1=nx+1+1+1+1+1+1+1+1+1:=by omega
  have n181:(nx+1+1+1+1+1==nx+1+1+1+1+1+1+1+1+1)=false:=by rw[sN];omega
  have n182:nx+1+1+1+1+1<nx+1+1+1+1+1+1+1+1+1+1:=by omega
  have n183:¬c=nx+1+1+1+1+1+1:=by omega
  have n184:¬nx+1+1+1+1+1+1=c:=by omega
  have n185:c<nx+1+1+1+1+1+1+1:=by omega
  have n186:(c==nx+1+1+1+1+1+1)=false:=by rw[sN];omega
  have n187:(nx+1+1+1+1+1+1==c)=false:=by rw[sN];omega
  have n188:¬nx+1+1+1+1+1+1=nx:=by omega
  have n189:(nx+1+1+1+1+1+1==nx)=false:=by rw[sN];omega
  have n190:¬nx+1+1+1+1+1+1=nx+1:=by omega
  have n191:(nx+1+1+1+1+1+1==nx+1)=false:=by rw[sN];omega
  have n192:¬nx+1+1+1+1+1+1=nx+1+1:=by omega
  have n193:(nx+1+1+1+1+1+1==nx+1+1)=false:=by rw[sN];omega
  have n194:¬nx+1+1+1+1+1+1=nx+1+1+1:=by omega
  have n195:(nx+1+1+1+1+1+1==nx+1+1+1)=false:=by rw[sN];omega
  have n196:¬nx+1+1+1+1+1+1=nx+1+1+1+1:=by omega
  have n197:(nx+1+1+1+1+1+1==nx+1+1+1+1)=false:=by rw[sN];omega
  have n198:¬nx+1+1+1+1+1+1=nx+1+1+1+1+1:=by omega
  have n199:(nx+1+1+1+1+1+1==nx+1+1+1+1+1)=false:=by rw[sN];omega
  have n200:nx+1+1+1+1+1+1<nx+1+1+1+1+1+1+1:=by omega
  have n201:¬nx+1+1+1+1+1+1=nx+1+1+1+1+1+1+1:=by omega
  have n202:(nx+1+1+1+1+1+1==nx+1+1+1+1+1+1+1)=false:=by rw[sN];omega
  have n203:nx+1+1+1+1+1+1<nx+1+1+1+1+1+1+1+1:=by omega
  have n204:¬nx+1+1+1+1+1+1=nx+1+1+1+1+1+1+1+1:=by omega
  have n205:(nx+1+1+1+1+1+1==nx+1+1+1+1+1+1+1+1)=false:=by rw[sN];omega
  have n206:nx+1+1+1+1+1+1<nx+1+1+1+1+1+1+1+1+1:=by omega
  have n207:¬nx+1+1+1+1+1+1=nx+1+1+1+1+1+1+1+1+1:=by omega
  have n208:(nx+1+1+1+1+1+1==nx+1+1+1+1+1+1+1+1+1)=false:=by rw[sN];omega
  have n209:nx+1+1+1+1+1+1<nx+1+1+1+1+1+1+1+1+1+1:=by omega
  have n210:¬c=nx+1+1+1+1+1+1+1:=by omega
  have n211:¬nx+1+1+1+1+1+1+1=c:=by omega
  have n212:c<nx+1+1+1+1+1+1+1+1:=by omega
  have n213:(c==nx+1+1+1+1+1+1+1)=false:=by rw[sN];omega
  have n214:(nx+1+1+1+1+1+1+1==c)=false:=by rw[sN];omega
  have n215:¬nx+1+1+1+1+1+1+1=nx:=by omega
  have n216:(nx+1+1+1+1+1+1+1==nx)=false:=by rw[sN];omega
  have n217:¬nx+1+1+1+1+1+1+1=nx+1:=by omega
  have n218:(nx+1+1+1+1+1+1+1==nx+1)=false:=by rw[sN];omega
  have n219:¬nx+1+1+1+1+1+1+1=nx+1+1:=by omega
  have n220:(nx+1+1+1+1+1+1+1==nx+1+1)=false:=by rw[sN];omega
  have n221:¬nx+1+1+1+1+1+1+1=nx+1+1+1:=by omega
  have n222:(nx+1+1+1+1+1+1+1==nx+1+1+1)=false:=by rw[sN];omega
  have n223:¬nx+1+1+1+1+1+1+1=nx+1+1+1+1:=by omega
  have n224:(nx+1+1+1+1+1+1+1==nx+1+1+1+1)=false:=by rw[sN];omega
  have n225:¬nx+1+1+1+1+1+1+1=nx+1+1+1+1+1:=by omega
  have n226:(nx+1+1+1+1+1+1+1==nx+1+1+1+1+1)=false:=by rw[sN];omega
  have n227:¬nx+1+1+1+1+1+1+1=nx+1+1+1+1+1+1:=by omega
  have n228:(nx+1+1+1+1+1+1+1==nx+1+1+1+1+1+1)=false:=by rw[sN];omega
  have n229:nx+1+1+1+1+1+1+1<nx+1+1+1+1+1+1+1+1:=by omega
  have n230:¬nx+1+1+1+1+1+1+1=nx+1+1+1+1+1+1+1+1:=by omega
  have n231:(nx+1+1+1+1+1+1+1==nx+1+1+1+1+1+1+1+1)=false:=by rw[sN];omega
  have n232:nx+1+1+1+1+1+1+1<nx+1+1+1+1+1+1+1+1+1:=by omega
  have n233:¬nx+1+1+1+1+1+1+1=nx+1+1+1+1+1+1+1+1+1:=by omega
  have n234:(nx+1+1+1+1+1+1+1==nx+1+1+1+1+1+1+1+1+1)=false:=by rw[sN];omega
  have n235:nx+1+1+1+1+1+1+1<nx+1+1+1+1+1+1+1+1+1+1:=by omega
  have n236:¬c=nx+1+1+1+1+1+1+1+1:=by omega
  have n237:¬nx+1+1+1+1+1+1+1+1=c:=by omega
  have n238:c<nx+1+1+1+1+1+1+1+1+1:=by omega
  have n239:(c==nx+1+1+1+1+1+1+1+1)=false:=by rw[sN];omega
  have n240:(nx+1+1+1+1+1+1+1+1==c)=false:=by rw[sN];omega
  have n241:¬nx+1+1+1+1+1+1+1+1=nx:=by omega
  have n242:(nx+1+1+1+1+1+1+1+1==nx)=false:=by rw[sN];omega
  have n243:¬nx+1+1+1+1+1+1+1+1=nx+1:=by omega
  have n244:(nx+1+1+1+1+1+1+1+1==nx+1)=false:=by rw[sN];omega
  have n245:¬nx+1+1+1+1+1+1+1+1=nx+1+1:=by omega
  have n246:(nx+1+1+1+1+1+1+1+1==nx+1+1)=false:=by rw[sN];omega
  have n247:¬nx+1+1+1+1+1+1+1+1=nx+1+1+1:=by omega
  have n248:(nx+1+1+1+1+1+1+1+1==nx+1+1+1)=false:=by rw[sN];omega
  have n249:¬nx+1+1+1+1+1+1+1+1=nx+1+1+1+1:=by omega
  have n250:(nx+1+1+1+1+1+1+1+1==nx+1+1+1+1)=false:=by rw[sN];omega
  have n251:¬nx+1+1+1+1+1+1+1+1=nx+1+1+1+1+1:=by omega
  have n252:(nx+1+1+1+1+1+1+1+1==nx+1+1+1+1+1)=false:=by rw[sN];omega
  have n253:¬nx+1+1+1+1+1+1+1+1=nx+1+1+1+1+1+1:=by omega
  have n254:(nx+1+1+1+1+1+1+1+1==nx+1+1+1+1+1+1)=false:=by rw[sN];omega
  have n255:¬nx+1+1+1+1+1+1+1+1=nx+1+1+1+1+1+1+1:=by omega
  have n256:(nx+1+1+1+1+1+1+1+1==nx+1+1+1+1+1+1+1)=false:=by rw[sN];omega
  have n257:nx+1+1+1+1+1+1+1+1<nx+1+1+1+1+1+1+1+1+1:=by omega
  have n258:¬nx+1+1+1+1+1+1+1+1=nx+1+1+1+1+1+1+1+1+1:=by omega
  have n259:(nx+1+1+1+1+1+1+1+1==nx+1+1+1+1+1+1+1+1+1)=false:=by rw[sN];omega
  have n260:nx+1+1+1+1+1+1+1+1<nx+1+1+1+1+1+1+1+1+1+1:=by omega
  have n261:¬c=nx+1+1+1+1+1+1+1+1+1:=by omega
  have n262:¬nx+1+1+1+1+1+1+1+1+1=c:=by omega
  have n263:c<nx+1+1+1+1+1+1+1+1+1+1:=by omega
  have n264:(c==nx+1+1+1+1+1+1+1+1+1)=false:=by rw[sN];omega
  have n265:(nx+1+1+1+1+1+1+1+1+1==c)=false:=by rw[sN];omega
  have n266:¬nx+1+1+1+1+1+1+1+1+1=nx:=by omega
  have n267:(nx+1+1+1+1+1+1+1+1+1==nx)=false:=by rw[sN];omega
  have n268:¬nx+1+1+1+1+1+1+1+1+1=nx+1:=by omega
  have n269:(nx+1+1+1+1+1+1+1+1+1==nx+1)=false:=by rw[sN];omega
  have n270:¬nx+1+1+1+1+1+1+1+1+1=nx+1+1:=by omega
  have n271:(nx+1+1+1+1+1+1+1+1+1==nx+1+1)=false:=by rw[sN];omega
  have n272:¬nx+1+1+1+1+1+1+1+1+1=nx+1+1+1:=by omega
  have n273:(nx+1+1+1+1+1+1+1+1+1==nx+1+1+1)=false:=by rw[sN];omega
  have n274:¬nx+1+1+1+1+1+1+1+1+1=nx+1+1+1+1:=by omega
  have n275:(nx+1+1+1+1+1+1+1+1+1==nx+1+1+1+1)=false:=by rw[sN];omega
  have n276:¬nx+1+1+1+1+1+1+1+1+1=nx+1+1+1+1+1:=by omega
  have n277:(nx+1+1+1+1+1+1+1+1+1==nx+1+1+1+1+1)=false:=by rw[sN];omega
  have n278:¬nx+1+1+1+1+1+1+1+1+1=nx+1+1+1+1+1+1:=by omega
  have n279:(nx+1+1+1+1+1+1+1+1+1==nx+1+1+1+1+1+1)=false:=by rw[sN];omega
  have n280:¬nx+1+1+1+1+1+1+1+1+1=nx+1+1+1+1+1+1+1:=by omega
  have n281:(nx+1+1+1+1+1+1+1+1+1==nx+1+1+1+1+1+1+1)=false:=by rw[sN];omega
  have n282:¬nx+1+1+1+1+1+1+1+1+1=nx+1+1+1+1+1+1+1+1:=by omega
  have n283:(nx+1+1+1+1+1+1+1+1+1==nx+1+1+1+1+1+1+1+1)=false:=by rw[sN];omega
  have n284:nx+1+1+1+1+1+1+1+1+1<nx+1+1+1+1+1+1+1+1+1+1:=by omega
  have s6:∀a b c d:V,rep 3 [a,b,c,d]=[a,b,c,d,a,b,c,d,a,b,c,d]:=fun _ _ _ _=>rfl
  have s7:∀a b c:V,rep 2 [a,b,c]=[a,b,c,a,b,c]:=fun _ _ _=>rfl
  have s8:∀a:V,rep 4 [a]=[a,a,a,a]:=fun _=>rfl
  have s9:∀a:V,rep 3 [a]=[a,a,a]:=fun _=>rfl
  have u0:∀z:List V,rep 1 z=z:=fun z=>by simp[rep]
  rw[nC [.cell 2 41] [5,6] func96];have y6:3<=maxLen:=by decide
  have y7:4<=maxLen:=by decide
  simp only[go_sem,y6,y7,s6,s7,s8,s9,u0,qE,q1,q2,q3,q4,q5,q6,q7,q8,q9,w0,Y,w1,w3,w5,w6,w9,n0,n1,n2,n3,n4,n5,n6,n7,n8,n9,a1,a6,a7,a8,b7,b8,c0,c2,c3,c4,c5,c6,c7,c8,c9,e0,e1,e2,e3,e4,e5,e6,e8,e9,h0,i0,j0,k0,l1,l2,l3,l4,l5,l6,l7,l8,l9,m1,m2,m3,m4,m5,m6,m7,m8,m9,o0,o2,o3,o4,o5,o6,o7,p0,p1,p2,p3,p4,p5,p6,p7,p8,p9,q0,r0,s1,s2,s3,s4,s5,w4,w7,w8,x0,x1,x2,x3,x4,x5,x6,x7,x8,x9,y0,y1,y2,y3,y4,y5,n99,n100,n101,n102,n103,n104,n105,n106,n107,n108,n109,n110,n111,n112,n113,n114,n115,n116,n117,n118,n119,n120,n121,n122,n123,n124,n125,n126,n127,n128,n129,n130,n131,n132,n133,n134,n135,n136,n137,n138,n139,n140,n141,n142,n143,n144,n145,n146,n147,n148,n149,n150,n151,n152,n153,n154,n155,n156,n157,n158,n159,n160,n161,n162,n163,n164,n165,n166,n167,n168,n169,n170,n171,n172,n173,n174,n175,n176,n177,n178,n179,n180,n181,n182,n183,n184,n185,n186,n187,n188,n189,n190,n191,n192,n193,n194,n195,n196,n197,n198,n199,n200,n201,n202,n203,n204,n205,n206,n207,n208,n209,n210,n211,n212,n213,n214,n215,n216,n217,n218,n219,n220,n221,n222,n223,n224,n225,n226,n227,n228,n229,n230,n231,n232,n233,n234,n235,n236,n237,n238,n239,n240,n241,n242,n243,n244,n245,n246,n247,n248,n249,n250,n251,n252,n253,n254,n255,n256,n257,n258,n259,n260,n261,n262,n263,n264,n265,n266,n267,n268,n269,n270,n271,n272,n273,n274,n275,n276,n277,n278,n279,n280,n281,n282,n283,n284];refine⟨_,rfl,?_,?_,?_,fun q hq w2=>?_⟩
  all_goals (repeat (first|rw[Ri (by omega)]|rw[Zm]))
  all_goals rfl
theorem name1(u:UInt8)(h:BJ u=true):DJ ⟨#[u]⟩:=by
 refine⟨fun k b hb=>?_,zq 1,by show 1<=8;omega⟩;have J:=Me hb;have E:k=0:=by
  have:(⟨#[u]⟩:ByteArray).size=1:=rfl;omega
 subst E;have:b=u:=by
  have G:(⟨#[u]⟩:ByteArray)[0]?=some u:=rfl;rw[G]at hb;cases hb;rfl
 subst this;exact .inl h
theorem name2(u v:UInt8)(h:BJ u=true)(J:Ew v=true):DJ ⟨#[u,v]⟩:=by
 refine⟨fun k b hb=>?_,by show 1<=2;omega,by show 2<=8;omega⟩;have O:=Me hb;have:(⟨#[u,v]⟩:ByteArray).size=2:=rfl;have E:k=0\/k=1:=by omega
 rcases E with rfl|rfl
 .have G:(⟨#[u,v]⟩:ByteArray)[0]?=some u:=rfl
  rw[G]at hb;cases hb;exact .inl h
 .have G:(⟨#[u,v]⟩:ByteArray)[1]?=some v:=rfl
  rw[G]at hb;cases hb;exact .inr ⟨by decide,J⟩
theorem atV(u v:UInt8):((⟨#[u]⟩:ByteArray).toList==(⟨#[v]⟩:ByteArray).toList)=(u==v):=by
 have h:∀w:UInt8,(⟨#[w]⟩:ByteArray).toList=[w]:=fun w=>by
  unfold ByteArray.toList ByteArray.toList.loop ByteArray.toList.loop;rfl
 rw[h,h];show((u==v) && true)=_;rw[uj]
theorem MR{n a b:Int}(h:a<=n/\n<=b):inB n a b=true:=by unfold inB;rw[sJ h.1,sJ h.2];rfl
theorem jo(u:UInt8)(h:BJ u=true){x y:Int}{f:Bool}(E:-50<=x/\x<=50)(G:-50<=y/\y<=50):Ed ⟨⟨#[u]⟩,x,y,f⟩=true:=by
 unfold Ed;rw[iC (name1 u h),MR E,MR G];rfl
theorem OM{js:List Dn}{m:Member}(E:DK js.length m)(hp:∀a b,js[m.a.toNat]?=some a->js[m.b.toNat]?=some b->KX a b=true):NS js m=true:=iC ⟨E,hp⟩
theorem XR{js:List Dn}(G:∀i j (hi:i<js.length) (O:j<js.length),i<j->Bc js[j].name js[i]=false)(i:Nat)(hi:i<js.length):ix (Bc js[i].name) js=i :=
 kC hi (fun J E h=>G J i E hi h) (by simp[Bc])
theorem jD(u v:UInt8)(h:(u==v)=false):((⟨#[u]⟩:ByteArray).toList==(⟨#[v]⟩:ByteArray).toList)=false:=(atV u v).trans h
theorem al9{s:Structure}(h:acX s):Bf s/\Aj s:=by
 have J:∀u:UInt8,okS ⟨#[u]⟩:=fun u=>by unfold okS;show 1<=_;omega
 have E:∀n:Int,-100<=n/\n<=100->okI n:=fun n h=>iq.mpr (by omega)
 have O:BJ 97=true:=by decide
 have S:BJ 98=true:=by decide
 have Y:BJ 99=true:=by decide
 have a1:BJ 100=true:=by decide
 have mx:4<=maxLen:=by decide
 have pr:∀ {n1 n2:ByteArray} {x y x' y':Int} {f:Bool},y≠y'->KX ⟨n1,x,y,f⟩ ⟨n2,x',y',false⟩=true:=fun {n1 n2 x y x' y' f} h=>by
  unfold KX;have:(y==y')=false:=by simpa using h
  simp[this]
 obtain⟨x1,y1,x2,y2,x3,y3,k,⟨b1,b2,b3,b4,b5,b6,hk⟩,rfl|⟨x4,k3,b7,a7,rfl⟩⟩:=h
 .refine⟨⟨by simp,by simp,fun i hi=>⟨?_,XR (fun i j hi G a6=>?_) i hi⟩,fun m hm=>?_⟩,⟨fun j G=>?_,by simp,by simp only[zV,yY];omega⟩,⟨fun m hm=>?_,by simp,by simp only[zV,yY];omega⟩⟩
  .have:i=0\/i=1\/i=2:=by simp only[zV,yY]at hi;omega
   rcases this with rfl|rfl|rfl
   .exact jo _ O (by omega) (by omega)
   .exact jo _ S (by omega) (by omega)
   .exact jo _ Y (by omega) (by omega)
  .have:(i=0/\j=1)\/(i=0/\j=2)\/(i=1/\j=2):=by simp only[zV,yY]at hi G;omega
   rcases this with ⟨rfl,rfl⟩|⟨rfl,rfl⟩|⟨rfl,rfl⟩
   .exact jD 97 98 rfl
   .exact jD 97 99 rfl
   .exact jD 98 99 rfl
  .simp only[zX,zK,or_false]at hm
   rcases hm with rfl|rfl
   .exact OM (by unfold DK;simp only[zV,yY];omega) fun a b ha hb=>by
     cases ha;cases hb;exact pr (by omega)
   .exact OM (by unfold DK;simp only[zV,yY];omega) fun a b ha hb=>by
     cases ha;cases hb;exact pr (by omega)
  .simp only[zX,zK,or_false]at G
   rcases G with rfl|rfl|rfl<;>exact⟨J _,E _ (by simp only;omega),E _ (by simp only;omega),trivial⟩
  .simp only[zX,zK,or_false]at hm
   rcases hm with rfl|rfl<;>exact⟨E _ (by simp only;omega),E _ (by simp only;omega),E _ (by simp only;omega)⟩
 .refine⟨⟨by simp,by simp,fun i hi=>⟨?_,XR (fun i j hi G a6=>?_) i hi⟩,fun m hm=>?_⟩,⟨fun j G=>?_,by simp,by simp only[zV,yY];omega⟩,⟨fun m hm=>?_,by simp,by simp only[zV,yY];omega⟩⟩
  .have:i=0\/i=1\/i=2\/i=3:=by simp only[zV,yY]at hi;omega
   rcases this with rfl|rfl|rfl|rfl
   .exact jo _ O (by omega) (by omega)
   .exact jo _ S (by omega) (by omega)
   .exact jo _ Y (by omega) (by omega)
   .exact jo _ a1 (by omega) (by omega)
  .have:(i=0/\j=1)\/(i=0/\j=2)\/(i=1/\j=2)\/(i=0/\j=3)\/(i=1/\j=3)\/(i=2/\j=3):=by simp only[zV,yY]at hi G;omega
   rcases this with ⟨rfl,rfl⟩|⟨rfl,rfl⟩|⟨rfl,rfl⟩|⟨rfl,rfl⟩|⟨rfl,rfl⟩|⟨rfl,rfl⟩
   .exact jD 97 98 rfl
   .exact jD 97 99 rfl
   .exact jD 98 99 rfl
   .exact jD 97 100 rfl
   .exact jD 98 100 rfl
   .exact jD 99 100 rfl
  .simp only[zX,zK,or_false]at hm
   rcases hm with rfl|rfl|rfl
   .exact OM (by unfold DK;simp only[zV,yY];omega) fun a b ha hb=>by
     cases ha;cases hb;exact pr (by omega)
   .exact OM (by unfold DK;simp only[zV,yY];omega) fun a b ha hb=>by
     cases ha;cases hb;exact pr (by omega)
   .exact OM (by unfold DK;simp only[zV,yY];omega) fun a b ha hb=>by
     cases ha;cases hb;exact pr (by omega)
  .simp only[zX,zK,or_false]at G
   rcases G with rfl|rfl|rfl|rfl<;>exact⟨J _,E _ (by simp only;omega),E _ (by simp only;omega),trivial⟩
  .simp only[zX,zK,or_false]at hm
   rcases hm with rfl|rfl|rfl<;>exact⟨E _ (by simp only;omega),E _ (by simp only;omega),E _ (by simp only;omega)⟩
def BP(σ:Store)(c:Nat)(xs:List Int):Prop:=∃i h,σ c=some (QI xs i h 0)/\0<=i/\i<=xs.length
theorem BP.upd{σ:Store}{c b:Nat}{xs:List Int}{x:Option Fv}(h:BP σ c xs)(hb:c≠b):BP (upd σ b x) c xs:=by
 obtain⟨i,g,E,G⟩:=h;exact⟨i,g,by rw[Zk _ _ hb];exact E,G⟩
theorem Uw{xs:List Int}(E:∀x∈xs,0<=x/\x<=255)(G:xs.length<=1048576){σ:Store}{c nx:Nat}(hc:BP σ c xs)(hn:c<nx)(n:Int)(J:1<=n)(O:n<=256) :
  ∃r x,ev ZM conv ext 59 [.rp c 0,I n] σ nx=some (I r,upd σ c x,nx)/\(0<=r/\r<n)/\BP (upd σ c x) c xs:=by
 obtain⟨i,h,S,Y⟩:=hc;obtain⟨r,i',h',k,b,j⟩:=dP xs E G i h Y n J O;exact⟨r,_,k c 0 nx σ S hn,b,i',h',Zj _ _ _,j⟩
theorem abm{xs:List Int}(E:∀x∈xs,0<=x/\x<=255)(G:xs.length<=1048576){σ:Store}{c nx:Nat}(hc:BP σ c xs)(hn:c<nx)(n:Int)(J:1<=n)(O:n<=256) :
  ∃r x,ev ZM conv ext 58 [.rp c 0,I n] σ nx=some (Bo r,upd σ c x,nx)/\BP (upd σ c x) c xs:=by
 obtain⟨i,h,S,Y⟩:=hc;obtain⟨r,i',h',k,j⟩:=aiz xs E G i h Y n J O;exact⟨r,_,k c 0 nx σ S hn,i',h',Zj _ _ _,j⟩
theorem apS{xs:List Int}(S:∀x∈xs,0<=x/\x<=255)(Y:xs.length<=1048576){σ:Store}{c b nx:Nat}(hc:BP σ c xs)(hn:c<nx)(E:List Int)(h1:1<=E.length)(h2:E.length<=256)(hb:σ b=some ⟨E.flatMap cI,1,true⟩)(G:b<nx)(J:b≠c) :
  ∃r,∃O:r<E.length,∃x,ev ZM conv ext 99 [.rp c 0,.rs b 0 E.length] σ nx=some (I E[r],upd σ c x,nx)/\BP (upd σ c x) c xs:=by
 obtain⟨i,h,k1,k2⟩:=hc;obtain⟨r,O,i',h',k,j⟩:=abl xs S Y i h k2 E h1 h2;exact⟨r,O,_,k c b nx σ k1 hb hn G J,i',h',Zj _ _ _,j⟩
theorem abn(xs:List Int)(k:Nat)(v:Int):(xs.flatMap cI).set k (I v)=(xs.set k v).flatMap cI:=by
 induction xs generalizing k with
 |nil=>rfl
 |cons x xs E=>
  cases k with
  |zero=>rfl
  |succ k=>show I x :: (xs.flatMap cI).set k (I v)=_;rw[E];rfl
theorem XT(n:Nat):rep n [V.sc (.int .i64 0)]=(List.replicate n (0:Int)).flatMap cI:=by
 induction n with
 |zero=>rfl
 |succ n E=>rw[fP,E,xu];rfl
def Bd(L:List Int):Prop:=∀x∈L,-100<=x/\x<=100
theorem Bd.set{L:List Int}(h:Bd L){k:Nat}{v:Int}(G:-100<=v/\v<=100):Bd (L.set k v):=fun x E=>by
 rcases uz E with E|rfl
 .exact h x E
 .exact G
theorem atW{xs:List Int}(hx:∀x∈xs,0<=x/\x<=255)(hl:xs.length<=1048576){js:List Dn}(b4:1<=js.length)(b5:js.length<=4){σ:Store}{c nx jb:Nat}{w:V}{wr:Bool}(hc:BP σ c xs)(c6:c<nx)(hj:σ jb=some ⟨js.flatMap Af,4,wr⟩)(b6:jb<nx)(b7:jb≠c)(hw:vI w=true) :
  ∃L lb σ' nx',ev ZM conv ext 98 [.rp c 0,.agg [.rs jb 0 js.length,w]] σ nx=some (.rs lb 0 (2*js.length),σ',nx')/\L.length=2*js.length/\Bd L/\σ' lb=some ⟨L.flatMap cI,1,true⟩/\nx<=lb/\lb<nx'/\BP σ' c xs/\∀q,q<nx->q≠c->σ' q=σ q:=by
 obtain⟨n,en⟩:∃n,n=js.length:=⟨_,rfl⟩;have e1:(2*(n:Int)).toNat=2*n:=by omega
 have w1:=ZU (n:=2*(n:Int));have e3:(0:Int)<=2*(n:Int):=by omega
 have e4:8*(2*(n:Int))<=281474976710656:=by omega
 have e5:2*(n:Int)<=9223372036854775807:=by omega
 rw[<- en]at b4 b5⊢;have cw:=pW hw;have nj:¬jb=nx:=by omega
 have b8:¬jb=nx+1:=by omega
 have nn:¬nx=nx+1:=by omega
 have rz:=XT (2*n);rw[nC [.tmp 4] [] func98];simp only[go_sem,hw,cw,w1,e1,e3,e4,e5,xP,nj,b8,nn,rz];generalize hL:iI _ _=y;obtain⟨x,rfl,T,E,qI,rfl,t0,t5,c5,hC,L,Vb,O,S,G⟩:=oZ hL n (fun k st=>st.T 0= .rp c 0/\st.T 5= .rs (nx+1) 0 (2*n)/\st.T 14= .rs jb 0 n/\st.T 15=I n/\st.T 16=I k/\nx+1<st.nx/\BP st.σ c xs/\∃L:List Int,L.length=2*n/\Bd L/\st.σ (nx+1)=some ⟨L.flatMap cI,1,true⟩/\∀q,q<nx->q≠c->st.σ q=σ q)
  (fun x=>∃T E qI,x=(.exit 0,⟨T,E,qI⟩)/\T 0= .rp c 0/\T 5= .rs (nx+1) 0 (2*n)/\nx+1<qI/\BP E c xs/\∃L:List Int,L.length=2*n/\Bd L/\E (nx+1)=some ⟨L.flatMap cI,1,true⟩/\∀q,q<nx->q≠c->E q=σ q) (by
   clear hL;rintro k ⟨T,E,m⟩ hk ⟨t0,t5,t14,t15,t16,hm,hC,L,Vb,O,S,G⟩;simp only at t0 t5 t14 t15 t16 hm hC S G;have b9:k<js.length:=by omega
   have f1:(k:Int)<(n:Int):=by omega
   have f2:=jF k;have f3:=ZU (n:=(k:Int)+1);have f4:=JX js k b9;have f5:=Gu js;rw[<- en]at f5;have f6:k*4+4<=n*4:=by omega
   have a8:E jb=some ⟨js.flatMap Af,4,wr⟩:=by rw[G jb b6 b7];exact hj
   obtain⟨j,ej⟩:∃j,j=js[k]:=⟨_,rfl⟩;rw[<- ej]at f4;obtain⟨jn,jx,jy,jf⟩:=j;obtain⟨σ2,e2⟩:∃σ2,σ2=upd E m (some ⟨Af ⟨jn,jx,jy,jf⟩,0,true⟩):=⟨_,rfl⟩;have m1:σ2 m=some ⟨Af ⟨jn,jx,jy,jf⟩,0,true⟩:=by rw[e2,Zj]
   have Y:BP σ2 c xs:=by rw[e2];exact hC.upd (by omega)
   have b3:σ2 (nx+1)=some ⟨L.flatMap cI,1,true⟩:=by rw[e2,Zm];exact S
   have J:∀q,q<nx->q≠c->σ2 q=σ q:=fun q h1 h2=>by rw[e2,Zm];exact G q h1 h2
   have hlen:(L.flatMap cI).length=2*n:=by rw[qN,Vb]
   cases jf with
   |true=>
    refine .inl ⟨_,by simp only[go_sem,t0,t5,t14,t15,t16,f1,f2,f3,f4,f5,f6,a8,<- e2,m1];rfl,?_⟩;simp only[go_sem,t0,t5,t14,t15];exact⟨rfl,by omega,Y,L,Vb,O,b3,J⟩
   |false=>
    obtain⟨r1,x1,k1,b1,c0⟩:=Uw hx hl Y (show c<m+1 by omega) 7 (by decide) (by decide);have g1:=ZU (n:=2*(k:Int));have g2:=ZU (n:=r1-3);have g3:(2*(k:Int)).toNat=2*k:=by omega
    have g4:(0:Int)<=2*(k:Int):=by omega
    have g5:2*(k:Int)<((2*n:Nat):Int):=by omega
    have g6:2*k<2*n:=by omega
    have a1:upd σ2 c x1 (nx+1)=some ⟨L.flatMap cI,1,true⟩:=by rw[Zm];exact b3
    have s1:=abn L (2*k) (r1-3);obtain⟨a6,e3⟩:∃a6,a6=upd (upd σ2 c x1) (nx+1) (some ⟨(L.set (2*k) (r1-3)).flatMap cI,1,true⟩):=⟨_,rfl⟩;have c2:BP a6 c xs:=by rw[e3];exact c0.upd (by omega)
    obtain⟨r2,x2,k2,b2,c3⟩:=Uw hx hl c2 (show c<m+1 by omega) 9 (by decide) (by decide);have g7:=ZU (n:=2*(k:Int)+1);have g8:=ZU (n:=0-r2);have g9:(2*(k:Int)+1).toNat=2*k+1:=by omega
    have g10:(0:Int)<=2*(k:Int)+1:=by omega
    have g11:2*(k:Int)+1<((2*n:Nat):Int):=by omega
    have g12:2*k+1<2*n:=by omega
    have c4:upd a6 c x2 (nx+1)=some ⟨(L.set (2*k) (r1-3)).flatMap cI,1,true⟩:=by rw[Zm,e3,Zj]
    have s2:=abn (L.set (2*k) (r1-3)) (2*k+1) (0-r2);have a7:((L.set (2*k) (r1-3)).flatMap cI).length=2*n:=by rw[qN,yP,Vb]
    refine .inl ⟨_,by simp only[go_sem,qE,t0,t5,t14,t15,t16,f1,f2,f3,f4,f5,f6,a8,<- e2,m1,k1,g1,g2,g3,g4,g5,g6,a1,hlen,s1,<- e3,k2,g7,g8,g9,g10,g11,g12,c4,s2,a7];rfl,?_⟩;simp only[go_sem,t0,t5,t14,t15];refine⟨rfl,by omega,c3.upd (by omega),(L.set (2*k) (r1-3)).set (2*k+1) (0-r2),by rw[yP,yP,Vb],(O.set (by omega)).set (by omega),rfl,fun q h1 h2=>?_⟩;rw[Zm,Zk _ _ h2,e3,Zm,Zk _ _ h2];exact J q h1 h2) (by
   clear hL;rintro ⟨T,E,m⟩ ⟨t0,t5,t14,t15,t16,hm,hC,L,Vb,O,S,G⟩;simp only at t0 t5 t14 t15 t16 hm hC S G;exact⟨_,by simp only[go_sem,t15,t16,zi];rfl,by simp,_,_,_,rfl,by simp only[go_sem,t0],by simp only[go_sem,t5],hm,hC,L,Vb,O,S,G⟩) (by
   simp only[go_sem];refine⟨by omega,(hc.upd (by omega)).upd (by omega),List.replicate (2*n) 0,by simp,fun x hx=>by rw[List.eq_of_mem_replicate hx];omega,rfl,fun q h1 h2=>?_⟩;rw[Zm,Zm])
 obtain⟨r,x3,k3,Y⟩:=abm hx hl hC (show c<qI by omega) 8 (by decide) (by decide);have a1:upd E c x3 (nx+1)=some ⟨L.flatMap cI,1,true⟩:=by rw[Zm];exact S
 have hlen:(L.flatMap cI).length=2*n:=by rw[qN,Vb]
 have J:∀q,q<nx->q≠c->upd E c x3 q=σ q:=fun q h1 h2=>by rw[Zk _ _ h2];exact G q h1 h2
 cases r with
 |false=>
  simp only[go_sem,qE,t0,t5,k3];exact⟨L,nx+1,_,_,rfl,Vb,O,a1,by omega,by omega,Y,J⟩
 |true=>
  have g7:=ZU (n:=((2*n:Nat):Int) - 1);have g9:(((2*n:Nat):Int) - 1).toNat=2*n-1:=by omega
  have g10:(0:Int)<=((2*n:Nat):Int) - 1:=by omega
  have g11:((2*n:Nat):Int) - 1<((2*n:Nat):Int):=by omega
  have g12:2*n-1<2*n:=by omega
  have s2:=abn L (2*n-1) 4;simp only[go_sem,qE,t0,t5,k3,g7,g9,g10,g11,g12,a1,hlen,s2];refine⟨L.set (2*n-1) 4,nx+1,_,_,rfl,by rw[yP,Vb],O.set (by omega),Zj _ _ _,by omega,by omega,Y.upd (by omega),fun q h1 h2=>?_⟩;rw[Zm];exact J q h1 h2
open Go.Lp
attribute [-go_sem] qy
def CG{α:Type}(c:α->List V)(s:Nat)(T:Nat->V)(σ:Store)(nx t:Nat)(acc:List α):Prop:=(T t= .nil/\acc=[])\/∃b,T t= .rs b 0 acc.length/\acc≠[]/\σ b=some ⟨acc.flatMap c,s,true⟩/\b<nx
section
variable {α:Type} {c:α->List V} {s:Nat} {T:Nat->V} {σ:Store} {nx t:Nat} {acc:List α}
theorem lC(E:CG c s T σ nx t acc)(x:Option Fv):CG c s T (upd σ nx x) (nx+1) t acc:=by
 rcases E with ⟨g1,g2⟩|⟨b,g1,g2,g3,g4⟩
 .exact .inl ⟨g1,g2⟩
 .exact .inr ⟨b,g1,g2,by rw[Zm];exact g3,by omega⟩
theorem aiB{T':Nat->V}{E:Nat}(h:T' E=T t)(G:CG c s T σ nx t acc):CG c s T' σ nx E acc:=by
 unfold CG at *;rw[h];exact G
theorem ku(hc:∀x,(c x).length=s)(E:∀x,(c x).all vI=true)(hs:0<s){bytes:Nat}(S:CG c s T σ nx t acc)(x:α)(hl:acc.length<100000)(hb:bytes<=1000) :
  ∃σ',Ah (upd σ nx (some ⟨c x,s,true⟩)) (nx+1) s bytes (T t) (c x) 1=some (.rs (nx+1) 0 (acc.length+1),σ',nx+1+1)/\σ' (nx+1)=some ⟨(acc++[x]).flatMap c,s,true⟩/\∀y,y<nx->(∀b o l,T t= .rs b o l->y≠b)->σ' y=σ y:=by
 have hm:acc.length+1<=maxLen:=by unfold maxLen;omega
 have hmul:(acc.length+1)*bytes<=100000*1000:=xK (by omega) hb;rcases S with ⟨J,rfl⟩|⟨b,J,G,O,Y⟩
 .refine⟨_,by rw[J,r_,sQ (by decide),sO ⟨by decide,by omega⟩];rfl,?_⟩
  refine⟨by simp[Au,upd],fun y hy _=>?_⟩;unfold Au;rw[Zm,Zm]
 .have hlen:(acc.flatMap c).length=acc.length*s:=bZ hc acc
  refine⟨upd (upd (upd σ nx (some ⟨c x,s,true⟩)) b none) (nx+1) (some ⟨acc.flatMap c++c x,s,true⟩),?_,?_,fun y hy G=>?_⟩
  .rw[J,qy,Zm,O]
   simp only[zk];rw[sQ (by decide),sQ (by rw[hlen,vZ];omega),sO ⟨by rw[hlen];omega,trivial,hm,by omega,E x⟩];rfl
  .rw[Zj,zQ];simp
  .have:=G _ _ _ J
   rw[Zm,Zk _ _ this,Zm]
theorem kZ(G:CG c s T σ nx t acc){b o l:Nat}(h:T t= .rs b o l):b<nx:=by
 rcases G with ⟨E,_⟩|⟨b',E,_,_,J⟩
 .rw[E]at h;cases h
 .rw[E]at h;cases h;exact J
theorem kY{σ':Store}(h:σ' (nx+1)=some ⟨acc.flatMap c,s,true⟩)(G:T t= .rs (nx+1) 0 acc.length)(E:acc≠[]):CG c s T σ' (nx+1+1) t acc:=.inr ⟨nx+1,G,E,h,by omega⟩
theorem Lm(hc:∀x,(c x).length=s)(d:Nat)(E:∀x,stripL (strip σ d) (c x)=some (c x,[]))(J:CG c s T σ nx t acc):∃ids,strip σ (d+1) (T t)=some (LL c acc,ids):=by
 rcases J with ⟨G,rfl⟩|⟨b,G,O,hb,S⟩
 .exact⟨[],by rw[G,aT];rfl⟩
 .refine⟨[b],?_⟩
  rw[G,aS,hb];have Y:=bZ hc acc;simp only[zk,yZ,yg,Y,zq,if_true];rw[zl (by omega),aX E];rfl
end
theorem al_(z:List V):rep 1 z=z:=by simp[rep]
theorem JU(a b c d:V):patch [a,b] 0 [c,d]=[c,d]:=rfl
attribute [go_sem] al_ JU
abbrev Fh(p:Int×Int):List V:=[I p.1,I p.2]
def FV(m:Member)(k:Nat):List (Int×Int):=(if m.kind=2 then []else [((k:Int),1)])++(if m.kind=1 then []else [((k:Int),-1)])
def cols(s:Structure)(n:Nat):List (Int×Int):=(List.range n).flatMap fun k=>FV (mem s k) k
theorem oh(s:Structure)(n:Nat):cols s (n+1)=cols s n++FV (mem s n) n:=by simp[cols,wX]
theorem abo(m:Member)(k:Nat):(FV m k).length<=2:=by
 unfold FV
 split<;>split<;>simp
theorem oz(s:Structure):∀n,(cols s n).length<=2*n
 |0=>by simp[cols]
 |n+1=>by
  rw[oh,zo];have:=oz s n;have:=abo (mem s n) n;omega
theorem OO{s:Structure}(h:SG s):fn ZM conv ext 108 [.tp (jI s) 0]=some (LL Fh (cols s s.members.length)):=by
 have b3:=h.nm;rw[mJ,nC [.tmp 2] [] func108];simp only[go_sem];generalize hL:iI _ _=y;obtain⟨r,rfl,T',σ',nx',rfl,h2⟩:=oZ hL s.members.length (fun k st=>st.T 9=LL Ac s.members/\st.T 10=I s.members.length/\st.T 11=I k/\CG Fh 2 st.T st.σ st.nx 3 (cols s k))
  (fun r=>∃T σ nx',r=(.exit 0,⟨T,σ,nx'⟩)/\CG Fh 2 T σ nx' 3 (cols s s.members.length)) (by
   clear hL;rintro k ⟨T,σ,nx⟩ O ⟨S,E,G,hg⟩;simp only at S E G hg;have f1:(k:Int)<(s.members.length:Int):=by omega
   have f2:=jF k;have f3:=ZU (n:=(k:Int)+1);have f4:=Tf s.members k O;have f5:=IG s.members;have f6:k*3+3<=s.members.length*3:=by omega
   have f9:=Ti s.members k O;have hr:=h.mr k O;rw[jL O]at f4 hr;have hle:=oz s k;rw[oh];obtain⟨J,e1⟩:∃J,J=mem s k:=⟨_,rfl⟩;rw[<- e1]at f4 hr⊢;have a1:=fun x=>lC hg x
   unfold FV
   by_cases k2:J.kind=2
   .have g1:(J.kind !=2)=false:=by simpa using k2
    have g2:(J.kind !=1)=true:=by simp[k2]
    obtain⟨σ',ha,hs,Y⟩:=ku (c:=Fh) (s:=2) (bytes:=16) (fun _=>rfl) (fun _=>rfl) (by decide) (a1 (some ⟨Ac J,0,true⟩)) ((k:Int),-1) (by omega) (by decide);refine .inl ⟨_,by simp only[go_sem,S,E,G,f1,f2,f3,f4,f5,f6,f9,g1,g2,ha];rfl,?_⟩;simp only[go_sem,S,E];rw[sO k2,sQ (by omega),yJ];exact⟨rfl,kY hs (by simp[go_sem]) (by simp)⟩
   .by_cases k1:J.kind=1
    .have g1:(J.kind !=2)=true:=by simpa using k2
     have g2:(J.kind !=1)=false:=by simpa using k1
     obtain⟨σ',ha,hs,Y⟩:=ku (c:=Fh) (s:=2) (bytes:=16) (fun _=>rfl) (fun _=>rfl) (by decide) (a1 (some ⟨Ac J,0,true⟩)) ((k:Int),1) (by omega) (by decide);have a6:σ' nx=some ⟨Ac J,0,true⟩:=by
      rw[Y nx (by omega) (fun b o l h=>by have:=kZ hg h;omega),Zj]
     refine .inl ⟨_,by simp only[go_sem,S,E,G,f1,f2,f3,f4,f5,f6,f9,g1,g2,ha,a6];rfl,?_⟩;simp only[go_sem,S,E];rw[sQ k2,sO k1,zH];exact⟨rfl,kY hs (by simp[go_sem]) (by simp)⟩
    .have g1:(J.kind !=2)=true:=by simpa using k2
     have g2:(J.kind !=1)=true:=by simpa using k1
     obtain⟨σ',ha,hs,Y⟩:=ku (c:=Fh) (s:=2) (bytes:=16) (fun _=>rfl) (fun _=>rfl) (by decide) (a1 (some ⟨Ac J,0,true⟩)) ((k:Int),1) (by omega) (by decide);have a6:σ' nx=some ⟨Ac J,0,true⟩:=by
      rw[Y nx (by omega) (fun b o l h=>by have:=kZ hg h;omega),Zj]
     have a8:CG Fh 2 (upd T 3 (.rs (nx+1+1) 0 ((cols s k).length+1))) σ' (nx+1+1+1) 3 (cols s k++[((k:Int),1)]):=kY hs (by simp[go_sem]) (by simp);obtain⟨σ2,a7,b2,_⟩:=ku (c:=Fh) (s:=2) (bytes:=16) (fun _=>rfl) (fun _=>rfl) (by decide) a8 ((k:Int),-1) (by simp;omega) (by decide);rw[Zj]at a7;refine .inl ⟨_,by simp only[go_sem,S,E,G,f1,f2,f3,f4,f5,f6,f9,g1,g2,ha,a7,a6];rfl,?_⟩;simp only[go_sem,S,E];rw[sQ k2,sQ k1,<- yw];exact⟨rfl,kY b2 (by simp[go_sem]) (by simp)⟩) (by
   rintro ⟨T,σ,nx⟩ ⟨S,E,G,hg⟩;simp only at S E G hg;exact⟨_,by simp only[go_sem,E,G,zi];rfl,by simp,_,_,_,rfl,aiB (by simp only[go_sem]) hg⟩) (by
   simp only[go_sem];exact .inl ⟨by simp only[go_sem],rfl⟩)
 obtain⟨ids,hs⟩:=Lm (c:=Fh) (s:=2) (fun _=>rfl) 6 (fun x=>by rw[au,aQ,au,aQ,aY];rfl) h2;simp only[go_sem,hs]
theorem Qc{α:Type}{c:α->List V}{s:Nat}{T:Nat->V}{σ:Store}{nx t:Nat}{acc:List α}(hc:∀x,(c x).length=s)(E:∀x,(c x).all vI=true)(hs:0<s){bytes:Nat}(hg:CG c s T σ nx t acc)(xs:List α)(hx:xs≠[])(hl:acc.length+xs.length<100000)(hb:bytes<=1000) :
  ∃σ',Ah (upd σ nx (some ⟨xs.flatMap c,s,true⟩)) (nx+1) s bytes (T t) (xs.flatMap c) xs.length=some (.rs (nx+1) 0 (acc.length+xs.length),σ',nx+1+1)/\σ' (nx+1)=some ⟨(acc++xs).flatMap c,s,true⟩/\∀y,y<nx->(∀b o l,T t= .rs b o l->y≠b)->σ' y=σ y:=by
 have hm:acc.length+xs.length<=maxLen:=by unfold maxLen;omega
 have G:xs.length≠0:=fun e=>hx (zZ e)
 have hmul:(acc.length+xs.length)*bytes<=100000*1000:=xK (by omega) hb;have a1:xs.length*bytes<=100000*1000:=xK (by omega) hb;have J:(xs.flatMap c).all vI=true:=by
  rw[wV];intro v hv;obtain⟨x,-,h⟩:=List.mem_flatMap.mp hv;exact List.all_eq_true.mp (E x) v h
 rcases hg with ⟨S,rfl⟩|⟨b,S,O,Y,a6⟩
 .refine⟨_,by rw[S,r_,sQ G,sO ⟨by unfold maxLen;omega,by omega⟩];simp only[yY,yZ];rfl,?_⟩
  refine⟨by simp[Au,upd],fun y hy _=>?_⟩;unfold Au;rw[Zm,Zm]
 .have hlen:(acc.flatMap c).length=acc.length*s:=bZ hc acc
  have hp:0<xs.length*s:=Nat.mul_pos (by omega) hs;refine⟨upd (upd (upd σ nx (some ⟨xs.flatMap c,s,true⟩)) b none) (nx+1) (some ⟨acc.flatMap c++xs.flatMap c,s,true⟩),?_,?_,fun y hy O=>?_⟩
  .rw[S,qy,Zm,Y]
   simp only[zk];rw[sQ G,sQ (by rw[hlen,vZ];omega),sO ⟨by rw[hlen];omega,trivial,hm,by omega,J⟩];rfl
  .rw[Zj,zQ]
  .have:=O _ _ _ S
   rw[Zm,Zk _ _ this,Zm]
def eX(s:Structure)(j:Int)(k:Nat):Int:=if j=(mem s k).a then vx s k else if j=(mem s k).b then -vx s k else 0
def eY(s:Structure)(j:Int)(k:Nat):Int:=if j=(mem s k).a then vy s k else if j=(mem s k).b then -vy s k else 0
def EO(s:Structure)(j:Int):List (List Int):=[(List.range s.members.length).map (eX s j),(List.range s.members.length).map (eY s j)]
def C_(s:Structure)(n:Nat):List (List Int):=((free s).take n).flatMap (EO s)
abbrev cRw(r:List Int):List V:=[LI r]
abbrev cRf(n:Nat)(b:Nat):List V:=[.rs b 0 n]
def Kv(σ:Store)(nx t n:Nat)(T:Nat->V)(rb:List Nat)(R:List (List Int)):Prop :=
 CG (cRf n) 1 T σ nx t rb/\rb.length=R.length/\(∀j (h:j<rb.length) (E:j<R.length),σ rb[j]=some ⟨R[j].flatMap cI,1,true⟩)/\(∀r∈R,r.length=n)/\∀b∈rb,b<nx/\∀c o l,T t= .rs c o l->b≠c
theorem Ux{σ:Store}{nx t n:Nat}{T:Nat->V}{rb:List Nat}{R:List (List Int)}(h:Kv σ nx t n T rb R)(d:Nat):∃ids,strip σ (d+1+1) (T t)=some (LL cRw R,ids):=by
 obtain⟨Y,G,hr,hn,-⟩:=h;have key:∀ {rb:List Nat} {R:List (List Int)},rb.length=R.length->(∀j (h:j<rb.length) (J:j<R.length),σ rb[j]=some ⟨R[j].flatMap cI,1,true⟩)->(∀r∈R,r.length=n)->∃ids,stripL (strip σ (d+1)) (rb.flatMap (cRf n))=some (R.flatMap cRw,ids):=by
  intro rb
  induction rb with
  |nil=>intro R E _ _;cases R with
   |nil=>exact⟨[],rfl⟩
   |cons=>cases E
  |cons b rb ih=>intro R E O S;cases R with
   |nil=>cases E
   |cons r R=>
    obtain⟨ids,e⟩:=ih (R:=R) (by simpa using E) (fun j h J=>O (j+1) (by simpa using h) (by simpa using J)) (fun x hx=>S x (by simp[hx]));have e1:=kJ (O 0 (by simp) (by simp)) (S _ (by simp)) d;refine⟨b :: ids,?_⟩;rw[zG,zG,show cRf n b++rb.flatMap (cRf n)=V.rs b 0 n :: rb.flatMap (cRf n)from rfl,au,show strip σ (d+1) (V.rs b 0 n)=some (LI r,[b])from e1,e];rfl
 rcases Y with ⟨E,rfl⟩|⟨b,E,a1,hb,a6⟩
 .have:R=[]:=zZ (by simpa using G.symm)
  subst this;exact⟨[],by rw[E,aT];rfl⟩
 .obtain⟨ids,e⟩:=key G hr hn
  refine⟨b :: ids,?_⟩;rw[E,aS,hb];have hlen:=bZ (c:=cRf n) (s:=1) (fun _=>rfl) rb;simp only[zk,yZ,yg,hlen,zq,if_true];rw[zl (by omega),e];simp only[zJ];rw[G]
theorem Rj{σ σ':Store}{nx nx' t n:Nat}{T T':Nat->V}{rb:List Nat}{R:List (List Int)}(h:Kv σ nx t n T rb R)(E:T' t=T t)(hn:nx<=nx')(e:∀b,b<nx->σ' b=σ b):Kv σ' nx' t n T' rb R:=by
 obtain⟨J,O,S,G,hb⟩:=h;refine⟨?_,O,fun j h Y=>?_,G,fun b h=>?_⟩
 .rcases J with ⟨g1,g2⟩|⟨b,g1,g2,g3,g4⟩
  .exact .inl ⟨E.trans g1,g2⟩
  .exact .inr ⟨b,E.trans g1,g2,by rw[e b g4];exact g3,by omega⟩
 .rw[e _ (hb _ (zu h)).1];exact S j h Y
 .obtain⟨h1,h2⟩:=hb b h
  exact⟨by omega,fun c o l hc=>h2 c o l (E ▸ hc)⟩
theorem anF{s:Structure}(h:SG s)(j:Int)(k:Nat):-100<=eX s j k/\eX s j k<=100/\-100<=eY s j k/\eY s j k<=100:=by
 have:=Kt h k;unfold eX eY
 split
 .omega
 .split<;>omega
theorem aiD(z:V):rep 2 [z]=[z,z]:=rfl
theorem ama(x y a b:V):([x,y].set 0 a).set 1 b=[a,b]:=rfl
attribute [go_sem] aiD ama
theorem abp(s:Structure){i:Nat}(h:i<(free s).length):C_ s (i+1)=C_ s i++EO s (free s)[i]:=by
 unfold C_;rw[yL,zy h,zQ];simp
theorem aiE{R:List (List Int)}{j:Nat}(a b:List Int)(h:j<(R++[a,b]).length):(R++[a,b])[j]=if E:j<R.length then R[j]else if j=R.length then a else b:=by
 by_cases E:j<R.length
 .rw[yO E,dif_pos E]
 .rw[dif_neg E,wP (by omega)]
  rw[zo]at h;simp only[zV,yY]at h
  by_cases G:j=R.length
  .rw[sO G];simp[G]
  .rw[sQ G]
   have:j-R.length=1:=by omega
   simp[this]
theorem lg(s:Structure):(free s).length<=s.bI.length:=IX _ _
theorem Uy{s:Structure}(h:SG s):fn ZM conv ext 110 [.tp (jI s) 0]=some (LL cRw (C_ s (free s).length)):=by
 have b7:=h.nm;have b8:=lg s;have b9:=h.nj;have k1:=Ll h;obtain⟨nm,hm⟩:∃nm,nm=s.members.length:=⟨_,rfl⟩;rw[mJ,nC [.tmp 2] [] func110];simp only[go_sem,k1];generalize hL:iI _ _=y;obtain⟨r,rfl,T',σ',nx',rb,rfl,h2⟩:=oZ hL (free s).length (fun i st=>st.T 0= .tp (jI s) 0/\st.T 13=LI (free s)/\st.T 14=I (free s).length/\st.T 15=I i/\∃rb,Kv st.σ st.nx 3 nm st.T rb (C_ s i))
  (fun r=>∃T σ nx' rb,r=(.exit 0,⟨T,σ,nx'⟩)/\Kv σ nx' 3 nm T rb (C_ s (free s).length)) (by
   clear hL;rintro i ⟨T,σ,nx⟩ a7 ⟨h0,Y,FX,O,rb,hR⟩;simp only at h0 Y FX O hR;have f1:(i:Int)<((free s).length:Int):=by omega
   have f2:=jF i;have f3:=ZU (n:=(i:Int)+1);have f4:=idx (xs:=free s) (k:=i) a7;have f5:=Ba (free s) i a7;obtain⟨j,hj⟩:∃j,j=(free s)[i]:=⟨_,rfl⟩;rw[<- hj]at f4;have m1:(0:Int)<=(s.members.length:Int):=by omega
   have m2:8*(s.members.length:Int)<=281474976710656:=by omega
   have m3:(s.members.length:Int)<=9223372036854775807:=by omega
   refine bD ?_
   conv=>
    enter [1,r,1,1]
    simp only[go_sem,h0,Y,FX,O,f1,f2,f4,f5,m1,m2,m3]
   generalize hL:iI _ _=z
   obtain⟨x,rfl,S,E,G,rfl,t0,t6,t7,t13,t14,t15,hx,hy,a1,a6⟩:=oZ hL s.members.length (fun k st=>st.T 0= .tp (jI s) 0/\st.T 5=I j/\st.T 6= .rs nx 0 s.members.length/\st.T 7= .rs (nx+1) 0 s.members.length/\st.T 13=LI (free s)/\st.T 14=I (free s).length/\st.T 15=I i/\st.T 34=LL Ac s.members/\st.T 35=I s.members.length/\st.T 36=I k /\
     st.σ nx=some ⟨(pm (eX s j) (fun _=>0) k s.members.length).flatMap cI,1,true⟩/\st.σ (nx+1)=some ⟨(pm (eY s j) (fun _=>0) k s.members.length).flatMap cI,1,true⟩/\nx+1<st.nx/\st.T 3=T 3/\∀b,b<nx->st.σ b=σ b)
    (fun x=>∃S E G,x=(.exit 2,⟨S,E,G⟩)/\S 0= .tp (jI s) 0/\S 6= .rs nx 0 s.members.length/\S 7= .rs (nx+1) 0 s.members.length/\S 13=LI (free s)/\S 14=I (free s).length/\S 15=I i/\E nx=some ⟨(pm (eX s j) (fun _=>0) s.members.length s.members.length).flatMap cI,1,true⟩/\E (nx+1)=some ⟨(pm (eY s j) (fun _=>0) s.members.length s.members.length).flatMap cI,1,true⟩/\nx+1<G/\S 3=T 3/\∀b,b<nx->E b=σ b) (by
     clear hL;rintro k ⟨S,E,G⟩ hk ⟨t0,t5,t6,t7,t13,t14,t15,t34,t35,t36,hx,hy,a1,t3,hs⟩;simp only at t0 t5 t6 t7 t13 t14 t15 t34 t35 t36 hx hy a1 t3 hs;have g1:(k:Int)<(s.members.length:Int):=by omega
     have g2:=jF k;have g3:=ZU (n:=(k:Int)+1);have g4:=Tf s.members k hk;rw[jL hk]at g4;have g5:=IG s.members;have g6:k*3+3<=s.members.length*3:=by omega
     have g9:=Ti s.members k hk;have k2:=acT h hk;have hb:=Kt h k;have q1:((pm (eX s j) (fun _=>0) k s.members.length).flatMap cI).length=s.members.length:=by rw[qN,gq]
     have q2:((pm (eY s j) (fun _=>0) k s.members.length).flatMap cI).length=s.members.length:=by rw[qN,gq]
     have q3:=OD (eX s j) (fun _=>0) hk;have q4:=OD (eY s j) (fun _=>0) hk;have d1:¬nx=G:=by omega
     have d2:¬nx+1=G:=by omega
     have d3:¬nx+1=nx:=by omega
     have d4:¬nx=nx+1:=by omega
     have d5:¬G=nx:=by omega
     have d6:¬G=nx+1:=by omega
     have g7:k+1<=s.members.length:=hk;have w1:=ZU (n:=-vx s k);have w2:=ZU (n:=-vy s k);have w3:IntKind.i64.wrap (0-vx s k)= -vx s k:=by rw[ZU];omega
     have w4:IntKind.i64.wrap (0-vy s k)= -vy s k:=by rw[ZU];omega
     by_cases c1:j=(mem s k).a
     .have e1:(j==(mem s k).a)=true:=by simpa using c1
      have e2:((pm (eX s j) (fun _=>0) k s.members.length).flatMap cI).set k (I (vx s k))=(pm (eX s j) (fun _=>0) (k+1) s.members.length).flatMap cI:=by
       rw[qM,<- q3];unfold eX;rw[sO c1]
      have e3:((pm (eY s j) (fun _=>0) k s.members.length).flatMap cI).set k (I (vy s k))=(pm (eY s j) (fun _=>0) (k+1) s.members.length).flatMap cI:=by
       rw[qM,<- q4];unfold eY;rw[sO c1]
      refine .inl ⟨_,by simp only[go_sem,t0,t5,t6,t7,t13,t14,t15,t34,t35,t36,hx,hy,g1,g2,g3,g4,g5,g6,g7,g9,k2,q1,q2,hk,d1,d2,d3,d4,d5,d6,e1,e2,e3];rfl,?_⟩;simp only[go_sem,t0,t5,t6,t7,t13,t14,t15,t34,t35,d1,d2,d3,d4];exact⟨rfl,by omega,t3,fun b hb=>by rw[Zm,Zm,Zm];exact hs b hb⟩
     .have e1:(j==(mem s k).a)=false:=by simpa using c1
      by_cases c2:j=(mem s k).b
      .have e4:(j==(mem s k).b)=true:=by simpa using c2
       have e2:((pm (eX s j) (fun _=>0) k s.members.length).flatMap cI).set k (I (-vx s k))=(pm (eX s j) (fun _=>0) (k+1) s.members.length).flatMap cI:=by
        rw[qM,<- q3];unfold eX;rw[sQ c1,sO c2]
       have e3:((pm (eY s j) (fun _=>0) k s.members.length).flatMap cI).set k (I (-vy s k))=(pm (eY s j) (fun _=>0) (k+1) s.members.length).flatMap cI:=by
        rw[qM,<- q4];unfold eY;rw[sQ c1,sO c2]
       refine .inl ⟨_,by simp only[go_sem,t0,t5,t6,t7,t13,t14,t15,t34,t35,t36,hx,hy,g1,g2,g3,g4,g5,g6,g7,g9,k2,q1,q2,hk,d1,d2,d3,d4,d5,d6,e1,e4,e2,e3,w1,w2,w3,w4];rfl,?_⟩;simp only[go_sem,t0,t5,t6,t7,t13,t14,t15,t34,t35,d1,d2,d3,d4];exact⟨rfl,by omega,t3,fun b hb=>by rw[Zm,Zm,Zm];exact hs b hb⟩
      .have e4:(j==(mem s k).b)=false:=by simpa using c2
       have e2:=Ue (eX s j) (fun _=>0) (k:=k) (N:=s.members.length) (by unfold eX;rw[sQ c1,sQ c2]);have e3:=Ue (eY s j) (fun _=>0) (k:=k) (N:=s.members.length) (by unfold eY;rw[sQ c1,sQ c2]);refine .inl ⟨_,by simp only[go_sem,t0,t5,t6,t7,t13,t14,t15,t34,t35,t36,hx,hy,g1,g2,g3,g4,g5,g6,g7,g9,k2,q1,q2,hk,d1,d2,d3,d4,d5,d6,e1,e4];rfl,?_⟩;simp only[go_sem,t0,t5,t6,t7,t13,t14,t15,t34,t35,d1,d2,d3,d4];refine⟨rfl,by rw[hx,e2],by rw[hy,e3],by omega,t3,fun b hb=>by rw[Zm];exact hs b hb⟩) (by
     rintro ⟨S,E,G⟩ ⟨t0,t5,t6,t7,t13,t14,t15,t34,t35,t36,hx,hy,a1,t3,hs⟩;simp only at t0 t5 t6 t7 t13 t14 t15 t34 t35 t36 hx hy a1 t3 hs;have g1:¬(s.members.length:Int)<(s.members.length:Int):=by omega
     refine⟨_,by simp only[go_sem,t35,t36,g1];rfl,by simp,_,_,_,rfl,?_⟩;simp only[go_sem,t0,t6,t7,t13,t14,t15];exact⟨hx,hy,a1,t3,hs⟩) (by
     simp only[go_sem,h0,Y,FX,O];rw[Jd,Jd,gJ,<- fU,Zm,Zj];exact⟨rfl,rfl,by omega,fun b hb=>by rw[Zm,Zm]⟩)
   rw[Uf]at hx hy;have b2:=a6.1;have a6:Kv E G 3 nm S rb (C_ s i):=Rj hR a6.1 (by omega) a6.2;obtain⟨hg,hl,hr,b3,a8⟩:=a6;have c0:rb.length<=2*i:=by
    rw[hl];unfold C_;have:=List.length_take_le i (free s);have e:∀l:List Int,(l.flatMap (EO s)).length=2*l.length:=fun l=>by
     induction l with
     |nil=>rfl
     |cons a l ih=>rw[zG,zo,ih,zV];simp only[EO,zV,yY];omega
    rw[e];omega
   obtain⟨σ2,ha,b4,b5⟩:=Qc (c:=cRf nm) (s:=1) (bytes:=24) (fun _=>rfl) (fun _=>rfl) (by decide) hg [nx,nx+1] (by simp) (by simp only[zV,yY];omega) (by decide);have ha:Ah (upd E G (some ⟨[V.rs nx 0 s.members.length,V.rs (nx+1) 0 s.members.length],1,true⟩)) (G+1) 1 24 (S 3) [V.rs nx 0 s.members.length,V.rs (nx+1) 0 s.members.length] 2=some (.rs (G+1) 0 (rb.length+2),σ2,G+1+1):=by rw[<- hm];exact ha
   refine⟨_,by simp only[go_sem,t0,t6,t7,t13,t14,t15,f3,ha];rfl,.inl ⟨_,rfl,?_⟩⟩;simp only[go_sem,t0,t13,t14];have J:∀b,b<G->(b∈rb\/b=nx\/b=nx+1)->σ2 b=E b:=fun b hb hc=>by
    refine b5 b hb fun c o l h=>?_
    rcases hc with hc|hc|hc
    .exact(a8 b hc).2 c o l h
    .have:=kZ hR.1 (b2 ▸ h);omega
    .have:=kZ hR.1 (b2 ▸ h);omega
   refine⟨rfl,rb++[nx,nx+1],?_⟩;rw[abp s a7,<- hj];refine⟨.inr ⟨G+1,by simp[go_sem],by simp,b4,by omega⟩,by simp[hl,EO],fun q h1 h2=>?_,fun r b6=>?_,fun b hb=>?_⟩
   .have hq:(C_ s i++EO s j)[q]=if h1:q<(C_ s i).length then(C_ s i)[q]else if q=(C_ s i).length then(List.range s.members.length).map (eX s j)else(List.range s.members.length).map (eY s j):=aiE _ _ h2
    rw[hq]
    by_cases c1:q<rb.length
    .rw[dif_pos (by omega),yO c1,J _ (a8 _ (zu c1)).1 (.inl (zu c1))]
     exact hr q c1 (by omega)
    .rw[dif_neg (by omega),wP (by omega)]
     rw[zo]at h1;simp only[zV,yY]at h1
     by_cases c2:q=(C_ s i).length
     .rw[sO c2]
      have:q-rb.length=0:=by omega
      simp only[this,uT];rw[J nx (by omega) (.inr (.inl rfl))];exact hx
     .rw[sQ c2]
      have:q-rb.length=1:=by omega
      simp only[this,List.getElem_cons_succ,uT];rw[J (nx+1) (by omega) (.inr (.inr rfl))];exact hy
   .rcases List.mem_append.mp b6 with h|h
    .exact b3 r h
    .simp only[EO,zX,zK,or_false]at h
     rcases h with h|h<;>rw[h]<;>simp[hm]
   .have c3:b<G:=by
     rcases List.mem_append.mp hb with h|h
     .exact(a8 b h).1
     .simp only[zX,zK,or_false]at h;omega
    refine⟨by omega,fun c o l h=>?_⟩;simp only[go_sem,V.rs.injEq]at h;omega) (by
   rintro ⟨T,σ,nx⟩ ⟨h0,Y,FX,O,rb,hR⟩;simp only at h0 Y FX O hR;exact⟨_,by simp only[go_sem,FX,O,zi];rfl,by simp,_,_,_,rb,rfl,Rj hR (by simp only[go_sem]) (zq _) fun _ _=>rfl⟩) (by
   simp only[go_sem];refine⟨[],.inl ⟨by simp only[go_sem],rfl⟩,by simp[C_],?_,?_,?_⟩
   .intro j h;cases h
   .intro r hr;simp[C_]at hr
   .intro b hb;cases hb)
 obtain⟨ids,hs⟩:=Ux h2 5;simp only[go_sem,hs]
def Fj(X:List Int)(k:Nat):List Int:=X.take k++List.replicate (X.length-k) 0
theorem OQ(X:List Int){k:Nat}(h:k<=X.length):(Fj X k).length=X.length:=by unfold Fj;rw[zo,zh,yU];omega
theorem Rk(X:List Int):Fj X 0=List.replicate X.length 0:=by simp[Fj]
theorem Rl(X:List Int):Fj X X.length=X:=by simp[Fj]
theorem OT(X:List Int){k:Nat}(h:k<X.length):(Fj X k).set k X[k]=Fj X (k+1):=by
 unfold Fj;have E:(X.take k).length=k:=by rw[zh];omega
 rw[xO _ _ (by omega),E,yM,show X.length-k=X.length - (k+1)+1 by omega,xu,vC,aJ h,yw];rfl
def Vf(s:Structure):List Int:=(C_ s (free s).length).flatMap fun r=>(cols s s.members.length).map fun p=>p.2*r.getD p.1.toNat 0
def Ls(s:Structure)(l:List Int):List Int:=(free s).flatMap fun j=>[-l.getD (2*j.toNat) 0,-l.getD (2*j.toNat+1) 0]
theorem OU{α:Type}(f:α->List Int){C:Nat}(E:∀x,(f x).length=C):∀xs:List α,(xs.flatMap f).length=xs.length*C
 |[]=>by simp
 |x :: xs=>by rw[zG,zo,OU f E xs,E,zV,xq];omega
theorem mO{α:Type}(f:α->List Int){C:Nat}(E:∀x,(f x).length=C):∀(xs:List α) {i c:Nat} (hi:i<xs.length) (hc:c<C),(xs.flatMap f)[i*C+c]?=(f xs[i])[c]?
 |x :: xs,0,c,_,hc=>by rw[zG,vM,yZ,zU (by rw[E];exact hc)];rfl
 |x :: xs,i+1,c,hi,hc=>by
  rw[zG,zN (by rw[E,xq];omega),E,show(i+1)*C+c-C=i*C+c by rw[xq];omega,mO f E xs (by simpa using hi) hc];rfl
theorem Kw(s:Structure):(C_ s (free s).length).length=2*(free s).length:=by
 unfold C_;rw[yT]
 induction free s with
 |nil=>rfl
 |cons a l E=>rw[zG,zo,E,zV];simp only[EO,zV,yY];omega
theorem Rn{s:Structure}{r:List Int}(h:r∈C_ s (free s).length):r.length=s.members.length:=by
 unfold C_ at h;obtain⟨j,-,h⟩:=List.mem_flatMap.mp h;simp only[EO,zX,zK,or_false]at h;rcases h with h|h<;>rw[h]<;>simp
theorem XU{s:Structure}(hs:SG s){r:List Int}(h:r∈C_ s (free s).length):∀x∈r,-100<=x/\x<=100:=by
 unfold C_ at h;obtain⟨j,-,h⟩:=List.mem_flatMap.mp h;simp only[EO,zX,zK,or_false]at h;intro x E;rcases h with h|h<;>rw[h]at E<;>obtain⟨k,-,rfl⟩:=List.mem_map.mp E
 .have:=anF hs j k;omega
 .have:=anF hs j k;omega
theorem ou{s:Structure}:∀ {n:Nat} {p:Int×Int},p∈cols s n->(∃k:Nat,p.1=(k:Int)/\k<n)/\(p.2=1\/p.2= -1):=fun {n p} h=>by
 unfold cols at h;obtain⟨k,G,h⟩:=List.mem_flatMap.mp h;have E:=List.mem_range.mp G;unfold FV at h;rcases List.mem_append.mp h with h|h
 .split at h
  .cases h
  .rw[List.mem_singleton.mp h];exact⟨⟨k,rfl,E⟩,.inl rfl⟩
 .split at h
  .cases h
  .rw[List.mem_singleton.mp h];exact⟨⟨k,rfl,E⟩,.inr rfl⟩
theorem MS(s:Structure):(Vf s).length=2*(free s).length*(cols s s.members.length).length:=by
 unfold Vf;rw[OU _ (fun _=>zT _),Kw]
theorem Uz(s:Structure)(l:List Int):(Ls s l).length=2*(free s).length:=by
 unfold Ls;rw[OU _ (C:=2) (fun _=>rfl)];omega
def MV(s:Structure):Nat:=2*(free s).length
def DZ(s:Structure):Nat:=(cols s s.members.length).length
theorem Qd{s:Structure}(h:SG s){l:List Int}(hl:l.length=2*s.bI.length)(hb:∀x∈l,-100<=x/\x<=100):fn ZM conv ext 73 [.tp (jI s) 0,LI l,I 0,I 0]=some (.agg (C9 (MV s) (DZ s) (Vf s) (Ls s l) (List.replicate (DZ s) 0))):=by
 have i7:=h.nm;have i9:=lg s;have j0:=h.nj;have j1:=oz s s.members.length;have k1:=Uy h;have k2:=OO h;have k3:=Ll h;have h4:=Kw s;obtain⟨E,hE⟩:∃E,E=C_ s (free s).length:=⟨_,rfl⟩;obtain⟨K,hK⟩:∃K,K=cols s s.members.length:=⟨_,rfl⟩;have hR:E.length=MV s:=by rw[hE];exact h4
 have hC:K.length=DZ s:=by rw[hK];rfl
 have e4:MV s<=12:=by unfold MV;omega
 have e5:DZ s<=16:=by rw[<- hC,hK];omega
 have b3:(Vf s).length=MV s*DZ s:=MS s;have e6:MV s*DZ s<=12*16:=xK e4 e5;rw[<- hE]at k1;rw[<- hK]at k2;have k1:fn ZM conv ext 110 [.tp (jI s) 0]=some (.ts (E.flatMap cRw) (MV s)):=by rw[<- hR];exact k1
 have k2:fn ZM conv ext 108 [.tp (jI s) 0]=some (.ts (K.flatMap Fh) (DZ s)):=by rw[<- hC];exact k2
 obtain⟨R,eR⟩:∃R,R=MV s:=⟨_,rfl⟩;obtain⟨C,eC⟩:∃C,C=DZ s:=⟨_,rfl⟩;rw[<- eR]at k1 hR e4 b3 e6⊢;rw[<- eC]at k2 hC e5 b3 e6⊢;have f1:=ZU (n:=(R:Int));have f2:=ZU (n:=(C:Int));have e3:(R:Int)*(C:Int)=((R*C:Nat):Int):=by push_cast;rfl
 have f3:=ZU (n:=((R*C:Nat):Int));have f4:(0:Int)<=((R*C:Nat):Int):=by omega
 have f5:8*((R*C:Nat):Int)<=281474976710656:=by omega
 have f6:((R*C:Nat):Int)<=9223372036854775807:=by omega
 have f7:=jF R;have f8:8*(R:Int)<=281474976710656:=by omega
 have f9:(R:Int)<=9223372036854775807:=by omega
 have f10:=jF C;have f11:8*(C:Int)<=281474976710656:=by omega
 have f12:(C:Int)<=9223372036854775807:=by omega
 have f13:(R:Int)+0=R:=by omega
 have f14:(C:Int)+0=C:=by omega
 rw[mJ,nC [.cell 8 128] [3,10,16] func73];unfold C9;simp only[go_sem,k1,k2,f1,f2,e3,f3,f4,f5,f6,f7,f8,f9,f10,f11,f12,f13,f14];generalize hL:iI _ _=y;have j2:=b3;obtain⟨FA,e7⟩:∃FA,FA=Vf s:=⟨_,rfl⟩;have h5:∀i c (hi:i<R) (hc:c<C) (hq:i*C+c<FA.length),FA[i*C+c]=(K[c]'(by omega)).2*(E[i]'(by omega)).getD (K[c]'(by omega)).1.toNat 0:=fun i c hi hc hq=>by
  have:=mO (fun r:List Int=>K.map fun p=>p.2*r.getD p.1.toNat 0) (C:=C) (fun _=>by rw[zT];exact hC) E (i:=i) (c:=c) (by omega) hc;rw[yc,zy (l:=K) (i:=c) (by omega)]at this;have e2:FA=E.flatMap fun r=>K.map fun p=>p.2*r.getD p.1.toNat 0:=by rw[e7,hE,hK];rfl
  rw[<- e2,zy hq]at this;exact Option.some.inj this
 rw[<- e7]at b3⊢
 obtain⟨x,rfl,T1,b4,qI,rfl,t0,t1,t8,t11,h6,s0,J,S,Y,s4⟩:=oZ hL R (fun i st=>st.T 0= .tp (jI s) 0/\st.T 1=LI l/\st.T 8= .rp 0 0/\st.T 11= .rp 1 0/\st.T 10= .ts (K.flatMap Fh) C/\st.T 46= .ts (E.flatMap cRw) R/\st.T 47=I R/\st.T 48=I i/\4<st.nx /\
   st.σ 0=some ⟨[I 0,I 0,.nil,.nil,.nil],0,true⟩/\st.σ 1=some ⟨[I R,I C,.rs 2 0 (R*C),.rs 3 0 R,.rs 4 0 C],0,true⟩/\st.σ 2=some ⟨(Fj FA (i*C)).flatMap cI,1,true⟩/\st.σ 3=some ⟨(List.replicate R 0).flatMap cI,1,true⟩/\st.σ 4=some ⟨(List.replicate C 0).flatMap cI,1,true⟩)
  (fun x=>∃T1 b4 qI,x=(.exit 0,⟨T1,b4,qI⟩)/\T1 0= .tp (jI s) 0/\T1 1=LI l/\T1 8= .rp 0 0/\T1 11= .rp 1 0/\4<qI/\b4 0=some ⟨[I 0,I 0,.nil,.nil,.nil],0,true⟩/\b4 1=some ⟨[I R,I C,.rs 2 0 (R*C),.rs 3 0 R,.rs 4 0 C],0,true⟩/\b4 2=some ⟨FA.flatMap cI,1,true⟩/\b4 3=some ⟨(List.replicate R 0).flatMap cI,1,true⟩/\b4 4=some ⟨(List.replicate C 0).flatMap cI,1,true⟩) (by
   clear hL;rintro i ⟨T,σ,nx⟩ hi ⟨t0,t1,t8,t11,t10,t46,t47,t48,G,s0,J,S,Y,s4⟩;simp only at t0 t1 t8 t11 t10 t46 t47 t48 G s0 J S Y s4;have g1:(i:Int)<(R:Int):=by omega
   have g2:=jF i;have g3:=ZU (n:=(i:Int)+1);have g4:(E.flatMap cRw)[i]?=some (LI (E[i]'(by omega))):=cu (fun r=>LI r) E i (by omega);have g5:=bg (c:=cRw) (s:=1) (fun _=>rfl) (by omega) E i (by omega);have g6:(E.flatMap cRw).length=R:=by rw[bZ (c:=cRw) (s:=1) (fun _=>rfl),hR,yN]
   have e9:(E[i]'(by omega)).length=s.members.length:=by subst hE;exact Rn (zu _)
   have h0:∀x∈(E[i]'(by omega)),-100<=x/\x<=100:=by subst hE;exact XU h (zu _)
   obtain⟨r,er⟩:∃r,r=E[i]'(by omega):=⟨_,rfl⟩;have h7:=h5 i;rw[<- er]at g4 e9 h0;refine bD ?_
   conv=>
    enter [1,q,1,1]
    simp only[go_sem,t0,t1,t8,t11,t10,t46,t47,t48,g1,g2,g4,g5,g6]
   generalize hL:iI _ _=z;have h8:(i+1)*C<=R*C:=zD _ hi;rw[xq]at h8
   obtain⟨x,rfl,T2,σ2,CU,rfl,t0,t1,t8,t11,t10,t46,t47,t48,G,s0,J,S,Y,s4⟩:=oZ hL C (fun c st=>st.T 0= .tp (jI s) 0/\st.T 1=LI l/\st.T 8= .rp 0 0/\st.T 11= .rp 1 0/\st.T 10= .ts (K.flatMap Fh) C/\st.T 46= .ts (E.flatMap cRw) R/\st.T 47=I R/\st.T 48=I i/\st.T 12=I i/\st.T 13=LI r/\st.T 53= .ts (K.flatMap Fh) C/\st.T 54=I C/\st.T 55=I c/\4<st.nx /\
     st.σ 0=some ⟨[I 0,I 0,.nil,.nil,.nil],0,true⟩/\st.σ 1=some ⟨[I R,I C,.rs 2 0 (R*C),.rs 3 0 R,.rs 4 0 C],0,true⟩/\st.σ 2=some ⟨(Fj FA (i*C+c)).flatMap cI,1,true⟩/\st.σ 3=some ⟨(List.replicate R 0).flatMap cI,1,true⟩/\st.σ 4=some ⟨(List.replicate C 0).flatMap cI,1,true⟩)
    (fun x=>∃T2 σ2 CU,x=(.exit 2,⟨T2,σ2,CU⟩)/\T2 0= .tp (jI s) 0/\T2 1=LI l/\T2 8= .rp 0 0/\T2 11= .rp 1 0/\T2 10= .ts (K.flatMap Fh) C/\T2 46= .ts (E.flatMap cRw) R/\T2 47=I R/\T2 48=I i/\4<CU /\
     σ2 0=some ⟨[I 0,I 0,.nil,.nil,.nil],0,true⟩/\σ2 1=some ⟨[I R,I C,.rs 2 0 (R*C),.rs 3 0 R,.rs 4 0 C],0,true⟩/\σ2 2=some ⟨(Fj FA (i*C+C)).flatMap cI,1,true⟩/\σ2 3=some ⟨(List.replicate R 0).flatMap cI,1,true⟩/\σ2 4=some ⟨(List.replicate C 0).flatMap cI,1,true⟩) (by
     clear hL;rintro c ⟨T2,σ2,CU⟩ hc ⟨t0,t1,t8,t11,t10,t46,t47,t48,t12,t13,t53,t54,t55,G,s0,J,S,Y,s4⟩;simp only at t0 t1 t8 t11 t10 t46 t47 t48 t12 t13 t53 t54 t55 G s0 J S Y s4;have a1:(c:Int)<(C:Int):=by omega
     have a2:=jF c;have a3:=ZU (n:=(c:Int)+1);have b8:c<K.length:=by omega
     have a4:=d_ (c:=Fh) (s:=2) (fun _=>rfl) K c b8;have a5:=bg (c:=Fh) (s:=2) (fun _=>rfl) (by omega) K c b8;have a6:(K.flatMap Fh).length=C*2:=by rw[bZ (c:=Fh) (s:=2) (fun _=>rfl),hC]
     have a7:c*2+2<=C*2:=by omega
     have b6:K[c]∈cols s s.members.length:=by rw[<- hK];exact zu b8
     obtain⟨⟨k,hk,j3⟩,c0⟩:=ou b6;have hq:i*C+c<FA.length:=by omega
     have b2:=h7 c hi hc hq;rw[<- er]at b2;obtain⟨kp,h9⟩:∃kp,kp=K[c]:=⟨_,rfl⟩;rw[<- h9]at a4 hk c0 b2;obtain⟨j4,b7⟩:=kp;simp only at hk c0 b2 a4;subst hk;rw[zF]at b2;have a8:=idx (xs:=r) (k:=k) (by omega);have e8:r[k]'(by omega)=r.getD k 0:=by rw[zx,zy (by omega)];rfl
     have i0:=h0 _ (zu (l:=r) (n:=k) (by omega));rw[e8]at a8 i0;have a9:=Ba r k (by omega);have c2:(k:Int)<(r.length:Int):=by omega
     have c3:=jF k;have j5:-100<=b7*r.getD k 0/\b7*r.getD k 0<=100:=by rcases c0 with e|e<;>rw[e]<;>omega
     have a12:=ZU (n:=b7*r.getD k 0);have c4:(i:Int)*(C:Int)=((i*C:Nat):Int):=by push_cast;rfl
     have c5:=ZU (n:=((i*C:Nat):Int));have c6:((i*C:Nat):Int)+(c:Int)=((i*C+c:Nat):Int):=by omega
     have c7:=ZU (n:=((i*C+c:Nat):Int));have c8:((i*C+c:Nat):Int)<((R*C:Nat):Int):=by omega
     have c9:(0:Int)<=((i*C+c:Nat):Int):=by omega
     have e0:i*C+c<R*C:=by omega
     have a20:i*C+c+1<=R*C:=by omega
     have a21:((Fj FA (i*C+c)).flatMap cI).length=R*C:=by rw[qN,OQ _ (by omega),b3]
     have i1:((Fj FA (i*C+c)).flatMap cI).set (i*C+c) (I (b7*r.getD k 0))=(Fj FA (i*C+c+1)).flatMap cI:=by
      rw[qM,<- OT FA hq,b2]
     have i2:(r.flatMap cI).length=r.length:=qN r;have d0:¬0=CU:=by omega
     have d1:¬1=CU:=by omega
     have d2:¬2=CU:=by omega
     have d3:¬3=CU:=by omega
     have d4:¬4=CU:=by omega
     have d5:¬CU=2:=by omega
     have d6:1<CU+1:=by omega
     have d7:2<CU+1:=by omega
     have d8:CU<CU+1:=by omega
     have d9:¬CU=1:=by omega
     refine .inl ⟨_,by simp only[go_sem,t0,t1,t8,t11,t10,t46,t47,t48,t12,t13,t53,t54,t55,J,S,a1,a2,a3,a4,a5,a6,a7,a8,a9,c2,c3,a12,c4,c5,c6,c7,c8,c9,e0,a20,a21,i1,i2,d0,d1,d2,d3,d4,d5,d6,d7,d8,d9];rfl,?_⟩;simp only[go_sem,t0,t1,t8,t11,t10,t46,t47,t48,t12,t13,t53,t54];refine⟨rfl,by omega,?_,?_,rfl,?_,?_⟩
     .rw[Zk _ _ d0];exact s0
     .rw[Zk _ _ d1];exact J
     .rw[Zk _ _ d3];exact Y
     .rw[Zk _ _ d4];exact s4) (by
     rintro ⟨T2,σ2,CU⟩ ⟨t0,t1,t8,t11,t10,t46,t47,t48,t12,t13,t53,t54,t55,G,s0,J,S,Y,s4⟩;simp only at t0 t1 t8 t11 t10 t46 t47 t48 t12 t13 t53 t54 t55 G s0 J S Y s4;have a1:¬(C:Int)<(C:Int):=by omega
     refine⟨_,by simp only[go_sem,t54,t55,a1];rfl,by simp,_,_,_,rfl,?_⟩;simp only[go_sem,t0,t1,t8,t11,t10,t46,t47,t48];exact⟨G,s0,J,S,Y,s4⟩) (by
     simp only[go_sem,t0,t1,t8,t11,t10,t46,t47,t48];exact⟨G,s0,J,S,Y,s4⟩)
   refine⟨_,by simp only[go_sem,t0,t1,t8,t11,t10,t46,t47,t48,g3];rfl,.inl ⟨_,rfl,?_⟩⟩;simp only[go_sem,t0,t1,t8,t11,t10,t46,t47];refine⟨rfl,G,s0,J,?_,Y,s4⟩;rw[xq];exact S) (by
   rintro ⟨T,σ,nx⟩ ⟨t0,t1,t8,t11,t10,t46,t47,t48,G,s0,J,S,Y,s4⟩;simp only at t0 t1 t8 t11 t10 t46 t47 t48 G s0 J S Y s4;have g1:¬(R:Int)<(R:Int):=by omega
   refine⟨_,by simp only[go_sem,t47,t48,g1];rfl,by simp,_,_,_,rfl,?_⟩;simp only[go_sem,t0,t1,t8,t11];rw[<- b3,Rl]at S;exact⟨G,s0,J,S,Y,s4⟩) (by
   simp only[go_sem,Rk,b3,<- fU])
 clear hL;simp only[go_sem,t0,k3];generalize hL:iI _ _=y;obtain⟨F,eF⟩:∃F,F=free s:=⟨_,rfl⟩;have i3:R=2*F.length:=by rw[eR,eF];rfl
 have e1:=Uz s l;obtain⟨O,h1⟩:∃O,O=Ls s l:=⟨_,rfl⟩;rw[<- h1]at e1⊢;rw[<- eF]at e1;have i4:∀i (hi:i<F.length),∃j:Nat,F[i]=(j:Int)/\j<s.bI.length/\O[2*i]'(by omega)= -l.getD (2*j) 0/\O[2*i+1]'(by omega)= -l.getD (2*j+1) 0:=fun i hi=>by
  have b6:F[i]∈F5 (Du s) s.bI.length:=by subst eF;exact zu hi
  unfold F5 at b6;obtain⟨j,hj,e⟩:=List.mem_map.mp b6;have i5:=List.mem_range.mp (List.mem_filter.mp hj).1;have e2:O=F.flatMap fun j=>[-l.getD (2*j.toNat) 0,-l.getD (2*j.toNat+1) 0]:=by rw[h1,eF];rfl
  have g0:=mO (fun j:Int=>[-l.getD (2*j.toNat) 0,-l.getD (2*j.toNat+1) 0]) (C:=2) (fun _=>rfl) F (i:=i) (c:=0) hi (by decide);have g1:=mO (fun j:Int=>[-l.getD (2*j.toNat) 0,-l.getD (2*j.toNat+1) 0]) (C:=2) (fun _=>rfl) F (i:=i) (c:=1) hi (by decide);rw[<- e2,<- e,zF]at g0 g1;refine⟨j,e.symm,i5,?_,?_⟩
  .rw[show i*2+0=2*i by omega,zy (by omega)]at g0
   exact Option.some.inj g0
  .rw[show i*2+1=2*i+1 by omega,zy (by omega)]at g1
   exact Option.some.inj g1
 have j6:F.length<=6:=by rw[eF];omega
 obtain⟨x,rfl,T3,b5,AA,rfl,t8,t11,s0,J,S,Y,s4⟩:=oZ hL F.length (fun i st=>st.T 1=LI l/\st.T 8= .rp 0 0/\st.T 11= .rp 1 0/\st.T 80=LI F/\st.T 81=I F.length/\st.T 82=I i/\4<st.nx /\
   st.σ 0=some ⟨[I 0,I 0,.nil,.nil,.nil],0,true⟩/\st.σ 1=some ⟨[I R,I C,.rs 2 0 (R*C),.rs 3 0 R,.rs 4 0 C],0,true⟩/\st.σ 2=some ⟨FA.flatMap cI,1,true⟩/\st.σ 3=some ⟨(Fj O (2*i)).flatMap cI,1,true⟩/\st.σ 4=some ⟨(List.replicate C 0).flatMap cI,1,true⟩)
  (fun x=>∃T3 b5 AA,x=(.exit 4,⟨T3,b5,AA⟩)/\T3 8= .rp 0 0/\T3 11= .rp 1 0/\b5 0=some ⟨[I 0,I 0,.nil,.nil,.nil],0,true⟩/\b5 1=some ⟨[I R,I C,.rs 2 0 (R*C),.rs 3 0 R,.rs 4 0 C],0,true⟩/\b5 2=some ⟨FA.flatMap cI,1,true⟩/\b5 3=some ⟨O.flatMap cI,1,true⟩/\b5 4=some ⟨(List.replicate C 0).flatMap cI,1,true⟩) (by
   clear hL;rintro i ⟨T,σ,nx⟩ hi ⟨t1,t8,t11,t80,t81,t82,G,s0,J,S,Y,s4⟩;simp only at t1 t8 t11 t80 t81 t82 G s0 J S Y s4;obtain⟨j,hj,j7,hx,hy⟩:=i4 i hi;have g1:(i:Int)<(F.length:Int):=by omega
   have g2:=jF i;have g3:=ZU (n:=(i:Int)+1);have g4:=idx (xs:=F) (k:=i) hi;rw[hj]at g4;have g5:=Ba F i hi;have a1:(2:Int)*(i:Int)=((2*i:Nat):Int):=by push_cast;rfl
   have a2:=ZU (n:=((2*i:Nat):Int));have a3:((2*i:Nat):Int)+1=((2*i+1:Nat):Int):=by omega
   have a4:=ZU (n:=((2*i+1:Nat):Int));have a5:(2:Int)*(j:Int)=((2*j:Nat):Int):=by push_cast;rfl
   have a6:=ZU (n:=((2*j:Nat):Int));have a7:((2*j:Nat):Int)+1=((2*j+1:Nat):Int):=by omega
   have a8:=ZU (n:=((2*j+1:Nat):Int));have h2:∀q (h:q<l.length),(l.flatMap cI)[q]?=some (I (l.getD q 0)):=fun q h=>by
    rw[idx h,zx,zy h];rfl
   have h3:∀q (h:q<l.length),-100<=l.getD q 0/\l.getD q 0<=100:=fun q h=>by
    rw[zx,zy h];exact hb _ (zu h)
   have a9:=h2 (2*j) (by omega);have c2:=h2 (2*j+1) (by omega);have b9:=h3 (2*j) (by omega);have j8:=h3 (2*j+1) (by omega);have c3:=Ba l (2*j) (by omega);have a12:((2*j:Nat):Int)<(l.length:Int):=by omega
   have c4:((2*j+1:Nat):Int)<(l.length:Int):=by omega
   have c5:(0:Int)<=((2*j:Nat):Int):=by omega
   have c6:(0:Int)<=((2*j+1:Nat):Int):=by omega
   have c7:((2*i:Nat):Int)<(R:Int):=by omega
   have c8:((2*i+1:Nat):Int)<(R:Int):=by omega
   have c9:(0:Int)<=((2*i:Nat):Int):=by omega
   have e0:(0:Int)<=((2*i+1:Nat):Int):=by omega
   have w1:=ZU (n:=-l.getD (2*j) 0);have w2:=ZU (n:=-l.getD (2*j+1) 0);have w3:IntKind.i64.wrap (0-l.getD (2*j) 0)= -l.getD (2*j) 0:=by rw[ZU];omega
   have w4:IntKind.i64.wrap (0-l.getD (2*j+1) 0)= -l.getD (2*j+1) 0:=by rw[ZU];omega
   have p1:((Fj O (2*i)).flatMap cI).length=R:=by rw[qN,OQ _ (by omega)];omega
   have p2:((Fj O (2*i+1)).flatMap cI).length=R:=by rw[qN,OQ _ (by omega)];omega
   have p3:((Fj O (2*i)).flatMap cI).set (2*i) (I (-l.getD (2*j) 0))=(Fj O (2*i+1)).flatMap cI:=by
    rw[qM,<- OT O (k:=2*i) (by omega),hx]
   have p4:((Fj O (2*i+1)).flatMap cI).set (2*i+1) (I (-l.getD (2*j+1) 0))=(Fj O (2*i+1+1)).flatMap cI:=by
    rw[qM,<- OT O (k:=2*i+1) (by omega),hy]
   have p5:2*i<R:=by omega
   have p6:2*i+1<R:=by omega
   have p7:2*i+1<=R:=by omega
   have p8:2*i+1+1<=R:=by omega
   have p9:3<nx:=by omega
   have i6:1<nx:=by omega
   refine .inl ⟨_,by simp only[go_sem,t1,t8,t11,t80,t81,t82,J,Y,g1,g2,g3,g4,g5,a1,a2,a3,a4,a5,a6,a7,a8,a9,c2,c3,a12,c4,c5,c6,c7,c8,c9,e0,w1,w2,w3,w4,p1,p2,p3,p4,p5,p6,p7,p8,p9,i6];rfl,?_⟩;simp only[go_sem,t1,t8,t11,t80,t81];exact⟨rfl,G,s0,J,S,by rw[show 2*(i+1)=2*i+1+1 by omega],s4⟩) (by
   rintro ⟨T,σ,nx⟩ ⟨t1,t8,t11,t80,t81,t82,G,s0,J,S,Y,s4⟩;simp only at t1 t8 t11 t80 t81 t82 G s0 J S Y s4;have g1:¬(F.length:Int)<(F.length:Int):=by omega
   refine⟨_,by simp only[go_sem,t81,t82,g1];rfl,by simp,_,_,_,rfl,?_⟩;simp only[go_sem,t8,t11];have:Fj O (2*F.length)=O:=by rw[show 2*F.length=O.length by omega,Rl]
   rw[this]at Y;exact⟨s0,J,S,Y,s4⟩) (by
   simp only[go_sem,t1,t8,t11,Nat.mul_zero,Rk,<- eF];rw[e1,<- i3];exact⟨h6,s0,J,S,Y,s4⟩)
 clear hL;have u1:R*C<=FA.length:=by omega
 have u2:R<=O.length:=by omega
 have u3:C<=(List.replicate C (0:Int)).length:=by simp
 have v1:(FA.flatMap cI).take (R*C)=FA.flatMap cI:=zl (by rw[qN];omega);have v2:(O.flatMap cI).take R=O.flatMap cI:=zl (by rw[qN];omega);have v3:((List.replicate C (0:Int)).flatMap cI).take C=(List.replicate C (0:Int)).flatMap cI:=zl (by rw[qN];simp);simp only[go_sem,t8,t11,s0,J,S,Y,s4,u1,u2,u3,v1,v2,v3];have w1:FA.length=R*C:=by omega
 have w2:O.length=R:=by omega
 have w3:(List.replicate C (0:Int)).length=C:=by simp
 show some (V.agg [I R,I C,V.ts (FA.flatMap cI) (R*C),V.ts (O.flatMap cI) R,V.ts ((List.replicate C (0:Int)).flatMap cI) C])=some (V.agg [I R,I C,V.ts (FA.flatMap cI) FA.length,V.ts (O.flatMap cI) O.length,V.ts ((List.replicate C (0:Int)).flatMap cI) (List.replicate C (0:Int)).length]);rw[w1,w2,w3]
theorem amb{P:Program}{t e:TypeId}{x y:Operand}(h:P.underlying t=some (.pointer e)):Am P .eql t x y (.sc (.pointer none)) (.sc (.pointer none))=some (Bo true):=by
 have key:wI P ((Op.equal t (.pointer none) (.pointer none)).bind fun r=>pure (Value.bool r))=some (.bool true):=by
  show wI P ((Op.equalIn (9999+1) t _ _).bind fun r=>pure (Value.bool r))=_;unfold Op.equalIn underlying;show wI P (.program fun p=>_)=_;simp only[wI];have pb:∀ {β E:Type} (a:β) (f:β->Sem E),(Sem.pure a).bind f=f a:=fun _ _=>rfl
  have G:∀ {β E:Type} (a:β) (f:β->Sem E),(pure a:Sem β).bind f=f a:=fun _ _=>rfl
  simp only[h,pb,G];rfl
 simp only[Am,toVal,eqGuard_at_pointer,pure_bind,binOp];erw[key];rfl
theorem apV(x y:Operand):Am ZM .eql 133 x y (.sc (.pointer none)) (.sc (.pointer none))=some (Bo true):=amb Tryz.underlying133
attribute [go_sem] apV
def azo:Option Rat->Option Rat->Option Rat
 |some x,some y=>Jc (x+y)
 |_,_=>none
def Qe:Option Rat->Option Rat->Option Rat
 |some x,some y=>Jc (x*y)
 |_,_=>none
def LnO(k:Nat)(a:Option Rat):Prop:=∀x,a=some x->Ln k x
theorem azp(a:Option Rat):fn ZM conv ext 148 [pQ a]=some (pQ (a.map fun x=> -x)):=by
 cases a with
 |none=>
  show fn ZM conv ext 148 [.sc (.pointer none)]=some (.sc (.pointer none))
  rw[mJ,nC [.tmp 2] [] func148];simp only[go_sem]
 |some x=>
  have k:=kH x.num;have E:(-x).num= -x.num:=rfl;have G:(-x).den=x.den:=rfl;show fn ZM conv ext 148 [.tp (cQ x) 0]=some (.tp (cQ (-x)) 0)
  rw[mJ,nC [.tmp 2] [] func148];unfold cQ;rw[E,G];unfold cZ at k;simp only[go_sem,k]
theorem OV(σ:Store)(a:Option Rat):Option.map (fun x=>x.1) (strip σ 7 (pQ a))=some (pQ a):=by
 cases a with
 |none=>rfl
 |some q=>unfold pQ;rw[aO];rfl
theorem at1{a b:Option Rat}(ha:LnO 100 a)(hb:LnO 100 b):fn ZM Aa Ak 149 [pQ a,pQ b]=some (pQ (azo a b)):=by
 cases a with
 |none=>
  show fn ZM Aa Ak 149 [.sc (.pointer none),pQ b]=some (.sc (.pointer none));rw[mJ,nC [.tmp 4] [] func149];simp only[go_sem]
 |some x=>cases b with
  |none=>
   show fn ZM Aa Ak 149 [.tp (cQ x) 0,.sc (.pointer none)]=some (.sc (.pointer none));rw[mJ,nC [.tmp 4] [] func149];simp only[go_sem]
  |some y=>
   have E:=ahV x y ((ha x rfl).mono (by decide)) ((hb y rfl).mono (by decide));have G:=atu (x+y) (Ln.mono (abh (ha x rfl) (hb y rfl) ) (by decide));show fn ZM Aa Ak 149 [.tp (cQ x) 0,.tp (cQ y) 0]=some (pQ (Jc (x+y)));rw[mJ,nC [.tmp 4] [] func149];simp only[go_sem,E,G];exact OV _ _
theorem at6{a b:Option Rat}(ha:LnO 100 a)(hb:LnO 100 b):fn ZM Aa Ak 153 [pQ a,pQ b]=some (pQ (Qe a b)):=by
 cases a with
 |none=>
  show fn ZM Aa Ak 153 [.sc (.pointer none),pQ b]=some (.sc (.pointer none));rw[mJ,nC [.tmp 4] [] func153];simp only[go_sem]
 |some x=>cases b with
  |none=>
   show fn ZM Aa Ak 153 [.tp (cQ x) 0,.sc (.pointer none)]=some (.sc (.pointer none));rw[mJ,nC [.tmp 4] [] func153];simp only[go_sem]
  |some y=>
   have E:=acK x y ((ha x rfl).mono (by decide)) ((hb y rfl).mono (by decide));have G:=atu (x*y) (Ln.mono (abg (ha x rfl) (hb y rfl) (by decide)) (by decide));show fn ZM Aa Ak 153 [.tp (cQ x) 0,.tp (cQ y) 0]=some (pQ (Jc (x*y)));rw[mJ,nC [.tmp 4] [] func153];simp only[go_sem,E,G];exact OV _ _
abbrev GI(a:Option Rat):List V:=[pQ a]
def amd(o:Option Rat)(v:Rat):Option Rat:=match o with
 |none=>some v
 |some y=>Jc (y+v)
def sgQ(s:Int)(x:Rat):Rat:=if s<0 then -x else x
def Gv(K:List (Int×Int))(X:List Rat)(nm:Nat):Nat->List (Option Rat)
 |0=>List.replicate nm none
 |c+1=>(Gv K X nm c).set (K.getD c (0,0)).1.toNat (amd ((Gv K X nm c).getD (K.getD c (0,0)).1.toNat none) (sgQ (K.getD c (0,0)).2 (X.getD c 0)))
theorem m_(K:List (Int×Int))(X:List Rat)(nm:Nat):∀c,(Gv K X nm c).length=nm
 |0=>by simp[Gv]
 |c+1=>by rw[Gv,yP];exact m_ K X nm c
theorem acZ{q y:Rat}(h:Jc q=some y):Ln 24 y:=by
 unfold Jc at h
 split at h
 .cases h;assumption
 .cases h
theorem UA{K:List (Int×Int)}{X:List Rat}{nm:Nat}(O:∀x∈X,Ln 24 x):∀c,∀o∈Gv K X nm c,LnO 24 o
 |0=>fun o G y E=>by
  have:=(List.mem_replicate.mp G).2;rw[this]at E;cases E
 |c+1=>fun o G y E=>by
  rw[Gv]at G;rcases uz G with h|h
  .exact UA O c o h y E
  .subst h
   unfold amd at E
   split at E
   .cases E
    have J:Ln 24 (X.getD c 0):=by
     rw[zx]
     by_cases hc:c<X.length
     .rw[zy hc];exact O _ (zu hc)
     .rw[yX (by omega)];exact(sG (z:=0) (by decide)).mono (by decide)
    unfold sgQ
    split
    .have S:(-(X.getD c 0)).num= -(X.getD c 0).num:=rfl
     have Y:(-(X.getD c 0)).den=(X.getD c 0).den:=rfl;exact⟨by rw[S,wC];exact J.1,by rw[Y];exact J.2⟩
    .exact J
   .exact(acZ E).mono (by decide)
theorem ame(X:List (Option Rat)):∀(k:Nat) (q:Option Rat),(X.flatMap GI).set k (pQ q)=(X.set k q).flatMap GI:=by
 induction X with
 |nil=>intro k q;rfl
 |cons a X E=>intro k q;cases k with
  |zero=>rfl
  |succ k=>show pQ a :: ((X.flatMap GI).set k (pQ q))=_;rw[E];rfl
theorem aiF(N:Nat):rep N [V.sc (.pointer none)]=(List.replicate N (none:Option Rat)).flatMap GI:=by
 induction N with
 |zero=>rfl
 |succ N E=>rw[fP,E,xu];rfl
theorem aiG(a:Option Rat):cellsOfV (pQ a)=some [pQ a]:=by cases a<;>rfl
theorem amf(a:Option Rat):vI (pQ a)=true:=by cases a<;>rfl
theorem Ky(σ:Store)(d:Nat):∀X:List (Option Rat),stripL (strip σ d) (X.flatMap GI)=some (X.flatMap GI,[])
 |[]=>by rw[vw,aY]
 |a :: X=>by
  rw[zG,show GI a++X.flatMap GI=pQ a :: X.flatMap GI from rfl,au,Ky σ d X];cases a with
  |none=>unfold pQ;rw[aQ];rfl
  |some q=>unfold pQ;rw[aO];rfl
attribute [go_sem] aiG amf
def ac0:=bZ (c:=GI) (s:=1) (fun _=>rfl)
theorem at7{s:Structure}(h:SG s){X:List Rat}(hX:X.length=(cols s s.members.length).length)(hL:∀x∈X,Ln 24 x) :
  fn ZM Aa Ak 109 [.tp (jI s) 0,LL cF X]=some (LL GI (Gv (cols s s.members.length) X s.members.length (cols s s.members.length).length)):=by
 have e0:=h.nm;have e3:=oz s s.members.length;have k2:=OO h;have m1:(0:Int)<=(s.members.length:Int):=by omega
 have m2:8*(s.members.length:Int)<=281474976710656:=by omega
 have m3:(s.members.length:Int)<=9223372036854775807:=by omega
 obtain⟨K,hK⟩:∃K,K=cols s s.members.length:=⟨_,rfl⟩;have c5:∀c (hc:c<K.length),(∃k:Nat,K[c].1=(k:Int)/\k<s.members.length)/\(K[c].2=1\/K[c].2= -1):=fun c hc=>by subst hK;exact ou (zu hc)
 rw[<- hK]at k2 hX e3⊢;rw[mJ,nC [.tmp 4] [10] func109];simp only[go_sem,k2,m1,m2,m3];generalize c6:iI _ _=y;obtain⟨nm,c7⟩:∃nm,nm=s.members.length:=⟨_,rfl⟩;rw[<- c7]at c5 e0 m1 m2 m3⊢;obtain⟨x,rfl,T1,S,qI,rfl,t5,s0⟩:=oZ c6 K.length (fun c st=>st.T 1=LL cF X/\st.T 5= .rs 0 0 nm/\st.T 16=LL Fh K/\st.T 17=I K.length/\st.T 18=I c/\0<st.nx/\st.σ 0=some ⟨(Gv K X nm c).flatMap GI,1,true⟩)
  (fun x=>∃T1 S qI,x=(.exit 0,⟨T1,S,qI⟩)/\T1 5= .rs 0 0 nm/\S 0=some ⟨(Gv K X nm K.length).flatMap GI,1,true⟩) (by
   clear c6;rintro c ⟨T,σ,nx⟩ hc ⟨t1,t5,t16,t17,D9,c0,s0⟩;simp only at t1 t5 t16 t17 D9 c0 s0;have g1:(c:Int)<(K.length:Int):=by omega
   have g2:=jF c;have g3:=ZU (n:=(c:Int)+1);have a4:=d_ (c:=Fh) (s:=2) (fun _=>rfl) K c hc;have a5:=bg (c:=Fh) (s:=2) (fun _=>rfl) (by omega) K c hc;have a6:=bZ (c:=Fh) (s:=2) (fun _=>rfl) K;have a7:c*2+2<=K.length*2:=by omega
   have a8:=qQ X (k:=c) (by omega);have a9:(X.flatMap cF).length=X.length:=qP X;have Y:(c:Int)<(X.length:Int):=by omega
   have a1:X.flatMap cF≠[]:=fun e=>by rw[e]at a9;have:X.length=0:=a9.symm;omega
   obtain⟨⟨k,hk,J⟩,c2⟩:=c5 c hc;have G:Gv K X nm (c+1)=(Gv K X nm c).set K[c].1.toNat (amd ((Gv K X nm c).getD K[c].1.toNat none) (sgQ K[c].2 X[c])):=by
    rw[Gv];have e1:K.getD c (0,0)=K[c]:=by rw[zx,zy hc];rfl
    have e2:X.getD c 0=X[c]'(by omega):=by rw[zx,zy (by omega)];rfl
    rw[e1,e2]
   have b7:=hL _ (zu (l:=X) (n:=c) (by omega));obtain⟨kp,e4⟩:∃kp,kp=K[c]:=⟨_,rfl⟩;rw[<- e4]at a4 hk c2 G;obtain⟨k1,c8⟩:=kp;simp only at hk c2 G;subst hk;rw[zF]at G;obtain⟨E,e5⟩:∃E,E=X[c]'(by omega):=⟨_,rfl⟩;rw[<- e5]at a8 G b7;have hlen:=m_ K X nm c;have c9:=UA (K:=K) (nm:=nm) hL c;obtain⟨O,eO⟩:∃O,O=Gv K X nm c:=⟨_,rfl⟩;rw[<- eO]at s0 G hlen c9;have b1:=cu (fun a=>pQ a) O k (by omega);have b1:(O.flatMap GI)[k]?=some (pQ (O.getD k none)):=by
    rw[b1,zx,zy (by omega)];rfl
   have c3:LnO 24 (O.getD k none):=by
    rw[zx,zy (by omega)];exact c9 _ (zu _)
   have b2:(O.flatMap GI).length=nm:=by rw[ac0,hlen,yN]
   have b3:(k:Int)<(nm:Int):=by omega
   have b4:=jF k;have b5:k+1<=nm:=J;have b8:Ln 24 (sgQ c8 E):=by
    unfold sgQ
    split
    .exact⟨by show ln (-E.num).natAbs<=24;rw[wC];exact b7.1,b7.2⟩
    .exact b7
   have b6:=ame O k (amd (O.getD k none) (sgQ c8 E));rw[<- G]at b6;obtain⟨o,eo⟩:∃o,o=O.getD k none:=⟨_,rfl⟩;rw[<- eo]at b1 b6 c3;have b9:fn ZM conv ext 148 [.tp (cQ E) 0]=some (.tp (cQ (-E)) 0):=azp (some E)
   have d0:¬nx=0:=by omega
   have d1:¬0=nx:=by omega
   have d2:0<nx+1:=by omega
   have d3:nx<nx+1:=by omega
   refine bD ?_;have n1:¬(1:Int)<0:=by decide
   have n2:(-1:Int)<0:=by decide
   rcases c2 with rfl|rfl
   .have sv:sgQ 1 E=E:=rfl
    rw[sv]at b6 b8;rcases o with _|y
    .have e6:(O.flatMap GI).set k (.tp (cQ (E)) 0)=(Gv K X nm (c+1)).flatMap GI:=b6
     have e1:(O.flatMap GI)[k]?=some (.sc (.pointer none)):=b1;refine⟨_,by simp only[go_sem,t1,t5,t16,t17,D9,s0,g1,g2,g3,a4,a5,a6,a7,a8,a9,Y,a1,b2,b3,b4,b5,J,e1,e6,b9,n1,n2,d0,d1,d2,d3];rfl,.inl ⟨_,rfl,?_⟩⟩;simp only[go_sem,t1,t5,t16,t17,d0,d1,d2]
     first|rfl|exact⟨rfl,rfl⟩|trace_state
    .have e6:(O.flatMap GI).set k (pQ (Jc (y+E)))=(Gv K X nm (c+1)).flatMap GI:=b6
     have e1:(O.flatMap GI)[k]?=some (.tp (cQ y) 0):=b1;have c4:fn ZM Aa Ak 149 [.tp (cQ y) 0,.tp (cQ (E)) 0]=some (pQ (Jc (y+E))):=at1 (a:=some y) (b:=some (E)) (fun z hz=>(c3 z hz).mono (by decide)) (fun z hz=>by cases hz;exact b8.mono (by decide));refine⟨_,by simp only[go_sem,t1,t5,t16,t17,D9,s0,g1,g2,g3,a4,a5,a6,a7,a8,a9,Y,a1,b2,b3,b4,b5,J,e1,e6,b9,c4,n1,n2,d0,d1,d2,d3];rfl,.inl ⟨_,rfl,?_⟩⟩;simp only[go_sem,t1,t5,t16,t17,d0,d1,d2]
     first|rfl|exact⟨rfl,rfl⟩|trace_state
   .have sv:sgQ (-1) E= -E:=rfl
    rw[sv]at b6 b8;rcases o with _|y
    .have e6:(O.flatMap GI).set k (.tp (cQ (-E)) 0)=(Gv K X nm (c+1)).flatMap GI:=b6
     have e1:(O.flatMap GI)[k]?=some (.sc (.pointer none)):=b1;refine⟨_,by simp only[go_sem,t1,t5,t16,t17,D9,s0,g1,g2,g3,a4,a5,a6,a7,a8,a9,Y,a1,b2,b3,b4,b5,J,e1,e6,b9,n1,n2,d0,d1,d2,d3];rfl,.inl ⟨_,rfl,?_⟩⟩;simp only[go_sem,t1,t5,t16,t17,d0,d1,d2]
     first|rfl|exact⟨rfl,rfl⟩|trace_state
    .have e6:(O.flatMap GI).set k (pQ (Jc (y+ -E)))=(Gv K X nm (c+1)).flatMap GI:=b6
     have e1:(O.flatMap GI)[k]?=some (.tp (cQ y) 0):=b1;have c4:fn ZM Aa Ak 149 [.tp (cQ y) 0,.tp (cQ (-E)) 0]=some (pQ (Jc (y+ -E))):=at1 (a:=some y) (b:=some (-E)) (fun z hz=>(c3 z hz).mono (by decide)) (fun z hz=>by cases hz;exact b8.mono (by decide));refine⟨_,by simp only[go_sem,t1,t5,t16,t17,D9,s0,g1,g2,g3,a4,a5,a6,a7,a8,a9,Y,a1,b2,b3,b4,b5,J,e1,e6,b9,c4,n1,n2,d0,d1,d2,d3];rfl,.inl ⟨_,rfl,?_⟩⟩;simp only[go_sem,t1,t5,t16,t17,d0,d1,d2]
     first|rfl|exact⟨rfl,rfl⟩|trace_state) (by
   rintro ⟨T,σ,nx⟩ ⟨t1,t5,t16,t17,D9,c0,s0⟩;simp only at t1 t5 t16 t17 D9 c0 s0;have g1:¬(K.length:Int)<(K.length:Int):=by omega
   refine⟨_,by simp only[go_sem,t17,D9,g1];rfl,by simp,_,_,_,rfl,?_⟩;simp only[go_sem,t5];exact s0) (by
   simp only[go_sem,<- c7];rw[Gv,<- aiF])
 have hlen:=m_ K X nm K.length;have u1:nm<=((Gv K X nm K.length).flatMap GI).length:=by rw[ac0,hlen];omega
 have u2:((Gv K X nm K.length).flatMap GI).take nm=(Gv K X nm K.length).flatMap GI:=zl (by rw[ac0,hlen];omega);have u3:=Ky S 6 (Gv K X nm K.length);simp only[go_sem,t5,s0,u1,u2,u3];show some (V.ts _ nm)=some (V.ts _ (Gv K X nm K.length).length);rw[hlen]
def JA(s:Structure)(l:List Int):Prog:=AV (Vf s) (Ls s l) (List.replicate (DZ s) 0) (MV s) (DZ s)
theorem abq{s:Structure}(h:SG s):∀x∈Vf s,-1000<=x/\x<=1000:=fun x E=>by
 unfold Vf at E;obtain⟨r,G,E⟩:=List.mem_flatMap.mp E;obtain⟨p,hp,rfl⟩:=List.mem_map.mp E;have hb:-100<=r.getD p.1.toNat 0/\r.getD p.1.toNat 0<=100:=by
  rw[zx]
  by_cases hi:p.1.toNat<r.length
  .rw[zy hi];exact XU h G _ (zu hi)
  .rw[yX (by omega)];simp
 rcases (ou hp).2 with e|e<;>rw[e]<;>omega
theorem aiH{s:Structure}{l:List Int}(hb:∀x∈l,-100<=x/\x<=100):∀x∈Ls s l,-1000<=x/\x<=1000:=fun x E=>by
 unfold Ls at E;obtain⟨j,-,E⟩:=List.mem_flatMap.mp E;have key:∀q,-100<=l.getD q 0/\l.getD q 0<=100:=fun q=>by
  rw[zx]
  by_cases hi:q<l.length
  .rw[zy hi];exact hb _ (zu hi)
  .rw[yX (by omega)];simp
 simp only[zX,zK,or_false]at E;rcases E with rfl|rfl
 .have:=key (2*j.toNat);omega
 .have:=key (2*j.toNat+1);omega
theorem aub{s:Structure}(h:SG s){l:List Int}(hb:∀x∈l,-100<=x/\x<=100)(E:0<MV s):L6 (Vf s) (Ls s l) (List.replicate (DZ s) 0) (MV s) (DZ s):=by
 have J:=lg s;have O:=h.nj;have S:=oz s s.members.length;have Y:=h.nm;refine⟨MS s,Uz s l,by simp,E,by unfold MV;omega,by unfold DZ;omega,abq h,aiH hb,fun x G=>?_⟩;rw[(List.mem_replicate.mp G).2];omega
theorem afn{s:Structure}(h:Bf s)(J:free s=[]):s.members=[]:=by
 refine zf fun hn=>?_
 obtain⟨m,ms,e⟩:=List.exists_cons_of_ne_nil hn;have hm:m∈s.members:=by rw[e];simp
 have E:=h.2.2.2 m hm;have G:DK s.bI.length m:=zf fun G=>by rw[jM G]at E;cases E
 obtain⟨O,S,Y,r4,r5,r6⟩:=G;have ha:m.a.toNat<s.bI.length:=by omega
 have hb:m.b.toNat<s.bI.length:=by omega
 rw[JZ ⟨O,S,Y,r4,r5,r6⟩ (zy ha) (zy hb)]at E;have fixed:∀i (hi:i<s.bI.length),s.bI[i].fixed=true:=fun i hi=>by
  cases hf:s.bI[i].fixed with
  |true=>rfl
  |false=>
   have hq:Du s i=true:=by simp[Du,zy hi,hf]
   have:(i:Int)∈free s:=by
    unfold free F5;exact List.mem_map.mpr ⟨i,List.mem_filter.mpr ⟨List.mem_range.mpr hi,hq⟩,rfl⟩
   rw[J]at this;cases this
 unfold KX at E;rw[fixed _ ha,fixed _ hb]at E;simp at E
theorem ami{s:Structure}(h:Bf s){l:List Int}(hb:∀x∈l,-100<=x/\x<=100):∃r,fn ZM Aa Ak 107 [.tp (C9 (MV s) (DZ s) (Vf s) (Ls s l) (List.replicate (DZ s) 0)) 0]=some r/\atL (JA s l) r:=by
 by_cases Y:0<MV s
 .exact apQ (aub h.sg hb Y)
 .have E:free s=[]:=zZ (by unfold MV at Y;omega)
  have e1:=afn h E;have G:MV s=0:=by omega
  have J:DZ s=0:=by unfold DZ;rw[e1];rfl
  have O:Vf s=[]:=by unfold Vf C_;rw[E];rfl
  have S:Ls s l=[]:=by unfold Ls;rw[E];rfl
  refine⟨_,by rw[G,J,O,S];exact al7,.inr (.inr ⟨fun _=>0,?_,fun j hj=>?_,?_⟩)⟩
  .unfold JA
   rw[G,J,O,S];refine⟨⟨fun k hk=>absurd hk (zW k),fun j hj=>absurd hj (zW j)⟩,fun y hy=>?_⟩;refine .inr fun q _=>?_
   show(0:Rat) - 0=0;grind
  .exact(sG (z:=0) (by decide)).mono (by decide)
  .unfold JA
   rw[G,J,O,S];rfl
def auc(s:Structure)(l:List Int)(r:V):Prop:=(r= .AX [.ts [] 0,.ts [] 0,Bo false]/\((JA s l).None\/(JA s l).Open)) \/
 ∃x:Nat->Rat,(JA s l).Best x/\(∀j,j<DZ s->Ln 24 (x j))/\r= .AX [LL GI (Gv (cols s s.members.length) ((List.range (DZ s)).map x) s.members.length (DZ s)),.ts [] 0,Bo true]
theorem amj{s:Structure}(h:Bf s){l:List Int}(hb:∀x∈l,-100<=x/\x<=100):∃r,fn ZM Aa Ak 72 [.tp (jI s) 0,.agg (C9 (MV s) (DZ s) (Vf s) (Ls s l) (List.replicate (DZ s) 0))]=some r/\auc s l r:=by
 obtain⟨r0,E,hr⟩:=ami h hb;have k2:=OO h.sg;have hC:(cols s s.members.length).length=DZ s:=rfl;obtain⟨C,eC⟩:∃C,C=DZ s:=⟨_,rfl⟩;have hn:(JA s l).n=DZ s:=rfl;have a1:DZ s<=16:=by have:=oz s s.members.length;have:=h.sg.nm;omega
 rw[mJ,nC [.tmp 4,.tmp 5,.tmp 6] [] func72];unfold C9 at E⊢;rcases hr with ⟨rfl,G⟩|⟨rfl,G⟩|⟨x,G,S,rfl⟩
 .refine⟨_,by simp only[go_sem,E];rfl,.inl ⟨rfl,.inl G⟩⟩
 .refine⟨_,by simp only[go_sem,E];rfl,.inl ⟨rfl,.inr G⟩⟩
 .rw[hn]at E S
  obtain⟨X,O⟩:∃X:List Rat,X=(List.range (DZ s)).map x:=⟨_,rfl⟩;have J:X.length=DZ s:=by rw[O];simp
  have kf:=at7 h.sg (X:=X) (by rw[J];rfl) (fun y hy=>by
   rw[O]at hy;obtain⟨j,hj,rfl⟩:=List.mem_map.mp hy;exact S j (List.mem_range.mp hj))
  rw[<- O]at E;have Y:fn ZM conv ext 108 [.tp (jI s) 0]=some (.ts ((cols s s.members.length).flatMap Fh) X.length):=by rw[J];exact k2
  have z1:(X.flatMap cF).take X.length=X.flatMap cF:=zl (by rw[qP];exact zq _);have z2:(X.flatMap cF).drop X.length=[]:=yA (by rw[qP];exact zq _);have z0:(0:Int)<=(X.length:Int):=by omega
  refine⟨_,by simp only[go_sem,E,Y,z0,z1,z2,kf,yM,List.take_nil,Ky];rfl,.inr ⟨x,G,S,?_⟩⟩;rw[<- O];rfl
def B_:List (Option Rat)->Option (List Rat)
 |[]=>some []
 |none :: _=>none
 |some q :: l=>(B_ l).map (q :: ·)
theorem dH:∀(l:List (Option Rat)) (a:Option Rat),B_ (l++[a])=(B_ l).bind fun qs=>a.map fun q=>qs++[q]
 |[],none=>rfl
 |[],some q=>rfl
 |none :: l,a=>rfl
 |some q :: l,a=>by
  show(B_ (l++[a])).map _=((B_ l).map _).bind _;rw[dH l a];cases B_ l with
  |none=>rfl
  |some qs=>cases a<;>rfl
theorem Kz:∀ {l l':List (Option Rat)},B_ l=none->B_ (l++l')=none
 |[],_,h=>by cases h
 |none :: l,_,_=>rfl
 |some q :: l,l',h=>by
  show(B_ (l++l')).map _=none;have:B_ l=none:=by
   cases e:B_ l with
   |none=>rfl
   |some qs=>rw[show B_ (some q :: l)=(B_ l).map (q :: ·)from rfl,e]at h;cases h
  rw[Kz this];rfl
theorem dJ:∀ {l:List (Option Rat)} {qs:List Rat},B_ l=some qs->qs.length=l.length
 |[],qs,h=>by cases h;rfl
 |none :: l,_,h=>by cases h
 |some q :: l,qs,h=>by
  cases e:B_ l with
  |none=>rw[show B_ (some q :: l)=(B_ l).map (q :: ·)from rfl,e]at h;cases h
  |some rs=>rw[show B_ (some q :: l)=(B_ l).map (q :: ·)from rfl,e]at h;cases h;simp[dJ e]
abbrev zR:List V:=[Bo false,.nil,.nil]
def Qg(qs:List Rat)(n:Nat):List V:=qs.flatMap cQ++rep (n-qs.length) zR
def ac1:=bZ (c:=cQ) (s:=3) (fun _=>rfl)
theorem XV(qs:List Rat){n:Nat}(h:qs.length<=n):(Qg qs n).length=n*3:=by
 unfold Qg;rw[zo,ac1,fQ];simp only[zV,yY];omega
theorem aiI(qs:List Rat){n:Nat}(h:qs.length<n)(q:Rat):patch (Qg qs n) (qs.length*3) (cQ q)=Qg (qs++[q]) n:=by
 have E:=ac1 qs;rw[iH _ _ _ (by rw[XV qs (by omega)];show qs.length*3+3<=n*3;omega)];unfold Qg;rw[uf (by omega),zl (by omega),zQ,zo,yV,show n-qs.length=n - (qs.length+1)+1 by omega,fP];rw[List.drop_append,yA (by rw[E];omega),yJ,E,show qs.length*3+(cQ q).length-qs.length*3=3 by show qs.length*3+3-qs.length*3=3;omega];simp
theorem Ro(σ:Store)(d:Nat)(qs:List Rat):stripL (strip σ d) (qs.flatMap cQ)=some (qs.flatMap cQ,[]):=aX (fun q=>qH σ d q) qs
theorem aiJ(q:Rat):(cQ q).all vI=true:=rfl
theorem amk(q:Rat):(cQ q).take 3=cQ q:=rfl
theorem aml(q:Rat):(cQ q).length=3:=rfl
attribute [go_sem] aiJ amk aml
def Ez(O:List (Option Rat)):V:=match B_ O with
 |some qs=> .AX [LL cQ qs,Bo true]
 |none=> .AX [.ts [] 0,Bo false]
theorem amm(O:List (Option Rat))(hL:∀o∈O,LnO 24 o)(hn:O.length<=1000):fn ZM conv ext 74 [LL GI O]=some (Ez O):=by
 have m1:(0:Int)<=(O.length:Int):=by omega
 have m2:56*(O.length:Int)<=281474976710656:=by omega
 have m3:(O.length:Int)<=9223372036854775807:=by omega
 rw[mJ,nC [.tmp 2,.tmp 3] [] func74];simp only[go_sem,m1,m2,m3];generalize Y:iI _ _=y;obtain⟨x,rfl,hx⟩:=oZ Y O.length (fun k st=>st.T 4= .rs 0 0 O.length/\st.T 10=LL GI O/\st.T 11=I O.length/\st.T 12=I k/\0<st.nx/\∃qs,B_ (O.take k)=some qs/\st.σ 0=some ⟨Qg qs O.length,3,true⟩)
  (fun x=>∃T σ nx,(x=(.exit 0,⟨T,σ,nx⟩)/\T 4= .rs 0 0 O.length/\∃qs,B_ O=some qs/\σ 0=some ⟨Qg qs O.length,3,true⟩)\/(x=(.ret,⟨T,σ,nx⟩)/\T 2= .nil/\T 3=Bo false/\B_ O=none)) (by
   clear Y;rintro k ⟨T,σ,nx⟩ S ⟨t4,t10,t11,t12,G,qs,E,s0⟩;simp only at t4 t10 t11 t12 G s0;have g1:(k:Int)<(O.length:Int):=by omega
   have g2:=jF k;have g3:=ZU (n:=(k:Int)+1);have g4:(O.flatMap GI)[k]?=some (pQ O[k]):=cu (fun a=>pQ a) O k S;have g5:=bg (c:=GI) (s:=1) (fun _=>rfl) (by omega) O k S;have g6:=ac0 O;rw[yN]at g6;have a1:qs.length=k:=by rw[dJ E,zh];omega
   have J:O.take (k+1)=O.take k++[O[k]]:=aJ S;have ho:=hL _ (zu S);obtain⟨o,eo⟩:∃o,o=O[k]:=⟨_,rfl⟩;rw[<- eo]at g4 J ho;cases o with
   |none=>
    have g4:(O.flatMap GI)[k]?=some (.sc (.pointer none)):=g4;refine .inr ⟨_,by simp only[go_sem,t4,t10,t11,t12,g1,g2,g4,g5,g6,S];rfl,by simp,_,_,_,.inr ⟨rfl,?_⟩⟩;simp only[go_sem];have:O=O.take (k+1)++O.drop (k+1):=(vB _ _).symm;rw[this,J];refine Kz ?_;rw[dH,E];rfl
   |some q=>
    have g4:(O.flatMap GI)[k]?=some (.tp (cQ q) 0):=g4;have hq:=ho q rfl;have ks:=akZ q hq.1 hq.2;have p1:=XV qs (n:=O.length) (by omega);have p2:=aiI qs (n:=O.length) (by omega) q;rw[a1]at p2;have p3:k*3+3<=O.length*3:=by omega
    refine .inl ⟨_,by simp only[go_sem,t4,t10,t11,t12,s0,g1,g2,g3,g4,g5,g6,S,ks,p1,p2,p3];rfl,?_⟩;simp only[go_sem,t4,t10,t11];refine⟨rfl,G,qs++[q],?_,rfl⟩;rw[J,dH,E];rfl) (by
   rintro ⟨T,σ,nx⟩ ⟨t4,t10,t11,t12,G,qs,E,s0⟩;simp only at t4 t10 t11 t12 G s0;have g1:¬(O.length:Int)<(O.length:Int):=by omega
   refine⟨_,by simp only[go_sem,t11,t12,g1];rfl,by simp,_,_,_,.inl ⟨rfl,?_⟩⟩;simp only[go_sem,t4];rw[yT]at E;exact⟨qs,E,s0⟩) (by
   simp only[go_sem];refine⟨[],rfl,?_⟩;unfold Qg;rfl)
 rcases hx with ⟨T,σ,nx,⟨rfl,t4,qs,E,s0⟩|⟨rfl,t2,t3,E⟩⟩
 .have hl:=dJ E
  have e1:Qg qs O.length=qs.flatMap cQ:=by unfold Qg;rw[hl,yM];exact zH _
  rw[e1]at s0;have u0:=ac1 qs;have u1:O.length*3<=(qs.flatMap cQ).length:=by rw[u0];omega
  have u2:(qs.flatMap cQ).take (O.length*3)=qs.flatMap cQ:=zl (by rw[u0];omega);have u3:=Ro σ 5 qs;unfold Ez;rw[E];simp only[go_sem,t4,s0,u1,u2,u3];show some (V.AX [V.ts _ O.length,_])=some (V.AX [V.ts _ qs.length,_]);rw[hl]
 .unfold Ez
  rw[E];simp only[go_sem,t2,t3]
def abr(P:Program)(ts:Array TypeId)(ty:TypeId)(a b:V)(σ:Store)(nx:Nat):KF:=EX P .min ts ty [a,b] σ nx
theorem apX{P:Program}{conv:FuncId->Conv}{call:TV.Call}(d:Option Tmp)(ty:TypeId)(ps:String)(E:Array Edge)(G:Option (Nat×Bool))(T:Nat->V)(σ:Store)(nx:Nat)(a b:Operand)(ts:Array TypeId) :
  AO P conv call ⟨d,.call ⟨.builtin .min,#[a,b],ts⟩,ty,ps,E,G⟩ T σ nx=abr P ts ty (val T a) (val T b) σ nx:=rfl
theorem abt{P:Program}{ts:Array TypeId}{ty:TypeId}{m n:Int}{σ:Store}{nx:Nat}:abr P ts ty (I m) (I n) σ nx=some (I (if n<m then n else m),σ,nx):=by
 unfold abr;simp only[EX,H7,af_];rfl
attribute [go_sem] apX abt
theorem abu{b n:Nat}(hn:ln b=n+1):1<=b / 1000000000^n/\b / 1000000000^n<1000000000/\(dg b)[n]?=some ((b / 1000000000^n:Nat):Int):=by
 have E:b<1000000000^(n+1):=by
  have:=(jd (n:=b) (k:=n+1)).mp (by omega);rw[qY]at this;omega
 have O:¬b<1000000000^n:=fun h=>by
  have:ln b<=n:=(jd (n:=b) (k:=n)).mpr (by rw[qY];omega);omega
 have hp:0<1000000000^n:=Nat.pow_pos (by decide);have G:b / 1000000000^n<1000000000:=by
  rw[uP hp];rw[uq]at E;rw[wL];exact E
 have J:n<(dg b).length:=by unfold ln at hn;omega
 refine⟨by rw[uO hp];omega,G,?_⟩;rw[zy J,oQ J,wK G]
theorem amn(m n:Nat):Bg m n<=0↔m<=n:=by
 unfold Bg
 split
 .omega
 .split<;>omega
theorem amo(m n:Nat):Bg m n<0↔m<n:=by
 unfold Bg
 split
 .omega
 .split<;>omega
theorem apY{r b P:Nat}(E:0<P)(hb:0<b):r / P / (b / P+1)<=r / b:=by
 rw[uO hb];have G:b<=(b / P+1)*P:=by
  have:=Nat.lt_mul_div_succ b E;rw[wL];omega
 calc r / P / (b / P+1)*b<=r / P / (b / P+1)*((b / P+1)*P):=tu _ G
  _=r / P / (b / P+1)*(b / P+1)*P:=by rw[vG]
  _<=r / P*P:=zD _ (tV _ _)
  _<=r:=tV _ _
theorem apZ{r b P:Nat}(E:0<P)(hb:0<b / P):r / b<=r / P / (b / P):=by
 rw[uO hb,uO E];have G:b / P*P<=b:=tV _ _
 calc r / b*(b / P)*P=r / b*(b / P*P):=vG _ _ _
  _<=r / b*b:=tu _ G
  _<=r:=tV _ _
theorem amq(r b:Nat)(c7:1000000000<=b)(hle:b<=r)(b8:r<b*1000000000)(c8:ln b<=10000):fn ZM conv ext 251 [LI (dg r),LI (dg b)]=some (I ((r / b:Nat):Int)):=by
 obtain⟨n,hn⟩:∃n,ln b=n+1:=⟨ln b-1,by have:=jW (n:=b) (by omega);omega⟩;obtain⟨t1,t2,t3⟩:=abu hn;obtain⟨P,eP⟩:∃P,P=1000000000^n:=⟨_,rfl⟩;rw[<- eP]at t1 t2 t3;have hP:0<P:=by rw[eP];exact Nat.pow_pos (by decide)
 have b3:n+1<=ln r:=by rw[<- hn];exact jc hle
 have b9:ln r<=n+2:=by
  rw[jd,qY];have h1:b<1000000000^(n+1):=by
   have:=(jd (n:=b) (k:=n+1)).mp (by omega);rw[qY]at this;omega
  have h2:1000000000^(n+2)=1000000000^(n+1)*1000000000:=uq _ _;omega
 obtain⟨X,eX⟩:∃X,X=r / P:=⟨_,rfl⟩;obtain⟨bt,a6⟩:∃bt,bt=b / P:=⟨_,rfl⟩;rw[<- a6]at t1 t2 t3;obtain⟨Q,eQ⟩:∃Q,Q=r / b:=⟨_,rfl⟩;rw[<- eQ];have c9:Q<1000000000:=by rw[eQ,uP (by omega),wL];exact b8
 have q1:X / (bt+1)<=Q:=by rw[eX,a6,eQ];exact apY hP (by omega)
 have q2:Q<=X / bt:=by rw[eX,a6,eQ];exact apZ hP (by omega)
 have hX:X<1000000000000000000:=by
  rw[eX,uP hP];have h1:r<1000000000^(n+2):=by
   have:=(jd (n:=r) (k:=n+2)).mp b9;rw[qY]at this;omega
  have h2:1000000000^(n+2)=1000000000000000000*P:=by rw[eP,Nat.pow_add,wL]
  omega
 have a7:(dg b).length=n+1:=hn;have u1:((n+1:Nat):Int) - 1=(n:Int):=by omega
 have w1:=ZU (n:=(n:Int));have i0:=jF n;have i1:(n:Int)<((n+1:Nat):Int):=by omega
 have i2:(n:Int)<((dg r).length:Int):=by unfold ln at b3;omega
 have n1:n<(dg r).length:=by unfold ln at b3;omega
 have n2:n<n+1:=by omega
 have b4:((dg b).flatMap cI)[n]?=some (I (bt:Int)):=by
  have G:n<(dg b).length:=by omega
  have e:(dg b)[n]=(bt:Int):=by
   rw[zy G]at t3;exact Option.some.inj t3
  rw[idx (xs:=dg b) (k:=n) G,e]
 have b5:(dg b).flatMap cI≠[]:=fun e=>by have h:=qN (dg b);rw[e,a7]at h;have h:0=n+1:=h;omega
 have b6:(dg r).flatMap cI≠[]:=fun e=>by have h:=qN (dg r);rw[e]at h;have h:0=(dg r).length:=h;omega
 have a8:((dg r).flatMap cI)[n]?=some (I ((r / P%1000000000:Nat):Int)):=by
  rw[idx (xs:=dg r) (k:=n) n1,oQ n1,eP]
 have v1:=ZU (n:=(bt:Int)+1);have c1:¬(bt:Int)+1=0:=by omega
 have c2:¬(bt:Int)=0:=by omega
 obtain⟨L0,J⟩:∃L0,L0=X / (bt+1):=⟨_,rfl⟩;obtain⟨O,S⟩:∃O,O=X / bt:=⟨_,rfl⟩;have e0:L0<=X:=by rw[J];exact xE _ _
 have e2:O<=X:=by rw[S];exact xE _ _
 rw[<- J]at q1;rw[<- S]at q2;have d1:(X:Int).tdiv ((bt:Int)+1)=(L0:Int):=by
  rw[yB (by omega),show(bt:Int)+1=((bt+1:Nat):Int) by omega,<- Int.natCast_ediv,J]
 have d2:(X:Int).tdiv (bt:Int)=(O:Int):=by rw[yB (by omega),<- Int.natCast_ediv,S]
 clear J S;have v2:=ZU (n:=(L0:Int));have v3:=ZU (n:=(O:Int));obtain⟨H,eH,c0,c5⟩:∃H:Nat,(if(O:Int)<999999999 then(O:Int)else 999999999)=(H:Int)/\Q<=H/\H<=999999999:=by
  by_cases h:(O:Int)<999999999
  .exact⟨O,by rw[sO h],q2,by omega⟩
  .exact⟨999999999,by rw[sQ h];rfl,by omega,by omega⟩
 have E:ln r=n+1\/ln r=n+2:=by omega
 rw[mJ,nC [.tmp 4] [] func251];rcases E with E|E
 case' inl=>
  have e1:r / P%1000000000=X:=by
   rw[eX];obtain⟨_,h2,_⟩:=abu E;rw[<- eP]at h2;exact wK h2
  rw[e1]at a8;have b2:(dg r).length=n+1:=E;have c3:¬((n+1:Nat):Int)<((n+1:Nat):Int):=by omega
  simp only[go_sem,a7,b2,u1,w1,i0,i1,n2,a8,b4,b5,b6,c3,v1,c1,c2,d1,d2,v2,v3,eH]
 case' inr=>
  obtain⟨y1,y2,y3⟩:=abu E;obtain⟨Y,eY⟩:∃Y,Y=r / 1000000000^(n+1):=⟨_,rfl⟩;rw[<- eY]at y2 y3;have e1:r / P%1000000000+Y*1000000000=X:=by
   have:=oL r n;rw[<- eP,<- eY,<- eX]at this;rw[<- eX];omega
  have b2:(dg r).length=n+1+1:=E;have c3:((n+1:Nat):Int)<((n+1+1:Nat):Int):=by omega
  have i3:(0:Int)<=((n+1:Nat):Int):=by omega
  have i4:(n:Int)<((n+1+1:Nat):Int):=by omega
  have n3:n+1<n+1+1:=by omega
  have n4:n<n+1+1:=by omega
  have tn:((n+1:Nat):Int).toNat=n+1:=zF _;have c6:((dg r).flatMap cI)[n+1]?=some (I (Y:Int)):=by
   have G:n+1<(dg r).length:=by omega
   have e:(dg r)[n+1]=(Y:Int):=by
    rw[zy G]at y3;exact Option.some.inj y3
   rw[idx (xs:=dg r) (k:=n+1) G,e]
  have v4:=ZU (n:=(Y:Int)*1000000000);have v5:IntKind.i64.wrap (((r / P%1000000000:Nat):Int)+(Y:Int)*1000000000)=(X:Int):=by
   rw[ZU];omega
  simp only[go_sem,a7,b2,u1,w1,i0,i1,i3,i4,n2,n3,n4,tn,a8,c6,b4,b5,b6,c3,v1,v4,v5,c1,c2,d1,d2,v2,v3,eH]
 all_goals
  generalize hL:iI _ _=y;obtain⟨x,rfl,T,σ,nx,rfl,t7⟩:=jS hL (fun m st=>st.T 0=LI (dg r)/\st.T 1=LI (dg b)/\∃lo hi:Nat,st.T 7=I (lo:Int)/\st.T 8=I (hi:Int)/\lo<=Q/\Q<=hi/\hi<=999999999/\m+lo=hi)
   (fun x=>∃T σ nx,x=(.exit 0,⟨T,σ,nx⟩)/\T 7=I (Q:Int)) (by
    clear hL;rintro m ⟨T,σ,nx⟩ ⟨t0,t1,lo,hi,t7,t8,h1,h2,h3,h4⟩;simp only at t0 t1 t7 t8
    by_cases e3:lo<hi
    .have g1:(lo:Int)<(hi:Int):=by omega
     obtain⟨q,eq⟩:∃q,q=(lo+hi+1) / 2:=⟨_,rfl⟩;have g2:=ZU (n:=(lo:Int)+(hi:Int));have g3:=ZU (n:=(lo:Int)+(hi:Int)+1);have g4:((lo:Int)+(hi:Int)+1).tdiv 2=(q:Int):=by
      rw[yB (by omega)];omega
     have g5:=ZU (n:=(q:Int));have g6:=ZU (n:=(q:Int) - 1);have g7:¬(2:Int)=0:=by decide
     have k1:=NT q (by omega);have lq:=jV (n:=q) (by omega);have k2:=dN b q (by omega) (by omega);have lm:=jZ b q;have k3:=WY (b*q) r (by show ln (b*q)<=_;omega) (by show ln r<=_;omega);have a1:=amn (b*q) r;have b7:b*q<=r↔q<=Q:=by rw[eQ,uO (by omega),wL]
     by_cases hq:q<=Q
     .have c4:Bg (b*q) r<=0:=a1.mpr (b7.mpr hq)
      refine .inl ⟨_,by simp only[go_sem,t0,t1,t7,t8,g1,g2,g3,g4,g5,g7,k1,k2,k3,c4];rfl,hi-q,by omega,?_⟩;simp only[go_sem,t0,t1,t8];exact⟨q,hi,rfl,rfl,hq,h2,h3,by omega⟩
     .have c4:¬Bg (b*q) r<=0:=fun h=>hq (b7.mp (a1.mp h))
      refine .inl ⟨_,by simp only[go_sem,t0,t1,t7,t8,g1,g2,g3,g4,g5,g6,g7,k1,k2,k3,c4];rfl,q-1-lo,by omega,?_⟩;simp only[go_sem,t0,t1,t7];exact⟨lo,q-1,rfl,by rw[show((q-1:Nat):Int)=(q:Int) - 1 by omega],h1,by omega,by omega,by omega⟩
    .have g1:¬(lo:Int)<(hi:Int):=by omega
     refine .inr ⟨_,by simp only[go_sem,t7,t8,g1];rfl,by simp,_,_,_,rfl,?_⟩;simp only[go_sem,t7];rw[show(lo:Int)=(Q:Int) by omega]) (H-L0) (by
    simp only[go_sem];exact⟨L0,H,rfl,rfl,q1,c0,c5,by omega⟩)
  simp only[go_sem,t7]
def Eo(n k i:Nat):List Int:=(List.range k).map fun j=>if j<i then 0 else((n / 1000000000^j%1000000000:Nat):Int)
theorem OW(n k i:Nat):(Eo n k i).length=k:=by simp[Eo]
theorem aiL(n k:Nat):Eo n k k=List.replicate k 0:=by
 refine yQ (by simp[Eo]) fun j E G=>?_
 simp only[Eo,yC,wZ,List.getElem_replicate];rw[sO (by simpa[Eo]using E)]
theorem afp(n k:Nat):Eo n k 0=pad n k:=by
 refine yQ (by simp[Eo,pad]) fun j E G=>?_
 simp[Eo,pad]
theorem OX{n k i:Nat}(E:i<k):(Eo n k (i+1)).set i ((n / 1000000000^i%1000000000:Nat):Int)=Eo n k i:=by
 refine yQ (by simp[Eo]) fun j G J=>?_
 rw[wW];simp only[Eo,yC,wZ]
 by_cases e:i=j
 .subst e;simp
 .rw[sQ e]
  by_cases h:j<i
  .rw[sO (by omega),sO h]
  .rw[sQ (by omega),sQ h]
theorem Rq{n k i:Nat}(h:i<k)(E:n / 1000000000^i%1000000000=0):Eo n k (i+1)=Eo n k i:=by
 rw[<- OX h,E];refine yQ (by simp[Eo]) fun j G J=>?_
 rw[wW]
 by_cases e:i=j
 .subst e
  rw[sO rfl];simp only[Eo,yC,wZ];rw[sO (by omega)];rfl
 .rw[sQ e]
theorem auf(xs:List Int)(k:Nat)(v:Int):(xs.flatMap cI).set k (I v)=(xs.set k v).flatMap cI:=by
 induction xs generalizing k with
 |nil=>rfl
 |cons x xs E=>
  cases k with
  |zero=>rfl
  |succ k=>show I x :: (xs.flatMap cI).set k (I v)=_;rw[E];rfl
theorem azv(n:Nat):rep n [V.sc (.int .i64 0)]=(List.replicate n (0:Int)).flatMap cI:=by
 induction n with
 |zero=>rfl
 |succ n E=>rw[fP,E,xu];rfl
theorem abv{σ:Store}{b:Nat}{xs:List Int}{w:Bool}(h:σ b=some ⟨xs.flatMap cI,1,w⟩){n:Nat}(hn:xs.length=n)(d:Nat):strip σ (d+1) (.rs b 0 n)=some (LI xs,[b]):=by
 rw[aS,h];simp only[zk,yN,yZ,yg,qN];rw[sO (by omega),zl (by rw[qN];omega),aX (fun x=>by rw[au,aQ,aY];rfl)];show some (V.ts _ n,[b])=_;rw[<- hn]
theorem aiM(a b i:Nat)(hb:b≠0):a / 1000000000^i%b=(a / 1000000000^(i+1)%b*1000000000+a / 1000000000^i%1000000000)%b/\a / b / 1000000000^i%1000000000=(a / 1000000000^(i+1)%b*1000000000+a / 1000000000^i%1000000000) / b:=by
 obtain⟨A,J⟩:∃A,A=a / 1000000000^(i+1):=⟨_,rfl⟩;obtain⟨D,G⟩:∃D,D=a / 1000000000^i%1000000000:=⟨_,rfl⟩;have h:=oL a i;rw[<- J,<- G]at h⊢;have Y:D<1000000000:=by rw[G];exact vX _ (by decide)
 have O:a / b / 1000000000^i=a / 1000000000^i / b:=by rw[wu,wu,wL]
 rw[O,<- h];have hA:A=b*(A / b)+A%b:=(Nat.div_add_mod A b).symm;obtain⟨q,eq⟩:∃q,q=A / b:=⟨_,rfl⟩;obtain⟨r,E⟩:∃r,r=A%b:=⟨_,rfl⟩;rw[<- eq,<- E]at hA;rw[<- E];have hr:r<b:=by rw[E];exact vX _ (by omega)
 have S:A*1000000000+D=r*1000000000+D+b*(q*1000000000):=by
  rw[hA,vZ,vG];omega
 rw[S];constructor
 .rw[Nat.add_mul_mod_self_left]
 .rw[Nat.add_mul_div_left _ _ (by omega:0<b),Nat.add_mul_mod_self_right]
  refine wK ?_;rw[uP (by omega)];have:(r+1)*1000000000<=b*1000000000:=zD _ (by omega);omega
theorem aiN(a b:Nat)(h0:b≠0)(la:ln a<=1000)(lb:ln b<=1000):fn ZM conv ext 247 [LI (dg a),LI (dg b)]=some (.AX [LI (dg (a / b)),LI (dg (a%b))]):=by
 have hb:=jW h0
 by_cases b3:b<1000000000
 .have h1:=akV a b (by show ln a<=_;omega) h0 b3
  have hr:a%b<b:=vX _ (by omega);have h2:=NT (a%b) (by omega);have z1:(0:Int)<1:=by decide
  have z3:(0:Int).toNat=0:=id rfl;have hd:dg b=[(b:Int)]:=by rw[oM h0,vF b3,oJ,wK b3]
  rw[hd];rw[mJ,nC [.tmp 4,.tmp 5] [] func247];simp only[go_sem,z1,z3,h1,h2]
 have c4:2<=ln b:=by
  refine zf fun hn=>?_
  have:=(jd (n:=b) (k:=1)).mp (by omega);have e:bp 1=1000000000:=rfl;omega
 have c5:((dg b).length:Int)≠1:=by unfold ln at c4;omega
 have c0:(((dg b).length:Int)==1)=false:=by simpa using c5
 obtain⟨N,eN⟩:∃N,N=ln a:=⟨_,rfl⟩;have hN:(dg a).length=N:=by rw[eN];rfl
 have e1:=jF N;have e2:8*(N:Int)<=281474976710656:=by omega
 have e3:(N:Int)<=9223372036854775807:=by omega
 have w1:=ZU (n:=(N:Int) - 1);have rz:=azv N;rw[<- aiL (a / b) N]at rz;rw[mJ,nC [.tmp 4,.tmp 5] [] func247];simp only[go_sem,c0,hN,e1,e2,e3,w1,rz,xP];generalize hL:iI _ _=y;obtain⟨x,rfl,T,σ,nx,rfl,t8,t9,hs⟩:=jS hL (fun i st=>i<=N/\st.T 0=LI (dg a)/\st.T 1=LI (dg b)/\st.T 8= .rs 0 0 N/\st.T 10=I ((i:Int) - 1)/\0<st.nx/\(st.T 9=LI (dg (a / 1000000000^i%b))\/(st.T 9= .nil/\a / 1000000000^i%b=0))/\st.σ 0=some ⟨(Eo (a / b) N i).flatMap cI,1,true⟩)
  (fun x=>∃T σ nx,x=(.exit 0,⟨T,σ,nx⟩)/\T 8= .rs 0 0 N/\(T 9=LI (dg (a%b))\/(T 9= .nil/\a%b=0))/\σ 0=some ⟨(Eo (a / b) N 0).flatMap cI,1,true⟩) (by
   clear hL;rintro i ⟨T,σ,nx⟩ ⟨hi,t0,t1,t8,t10,c6,t9,hs⟩;simp only at t0 t1 t8 t10 c6 t9 hs;cases i with
   |zero=>
    have g1:¬(0:Int)<=((0:Nat):Int) - 1:=by omega
    refine .inr ⟨_,by simp only[go_sem,t10,g1];rfl,by simp,_,_,_,rfl,by simp only[go_sem,t8],?_,hs⟩;have e:a / 1000000000^0%b=a%b:=by rw[Nat.pow_zero,vK]
    rw[e]at t9
    simpa only[go_sem]using t9
   |succ i=>
    have e4:((i+1:Nat):Int) - 1=(i:Int):=by omega
    rw[e4]at t10;have g1:=jF i;have g2:(i:Int)<(N:Int):=by omega
    have g3:i<N:=by omega
    have b8:i<(dg a).length:=by omega
    have g4:((dg a).flatMap cI)[i]?=some (I ((a / 1000000000^i%1000000000:Nat):Int)):=by
     rw[idx (xs:=dg a) (k:=i) b8,oQ b8]
    have g5:(dg a).flatMap cI≠[]:=fun e=>by have h:=qN (dg a);rw[e]at h;have h:0=(dg a).length:=h;omega
    have g6:=ZU (n:=(i:Int) - 1);obtain⟨G,J⟩:=aiM a b i h0;obtain⟨r,er⟩:∃r,r=a / 1000000000^(i+1)%b:=⟨_,rfl⟩;obtain⟨D,eD⟩:∃D,D=a / 1000000000^i%1000000000:=⟨_,rfl⟩;rw[<- er,<- eD]at G J;rw[<- er]at t9;rw[<- eD]at g4;have hD:D<1000000000:=by rw[eD];exact vX _ (by decide)
    have e0:r<b:=by rw[er];exact vX _ (by omega)
    obtain⟨R,eR⟩:∃R,R=r*1000000000+D:=⟨_,rfl⟩;rw[<- eR]at G J;have b4:ln r<=1000:=zL (jc (by omega)) lb;have e5:ln R<=1001:=by
     rw[jd];have h1:=(jd (n:=r) (k:=1000)).mp b4;have h2:bp 1001=1000000000*bp 1000:=qW 1000;omega
    have hR:R<b*1000000000:=by
     have:(r+1)*1000000000<=b*1000000000:=zD _ (by omega);omega
    have k3:=WY R b (by show ln R<=_;omega) (by show ln b<=_;omega);have O:=amo R b;have tr:Bl ((D:Int) :: dg r)=dg R:=CW (Dg.app (xs:=[(D:Int)]) (fun x hx=>by rw[yD]at hx;omega) (oU r)) (by
     show(D:Int)+1000000000*vl (dg r)=(R:Int);rw[Zf];omega)
    have sh:Short ((D:Int) :: dg r):=by unfold Short;rw[zV];unfold ln at b4;omega
    have k2:=KZ ((D:Int) :: dg r) sh;rw[tr]at k2;have sg:b<=R->fn ZM conv ext 251 [LI (dg R),LI (dg b)]=some (I ((R / b:Nat):Int))/\fn ZM conv ext 239 [I ((R / b:Nat):Int)]=some (LI (dg (R / b)))/\fn ZM conv ext 227 [LI (dg b),LI (dg (R / b))]=some (LI (dg (b*(R / b))))/\fn ZM conv ext 246 [LI (dg R),LI (dg (b*(R / b)))]=some (LI (dg (R-b*(R / b)))):=fun hle=>by
     have hq:R / b<1000000000:=by rw[uP (by omega),wL];exact hR
     have lq:=jV hq;exact⟨amq R b (by omega) hle hR (by omega),NT _ (by omega),dN b _ (by omega) (by omega),WZ R _ (by omega) (by rw[wL];exact tV _ _)⟩
    have a8:R-b*(R / b)=R%b:=by have:=Nat.div_add_mod R b;omega
    have nz:¬0=nx:=by omega
    have b9:¬0=nx+1:=by omega
    by_cases Y:T 9= .nil\/r=0
    ·-- nothing stands behind the limb
     have b5:r=0:=by
      rcases Y with h|h
      .rcases t9 with h'|⟨_,h'⟩
       .rw[h]at h';cases h'
       .exact h'
      .exact h
     have d0:dg r=[]:=by rw[b5,oJ]
     rw[d0]at k2;have c2:fn ZM conv ext 243 [.ts [I (D:Int)] 1]=some (LI (dg R)):=k2
     have S:T 9= .nil\/T 9= .ts [] 0:=by
      rcases t9 with h|h
      .right;rw[h,d0];rfl
      .exact .inl h.1
     have ha:Ah (upd σ nx (some ⟨[I (D:Int)],1,true⟩)) (nx+1) 1 8 (.rs nx 0 1) [] 0=some (.rs nx 0 1,upd σ nx (some ⟨[I (D:Int)],1,true⟩),nx+1):=by
      have e:(upd σ nx (some ⟨[I (D:Int)],1,true⟩)) nx=some ⟨[I (D:Int)],1,true⟩:=Zj _ _ _;unfold Ah;simp only[e,if_true]
     have bh:behind (upd σ nx (some ⟨[I (D:Int)],1,true⟩)) [nx] (LI (dg R)) 0=some ⟨(Eo (a / b) N (i+1)).flatMap cI,1,true⟩:=by
      rw[JW (by simp;omega),Zk _ _ nz];exact hs
     obtain⟨c3,e3⟩:∃c3,c3=behind (upd σ nx (some ⟨[I (D:Int)],1,true⟩)) [nx] (LI (dg R)):=⟨_,rfl⟩;rw[<- e3]at bh
     by_cases E:R<b
     .have c1:Bg R b<0:=O.mpr E
      have b6:R%b=R:=wK E;have b7:R / b=0:=vF E;rw[b6]at G;rw[b7]at J;rcases S with S|S
      all_goals
       refine .inl ⟨_,by simp only[go_sem,t0,t1,t8,t10,S,g1,g2,g3,g4,g5,g6,hN,ha,c2,<- e3,k3,c1,nz,b9,iZ];rfl,i,by omega,?_⟩;simp only[go_sem,t0,t1,t8];refine⟨by omega,by omega,.inl (by rw[G]),?_⟩;rw[<- Rq (by omega) J];exact bh
     .have c1:¬Bg R b<0:=fun h=>E (O.mp h)
      obtain⟨k4,k5,k6,k7⟩:=sg (by omega);rw[a8,<- G]at k7;have w8:((Eo (a / b) N (i+1)).flatMap cI).length=N:=by rw[qN,OW]
      have a1:((Eo (a / b) N (i+1)).flatMap cI).set i (I ((R / b:Nat):Int))=(Eo (a / b) N i).flatMap cI:=by
       rw[auf,<- J,OX (by omega)]
      rcases S with S|S
      all_goals
       refine .inl ⟨_,by simp only[go_sem,t0,t1,t8,t10,S,g1,g2,g3,g4,g5,g6,hN,ha,c2,<- e3,k3,c1,k4,k5,k6,k7,bh,w8,a1,nz,b9,iZ];rfl,i,by omega,?_⟩;simp only[go_sem,t0,t1,t8];exact⟨by omega,by omega,.inl trivial⟩
    .have S:T 9=LI (dg r):=by
      rcases t9 with h|⟨h,_⟩
      .exact h
      .exact absurd (.inl h) Y
     have b5:¬r=0:=fun h=>Y (.inr h)
     have c7:¬(dg r).length=0:=fun h=>by
      have:=jW b5;unfold ln at this;omega
     have c9:(dg r).length<=1000:=b4;have ha:=rE (σ:=upd σ nx (some ⟨[I (D:Int)],1,true⟩)) (nx:=nx+1) (bytes:=8) (b:=nx) (len:=1) (m:=(dg r).length) (B:=⟨[I (D:Int)],1,true⟩) (row:=(dg r).flatMap cI) (Zj _ _ _) rfl rfl c7 (by unfold maxLen;omega) (by omega) (qO _);obtain⟨a6,e1⟩:∃a6,a6=upd (upd (upd σ nx (some ⟨[I (D:Int)],1,true⟩)) nx none) (nx+1) (some ⟨[I (D:Int)]++(dg r).flatMap cI,1,true⟩):=⟨_,rfl⟩;rw[<- e1]at ha;have b1:a6 (nx+1)=some ⟨((D:Int) :: dg r).flatMap cI,1,true⟩:=by rw[e1,Zj];rfl
     have b0:a6 0=some ⟨(Eo (a / b) N (i+1)).flatMap cI,1,true⟩:=by rw[e1,Zm,Zm,Zm];exact hs
     have s1:=fun d=>abv b1 (n:=1+(dg r).length) (by rw[zV];omega) d
     have tk:((dg r).flatMap cI).take (dg r).length=(dg r).flatMap cI:=zl (by rw[qN];omega);have a7:(dg r).length<=((dg r).flatMap cI).length:=by rw[qN];omega
     obtain⟨σ2,e2⟩:∃σ2,σ2=behind a6 [nx+1] (LI (dg R)):=⟨_,rfl⟩;have b2:σ2 0=some ⟨(Eo (a / b) N (i+1)).flatMap cI,1,true⟩:=by
      rw[e2,JW (by simp)];exact b0
     by_cases E:R<b
     .have c1:Bg R b<0:=O.mpr E
      have b6:R%b=R:=wK E;have b7:R / b=0:=vF E;rw[b6]at G;rw[b7]at J;refine .inl ⟨_,by simp only[go_sem,t0,t1,t8,t10,S,g1,g2,g3,g4,g5,g6,hN,tk,a7,ha,s1,k2,<- e2,k3,c1];rfl,i,by omega,?_⟩;simp only[go_sem,t0,t1,t8];refine⟨by omega,by omega,.inl (by rw[G]),?_⟩;rw[<- Rq (by omega) J];exact b2
     .have c1:¬Bg R b<0:=fun h=>E (O.mp h)
      obtain⟨k4,k5,k6,k7⟩:=sg (by omega);rw[a8,<- G]at k7;have w8:((Eo (a / b) N (i+1)).flatMap cI).length=N:=by rw[qN,OW]
      have a1:((Eo (a / b) N (i+1)).flatMap cI).set i (I ((R / b:Nat):Int))=(Eo (a / b) N i).flatMap cI:=by
       rw[auf,<- J,OX (by omega)]
      refine .inl ⟨_,by simp only[go_sem,t0,t1,t8,t10,S,g1,g2,g3,g4,g5,g6,hN,tk,a7,ha,s1,k2,<- e2,k3,c1,k4,k5,k6,k7,b2,w8,a1];rfl,i,by omega,?_⟩;simp only[go_sem,t0,t1,t8];exact⟨by omega,by omega,.inl trivial⟩) N (by
   simp only[go_sem];refine .inr ?_;have:a<1000000000^N:=by
    have:=(jd (n:=a) (k:=N)).mp (by omega);rw[qY]at this;omega
   rw[vF this,Nat.zero_mod])
 have s8:=fun d=>abv hs (n:=N) (OW _ _ _) d
 rw[afp]at s8;have k9:=KZ (pad (a / b) N) (by unfold Short;rw[iL];omega);have c8:a / b<1000000000^N:=by
  have:=(jd (n:=a) (k:=N)).mp (by omega);rw[qY]at this;have:=xE a b;omega
 rw[IQ N (a / b) c8]at k9;rcases t9 with t9|⟨t9,S⟩
 .simp only[go_sem,t8,t9,s8,k9]
 .rw[S,oJ]
  simp only[go_sem,t8,t9,s8,k9];rfl
theorem ac2{σ:Store}{ids:List Nat}{t:V}{b:Nat}{c:List V}{st:Nat}{wr:Bool}(h:σ b=some ⟨c,st,wr⟩):∃E,behind σ ids t b=some ⟨c,st,E⟩:=by
 have J:∀(ids:List Nat) {σ:Store} {wr:Bool},σ b=some ⟨c,st,wr⟩->∃E,DR σ ids b=some ⟨c,st,E⟩:=by
  intro ids
  induction ids with
  |nil=>intro σ wr h;exact⟨wr,h⟩
  |cons i ids G=>
   intro σ wr h;unfold DR
   by_cases e:b=i
   .subst e
    exact G (σ:=upd σ b ((σ b).map fun B=>{ B with wr:=false })) (wr:=false) (by rw[Zj,h];rfl)
   .exact G (wr:=wr) (by rw[Zk _ _ e];exact h)
 unfold behind
 split
 .exact⟨wr,h⟩
 .exact J ids h
def Rd(σ:Store)(v:V)(xs:List Int):Prop:=v=LI xs\/(v= .nil/\xs=[])\/∃b w,v= .rs b 0 xs.length/\σ b=some ⟨xs.flatMap cI,1,w⟩
theorem Rd.strip{σ:Store}{v:V}{xs:List Int}(h:Rd σ v xs):∃ids,∀d,TV.strip σ (d+1) v=some (LI xs,ids):=by
 rcases h with rfl|⟨rfl,rfl⟩|⟨b,w,rfl,h⟩
 .exact⟨[],fun d=>aN _ _ _ _⟩
 .exact⟨[],fun d=>aT _ _⟩
 .exact⟨[b],fun d=>abv h rfl d⟩
theorem Rd.len{P:Program}{σ:Store}{v:V}{xs:List Int}(h:Rd σ v xs){t:TypeId}(E:(xI P t).slice=true):DI P t v=some (I xs.length):=by
 rcases h with rfl|⟨rfl,rfl⟩|⟨b,w,rfl,h⟩
 .exact VP E
 .exact nX E
 .exact nV E
theorem Rd.behind{σ:Store}{v:V}{xs:List Int}(h:Rd σ v xs)(ids:List Nat)(t:V):Rd (TV.behind σ ids t) v xs:=by
 rcases h with h|h|⟨b,w,E,G⟩
 .exact .inl h
 .exact .inr (.inl h)
 .obtain⟨w',J⟩:=ac2 (ids:=ids) (t:=t) G
  exact .inr (.inr ⟨b,w',E,J⟩)
theorem anH(m n:Nat)(lm:ln m<=1000)(l2:ln n<=1000):fn ZM conv ext 236 [LI (dg m),LI (dg n)]=some (LI (dg (Nat.gcd m n))):=by
 obtain⟨G,eG⟩:∃G,G=Nat.gcd m n:=⟨_,rfl⟩;rw[<- eG];have hm:(dg m).length<=maxLen/\(dg m).length*8<=140737488355328:=by unfold ln at lm;unfold maxLen;omega
 have hn:(dg n).length<=maxLen/\(dg n).length*8<=140737488355328:=by unfold ln at l2;unfold maxLen;omega
 have z:∀k:Nat,(dg k).length=0↔k=0:=fun k=>by
  constructor
  .intro h
   refine zf fun h0=>?_
   have:=jW h0;unfold ln at this;omega
  .rintro rfl;rw[oJ];rfl
 rw[mJ,nC [.tmp 4] [] func236];rcases (show(m=0/\n=0)\/(m=0/\¬n=0)\/(¬m=0/\n=0)\/(¬m=0/\¬n=0) by omega)with ⟨E,J⟩|⟨E,J⟩|⟨E,J⟩|⟨E,J⟩
 case' inl=>
  have dm:dg m=[]:=by rw[E,oJ]
  have dn:dg n=[]:=by rw[J,oJ]
  rw[dm,dn];simp only[go_sem]
 case' inr.inl=>
  have dm:dg m=[]:=by rw[E,oJ]
  have nn:¬(dg n).length=0:=fun h=>J ((z n).mp h)
  rw[dm];simp only[go_sem,nn,hn]
 case' inr.inr.inl=>
  have nm:¬(dg m).length=0:=fun h=>E ((z m).mp h)
  have dn:dg n=[]:=by rw[J,oJ]
  rw[dn];simp only[go_sem,nm,hm]
 case' inr.inr.inr=>
  have nm:¬(dg m).length=0:=fun h=>E ((z m).mp h)
  have nn:¬(dg n).length=0:=fun h=>J ((z n).mp h)
  simp only[go_sem,nm,hm,nn,hn]
 all_goals
  generalize hL:iI _ _=y;obtain⟨r,rfl,hr⟩:=jS hL (fun k st=>∃x:Nat,Rd st.σ (st.T 5) (dg x)/\Rd st.σ (st.T 6) (dg k)/\Nat.gcd x k=G/\ln x<=1000/\ln k<=1000)
   (fun r=>∃T σ nx,(r=(.exit 0,⟨T,σ,nx⟩)/\Rd σ (T 5) (dg G))\/(r=(.ret,⟨T,σ,nx⟩)/\T 4=LI (dg G))) (by
    clear hL;rintro k ⟨T,σ,nx⟩ ⟨x,S,h6,hg,lx,lk⟩;simp only at S h6;have Y:=h6.len (P:=ZM) (t:=29) (by kernel_rfl);have l5:=S.len (P:=ZM) (t:=29) (by kernel_rfl)
    by_cases hk:k=0
    .subst hk
     rw[oJ]at Y;have c1:¬(0:Int)<(([]:List Int).length:Int):=by simp
     refine .inr ⟨_,by simp only[go_sem,Y,c1];rfl,by simp,_,_,_,.inl ⟨rfl,?_⟩⟩;rw[Nat.gcd_zero_right]at hg;rw[<- hg]
     simpa only[go_sem]using S
    .have c1:(0:Int)<((dg k).length:Int):=by have:=jW hk;unfold ln at this;omega
     obtain⟨i5,s5⟩:=S.strip;obtain⟨i6,s6⟩:=h6.strip
     by_cases O:ln x<3/\ln k<3
     .have c2:((dg x).length:Int)<3:=by have:=O.1;unfold ln at this;omega
      have c3:((dg k).length:Int)<3:=by have:=O.2;unfold ln at this;omega
      have b1:x<1000000000000000000:=by
       have:=(jd (n:=x) (k:=2)).mp (by omega);have e:bp 2=1000000000000000000:=rfl;omega
      have b2:k<1000000000000000000:=by
       have:=(jd (n:=k) (k:=2)).mp (by omega);have e:bp 2=1000000000000000000:=rfl;omega
      have t1:=QG x b1;have t2:=QG k b2;have t3:=aoC x k (by omega) (by omega);rw[hg]at t3;refine .inr ⟨_,by simp only[go_sem,l5,Y,c1,c2,c3,s5,s6,t1,t2,t3];rfl,by simp,_,_,_,.inr ⟨rfl,by simp only[go_sem]⟩⟩
     .have t4:=aiN x k hk lx lk
      have a1:x%k<k:=vX _ (by omega)
      have fin:∀T' σ' nx',T' 5=T 6->T' 6=LI (dg (x%k))->σ'=behind σ (i5++i6) (.AX [LI (dg (x / k)),LI (dg (x%k))]) ->
        ∃k',k'<k/\∃x':Nat,Rd (⟨T',σ',nx'⟩:St).σ ((⟨T',σ',nx'⟩:St).T 5) (dg x')/\Rd (⟨T',σ',nx'⟩:St).σ ((⟨T',σ',nx'⟩:St).T 6) (dg k')/\Nat.gcd x' k'=G/\ln x'<=1000/\ln k'<=1000:=fun T' σ' nx' e5 e6 a6=>by
       refine⟨x%k,a1,k,?_,.inl e6,?_,lk,zL (jc (by omega)) lk⟩
       .show Rd σ' (T' 5) (dg k)
        rw[e5,a6];exact h6.behind _ _
       .rw[<- hg,Nat.gcd_comm x k,Nat.gcd_rec k x,Nat.gcd_comm]
      by_cases c2:((dg x).length:Int)<3
      .have c3:¬((dg k).length:Int)<3:=fun h=>O ⟨by unfold ln;omega,by unfold ln;omega⟩
       refine .inl ⟨_,by simp only[go_sem,l5,Y,c1,c2,c3,s5,s6,t4];rfl,fin _ _ _ (by simp only[go_sem]) (by simp only[go_sem]) (by simp only[go_sem])⟩
      .refine .inl ⟨_,by simp only[go_sem,l5,Y,c1,c2,s5,s6,t4];rfl,fin _ _ _ (by simp only[go_sem]) (by simp only[go_sem]) (by simp only[go_sem])⟩) n (by
    refine⟨m,?_,?_,eG.symm,lm,l2⟩
    all_goals simp only[go_sem]
    all_goals first
     |exact .inr (.inl ⟨rfl,by assumption⟩)
     |exact .inr (.inr ⟨_,true,rfl,rfl⟩)
     |(refine .inr (.inr ⟨_,true,rfl,?_⟩);rw[Zm,Zj])
     |exact .inr (.inl ⟨rfl,by rw[E,oJ]⟩)
     |exact .inr (.inl ⟨rfl,by rw[J,oJ]⟩))
  rcases hr with ⟨T,σ,nx,⟨rfl,S⟩|⟨rfl,t4⟩⟩
  .obtain⟨ids,s5⟩:=S.strip
   simp only[go_sem,s5]
  .simp only[go_sem,t4]
theorem abw(σ:Store)(b:Nat)(cells:List V)(st:Nat)(wr:Bool)(t:V):behind (upd σ b (some ⟨cells,st,wr⟩)) [b] t=upd σ b (some ⟨cells,st,wr && flat depth t⟩):=by
 unfold behind;cases E:flat depth t with
 |true=>simp
 |false=>
  simp only[List.isEmpty_cons,Bool.or_self,yE,if_false,wY];unfold DR DR;rw[Zj,Zi];rfl
attribute [go_sem] abw
def Vg:V:=.AX [.ts [] 0,Bo false]
def XW(s:Structure)(l:List Int)(r:V):Prop:=(¬(Bf s/\AQ s.bI.length l)/\r=Vg)\/(Bf s/\AQ s.bI.length l/\((r=Vg/\((JA s l).None\/(JA s l).Open)) \/
 ∃x:Nat->Rat,(JA s l).Best x/\(∀j,j<DZ s->Ln 24 (x j))/\r=Ez (Gv (cols s s.members.length) ((List.range (DZ s)).map x) s.members.length (DZ s))))
theorem Jg{s:Structure}(h:Aj s){l:List Int}(hl:l.length<=maxLen):∃r,fn ZM Aa Ak 40 [.agg (jI s),LI l]=some r/\XW s l r:=by
 have G:=ab_ s l h hl
 by_cases E:Bf s/\AQ s.bI.length l
 .obtain⟨J,S⟩:=E
  rw[iC J,iC S]at G;have hb:∀x∈l,-100<=x/\x<=100:=fun x hx=>kK (S.2 x hx)
  have k2:=Qd J.sg S.1 hb;obtain⟨r0,Y,hr⟩:=amj J hb;unfold C9 at k2 Y;rw[mJ,nC [.tmp 4,.tmp 5] [] func40];rcases hr with ⟨rfl,h3⟩|⟨x,h3,h4,rfl⟩
  .refine⟨_,by simp only[go_sem,G,k2,Y];rfl,.inr ⟨J,S,.inl ⟨rfl,h3⟩⟩⟩
  .obtain⟨O,eO⟩:∃O,O=Gv (cols s s.members.length) ((List.range (DZ s)).map x) s.members.length (DZ s):=⟨_,rfl⟩
   have a1:∀o∈O,LnO 24 o:=by
    rw[eO];exact UA (fun y hy=>by
     obtain⟨j,hj,rfl⟩:=List.mem_map.mp hy;exact h4 j (List.mem_range.mp hj)) _
   have a6:O.length<=1000:=by rw[eO,m_];have:=J.2.1;omega
   have k4:=amm O a1 a6;rw[<- eO]at Y;refine⟨Ez O,?_,.inr ⟨J,S,.inr ⟨x,h3,h4,by rw[eO]⟩⟩⟩;unfold Ez at k4⊢;cases hq:B_ O with
   |none=>rw[hq]at k4;simp only[go_sem,G,k2,Y,k4]
   |some qs=>rw[hq]at k4;simp only[go_sem,G,k2,Y,k4]
 .have hf:(pb (Bf s) && pb (AQ s.bI.length l))=false:=by
   by_cases a:Bf s
   .have:¬AQ s.bI.length l:=fun b=>E ⟨a,b⟩
    rw[iD this,wY]
   .rw[iD a,wM]
  rw[hf]at G;rw[mJ,nC [.tmp 4,.tmp 5] [] func40];refine⟨_,by simp only[go_sem,G];rfl,.inl ⟨E,rfl⟩⟩
end Go.Proofs.YtjknobpihkmilaaGreat
