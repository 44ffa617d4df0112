import Derived.Test.YtkpdoehbhmipcaaGreatTb5
set_option linter.unusedSimpArgs false
set_option linter.unusedVariables false
set_option linter.unusedSectionVars false
set_option linter.defProp false
set_option maxRecDepth 10000
set_option maxHeartbeats 4000000
open Go.Proofs.Tryz renaming prog->Ze
open Go.Proofs.Tryz
open Bool renaming and_eq_true->yc,and_false->wJ,true_and->vw,false_and->uj
open Classical renaming byContradiction->zf
open Int renaming lt_irrefl->zk,natCast_mul->zC,toNat_natCast->yS,tdiv_eq_ediv_of_nonneg->yQ,natAbs_mul_self->wG
open List renaming getElem?_eq_getElem->zy,getD_eq_getElem?_getD->zx,getElem_mem->zu,take_of_length_le->zo,length_append->zl,length_take->zh,eq_nil_of_length_eq_zero->zZ,mem_cons_of_mem->zY,getElem?_append_left->zW,length_map->zV,flatMap_append->zT,mem_cons_self->zQ,flatMap_cons->zO,getElem?_append_right->zN,append_nil->zM,getElem?_map->z_,drop_zero->yw,length_drop->yj,getElem?_eq_none->yg,take_length->yZ,getElem_of_mem->yV,drop_eq_getElem_cons->yU,length_eraseIdx_of_lt->yT,length_replicate->yR,take_add_one->yN,nil_append->yL,length_set->yK,ext_getElem->yE,drop_of_length_le->xZ,map_append->xQ,map_congr_left->xO,getElem_map->xK,mem_of_mem_take->xH,take_append_drop->wQ,all_eq_true->wL,eraseIdx_eq_take_drop_succ->vG,getElem_take->uw,getElem?_replicate->um,flatMap_replicate->uf,all_cons->uT,length_range->uS,replicate_succ'->uQ,drop_drop->uK,filter_append->tZ
open Nat renaming le_refl->zq,not_lt_zero->zU,le_trans->zL,mul_le_mul_right->zK,zero_add->yu,mul_one->yO,mul_le_mul->yM,succ_mul->yG,div_one->xC,add_assoc->wK,zero_mul->vC,eq_zero_of_gcd_eq_zero_right->uG
open Option renaming bind_some->zi,getD_some->yB
open Prod.mk renaming injEq->t_
namespace Go.Proofs.YtkpdoehbhmipcaaGreat
open Go Go.TV Go.Lp
attribute [-go_sem] rH
theorem aaS(s:Structure)(E:List Int):E.flatMap (Gx s)=(E.flatMap (Ep s)).flatMap id:=by
 induction E with
 |nil=>rfl
 |cons j E G=>
  rw[zO,zO,zT,G];show Gx s j++_=(((List.range s.members.length).map (eX s j))++(((List.range s.members.length).map (eY s j))++[]))++_;rw[zM];rfl
theorem apm{s:Structure}(h:SG s)(hm:s.members=[]):fn Ze conv ext 190 [.agg (cStructure s)]=some (LI []):=by
 have O:=mJ s;have Y:=h.nj;have G:=ab2 h;rw[mW,nK [.tmp 2] [] func190];unfold cStructure at G⊢;rw[hm]at G⊢;have G:fn Ze conv ext 115 [.agg [LL cJoint s.joints,.ts [] 0]]=some (LI (free s)):=G
 simp only[go_sem,G];generalize J:gI _ _=y;obtain⟨r,rfl,T',σ',nx',rfl,S⟩:=pJ J (free s).length (fun i st=>st.T 1= .rp 0 0/\st.T 14=LI (free s)/\st.T 15=I (free s).length/\st.T 16=I i/\st.T 3= .nil/\0<st.nx/\st.σ 0=some ⟨[LL cJoint s.joints,.ts [] 0],0,true⟩)
  (fun r=>∃T σ nx',r=(.exit 0,⟨T,σ,nx'⟩)/\T 3= .nil) (by
   clear J;rintro i ⟨T,σ,nx⟩ hi ⟨t1,t14,t15,t16,t3,E,s0⟩;simp only at t1 t14 t15 t16 t3 E s0;have f1:(i:Int)<((free s).length:Int):=by omega
   have f2:=jL i;have f3:=Zl (n:=(i:Int)+1);have f4:=Aw (free s) i hi;have f5:=idx hi;refine cu ?_
   conv=>
    enter [1,r,1,1]
    simp only[go_sem,t1,t14,t15,t16,t3,s0,f1,f2,f4,f5]
   generalize J:gI _ _=z;obtain rfl:=jf J (by simp only[go_sem];rfl) (by simp);refine⟨_,by simp only[go_sem,t3,t16,f3];rfl,.inl ⟨_,rfl,?_⟩⟩;simp only[go_sem,t1,t14,t15,t16,t3];exact⟨rfl,E,s0⟩) (by
   rintro ⟨T,σ,nx⟩ ⟨t1,t14,t15,t16,t3,E,s0⟩;simp only at t1 t14 t15 t16 t3 E s0;refine⟨_,by simp only[go_sem,t15,t16,zk];rfl,by simp,_,_,_,rfl,?_⟩;simp only[go_sem,t3]) (by
   simp only[go_sem];rfl)
 (simp only[go_sem,S])<;>rfl
theorem apn{s:Structure}(h:SG s):fn Ze conv ext 190 [.agg (cStructure s)]=some (LI ((free s).flatMap (Gx s))):=by
 by_cases hm:s.members=[]
 .have e:(free s).flatMap (Gx s)=[]:=by
   rw[List.flatMap_eq_nil_iff];intro j _;unfold Gx;rw[hm];rfl
  rw[e];exact apm h hm
 .exact avq h (List.length_pos_iff.mpr hm)
theorem Qy{C:Nat}:∀ {xs:List (List Int)} {i c:Nat},(∀x∈xs,x.length=C)->(hi:i<xs.length)->c<C->(xs.flatMap id)[i*C+c]?=(xs[i])[c]?
 |[],i,c,_,hi,_=>absurd hi (zU _)
 |x :: xs,0,c,hx,_,hc=>by
  rw[zO,vC,yu,zW (by rw[id,hx x zQ];exact hc)];rfl
 |x :: xs,i+1,c,hx,hi,hc=>by
  have E:=hx x zQ;rw[zO,zN (by rw[id,E,yG];omega),id,E,show(i+1)*C+c-C=i*C+c by rw[yG];omega,Qy (fun y G=>hx y (zY _ G)) (by simpa using hi) hc];rfl
def alG(σ:Store)(nx:Nat)(G:List Int)(R C:Nat)(B:V)(p:Nat):Prop:=(p=0/\σ 3=some ⟨[I R,I C,.nil,B,.rs 2 0 C],0,true⟩)\/∃E,0<p/\3<E/\E<nx/\σ 3=some ⟨[I R,I C,.rs E 0 p,B,.rs 2 0 C],0,true⟩/\σ E=some ⟨(G.take p).flatMap cI,1,true⟩
theorem ah9{s:Structure}(h:SG s){l:List Int}(hl:l.length=2*s.joints.length)(hb:∀x∈l,-100<=x/\x<=100) :
  fn Ze conv ext 129 [.agg (cStructure s),LI l]=some (.agg (CG (Ls s) (Du s) (Uf s) (J_ s l) (List.replicate (Du s) 0))):=by
 have c7:=h.nm;have i6:=mJ s;have X9:=h.nj;have i7:=pV s s.members.length;have k1:=XF h;have k2:=apn h;have k3:=ab2 h;have k4:=apl h hl hb;have c8:=JB s;obtain⟨E,hE⟩:∃E,E=CO s (free s).length:=⟨_,rfl⟩;obtain⟨K,hK⟩:∃K,K=cols s s.members.length:=⟨_,rfl⟩;obtain⟨RF,b6⟩:∃RF,RF=(free s).flatMap (Gx s):=⟨_,rfl⟩;obtain⟨R,eR⟩:∃R,R=Ls s:=⟨_,rfl⟩;obtain⟨C,eC⟩:∃C,C=Du s:=⟨_,rfl⟩;have hR:E.length=R:=by rw[hE,eR];exact c8
 have hC:K.length=C:=by rw[hK,eC];rfl
 have c9:R<=12:=by rw[eR];unfold Ls;omega
 have e0:C<=16:=by rw[<- hC,hK];omega
 have b7:(Uf s).length=R*C:=by rw[eR,eC];exact Lm s
 have i9:R*C<=12*16:=yM c9 e0;rw[<- hK]at k1;rw[<- b6]at k2;rw[<- eR,<- eC];have k1:fn Ze conv ext 189 [.agg (cStructure s)]=some (.Au [.ts ((K.map FD).flatMap cI) C,LI (K.map F9)]):=by rw[k1,<- hC];show some (V.Au [V.ts _ (K.map FD).length,_])=_;rw[zV]
 have f0:=jL C;have f5:8*(C:Int)<=281474976710656:=by omega
 have f6:(C:Int)<=9223372036854775807:=by omega
 have e2:2*((free s).length:Int)=(R:Int):=by rw[eR];unfold Ls;omega
 have w2:=Zl (n:=(R:Int));rw[mW,nK [.cell 4 142] [4,11] func129];unfold cStructure at k1 k2 k3 k4⊢;simp only[go_sem,k1,k2,k3,k4,e2,w2,f0,f5,f6];generalize hL:gI _ _=y;obtain⟨J,a7⟩:∃J,J=Uf s:=⟨_,rfl⟩;rw[<- a7]at b7;have e1:RF=E.flatMap id:=by
  rw[b6,hE,aaS];unfold CO;rw[yZ]
 have b8:∀r∈E,r.length=s.members.length:=by rw[hE];exact fun r hr=>Qg hr
 have e5:∀i c (hi:i<R) (hc:c<C) (hq:i*C+c<J.length),J[i*C+c]=(K[c]'(by omega)).2*(E[i]'(by omega)).getD (K[c]'(by omega)).1.toNat 0:=fun i c hi hc hq=>by
  have:=mY (fun r:List Int=>K.map fun p=>p.2*r.getD p.1.toNat 0) (C:=C) (fun _=>by rw[zV];exact hC) E (i:=i) (c:=c) (by omega) hc;rw[z_,zy (l:=K) (i:=c) (by omega)]at this;have e2:J=E.flatMap fun r=>K.map fun p=>p.2*r.getD p.1.toNat 0:=by rw[a7,hE,hK];rfl
  rw[<- e2,zy hq]at this;exact Option.some.inj this
 have e6:∀x∈J,-1000<=x/\x<=1000:=by rw[a7];exact aaC h
 obtain⟨x,rfl,T1,b2,oI,rfl,t4,t9,j0,e7,e9,h5⟩:=pJ hL R (fun i st=>st.T 4= .rp 1 0/\st.T 5= .ts ((K.map FD).flatMap cI) C/\st.T 6=LI (K.map F9)/\st.T 7=I s.members.length/\st.T 8=LI RF/\st.T 9= .rp 3 0/\st.T 10=I i/\3<st.nx/\st.σ 1=some ⟨[I 0,I 0,.nil,.nil,.nil],0,true⟩/\st.σ 2=some ⟨(List.replicate C 0).flatMap cI,1,true⟩/\alG st.σ st.nx J R C (LI (J_ s l)) (i*C))
  (fun x=>∃T σ nx,x=(.exit 0,⟨T,σ,nx⟩)/\T 4= .rp 1 0/\T 9= .rp 3 0/\3<nx/\σ 1=some ⟨[I 0,I 0,.nil,.nil,.nil],0,true⟩/\σ 2=some ⟨(List.replicate C 0).flatMap cI,1,true⟩/\alG σ nx J R C (LI (J_ s l)) (R*C)) (by
   clear hL;rintro i ⟨T,σ,nx⟩ hi ⟨t4,t5,t6,t7,t8,t9,t10,G,O,S,hA⟩;simp only at t4 t5 t6 t7 t8 t9 t10 G O S hA;have f1:(i:Int)<(R:Int):=by omega
   have f2:=jL i;have f3:=Zl (n:=(i:Int)+1);obtain⟨vA,a1⟩:∃vA,σ 3=some ⟨[I R,I C,vA,LI (J_ s l),.rs 2 0 C],0,true⟩:=by
    rcases hA with ⟨-,Y⟩|⟨ba,-,-,-,Y,-⟩<;>exact⟨_,Y⟩
   refine cu ?_
   conv=>
    enter [1,r,1,1]
    simp only[go_sem,t5,t9,t10,a1,f1]
   generalize hL:gI _ _=z;obtain⟨x,rfl,T2,σ2,CJ,rfl,t4,t5,t6,t7,t8,t9,t10,h6,O,S,b9⟩:=pJ hL C (fun c st=>st.T 4= .rp 1 0/\st.T 5= .ts ((K.map FD).flatMap cI) C/\st.T 6=LI (K.map F9)/\st.T 7=I s.members.length/\st.T 8=LI RF/\st.T 9= .rp 3 0/\st.T 10=I i/\st.T 42= .ts ((K.map FD).flatMap cI) C/\st.T 43=I C/\st.T 44=I c/\3<st.nx/\st.σ 1=some ⟨[I 0,I 0,.nil,.nil,.nil],0,true⟩/\st.σ 2=some ⟨(List.replicate C 0).flatMap cI,1,true⟩/\alG st.σ st.nx J R C (LI (J_ s l)) (i*C+c))
    (fun x=>∃T σ nx,x=(.exit 2,⟨T,σ,nx⟩)/\T 4= .rp 1 0/\T 5= .ts ((K.map FD).flatMap cI) C/\T 6=LI (K.map F9)/\T 7=I s.members.length/\T 8=LI RF/\T 9= .rp 3 0/\T 10=I i/\3<nx/\σ 1=some ⟨[I 0,I 0,.nil,.nil,.nil],0,true⟩/\σ 2=some ⟨(List.replicate C 0).flatMap cI,1,true⟩/\alG σ nx J R C (LI (J_ s l)) (i*C+C)) (by
     clear hL;rintro c ⟨T,σ,nx⟩ hc ⟨t4,t5,t6,t7,t8,t9,t10,t42,t43,t44,G,O,S,hA⟩;simp only at t4 t5 t6 t7 t8 t9 t10 t42 t43 t44 G O S hA;have h7:K[c]'(by omega)∈cols s s.members.length:=by rw[<- hK];exact zu _
     obtain⟨⟨q,c0,h8⟩,j1⟩:=pU h7;obtain⟨u,eu⟩:∃u,u=(K[c]'(by omega)).2:=⟨_,rfl⟩;have b3:i*C+c<J.length:=by
      have:(i+1)*C<=R*C:=zK _ (by omega);rw[yG]at this;omega
     obtain⟨e,ee⟩:∃e,e=(E[i]'(by omega)).getD q 0:=⟨_,rfl⟩;have b4:=e5 i c hi hc b3;rw[c0,yS,<- ee,<- eu]at b4;have h9:=e6 _ (zu b3);rw[b4]at h9;have g1:(c:Int)<(C:Int):=by omega
     have g2:=jL c;have g3:=Zl (n:=(c:Int)+1);have g4:=idx (xs:=K.map FD) (k:=c) (by rw[zV];omega);rw[xK,show FD (K[c]'(by omega))=(q:Int)from c0]at g4;have g5:=idx (xs:=K.map F9) (k:=c) (by rw[zV];omega);rw[xK,show F9 (K[c]'(by omega))=u from eu.symm]at g5;have g6:=Aw (K.map FD) c (by rw[zV];omega);have g7:=Aw (K.map F9) c (by rw[zV];omega);have g8:(c:Int)<((K.map F9).length:Int):=by rw[zV];omega
     have j2:i*s.members.length<=12*8:=yM (by omega) c7;have e3:(i:Int)*(s.members.length:Int)=((i*s.members.length:Nat):Int):=by push_cast;rfl
     have w1:=Zl (n:=((i*s.members.length:Nat):Int));have e4:((i*s.members.length:Nat):Int)+(q:Int)=((i*s.members.length+q:Nat):Int):=by push_cast;rfl
     have c2:=Zl (n:=((i*s.members.length+q:Nat):Int));have w3:=Zl (n:=u*e);have j3:=b8 _ (zu (l:=E) (n:=i) (by omega));have a8:RF[i*s.members.length+q]?=some e:=by
      rw[e1,Qy b8 (by omega) h8,ee,zx,zy (by omega)];rfl
     have b5:i*s.members.length+q<RF.length:=by
      refine zf fun hn=>?_
      rw[yg (by omega)]at a8;cases a8
     have g9:=idx (xs:=RF) b5;rw[zy b5]at a8;rw[Option.some.inj a8]at g9;have g10:((i*s.members.length+q:Nat):Int)<(RF.length:Int):=by omega
     have g11:(0:Int)<=((i*s.members.length+q:Nat):Int):=by omega
     have g12:=Aw RF _ b5;have c3:J.take (i*C+(c+1))=J.take (i*C+c)++[u*e]:=by
      rw[<- wK,yN,zy b3,b4];rfl
     have j4:i*C+c<=200:=by omega
     have y1:3<nx:=by omega
     have y2:¬3=nx:=by omega
     have y3:(3==nx)=false:=by rw[sW];omega
     have y4:(nx==3)=false:=by rw[sW];omega
     have y5:3<nx+1:=by omega
     have y6:¬3=nx+1:=by omega
     have y7:(3==nx+1)=false:=by rw[sW];omega
     have y8:(nx+1==3)=false:=by rw[sW];omega
     have y9:3<nx+1+1:=by omega
     have Xx:¬3=nx+1+1:=by omega
     have Xy:(3==nx+1+1)=false:=by rw[sW];omega
     have Xz:(nx+1+1==3)=false:=by rw[sW];omega
     have c4:nx<nx+1:=by omega
     have XA:nx+1<nx+1+1:=by omega
     rcases hA with ⟨h0,Y⟩|⟨ba,h0,h1,h2,Y,h4⟩
     .refine .inl ⟨_,by simp only[go_sem,t4,t5,t6,t7,t8,t9,t10,t42,t43,t44,Y,g1,g2,g3,g4,g5,g6,g7,g8,e3,w1,e4,c2,w3,g9,g10,g11,g12,y1,y2,y3,y4,y5,y6,y7,y8,y9,Xx,Xy,Xz,c4,XA];rfl,?_⟩
      simp only[go_sem,t4,t5,t6,t7,t8,t9,t10,t42,t43];refine⟨rfl,by omega,?_,?_,.inr ⟨nx+1,by omega,by omega,by omega,?_,?_⟩⟩
      .repeat rw[aH]
       exact O
      .repeat rw[aH]
       exact S
      .rw[aF,show i*C+(c+1)=1 by omega]
      .rw[aH,aF,c3,h0];rfl
     .have c5:=rP (σ:=restrict (upd σ nx (some ⟨[I (u*e)],1,true⟩)) [ba,nx]) (nx:=nx+1) (bytes:=8) (b:=ba) (len:=i*C+c) (m:=1) (row:=[I (u*e)]) (by rw[gU,aH];exact h4) (by show((J.take (i*C+c)).flatMap cI).length=_;rw[qW,zh];omega) rfl (by decide) (by unfold maxLen;omega) (by omega) rfl
      have x1:ba<nx+1:=by omega
      have x2:(3==ba)=false:=by rw[sW];omega
      have x3:(ba==3)=false:=by rw[sW];omega
      have x4:¬3=ba:=by omega
      refine .inl ⟨_,by simp only[go_sem,t4,t5,t6,t7,t8,t9,t10,t42,t43,t44,Y,g1,g2,g3,g4,g5,g6,g7,g8,e3,w1,e4,c2,w3,g9,g10,g11,g12,c5,x1,x2,x3,x4,y1,y2,y3,y4,y5,y6,y7,y8,y9,Xx,Xy,Xz,c4,XA];rfl,?_⟩;simp only[go_sem,t4,t5,t6,t7,t8,t9,t10,t42,t43];refine⟨rfl,by omega,?_,?_,.inr ⟨nx+1,by omega,by omega,by omega,?_,?_⟩⟩
      .repeat rw[aH]
       exact O
      .repeat rw[aH]
       exact S
      .rw[aF];rfl
      .rw[aH,aF,c3,zT];rfl) (by
     clear hL;rintro ⟨T,σ,nx⟩ ⟨t4,t5,t6,t7,t8,t9,t10,t42,t43,t44,G,O,S,hA⟩;simp only at t4 t5 t6 t7 t8 t9 t10 t42 t43 t44 G O S hA;refine⟨_,by simp only[go_sem,t43,t44,zk];rfl,by simp,_,_,_,rfl,?_⟩;simp only[go_sem,t4,t5,t6,t7,t8,t9,t10];exact⟨G,O,S,hA⟩) (by
     simp only[go_sem,t4,t5,t6,t7,t8,t9,t10];exact⟨G,O,S,hA⟩)
   refine⟨_,by simp only[go_sem,t10,f3];rfl,.inl ⟨_,rfl,?_⟩⟩;simp only[go_sem,t4,t5,t6,t7,t8,t9];rw[<- yG]at b9;exact⟨rfl,h6,O,S,b9⟩) (by
   clear hL;rintro ⟨T,σ,nx⟩ ⟨t4,t5,t6,t7,t8,t9,t10,G,O,S,hA⟩;simp only at t4 t5 t6 t7 t8 t9 t10 G O S hA;obtain⟨vA,a1⟩:∃vA,σ 3=some ⟨[I R,I C,vA,LI (J_ s l),.rs 2 0 C],0,true⟩:=by
    rcases hA with ⟨-,Y⟩|⟨ba,-,-,-,Y,-⟩<;>exact⟨_,Y⟩
   refine⟨_,by simp only[go_sem,t9,t10,a1,zk];rfl,by simp,_,_,_,rfl,?_⟩;simp only[go_sem,t4,t9];exact⟨G,O,S,hA⟩) (by
   simp only[go_sem];refine⟨by rw[<- gX],.inl ⟨rfl,by rw[aF]⟩⟩)
 clear hL;obtain⟨vA,a1,i0,i2⟩:∃vA,b2 3=some ⟨[I R,I C,vA,LI (J_ s l),.rs 2 0 C],0,true⟩/\qI vA=true/\∀σ',(∀y,y≠1->σ' y=b2 y)->∃ids,strip σ' 6 vA=some (LI J,ids):=by
  rcases h5 with ⟨h0,Y⟩|⟨ba,h0,h1,h2,Y,h4⟩
  .have:J=[]:=zZ (by omega)
   exact⟨_,Y,rfl,fun σ' _=>⟨[],by rw[bF,this];rfl⟩⟩
  .rw[zo (by omega)]at h4
   exact⟨_,Y,rfl,fun σ' i3=>⟨_,kR ((i3 ba (by omega)).trans h4) b7 5⟩⟩
 obtain⟨a6,e8⟩:∃a6,a6=upd b2 1 (some ⟨[I R,I C,vA,LI (J_ s l),.rs 2 0 C],0,true⟩):=⟨_,rfl⟩;have i4:a6 1=some ⟨[I R,I C,vA,LI (J_ s l),.rs 2 0 C],0,true⟩:=by rw[e8,aF]
 obtain⟨i1,c6⟩:=i2 a6 fun y hy=>by rw[e8,aG _ _ hy]
 have i5:=kR (σ:=a6) (b:=2) (xs:=List.replicate C 0) (by rw[e8,aG _ _ (by decide)];exact e9) (n:=C) (by simp) 5;rw[a7]at c6;simp only[go_sem,t4,t9,a1,e7,i0,<- e8,i4,c6,i5,bU]
 try rfl
end Go.Proofs.YtkpdoehbhmipcaaGreat
namespace Go.Proofs.YtkpdoehbhmipcaaGreat
open Go Go.TV Go.Lp
theorem ayz{s:Structure}(h:SG s){l:List Int}(hb:∀x∈l,-100<=x/\x<=100):PrS (Uf s) (J_ s l) (List.replicate (Du s) 0) (Ls s) (Du s):=by
 have E:=mJ s;have S:=h.nj;have G:=h.nm;have J:=pV s s.members.length;refine⟨Lm s,by rw[Tv];rfl,by simp,?_,?_,aaC h,aht hb,fun x O=>?_⟩
 .unfold Ls;omega
 .unfold Du;omega
 .rw[(List.mem_replicate.mp O).2];decide
theorem alI{s:Structure}(h:SG s){l:List Int}(hb:∀x∈l,-100<=x/\x<=100) :
  ∃r,fn Ze pI Ad 128 [.agg (CG (Ls s) (Du s) (Uf s) (J_ s l) (List.replicate (Du s) 0))]=some r/\avl (IX s l) r:=aph (ayz h hb)
attribute [-go_sem] rH
theorem ah_{a b:Nat}(x y:Rat)(G:Ln a x)(J:Ln b y)(E:a+b<=23):fn Ze conv ext 176 [.agg (cQ x),.agg (cQ y)]=some (.agg (cQ (x+y))):=by
 have o1:=TF x (G.mono (by omega));have O:=TF y (J.mono (by omega));have S:=abV x y G J E;unfold cQ at *;rw[mW,nK [.cell 4 161] [] func176];simp only[go_sem,o1,O,S]
theorem ah'{a b:Nat}(x y:Rat)(J:Ln a x)(E:Ln b y)(G:a+b<=23):fn Ze conv ext 193 [.agg (cQ x),.agg (cQ y)]=some (.agg (cQ (x-y))):=by
 have o1:=TF x (J.mono (by omega));have S:=TF y (E.mono (by omega));have Y:=agc y (by have:=E.1;omega) (by have:=E.2;omega);have O:=abV x (-y) J (TP E) G;rw[<- Rat.sub_eq_add_neg]at O;unfold cQ at *;rw[mW,nK [.cell 4 161] [] func193];simp only[go_sem,o1,S,Y,O]
theorem aaT{xs:List Rat}(h:∀x∈xs,Ln 24 x)(O:xs.length<=1000):fn Ze conv ext 174 [LL cQ xs]=some (Bo true):=by
 rw[mW,nK [.tmp 2] [] func174];simp only[go_sem];generalize G:gI _ _=y;obtain⟨r,rfl,T',σ',nx',rfl⟩:=pJ G xs.length (fun k st=>st.T 5=LL cQ xs/\st.T 6=I xs.length/\st.T 7=I k)
  (fun r=>∃T σ nx',r=(.exit 0,⟨T,σ,nx'⟩)) (by
   clear G;rintro k ⟨T,σ,nx⟩ E ⟨t5,t6,t7⟩;simp only at t5 t6 t7;have f1:(k:Int)<(xs.length:Int):=by omega
   have f2:=jL k;have f3:=Zl (n:=(k:Int)+1);have f4:=dS (c:=cQ) (s:=3) qQ xs k E;have f5:=dN (c:=cQ) (s:=3) qQ xs;have f6:k*3+3<=xs.length*3:=by omega
   have f7:=dO (c:=cQ) (s:=3) qQ (by omega) xs k E;have J:=TF xs[k] (h _ (zu E));refine .inl ⟨_,by simp only[go_sem,t5,t6,t7,f1,f2,f3,f4,f5,f6,f7,J];rfl,?_⟩;simp only[go_sem,t5,t6];rfl) (by
   rintro ⟨T,σ,nx⟩ ⟨t5,t6,t7⟩;simp only at t5 t6 t7;exact⟨_,by simp only[go_sem,t6,t7,zk];rfl,by simp,_,_,_,rfl⟩) (by
   simp only[go_sem])
 simp only[go_sem]
theorem avr:fn Ze conv ext 280 []=some (.agg (cQ 0)):=by
 have E:fn Ze conv ext 133 [I 0]=some (.agg (cQ 0)):=fD 0 (by decide) (by decide)
 rw[mW,nK [.cell 0 161] [] func280];simp only[go_sem,E]
theorem apq(n:Nat)(hn:n<=1000)(σ:Store)(nx:Nat):∃v σ' nx',ev Ze pI Ad 245 [I n] σ nx=some (v,σ',nx')/\nx<=nx'/\Gq v σ' nx nx' (List.replicate n (0:Rat))/\∀y,y<nx->σ' y=σ y:=by
 have k0:=avr;rw[nK [.tmp 2] [] func245];simp only[go_sem];generalize hL:gI _ _=y;obtain⟨r,rfl,T',σ',nx',rfl,O,G,Fv⟩:=pJ hL n (fun k st=>st.T 0=I n/\nx<=st.nx/\Gq (st.T 3) st.σ nx st.nx (List.replicate k (0:Rat))/\∀y,y<nx->st.σ y=σ y)
  (fun r=>∃T σ' nx',r=(.exit 0,⟨T,σ',nx'⟩)/\nx<=nx'/\Gq (T 3) σ' nx nx' (List.replicate n (0:Rat))/\∀y,y<nx->σ' y=σ y) (by
   clear hL;rintro k ⟨T,S,oI⟩ hk ⟨t0,E,hA,fr⟩;simp only at t0 E hA fr;have f1:(k:Int)<(n:Int):=by omega
   have hlen:Dw Ze 39 (T 3)=some (I k):=by
    rcases hA with ⟨J,G⟩|⟨b,J,G,h3,Y,h5⟩
    .rw[G]
     have:k=0:=by have:=congrArg List.length J;simpa using this
     rw[this];exact o_ (by kernel_rfl)
    .rw[Y,yR];exact ny (by kernel_rfl)
   obtain⟨σ',a1,a2,a3⟩:=rW hA E 0 (by rw[yR];omega);rw[yR]at a1 a2;refine .inl ⟨_,by simp only[go_sem,t0,hlen,f1,k0,a1];rfl,?_⟩;simp only[go_sem,t0];rw[uQ];exact⟨by omega,a2,fun y hy=>(a3 y hy).trans (fr y hy)⟩) (by
   rintro ⟨T,S,oI⟩ ⟨t0,E,hA,fr⟩;simp only at t0 E hA fr;have hlen:Dw Ze 39 (T 3)=some (I n):=by
    rcases hA with ⟨J,G⟩|⟨b,J,G,h3,Y,h5⟩
    .rw[G]
     have:n=0:=by have:=congrArg List.length J;simpa using this
     rw[this];exact o_ (by kernel_rfl)
    .rw[Y,yR];exact ny (by kernel_rfl)
   refine⟨_,by simp only[go_sem,t0,hlen,zk];rfl,by simp,_,_,_,rfl,?_⟩;simp only[go_sem];exact⟨E,hA,fr⟩) (by
   simp only[go_sem];exact⟨.inl ⟨rfl,rfl⟩,fun _ _=>trivial⟩)
 exact⟨_,σ',nx',by simp only[go_sem],O,G,Fv⟩
def IY(K:List (Int×Int))(X:List Rat)(nm:Nat):Nat->List Rat
 |0=>List.replicate nm 0
 |c+1=>(IY K X nm c).set (K.getD c (0,0)).1.toNat ((IY K X nm c).getD (K.getD c (0,0)).1.toNat 0+sgQ (K.getD c (0,0)).2 (X.getD c 0))
theorem oO(K:List (Int×Int))(X:List Rat)(nm:Nat):∀c,(IY K X nm c).length=nm
 |0=>by simp[IY]
 |c+1=>by rw[IY,yK];exact oO K X nm c
def XG(K:List (Int×Int))(k c:Nat):Nat:=((K.take c).filter fun p=>p.1.toNat==k).length
theorem Qz{K:List (Int×Int)}{c:Nat}(h:c<K.length)(k:Nat):XG K k (c+1)=XG K k c+if K[c].1.toNat=k then 1 else 0:=by
 unfold XG;rw[yN,zy h,tZ,zl];congr 1
 by_cases e:K[c].1.toNat=k
 .simp[e]
 .simp[e]
theorem TW(K:List (Int×Int))(k c:Nat):XG K k c<=(K.filter fun p=>p.1.toNat==k).length :=
 ((List.take_sublist c K).filter _).length_le
theorem aaU(m:Member)(j k:Nat):((Fb m j).filter fun p=>p.1.toNat==k).length<=(if j=k then 2 else 0)/\(j=k->0<((Fb m j).filter fun p=>p.1.toNat==k).length):=by
 unfold Fb
 by_cases E:m.kind=2<;>by_cases G:m.kind=1<;>by_cases e:j=k<;>simp[E,G,e]
theorem Oo(s:Structure)(k:Nat):∀n,((cols s n).filter fun p=>p.1.toNat==k).length<=(if k<n then 2 else 0)/\(k<n->0<((cols s n).filter fun p=>p.1.toNat==k).length)
 |0=>by simp[cols]
 |n+1=>by
  obtain⟨E,O⟩:=Oo s k n;obtain⟨J,S⟩:=aaU (mem s n) n k;rw[pO,tZ,zl]
  by_cases e:n=k
  .subst e
   rw[su (Nat.lt_irrefl _)]at E;rw[sZ rfl]at J;rw[sZ (Nat.lt_succ_self _)];exact⟨by omega,fun _=>by have:=S rfl;omega⟩
  .rw[su e]at J
   by_cases G:k<n
   .rw[sZ G]at E
    rw[sZ (by omega)];exact⟨by omega,fun _=>by have:=O G;omega⟩
   .rw[su G]at E
    rw[su (by omega)];exact⟨by omega,fun h=>by omega⟩
theorem lM{α:Type}(l:List α)(i k:Nat)(v d:α)(h:i<l.length):(l.set i v).getD k d=if i=k then v else l.getD k d:=by
 rw[zx,zx,List.getElem?_set]
 by_cases e:i=k
 .subst e;rw[sZ rfl,sZ h,sZ rfl];rfl
 .rw[su e,su e]
theorem avs{k:Nat}{q:Rat}(s:Int)(h:Ln k q):Ln k (sgQ s q):=by
 unfold sgQ
 split
 .exact TP h
 .exact h
section
variable {K:List (Int×Int)} {X:List Rat} {nm:Nat}
def DnI(K:List (Int×Int))(X:List Rat)(nm c k:Nat):Prop:=(XG K k c=0/\(FW K X nm c).getD k none=none/\(IY K X nm c).getD k 0=0) \/
 (0<XG K k c/\(FW K X nm c).getD k none=some ((IY K X nm c).getD k 0)/\Ln (7*XG K k c) ((IY K X nm c).getD k 0))
theorem TX(S:∀x∈X,Ln 6 x)(Y:∀k,(K.filter fun p=>p.1.toNat==k).length<=2)(hk:∀c (h:c<K.length),K[c].1.toNat<nm):∀c,c<=K.length->∀k,k<nm->DnI K X nm c k
 |0,_,k,hkn=> .inl ⟨rfl,by
   rw[FW,zx,um,sZ hkn];rfl,by
   rw[IY,zx,um,sZ hkn];rfl⟩
 |c+1,hc,k,hkn=>by
  have ih:=TX S Y hk c (by omega) k hkn;have G:=hk c (by omega);have e1:K.getD c (0,0)=K[c]'(by omega):=by rw[zx,zy (by omega)];rfl
  have hx:Ln 6 (X.getD c 0):=by
   rw[zx]
   by_cases hc:c<X.length
   .rw[zy hc];exact S _ (zu hc)
   .rw[yg (by omega)];exact(sO (z:=0) (by decide)).mono (by decide)
  have E:=Qz (K:=K) (c:=c) (by omega) k;have hle:=zL (TW K k (c+1)) (Y k);unfold DnI;rw[FW,IY,e1,lM _ _ _ _ _ (by rw[mM];exact G),lM _ _ _ _ _ (by rw[oO];exact G)];have hv:=avs (K[c]'(by omega)).2 hx;generalize sgQ (K[c]'(by omega)).2 (X.getD c 0)=v at *
  by_cases e:(K[c]'(by omega)).1.toNat=k
  .rw[sZ e]at E
   rw[sZ e,sZ e,e];refine .inr ⟨by omega,?_⟩;rcases ih with ⟨i1,J,O⟩|⟨i1,J,O⟩
   .rw[J,O]
    have:(0:Rat)+v=v:=by grind
    rw[this];exact⟨rfl,hv.mono (by omega)⟩
   .rw[J]
    have hs:=aaz O hv;exact⟨adX (hs.mono (by omega)),hs.mono (by omega)⟩
  .rw[su e]at E
   rw[su e,su e,E];exact ih
theorem avt(S:∀x∈X,Ln 6 x)(J:∀k,(K.filter fun p=>p.1.toNat==k).length<=2)(O:∀c (h:c<K.length),K[c].1.toNat<nm){c:Nat}(hc:c<K.length):Ln 7 ((IY K X nm c).getD K[c].1.toNat 0):=by
 have hle:=zL (TW K K[c].1.toNat (c+1)) (J _);have E:=Qz hc K[c].1.toNat;rw[sZ rfl]at E;rcases TX S J O c (by omega) _ (O c hc)with ⟨Y,i2,G⟩|⟨Y,i2,G⟩
 .rw[G];exact(sO (z:=0) (by decide)).mono (by decide)
 .exact G.mono (by omega)
theorem apr(Y:∀x∈X,Ln 6 x)(O:∀k,(K.filter fun p=>p.1.toNat==k).length<=2)(hk:∀c (h:c<K.length),K[c].1.toNat<nm){c:Nat}(hc:c<=K.length):∀q∈IY K X nm c,Ln 14 q:=fun q hq=>by
 obtain⟨k,E,e⟩:=yV hq;have J:k<nm:=by rw[oO]at E;exact E
 have S:(IY K X nm c).getD k 0=q:=by rw[zx,zy E,<- e];rfl
 have hle:=zL (TW K k c) (O _);rcases TX Y O hk c hc _ J with ⟨i1,i2,G⟩|⟨i1,i2,G⟩
 .rw[S]at G;rw[G];exact(sO (z:=0) (by decide)).mono (by decide)
 .rw[S]at G;exact G.mono (by omega)
theorem QD:∀l:List Rat,Bf (l.map some)=some l
 |[]=>rfl
 |q :: l=>by
  show(Bf (l.map some)).map _=_;rw[QD l];rfl
theorem avu(O:∀x∈X,Ln 6 x)(S:∀k,(K.filter fun p=>p.1.toNat==k).length<=2)(Y:∀k,k<nm->0<(K.filter fun p=>p.1.toNat==k).length)(hk:∀c (h:c<K.length),K[c].1.toNat<nm):Bf (FW K X nm K.length)=some (IY K X nm K.length):=by
 rw[<- QD];congr 1;refine yE (by rw[mM,zV,oO]) fun k g1 g2=>?_
 have E:k<nm:=by rw[mM]at g1;exact g1
 have e1:(FW K X nm K.length).getD k none=(FW K X nm K.length)[k]:=by rw[zx,zy g1];rfl
 have e2:(IY K X nm K.length).getD k 0=(IY K X nm K.length)[k]'(by rw[oO];exact E):=by rw[zx,zy (by rw[oO];exact E)];rfl
 have h3:=Y k E;rcases TX O S hk K.length (zq _) k E with ⟨G,J,i3⟩|⟨G,J,i3⟩
 .unfold XG at G;rw[yZ]at G;omega
 .rw[<- e1,J,xK,e2]
end
def Oq(s:Structure)(x:Nat->Rat):List Rat:=IY (cols s s.members.length) ((List.range (Du s)).map x) s.members.length (Du s)
theorem aeu(s:Structure)(x:Nat->Rat):(Oq s x).length=s.members.length:=oO _ _ _ _
theorem aaV(s:Structure)(k:Nat):((cols s s.members.length).filter fun p=>p.1.toNat==k).length<=2:=by
 have:=(Oo s k s.members.length).1
 split at this<;>omega
theorem aaW(s:Structure):∀c (h:c<(cols s s.members.length).length),(cols s s.members.length)[c].1.toNat<s.members.length:=fun c h=>by
 obtain⟨⟨q,e,E⟩,-⟩:=pU (zu h);rw[e,yS];exact E
theorem aps{x:Nat->Rat}{n:Nat}(h:∀j,j<n->Ln 6 (x j)):∀y∈(List.range n).map x,Ln 6 y:=fun y E=>by
 obtain⟨j,G,rfl⟩:=List.mem_map.mp E;exact h j (List.mem_range.mp G)
theorem XH{s:Structure}{x:Nat->Rat}(h:∀j,j<Du s->Ln 6 (x j)):∀q∈Oq s x,Ln 14 q:=apr (aps h) (aaV s) (aaW s) (zq _)
theorem aia{s:Structure}{x:Nat->Rat}(h:∀j,j<Du s->Ln 6 (x j)):Bf (FW (cols s s.members.length) ((List.range (Du s)).map x) s.members.length (Du s))=some (Oq s x) :=
 avu (aps h) (aaV s) (fun k E=>(Oo s k _).2 E) (aaW s)
theorem IV{s:Structure}{l:List Int}{x:Nat->Rat}(h:(IX s l).Best x)(G:(IX s l).Open):False:=by
 obtain⟨y,J,E⟩:=G 1;have e:ob (IX s l).n (IX s l).c y=0:=by
  unfold ob;refine dF fun j O=>?_
  have:(IX s l).c j=0:=by
   show((((List.replicate (Du s) (0:Int)).getD j 0:Int)):Rat)=0;rw[zx]
   by_cases hc:j<Du s
   .rw[um,sZ hc];rfl
   .rw[um,su hc];rfl
  rw[this];grind
 rw[e]at E;exact absurd E (by decide)
def badR:List V:=[Bo false,.ts [] 0,.ts [] 0]
def cR(a:Option Rat):List V:=match a with
 |none=>badR
 |some q=>cQ q
theorem apt(a:Option Rat):(cR a).length=3:=by cases a<;>rfl
theorem aib(a:Option Rat):(cR a).all qI=true:=by cases a<;>rfl
theorem alJ(a:Option Rat):(cR a).take 3=cR a:=by cases a<;>rfl
theorem aev(x y z:V)(a:Option Rat):patch [x,y,z] 0 (cR a)=cR a:=by cases a<;>rfl
theorem aic(σ:Store)(d:Nat)(a:Option Rat):stripL (strip σ d) (cR a)=some (cR a,[]):=by
 cases a with
 |none=>unfold cR badR;rw[bU,bC,bU,au,bU,au,bP];rfl
 |some q=>exact qP σ d q
attribute [go_sem] apt aib alJ aev aic
theorem avv(neg:Bool)(m n:Nat)(hm:ln m<=1000)(h0:n≠0)(hn:ln n<=1000) :
  fn Ze conv ext 275 [Bo neg,LI (dg m),LI (dg n)]=some (.agg (if ln (m / Nat.gcd m n)<=24/\ln (n / Nat.gcd m n)<=24 then [Bo (neg && decide (0<(dg (m / Nat.gcd m n)).length)),LI (dg (m / Nat.gcd m n)),LI (dg (n / Nat.gcd m n))]else badR)):=by
 have a1:Nat.gcd m n≠0:=fun e=>h0 (uG e)
 have a6:Nat.gcd m n<=n:=Nat.gcd_le_right _ (by omega);have a7:n / Nat.gcd m n≠0:=by
  have:=Nat.div_pos a6 (by omega);omega
 have hg:=jq a6;have Y:=cO (dg m) (dX (by omega));have k2:=cO (dg n) (dX (by omega));rw[aP]at Y k2;have G:=PG n (by omega);have k4:=ahy m n (by omega) (by omega);have J:=PG (Nat.gcd m n) (by omega);have k6:=Xg m (Nat.gcd m n) a1 (by omega) (by omega);have k7:=Xg n (Nat.gcd m n) a1 (by omega) (by omega);have l0:(((dg n).length:Int)==0)=false:=by rw[sW];have:=rM (oZ h0);omega
 have z1:¬(dg (n / Nat.gcd m n)).length=0:=rM (oZ a7)
 by_cases r1:ln (m / Nat.gcd m n)<=24
 .by_cases r2:ln (n / Nat.gcd m n)<=24
  .rw[sZ ⟨r1,r2⟩]
   have k8:=af5 neg (dg (m / Nat.gcd m n)) (dX (by omega)) (by rw[aP];show ln _<=60;omega);rw[aP]at k8;have c1:¬(24:Int)<((dg (m / Nat.gcd m n)).length:Int):=by unfold ln at r1;omega
   have O:¬(24:Int)<((dg (n / Nat.gcd m n)).length:Int):=by unfold ln at r2;omega
   have s1:(dg (n / Nat.gcd m n)).length<=maxLen/\(dg (n / Nat.gcd m n)).length*8<=140737488355328:=by unfold maxLen;unfold ln at r2;omega
   rw[mW,nK [.cell 6 161] [] func275]
   by_cases S:n=1
   .have E:Nat.gcd m n=1:=by rw[S,Nat.gcd_one_right]
    simp only[E,xC]at c1 O k8 z1 s1⊢;rw[sS S]at G;simp only[go_sem,Y,k2,G,k8,l0,c1,O,z1,s1]
   .rw[sQ S]at G
    by_cases E:Nat.gcd m n=1
    .rw[sS E]at J
     rw[E]at k4 J;simp only[E,xC]at c1 O k8 z1 s1⊢;simp only[go_sem,Y,k2,G,k4,J,k8,l0,c1,O,z1,s1]
    .rw[sQ E]at J
     simp only[go_sem,Y,k2,G,k4,J,k6,k7,k8,l0,c1,O,z1,s1]
  .rw[su (fun h=>r2 h.2)]
   have c1:¬(24:Int)<((dg (m / Nat.gcd m n)).length:Int):=by unfold ln at r1;omega
   have O:(24:Int)<((dg (n / Nat.gcd m n)).length:Int):=by unfold ln at r2;omega
   unfold badR;rw[mW,nK [.cell 6 161] [] func275]
   by_cases S:n=1
   .have E:Nat.gcd m n=1:=by rw[S,Nat.gcd_one_right]
    simp only[E,xC]at c1 O;rw[sS S]at G;simp only[go_sem,Y,k2,G,l0,c1,O]
   .rw[sQ S]at G
    by_cases E:Nat.gcd m n=1
    .rw[sS E]at J
     rw[E]at k4 J;simp only[E,xC]at c1 O;simp only[go_sem,Y,k2,G,k4,J,l0,c1,O]
    .rw[sQ E]at J
     simp only[go_sem,Y,k2,G,k4,J,k6,k7,l0,c1,O]
 .rw[su (fun h=>r1 h.1)]
  have c1:(24:Int)<((dg (m / Nat.gcd m n)).length:Int):=by unfold ln at r1;omega
  unfold badR;rw[mW,nK [.cell 6 161] [] func275]
  by_cases S:n=1
  .have E:Nat.gcd m n=1:=by rw[S,Nat.gcd_one_right]
   simp only[E,xC]at c1;rw[sS S]at G;simp only[go_sem,Y,k2,G,l0,c1]
  .rw[sQ S]at G
   by_cases E:Nat.gcd m n=1
   .rw[sS E]at J
    rw[E]at k4 J;simp only[E,xC]at c1;simp only[go_sem,Y,k2,G,k4,J,l0,c1]
   .rw[sQ E]at J
    simp only[go_sem,Y,k2,G,k4,J,k6,k7,l0,c1]
theorem avw(z:Int){d:Nat}(h:d≠0):(mkRat z d).num.natAbs=z.natAbs / Nat.gcd z.natAbs d/\(mkRat z d).den=d / Nat.gcd z.natAbs d:=by
 have E:(Nat.gcd z.natAbs d:Int) ∣ z:=Int.ofNat_dvd_left.mpr (Nat.gcd_dvd_left _ _);have e:(mkRat z d).num=z / (Nat.gcd z.natAbs d:Nat)/\(mkRat z d).den=d / Nat.gcd z.natAbs d:=by
  rw[Rat.mkRat_def,dif_neg h,Rat.normalize_eq];exact⟨rfl,rfl⟩
 refine⟨?_,e.2⟩;rw[e.1,Int.natAbs_ediv_of_dvd E];rfl
theorem avx(z:Int)(d:Nat)(hz:ln z.natAbs<=1000)(G:d≠0)(hd:ln d<=1000)(b:Bool)(n:Nat)(hb:Az b n=z):fn Ze conv ext 275 [Bo b,LI (dg n),LI (dg d)]=some (.agg (cR (Fq (mkRat z d)))):=by
 have hn:n=z.natAbs:=by rw[<- hb];unfold Az;split<;>omega
 subst hn;rw[avv b z.natAbs d hz G hd];obtain⟨S,Y⟩:=avw z G;rw[<- S,<- Y];unfold Fq
 by_cases E:ln (mkRat z d).num.natAbs<=24/\ln (mkRat z d).den<=24
 .rw[sZ E,sZ E]
  show some (V.agg _)=some (V.agg (cQ (mkRat z d)));rw[aga z G,S,Y];unfold adE
  by_cases J:z.natAbs=0
  .rw[J,Nat.zero_div,oQ];simp
  .have:b=decide (z<0):=by
    have O:=hb;unfold Az at O;cases b with
    |true=>rw[sZ rfl]at O;rw[sS (by omega)]
    |false=>rw[su (by decide)]at O;rw[sQ (by omega)]
   rw[this]
 .rw[su E,su E]
  rfl
theorem apu(a:Option Rat)(h:LnO 24 a):fn Ze conv ext 177 [.agg (cR a)]=some (Bo a.isSome):=by
 cases a with
 |some q=>exact TF q (h q rfl)
 |none=>
  have E:=Px false [] (by unfold Short;simp);have G:=Rz [] (by unfold Short;simp);have g:Cb []:=⟨fun x J=>by(cases J),by simp,rfl⟩;rw[iL g]at E G;have E:fn Ze conv ext 232 [.agg [Bo false,.ts [] 0]]=some (Bo true):=E
  have G:fn Ze conv ext 233 [.ts [] 0]=some (Bo true):=G
  show fn Ze conv ext 177 [.agg badR]=some (Bo false)
  unfold badR;rw[mW,nK [.tmp 2] [] func177];simp only[go_sem,E,G]
theorem XI(a b:Option Rat)(ha:LnO 24 a)(hb:LnO 24 b):fn Ze conv ext 230 [.agg (cR a),.agg (cR b)]=some (.agg (cR (G7 a b))):=by
 have o1:=apu a ha;have E:=apu b hb;cases a with
 |none=>
  show fn Ze conv ext 230 [.agg badR,.agg (cR b)]=some (.agg badR)
  have o1:fn Ze conv ext 177 [.agg badR]=some (Bo false):=o1
  have G:∃u v w,cR b=[u,v,w]:=by cases b<;>exact⟨_,_,_,rfl⟩
  obtain⟨u,v,w,e⟩:=G;rw[e];unfold badR at *;rw[mW,nK [.cell 4 161] [] func230];simp only[go_sem,o1]
 |some x=>cases b with
  |none=>
   show fn Ze conv ext 230 [.agg (cQ x),.agg badR]=some (.agg badR)
   have o1:fn Ze conv ext 177 [.agg (cQ x)]=some (Bo true):=o1
   have E:fn Ze conv ext 177 [.agg badR]=some (Bo false):=E
   unfold badR at *;unfold cQ at *;rw[mW,nK [.cell 4 161] [] func230];simp only[go_sem,o1,E]
  |some y=>
   have o1:fn Ze conv ext 177 [.agg (cQ x)]=some (Bo true):=o1
   have E:fn Ze conv ext 177 [.agg (cQ y)]=some (Bo true):=E
   have J:=ha x rfl;have O:=hb y rfl;have ux:=J.up (by omega);have uy:=O.up (by omega);have n1:=ame J O;have n2:=Ny J O;have k1:=fC x.num.natAbs y.num.natAbs ux.1 uy.1;have k2:=fC x.den y.den ux.2 uy.2;have S:=avx (Az (decide (x.num<0) !=decide (y.num<0)) (x.num.natAbs*y.num.natAbs)) (x.den*y.den) (by rw[TG];omega) (dd0 x y) (by omega) _ _ rfl;rw[<- abA]at S;have e:∀a b:Bool,(!a==b)=(a !=b):=by decide
   have k4:fn Ze conv ext 273 [.agg (cQ x),.agg (cQ y)]=some (.agg (cR (Fq (x*y)))):=by
    unfold cQ at *;rw[mW,nK [.cell 4 161] [] func273];obtain⟨o,Y⟩:∃o,o=Fq (x*y):=⟨_,rfl⟩;rw[<- Y]at S⊢;simp only[go_sem,k1,k2,S,e]
   show fn Ze conv ext 230 [.agg (cQ x),.agg (cQ y)]=some (.agg (cR (Fq (x*y))))
   obtain⟨o,Y⟩:∃o,o=Fq (x*y):=⟨_,rfl⟩;rw[<- Y]at k4⊢;unfold cQ at *;rw[mW,nK [.cell 4 161] [] func230];simp only[go_sem,o1,E,k4]
theorem aml{s:Structure}(h:Ag s)(G:okStructure s){qs:List Rat}(J:qs.length=s.members.length)(O:∀q∈qs,Ln 24 q):fn Ze conv ext 114 [.agg (cStructure s),LL cQ qs]=some (Bo true):=by
 have S:=h.2.1;have E:=fA s G;rw[iL h]at E;have Y:=aaT O (by omega);have c0:((qs.length:Int)==(s.members.length:Int))=true:=by rw[J];simp
 rw[mW,nK [.tmp 4] [] func114];simp only[go_sem,E,Y,c0]
theorem aew{s:Structure}(h:Ag s)(J:okStructure s){k:Nat}(O:k<s.members.length):fn Ze conv ext 281 [.agg (cStructure s),I k]=some (.Au [I (vx s k),I (vy s k)]):=by
 have S:=h.2.1;have E:=fA s J;rw[iL h]at E;have G:=kE k 0 ((s.members.length:Int) - 1);have hb:inB k 0 ((s.members.length:Int) - 1)=true:=by unfold inB;rw[sS (by omega),sS (by omega)];rfl
 rw[hb]at G;have Y:=ab3 h.sg O;have w1:=Zl (n:=(s.members.length:Int) - 1);rw[mW,nK [.tmp 4,.tmp 5] [] func281];simp only[go_sem,E,G,Y,w1]
theorem aex{s:Structure}(h:Ag s)(E:okStructure s){k:Nat}(G:k<s.members.length):fn Ze conv ext 246 [.agg (cStructure s),I k]=some (I (vx s k*vx s k+vy s k*vy s k)):=by
 have J:=aew h E G;have hb:=Zy h.sg k;have x2:0<=vx s k*vx s k/\vx s k*vx s k<=10000:=by
  have O:vx s k*vx s k=((vx s k).natAbs*(vx s k).natAbs:Nat):=by rw[wG]
  have S:(vx s k).natAbs*(vx s k).natAbs<=100*100:=yM (by omega) (by omega);omega
 have y2:0<=vy s k*vy s k/\vy s k*vy s k<=10000:=by
  have O:vy s k*vy s k=((vy s k).natAbs*(vy s k).natAbs:Nat):=by rw[wG]
  have S:(vy s k).natAbs*(vy s k).natAbs<=100*100:=yM (by omega) (by omega);omega
 have w1:=Zl (n:=vx s k*vx s k);have Y:=Zl (n:=vy s k*vy s k);have w3:=Zl (n:=vx s k*vx s k+vy s k*vy s k);rw[mW,nK [.tmp 4] [] func246];simp only[go_sem,J,w1,Y,w3]
theorem TY{s:Structure}(h:Ag s)(ho:okStructure s){qs:List Rat}(hl:qs.length=s.members.length)(hL:∀q∈qs,Ln 24 q){k:Nat}(O:k<qs.length) :
  fn Ze conv ext 194 [.agg (cStructure s),LL cQ qs,I k]=some (.Au [.agg (cR (sqQ s qs[k] k)),Bo (sqQ s qs[k] k).isSome]):=by
 have a7:=h.2.1;have hb:=Zy h.sg k;have k1:=aml h ho hl hL;have k2:=kE k 0 ((s.members.length:Int) - 1);have S:inB k 0 ((s.members.length:Int) - 1)=true:=by unfold inB;rw[sS (by omega),sS (by omega)];rfl
 rw[S]at k2;have k3:=aex h ho (k:=k) (by omega);have w1:=Zl (n:=(s.members.length:Int) - 1);have x2:0<=vx s k*vx s k/\vx s k*vx s k<=10000:=by
  have h1:vx s k*vx s k=((vx s k).natAbs*(vx s k).natAbs:Nat):=by rw[wG]
  have h2:(vx s k).natAbs*(vx s k).natAbs<=100*100:=yM (by omega) (by omega);omega
 have y2:0<=vy s k*vy s k/\vy s k*vy s k<=10000:=by
  have h1:vy s k*vy s k=((vy s k).natAbs*(vy s k).natAbs:Nat):=by rw[wG]
  have h2:(vy s k).natAbs*(vy s k).natAbs<=100*100:=yM (by omega) (by omega);omega
 unfold sqQ;generalize vx s k*vx s k=a at *;generalize vy s k*vy s k=b at *;have k4:=fD (a+b) (by omega) (by omega);have f1:(k:Int)<(qs.length:Int):=by omega
 have f2:=jL k;have f4:=dS (c:=cQ) (s:=3) qQ qs k O;have f5:=dN (c:=cQ) (s:=3) qQ qs;have f6:k*3+3<=qs.length*3:=by omega
 have f7:=dO (c:=cQ) (s:=3) qQ (by omega) qs k O;have Y:=hL _ (zu O);obtain⟨q,eq⟩:∃q,q=qs[k]:=⟨_,rfl⟩;rw[<- eq]at f4 Y⊢;have k5:fn Ze conv ext 230 [.agg (cQ q),.agg (cQ q)]=some (.agg (cR (G7 (some q) (some q)))):=XI (some q) (some q) (fun z E=>by cases E;exact Y) (fun z E=>by cases E;exact Y)
 obtain⟨o1,e1⟩:∃o1,o1=G7 (some q) (some q):=⟨_,rfl⟩;have E:Ln 24 ((a+b:Int):Rat):=(sO (by omega)).mono (by decide);have k6:fn Ze conv ext 230 [.agg (cR o1),.agg (cQ ((a+b:Int):Rat))]=some (.agg (cR (G7 o1 (some ((a+b:Int):Rat))))):=XI o1 (some ((a+b:Int):Rat)) (by rw[e1];exact Lu) (fun z a1=>by cases a1;exact E)
 rw[<- e1]at k5⊢;obtain⟨o2,e2⟩:∃o2,o2=G7 o1 (some ((a+b:Int):Rat)):=⟨_,rfl⟩;rw[<- e2]at k6⊢;have k7:=apu o2 (by rw[e2];exact Lu);obtain⟨J,G⟩:∃J,J=cQ ((a+b:Int):Rat):=⟨_,rfl⟩;rw[<- G]at k4 k6;have a6:∀σ d,stripL (strip σ d) J=some (J,[]):=fun σ d=>by rw[G];exact qP σ d _
 rw[mW,nK [.cell 6 161,.tmp 7] [4] func194];simp only[go_sem,k1,k2,k3,k4,k5,k6,k7,w1,f1,f2,f4,f5,f6,f7,a6]
theorem Ot{s:Structure}(h:Ag s)(ho:okStructure s){qs:List Rat}(hl:qs.length=s.members.length)(hL:∀q∈qs,Ln 24 q) :
  fn Ze conv ext 131 [.agg (cStructure s),LL cQ qs]=some (Cc (FQ s qs)):=by
 have b2:=h.2.1;have k1:=aml h ho hl hL;rw[mW,nK [.tmp 4,.tmp 5] [] func131];simp only[go_sem,k1];generalize Y:gI _ _=y;obtain⟨x,rfl,hx⟩:=pJ Y s.members.length (fun k st=>st.T 1=LL cQ qs/\st.T 2= .rp 0 0/\st.T 17=I s.members.length/\st.T 18=I k/\1<=st.nx/\st.σ 0=some ⟨cStructure s,0,true⟩/\∃xs,Bf ((FQ s qs).take k)=some xs/\Gq (st.T 6) st.σ 1 st.nx xs)
  (fun x=>∃T σ nx,(x=(.exit 0,⟨T,σ,nx⟩)/\∃xs,Bf (FQ s qs)=some xs/\Gq (T 6) σ 1 nx xs)\/(x=(.ret,⟨T,σ,nx⟩)/\T 4= .nil/\T 5=Bo false/\Bf (FQ s qs)=none)) (by
   clear Y;rintro k ⟨T,σ,nx⟩ hk ⟨t1,t2,t17,S,O,s0,xs,E,hA⟩;simp only at t1 t2 t17 S O s0 hA;have g1:(k:Int)<(s.members.length:Int):=by omega
   have g2:=jL k;have g3:=Zl (n:=(k:Int)+1);have a6:k<(FQ s qs).length:=by rw[dD];omega
   have b3:xs.length=k:=by rw[eU E,zh];omega
   have G:(FQ s qs).take (k+1)=(FQ s qs).take k++[sqQ s (qs[k]'(by omega)) k]:=by rw[ah a6,abR s qs (by omega)]
   have J:=TY h ho hl hL (k:=k) (by omega);have z1:¬nx=0:=by omega
   have z2:¬0=nx:=by omega
   cases hv:sqQ s (qs[k]'(by omega)) k with
   |none=>
    rw[hv]at J G;have J:fn Ze conv ext 194 [.agg (cStructure s),LL cQ qs,I k]=some (.Au [.agg (cR none),Bo false]):=J
    refine .inr ⟨_,by simp only[go_sem,t1,t2,t17,S,s0,g1,g2,J,z1,z2];rfl,by simp,_,_,_,.inr ⟨rfl,?_⟩⟩;simp only[go_sem];have:FQ s qs=(FQ s qs).take (k+1)++(FQ s qs).drop (k+1):=(wQ _ _).symm;rw[this,G];refine dw ?_;rw[dh,E];rfl
   |some z=>
    rw[hv]at J G;have J:fn Ze conv ext 194 [.agg (cStructure s),LL cQ qs,I k]=some (.Au [.agg (cQ z),Bo true]):=J
    have a7:Gq (T 6) (upd σ nx (some ⟨cQ z,0,true⟩)) 1 (nx+1) xs:=by
     rcases hA with ⟨a,b⟩|⟨b,a1,a2,a3,a4,a5⟩
     .exact .inl ⟨a,b⟩
     .exact .inr ⟨b,a1,a2,by omega,a4,by rw[aH];exact a5⟩
    obtain⟨σ',ha,a8,fr⟩:=rW a7 (by omega) z (by omega);have f0:σ' 0=some ⟨cStructure s,0,true⟩:=by rw[fr 0 (by omega),aH];exact s0
    refine .inl ⟨_,by simp only[go_sem,t1,t2,t17,S,s0,g1,g2,g3,J,ha,z1,z2];rfl,?_⟩;simp only[go_sem,t1,t2,t17];refine⟨rfl,f0,xs++[z],?_,a8⟩;rw[G,dh,E];rfl) (by
   rintro ⟨T,σ,nx⟩ ⟨t1,t2,t17,S,O,s0,xs,E,hA⟩;simp only at t1 t2 t17 S O s0 hA;have g1:¬(s.members.length:Int)<(s.members.length:Int):=by omega
   refine⟨_,by simp only[go_sem,t17,S,g1];rfl,by simp,_,_,_,.inl ⟨rfl,xs,?_,?_⟩⟩
   .rw[<- hl,<- dD s qs,yZ]at E
    exact E
   .simp only[go_sem]
    exact hA) (by
   simp only[go_sem];exact⟨[],rfl,.inl ⟨rfl,rfl⟩⟩)
 rcases hx with ⟨T,σ,nx,⟨rfl,xs,E,hA⟩|⟨rfl,t4,t5,E⟩⟩
 .obtain⟨ids,hs⟩:∃ids,strip σ 6 (T 6)=some (LL cQ xs,ids):=by
   rcases hA with ⟨h1,h2⟩|⟨b,h1,h2,h3,h4,h5⟩
   .exact⟨[],by rw[h1,h2,bF];rfl⟩
   .rw[h4];exact⟨[b],fZ h5 rfl⟩
  unfold Cc;rw[E];simp only[go_sem,hs]
 .unfold Cc
  rw[E];simp only[go_sem,t4,t5]
theorem ab6{s:Structure}(h:Ag s)(E:okStructure s){w:List Int}(hw:Bc s.members.length w):fn Ze conv ext 99 [.agg (cStructure s),LI w]=some (Bo true):=by
 have G:=h.2.1;have k:=Pq s w E (by rw[hw.1];unfold maxLen;omega);rw[iL h,iL hw]at k;exact k
theorem XJ{s:Structure}(h:Ag s)(ho:okStructure s){qs:List Rat}(hl:qs.length=s.members.length)(hL:∀q∈qs,Ln 24 q){w:List Int}(hw:Bc s.members.length w){xs:List Rat}(hq:Bf (FQ s qs)=some xs) :
  fn Ze conv ext 282 [.agg (cStructure s),LL cQ qs,LI w]=some (LI (G9 (DT xs w) xs.length)):=by
 have b2:=h.2.1;have k1:=Ot h ho hl hL;have k2:=ab6 h ho hw;unfold Cc at k1;rw[hq]at k1;have b3:xs.length=s.members.length:=by rw[eU hq,dD,hl]
 rw[mW,nK [.tmp 6] [] func282];simp only[go_sem,k1,k2];generalize S:gI _ _=y;obtain⟨x,rfl,T,σ,nx,rfl,J⟩:=pJ S xs.length (fun k st=>st.T 2=LI w/\st.T 27=LL cQ xs/\st.T 28=I xs.length/\st.T 29=I k/\Grow st.T st.σ st.nx 9 (G9 (DT xs w) k))
  (fun x=>∃T σ nx,x=(.exit 0,⟨T,σ,nx⟩)/\Grow T σ nx 9 (G9 (DT xs w) xs.length)) (by
   clear S;rintro k ⟨T,σ,nx⟩ O ⟨t2,t27,t28,t29,J⟩;simp only at t2 t27 t28 t29 J;have g1:(k:Int)<(xs.length:Int):=by omega
   have g2:=jL k;have g3:=Zl (n:=(k:Int)+1);have g4:=dS (c:=cQ) (s:=3) qQ xs k O;have g5:=dN (c:=cQ) (s:=3) qQ xs;have g6:k*3+3<=xs.length*3:=by omega
   have g7:=dO (c:=cQ) (s:=3) qQ (by omega) xs k O;have G:k<w.length:=by rw[hw.1];omega
   have a8:=kS (hw.2 _ (zu G));have a1:=idx (xs:=w) (k:=k) G;have a2:=Aw w k G;have a3:(k:Int)<(w.length:Int):=by omega
   have hx:=TB hq _ (zu O);have E:DT xs w k=Xk xs[k] w[k]:=by
    unfold DT;rw[zx,zy O,zx,zy G];rfl
   obtain⟨x,ex⟩:∃x,x=xs[k]:=⟨_,rfl⟩;obtain⟨v,ev⟩:∃v,v=w[k]:=⟨_,rfl⟩;rw[<- ex,<- ev]at E;rw[<- ex]at g4 hx;rw[<- ev]at a1 a8;have v2:0<=v*v/\v*v<=1000000:=by
    have h1:v*v=(v.natAbs*v.natAbs:Nat):=by rw[wG]
    have h2:v.natAbs*v.natAbs<=1000*1000:=yM (by omega) (by omega);omega
   have w1:=Zl (n:=v*v);have k3:=fD (v*v) (by omega) (by omega);have k4:=ahJ x ((v*v:Int):Rat) hx ((sO (by omega)).mono (by decide):Ln 24 _) (by decide) (by decide) (by decide);have hle:=Ie (DT xs w) k;unfold Xk at E;obtain⟨m2,Y⟩:∃m2,m2=cQ ((v*v:Int):Rat):=⟨_,rfl⟩;obtain⟨z,ez⟩:∃z,z=Ah (x.num*((v*v:Int):Rat).den) (((v*v:Int):Rat).num*x.den):=⟨_,rfl⟩;rw[<- Y]at k3 k4;rw[<- ez]at k4 E;have a6:∀σ d,stripL (strip σ d) m2=some (m2,[]):=fun σ d=>by rw[Y];exact qP σ d _
   have y1:nx<nx+1:=by omega
   have a7:=lD J (some ⟨cQ x,0,true⟩)
   by_cases hz:0<z
   .rw[sS hz]at E
    obtain⟨σ',ha,hs⟩:=lC a7 (k:Int) (by omega);refine .inl ⟨_,by simp only[go_sem,t2,t27,t28,t29,g1,g2,g3,g4,g5,g6,g7,O,G,a1,a2,a3,w1,k3,k4,hz,ha,a6,y1];rfl,?_⟩;simp only[go_sem,t2,t27,t28];rw[KU E];exact⟨rfl,kZ hs (by simp[go_sem]) (by simp)⟩
   .rw[sQ hz]at E
    refine .inl ⟨_,by simp only[go_sem,t2,t27,t28,t29,g1,g2,g3,g4,g5,g6,g7,O,G,a1,a2,a3,w1,k3,k4,hz,a6,y1];rfl,?_⟩;simp only[go_sem,t2,t27,t28];rw[RY E];exact⟨rfl,ku (T:=T) (by simp only[go_sem]) a7⟩) (by
   rintro ⟨T,σ,nx⟩ ⟨t2,t27,t28,t29,J⟩;simp only at t2 t27 t28 t29 J;exact⟨_,by simp only[go_sem,t28,t29,zk];rfl,by simp,_,_,_,rfl,ku (T:=T) (by simp only[go_sem]) J⟩) (by
   simp only[go_sem];exact .inl ⟨by simp only[go_sem],rfl⟩)
 obtain⟨ids,hs⟩:=kY J 6;simp only[go_sem,hs]
theorem aey{s:Structure}(h:Ag s)(G:okStructure s){qs:List Rat}(S:qs.length=s.members.length)(Y:∀q∈qs,Ln 24 q){w:List Int}(hw:Bc s.members.length w) :
  fn Ze conv ext 259 [.agg (cStructure s),LL cQ qs,LI w]=some (Bo (Ea s qs w)):=by
 have E:=Ot h G S Y;have k2:=ab6 h G hw;unfold Cc at E;unfold Ea;rw[mW,nK [.tmp 6] [] func259];cases J:Bf (FQ s qs)with
 |none=>
  rw[J]at E;simp only[go_sem,E]
 |some xs=>
  rw[J]at E;have k3:=XJ h G S Y hw J
  by_cases O:(G9 (DT xs w) xs.length).length=0
  .have e:(((G9 (DT xs w) xs.length).length:Int)==0)=true:=by rw[O];rfl
   simp only[go_sem,E,k2,k3,e,sS O]
  .have e:(((G9 (DT xs w) xs.length).length:Int)==0)=false:=by rw[sW];omega
   simp only[go_sem,E,k2,k3,e,sQ O]
theorem apv(n:Nat)(hn:n<=24)(σ:Store)(nx:Nat):∃v σ' nx',ev Ze pI Ad 192 [I n] σ nx=some (v,σ',nx')/\nx<=nx'/\Gq v σ' nx nx' (List.replicate n (0:Rat))/\∀y,y<nx->σ' y=σ y:=by
 have E:=kE n 0 24;have hb:inB n 0 24=true:=by unfold inB;rw[sS (by omega),sS (by omega)];rfl
 rw[hb]at E;obtain⟨v,σ',nx',G,J,O,S⟩:=apq n (by omega) σ nx;refine⟨v,σ',nx',?_,J,O,S⟩;rw[nK [.tmp 2] [] func192];simp only[go_sem,qM,E,G]
theorem aie{v:V}{σ:Store}{lo nx:Nat}{L:List Rat}(h:Gq v σ lo nx L)(E:L≠[]):∃b,lo<=b/\b<nx/\v= .rs b 0 L.length/\σ b=some ⟨L.flatMap cQ,3,true⟩:=by
 rcases h with ⟨G,_⟩|⟨b,_,J,O,S,Y⟩
 .exact absurd G E
 .exact⟨b,J,O,S,Y⟩
theorem avy{s:Structure}(h:Ag s)(ho:okStructure s){x:Nat->Rat}(hx:∀j,j<Du s->Ln 6 (x j)) :
  fn Ze pI Ad 130 [.agg (cStructure s),LL cQ ((List.range (Du s)).map x)]=some (.Au [LL cQ (Oq s x),Bo true]):=by
 have e8:=h.2.1;have k1:=fA s ho;rw[iL h]at k1;have k2:=XF h.sg;have Y:=aps hx;have a1:=pV s s.members.length;have G:=XH hx;have b5:Oq s x=IY (cols s s.members.length) ((List.range (Du s)).map x) s.members.length (cols s s.members.length).length:=rfl;have b6:=aaV s;have b7:=aaW s;have b8:∀c (h:c<(cols s s.members.length).length),(∃q:Nat,(cols s s.members.length)[c].1=(q:Int)/\q<s.members.length)/\((cols s s.members.length)[c].2=1\/(cols s s.members.length)[c].2= -1):=fun c h=>pU (zu h)
 have b2:((List.range (Du s)).map x).length=(cols s s.members.length).length:=by rw[zV,uS];rfl
 rw[b5]at G⊢;obtain⟨X,eX⟩:∃X,X=(List.range (Du s)).map x:=⟨_,rfl⟩;obtain⟨K,eK⟩:∃K,K=cols s s.members.length:=⟨_,rfl⟩;rw[<- eX]at Y G b2⊢;rw[<- eK]at k2 a1 G b6 b7 b8 b2⊢;have k3:=aaT (xs:=X) (fun q hq=>(Y q hq).mono (by decide)) (by omega);obtain⟨s0,b9⟩:∃s0,s0=upd lI 0 (some ⟨cStructure s,0,true⟩):=⟨_,rfl⟩;have b0:s0 0=some ⟨cStructure s,0,true⟩:=by rw[b9,aF]
 obtain⟨vz,e9,nz,k4,h0,e3,h1⟩:=apv s.members.length (by omega) s0 1;have c0:((X.length:Int) !=((K.map FD).length:Int))=false:=by rw[zV,b2];simp
 have el:(K.map FD).length=K.length:=zV ..;have c2:(K.map F9).length=K.length:=zV ..;rw[mW,nK [.tmp 4,.tmp 5] [11,12] func130];simp only[go_sem,qM,k1,k2,k3,c0,<- b9,b0,k4];generalize hL:gI _ _=y;obtain⟨r,rfl,T,σ,nx,rfl,h2⟩:=pJ hL K.length (fun c st=>st.T 1=LL cQ X/\st.T 7=LI (K.map F9)/\st.T 33=LI (K.map FD)/\st.T 34=I K.length/\st.T 35=I c/\Gq (st.T 8) st.σ 1 st.nx (IY K X s.members.length c))
  (fun r=>∃T σ nx,r=(.exit 0,⟨T,σ,nx⟩)/\Gq (T 8) σ 1 nx (IY K X s.members.length K.length)) (by
   clear hL;rintro c ⟨T,σ,nx⟩ hc ⟨t1,t7,t33,t34,t35,hA⟩;simp only at t1 t7 t33 t34 t35 hA;have g1:(c:Int)<(K.length:Int):=by omega
   have g2:=jL c;have g3:=Zl (n:=(c:Int)+1);obtain⟨⟨k,hk,c3⟩,c4⟩:=b8 c hc;have a4:=idx (xs:=K.map FD) (k:=c) (by omega);have a5:=idx (xs:=K.map F9) (k:=c) (by omega);rw[xK,show FD K[c]=(k:Int)from hk]at a4;rw[xK]at a5;have a6:=Aw (K.map FD) c (by omega);have a7:=Aw (K.map F9) c (by omega);have a8:=dS (c:=cQ) (s:=3) qQ X c (by omega);have a9:=dN (c:=cQ) (s:=3) qQ X;have c5:c*3+3<=X.length*3:=by omega
   have c7:=dO (c:=cQ) (s:=3) qQ (by omega) X c (by omega);have a12:(c:Int)<(X.length:Int):=by omega
   have E:=oO K X s.members.length c;have J:=avt Y b6 b7 hc;have b3:=Y _ (zu (l:=X) (n:=c) (by omega));have O:IY K X s.members.length (c+1)=(IY K X s.members.length c).set k ((IY K X s.members.length c).getD k 0+sgQ K[c].2 (X[c]'(by omega))):=by
    rw[IY];have e1:K.getD c (0,0)=K[c]:=by rw[zx,zy hc];rfl
    have e2:X.getD c 0=X[c]'(by omega):=by rw[zx,zy (by omega)];rfl
    rw[e1,e2,hk,yS]
   rw[hk,yS]at J;obtain⟨S,e4⟩:∃S,S=X[c]'(by omega):=⟨_,rfl⟩;rw[<- e4]at a8 b3 O;obtain⟨sg,c8⟩:∃sg,sg=K[c].2:=⟨_,rfl⟩;have a5:((K.map F9).flatMap cI)[c]?=some (I sg):=by rw[c8];exact a5
   rw[<- c8]at c4 O;obtain⟨D,eD⟩:∃D,D=IY K X s.members.length c:=⟨_,rfl⟩;rw[<- eD]at hA E J O;obtain⟨b,e5,b4,t8,hb⟩:=aie hA (fun e=>by rw[e]at E;simp at E;omega);rw[E]at t8;have d0:=dS (c:=cQ) (s:=3) qQ D k (by omega);have d2:=dN (c:=cQ) (s:=3) qQ D;rw[E]at d2;have d3:k*3+3<=s.members.length*3:=by omega
   have d4:(k:Int)<(s.members.length:Int):=by omega
   have d5:=jL k;obtain⟨d,ed⟩:∃d,d=D.getD k 0:=⟨_,rfl⟩;have d1:((D.flatMap cQ).drop (k*3)).take 3=cQ d:=by
    rw[d0,ed,zx,zy (by omega)];rfl
   rw[<- ed]at J O;have n1:¬(0:Int)< -1:=by decide
   have n0:(0:Int)<1:=by decide
   have c9:∀q σ d,stripL (strip σ d) (cQ q)=some (cQ q,[]):=fun q σ d=>qP σ d q
   have fin:∀(v:Rat),v=d+sgQ sg S->Gq (V.rs b 0 s.members.length) (upd σ b (some ⟨(D.set k v).flatMap cQ,3,true⟩)) 1 nx (IY K X s.members.length (c+1)):=fun v hv=>by
    rw[O,<- hv];refine .inr ⟨b,fun e=>?_,e5,b4,by rw[yK,E],by rw[aF]⟩;have:=congrArg List.length e;rw[yK,E]at this;have:s.members.length=0:=this;omega
   rcases c4 with rfl|rfl
   .have k5:=ah_ d S J b3 (by decide)
    have c6:patch (D.flatMap cQ) (k*3) (cQ (d+S))=(D.set k (d+S)).flatMap cQ:=iO qQ _ _ (by omega) _;refine .inl ⟨_,by simp only[go_sem,t1,t7,t8,t33,t34,t35,hb,b4,g1,g2,g3,a4,a5,a6,a7,a8,a9,c5,c7,a12,hc,el,c2,d1,d2,d3,d4,d5,c3,n0,k5,c6,c9];rfl,?_⟩;simp only[go_sem,t1,t7,t8,t33,t34,t35];exact⟨rfl,fin _ rfl⟩
   .have k5:=ah' d S J b3 (by decide)
    have c6:patch (D.flatMap cQ) (k*3) (cQ (d-S))=(D.set k (d-S)).flatMap cQ:=iO qQ _ _ (by omega) _;refine .inl ⟨_,by simp only[go_sem,t1,t7,t8,t33,t34,t35,hb,b4,g1,g2,g3,a4,a5,a6,a7,a8,a9,c5,c7,a12,hc,el,c2,d1,d2,d3,d4,d5,c3,n1,k5,c6,c9];rfl,?_⟩;simp only[go_sem,t1,t7,t8,t33,t34,t35];refine⟨rfl,fin _ ?_⟩;show d-S=d+ -S;grind) (by
   clear hL;rintro ⟨T,σ,nx⟩ ⟨t1,t7,t33,t34,t35,hA⟩;simp only at t1 t7 t33 t34 t35 hA;refine⟨_,by simp only[go_sem,t34,t35,zk];rfl,by simp,_,_,_,rfl,?_⟩;simp only[go_sem];exact hA) (by
   simp only[go_sem,el];exact e3)
 have k6:=aaT (xs:=IY K X s.members.length K.length) (fun q hq=>(G q hq).mono (by decide)) (by rw[oO];omega);obtain⟨D,eD⟩:∃D,D=IY K X s.members.length K.length:=⟨_,rfl⟩;rw[<- eD]at h2 k6⊢;rcases h2 with ⟨h3,h4⟩|⟨b,h3,h4,h5,h6,h7⟩
 .rw[h3]at k6⊢
  have k6:fn Ze conv ext 174 [.ts [] 0]=some (Bo true):=k6
  simp only[go_sem,h4,k6];rfl
 .have e6:=fun d=>fZ (d:=d) h7 rfl
  have e7:∀t,∃wr,behind σ [b] t b=some ⟨D.flatMap cQ,3,wr⟩:=fun t=>abP h7
  have e0:∀t d,strip (behind σ [b] t) (d+1) (.rs b 0 D.length)=some (LL cQ D,[b]):=fun t d=>by
   obtain⟨wr,hw⟩:=e7 t;rw[bD,hw];have a1:=dN (c:=cQ) (s:=3) qQ D;simp only[zi,yu,yw,a1,zq,if_true];rw[zo (by omega),Qh];rfl
  simp only[go_sem,h6,e6,k6,e0]
theorem aif{s:Structure}(h:Ag s)(G:okStructure s){l:List Int}(E:Ai s.joints.length l):fn Ze conv ext 98 [.agg (cStructure s),LI l]=some (Bo true):=by
 have J:=h.1;have k:=Ry s l G (by rw[E.1];unfold maxLen;omega);rw[iL h,iL E]at k;exact k
theorem Ou{s:Structure}(h:Ag s)(S:okStructure s){l:List Int}(hl:Ai s.joints.length l) :
  (∃qs,qs.length=s.members.length/\(∀q∈qs,Ln 24 q)/\fn Ze pI Ad 58 [.agg (cStructure s),LI l]=some (.Au [LL cQ qs,Bo true])/\fn Ze pI Ad 76 [.agg (cStructure s),LI l]=some (.Au [LL cQ qs,Bo true]) /\
   ∃x:Nat->Rat,(IX s l).Best x/\(∀j,j<Du s->Ln 6 (x j))/\qs=Oq s x/\∃T,(IX s l).Good T/\x=Bh (IX s l).m T) \/
  (fn Ze pI Ad 58 [.agg (cStructure s),LI l]=some Qj/\fn Ze pI Ad 76 [.agg (cStructure s),LI l]=some Qj/\((IX s l).None\/(IX s l).Open)):=by
 have X9:=h.1;have hb:∀x∈l,-100<=x/\x<=100:=fun x J=>kS (hl.2 x J)
 obtain⟨r,k1,hr⟩:=IB S (l:=l) (by rw[hl.1];unfold maxLen;omega);obtain⟨r0,Y,a6⟩:=alI h.sg hb;have k3:=ah9 h.sg hl.1 hb;have k4:=aif h S hl;unfold CG at Y k3;have n2:((2:Int) !=0)=true:=by decide
 have n3:((3:Int) !=0)=true:=by decide
 have n0:((0:Int) !=0)=false:=by decide
 have a1:r=Qj/\((IX s l).None\/(IX s l).Open)\/∃x:Nat->Rat,(IX s l).Best x/\(∀j,j<Du s->Ln 24 (x j))/\r=Cc (FW (cols s s.members.length) ((List.range (Du s)).map x) s.members.length (Du s)):=by
  rcases hr with ⟨hn,_⟩|⟨_,_,hr⟩
  .exact absurd ⟨h,hl⟩ hn
  .exact hr
 have no:(IX s l).None\/(IX s l).Open->fn Ze pI Ad 58 [.agg (cStructure s),LI l]=some Qj:=fun hn=>by
  rcases a1 with ⟨e,_⟩|⟨x,J,_⟩
  .rw[k1,e]
  .rcases hn with hn|hn
   .exact absurd hn J.Wj
   .exact absurd hn (fun S=>IV J S)
 rcases a6 with ⟨O,hn⟩|⟨O,hn⟩|⟨x,J,E,a8,O,hT⟩
 .refine .inr ⟨no (.inl hn),?_,.inl hn⟩
  rw[O]at Y;unfold Qj;rw[mW,nK [.tmp 4,.tmp 5] [] func76];simp only[go_sem,Y,k3,k4,n2,n3]
 .refine .inr ⟨no (.inr hn),?_,.inr hn⟩
  rw[O]at Y;unfold Qj;rw[mW,nK [.tmp 4,.tmp 5] [] func76];simp only[go_sem,Y,k3,k4,n2,n3]
 .have hn:(IX s l).n=Du s:=rfl
  rw[hn]at E O;refine .inl ⟨Oq s x,aeu s x,fun q hq=>(XH E q hq).mono (by decide),?_,?_,x,J,E,rfl,hT⟩
  .rcases a1 with ⟨_,G⟩|⟨x',a7,_,e⟩
   .rcases G with G|G
    .exact absurd G J.Wj
    .exact absurd G (fun S=>IV J S)
   .have eX:(List.range (Du s)).map x'=(List.range (Du s)).map x:=xO fun j hj=>a7.eq J j (List.mem_range.mp hj)
    rw[k1,e,eX];unfold Cc;rw[aia E]
  .have k5:=avy h S E
   obtain⟨X,eX⟩:∃X,X=(List.range (Du s)).map x:=⟨_,rfl⟩;obtain⟨v,ev⟩:∃v,v=ob (Du s) (IX s l).c x:=⟨_,rfl⟩;have O:r0= .agg (I 0 :: LL cQ X :: cQ v):=by rw[eX,ev];exact O
   rw[O]at Y;rw[<- eX]at k5;rw[mW,nK [.tmp 4,.tmp 5] [] func76];have g1:(I 0 :: LL cQ X :: cQ v).length=5:=rfl;have g2:(I 0 :: LL cQ X :: cQ v).all qI=true:=rfl;have g3:(I 0 :: LL cQ X :: cQ v)[0]?=some (I 0):=rfl;have g4:(I 0 :: LL cQ X :: cQ v)[1]?=some (LL cQ X):=rfl;have g5:(I 0 :: LL cQ X :: cQ v).take 5=I 0 :: LL cQ X :: cQ v:=rfl;simp only[go_sem,Y,k3,k4,g1,g2,g3,g4,g5,k5,n0]
theorem aii{s:Structure}(h:Ag s)(ho:okStructure s){l w:List Int}(hl:Ai s.joints.length l)(hw:Bc s.members.length w) :
  ∃b,fn Ze pI Ad 18 [.agg (cStructure s),LI l,LI w]=some (Bo b)/\fn Ze pI Ad 159 [.agg (cStructure s),LI l,LI w]=some (Bo b):=by
 rcases Ou h ho hl with ⟨qs,O,S,G,J,_⟩|⟨G,J,_⟩
 .have Y:=Qk h ho O S hw
  have k4:=aey h ho O S hw;refine⟨Ea s qs w,?_,?_⟩
  .cases hb:Ea s qs w with
   |true=>
    rw[hb]at Y;have E:fn Ze pI Ad 14 [.agg (cStructure s),LI l,LI w]=some (.Au [LL cQ qs,Bo true]):=by
     rw[mW,nK [.tmp 6,.tmp 7] [] func14];simp only[go_sem,G,Y]
    rw[mW,nK [.tmp 6] [] func18];simp only[go_sem,E]
   |false=>
    rw[hb]at Y;have E:fn Ze pI Ad 14 [.agg (cStructure s),LI l,LI w]=some (.Au [.ts [] 0,Bo false]):=by
     rw[mW,nK [.tmp 6,.tmp 7] [] func14];simp only[go_sem,G,Y]
    rw[mW,nK [.tmp 6] [] func18];simp only[go_sem,E]
  .cases hb:Ea s qs w with
   |true=>
    rw[hb]at k4;have E:fn Ze pI Ad 217 [.agg (cStructure s),LI l,LI w]=some (.Au [LL cQ qs,Bo true]):=by
     rw[mW,nK [.tmp 6,.tmp 7] [] func217];simp only[go_sem,J,k4]
    rw[mW,nK [.tmp 6] [] func159];simp only[go_sem,E]
   |false=>
    rw[hb]at k4;have E:fn Ze pI Ad 217 [.agg (cStructure s),LI l,LI w]=some (.Au [.ts [] 0,Bo false]):=by
     rw[mW,nK [.tmp 6,.tmp 7] [] func217];simp only[go_sem,J,k4]
    rw[mW,nK [.tmp 6] [] func159];simp only[go_sem,E]
 .refine⟨false,?_,?_⟩
  .have G:fn Ze pI Ad 58 [.agg (cStructure s),LI l]=some (.Au [.ts [] 0,Bo false]):=G
   have E:fn Ze pI Ad 14 [.agg (cStructure s),LI l,LI w]=some (.Au [.ts [] 0,Bo false]):=by
    rw[mW,nK [.tmp 6,.tmp 7] [] func14];simp only[go_sem,G]
   rw[mW,nK [.tmp 6] [] func18];simp only[go_sem,E]
  .have J:fn Ze pI Ad 76 [.agg (cStructure s),LI l]=some (.Au [.ts [] 0,Bo false]):=J
   have E:fn Ze pI Ad 217 [.agg (cStructure s),LI l,LI w]=some (.Au [.ts [] 0,Bo false]):=by
    rw[mW,nK [.tmp 6,.tmp 7] [] func217];simp only[go_sem,J]
   rw[mW,nK [.tmp 6] [] func159];simp only[go_sem,E]
theorem avz(k j:Nat):fn Ze conv ext 144 [.ts [I k] 1,I j]=some (Bo (decide (j=k))):=by
 rw[mW,nK [.tmp 4] [] func144];simp only[go_sem];generalize E:gI _ _=y;obtain⟨x,rfl,J⟩:=pJ E 1 (fun i st=>st.T 1=I j/\st.T 7= .ts [I k] 1/\st.T 8=I 1/\st.T 9=I i/\(i=1->j≠k))
  (fun x=>∃T σ nx,(x=(.exit 0,⟨T,σ,nx⟩)/\j≠k)\/(x=(.ret,⟨T,σ,nx⟩)/\T 4=Bo true/\j=k)) (by
   clear E;rintro i ⟨T,σ,nx⟩ hi ⟨t1,t7,t8,t9,h⟩;simp only at t1 t7 t8 t9;have:i=0:=by omega
   subst this;have t9:T 9=I 0:=t9;have f1:(0:Int)<1:=by decide
   have f3:=Zl (n:=(0:Int)+1);have f0:(0:Int)<=0:=by decide
   have f4:([I (k:Int)]:List V)[Int.toNat 0]?=some (I k):=rfl
   by_cases e:j=k
   .have G:((k:Int)==(j:Int))=true:=by rw[e];simp
    refine .inr ⟨_,by simp only[go_sem,t1,t7,t8,t9,f0,f1,f4,G];rfl,by simp,_,_,_,.inr ⟨rfl,by simp only[go_sem],e⟩⟩
   .have G:((k:Int)==(j:Int))=false:=by rw[sW];omega
    refine .inl ⟨_,by simp only[go_sem,t1,t7,t8,t9,f0,f1,f3,f4,G];rfl,?_⟩;simp only[go_sem,t1,t7,t8];exact⟨rfl,fun _=>e⟩) (by
   clear E;rintro ⟨T,σ,nx⟩ ⟨t1,t7,t8,t9,h⟩;simp only at t1 t7 t8 t9;have t9:T 9=I 1:=t9;have f1:¬(1:Int)<1:=by decide
   exact⟨_,by simp only[go_sem,t8,t9,f1];rfl,by simp,_,_,_,.inl ⟨rfl,h rfl⟩⟩) (by
   simp only[go_sem];exact fun h=>absurd h (by decide))
 obtain⟨T,σ,nx,⟨rfl,hm⟩|⟨rfl,t4,hm⟩⟩:=J
 .rw[sQ hm]
  simp only[go_sem]
 .rw[sS hm]
  simp only[go_sem,t4]
theorem aij{s:Structure}(h:Ag s)(k:Nat)(hk:k<s.members.length):fn Ze conv ext 216 [.agg (cStructure s),.ts [I k] 1]=some (.agg (cStructure (del s k))):=by
 have b8:=h.2.1;have X9:=h.1;have b9:0<s.joints.length:=by
  have:=h.sg.mr k hk;obtain⟨r1,r2,_⟩:=this;omega
 have z1:¬s.joints.length=0:=by omega
 have s1:s.joints.length<=maxLen/\s.joints.length*40<=140737488355328:=by unfold maxLen;omega
 have s2:=Ko s.joints;have s3:=ED s.joints;rw[mW,nK [.cell 4 36] [] func216];simp only[go_sem,z1,s1,s2,s3];generalize hL:gI _ _=y;obtain⟨x,rfl,T,σ,nx,rfl,t4,t5,E,w,S,Y,J,G,hw⟩:=pJ hL s.members.length (fun j st=>st.T 1= .ts [I k] 1/\st.T 4= .rp 1 0/\st.T 5= .rp 3 0/\st.T 14=LL cMember s.members/\st.T 15=I s.members.length/\st.T 16=I j/\3<st.nx/\∃w,st.σ 1=some ⟨[.nil,.nil],0,true⟩/\st.σ 2=some ⟨s.joints.flatMap cJoint,4,true⟩/\st.σ 3=some ⟨[.rs 2 0 s.joints.length,w],0,true⟩/\BZ cMember 3 (fun _=>w) st.σ st.nx 0 (Dy s.members k j)/\∀b o l,w= .rs b o l->3<b)
  (fun x=>∃T σ nx,x=(.exit 0,⟨T,σ,nx⟩)/\T 4= .rp 1 0/\T 5= .rp 3 0/\3<nx/\∃w,σ 1=some ⟨[.nil,.nil],0,true⟩/\σ 2=some ⟨s.joints.flatMap cJoint,4,true⟩/\σ 3=some ⟨[.rs 2 0 s.joints.length,w],0,true⟩/\BZ cMember 3 (fun _=>w) σ nx 0 (Dy s.members k s.members.length)/\∀b o l,w= .rs b o l->3<b) (by
   clear hL;rintro j ⟨T,σ,nx⟩ hj ⟨t1,t4,t5,t14,t15,t16,E,w,S,Y,J,G,hw⟩;simp only at t1 t4 t5 t14 t15 t16 E S Y J G;have f1:(j:Int)<(s.members.length:Int):=by omega
   have f2:=jL j;have f3:=Zl (n:=(j:Int)+1);have f4:=KA s.members j hj;have f5:=FV s.members;have f6:j*3+3<=s.members.length*3:=by omega
   have f9:=KC s.members j hj;have k2:=avz k j;have hle:=Xn s.members k j;have y1:¬3=nx:=by omega
   have y2:¬nx=3:=by omega
   obtain⟨m1,em⟩:∃m1,m1=s.members[j]:=⟨_,rfl⟩;rw[<- em]at f4
   by_cases O:j=k
   .rw[sS O]at k2
    refine .inl ⟨_,by simp only[go_sem,t1,t4,t5,t14,t15,t16,f1,f2,f3,f4,f5,f6,f9,hj,k2];rfl,?_⟩;simp only[go_sem,t1,t4,t5,t14,t15];have ek:Dy s.members k (j+1)=Dy s.members k j:=by subst O;exact abU hj
    rw[ek];refine⟨rfl,by omega,w,?_,?_,?_,lK G _,hw⟩
    .rw[aH];exact S
    .rw[aH];exact Y
    .rw[aH];exact J
   .rw[sQ O]at k2
    have a7:=lK G (some ⟨cMember m1,0,true⟩);obtain⟨σ',ha,hs,a8⟩:=lJ (c:=cMember) (s:=3) (bytes:=24) (fun _=>rfl) (fun _=>rfl) (by decide) a7 m1 (by omega) (by decide);have q1:∀q,q<nx->(∀b o l,w= .rs b o l->q≠b)->σ' q=σ q:=fun q hq b2=>by
     rw[a8 q (by omega) (fun b o l h=>b2 b o l h),aH]
    have q3:σ' 3=some ⟨[.rs 2 0 s.joints.length,w],0,true⟩:=by rw[q1 3 E (fun b o l h e=>by have:=hw b o l h;omega)];exact J
    have q2:σ' 2=some ⟨s.joints.flatMap cJoint,4,true⟩:=by rw[q1 2 (by omega) (fun b o l h e=>by have:=hw b o l h;omega)];exact Y
    have b3:σ' 1=some ⟨[.nil,.nil],0,true⟩:=by rw[q1 1 (by omega) (fun b o l h e=>by have:=hw b o l h;omega)];exact S
    refine .inl ⟨_,by simp only[go_sem,t1,t4,t5,t14,t15,t16,f1,f2,f3,f4,f5,f6,f9,hj,k2,y1,y2,J,ha,q3];rfl,?_⟩;simp only[go_sem,t1,t4,t5,t14,t15];rw[Xm hj O,<- em];refine⟨rfl,by omega,_,?_,?_,rfl,?_,?_⟩
    .exact b3
    .exact q2
    .refine .inr ⟨nx+1+1,by rw[zl];rfl,by simp,?_,by omega⟩
     rw[aH];exact hs
    .intro b o l hb
     cases hb;omega) (by
   clear hL;rintro ⟨T,σ,nx⟩ ⟨t1,t4,t5,t14,t15,t16,E,w,S,Y,J,G,hw⟩;simp only at t1 t4 t5 t14 t15 t16 E S Y J G;exact⟨_,by simp only[go_sem,t15,t16,zk];rfl,by simp,_,_,_,rfl,by simp only[go_sem,t4],by simp only[go_sem,t5],E,w,S,Y,J,G,hw⟩) (by
   simp only[go_sem];exact⟨_,rfl,.inl ⟨rfl,rfl⟩,fun b o l h=>by cases h⟩)
 have ek:Dy s.members k s.members.length=(del s k).members:=by
  unfold Dy del;rw[yZ]
 rw[ek]at G;have cw:qI w=true:=by
  rcases G with ⟨a,_⟩|⟨b,a,_⟩
  .have a:w= .nil:=a
   rw[a];rfl
  .have a:w= .rs b 0 _:=a
   rw[a];rfl
 obtain⟨a6,b4⟩:∃a6,stripL (strip (upd σ 1 (some ⟨[.rs 2 0 s.joints.length,w],0,true⟩)) 6) [.rs 2 0 s.joints.length,w]=some ([LL cJoint s.joints,LL cMember (del s k).members],a6):=by
  have b5:strip (upd σ 1 (some ⟨[.rs 2 0 s.joints.length,w],0,true⟩)) 6 (.rs 2 0 s.joints.length)=some (LL cJoint s.joints,[2]):=by
   rw[bD,aG _ _ (by decide),Y];simp only[zi,yu,yw,s3,zq,if_true];rw[zo (by omega),bM (fun x=>by rw[bU,bC,bU,bC,bU,bC,bU,bC,bP];rfl)];rfl
  have b6:BZ cMember 3 (fun _=>w) (upd σ 1 (some ⟨[.rs 2 0 s.joints.length,w],0,true⟩)) nx 0 (del s k).members:=by
   rcases G with ⟨a,b⟩|⟨b,a1,a2,a3,a4⟩
   .exact .inl ⟨a,b⟩
   .exact .inr ⟨b,a1,a2,by rw[aG _ _ (by have:=hw _ _ _ a1;omega)];exact a3,a4⟩
  obtain⟨is,b7⟩:=lF (c:=cMember) (s:=3) (fun _=>rfl) 5 (fun x=>by rw[bU,bC,bU,bC,bU,bC,bP];rfl) b6;refine⟨[2]++(is++[]),?_⟩;rw[bU,b5,bU,b7,bP];rfl
 simp only[go_sem,t4,t5,S,J,b4,cw];rfl
theorem Ov{s:Structure}(h:Ag s)(E:okStructure s){l w:List Int}(G:Ai s.joints.length l)(hw:Bc s.members.length w) :
  fn Ze pI Ad 159 [.agg (cStructure s),LI l,LI w]=some (Bo (pb (Dz s l w))):=by
 obtain⟨b,k,J⟩:=aii h E G hw;rw[J];cases b with
 |true=>
  have:Dz s l w:=k;rw[iL this]
 |false=>
  have:¬Dz s l w:=fun e=>by unfold Dz at e;rw[k]at e;cases e
  rw[iM this]
theorem XK{s:Structure}(h:Ag s)(ho:okStructure s){l w:List Int}(hl:Ai s.joints.length l)(hw:Bc s.members.length w) :
  fn Ze pI Ad 158 [.agg (cStructure s),LI l,LI w]=some (Bo (IG s l w)):=by
 have k1:=Ov h ho hl hw;have c0:=h.2.1;have X9:=h.1;have O:=hw.1;unfold IG;rw[mW,nK [.tmp 6] [6] func158];cases hs:pb (Dz s l w)with
 |false=>
  rw[hs]at k1;simp only[go_sem,k1]
 |true=>
  rw[hs]at k1;simp only[go_sem,k1];generalize hL:gI _ _=y;obtain⟨x,rfl,hx⟩:=pJ hL s.members.length (fun j st=>st.T 1=LI l/\st.T 2=LI w/\st.T 3= .rp 0 0/\st.T 16=I s.members.length/\st.T 17=I j/\0<st.nx/\st.σ 0=some ⟨cStructure s,0,true⟩/\upto s l w j=true)
   (fun x=>∃T σ nx,(x=(.exit 0,⟨T,σ,nx⟩)/\upto s l w s.members.length=true)\/(x=(.ret,⟨T,σ,nx⟩)/\T 6=Bo false/\upto s l w s.members.length=false)) (by
    clear hL;rintro j ⟨T,σ,nx⟩ hj ⟨t1,t2,t3,t16,t17,a8,J,hu⟩;simp only at t1 t2 t3 t16 t17 a8 J;have f1:(j:Int)<(s.members.length:Int):=by omega
    have f2:=jL j;have f3:=Zl (n:=(j:Int)+1);have k2:=aij h j hj;obtain⟨S,eS⟩:∃S,S=del s j:=⟨_,rfl⟩;rw[<- eS]at k2;have hlen:(w.eraseIdx j).length=s.members.length-1:=by rw[yT (by omega),O]
    have b8:S.joints=s.joints:=by rw[eS];rfl
    have b9:S.members.length=s.members.length-1:=by
     rw[eS];unfold del;exact yT hj
    have k5:=Ov (s:=S) (l:=l) (w:=w.eraseIdx j) (by rw[eS];exact ahG h j) (by rw[eS];exact abT ho j) (by rw[b8];exact hl) (by rw[b9];exact Ql hw hj);have us:=upto_succ s l w j;rw[<- eS]at us;have b5:w.eraseIdx j=w.take j++w.drop (j+1):=vG ..;have e1:(w.flatMap cI).take j=(w.take j).flatMap cI:=qU ..;have e2:((w.flatMap cI).drop (j+1)).take (s.members.length - (j+1))=(w.drop (j+1)).flatMap cI:=by
     have:(w.flatMap cI).drop (j+1)=(w.drop (j+1)).flatMap cI:=by rw[jZ,<- List.map_drop,<- jZ]
     rw[this,zo (by rw[qW,yj];omega)]
    have i2:((j:Int)+1).toNat=j+1:=by omega
    have i1:(0:Int)<=(j:Int)+1:=by omega
    have i4:j+1<=s.members.length:=hj;have i5:j<=s.members.length:=by omega
    have c1:=qX (w.take j);have l1:(w.take j).length=j:=by rw[zh];omega
    have l2:(w.drop (j+1)).length=s.members.length - (j+1):=by rw[yj];omega
    have c2:=qX (w.drop (j+1));have y1:nx<nx+1:=by omega
    by_cases b6:j=0
    .have z0:(j=0)=True:=eq_true b6
     have w0:w.take j=[]:=by rw[b6];rfl
     by_cases b7:j+1=s.members.length
     .have m1:(s.members.length - (j+1)=0)=True:=eq_true (by omega)
      have a6:w.eraseIdx j=[]:=zZ (by omega);obtain⟨σ2,Y⟩:∃σ2,σ2=σ:=⟨_,rfl⟩;have b2:σ2 0=some ⟨cStructure s,0,true⟩:=by rw[Y];exact J
      obtain⟨E,e3⟩:∃E,E=upd σ2 (nx) (some ⟨[I j],1,flat 7 (.agg (cStructure S))⟩):=⟨_,rfl⟩;have b3:E 0=some ⟨cStructure s,0,true⟩:=by rw[e3,aH];exact b2
      have st:∀d,strip E (d+1) .nil=some (LI (w.eraseIdx j),[]):=fun d=>by rw[a6,bF];rfl
      cases G:pb (Dz S l (w.eraseIdx j))with
      |true=>
       rw[G]at k5 us;refine .inl ⟨_,by simp only[go_sem,t1,t2,t3,t16,t17,J,O,f1,f2,f3,e1,e2,i1,i2,i4,i5,c1,c2,l1,l2,k2,k5,st,y1,z0,m1,<- Y,b2,<- e3,b3];rfl,?_⟩;simp only[go_sem,t1,t2,t3,t16,b3];exact⟨rfl,by omega,by rw[us,hu];rfl⟩
      |false=>
       rw[G]at k5;refine .inr ⟨_,by simp only[go_sem,t1,t2,t3,t16,t17,J,O,f1,f2,f3,e1,e2,i1,i2,i4,i5,c1,c2,l1,l2,k2,k5,st,y1,z0,m1,<- Y,b2,<- e3,b3];rfl,by simp,_,_,_,.inr ⟨rfl,by simp only[go_sem],?_⟩⟩;rw[eS]at G;exact aB hj G
     .have m1:¬s.members.length - (j+1)=0:=by omega
      have a6:w.eraseIdx j=w.drop (j+1):=by rw[b5,w0,yL]
      have s1:s.members.length - (j+1)<=maxLen/\(s.members.length - (j+1))*8<=140737488355328:=by unfold maxLen;omega
      obtain⟨σ2,Y⟩:∃σ2,σ2=upd σ nx (some ⟨(w.drop (j+1)).flatMap cI,1,true⟩):=⟨_,rfl⟩;have b2:σ2 0=some ⟨cStructure s,0,true⟩:=by rw[Y,aH];exact J
      have x2:nx<nx+1+1:=by omega
      obtain⟨E,e3⟩:∃E,E=upd σ2 (nx+1) (some ⟨[I j],1,flat 7 (.agg (cStructure S))⟩):=⟨_,rfl⟩;have b3:E 0=some ⟨cStructure s,0,true⟩:=by rw[e3,aH];exact b2
      have st:∀d,strip E (d+1) (.rs nx 0 (s.members.length - (j+1)))=some (LI (w.eraseIdx j),[nx]):=fun d=>by rw[a6];exact kR (by rw[e3,aH,Y,aF]) (by omega) d
      cases G:pb (Dz S l (w.eraseIdx j))with
      |true=>
       rw[G]at k5 us;refine .inl ⟨_,by simp only[go_sem,t1,t2,t3,t16,t17,J,O,f1,f2,f3,e1,e2,i1,i2,i4,i5,c1,c2,l1,l2,k2,k5,st,y1,z0,m1,s1,<- Y,x2,b2,<- e3,b3];rfl,?_⟩;simp only[go_sem,t1,t2,t3,t16,b3];exact⟨rfl,by omega,by rw[us,hu];rfl⟩
      |false=>
       rw[G]at k5;refine .inr ⟨_,by simp only[go_sem,t1,t2,t3,t16,t17,J,O,f1,f2,f3,e1,e2,i1,i2,i4,i5,c1,c2,l1,l2,k2,k5,st,y1,z0,m1,s1,<- Y,x2,b2,<- e3,b3];rfl,by simp,_,_,_,.inr ⟨rfl,by simp only[go_sem],?_⟩⟩;rw[eS]at G;exact aB hj G
    .have z0:¬j=0:=b6
     have s1:j<=maxLen/\j*8<=140737488355328:=by unfold maxLen;omega
     by_cases b7:j+1=s.members.length
     .have m1:s.members.length - (j+1)=0:=by omega
      have w0:w.drop (j+1)=[]:=xZ (by omega);have a6:w.eraseIdx j=w.take j:=by rw[b5,w0,zM]
      obtain⟨σ2,Y⟩:∃σ2,σ2=upd σ nx (some ⟨(w.take j).flatMap cI,1,true⟩):=⟨_,rfl⟩;have b2:σ2 0=some ⟨cStructure s,0,true⟩:=by rw[Y,aH];exact J
      have a1:=WW (restrict σ2 [nx]) (nx+1) 1 8 nx 0 j [] (B:=⟨(w.take j).flatMap cI,1,true⟩) (by rw[gQ,Y,aF]);have x2:nx<nx+1+1:=by omega
      obtain⟨E,e3⟩:∃E,E=upd σ2 (nx+1) (some ⟨[I j],1,flat 7 (.agg (cStructure S))⟩):=⟨_,rfl⟩;have b3:E 0=some ⟨cStructure s,0,true⟩:=by rw[e3,aH];exact b2
      have st:∀d,strip E (d+1) (.rs nx 0 j)=some (LI (w.eraseIdx j),[nx]):=fun d=>by rw[a6];exact kR (by rw[e3,aH,Y,aF]) (by omega) d
      cases G:pb (Dz S l (w.eraseIdx j))with
      |true=>
       rw[G]at k5 us;refine .inl ⟨_,by simp only[go_sem,t1,t2,t3,t16,t17,J,O,f1,f2,f3,e1,e2,i1,i2,i4,i5,c1,c2,l1,l2,k2,k5,st,y1,z0,m1,s1,<- Y,a1,x2,b2,<- e3,b3];rfl,?_⟩;simp only[go_sem,t1,t2,t3,t16,b3];exact⟨rfl,by omega,by rw[us,hu];rfl⟩
      |false=>
       rw[G]at k5;refine .inr ⟨_,by simp only[go_sem,t1,t2,t3,t16,t17,J,O,f1,f2,f3,e1,e2,i1,i2,i4,i5,c1,c2,l1,l2,k2,k5,st,y1,z0,m1,s1,<- Y,a1,x2,b2,<- e3,b3];rfl,by simp,_,_,_,.inr ⟨rfl,by simp only[go_sem],?_⟩⟩;rw[eS]at G;exact aB hj G
     .have m1:¬s.members.length - (j+1)=0:=by omega
      obtain⟨a7,e5⟩:∃a7,a7=upd σ nx (some ⟨(w.take j).flatMap cI,1,true⟩):=⟨_,rfl⟩;have a1:=rP (σ:=restrict a7 [nx]) (nx:=nx+1) (bytes:=8) (b:=nx) (len:=j) (m:=s.members.length - (j+1)) (row:=(w.drop (j+1)).flatMap cI) (B:=⟨(w.take j).flatMap cI,1,true⟩) (by rw[gQ,e5,aF]) (by show((w.take j).flatMap cI).length=_;rw[qW,l1]) rfl m1 (by unfold maxLen;omega) (by omega) c2;obtain⟨σ2,Y⟩:∃σ2,σ2=xI [nx] (nx+1) (nx+1+1) a7 (upd (upd (restrict a7 [nx]) nx none) (nx+1) (some ⟨(w.take j).flatMap cI++(w.drop (j+1)).flatMap cI,1,true⟩)):=⟨_,rfl⟩;have b2:σ2 0=some ⟨cStructure s,0,true⟩:=by
       rw[Y];unfold xI;rw[su (by simp;omega),e5,aH];exact J
      have b4:σ2 (nx+1)=some ⟨(w.take j).flatMap cI++(w.drop (j+1)).flatMap cI,1,true⟩:=by
       rw[Y];unfold xI;rw[sZ (.inr ⟨zq _,by omega⟩),aF]
      have x2:nx+1<nx+1+1:=by omega
      have x3:nx+1<nx+1+1+1:=by omega
      obtain⟨E,e3⟩:∃E,E=upd σ2 (nx+1+1) (some ⟨[I j],1,flat 7 (.agg (cStructure S))⟩):=⟨_,rfl⟩;have b3:E 0=some ⟨cStructure s,0,true⟩:=by rw[e3,aH];exact b2
      have st:∀d,strip E (d+1) (.rs (nx+1) 0 (j+(s.members.length - (j+1))))=some (LI (w.eraseIdx j),[nx+1]):=fun d=>kR (by rw[e3,aH,b4,<- zT,<- b5]) (by omega) d
      cases G:pb (Dz S l (w.eraseIdx j))with
      |true=>
       rw[G]at k5 us;refine .inl ⟨_,by simp only[go_sem,t1,t2,t3,t16,t17,J,O,f1,f2,f3,e1,e2,i1,i2,i4,i5,c1,c2,l1,l2,k2,k5,st,y1,z0,m1,s1,<- Y,<- e5,a1,x2,x3,b2,<- e3,b3];rfl,?_⟩;simp only[go_sem,t1,t2,t3,t16,b3];exact⟨rfl,by omega,by rw[us,hu];rfl⟩
      |false=>
       rw[G]at k5;refine .inr ⟨_,by simp only[go_sem,t1,t2,t3,t16,t17,J,O,f1,f2,f3,e1,e2,i1,i2,i4,i5,c1,c2,l1,l2,k2,k5,st,y1,z0,m1,s1,<- Y,<- e5,a1,x2,x3,b2,<- e3,b3];rfl,by simp,_,_,_,.inr ⟨rfl,by simp only[go_sem],?_⟩⟩;rw[eS]at G;exact aB hj G) (by
    rintro ⟨T,σ,nx⟩ ⟨t1,t2,t3,t16,t17,a8,J,hu⟩;simp only at t1 t2 t3 t16 t17 a8 J;exact⟨_,by simp only[go_sem,t16,t17,zk];rfl,by simp,_,_,_,.inl ⟨rfl,hu⟩⟩) (by
    simp only[go_sem];rfl)
  obtain⟨T,σ,nx,⟨rfl,hu⟩|⟨rfl,t6,hu⟩⟩:=hx
  .rw[hu]
   simp only[go_sem]
  .rw[hu]
   simp only[go_sem,t6]
theorem XL(t:Stance)(G:okStance t)(strict:Bool):fn Ze pI Ad 102 [.agg (cStance t),Bo strict]=some (Bo (II t strict)):=by
 have E:=Jm t G;unfold II;rw[mW,nK [.tmp 4] [] func102];cases hs:BQ t with
 |false=>
  rw[hs]at E;simp only[go_sem,E]
 |true=>
  rw[hs]at E;obtain⟨J,O,S⟩:=dB hs;have Y:=XK J G.2.1 O S;have k3:=Ov J G.2.1 O S;cases strict with
  |true=>simp only[go_sem,E,Y]
  |false=>simp only[go_sem,E,k3]
theorem apw(y:Yard)(ho:okYard y)(Qb:y.stances.length<=6):fn Ze pI Ad 56 [.agg (cYard y)]=some (LL J4 (Bg y)):=by
 have b2:=f_ y;rw[mW,nK [.tmp 2] [] func56];simp only[go_sem];generalize G:gI _ _=z;obtain⟨r,rfl,T',σ',nx',rfl,E⟩:=pJ G y.stances.length (fun k s=>1<=s.nx/\s.T 1= .rp 0 0/\s.T 8=LL cStance y.stances/\s.T 9=I y.stances.length/\s.T 10=I k/\s.σ 0=some ⟨cYard y,0,true⟩/\BZ J4 1 s.T s.σ s.nx 3 ((Bg y).take k)/\∀b o l,s.T 3= .rs b o l->1<=b)
  (fun r=>∃T σ nx',r=(.exit 0,⟨T,σ,nx'⟩)/\BZ J4 1 T σ nx' 3 (Bg y)) (by
   clear G;rintro k ⟨T,σ,m⟩ J ⟨hm,t1,t8,t9,t10,hs,E,hb⟩;simp only at hm t1 t8 t9 t10 hs E hb;have O:k<(Bg y).length:=by omega
   have f1:(k:Int)<(y.stances.length:Int):=by omega
   have f2:=jL k;have f3:=Zl (n:=(k:Int)+1);have f4:=MK y.stances k J;have f5:=Gi y.stances;have f6:k*5+5<=y.stances.length*5:=by omega
   have f9:=ML y.stances k J;have S:=XL y.stances[k] (ho.1.1 _ (zu J)) y.strict;have es:(Bg y)[k]=II y.stances[k] y.strict:=by simp[Bg]
   have z1:¬0=m:=by omega
   have z2:¬m=0:=by omega
   obtain⟨t,et⟩:∃t,t=y.stances[k]:=⟨_,rfl⟩;rw[<- et]at f4 S es;obtain⟨Y,eb⟩:∃Y,Y=II t y.strict:=⟨_,rfl⟩;rw[<- eb]at S es;have a1:=lK E (some ⟨cStance t,0,true⟩);obtain⟨σ',ha,a6,a7⟩:=lJ (c:=J4) (s:=1) (bytes:=1) (fun _=>rfl) (fun _=>rfl) (by decide) a1 Y (by rw[zh];omega) (by decide);have q0:σ' 0=some ⟨cYard y,0,true⟩:=by rw[a7 0 (by omega) (fun b o l h e=>by have:=hb b o l h;omega),aH];exact hs
   refine .inl ⟨_,by simp only[go_sem,t1,t8,t9,t10,hs,f1,f2,f3,f4,f5,f6,f9,S,ha,z1,z2];rfl,?_⟩;simp only[go_sem,t1,t8,t9];rw[ah O,es];refine⟨rfl,q0,lG a6 (by simp only[go_sem,zl]) (by simp),fun b o l h=>by(cases h;omega)⟩) (by
   clear G;rintro ⟨T,σ,m⟩ ⟨hm,t1,t8,t9,t10,hs,E,hb⟩;simp only at hm t1 t8 t9 t10 hs E hb;rw[zo (by omega)]at E;exact⟨_,by simp only[go_sem,t9,t10,zk];rfl,by simp,_,_,_,rfl,Xd (by simp only[go_sem]) E⟩) (by
   simp only[go_sem];exact⟨.inl ⟨by simp only[go_sem],rfl⟩,fun b o l h=>by cases h⟩)
 obtain⟨ids,a8⟩:=lF (c:=J4) (s:=1) (fun _=>rfl) 6 (fun x=>by rw[bU,bC,bP];rfl) E;simp only[go_sem,a8]
end Go.Proofs.YtkpdoehbhmipcaaGreat
namespace Go.Proofs.YtkpdoehbhmipcaaGreat
open Go Go.TV
def FT(b:Nat):List Nat:=[b,b+1,b+2,b+3]
theorem Eo.stripL{σ:Store}{b:Nat}{s:Stance}(h:Eo σ b s)(d:Nat):TV.stripL (TV.strip σ (d+2)) (DI b s)=some (cStance s,FT b):=by
 have G:CY (TV.own σ 1) (DI b s)=some (cStance s,[b,b+1,b+2,b+3]):=h.own 0;have J:TV.own σ 2 (.agg (DI b s))=some (.agg (cStance s),FT b):=by
  unfold TV.own;simp only[G];rfl
 have E:=iW 2 _ _ _ J (d+3) (by omega);rw[bJ]at E;obtain⟨p,O,e⟩:=Am E;obtain⟨a,b⟩:=p;simp only[t_,V.agg.injEq]at e;rw[O,<- e.1,<- e.2]
theorem Ox{b m:Nat}(h:b+4<=m):((FT b).all fun b=>decide (b<m))=true:=by
 simp[FT];omega
theorem XM{σ E:Store}{lo hi b:Nat}(G:lo<=b)(J:b<hi):xI [] lo hi σ E b=E b:=by
 unfold xI;rw[sZ (.inr ⟨G,J⟩)]
theorem QE{σ E:Store}{lo hi b:Nat}(h:b<lo):xI [] lo hi σ E b=σ b:=by
 unfold xI;rw[su (by simp;omega)]
theorem XO{E:Array Edge}{ids:List Nat}:∀ {acc:List (Nat×Bool×List Nat)},(acc.all fun p=> !p.2.1)=true->okG E false ids acc=true
 |[],_=>rfl
 |p :: acc,h=>by
  rw[uT,yc]at h;have G:p.2.1=false:=by simpa using h.1
  unfold okG;rw[G,XO h.2];rfl
theorem XP{E:Array Edge}{ids:List Nat}{acc:List (Nat×Bool×List Nat)}(h:(acc.all fun p=> !p.2.1)=true):okF E acc false ids=true:=by
 cases ids with
 |nil=>rfl
 |cons b G=>exact XO h
theorem DJ.stripL{σ:Store}{n:Nat}{y:Yard}(h:DJ σ n y)(d:Nat):TV.stripL (TV.strip σ (d+2)) (EU n y)=some (cYard y,Ic n y):=by
 have:=h.strip d;rw[bJ]at this;obtain⟨p,E,e⟩:=Am this;obtain⟨a,b⟩:=p;simp only[t_,V.agg.injEq]at e;rw[E,<- e.1,<- e.2]
theorem QF{n m:Nat}{y:Yard}(h:n+2+10*y.stances.length<=m):((Ic n y).all fun b=>decide (b<m))=true:=by
 rw[wL];intro b hb;have:=agp hb;simp only[decide_eq_true_eq];omega
open Go.Plan
attribute [-go_sem] rH
def XQ(y:Yard)(a c:Int):Bool:=y.moves.any fun m=>(m.fr==a) && (m.to==c)
noncomputable def Es(y:Yard)(plan:List Int)(k:Nat):Bool:=inB (plan.getD k 0) 0 ((y.stances.length:Int) - 1) && (alB (Bg y) (plan.getD k 0).toNat && (decide (k=0)||XQ y (plan.getD (k-1) 0) (plan.getD k 0)))
noncomputable def Ec(y:Yard)(plan:List Int):Bool:=pb (AY y) && (decide (plan≠[]) && (List.range plan.length).all (Es y plan))
theorem avC(y:Yard)(hg:AY y)(a c:Int):fn Ze conv ext 57 [.agg (cYard y),I a,I c]=some (Bo (XQ y a c)):=by
 have a6:=hg.2.1;unfold XQ;rw[mW,nK [.tmp 6] [] func57];simp only[go_sem];generalize S:gI _ _=z;obtain⟨x,rfl,hx⟩:=pJ S y.moves.length (fun j st=>st.T 1=I a/\st.T 2=I c/\st.T 10=LL cMove y.moves/\st.T 11=I y.moves.length/\st.T 12=I j/\∀i (h:i<y.moves.length),i<j->((y.moves[i].fr==a) && (y.moves[i].to==c))=false)
  (fun x=>∃T σ nx,(x=(.exit 0,⟨T,σ,nx⟩)/\(y.moves.any fun m=>(m.fr==a) && (m.to==c))=false)\/(x=(.ret,⟨T,σ,nx⟩)/\T 6=Bo true/\(y.moves.any fun m=>(m.fr==a) && (m.to==c))=true)) (by
   clear S;rintro j ⟨T,σ,nx⟩ Y ⟨t1,t2,t10,t11,t12,E⟩;simp only at t1 t2 t10 t11 t12;have g1:(j:Int)<(y.moves.length:Int):=by omega
   have g2:=jL j;have g3:=Zl (n:=(j:Int)+1);have g4:=ZP y.moves j Y;have g5:=JX y.moves;have g6:j*2+2<=y.moves.length*2:=by omega
   have g9:=ZQ y.moves j Y;obtain⟨m,J⟩:∃m,m=y.moves[j]:=⟨_,rfl⟩;rw[<- J]at g4;have y1:nx<nx+1:=by omega
   cases G:(m.fr==a)with
   |false=>
    refine .inl ⟨_,by simp only[go_sem,t1,t2,t10,t11,t12,g1,g2,g3,g4,g5,g6,g9,y1,G];rfl,?_⟩;simp only[go_sem,t1,t2,t10,t11];refine⟨rfl,fun i hi a1=>?_⟩
    by_cases e:i=j
    .subst e;rw[<- J,G];rfl
    .exact E i hi (by omega)
   |true=>cases O:(m.to==c)with
    |false=>
     refine .inl ⟨_,by simp only[go_sem,t1,t2,t10,t11,t12,g1,g2,g3,g4,g5,g6,g9,y1,G,O];rfl,?_⟩;simp only[go_sem,t1,t2,t10,t11];refine⟨rfl,fun i hi a1=>?_⟩
     by_cases e:i=j
     .subst e;rw[<- J,O,wJ]
     .exact E i hi (by omega)
    |true=>
     refine .inr ⟨_,by simp only[go_sem,t1,t2,t10,t11,t12,g1,g2,g4,g5,g6,g9,y1,G,O];rfl,by simp,_,_,_,.inr ⟨rfl,by simp only[go_sem],?_⟩⟩;rw[List.any_eq_true];exact⟨m,by rw[J];exact zu Y,by rw[G,O];rfl⟩) (by
   clear S;rintro ⟨T,σ,nx⟩ ⟨t1,t2,t10,t11,t12,E⟩;simp only at t1 t2 t10 t11 t12;refine⟨_,by simp only[go_sem,t11,t12,zk];rfl,by simp,_,_,_,.inl ⟨rfl,?_⟩⟩;rw[List.any_eq_false];intro m hm;obtain⟨i,hi,rfl⟩:=yV hm;rw[E i hi hi];simp) (by
   simp only[go_sem];exact fun i _ h=>absurd h (zU _))
 obtain⟨T,σ,nx,⟨rfl,hm⟩|⟨rfl,t6,hm⟩⟩:=hx
 .rw[hm]
  simp only[go_sem]
 .rw[hm]
  simp only[go_sem,t6]
theorem QG{p:Nat->Bool}{n:Nat}(h:∀i,i<n->p i=true):(List.range n).all p=true:=by
 rw[wL];exact fun i hi=>h i (List.mem_range.mp hi)
theorem IW{p:Nat->Bool}{n k:Nat}(E:k<n)(h:p k=false):(List.range n).all p=false:=by
 rw[List.all_eq_false];exact⟨k,List.mem_range.mpr E,by rw[h];simp⟩
theorem alK(y:Yard)(ho:okYard y)(plan:List Int)(a8:plan.length<=1048576):fn Ze pI Ad 13 [.agg (cYard y),LI plan]=some (Bo (Ec y plan)):=by
 have k1:=ajC y ho;unfold Ec;rw[mW,nK [.tmp 4] [] func13];cases hg:pb (AY y)with
 |false=>
  rw[hg]at k1;simp only[go_sem,k1,uj]
 |true=>
  rw[hg]at k1;have hG:=MN hg;have Qb:=hG.1
  by_cases a1:plan=[]
  .subst a1
   have e0:((([]:List Int).length:Int)==0)=true:=rfl;simp only[go_sem,k1,e0];simp
  have b2:plan.length≠0:=fun e=>a1 (zZ e)
  have e0:((plan.length:Int)==0)=false:=by rw[sW];omega
  rw[sS a1,vw,vw];have k2:=apw y ho Qb;have hS:=f_ y;simp only[go_sem,k1,e0,k2];generalize hL:gI _ _=z;obtain⟨x,rfl,hx⟩:=pJ hL plan.length (fun k st=>st.T 1=LI plan/\st.T 2= .rp 0 0/\st.T 5=LL J4 (Bg y)/\st.T 18=LI plan/\st.T 19=I plan.length/\st.T 20=I k/\0<st.nx/\st.σ 0=some ⟨cYard y,0,true⟩/\∀i,i<k->Es y plan i=true)
   (fun x=>∃T σ nx,(x=(.exit 0,⟨T,σ,nx⟩)/\(List.range plan.length).all (Es y plan)=true)\/(x=(.ret,⟨T,σ,nx⟩)/\T 4=Bo false/\(List.range plan.length).all (Es y plan)=false)) (by
    clear hL;rintro k ⟨T,σ,nx⟩ S ⟨t1,t2,t5,O,t19,t20,G,J,Y⟩;simp only at t1 t2 t5 O t19 t20 G J;have g1:(k:Int)<(plan.length:Int):=by omega
    have g2:=jL k;have g3:=Zl (n:=(k:Int)+1);have g4:=idx (xs:=plan) (k:=k) S;have g5:=Aw plan k S;have gd:plan.getD k 0=plan[k]:=by rw[zx,zy S];rfl
    obtain⟨p,ep⟩:∃p,p=plan[k]:=⟨_,rfl⟩;rw[<- ep]at g4 gd;have k3:=kE p 0 ((y.stances.length:Int) - 1);have w1:=Zl (n:=(y.stances.length:Int) - 1);have E:Es y plan k=(inB p 0 ((y.stances.length:Int) - 1) && (alB (Bg y) p.toNat && (decide (k=0)||XQ y (plan.getD (k-1) 0) p))):=by unfold Es;rw[gd]
    have no:Es y plan k=false->(List.range plan.length).all (Es y plan)=false:=fun h=>IW S h
    cases hb:inB p 0 ((y.stances.length:Int) - 1)with
    |false=>
     rw[hb]at k3 E;refine .inr ⟨_,by simp only[go_sem,t1,t2,t5,O,t19,t20,hS,g1,g2,g4,g5,S,k3,w1];rfl,by simp,_,_,_,.inr ⟨rfl,by simp only[go_sem],no (by rw[E];rfl)⟩⟩
    |true=>
    rw[hb]at k3 E;have hr:=kS hb;obtain⟨j,rfl⟩:∃j:Nat,p=(j:Int):=⟨p.toNat,by omega⟩;rw[yS]at E;have hj:j<y.stances.length:=by omega
    have a6:j<(Bg y).length:=by omega
    have j1:(j:Int)<(y.stances.length:Int):=by omega
    have j2:=jL j;have j3:((Bg y).flatMap J4)[j]?=some (Bo (alB (Bg y) j)):=by rw[abS a6];exact dR (fun b=>Bo b) (Bg y) j a6
    have j5:=dO (c:=J4) (s:=1) (fun _=>rfl) (by omega) (Bg y) j a6;cases hs:alB (Bg y) j with
    |false=>
     rw[hs]at E j3;refine .inr ⟨_,by simp only[go_sem,t1,t2,t5,O,t19,t20,hS,g1,g2,g4,g5,S,k3,w1,j1,j2,j3,j5,hj];rfl,by simp,_,_,_,.inr ⟨rfl,by simp only[go_sem],no (by rw[E];rfl)⟩⟩
    |true=>
    rw[hs]at E j3
    by_cases h0:k=0
    .rw[sS h0]at E
     have i0:¬(0:Int)<(k:Int):=by omega
     refine .inl ⟨_,by simp only[go_sem,t1,t2,t5,O,t19,t20,hS,g1,g2,g3,g4,g5,S,k3,w1,j1,j2,j3,j5,hj,i0];rfl,?_⟩;simp only[go_sem,t1,t2,t5,O,t19];refine⟨rfl,G,J,fun i hi=>?_⟩
     by_cases e:i=k
     .rw[e,E];rfl
     .exact Y i (by omega)
    .have i0:(0:Int)<(k:Int):=by omega
     rw[sQ h0,Bool.false_or]at E;have i1:=Zl (n:=(k:Int) - 1);have i2:(k:Int) - 1=((k-1:Nat):Int):=by omega
     have i3:=idx (xs:=plan) (k:=k-1) (by omega);have i4:((k-1:Nat):Int)<(plan.length:Int):=by omega
     have i5:(0:Int)<=((k-1:Nat):Int):=by omega
     have i6:k-1<plan.length:=by omega
     rw[i2]at i1;have a7:plan.getD (k-1) 0=plan[k-1]'(by omega):=by rw[zx,zy (by omega)];rfl
     obtain⟨q,eq⟩:∃q,q=plan[k-1]'(by omega):=⟨_,rfl⟩;rw[<- eq]at i3 a7;rw[a7]at E;have k4:=avC y hG q (j:Int);cases hm:XQ y q (j:Int)with
     |false=>
      rw[hm]at E k4;refine .inr ⟨_,by simp only[go_sem,t1,t2,t5,O,t19,t20,J,G,hS,g1,g2,g4,g5,S,k3,w1,j1,j2,j3,j5,hj,i0,i1,i2,i3,i4,i5,i6,k4];rfl,by simp,_,_,_,.inr ⟨rfl,by simp only[go_sem],no (by rw[E];rfl)⟩⟩
     |true=>
      rw[hm]at E k4;refine .inl ⟨_,by simp only[go_sem,t1,t2,t5,O,t19,t20,J,G,hS,g1,g2,g3,g4,g5,S,k3,w1,j1,j2,j3,j5,hj,i0,i1,i2,i3,i4,i5,i6,k4];rfl,?_⟩;simp only[go_sem,t1,t2,t5,O,t19];refine⟨rfl,G,J,fun i hi=>?_⟩
      by_cases e:i=k
      .rw[e,E];rfl
      .exact Y i (by omega)) (by
    clear hL;rintro ⟨T,σ,nx⟩ ⟨t1,t2,t5,O,t19,t20,G,J,Y⟩;simp only at t1 t2 t5 O t19 t20 G J;exact⟨_,by simp only[go_sem,t19,t20,zk];rfl,by simp,_,_,_,.inl ⟨rfl,QG Y⟩⟩) (by
    simp only[go_sem];exact fun i h=>absurd h (zU _))
  obtain⟨T,σ,nx,⟨rfl,hm⟩|⟨rfl,t4,hm⟩⟩:=hx
  .rw[hm]
   simp only[go_sem]
  .rw[hm]
   simp only[go_sem,t4]
theorem aik(xs:List TV.Move)(m:TV.Move)(h:xs.length<=maxLen):fn Ze conv ext 55 [LL cMove xs,.agg (cMove m)]=some (Bo (xs.any fun o=>(o.fr==m.fr) && (o.to==m.to))):=by
 have G:=Pv xs m h;have e:(xs.any fun o=>(o.fr==m.fr) && (o.to==m.to))=decide (0<=ix (BF m) xs):=by
  by_cases c:ix (BF m) xs<0
  .rw[sQ (by omega),List.any_eq_false]
   intro o E;have:=(JY _ _).mp c o E;unfold BF at this;rw[BEq.comm (a:=o.fr),BEq.comm (a:=o.to),this];simp
  .rw[sS (by omega),List.any_eq_true]
   refine zf fun hn=>c ((JY _ _).mpr fun o E=>?_)
   cases hs:BF m o with
   |false=>rfl
   |true=>
    unfold BF at hs;exact absurd ⟨o,E,by rw[BEq.comm (a:=o.fr),BEq.comm (a:=o.to)];exact hs⟩ hn
 rw[e,mW,nK [.tmp 4] [] func55]
 by_cases c:(0:Int)<=ix (BF m) xs
 .rw[sS c]
  simp only[go_sem,G,c]
 .rw[sQ c]
  simp only[go_sem,G,c]
theorem alL(y:Yard)(ho:okYard y)(plan:List Int)(b2:plan.length<=1048576):fn Ze BA Di 12 [.agg (cYard y),LI plan]=some (Bo (Ec y plan)):=by
 have k1:=ajB y ho;unfold Ec;rw[mW,nK [.tmp 4] [] func12];cases hg:pb (AY y)with
 |false=>
  rw[hg]at k1;simp only[go_sem,k1,uj]
 |true=>
  rw[hg]at k1;have hG:=MN hg;have Qb:=hG.1;have b3:=hG.2.1
  by_cases a1:plan=[]
  .subst a1
   have e0:((([]:List Int).length:Int)==0)=true:=rfl;simp only[go_sem,k1,e0];simp
  have b4:plan.length≠0:=fun e=>a1 (zZ e)
  have e0:((plan.length:Int)==0)=false:=by rw[sW];omega
  rw[sS a1,vw,vw];have k2:=asK y ho Qb;have hS:=f_ y;obtain⟨wr,a8⟩:∃wr,wr=flat 7 (LL J4 (Bg y)):=⟨_,rfl⟩;simp only[go_sem,k1,e0,k2];generalize hL:gI _ _=z;obtain⟨x,rfl,hx⟩:=pJ hL plan.length (fun k st=>st.T 1=LI plan/\st.T 2= .rp 0 0/\st.T 5=LL J4 (Bg y)/\st.T 17=LI plan/\st.T 18=I plan.length/\st.T 19=I k/\0<st.nx/\st.σ 0=some ⟨cYard y,0,wr⟩/\∀i,i<k->Es y plan i=true)
   (fun x=>∃T σ nx,(x=(.exit 0,⟨T,σ,nx⟩)/\(List.range plan.length).all (Es y plan)=true)\/(x=(.ret,⟨T,σ,nx⟩)/\T 4=Bo false/\(List.range plan.length).all (Es y plan)=false)) (by
    clear hL;rintro k ⟨T,σ,nx⟩ S ⟨t1,t2,t5,t17,O,t19,G,J,Y⟩;simp only at t1 t2 t5 t17 O t19 G J;have g1:(k:Int)<(plan.length:Int):=by omega
    have g2:=jL k;have g3:=Zl (n:=(k:Int)+1);have g4:=idx (xs:=plan) (k:=k) S;have g5:=Aw plan k S;have gd:plan.getD k 0=plan[k]:=by rw[zx,zy S];rfl
    obtain⟨p,ep⟩:∃p,p=plan[k]:=⟨_,rfl⟩;rw[<- ep]at g4 gd;have E:Es y plan k=(inB p 0 ((y.stances.length:Int) - 1) && (alB (Bg y) p.toNat && (decide (k=0)||XQ y (plan.getD (k-1) 0) p))):=by unfold Es;rw[gd]
    have no:Es y plan k=false->(List.range plan.length).all (Es y plan)=false:=fun h=>IW S h
    by_cases c1:p<0
    .have hb:inB p 0 ((y.stances.length:Int) - 1)=false:=by unfold inB;rw[sQ (by omega)];rfl
     rw[hb]at E;refine .inr ⟨_,by simp only[go_sem,t1,t2,t5,t17,O,t19,hS,g1,g2,g4,g5,S,c1];rfl,by simp,_,_,_,.inr ⟨rfl,by simp only[go_sem],no (by rw[E];rfl)⟩⟩
    by_cases c2:(y.stances.length:Int)<=p
    .have hb:inB p 0 ((y.stances.length:Int) - 1)=false:=by unfold inB;rw[sQ (p:=p<=_) (by omega),wJ]
     rw[hb]at E;refine .inr ⟨_,by simp only[go_sem,t1,t2,t5,t17,O,t19,hS,g1,g2,g4,g5,S,c1,c2];rfl,by simp,_,_,_,.inr ⟨rfl,by simp only[go_sem],no (by rw[E];rfl)⟩⟩
    have hb:inB p 0 ((y.stances.length:Int) - 1)=true:=by unfold inB;rw[sS (by omega),sS (by omega)];rfl
    rw[hb]at E;obtain⟨j,rfl⟩:∃j:Nat,p=(j:Int):=⟨p.toNat,by omega⟩;rw[yS]at E;have hj:j<y.stances.length:=by omega
    have a6:j<(Bg y).length:=by omega
    have j1:(j:Int)<(y.stances.length:Int):=by omega
    have j2:=jL j;have j3:((Bg y).flatMap J4)[j]?=some (Bo (alB (Bg y) j)):=by rw[abS a6];exact dR (fun b=>Bo b) (Bg y) j a6
    have j5:=dO (c:=J4) (s:=1) (fun _=>rfl) (by omega) (Bg y) j a6;cases hs:alB (Bg y) j with
    |false=>
     rw[hs]at E j3;refine .inr ⟨_,by simp only[go_sem,t1,t2,t5,t17,O,t19,hS,g1,g2,g4,g5,S,c1,c2,j1,j2,j3,j5,hj];rfl,by simp,_,_,_,.inr ⟨rfl,by simp only[go_sem],no (by rw[E];rfl)⟩⟩
    |true=>
    rw[hs]at E j3
    by_cases h0:k=0
    .rw[sS h0]at E
     have i0:¬(0:Int)<(k:Int):=by omega
     refine .inl ⟨_,by simp only[go_sem,t1,t2,t5,t17,O,t19,hS,g1,g2,g3,g4,g5,S,c1,c2,j1,j2,j3,j5,hj,i0];rfl,?_⟩;simp only[go_sem,t1,t2,t5,t17,O];refine⟨rfl,G,J,fun i hi=>?_⟩
     by_cases e:i=k
     .rw[e,E];rfl
     .exact Y i (by omega)
    .have i0:(0:Int)<(k:Int):=by omega
     rw[sQ h0,Bool.false_or]at E;have i1:=Zl (n:=(k:Int) - 1);have i2:(k:Int) - 1=((k-1:Nat):Int):=by omega
     have i3:=idx (xs:=plan) (k:=k-1) (by omega);have i4:((k-1:Nat):Int)<(plan.length:Int):=by omega
     have i5:(0:Int)<=((k-1:Nat):Int):=by omega
     have i6:k-1<plan.length:=by omega
     rw[i2]at i1;have a7:plan.getD (k-1) 0=plan[k-1]'(by omega):=by rw[zx,zy (by omega)];rfl
     obtain⟨q,eq⟩:∃q,q=plan[k-1]'(by omega):=⟨_,rfl⟩;rw[<- eq]at i3 a7;rw[a7]at E;have k4:fn Ze conv ext 55 [LL cMove y.moves,.agg [I q,I j]]=some (Bo (XQ y q (j:Int))):=aik y.moves ⟨q,(j:Int)⟩ (by unfold maxLen;omega)
     cases hm:XQ y q (j:Int)with
     |false=>
      rw[hm]at E k4;refine .inr ⟨_,by simp only[go_sem,t1,t2,t5,t17,O,t19,J,G,hS,g1,g2,g4,g5,S,c1,c2,j1,j2,j3,j5,hj,i0,i1,i2,i3,i4,i5,i6,k4];rfl,by simp,_,_,_,.inr ⟨rfl,by simp only[go_sem],no (by rw[E];rfl)⟩⟩
     |true=>
      rw[hm]at E k4;refine .inl ⟨_,by simp only[go_sem,t1,t2,t5,t17,O,t19,J,G,hS,g1,g2,g3,g4,g5,S,c1,c2,j1,j2,j3,j5,hj,i0,i1,i2,i3,i4,i5,i6,k4];rfl,?_⟩;simp only[go_sem,t1,t2,t5,t17,O];refine⟨rfl,G,J,fun i hi=>?_⟩
      by_cases e:i=k
      .rw[e,E];rfl
      .exact Y i (by omega)) (by
    clear hL;rintro ⟨T,σ,nx⟩ ⟨t1,t2,t5,t17,O,t19,G,J,Y⟩;simp only at t1 t2 t5 t17 O t19 G J;exact⟨_,by simp only[go_sem,O,t19,zk];rfl,by simp,_,_,_,.inl ⟨rfl,QG Y⟩⟩) (by
    simp only[go_sem];exact⟨by rw[a8],fun i h=>absurd h (zU _)⟩)
  obtain⟨T,σ,nx,⟨rfl,hm⟩|⟨rfl,t4,hm⟩⟩:=hx
  .rw[hm]
   simp only[go_sem]
  .rw[hm]
   simp only[go_sem,t4]
end Go.Proofs.YtkpdoehbhmipcaaGreat
/- What a member needs: the least whole limit. -/
namespace Go.Proofs.YtkpdoehbhmipcaaGreat
open Go Go.TV Go.Lp
attribute [-go_sem] rH
def sqr(m:Nat):Rat:=(((m:Int)*(m:Int):Int):Rat)
theorem ail{m n:Nat}(h:m<=n):sqr m<=sqr n:=by
 unfold sqr;have:(m:Int)*(m:Int)<=(n:Int)*(n:Int):=Int.mul_le_mul (Int.ofNat_le.mpr h) (Int.ofNat_le.mpr h) (Int.natCast_nonneg m) (Int.natCast_nonneg n);exact Rat.intCast_le_intCast.mpr this
theorem apy{m n:Nat}{x:Rat}(h:m<=n)(hn:sqr n<x):sqr m<x:=by have:=ail h;grind
def ain(x:Rat)(n:Nat):Prop:=n<=1001/\(∀m,m<n->sqr m<x)/\(n=1001\/¬sqr n<x)
theorem ab7(x:Rat):∃n,ain x n:=by
 obtain⟨k,E,hm⟩:=Go.Plan.least (p:=fun n=>n=1001\/¬sqr n<x) ⟨1001,.inl rfl⟩;refine⟨k,hm 1001 (.inl rfl),fun m G=>?_,E⟩
 by_cases h:sqr m<x
 .exact h
 .have:=hm m (.inr h);omega
noncomputable def need(x:Rat):Nat:=Classical.choose (ab7 x)
theorem ab8(x:Rat):ain x (need x):=Classical.choose_spec (ab7 x)
theorem T_{x:Rat}{n:Nat}(h:ain x n):need x=n:=by
 obtain⟨J,a2,a3⟩:=ab8 x;obtain⟨b1,E,G⟩:=h;rcases Nat.lt_trichotomy (need x) n with c|c|c
 .have:=E _ c
  rcases a3 with e|e
  .omega
  .exact absurd this e
 .exact c
 .have:=a2 _ c
  rcases G with e|e
  .omega
  .exact absurd this e
theorem apz(a b:Int):0<Ah a b↔Ah b a<0:=by
 rcases pY a b with ⟨J,E⟩|⟨J,E⟩|⟨J,E⟩<;>rcases pY b a with ⟨O,G⟩|⟨O,G⟩|⟨O,G⟩<;>rw[E,G]<;>omega
theorem ab9(m:Nat)(h:m<=1000):-9223372036854775808<(m:Int)*(m:Int)/\(m:Int)*(m:Int)<=1000000/\0<=(m:Int)*(m:Int):=by
 have E:m*m<=1000*1000:=yM h h;have G:(m:Int)*(m:Int)=((m*m:Nat):Int):=(zC m m).symm;omega
noncomputable def nd(x:Rat):Int:=if need x<=1000 then(need x:Int)else 0
noncomputable def nb(x:Rat):Bool:=decide (need x<=1000)
theorem alM(x:Rat)(hx:Ln 24 x):fn Ze conv ext 136 [.tp (cQ x) 0]=some (.Au [I (nd x),Bo (nb x)]):=by
 rw[mW,nK [.tmp 2,.tmp 3] [] func136];simp only[go_sem];generalize J:gI _ _=y;obtain⟨r,rfl,T,σ,nx,hr⟩:=pJ J 1001 (fun k st=>st.T 0= .tp (cQ x) 0/\st.T 5=I k/\∀m,m<k->sqr m<x)
  (fun r=>∃T σ nx,(r=(.exit 0,⟨T,σ,nx⟩)/\need x=1001)\/(r=(.ret,⟨T,σ,nx⟩)/\T 2=I (need x)/\T 3=Bo true/\need x<=1000)) (by
   clear J;rintro k ⟨T,σ,nx⟩ hk ⟨t0,t5,E⟩;simp only at t0 t5;have f1:(k:Int)<1001:=by omega
   have f3:=Zl (n:=(k:Int)+1);obtain⟨b1,b2,b3⟩:=ab9 k (by omega);have w1:=Zl (n:=(k:Int)*(k:Int));have O:=kM ((k:Int)*(k:Int)) (by omega) (by omega);have G:=amc (((k:Int)*(k:Int):Int):Rat) x ((sO (by omega)).mono (by decide)) (hx.mono (by decide));have hc:=TM (((k:Int)*(k:Int):Int):Rat) x;obtain⟨m2,S⟩:∃m2,m2=cQ (((k:Int)*(k:Int):Int):Rat):=⟨_,rfl⟩;obtain⟨z,ez⟩:∃z,z=Ah ((((k:Int)*(k:Int):Int):Rat).num*x.den) (x.num*(((k:Int)*(k:Int):Int):Rat).den):=⟨_,rfl⟩;rw[<- S]at O G;rw[<- ez]at G hc
   by_cases hz:0<=z
   .have hn:need x=k:=T_ ⟨by omega,E,.inr fun h=>by have:=hc.mpr h;omega⟩
    refine .inr ⟨_,by simp only[go_sem,t0,t5,f1,w1,O,G,hz];rfl,by simp,_,_,_,.inr ⟨rfl,by simp only[go_sem,hn],by simp only[go_sem],by omega⟩⟩
   .refine .inl ⟨_,by simp only[go_sem,t0,t5,f1,f3,w1,O,G,hz];rfl,?_⟩
    simp only[go_sem,t0];refine⟨rfl,fun m hm=>?_⟩
    by_cases e:m=k
    .subst e;exact hc.mp (by omega)
    .exact E m (by omega)) (by
   clear J;rintro ⟨T,σ,nx⟩ ⟨t0,t5,E⟩;simp only at t0 t5;have e:((1001:Nat):Int)=1001:=rfl;rw[e]at t5;exact⟨_,by simp only[go_sem,t5,zk];rfl,by simp,_,_,_,.inl ⟨rfl,T_ ⟨zq _,E,.inl rfl⟩⟩⟩) (by
   simp only[go_sem];exact fun m hm=>absurd hm (zU m))
 rcases hr with ⟨rfl,hn⟩|⟨rfl,t2,t3,hn⟩
 .have Y:nd x=0:=by unfold nd;rw[su (by omega)]
  have e2:nb x=false:=by unfold nb;exact sQ (by omega)
  rw[Y,e2];simp only[go_sem]
 .have Y:nd x=need x:=by unfold nd;rw[sZ hn]
  have e2:nb x=true:=by unfold nb;exact sS hn
  rw[Y,e2];simp only[go_sem,t2,t3]
noncomputable def Et(O:Option (List Rat)):Option (List Int):=O.bind fun xs=>if xs.all nb=true then some (xs.map nd)else none
def XR(o:Option (List Int)):V:=.Au [LI (o.getD []),Bo o.isSome]
theorem Oy{α:Type}{p:α->Bool}{xs:List α}{k:Nat}(E:k<xs.length)(h:(xs.take k).all p=true)(G:p xs[k]=true):(xs.take (k+1)).all p=true:=by
 rw[ah E,List.all_append,h];simp[G]
theorem aio{α:Type}{p:α->Bool}{xs:List α}{k:Nat}(G:k<xs.length)(E:p xs[k]=false):xs.all p=false:=by
 cases h:xs.all p with
 |false=>rfl
 |true=>
  rw[wL]at h;rw[h _ (zu G)]at E;cases E
theorem aip{s:Structure}(h:Ag s)(ho:okStructure s){qs:List Rat}(hl:qs.length=s.members.length)(hL:∀q∈qs,Ln 24 q) :
  fn Ze conv ext 77 [.agg (cStructure s),LL cQ qs]=some (XR (Et (Bf (FQ s qs)))):=by
 have b9:=h.2.1;have k1:=Ot h ho hl hL;unfold Cc at k1;rw[mW,nK [.tmp 4,.tmp 5] [] func77];cases hq:Bf (FQ s qs)with
 |none=>
  rw[hq]at k1;simp only[go_sem,k1];rfl
 |some xs=>
 rw[hq]at k1;have c0:xs.length=s.members.length:=by rw[eU hq,dD,hl]
 simp only[go_sem,k1];generalize a8:gI _ _=y;obtain⟨r,rfl,T,σ,nx,hr⟩:=pJ a8 xs.length (fun k st=>st.T 23=LL cQ xs/\st.T 24=I xs.length/\st.T 25=I k/\Grow st.T st.σ st.nx 8 ((xs.take k).map nd)/\(xs.take k).all nb=true)
  (fun r=>∃T σ nx,(r=(.exit 0,⟨T,σ,nx⟩)/\Grow T σ nx 8 (xs.map nd)/\xs.all nb=true)\/(r=(.ret,⟨T,σ,nx⟩)/\T 4= .nil/\T 5=Bo false/\xs.all nb=false)) (by
   clear a8;rintro k ⟨T,σ,nx⟩ hk ⟨t23,t24,t25,hg,E⟩;simp only at t23 t24 t25 hg;have g1:(k:Int)<(xs.length:Int):=by omega
   have g2:=jL k;have g3:=Zl (n:=(k:Int)+1);have g4:=dS (c:=cQ) (s:=3) qQ xs k hk;have g5:=dN (c:=cQ) (s:=3) qQ xs;have g6:k*3+3<=xs.length*3:=by omega
   have g7:=dO (c:=cQ) (s:=3) qQ (by omega) xs k hk;have hx:=TB hq _ (zu hk);obtain⟨x,ex⟩:∃x,x=xs[k]:=⟨_,rfl⟩;rw[<- ex]at g4 hx;have y1:nx<nx+1:=by omega
   have b2:=lD hg (some ⟨cQ x,0,true⟩);have hle:((xs.take k).map nd).length=k:=by rw[zV,zh];omega
   obtain⟨Y,e1⟩:∃Y,Y=upd σ nx (some ⟨cQ x,0,true⟩):=⟨_,rfl⟩;have b1:Y nx=some ⟨cQ x,0,true⟩:=by rw[e1,aF]
   rw[<- e1]at b2;refine cu ?_
   conv=>
    enter [1,r,1,1]
    simp only[go_sem,t23,t24,t25,g1,g2,g4,g5,g6,g7,hk,y1,<- e1]
   generalize hL:gI _ _=z;obtain⟨r,rfl,G,rfl,u8,J,O,S,a1,-⟩:=je hL (fun m st=>∃G lo hi,st=⟨G,Y,nx+1⟩/\lo<=hi/\m=hi-lo/\hi<=1001/\G 10= .rp nx 0/\G 11=I (lo:Nat)/\G 12=I (hi:Nat)/\(∀q,q<lo->sqr q<x)/\(hi=1001\/¬sqr hi<x)/\G 8=T 8/\G 23=LL cQ xs/\G 24=I xs.length/\G 25=I k)
    (fun r=>∃G,r=(.exit 2,⟨G,Y,nx+1⟩)/\G 8=T 8/\G 11=I (need x)/\G 23=LL cQ xs/\G 24=I xs.length/\G 25=I k/\True) (by
     clear hL;rintro m _ ⟨G,lo,hi,rfl,h1,h2,h3,a6,J,a7,b3,b4,u8,O,S,a1⟩
     by_cases c2:lo<hi
     .have f1:(lo:Int)<(hi:Int):=by omega
      obtain⟨md,c3⟩:∃md,md=(lo+hi) / 2:=⟨_,rfl⟩;have w1:=Zl (n:=(lo:Int)+(hi:Int));have q1:((lo:Int)+(hi:Int)).tdiv 2=(md:Int):=by rw[yQ (by omega)];omega
      have w2:=Zl (n:=(md:Int));obtain⟨c4,c5,c6⟩:=ab9 md (by omega);have w3:=Zl (n:=(md:Int)*(md:Int));have w4:=Zl (n:=(md:Int)+1);have k3:=fD ((md:Int)*(md:Int)) (by omega) (by omega);have k4:=ahJ x (((md:Int)*(md:Int):Int):Rat) hx ((sO (by omega)).mono (by decide):Ln 24 _) (by decide) (by decide) (by decide);have hc:=TM (((md:Int)*(md:Int):Int):Rat) x;rw[<- apz]at hc;obtain⟨m2,b5⟩:∃m2,m2=cQ (((md:Int)*(md:Int):Int):Rat):=⟨_,rfl⟩;obtain⟨z,ez⟩:∃z,z=Ah (x.num*(((md:Int)*(md:Int):Int):Rat).den) ((((md:Int)*(md:Int):Int):Rat).num*x.den):=⟨_,rfl⟩;rw[<- b5]at k3 k4;rw[<- ez]at k4 hc;have b6:∀σ d,stripL (strip σ d) m2=some (m2,[]):=fun σ d=>by rw[b5];exact qP σ d _
      have n2:(2:Int)≠0:=by decide
      by_cases hz:0<z
      .refine .inl ⟨_,by simp only[go_sem,a6,J,a7,b1,f1,w1,q1,w2,w3,w4,n2,y1,k3,k4,b6,hz];rfl,hi - (md+1),by omega,_,md+1,hi,rfl,by omega,rfl,h3,?_⟩
       simp only[go_sem,u8,a6,a7,O,S,a1];exact⟨rfl,fun q hq=>apy (n:=md) (by omega) (hc.mp hz),b4⟩
      .refine .inl ⟨_,by simp only[go_sem,a6,J,a7,b1,f1,w1,q1,w2,w3,w4,n2,y1,k3,k4,b6,hz];rfl,md-lo,by omega,_,lo,md,rfl,by omega,rfl,by omega,?_⟩
       simp only[go_sem,u8,a6,J,O,S,a1];exact⟨b3,.inr fun h=>hz (hc.mpr h)⟩
     .have f1:¬(lo:Int)<(hi:Int):=by omega
      have e:lo=hi:=by omega
      have hn:need x=lo:=T_ ⟨by omega,b3,by rw[e];exact b4⟩;refine .inr ⟨_,by simp only[go_sem,J,a7,f1];rfl,by simp,_,rfl,?_⟩;simp only[go_sem,u8,J,O,S,a1,hn]
      try trivial) 1001 (by
     refine⟨_,0,1001,rfl,by omega,rfl,by omega,?_⟩;simp only[go_sem,t23,t24,t25];exact⟨fun q hq=>absurd hq (zU q),.inl trivial⟩)
   have c7:=(ab8 x).1
   by_cases hn:need x<=1000
   .have i1:¬(1000:Int)<(need x:Int):=by omega
    have e1:nd x=need x:=by unfold nd;rw[sZ hn]
    have e2:nb x=true:=by unfold nb;exact sS hn
    have b8:Grow G Y (nx+1) 8 ((xs.take k).map nd):=ku u8 b2;obtain⟨σ',ha,hs⟩:=lC b8 (need x:Int) (by omega);rw[u8]at ha;refine⟨_,by simp only[go_sem,u8,J,O,S,a1,g3,i1,ha];rfl,.inl ⟨_,rfl,?_⟩⟩;simp only[go_sem,O,S];have em:(xs.take (k+1)).map nd=(xs.take k).map nd++[(need x:Int)]:=by rw[ah hk,xQ,<- ex,<- e1];rfl
    rw[em];obtain⟨acc,b7⟩:∃acc,acc=(xs.take k).map nd:=⟨_,rfl⟩;rw[<- b7]at hs;rw[<- b7];refine⟨rfl,kZ hs (by simp[go_sem]) (by simp),Oy hk E (by rw[<- ex];exact e2)⟩
   .have i1:(1000:Int)<(need x:Int):=by omega
    have e2:nb x=false:=by unfold nb;exact sQ hn
    refine⟨_,by simp only[go_sem,u8,J,O,S,a1,i1];rfl,.inr ⟨by simp,_,_,_,.inr ⟨rfl,?_⟩⟩⟩;simp only[go_sem];exact aio hk (by rw[<- ex];exact e2)) (by
   clear a8;rintro ⟨T,σ,nx⟩ ⟨t23,t24,t25,hg,E⟩;simp only at t23 t24 t25 hg;rw[zo (zq _)]at hg E;exact⟨_,by simp only[go_sem,t24,t25,zk];rfl,by simp,_,_,_,.inl ⟨rfl,ku (T:=T) (by simp only[go_sem]) hg,E⟩⟩) (by
   simp only[go_sem]
   first
    |exact⟨.inl ⟨by simp only[go_sem],rfl⟩,rfl⟩
    |exact .inl ⟨by simp only[go_sem],rfl⟩)
 rcases hr with ⟨rfl,hg,E⟩|⟨rfl,t4,t5,E⟩
 .have e:Et (some xs)=some (xs.map nd):=by unfold Et;rw[zi,sZ E]
  rw[e];obtain⟨ids,hs⟩:=kY hg 5;unfold XR;simp only[go_sem,hs,yB,Option.isSome_some]
 .have e:Et (some xs)=none:=by unfold Et;rw[zi,su (by rw[E];simp)]
  rw[e];unfold XR;simp only[go_sem,t4,t5,Option.getD_none,Option.isSome_none]
  try rfl
end Go.Proofs.YtkpdoehbhmipcaaGreat
/- A plan's line: the names of its stances,joined. -/
namespace Go.Proofs.YtkpdoehbhmipcaaGreat
open Go Go.TV Go.Plan
attribute [-go_sem] rH
theorem XT(xs:List ByteArray)(sep:ByteArray){k:Nat}(E:k=0)(h:k<xs.length):BX (xs.take k) sep++xs[k]=BX (xs.take (k+1)) sep:=by
 subst E;rw[Vu xs sep h,ZH];apply MC;rw[ZG];rfl
theorem aez(sep:ByteArray):BX [] sep=⟨#[]⟩:=by
 apply MC;rw[kH];rfl
def ab_:=dN (c:=JW) (s:=1) (fun _=>rfl)
theorem avE(xs:List ByteArray)(sep:ByteArray)(hl:xs.length<=1048576)(hx:∀x∈xs,x.size<=8)(hs:sep.size<=8):fn Ze conv ext 68 [LL JW xs,Sg sep]=some (Sg (BX xs sep)):=by
 have hz:∀k,k<=xs.length->(BX (xs.take k) sep).size<=16777216:=fun k E=>by
  have h1:=MF (xs.take k) sep 8 (fun x hm=>hx x (xH hm));have h2:(xs.take k).length<=1048576:=by rw[zh];omega
  have h3:(xs.take k).length*(8+sep.size)<=1048576*16:=yM h2 (by omega);omega
 rw[mW,nK [.tmp 4] [] func68];simp only[go_sem];generalize O:gI _ _=y;obtain⟨x,rfl,T,σ,nx,rfl,h5⟩:=pJ O xs.length (fun k st=>st.T 1=Sg sep/\st.T 5=Sg (BX (xs.take k) sep)/\st.T 8=LL JW xs/\st.T 9=I xs.length/\st.T 10=I k)
  (fun x=>∃T σ nx,x=(.exit 0,⟨T,σ,nx⟩)/\T 5=Sg (BX xs sep)) (by
   clear O;rintro k ⟨T,σ,nx⟩ E ⟨t1,t5,t8,t9,t10⟩;simp only at t1 t5 t8 t9 t10;have f1:(k:Int)<(xs.length:Int):=by omega
   have f2:=jL k;have f3:=Zl (n:=(k:Int)+1);have f4:(xs.flatMap JW)[k]?=some (Sg xs[k]):=dR (fun x=>Sg x) xs k E;have f5:=ab_ xs;have f9:=dO (c:=JW) (s:=1) (fun _=>rfl) (by omega) xs k E;have S:=hx _ (zu E);have z1:=hz k (by omega);have G:=XT xs sep (k:=k);have J:=ZI xs sep (k:=k);obtain⟨a,ea⟩:∃a,a=BX (xs.take k) sep:=⟨_,rfl⟩;obtain⟨b,eb⟩:∃b,b=BX (xs.take (k+1)) sep:=⟨_,rfl⟩;obtain⟨x,ex⟩:∃x,x=xs[k]:=⟨_,rfl⟩;rw[<- ea]at t5 z1;simp only[<- ea,<- eb,<- ex]at G J;rw[<- ex]at f4 S;rw[<- eb]
   by_cases h0:k=0
   .have Y:¬(0:Int)<(k:Int):=by omega
    have n1:a.size+x.size<=9223372036854775807:=by omega
    refine .inl ⟨_,by simp only[go_sem,t1,t5,t8,t9,t10,f1,f2,f3,f4,f5,f9,E,Y,n1,G h0 E];rfl,?_⟩;simp only[go_sem,t1,t8,t9]
    try trivial
   .have Y:(0:Int)<(k:Int):=by omega
    have n1:a.size+sep.size<=9223372036854775807:=by omega
    have n2:(a++sep).size=a.size+sep.size:=ByteArray.size_append;obtain⟨u,eu⟩:∃u,u=a++sep:=⟨_,rfl⟩;rw[<- eu]at n2;have n3:u.size+x.size<=9223372036854775807:=by omega
    have n4:=J h0 E;rw[<- eu]at n4;refine .inl ⟨_,by simp only[go_sem,t1,t5,t8,t9,t10,f1,f2,f3,f4,f5,f9,E,Y,n1,<- eu,n3,<- n4];rfl,?_⟩;simp only[go_sem,t1,t8,t9]
    try trivial) (by
   clear O;rintro ⟨T,σ,nx⟩ ⟨t1,t5,t8,t9,t10⟩;simp only at t1 t5 t8 t9 t10;rw[zo (zq _)]at t5;exact⟨_,by simp only[go_sem,t9,t10,zk];rfl,by simp,_,_,_,rfl,by simp only[go_sem,t5]⟩) (by
   simp only[go_sem];rw[aez]
   try trivial)
 simp only[go_sem,h5]
theorem avH(xs:List ByteArray)(sep:ByteArray)(G:xs.length<=1048576)(J:∀x∈xs,x.size<=8)(hs:sep.size<=8):fn Ze conv ext 71 [LL JW xs,Sg sep]=some (Sg (BX xs sep)):=by
 have S:=MF xs sep 8 J;have Y:xs.length*(8+sep.size)<=1048576*16:=yM G (by omega);have O:Vp [LL JW xs,Sg sep] lI 0=some (Sg (BX xs sep),lI,0):=by
  show(match strs (xs.flatMap JW)with|some E=>if E.length=xs.length/\xs.length<=140737488355328/\(BX E sep).size<=140737488355328 then some (V.sc (.string (BX E sep)),lI,0)else none|none=>none)=_;rw[ac'];exact sZ ⟨rfl,by omega,by omega⟩
 rw[mW,nJ (g:=Vp) rfl,O];simp only[go_sem]
def aeA(y:Yard)(i:Int):ByteArray:=(y.stances.map (·.name)).getD i.toNat ByteArray.empty
def nms(y:Yard)(plan:List Int):List ByteArray:=plan.map (aeA y)
noncomputable def XU(y:Yard)(plan:List Int):ByteArray:=if Ec y plan=true then BX (nms y plan) ⟨#[62]⟩else ⟨#[]⟩
theorem Oz{y:Yard}{j:Nat}(h:j<y.stances.length):aeA y (j:Int)=y.stances[j].name:=by
 unfold aeA;rw[yS,zx,z_,zy h];rfl
theorem JF{y:Yard}{plan:List Int}(h:Ec y plan=true):AY y/\plan≠[]/\∀k (E:k<plan.length),∃j:Nat,plan[k]=(j:Int)/\j<y.stances.length:=by
 unfold Ec at h;simp only[yc,decide_eq_true_eq,wL,List.mem_range]at h;obtain⟨J,O,S⟩:=h;refine⟨MN J,O,fun k E=>?_⟩;have G:=S k E;unfold Es at G;rw[yc,zx,zy E]at G;have Y:=kS G.1;simp only[yB]at Y;exact⟨plan[k].toNat,by omega,by omega⟩
theorem aeB{y:Yard}(G:AY y){j:Nat}(h:j<y.stances.length):y.stances[j].name.size<=8:=by
 have E:=(G.2.2.1 j h).1;unfold BQ at E;rw[yc]at E;exact(MN E.1).2.2
theorem LC(y:Yard)(plan:List Int):(nms y plan).length=plan.length:=by simp[nms]
theorem aaX{y:Yard}{plan:List Int}{k:Nat}(E:k<plan.length):(nms y plan)[k]'(by rw[LC];exact E)=aeA y plan[k]:=by simp[nms]
theorem XV{y:Yard}{plan:List Int}(h:Ec y plan=true):∀x∈nms y plan,x.size<=8:=fun x J=>by
 obtain⟨O,_,S⟩:=JF h;obtain⟨k,E,rfl⟩:=yV J;rw[LC]at E;obtain⟨j,Y,G⟩:=S k E;rw[aaX E,Y,Oz G];exact aeB O G
theorem acd:ByteArray.size ⟨#[62]⟩<=8:=by decide
theorem aeC(y:Yard)(ho:okYard y)(plan:List Int)(O:plan.length<=1048576):fn Ze BA Di 24 [.agg (cYard y),LI plan]=some (Sg (XU y plan)):=by
 have k1:=alL y ho plan O;unfold XU;rw[mW,nK [.tmp 4] [] func24];cases hb:Ec y plan with
 |false=>
  rw[hb]at k1;simp only[go_sem,k1]
  try rfl
 |true=>
 rw[hb]at k1;obtain⟨hG,b2,hp⟩:=JF hb;have e1:(16:Int)*(plan.length:Int)<=281474976710656:=by omega
 have e2:(plan.length:Int)<=9223372036854775807:=by omega
 have e3:(0:Int)<=(plan.length:Int):=by omega
 have J:=LC y plan;obtain⟨N,S⟩:∃N,N=nms y plan:=⟨_,rfl⟩;have G:=avH N ⟨#[62]⟩ (by rw[S,J];exact O) (by rw[S];exact XV hb) acd;have a1:∀k (E:k<plan.length) (a6:k<N.length),N[k]=aeA y plan[k]:=fun k E a6=>by
  have:=aaX (y:=y) E;subst S;exact this
 rw[<- S]at J;rw[<- S];simp only[go_sem,k1,e1,e2,e3,if_true];generalize hL:gI _ _=z;obtain⟨x,rfl,T,σ,nx,rfl,h5,hs⟩:=pJ hL plan.length (fun k st=>st.T 2= .rp 0 0/\st.T 5= .rs 1 0 plan.length/\st.T 15=LI plan/\st.T 16=I plan.length/\st.T 17=I k/\st.σ 0=some ⟨cYard y,0,true⟩/\st.σ 1=some ⟨mix JW [Sg ⟨#[]⟩] N plan.length k,1,true⟩)
  (fun x=>∃T σ nx,x=(.exit 0,⟨T,σ,nx⟩)/\T 5= .rs 1 0 plan.length/\σ 1=some ⟨N.flatMap JW,1,true⟩) (by
   clear hL;rintro k ⟨T,σ,nx⟩ E ⟨t2,t5,t15,t16,t17,b0,b1⟩;simp only at t2 t5 t15 t16 t17 b0 b1;have f1:(k:Int)<(plan.length:Int):=by omega
   have f2:=jL k;have f3:=Zl (n:=(k:Int)+1);have f4:=idx (xs:=plan) (k:=k) E;have f9:=Aw plan k E;obtain⟨j,ej,G⟩:=hp k E;have Y:k<N.length:=by omega
   have ha:=a1 k E Y;rw[ej,Oz G]at ha;rw[ej]at f4;have g1:(j:Int)<(y.stances.length:Int):=by omega
   have g2:=jL j;have g5:=MK y.stances j G;have g6:=Gi y.stances;have g7:j*5+5<=y.stances.length*5:=by omega
   have g9:=ML y.stances j G;have g8:(y.stances.flatMap cStance)[j*5]?=some (Sg (y.stances[j]).name):=dP (c:=cStance) (s:=5) (fun _=>rfl) y.stances j G (j:=0) (by decide);have f7:=jQ (c:=JW) (s:=1) (fun _=>rfl) (z:=[Sg ⟨#[]⟩]) rfl N k (by omega);have f8:(mix JW [Sg ⟨#[]⟩] N N.length k).set k (Sg N[k])=mix JW [Sg ⟨#[]⟩] N N.length (k+1):=Rl (c:=fun x=>Sg x) N k Y;rw[ha]at f8;rw[J]at f7 f8;refine .inl ⟨_,by simp only[go_sem,t2,t5,t15,t16,t17,b0,b1,f1,f2,f3,f4,f7,f8,f9,E,g1,g2,g5,g6,g7,g8,g9,G];rfl,?_⟩;simp only[go_sem,t2,t5,t15,t16,b0]
   try trivial) (by
   clear hL;rintro ⟨T,σ,nx⟩ ⟨t2,t5,t15,t16,t17,b0,b1⟩;simp only at t2 t5 t15 t16 t17 b0 b1;refine⟨_,by simp only[go_sem,t16,t17,zk];rfl,by simp,_,_,_,rfl,?_,?_⟩
   .simp only[go_sem,t5]
   .rw[<- J,jR]at b1;exact b1) (by
   (simp only[go_sem,<- jO])<;>trivial)
 have g1:=ab_ N;have g2:∀σ:Store,stripL (strip σ 6) (N.flatMap JW)=some (N.flatMap JW,[]):=fun σ=>bM (fun x=>by simp only[go_sem]) N
 have g3:(N.flatMap JW).take plan.length=N.flatMap JW:=zo (by omega);have a7:fn Ze conv ext 71 [.ts (N.flatMap JW) plan.length,Sg ⟨#[62]⟩]=some (Sg (BX N ⟨#[62]⟩)):=by rw[<- J];exact G
 have a8:(N.flatMap JW).length=plan.length*1:=by rw[g1,J]
 simp only[go_sem,h5,hs,a8,g2,g3,zq,a7]
def alN(v:V)(σ:Store)(lo nx:Nat)(L:List ByteArray):Prop:=(L=[]/\v= .nil)\/∃b,L≠[]/\lo<=b/\b<nx/\v= .rs b 0 L.length/\σ b=some ⟨L.flatMap JW,1,true⟩
theorem XW{v:V}{σ:Store}{lo nx:Nat}{L:List ByteArray}(h:alN v σ lo nx L)(E:lo<=nx)(x:ByteArray)(O:L.length<10000000) :
  ∃σ',Ae (upd σ nx (some ⟨JW x,1,true⟩)) (nx+1) 1 16 v (JW x) 1=some (.rs (nx+1) 0 (L.length+1),σ',nx+1+1)/\alN (.rs (nx+1) 0 (L.length+1)) σ' lo (nx+1+1) (L++[x])/\∀y,y<lo->σ' y=σ y:=by
 have hm:L.length+1<=maxLen:=by unfold maxLen;omega
 have hc:=ab_ L;rcases h with ⟨rfl,rfl⟩|⟨b,S,Y,h3,rfl,G⟩
 .refine⟨_,by rw[rJ,su (by decide),sZ ⟨by decide,by decide⟩];rfl,.inr ⟨nx+1,by simp,by omega,by omega,rfl,by simp[Aj,upd]⟩,fun y J=>?_⟩
  unfold Aj;rw[aH,aH]
 .refine⟨_,by rw[rP (B:=⟨L.flatMap JW,1,true⟩) (by rw[aH];exact G) (by rw[hc,yO]) rfl (by decide) hm (by omega) rfl],.inr ⟨nx+1,by simp,by omega,by omega,by rw[zl];rfl,?_⟩,fun y J=>?_⟩
  .rw[aF,zT];simp
  .rw[aH,aH,aH]
theorem aeD(y:Yard)(ho:okYard y)(plan:List Int)(S:plan.length<=1048576):fn Ze pI Ad 21 [.agg (cYard y),LI plan]=some (Sg (XU y plan)):=by
 have k1:=alK y ho plan S;unfold XU;rw[mW,nK [.tmp 4] [] func21];cases hb:Ec y plan with
 |false=>
  rw[hb]at k1;simp only[go_sem,k1]
  try rfl
 |true=>
 rw[hb]at k1;obtain⟨hG,a8,hp⟩:=JF hb;have hN:=LC y plan;obtain⟨N,Y⟩:∃N,N=nms y plan:=⟨_,rfl⟩;have O:=avE N ⟨#[62]⟩ (by rw[Y,hN];exact S) (by rw[Y];exact XV hb) acd;have a6:∀k (J:k<plan.length) (a7:k<N.length),N[k]=aeA y plan[k]:=fun k J a7=>by
  have:=aaX (y:=y) J;subst Y;exact this
 rw[<- Y]at hN;rw[<- Y];simp only[go_sem,k1,if_true];generalize hL:gI _ _=z;obtain⟨x,rfl,T,σ,nx,rfl,hA⟩:=pJ hL plan.length (fun k st=>st.T 2= .rp 0 0/\st.T 13=LI plan/\st.T 14=I plan.length/\st.T 15=I k/\1<=st.nx/\st.σ 0=some ⟨cYard y,0,true⟩/\alN (st.T 5) st.σ 1 st.nx (N.take k))
  (fun x=>∃T σ nx,x=(.exit 0,⟨T,σ,nx⟩)/\alN (T 5) σ 1 nx N) (by
   clear hL;rintro k ⟨T,σ,nx⟩ J ⟨t2,t13,t14,t15,E,b0,hA⟩;simp only at t2 t13 t14 t15 E b0 hA;have f1:(k:Int)<(plan.length:Int):=by omega
   have f2:=jL k;have f3:=Zl (n:=(k:Int)+1);have f4:=idx (xs:=plan) (k:=k) J;have f9:=Aw plan k J;obtain⟨j,ej,O⟩:=hp k J;have a1:k<N.length:=by omega
   have ha:=a6 k J a1;rw[ej,Oz O]at ha;rw[ej]at f4;have g1:(j:Int)<(y.stances.length:Int):=by omega
   have g2:=jL j;have g5:=MK y.stances j O;have g6:=Gi y.stances;have g7:j*5+5<=y.stances.length*5:=by omega
   have g9:=ML y.stances j O;have g8:(y.stances.flatMap cStance)[j*5]?=some (Sg (y.stances[j]).name):=dP (c:=cStance) (s:=5) (fun _=>rfl) y.stances j O (j:=0) (by decide);obtain⟨σ',ka,G,fr⟩:=XW hA E (N[k]) (by rw[zh];omega);have f0:σ' 0=some ⟨cYard y,0,true⟩:=by rw[fr 0 (by omega)];exact b0
   have hl:(N.take k).length=k:=by rw[zh];omega
   rw[<- ah a1]at G;rw[ha]at ka;rw[hl]at ka G;have z1:¬nx=0:=by omega
   have z2:¬0=nx:=by omega
   refine .inl ⟨_,by simp only[go_sem,t2,t13,t14,t15,b0,f1,f2,f3,f4,f9,J,g1,g2,g5,g6,g7,g8,g9,O,ka,z1,z2];rfl,?_⟩;simp only[go_sem,t2,t13,t14,f0]
   first
    |exact⟨rfl,G⟩
    |exact G) (by
   clear hL;rintro ⟨T,σ,nx⟩ ⟨t2,t13,t14,t15,E,b0,hA⟩;simp only at t2 t13 t14 t15 E b0 hA;rw[<- hN,zo (zq _)]at hA;refine⟨_,by simp only[go_sem,t14,t15,zk];rfl,by simp,_,_,_,rfl,?_⟩;simp only[go_sem];exact hA) (by
   simp only[go_sem];exact .inl ⟨rfl,rfl⟩)
 obtain⟨ids,hs⟩:∃ids,strip σ 7 (T 5)=some (LL JW N,ids):=by
  rcases hA with ⟨h1,h2⟩|⟨b,h1,h2,h3,h4,h5⟩
  .exact⟨[],by rw[h1,h2,bF];rfl⟩
  .refine⟨[b],?_⟩
   rw[h4,bD,h5];have g1:=ab_ N;simp only[zi,yu,yw,g1,yO,zq,if_true];rw[zo (by omega),bM (fun x=>by simp only[go_sem])];rfl
 simp only[go_sem,hs,O]
end Go.Proofs.YtkpdoehbhmipcaaGreat
/- Needs of a air: both sides. -/
namespace Go.Proofs.YtkpdoehbhmipcaaGreat
open Go Go.TV Go.Lp
attribute [-go_sem] rH
theorem alO(W:List Int)(i:Nat)(x:Int):(W.flatMap cI).set i (I x)=(W.set i x).flatMap cI:=by rw[jZ,jZ,List.map_set]
theorem OA(x:Int):fn Ze conv ext 81 [I x]=some (Bo (x==0)):=by
 rw[mW,nK [.tmp 2] [] func81];simp only[go_sem]
def nz(x:Int):Bool:=!(x==0)
theorem Ua{xs:List Int}{j:Nat}(E:j<xs.length):(xs.take (j+1)).filter nz=if nz xs[j]=true then(xs.take j).filter nz++[xs[j]]else(xs.take j).filter nz:=by
 rw[ah E,tZ]
 by_cases h:nz xs[j]=true
 .rw[sZ h,List.filter_cons_of_pos h];rfl
 .rw[su h,List.filter_cons_of_neg h,List.filter_nil,zM]
theorem apA(xs:List Int)(j:Nat):((xs.take j).filter nz).length<=j:=by
 have E:=List.length_filter_le nz (xs.take j);rw[zh]at E;omega
theorem XY{σ:Store}{nx b:Nat}{xs:List Int}{n:Nat}(hb:σ b=some ⟨xs.flatMap cI,1,true⟩)(hn:xs.length=n)(hl:n<=1000) :
  ∃σ' zs,ev Ze BA Di 80 [.rs b 0 n,.clo 81 []] σ nx=some (.rs b 0 (xs.filter nz).length,σ',nx)/\σ' b=some ⟨(xs.filter nz++zs).flatMap cI,1,true⟩/\∀c,c≠b->σ' c=σ c:=by
 have k1:=indexInt xs (.nil) 81 (fun x=>x==0) (by unfold maxLen;omega) (by rfl) (fun x _=>OA x);have k2:=OA;have st:=fun d=>kR hb hn d
 rw[nK [.tmp 4] [] func80]
 by_cases J:∀i (h:i<xs.length),(fun x:Int=>x==0) xs[i]=false
 .rw[kK J]at k1
  have e1:((-1:Int)== -1)=true:=rfl;have ef:xs.filter nz=xs:=List.filter_eq_self.mpr fun x hx=>by
   obtain⟨i,hi,rfl⟩:=yV hx;have:=J i hi;simp only at this;unfold nz;rw[this];rfl
  rw[ef];refine⟨σ,[],?_,by rw[zM];exact hb,fun _ _=>rfl⟩;simp only[go_sem,st,k1,e1,hn]
 .obtain⟨i,hi,a7,hz⟩:∃i,∃hi:i<xs.length,(∀m (h:m<xs.length),m<i->(fun x:Int=>x==0) xs[m]=false)/\(fun x:Int=>x==0) xs[i]=true:=by
   have hex:∃i,∃hi:i<xs.length,(fun x:Int=>x==0) xs[i]=true:=by
    apply zf;intro b4;refine J fun i hi=>?_
    cases h:(fun x:Int=>x==0) xs[i]with
    |false=>rfl
    |true=>exact absurd ⟨i,hi,h⟩ b4
   obtain⟨i,⟨hi,h1⟩,h2⟩:=Go.Plan.least hex;refine⟨i,hi,fun m hm b8=>?_,h1⟩;cases h:(fun x:Int=>x==0) xs[m]with
   |false=>rfl
   |true=>have:=h2 m ⟨hm,h⟩;omega
  rw[kL hi a7 hz]at k1;have e1:((i:Int)== -1)=false:=by rw[sW];omega
  have w1:=Zl (n:=(i:Int)+1);have ei:(xs.take i).filter nz=xs.take i:=List.filter_eq_self.mpr fun x hx=>by
   obtain⟨m,hm,rfl⟩:=yV hx;rw[zh]at hm;rw[uw];have:=a7 m (by omega) (by omega);simp only at this;unfold nz;rw[this];rfl
  have O:(xs.take (i+1)).filter nz=xs.take i:=by
   rw[Ua hi,ei,su];simp only at hz;unfold nz;rw[hz];simp
  simp only[go_sem,st,k1,e1,w1];generalize hL:gI _ _=y;obtain⟨r,rfl,T,σ',W,j,rfl,t0,t5,h1,h2,h3,h4,h5⟩:=je hL (fun m st=>∃T σ' W,∃E j:Nat,st=⟨T,σ',nx⟩/\m=n-j/\j<=n/\E<j/\T 0= .rs b 0 n/\T 1= .clo 81 []/\T 5=I E/\T 6=I j/\σ' b=some ⟨(W:List Int).flatMap cI,1,true⟩/\W.length=n/\W.take E=(xs.take j).filter nz/\W.drop j=xs.drop j/\∀c,c≠b->σ' c=σ c)
   (fun r=>∃T σ' W,∃E:Nat,r=(.exit 0,⟨T,σ',nx⟩)/\T 0= .rs b 0 n/\T 5=I E/\E<n/\σ' b=some ⟨(W:List Int).flatMap cI,1,true⟩/\W.length=n/\W.take E=xs.filter nz/\∀c,c≠b->σ' c=σ c) (by
    clear hL;rintro m _ ⟨T,σ',W,E,j,rfl,rfl,b9,c0,t0,t1,t5,t6,hs,hW,ht,hd,hf⟩
    by_cases hj:j<n
    .have f1:(j:Int)<(n:Int):=by omega
     have f2:=jL j;have f3:=Zl (n:=(j:Int)+1);have f4:=Zl (n:=(E:Int)+1);have f5:(E:Int)<(n:Int):=by omega
     have f6:(0:Int)<=(E:Int):=by omega
     have a8:j<W.length:=by omega
     have b5:E<W.length:=by omega
     have g4:=idx (xs:=W) (k:=j) a8;have g5:(W.flatMap cI).length=n:=by rw[qW,hW]
     have b2:W[j]=xs[j]'(by omega):=by
      have h1:=yU a8;have h2:=yU (l:=xs) (i:=j) (by omega);rw[hd,h2]at h1;exact(List.cons.inj h1).1.symm
     have a1:W.drop (j+1)=xs.drop (j+1):=by rw[<- uK,<- uK,hd]
     have hlen:((xs.take j).filter nz).length=E:=by rw[<- ht,zh];omega
     obtain⟨x,ex⟩:∃x,x=W[j]:=⟨_,rfl⟩;rw[<- ex]at g4 b2;have S:=k2 x;have G:=Ua (xs:=xs) (j:=j) (by omega);rw[<- b2]at G;have b6:E<n:=by omega
     cases Y:x==0 with
     |true=>
      rw[Y]at S;have:nz x=false:=by unfold nz;rw[Y];rfl
      rw[this,su (by simp)]at G;refine .inl ⟨_,by simp only[go_sem,t0,t1,t5,t6,hs,f1,f2,f3,g4,g5,hj,S];rfl,n - (j+1),by omega,_,σ',W,E,j+1,rfl,rfl,by omega,by omega,?_⟩;simp only[go_sem,t0,t1,t5]
      first
       |exact⟨rfl,hs,hW,by rw[G];exact ht,a1,hf⟩
       |exact⟨hs,hW,by rw[G];exact ht,a1,hf⟩
     |false=>
      rw[Y]at S;have:nz x=true:=by unfold nz;rw[Y];rfl
      rw[this,sZ rfl]at G;have sc:=alO W E x;refine .inl ⟨_,by simp only[go_sem,t0,t1,t5,t6,hs,f1,f2,f3,f4,f5,f6,g4,g5,hj,b6,S,sc];rfl,n - (j+1),by omega,_,_,W.set E x,E+1,j+1,rfl,rfl,by omega,by omega,?_⟩;simp only[go_sem,t0,t1];have q1:(W.set E x).take (E+1)=(xs.take (j+1)).filter nz:=by
       rw[G,<- ht,List.take_set,ah b5,List.set_append,su (by rw[zh];omega)];have:E - (W.take E).length=0:=by rw[zh];omega
       rw[this];rfl
      have q2:(W.set E x).drop (j+1)=xs.drop (j+1):=by rw[List.drop_set_of_lt (by omega),a1]
      have q3:(W.set E x).length=n:=by rw[yK,hW]
      have q4:∀c,c≠b->upd σ' b (some ⟨(W.set E x).flatMap cI,1,true⟩) c=σ c:=fun c hc=>by rw[aG _ _ hc];exact hf c hc
      exact⟨rfl,rfl,hW,q1,q2,q4⟩
    .have e:j=n:=by omega
     have f1:¬(j:Int)<(n:Int):=by omega
     refine .inr ⟨_,by simp only[go_sem,t0,t6,f1];rfl,by simp,_,_,W,E,rfl,?_⟩;simp only[go_sem,t0,t5];exact⟨by omega,hs,hW,by rw[ht,e,zo (by omega)],hf⟩) (n - (i+1)) (by
    refine⟨_,_,xs,i,i+1,rfl,rfl,by omega,by omega,?_⟩;simp only[go_sem]
    first
     |exact⟨rfl,hb,hn,O.symm,rfl,fun _ _=>rfl⟩
     |exact⟨hb,hn,O.symm,rfl,fun _ _=>rfl⟩
     |exact⟨rfl,hb,hn,O.symm,fun _ _=>trivial⟩
     |exact⟨hb,hn,O.symm,fun _ _=>trivial⟩)
  have i0:=jL j;have i1:j<=n:=by omega
  have i2:¬j=n:=by omega
  have i3:¬n-j=0:=by omega
  have i4:(j:Int).toNat=j:=yS _;have i5:(W.flatMap cI).length=n:=by rw[qW,h3]
  have i6:j+(n-j)<=n:=by omega
  have b3:(xs.filter nz).length=j:=by rw[<- h4,zh];omega
  have rc:(rep (n-j) [I 0]).all qI=true:=by
   have:rep (n-j) [I 0]=(List.replicate (n-j) (0:Int)).flatMap cI:=by simp[rep,uf]
   rw[this];exact qX _
  have pe:patch (W.flatMap cI) j (rep (n-j) [I 0])=(xs.filter nz++List.replicate (n-j) 0).flatMap cI:=by
   have hr:rep (n-j) [I 0]=(List.replicate (n-j) (0:Int)).flatMap cI:=by simp[rep,uf]
   have b7:(rep (n-j) [I 0]).length=n-j:=by rw[hr,qW,yR]
   rw[iR _ _ _ (by rw[b7,i5];omega),hr,zT,<- h4,xZ (by rw[i5,qW,yR];omega),zM];congr 1;rw[jZ,jZ,List.map_take]
  by_cases a6:j=0
  .have i7:(j=0)=True:=eq_true a6
   have n0:¬n=0:=by omega
   have i8:0+n<=n:=by omega
   have i9:n-j=n:=by omega
   rw[i9]at rc pe;rw[a6]at pe;have ia:j<=(xs.filter nz++List.replicate n (0:Int)).length:=by omega
   refine⟨_,List.replicate n 0,by simp only[go_sem,t0,t5,h2,i0,i1,i2,i4,i5,i7,i8,ia,n0,Ew,rc,pe,b3];rfl,by rw[aF],fun c hc=>by rw[aG _ _ hc];exact h5 c hc⟩
  .have ia:j<=(xs.filter nz++List.replicate (n-j) (0:Int)).length:=by rw[zl];omega
   refine⟨_,List.replicate (n-j) 0,by simp only[go_sem,t0,t5,h2,i0,i1,i2,i3,i4,i5,i6,a6,ia,Ew,rc,pe,b3];rfl,by rw[aF],fun c hc=>by rw[aG _ _ hc];exact h5 c hc⟩
end Go.Proofs.YtkpdoehbhmipcaaGreat
/- Needs of a air: the program's side,the reference's side,joined. -/
namespace Go.Proofs.YtkpdoehbhmipcaaGreat
open Go Go.TV Go.Lp
attribute [-go_sem] rH
theorem aeE{xs:List Rat}{L:List Int}(h:Et (some xs)=some L):L.length=xs.length:=by
 unfold Et at h;rw[zi]at h
 split at h
 .cases h;simp
 .cases h
theorem QH{s:Structure}(h:Ag s)(ho:okStructure s){qs:List Rat}(hl:qs.length=s.members.length)(hL:∀q∈qs,Ln 24 q)(nx:Nat) :
  ∃G oI,(Et (Bf (FQ s qs))=none/\nx<=oI/\ev Ze BA Di 79 [.agg (cStructure s),LL cQ qs] lI nx=some (.Au [.nil,Bo false],G,oI)) \/
   (∃L b,Et (Bf (FQ s qs))=some L/\L.length=s.members.length/\nx<=b/\b<oI/\ev Ze BA Di 79 [.agg (cStructure s),LL cQ qs] lI nx=some (.Au [.rs b 0 L.length,Bo true],G,oI)/\G b=some ⟨L.flatMap cI,1,true⟩):=by
 have a8:=h.2.1;have S:=jv h ho hl hL;unfold Gp at S;rw[nK [.tmp 4,.tmp 5] [] func79];cases hq:Bf (FQ s qs)with
 |none=>
  rw[hq]at S;refine⟨_,_,.inl ⟨rfl,?_,by simp only[go_sem,S];rfl⟩⟩;omega
 |some xs=>
 rw[hq]at S;have a1:xs.length=s.members.length:=by rw[eU hq,dD,hl]
 have e1:(8:Int)*(xs.length:Int)<=281474976710656:=by omega
 have e2:(xs.length:Int)<=9223372036854775807:=by omega
 have e3:(0:Int)<=(xs.length:Int):=by omega
 obtain⟨R,eR⟩:∃R,R=V.Au [LL cF xs,Bo true]:=⟨_,rfl⟩;obtain⟨N,eN⟩:∃N,N=xs.map nd:=⟨_,rfl⟩;have hN:N.length=xs.length:=by rw[eN,zV]
 simp only[go_sem,S,e1,e2,e3];generalize J:gI _ _=y;obtain⟨r,rfl,T,σ,m,hr⟩:=pJ J xs.length (fun k st=>st.T 8= .rs (nx+1) 0 xs.length/\st.T 21=LL cF xs/\st.T 22=I xs.length/\st.T 23=I k/\st.nx=nx+1+1/\st.σ (nx+1)=some ⟨mix cI [I 0] N xs.length k,1,true⟩/\(xs.take k).all nb=true)
  (fun r=>∃T σ m,m=nx+1+1/\((r=(.exit 0,⟨T,σ,m⟩)/\T 8= .rs (nx+1) 0 xs.length/\σ (nx+1)=some ⟨N.flatMap cI,1,true⟩/\xs.all nb=true)\/(r=(.ret,⟨T,σ,m⟩)/\T 4= .nil/\T 5=Bo false/\xs.all nb=false))) (by
   clear J;rintro k ⟨T,σ,m⟩ O ⟨t8,t21,t22,t23,hm,hs,E⟩;simp only at t8 t21 t22 t23 hm hs;subst hm;have g1:(k:Int)<(xs.length:Int):=by omega
   have g2:=jL k;have g3:=Zl (n:=(k:Int)+1);have g4:=qZ xs O;have g9:(xs.flatMap cF).length=xs.length:=qY xs;have Y:xs.flatMap cF≠[]:=fun e=>by rw[e]at g9;have:xs.length=0:=g9.symm;omega
   have hx:=TB hq _ (zu O);have a6:k<N.length:=by omega
   have a7:N[k]=nd xs[k]:=by subst eN;simp
   have f7:=jQ (c:=cI) (s:=1) (fun _=>rfl) (z:=[I 0]) rfl N k (by omega);have f8:(mix cI [I 0] N N.length k).set k (I N[k])=mix cI [I 0] N N.length (k+1):=Rl (c:=I) N k a6;rw[a7]at f8;rw[hN]at f7 f8;obtain⟨x,ex⟩:∃x,x=xs[k]:=⟨_,rfl⟩;rw[<- ex]at g4 hx f8;have k2:=alM x hx;obtain⟨q,eq⟩:∃q,q=cQ x:=⟨_,rfl⟩;rw[<- eq]at g4 k2;have sq:∀σ d,stripL (strip σ d) q=some (q,[]):=fun σ d=>by rw[eq];exact qP σ d _
   cases hb:nb x with
   |true=>
    rw[hb]at k2;refine .inl ⟨_,by simp only[go_sem,t8,t21,t22,t23,hs,g1,g2,g3,g4,g9,Y,O,f7,f8,k2,sq];rfl,?_⟩;simp only[go_sem,t8,t21,t22]
    first
     |exact⟨rfl,Oy O E (by rw[<- ex];exact hb)⟩
     |exact Oy O E (by rw[<- ex];exact hb)
   |false=>
    rw[hb]at k2;refine .inr ⟨_,by simp only[go_sem,t8,t21,t22,t23,hs,g1,g2,g4,g9,Y,O,f7,f8,k2,sq];rfl,by simp,_,_,_,rfl,.inr ⟨rfl,?_⟩⟩;simp only[go_sem];exact aio O (by rw[<- ex];exact hb)) (by
   clear J;rintro ⟨T,σ,m⟩ ⟨t8,t21,t22,t23,hm,hs,E⟩;simp only at t8 t21 t22 t23 hm hs;rw[zo (zq _)]at E;rw[<- hN,jR]at hs;exact⟨_,by simp only[go_sem,t22,t23,zk];rfl,by simp,_,_,_,hm,.inl ⟨rfl,by simp only[go_sem,t8],hs,E⟩⟩) (by
   (simp only[go_sem,jO cI [I 0] N])<;>trivial)
 obtain⟨hm,hr⟩:=hr;subst hm;rcases hr with ⟨rfl,t8,hs,E⟩|⟨rfl,t4,t5,E⟩
 .have e:Et (some xs)=some N:=by unfold Et;rw[zi,sZ E,eN]
  exact⟨σ,nx+1+1,.inr ⟨N,nx+1,e,by rw[hN,a1],by omega,by omega,by simp only[go_sem,t8,hN],hs⟩⟩
 .have e:Et (some xs)=none:=by unfold Et;rw[zi,su (by rw[E];simp)]
  exact⟨σ,nx+1+1,.inl ⟨e,by omega,by simp only[go_sem,t4,t5]⟩⟩
theorem aeF{xs:List Rat}{L:List Int}(h:Et (some xs)=some L):∀x∈L,0<=x:=by
 unfold Et at h;rw[zi]at h
 split at h
 .cases h
  intro x E;obtain⟨q,_,rfl⟩:=List.mem_map.mp E;unfold nd
  split<;>omega
 .cases h
theorem OB(t:Stance){qs:List Rat}{L:List Int}(O:∀x∈L,0<=x)(hlen:L.length<=8)
  (k1:fn Ze pI Ad 76 [.agg (cStructure t.st),LI t.load]=some (.Au [LL cQ qs,Bo true])) (k2:fn Ze conv ext 48 [.agg (cStance t)]=some (Bo true))
  (k3:fn Ze conv ext 77 [.agg (cStructure t.st),LL cQ qs]=some (.Au [LI L,Bo true])) :
  fn Ze pI Ad 28 [.agg (cStance t)]=some (.Au [LI (L.filter nz),Bo true]):=by
 rw[mW,nK [.tmp 2,.tmp 3] [] func28];simp only[go_sem,k1,k2,k3];generalize Y:gI _ _=y;obtain⟨r,rfl,T,σ,nx,rfl,G⟩:=pJ Y L.length (fun k st=>st.T 36=LI L/\st.T 37=I L.length/\st.T 38=I k/\Grow st.T st.σ st.nx 8 ((L.take k).filter nz))
  (fun r=>∃T σ nx,r=(.exit 0,⟨T,σ,nx⟩)/\Grow T σ nx 8 (L.filter nz)) (by
   clear Y;rintro k ⟨T,σ,nx⟩ J ⟨t36,t37,t38,G⟩;simp only at t36 t37 t38 G;have g1:(k:Int)<(L.length:Int):=by omega
   have g2:=jL k;have g3:=Zl (n:=(k:Int)+1);have g4:=idx (xs:=L) (k:=k) J;have g5:=Aw L k J;have hx:=O _ (zu J);have E:=Ua (xs:=L) (j:=k) J;have hle:=apA L k;obtain⟨x,ex⟩:∃x,x=L[k]:=⟨_,rfl⟩;rw[<- ex]at g4 hx E
   by_cases hz:0<x
   .have e:nz x=true:=by unfold nz;simp;omega
    rw[e,sZ rfl]at E;obtain⟨σ',ha,hs⟩:=lC G x (by omega);refine .inl ⟨_,by simp only[go_sem,t36,t37,t38,g1,g2,g3,g4,g5,J,hz,ha];rfl,?_⟩;simp only[go_sem,t36,t37];rw[E];obtain⟨acc,S⟩:∃acc,acc=(L.take k).filter nz:=⟨_,rfl⟩;rw[<- S]at hs;rw[<- S];exact⟨rfl,kZ hs (by simp[go_sem]) (by simp)⟩
   .have e:nz x=false:=by unfold nz;simp;omega
    rw[e,su (by simp)]at E;refine .inl ⟨_,by simp only[go_sem,t36,t37,t38,g1,g2,g3,g4,g5,J,hz];rfl,?_⟩;simp only[go_sem,t36,t37];rw[E];exact⟨rfl,ku (T:=T) (by simp only[go_sem]) G⟩) (by
   clear Y;rintro ⟨T,σ,nx⟩ ⟨t36,t37,t38,G⟩;simp only at t36 t37 t38 G;rw[zo (zq _)]at G;exact⟨_,by simp only[go_sem,t37,t38,zk];rfl,by simp,_,_,_,rfl,ku (T:=T) (by simp only[go_sem]) G⟩) (by
   simp only[go_sem];exact .inl ⟨by simp only[go_sem],rfl⟩)
 obtain⟨ids,hs⟩:=kY G 5;simp only[go_sem,hs]
abbrev ais(t:Stance)(o:Option (List Int)):Prop:=(∀L,o=some L->L.length<=8)/\fn Ze pI Ad 28 [.agg (cStance t)]=some (XR o) /\
 ∀nx,∃E G,(o=none/\nx<=G/\ev Ze BA Di 30 [.agg (cStance t)] lI nx=some (.Au [.nil,Bo false],E,G)) \/
  (∃L J b,o=some L/\nx<=b/\b<G/\ev Ze BA Di 30 [.agg (cStance t)] lI nx=some (.Au [.rs b 0 L.length,Bo true],E,G)/\E b=some ⟨(L++J).flatMap cI,1,true⟩)
theorem ait(t:Stance)(G:okStance t):∃o,ais t o:=by
 have a1:=Jl t G;have a2:=Jm t G;cases hs:BQ t with
 |false=>
  rw[hs]at a1 a2;refine⟨none,⟨fun L e=>(by cases e),?_,fun nx=>⟨_,_,.inl ⟨rfl,?_,by rw[nK [.tmp 2,.tmp 3] [] func30];simp only[go_sem,a1];rfl⟩⟩⟩⟩
  .have hd:∃v b,fn Ze pI Ad 76 [.agg (cStructure t.st),LI t.load]=some (.Au [v,Bo b]):=by
    have k:=Ry t.st t.load G.2.1 G.2.2.1.2.2
    by_cases hg:Ag t.st/\Ai t.st.joints.length t.load
    .rcases Ou hg.1 G.2.1 hg.2 with ⟨qs,_,_,_,J,_⟩|⟨_,J,_⟩
     .exact⟨_,_,J⟩
     .exact⟨_,_,J⟩
    .have e:(pb (Ag t.st) && pb (Ai t.st.joints.length t.load))=false:=by
      by_cases S:Ag t.st
      .rw[iM (fun h2=>hg ⟨S,h2⟩),wJ]
      .rw[iM S];rfl
     rw[e]at k;refine⟨.ts [] 0,false,?_⟩;rw[mW,nK [.tmp 4,.tmp 5] [] func76];simp only[go_sem,k]
   obtain⟨v,b,hd⟩:=hd;rw[mW,nK [.tmp 2,.tmp 3] [] func28];cases b with
   |true=>simp only[go_sem,hd,a2];rfl
   |false=>simp only[go_sem,hd];rfl
  .omega
 |true=>
 rw[hs]at a1 a2;obtain⟨S,h2,h3⟩:=dB hs;have b5:=S.2.1;rcases Ou S G.2.1 h2 with ⟨qs,O,a6,k1,J,_⟩|⟨k1,J,_⟩
 .have Y:=aip S G.2.1 O a6
  cases E:Et (Bf (FQ t.st qs))with
  |none=>
   rw[E]at Y;have Y:fn Ze conv ext 77 [.agg (cStructure t.st),LL cQ qs]=some (.Au [.ts [] 0,Bo false]):=Y
   refine⟨none,⟨fun L e=>(by cases e),?_,fun nx=>?_⟩⟩
   .rw[mW,nK [.tmp 2,.tmp 3] [] func28]
    simp only[go_sem,J,a2,Y];rfl
   .obtain⟨a7,n1,⟨-,hn,k4⟩|⟨L,b,e,_⟩⟩:=QH S G.2.1 O a6 (nx+1)
    .refine⟨CV (nx+1) (upd lI nx (some ⟨cStance t,0,true⟩)) a7 [],n1,.inl ⟨rfl,by omega,?_⟩⟩
     rw[nK [.tmp 2,.tmp 3] [] func30];simp only[go_sem,a1,k1,k4]
    .rw[E]at e;cases e
  |some L=>
   rw[E]at Y;have Y:fn Ze conv ext 77 [.agg (cStructure t.st),LL cQ qs]=some (.Au [LI L,Bo true]):=Y
   cases hq:Bf (FQ t.st qs)with
   |none=>rw[hq]at E;cases E
   |some xs=>
   rw[hq]at E;have b6:L.length=t.st.members.length:=by rw[aeE E,eU hq,dD,O]
   have b7:=List.length_filter_le nz L;refine⟨some (L.filter nz),⟨fun L' e=>(by cases e;omega),OB t (aeF E) (by omega) J a2 Y,fun nx=>?_⟩⟩;obtain⟨a7,n1,⟨e,_⟩|⟨L',b,e,b8,b9,b2,k4,a8⟩⟩:=QH S G.2.1 O a6 (nx+1)
   .rw[hq,E]at e;cases e
   .rw[hq,E]at e
    cases e;obtain⟨X6,ea⟩:∃X6,X6=CV (nx+1) (upd lI nx (some ⟨cStance t,0,true⟩)) a7 [b]:=⟨_,rfl⟩;have b3:X6 b=some ⟨L.flatMap cI,1,true⟩:=by
     rw[ea];unfold CV;rw[su (by omega),sZ (by simp),a8]
    have g1:=fun d=>lZ (off:=0) (len:=L.length) d a8
    obtain⟨σ2,zs,k5,b4,hf⟩:=XY (nx:=n1) b3 rfl (by omega);refine⟨σ2,n1,.inr ⟨L.filter nz,zs,b,rfl,by omega,b2,?_,b4⟩⟩;rw[nK [.tmp 2,.tmp 3] [] func30];simp only[go_sem,qM,a1,k1,k4,g1,<- ea,k5]
 .refine⟨none,⟨fun L e=>(by cases e),?_,fun nx=>⟨_,_,.inl ⟨rfl,?_,by rw[nK [.tmp 2,.tmp 3] [] func30];unfold Qj at k1;simp only[go_sem,a1,k1];rfl⟩⟩⟩⟩
  .unfold Qj at J
   rw[mW,nK [.tmp 2,.tmp 3] [] func28];simp only[go_sem,J];rfl
  .omega
end Go.Proofs.YtkpdoehbhmipcaaGreat
/- Ints at the head of a block of one's own; marks of a air. -/
namespace Go.Proofs.YtkpdoehbhmipcaaGreat
open Go Go.TV
attribute [-go_sem] rH
def Fe(σ:Store)(v:V)(L:List Int)(ids:List Nat):Prop:=(v= .nil/\L=[]/\ids=[])\/∃b E,v= .rs b 0 L.length/\ids=[b]/\σ b=some ⟨(L++E).flatMap cI,1,true⟩
section
variable {σ:Store} {v:V} {L:List Int} {ids:List Nat}
theorem Fe.strip(h:Fe σ v L ids)(d:Nat):TV.strip σ (d+1) v=some (LI L,ids):=by
 rcases h with ⟨rfl,rfl,rfl⟩|⟨b,E,rfl,rfl,h⟩
 .rw[bF];rfl
 .rw[zT]at h
  exact Qm h rfl d
theorem Fe.gather(h:Fe σ v L ids)(d:Nat):TV.gather σ (d+1) v=some ids:=by
 rcases h with ⟨rfl,rfl,rfl⟩|⟨b,E,rfl,rfl,h⟩
 .rfl
 .exact lZ d h
theorem Fe.frame{σ':Store}(h:Fe σ v L ids)(E:∀b∈ids,σ' b=σ b):Fe σ' v L ids:=by
 rcases h with ⟨rfl,rfl,rfl⟩|⟨b,G,rfl,rfl,h⟩
 .exact .inl ⟨rfl,rfl,rfl⟩
 .exact .inr ⟨b,G,rfl,rfl,by rw[E b (by simp)];exact h⟩
theorem Fe.join{n:Nat}{E:Store}(h:Fe σ v L ids)(hn:∀b∈ids,n<=b):Fe (CV n E σ ids) v L ids :=
 h.frame fun b hb=>kG (by have:=hn b hb;omega) hb
theorem Fe.cell(h:Fe σ v L ids):qI v=true:=by
 rcases h with ⟨rfl,rfl,rfl⟩|⟨b,E,rfl,rfl,h⟩<;>rfl
end
theorem Fe.mark{σ:Store}{nx:Nat}{v:V}{xs:List Int}{ids:List Nat}(h:Fe σ v xs ids)(hl:xs.length<=1000000000000)(k:Int)(hk:0<=k/\k<=10000000000000000) :
  ∃σ',ev Ze Aa BN 33 [v,I k] σ nx=some (I (k+xs.length),σ',nx)/\Fe σ' v (marks k xs.length) ids/\∀b,¬b∈ids->σ' b=σ b:=by
 rcases h with ⟨rfl,rfl,rfl⟩|⟨b,E,rfl,rfl,hb⟩
 .obtain⟨σ',G,_,h3⟩:=VZ (σ:=σ) (nx:=nx) (v:=.nil) (xs:=[]) (ids:=[]) (iZ _ _) hl k hk
  exact⟨σ',G,.inl ⟨rfl,rfl,rfl⟩,h3⟩
 .rw[nK [.tmp 4] [] func33]
  simp only[go_sem];generalize hL:gI _ _=y;obtain⟨r,rfl,T',σ',rfl,G,h2,h3⟩:=pJ hL xs.length (fun i s=>s.nx=nx/\s.T 0= .rs b 0 xs.length/\s.T 1=I (k+i)/\s.T 5=I i/\s.σ b=some ⟨(marks k i++(xs++E).drop i).flatMap cI,1,true⟩/\∀c,¬c=b->s.σ c=σ c)
   (fun r=>∃T σ',r=(.exit 0,⟨T,σ',nx⟩)/\T 1=I (k+xs.length)/\σ' b=some ⟨(marks k xs.length++E).flatMap cI,1,true⟩/\∀c,¬c=b->σ' c=σ c) (by
    clear hL;rintro i ⟨T,τ,m⟩ a1 ⟨hn,O,G,S,hs,Y⟩;simp only at hn O G S hs Y;subst hn;have f1:(i:Int)<(xs.length:Int):=by omega
    have f2:=jL i;have f3:=Zl (n:=(i:Int)+1);have f4:=Zl (n:=k+(i:Int)+1);have J:i<(xs++E).length:=by rw[zl];omega
    have c6:=VY (k:=k) (xs:=xs++E) rfl J;have c7:((marks k i++(xs++E).drop i).flatMap cI).length=(xs++E).length:=by rw[qW,zl,jX,yj];omega
    obtain⟨W,eW⟩:∃W,W=(marks k i++(xs++E).drop i).flatMap cI:=⟨_,rfl⟩;obtain⟨n,en⟩:∃n,n=(xs++E).length:=⟨_,rfl⟩;rw[<- eW]at hs c6 c7;rw[<- en]at c7 J;refine .inl ⟨_,by simp only[go_sem,O,G,S,hs,f1,f2,f3,f4,c6,c7,J,a1];rfl,?_⟩;simp only[go_sem,O];refine⟨by rw[show k+(i:Int)+1=k+((i+1:Nat):Int) by omega],rfl,fun c hc=>?_⟩;rw[aG _ _ hc];exact Y c hc) (by
    clear hL;rintro ⟨T,τ,m⟩ ⟨hn,O,G,S,hs,Y⟩;simp only at hn O G S hs Y;subst hn;refine⟨_,by simp only[go_sem,O,S,zk];rfl,by simp,_,_,rfl,by simp only[go_sem,G],?_,Y⟩;rw[hs,List.drop_left]) (by
    simp only[go_sem];exact⟨by simp,by rw[hb];rfl,fun _ _=>trivial⟩)
  simp only[go_sem,G];exact⟨_,rfl,.inr ⟨b,E,by rw[jX],rfl,h2⟩,fun c hc=>h3 c (by simpa using hc)⟩
theorem aaY{σ:Store}{nx b:Nat}(s:Stance)(h:Eo σ b s)(hn:b+4<=nx)(sm:ET s) :
  ∃(k':Nat) (σ':Store) (nx':Nat),ev Ze Aa BN 32 [.agg (DI b s),I 1] σ nx=some (I k',σ',nx')/\nx<=nx'/\∀c,(c<b\/b+4<=c)->c<nx->σ' c=σ c:=by
 obtain⟨s1,s2,s3,s4⟩:=sm;obtain⟨Ci,S⟩:∃Ci,Ci=upd σ nx (some ⟨DI b s,0,true⟩):=⟨_,rfl⟩;have O:∀c,c<nx->Ci c=σ c:=fun c hc=>by rw[S,aH]
 have b0:Ci nx=some ⟨DI b s,0,true⟩:=by rw[S,aF]
 obtain⟨E,Y⟩:∃E,E=upd Ci (nx+1) (some ⟨[.rs b 0 s.st.joints.length,.rs (b+1) 0 s.st.members.length],0,true⟩):=⟨_,rfl⟩;have J:∀c,c<nx+1->E c=Ci c:=fun c hc=>by rw[Y,aH]
 have b1:E (nx+1)=some ⟨[.rs b 0 s.st.joints.length,.rs (b+1) 0 s.st.members.length],0,true⟩:=by rw[Y,aF]
 have a1:E nx=some ⟨DI b s,0,true⟩:=by rw[J _ (by omega),b0]
 obtain⟨σ2,e2,_,f2⟩:=aag (σ:=E) (b:=b) (nx:=nx+1+1) s.st.joints (by rw[J _ (by omega),O _ (by omega)];exact h.j) (by omega) 1 (by omega) (by omega);have b2:σ2 (nx+1)=some ⟨[.rs b 0 s.st.joints.length,.rs (b+1) 0 s.st.members.length],0,true⟩:=by rw[f2 _ (by omega),b1]
 obtain⟨G,e3,_,f3⟩:=V7 (σ:=σ2) (b:=b+1) (nx:=nx+1+1) s.st.members (by rw[f2 _ (by omega),J _ (by omega),O _ (by omega)];exact h.m) (by omega) (1+4*s.st.joints.length) (by omega) (by omega);have b3:G nx=some ⟨DI b s,0,true⟩:=by rw[f3 _ (by omega),f2 _ (by omega),a1]
 obtain⟨Df,e4,f4⟩:=J3 (σ:=G) (b:=b+2) (nx:=nx+1+1) (xs:=s.load) (by rw[f3 _ (by omega),f2 _ (by omega),J _ (by omega),O _ (by omega)];exact h.l) (by omega) (1+4*s.st.joints.length+3*s.st.members.length) (by omega);have b4:Df nx=some ⟨DI b s,0,true⟩:=by rw[f4 _ (by omega),b3]
 obtain⟨Dn,e5,f5⟩:=J3 (σ:=Df) (b:=b+3) (nx:=nx+1+1) (xs:=s.limits) (by rw[f4 _ (by omega),f3 _ (by omega),f2 _ (by omega),J _ (by omega),O _ (by omega)];exact h.x) (by omega) (1+4*s.st.joints.length+3*s.st.members.length+s.load.length) (by omega);have a6:ev Ze Aa BN 140 [.rs b 0 s.st.joints.length,I 1] E (nx+1+1)=some (I ((1+4*s.st.joints.length:Nat):Int),σ2,nx+1+1):=e2;have m1:ev Ze Aa BN 83 [.agg [.rs b 0 s.st.joints.length,.rs (b+1) 0 s.st.members.length],I 1] Ci (nx+1)=some (I ((1+4*s.st.joints.length+3*s.st.members.length:Nat):Int),G,nx+1+1):=by
  rw[nK [.tmp 4] [] func83];simp only[go_sem,qM,<- Y,b1,a6,b2,e3]
 refine⟨1+4*s.st.joints.length+3*s.st.members.length+s.load.length+s.limits.length,Dn,nx+1+1,?_,by omega,fun c hc a7=>by rw[f5 c (by omega),f4 c (by omega),f3 c (by omega),f2 c (by omega),J c (by omega),O c a7]⟩;rw[nK [.tmp 4] [] func32];unfold DI at *;simp only[go_sem,qM,<- S,b0,m1,b3,e4,b4,e5]
theorem avI{t:Stance}{o:Option (List Int)}(h:ais t o)(nx:Nat):∃v E G ids,ev Ze BA Di 30 [.agg (cStance t)] lI nx=some (.Au [v,Bo o.isSome],E,G)/\nx<=G/\Fe E v (o.getD []) ids/\∀b∈ids,nx<=b/\b<G:=by
 obtain⟨E,G,⟨rfl,hn,k⟩|⟨L,J,b,rfl,O,S,k,hs⟩⟩:=h.2.2 nx
 .exact⟨_,_,_,[],k,hn,.inl ⟨rfl,rfl,rfl⟩,by simp⟩
 .exact⟨_,_,_,[b],k,by omega,.inr ⟨b,J,rfl,rfl,hs⟩,fun c hc=>by rw[List.mem_singleton.mp hc];exact⟨O,S⟩⟩
end Go.Proofs.YtkpdoehbhmipcaaGreat
