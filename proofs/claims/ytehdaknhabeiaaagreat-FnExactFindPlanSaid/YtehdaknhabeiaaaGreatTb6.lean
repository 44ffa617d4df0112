import Derived.Test.YtehdaknhabeiaaaGreatTb5
set_option linter.unusedSimpArgs false
set_option linter.unusedVariables false
set_option linter.unusedSectionVars false
set_option linter.defProp false
set_option maxRecDepth 10000
set_option maxHeartbeats 4000000
open Go.Proofs.Tryz renaming prog->ZH
open Go.Proofs.Tryz
open Bool renaming and_eq_true->zB,and_false->xu,not_false->wu,false_and->wE,true_and->vJ,not_true->vH
open Classical renaming byContradiction->zf
open Int renaming lt_irrefl->zl,toNat_natCast->zF,natAbs_mul_self->vw
open List renaming getElem?_eq_getElem->zy,getD_eq_getElem?_getD->zx,getElem_mem->zu,length_append->zo,take_of_length_le->zk,length_take->zh,eq_nil_of_length_eq_zero->zZ,mem_cons_of_mem->zY,mem_cons->zX,getElem?_append_left->zV,flatMap_append->zU,flatMap_cons->zT,getElem?_append_right->zQ,length_map->zO,length_drop->zN,mem_cons_self->zM,append_nil->zK,length_cons->zJ,mem_append_left->zD,append_assoc->z_,length_replicate->yj,take_length->yg,getElem?_map->yc,getElem?_eq_none->yZ,drop_zero->yY,getElem_of_mem->yV,ext_getElem->yS,length_eraseIdx_of_lt->yR,take_add_one->yN,length_singleton->yM,nil_append->yK,length_set->yJ,getElem_append_left->yG,getElem_map->yB,drop_of_length_le->xk,map_congr_left->xO,mem_singleton->xC,length_nil->wZ,range_succ->wY,map_append->wX,mem_append->wW,getElem_set->wP,take_append_drop->wM,getElem?_range->w_,drop_append_of_le_length->vk,getElem_range->vC,mem_or_eq_of_mem_set->vB,eraseIdx_eq_take_drop_succ->uz,replicate_succ'->uo,getElem?_replicate->uZ,all_eq_true->uU,all_cons->uO,length_range->uN
open Nat renaming le_refl->zq,not_lt_zero->zW,le_trans->zL,mul_le_mul_right->zC,zero_add->yX,mul_one->yQ,mul_le_mul->yE,succ_mul->xq,div_one->x9,zero_le->wK,add_assoc->wG,zero_mul->uq,add_zero->uG,eq_zero_of_gcd_eq_zero_right->u_
open Ne renaming symm->yu
open Option renaming bind_some->zi,map_some->zG
open Prod.mk renaming injEq->sZ
namespace Go.Proofs.YtehdaknhabeiaaaGreat
open Go Go.TV Go.Lp
attribute [-go_sem] rD
def aw0(p:Prog)(r:V):Prop:=(r= .agg [I 2,.ts [] 0,Bo false,.ts [] 0,.ts [] 0]/\p.None)\/(r= .agg [I 3,.ts [] 0,Bo false,.ts [] 0,.ts [] 0]/\p.Open) \/
 ∃x:Nat->Rat,p.Best x/\(∀j,j<p.n->Ln 6 (x j))/\Ln 6 (ob p.n p.c x)/\r= .agg (I 0 :: LL cQ ((List.range p.n).map x) :: cQ (ob p.n p.c x))/\∃T,p.Good T/\x=BD p.m T
section
variable {A b c:List Int} {m n:Nat}
def Q1(A b c:List Int)(m n:Nat)(D:TQ):Prop:=∃T,Vq (AO A b c m n) (n+m) (AO A b c m n).c1 T D (List.range m)/\(AO A b c m n).Good T
def Q2(A b c:List Int)(m n:Nat)(D:TQ):Prop:=∃T,Vq (AO A b c m n) (n+m) (AO A b c m n).c1 T D (List.range m)/\(AO A b c m n).Good T/\Zero (AO A b c m n) T
def Q3(A b c:List Int)(m n:Nat)(ι:List Nat)(D:TQ):Prop:=∃T,Vq (AO A b c m n) n ((AO A b c m n).C 0) T D ι/\(AO A b c m n).Good T/\(AO A b c m n).Out T/\∀x∈D.B,x<n
theorem amX{D E:TQ}(h:Q1 A b c m n D)(hs:NU (n+m) 1 D E):Q1 A b c m n E:=by
 obtain⟨T,G,J⟩:=h;obtain⟨T',O,S⟩:=G.step (C:=fun _=>(AO A b c m n).c1) (NW (p:=AO A b c m n) (n':=n+m)) hs;exact⟨T',S,J.step O⟩
theorem amY{ι:List Nat}{D J:TQ}(h:Q3 A b c m n ι D)(hs:NU n (n+1) D J):Q3 A b c m n ι J:=by
 obtain⟨T,h1,h2,O,h4⟩:=h;obtain⟨T',S,k2⟩:=h1.step (C:=(AO A b c m n).C) (NZ (p:=AO A b c m n)) hs;refine⟨T',k2,h2.step S,?_,fun x G=>?_⟩
 case refine_2=>
  obtain⟨s,r,E,-,rfl⟩:=hs;rcases vB G with G|rfl
  .exact h4 x G
  .exact E.lt
 obtain⟨s,r,E,Y,rfl⟩:=S
 by_cases hB:T.B r<n
 .exact O.piv hB E.fr
 .have:=(O.z r Y.lt (by show n<=T.B r;omega)).2 s E.fr
  have:=Y.pos;grind
theorem aqP{D:TQ}(h:Q2 A b c m n D)(E:∀i,i<D.R.length->ED n D i):∃T,Vq (AO A b c m n) (n+m) (AO A b c m n).c1 T D (List.range m)/\(AO A b c m n).Good T/\Zero (AO A b c m n) T/\(AO A b c m n).Out T:=by
 obtain⟨T,G,h2,O⟩:=h;refine⟨T,G,h2,O,⟨fun i hi S=>⟨O i hi S,fun j Y=>?_⟩⟩⟩;have hl:D.R.length=m:=by rw[<- G.len];simp
 have J:i<m:=hi;have e1:=G.ent i j (by omega) (by have:j<n:=Y;omega);have e2:=G.BD i (by omega);rw[fV J]at e1 e2;rw[<- e1];exact E i (by omega) (by rw[e2];exact S) j Y
theorem adf{C:Nat->Nat->Rat}{p:Prog}{n':Nat}{T:Tab}{D:TQ}{ι:List Nat}(h:Vq p n' (C 0) T D ι){j:Nat}(E:j<n')(hn:j∉D.B):BD p.m T j=0:=by
 unfold BD;refine bK fun i hi=>?_
 rw[sW fun e=>hn ((h.mem E).mpr ⟨i,hi,e⟩)]
theorem abP(a b c d e:V)(v:Rat):patch [a,b,c,d,e] 2 (cQ v)=a :: b :: cQ v:=rfl
theorem abQ(a b c d e x y:V)(v:Rat):patch [a,b,c,d,e] 0 (x :: y :: cQ v)=x :: y :: cQ v:=rfl
theorem amZ(a b:V)(v:Rat):(a :: b :: cQ v).length=5:=rfl
theorem am0(a b:V)(v:Rat):(a :: b :: cQ v).all pI=(pI a && (pI b && true)):=rfl
theorem am1(x:Value):pI (.sc x)=true:=rfl
theorem ajw:pI .nil=true:=rfl
theorem am2(b o l:Nat):pI (.rs b o l)=true:=rfl
theorem ajx(a b:V)(v:Rat):(a :: b :: cQ v)[1]?=some b:=rfl
theorem ajy(a b w:V)(v:Rat):(a :: b :: cQ v).set 1 w=a :: w :: cQ v:=rfl
theorem ajz(a b:V)(v:Rat):(a :: b :: cQ v).take 5=a :: b :: cQ v:=rfl
attribute [go_sem] abP abQ amZ am0 am1 ajw am2 ajx ajy ajz
theorem aqQ(hp:PrS A b c m n):∃r,fn ZH qI Af 119 [.agg (CZ m n A b c)]=some r/\aw0 (AO A b c m n) r:=by
 have hm:=hp.hm;have hn:=hp.hn;have hc:=hp.hc;have b6:∀x,(-1000<=x/\x<=1000)->(-1000000<=x/\x<=1000000):=fun x h=>by omega
 obtain⟨N,hN⟩:∃N,N=n+m:=⟨_,rfl⟩;obtain⟨s1,b2⟩:∃s1,s1=upd (upd lI 0 (some ⟨CZ m n A b c,0,true⟩)) 1 (some ⟨[I 0,.nil,Bo false,.nil,.nil],0,true⟩):=⟨_,rfl⟩;have b3:s1 0=some ⟨CZ m n A b c,0,true⟩:=by rw[b2,Zj _ _ (by decide),Zi]
 have e5:s1 1=some ⟨[I 0,.nil,Bo false,.nil,.nil],0,true⟩:=by rw[b2,Zi]
 obtain⟨σ2,Ci,bt,k1,bc,vr,vb,rb,h5,S,FN⟩:=aqH (c:=c) hp.hA hp.hb (by omega) (by omega) hp.bA hp.bb s1 2;have h6:Q1 A b c m n (Dq A b m n m):=⟨_,abO,gZ⟩;have e6:∀D,Q1 A b c m n D->ShF D (n+m)/\D.B.Nodup:=fun D h=>by
  obtain⟨T,h1,h2⟩:=h;exact abN hp h1 h2 anI
 have h7:Xl (n+m) 1 (2^(n+m)) (Dq A b m n m):=Vq.aa9 (C:=fun _=>(AO A b c m n).c1) NW abO (acA gZ.ok);obtain⟨h8,Aq,m6,D3,k2,h9,i0,Oh,m7,Fp⟩:=auC (Q1 A b c m n) false (d:=1) rfl e6 (fun D D' h hs=>amX h hs) h6 h7 h5 (fun b hb=>(S b hb).2);obtain⟨T3,v3,g3,z3,i1⟩:=aa' (p:=AO A b c m n) h9 abO gZ fun r hr=>List.mem_range.mpr hr
 have e7:=(e6 D3 i0).1;have e9:=e7.Gm;have LD:=Oh.t;have d0:=Oh.c;rw[<- hN]at LD e9;have l1:bt<Aq:=by have:=S bt (by simp);omega
 have l2:bc<Aq:=by have:=S bc (by simp);omega
 have a1:=jD N;have a2:(N:Int)<((N+1:Nat):Int):=by omega
 have a3:=d_ (c:=cQ) (s:=3) qN D3.c N (by omega);rw[<- lK (by omega) 0]at a3;have a4:=bZ (c:=cQ) (s:=3) qN D3.c;rw[e9]at a4;have a5:N*3+3<=(N+1)*3:=by omega
 have i2:Ln 6 (D3.c.getD N 0):=by rw[lK (by omega)];exact e7.amP _ (zu _)
 have k3:=dM (D3.c.getD N 0) (i2.mono (by decide));have b5:=abI (D3.c.getD N 0);have d4:∀x,x<2->h8 x=s1 x:=fun x hx=>by
  rw[Fp x (by have:=S bt (by simp);omega) fun hm=>by have:=S x (by simp only[zX,wW]at hm⊢;rcases hm with h|h|h<;>simp[h]);omega];exact FN x hx
 have d5:=(d4 0 (by decide)).trans b3;have i3:=(d4 1 (by decide)).trans e5;unfold CZ at b2 b3 d5 k1⊢;rw[mM,nG [.cell 2 149] [8,12,16] func119]
 by_cases hz:D3.c.getD N 0=0
 .rw[sO hz,vH]at b5
  have i4:Q2 A b c m n D3:=⟨T3,v3,g3,z3 (by rw[show(AO A b c m n).N=N from hN.symm];exact hz)⟩;have c9:∀r,r<m->r∈List.range m:=fun r hr=>List.mem_range.mpr hr
  obtain⟨CB,Fh,Y,f0,i5,d6,c0,D4,k4,i6,f1,i7,U0,i9⟩:=amS (nx:=Aq) (A:=A) (b:=b) (m:=m) (N:=N) (Q2 A b c m n) hc hN (by omega) hp.bc (fun D h=>by
   obtain⟨T,h1,h2,h3⟩:=h;rw[hN];exact(abN hp h1 h2 anI).1) (fun D i k h hi hB hk j0=>by
   obtain⟨T,h1,h2,h3⟩:=h;exact⟨_,abb (p:=AO A b c m n) h1 h2 h3 hi hB hk j0⟩) (fun D h f2=>by
   obtain⟨T,h1,h2,h3⟩:=h;exact afH hp h1 h2 c9 h3 f2) i4 (by rw[hN];exact Oh) (fun x hx=>by have:=S x hx;omega)
  obtain⟨T4,v4,g4,z4,o4⟩:=aqP i6 f1;have V4:=anJ hp v4 g4 c9 z4 f1;have f3:∀D,Q3 A b c m n (CX n (List.range m) D4.B) D->ShF D n/\D.B.Nodup:=fun D h=>by
   obtain⟨T,h1,h2,h3,h4⟩:=h;exact abN hp h1 h2 (awV hp)
  obtain⟨CY,G,j1,J,k5,j2,f4,Gp,m8,j3⟩:=auC (Q3 A b c m n (CX n (List.range m) D4.B)) true (d:=n+1) rfl f3 (fun D D' h hs=>amY h hs) ⟨T4,V4,g4,o4,Je.2⟩ (Vq.aa9 (C:=(AO A b c m n).C) NZ V4 (acA g4.ok)) i7 (fun b hb=>(U0 b hb).2);obtain⟨T5,V5,g5,o5,j4,j5⟩:=abd (p:=AO A b c m n) j2 V4 g4 o4;unfold CZ at k4;have m9:=(S bt (by simp)).1;have n0:=(S bt (by simp)).2;have f5:∀x,x<2->CY x=s1 x:=fun x hx=>by
   rw[j3 x (by have:=U0 Y (by simp);omega) fun hm=>by have:=U0 x (by simp only[zX,wW]at hm⊢;rcases hm with h|h|h<;>simp[h]);omega];rw[i9 x (by omega) fun hm=>by have:=S x (by simp only[zX,wW]at hm⊢;rcases hm with h|h|h<;>simp[h]);omega];rw[d4 x hx]
  have f6:=(f5 0 (by decide)).trans b3;have f7:=(f5 1 (by decide)).trans e5;cases j1 with
  |false=>
   refine⟨_,by simp only[go_sem,qJ,<- b2,b3,k1,k2,LD,d0,a1,a2,a3,a4,a5,k3,b5,l1,l2,d5,k4,k5,f7],.inr (.inl ⟨rfl,j5 rfl⟩)⟩
  |true=>
   obtain⟨a7,n1⟩:=f3 J f4;have d7:=Gp.t;have j6:=Gp.c;have j7:=a7.Gm;have d1:Y<G:=by have:=U0 Y (by simp);omega
   have d2:f0<G:=by have:=U0 f0 (by simp);omega
   have c1:=jD n;have c2:(n:Int)<((n+1:Nat):Int):=by omega
   have c3:=d_ (c:=cQ) (s:=3) qN J.c n (by omega);rw[<- lK (by omega) 0]at c3;have c4:=bZ (c:=cQ) (s:=3) qN J.c;rw[j7]at c4;have c5:n*3+3<=(n+1)*3:=by omega
   have d8:Ln 6 (J.c.getD n 0):=by rw[lK (by omega)];exact a7.amP _ (zu _)
   have d3:G<G+1:=by omega
   have k6:=ahr (J.c.getD n 0) (by have:=d8.1;omega) (by have:=d8.2;omega);have f8:-J.c.getD n 0=ob n (AO A b c m n).c (BD m T5):=aoQ (p:=AO A b c m n) V5 g5;have d9:=UW d8;rw[f8]at k6 d9;generalize J.c.getD n 0=q at c3 k6;generalize hv:ob n (AO A b c m n).c (BD m T5)=v at k6 d9;simp only[go_sem,qJ,<- b2,b3,k1,k2,LD,d0,a1,a2,a3,a4,a5,k3,b5,l1,l2,d5,k4,k5,d7,j6,c1,c2,c3,c4,c5,d1,d2,d3,k6];have k0:fn ZH conv ext 144 [I 0]=some (.agg (cQ 0)):=dO 0 (by decide) (by decide)
   have j8:1<G:=by have:=U0 Y (by simp);omega
   generalize hL:dI _ _=y;obtain⟨x,rfl,T6,Dy,O,rfl,t2,t4,t5,G5,RH,a9⟩:=pF hL n (fun j st=>st.T 1= .rp 0 0/\st.T 2= .rp 1 0/\st.T 4= .rp Y 0/\st.T 5= .rp G 0/\st.T 6=I j/\G<st.nx/\(∀y,y<G->st.σ y=CY y)/\((j=0/\st.σ G=some ⟨I 0 :: .nil :: cQ v,0,true⟩)\/∃E,0<j/\G<E/\E<st.nx/\st.σ G=some ⟨I 0 :: .rs E 0 j :: cQ v,0,true⟩/\st.σ E=some ⟨(List.replicate j (0:Rat)).flatMap cQ,3,true⟩))
    (fun x=>∃T Dy O,x=(.exit 0,⟨T,Dy,O⟩)/\T 2= .rp 1 0/\T 4= .rp Y 0/\T 5= .rp G 0/\G<O/\(∀y,y<G->Dy y=CY y)/\((n=0/\Dy G=some ⟨I 0 :: .nil :: cQ v,0,true⟩)\/∃E,0<n/\G<E/\E<O/\Dy G=some ⟨I 0 :: .rs E 0 n :: cQ v,0,true⟩/\Dy E=some ⟨(List.replicate n (0:Rat)).flatMap cQ,3,true⟩)) (by
     clear hL;rintro j ⟨T,Dy,O⟩ hj ⟨t1,t2,t4,t5,t6,G5,RH,a9⟩;simp only at t1 t2 t4 t5 t6 G5 RH a9;have g1:(j:Int)<(n:Int):=by omega
     have g3:=ZQ (n:=(j:Int)+1);have c7:Dy 0=_:=(RH 0 (by omega)).trans f6;have y1:G<O:=by omega
     have y2:¬G=O:=by omega
     have y3:(G==O)=false:=by rw[sQ];omega
     have y4:(O==G)=false:=by rw[sQ];omega
     have y5:G<O+1:=by omega
     have y6:¬G=O+1:=by omega
     have y7:(G==O+1)=false:=by rw[sQ];omega
     have y8:(O+1==G)=false:=by rw[sQ];omega
     have y9:G<O+1+1:=by omega
     have Yn:¬G=O+1+1:=by omega
     have Yo:(G==O+1+1)=false:=by rw[sQ];omega
     have Yp:(O+1+1==G)=false:=by rw[sQ];omega
     have f9:O<O+1:=by omega
     have Yq:O+1<O+1+1:=by omega
     rcases a9 with ⟨h0,st⟩|⟨E,n2,c1,c2,st,sx⟩
     .refine .inl ⟨_,by simp only[go_sem,t1,t2,t4,t5,t6,c7,st,g1,g3,k0,y1,y2,y3,y4,y5,y6,y7,y8,y9,Yn,Yo,Yp,f9,Yq];rfl,?_⟩
      simp only[go_sem,t1,t2,t4,t5];refine⟨rfl,by omega,fun x hx=>?_,.inr ⟨O+1,by omega,by omega,by omega,by rw[h0],?_⟩⟩
      .rw[Zk,Zk,Zk];exact RH x hx
      .rw[Zk,Zi,h0];rfl
     .have g0:=rG (σ:=restrict (upd Dy O (some ⟨cQ 0,3,true⟩)) [E,O]) (nx:=O+1) (size:=3) (bytes:=56) (b:=E) (len:=j) (m:=1) (row:=cQ 0) (by rw[fJ,Zk];exact sx) (by rw[bZ qN,yj]) (by decide) (by decide) (by unfold maxLen;omega) (by omega) rfl
      have x1:E<O+1:=by omega
      have x2:(G==E)=false:=by rw[sQ];omega
      have x3:(E==G)=false:=by rw[sQ];omega
      have x4:¬G=E:=by omega
      refine .inl ⟨_,by simp only[go_sem,t1,t2,t4,t5,t6,c7,st,g1,g3,k0,g0,x1,x2,x3,x4,y1,y2,y3,y4,y5,y6,y7,y8,y9,Yn,Yo,Yp,f9,Yq];rfl,?_⟩;simp only[go_sem,t1,t2,t4,t5];refine⟨rfl,by omega,fun x hx=>?_,.inr ⟨O+1,by omega,by omega,by omega,rfl,?_⟩⟩
      .rw[Zk,Zk,Zk,Zk];exact RH x hx
      .rw[Zk,Zi,uo,zU];simp) (by
     clear hL;rintro ⟨T,Dy,O⟩ ⟨t1,t2,t4,t5,t6,G5,RH,a9⟩;simp only at t1 t2 t4 t5 t6 G5 RH a9;have c7:Dy 0=_:=(RH 0 (by omega)).trans f6;refine⟨_,by simp only[go_sem,t1,t6,c7,zl];rfl,by simp,_,_,_,rfl,?_⟩;simp only[go_sem,t2,t4,t5];exact⟨G5,RH,a9⟩) (by
     simp only[go_sem];exact⟨by omega,fun y hy=>by rw[Zk],.inl trivial⟩)
   clear hL;have j9:∀x∈J.B,x<n:=f4.choose_spec.2.2.2;obtain⟨K,eK⟩:∃K,K=J.R.length:=⟨_,rfl⟩;have n3:=a7.Bg;have n4:=a7.Gn;obtain⟨f,ef⟩:∃f,f=BD m T5:=⟨_,rfl⟩;have b7:∀i,i<K->B_ J.R i n=f (J.B.getD i 0):=fun i hi=>by rw[ef];exact atq (p:=AO A b c m n) V5 g5 (by omega)
   have hlen:DR ZH 26 d6=some (I K):=by
    rcases Gp.b with ⟨q1,rfl⟩|⟨bb,q1,rfl,_⟩
    .rw[show K=0 by omega];exact ng (by kernel_rfl)
    .rw[eK];exact nZ (by kernel_rfl)
   obtain⟨vx,k7,k8⟩:∃vx,Dy G=some ⟨I 0 :: vx :: cQ v,0,true⟩/\((n=0/\vx= .nil)\/∃E,0<n/\G<E/\E<O/\vx= .rs E 0 n/\Dy E=some ⟨(List.replicate n (0:Rat)).flatMap cQ,3,true⟩):=by
    rcases a9 with ⟨h0,h1⟩|⟨E,h0,h1,h2,h3,h4⟩
    .exact⟨_,h1,.inl ⟨h0,rfl⟩⟩
    .exact⟨_,h3,.inr ⟨E,h0,h1,h2,rfl,h4⟩⟩
   have k9:Dy Y=_:=(RH Y d1).trans d7;simp only[go_sem,t2,t4,t5,k9,hlen];generalize hL:dI _ _=y;obtain⟨x,rfl,T7,EJ,a6,rfl,t2,t5,a0,a8,Yv⟩:=pF hL K (fun i st=>st.T 2= .rp 1 0/\st.T 4= .rp Y 0/\st.T 5= .rp G 0/\st.T 60=d6/\st.T 61=I K/\st.T 62=I i/\O<=st.nx/\(∀y,y<G->st.σ y=CY y)/\st.σ G=some ⟨I 0 :: vx :: cQ v,0,true⟩/\((n=0/\vx= .nil)\/∃E,0<n/\G<E/\E<O/\vx= .rs E 0 n/\st.σ E=some ⟨(xB J.B f i n).flatMap cQ,3,true⟩))
    (fun x=>∃T EJ a6,x=(.exit 2,⟨T,EJ,a6⟩)/\T 2= .rp 1 0/\T 5= .rp G 0/\(∀y,y<G->EJ y=CY y)/\EJ G=some ⟨I 0 :: vx :: cQ v,0,true⟩/\((n=0/\vx= .nil)\/∃E,0<n/\G<E/\E<O/\vx= .rs E 0 n/\EJ E=some ⟨(xB J.B f K n).flatMap cQ,3,true⟩)) (by
     clear hL;rintro i ⟨T,EJ,a6⟩ hi ⟨t2,t4,t5,b8,b4,b9,c8,a0,a8,Yv⟩;simp only at t2 t4 t5 b8 b4 b9 c8 a0 a8 Yv;have g9:J.B.getD i 0<n:=by rw[lK (by omega)];exact j9 _ (zu _)
     rcases Yv with ⟨h0,_⟩|⟨E,h0,h1,h2,rfl,h4⟩
     .omega
     obtain⟨br,rfl,l6⟩:∃br,i5= .rs br 0 K/\CY br=some ⟨c0.map fun b=>V.rs b 0 (n+1),1,true⟩:=by
      rcases Gp.r with ⟨e,_⟩|⟨br,_,e,e2⟩
      .omega
      .exact⟨br,by rw[e,eK],e2⟩
     obtain⟨bb,rfl,l7⟩:∃bb,d6= .rs bb 0 K/\CY bb=some ⟨(Ce J.B).flatMap cI,1,true⟩:=by
      rcases Gp.b with ⟨e,_⟩|⟨bb,_,e,e2⟩
      .omega
      .exact⟨bb,by rw[e,eK],e2⟩
     have e0:i<c0.length:=by have:=Gp.len;omega
     obtain⟨bi,Fg⟩:∃bi,bi=c0[i]:=⟨_,rfl⟩;have n5:=U0 br (by simp[bk]);have n6:=U0 bb (by simp[bk]);have n7:bi<Fh:=by rw[Fg];exact(U0 _ (by simp[zu e0])).2
     have g1:(i:Int)<(K:Int):=by omega
     have g2:=jD i;have g3:=ZQ (n:=(i:Int)+1);have e1:EJ Y=_:=(a0 Y d1).trans d7;have e2:EJ br=_:=(a0 br (by omega)).trans l6;have e3:EJ bb=_:=(a0 bb (by omega)).trans l7;have e4:EJ bi=some ⟨(En J.R i).flatMap cQ,3,true⟩:=(a0 bi (by omega)).trans (by rw[Fg];exact Gp.row i e0);have r1:(c0.map fun b=>V.rs b 0 (n+1))[i]?=some (.rs bi 0 (n+1)):=by rw[yc,zy e0,Fg];rfl
     have b1:=idx (xs:=Ce J.B) (k:=i) (by rw[aB];omega);rw[aC (by omega)]at b1;have rl:=dP a7.row (show i<J.R.length by omega);have r3:=qE (R:=J.R) (i:=i) (j:=n) (by omega);have lq:Ln 6 (B_ J.R i n):=by
      rw[<- oK (by omega)];exact a7.big _ (by rw[dR (show i<J.R.length by omega)];exact zu _) _ (zu _)
     rw[b7 i hi]at r3 lq;have r4:=bZ (c:=cQ) (s:=3) qN (En J.R i);rw[rl]at r4;have kc:=aqy (f (J.B.getD i 0)) (lq.mono (by decide));have c6:patch ((xB J.B f i n).flatMap cQ) (J.B.getD i 0*3) (cQ (f (J.B.getD i 0)))=(xB J.B f (i+1) n).flatMap cQ:=by
      rw[iD qN _ _ (by rw[ZN];exact g9),aiu f (by omega)]
     have g5:=bZ (c:=cQ) (s:=3) qN (xB J.B f i n);rw[ZN]at g5;generalize J.B.getD i 0=B at g9 b1 r3 kc c6;have g6:=jD B;have g7:(B:Int)<(n:Int):=by omega
     have g8:B*3+3<=n*3:=by omega
     have l1:G<a6:=by omega
     have l2:Y<a6:=by omega
     have l3:br<a6:=by omega
     have l4:bi<a6:=by omega
     have l5:E<a6:=by omega
     have z1:(G==E)=false:=by rw[sQ];omega
     have z2:(Y==E)=false:=by rw[sQ];omega
     have z3:(br==E)=false:=by rw[sQ];omega
     have z4:(bi==E)=false:=by rw[sQ];omega
     refine .inl ⟨_,by simp only[go_sem,t2,t4,t5,b8,b4,b9,e1,e2,e3,e4,a8,h4,r1,b1,r3,r4,g1,g2,g3,g5,g6,g7,g8,c1,c2,c5,kc,c6,l1,l2,l3,l4,l5,z1,z2,z3,z4];rfl,?_⟩;simp only[go_sem,t2,t4,t5,b8,b4];refine⟨rfl,c8,fun y hy=>?_,?_,.inr ⟨E,h0,h1,h2,rfl,?_⟩⟩
     .rw[Zk];exact a0 y hy
     .rw[Zk];exact a8
     .rw[Zi]) (by
     clear hL;rintro ⟨T,EJ,a6⟩ ⟨t2,t4,t5,b8,b4,b9,c8,a0,a8,Yv⟩;simp only at t2 t4 t5 b8 b4 b9 c8 a0 a8 Yv;refine⟨_,by simp only[go_sem,b4,b9,zl];rfl,by simp,_,_,_,rfl,?_⟩;simp only[go_sem,t2,t5];exact⟨a0,a8,Yv⟩) (by
     simp only[go_sem,t2,t4,t5];refine⟨RH,k7,?_⟩;rcases k8 with h|⟨E,h0,h1,h2,h3,h4⟩
     .exact .inl h
     .exact .inr ⟨E,h0,h1,h2,h3,by rw[acW];exact h4⟩)
   clear hL;have l8:EJ 1=_:=(a0 1 j8).trans f7;have hX:xB J.B f K n=(List.range n).map f:=by
    unfold xB;rw[zk (by omega)];refine xO fun j hj=>?_
    by_cases h:j∈J.B
    .rw[sS h]
    .rw[sW h,ef]
     exact(adf (C:=(AO A b c m n).C) V5 (List.mem_range.mp hj) h).symm
   have l9:∀j,j<n->Ln 6 (f j):=fun j hj=>by
    by_cases h:j∈J.B
    .obtain⟨i,hi,rfl⟩:=yV h
     rw[<- lK hi 0,<- b7 i (by omega),<- oK (by rw[dP a7.row (by omega)];omega)];exact a7.big _ (by rw[dR (show i<J.R.length by omega)];exact zu _) _ (zu _)
    .have e:BD m T5 j=0:=adf (C:=(AO A b c m n).C) V5 hj h
     rw[ef,e];exact amV
   obtain⟨ids,m1⟩:∃ids,∀σ',(∀y,y≠1->σ' y=EJ y)->strip σ' 6 vx=some (LL cQ ((List.range n).map f),ids):=by
    rcases Yv with ⟨h0,rfl⟩|⟨E,h0,h1,h2,rfl,h4⟩
    .exact⟨[],fun σ' _=>by rw[aT,h0];rfl⟩
    .exact⟨[E],fun σ' h=>fC (by rw[h E (by omega),<- hX];exact h4) (by simp)⟩
   obtain⟨Yw,e8⟩:∃Yw,Yw=upd EJ 1 (some ⟨I 0 :: vx :: cQ v,0,true⟩):=⟨_,rfl⟩;have m2:=m1 Yw fun y hy=>by rw[e8,Zj _ _ hy]
   have m3:Yw 1=some ⟨I 0 :: vx :: cQ v,0,true⟩:=by rw[e8,Zi]
   have m4:=qM Yw 6 v;have m5:pI vx=true:=by
    rcases Yv with ⟨-,rfl⟩|⟨E,-,-,-,rfl,-⟩<;>rfl
   refine⟨.agg (I 0 :: LL cQ ((List.range n).map f) :: cQ v),?_,.inr (.inr ⟨f,by rw[ef];exact j4 rfl,l9,by rw[show ob (AO A b c m n).n (AO A b c m n).c f=v by rw[ef];exact hv];exact d9,by rw[show ob (AO A b c m n).n (AO A b c m n).c f=v by rw[ef];exact hv];rfl,T5,g5,ef⟩)⟩;simp only[go_sem,t2,t5,a8,l8,<- e8,m3,m2,m4,m5,au]
 .rw[sN hz,wu]at b5
  refine⟨_,by simp only[go_sem,qJ,<- b2,b3,k1,k2,LD,d0,a1,a2,a3,a4,a5,k3,b5,l1,l2,i3],.inl ⟨rfl,i1 (by rw[show(AO A b c m n).N=N from hN.symm];exact hz)⟩⟩
end
theorem adg{s:Structure}(h:SG s):fn ZH conv ext 148 [.agg (cStructure s)]=some (LI (free s)):=by
 have YK:=h.nj;unfold free;rw[mM,nG [.tmp 2] [] func148];simp only[go_sem];generalize hL:dI _ _=y;obtain⟨r,rfl,T',σ',nx',rfl,h2⟩:=pF hL s.joints.length (fun k st=>st.T 8=LL cJoint s.joints/\st.T 9=I s.joints.length/\st.T 10=I k/\Grow st.T st.σ st.nx 3 (DT (Dv s) k))
  (fun r=>∃T σ nx',r=(.exit 0,⟨T,σ,nx'⟩)/\Grow T σ nx' 3 (DT (Dv s) s.joints.length)) (by
   clear hL;rintro k ⟨T,σ,nx⟩ G ⟨O,E,J,S⟩;simp only at O E J S;have f1:(k:Int)<(s.joints.length:Int):=by omega
   have f2:=jD k;have f3:=ZQ (n:=(k:Int)+1);have f4:=Hr s.joints k G;have f5:=EN s.joints;have f6:k*4+4<=s.joints.length*4:=by omega
   have f9:=JD s.joints k G;have hle:=Zp (Dv s) k;have Y:=fun x=>kW S x
   cases hp:s.joints[k].fixed with
   |false=>
    have hq:Dv s k=true:=by simp[Dv,zy G,hp]
    obtain⟨σ',ha,hs⟩:=kU (Y (some ⟨[Sg s.joints[k].name,I s.joints[k].x,I s.joints[k].y,Bo false],0,true⟩)) (k:Int) (by omega);refine .inl ⟨_,by simp only[go_sem,O,E,J,f1,f2,f3,f4,f5,f6,f9,hp,G,ha];rfl,?_⟩;simp only[go_sem,O,E];rw[Zn hq];exact⟨rfl,kR hs (by simp[go_sem]) (by simp)⟩
   |true=>
    have hq:Dv s k=false:=by simp[Dv,zy G,hp]
    refine .inl ⟨_,by simp only[go_sem,O,E,J,f1,f2,f3,f4,f5,f6,f9,hp,G];rfl,?_⟩;simp only[go_sem,O,E];rw[Zo hq];exact⟨rfl,kS (T:=T) (by simp only[go_sem]) (Y _)⟩) (by
   rintro ⟨T,σ,nx⟩ ⟨O,E,J,S⟩;simp only at O E J S;exact⟨_,by simp only[go_sem,E,J,zl];rfl,by simp,_,_,_,rfl,kS (by simp only[go_sem]) S⟩) (by
   simp only[go_sem];exact .inl ⟨by simp only[go_sem],rfl⟩)
 obtain⟨ids,hs⟩:=kQ h2 6;simp only[go_sem,hs]
theorem adh{s:Structure}(h:SG s){k:Nat}(E:k<s.members.length):fn ZH conv ext 180 [.agg (cStructure s),I k]=some (.AP [I (vx s k),I (vy s k)]):=by
 have J:=h.mr k E;rw[jO E]at J;have hb:=Zd h k;have a0:=h.nm;have YK:=h.nj;have O:=Lc s.members k E;rw[jO E]at O;have f1:(k:Int)<(s.members.length:Int):=by omega
 have f2:=jD k;have f4:=Gg s.members;have f5:k*3+3<=s.members.length*3:=by omega
 have f6:=Lh s.members k E;have S:(s.members.flatMap cMember)[k*3+0]?=some (I (mem s k).a):=by rw[<- jO E];exact cO (c:=cMember) (fun _=>rfl) s.members k E (j:=0) (by decide)
 have m2:(s.members.flatMap cMember)[k*3+1]?=some (I (mem s k).b):=by rw[<- jO E];exact cO (c:=cMember) (fun _=>rfl) s.members k E (j:=1) (by decide)
 rw[uG]at S;unfold vx vy at hb⊢;generalize mem s k=mm at *;obtain⟨Y,mb,mk⟩:=mm;obtain⟨r1,r2,r3,r4,r5,r6⟩:=J;simp only at *;obtain⟨a,rfl⟩:∃a:Nat,Y=(a:Int):=⟨Y.toNat,by omega⟩;obtain⟨b,rfl⟩:∃b:Nat,mb=(b:Int):=⟨mb.toNat,by omega⟩;have ha:a<s.joints.length:=by omega
 have G:b<s.joints.length:=by omega
 have ea:XR s (a:Int)=s.joints[a]:=by unfold XR;rw[zF,zy ha];rfl
 have eb:XR s (b:Int)=s.joints[b]:=by unfold XR;rw[zF,zy G];rfl
 rw[ea,eb]at hb⊢;have g4:=EN s.joints;have g6:=JD s.joints a ha;have p1:=Hr s.joints a ha;have p2:=Hr s.joints b G;have p3:a*4+4<=s.joints.length*4:=by omega
 have p4:b*4+4<=s.joints.length*4:=by omega
 have w1:=ZQ (n:=s.joints[b].x-s.joints[a].x);have w2:=ZQ (n:=s.joints[b].y-s.joints[a].y);rw[mM,nG [.tmp 4,.tmp 5] [1,2] func180];simp only[go_sem,O,f1,f2,f4,f5,f6,S,m2,r1,r2,r3,r4,g4,g6,p1,p2,p3,p4,w1,w2]
def G2(v1 O:V)(σ:Store)(nx:Nat)(E G:List Int):Prop:=(E=[]/\v1= .nil/\G=[]/\O= .nil)\/∃b1 J,b1≠J/\b1<nx/\J<nx/\E≠[]/\G≠[]/\v1= .rs b1 0 E.length/\O= .rs J 0 G.length/\σ b1=some ⟨E.flatMap cI,1,true⟩/\σ J=some ⟨G.flatMap cI,1,true⟩
theorem G2.congr{v1 E:V}{σ σ':Store}{nx nx':Nat}{G J:List Int}(h:G2 v1 E σ nx G J)(hn:nx<=nx')(e:∀b,b<nx->σ' b=σ b):G2 v1 E σ' nx' G J:=by
 rcases h with h|⟨b1,O,S,Y,h3,h4,h5,h6,h7,h8,h9⟩
 .exact .inl h
 .exact .inr ⟨b1,O,S,by omega,by omega,h4,h5,h6,h7,(e b1 Y).trans h8,(e O h3).trans h9⟩
theorem lW{v1 Y:V}{σ:Store}{nx:Nat}{O S:List Int}(h:G2 v1 Y σ nx O S)(x y:Int)(h1:O.length<100000)(h2:S.length<100000) :
  ∃E σ2,Ad (upd σ nx (some ⟨[I x],1,true⟩)) (nx+1) 1 8 v1 [I x] 1=some (.rs (nx+1) 0 (O.length+1),E,nx+1+1)/\Ad (upd E (nx+1+1) (some ⟨[I y],1,true⟩)) (nx+1+1+1) 1 8 Y [I y] 1=some (.rs (nx+1+1+1) 0 (S.length+1),σ2,nx+1+1+1+1) /\
   G2 (.rs (nx+1) 0 (O.length+1)) (.rs (nx+1+1+1) 0 (S.length+1)) σ2 (nx+1+1+1+1) (O++[x]) (S++[y])/\∀b,b<nx->(∀o l,v1≠ .rs b o l)->(∀o l,Y≠ .rs b o l)->σ2 b=σ b:=by
 have g1:Cj cI 1 (fun _=>v1) σ nx 0 O:=by
  rcases h with ⟨J,G,-,-⟩|⟨b1,b2,J,G,q3,q4,q5,q6,q7,q8,q9⟩
  .exact .inl ⟨G,J⟩
  .exact .inr ⟨b1,q6,q4,q8,G⟩
 obtain⟨E,a1,a2,a3⟩:=ku (c:=cI) (s:=1) (bytes:=8) (fun _=>rfl) (fun _=>rfl) (by decide) g1 x h1 (by decide);have o1:∀b,b<nx->(∀o l,v1≠ .rs b o l)->E b=σ b:=fun b hb hv=>a3 b hb fun b' o l e e2=>hv o l (by rw[e2];exact e)
 have g2:Cj cI 1 (fun _=>Y) E (nx+1+1) 0 S:=by
  rcases h with ⟨-,-,J,G⟩|⟨b1,b2,J,G,q3,q4,q5,q6,q7,q8,q9⟩
  .exact .inl ⟨G,J⟩
  .exact .inr ⟨b2,q7,q5,(o1 b2 q3 fun o l e=>by rw[q6]at e;simp only[V.rs.injEq]at e;exact J e.1).trans q9,by omega⟩
 obtain⟨σ2,c1,c2,c3⟩:=ku (c:=cI) (s:=1) (bytes:=8) (fun _=>rfl) (fun _=>rfl) (by decide) g2 y h2 (by decide);refine⟨E,σ2,a1,c1,.inr ⟨nx+1,nx+1+1+1,by omega,by omega,by omega,by simp,by simp,by rw[zo];rfl,by rw[zo];rfl,?_,c2⟩,fun b hb a0 a4=>?_⟩
 .rw[c3 (nx+1) (by omega) fun b o l e e2=>?_];exact a2
  rcases h with ⟨-,-,-,G⟩|⟨b1,b2,J,G,q3,q4,q5,q6,q7,q8,q9⟩
  .rw[G]at e;cases e
  .rw[q7]at e;simp only[V.rs.injEq]at e;omega
 .rw[c3 b (by omega) fun b' o l e e2=>a4 o l (by rw[e2];exact e)]
  exact o1 b hb a0
theorem G2.ne{v1 E:V}{σ:Store}{nx:Nat}{O S:List Int}(h:G2 v1 E σ nx O S){b:Nat}(hb:nx<=b):(∀o l,v1≠ .rs b o l)/\∀o l,E≠ .rs b o l:=by
 rcases h with ⟨-,G,-,J⟩|⟨b1,b2,G,J,q3,q4,q5,Y,q7,q8,q9⟩
 .rw[G,J];exact⟨fun o l e=>(by cases e),fun o l e=>(by cases e)⟩
 .rw[Y,q7]
  exact⟨fun o l e=>by simp only[V.rs.injEq]at e;omega,fun o l e=>by simp only[V.rs.injEq]at e;omega⟩
theorem G2.len{v1 E:V}{σ:Store}{nx:Nat}{G J:List Int}(h:G2 v1 E σ nx G J)(d:Nat):(∃i,strip σ (d+1) v1=some (LI G,i))/\∃i,strip σ (d+1) E=some (LI J,i):=by
 rcases h with ⟨rfl,rfl,rfl,rfl⟩|⟨b1,Y,q1,q2,q3,q4,q5,rfl,rfl,O,S⟩
 .exact⟨⟨[],by rw[aT];rfl⟩,⟨[],by rw[aT];rfl⟩⟩
 .exact⟨⟨_,kJ O rfl d⟩,⟨_,kJ S rfl d⟩⟩
def FU(p:Int×Int):Int:=p.1
def Gs(p:Int×Int):Int:=p.2
theorem Yx{s:Structure}(h:SG s):fn ZH conv ext 146 [.agg (cStructure s)]=some (.AP [LI ((cols s s.members.length).map FU),LI ((cols s s.members.length).map Gs)]):=by
 have b5:=h.nm;rw[mM,nG [.tmp 2,.tmp 3] [] func146];simp only[go_sem];generalize hL:dI _ _=y;obtain⟨r,rfl,T',σ',nx',rfl,h2⟩:=pF hL s.members.length (fun k st=>st.T 11=LL cMember s.members/\st.T 12=I s.members.length/\st.T 13=I k/\G2 (st.T 4) (st.T 5) st.σ st.nx ((cols s k).map FU) ((cols s k).map Gs))
  (fun r=>∃T σ nx',r=(.exit 0,⟨T,σ,nx'⟩)/\G2 (T 4) (T 5) σ nx' ((cols s s.members.length).map FU) ((cols s s.members.length).map Gs)) (by
   clear hL;rintro k ⟨T,σ,nx⟩ a5 ⟨G,E,J,hg⟩;simp only at G E J hg;have f1:(k:Int)<(s.members.length:Int):=by omega
   have f2:=jD k;have f3:=ZQ (n:=(k:Int)+1);have f4:=Lc s.members k a5;have f5:=Gg s.members;have f6:k*3+3<=s.members.length*3:=by omega
   have f9:=Lh s.members k a5;have hr:=h.mr k a5;rw[jO a5]at f4 hr;have hle:=pO s k;have e1:((cols s k).map FU).length<=16:=by rw[zO];omega
   have e2:((cols s k).map Gs).length<=16:=by rw[zO];omega
   rw[pJ,wX,wX];generalize (cols s k).map FU=L1 at *;generalize (cols s k).map Gs=L2 at *;obtain⟨S,em⟩:∃S,S=mem s k:=⟨_,rfl⟩;rw[<- em]at f4 hr⊢;obtain⟨s0,O⟩:∃s0,s0=upd σ nx (some ⟨cMember S,0,true⟩):=⟨_,rfl⟩;have a7:G2 (T 4) (T 5) s0 (nx+1) L1 L2:=hg.congr (by omega) fun b hb=>by rw[O,Zk]
   have Y:s0 nx=some ⟨cMember S,0,true⟩:=by rw[O,Zi]
   unfold cMember at O;have a6:=hg.ne (zq nx);unfold FC
   by_cases k2:S.kind=2
   .have g1:(S.kind !=2)=false:=by simpa using k2
    have g2:(S.kind !=1)=true:=by simp[k2]
    obtain⟨a8,σ2,a1,a2,a3,a4⟩:=lW a7 (k:Int) (-1) (by omega) (by omega);refine .inl ⟨_,by simp only[go_sem,G,E,J,f1,f2,f3,f4,f5,f6,f9,<- O,Y,g1,g2,a1,a2];rfl,?_⟩;simp only[go_sem,G,E];rw[sS k2,sW (by omega)];exact⟨rfl,a3⟩
   .by_cases k1:S.kind=1
    .have g1:(S.kind !=2)=true:=by simpa using k2
     have g2:(S.kind !=1)=false:=by simpa using k1
     obtain⟨a8,σ2,a1,a2,a3,a4⟩:=lW a7 (k:Int) 1 (by omega) (by omega);have a0:σ2 nx=_:=(a4 nx (by omega) a6.1 a6.2).trans Y;refine .inl ⟨_,by simp only[go_sem,G,E,J,f1,f2,f3,f4,f5,f6,f9,<- O,Y,g1,g2,a1,a2,a0];rfl,?_⟩;simp only[go_sem,G,E];rw[sW k2,sS k1];exact⟨rfl,a3⟩
    .have g1:(S.kind !=2)=true:=by simpa using k2
     have g2:(S.kind !=1)=true:=by simpa using k1
     obtain⟨a8,σ2,a1,a2,a3,a4⟩:=lW a7 (k:Int) 1 (by omega) (by omega);have a0:σ2 nx=_:=(a4 nx (by omega) a6.1 a6.2).trans Y;obtain⟨b6,CB,b1,b2,b3,b4⟩:=lW a3 (k:Int) (-1) (by simp;omega) (by simp;omega);simp only[zo,yM]at b1 b2 b3;refine .inl ⟨_,by simp only[go_sem,G,E,J,f1,f2,f3,f4,f5,f6,f9,<- O,Y,g1,g2,a1,a2,a0,b1,b2];rfl,?_⟩;simp only[go_sem,G,E];rw[sW k2,sW k1];refine⟨rfl,?_⟩;have e3:∀(L:List Int) (f:Int×Int->Int) (x y:Int×Int),L++List.map f ([x]++[y])=L++[f x]++[f y]:=fun L f x y=>by simp
     rw[e3,e3];exact b3) (by
   rintro ⟨T,σ,nx⟩ ⟨G,E,J,hg⟩;simp only at G E J hg;refine⟨_,by simp only[go_sem,E,J,zl];rfl,by simp,_,_,_,rfl,?_⟩;simp only[go_sem];exact hg) (by
   simp only[go_sem];exact .inl ⟨rfl,rfl,rfl,rfl⟩)
 obtain⟨⟨i1,a9⟩,⟨i2,a0⟩⟩:=h2.len 5;simp only[go_sem,a9,a0]
def pB(l:List Int)(j:Int):List Int:=[-l.getD (2*j.toNat) 0,-l.getD (2*j.toNat+1) 0]
theorem adi(l:List Int)(E:List Int):(E.flatMap (pB l)).length=2*E.length:=by
 induction E with
 |nil=>rfl
 |cons j E G=>rw[zT,zo,G,zJ];show 2+_=_;omega
theorem am4{s:Structure}{i:Nat}(hi:i<(free s).length):∃q:Nat,(free s)[i]=(q:Int)/\q<s.joints.length:=by
 have hm:=zu hi;generalize (free s)[i]=z at hm;unfold free DT at hm;obtain⟨q,E,rfl⟩:=List.mem_map.mp hm;exact⟨q,rfl,List.mem_range.mp (List.mem_filter.mp E).1⟩
theorem aqT{s:Structure}(h:SG s){l:List Int}(hl:l.length=2*s.joints.length)(hb:∀x∈l,-100<=x/\x<=100):fn ZH conv ext 149 [.agg (cStructure s),LI l]=some (LI (KP s l)):=by
 have a4:=lZ s;have YK:=h.nj;have k1:=adg h;have a0:∀q,-100<=l.getD q 0/\l.getD q 0<=100:=fun q=>by
  rw[zx]
  by_cases hq:q<l.length
  .rw[zy hq];exact hb _ (zu hq)
  .rw[yZ (by omega)];simp
 rw[mM,nG [.tmp 4] [5] func149];unfold cStructure at k1⊢;simp only[go_sem,k1];generalize hL:dI _ _=y;obtain⟨r,rfl,T',σ',nx',rfl,h2⟩:=pF hL (free s).length (fun i st=>st.T 1=LI l/\st.T 10=LI (free s)/\st.T 11=I (free s).length/\st.T 12=I i/\((i=0/\st.T 5= .nil)\/∃b,0<i/\b<st.nx/\st.T 5= .rs b 0 (2*i)/\st.σ b=some ⟨(((free s).take i).flatMap (pB l)).flatMap cI,1,true⟩))
  (fun r=>∃T σ nx',r=(.exit 0,⟨T,σ,nx'⟩)/\(((free s).length=0/\T 5= .nil)\/∃b,0<(free s).length/\b<nx'/\T 5= .rs b 0 (2*(free s).length)/\σ b=some ⟨(((free s).take (free s).length).flatMap (pB l)).flatMap cI,1,true⟩)) (by
   clear hL;rintro i ⟨T,σ,nx⟩ hi ⟨O,G,E,J,hx⟩;simp only at O G E J hx;obtain⟨q,eq,hq⟩:=am4 hi;have f1:(i:Int)<((free s).length:Int):=by omega
   have f2:=jD i;have f3:=ZQ (n:=(i:Int)+1);have f4:=AZ (free s) i hi;have f5:=idx hi;rw[eq]at f5;have w1:=ZQ (n:=2*(q:Int));have w2:=ZQ (n:=2*(q:Int)+1);have e1:2*(q:Int)=((2*q:Nat):Int):=by omega
   have e2:((2*q:Nat):Int)+1=((2*q+1:Nat):Int):=by omega
   rw[e1]at w1 w2;rw[e2]at w2;have g1:((2*q:Nat):Int)<(l.length:Int):=by omega
   have g2:((2*q+1:Nat):Int)<(l.length:Int):=by omega
   have g3:(0:Int)<=((2*q:Nat):Int):=by omega
   have g4:(0:Int)<=((2*q+1:Nat):Int):=by omega
   have g5:=idx (xs:=l) (k:=2*q) (by omega);have g6:=idx (xs:=l) (k:=2*q+1) (by omega);rw[<- lK (by omega) 0]at g5 g6;have g7:=AZ l (2*q) (by omega);have b1:=a0 (2*q);have b2:=a0 (2*q+1);have a1:((free s).take (i+1)).flatMap (pB l)=((free s).take i).flatMap (pB l)++[0-l.getD (2*q) 0,0-l.getD (2*q+1) 0]:=by
    rw[yN,zy hi,eq,zU];simp[pB]
   generalize l.getD (2*q) 0=u at *;generalize l.getD (2*q+1) 0=v at *;have w3:=ZQ (n:=0-u);have w4:=ZQ (n:=0-v);have y1:nx<nx+1:=by omega
   have y2:2<=maxLen:=by unfold maxLen;decide
   rcases hx with ⟨h0,S⟩|⟨b,h0,h1,S,Y⟩
   .refine .inl ⟨_,by simp only[go_sem,O,G,E,J,S,f1,f2,f3,f4,f5,e1,e2,w1,w2,w3,w4,g1,g2,g3,g4,g5,g6,g7,y1,y2];rfl,?_⟩
    simp only[go_sem,O,G,E];refine⟨rfl,.inr ⟨nx+1,by omega,by omega,by rw[h0],?_⟩⟩;rw[Zi,a1,h0];rfl
   .have a2:=rH (σ:=restrict (upd σ nx (some ⟨[I (0-u),I (0-v)],1,true⟩)) [b,nx]) (nx:=nx+1) (bytes:=8) (b:=b) (len:=2*i) (m:=2) (row:=[I (0-u),I (0-v)]) (by rw[fJ,Zk];exact Y) (by show((((free s).take i).flatMap (pB l)).flatMap cI).length=_;rw[qR,adi,zh];omega) rfl (by decide) (by unfold maxLen;omega) (by omega) rfl
    have x1:b<nx+1:=by omega
    refine .inl ⟨_,by simp only[go_sem,O,G,E,J,S,f1,f2,f3,f4,f5,e1,e2,w1,w2,w3,w4,g1,g2,g3,g4,g5,g6,g7,y1,y2,a2,x1];rfl,?_⟩;simp only[go_sem,O,G,E];refine⟨rfl,.inr ⟨nx+1,by omega,by omega,by rw[show 2*(i+1)=2*i+2 by omega],?_⟩⟩;rw[Zi,a1,zU];rfl) (by
   rintro ⟨T,σ,nx⟩ ⟨O,G,E,J,hx⟩;simp only at O G E J hx;refine⟨_,by simp only[go_sem,E,J,zl];rfl,by simp,_,_,_,rfl,?_⟩;simp only[go_sem];exact hx) (by
   simp only[go_sem];exact .inl trivial)
 have e:KP s l=(free s).flatMap (pB l):=rfl;rw[zk (zq _)]at h2;rcases h2 with ⟨h0,S⟩|⟨b,h0,h1,S,Y⟩
 .have:free s=[]:=zZ h0
  rw[e,this]
  (simp only[go_sem,S])<;>rfl
 .have a3:=kJ Y (adi l (free s)) 6
  rw[<- e]at a3;simp only[go_sem,S,a3]
def G2l(lo:Nat)(v1 E:V)(σ:Store)(nx:Nat)(G J:List Int):Prop:=G2 v1 E σ nx G J/\(∀b o l,v1= .rs b o l->lo<=b)/\∀b o l,E= .rs b o l->lo<=b
theorem adk{v:V}{σ:Store}{nx:Nat}{G E:List Int}(h:Cj cI 1 (fun _=>v) σ nx 0 G)(h2:E≠[])(hl:G.length+E.length<100000) :
  ∃σ',Ad σ nx 1 8 v (E.flatMap cI) E.length=some (.rs nx 0 (G.length+E.length),σ',nx+1)/\Cj cI 1 (fun _=> .rs nx 0 (G.length+E.length)) σ' (nx+1) 0 (G++E)/\∀y,y<nx->(∀o l,v≠ .rs y o l)->σ' y=σ y:=by
 have O:E.length≠0:=fun e=>h2 (zZ e)
 have S:(E.flatMap cI).all pI=true:=by
  rw[uU];intro w hw;obtain⟨x,-,hx⟩:=List.mem_flatMap.mp hw;rw[List.mem_singleton.mp hx];rfl
 have Y:G++E≠[]:=fun e=>h2 (List.append_eq_nil_iff.mp e).2
 rcases h with ⟨J,rfl⟩|⟨b,J,a2,a1,a3⟩
 .have J:v= .nil:=J
  subst J;refine⟨upd σ nx (some ⟨E.flatMap cI,1,true⟩),by rw[rE,sW O,sS ⟨by unfold maxLen;omega,by omega⟩,wZ,yX];rfl,.inr ⟨nx,by rw[zo],Y,by rw[Zi,yK],by omega⟩,fun y hy _=>by rw[Zk]⟩
 .have J:v= .rs b 0 G.length:=J
  subst J;have a0:=rH (σ:=σ) (nx:=nx) (bytes:=8) (b:=b) (len:=G.length) (m:=E.length) (row:=E.flatMap cI) a1 (qR G) rfl O (by unfold maxLen;omega) (by omega) S;refine⟨_,a0,.inr ⟨nx,by rw[zo],Y,by rw[Zi,zU],by omega⟩,fun y hy hv=>?_⟩;rw[Zk,Zj _ _ fun e=>hv 0 G.length (by rw[e])]
def G7(s:Structure)(j:Int):List Int:=(List.range s.members.length).map (eX s j)++(List.range s.members.length).map (eY s j)
theorem ajB(s:Structure)(j:Int):(G7 s j).length=2*s.members.length:=by unfold G7;simp;omega
theorem RP(s:Structure):∀E:List Int,(E.flatMap (G7 s)).length=2*s.members.length*E.length
 |[]=>rfl
 |j :: E=>by rw[zT,zo,RP s E,ajB,zJ,Nat.mul_succ];omega
theorem aw5{s:Structure}(h:SG s)(hm:0<s.members.length):fn ZH conv ext 147 [.agg (cStructure s)]=some (LI ((free s).flatMap (G7 s))):=by
 have d1:=h.nm;have d2:=lZ s;have YK:=h.nj;have k1:=adg h;have kV:=fun k hk=>adh h (k:=k) hk
 rw[mM,nG [.tmp 2] [] func147];unfold cStructure at k1 kV⊢;simp only[go_sem,k1];generalize hL:dI _ _=y;obtain⟨r,rfl,T',σ',nx',rfl,h2⟩:=pF hL (free s).length (fun i st=>st.T 1= .rp 0 0/\st.T 14=LI (free s)/\st.T 15=I (free s).length/\st.T 16=I i/\0<st.nx/\st.σ 0=some ⟨[LL cJoint s.joints,LL cMember s.members],0,true⟩/\Cj cI 1 (fun _=>st.T 3) st.σ st.nx 0 (((free s).take i).flatMap (G7 s))/\∀o l,st.T 3≠ .rs 0 o l)
  (fun r=>∃T σ nx',r=(.exit 0,⟨T,σ,nx'⟩)/\Cj cI 1 (fun _=>T 3) σ nx' 0 ((free s).flatMap (G7 s))) (by
   clear hL;rintro i ⟨T,σ,nx⟩ hi ⟨t1,J,E,G,a9,s0,hg,b4⟩;simp only at t1 J E G a9 s0 hg b4;obtain⟨j,ej⟩:∃j,j=(free s)[i]:=⟨_,rfl⟩;have f1:(i:Int)<((free s).length:Int):=by omega
   have f2:=jD i;have f3:=ZQ (n:=(i:Int)+1);have f4:=AZ (free s) i hi;have f5:=idx hi;rw[<- ej]at f5;refine bF ?_
   conv=>
    enter [1,r,1,1]
    simp only[go_sem,t1,J,E,G,s0,f1,f2,f4,f5]
   generalize hL:dI _ _=z;obtain⟨x,rfl,T2,σ2,Ci,rfl,t1,J,E,G,t3,b3,FN,O⟩:=pF hL s.members.length (fun k st=>st.T 1= .rp 0 0/\st.T 14=LI (free s)/\st.T 15=I (free s).length/\st.T 16=I i/\st.T 3=T 3/\st.T 5=I j/\st.T 23=LL cMember s.members/\st.T 24=I s.members.length/\st.T 25=I k/\nx<=st.nx/\(∀y,y<nx->st.σ y=σ y)/\G2l nx (st.T 6) (st.T 7) st.σ st.nx ((List.range k).map (eX s j)) ((List.range k).map (eY s j)))
    (fun x=>∃T2 σ2 Ci,x=(.exit 2,⟨T2,σ2,Ci⟩)/\T2 1= .rp 0 0/\T2 14=LI (free s)/\T2 15=I (free s).length/\T2 16=I i/\T2 3=T 3/\nx<=Ci/\(∀y,y<nx->σ2 y=σ y)/\G2l nx (T2 6) (T2 7) σ2 Ci ((List.range s.members.length).map (eX s j)) ((List.range s.members.length).map (eY s j))) (by
     clear hL;rintro k ⟨T2,σ2,Ci⟩ hk ⟨t1,J,E,G,t3,t5,a0,S,a6,b3,FN,O,a7,a8⟩;simp only at t1 J E G t3 t5 a0 S a6 b3 FN O a7 a8;have g1:(k:Int)<(s.members.length:Int):=by omega
     have g2:=jD k;have g3:=ZQ (n:=(k:Int)+1);have g4:=Lc s.members k hk;have g5:=Gg s.members;have g6:k*3+3<=s.members.length*3:=by omega
     have g9:=Lh s.members k hk;rw[jO hk]at g4;have kv:=kV k hk;have d3:=Zd h k;have b9:σ2 0=_:=(FN 0 a9).trans s0;obtain⟨m1,em⟩:∃m1,m1=mem s k:=⟨_,rfl⟩;rw[<- em]at g4;obtain⟨s3,a5⟩:∃s3,s3=upd σ2 Ci (some ⟨cMember m1,0,true⟩):=⟨_,rfl⟩;have c0:G2 (T2 6) (T2 7) s3 (Ci+1) ((List.range k).map (eX s j)) ((List.range k).map (eY s j)):=O.congr (by omega) fun b hb=>by rw[a5,Zk]
     have b5:s3 Ci=some ⟨cMember m1,0,true⟩:=by rw[a5,Zi]
     have b6:s3 0=_:=(by rw[a5,Zk]:s3 0=σ2 0).trans b9;have Fp:∀y,y<nx->s3 y=σ y:=fun y hy=>by rw[a5,Zk];exact FN y hy
     obtain⟨CB,CY,a1,a2,a3,a4⟩:=lW c0 (eX s j k) (eY s j k) (by simp;omega) (by simp;omega);have eR:∀f:Nat->Int,(List.range (k+1)).map f=(List.range k).map f++[f k]:=fun f=>by rw[wY,wX];rfl
     have hl:((List.range k).map (eX s j)).length=k:=by simp
     have c4:((List.range k).map (eY s j)).length=k:=by simp
     rw[hl]at a1 a3;rw[c4]at a2 a3;have fin:(∀y,y<nx->CY y=σ y):=fun y hy=>(a4 y (by omega) (fun o l e=>by have:=a7 _ _ _ e;omega) fun o l e=>by have:=a8 _ _ _ e;omega).trans (Fp y hy)
     have done:G2l nx (.rs (Ci+1+1) 0 (k+1)) (.rs (Ci+1+1+1+1) 0 (k+1)) CY (Ci+1+1+1+1+1) ((List.range (k+1)).map (eX s j)) ((List.range (k+1)).map (eY s j)):=by
      rw[eR,eR];exact⟨a3,fun b o l e=>by simp only[V.rs.injEq]at e;omega,fun b o l e=>by simp only[V.rs.injEq]at e;omega⟩
     unfold cMember at a5
     by_cases ja:j=m1.a
     .have c1:(j==m1.a)=true:=beq_iff_eq.mpr ja
      have ex:eX s j k=vx s k:=by unfold eX;rw[sS (by rw[<- em];exact ja)]
      have ey:eY s j k=vy s k:=by unfold eY;rw[sS (by rw[<- em];exact ja)]
      rw[ex]at a1;rw[ey]at a2;refine .inl ⟨_,by simp only[go_sem,t1,J,E,G,t3,t5,a0,S,a6,g1,g2,g3,g4,g5,g6,g9,<- a5,b5,b6,kv,c1,a1,a2];rfl,?_⟩;simp only[go_sem,t1,J,E,G,t3,t5,a0,S];rw[<- wY];exact⟨rfl,by omega,fin,done⟩
     .have c1:(j==m1.a)=false:=beq_false_of_ne ja
      by_cases jb:j=m1.b
      .have c2:(j==m1.b)=true:=beq_iff_eq.mpr jb
       have ex:eX s j k=0-vx s k:=by unfold eX;rw[sW (by rw[<- em];exact ja),sS (by rw[<- em];exact jb)];omega
       have ey:eY s j k=0-vy s k:=by unfold eY;rw[sW (by rw[<- em];exact ja),sS (by rw[<- em];exact jb)];omega
       have w1:=ZQ (n:=0-vx s k);have w2:=ZQ (n:=0-vy s k);rw[ex]at a1;rw[ey]at a2;refine .inl ⟨_,by simp only[go_sem,t1,J,E,G,t3,t5,a0,S,a6,g1,g2,g3,g4,g5,g6,g9,<- a5,b5,b6,kv,c1,c2,w1,w2,a1,a2];rfl,?_⟩;simp only[go_sem,t1,J,E,G,t3,t5,a0,S];rw[<- wY];exact⟨rfl,by omega,fin,done⟩
      .have c2:(j==m1.b)=false:=beq_false_of_ne jb
       have ex:eX s j k=0:=by unfold eX;rw[sW (by rw[<- em];exact ja),sW (by rw[<- em];exact jb)]
       have ey:eY s j k=0:=by unfold eY;rw[sW (by rw[<- em];exact ja),sW (by rw[<- em];exact jb)]
       rw[ex]at a1;rw[ey]at a2;refine .inl ⟨_,by simp only[go_sem,t1,J,E,G,t3,t5,a0,S,a6,g1,g2,g3,g4,g5,g6,g9,<- a5,b5,b6,kv,c1,c2,a1,a2];rfl,?_⟩;simp only[go_sem,t1,J,E,G,t3,t5,a0,S];rw[<- wY];exact⟨rfl,by omega,fin,done⟩) (by
     clear hL;rintro ⟨T2,σ2,Ci⟩ ⟨t1,J,E,G,t3,t5,a0,S,a6,b3,FN,O⟩;simp only at t1 J E G t3 t5 a0 S a6 b3 FN O;refine⟨_,by simp only[go_sem,S,a6,zl];rfl,by simp,_,_,_,rfl,?_⟩;simp only[go_sem,t1,J,E,G,t3];exact⟨b3,FN,O⟩) (by
     simp only[go_sem,t1,J,E,G];exact⟨fun _ _=>trivial,.inl ⟨rfl,rfl,rfl,rfl⟩,fun _ _ _ e=>(by cases e),fun _ _ _ e=>(by cases e)⟩)
   clear hL;obtain⟨O,a7,a8⟩:=O;obtain⟨X,b7⟩:∃X,X=(List.range s.members.length).map (eX s j):=⟨_,rfl⟩;obtain⟨Y,b8⟩:∃Y,Y=(List.range s.members.length).map (eY s j):=⟨_,rfl⟩;have lX:X.length=s.members.length:=by rw[b7];simp
   have lY:Y.length=s.members.length:=by rw[b8];simp
   rw[<- b7,<- b8]at O;rcases O with ⟨q1,-⟩|⟨b1,b2,q1,q2,q3,q4,q5,q6,q7,q8,q9⟩
   .rw[q1]at lX;simp at lX;omega
   have d4:=a7 _ _ _ q6;have c5:=a8 _ _ _ q7;obtain⟨L,eL⟩:∃L,L=((free s).take i).flatMap (G7 s):=⟨_,rfl⟩;have d5:L.length<=100:=by
    rw[eL,RP,zh];have:2*s.members.length*min i (free s).length<=16*6:=yE (by omega) (by omega);omega
   rw[<- eL]at hg;have c6:Cj cI 1 (fun _=>T 3) σ2 Ci 0 L:=by
    rcases hg with h|⟨b,p1,p2,p3,p4⟩
    .exact .inl h
    .exact .inr ⟨b,p1,p2,(FN b p4).trans p3,by omega⟩
   have hv:∀y,nx<=y->∀o l,T 3≠ .rs y o l:=fun y hy o l e=>by
    have:=kZ hg (b:=y) (o:=o) (l:=l) e;omega
   obtain⟨c7,a1,a2,a3⟩:=adk c6 q4 (by omega);obtain⟨CB,c1,c2,c3⟩:=adk a2 q5 (by rw[zo];omega);have s3:c7 b2=_:=(a3 b2 q3 (hv b2 c5)).trans q9;have c8:CB 0=some ⟨[LL cJoint s.joints,LL cMember s.members],0,true⟩:=by
    rw[c3 0 (by omega) fun o l e=>by simp only[V.rs.injEq]at e;omega,a3 0 (by omega) b4,FN 0 a9];exact s0
   simp only[zo,lX,lY]at a1 c1 c2 q6 q7;have eT:((free s).take (i+1)).flatMap (G7 s)=L++X++Y:=by
    rw[yN,zy hi,zU,<- eL,<- ej,z_];show L++(G7 s j++[])=_;unfold G7;rw[<- b7,<- b8,zK]
   have tX:(X.flatMap cI).take s.members.length=X.flatMap cI:=zk (by rw[qR];omega);have tY:(Y.flatMap cI).take s.members.length=Y.flatMap cI:=zk (by rw[qR];omega);have c9:s.members.length<=X.length:=by omega
   have d0:s.members.length<=Y.length:=by omega
   refine⟨_,by simp only[go_sem,G,f3,t3,q6,q7,q8,tX,tY,c9,d0,a1,s3,c1];rfl,.inl ⟨_,rfl,?_⟩⟩;simp only[go_sem,t1,J,E];rw[eT];exact⟨rfl,by omega,c8,c2,fun o l e=>by simp only[V.rs.injEq]at e;omega⟩) (by
   rintro ⟨T,σ,nx⟩ ⟨t1,J,E,G,a9,s0,hg,b4⟩;simp only at t1 J E G a9 s0 hg b4;refine⟨_,by simp only[go_sem,E,G,zl];rfl,by simp,_,_,_,rfl,?_⟩;simp only[go_sem];rw[zk (zq _)]at hg;exact hg) (by
   simp only[go_sem];exact⟨.inl ⟨rfl,rfl⟩,fun _ _=>trivial⟩)
 obtain⟨ids,hs⟩:=kX (c:=cI) (s:=1) (fun _=>rfl) 6 (fun x=>by rw[au,aQ,aZ];rfl) h2;simp only[go_sem,hs]
theorem abR(s:Structure)(E:List Int):E.flatMap (G7 s)=(E.flatMap (EF s)).flatMap id:=by
 induction E with
 |nil=>rfl
 |cons j E G=>
  rw[zT,zT,zU,G];show G7 s j++_=(((List.range s.members.length).map (eX s j))++(((List.range s.members.length).map (eY s j))++[]))++_;rw[zK];rfl
theorem aqU{s:Structure}(h:SG s)(hm:s.members=[]):fn ZH conv ext 147 [.agg (cStructure s)]=some (LI []):=by
 have a0:=lZ s;have YK:=h.nj;have Y:=adg h;rw[mM,nG [.tmp 2] [] func147];unfold cStructure at Y⊢;rw[hm]at Y⊢;have Y:fn ZH conv ext 148 [.agg [LL cJoint s.joints,.ts [] 0]]=some (LI (free s)):=Y
 simp only[go_sem,Y];generalize hL:dI _ _=y;obtain⟨r,rfl,T',σ',nx',rfl,h2⟩:=pF hL (free s).length (fun i st=>st.T 1= .rp 0 0/\st.T 14=LI (free s)/\st.T 15=I (free s).length/\st.T 16=I i/\st.T 3= .nil/\0<st.nx/\st.σ 0=some ⟨[LL cJoint s.joints,.ts [] 0],0,true⟩)
  (fun r=>∃T σ nx',r=(.exit 0,⟨T,σ,nx'⟩)/\T 3= .nil) (by
   clear hL;rintro i ⟨T,σ,nx⟩ hi ⟨t1,J,G,E,S,O,s0⟩;simp only at t1 J G E S O s0;have f1:(i:Int)<((free s).length:Int):=by omega
   have f2:=jD i;have f3:=ZQ (n:=(i:Int)+1);have f4:=AZ (free s) i hi;have f5:=idx hi;refine bF ?_
   conv=>
    enter [1,r,1,1]
    simp only[go_sem,t1,J,G,E,S,s0,f1,f2,f4,f5]
   generalize hL:dI _ _=z;obtain rfl:=jW hL (by simp only[go_sem];rfl) (by simp);refine⟨_,by simp only[go_sem,S,E,f3];rfl,.inl ⟨_,rfl,?_⟩⟩;simp only[go_sem,t1,J,G,E,S];exact⟨rfl,O,s0⟩) (by
   rintro ⟨T,σ,nx⟩ ⟨t1,J,G,E,S,O,s0⟩;simp only at t1 J G E S O s0;refine⟨_,by simp only[go_sem,G,E,zl];rfl,by simp,_,_,_,rfl,?_⟩;simp only[go_sem,S]) (by
   simp only[go_sem];rfl)
 (simp only[go_sem,h2])<;>rfl
theorem aqV{s:Structure}(h:SG s):fn ZH conv ext 147 [.agg (cStructure s)]=some (LI ((free s).flatMap (G7 s))):=by
 by_cases hm:s.members=[]
 .have e:(free s).flatMap (G7 s)=[]:=by
   rw[List.flatMap_eq_nil_iff];intro j _;unfold G7;rw[hm];rfl
  rw[e];exact aqU h hm
 .exact aw5 h (List.length_pos_iff.mpr hm)
theorem RQ{C:Nat}:∀ {xs:List (List Int)} {i c:Nat},(∀x∈xs,x.length=C)->(hi:i<xs.length)->c<C->(xs.flatMap id)[i*C+c]?=(xs[i])[c]?
 |[],i,c,_,hi,_=>absurd hi (zW _)
 |x :: xs,0,c,hx,_,hc=>by
  rw[zT,uq,yX,zV (by rw[id,hx x zM];exact hc)];rfl
 |x :: xs,i+1,c,hx,hi,hc=>by
  have E:=hx x zM;rw[zT,zQ (by rw[id,E,xq];omega),id,E,show(i+1)*C+c-C=i*C+c by rw[xq];omega,RQ (fun y G=>hx y (zY _ G)) (by simpa using hi) hc];rfl
def am5(σ:Store)(nx:Nat)(G:List Int)(R C:Nat)(B:V)(p:Nat):Prop:=(p=0/\σ 3=some ⟨[I R,I C,.nil,B,.rs 2 0 C],0,true⟩)\/∃E,0<p/\3<E/\E<nx/\σ 3=some ⟨[I R,I C,.rs E 0 p,B,.rs 2 0 C],0,true⟩/\σ E=some ⟨(G.take p).flatMap cI,1,true⟩
theorem ajC{s:Structure}(h:SG s){l:List Int}(hl:l.length=2*s.joints.length)(hb:∀x∈l,-100<=x/\x<=100) :
  fn ZH conv ext 120 [.agg (cStructure s),LI l]=some (.agg (CZ (MB s) (DN s) (Vb s) (KP s l) (List.replicate (DN s) 0))):=by
 have c5:=h.nm;have e7:=lZ s;have YK:=h.nj;have e9:=pO s s.members.length;have k1:=Yx h;have k2:=aqV h;have k3:=adg h;have k4:=aqT h hl hb;have c6:=J3 s;obtain⟨E,hE⟩:∃E,E=C_ s (free s).length:=⟨_,rfl⟩;obtain⟨K,hK⟩:∃K,K=cols s s.members.length:=⟨_,rfl⟩;obtain⟨RF,a9⟩:∃RF,RF=(free s).flatMap (G7 s):=⟨_,rfl⟩;obtain⟨R,eR⟩:∃R,R=MB s:=⟨_,rfl⟩;obtain⟨C,eC⟩:∃C,C=DN s:=⟨_,rfl⟩;have hR:E.length=R:=by rw[hE,eR];exact c6
 have hC:K.length=C:=by rw[hK,eC];rfl
 have c7:R<=12:=by rw[eR];unfold MB;omega
 have c8:C<=16:=by rw[<- hC,hK];omega
 have b2:(Vb s).length=R*C:=by rw[eR,eC];exact Me s
 have f4:R*C<=12*16:=yE c7 c8;rw[<- hK]at k1;rw[<- a9]at k2;rw[<- eR,<- eC];have k1:fn ZH conv ext 146 [.agg (cStructure s)]=some (.AP [.ts ((K.map FU).flatMap cI) C,LI (K.map Gs)]):=by rw[k1,<- hC];show some (V.AP [V.ts _ (K.map FU).length,_])=_;rw[zO]
 have f0:=jD C;have f5:8*(C:Int)<=281474976710656:=by omega
 have f6:(C:Int)<=9223372036854775807:=by omega
 have e2:2*((free s).length:Int)=(R:Int):=by rw[eR];unfold MB;omega
 have w2:=ZQ (n:=(R:Int));rw[mM,nG [.cell 4 152] [4,11] func120];unfold cStructure at k1 k2 k3 k4⊢;simp only[go_sem,k1,k2,k3,k4,e2,w2,f0,f5,f6];generalize hL:dI _ _=y;obtain⟨FA,a3⟩:∃FA,FA=Vb s:=⟨_,rfl⟩;rw[<- a3]at b2;have c9:RF=E.flatMap id:=by
  rw[a9,hE,abR];unfold C_;rw[yg]
 have b3:∀r∈E,r.length=s.members.length:=by rw[hE];exact fun r hr=>Rj hr
 have d0:∀i c (hi:i<R) (hc:c<C) (hq:i*C+c<FA.length),FA[i*C+c]=(K[c]'(by omega)).2*(E[i]'(by omega)).getD (K[c]'(by omega)).1.toNat 0:=fun i c hi hc hq=>by
  have:=mQ (fun r:List Int=>K.map fun p=>p.2*r.getD p.1.toNat 0) (C:=C) (fun _=>by rw[zO];exact hC) E (i:=i) (c:=c) (by omega) hc;rw[yc,zy (l:=K) (i:=c) (by omega)]at this;have e2:FA=E.flatMap fun r=>K.map fun p=>p.2*r.getD p.1.toNat 0:=by rw[a3,hE,hK];rfl
  rw[<- e2,zy hq]at this;exact Option.some.inj this
 have d1:∀x∈FA,-1000<=x/\x<=1000:=by rw[a3];exact abv h
 obtain⟨x,rfl,T1,a5,nI,rfl,S,O,f7,d2,d3,d4⟩:=pF hL R (fun i st=>st.T 4= .rp 1 0/\st.T 5= .ts ((K.map FU).flatMap cI) C/\st.T 6=LI (K.map Gs)/\st.T 7=I s.members.length/\st.T 8=LI RF/\st.T 9= .rp 3 0/\st.T 10=I i/\3<st.nx/\st.σ 1=some ⟨[I 0,I 0,.nil,.nil,.nil],0,true⟩/\st.σ 2=some ⟨(List.replicate C 0).flatMap cI,1,true⟩/\am5 st.σ st.nx FA R C (LI (KP s l)) (i*C))
  (fun x=>∃T σ nx,x=(.exit 0,⟨T,σ,nx⟩)/\T 4= .rp 1 0/\T 9= .rp 3 0/\3<nx/\σ 1=some ⟨[I 0,I 0,.nil,.nil,.nil],0,true⟩/\σ 2=some ⟨(List.replicate C 0).flatMap cI,1,true⟩/\am5 σ nx FA R C (LI (KP s l)) (R*C)) (by
   clear hL;rintro i ⟨T,σ,nx⟩ hi ⟨S,t5,t6,t7,t8,O,G,J,s1,s2,hA⟩;simp only at S t5 t6 t7 t8 O G J s1 s2 hA;have f1:(i:Int)<(R:Int):=by omega
   have f2:=jD i;have f3:=ZQ (n:=(i:Int)+1);obtain⟨vA,a2⟩:∃vA,σ 3=some ⟨[I R,I C,vA,LI (KP s l),.rs 2 0 C],0,true⟩:=by
    rcases hA with ⟨-,h3⟩|⟨ba,-,-,-,h3,-⟩<;>exact⟨_,h3⟩
   refine bF ?_
   conv=>
    enter [1,r,1,1]
    simp only[go_sem,t5,O,G,a2,f1]
   generalize hL:dI _ _=z;obtain⟨x,rfl,T2,σ2,Ci,rfl,S,t5,t6,t7,t8,O,G,d5,s1,s2,b4⟩:=pF hL C (fun c st=>st.T 4= .rp 1 0/\st.T 5= .ts ((K.map FU).flatMap cI) C/\st.T 6=LI (K.map Gs)/\st.T 7=I s.members.length/\st.T 8=LI RF/\st.T 9= .rp 3 0/\st.T 10=I i/\st.T 42= .ts ((K.map FU).flatMap cI) C/\st.T 43=I C/\st.T 44=I c/\3<st.nx/\st.σ 1=some ⟨[I 0,I 0,.nil,.nil,.nil],0,true⟩/\st.σ 2=some ⟨(List.replicate C 0).flatMap cI,1,true⟩/\am5 st.σ st.nx FA R C (LI (KP s l)) (i*C+c))
    (fun x=>∃T σ nx,x=(.exit 2,⟨T,σ,nx⟩)/\T 4= .rp 1 0/\T 5= .ts ((K.map FU).flatMap cI) C/\T 6=LI (K.map Gs)/\T 7=I s.members.length/\T 8=LI RF/\T 9= .rp 3 0/\T 10=I i/\3<nx/\σ 1=some ⟨[I 0,I 0,.nil,.nil,.nil],0,true⟩/\σ 2=some ⟨(List.replicate C 0).flatMap cI,1,true⟩/\am5 σ nx FA R C (LI (KP s l)) (i*C+C)) (by
     clear hL;rintro c ⟨T,σ,nx⟩ hc ⟨S,t5,t6,t7,t8,O,G,a0,Y,a1,J,s1,s2,hA⟩;simp only at S t5 t6 t7 t8 O G a0 Y a1 J s1 s2 hA;have d6:K[c]'(by omega)∈cols s s.members.length:=by rw[<- hK];exact zu _
     obtain⟨⟨q,b5,d7⟩,f8⟩:=pK d6;obtain⟨u,eu⟩:∃u,u=(K[c]'(by omega)).2:=⟨_,rfl⟩;have a6:i*C+c<FA.length:=by
      have:(i+1)*C<=R*C:=zC _ (by omega);rw[xq]at this;omega
     obtain⟨e,ee⟩:∃e,e=(E[i]'(by omega)).getD q 0:=⟨_,rfl⟩;have a7:=d0 i c hi hc a6;rw[b5,zF,<- ee,<- eu]at a7;have d8:=d1 _ (zu a6);rw[a7]at d8;have g1:(c:Int)<(C:Int):=by omega
     have g2:=jD c;have g3:=ZQ (n:=(c:Int)+1);have g4:=idx (xs:=K.map FU) (k:=c) (by rw[zO];omega);rw[yB,show FU (K[c]'(by omega))=(q:Int)from b5]at g4;have g5:=idx (xs:=K.map Gs) (k:=c) (by rw[zO];omega);rw[yB,show Gs (K[c]'(by omega))=u from eu.symm]at g5;have g6:=AZ (K.map FU) c (by rw[zO];omega);have g7:=AZ (K.map Gs) c (by rw[zO];omega);have g8:(c:Int)<((K.map Gs).length:Int):=by rw[zO];omega
     have f9:i*s.members.length<=12*8:=yE (by omega) c5;have e3:(i:Int)*(s.members.length:Int)=((i*s.members.length:Nat):Int):=by push_cast;rfl
     have w1:=ZQ (n:=((i*s.members.length:Nat):Int));have e4:((i*s.members.length:Nat):Int)+(q:Int)=((i*s.members.length+q:Nat):Int):=by push_cast;rfl
     have b6:=ZQ (n:=((i*s.members.length+q:Nat):Int));have w3:=ZQ (n:=u*e);have g0:=b3 _ (zu (l:=E) (n:=i) (by omega));have a4:RF[i*s.members.length+q]?=some e:=by
      rw[c9,RQ b3 (by omega) d7,ee,zx,zy (by omega)];rfl
     have a8:i*s.members.length+q<RF.length:=by
      refine zf fun hn=>?_
      rw[yZ (by omega)]at a4;cases a4
     have g9:=idx (xs:=RF) a8;rw[zy a8]at a4;rw[Option.some.inj a4]at g9;have b7:((i*s.members.length+q:Nat):Int)<(RF.length:Int):=by omega
     have b8:(0:Int)<=((i*s.members.length+q:Nat):Int):=by omega
     have b9:=AZ RF _ a8;have c0:FA.take (i*C+(c+1))=FA.take (i*C+c)++[u*e]:=by
      rw[<- wG,yN,zy a6,a7];rfl
     have h5:i*C+c<=200:=by omega
     have y1:3<nx:=by omega
     have y2:¬3=nx:=by omega
     have y3:(3==nx)=false:=by rw[sQ];omega
     have y4:(nx==3)=false:=by rw[sQ];omega
     have y5:3<nx+1:=by omega
     have y6:¬3=nx+1:=by omega
     have y7:(3==nx+1)=false:=by rw[sQ];omega
     have y8:(nx+1==3)=false:=by rw[sQ];omega
     have y9:3<nx+1+1:=by omega
     have Yn:¬3=nx+1+1:=by omega
     have Yo:(3==nx+1+1)=false:=by rw[sQ];omega
     have Yp:(nx+1+1==3)=false:=by rw[sQ];omega
     have c2:nx<nx+1:=by omega
     have Yq:nx+1<nx+1+1:=by omega
     rcases hA with ⟨h0,h3⟩|⟨ba,h0,h1,h2,h3,h4⟩
     .refine .inl ⟨_,by simp only[go_sem,S,t5,t6,t7,t8,O,G,a0,Y,a1,h3,g1,g2,g3,g4,g5,g6,g7,g8,e3,w1,e4,b6,w3,g9,b7,b8,b9,y1,y2,y3,y4,y5,y6,y7,y8,y9,Yn,Yo,Yp,c2,Yq];rfl,?_⟩
      simp only[go_sem,S,t5,t6,t7,t8,O,G,a0,Y];refine⟨rfl,by omega,?_,?_,.inr ⟨nx+1,by omega,by omega,by omega,?_,?_⟩⟩
      .repeat rw[Zk]
       exact s1
      .repeat rw[Zk]
       exact s2
      .rw[Zi,show i*C+(c+1)=1 by omega]
      .rw[Zk,Zi,c0,h0];rfl
     .have c3:=rH (σ:=restrict (upd σ nx (some ⟨[I (u*e)],1,true⟩)) [ba,nx]) (nx:=nx+1) (bytes:=8) (b:=ba) (len:=i*C+c) (m:=1) (row:=[I (u*e)]) (by rw[fJ,Zk];exact h4) (by show((FA.take (i*C+c)).flatMap cI).length=_;rw[qR,zh];omega) rfl (by decide) (by unfold maxLen;omega) (by omega) rfl
      have x1:ba<nx+1:=by omega
      have x2:(3==ba)=false:=by rw[sQ];omega
      have x3:(ba==3)=false:=by rw[sQ];omega
      have x4:¬3=ba:=by omega
      refine .inl ⟨_,by simp only[go_sem,S,t5,t6,t7,t8,O,G,a0,Y,a1,h3,g1,g2,g3,g4,g5,g6,g7,g8,e3,w1,e4,b6,w3,g9,b7,b8,b9,c3,x1,x2,x3,x4,y1,y2,y3,y4,y5,y6,y7,y8,y9,Yn,Yo,Yp,c2,Yq];rfl,?_⟩;simp only[go_sem,S,t5,t6,t7,t8,O,G,a0,Y];refine⟨rfl,by omega,?_,?_,.inr ⟨nx+1,by omega,by omega,by omega,?_,?_⟩⟩
      .repeat rw[Zk]
       exact s1
      .repeat rw[Zk]
       exact s2
      .rw[Zi];rfl
      .rw[Zk,Zi,c0,zU];rfl) (by
     clear hL;rintro ⟨T,σ,nx⟩ ⟨S,t5,t6,t7,t8,O,G,a0,Y,a1,J,s1,s2,hA⟩;simp only at S t5 t6 t7 t8 O G a0 Y a1 J s1 s2 hA;refine⟨_,by simp only[go_sem,Y,a1,zl];rfl,by simp,_,_,_,rfl,?_⟩;simp only[go_sem,S,t5,t6,t7,t8,O,G];exact⟨J,s1,s2,hA⟩) (by
     simp only[go_sem,S,t5,t6,t7,t8,O,G];exact⟨J,s1,s2,hA⟩)
   refine⟨_,by simp only[go_sem,G,f3];rfl,.inl ⟨_,rfl,?_⟩⟩;simp only[go_sem,S,t5,t6,t7,t8,O];rw[<- xq]at b4;exact⟨rfl,d5,s1,s2,b4⟩) (by
   clear hL;rintro ⟨T,σ,nx⟩ ⟨S,t5,t6,t7,t8,O,G,J,s1,s2,hA⟩;simp only at S t5 t6 t7 t8 O G J s1 s2 hA;obtain⟨vA,a2⟩:∃vA,σ 3=some ⟨[I R,I C,vA,LI (KP s l),.rs 2 0 C],0,true⟩:=by
    rcases hA with ⟨-,h3⟩|⟨ba,-,-,-,h3,-⟩<;>exact⟨_,h3⟩
   refine⟨_,by simp only[go_sem,O,G,a2,zl];rfl,by simp,_,_,_,rfl,?_⟩;simp only[go_sem,S,O];exact⟨J,s1,s2,hA⟩) (by
   simp only[go_sem];refine⟨by rw[<- fO],.inl ⟨rfl,by rw[Zi]⟩⟩)
 clear hL;obtain⟨vA,a2,d9,e0⟩:∃vA,a5 3=some ⟨[I R,I C,vA,LI (KP s l),.rs 2 0 C],0,true⟩/\pI vA=true/\∀σ',(∀y,y≠1->σ' y=a5 y)->∃ids,strip σ' 6 vA=some (LI FA,ids):=by
  rcases d4 with ⟨h0,h3⟩|⟨ba,h0,h1,h2,h3,h4⟩
  .have:FA=[]:=zZ (by omega)
   exact⟨_,h3,rfl,fun σ' _=>⟨[],by rw[aT,this];rfl⟩⟩
  .rw[zk (by omega)]at h4
   exact⟨_,h3,rfl,fun σ' e1=>⟨_,kJ ((e1 ba (by omega)).trans h4) b2 5⟩⟩
 obtain⟨Yw,e8⟩:∃Yw,Yw=upd a5 1 (some ⟨[I R,I C,vA,LI (KP s l),.rs 2 0 C],0,true⟩):=⟨_,rfl⟩;have e5:Yw 1=some ⟨[I R,I C,vA,LI (KP s l),.rs 2 0 C],0,true⟩:=by rw[e8,Zi]
 obtain⟨i1,c4⟩:=e0 Yw fun y hy=>by rw[e8,Zj _ _ hy]
 have e6:=kJ (σ:=Yw) (b:=2) (xs:=List.replicate C 0) (by rw[e8,Zj _ _ (by decide)];exact d3) (n:=C) (by simp) 5;rw[a3]at c4;simp only[go_sem,S,O,a2,d2,d9,<- e8,e5,c4,e6,au]
 try rfl
end Go.Proofs.YtehdaknhabeiaaaGreat
namespace Go.Proofs.YtehdaknhabeiaaaGreat
open Go Go.TV Go.Lp
theorem aAe{s:Structure}(h:SG s){l:List Int}(hb:∀x∈l,-100<=x/\x<=100):PrS (Vb s) (KP s l) (List.replicate (DN s) 0) (MB s) (DN s):=by
 have E:=lZ s;have S:=h.nj;have G:=h.nm;have J:=pO s s.members.length;refine⟨Me s,by rw[UE];rfl,by simp,?_,?_,abv h,aiN hb,fun x O=>?_⟩
 .unfold MB;omega
 .unfold DN;omega
 .rw[(List.mem_replicate.mp O).2];decide
theorem am7{s:Structure}(h:SG s){l:List Int}(hb:∀x∈l,-100<=x/\x<=100) :
  ∃r,fn ZH qI Af 119 [.agg (CZ (MB s) (DN s) (Vb s) (KP s l) (List.replicate (DN s) 0))]=some r/\aw0 (Ji s l) r:=aqQ (aAe h hb)
attribute [-go_sem] rD
theorem ajD{a b:Nat}(x y:Rat)(G:Ln a x)(J:Ln b y)(E:a+b<=23):fn ZH conv ext 152 [.agg (cQ x),.agg (cQ y)]=some (.agg (cQ (x+y))):=by
 have o1:=UL x (G.mono (by omega));have O:=UL y (J.mono (by omega));have S:=ac_ x y G J E;unfold cQ at *;rw[mM,nG [.cell 4 147] [] func152];simp only[go_sem,o1,O,S]
theorem ajE{a b:Nat}(x y:Rat)(J:Ln a x)(E:Ln b y)(G:a+b<=23):fn ZH conv ext 153 [.agg (cQ x),.agg (cQ y)]=some (.agg (cQ (x-y))):=by
 have o1:=UL x (J.mono (by omega));have S:=UL y (E.mono (by omega));have Y:=ahr y (by have:=E.1;omega) (by have:=E.2;omega);have O:=ac_ x (-y) J (UW E) G;rw[<- Rat.sub_eq_add_neg]at O;unfold cQ at *;rw[mM,nG [.cell 4 147] [] func153];simp only[go_sem,o1,S,Y,O]
theorem abS{xs:List Rat}(h:∀x∈xs,Ln 24 x)(hl:xs.length<=1000):fn ZH conv ext 150 [LL cQ xs]=some (Bo true):=by
 rw[mM,nG [.tmp 2] [] func150];simp only[go_sem];generalize S:dI _ _=y;obtain⟨r,rfl,T',σ',nx',rfl⟩:=pF S xs.length (fun k st=>st.T 5=LL cQ xs/\st.T 6=I xs.length/\st.T 7=I k)
  (fun r=>∃T σ nx',r=(.exit 0,⟨T,σ,nx'⟩)) (by
   clear S;rintro k ⟨T,σ,nx⟩ O ⟨G,E,J⟩;simp only at G E J;have Y:(k:Int)<(xs.length:Int):=by omega
   have f2:=jD k;have f3:=ZQ (n:=(k:Int)+1);have f4:=d_ (c:=cQ) (s:=3) qN xs k O;have f5:=bZ (c:=cQ) (s:=3) qN xs;have f6:k*3+3<=xs.length*3:=by omega
   have f7:=bg (c:=cQ) (s:=3) qN (by omega) xs k O;have k1:=UL xs[k] (h _ (zu O));refine .inl ⟨_,by simp only[go_sem,G,E,J,Y,f2,f3,f4,f5,f6,f7,k1];rfl,?_⟩;simp only[go_sem,G,E];rfl) (by
   rintro ⟨T,σ,nx⟩ ⟨G,E,J⟩;simp only at G E J;exact⟨_,by simp only[go_sem,E,J,zl];rfl,by simp,_,_,_,rfl⟩) (by
   simp only[go_sem])
 simp only[go_sem]
theorem aw6:fn ZH conv ext 210 []=some (.agg (cQ 0)):=by
 have E:fn ZH conv ext 144 [I 0]=some (.agg (cQ 0)):=dO 0 (by decide) (by decide)
 rw[mM,nG [.cell 0 147] [] func210];simp only[go_sem,E]
theorem aqX(n:Nat)(hn:n<=1000)(σ:Store)(nx:Nat):∃v σ' nx',ev ZH qI Af 181 [I n] σ nx=some (v,σ',nx')/\nx<=nx'/\GR v σ' nx nx' (List.replicate n (0:Rat))/\∀y,y<nx->σ' y=σ y:=by
 have k0:=aw6;rw[nG [.tmp 2] [] func181];simp only[go_sem];generalize hL:dI _ _=y;obtain⟨r,rfl,T',σ',nx',rfl,O,G,FN⟩:=pF hL n (fun k st=>st.T 0=I n/\nx<=st.nx/\GR (st.T 3) st.σ nx st.nx (List.replicate k (0:Rat))/\∀y,y<nx->st.σ y=σ y)
  (fun r=>∃T σ' nx',r=(.exit 0,⟨T,σ',nx'⟩)/\nx<=nx'/\GR (T 3) σ' nx nx' (List.replicate n (0:Rat))/\∀y,y<nx->σ' y=σ y) (by
   clear hL;rintro k ⟨T,S,nI⟩ hk ⟨t0,E,hA,fr⟩;simp only at t0 E hA fr;have f1:(k:Int)<(n:Int):=by omega
   have hlen:DR ZH 98 (T 3)=some (I k):=by
    rcases hA with ⟨J,G⟩|⟨b,J,G,h3,Y,h5⟩
    .rw[G]
     have:k=0:=by have:=congrArg List.length J;simpa using this
     rw[this];exact ng (by kernel_rfl)
    .rw[Y,yj];exact nZ (by kernel_rfl)
   obtain⟨σ',a1,a2,a3⟩:=rP hA E 0 (by rw[yj];omega);rw[yj]at a1 a2;refine .inl ⟨_,by simp only[go_sem,t0,hlen,f1,k0,a1];rfl,?_⟩;simp only[go_sem,t0];rw[uo];exact⟨by omega,a2,fun y hy=>(a3 y hy).trans (fr y hy)⟩) (by
   rintro ⟨T,S,nI⟩ ⟨t0,E,hA,fr⟩;simp only at t0 E hA fr;have hlen:DR ZH 98 (T 3)=some (I n):=by
    rcases hA with ⟨J,G⟩|⟨b,J,G,h3,Y,h5⟩
    .rw[G]
     have:n=0:=by have:=congrArg List.length J;simpa using this
     rw[this];exact ng (by kernel_rfl)
    .rw[Y,yj];exact nZ (by kernel_rfl)
   refine⟨_,by simp only[go_sem,t0,hlen,zl];rfl,by simp,_,_,_,rfl,?_⟩;simp only[go_sem];exact⟨E,hA,fr⟩) (by
   simp only[go_sem];exact⟨.inl ⟨rfl,rfl⟩,fun _ _=>trivial⟩)
 exact⟨_,σ',nx',by simp only[go_sem],O,G,FN⟩
def Jj(K:List (Int×Int))(X:List Rat)(nm:Nat):Nat->List Rat
 |0=>List.replicate nm 0
 |c+1=>(Jj K X nm c).set (K.getD c (0,0)).1.toNat ((Jj K X nm c).getD (K.getD c (0,0)).1.toNat 0+sgQ (K.getD c (0,0)).2 (X.getD c 0))
theorem oM(K:List (Int×Int))(X:List Rat)(nm:Nat):∀c,(Jj K X nm c).length=nm
 |0=>by simp[Jj]
 |c+1=>by rw[Jj,yJ];exact oM K X nm c
def Yy(K:List (Int×Int))(k c:Nat):Nat:=((K.take c).filter fun p=>p.1.toNat==k).length
theorem RS{K:List (Int×Int)}{c:Nat}(h:c<K.length)(k:Nat):Yy K k (c+1)=Yy K k c+if K[c].1.toNat=k then 1 else 0:=by
 unfold Yy;rw[yN,zy h,List.filter_append,zo];congr 1
 by_cases e:K[c].1.toNat=k
 .simp[e]
 .simp[e]
theorem U2(K:List (Int×Int))(k c:Nat):Yy K k c<=(K.filter fun p=>p.1.toNat==k).length :=
 ((List.take_sublist c K).filter _).length_le
theorem abT(m:Member)(j k:Nat):((FC m j).filter fun p=>p.1.toNat==k).length<=(if j=k then 2 else 0)/\(j=k->0<((FC m j).filter fun p=>p.1.toNat==k).length):=by
 unfold FC
 by_cases E:m.kind=2<;>by_cases G:m.kind=1<;>by_cases e:j=k<;>simp[E,G,e]
theorem O8(s:Structure)(k:Nat):∀n,((cols s n).filter fun p=>p.1.toNat==k).length<=(if k<n then 2 else 0)/\(k<n->0<((cols s n).filter fun p=>p.1.toNat==k).length)
 |0=>by simp[cols]
 |n+1=>by
  obtain⟨E,O⟩:=O8 s k n;obtain⟨J,S⟩:=abT (mem s n) n k;rw[pJ,List.filter_append,zo]
  by_cases e:n=k
  .subst e
   rw[sW (Nat.lt_irrefl _)]at E;rw[sS rfl]at J;rw[sS (Nat.lt_succ_self _)];exact⟨by omega,fun _=>by have:=S rfl;omega⟩
  .rw[sW e]at J
   by_cases G:k<n
   .rw[sS G]at E
    rw[sS (by omega)];exact⟨by omega,fun _=>by have:=O G;omega⟩
   .rw[sW G]at E
    rw[sW (by omega)];exact⟨by omega,fun h=>by omega⟩
theorem lD{α:Type}(l:List α)(i k:Nat)(v d:α)(h:i<l.length):(l.set i v).getD k d=if i=k then v else l.getD k d:=by
 rw[zx,zx,List.getElem?_set]
 by_cases e:i=k
 .subst e;rw[sS rfl,sS h,sS rfl];rfl
 .rw[sW e,sW e]
theorem aw7{k:Nat}{q:Rat}(s:Int)(h:Ln k q):Ln k (sgQ s q):=by
 unfold sgQ
 split
 .exact UW h
 .exact h
section
variable {K:List (Int×Int)} {X:List Rat} {nm:Nat}
def DnI(K:List (Int×Int))(X:List Rat)(nm c k:Nat):Prop:=(Yy K k c=0/\(Gi K X nm c).getD k none=none/\(Jj K X nm c).getD k 0=0) \/
 (0<Yy K k c/\(Gi K X nm c).getD k none=some ((Jj K X nm c).getD k 0)/\Ln (7*Yy K k c) ((Jj K X nm c).getD k 0))
theorem U3(S:∀x∈X,Ln 6 x)(Y:∀k,(K.filter fun p=>p.1.toNat==k).length<=2)(hk:∀c (h:c<K.length),K[c].1.toNat<nm):∀c,c<=K.length->∀k,k<nm->DnI K X nm c k
 |0,_,k,hkn=> .inl ⟨rfl,by
   rw[Gi,zx,uZ,sS hkn];rfl,by
   rw[Jj,zx,uZ,sS hkn];rfl⟩
 |c+1,hc,k,hkn=>by
  have ih:=U3 S Y hk c (by omega) k hkn;have G:=hk c (by omega);have e1:K.getD c (0,0)=K[c]'(by omega):=by rw[zx,zy (by omega)];rfl
  have hx:Ln 6 (X.getD c 0):=by
   rw[zx]
   by_cases hc:c<X.length
   .rw[zy hc];exact S _ (zu hc)
   .rw[yZ (by omega)];exact(sJ (z:=0) (by decide)).mono (by decide)
  have E:=RS (K:=K) (c:=c) (by omega) k;have hle:=zL (U2 K k (c+1)) (Y k);unfold DnI;rw[Gi,Jj,e1,lD _ _ _ _ _ (by rw[lg];exact G),lD _ _ _ _ _ (by rw[oM];exact G)];have hv:=aw7 (K[c]'(by omega)).2 hx;generalize sgQ (K[c]'(by omega)).2 (X.getD c 0)=v at *
  by_cases e:(K[c]'(by omega)).1.toNat=k
  .rw[sS e]at E
   rw[sS e,sS e,e];refine .inr ⟨by omega,?_⟩;rcases ih with ⟨i1,J,O⟩|⟨i1,J,O⟩
   .rw[J,O]
    have:(0:Rat)+v=v:=by grind
    rw[this];exact⟨rfl,hv.mono (by omega)⟩
   .rw[J]
    have hs:=abr O hv;exact⟨ae_ (hs.mono (by omega)),hs.mono (by omega)⟩
  .rw[sW e]at E
   rw[sW e,sW e,E];exact ih
theorem aw8(S:∀x∈X,Ln 6 x)(J:∀k,(K.filter fun p=>p.1.toNat==k).length<=2)(O:∀c (h:c<K.length),K[c].1.toNat<nm){c:Nat}(hc:c<K.length):Ln 7 ((Jj K X nm c).getD K[c].1.toNat 0):=by
 have hle:=zL (U2 K K[c].1.toNat (c+1)) (J _);have E:=RS hc K[c].1.toNat;rw[sS rfl]at E;rcases U3 S J O c (by omega) _ (O c hc)with ⟨Y,i2,G⟩|⟨Y,i2,G⟩
 .rw[G];exact(sJ (z:=0) (by decide)).mono (by decide)
 .exact G.mono (by omega)
theorem aqY(Y:∀x∈X,Ln 6 x)(O:∀k,(K.filter fun p=>p.1.toNat==k).length<=2)(hk:∀c (h:c<K.length),K[c].1.toNat<nm){c:Nat}(hc:c<=K.length):∀q∈Jj K X nm c,Ln 14 q:=fun q hq=>by
 obtain⟨k,E,e⟩:=yV hq;have J:k<nm:=by rw[oM]at E;exact E
 have S:(Jj K X nm c).getD k 0=q:=by rw[zx,zy E,<- e];rfl
 have hle:=zL (U2 K k c) (O _);rcases U3 Y O hk c hc _ J with ⟨i1,i2,G⟩|⟨i1,i2,G⟩
 .rw[S]at G;rw[G];exact(sJ (z:=0) (by decide)).mono (by decide)
 .rw[S]at G;exact G.mono (by omega)
theorem RU:∀l:List Rat,BU (l.map some)=some l
 |[]=>rfl
 |q :: l=>by
  show(BU (l.map some)).map _=_;rw[RU l];rfl
theorem aw9(S:∀x∈X,Ln 6 x)(Y:∀k,(K.filter fun p=>p.1.toNat==k).length<=2)(h1:∀k,k<nm->0<(K.filter fun p=>p.1.toNat==k).length)(hk:∀c (h:c<K.length),K[c].1.toNat<nm):BU (Gi K X nm K.length)=some (Jj K X nm K.length):=by
 rw[<- RU];congr 1;refine yS (by rw[lg,zO,oM]) fun k G g2=>?_
 have E:k<nm:=by rw[lg]at G;exact G
 have e1:(Gi K X nm K.length).getD k none=(Gi K X nm K.length)[k]:=by rw[zx,zy G];rfl
 have e2:(Jj K X nm K.length).getD k 0=(Jj K X nm K.length)[k]'(by rw[oM];exact E):=by rw[zx,zy (by rw[oM];exact E)];rfl
 have h3:=h1 k E;rcases U3 S Y hk K.length (zq _) k E with ⟨J,O,i3⟩|⟨J,O,i3⟩
 .unfold Yy at J;rw[yg]at J;omega
 .rw[<- e1,O,yB,e2]
end
def O9(s:Structure)(x:Nat->Rat):List Rat:=Jj (cols s s.members.length) ((List.range (DN s)).map x) s.members.length (DN s)
theorem afJ(s:Structure)(x:Nat->Rat):(O9 s x).length=s.members.length:=oM _ _ _ _
theorem abU(s:Structure)(k:Nat):((cols s s.members.length).filter fun p=>p.1.toNat==k).length<=2:=by
 have:=(O8 s k s.members.length).1
 split at this<;>omega
theorem abV(s:Structure):∀c (h:c<(cols s s.members.length).length),(cols s s.members.length)[c].1.toNat<s.members.length:=fun c h=>by
 obtain⟨⟨q,e,E⟩,-⟩:=pK (zu h);rw[e,zF];exact E
theorem aqZ{x:Nat->Rat}{n:Nat}(h:∀j,j<n->Ln 6 (x j)):∀y∈(List.range n).map x,Ln 6 y:=fun y E=>by
 obtain⟨j,G,rfl⟩:=List.mem_map.mp E;exact h j (List.mem_range.mp G)
theorem Yz{s:Structure}{x:Nat->Rat}(h:∀j,j<DN s->Ln 6 (x j)):∀q∈O9 s x,Ln 14 q:=aqY (aqZ h) (abU s) (abV s) (zq _)
theorem ajF{s:Structure}{x:Nat->Rat}(h:∀j,j<DN s->Ln 6 (x j)):BU (Gi (cols s s.members.length) ((List.range (DN s)).map x) s.members.length (DN s))=some (O9 s x) :=
 aw9 (aqZ h) (abU s) (fun k E=>(O8 s k _).2 E) (abV s)
theorem Jf{s:Structure}{l:List Int}{x:Nat->Rat}(h:(Ji s l).Best x)(G:(Ji s l).Open):False:=by
 obtain⟨y,J,E⟩:=G 1;have e:ob (Ji s l).n (Ji s l).c y=0:=by
  unfold ob;refine bK fun j O=>?_
  have:(Ji s l).c j=0:=by
   show((((List.replicate (DN s) (0:Int)).getD j 0:Int)):Rat)=0;rw[zx]
   by_cases hc:j<DN s
   .rw[uZ,sS hc];rfl
   .rw[uZ,sW hc];rfl
  rw[this];grind
 rw[e]at E;exact absurd E (by decide)
def badR:List V:=[Bo false,.ts [] 0,.ts [] 0]
def cR(a:Option Rat):List V:=match a with
 |none=>badR
 |some q=>cQ q
theorem aq0(a:Option Rat):(cR a).length=3:=by cases a<;>rfl
theorem ajG(a:Option Rat):(cR a).all pI=true:=by cases a<;>rfl
theorem am8(a:Option Rat):(cR a).take 3=cR a:=by cases a<;>rfl
theorem afK(x y z:V)(a:Option Rat):patch [x,y,z] 0 (cR a)=cR a:=by cases a<;>rfl
theorem ajH(σ:Store)(d:Nat)(a:Option Rat):stripL (strip σ d) (cR a)=some (cR a,[]):=by
 cases a with
 |none=>unfold cR badR;rw[au,aQ,au,aN,au,aN,aZ];rfl
 |some q=>exact qM σ d q
attribute [go_sem] aq0 ajG am8 afK ajH
theorem aw_(neg:Bool)(m n:Nat)(hm:ln m<=1000)(h0:n≠0)(hn:ln n<=1000) :
  fn ZH conv ext 202 [Bo neg,LI (dg m),LI (dg n)]=some (.agg (if ln (m / Nat.gcd m n)<=24/\ln (n / Nat.gcd m n)<=24 then [Bo (neg && decide (0<(dg (m / Nat.gcd m n)).length)),LI (dg (m / Nat.gcd m n)),LI (dg (n / Nat.gcd m n))]else badR)):=by
 have a0:Nat.gcd m n≠0:=fun e=>h0 (u_ e)
 have a1:Nat.gcd m n<=n:=Nat.gcd_le_right _ (by omega);have a2:n / Nat.gcd m n≠0:=by
  have:=Nat.div_pos a1 (by omega);omega
 have hg:=jf a1;have Y:=bD (dg m) (dA (by omega));have k2:=bD (dg n) (dA (by omega));rw[Zu]at Y k2;have G:=QG n (by omega);have k4:=aiS m n (by omega) (by omega);have J:=QG (Nat.gcd m n) (by omega);have k6:=X6 m (Nat.gcd m n) a0 (by omega) (by omega);have k7:=X6 n (Nat.gcd m n) a0 (by omega) (by omega);have l0:(((dg n).length:Int)==0)=false:=by rw[sQ];have:=rF (oV h0);omega
 have z1:¬(dg (n / Nat.gcd m n)).length=0:=rF (oV a2)
 by_cases r1:ln (m / Nat.gcd m n)<=24
 .by_cases r2:ln (n / Nat.gcd m n)<=24
  .rw[sS ⟨r1,r2⟩]
   have k8:=ahi neg (dg (m / Nat.gcd m n)) (dA (by omega)) (by rw[Zu];show ln _<=60;omega);rw[Zu]at k8;have c1:¬(24:Int)<((dg (m / Nat.gcd m n)).length:Int):=by unfold ln at r1;omega
   have O:¬(24:Int)<((dg (n / Nat.gcd m n)).length:Int):=by unfold ln at r2;omega
   have s1:(dg (n / Nat.gcd m n)).length<=maxLen/\(dg (n / Nat.gcd m n)).length*8<=140737488355328:=by unfold maxLen;unfold ln at r2;omega
   rw[mM,nG [.cell 6 147] [] func202]
   by_cases S:n=1
   .have E:Nat.gcd m n=1:=by rw[S,Nat.gcd_one_right]
    simp only[E,x9]at c1 O k8 z1 s1⊢;rw[sO S]at G;simp only[go_sem,Y,k2,G,k8,l0,c1,O,z1,s1]
   .rw[sN S]at G
    by_cases E:Nat.gcd m n=1
    .rw[sO E]at J
     rw[E]at k4 J;simp only[E,x9]at c1 O k8 z1 s1⊢;simp only[go_sem,Y,k2,G,k4,J,k8,l0,c1,O,z1,s1]
    .rw[sN E]at J
     simp only[go_sem,Y,k2,G,k4,J,k6,k7,k8,l0,c1,O,z1,s1]
  .rw[sW (fun h=>r2 h.2)]
   have c1:¬(24:Int)<((dg (m / Nat.gcd m n)).length:Int):=by unfold ln at r1;omega
   have O:(24:Int)<((dg (n / Nat.gcd m n)).length:Int):=by unfold ln at r2;omega
   unfold badR;rw[mM,nG [.cell 6 147] [] func202]
   by_cases S:n=1
   .have E:Nat.gcd m n=1:=by rw[S,Nat.gcd_one_right]
    simp only[E,x9]at c1 O;rw[sO S]at G;simp only[go_sem,Y,k2,G,l0,c1,O]
   .rw[sN S]at G
    by_cases E:Nat.gcd m n=1
    .rw[sO E]at J
     rw[E]at k4 J;simp only[E,x9]at c1 O;simp only[go_sem,Y,k2,G,k4,J,l0,c1,O]
    .rw[sN E]at J
     simp only[go_sem,Y,k2,G,k4,J,k6,k7,l0,c1,O]
 .rw[sW (fun h=>r1 h.1)]
  have c1:(24:Int)<((dg (m / Nat.gcd m n)).length:Int):=by unfold ln at r1;omega
  unfold badR;rw[mM,nG [.cell 6 147] [] func202]
  by_cases S:n=1
  .have E:Nat.gcd m n=1:=by rw[S,Nat.gcd_one_right]
   simp only[E,x9]at c1;rw[sO S]at G;simp only[go_sem,Y,k2,G,l0,c1]
  .rw[sN S]at G
   by_cases E:Nat.gcd m n=1
   .rw[sO E]at J
    rw[E]at k4 J;simp only[E,x9]at c1;simp only[go_sem,Y,k2,G,k4,J,l0,c1]
   .rw[sN E]at J
    simp only[go_sem,Y,k2,G,k4,J,k6,k7,l0,c1]
theorem aw'(z:Int){d:Nat}(h:d≠0):(mkRat z d).num.natAbs=z.natAbs / Nat.gcd z.natAbs d/\(mkRat z d).den=d / Nat.gcd z.natAbs d:=by
 have E:(Nat.gcd z.natAbs d:Int) ∣ z:=Int.ofNat_dvd_left.mpr (Nat.gcd_dvd_left _ _);have e:(mkRat z d).num=z / (Nat.gcd z.natAbs d:Nat)/\(mkRat z d).den=d / Nat.gcd z.natAbs d:=by
  rw[Rat.mkRat_def,dif_neg h,Rat.normalize_eq];exact⟨rfl,rfl⟩
 refine⟨?_,e.2⟩;rw[e.1,Int.natAbs_ediv_of_dvd E];rfl
theorem axa(z:Int)(d:Nat)(hz:ln z.natAbs<=1000)(G:d≠0)(hd:ln d<=1000)(b:Bool)(n:Nat)(hb:AL b n=z):fn ZH conv ext 202 [Bo b,LI (dg n),LI (dg d)]=some (.agg (cR (FM (mkRat z d)))):=by
 have hn:n=z.natAbs:=by rw[<- hb];unfold AL;split<;>omega
 subst hn;rw[aw_ b z.natAbs d hz G hd];obtain⟨S,Y⟩:=aw' z G;rw[<- S,<- Y];unfold FM
 by_cases E:ln (mkRat z d).num.natAbs<=24/\ln (mkRat z d).den<=24
 .rw[sS E,sS E]
  show some (V.agg _)=some (V.agg (cQ (mkRat z d)));rw[ahp z G,S,Y];unfold aeM
  by_cases J:z.natAbs=0
  .rw[J,Nat.zero_div,oO];simp
  .have:b=decide (z<0):=by
    have O:=hb;unfold AL at O;cases b with
    |true=>rw[sS rfl]at O;rw[sO (by omega)]
    |false=>rw[sW (by decide)]at O;rw[sN (by omega)]
   rw[this]
 .rw[sW E,sW E]
  rfl
theorem aq1(a:Option Rat)(h:LnO 24 a):fn ZH conv ext 176 [.agg (cR a)]=some (Bo a.isSome):=by
 cases a with
 |some q=>exact UL q (h q rfl)
 |none=>
  have E:=Qy false [] (by unfold Short;simp);have G:=Tm [] (by unfold Short;simp);have g:CP []:=⟨fun x J=>by(cases J),by simp,rfl⟩;rw[h_ g]at E G;have E:fn ZH conv ext 204 [.agg [Bo false,.ts [] 0]]=some (Bo true):=E
  have G:fn ZH conv ext 205 [.ts [] 0]=some (Bo true):=G
  show fn ZH conv ext 176 [.agg badR]=some (Bo false)
  unfold badR;rw[mM,nG [.tmp 2] [] func176];simp only[go_sem,E,G]
theorem YA(a b:Option Rat)(ha:LnO 24 a)(hb:LnO 24 b):fn ZH conv ext 182 [.agg (cR a),.agg (cR b)]=some (.agg (cR (Hw a b))):=by
 have o1:=aq1 a ha;have E:=aq1 b hb;cases a with
 |none=>
  show fn ZH conv ext 182 [.agg badR,.agg (cR b)]=some (.agg badR)
  have o1:fn ZH conv ext 176 [.agg badR]=some (Bo false):=o1
  have G:∃u v w,cR b=[u,v,w]:=by cases b<;>exact⟨_,_,_,rfl⟩
  obtain⟨u,v,w,e⟩:=G;rw[e];unfold badR at *;rw[mM,nG [.cell 4 147] [] func182];simp only[go_sem,o1]
 |some x=>cases b with
  |none=>
   show fn ZH conv ext 182 [.agg (cQ x),.agg badR]=some (.agg badR)
   have o1:fn ZH conv ext 176 [.agg (cQ x)]=some (Bo true):=o1
   have E:fn ZH conv ext 176 [.agg badR]=some (Bo false):=E
   unfold badR at *;unfold cQ at *;rw[mM,nG [.cell 4 147] [] func182];simp only[go_sem,o1,E]
  |some y=>
   have o1:fn ZH conv ext 176 [.agg (cQ x)]=some (Bo true):=o1
   have E:fn ZH conv ext 176 [.agg (cQ y)]=some (Bo true):=E
   have J:=ha x rfl;have O:=hb y rfl;have ux:=J.up (by omega);have uy:=O.up (by omega);have n1:=anE J O;have n2:=N9 J O;have k1:=dN x.num.natAbs y.num.natAbs ux.1 uy.1;have k2:=dN x.den y.den ux.2 uy.2;have S:=axa (AL (decide (x.num<0) !=decide (y.num<0)) (x.num.natAbs*y.num.natAbs)) (x.den*y.den) (by rw[UM];omega) (dd0 x y) (by omega) _ _ rfl;rw[<- acN]at S;have e:∀a b:Bool,(!a==b)=(a !=b):=by decide
   have k4:fn ZH conv ext 207 [.agg (cQ x),.agg (cQ y)]=some (.agg (cR (FM (x*y)))):=by
    unfold cQ at *;rw[mM,nG [.cell 4 147] [] func207];obtain⟨o,Y⟩:∃o,o=FM (x*y):=⟨_,rfl⟩;rw[<- Y]at S⊢;simp only[go_sem,k1,k2,S,e]
   show fn ZH conv ext 182 [.agg (cQ x),.agg (cQ y)]=some (.agg (cR (FM (x*y))))
   obtain⟨o,Y⟩:∃o,o=FM (x*y):=⟨_,rfl⟩;rw[<- Y]at k4⊢;unfold cQ at *;rw[mM,nG [.cell 4 147] [] func182];simp only[go_sem,o1,E,k4]
theorem anM{s:Structure}(h:Ar s)(G:okStructure s){qs:List Rat}(J:qs.length=s.members.length)(O:∀q∈qs,Ln 24 q):fn ZH conv ext 154 [.agg (cStructure s),LL cQ qs]=some (Bo true):=by
 have S:=h.2.1;have E:=dL s G;rw[h_ h]at E;have Y:=abS O (by omega);have c0:((qs.length:Int)==(s.members.length:Int))=true:=by rw[J];simp
 rw[mM,nG [.tmp 4] [] func154];simp only[go_sem,E,Y,c0]
theorem afL{s:Structure}(h:Ar s)(J:okStructure s){k:Nat}(O:k<s.members.length):fn ZH conv ext 211 [.agg (cStructure s),I k]=some (.AP [I (vx s k),I (vy s k)]):=by
 have S:=h.2.1;have E:=dL s J;rw[h_ h]at E;have G:=jv k 0 ((s.members.length:Int) - 1);have hb:inB k 0 ((s.members.length:Int) - 1)=true:=by unfold inB;rw[sO (by omega),sO (by omega)];rfl
 rw[hb]at G;have Y:=adh h.sg O;have w1:=ZQ (n:=(s.members.length:Int) - 1);rw[mM,nG [.tmp 4,.tmp 5] [] func211];simp only[go_sem,E,G,Y,w1]
theorem afM{s:Structure}(h:Ar s)(E:okStructure s){k:Nat}(G:k<s.members.length):fn ZH conv ext 183 [.agg (cStructure s),I k]=some (I (vx s k*vx s k+vy s k*vy s k)):=by
 have J:=afL h E G;have hb:=Zd h.sg k;have x2:0<=vx s k*vx s k/\vx s k*vx s k<=10000:=by
  have O:vx s k*vx s k=((vx s k).natAbs*(vx s k).natAbs:Nat):=by rw[vw]
  have S:(vx s k).natAbs*(vx s k).natAbs<=100*100:=yE (by omega) (by omega);omega
 have y2:0<=vy s k*vy s k/\vy s k*vy s k<=10000:=by
  have O:vy s k*vy s k=((vy s k).natAbs*(vy s k).natAbs:Nat):=by rw[vw]
  have S:(vy s k).natAbs*(vy s k).natAbs<=100*100:=yE (by omega) (by omega);omega
 have w1:=ZQ (n:=vx s k*vx s k);have Y:=ZQ (n:=vy s k*vy s k);have w3:=ZQ (n:=vx s k*vx s k+vy s k*vy s k);rw[mM,nG [.tmp 4] [] func183];simp only[go_sem,J,w1,Y,w3]
theorem U5{s:Structure}(h:Ar s)(ho:okStructure s){qs:List Rat}(hl:qs.length=s.members.length)(hL:∀q∈qs,Ln 24 q){k:Nat}(O:k<qs.length) :
  fn ZH conv ext 155 [.agg (cStructure s),LL cQ qs,I k]=some (.AP [.agg (cR (sqQ s qs[k] k)),Bo (sqQ s qs[k] k).isSome]):=by
 have a2:=h.2.1;have hb:=Zd h.sg k;have k1:=anM h ho hl hL;have k2:=jv k 0 ((s.members.length:Int) - 1);have S:inB k 0 ((s.members.length:Int) - 1)=true:=by unfold inB;rw[sO (by omega),sO (by omega)];rfl
 rw[S]at k2;have k3:=afM h ho (k:=k) (by omega);have w1:=ZQ (n:=(s.members.length:Int) - 1);have x2:0<=vx s k*vx s k/\vx s k*vx s k<=10000:=by
  have h1:vx s k*vx s k=((vx s k).natAbs*(vx s k).natAbs:Nat):=by rw[vw]
  have h2:(vx s k).natAbs*(vx s k).natAbs<=100*100:=yE (by omega) (by omega);omega
 have y2:0<=vy s k*vy s k/\vy s k*vy s k<=10000:=by
  have h1:vy s k*vy s k=((vy s k).natAbs*(vy s k).natAbs:Nat):=by rw[vw]
  have h2:(vy s k).natAbs*(vy s k).natAbs<=100*100:=yE (by omega) (by omega);omega
 unfold sqQ;generalize vx s k*vx s k=a at *;generalize vy s k*vy s k=b at *;have k4:=dO (a+b) (by omega) (by omega);have f1:(k:Int)<(qs.length:Int):=by omega
 have f2:=jD k;have f4:=d_ (c:=cQ) (s:=3) qN qs k O;have f5:=bZ (c:=cQ) (s:=3) qN qs;have f6:k*3+3<=qs.length*3:=by omega
 have f7:=bg (c:=cQ) (s:=3) qN (by omega) qs k O;have Y:=hL _ (zu O);obtain⟨q,eq⟩:∃q,q=qs[k]:=⟨_,rfl⟩;rw[<- eq]at f4 Y⊢;have k5:fn ZH conv ext 182 [.agg (cQ q),.agg (cQ q)]=some (.agg (cR (Hw (some q) (some q)))):=YA (some q) (some q) (fun z E=>by cases E;exact Y) (fun z E=>by cases E;exact Y)
 obtain⟨o1,e1⟩:∃o1,o1=Hw (some q) (some q):=⟨_,rfl⟩;have E:Ln 24 ((a+b:Int):Rat):=(sJ (by omega)).mono (by decide);have k6:fn ZH conv ext 182 [.agg (cR o1),.agg (cQ ((a+b:Int):Rat))]=some (.agg (cR (Hw o1 (some ((a+b:Int):Rat))))):=YA o1 (some ((a+b:Int):Rat)) (by rw[e1];exact MC) (fun z a0=>by cases a0;exact E)
 rw[<- e1]at k5⊢;obtain⟨o2,e2⟩:∃o2,o2=Hw o1 (some ((a+b:Int):Rat)):=⟨_,rfl⟩;rw[<- e2]at k6⊢;have k7:=aq1 o2 (by rw[e2];exact MC);obtain⟨J,G⟩:∃J,J=cQ ((a+b:Int):Rat):=⟨_,rfl⟩;rw[<- G]at k4 k6;have a1:∀σ d,stripL (strip σ d) J=some (J,[]):=fun σ d=>by rw[G];exact qM σ d _
 rw[mM,nG [.cell 6 147,.tmp 7] [4] func155];simp only[go_sem,k1,k2,k3,k4,k5,k6,k7,w1,f1,f2,f4,f5,f6,f7,a1]
theorem YB{s:Structure}(h:Ar s)(ho:okStructure s){qs:List Rat}(hl:qs.length=s.members.length)(hL:∀q∈qs,Ln 24 q) :
  fn ZH conv ext 122 [.agg (cStructure s),LL cQ qs]=some (Dj (G9 s qs)):=by
 have a9:=h.2.1;have k1:=anM h ho hl hL;rw[mM,nG [.tmp 4,.tmp 5] [] func122];simp only[go_sem,k1];generalize a0:dI _ _=y;obtain⟨x,rfl,hx⟩:=pF a0 s.members.length (fun k st=>st.T 1=LL cQ qs/\st.T 2= .rp 0 0/\st.T 17=I s.members.length/\st.T 18=I k/\1<=st.nx/\st.σ 0=some ⟨cStructure s,0,true⟩/\∃xs,BU ((G9 s qs).take k)=some xs/\GR (st.T 6) st.σ 1 st.nx xs)
  (fun x=>∃T σ nx,(x=(.exit 0,⟨T,σ,nx⟩)/\∃xs,BU (G9 s qs)=some xs/\GR (T 6) σ 1 nx xs)\/(x=(.ret,⟨T,σ,nx⟩)/\T 4= .nil/\T 5=Bo false/\BU (G9 s qs)=none)) (by
   clear a0;rintro k ⟨T,σ,nx⟩ hk ⟨Y,t2,G,GN,S,s0,xs,E,hA⟩;simp only at Y t2 G GN S s0 hA;have g1:(k:Int)<(s.members.length:Int):=by omega
   have g2:=jD k;have g3:=ZQ (n:=(k:Int)+1);have a6:k<(G9 s qs).length:=by rw[bJ];omega
   have b2:xs.length=k:=by rw[dJ E,zh];omega
   have J:(G9 s qs).take (k+1)=(G9 s qs).take k++[sqQ s (qs[k]'(by omega)) k]:=by rw[aJ a6,ac5 s qs (by omega)]
   have O:=U5 h ho hl hL (k:=k) (by omega);have z1:¬nx=0:=by omega
   have z2:¬0=nx:=by omega
   cases hv:sqQ s (qs[k]'(by omega)) k with
   |none=>
    rw[hv]at O J;have O:fn ZH conv ext 155 [.agg (cStructure s),LL cQ qs,I k]=some (.AP [.agg (cR none),Bo false]):=O
    refine .inr ⟨_,by simp only[go_sem,Y,t2,G,GN,s0,g1,g2,O,z1,z2];rfl,by simp,_,_,_,.inr ⟨rfl,?_⟩⟩;simp only[go_sem];have:G9 s qs=(G9 s qs).take (k+1)++(G9 s qs).drop (k+1):=(wM _ _).symm;rw[this,J];refine dH ?_;rw[dG,E];rfl
   |some z=>
    rw[hv]at O J;have O:fn ZH conv ext 155 [.agg (cStructure s),LL cQ qs,I k]=some (.AP [.agg (cQ z),Bo true]):=O
    have a7:GR (T 6) (upd σ nx (some ⟨cQ z,0,true⟩)) 1 (nx+1) xs:=by
     rcases hA with ⟨a,b⟩|⟨b,a1,a2,a3,a4,a5⟩
     .exact .inl ⟨a,b⟩
     .exact .inr ⟨b,a1,a2,by omega,a4,by rw[Zk];exact a5⟩
    obtain⟨σ',ha,a8,fr⟩:=rP a7 (by omega) z (by omega);have f0:σ' 0=some ⟨cStructure s,0,true⟩:=by rw[fr 0 (by omega),Zk];exact s0
    refine .inl ⟨_,by simp only[go_sem,Y,t2,G,GN,s0,g1,g2,g3,O,ha,z1,z2];rfl,?_⟩;simp only[go_sem,Y,t2,G];refine⟨rfl,f0,xs++[z],?_,a8⟩;rw[J,dG,E];rfl) (by
   rintro ⟨T,σ,nx⟩ ⟨Y,t2,G,GN,S,s0,xs,E,hA⟩;simp only at Y t2 G GN S s0 hA;have g1:¬(s.members.length:Int)<(s.members.length:Int):=by omega
   refine⟨_,by simp only[go_sem,G,GN,g1];rfl,by simp,_,_,_,.inl ⟨rfl,xs,?_,?_⟩⟩
   .rw[<- hl,<- bJ s qs,yg]at E
    exact E
   .simp only[go_sem]
    exact hA) (by
   simp only[go_sem];exact⟨[],rfl,.inl ⟨rfl,rfl⟩⟩)
 rcases hx with ⟨T,σ,nx,⟨rfl,xs,E,hA⟩|⟨rfl,t4,t5,E⟩⟩
 .obtain⟨ids,hs⟩:∃ids,strip σ 6 (T 6)=some (LL cQ xs,ids):=by
   rcases hA with ⟨h1,h2⟩|⟨b,h1,h2,h3,h4,h5⟩
   .exact⟨[],by rw[h1,h2,aT];rfl⟩
   .rw[h4];exact⟨[b],fC h5 rfl⟩
  unfold Dj;rw[E];simp only[go_sem,hs]
 .unfold Dj
  rw[E];simp only[go_sem,t4,t5]
theorem adl{s:Structure}(h:Ar s)(E:okStructure s){w:List Int}(hw:BA s.members.length w):fn ZH conv ext 71 [.agg (cStructure s),LI w]=some (Bo true):=by
 have G:=h.2.1;have k:=Qu s w E (by rw[hw.1];unfold maxLen;omega);rw[h_ h,h_ hw]at k;exact k
theorem YC{s:Structure}(h:Ar s)(ho:okStructure s){qs:List Rat}(hl:qs.length=s.members.length)(hL:∀q∈qs,Ln 24 q){w:List Int}(hw:BA s.members.length w){xs:List Rat}(hq:BU (G9 s qs)=some xs) :
  fn ZH conv ext 123 [.agg (cStructure s),LL cQ qs,LI w]=some (LI (DT (D_ xs w) xs.length)):=by
 have a8:=h.2.1;have k1:=YB h ho hl hL;have k2:=adl h ho hw;unfold Dj at k1;rw[hq]at k1;have a9:xs.length=s.members.length:=by rw[dJ hq,bJ,hl]
 rw[mM,nG [.tmp 6] [] func123];simp only[go_sem,k1,k2];generalize a0:dI _ _=y;obtain⟨x,rfl,T,σ,nx,rfl,Y⟩:=pF a0 xs.length (fun k st=>st.T 2=LI w/\st.T 27=LL cQ xs/\st.T 28=I xs.length/\st.T 29=I k/\Grow st.T st.σ st.nx 9 (DT (D_ xs w) k))
  (fun x=>∃T σ nx,x=(.exit 0,⟨T,σ,nx⟩)/\Grow T σ nx 9 (DT (D_ xs w) xs.length)) (by
   clear a0;rintro k ⟨T,σ,nx⟩ hk ⟨t2,G,E,O,Y⟩;simp only at t2 G E O Y;have g1:(k:Int)<(xs.length:Int):=by omega
   have g2:=jD k;have g3:=ZQ (n:=(k:Int)+1);have g4:=d_ (c:=cQ) (s:=3) qN xs k hk;have g5:=bZ (c:=cQ) (s:=3) qN xs;have g6:k*3+3<=xs.length*3:=by omega
   have g7:=bg (c:=cQ) (s:=3) qN (by omega) xs k hk;have S:k<w.length:=by rw[hw.1];omega
   have a7:=kK (hw.2 _ (zu S));have a1:=idx (xs:=w) (k:=k) S;have a2:=AZ w k S;have a3:(k:Int)<(w.length:Int):=by omega
   have hx:=aiY hq _ (zu hk);have J:D_ xs w k=X_ xs[k] w[k]:=by
    unfold D_;rw[zx,zy hk,zx,zy S];rfl
   obtain⟨x,ex⟩:∃x,x=xs[k]:=⟨_,rfl⟩;obtain⟨v,ev⟩:∃v,v=w[k]:=⟨_,rfl⟩;rw[<- ex,<- ev]at J;rw[<- ex]at g4 hx;rw[<- ev]at a1 a7;have v2:0<=v*v/\v*v<=1000000:=by
    have h1:v*v=(v.natAbs*v.natAbs:Nat):=by rw[vw]
    have h2:v.natAbs*v.natAbs<=1000*1000:=yE (by omega) (by omega);omega
   have w1:=ZQ (n:=v*v);have k3:=dO (v*v) (by omega) (by omega);have k4:=anG x ((v*v:Int):Rat) hx ((sJ (by omega)).mono (by decide):Ln 24 _) (by decide) (by decide) (by decide);have hle:=Zp (D_ xs w) k;unfold X_ at J;obtain⟨m2,a4⟩:∃m2,m2=cQ ((v*v:Int):Rat):=⟨_,rfl⟩;obtain⟨z,ez⟩:∃z,z=Ak (x.num*((v*v:Int):Rat).den) (((v*v:Int):Rat).num*x.den):=⟨_,rfl⟩;rw[<- a4]at k3 k4;rw[<- ez]at k4 J;have a5:∀σ d,stripL (strip σ d) m2=some (m2,[]):=fun σ d=>by rw[a4];exact qM σ d _
   have y1:nx<nx+1:=by omega
   have a6:=kW Y (some ⟨cQ x,0,true⟩)
   by_cases hz:0<z
   .rw[sO hz]at J
    obtain⟨σ',ha,hs⟩:=kU a6 (k:Int) (by omega);refine .inl ⟨_,by simp only[go_sem,t2,G,E,O,g1,g2,g3,g4,g5,g6,g7,hk,S,a1,a2,a3,w1,k3,k4,hz,ha,a5,y1];rfl,?_⟩;simp only[go_sem,t2,G,E];rw[Zn J];exact⟨rfl,kR hs (by simp[go_sem]) (by simp)⟩
   .rw[sN hz]at J
    refine .inl ⟨_,by simp only[go_sem,t2,G,E,O,g1,g2,g3,g4,g5,g6,g7,hk,S,a1,a2,a3,w1,k3,k4,hz,a5,y1];rfl,?_⟩;simp only[go_sem,t2,G,E];rw[Zo J];exact⟨rfl,kS (T:=T) (by simp only[go_sem]) a6⟩) (by
   rintro ⟨T,σ,nx⟩ ⟨t2,G,E,O,Y⟩;simp only at t2 G E O Y;exact⟨_,by simp only[go_sem,E,O,zl];rfl,by simp,_,_,_,rfl,kS (T:=T) (by simp only[go_sem]) Y⟩) (by
   simp only[go_sem];exact .inl ⟨by simp only[go_sem],rfl⟩)
 obtain⟨ids,hs⟩:=kQ Y 6;simp only[go_sem,hs]
theorem afN{s:Structure}(h:Ar s)(G:okStructure s){qs:List Rat}(S:qs.length=s.members.length)(Y:∀q∈qs,Ln 24 q){w:List Int}(hw:BA s.members.length w) :
  fn ZH conv ext 98 [.agg (cStructure s),LL cQ qs,LI w]=some (Bo (Em s qs w)):=by
 have E:=YB h G S Y;have k2:=adl h G hw;unfold Dj at E;unfold Em;rw[mM,nG [.tmp 6] [] func98];cases J:BU (G9 s qs)with
 |none=>
  rw[J]at E;simp only[go_sem,E]
 |some xs=>
  rw[J]at E;have k3:=YC h G S Y hw J
  by_cases O:(DT (D_ xs w) xs.length).length=0
  .have e:(((DT (D_ xs w) xs.length).length:Int)==0)=true:=by rw[O];rfl
   simp only[go_sem,E,k2,k3,e,sO O]
  .have e:(((DT (D_ xs w) xs.length).length:Int)==0)=false:=by rw[sQ];omega
   simp only[go_sem,E,k2,k3,e,sN O]
theorem aq2(n:Nat)(hn:n<=24)(σ:Store)(nx:Nat):∃v σ' nx',ev ZH qI Af 151 [I n] σ nx=some (v,σ',nx')/\nx<=nx'/\GR v σ' nx nx' (List.replicate n (0:Rat))/\∀y,y<nx->σ' y=σ y:=by
 have E:=jv n 0 24;have hb:inB n 0 24=true:=by unfold inB;rw[sO (by omega),sO (by omega)];rfl
 rw[hb]at E;obtain⟨v,σ',nx',G,J,O,S⟩:=aqX n (by omega) σ nx;refine⟨v,σ',nx',?_,J,O,S⟩;rw[nG [.tmp 2] [] func151];simp only[go_sem,qJ,E,G]
theorem ajI{v:V}{σ:Store}{lo nx:Nat}{L:List Rat}(h:GR v σ lo nx L)(E:L≠[]):∃b,lo<=b/\b<nx/\v= .rs b 0 L.length/\σ b=some ⟨L.flatMap cQ,3,true⟩:=by
 rcases h with ⟨G,_⟩|⟨b,_,J,O,S,Y⟩
 .exact absurd G E
 .exact⟨b,J,O,S,Y⟩
theorem axb{s:Structure}(h:Ar s)(ho:okStructure s){x:Nat->Rat}(hx:∀j,j<DN s->Ln 6 (x j)) :
  fn ZH qI Af 121 [.agg (cStructure s),LL cQ ((List.range (DN s)).map x)]=some (.AP [LL cQ (O9 s x),Bo true]):=by
 have e4:=h.2.1;have k1:=dL s ho;rw[h_ h]at k1;have k2:=Yx h.sg;have a1:=aqZ hx;have a2:=pO s s.members.length;have S:=Yz hx;have b4:O9 s x=Jj (cols s s.members.length) ((List.range (DN s)).map x) s.members.length (cols s s.members.length).length:=rfl;have b5:=abU s;have b6:=abV s;have b7:∀c (h:c<(cols s s.members.length).length),(∃q:Nat,(cols s s.members.length)[c].1=(q:Int)/\q<s.members.length)/\((cols s s.members.length)[c].2=1\/(cols s s.members.length)[c].2= -1):=fun c h=>pK (zu h)
 have a3:((List.range (DN s)).map x).length=(cols s s.members.length).length:=by rw[zO,uN];rfl
 rw[b4]at S⊢;obtain⟨X,eX⟩:∃X,X=(List.range (DN s)).map x:=⟨_,rfl⟩;obtain⟨K,eK⟩:∃K,K=cols s s.members.length:=⟨_,rfl⟩;rw[<- eX]at a1 S a3⊢;rw[<- eK]at k2 a2 S b5 b6 b7 a3⊢;have k3:=abS (xs:=X) (fun q hq=>(a1 q hq).mono (by decide)) (by omega);obtain⟨s0,b8⟩:∃s0,s0=upd lI 0 (some ⟨cStructure s,0,true⟩):=⟨_,rfl⟩;have b0:s0 0=some ⟨cStructure s,0,true⟩:=by rw[b8,Zi]
 obtain⟨vz,e5,nz,k4,e6,d7,e7⟩:=aq2 s.members.length (by omega) s0 1;have c0:((X.length:Int) !=((K.map FU).length:Int))=false:=by rw[zO,a3];simp
 have el:(K.map FU).length=K.length:=zO ..;have b9:(K.map Gs).length=K.length:=zO ..;rw[mM,nG [.tmp 4,.tmp 5] [11,12] func121];simp only[go_sem,qJ,k1,k2,k3,c0,<- b8,b0,k4];generalize hL:dI _ _=y;obtain⟨r,rfl,T,σ,nx,rfl,h2⟩:=pF hL K.length (fun c st=>st.T 1=LL cQ X/\st.T 7=LI (K.map Gs)/\st.T 33=LI (K.map FU)/\st.T 34=I K.length/\st.T 35=I c/\GR (st.T 8) st.σ 1 st.nx (Jj K X s.members.length c))
  (fun r=>∃T σ nx,r=(.exit 0,⟨T,σ,nx⟩)/\GR (T 8) σ 1 nx (Jj K X s.members.length K.length)) (by
   clear hL;rintro c ⟨T,σ,nx⟩ hc ⟨t1,t7,J,E,G,hA⟩;simp only at t1 t7 J E G hA;have g1:(c:Int)<(K.length:Int):=by omega
   have g2:=jD c;have g3:=ZQ (n:=(c:Int)+1);obtain⟨⟨k,hk,c2⟩,c3⟩:=b7 c hc;have a4:=idx (xs:=K.map FU) (k:=c) (by omega);have a5:=idx (xs:=K.map Gs) (k:=c) (by omega);rw[yB,show FU K[c]=(k:Int)from hk]at a4;rw[yB]at a5;have a6:=AZ (K.map FU) c (by omega);have a7:=AZ (K.map Gs) c (by omega);have a8:=d_ (c:=cQ) (s:=3) qN X c (by omega);have a9:=bZ (c:=cQ) (s:=3) qN X;have c4:c*3+3<=X.length*3:=by omega
   have c5:=bg (c:=cQ) (s:=3) qN (by omega) X c (by omega);have c7:(c:Int)<(X.length:Int):=by omega
   have O:=oM K X s.members.length c;have Y:=aw8 a1 b5 b6 hc;have b2:=a1 _ (zu (l:=X) (n:=c) (by omega));have a0:Jj K X s.members.length (c+1)=(Jj K X s.members.length c).set k ((Jj K X s.members.length c).getD k 0+sgQ K[c].2 (X[c]'(by omega))):=by
    rw[Jj];have e1:K.getD c (0,0)=K[c]:=by rw[zx,zy hc];rfl
    have e2:X.getD c 0=X[c]'(by omega):=by rw[zx,zy (by omega)];rfl
    rw[e1,e2,hk,zF]
   rw[hk,zF]at Y;obtain⟨xc,d8⟩:∃xc,xc=X[c]'(by omega):=⟨_,rfl⟩;rw[<- d8]at a8 b2 a0;obtain⟨sg,c8⟩:∃sg,sg=K[c].2:=⟨_,rfl⟩;have a5:((K.map Gs).flatMap cI)[c]?=some (I sg):=by rw[c8];exact a5
   rw[<- c8]at c3 a0;obtain⟨D,eD⟩:∃D,D=Jj K X s.members.length c:=⟨_,rfl⟩;rw[<- eD]at hA O Y a0;obtain⟨b,d9,b3,t8,hb⟩:=ajI hA (fun e=>by rw[e]at O;simp at O;omega);rw[O]at t8;have d0:=d_ (c:=cQ) (s:=3) qN D k (by omega);have d2:=bZ (c:=cQ) (s:=3) qN D;rw[O]at d2;have d3:k*3+3<=s.members.length*3:=by omega
   have d4:(k:Int)<(s.members.length:Int):=by omega
   have d5:=jD k;obtain⟨d,ed⟩:∃d,d=D.getD k 0:=⟨_,rfl⟩;have d1:((D.flatMap cQ).drop (k*3)).take 3=cQ d:=by
    rw[d0,ed,zx,zy (by omega)];rfl
   rw[<- ed]at Y a0;have n1:¬(0:Int)< -1:=by decide
   have n0:(0:Int)<1:=by decide
   have c9:∀q σ d,stripL (strip σ d) (cQ q)=some (cQ q,[]):=fun q σ d=>qM σ d q
   have fin:∀(v:Rat),v=d+sgQ sg xc->GR (V.rs b 0 s.members.length) (upd σ b (some ⟨(D.set k v).flatMap cQ,3,true⟩)) 1 nx (Jj K X s.members.length (c+1)):=fun v hv=>by
    rw[a0,<- hv];refine .inr ⟨b,fun e=>?_,d9,b3,by rw[yJ,O],by rw[Zi]⟩;have:=congrArg List.length e;rw[yJ,O]at this;have:s.members.length=0:=this;omega
   rcases c3 with rfl|rfl
   .have k5:=ajD d xc Y b2 (by decide)
    have c6:patch (D.flatMap cQ) (k*3) (cQ (d+xc))=(D.set k (d+xc)).flatMap cQ:=iD qN _ _ (by omega) _;refine .inl ⟨_,by simp only[go_sem,t1,t7,t8,J,E,G,hb,b3,g1,g2,g3,a4,a5,a6,a7,a8,a9,c4,c5,c7,hc,el,b9,d1,d2,d3,d4,d5,c2,n0,k5,c6,c9];rfl,?_⟩;simp only[go_sem,t1,t7,t8,J,E,G];exact⟨rfl,fin _ rfl⟩
   .have k5:=ajE d xc Y b2 (by decide)
    have c6:patch (D.flatMap cQ) (k*3) (cQ (d-xc))=(D.set k (d-xc)).flatMap cQ:=iD qN _ _ (by omega) _;refine .inl ⟨_,by simp only[go_sem,t1,t7,t8,J,E,G,hb,b3,g1,g2,g3,a4,a5,a6,a7,a8,a9,c4,c5,c7,hc,el,b9,d1,d2,d3,d4,d5,c2,n1,k5,c6,c9];rfl,?_⟩;simp only[go_sem,t1,t7,t8,J,E,G];refine⟨rfl,fin _ ?_⟩;show d-xc=d+ -xc;grind) (by
   clear hL;rintro ⟨T,σ,nx⟩ ⟨t1,t7,J,E,G,hA⟩;simp only at t1 t7 J E G hA;refine⟨_,by simp only[go_sem,E,G,zl];rfl,by simp,_,_,_,rfl,?_⟩;simp only[go_sem];exact hA) (by
   simp only[go_sem,el];exact d7)
 have k6:=abS (xs:=Jj K X s.members.length K.length) (fun q hq=>(S q hq).mono (by decide)) (by rw[oM];omega);obtain⟨D,eD⟩:∃D,D=Jj K X s.members.length K.length:=⟨_,rfl⟩;rw[<- eD]at h2 k6⊢;rcases h2 with ⟨h3,h4⟩|⟨b,h3,h4,h5,h6,h7⟩
 .rw[h3]at k6⊢
  have k6:fn ZH conv ext 150 [.ts [] 0]=some (Bo true):=k6
  simp only[go_sem,h4,k6];rfl
 .have e0:=fun d=>fC (d:=d) h7 rfl
  have e3:∀t,∃wr,behind σ [b] t b=some ⟨D.flatMap cQ,3,wr⟩:=fun t=>ac4 h7
  have d6:∀t d,strip (behind σ [b] t) (d+1) (.rs b 0 D.length)=some (LL cQ D,[b]):=fun t d=>by
   obtain⟨wr,hw⟩:=e3 t;rw[aS,hw];have a2:=bZ (c:=cQ) (s:=3) qN D;simp only[zi,yX,yY,a2,zq,if_true];rw[zk (by omega),Rk];rfl
  simp only[go_sem,h6,e0,k6,d6]
theorem ajJ{s:Structure}(h:Ar s)(G:okStructure s){l:List Int}(E:Az s.joints.length l):fn ZH conv ext 70 [.agg (cStructure s),LI l]=some (Bo true):=by
 have J:=h.1;have k:=acg s l G (by rw[E.1];unfold maxLen;omega);rw[h_ h,h_ E]at k;exact k
theorem ajK{s:Structure}(h:Ar s)(S:okStructure s){l:List Int}(hl:Az s.joints.length l) :
  (∃qs,qs.length=s.members.length/\(∀q∈qs,Ln 24 q)/\fn ZH qI Af 110 [.agg (cStructure s),LI l]=some (.AP [LL cQ qs,Bo true])/\fn ZH qI Af 97 [.agg (cStructure s),LI l]=some (.AP [LL cQ qs,Bo true]) /\
   ∃x:Nat->Rat,(Ji s l).Best x/\(∀j,j<DN s->Ln 6 (x j))/\qs=O9 s x/\∃T,(Ji s l).Good T/\x=BD (Ji s l).m T) \/
  (fn ZH qI Af 110 [.agg (cStructure s),LI l]=some Vd/\fn ZH qI Af 97 [.agg (cStructure s),LI l]=some Vd/\((Ji s l).None\/(Ji s l).Open)):=by
 have YK:=h.1;have hb:∀x∈l,-100<=x/\x<=100:=fun x J=>kK (hl.2 x J)
 obtain⟨r,k1,hr⟩:=IZ S (l:=l) (by rw[hl.1];unfold maxLen;omega);obtain⟨r0,Y,a1⟩:=am7 h.sg hb;have k3:=ajC h.sg hl.1 hb;have k4:=ajJ h S hl;unfold CZ at Y k3;have n2:((2:Int) !=0)=true:=by decide
 have n3:((3:Int) !=0)=true:=by decide
 have n0:((0:Int) !=0)=false:=by decide
 have a0:r=Vd/\((Ji s l).None\/(Ji s l).Open)\/∃x:Nat->Rat,(Ji s l).Best x/\(∀j,j<DN s->Ln 24 (x j))/\r=Dj (Gi (cols s s.members.length) ((List.range (DN s)).map x) s.members.length (DN s)):=by
  rcases hr with ⟨hn,_⟩|⟨_,_,hr⟩
  .exact absurd ⟨h,hl⟩ hn
  .exact hr
 have no:(Ji s l).None\/(Ji s l).Open->fn ZH qI Af 110 [.agg (cStructure s),LI l]=some Vd:=fun hn=>by
  rcases a0 with ⟨e,_⟩|⟨x,J,_⟩
  .rw[k1,e]
  .rcases hn with hn|hn
   .exact absurd hn J.Xf
   .exact absurd hn (fun S=>Jf J S)
 rcases a1 with ⟨O,hn⟩|⟨O,hn⟩|⟨x,J,E,a3,O,hT⟩
 .refine .inr ⟨no (.inl hn),?_,.inl hn⟩
  rw[O]at Y;unfold Vd;rw[mM,nG [.tmp 4,.tmp 5] [] func97];simp only[go_sem,Y,k3,k4,n2,n3]
 .refine .inr ⟨no (.inr hn),?_,.inr hn⟩
  rw[O]at Y;unfold Vd;rw[mM,nG [.tmp 4,.tmp 5] [] func97];simp only[go_sem,Y,k3,k4,n2,n3]
 .have hn:(Ji s l).n=DN s:=rfl
  rw[hn]at E O;refine .inl ⟨O9 s x,afJ s x,fun q hq=>(Yz E q hq).mono (by decide),?_,?_,x,J,E,rfl,hT⟩
  .rcases a0 with ⟨_,G⟩|⟨x',a2,_,e⟩
   .rcases G with G|G
    .exact absurd G J.Xf
    .exact absurd G (fun S=>Jf J S)
   .have eX:(List.range (DN s)).map x'=(List.range (DN s)).map x:=xO fun j hj=>a2.eq J j (List.mem_range.mp hj)
    rw[k1,e,eX];unfold Dj;rw[ajF E]
  .have k5:=axb h S E
   obtain⟨X,eX⟩:∃X,X=(List.range (DN s)).map x:=⟨_,rfl⟩;obtain⟨v,ev⟩:∃v,v=ob (DN s) (Ji s l).c x:=⟨_,rfl⟩;have O:r0= .agg (I 0 :: LL cQ X :: cQ v):=by rw[eX,ev];exact O
   rw[O]at Y;rw[<- eX]at k5;rw[mM,nG [.tmp 4,.tmp 5] [] func97];have g1:(I 0 :: LL cQ X :: cQ v).length=5:=rfl;have g2:(I 0 :: LL cQ X :: cQ v).all pI=true:=rfl;have g3:(I 0 :: LL cQ X :: cQ v)[0]?=some (I 0):=rfl;have g4:(I 0 :: LL cQ X :: cQ v)[1]?=some (LL cQ X):=rfl;have g5:(I 0 :: LL cQ X :: cQ v).take 5=I 0 :: LL cQ X :: cQ v:=rfl;simp only[go_sem,Y,k3,k4,g1,g2,g3,g4,g5,k5,n0]
theorem ajL{s:Structure}(h:Ar s)(ho:okStructure s){l w:List Int}(hl:Az s.joints.length l)(hw:BA s.members.length w) :
  ∃b,fn ZH qI Af 43 [.agg (cStructure s),LI l,LI w]=some (Bo b)/\fn ZH qI Af 39 [.agg (cStructure s),LI l,LI w]=some (Bo b):=by
 rcases ajK h ho hl with ⟨qs,O,S,G,J,_⟩|⟨G,J,_⟩
 .have Y:=Rn h ho O S hw
  have k4:=afN h ho O S hw;refine⟨Em s qs w,?_,?_⟩
  .cases hb:Em s qs w with
   |true=>
    rw[hb]at Y;have E:fn ZH qI Af 82 [.agg (cStructure s),LI l,LI w]=some (.AP [LL cQ qs,Bo true]):=by
     rw[mM,nG [.tmp 6,.tmp 7] [] func82];simp only[go_sem,G,Y]
    rw[mM,nG [.tmp 6] [] func43];simp only[go_sem,E]
   |false=>
    rw[hb]at Y;have E:fn ZH qI Af 82 [.agg (cStructure s),LI l,LI w]=some (.AP [.ts [] 0,Bo false]):=by
     rw[mM,nG [.tmp 6,.tmp 7] [] func82];simp only[go_sem,G,Y]
    rw[mM,nG [.tmp 6] [] func43];simp only[go_sem,E]
  .cases hb:Em s qs w with
   |true=>
    rw[hb]at k4;have E:fn ZH qI Af 73 [.agg (cStructure s),LI l,LI w]=some (.AP [LL cQ qs,Bo true]):=by
     rw[mM,nG [.tmp 6,.tmp 7] [] func73];simp only[go_sem,J,k4]
    rw[mM,nG [.tmp 6] [] func39];simp only[go_sem,E]
   |false=>
    rw[hb]at k4;have E:fn ZH qI Af 73 [.agg (cStructure s),LI l,LI w]=some (.AP [.ts [] 0,Bo false]):=by
     rw[mM,nG [.tmp 6,.tmp 7] [] func73];simp only[go_sem,J,k4]
    rw[mM,nG [.tmp 6] [] func39];simp only[go_sem,E]
 .refine⟨false,?_,?_⟩
  .have G:fn ZH qI Af 110 [.agg (cStructure s),LI l]=some (.AP [.ts [] 0,Bo false]):=G
   have E:fn ZH qI Af 82 [.agg (cStructure s),LI l,LI w]=some (.AP [.ts [] 0,Bo false]):=by
    rw[mM,nG [.tmp 6,.tmp 7] [] func82];simp only[go_sem,G]
   rw[mM,nG [.tmp 6] [] func43];simp only[go_sem,E]
  .have J:fn ZH qI Af 97 [.agg (cStructure s),LI l]=some (.AP [.ts [] 0,Bo false]):=J
   have E:fn ZH qI Af 73 [.agg (cStructure s),LI l,LI w]=some (.AP [.ts [] 0,Bo false]):=by
    rw[mM,nG [.tmp 6,.tmp 7] [] func73];simp only[go_sem,J]
   rw[mM,nG [.tmp 6] [] func39];simp only[go_sem,E]
theorem axc(k j:Nat):fn ZH conv ext 96 [.ts [I k] 1,I j]=some (Bo (decide (j=k))):=by
 rw[mM,nG [.tmp 4] [] func96];simp only[go_sem];generalize Y:dI _ _=y;obtain⟨x,rfl,hx⟩:=pF Y 1 (fun i st=>st.T 1=I j/\st.T 7= .ts [I k] 1/\st.T 8=I 1/\st.T 9=I i/\(i=1->j≠k))
  (fun x=>∃T σ nx,(x=(.exit 0,⟨T,σ,nx⟩)/\j≠k)\/(x=(.ret,⟨T,σ,nx⟩)/\T 4=Bo true/\j=k)) (by
   clear Y;rintro i ⟨T,σ,nx⟩ hi ⟨J,O,G,E,h⟩;simp only at J O G E;have:i=0:=by omega
   subst this;have E:T 9=I 0:=E;have S:(0:Int)<1:=by decide
   have f3:=ZQ (n:=(0:Int)+1);have f0:(0:Int)<=0:=by decide
   have f4:([I (k:Int)]:List V)[Int.toNat 0]?=some (I k):=rfl
   by_cases e:j=k
   .have e':((k:Int)==(j:Int))=true:=by rw[e];simp
    refine .inr ⟨_,by simp only[go_sem,J,O,G,E,f0,S,f4,e'];rfl,by simp,_,_,_,.inr ⟨rfl,by simp only[go_sem],e⟩⟩
   .have e':((k:Int)==(j:Int))=false:=by rw[sQ];omega
    refine .inl ⟨_,by simp only[go_sem,J,O,G,E,f0,S,f3,f4,e'];rfl,?_⟩;simp only[go_sem,J,O,G];exact⟨rfl,fun _=>e⟩) (by
   clear Y;rintro ⟨T,σ,nx⟩ ⟨J,O,G,E,h⟩;simp only at J O G E;have E:T 9=I 1:=E;have S:¬(1:Int)<1:=by decide
   exact⟨_,by simp only[go_sem,G,E,S];rfl,by simp,_,_,_,.inl ⟨rfl,h rfl⟩⟩) (by
   simp only[go_sem];exact fun h=>absurd h (by decide))
 obtain⟨T,σ,nx,⟨rfl,hm⟩|⟨rfl,t4,hm⟩⟩:=hx
 .rw[sN hm]
  simp only[go_sem]
 .rw[sO hm]
  simp only[go_sem,t4]
theorem ajM{s:Structure}(h:Ar s)(k:Nat)(hk:k<s.members.length):fn ZH conv ext 72 [.agg (cStructure s),.ts [I k] 1]=some (.agg (cStructure (del s k))):=by
 have b6:=h.2.1;have YK:=h.1;have b7:0<s.joints.length:=by
  have:=h.sg.mr k hk;obtain⟨r1,r2,_⟩:=this;omega
 have z1:¬s.joints.length=0:=by omega
 have s1:s.joints.length<=maxLen/\s.joints.length*40<=140737488355328:=by unfold maxLen;omega
 have s2:=KQ s.joints;have s3:=EN s.joints;rw[mM,nG [.cell 4 34] [] func72];simp only[go_sem,z1,s1,s2,s3];generalize hL:dI _ _=y;obtain⟨x,rfl,T,σ,nx,rfl,S,Y,J,w,h1,h2,h3,hg,hw⟩:=pF hL s.members.length (fun j st=>st.T 1= .ts [I k] 1/\st.T 4= .rp 1 0/\st.T 5= .rp 3 0/\st.T 14=LL cMember s.members/\st.T 15=I s.members.length/\st.T 16=I j/\3<st.nx/\∃w,st.σ 1=some ⟨[.nil,.nil],0,true⟩/\st.σ 2=some ⟨s.joints.flatMap cJoint,4,true⟩/\st.σ 3=some ⟨[.rs 2 0 s.joints.length,w],0,true⟩/\Cj cMember 3 (fun _=>w) st.σ st.nx 0 (DV s.members k j)/\∀b o l,w= .rs b o l->3<b)
  (fun x=>∃T σ nx,x=(.exit 0,⟨T,σ,nx⟩)/\T 4= .rp 1 0/\T 5= .rp 3 0/\3<nx/\∃w,σ 1=some ⟨[.nil,.nil],0,true⟩/\σ 2=some ⟨s.joints.flatMap cJoint,4,true⟩/\σ 3=some ⟨[.rs 2 0 s.joints.length,w],0,true⟩/\Cj cMember 3 (fun _=>w) σ nx 0 (DV s.members k s.members.length)/\∀b o l,w= .rs b o l->3<b) (by
   clear hL;rintro j ⟨T,σ,nx⟩ hj ⟨t1,S,Y,G,E,O,J,w,h1,h2,h3,hg,hw⟩;simp only at t1 S Y G E O J h1 h2 h3 hg;have f1:(j:Int)<(s.members.length:Int):=by omega
   have f2:=jD j;have f3:=ZQ (n:=(j:Int)+1);have f4:=Lc s.members j hj;have f5:=Gg s.members;have f6:j*3+3<=s.members.length*3:=by omega
   have f9:=Lh s.members j hj;have k2:=axc k j;have hle:=Yd s.members k j;have y1:¬3=nx:=by omega
   have y2:¬nx=3:=by omega
   obtain⟨m1,em⟩:∃m1,m1=s.members[j]:=⟨_,rfl⟩;rw[<- em]at f4
   by_cases a0:j=k
   .rw[sO a0]at k2
    refine .inl ⟨_,by simp only[go_sem,t1,S,Y,G,E,O,f1,f2,f3,f4,f5,f6,f9,hj,k2];rfl,?_⟩;simp only[go_sem,t1,S,Y,G,E];have ek:DV s.members k (j+1)=DV s.members k j:=by subst a0;exact ac8 hj
    rw[ek];refine⟨rfl,by omega,w,?_,?_,?_,lC hg _,hw⟩
    .rw[Zk];exact h1
    .rw[Zk];exact h2
    .rw[Zk];exact h3
   .rw[sN a0]at k2
    have a6:=lC hg (some ⟨cMember m1,0,true⟩);obtain⟨σ',ha,hs,a7⟩:=ku (c:=cMember) (s:=3) (bytes:=24) (fun _=>rfl) (fun _=>rfl) (by decide) a6 m1 (by omega) (by decide);have q1:∀q,q<nx->(∀b o l,w= .rs b o l->q≠b)->σ' q=σ q:=fun q hq a8=>by
     rw[a7 q (by omega) (fun b o l h=>a8 b o l h),Zk]
    have q3:σ' 3=some ⟨[.rs 2 0 s.joints.length,w],0,true⟩:=by rw[q1 3 J (fun b o l h e=>by have:=hw b o l h;omega)];exact h3
    have q2:σ' 2=some ⟨s.joints.flatMap cJoint,4,true⟩:=by rw[q1 2 (by omega) (fun b o l h e=>by have:=hw b o l h;omega)];exact h2
    have a9:σ' 1=some ⟨[.nil,.nil],0,true⟩:=by rw[q1 1 (by omega) (fun b o l h e=>by have:=hw b o l h;omega)];exact h1
    refine .inl ⟨_,by simp only[go_sem,t1,S,Y,G,E,O,f1,f2,f3,f4,f5,f6,f9,hj,k2,y1,y2,h3,ha,q3];rfl,?_⟩;simp only[go_sem,t1,S,Y,G,E];rw[Yc hj a0,<- em];refine⟨rfl,by omega,_,?_,?_,rfl,?_,?_⟩
    .exact a9
    .exact q2
    .refine .inr ⟨nx+1+1,by rw[zo];rfl,by simp,?_,by omega⟩
     rw[Zk];exact hs
    .intro b o l hb
     cases hb;omega) (by
   clear hL;rintro ⟨T,σ,nx⟩ ⟨t1,S,Y,G,E,O,J,w,h1,h2,h3,hg,hw⟩;simp only at t1 S Y G E O J h1 h2 h3 hg;exact⟨_,by simp only[go_sem,E,O,zl];rfl,by simp,_,_,_,rfl,by simp only[go_sem,S],by simp only[go_sem,Y],J,w,h1,h2,h3,hg,hw⟩) (by
   simp only[go_sem];exact⟨_,rfl,.inl ⟨rfl,rfl⟩,fun b o l h=>by cases h⟩)
 have ek:DV s.members k s.members.length=(del s k).members:=by
  unfold DV del;rw[yg]
 rw[ek]at hg;have cw:pI w=true:=by
  rcases hg with ⟨a,_⟩|⟨b,a,_⟩
  .have a:w= .nil:=a
   rw[a];rfl
  .have a:w= .rs b 0 _:=a
   rw[a];rfl
 obtain⟨a5,b2⟩:∃a5,stripL (strip (upd σ 1 (some ⟨[.rs 2 0 s.joints.length,w],0,true⟩)) 6) [.rs 2 0 s.joints.length,w]=some ([LL cJoint s.joints,LL cMember (del s k).members],a5):=by
  have b3:strip (upd σ 1 (some ⟨[.rs 2 0 s.joints.length,w],0,true⟩)) 6 (.rs 2 0 s.joints.length)=some (LL cJoint s.joints,[2]):=by
   rw[aS,Zj _ _ (by decide),h2];simp only[zi,yX,yY,s3,zq,if_true];rw[zk (by omega),aY (fun x=>by rw[au,aQ,au,aQ,au,aQ,au,aQ,aZ];rfl)];rfl
  have b4:Cj cMember 3 (fun _=>w) (upd σ 1 (some ⟨[.rs 2 0 s.joints.length,w],0,true⟩)) nx 0 (del s k).members:=by
   rcases hg with ⟨a,b⟩|⟨b,a1,a2,a3,a4⟩
   .exact .inl ⟨a,b⟩
   .exact .inr ⟨b,a1,a2,by rw[Zj _ _ (by have:=hw _ _ _ a1;omega)];exact a3,a4⟩
  obtain⟨is,b5⟩:=kX (c:=cMember) (s:=3) (fun _=>rfl) 5 (fun x=>by rw[au,aQ,au,aQ,au,aQ,aZ];rfl) b4;refine⟨[2]++(is++[]),?_⟩;rw[au,b3,au,b5,aZ];rfl
 simp only[go_sem,S,Y,h1,h3,b2,cw];rfl
theorem O_{s:Structure}(h:Ar s)(E:okStructure s){l w:List Int}(G:Az s.joints.length l)(hw:BA s.members.length w) :
  fn ZH qI Af 39 [.agg (cStructure s),LI l,LI w]=some (Bo (pb (DW s l w))):=by
 obtain⟨b,k,J⟩:=ajL h E G hw;rw[J];cases b with
 |true=>
  have:DW s l w:=k;rw[h_ this]
 |false=>
  have:¬DW s l w:=fun e=>by unfold DW at e;rw[k]at e;cases e
  rw[iC this]
theorem YD{s:Structure}(h:Ar s)(ho:okStructure s){l w:List Int}(hl:Az s.joints.length l)(hw:BA s.members.length w) :
  fn ZH qI Af 38 [.agg (cStructure s),LI l,LI w]=some (Bo (I8 s l w)):=by
 have k1:=O_ h ho hl hw;have b5:=h.2.1;have YK:=h.1;have a0:=hw.1;unfold I8;rw[mM,nG [.tmp 6] [6] func38];cases hs:pb (DW s l w)with
 |false=>
  rw[hs]at k1;simp only[go_sem,k1]
 |true=>
  rw[hs]at k1;simp only[go_sem,k1];generalize hL:dI _ _=y;obtain⟨x,rfl,hx⟩:=pF hL s.members.length (fun j st=>st.T 1=LI l/\st.T 2=LI w/\st.T 3= .rp 0 0/\st.T 16=I s.members.length/\st.T 17=I j/\0<st.nx/\st.σ 0=some ⟨cStructure s,0,true⟩/\upto s l w j=true)
   (fun x=>∃T σ nx,(x=(.exit 0,⟨T,σ,nx⟩)/\upto s l w s.members.length=true)\/(x=(.ret,⟨T,σ,nx⟩)/\T 6=Bo false/\upto s l w s.members.length=false)) (by
    clear hL;rintro j ⟨T,σ,nx⟩ hj ⟨t1,t2,t3,J,Y,a4,O,hu⟩;simp only at t1 t2 t3 J Y a4 O;have f1:(j:Int)<(s.members.length:Int):=by omega
    have f2:=jD j;have f3:=ZQ (n:=(j:Int)+1);have k2:=ajM h j hj;obtain⟨S,eS⟩:∃S,S=del s j:=⟨_,rfl⟩;rw[<- eS]at k2;have hlen:(w.eraseIdx j).length=s.members.length-1:=by rw[yR (by omega),a0]
    have a8:S.joints=s.joints:=by rw[eS];rfl
    have a9:S.members.length=s.members.length-1:=by
     rw[eS];unfold del;exact yR hj
    have k5:=O_ (s:=S) (l:=l) (w:=w.eraseIdx j) (by rw[eS];exact ai6 h j) (by rw[eS];exact ac7 ho j) (by rw[a8];exact hl) (by rw[a9];exact Rt hw hj);have us:=upto_succ s l w j;rw[<- eS]at us;have a5:w.eraseIdx j=w.take j++w.drop (j+1):=uz ..;have e1:(w.flatMap cI).take j=(w.take j).flatMap cI:=qP ..;have e2:((w.flatMap cI).drop (j+1)).take (s.members.length - (j+1))=(w.drop (j+1)).flatMap cI:=by
     have:(w.flatMap cI).drop (j+1)=(w.drop (j+1)).flatMap cI:=by rw[jS,<- List.map_drop,<- jS]
     rw[this,zk (by rw[qR,zN];omega)]
    have i2:((j:Int)+1).toNat=j+1:=by omega
    have i1:(0:Int)<=(j:Int)+1:=by omega
    have i4:j+1<=s.members.length:=hj;have i5:j<=s.members.length:=by omega
    have c1:=qU (w.take j);have l1:(w.take j).length=j:=by rw[zh];omega
    have l2:(w.drop (j+1)).length=s.members.length - (j+1):=by rw[zN];omega
    have c2:=qU (w.drop (j+1));have y1:nx<nx+1:=by omega
    by_cases a6:j=0
    .have z0:(j=0)=True:=eq_true a6
     have w0:w.take j=[]:=by rw[a6];rfl
     by_cases a7:j+1=s.members.length
     .have m1:(s.members.length - (j+1)=0)=True:=eq_true (by omega)
      have a2:w.eraseIdx j=[]:=zZ (by omega);obtain⟨σ2,e4⟩:∃σ2,σ2=σ:=⟨_,rfl⟩;have b2:σ2 0=some ⟨cStructure s,0,true⟩:=by rw[e4];exact O
      obtain⟨E,e3⟩:∃E,E=upd σ2 (nx) (some ⟨[I j],1,flat 7 (.agg (cStructure S))⟩):=⟨_,rfl⟩;have b3:E 0=some ⟨cStructure s,0,true⟩:=by rw[e3,Zk];exact b2
      have st:∀d,strip E (d+1) .nil=some (LI (w.eraseIdx j),[]):=fun d=>by rw[a2,aT];rfl
      cases G:pb (DW S l (w.eraseIdx j))with
      |true=>
       rw[G]at k5 us;refine .inl ⟨_,by simp only[go_sem,t1,t2,t3,J,Y,O,a0,f1,f2,f3,e1,e2,i1,i2,i4,i5,c1,c2,l1,l2,k2,k5,st,y1,z0,m1,<- e4,b2,<- e3,b3];rfl,?_⟩;simp only[go_sem,t1,t2,t3,J,b3];exact⟨rfl,by omega,by rw[us,hu];rfl⟩
      |false=>
       rw[G]at k5;refine .inr ⟨_,by simp only[go_sem,t1,t2,t3,J,Y,O,a0,f1,f2,f3,e1,e2,i1,i2,i4,i5,c1,c2,l1,l2,k2,k5,st,y1,z0,m1,<- e4,b2,<- e3,b3];rfl,by simp,_,_,_,.inr ⟨rfl,by simp only[go_sem],?_⟩⟩;rw[eS]at G;exact Zg hj G
     .have m1:¬s.members.length - (j+1)=0:=by omega
      have a2:w.eraseIdx j=w.drop (j+1):=by rw[a5,w0,yK]
      have s1:s.members.length - (j+1)<=maxLen/\(s.members.length - (j+1))*8<=140737488355328:=by unfold maxLen;omega
      obtain⟨σ2,e4⟩:∃σ2,σ2=upd σ nx (some ⟨(w.drop (j+1)).flatMap cI,1,true⟩):=⟨_,rfl⟩;have b2:σ2 0=some ⟨cStructure s,0,true⟩:=by rw[e4,Zk];exact O
      have x2:nx<nx+1+1:=by omega
      obtain⟨E,e3⟩:∃E,E=upd σ2 (nx+1) (some ⟨[I j],1,flat 7 (.agg (cStructure S))⟩):=⟨_,rfl⟩;have b3:E 0=some ⟨cStructure s,0,true⟩:=by rw[e3,Zk];exact b2
      have st:∀d,strip E (d+1) (.rs nx 0 (s.members.length - (j+1)))=some (LI (w.eraseIdx j),[nx]):=fun d=>by rw[a2];exact kJ (by rw[e3,Zk,e4,Zi]) (by omega) d
      cases G:pb (DW S l (w.eraseIdx j))with
      |true=>
       rw[G]at k5 us;refine .inl ⟨_,by simp only[go_sem,t1,t2,t3,J,Y,O,a0,f1,f2,f3,e1,e2,i1,i2,i4,i5,c1,c2,l1,l2,k2,k5,st,y1,z0,m1,s1,<- e4,x2,b2,<- e3,b3];rfl,?_⟩;simp only[go_sem,t1,t2,t3,J,b3];exact⟨rfl,by omega,by rw[us,hu];rfl⟩
      |false=>
       rw[G]at k5;refine .inr ⟨_,by simp only[go_sem,t1,t2,t3,J,Y,O,a0,f1,f2,f3,e1,e2,i1,i2,i4,i5,c1,c2,l1,l2,k2,k5,st,y1,z0,m1,s1,<- e4,x2,b2,<- e3,b3];rfl,by simp,_,_,_,.inr ⟨rfl,by simp only[go_sem],?_⟩⟩;rw[eS]at G;exact Zg hj G
    .have z0:¬j=0:=a6
     have s1:j<=maxLen/\j*8<=140737488355328:=by unfold maxLen;omega
     by_cases a7:j+1=s.members.length
     .have m1:s.members.length - (j+1)=0:=by omega
      have w0:w.drop (j+1)=[]:=xk (by omega);have a2:w.eraseIdx j=w.take j:=by rw[a5,w0,zK]
      obtain⟨σ2,e4⟩:∃σ2,σ2=upd σ nx (some ⟨(w.take j).flatMap cI,1,true⟩):=⟨_,rfl⟩;have b2:σ2 0=some ⟨cStructure s,0,true⟩:=by rw[e4,Zk];exact O
      have a1:=XI (restrict σ2 [nx]) (nx+1) 1 8 nx 0 j [] (B:=⟨(w.take j).flatMap cI,1,true⟩) (by rw[fH,e4,Zi]);have x2:nx<nx+1+1:=by omega
      obtain⟨E,e3⟩:∃E,E=upd σ2 (nx+1) (some ⟨[I j],1,flat 7 (.agg (cStructure S))⟩):=⟨_,rfl⟩;have b3:E 0=some ⟨cStructure s,0,true⟩:=by rw[e3,Zk];exact b2
      have st:∀d,strip E (d+1) (.rs nx 0 j)=some (LI (w.eraseIdx j),[nx]):=fun d=>by rw[a2];exact kJ (by rw[e3,Zk,e4,Zi]) (by omega) d
      cases G:pb (DW S l (w.eraseIdx j))with
      |true=>
       rw[G]at k5 us;refine .inl ⟨_,by simp only[go_sem,t1,t2,t3,J,Y,O,a0,f1,f2,f3,e1,e2,i1,i2,i4,i5,c1,c2,l1,l2,k2,k5,st,y1,z0,m1,s1,<- e4,a1,x2,b2,<- e3,b3];rfl,?_⟩;simp only[go_sem,t1,t2,t3,J,b3];exact⟨rfl,by omega,by rw[us,hu];rfl⟩
      |false=>
       rw[G]at k5;refine .inr ⟨_,by simp only[go_sem,t1,t2,t3,J,Y,O,a0,f1,f2,f3,e1,e2,i1,i2,i4,i5,c1,c2,l1,l2,k2,k5,st,y1,z0,m1,s1,<- e4,a1,x2,b2,<- e3,b3];rfl,by simp,_,_,_,.inr ⟨rfl,by simp only[go_sem],?_⟩⟩;rw[eS]at G;exact Zg hj G
     .have m1:¬s.members.length - (j+1)=0:=by omega
      obtain⟨a3,e5⟩:∃a3,a3=upd σ nx (some ⟨(w.take j).flatMap cI,1,true⟩):=⟨_,rfl⟩;have a1:=rH (σ:=restrict a3 [nx]) (nx:=nx+1) (bytes:=8) (b:=nx) (len:=j) (m:=s.members.length - (j+1)) (row:=(w.drop (j+1)).flatMap cI) (B:=⟨(w.take j).flatMap cI,1,true⟩) (by rw[fH,e5,Zi]) (by show((w.take j).flatMap cI).length=_;rw[qR,l1]) rfl m1 (by unfold maxLen;omega) (by omega) c2;obtain⟨σ2,e4⟩:∃σ2,σ2=wI [nx] (nx+1) (nx+1+1) a3 (upd (upd (restrict a3 [nx]) nx none) (nx+1) (some ⟨(w.take j).flatMap cI++(w.drop (j+1)).flatMap cI,1,true⟩)):=⟨_,rfl⟩;have b2:σ2 0=some ⟨cStructure s,0,true⟩:=by
       rw[e4];unfold wI;rw[sW (by simp;omega),e5,Zk];exact O
      have b4:σ2 (nx+1)=some ⟨(w.take j).flatMap cI++(w.drop (j+1)).flatMap cI,1,true⟩:=by
       rw[e4];unfold wI;rw[sS (.inr ⟨zq _,by omega⟩),Zi]
      have x2:nx+1<nx+1+1:=by omega
      have x3:nx+1<nx+1+1+1:=by omega
      obtain⟨E,e3⟩:∃E,E=upd σ2 (nx+1+1) (some ⟨[I j],1,flat 7 (.agg (cStructure S))⟩):=⟨_,rfl⟩;have b3:E 0=some ⟨cStructure s,0,true⟩:=by rw[e3,Zk];exact b2
      have st:∀d,strip E (d+1) (.rs (nx+1) 0 (j+(s.members.length - (j+1))))=some (LI (w.eraseIdx j),[nx+1]):=fun d=>kJ (by rw[e3,Zk,b4,<- zU,<- a5]) (by omega) d
      cases G:pb (DW S l (w.eraseIdx j))with
      |true=>
       rw[G]at k5 us;refine .inl ⟨_,by simp only[go_sem,t1,t2,t3,J,Y,O,a0,f1,f2,f3,e1,e2,i1,i2,i4,i5,c1,c2,l1,l2,k2,k5,st,y1,z0,m1,s1,<- e4,<- e5,a1,x2,x3,b2,<- e3,b3];rfl,?_⟩;simp only[go_sem,t1,t2,t3,J,b3];exact⟨rfl,by omega,by rw[us,hu];rfl⟩
      |false=>
       rw[G]at k5;refine .inr ⟨_,by simp only[go_sem,t1,t2,t3,J,Y,O,a0,f1,f2,f3,e1,e2,i1,i2,i4,i5,c1,c2,l1,l2,k2,k5,st,y1,z0,m1,s1,<- e4,<- e5,a1,x2,x3,b2,<- e3,b3];rfl,by simp,_,_,_,.inr ⟨rfl,by simp only[go_sem],?_⟩⟩;rw[eS]at G;exact Zg hj G) (by
    rintro ⟨T,σ,nx⟩ ⟨t1,t2,t3,J,Y,a4,O,hu⟩;simp only at t1 t2 t3 J Y a4 O;exact⟨_,by simp only[go_sem,J,Y,zl];rfl,by simp,_,_,_,.inl ⟨rfl,hu⟩⟩) (by
    simp only[go_sem];rfl)
  obtain⟨T,σ,nx,⟨rfl,hu⟩|⟨rfl,t6,hu⟩⟩:=hx
  .rw[hu]
   simp only[go_sem]
  .rw[hu]
   simp only[go_sem,t6]
theorem YE(t:Stance)(G:okStance t)(strict:Bool):fn ZH qI Af 11 [.agg (cStance t),Bo strict]=some (Bo (I9 t strict)):=by
 have E:=Qw t G;unfold I9;rw[mM,nG [.tmp 4] [] func11];cases hs:CO t with
 |false=>
  rw[hs]at E;simp only[go_sem,E]
 |true=>
  rw[hs]at E;obtain⟨J,O,S⟩:=I_ hs;have Y:=YD J G.2.1 O S;have k3:=O_ J G.2.1 O S;cases strict with
  |true=>simp only[go_sem,E,Y]
  |false=>simp only[go_sem,E,k3]
theorem abW(y:Yard)(ho:okYard y)(G5:y.stances.length<=6):fn ZH qI Af 48 [.agg (cYard y)]=some (LL CQ (Ae y)):=by
 have a5:=dK y;rw[mM,nG [.tmp 2] [] func48];simp only[go_sem];generalize Y:dI _ _=z;obtain⟨r,rfl,T',σ',nx',rfl,G⟩:=pF Y y.stances.length (fun k s=>1<=s.nx/\s.T 1= .rp 0 0/\s.T 8=LL cStance y.stances/\s.T 9=I y.stances.length/\s.T 10=I k/\s.σ 0=some ⟨cYard y,0,true⟩/\Cj CQ 1 s.T s.σ s.nx 3 ((Ae y).take k)/\∀b o l,s.T 3= .rs b o l->1<=b)
  (fun r=>∃T σ nx',r=(.exit 0,⟨T,σ,nx'⟩)/\Cj CQ 1 T σ nx' 3 (Ae y)) (by
   clear Y;rintro k ⟨T,σ,m⟩ hk ⟨hm,O,S,J,E,hs,G,hb⟩;simp only at hm O S J E hs G hb;have a0:k<(Ae y).length:=by omega
   have f1:(k:Int)<(y.stances.length:Int):=by omega
   have f2:=jD k;have f3:=ZQ (n:=(k:Int)+1);have f4:=Td y.stances k hk;have f5:=Il y.stances;have f6:k*5+5<=y.stances.length*5:=by omega
   have f9:=Tf y.stances k hk;have k1:=YE y.stances[k] (ho.1.1 _ (zu hk)) y.strict;have es:(Ae y)[k]=I9 y.stances[k] y.strict:=by simp[Ae]
   have z1:¬0=m:=by omega
   have z2:¬m=0:=by omega
   obtain⟨t,et⟩:∃t,t=y.stances[k]:=⟨_,rfl⟩;rw[<- et]at f4 k1 es;obtain⟨sb,eb⟩:∃sb,sb=I9 t y.strict:=⟨_,rfl⟩;rw[<- eb]at k1 es;have a1:=lC G (some ⟨cStance t,0,true⟩);obtain⟨σ',ha,a2,a3⟩:=ku (c:=CQ) (s:=1) (bytes:=1) (fun _=>rfl) (fun _=>rfl) (by decide) a1 sb (by rw[zh];omega) (by decide);have q0:σ' 0=some ⟨cYard y,0,true⟩:=by rw[a3 0 (by omega) (fun b o l h e=>by have:=hb b o l h;omega),Zk];exact hs
   refine .inl ⟨_,by simp only[go_sem,O,S,J,E,hs,f1,f2,f3,f4,f5,f6,f9,k1,ha,z1,z2];rfl,?_⟩;simp only[go_sem,O,S,J];rw[aJ a0,es];refine⟨rfl,q0,kY a2 (by simp only[go_sem,zo]) (by simp),fun b o l h=>by(cases h;omega)⟩) (by
   clear Y;rintro ⟨T,σ,m⟩ ⟨hm,O,S,J,E,hs,G,hb⟩;simp only at hm O S J E hs G hb;rw[zk (by omega)]at G;exact⟨_,by simp only[go_sem,J,E,zl];rfl,by simp,_,_,_,rfl,X3 (by simp only[go_sem]) G⟩) (by
   simp only[go_sem];exact⟨.inl ⟨by simp only[go_sem],rfl⟩,fun b o l h=>by cases h⟩)
 obtain⟨ids,a4⟩:=kX (c:=CQ) (s:=1) (fun _=>rfl) 6 (fun x=>by rw[au,aQ,aZ];rfl) G;simp only[go_sem,a4]
end Go.Proofs.YtehdaknhabeiaaaGreat
namespace Go.Proofs.YtehdaknhabeiaaaGreat
open Go Go.TV
def ajN(b:Nat):List Nat:=[b,b+1,b+2,b+3]
theorem Gz.stripL{σ:Store}{b:Nat}{s:Stance}(h:Gz σ b s)(d:Nat):TV.stripL (TV.strip σ (d+2)) (PO b s)=some (cStance s,ajN b):=by
 have G:DC (TV.own σ 1) (PO b s)=some (cStance s,[b,b+1,b+2,b+3]):=h.own 0;have J:TV.own σ 2 (.agg (PO b s))=some (.agg (cStance s),ajN b):=by
  unfold TV.own;simp only[G];rfl
 have E:=iL 2 _ _ _ J (d+3) (by omega);rw[aW]at E;obtain⟨p,hp,e⟩:=Au E;obtain⟨a,b⟩:=p;simp only[sZ,V.agg.injEq]at e;rw[hp,<- e.1,<- e.2]
theorem Pe{σ E:Store}{lo hi b:Nat}(G:lo<=b)(J:b<hi):wI [] lo hi σ E b=E b:=by
 unfold wI;rw[sS (.inr ⟨G,J⟩)]
theorem J_{σ E:Store}{lo hi b:Nat}(h:b<lo):wI [] lo hi σ E b=σ b:=by
 unfold wI;rw[sW (by simp;omega)]
theorem YF{E:Array Edge}{ids:List Nat}:∀ {acc:List (Nat×Bool×List Nat)},(acc.all fun p=> !p.2.1)=true->okG E false ids acc=true
 |[],_=>rfl
 |p :: acc,h=>by
  rw[uO,zB]at h;have G:p.2.1=false:=by simpa using h.1
  unfold okG;rw[G,YF h.2];rfl
theorem Pg{E:Array Edge}{ids:List Nat}{acc:List (Nat×Bool×List Nat)}(h:(acc.all fun p=> !p.2.1)=true):okF E acc false ids=true:=by
 cases ids with
 |nil=>rfl
 |cons b G=>exact YF h
theorem BR.stripL{σ:Store}{n:Nat}{y:Yard}(h:BR σ n y)(d:Nat):TV.stripL (TV.strip σ (d+2)) (Bv n y)=some (cYard y,Eo n y):=by
 have:=h.strip d;rw[aW]at this;obtain⟨p,hp,e⟩:=Au this;obtain⟨a,b⟩:=p;simp only[sZ,V.agg.injEq]at e;rw[hp,<- e.1,<- e.2]
theorem Ph{n:Nat}{y:Yard}{b:Nat}(h:b<n\/n+2+10*y.stances.length<=b):(Eo n y).contains b=false:=by
 rw[Bool.eq_false_iff];intro hc;have:=WZ (List.contains_iff_mem.mp hc);omega
theorem ZM{n m:Nat}{y:Yard}(h:n+2+10*y.stances.length<=m):((Eo n y).all fun b=>decide (b<m))=true:=by
 rw[uU];intro b hb;have:=WZ hb;simp only[decide_eq_true_eq];omega
open Go.Plan
attribute [-go_sem] rD
def Jg(al:List Bool)(E:Int)(i:Nat):Bool:=Dt al i && !((i:Int)==E)
theorem aq3{al:List Bool}{E:Int}{i:Nat}(h:Jg al E i=true):i<al.length:=by
 unfold Jg at h;rw[zB]at h;exact rM h.1
theorem abX(al:List Bool):Jg al (-1)=Dt al:=by
 funext i;unfold Jg;have:((i:Int)== -1)=false:=by rw[sQ];omega
 rw[this];simp
theorem am9(al:List Bool)(k:Nat):Jg al (k:Int)=Dt (al.set k false):=by
 funext i;unfold Jg Dt;rw[zx,zx,List.getElem?_set]
 by_cases e:k=i
 .subst e
  simp
  by_cases h:k<al.length<;>simp[h]
 .have:((i:Int)==(k:Int))=false:=by rw[sQ];omega
  rw[this,sW e];simp
def adn(y:Yard)(al:Nat->Bool)(to r j:Nat)(i:Nat):Prop:=∃q,∃h:q<y.moves.length,q<j/\∃b:Nat,y.moves[q]=⟨(i:Int),(b:Int)⟩/\dst (DK y) al to b=(r:Int)
theorem U7(y:Yard)(hg:AA y)(to:Nat)(c5:to<y.stances.length)(al:List Bool)(d0:al.length=y.stances.length)(Y:Int) :
  fn ZH conv ext 62 [.agg (cYard y),LL CQ al,I to,I Y]=some (LI (A8 y.stances.length (dst (DK y) (Jg al Y) to))):=by
 have G5:=hg.1;have e5:=hg.2.1;rw[mM,nG [.tmp 8] [] func62];simp only[go_sem];generalize hL:dI _ _=z;obtain⟨x,rfl,T,σ,nx,rfl,O,t2,S,t4,J,G,hG,hb⟩:=pF hL y.stances.length (fun k st=>st.T 1=LL CQ al/\st.T 2=I to/\st.T 3=I Y/\st.T 4= .rp 0 0/\st.T 16=I y.stances.length/\st.T 17=I k/\1<=st.nx/\st.σ 0=some ⟨cYard y,0,true⟩/\Grow st.T st.σ st.nx 9 (List.replicate k (-1))/\∀b o l,st.T 9= .rs b o l->1<=b)
  (fun x=>∃T σ nx,x=(.exit 0,⟨T,σ,nx⟩)/\T 1=LL CQ al/\T 2=I to/\T 3=I Y/\T 4= .rp 0 0/\1<=nx/\σ 0=some ⟨cYard y,0,true⟩/\Grow T σ nx 9 (List.replicate y.stances.length (-1))/\∀b o l,T 9= .rs b o l->1<=b) (by
   clear hL;rintro k ⟨T,σ,nx⟩ hk ⟨O,t2,S,t4,a4,a7,J,G,hG,hb⟩;simp only at O t2 S t4 a4 a7 J G hG hb;have f1:(k:Int)<(y.stances.length:Int):=by omega
   have f3:=ZQ (n:=(k:Int)+1);obtain⟨σ',ha,hs,hf⟩:=kT hG (-1) (by rw[yj];omega);rw[yj]at ha;have q0:σ' 0=some ⟨cYard y,0,true⟩:=by rw[hf 0 (by omega) (fun b o l h e=>by have:=hb b o l h;omega)];exact G
   refine .inl ⟨_,by simp only[go_sem,a4,a7,f1,f3,ha];rfl,?_⟩;simp only[go_sem,O,t2,S,t4,a4];rw[uo];refine⟨rfl,q0,kR hs (by simp only[go_sem,zo,yj]) (by simp),fun b o l h=>by(cases h;omega)⟩) (by
   clear hL;rintro ⟨T,σ,nx⟩ ⟨O,t2,S,t4,a4,a7,J,G,hG,hb⟩;simp only at O t2 S t4 a4 a7 J G hG hb;exact⟨_,by simp only[go_sem,a4,a7,zl];rfl,by simp,_,_,_,rfl,by simp only[go_sem,O],by simp only[go_sem,t2],by simp only[go_sem,S],by simp only[go_sem,t4],J,G,kS (by simp only[go_sem]) hG,by simpa only[go_sem]using hb⟩) (by
   simp only[go_sem];exact⟨.inl ⟨by simp only[go_sem],rfl⟩,fun b o l h=>by cases h⟩)
 clear hL;obtain⟨n,en⟩:∃n,n=y.stances.length:=⟨_,rfl⟩;rw[<- en]at hG c5 d0 G5;obtain⟨b,t9,c6,e6,c7⟩:∃b,T 9= .rs b 0 n/\σ b=some ⟨(A8 n (fun _=> -1)).flatMap cI,1,true⟩/\1<=b/\b<nx:=by
  rcases hG with ⟨_,h⟩|⟨b,h1,h2,h3,h4⟩
  .have:=congrArg List.length h
   rw[yj]at this;simp at this;omega
  .rw[yj]at h1
   exact⟨b,h1,by rw[OL];exact h3,hb b 0 n h1,h4⟩
 have fin:∀(σ:Store) (out:Nat->Int) (d:Nat),σ b=some ⟨(A8 n out).flatMap cI,1,true⟩->strip σ (d+1) (.rs b 0 n)=some (LI (A8 n out),[b]):=fun σ out d h=>kJ h (jo n out) d
 have d1:(to:Int)<(n:Int):=by omega
 have d2:=jD to;have a5:to<al.length:=by omega
 have d3:(al.flatMap CQ)[to]?=some (Bo (Dt al to)):=by rw[rO a5];exact cu (fun b=>Bo b) al to a5
 have d5:=TI al to a5;have d6:(to:Int)<(al.length:Int):=by omega
 rw[<- en];have no:Jg al Y to=false->A8 n (dst (DK y) (Jg al Y) to)=A8 n (fun _=> -1):=fun h=>jq fun i _=>XT fun k hk=>by
  have:=hk.lst;rw[h]at this;cases this
 have f0:=fun d=>fin σ (fun _=> -1) d c6
 cases b8:Dt al to with
 |false=>
  rw[no (by unfold Jg;rw[b8];rfl)];rw[b8]at d3;simp only[go_sem,O,t2,S,t9,d1,d2,d3,d5,d6,a5,f0]
 |true=>
  rw[b8]at d3
  by_cases ew:(to:Int)=Y
  .have a8:((to:Int)==Y)=true:=by simpa using ew
   rw[no (by unfold Jg;rw[a8];simp)];simp only[go_sem,O,t2,S,t9,d1,d2,d3,d5,d6,a5,f0,a8]
  .have a8:((to:Int)==Y)=false:=by simpa using ew
   have d4:Jg al Y to=true:=by unfold Jg;rw[b8,a8];rfl
   have e2:=I7 (n:=n) (fun _=> -1) to 0;have e3:((A8 n fun _=>(-1:Int)).flatMap cI).length=n:=by rw[qR,jo]
   have z1:¬0=b:=by omega
   have z2:¬b=0:=by omega
   have d7:∀i,Jg al Y i=true->i<n:=fun i hi=>by have:=aq3 hi;omega
   simp only[go_sem,O,t2,S,t4,t9,c6,d1,d2,d3,d5,d6,a5,a8,e2,e3,c5,c7];generalize hL:dI _ _=w;obtain⟨x,rfl,T1,c8,nI,rfl,d8,out,d9,c9⟩:=pF hL n (fun r st=>st.T 1=LL CQ al/\st.T 3=I Y/\st.T 4= .rp 0 0/\st.T 9= .rs b 0 n/\st.T 10=I r/\b<st.nx/\st.σ 0=some ⟨cYard y,0,true⟩/\∃out,P6 (DK y) (Jg al Y) to r (fun _=>False) out/\st.σ b=some ⟨(A8 n out).flatMap cI,1,true⟩)
    (fun x=>∃T σ nx,x=(.exit 2,⟨T,σ,nx⟩)/\T 9= .rs b 0 n/\∃out,σ b=some ⟨(A8 n out).flatMap cI,1,true⟩/\A8 n out=A8 n (dst (DK y) (Jg al Y) to)) (by
     clear hL;rintro r ⟨T,σ,nx⟩ hr ⟨O,S,t4,t9,E,J,G,out,hV,hs⟩;simp only at O S t4 t9 E J G hs;have f1:(r:Int)<(n:Int):=by omega
     have f3:=ZQ (n:=(r:Int)+1);refine bF ?_
     conv=>
      enter [1,r,1,1]
      simp only[go_sem,O,S,t4,t9,E,G,f1]
     generalize hL:dI _ _=w;obtain⟨x,rfl,T1,c8,nI,rfl,O,S,t4,t9,E,J,G,out,hV,hs⟩:=pF hL y.moves.length (fun j st=>st.T 1=LL CQ al/\st.T 3=I Y/\st.T 4= .rp 0 0/\st.T 9= .rs b 0 n/\st.T 10=I r/\st.T 44=LL cMove y.moves/\st.T 45=I y.moves.length/\st.T 46=I j/\b<st.nx/\st.σ 0=some ⟨cYard y,0,true⟩/\∃out,P6 (DK y) (Jg al Y) to r (adn y (Jg al Y) to r j) out/\st.σ b=some ⟨(A8 n out).flatMap cI,1,true⟩)
      (fun x=>∃T σ nx,x=(.exit 4,⟨T,σ,nx⟩)/\T 1=LL CQ al/\T 3=I Y/\T 4= .rp 0 0/\T 9= .rs b 0 n/\T 10=I r/\b<nx/\σ 0=some ⟨cYard y,0,true⟩/\∃out,P6 (DK y) (Jg al Y) to (r+1) (fun _=>False) out/\σ b=some ⟨(A8 n out).flatMap cI,1,true⟩) (by
       clear hL;rintro j ⟨T,σ,nx⟩ hj ⟨O,S,t4,t9,E,a1,a0,a2,J,G,out,hV,hs⟩;simp only at O S t4 t9 E a1 a0 a2 J G hs;obtain⟨a,c,e,ha,hc⟩:=ac6 hg hj;rw[<- en]at ha hc;have g1:(j:Int)<(y.moves.length:Int):=by omega
       have g2:=jD j;have g3:=ZQ (n:=(j:Int)+1);have g4:=PG y.moves j hj;rw[e]at g4;have g5:=Gx y.moves;have g6:j*2+2<=y.moves.length*2:=by omega
       have g9:=PI y.moves j hj;obtain⟨BJ,EI⟩:∃BJ,BJ=upd σ nx (some ⟨cMove ⟨(a:Int),(c:Int)⟩,0,true⟩):=⟨_,rfl⟩;have b0:BJ nx=some ⟨cMove ⟨(a:Int),(c:Int)⟩,0,true⟩:=by rw[EI,Zi]
       have b1:BJ b=some ⟨(A8 n out).flatMap cI,1,true⟩:=by rw[EI,Zk];exact hs
       have b2:BJ 0=some ⟨cYard y,0,true⟩:=by rw[EI,Zk];exact G
       have y1:nx<nx+1:=by omega
       have y2:b<nx+1:=by omega
       have ic:(c:Int)<(n:Int):=by omega
       have a9:=jD c;have ia:(a:Int)<(n:Int):=by omega
       have b6:=jD a;have b7:(a:Int)<(al.length:Int):=by omega
       have a3:a<al.length:=by omega
       have la:=jr out ha;have lc:=jr out hc;have ll:((A8 n out).flatMap cI).length=n:=by rw[qR,jo]
       have v3:(al.flatMap CQ)[a]?=some (Bo (Dt al a)):=by rw[rO a3];exact cu (fun b=>Bo b) al a a3
       have v5:=TI al a a3;have e0:DK y a c=true:=(MF y a c).mpr ⟨j,hj,e⟩;have hD:∀i,adn y (Jg al Y) to r (j+1) i->adn y (Jg al Y) to r j i\/(i=a/\dst (DK y) (Jg al Y) to c=(r:Int)):=fun i hi=>by
        obtain⟨q,hq,e7,b',eb,b9⟩:=hi
        by_cases eq:q=j
        .subst eq
         rw[e]at eb;simp only[TV.Move.mk.injEq]at eb;have e1:i=a:=by omega
         have e2:b'=c:=by omega
         exact .inr ⟨e1,by rw[<- e2];exact b9⟩
        .exact .inl ⟨q,hq,by omega,b',eb,b9⟩
       have no:¬(out c=(r:Int)/\out a<0/\Jg al Y a=true)->P6 (DK y) (Jg al Y) to r (adn y (Jg al Y) to r (j+1)) out:=fun hn=>(hV.no hn).weak fun i _ hi=>hD i hi
       by_cases c1:out c=(r:Int)
       .have a6:(out c==(r:Int))=true:=by simpa using c1
        by_cases c2:out a<0
        .cases c3:Dt al a with
         |false=>
          rw[c3]at v3;refine .inl ⟨_,by simp only[go_sem,O,S,t4,t9,E,a1,a0,a2,g1,g2,g3,g4,g5,g6,g9,<- EI,b0,b1,y1,y2,ic,a9,ia,b6,b7,a3,ha,hc,la,lc,v3,v5,a6,c2];rfl,?_⟩;simp only[go_sem,O,S,t4,t9,E,a1,a0];exact⟨rfl,by omega,b2,out,no (fun h=>by unfold Jg at h;rw[c3]at h;cases h.2.2),b1⟩
         |true=>
          rw[c3]at v3
          by_cases c4:(a:Int)=Y
          .have c0:((a:Int) !=Y)=false:=by simpa using c4
           refine .inl ⟨_,by simp only[go_sem,O,S,t4,t9,E,a1,a0,a2,g1,g2,g3,g4,g5,g6,g9,<- EI,b0,b1,y1,y2,ic,a9,ia,b6,b7,a3,ha,hc,la,lc,v3,v5,a6,c2,c0];rfl,?_⟩;simp only[go_sem,O,S,t4,t9,E,a1,a0];exact⟨rfl,by omega,b2,out,no (fun h=>by
            have h3:=h.2.2;unfold Jg at h3;rw[show((a:Int)==Y)=true by simpa using c4]at h3;simp at h3),b1⟩
          .have c0:((a:Int) !=Y)=true:=by simpa using c4
           have e4:Jg al Y a=true:=by unfold Jg;rw[c3,show((a:Int)==Y)=false by simpa using c4];rfl
           have w4:=ZQ (n:=(r:Int)+1);have st:=I7 (n:=n) out a ((r:Int)+1);obtain⟨σ2,DX⟩:∃σ2,σ2=upd BJ b (some ⟨(A8 n (put out a ((r:Int)+1))).flatMap cI,1,true⟩):=⟨_,rfl⟩;have b3:σ2 nx=some ⟨cMove ⟨(a:Int),(c:Int)⟩,0,true⟩:=by rw[DX,Zk];exact b0
           have b4:σ2 0=some ⟨cYard y,0,true⟩:=by rw[DX,Zk];exact b2
           have b5:σ2 b=some ⟨(A8 n (put out a ((r:Int)+1))).flatMap cI,1,true⟩:=by rw[DX,Zi]
           refine .inl ⟨_,by simp only[go_sem,O,S,t4,t9,E,a1,a0,a2,g1,g2,g3,g4,g5,g6,g9,<- EI,b0,b1,y1,y2,ic,a9,ia,b6,b7,a3,ha,hc,la,lc,ll,v3,v5,a6,c2,c0,w4,st,<- DX];rfl,?_⟩;simp only[go_sem,O,S,t4,t9,E,a1,a0];exact⟨rfl,by omega,b4,_,(hV.yes e0 c1 c2 e4).weak fun i _ hi=>(hD i hi).imp id And.left,b5⟩
        .refine .inl ⟨_,by simp only[go_sem,O,S,t4,t9,E,a1,a0,a2,g1,g2,g3,g4,g5,g6,g9,<- EI,b0,b1,y1,y2,ic,a9,ia,b6,b7,a3,ha,hc,la,lc,v3,v5,a6,c2];rfl,?_⟩
         simp only[go_sem,O,S,t4,t9,E,a1,a0];exact⟨rfl,by omega,b2,out,no (fun h=>c2 h.2.1),b1⟩
       .have a6:(out c==(r:Int))=false:=by simpa using c1
        refine .inl ⟨_,by simp only[go_sem,O,S,t4,t9,E,a1,a0,a2,g1,g2,g3,g4,g5,g6,g9,<- EI,b0,b1,y1,y2,ic,a9,ia,b6,b7,a3,ha,hc,la,lc,v3,v5,a6];rfl,?_⟩;simp only[go_sem,O,S,t4,t9,E,a1,a0];exact⟨rfl,by omega,b2,out,no (fun h=>c1 h.1),b1⟩) (by
       clear hL;rintro ⟨T,σ,nx⟩ ⟨O,S,t4,t9,E,a1,a0,a2,J,G,out,hV,hs⟩;simp only at O S t4 t9 E a1 a0 a2 J G hs;refine⟨_,by simp only[go_sem,a0,a2,zl];rfl,by simp,_,_,_,rfl,by simp only[go_sem,O],by simp only[go_sem,S],by simp only[go_sem,t4],by simp only[go_sem,t9],by simp only[go_sem,E],J,G,out,hV.next fun i b' hm b9=>?_,hs⟩;obtain⟨q,hq,eq⟩:=(MF y i b').mp hm;exact⟨q,hq,hq,b',eq,b9⟩) (by
       simp only[go_sem,O,S,t4,t9,E];exact⟨J,G,out,hV.weak fun i _ hi=>(by obtain⟨q,_,h0,_⟩:=hi;omega),hs⟩)
     refine⟨_,by simp only[go_sem,E,f3];rfl,.inl ⟨_,rfl,?_⟩⟩;simp only[go_sem,O,S,t4,t9];exact⟨rfl,J,G,out,hV,hs⟩) (by
     clear hL;rintro ⟨T,σ,nx⟩ ⟨O,S,t4,t9,E,J,G,out,hV,hs⟩;simp only at O S t4 t9 E J G hs;refine⟨_,by simp only[go_sem,t9,E,zl];rfl,by simp,_,_,_,rfl,by simp only[go_sem,t9],out,hs,jq fun i _=>hV.fin d7 i⟩) (by
     simp only[go_sem,O,S,t4];exact⟨t9,c7,by rw[Zk];exact G,_,afq d4,rfl⟩)
   have f9:=fun d=>fin c8 out d d9
   simp only[go_sem,d8,f9,c9]
noncomputable def endsB(y:Yard)(fr to:Int):Bool:=pb (AA y) && (inB fr 0 ((y.stances.length:Int) - 1) && inB to 0 ((y.stances.length:Int) - 1))
theorem ajO(y:Yard)(E:okYard y)(fr to:Int):fn ZH conv ext 61 [.agg (cYard y),I fr,I to]=some (Bo (endsB y fr to)):=by
 have Y:(y.stances.length:Int)<=9223372036854775807:=by have:=E.1.2.1;omega
 have G:=ak0 y E;have J:=jv fr 0 ((y.stances.length:Int) - 1);have O:=jv to 0 ((y.stances.length:Int) - 1);have w1:=ZQ (n:=(y.stances.length:Int) - 1);unfold endsB;generalize pb (AA y)=b at *;generalize inB fr 0 ((y.stances.length:Int) - 1)=S at *;generalize inB to 0 ((y.stances.length:Int) - 1)=b3 at *;rw[mM,nG [.tmp 6] [] func61];cases b<;>cases S<;>simp only[go_sem,G,J,O,w1]
theorem afO(y:Yard)(ho:okYard y)(fr to:Int):fn ZH qI Af 31 [.agg (cYard y),I fr,I to]=some (.AP [LI (FP y fr to),Bo (AY y fr to)]):=by
 have k1:=ajO y ho fr to;have b3:AY y fr to=false->(V.AP [LI (FP y fr to),Bo (AY y fr to)])= .AP [.ts [] 0,Bo false]:=fun h=>by
  unfold FP;rw[h,sW (by simp)];rfl
 rw[mM,nG [.tmp 6,.tmp 7] [] func31];cases he:endsB y fr to with
 |false=>
  rw[he]at k1;rw[b3 (by
   cases hp:AY y fr to with
   |false=>rfl
   |true=>
    have a8:=hp;unfold AY at a8;simp only[zB,decide_eq_true_eq]at a8;obtain⟨hg,⟨h1,h2⟩,h3⟩:=a8;obtain⟨⟨t0,t1⟩,_⟩:=MG h3;have:endsB y fr to=true:=by
     unfold endsB inB;rw[hg,sO (by omega),sO (by omega),sO (by omega),sO (by omega)];rfl
    rw[he]at this;cases this)]
  simp only[go_sem,k1]
 |true=>
  rw[he]at k1;unfold endsB at he;simp only[zB]at he;obtain⟨hg,hf,ht⟩:=he;have hG:=Ip hg;have hf:=kK hf;have ht:=kK ht;have G5:=hG.1;obtain⟨E,rfl⟩:∃a:Nat,fr=(a:Int):=⟨fr.toNat,by omega⟩;obtain⟨t0,rfl⟩:∃a:Nat,to=(a:Int):=⟨to.toNat,by omega⟩;have b9:E<y.stances.length:=by omega
  have c0:t0<y.stances.length:=by omega
  have k2:=abW y ho G5;have k3:=U7 y hG t0 c0 (Ae y) (dK y) (-1);rw[abX]at k3;obtain⟨out,eo⟩:∃out,out=dst (DK y) (Dt (Ae y)) t0:=⟨_,rfl⟩;have es:Pm y (Ae y) (t0:Int)=out:=by rw[eo];funext i;unfold Pm;rw[sS ⟨by omega,by omega⟩,zF]
  rw[<- eo]at k3;have f1:(E:Int)<(y.stances.length:Int):=by omega
  have f2:=jD E;have la:=fun {a:Nat} (h:a<y.stances.length)=>jr (n:=y.stances.length) out h
  have b4:=la b9;have ll:=jo y.stances.length out;have Yj:(A8 y.stances.length out).flatMap cI≠[]:=fun e=>by
   have h:=qR (A8 y.stances.length out);rw[e,ll]at h;have h:0=y.stances.length:=h;omega
  by_cases c3:out E<0
  .rw[b3 (by unfold AY;rw[es,zF,sN (p:=0<=out E) (by omega),xu,xu])]
   simp only[go_sem,k1,k2,k3,ll,Yj,b4,f1,f2,c3]
  have e:AY y E t0=true:=by
   unfold AY;rw[es,hg,zF,sO (p:=0<=out E) (by omega),sO f2,sO (p:=(E:Int)<_) (by omega)];rfl
  have c2:FP y E t0=DI y out E (out E).toNat:=by
   unfold FP;rw[sS e,es,zF];rfl
  rw[e,c2];obtain⟨d,hd⟩:∃d:Nat,out E=(d:Int):=⟨(out E).toNat,by omega⟩;have a9:∀i,Dt (Ae y) i=true->i<y.stances.length:=fun i hi=>by have:=rM hi;rw[dK]at this;exact this
  have a3:∀k:Nat,k<=d->out (XZ (DK y) out y.stances.length E k)=(d:Int) - k:=fun k hk=>by
   have:=JY a9 (mv:=DK y) (to:=t0) (a:=E) k (by rw[<- eo,hd];omega);rw[<- eo,hd]at this;exact this
  have b5:∀k:Nat,k<=d->XZ (DK y) out y.stances.length E k<y.stances.length:=fun k hk=>by
   have h1:=a3 k hk;have h2:=Ox (mv:=DK y) (al:=Dt (Ae y)) (to:=t0) (i:=XZ (DK y) out y.stances.length E k) (by rw[<- eo];omega);exact a9 _ h2.1
  have d1:d<=6:=by
   have:=Uy a9 (mv:=DK y) (to:=t0) (a:=E) (by rw[<- eo,hd];omega);rw[<- eo,hd]at this;omega
  have c4:Dt (Ae y) t0=true:=(Ox (mv:=DK y) (al:=Dt (Ae y)) (to:=t0) (i:=E) (by rw[<- eo];omega)).2;obtain⟨at_,a4⟩:∃at_,at_=XZ (DK y) out y.stances.length E:=⟨_,rfl⟩;rw[<- a4]at a3 b5;have hzero:∀k:Nat,k<=d->(at_ k=t0↔k=d):=fun k hk=>by
   have h1:=a3 k hk;constructor
   .intro e'
    have h2:out t0=0:=by rw[eo];exact Ov c4
    rw[e',h2]at h1;omega
   .intro e'
    have h2:dst (DK y) (Dt (Ae y)) t0 (at_ k)=0:=by rw[<- eo,h1];omega
    exact(XU h2).1
  have c5:∀k,DI y out E (k+1)=DI y out E k++[((at_ (k+1):Nat):Int)]:=fun k=>by rw[a4];exact OW y out E k
  have w0:DI y out E 0=[(E:Int)]:=rfl;have wl:=Ry y out E;have c6:(out E).toNat=d:=by omega
  rw[c6];simp only[go_sem,k1,k2,k3,ll,Yj,b4,f1,f2,c3];generalize hL:dI _ _=z;obtain⟨x,rfl,T,σ,nx',rfl,c7⟩:=jV hL (fun m st=>∃k,k+m=d/\st.T 2=I t0/\st.T 3= .rp 0 0/\st.T 8=LI (A8 y.stances.length out)/\st.T 10=I (at_ k)/\1<st.nx/\st.σ 0=some ⟨cYard y,0,true⟩/\Grow st.T st.σ st.nx 9 (DI y out E k)/\∀b o l,st.T 9= .rs b o l->1<=b)
   (fun x=>∃T σ nx',x=(.exit 0,⟨T,σ,nx'⟩)/\Grow T σ nx' 9 (DI y out E d)) (by
    clear hL;rintro m ⟨T,σ,Ci⟩ ⟨k,hk,S,t3,Y,G,O,J,E5,hB⟩;simp only at S t3 Y G O J E5 hB;have ha:=b5 k (by omega);have d2:=a3 k (by omega);have hz:=hzero k (by omega);have b6:=la ha;have g1:(at_ k:Int)<(y.stances.length:Int):=by omega
    have g2:(0:Int)<=(at_ k:Int):=by omega
    by_cases hm:m=0
    .subst hm
     have b7:k=d:=by omega
     have g3:((at_ k:Int) !=(t0:Int))=false:=by rw[hz.mpr b7];simp
     refine .inr ⟨_,by simp only[go_sem,S,Y,G,g3];rfl,by simp,_,_,_,rfl,?_⟩;rw[<- b7];exact kS (by simp only[go_sem]) E5
    .have g3:((at_ k:Int) !=(t0:Int))=true:=by
      have:at_ k≠t0:=fun e'=>by have:=hz.mp e';omega
      simp;omega
     have k4:=atd y ho hG (at_ k:Int);rw[J5]at k4;have d3:=OU y (at_ k);have w4:=ZQ (n:=out (at_ k) - 1);have a7:at_ (k+1)=Jk (DK y) out y.stances.length (at_ k):=by rw[a4];rfl
     refine bF ?_
     conv=>
      enter [1,r,1,1]
      simp only[go_sem,S,t3,Y,G,J,g3,k4,Zz]
     generalize hL:dI _ _=w;obtain⟨r,rfl,T',σ',Aq,rfl,S,t3,Y,G,O,J,E5,hB⟩:=pF hL (nexts y (at_ k)).length (fun j st=>st.T 2=I t0/\st.T 3= .rp 0 0/\st.T 8=LI (A8 y.stances.length out)/\st.T 10=I (at_ k)/\st.T 36=LI (Ah (nexts y (at_ k)))/\st.T 37=I (nexts y (at_ k)).length/\st.T 38=I j/\1<st.nx/\st.σ 0=some ⟨cYard y,0,true⟩/\Grow st.T st.σ st.nx 9 (DI y out E k)/\(∀b o l,st.T 9= .rs b o l->1<=b)/\∀i (hi:i<(nexts y (at_ k)).length),i<j->(out (nexts y (at_ k))[i]==out (at_ k) - 1)=false)
      (fun r=>∃T σ Aq,r=(.exit 2,⟨T,σ,Aq⟩)/\T 2=I t0/\T 3= .rp 0 0/\T 8=LI (A8 y.stances.length out)/\T 10=I (at_ (k+1))/\1<Aq/\σ 0=some ⟨cYard y,0,true⟩/\Grow T σ Aq 9 (DI y out E (k+1))/\∀b o l,T 9= .rs b o l->1<=b) (by
       clear hL;rintro j ⟨T,σ,Ci⟩ hj ⟨S,t3,Y,G,a1,a2,a5,O,J,E5,hB,a6⟩;simp only at S t3 Y G a1 a2 a5 O J E5 hB;have f1:(j:Int)<((nexts y (at_ k)).length:Int):=by omega
       have f2:=jD j;have f3:=ZQ (n:=(j:Int)+1);have f4:=J6 (nexts y (at_ k)) hj;have f5:=Zz (nexts y (at_ k));have f6:(Ah (nexts y (at_ k))).flatMap cI≠[]:=fun e=>by
        have h:=qR (Ah (nexts y (at_ k)));rw[e,f5]at h;have h:0=(nexts y (at_ k)).length:=h;omega
       have hc:=OT hj;have b2:=la hc;obtain⟨c,ec⟩:∃c,c=(nexts y (at_ k))[j]:=⟨_,rfl⟩;rw[<- ec]at f4 hc b2;have i1:(c:Int)<(y.stances.length:Int):=by omega
       have i2:=jD c;cases hq:(out c==out (at_ k) - 1)with
       |true=>
        have hn:=ai_ hj a6 (by rw[<- ec];exact hq);obtain⟨CB,b8,c8,c9⟩:=kT E5 (c:Int) (by rw[wl];omega);rw[wl]at b8;have q0:CB 0=some ⟨cYard y,0,true⟩:=by rw[c9 0 (by omega) (fun b o l h e=>by have:=hB b o l h;omega)];exact J
        refine .inr ⟨_,by simp only[go_sem,S,t3,Y,G,a1,a2,a5,ll,Yj,b6,b2,g1,g2,ha,f1,f2,f3,f4,f5,f6,hj,hc,i1,i2,w4,hq,b8];rfl,by simp,_,_,_,rfl,?_⟩;simp only[go_sem,S,t3,Y];refine⟨by rw[a7,hn,<- ec],by omega,q0,?_,fun b o l hb=>by(cases hb;omega)⟩;rw[c5,a7,hn,<- ec];exact kR c8 (by simp only[go_sem,zo,wl]) (by simp)
       |false=>
        refine .inl ⟨_,by simp only[go_sem,S,t3,Y,G,a1,a2,a5,ll,Yj,b6,b2,g1,g2,ha,f1,f2,f3,f4,f5,f6,hj,hc,i1,i2,w4,hq];rfl,?_⟩;simp only[go_sem,S,t3,Y,G,a1,a2];refine⟨rfl,O,J,kS (by simp only[go_sem]) E5,hB,fun i hi d4=>?_⟩
        by_cases e:i=j
        .subst e;rw[<- ec];exact hq
        .exact a6 i hi (by omega)) (by
       clear hL;rintro ⟨T,σ,Ci⟩ ⟨S,t3,Y,G,a1,a2,a5,O,J,E5,hB,a6⟩;exfalso;obtain⟨j,hj,hq⟩:=OV (y:=y) (al:=Ae y) (dK y) (to:=t0) (a:=at_ k) (by rw[<- eo];omega);rw[<- eo,a6 j hj hj]at hq;cases hq) (by
       simp only[go_sem,S,t3,Y,G];exact⟨O,J,kS (by simp only[go_sem]) E5,hB,fun i hi h0=>absurd h0 (zW _)⟩)
     refine⟨_,by simp only[go_sem];rfl,.inl ⟨_,rfl,m-1,by omega,k+1,by omega,?_⟩⟩;exact⟨S,t3,Y,G,O,J,E5,hB⟩) d (by
    simp only[go_sem];refine⟨0,by omega,by rw[a4];rfl,.inr ⟨1,?_,by rw[w0];simp,?_,by omega⟩,fun b o l hb=>by cases hb;omega⟩
    .simp only[go_sem]
     rfl
    .rw[Zi];rfl)
  obtain⟨ids,d0⟩:=kQ c7 5;simp only[go_sem,d0]
theorem Jh{y:Yard}{fr to:Int}(hp:AY y fr to=true):endsB y fr to=true:=by
 unfold AY at hp;simp only[zB,decide_eq_true_eq]at hp;obtain⟨E,⟨J,O⟩,G⟩:=hp;obtain⟨⟨t0,S⟩,_⟩:=MG G;unfold endsB inB;rw[E,sO (by omega),sO (by omega),sO (by omega),sO (by omega)];rfl
theorem oL{y:Yard}{fr to:Int}(E:endsB y fr to=true):AA y/\∃a t:Nat,fr=(a:Int)/\to=(t:Int)/\a<y.stances.length/\t<y.stances.length:=by
 unfold endsB at E;simp only[zB]at E;obtain⟨O,G,J⟩:=E;have G:=kK G;have J:=kK J;exact⟨Ip O,fr.toNat,to.toNat,by omega,by omega,by omega,by omega⟩
theorem U8{n:Nat}(out:Nat->Int)(h:n≠0):(A8 n out).flatMap cI≠[]:=fun e=>by
 have E:=qR (A8 n out);rw[e,jo]at E;exact h E.symm
theorem ajP{al:List Bool}{k:Nat}(h:Dt al k=false):Dt (al.set k false)=Dt al:=by
 funext i;unfold Dt at *;rw[zx,zx,List.getElem?_set]
 by_cases e:k=i
 .subst e
  rw[zx]at h;rw[sS rfl,h]
  by_cases E:k<al.length
  .rw[sS E];rfl
  .rw[sW E];rfl
 .rw[sW e]
theorem afP(y:Yard)(ho:okYard y)(fr to:Int):fn ZH qI Af 33 [.agg (cYard y),I fr,I to]=some (LI (F9 y fr to)):=by
 have k1:=ajO y ho fr to;have a3:AY y fr to=false->LI (F9 y fr to)= .ts [] 0:=fun h=>by unfold F9;rw[h,sW (by simp)];rfl
 rw[mM,nG [.tmp 6] [] func33];cases he:endsB y fr to with
 |false=>
  rw[he]at k1;rw[a3 (by cases hp:AY y fr to with
   |false=>rfl
   |true=>rw[Jh hp]at he;cases he)]
  simp only[go_sem,k1]
 |true=>
  rw[he]at k1;obtain⟨hG,a,t,rfl,rfl,ha,ht⟩:=oL he;have G5:=hG.1;have k2:=abW y ho G5;have hS:=dK y;have k3:=U7 y hG t ht (Ae y) hS (-1);rw[abX]at k3;obtain⟨out,eo⟩:∃out,out=dst (DK y) (Dt (Ae y)) t:=⟨_,rfl⟩;have es:∀al,Pm y al (t:Int)=dst (DK y) (Dt al) t:=fun al=>by funext i;unfold Pm;rw[sS ⟨by omega,by omega⟩,zF]
  rw[<- eo]at k3;have f1:(a:Int)<(y.stances.length:Int):=by omega
  have f2:=jD a;have a4:=jr (n:=y.stances.length) out ha;have ll:=jo y.stances.length out;have Yj:=U8 (n:=y.stances.length) out (by omega)
  by_cases c3:out a<0
  .rw[a3 (by unfold AY;rw[es,<- eo,zF,sN (p:=0<=out a) (by omega),xu,xu])]
   simp only[go_sem,k1,k2,k3,ll,Yj,a4,f1,f2,c3]
  have e:AY y a t=true:=by
   unfold AY;rw[es,<- eo,h_ hG,zF,sO (p:=0<=out a) (by omega),sO f2,sO (p:=(a:Int)<_) (by omega)];rfl
  unfold F9;rw[sS e];simp only[go_sem,k1,k2,k3,ll,Yj,a4,f1,f2,c3];generalize hL:dI _ _=z;obtain⟨x,rfl,T,σ,nx,rfl,a9⟩:=pF hL y.stances.length (fun k st=>st.T 1=I a/\st.T 2=I t/\st.T 3= .rp 0 0/\st.T 7=LL CQ (Ae y)/\st.T 28=I y.stances.length/\st.T 29=I k/\1<=st.nx/\st.σ 0=some ⟨cYard y,0,true⟩/\Grow st.T st.σ st.nx 8 (DT (blk y a t) k)/\∀b o l,st.T 8= .rs b o l->1<=b)
   (fun x=>∃T σ nx,x=(.exit 0,⟨T,σ,nx⟩)/\Grow T σ nx 8 (DT (blk y a t) y.stances.length)) (by
    clear hL;rintro k ⟨T,σ,m⟩ hk ⟨O,S,Y,t7,E,J,hm,G,E5,hB⟩;simp only at O S Y t7 E J hm G E5 hB;have g1:(k:Int)<(y.stances.length:Int):=by omega
    have g2:=jD k;have g3:=ZQ (n:=(k:Int)+1);have hle:=Zp (blk y a t) k
    by_cases c1:(k:Int)=(a:Int)
    .have a0:((k:Int) !=(a:Int))=false:=by simpa using c1
     have hq:blk y a t k=false:=by unfold blk;rw[show((k:Int)==(a:Int))=true by simpa using c1];rfl
     refine .inl ⟨_,by simp only[go_sem,O,S,Y,t7,E,J,g1,g2,g3,a0];rfl,?_⟩;simp only[go_sem,O,S,Y,t7,E];rw[Zo hq];exact⟨rfl,hm,G,kS (by simp only[go_sem]) E5,hB⟩
    have a0:((k:Int) !=(a:Int))=true:=by simpa using c1
    have b2:((k:Int)==(a:Int))=false:=by simpa using c1
    by_cases c2:(k:Int)=(t:Int)
    .have a1:((k:Int) !=(t:Int))=false:=by simpa using c2
     have hq:blk y a t k=false:=by unfold blk;rw[show((k:Int)==(t:Int))=true by simpa using c2];simp
     refine .inl ⟨_,by simp only[go_sem,O,S,Y,t7,E,J,g1,g2,g3,a0,a1];rfl,?_⟩;simp only[go_sem,O,S,Y,t7,E];rw[Zo hq];exact⟨rfl,hm,G,kS (by simp only[go_sem]) E5,hB⟩
    have a1:((k:Int) !=(t:Int))=true:=by simpa using c2
    have b3:((k:Int)==(t:Int))=false:=by simpa using c2
    have k4:=U7 y hG t ht (Ae y) hS (k:Int);rw[am9]at k4;have a2:blk y a t k=(Dt (Ae y) k && decide (dst (DK y) (Dt ((Ae y).set k false)) t a<0)):=by
     unfold blk;rw[b2,b3,es,zF];simp
    have a5:Dt (Ae y) k=false->¬dst (DK y) (Dt ((Ae y).set k false)) t a<0:=fun h=>by
     rw[ajP h,<- eo];exact c3
    obtain⟨Ko,b4⟩:∃Ko,Ko=dst (DK y) (Dt ((Ae y).set k false)) t:=⟨_,rfl⟩;rw[<- b4]at k4 a2 a5;have a6:=jr (n:=y.stances.length) Ko ha;have a7:=jo y.stances.length Ko;have a8:=U8 (n:=y.stances.length) Ko (by omega)
    by_cases c4:Ko a<0
    .have hs:Dt (Ae y) k=true:=by
      cases h:Dt (Ae y) k with
      |true=>rfl
      |false=>exact absurd c4 (a5 h)
     rw[hs,sO c4]at a2;obtain⟨CY,h5,h6,h7⟩:=kT E5 (k:Int) (by omega);have q0:CY 0=some ⟨cYard y,0,true⟩:=by rw[h7 0 (by omega) (fun b o l h e=>by have:=hB b o l h;omega)];exact G
     refine .inl ⟨_,by simp only[go_sem,O,S,Y,t7,E,J,G,g1,g2,g3,a0,a1,k4,a7,a8,a6,f1,f2,ha,c4,h5];rfl,?_⟩;simp only[go_sem,O,S,Y,t7,E];rw[Zn a2];exact⟨rfl,q0,kR h6 (by simp only[go_sem,zo]) (by simp),fun b o l h=>by(cases h;omega)⟩
    .have hq:blk y a t k=false:=by rw[a2,sN c4,xu]
     refine .inl ⟨_,by simp only[go_sem,O,S,Y,t7,E,J,G,g1,g2,g3,a0,a1,k4,a7,a8,a6,f1,f2,ha,c4];rfl,?_⟩;simp only[go_sem,O,S,Y,t7,E];rw[Zo hq];exact⟨rfl,hm,G,kS (by simp only[go_sem]) E5,hB⟩) (by
    clear hL;rintro ⟨T,σ,m⟩ ⟨O,S,Y,t7,E,J,hm,G,E5,hB⟩;simp only at O S Y t7 E J hm G E5 hB;exact⟨_,by simp only[go_sem,E,J,zl];rfl,by simp,_,_,_,rfl,kS (by simp only[go_sem]) E5⟩) (by
    simp only[go_sem];exact⟨.inl ⟨by simp only[go_sem],rfl⟩,fun b o l h=>by cases h⟩)
  obtain⟨ids,b5⟩:=kQ a9 6;simp only[go_sem,b5]
theorem abY(y:Yard)(fr to:Int):(F9 y fr to).length<=1000000:=by
 unfold F9
 split
 .rename_i h
  obtain⟨E,_⟩:=oL (Jh h);exact zL (Zp _ _) (by have:=E.1;omega)
 .exact wK _
noncomputable def Gf(y:Yard)(fr:Int):List Int:=if(endsB y fr fr && Dt (Ae y) fr.toNat)=true then DT (fun i=>decide (0<=dst (DK y) (Dt (Ae y)) i fr.toNat)) y.stances.length else []
theorem abZ(y:Yard)(fr:Int):(Gf y fr).length<=1000000:=by
 unfold Gf
 split
 .rename_i h
  rw[zB]at h;obtain⟨E,_⟩:=oL h.1;exact zL (Zp _ _) (by have:=E.1;omega)
 .exact wK _
theorem ab1(y:Yard)(ho:okYard y)(fr:Int):fn ZH qI Af 27 [.agg (cYard y),I fr]=some (LI (Gf y fr)):=by
 have k1:=ajO y ho fr fr;unfold Gf;rw[mM,nG [.tmp 4] [] func27];cases he:endsB y fr fr with
 |false=>
  rw[he]at k1;rw[wE,sW (by simp)]
  (simp only[go_sem,k1])<;>rfl
 |true=>
  rw[he]at k1;obtain⟨hG,a,t,rfl,-,ha,-⟩:=oL he;have G5:=hG.1;have k2:=abW y ho G5;have hS:=dK y;have f1:(a:Int)<(y.stances.length:Int):=by omega
  have f2:=jD a;have O:a<(Ae y).length:=by omega
  have f3:((Ae y).flatMap CQ)[a]?=some (Bo (Dt (Ae y) a)):=by rw[rO O];exact cu (fun b=>Bo b) (Ae y) a O
  have f5:=TI (Ae y) a O;rw[vJ,zF];cases hs:Dt (Ae y) a with
  |false=>
   rw[hs]at f3;rw[sW (by simp)]
   (simp only[go_sem,k1,k2,hS,f1,f2,f3,f5,ha])<;>rfl
  |true=>
  rw[hs]at f3;rw[sS rfl];simp only[go_sem,k1,k2,hS,f1,f2,f3,f5,ha];generalize hL:dI _ _=z;obtain⟨P,eP⟩:∃P:Nat->Bool,P=fun i=>decide (0<=dst (DK y) (Dt (Ae y)) i a):=⟨_,rfl⟩
  rw[<- eP];obtain⟨x,rfl,T,σ,nx,rfl,a3⟩:=pF hL y.stances.length (fun k st=>st.T 1=I a/\st.T 2= .rp 0 0/\st.T 5=LL CQ (Ae y)/\st.T 23=I y.stances.length/\st.T 24=I k/\1<=st.nx/\st.σ 0=some ⟨cYard y,0,true⟩/\Grow st.T st.σ st.nx 6 (DT P k)/\∀b o l,st.T 6= .rs b o l->1<=b)
   (fun x=>∃T σ nx,x=(.exit 0,⟨T,σ,nx⟩)/\Grow T σ nx 6 (DT P y.stances.length)) (by
    clear hL;rintro k ⟨T,σ,m⟩ hk ⟨S,Y,t5,E,J,hm,G,E5,hB⟩;simp only at S Y t5 E J hm G E5 hB;have g1:(k:Int)<(y.stances.length:Int):=by omega
    have g2:=jD k;have g3:=ZQ (n:=(k:Int)+1);have hle:=Zp P k;have k4:=U7 y hG k hk (Ae y) hS (-1);rw[abX]at k4;have hP:P k=decide (0<=dst (DK y) (Dt (Ae y)) k a):=by rw[eP]
    obtain⟨Ko,a4⟩:∃Ko,Ko=dst (DK y) (Dt (Ae y)) k:=⟨_,rfl⟩;rw[<- a4]at k4 hP;have a0:=jr (n:=y.stances.length) Ko ha;have a1:=jo y.stances.length Ko;have a2:=U8 (n:=y.stances.length) Ko (by omega)
    by_cases c4:0<=Ko a
    .rw[sO c4]at hP
     obtain⟨CY,h5,h6,h7⟩:=kT E5 (k:Int) (by omega);have q0:CY 0=some ⟨cYard y,0,true⟩:=by rw[h7 0 (by omega) (fun b o l h e=>by have:=hB b o l h;omega)];exact G
     refine .inl ⟨_,by simp only[go_sem,S,Y,t5,E,J,G,g1,g2,g3,k4,a1,a2,a0,f1,f2,ha,c4,h5];rfl,?_⟩;simp only[go_sem,S,Y,t5,E];rw[Zn hP];exact⟨rfl,q0,kR h6 (by simp only[go_sem,zo]) (by simp),fun b o l h=>by(cases h;omega)⟩
    .rw[sN c4]at hP
     refine .inl ⟨_,by simp only[go_sem,S,Y,t5,E,J,G,g1,g2,g3,k4,a1,a2,a0,f1,f2,ha,c4];rfl,?_⟩;simp only[go_sem,S,Y,t5,E];rw[Zo hP];exact⟨rfl,hm,G,kS (by simp only[go_sem]) E5,hB⟩) (by
    clear hL;rintro ⟨T,σ,m⟩ ⟨S,Y,t5,E,J,hm,G,E5,hB⟩;simp only at S Y t5 E J hm G E5 hB;exact⟨_,by simp only[go_sem,E,J,zl];rfl,by simp,_,_,_,rfl,kS (by simp only[go_sem]) E5⟩) (by
    simp only[go_sem];exact⟨.inl ⟨by simp only[go_sem],rfl⟩,fun b o l h=>by cases h⟩)
  obtain⟨ids,a5⟩:=kQ a3 6;simp only[go_sem,a5]
def Pn(n:Nat)(all:List Nat):List Bool:=(List.range n).map fun i=>decide (i∈all)
theorem mP(n:Nat)(all:List Nat):(Pn n all).length=n:=by simp[Pn]
theorem aq5{n:Nat}{all:List Nat}{i:Nat}(h:i<n):((Pn n all).flatMap CQ)[i]?=some (Bo (decide (i∈all))):=by
 rw[cu (fun b=>Bo b) (Pn n all) i (by rw[mP];exact h)];simp[Pn]
theorem ado(n:Nat)(all:List Nat)(c:Nat):((Pn n all).flatMap CQ).set c (Bo true)=(Pn n (all++[c])).flatMap CQ:=by
 rw[LV];congr 1;refine yS (by simp[Pn]) fun i G J=>?_
 rw[wP];simp only[Pn,yB,vC,wW,xC]
 by_cases e:c=i
 .subst e;simp
 .rw[sW e]
  have:¬i=c:=fun E=>e E.symm
  simp[this]
theorem adp(n:Nat):rep n [Bo false]=(Pn n []).flatMap CQ:=by
 rw[Ru];congr 1;unfold Pn;refine yS (by simp) fun i E G=>by simp
theorem Qb{T:Nat->V}{σ:Store}{nx t O:Nat}{l:List Int}(h:BX T σ nx t O l)(x:Int)(hl:l.length<100000) :
  ∃σ',Ad (upd σ nx (some ⟨[I x],1,true⟩)) (nx+1) 1 8 (T t) [I x] 1=some (.rs (nx+1) 0 (l.length+1),σ',nx+1+1)/\σ' (nx+1)=some ⟨(l++[x]).flatMap cI,1,true⟩/\∀q,q<nx->(∀b o l,T t= .rs b o l->b≠q)->σ' q=σ q:=by
 obtain⟨b,off,cells,J,S,h3,Y,h5,h6⟩:=h;have hm:l.length+1<=maxLen:=by unfold maxLen;omega
 have E:(cells.flatMap cI).length=cells.length:=qR cells;refine⟨upd (upd (upd σ nx (some ⟨[I x],1,true⟩)) b none) (nx+1) (some ⟨(cells.flatMap cI).drop off++[I x],1,true⟩),?_,?_,fun q hq G=>?_⟩
 .rw[J,rD,Zk,S]
  simp only[zi];rw[sW (by decide),sW (by rw[E];omega),sS ⟨by rw[E];omega,trivial,hm,by omega,rfl⟩]
 .rw[Zi]
  have:(cells.flatMap cI).drop off=l.flatMap cI:=by rw[jS,<- List.map_drop,<- jS,Y]
  rw[this,zU];rfl
 .rw[Zk,Zj _ _ (yu (G _ _ _ J)),Zk]
theorem adq(y:Yard)(ho:okYard y)(fr:Int)(nx:Nat):∃v c6 nI ids,ev ZH Bh Dk 28 [.agg (cYard y),I fr] lI nx=some (v,c6,nI)/\nx<=nI/\Own c6 1 v (LI (Gf y fr)) ids/\∀b∈ids,nx<=b/\b<nI:=by
 have k1:=ach y ho;have c7:endsB y fr fr=false->Gf y fr=[]:=fun h=>by unfold Gf;rw[h,wE,sW (by simp)]
 rw[nG [.tmp 4] [] func28];cases hg:pb (AA y)with
 |false=>
  rw[hg]at k1;rw[c7 (by unfold endsB;rw[hg];rfl)];simp only[go_sem,k1];exact⟨_,_,_,[],rfl,by omega,iP _ _,by simp⟩
 |true=>
  rw[hg]at k1;have hG:=Ip hg;have G5:=hG.1
  by_cases c1:fr<0
  .rw[c7 (by unfold endsB inB;rw[sN (p:=0<=fr) (by omega)];simp)]
   simp only[go_sem,k1,c1];exact⟨_,_,_,[],rfl,by omega,iP _ _,by simp⟩
  by_cases c2:(y.stances.length:Int)<=fr
  .rw[c7 (by unfold endsB inB;rw[sN (p:=fr<=_) (by omega)];simp)]
   simp only[go_sem,k1,c1,c2];exact⟨_,_,_,[],rfl,by omega,iP _ _,by simp⟩
  obtain⟨a,rfl⟩:∃a:Nat,fr=(a:Int):=⟨fr.toNat,by omega⟩;have ha:a<y.stances.length:=by omega
  have he:endsB y a a=true:=by unfold endsB inB;rw[hg,sO (by omega),sO (by omega)];rfl
  have k2:=ai8 y ho G5;have hS:=dK y;have f1:(a:Int)<(y.stances.length:Int):=by omega
  have f2:=jD a;have b6:a<(Ae y).length:=by omega
  have f3:((Ae y).flatMap CQ)[a]?=some (Bo (Dt (Ae y) a)):=by rw[rO b6];exact cu (fun b=>Bo b) (Ae y) a b6
  have f5:=TI (Ae y) a b6;unfold Gf;rw[he,vJ,zF];cases hs:Dt (Ae y) a with
  |false=>
   rw[hs]at f3;rw[sW (by simp)];simp only[go_sem,k1,c1,c2,k2,hS,f1,f2,f3,f5,ha];exact⟨_,_,_,[],rfl,by omega,iP _ _,by simp⟩
  |true=>
  rw[hs]at f3;rw[sS rfl];obtain⟨S,eS⟩:∃S,S=Ae y:=⟨_,rfl⟩;obtain⟨wr,e3⟩:∃wr,wr=flat 7 (LL CQ (Ae y)):=⟨_,rfl⟩;have m1:(0:Int)<=(y.stances.length:Int):=by omega
  have m2:1*(y.stances.length:Int)<=281474976710656:=by omega
  have m3:(y.stances.length:Int)<=9223372036854775807:=by omega
  have e0:(rep y.stances.length [Bo false]).set a (Bo true)=(Pn y.stances.length [a]).flatMap CQ:=by rw[adp,ado];rfl
  have e1:(rep y.stances.length [Bo false]).length=y.stances.length:=by rw[adp,Gh,mP,yQ]
  rw[<- eS]at hS b6 f3 f5 k2 hs e3⊢;have z1:nx+1<nx+1+1:=by omega
  have z2:¬nx=nx+1:=by omega
  have z3:¬nx+1=nx:=by omega
  have b7:∀i,Dt S i=true->i<y.stances.length:=fun i hi=>by have:=rM hi;omega
  simp only[go_sem,k1,c1,c2,k2,hS,f1,f2,f3,f5,ha,m1,m2,m3,e0,e1,z1,z2,z3];generalize hL:dI _ _=w
  obtain⟨x,rfl,T,σ,nx',rfl,G,t6,all,J,c5⟩:=jV hL (fun m st=>st.T 2= .rp nx 0/\st.T 5=LL CQ S/\st.T 6= .rs (nx+1) 0 y.stances.length/\nx+1<st.nx/\(∃wr,st.σ nx=some ⟨cYard y,0,wr⟩)/\∃all p,Fwd (DK y) (Dt S) a all p/\p<=all.length/\m+p=y.stances.length/\st.σ (nx+1)=some ⟨(Pn y.stances.length all).flatMap CQ,1,true⟩ /\
    ((p=all.length/\st.T 7= .ts [] 0)\/(p<all.length/\BX st.T st.σ st.nx 7 (nx+1) (Ah (all.drop p))/\∀b o l,st.T 7= .rs b o l->b≠nx)))
   (fun x=>∃T σ nx',x=(.exit 0,⟨T,σ,nx'⟩)/\nx+1<nx'/\T 6= .rs (nx+1) 0 y.stances.length/\∃all,σ (nx+1)=some ⟨(Pn y.stances.length all).flatMap CQ,1,true⟩/\∀i,i∈all↔0<=dst (DK y) (Dt S) i a) (by
    clear hL;rintro m ⟨T,σ,Ci⟩ ⟨t2,t5,t6,G,⟨h3,Y⟩,all,p,hB,hp,hm,J,hq⟩;simp only at t2 t5 t6 G Y J hq;rcases hq with ⟨rfl,t7⟩|⟨hp,hq,a0⟩
    .exact .inr ⟨_,by simp only[go_sem,t7];rfl,by simp,_,_,_,rfl,G,by simp only[go_sem,t6],all,J,fun i=>hB.fin (zq _) i⟩
    .have e4:=hB.bound b7
     obtain⟨h,eh⟩:∃h,h=all[p]:=⟨_,rfl⟩;have b4:=hq;rw[aA all hp,<- eh]at b4;obtain⟨b,off,cells,q1,q2,q3,q4,q5,q6⟩:=b4;have q7:=gG q4;have p1:((h:Int) :: Ah (all.drop (p+1))).length=all.length-p:=by rw[zJ,Zz,zN];omega
     rw[p1]at q1;have p2:(0:Int)<((all.length-p:Nat):Int):=by omega
     have p3:0<all.length-p:=by omega
     have p4:(0:Int)<=0:=by omega
     have p5:(0:Int).toNat=0:=rfl;have k4:=ai9 y hG (h:Int);rw[J5]at k4;have b8:=Rx Y (LI (Ah (nexts y h)));obtain⟨Xv,d2⟩:∃Xv,Xv=behind σ [nx] (LI (Ah (nexts y h))):=⟨_,rfl⟩;rw[<- d2]at b8;have e5:∃wr,Xv nx=some ⟨cYard y,0,wr⟩:=⟨_,by rw[b8,Zi]⟩;have e6:Xv (nx+1)=some ⟨(Pn y.stances.length all).flatMap CQ,1,true⟩:=by rw[b8,Zk];exact J
     have e7:BX T Xv Ci 7 (nx+1) (Ah (all.drop p)):=by
      obtain⟨b',off',E,a1,a2,a3,a4,a5,a6⟩:=hq;exact⟨b',off',E,a1,by rw[b8,Zj _ _ (a0 _ _ _ a1)];exact a2,a3,a4,a5,a6⟩
     refine bF ?_
     conv=>
      enter [1,r,1,1]
      simp only[go_sem,t2,t5,t6,Y,q1,q2,q7,p2,p3,p4,p5,k4,Zz,<- d2]
     generalize hL:dI _ _=w
     obtain⟨r,rfl,T1,σ',Aq,rfl,t2,t5,t6,G,PN,O,d3,d4,d5,d6,e8,e9,c8⟩:=pF hL (nexts y h).length (fun j st=>st.T 2= .rp nx 0/\st.T 5=LL CQ S/\st.T 6= .rs (nx+1) 0 y.stances.length/\st.T 46=LI (Ah (nexts y h))/\st.T 47=I (nexts y h).length/\st.T 48=I j/\nx+1<st.nx/\(∃wr,st.σ nx=some ⟨cYard y,0,wr⟩) /\
       ∃all,Fwd (DK y) (Dt S) a all p/\∃hp:p<all.length,h=all[p]/\st.σ (nx+1)=some ⟨(Pn y.stances.length all).flatMap CQ,1,true⟩/\BX st.T st.σ st.nx 7 (nx+1) (Ah (all.drop p))/\(∀b o l,st.T 7= .rs b o l->b≠nx)/\∀i (hi:i<(nexts y h).length),i<j->Dt S (nexts y h)[i]=true->(nexts y h)[i]∈all)
      (fun r=>∃T σ Aq,r=(.exit 2,⟨T,σ,Aq⟩)/\T 2= .rp nx 0/\T 5=LL CQ S/\T 6= .rs (nx+1) 0 y.stances.length/\nx+1<Aq/\(∃wr,σ nx=some ⟨cYard y,0,wr⟩) /\
       ∃all,Fwd (DK y) (Dt S) a all p/\∃hp:p<all.length,h=all[p]/\σ (nx+1)=some ⟨(Pn y.stances.length all).flatMap CQ,1,true⟩/\BX T σ Aq 7 (nx+1) (Ah (all.drop p))/\(∀b o l,T 7= .rs b o l->b≠nx)/\∀i (hi:i<(nexts y h).length),Dt S (nexts y h)[i]=true->(nexts y h)[i]∈all) (by
       clear hL;rintro j ⟨T,σ,Ci⟩ hj ⟨t2,t5,t6,a8,a7,a9,G,⟨b5,Y⟩,all,hB,hp,eh,J,hq,a0,hd⟩;simp only at t2 t5 t6 a8 a7 a9 G Y J hq a0;have e4:=hB.bound b7;have h4:=OU y h;have g1:(j:Int)<((nexts y h).length:Int):=by omega
       have g2:=jD j;have g3:=ZQ (n:=(j:Int)+1);have g4:=J6 (nexts y h) hj;have g5:=Zz (nexts y h);have g6:(Ah (nexts y h)).flatMap cI≠[]:=fun e=>by
        have h2:=qR (Ah (nexts y h));rw[e,g5]at h2;have h2:0=(nexts y h).length:=h2;omega
       have hc:=OT hj;have b9:DK y h (nexts y h)[j]=true:=by
        have:=zu hj;exact(List.mem_filter.mp this).2
       obtain⟨c,ec⟩:∃c,c=(nexts y h)[j]:=⟨_,rfl⟩;rw[<- ec]at g4 hc b9;have ic:(c:Int)<(y.stances.length:Int):=by omega
       have c9:=jD c;have d0:c<S.length:=by omega
       have v3:(S.flatMap CQ)[c]?=some (Bo (Dt S c)):=by rw[rO d0];exact cu (fun b=>Bo b) S c d0
       have v5:=TI S c d0;have fl:=aq5 (n:=y.stances.length) (all:=all) hc;have f0:((Pn y.stances.length all).flatMap CQ).length=y.stances.length:=by rw[Gh,mP,yQ]
       have next:∀b2:List Nat,(∀i,i∈all->i∈b2)->(Dt S c=true->c∈b2)->∀i (hi:i<(nexts y h).length),i<j+1->Dt S (nexts y h)[i]=true->(nexts y h)[i]∈b2:=fun b2 h1 h2 i hi h5 hl=>by
        by_cases e:i=j
        .subst e
         rw[<- ec]at hl⊢;exact h2 hl
        .exact h1 _ (hd i hi (by omega) hl)
       cases c0:Dt S c with
       |false=>
        rw[c0]at v3;refine .inl ⟨_,by simp only[go_sem,t2,t5,t6,a8,a7,a9,g1,g2,g3,g4,g5,g6,hj,ic,c9,hS,hc,v3,v5];rfl,?_⟩;simp only[go_sem,t2,t5,t6,a8,a7];exact⟨rfl,G,⟨b5,Y⟩,all,hB,hp,eh,J,gJ hq (by simp only[go_sem]) (zq _),a0,next all (fun _ h=>h) (fun h=>by rw[c0]at h;cases h)⟩
       |true=>
        rw[c0]at v3
        by_cases hm:c∈all
        .rw[sO hm]at fl
         refine .inl ⟨_,by simp only[go_sem,t2,t5,t6,a8,a7,a9,g1,g2,g3,g4,g5,g6,hj,ic,c9,hS,hc,v3,v5,J,fl];rfl,?_⟩;simp only[go_sem,t2,t5,t6,a8,a7];exact⟨rfl,G,⟨b5,Y⟩,all,hB,hp,eh,J,gJ hq (by simp only[go_sem]) (zq _),a0,next all (fun _ h=>h) (fun _=>hm)⟩
        .rw[sN hm]at fl
         have c3:=hB.add hp hm c0 (by rw[<- eh];exact b9);have st:=ado y.stances.length all c;obtain⟨σ2,DX⟩:∃σ2,σ2=upd σ (nx+1) (some ⟨(Pn y.stances.length (all++[c])).flatMap CQ,1,true⟩):=⟨_,rfl⟩;have c4:BX T σ2 Ci 7 (nx+1) (Ah (all.drop p)):=by rw[DX];exact Rq hq _
         have b3:σ2 nx=some ⟨cYard y,0,b5⟩:=by rw[DX,Zk];exact Y
         have b4:=hq;rw[aA all hp,<- eh]at b4;obtain⟨b,off,cells,q1,q2,q3,q4,q5,q6⟩:=b4;have p1:((h:Int) :: Ah (all.drop (p+1))).length=all.length-p:=by rw[zJ,Zz,zN];omega
         rw[p1]at q1;obtain⟨d7,d1,f4,hf⟩:=Qb c4 (c:Int) (by rw[Zz,zN];omega);rw[Zz,zN]at d1;have f6:d7 (nx+1)=σ2 (nx+1):=hf _ (by omega) (fun b' o l e=>by rw[q1]at e;cases e;exact q6);have f7:d7 nx=some ⟨cYard y,0,b5⟩:=by rw[hf _ (by omega) a0];exact b3
         rw[q1]at d1;refine .inl ⟨_,by simp only[go_sem,t2,t5,t6,a8,a7,a9,g1,g2,g3,g4,g5,g6,hj,ic,c9,hS,hc,v3,v5,J,fl,f0,G,st,<- DX,q1,d1];rfl,?_⟩;simp only[go_sem,t2,t5,t6,a8,a7];have f8:p<(all++[c]).length:=by rw[zo];omega
         refine⟨rfl,by omega,⟨b5,f7⟩,all++[c],c3,f8,by rw[yG hp];exact eh,?_,?_,fun b o l hb=>by(cases hb;omega),next (all++[c]) (fun i h=>zD _ h) (fun _=>by simp)⟩
         .rw[f6,DX,Zi]
         .have ed:Ah ((all++[c]).drop p)=Ah (all.drop p)++[(c:Int)]:=by
           rw[vk (by omega)];simp[Ah]
          rw[ed];refine g_ (b:=Ci+1) ?_ f4 (by omega) (by omega);rw[zo,Zz,zN];simp only[go_sem]) (by
       clear hL;rintro ⟨T,σ,Ci⟩ ⟨t2,t5,t6,a8,a7,a9,G,Y,all,hB,hp,eh,J,hq,a0,hd⟩;simp only at t2 t5 t6 a8 a7 a9 G Y J hq a0;exact⟨_,by simp only[go_sem,a7,a9,zl];rfl,by simp,_,_,_,rfl,by simp only[go_sem,t2],by simp only[go_sem,t5],by simp only[go_sem,t6],G,Y,all,hB,hp,eh,J,gJ hq (by simp only[go_sem]) (zq _),by simpa only[go_sem]using a0,fun i hi=>hd i hi hi⟩) (by
       simp only[go_sem,t2,t5,t6];exact⟨G,e5,all,hB,hp,eh,e6,gJ e7 (by simp only[go_sem]) (zq _),a0,fun i hi h0=>absurd h0 (zW _)⟩)
     have c3:=d3.next d4 fun i hi b9=>by
      have f9:i∈nexts y h:=by
       unfold nexts;rw[List.mem_filter,List.mem_range];exact⟨b7 i hi,by rw[d5];exact b9⟩
      obtain⟨j,hj,ej⟩:=yV f9;rw[<- ej]at hi⊢;exact c8 j hj hi
     have h6:=d3.bound b7;have c4:=e8;rw[aA O d4,<- d5]at c4;obtain⟨b',off',E,r1,r2,r3,r4,r5,r6⟩:=c4;have g0:((h:Int) :: Ah (O.drop (p+1))).length=O.length-p:=by rw[zJ,Zz,zN];omega
     rw[g0]at r1 r3;have g7:=e9 _ _ _ r1;have r7:((E.flatMap cI)).length=E.length:=qR _;have r8:off'+(O.length-p)<=E.length:=by omega
     have r9:1<=O.length-p:=by omega
     have d8:¬(1:Nat)=0:=by decide
     have d9:(0:Int)<=1:=by decide
     have e2:(1:Int).toNat=1:=rfl
     by_cases hl:O.length-p=1
     .rw[hl]at r1 r8
      refine⟨_,by simp only[go_sem,r1,r2,r7,r8,d8,d9,e2,zq];rfl,.inl ⟨_,rfl,m-1,by omega,?_⟩⟩;simp only[go_sem,t2,t5,t6];exact⟨G,PN,O,p+1,c3,by omega,by omega,d6,.inl (by omega)⟩
     .have g8:¬1=O.length-p:=fun e=>hl e.symm
      refine⟨_,by simp only[go_sem,r1,r2,r7,r8,r9,d8,d9,e2,g8];rfl,.inl ⟨_,rfl,m-1,by omega,?_⟩⟩;simp only[go_sem,t2,t5,t6];refine⟨G,PN,O,p+1,c3,by omega,by omega,d6,.inr ⟨by omega,⟨b',off'+1,E,?_,r2,?_,OJ r4,r5,r6⟩,fun b o l hb=>by(cases hb;exact g7)⟩⟩
      .simp only[go_sem]
       rw[Zz,zN];congr 1
      .rw[Zz,zN];omega) y.stances.length (by
    simp only[go_sem];refine⟨by omega,⟨_,by rw[Zk,Zk,Zi]⟩,[a],0,afp hs,by simp,by omega,?_,.inr ⟨by simp,?_,fun b o l hb=>by(cases hb;omega)⟩⟩
    .rw[Zk,Zi]
    .refine g_ (b:=nx+1+1) (by simp only[go_sem];rfl) ?_ (by omega) (by omega)
     simp only[go_sem];rfl)
  clear hL;obtain⟨v,c6,nI,ids,k3,hn,o1,hi⟩:=acv (Pn y.stances.length all) (by rw[mP];omega) nx';have g1:=fun d=>o1.gather (d':=d+1) (by omega)
  rw[mP]at o1;have e:DT (fun i=>(Pn y.stances.length all)[i]?==some true) y.stances.length=DT (fun i=>decide (0<=dst (DK y) (Dt S) i a)) y.stances.length:=QL fun i hi=>by
   simp only[Pn,yc,w_ hi,zG]
   by_cases h:i∈all
   .rw[sO h,sO ((c5 i).mp h)];rfl
   .rw[sN h,sN (fun h'=>h ((c5 i).mpr h'))];rfl
  rw[e]at o1;have g9:=fun d=>OQ J (mP y.stances.length all) d
  simp only[go_sem,t6,g9,k3,g1];exact⟨v,_,nI,ids,rfl,by omega,o1.join fun b hb=>(hi b hb).1,fun b hb=>by have:=hi b hb;omega⟩
end Go.Proofs.YtehdaknhabeiaaaGreat
