import Derived.Test.YtjjhejehbhbdeaaGreatTb5
set_option linter.unusedSimpArgs false
set_option linter.unusedVariables false
set_option linter.unusedSectionVars false
set_option linter.defProp false
set_option maxRecDepth 10000
set_option maxHeartbeats 4000000
open Go.Proofs.Tryz renaming prog->ZK
open Go.Proofs.Tryz
open Bool renaming and_eq_true->zD,and_false->wS,true_and->wQ,not_false->vZ,not_true->uz,false_and->uo
open Classical renaming byContradiction->zh
open Int renaming lt_irrefl->zi,toNat_natCast->zA
open List renaming getElem?_eq_getElem->zy,getD_eq_getElem?_getD->zx,getElem_mem->zu,length_append->zo,take_of_length_le->zl,length_take->zf,eq_nil_of_length_eq_zero->zZ,mem_cons_of_mem->zY,mem_cons->zX,length_cons->zW,getElem?_append_left->zV,flatMap_append->zS,length_map->zQ,length_drop->zN,getElem?_append_right->zM,mem_cons_self->zL,flatMap_cons->zJ,getElem?_map->zF,append_nil->zC,mem_append_left->zB,getElem?_eq_none->yw,append_assoc->yh,getElem_of_mem->yc,drop_zero->yZ,take_length->yX,length_nil->yV,length_singleton->yU,length_replicate->yT,ext_getElem->yR,length_set->yP,nil_append->yM,take_add_one->yJ,getElem_append_left->yG,getElem_map->xZ,mem_singleton->xY,getElem?_range->xO,map_congr_left->xG,mem_append->wz,all_eq_true->wo,getElem?_replicate->wZ,map_append->wR,range_succ->wK,getElem_set->wG,drop_append_of_le_length->vV,all_cons->vO,getElem_range->uh,mem_or_eq_of_mem_set->ug,length_range->uH,replicate_succ'->uG
open Nat renaming le_refl->zq,not_lt_zero->zU,le_trans->zT,mul_le_mul_right->zK,zero_add->yY,mul_one->yO,succ_mul->xg,mul_le_mul->x9,add_assoc->vw,zero_le->vg,add_mul->vP,zero_mul->uY,add_zero->u_
open Ne renaming symm->yu
open Option renaming bind_some->zk,map_some->zG
open Rat renaming le_refl->vN
namespace Go.Proofs.YtjjhejehbhbdeaaGreat
open Go Go.TV Go.Lp
attribute [-go_sem] qy
def avR(p:Prog)(r:V):Prop:=(r= .agg [I 2,.ts [] 0,Bo false,.ts [] 0,.ts [] 0]/\p.None)\/(r= .agg [I 3,.ts [] 0,Bo false,.ts [] 0,.ts [] 0]/\p.Open) \/
 ∃x:Nat->Rat,p.Best x/\(∀j,j<p.n->Ln 6 (x j))/\Ln 6 (ob p.n p.c x)/\r= .agg (I 0 :: LL cQ ((List.range p.n).map x) :: cQ (ob p.n p.c x))/\∃T,p.Good T/\x=BH p.m T
section
variable {A b c:List Int} {m n:Nat}
def Q1(A b c:List Int)(m n:Nat)(D:TQ):Prop:=∃T,Vq (AV A b c m n) (n+m) (AV A b c m n).c1 T D (List.range m)/\(AV A b c m n).Good T
def Q2(A b c:List Int)(m n:Nat)(D:TQ):Prop:=∃T,Vq (AV A b c m n) (n+m) (AV A b c m n).c1 T D (List.range m)/\(AV A b c m n).Good T/\Zero (AV A b c m n) T
def Q3(A b c:List Int)(m n:Nat)(ι:List Nat)(D:TQ):Prop:=∃T,Vq (AV A b c m n) n ((AV A b c m n).C 0) T D ι/\(AV A b c m n).Good T/\(AV A b c m n).Out T/\∀x∈D.B,x<n
theorem al9{D E:TQ}(h:Q1 A b c m n D)(hs:NQ (n+m) 1 D E):Q1 A b c m n E:=by
 obtain⟨T,G,J⟩:=h;obtain⟨T',O,S⟩:=G.step (C:=fun _=>(AV A b c m n).c1) (NS (p:=AV A b c m n) (n':=n+m)) hs;exact⟨T',S,J.step O⟩
theorem al_{ι:List Nat}{D J:TQ}(h:Q3 A b c m n ι D)(hs:NQ n (n+1) D J):Q3 A b c m n ι J:=by
 obtain⟨T,h1,h2,O,h4⟩:=h;obtain⟨T',S,k2⟩:=h1.step (C:=(AV A b c m n).C) (NU (p:=AV A b c m n)) hs;refine⟨T',k2,h2.step S,?_,fun x G=>?_⟩
 case refine_2=>
  obtain⟨s,r,E,-,rfl⟩:=hs;rcases ug G with G|rfl
  .exact h4 x G
  .exact E.lt
 obtain⟨s,r,E,Y,rfl⟩:=S
 by_cases hB:T.B r<n
 .exact O.piv hB E.fr
 .have:=(O.z r Y.lt (by show n<=T.B r;omega)).2 s E.fr
  have:=Y.pos;grind
theorem apU{D:TQ}(h:Q2 A b c m n D)(E:∀i,i<D.R.length->EH n D i):∃T,Vq (AV A b c m n) (n+m) (AV A b c m n).c1 T D (List.range m)/\(AV A b c m n).Good T/\Zero (AV A b c m n) T/\(AV A b c m n).Out T:=by
 obtain⟨T,G,h2,O⟩:=h;refine⟨T,G,h2,O,⟨fun i hi S=>⟨O i hi S,fun j Y=>?_⟩⟩⟩;have hl:D.R.length=m:=by rw[<- G.len];simp
 have J:i<m:=hi;have e1:=G.ent i j (by omega) (by have:j<n:=Y;omega);have e2:=G.BH i (by omega);rw[fV J]at e1 e2;rw[<- e1];exact E i (by omega) (by rw[e2];exact S) j Y
theorem acU{C:Nat->Nat->Rat}{p:Prog}{n':Nat}{T:Tab}{D:TQ}{ι:List Nat}(h:Vq p n' (C 0) T D ι){j:Nat}(E:j<n')(hn:j∉D.B):BH p.m T j=0:=by
 unfold BH;refine bH fun i hi=>?_
 rw[sO fun e=>hn ((h.mem E).mpr ⟨i,hi,e⟩)]
theorem abz(a b c d e:V)(v:Rat):patch [a,b,c,d,e] 2 (cQ v)=a :: b :: cQ v:=rfl
theorem abA(a b c d e x y:V)(v:Rat):patch [a,b,c,d,e] 0 (x :: y :: cQ v)=x :: y :: cQ v:=rfl
theorem ama(a b:V)(v:Rat):(a :: b :: cQ v).length=5:=rfl
theorem amb(a b:V)(v:Rat):(a :: b :: cQ v).all vI=(vI a && (vI b && true)):=rfl
theorem amc(x:Value):vI (.sc x)=true:=rfl
theorem aiA:vI .nil=true:=rfl
theorem amd(b o l:Nat):vI (.rs b o l)=true:=rfl
theorem aiB(a b:V)(v:Rat):(a :: b :: cQ v)[1]?=some b:=rfl
theorem aiC(a b w:V)(v:Rat):(a :: b :: cQ v).set 1 w=a :: w :: cQ v:=rfl
theorem aiD(a b:V)(v:Rat):(a :: b :: cQ v).take 5=a :: b :: cQ v:=rfl
attribute [go_sem] abz abA ama amb amc aiA amd aiB aiC aiD
theorem apV(hp:PrS A b c m n):∃r,fn ZK wI Am 144 [.agg (CZ m n A b c)]=some r/\avR (AV A b c m n) r:=by
 have hm:=hp.hm;have hn:=hp.hn;have hc:=hp.hc;have b6:∀x,(-1000<=x/\x<=1000)->(-1000000<=x/\x<=1000000):=fun x h=>by omega
 obtain⟨N,hN⟩:∃N,N=n+m:=⟨_,rfl⟩;obtain⟨s1,b2⟩:∃s1,s1=upd (upd pI 0 (some ⟨CZ m n A b c,0,true⟩)) 1 (some ⟨[I 0,.nil,Bo false,.nil,.nil],0,true⟩):=⟨_,rfl⟩;have b3:s1 0=some ⟨CZ m n A b c,0,true⟩:=by rw[b2,Zj _ _ (by decide),Zi]
 have e6:s1 1=some ⟨[I 0,.nil,Bo false,.nil,.nil],0,true⟩:=by rw[b2,Zi]
 obtain⟨σ2,CG,bt,k1,bc,vr,vb,rb,h6,S,Ed⟩:=apN (c:=c) hp.hA hp.hb (by omega) (by omega) hp.bA hp.bb s1 2;have h7:Q1 A b c m n (Dq A b m n m):=⟨_,aby,gY⟩;have e7:∀D,Q1 A b c m n D->ShF D (n+m)/\D.B.Nodup:=fun D h=>by
  obtain⟨T,h1,h2⟩:=h;exact abx hp h1 h2 am1
 have h8:WY (n+m) 1 (2^(n+m)) (Dq A b m n m):=Vq.aaL (C:=fun _=>(AV A b c m n).c1) NS aby (ab8 gY.ok);obtain⟨h9,AO,m5,D3,k2,i0,i1,Oa,m6,EJ⟩:=atn (Q1 A b c m n) false (d:=1) rfl e7 (fun D D' h hs=>al9 h hs) h7 h8 h6 (fun b hb=>(S b hb).2);obtain⟨T3,v3,g3,z3,i2⟩:=aaN (p:=AV A b c m n) i0 aby gY fun r hr=>List.mem_range.mpr hr
 have e9:=(e7 D3 i1).1;have f0:=e9.Gu;have La:=Oa.t;have d4:=Oa.c;rw[<- hN]at La f0;have l1:bt<AO:=by have:=S bt (by simp);omega
 have l2:bc<AO:=by have:=S bc (by simp);omega
 have a1:=jC N;have a2:(N:Int)<((N+1:Nat):Int):=by omega
 have a3:=cO (c:=cQ) (s:=3) qH D3.c N (by omega);rw[<- lF (by omega) 0]at a3;have a4:=bU (c:=cQ) (s:=3) qH D3.c;rw[f0]at a4;have a5:N*3+3<=(N+1)*3:=by omega
 have i3:Ln 6 (D3.c.getD N 0):=by rw[lF (by omega)];exact e9.al1 _ (zu _)
 have k3:=dH (D3.c.getD N 0) (i3.mono (by decide));have b5:=abt (D3.c.getD N 0);have d5:∀x,x<2->h9 x=s1 x:=fun x hx=>by
  rw[EJ x (by have:=S bt (by simp);omega) fun hm=>by have:=S x (by simp only[zX,wz]at hm⊢;rcases hm with h|h|h<;>simp[h]);omega];exact Ed x hx
 have d6:=(d5 0 (by decide)).trans b3;have i4:=(d5 1 (by decide)).trans e6;unfold CZ at b2 b3 d6 k1⊢;rw[m_,mg [.cell 2 198] [8,12,16] func144]
 by_cases hz:D3.c.getD N 0=0
 .rw[sH hz,uz]at b5
  have i5:Q2 A b c m n D3:=⟨T3,v3,g3,z3 (by rw[show(AV A b c m n).N=N from hN.symm];exact hz)⟩;have d0:∀r,r<m->r∈List.range m:=fun r hr=>List.mem_range.mpr hr
  obtain⟨BN,FD,Y,f1,i6,d7,c7,D4,k4,i7,f2,i9,UL,U3⟩:=al4 (nx:=AO) (A:=A) (b:=b) (m:=m) (N:=N) (Q2 A b c m n) hc hN (by omega) hp.bc (fun D h=>by
   obtain⟨T,h1,h2,h3⟩:=h;rw[hN];exact(abx hp h1 h2 am1).1) (fun D i k h hi hB hk j0=>by
   obtain⟨T,h1,h2,h3⟩:=h;exact⟨_,aaO (p:=AV A b c m n) h1 h2 h3 hi hB hk j0⟩) (fun D h f3=>by
   obtain⟨T,h1,h2,h3⟩:=h;exact afb hp h1 h2 d0 h3 f3) i5 (by rw[hN];exact Oa) (fun x hx=>by have:=S x hx;omega)
  obtain⟨T4,v4,g4,z4,o4⟩:=apU i7 f2;have V4:=am2 hp v4 g4 d0 z4 f2;have f4:∀D,Q3 A b c m n (CX n (List.range m) D4.B) D->ShF D n/\D.B.Nodup:=fun D h=>by
   obtain⟨T,h1,h2,h3,h4⟩:=h;exact abx hp h1 h2 (avM hp)
  obtain⟨Dx,G,j1,J,k5,j2,f5,Gw,m7,XQ⟩:=atn (Q3 A b c m n (CX n (List.range m) D4.B)) true (d:=n+1) rfl f4 (fun D D' h hs=>al_ h hs) ⟨T4,V4,g4,o4,Jd.2⟩ (Vq.aaL (C:=(AV A b c m n).C) NU V4 (ab8 g4.ok)) i9 (fun b hb=>(UL b hb).2);obtain⟨T5,V5,g5,o5,j3,j4⟩:=aaP (p:=AV A b c m n) j2 V4 g4 o4;unfold CZ at k4;have m8:=(S bt (by simp)).1;have m9:=(S bt (by simp)).2;have f6:∀x,x<2->Dx x=s1 x:=fun x hx=>by
   rw[XQ x (by have:=UL Y (by simp);omega) fun hm=>by have:=UL x (by simp only[zX,wz]at hm⊢;rcases hm with h|h|h<;>simp[h]);omega];rw[U3 x (by omega) fun hm=>by have:=S x (by simp only[zX,wz]at hm⊢;rcases hm with h|h|h<;>simp[h]);omega];rw[d5 x hx]
  have f7:=(f6 0 (by decide)).trans b3;have f8:=(f6 1 (by decide)).trans e6;cases j1 with
  |false=>
   refine⟨_,by simp only[go_sem,qC,<- b2,b3,k1,k2,La,d4,a1,a2,a3,a4,a5,k3,b5,l1,l2,d6,k4,k5,f8],.inr (.inl ⟨rfl,j4 rfl⟩)⟩
  |true=>
   obtain⟨a7,n0⟩:=f4 J f5;have d8:=Gw.t;have j5:=Gw.c;have j6:=a7.Gu;have d1:Y<G:=by have:=UL Y (by simp);omega
   have d2:f1<G:=by have:=UL f1 (by simp);omega
   have c1:=jC n;have c2:(n:Int)<((n+1:Nat):Int):=by omega
   have c3:=cO (c:=cQ) (s:=3) qH J.c n (by omega);rw[<- lF (by omega) 0]at c3;have c4:=bU (c:=cQ) (s:=3) qH J.c;rw[j6]at c4;have c5:n*3+3<=(n+1)*3:=by omega
   have d9:Ln 6 (J.c.getD n 0):=by rw[lF (by omega)];exact a7.al1 _ (zu _)
   have d3:G<G+1:=by omega
   have k6:=agF (J.c.getD n 0) (by have:=d9.1;omega) (by have:=d9.2;omega);have f9:-J.c.getD n 0=ob n (AV A b c m n).c (BH m T5):=aob (p:=AV A b c m n) V5 g5;have e0:=UH d9;rw[f9]at k6 e0;generalize J.c.getD n 0=q at c3 k6;generalize hv:ob n (AV A b c m n).c (BH m T5)=v at k6 e0;simp only[go_sem,qC,<- b2,b3,k1,k2,La,d4,a1,a2,a3,a4,a5,k3,b5,l1,l2,d6,k4,k5,d8,j5,c1,c2,c3,c4,c5,d1,d2,d3,k6];have k0:fn ZK conv ext 171 [I 0]=some (.agg (cQ 0)):=dK 0 (by decide) (by decide)
   have j7:1<G:=by have:=UL Y (by simp);omega
   generalize hL:jI _ _=y;obtain⟨x,rfl,T6,CY,O,rfl,t2,t4,t5,Ol,OI,a9⟩:=oZ hL n (fun j st=>st.T 1= .rp 0 0/\st.T 2= .rp 1 0/\st.T 4= .rp Y 0/\st.T 5= .rp G 0/\st.T 6=I j/\G<st.nx/\(∀y,y<G->st.σ y=Dx y)/\((j=0/\st.σ G=some ⟨I 0 :: .nil :: cQ v,0,true⟩)\/∃E,0<j/\G<E/\E<st.nx/\st.σ G=some ⟨I 0 :: .rs E 0 j :: cQ v,0,true⟩/\st.σ E=some ⟨(List.replicate j (0:Rat)).flatMap cQ,3,true⟩))
    (fun x=>∃T CY O,x=(.exit 0,⟨T,CY,O⟩)/\T 2= .rp 1 0/\T 4= .rp Y 0/\T 5= .rp G 0/\G<O/\(∀y,y<G->CY y=Dx y)/\((n=0/\CY G=some ⟨I 0 :: .nil :: cQ v,0,true⟩)\/∃E,0<n/\G<E/\E<O/\CY G=some ⟨I 0 :: .rs E 0 n :: cQ v,0,true⟩/\CY E=some ⟨(List.replicate n (0:Rat)).flatMap cQ,3,true⟩)) (by
     clear hL;rintro j ⟨T,CY,O⟩ hj ⟨t1,t2,t4,t5,t6,Ol,OI,a9⟩;simp only at t1 t2 t4 t5 t6 Ol OI a9;have g1:(j:Int)<(n:Int):=by omega
     have g3:=ZR (n:=(j:Int)+1);have c8:CY 0=_:=(OI 0 (by omega)).trans f7;have y1:G<O:=by omega
     have y2:¬G=O:=by omega
     have y3:(G==O)=false:=by rw[sJ];omega
     have y4:(O==G)=false:=by rw[sJ];omega
     have y5:G<O+1:=by omega
     have y6:¬G=O+1:=by omega
     have y7:(G==O+1)=false:=by rw[sJ];omega
     have y8:(O+1==G)=false:=by rw[sJ];omega
     have y9:G<O+1+1:=by omega
     have OE:¬G=O+1+1:=by omega
     have OG:(G==O+1+1)=false:=by rw[sJ];omega
     have OH:(O+1+1==G)=false:=by rw[sJ];omega
     have g0:O<O+1:=by omega
     have Q8:O+1<O+1+1:=by omega
     rcases a9 with ⟨h0,st⟩|⟨E,n1,c1,c2,st,sx⟩
     .refine .inl ⟨_,by simp only[go_sem,t1,t2,t4,t5,t6,c8,st,g1,g3,k0,y1,y2,y3,y4,y5,y6,y7,y8,y9,OE,OG,OH,g0,Q8];rfl,?_⟩
      simp only[go_sem,t1,t2,t4,t5];refine⟨rfl,by omega,fun x hx=>?_,.inr ⟨O+1,by omega,by omega,by omega,by rw[h0],?_⟩⟩
      .rw[Zk,Zk,Zk];exact OI x hx
      .rw[Zk,Zi,h0];rfl
     .have g9:=rD (σ:=restrict (upd CY O (some ⟨cQ 0,3,true⟩)) [E,O]) (nx:=O+1) (size:=3) (bytes:=56) (b:=E) (len:=j) (m:=1) (row:=cQ 0) (by rw[fH,Zk];exact sx) (by rw[bU qH,yT]) (by decide) (by decide) (by unfold maxLen;omega) (by omega) rfl
      have x1:E<O+1:=by omega
      have x2:(G==E)=false:=by rw[sJ];omega
      have x3:(E==G)=false:=by rw[sJ];omega
      have x4:¬G=E:=by omega
      refine .inl ⟨_,by simp only[go_sem,t1,t2,t4,t5,t6,c8,st,g1,g3,k0,g9,x1,x2,x3,x4,y1,y2,y3,y4,y5,y6,y7,y8,y9,OE,OG,OH,g0,Q8];rfl,?_⟩;simp only[go_sem,t1,t2,t4,t5];refine⟨rfl,by omega,fun x hx=>?_,.inr ⟨O+1,by omega,by omega,by omega,rfl,?_⟩⟩
      .rw[Zk,Zk,Zk,Zk];exact OI x hx
      .rw[Zk,Zi,uG,zS];simp) (by
     clear hL;rintro ⟨T,CY,O⟩ ⟨t1,t2,t4,t5,t6,Ol,OI,a9⟩;simp only at t1 t2 t4 t5 t6 Ol OI a9;have c8:CY 0=_:=(OI 0 (by omega)).trans f7;refine⟨_,by simp only[go_sem,t1,t6,c8,zi];rfl,by simp,_,_,_,rfl,?_⟩;simp only[go_sem,t2,t4,t5];exact⟨Ol,OI,a9⟩) (by
     simp only[go_sem];exact⟨by omega,fun y hy=>by rw[Zk],.inl trivial⟩)
   clear hL;have j8:∀x∈J.B,x<n:=f5.choose_spec.2.2.2;obtain⟨K,eK⟩:∃K,K=J.R.length:=⟨_,rfl⟩;have n2:=a7.Bz;have n3:=a7.Gv;obtain⟨f,ef⟩:∃f,f=BH m T5:=⟨_,rfl⟩;have b7:∀i,i<K->Cc J.R i n=f (J.B.getD i 0):=fun i hi=>by rw[ef];exact ar7 (p:=AV A b c m n) V5 g5 (by omega)
   have hlen:DR ZK 29 d7=some (I K):=by
    rcases Gw.b with ⟨q1,rfl⟩|⟨bb,q1,rfl,_⟩
    .rw[show K=0 by omega];exact nU (by kernel_rfl)
    .rw[eK];exact nT (by kernel_rfl)
   obtain⟨vx,j9,k7⟩:∃vx,CY G=some ⟨I 0 :: vx :: cQ v,0,true⟩/\((n=0/\vx= .nil)\/∃E,0<n/\G<E/\E<O/\vx= .rs E 0 n/\CY E=some ⟨(List.replicate n (0:Rat)).flatMap cQ,3,true⟩):=by
    rcases a9 with ⟨h0,h1⟩|⟨E,h0,h1,h2,h3,h4⟩
    .exact⟨_,h1,.inl ⟨h0,rfl⟩⟩
    .exact⟨_,h3,.inr ⟨E,h0,h1,h2,rfl,h4⟩⟩
   have k8:CY Y=_:=(OI Y d1).trans d8;simp only[go_sem,t2,t4,t5,k8,hlen];generalize hL:jI _ _=y;obtain⟨x,rfl,T7,EN,a6,rfl,t2,t5,a0,a8,Yd⟩:=oZ hL K (fun i st=>st.T 2= .rp 1 0/\st.T 4= .rp Y 0/\st.T 5= .rp G 0/\st.T 60=d7/\st.T 61=I K/\st.T 62=I i/\O<=st.nx/\(∀y,y<G->st.σ y=Dx y)/\st.σ G=some ⟨I 0 :: vx :: cQ v,0,true⟩/\((n=0/\vx= .nil)\/∃E,0<n/\G<E/\E<O/\vx= .rs E 0 n/\st.σ E=some ⟨(xB J.B f i n).flatMap cQ,3,true⟩))
    (fun x=>∃T EN a6,x=(.exit 2,⟨T,EN,a6⟩)/\T 2= .rp 1 0/\T 5= .rp G 0/\(∀y,y<G->EN y=Dx y)/\EN G=some ⟨I 0 :: vx :: cQ v,0,true⟩/\((n=0/\vx= .nil)\/∃E,0<n/\G<E/\E<O/\vx= .rs E 0 n/\EN E=some ⟨(xB J.B f K n).flatMap cQ,3,true⟩)) (by
     clear hL;rintro i ⟨T,EN,a6⟩ hi ⟨t2,t4,t5,b8,b4,b9,c9,a0,a8,Yd⟩;simp only at t2 t4 t5 b8 b4 b9 c9 a0 a8 Yd;have h5:J.B.getD i 0<n:=by rw[lF (by omega)];exact j8 _ (zu _)
     rcases Yd with ⟨h0,_⟩|⟨E,h0,h1,h2,rfl,h4⟩
     .omega
     obtain⟨br,rfl,k9⟩:∃br,i6= .rs br 0 K/\Dx br=some ⟨c7.map fun b=>V.rs b 0 (n+1),1,true⟩:=by
      rcases Gw.r with ⟨e,_⟩|⟨br,_,e,e2⟩
      .omega
      .exact⟨br,by rw[e,eK],e2⟩
     obtain⟨bb,rfl,l6⟩:∃bb,d7= .rs bb 0 K/\Dx bb=some ⟨(Ce J.B).flatMap cI,1,true⟩:=by
      rcases Gw.b with ⟨e,_⟩|⟨bb,_,e,e2⟩
      .omega
      .exact⟨bb,by rw[e,eK],e2⟩
     have e5:i<c7.length:=by have:=Gw.len;omega
     obtain⟨bi,FC⟩:∃bi,bi=c7[i]:=⟨_,rfl⟩;have n4:=UL br (by simp[bk]);have n5:=UL bb (by simp[bk]);have n6:bi<FD:=by rw[FC];exact(UL _ (by simp[zu e5])).2
     have g1:(i:Int)<(K:Int):=by omega
     have g2:=jC i;have g3:=ZR (n:=(i:Int)+1);have e1:EN Y=_:=(a0 Y d1).trans d8;have e2:EN br=_:=(a0 br (by omega)).trans k9;have e3:EN bb=_:=(a0 bb (by omega)).trans l6;have e4:EN bi=some ⟨(Eo J.R i).flatMap cQ,3,true⟩:=(a0 bi (by omega)).trans (by rw[FC];exact Gw.row i e5);have r1:(c7.map fun b=>V.rs b 0 (n+1))[i]?=some (.rs bi 0 (n+1)):=by rw[zF,zy e5,FC];rfl
     have b1:=idx (xs:=Ce J.B) (k:=i) (by rw[aA];omega);rw[aB (by omega)]at b1;have rl:=dM a7.row (show i<J.R.length by omega);have r3:=pY (R:=J.R) (i:=i) (j:=n) (by omega);have lq:Ln 6 (Cc J.R i n):=by
      rw[<- oC (by omega)];exact a7.big _ (by rw[dN (show i<J.R.length by omega)];exact zu _) _ (zu _)
     rw[b7 i hi]at r3 lq;have r4:=bU (c:=cQ) (s:=3) qH (Eo J.R i);rw[rl]at r4;have kc:=apE (f (J.B.getD i 0)) (lq.mono (by decide));have c6:patch ((xB J.B f i n).flatMap cQ) (J.B.getD i 0*3) (cQ (f (J.B.getD i 0)))=(xB J.B f (i+1) n).flatMap cQ:=by
      rw[iC qH _ _ (by rw[ZO];exact h5),ahw f (by omega)]
     have g5:=bU (c:=cQ) (s:=3) qH (xB J.B f i n);rw[ZO]at g5;generalize J.B.getD i 0=B at h5 b1 r3 kc c6;have g6:=jC B;have g7:(B:Int)<(n:Int):=by omega
     have g8:B*3+3<=n*3:=by omega
     have l1:G<a6:=by omega
     have l2:Y<a6:=by omega
     have l3:br<a6:=by omega
     have l4:bi<a6:=by omega
     have l5:E<a6:=by omega
     have z1:(G==E)=false:=by rw[sJ];omega
     have z2:(Y==E)=false:=by rw[sJ];omega
     have z3:(br==E)=false:=by rw[sJ];omega
     have z4:(bi==E)=false:=by rw[sJ];omega
     refine .inl ⟨_,by simp only[go_sem,t2,t4,t5,b8,b4,b9,e1,e2,e3,e4,a8,h4,r1,b1,r3,r4,g1,g2,g3,g5,g6,g7,g8,c1,c2,c5,kc,c6,l1,l2,l3,l4,l5,z1,z2,z3,z4];rfl,?_⟩;simp only[go_sem,t2,t4,t5,b8,b4];refine⟨rfl,c9,fun y hy=>?_,?_,.inr ⟨E,h0,h1,h2,rfl,?_⟩⟩
     .rw[Zk];exact a0 y hy
     .rw[Zk];exact a8
     .rw[Zi]) (by
     clear hL;rintro ⟨T,EN,a6⟩ ⟨t2,t4,t5,b8,b4,b9,c9,a0,a8,Yd⟩;simp only at t2 t4 t5 b8 b4 b9 c9 a0 a8 Yd;refine⟨_,by simp only[go_sem,b4,b9,zi];rfl,by simp,_,_,_,rfl,?_⟩;simp only[go_sem,t2,t5];exact⟨a0,a8,Yd⟩) (by
     simp only[go_sem,t2,t4,t5];refine⟨OI,j9,?_⟩;rcases k7 with h|⟨E,h0,h1,h2,h3,h4⟩
     .exact .inl h
     .exact .inr ⟨E,h0,h1,h2,h3,by rw[acB];exact h4⟩)
   clear hL;have l7:EN 1=_:=(a0 1 j7).trans f8;have hX:xB J.B f K n=(List.range n).map f:=by
    unfold xB;rw[zl (by omega)];refine xG fun j hj=>?_
    by_cases h:j∈J.B
    .rw[sN h]
    .rw[sO h,ef]
     exact(acU (C:=(AV A b c m n).C) V5 (List.mem_range.mp hj) h).symm
   have l8:∀j,j<n->Ln 6 (f j):=fun j hj=>by
    by_cases h:j∈J.B
    .obtain⟨i,hi,rfl⟩:=yc h
     rw[<- lF hi 0,<- b7 i (by omega),<- oC (by rw[dM a7.row (by omega)];omega)];exact a7.big _ (by rw[dN (show i<J.R.length by omega)];exact zu _) _ (zu _)
    .have e:BH m T5 j=0:=acU (C:=(AV A b c m n).C) V5 hj h
     rw[ef,e];exact al7
   obtain⟨ids,l9⟩:∃ids,∀σ',(∀y,y≠1->σ' y=EN y)->strip σ' 6 vx=some (LL cQ ((List.range n).map f),ids):=by
    rcases Yd with ⟨h0,rfl⟩|⟨E,h0,h1,h2,rfl,h4⟩
    .exact⟨[],fun σ' _=>by rw[aS,h0];rfl⟩
    .exact⟨[E],fun σ' h=>fA (by rw[h E (by omega),<- hX];exact h4) (by simp)⟩
   obtain⟨c0,e8⟩:∃c0,c0=upd EN 1 (some ⟨I 0 :: vx :: cQ v,0,true⟩):=⟨_,rfl⟩;have m1:=l9 c0 fun y hy=>by rw[e8,Zj _ _ hy]
   have m2:c0 1=some ⟨I 0 :: vx :: cQ v,0,true⟩:=by rw[e8,Zi]
   have m3:=qG c0 6 v;have m4:vI vx=true:=by
    rcases Yd with ⟨-,rfl⟩|⟨E,-,-,-,rfl,-⟩<;>rfl
   refine⟨.agg (I 0 :: LL cQ ((List.range n).map f) :: cQ v),?_,.inr (.inr ⟨f,by rw[ef];exact j3 rfl,l8,by rw[show ob (AV A b c m n).n (AV A b c m n).c f=v by rw[ef];exact hv];exact e0,by rw[show ob (AV A b c m n).n (AV A b c m n).c f=v by rw[ef];exact hv];rfl,T5,g5,ef⟩)⟩;simp only[go_sem,t2,t5,a8,l7,<- e8,m2,m1,m3,m4,ak]
 .rw[sG hz,vZ]at b5
  refine⟨_,by simp only[go_sem,qC,<- b2,b3,k1,k2,La,d4,a1,a2,a3,a4,a5,k3,b5,l1,l2,i4],.inl ⟨rfl,i2 (by rw[show(AV A b c m n).N=N from hN.symm];exact hz)⟩⟩
end
theorem acV{s:Structure}(h:SG s):fn ZK conv ext 175 [.agg (iI s)]=some (LI (free s)):=by
 have Yq:=h.nj;unfold free;rw[m_,mg [.tmp 2] [] func175];simp only[go_sem];generalize hL:jI _ _=y;obtain⟨r,rfl,T',σ',nx',rfl,h2⟩:=oZ hL s.bI.length (fun k st=>st.T 8=LL Ag s.bI/\st.T 9=I s.bI.length/\st.T 10=I k/\Grow st.T st.σ st.nx 3 (F8 (Dt s) k))
  (fun r=>∃T σ nx',r=(.exit 0,⟨T,σ,nx'⟩)/\Grow T σ nx' 3 (F8 (Dt s) s.bI.length)) (by
   clear hL;rintro k ⟨T,σ,nx⟩ G ⟨O,E,J,S⟩;simp only at O E J S;have f1:(k:Int)<(s.bI.length:Int):=by omega
   have f2:=jC k;have f3:=ZR (n:=(k:Int)+1);have f4:=Jz s.bI k G;have f5:=Gp s.bI;have f6:k*4+4<=s.bI.length*4:=by omega
   have f9:=Po s.bI k G;have hle:=Zo (Dt s) k;have Y:=fun x=>Oo S x
   cases hp:s.bI[k].fixed with
   |false=>
    have hq:Dt s k=true:=by simp[Dt,zy G,hp]
    obtain⟨σ',ha,hs⟩:=kS (Y (some ⟨[Sg s.bI[k].name,I s.bI[k].x,I s.bI[k].y,Bo false],0,true⟩)) (k:Int) (by omega);refine .inl ⟨_,by simp only[go_sem,O,E,J,f1,f2,f3,f4,f5,f6,f9,hp,G,ha];rfl,?_⟩;simp only[go_sem,O,E];rw[LJ hq];exact⟨rfl,kQ hs (by simp[go_sem]) (by simp)⟩
   |true=>
    have hq:Dt s k=false:=by simp[Dt,zy G,hp]
    refine .inl ⟨_,by simp only[go_sem,O,E,J,f1,f2,f3,f4,f5,f6,f9,hp,G];rfl,?_⟩;simp only[go_sem,O,E];rw[Tj hq];exact⟨rfl,kR (T:=T) (by simp only[go_sem]) (Y _)⟩) (by
   rintro ⟨T,σ,nx⟩ ⟨O,E,J,S⟩;simp only at O E J S;exact⟨_,by simp only[go_sem,E,J,zi];rfl,by simp,_,_,_,rfl,kR (by simp only[go_sem]) S⟩) (by
   simp only[go_sem];exact .inl ⟨by simp only[go_sem],rfl⟩)
 obtain⟨ids,hs⟩:=kP h2 6;simp only[go_sem,hs]
theorem amf{s:Structure}(h:SG s){k:Nat}(E:k<s.members.length):fn ZK conv ext 201 [.agg (iI s),I k]=some (.Bf [I (vx s k),I (vy s k)]):=by
 have J:=h.mr k E;rw[jH E]at J;have hb:=Ze h k;have a0:=h.nm;have Yq:=h.nj;have O:=Nl s.members k E;rw[jH E]at O;have f1:(k:Int)<(s.members.length:Int):=by omega
 have f2:=jC k;have f4:=GR s.members;have f5:k*3+3<=s.members.length*3:=by omega
 have f6:=Np s.members k E;have S:(s.members.flatMap Ac)[k*3+0]?=some (I (mem s k).a):=by rw[<- jH E];exact bZ (c:=Ac) (fun _=>rfl) s.members k E (j:=0) (by decide)
 have m2:(s.members.flatMap Ac)[k*3+1]?=some (I (mem s k).b):=by rw[<- jH E];exact bZ (c:=Ac) (fun _=>rfl) s.members k E (j:=1) (by decide)
 rw[u_]at S;unfold vx vy at hb⊢;generalize mem s k=mm at *;obtain⟨Y,mb,mk⟩:=mm;obtain⟨r1,r2,r3,r4,r5,r6⟩:=J;simp only at *;obtain⟨a,rfl⟩:∃a:Nat,Y=(a:Int):=⟨Y.toNat,by omega⟩;obtain⟨b,rfl⟩:∃b:Nat,mb=(b:Int):=⟨mb.toNat,by omega⟩;have ha:a<s.bI.length:=by omega
 have G:b<s.bI.length:=by omega
 have ea:XA s (a:Int)=s.bI[a]:=by unfold XA;rw[zA,zy ha];rfl
 have eb:XA s (b:Int)=s.bI[b]:=by unfold XA;rw[zA,zy G];rfl
 rw[ea,eb]at hb⊢;have g4:=Gp s.bI;have g6:=Po s.bI a ha;have p1:=Jz s.bI a ha;have p2:=Jz s.bI b G;have p3:a*4+4<=s.bI.length*4:=by omega
 have p4:b*4+4<=s.bI.length*4:=by omega
 have w1:=ZR (n:=s.bI[b].x-s.bI[a].x);have w2:=ZR (n:=s.bI[b].y-s.bI[a].y);rw[m_,mg [.tmp 4,.tmp 5] [1,2] func201];simp only[go_sem,O,f1,f2,f4,f5,f6,S,m2,r1,r2,r3,r4,g4,g6,p1,p2,p3,p4,w1,w2]
def G2(v1 O:V)(σ:Store)(nx:Nat)(E G:List Int):Prop:=(E=[]/\v1= .nil/\G=[]/\O= .nil)\/∃b1 J,b1≠J/\b1<nx/\J<nx/\E≠[]/\G≠[]/\v1= .rs b1 0 E.length/\O= .rs J 0 G.length/\σ b1=some ⟨E.flatMap cI,1,true⟩/\σ J=some ⟨G.flatMap cI,1,true⟩
theorem G2.congr{v1 E:V}{σ σ':Store}{nx nx':Nat}{G J:List Int}(h:G2 v1 E σ nx G J)(hn:nx<=nx')(e:∀b,b<nx->σ' b=σ b):G2 v1 E σ' nx' G J:=by
 rcases h with h|⟨b1,O,S,Y,h3,h4,h5,h6,h7,h8,h9⟩
 .exact .inl h
 .exact .inr ⟨b1,O,S,by omega,by omega,h4,h5,h6,h7,(e b1 Y).trans h8,(e O h3).trans h9⟩
theorem lN{v1 Y:V}{σ:Store}{nx:Nat}{O S:List Int}(h:G2 v1 Y σ nx O S)(x y:Int)(h1:O.length<100000)(h2:S.length<100000) :
  ∃E σ2,Aj (upd σ nx (some ⟨[I x],1,true⟩)) (nx+1) 1 8 v1 [I x] 1=some (.rs (nx+1) 0 (O.length+1),E,nx+1+1)/\Aj (upd E (nx+1+1) (some ⟨[I y],1,true⟩)) (nx+1+1+1) 1 8 Y [I y] 1=some (.rs (nx+1+1+1) 0 (S.length+1),σ2,nx+1+1+1+1) /\
   G2 (.rs (nx+1) 0 (O.length+1)) (.rs (nx+1+1+1) 0 (S.length+1)) σ2 (nx+1+1+1+1) (O++[x]) (S++[y])/\∀b,b<nx->(∀o l,v1≠ .rs b o l)->(∀o l,Y≠ .rs b o l)->σ2 b=σ b:=by
 have g1:Ci cI 1 (fun _=>v1) σ nx 0 O:=by
  rcases h with ⟨J,G,-,-⟩|⟨b1,b2,J,G,q3,q4,q5,q6,q7,q8,q9⟩
  .exact .inl ⟨G,J⟩
  .exact .inr ⟨b1,q6,q4,q8,G⟩
 obtain⟨E,a1,a2,a3⟩:=kW (c:=cI) (s:=1) (bytes:=8) (fun _=>rfl) (fun _=>rfl) (by decide) g1 x h1 (by decide);have o1:∀b,b<nx->(∀o l,v1≠ .rs b o l)->E b=σ b:=fun b hb hv=>a3 b hb fun b' o l e e2=>hv o l (by rw[e2];exact e)
 have g2:Ci cI 1 (fun _=>Y) E (nx+1+1) 0 S:=by
  rcases h with ⟨-,-,J,G⟩|⟨b1,b2,J,G,q3,q4,q5,q6,q7,q8,q9⟩
  .exact .inl ⟨G,J⟩
  .exact .inr ⟨b2,q7,q5,(o1 b2 q3 fun o l e=>by rw[q6]at e;simp only[V.rs.injEq]at e;exact J e.1).trans q9,by omega⟩
 obtain⟨σ2,c1,c2,c3⟩:=kW (c:=cI) (s:=1) (bytes:=8) (fun _=>rfl) (fun _=>rfl) (by decide) g2 y h2 (by decide);refine⟨E,σ2,a1,c1,.inr ⟨nx+1,nx+1+1+1,by omega,by omega,by omega,by simp,by simp,by rw[zo];rfl,by rw[zo];rfl,?_,c2⟩,fun b hb a0 a4=>?_⟩
 .rw[c3 (nx+1) (by omega) fun b o l e e2=>?_];exact a2
  rcases h with ⟨-,-,-,G⟩|⟨b1,b2,J,G,q3,q4,q5,q6,q7,q8,q9⟩
  .rw[G]at e;cases e
  .rw[q7]at e;simp only[V.rs.injEq]at e;omega
 .rw[c3 b (by omega) fun b' o l e e2=>a4 o l (by rw[e2];exact e)]
  exact o1 b hb a0
theorem G2.ne{v1 E:V}{σ:Store}{nx:Nat}{O S:List Int}(h:G2 v1 E σ nx O S){b:Nat}(hb:nx<=b):(∀o l,v1≠ .rs b o l)/\∀o l,E≠ .rs b o l:=by
 rcases h with ⟨-,G,-,J⟩|⟨b1,b2,G,J,q3,q4,q5,Y,q7,q8,q9⟩
 .rw[G,J];exact⟨fun o l e=>(by cases e),fun o l e=>(by cases e)⟩
 .rw[Y,q7]
  exact⟨fun o l e=>by simp only[V.rs.injEq]at e;omega,fun o l e=>by simp only[V.rs.injEq]at e;omega⟩
theorem G2.len{v1 E:V}{σ:Store}{nx:Nat}{G J:List Int}(h:G2 v1 E σ nx G J)(d:Nat):(∃i,strip σ (d+1) v1=some (LI G,i))/\∃i,strip σ (d+1) E=some (LI J,i):=by
 rcases h with ⟨rfl,rfl,rfl,rfl⟩|⟨b1,Y,q1,q2,q3,q4,q5,rfl,rfl,O,S⟩
 .exact⟨⟨[],by rw[aS];rfl⟩,⟨[],by rw[aS];rfl⟩⟩
 .exact⟨⟨_,kF O rfl d⟩,⟨_,kF S rfl d⟩⟩
def F6(p:Int×Int):Int:=p.1
def Gy(p:Int×Int):Int:=p.2
theorem Ye{s:Structure}(h:SG s):fn ZK conv ext 173 [.agg (iI s)]=some (.Bf [LI ((cols s s.members.length).map F6),LI ((cols s s.members.length).map Gy)]):=by
 have b5:=h.nm;rw[m_,mg [.tmp 2,.tmp 3] [] func173];simp only[go_sem];generalize hL:jI _ _=y;obtain⟨r,rfl,T',σ',nx',rfl,h2⟩:=oZ hL s.members.length (fun k st=>st.T 11=LL Ac s.members/\st.T 12=I s.members.length/\st.T 13=I k/\G2 (st.T 4) (st.T 5) st.σ st.nx ((cols s k).map F6) ((cols s k).map Gy))
  (fun r=>∃T σ nx',r=(.exit 0,⟨T,σ,nx'⟩)/\G2 (T 4) (T 5) σ nx' ((cols s s.members.length).map F6) ((cols s s.members.length).map Gy)) (by
   clear hL;rintro k ⟨T,σ,nx⟩ a5 ⟨G,E,J,hg⟩;simp only at G E J hg;have f1:(k:Int)<(s.members.length:Int):=by omega
   have f2:=jC k;have f3:=ZR (n:=(k:Int)+1);have f4:=Nl s.members k a5;have f5:=GR s.members;have f6:k*3+3<=s.members.length*3:=by omega
   have f9:=Np s.members k a5;have hr:=h.mr k a5;rw[jH a5]at f4 hr;have hle:=oz s k;have e1:((cols s k).map F6).length<=16:=by rw[zQ];omega
   have e2:((cols s k).map Gy).length<=16:=by rw[zQ];omega
   rw[oh,wR,wR];generalize (cols s k).map F6=L1 at *;generalize (cols s k).map Gy=L2 at *;obtain⟨S,em⟩:∃S,S=mem s k:=⟨_,rfl⟩;rw[<- em]at f4 hr⊢;obtain⟨s0,O⟩:∃s0,s0=upd σ nx (some ⟨Ac S,0,true⟩):=⟨_,rfl⟩;have a7:G2 (T 4) (T 5) s0 (nx+1) L1 L2:=hg.congr (by omega) fun b hb=>by rw[O,Zk]
   have Y:s0 nx=some ⟨Ac S,0,true⟩:=by rw[O,Zi]
   unfold Ac at O;have a6:=hg.ne (zq nx);unfold E_
   by_cases k2:S.kind=2
   .have g1:(S.kind !=2)=false:=by simpa using k2
    have g2:(S.kind !=1)=true:=by simp[k2]
    obtain⟨a8,σ2,a1,a2,a3,a4⟩:=lN a7 (k:Int) (-1) (by omega) (by omega);refine .inl ⟨_,by simp only[go_sem,G,E,J,f1,f2,f3,f4,f5,f6,f9,<- O,Y,g1,g2,a1,a2];rfl,?_⟩;simp only[go_sem,G,E];rw[sN k2,sO (by omega)];exact⟨rfl,a3⟩
   .by_cases k1:S.kind=1
    .have g1:(S.kind !=2)=true:=by simpa using k2
     have g2:(S.kind !=1)=false:=by simpa using k1
     obtain⟨a8,σ2,a1,a2,a3,a4⟩:=lN a7 (k:Int) 1 (by omega) (by omega);have a0:σ2 nx=_:=(a4 nx (by omega) a6.1 a6.2).trans Y;refine .inl ⟨_,by simp only[go_sem,G,E,J,f1,f2,f3,f4,f5,f6,f9,<- O,Y,g1,g2,a1,a2,a0];rfl,?_⟩;simp only[go_sem,G,E];rw[sO k2,sN k1];exact⟨rfl,a3⟩
    .have g1:(S.kind !=2)=true:=by simpa using k2
     have g2:(S.kind !=1)=true:=by simpa using k1
     obtain⟨a8,σ2,a1,a2,a3,a4⟩:=lN a7 (k:Int) 1 (by omega) (by omega);have a0:σ2 nx=_:=(a4 nx (by omega) a6.1 a6.2).trans Y;obtain⟨b6,BN,b1,b2,b3,b4⟩:=lN a3 (k:Int) (-1) (by simp;omega) (by simp;omega);simp only[zo,yU]at b1 b2 b3;refine .inl ⟨_,by simp only[go_sem,G,E,J,f1,f2,f3,f4,f5,f6,f9,<- O,Y,g1,g2,a1,a2,a0,b1,b2];rfl,?_⟩;simp only[go_sem,G,E];rw[sO k2,sO k1];refine⟨rfl,?_⟩;have e3:∀(L:List Int) (f:Int×Int->Int) (x y:Int×Int),L++List.map f ([x]++[y])=L++[f x]++[f y]:=fun L f x y=>by simp
     rw[e3,e3];exact b3) (by
   rintro ⟨T,σ,nx⟩ ⟨G,E,J,hg⟩;simp only at G E J hg;refine⟨_,by simp only[go_sem,E,J,zi];rfl,by simp,_,_,_,rfl,?_⟩;simp only[go_sem];exact hg) (by
   simp only[go_sem];exact .inl ⟨rfl,rfl,rfl,rfl⟩)
 obtain⟨⟨i1,a9⟩,⟨i2,a0⟩⟩:=h2.len 5;simp only[go_sem,a9,a0]
def pB(l:List Int)(j:Int):List Int:=[-l.getD (2*j.toNat) 0,-l.getD (2*j.toNat+1) 0]
theorem acW(l:List Int)(js:List Int):(js.flatMap (pB l)).length=2*js.length:=by
 induction js with
 |nil=>rfl
 |cons j js E=>rw[zJ,zo,E,zW];show 2+_=_;omega
theorem acX{s:Structure}{i:Nat}(hi:i<(free s).length):∃q:Nat,(free s)[i]=(q:Int)/\q<s.bI.length:=by
 have hm:=zu hi;generalize (free s)[i]=z at hm;unfold free F8 at hm;obtain⟨q,E,rfl⟩:=List.mem_map.mp hm;exact⟨q,rfl,List.mem_range.mp (List.mem_filter.mp E).1⟩
theorem apY{s:Structure}(h:SG s){l:List Int}(hl:l.length=2*s.bI.length)(hb:∀x∈l,-100<=x/\x<=100):fn ZK conv ext 176 [.agg (iI s),LI l]=some (LI (GY s l)):=by
 have a4:=lS s;have Yq:=h.nj;have k1:=acV h;have a0:∀q,-100<=l.getD q 0/\l.getD q 0<=100:=fun q=>by
  rw[zx]
  by_cases hq:q<l.length
  .rw[zy hq];exact hb _ (zu hq)
  .rw[yw (by omega)];simp
 rw[m_,mg [.tmp 4] [5] func176];unfold iI at k1⊢;simp only[go_sem,k1];generalize hL:jI _ _=y;obtain⟨r,rfl,T',σ',nx',rfl,h2⟩:=oZ hL (free s).length (fun i st=>st.T 1=LI l/\st.T 10=LI (free s)/\st.T 11=I (free s).length/\st.T 12=I i/\((i=0/\st.T 5= .nil)\/∃b,0<i/\b<st.nx/\st.T 5= .rs b 0 (2*i)/\st.σ b=some ⟨(((free s).take i).flatMap (pB l)).flatMap cI,1,true⟩))
  (fun r=>∃T σ nx',r=(.exit 0,⟨T,σ,nx'⟩)/\(((free s).length=0/\T 5= .nil)\/∃b,0<(free s).length/\b<nx'/\T 5= .rs b 0 (2*(free s).length)/\σ b=some ⟨(((free s).take (free s).length).flatMap (pB l)).flatMap cI,1,true⟩)) (by
   clear hL;rintro i ⟨T,σ,nx⟩ hi ⟨O,G,E,J,hx⟩;simp only at O G E J hx;obtain⟨q,eq,hq⟩:=acX hi;have f1:(i:Int)<((free s).length:Int):=by omega
   have f2:=jC i;have f3:=ZR (n:=(i:Int)+1);have f4:=Bg (free s) i hi;have f5:=idx hi;rw[eq]at f5;have w1:=ZR (n:=2*(q:Int));have w2:=ZR (n:=2*(q:Int)+1);have e1:2*(q:Int)=((2*q:Nat):Int):=by omega
   have e2:((2*q:Nat):Int)+1=((2*q+1:Nat):Int):=by omega
   rw[e1]at w1 w2;rw[e2]at w2;have g1:((2*q:Nat):Int)<(l.length:Int):=by omega
   have g2:((2*q+1:Nat):Int)<(l.length:Int):=by omega
   have g3:(0:Int)<=((2*q:Nat):Int):=by omega
   have g4:(0:Int)<=((2*q+1:Nat):Int):=by omega
   have g5:=idx (xs:=l) (k:=2*q) (by omega);have g6:=idx (xs:=l) (k:=2*q+1) (by omega);rw[<- lF (by omega) 0]at g5 g6;have g7:=Bg l (2*q) (by omega);have b1:=a0 (2*q);have b2:=a0 (2*q+1);have a1:((free s).take (i+1)).flatMap (pB l)=((free s).take i).flatMap (pB l)++[0-l.getD (2*q) 0,0-l.getD (2*q+1) 0]:=by
    rw[yJ,zy hi,eq,zS];simp[pB]
   generalize l.getD (2*q) 0=u at *;generalize l.getD (2*q+1) 0=v at *;have w3:=ZR (n:=0-u);have w4:=ZR (n:=0-v);have y1:nx<nx+1:=by omega
   have y2:2<=maxLen:=by unfold maxLen;decide
   rcases hx with ⟨h0,S⟩|⟨b,h0,h1,S,Y⟩
   .refine .inl ⟨_,by simp only[go_sem,O,G,E,J,S,f1,f2,f3,f4,f5,e1,e2,w1,w2,w3,w4,g1,g2,g3,g4,g5,g6,g7,y1,y2];rfl,?_⟩
    simp only[go_sem,O,G,E];refine⟨rfl,.inr ⟨nx+1,by omega,by omega,by rw[h0],?_⟩⟩;rw[Zi,a1,h0];rfl
   .have a2:=rE (σ:=restrict (upd σ nx (some ⟨[I (0-u),I (0-v)],1,true⟩)) [b,nx]) (nx:=nx+1) (bytes:=8) (b:=b) (len:=2*i) (m:=2) (row:=[I (0-u),I (0-v)]) (by rw[fH,Zk];exact Y) (by show((((free s).take i).flatMap (pB l)).flatMap cI).length=_;rw[qM,acW,zf];omega) rfl (by decide) (by unfold maxLen;omega) (by omega) rfl
    have x1:b<nx+1:=by omega
    refine .inl ⟨_,by simp only[go_sem,O,G,E,J,S,f1,f2,f3,f4,f5,e1,e2,w1,w2,w3,w4,g1,g2,g3,g4,g5,g6,g7,y1,y2,a2,x1];rfl,?_⟩;simp only[go_sem,O,G,E];refine⟨rfl,.inr ⟨nx+1,by omega,by omega,by rw[show 2*(i+1)=2*i+2 by omega],?_⟩⟩;rw[Zi,a1,zS];rfl) (by
   rintro ⟨T,σ,nx⟩ ⟨O,G,E,J,hx⟩;simp only at O G E J hx;refine⟨_,by simp only[go_sem,E,J,zi];rfl,by simp,_,_,_,rfl,?_⟩;simp only[go_sem];exact hx) (by
   simp only[go_sem];exact .inl trivial)
 have e:GY s l=(free s).flatMap (pB l):=rfl;rw[zl (zq _)]at h2;rcases h2 with ⟨h0,S⟩|⟨b,h0,h1,S,Y⟩
 .have:free s=[]:=zZ h0
  rw[e,this]
  (simp only[go_sem,S])<;>rfl
 .have a3:=kF Y (acW l (free s)) 6
  rw[<- e]at a3;simp only[go_sem,S,a3]
def G2l(lo:Nat)(v1 E:V)(σ:Store)(nx:Nat)(G J:List Int):Prop:=G2 v1 E σ nx G J/\(∀b o l,v1= .rs b o l->lo<=b)/\∀b o l,E= .rs b o l->lo<=b
theorem acY{v:V}{σ:Store}{nx:Nat}{G E:List Int}(h:Ci cI 1 (fun _=>v) σ nx 0 G)(h2:E≠[])(hl:G.length+E.length<100000) :
  ∃σ',Aj σ nx 1 8 v (E.flatMap cI) E.length=some (.rs nx 0 (G.length+E.length),σ',nx+1)/\Ci cI 1 (fun _=> .rs nx 0 (G.length+E.length)) σ' (nx+1) 0 (G++E)/\∀y,y<nx->(∀o l,v≠ .rs y o l)->σ' y=σ y:=by
 have O:E.length≠0:=fun e=>h2 (zZ e)
 have S:(E.flatMap cI).all vI=true:=by
  rw[wo];intro w hw;obtain⟨x,-,hx⟩:=List.mem_flatMap.mp hw;rw[List.mem_singleton.mp hx];rfl
 have Y:G++E≠[]:=fun e=>h2 (List.append_eq_nil_iff.mp e).2
 rcases h with ⟨J,rfl⟩|⟨b,J,a2,a1,a3⟩
 .have J:v= .nil:=J
  subst J;refine⟨upd σ nx (some ⟨E.flatMap cI,1,true⟩),by rw[r_,sO O,sN ⟨by unfold maxLen;omega,by omega⟩,yV,yY];rfl,.inr ⟨nx,by rw[zo],Y,by rw[Zi,yM],by omega⟩,fun y hy _=>by rw[Zk]⟩
 .have J:v= .rs b 0 G.length:=J
  subst J;have a0:=rE (σ:=σ) (nx:=nx) (bytes:=8) (b:=b) (len:=G.length) (m:=E.length) (row:=E.flatMap cI) a1 (qM G) rfl O (by unfold maxLen;omega) (by omega) S;refine⟨_,a0,.inr ⟨nx,by rw[zo],Y,by rw[Zi,zS],by omega⟩,fun y hy hv=>?_⟩;rw[Zk,Zj _ _ fun e=>hv 0 G.length (by rw[e])]
def G_(s:Structure)(j:Int):List Int:=(List.range s.members.length).map (eX s j)++(List.range s.members.length).map (eY s j)
theorem azc{s:Structure}(h:SG s)(j:Int)(k:Nat):(-100<=eX s j k/\eX s j k<=100)/\-100<=eY s j k/\eY s j k<=100:=by
 have:=Ze h k;unfold eX eY;constructor
 .split
  .omega
  .split<;>omega
 .split
  .omega
  .split<;>omega
theorem aiF(s:Structure)(j:Int):(G_ s j).length=2*s.members.length:=by unfold G_;simp;omega
theorem Rz(s:Structure):∀js:List Int,(js.flatMap (G_ s)).length=2*s.members.length*js.length
 |[]=>rfl
 |j :: js=>by rw[zJ,zo,Rz s js,aiF,zW,Nat.mul_succ];omega
theorem avW{s:Structure}(h:SG s)(hm:0<s.members.length):fn ZK conv ext 174 [.agg (iI s)]=some (LI ((free s).flatMap (G_ s))):=by
 have d1:=h.nm;have d2:=lS s;have Yq:=h.nj;have k1:=acV h;have kV:=fun k hk=>amf h (k:=k) hk
 rw[m_,mg [.tmp 2] [] func174];unfold iI at k1 kV⊢;simp only[go_sem,k1];generalize hL:jI _ _=y;obtain⟨r,rfl,T',σ',nx',rfl,h2⟩:=oZ hL (free s).length (fun i st=>st.T 1= .rp 0 0/\st.T 14=LI (free s)/\st.T 15=I (free s).length/\st.T 16=I i/\0<st.nx/\st.σ 0=some ⟨[LL Ag s.bI,LL Ac s.members],0,true⟩/\Ci cI 1 (fun _=>st.T 3) st.σ st.nx 0 (((free s).take i).flatMap (G_ s))/\∀o l,st.T 3≠ .rs 0 o l)
  (fun r=>∃T σ nx',r=(.exit 0,⟨T,σ,nx'⟩)/\Ci cI 1 (fun _=>T 3) σ nx' 0 ((free s).flatMap (G_ s))) (by
   clear hL;rintro i ⟨T,σ,nx⟩ hi ⟨t1,J,E,G,a9,s0,hg,b4⟩;simp only at t1 J E G a9 s0 hg b4;obtain⟨j,ej⟩:∃j,j=(free s)[i]:=⟨_,rfl⟩;have f1:(i:Int)<((free s).length:Int):=by omega
   have f2:=jC i;have f3:=ZR (n:=(i:Int)+1);have f4:=Bg (free s) i hi;have f5:=idx hi;rw[<- ej]at f5;refine bC ?_
   conv=>
    enter [1,r,1,1]
    simp only[go_sem,t1,J,E,G,s0,f1,f2,f4,f5]
   generalize hL:jI _ _=z;obtain⟨x,rfl,T2,σ2,CG,rfl,t1,J,E,G,t3,b3,Ed,O⟩:=oZ hL s.members.length (fun k st=>st.T 1= .rp 0 0/\st.T 14=LI (free s)/\st.T 15=I (free s).length/\st.T 16=I i/\st.T 3=T 3/\st.T 5=I j/\st.T 23=LL Ac s.members/\st.T 24=I s.members.length/\st.T 25=I k/\nx<=st.nx/\(∀y,y<nx->st.σ y=σ y)/\G2l nx (st.T 6) (st.T 7) st.σ st.nx ((List.range k).map (eX s j)) ((List.range k).map (eY s j)))
    (fun x=>∃T2 σ2 CG,x=(.exit 2,⟨T2,σ2,CG⟩)/\T2 1= .rp 0 0/\T2 14=LI (free s)/\T2 15=I (free s).length/\T2 16=I i/\T2 3=T 3/\nx<=CG/\(∀y,y<nx->σ2 y=σ y)/\G2l nx (T2 6) (T2 7) σ2 CG ((List.range s.members.length).map (eX s j)) ((List.range s.members.length).map (eY s j))) (by
     clear hL;rintro k ⟨T2,σ2,CG⟩ hk ⟨t1,J,E,G,t3,t5,a0,S,a6,b3,Ed,O,a7,a8⟩;simp only at t1 J E G t3 t5 a0 S a6 b3 Ed O a7 a8;have g1:(k:Int)<(s.members.length:Int):=by omega
     have g2:=jC k;have g3:=ZR (n:=(k:Int)+1);have g4:=Nl s.members k hk;have g5:=GR s.members;have g6:k*3+3<=s.members.length*3:=by omega
     have g9:=Np s.members k hk;rw[jH hk]at g4;have kv:=kV k hk;have d3:=Ze h k;have b9:σ2 0=_:=(Ed 0 a9).trans s0;obtain⟨m1,em⟩:∃m1,m1=mem s k:=⟨_,rfl⟩;rw[<- em]at g4;obtain⟨s3,a5⟩:∃s3,s3=upd σ2 CG (some ⟨Ac m1,0,true⟩):=⟨_,rfl⟩;have c0:G2 (T2 6) (T2 7) s3 (CG+1) ((List.range k).map (eX s j)) ((List.range k).map (eY s j)):=O.congr (by omega) fun b hb=>by rw[a5,Zk]
     have b5:s3 CG=some ⟨Ac m1,0,true⟩:=by rw[a5,Zi]
     have b6:s3 0=_:=(by rw[a5,Zk]:s3 0=σ2 0).trans b9;have EJ:∀y,y<nx->s3 y=σ y:=fun y hy=>by rw[a5,Zk];exact Ed y hy
     obtain⟨BN,Dx,a1,a2,a3,a4⟩:=lN c0 (eX s j k) (eY s j k) (by simp;omega) (by simp;omega);have eR:∀f:Nat->Int,(List.range (k+1)).map f=(List.range k).map f++[f k]:=fun f=>by rw[wK,wR];rfl
     have hl:((List.range k).map (eX s j)).length=k:=by simp
     have c4:((List.range k).map (eY s j)).length=k:=by simp
     rw[hl]at a1 a3;rw[c4]at a2 a3;have fin:(∀y,y<nx->Dx y=σ y):=fun y hy=>(a4 y (by omega) (fun o l e=>by have:=a7 _ _ _ e;omega) fun o l e=>by have:=a8 _ _ _ e;omega).trans (EJ y hy)
     have done:G2l nx (.rs (CG+1+1) 0 (k+1)) (.rs (CG+1+1+1+1) 0 (k+1)) Dx (CG+1+1+1+1+1) ((List.range (k+1)).map (eX s j)) ((List.range (k+1)).map (eY s j)):=by
      rw[eR,eR];exact⟨a3,fun b o l e=>by simp only[V.rs.injEq]at e;omega,fun b o l e=>by simp only[V.rs.injEq]at e;omega⟩
     unfold Ac at a5
     by_cases ja:j=m1.a
     .have c1:(j==m1.a)=true:=beq_iff_eq.mpr ja
      have ex:eX s j k=vx s k:=by unfold eX;rw[sN (by rw[<- em];exact ja)]
      have ey:eY s j k=vy s k:=by unfold eY;rw[sN (by rw[<- em];exact ja)]
      rw[ex]at a1;rw[ey]at a2;refine .inl ⟨_,by simp only[go_sem,t1,J,E,G,t3,t5,a0,S,a6,g1,g2,g3,g4,g5,g6,g9,<- a5,b5,b6,kv,c1,a1,a2];rfl,?_⟩;simp only[go_sem,t1,J,E,G,t3,t5,a0,S];rw[<- wK];exact⟨rfl,by omega,fin,done⟩
     .have c1:(j==m1.a)=false:=beq_false_of_ne ja
      by_cases jb:j=m1.b
      .have c2:(j==m1.b)=true:=beq_iff_eq.mpr jb
       have ex:eX s j k=0-vx s k:=by unfold eX;rw[sO (by rw[<- em];exact ja),sN (by rw[<- em];exact jb)];omega
       have ey:eY s j k=0-vy s k:=by unfold eY;rw[sO (by rw[<- em];exact ja),sN (by rw[<- em];exact jb)];omega
       have w1:=ZR (n:=0-vx s k);have w2:=ZR (n:=0-vy s k);rw[ex]at a1;rw[ey]at a2;refine .inl ⟨_,by simp only[go_sem,t1,J,E,G,t3,t5,a0,S,a6,g1,g2,g3,g4,g5,g6,g9,<- a5,b5,b6,kv,c1,c2,w1,w2,a1,a2];rfl,?_⟩;simp only[go_sem,t1,J,E,G,t3,t5,a0,S];rw[<- wK];exact⟨rfl,by omega,fin,done⟩
      .have c2:(j==m1.b)=false:=beq_false_of_ne jb
       have ex:eX s j k=0:=by unfold eX;rw[sO (by rw[<- em];exact ja),sO (by rw[<- em];exact jb)]
       have ey:eY s j k=0:=by unfold eY;rw[sO (by rw[<- em];exact ja),sO (by rw[<- em];exact jb)]
       rw[ex]at a1;rw[ey]at a2;refine .inl ⟨_,by simp only[go_sem,t1,J,E,G,t3,t5,a0,S,a6,g1,g2,g3,g4,g5,g6,g9,<- a5,b5,b6,kv,c1,c2,a1,a2];rfl,?_⟩;simp only[go_sem,t1,J,E,G,t3,t5,a0,S];rw[<- wK];exact⟨rfl,by omega,fin,done⟩) (by
     clear hL;rintro ⟨T2,σ2,CG⟩ ⟨t1,J,E,G,t3,t5,a0,S,a6,b3,Ed,O⟩;simp only at t1 J E G t3 t5 a0 S a6 b3 Ed O;refine⟨_,by simp only[go_sem,S,a6,zi];rfl,by simp,_,_,_,rfl,?_⟩;simp only[go_sem,t1,J,E,G,t3];exact⟨b3,Ed,O⟩) (by
     simp only[go_sem,t1,J,E,G];exact⟨fun _ _=>trivial,.inl ⟨rfl,rfl,rfl,rfl⟩,fun _ _ _ e=>(by cases e),fun _ _ _ e=>(by cases e)⟩)
   clear hL;obtain⟨O,a7,a8⟩:=O;obtain⟨X,b7⟩:∃X,X=(List.range s.members.length).map (eX s j):=⟨_,rfl⟩;obtain⟨Y,b8⟩:∃Y,Y=(List.range s.members.length).map (eY s j):=⟨_,rfl⟩;have lX:X.length=s.members.length:=by rw[b7];simp
   have lY:Y.length=s.members.length:=by rw[b8];simp
   rw[<- b7,<- b8]at O;rcases O with ⟨q1,-⟩|⟨b1,b2,q1,q2,q3,q4,q5,q6,q7,q8,q9⟩
   .rw[q1]at lX;simp at lX;omega
   have d4:=a7 _ _ _ q6;have c5:=a8 _ _ _ q7;obtain⟨L,eL⟩:∃L,L=((free s).take i).flatMap (G_ s):=⟨_,rfl⟩;have Yo:L.length<=100:=by
    rw[eL,Rz,zf];have:2*s.members.length*min i (free s).length<=16*6:=x9 (by omega) (by omega);omega
   rw[<- eL]at hg;have c6:Ci cI 1 (fun _=>T 3) σ2 CG 0 L:=by
    rcases hg with h|⟨b,p1,p2,p3,p4⟩
    .exact .inl h
    .exact .inr ⟨b,p1,p2,(Ed b p4).trans p3,by omega⟩
   have hv:∀y,nx<=y->∀o l,T 3≠ .rs y o l:=fun y hy o l e=>by
    have:=kU hg (b:=y) (o:=o) (l:=l) e;omega
   obtain⟨c7,a1,a2,a3⟩:=acY c6 q4 (by omega);obtain⟨BN,c1,c2,c3⟩:=acY a2 q5 (by rw[zo];omega);have s3:c7 b2=_:=(a3 b2 q3 (hv b2 c5)).trans q9;have c8:BN 0=some ⟨[LL Ag s.bI,LL Ac s.members],0,true⟩:=by
    rw[c3 0 (by omega) fun o l e=>by simp only[V.rs.injEq]at e;omega,a3 0 (by omega) b4,Ed 0 a9];exact s0
   simp only[zo,lX,lY]at a1 c1 c2 q6 q7;have eT:((free s).take (i+1)).flatMap (G_ s)=L++X++Y:=by
    rw[yJ,zy hi,zS,<- eL,<- ej,yh];show L++(G_ s j++[])=_;unfold G_;rw[<- b7,<- b8,zC]
   have tX:(X.flatMap cI).take s.members.length=X.flatMap cI:=zl (by rw[qM];omega);have tY:(Y.flatMap cI).take s.members.length=Y.flatMap cI:=zl (by rw[qM];omega);have c9:s.members.length<=X.length:=by omega
   have d0:s.members.length<=Y.length:=by omega
   refine⟨_,by simp only[go_sem,G,f3,t3,q6,q7,q8,tX,tY,c9,d0,a1,s3,c1];rfl,.inl ⟨_,rfl,?_⟩⟩;simp only[go_sem,t1,J,E];rw[eT];exact⟨rfl,by omega,c8,c2,fun o l e=>by simp only[V.rs.injEq]at e;omega⟩) (by
   rintro ⟨T,σ,nx⟩ ⟨t1,J,E,G,a9,s0,hg,b4⟩;simp only at t1 J E G a9 s0 hg b4;refine⟨_,by simp only[go_sem,E,G,zi];rfl,by simp,_,_,_,rfl,?_⟩;simp only[go_sem];rw[zl (zq _)]at hg;exact hg) (by
   simp only[go_sem];exact⟨.inl ⟨rfl,rfl⟩,fun _ _=>trivial⟩)
 obtain⟨ids,hs⟩:=KH (c:=cI) (s:=1) (fun _=>rfl) 6 (fun x=>by rw[ak,aP,aX];rfl) h2;simp only[go_sem,hs]
theorem abB(s:Structure)(js:List Int):js.flatMap (G_ s)=(js.flatMap (EI s)).flatMap id:=by
 induction js with
 |nil=>rfl
 |cons j js E=>
  rw[zJ,zJ,zS,E];show G_ s j++_=(((List.range s.members.length).map (eX s j))++(((List.range s.members.length).map (eY s j))++[]))++_;rw[zC];rfl
theorem apZ{s:Structure}(h:SG s)(hm:s.members=[]):fn ZK conv ext 174 [.agg (iI s)]=some (LI []):=by
 have a0:=lS s;have Yq:=h.nj;have Y:=acV h;rw[m_,mg [.tmp 2] [] func174];unfold iI at Y⊢;rw[hm]at Y⊢;have Y:fn ZK conv ext 175 [.agg [LL Ag s.bI,.ts [] 0]]=some (LI (free s)):=Y
 simp only[go_sem,Y];generalize hL:jI _ _=y;obtain⟨r,rfl,T',σ',nx',rfl,h2⟩:=oZ hL (free s).length (fun i st=>st.T 1= .rp 0 0/\st.T 14=LI (free s)/\st.T 15=I (free s).length/\st.T 16=I i/\st.T 3= .nil/\0<st.nx/\st.σ 0=some ⟨[LL Ag s.bI,.ts [] 0],0,true⟩)
  (fun r=>∃T σ nx',r=(.exit 0,⟨T,σ,nx'⟩)/\T 3= .nil) (by
   clear hL;rintro i ⟨T,σ,nx⟩ hi ⟨t1,J,G,E,S,O,s0⟩;simp only at t1 J G E S O s0;have f1:(i:Int)<((free s).length:Int):=by omega
   have f2:=jC i;have f3:=ZR (n:=(i:Int)+1);have f4:=Bg (free s) i hi;have f5:=idx hi;refine bC ?_
   conv=>
    enter [1,r,1,1]
    simp only[go_sem,t1,J,G,E,S,s0,f1,f2,f4,f5]
   generalize hL:jI _ _=z;obtain rfl:=jQ hL (by simp only[go_sem];rfl) (by simp);refine⟨_,by simp only[go_sem,S,E,f3];rfl,.inl ⟨_,rfl,?_⟩⟩;simp only[go_sem,t1,J,G,E,S];exact⟨rfl,O,s0⟩) (by
   rintro ⟨T,σ,nx⟩ ⟨t1,J,G,E,S,O,s0⟩;simp only at t1 J G E S O s0;refine⟨_,by simp only[go_sem,G,E,zi];rfl,by simp,_,_,_,rfl,?_⟩;simp only[go_sem,S]) (by
   simp only[go_sem];rfl)
 (simp only[go_sem,h2])<;>rfl
theorem ap0{s:Structure}(h:SG s):fn ZK conv ext 174 [.agg (iI s)]=some (LI ((free s).flatMap (G_ s))):=by
 by_cases hm:s.members=[]
 .have e:(free s).flatMap (G_ s)=[]:=by
   rw[List.flatMap_eq_nil_iff];intro j _;unfold G_;rw[hm];rfl
  rw[e];exact apZ h hm
 .exact avW h (List.length_pos_iff.mpr hm)
theorem RD{C:Nat}:∀ {xs:List (List Int)} {i c:Nat},(∀x∈xs,x.length=C)->(hi:i<xs.length)->c<C->(xs.flatMap id)[i*C+c]?=(xs[i])[c]?
 |[],i,c,_,hi,_=>absurd hi (zU _)
 |x :: xs,0,c,hx,_,hc=>by
  rw[zJ,uY,yY,zV (by rw[id,hx x zL];exact hc)];rfl
 |x :: xs,i+1,c,hx,hi,hc=>by
  have E:=hx x zL;rw[zJ,zM (by rw[id,E,xg];omega),id,E,show(i+1)*C+c-C=i*C+c by rw[xg];omega,RD (fun y G=>hx y (zY _ G)) (by simpa using hi) hc];rfl
def amg(σ:Store)(nx:Nat)(G:List Int)(R C:Nat)(B:V)(p:Nat):Prop:=(p=0/\σ 3=some ⟨[I R,I C,.nil,B,.rs 2 0 C],0,true⟩)\/∃E,0<p/\3<E/\E<nx/\σ 3=some ⟨[I R,I C,.rs E 0 p,B,.rs 2 0 C],0,true⟩/\σ E=some ⟨(G.take p).flatMap cI,1,true⟩
theorem aiG{s:Structure}(h:SG s){l:List Int}(hl:l.length=2*s.bI.length)(hb:∀x∈l,-100<=x/\x<=100) :
  fn ZK conv ext 145 [.agg (iI s),LI l]=some (.agg (CZ (JU s) (CQ s) (O6 s) (GY s l) (List.replicate (CQ s) 0))):=by
 have c6:=h.nm;have e9:=lS s;have Yq:=h.nj;have f4:=oz s s.members.length;have k1:=Ye h;have k2:=ap0 h;have k3:=acV h;have k4:=apY h hl hb;have c7:=ny s;obtain⟨E,hE⟩:∃E,E=Cb s (free s).length:=⟨_,rfl⟩;obtain⟨K,hK⟩:∃K,K=cols s s.members.length:=⟨_,rfl⟩;obtain⟨RF,b2⟩:∃RF,RF=(free s).flatMap (G_ s):=⟨_,rfl⟩;obtain⟨R,eR⟩:∃R,R=JU s:=⟨_,rfl⟩;obtain⟨C,eC⟩:∃C,C=CQ s:=⟨_,rfl⟩;have hR:E.length=R:=by rw[hE,eR];exact c7
 have hC:K.length=C:=by rw[hK,eC];rfl
 have c8:R<=12:=by rw[eR];unfold JU;omega
 have c9:C<=16:=by rw[<- hC,hK];omega
 have b3:(O6 s).length=R*C:=by rw[eR,eC];exact L9 s
 have f7:R*C<=12*16:=x9 c8 c9;rw[<- hK]at k1;rw[<- b2]at k2;rw[<- eR,<- eC];have k1:fn ZK conv ext 173 [.agg (iI s)]=some (.Bf [.ts ((K.map F6).flatMap cI) C,LI (K.map Gy)]):=by rw[k1,<- hC];show some (V.Bf [V.ts _ (K.map F6).length,_])=_;rw[zQ]
 have f0:=jC C;have f5:8*(C:Int)<=281474976710656:=by omega
 have f6:(C:Int)<=9223372036854775807:=by omega
 have e2:2*((free s).length:Int)=(R:Int):=by rw[eR];unfold JU;omega
 have w2:=ZR (n:=(R:Int));rw[m_,mg [.cell 4 104] [4,11] func145];unfold iI at k1 k2 k3 k4⊢;simp only[go_sem,k1,k2,k3,k4,e2,w2,f0,f5,f6];generalize hL:jI _ _=y;obtain⟨FA,a4⟩:∃FA,FA=O6 s:=⟨_,rfl⟩;rw[<- a4]at b3;have d0:RF=E.flatMap id:=by
  rw[b2,hE,abB];unfold Cb;rw[yX]
 have b4:∀r∈E,r.length=s.members.length:=by rw[hE];exact fun r hr=>QW hr
 have d1:∀i c (hi:i<R) (hc:c<C) (hq:i*C+c<FA.length),FA[i*C+c]=(K[c]'(by omega)).2*(E[i]'(by omega)).getD (K[c]'(by omega)).1.toNat 0:=fun i c hi hc hq=>by
  have:=mG (fun r:List Int=>K.map fun p=>p.2*r.getD p.1.toNat 0) (C:=C) (fun _=>by rw[zQ];exact hC) E (i:=i) (c:=c) (by omega) hc;rw[zF,zy (l:=K) (i:=c) (by omega)]at this;have e2:FA=E.flatMap fun r=>K.map fun p=>p.2*r.getD p.1.toNat 0:=by rw[a4,hE,hK];rfl
  rw[<- e2,zy hq]at this;exact Option.some.inj this
 have d2:∀x∈FA,-1000<=x/\x<=1000:=by rw[a4];exact abb h
 obtain⟨x,rfl,T1,a6,qI,rfl,S,O,f8,d3,d4,d5⟩:=oZ hL R (fun i st=>st.T 4= .rp 1 0/\st.T 5= .ts ((K.map F6).flatMap cI) C/\st.T 6=LI (K.map Gy)/\st.T 7=I s.members.length/\st.T 8=LI RF/\st.T 9= .rp 3 0/\st.T 10=I i/\3<st.nx/\st.σ 1=some ⟨[I 0,I 0,.nil,.nil,.nil],0,true⟩/\st.σ 2=some ⟨(List.replicate C 0).flatMap cI,1,true⟩/\amg st.σ st.nx FA R C (LI (GY s l)) (i*C))
  (fun x=>∃T σ nx,x=(.exit 0,⟨T,σ,nx⟩)/\T 4= .rp 1 0/\T 9= .rp 3 0/\3<nx/\σ 1=some ⟨[I 0,I 0,.nil,.nil,.nil],0,true⟩/\σ 2=some ⟨(List.replicate C 0).flatMap cI,1,true⟩/\amg σ nx FA R C (LI (GY s l)) (R*C)) (by
   clear hL;rintro i ⟨T,σ,nx⟩ hi ⟨S,t5,t6,t7,t8,O,G,J,s1,s2,hA⟩;simp only at S t5 t6 t7 t8 O G J s1 s2 hA;have f1:(i:Int)<(R:Int):=by omega
   have f2:=jC i;have f3:=ZR (n:=(i:Int)+1);obtain⟨vA,a2⟩:∃vA,σ 3=some ⟨[I R,I C,vA,LI (GY s l),.rs 2 0 C],0,true⟩:=by
    rcases hA with ⟨-,h3⟩|⟨ba,-,-,-,h3,-⟩<;>exact⟨_,h3⟩
   refine bC ?_
   conv=>
    enter [1,r,1,1]
    simp only[go_sem,t5,O,G,a2,f1]
   generalize hL:jI _ _=z;obtain⟨x,rfl,T2,σ2,CG,rfl,S,t5,t6,t7,t8,O,G,d6,s1,s2,b5⟩:=oZ hL C (fun c st=>st.T 4= .rp 1 0/\st.T 5= .ts ((K.map F6).flatMap cI) C/\st.T 6=LI (K.map Gy)/\st.T 7=I s.members.length/\st.T 8=LI RF/\st.T 9= .rp 3 0/\st.T 10=I i/\st.T 42= .ts ((K.map F6).flatMap cI) C/\st.T 43=I C/\st.T 44=I c/\3<st.nx/\st.σ 1=some ⟨[I 0,I 0,.nil,.nil,.nil],0,true⟩/\st.σ 2=some ⟨(List.replicate C 0).flatMap cI,1,true⟩/\amg st.σ st.nx FA R C (LI (GY s l)) (i*C+c))
    (fun x=>∃T σ nx,x=(.exit 2,⟨T,σ,nx⟩)/\T 4= .rp 1 0/\T 5= .ts ((K.map F6).flatMap cI) C/\T 6=LI (K.map Gy)/\T 7=I s.members.length/\T 8=LI RF/\T 9= .rp 3 0/\T 10=I i/\3<nx/\σ 1=some ⟨[I 0,I 0,.nil,.nil,.nil],0,true⟩/\σ 2=some ⟨(List.replicate C 0).flatMap cI,1,true⟩/\amg σ nx FA R C (LI (GY s l)) (i*C+C)) (by
     clear hL;rintro c ⟨T,σ,nx⟩ hc ⟨S,t5,t6,t7,t8,O,G,a0,Y,a1,J,s1,s2,hA⟩;simp only at S t5 t6 t7 t8 O G a0 Y a1 J s1 s2 hA;have d7:K[c]'(by omega)∈cols s s.members.length:=by rw[<- hK];exact zu _
     obtain⟨⟨q,b6,d8⟩,f9⟩:=ou d7;obtain⟨u,eu⟩:∃u,u=(K[c]'(by omega)).2:=⟨_,rfl⟩;have a7:i*C+c<FA.length:=by
      have:(i+1)*C<=R*C:=zK _ (by omega);rw[xg]at this;omega
     obtain⟨e,ee⟩:∃e,e=(E[i]'(by omega)).getD q 0:=⟨_,rfl⟩;have a8:=d1 i c hi hc a7;rw[b6,zA,<- ee,<- eu]at a8;have d9:=d2 _ (zu a7);rw[a8]at d9;have g1:(c:Int)<(C:Int):=by omega
     have g2:=jC c;have g3:=ZR (n:=(c:Int)+1);have g4:=idx (xs:=K.map F6) (k:=c) (by rw[zQ];omega);rw[xZ,show F6 (K[c]'(by omega))=(q:Int)from b6]at g4;have g5:=idx (xs:=K.map Gy) (k:=c) (by rw[zQ];omega);rw[xZ,show Gy (K[c]'(by omega))=u from eu.symm]at g5;have g6:=Bg (K.map F6) c (by rw[zQ];omega);have g7:=Bg (K.map Gy) c (by rw[zQ];omega);have g8:(c:Int)<((K.map Gy).length:Int):=by rw[zQ];omega
     have g0:i*s.members.length<=12*8:=x9 (by omega) c6;have e3:(i:Int)*(s.members.length:Int)=((i*s.members.length:Nat):Int):=by push_cast;rfl
     have w1:=ZR (n:=((i*s.members.length:Nat):Int));have e4:((i*s.members.length:Nat):Int)+(q:Int)=((i*s.members.length+q:Nat):Int):=by push_cast;rfl
     have b7:=ZR (n:=((i*s.members.length+q:Nat):Int));have w3:=ZR (n:=u*e);have h5:=b4 _ (zu (l:=E) (n:=i) (by omega));have a5:RF[i*s.members.length+q]?=some e:=by
      rw[d0,RD b4 (by omega) d8,ee,zx,zy (by omega)];rfl
     have a9:i*s.members.length+q<RF.length:=by
      refine zh fun hn=>?_
      rw[yw (by omega)]at a5;cases a5
     have g9:=idx (xs:=RF) a9;rw[zy a9]at a5;rw[Option.some.inj a5]at g9;have b8:((i*s.members.length+q:Nat):Int)<(RF.length:Int):=by omega
     have b9:(0:Int)<=((i*s.members.length+q:Nat):Int):=by omega
     have c0:=Bg RF _ a9;have c2:FA.take (i*C+(c+1))=FA.take (i*C+c)++[u*e]:=by
      rw[<- vw,yJ,zy a7,a8];rfl
     have h6:i*C+c<=200:=by omega
     have y1:3<nx:=by omega
     have y2:¬3=nx:=by omega
     have y3:(3==nx)=false:=by rw[sJ];omega
     have y4:(nx==3)=false:=by rw[sJ];omega
     have y5:3<nx+1:=by omega
     have y6:¬3=nx+1:=by omega
     have y7:(3==nx+1)=false:=by rw[sJ];omega
     have y8:(nx+1==3)=false:=by rw[sJ];omega
     have y9:3<nx+1+1:=by omega
     have OE:¬3=nx+1+1:=by omega
     have OG:(3==nx+1+1)=false:=by rw[sJ];omega
     have OH:(nx+1+1==3)=false:=by rw[sJ];omega
     have c3:nx<nx+1:=by omega
     have Q8:nx+1<nx+1+1:=by omega
     rcases hA with ⟨h0,h3⟩|⟨ba,h0,h1,h2,h3,h4⟩
     .refine .inl ⟨_,by simp only[go_sem,S,t5,t6,t7,t8,O,G,a0,Y,a1,h3,g1,g2,g3,g4,g5,g6,g7,g8,e3,w1,e4,b7,w3,g9,b8,b9,c0,y1,y2,y3,y4,y5,y6,y7,y8,y9,OE,OG,OH,c3,Q8];rfl,?_⟩
      simp only[go_sem,S,t5,t6,t7,t8,O,G,a0,Y];refine⟨rfl,by omega,?_,?_,.inr ⟨nx+1,by omega,by omega,by omega,?_,?_⟩⟩
      .repeat rw[Zk]
       exact s1
      .repeat rw[Zk]
       exact s2
      .rw[Zi,show i*C+(c+1)=1 by omega]
      .rw[Zk,Zi,c2,h0];rfl
     .have c4:=rE (σ:=restrict (upd σ nx (some ⟨[I (u*e)],1,true⟩)) [ba,nx]) (nx:=nx+1) (bytes:=8) (b:=ba) (len:=i*C+c) (m:=1) (row:=[I (u*e)]) (by rw[fH,Zk];exact h4) (by show((FA.take (i*C+c)).flatMap cI).length=_;rw[qM,zf];omega) rfl (by decide) (by unfold maxLen;omega) (by omega) rfl
      have x1:ba<nx+1:=by omega
      have x2:(3==ba)=false:=by rw[sJ];omega
      have x3:(ba==3)=false:=by rw[sJ];omega
      have x4:¬3=ba:=by omega
      refine .inl ⟨_,by simp only[go_sem,S,t5,t6,t7,t8,O,G,a0,Y,a1,h3,g1,g2,g3,g4,g5,g6,g7,g8,e3,w1,e4,b7,w3,g9,b8,b9,c0,c4,x1,x2,x3,x4,y1,y2,y3,y4,y5,y6,y7,y8,y9,OE,OG,OH,c3,Q8];rfl,?_⟩;simp only[go_sem,S,t5,t6,t7,t8,O,G,a0,Y];refine⟨rfl,by omega,?_,?_,.inr ⟨nx+1,by omega,by omega,by omega,?_,?_⟩⟩
      .repeat rw[Zk]
       exact s1
      .repeat rw[Zk]
       exact s2
      .rw[Zi];rfl
      .rw[Zk,Zi,c2,zS];rfl) (by
     clear hL;rintro ⟨T,σ,nx⟩ ⟨S,t5,t6,t7,t8,O,G,a0,Y,a1,J,s1,s2,hA⟩;simp only at S t5 t6 t7 t8 O G a0 Y a1 J s1 s2 hA;refine⟨_,by simp only[go_sem,Y,a1,zi];rfl,by simp,_,_,_,rfl,?_⟩;simp only[go_sem,S,t5,t6,t7,t8,O,G];exact⟨J,s1,s2,hA⟩) (by
     simp only[go_sem,S,t5,t6,t7,t8,O,G];exact⟨J,s1,s2,hA⟩)
   refine⟨_,by simp only[go_sem,G,f3];rfl,.inl ⟨_,rfl,?_⟩⟩;simp only[go_sem,S,t5,t6,t7,t8,O];rw[<- xg]at b5;exact⟨rfl,d6,s1,s2,b5⟩) (by
   clear hL;rintro ⟨T,σ,nx⟩ ⟨S,t5,t6,t7,t8,O,G,J,s1,s2,hA⟩;simp only at S t5 t6 t7 t8 O G J s1 s2 hA;obtain⟨vA,a2⟩:∃vA,σ 3=some ⟨[I R,I C,vA,LI (GY s l),.rs 2 0 C],0,true⟩:=by
    rcases hA with ⟨-,h3⟩|⟨ba,-,-,-,h3,-⟩<;>exact⟨_,h3⟩
   refine⟨_,by simp only[go_sem,O,G,a2,zi];rfl,by simp,_,_,_,rfl,?_⟩;simp only[go_sem,S,O];exact⟨J,s1,s2,hA⟩) (by
   simp only[go_sem];refine⟨by rw[<- fM],.inl ⟨rfl,by rw[Zi]⟩⟩)
 clear hL;obtain⟨vA,a2,e0,e1⟩:∃vA,a6 3=some ⟨[I R,I C,vA,LI (GY s l),.rs 2 0 C],0,true⟩/\vI vA=true/\∀σ',(∀y,y≠1->σ' y=a6 y)->∃ids,strip σ' 6 vA=some (LI FA,ids):=by
  rcases d5 with ⟨h0,h3⟩|⟨ba,h0,h1,h2,h3,h4⟩
  .have:FA=[]:=zZ (by omega)
   exact⟨_,h3,rfl,fun σ' _=>⟨[],by rw[aS,this];rfl⟩⟩
  .rw[zl (by omega)]at h4
   exact⟨_,h3,rfl,fun σ' e5=>⟨_,kF ((e5 ba (by omega)).trans h4) b3 5⟩⟩
 obtain⟨a3,e8⟩:∃a3,a3=upd a6 1 (some ⟨[I R,I C,vA,LI (GY s l),.rs 2 0 C],0,true⟩):=⟨_,rfl⟩;have e6:a3 1=some ⟨[I R,I C,vA,LI (GY s l),.rs 2 0 C],0,true⟩:=by rw[e8,Zi]
 obtain⟨i1,c5⟩:=e1 a3 fun y hy=>by rw[e8,Zj _ _ hy]
 have e7:=kF (σ:=a3) (b:=2) (xs:=List.replicate C 0) (by rw[e8,Zj _ _ (by decide)];exact d4) (n:=C) (by simp) 5;rw[a4]at c5;simp only[go_sem,S,O,a2,d3,e0,<- e8,e6,c5,e7,ak]
 try rfl
end Go.Proofs.YtjjhejehbhbdeaaGreat
namespace Go.Proofs.YtjjhejehbhbdeaaGreat
open Go Go.TV Go.Lp
theorem avX{s:Structure}(h:SG s){l:List Int}(hb:∀x∈l,-100<=x/\x<=100):PrS (O6 s) (GY s l) (List.replicate (CQ s) 0) (JU s) (CQ s):=by
 have E:=lS s;have S:=h.nj;have G:=h.nm;have J:=oz s s.members.length;refine⟨L9 s,by rw[Us];rfl,by simp,?_,?_,abb h,ahV hb,fun x O=>?_⟩
 .unfold JU;omega
 .unfold CQ;omega
 .rw[(List.mem_replicate.mp O).2];decide
theorem ami{s:Structure}(h:SG s){l:List Int}(hb:∀x∈l,-100<=x/\x<=100) :
  ∃r,fn ZK wI Am 144 [.agg (CZ (JU s) (CQ s) (O6 s) (GY s l) (List.replicate (CQ s) 0))]=some r/\avR (EP s l) r:=apV (avX h hb)
attribute [-go_sem] qy
theorem aiH{a b:Nat}(x y:Rat)(G:Ln a x)(J:Ln b y)(E:a+b<=23):fn ZK conv ext 179 [.agg (cQ x),.agg (cQ y)]=some (.agg (cQ (x+y))):=by
 have o1:=X9 x (G.mono (by omega));have O:=X9 y (J.mono (by omega));have S:=acP x y G J E;unfold cQ at *;rw[m_,mg [.cell 4 150] [] func179];simp only[go_sem,o1,O,S]
theorem aiI{a b:Nat}(x y:Rat)(J:Ln a x)(E:Ln b y)(G:a+b<=23):fn ZK conv ext 180 [.agg (cQ x),.agg (cQ y)]=some (.agg (cQ (x-y))):=by
 have o1:=X9 x (J.mono (by omega));have S:=X9 y (E.mono (by omega));have Y:=agF y (by have:=E.1;omega) (by have:=E.2;omega);have O:=acP x (-y) J (UH E) G;rw[<- Rat.sub_eq_add_neg]at O;unfold cQ at *;rw[m_,mg [.cell 4 150] [] func180];simp only[go_sem,o1,S,Y,O]
theorem aiJ{xs:List Rat}(h:∀x∈xs,Ln 24 x)(hl:xs.length<=1000):fn ZK conv ext 177 [LL cQ xs]=some (Bo true):=by
 rw[m_,mg [.tmp 2] [] func177];simp only[go_sem];generalize S:jI _ _=y;obtain⟨r,rfl,T',σ',nx',rfl⟩:=oZ S xs.length (fun k st=>st.T 5=LL cQ xs/\st.T 6=I xs.length/\st.T 7=I k)
  (fun r=>∃T σ nx',r=(.exit 0,⟨T,σ,nx'⟩)) (by
   clear S;rintro k ⟨T,σ,nx⟩ O ⟨G,E,J⟩;simp only at G E J;have Y:(k:Int)<(xs.length:Int):=by omega
   have f2:=jC k;have f3:=ZR (n:=(k:Int)+1);have f4:=cO (c:=cQ) (s:=3) qH xs k O;have f5:=bU (c:=cQ) (s:=3) qH xs;have f6:k*3+3<=xs.length*3:=by omega
   have f7:=bY (c:=cQ) (s:=3) qH (by omega) xs k O;have k1:=X9 xs[k] (h _ (zu O));refine .inl ⟨_,by simp only[go_sem,G,E,J,Y,f2,f3,f4,f5,f6,f7,k1];rfl,?_⟩;simp only[go_sem,G,E];rfl) (by
   rintro ⟨T,σ,nx⟩ ⟨G,E,J⟩;simp only at G E J;exact⟨_,by simp only[go_sem,E,J,zi];rfl,by simp,_,_,_,rfl⟩) (by
   simp only[go_sem])
 simp only[go_sem]
theorem avY:fn ZK conv ext 218 []=some (.agg (cQ 0)):=by
 have E:fn ZK conv ext 171 [I 0]=some (.agg (cQ 0)):=dK 0 (by decide) (by decide)
 rw[m_,mg [.cell 0 150] [] func218];simp only[go_sem,E]
theorem ap2(n:Nat)(hn:n<=1000)(σ:Store)(nx:Nat):∃v σ' nx',ev ZK wI Am 202 [I n] σ nx=some (v,σ',nx')/\nx<=nx'/\Ja v σ' nx nx' (List.replicate n (0:Rat))/\∀y,y<nx->σ' y=σ y:=by
 have k0:=avY;rw[mg [.tmp 2] [] func202];simp only[go_sem];generalize hL:jI _ _=y;obtain⟨r,rfl,T',σ',nx',rfl,O,G,Ed⟩:=oZ hL n (fun k st=>st.T 0=I n/\nx<=st.nx/\Ja (st.T 3) st.σ nx st.nx (List.replicate k (0:Rat))/\∀y,y<nx->st.σ y=σ y)
  (fun r=>∃T σ' nx',r=(.exit 0,⟨T,σ',nx'⟩)/\nx<=nx'/\Ja (T 3) σ' nx nx' (List.replicate n (0:Rat))/\∀y,y<nx->σ' y=σ y) (by
   clear hL;rintro k ⟨T,S,qI⟩ hk ⟨t0,E,hA,fr⟩;simp only at t0 E hA fr;have f1:(k:Int)<(n:Int):=by omega
   have hlen:DR ZK 40 (T 3)=some (I k):=by
    rcases hA with ⟨J,G⟩|⟨b,J,G,h3,Y,h5⟩
    .rw[G]
     have:k=0:=by have:=congrArg List.length J;simpa using this
     rw[this];exact nU (by kernel_rfl)
    .rw[Y,yT];exact nT (by kernel_rfl)
   obtain⟨σ',a1,a2,a3⟩:=rJ hA E 0 (by rw[yT];omega);rw[yT]at a1 a2;refine .inl ⟨_,by simp only[go_sem,t0,hlen,f1,k0,a1];rfl,?_⟩;simp only[go_sem,t0];rw[uG];exact⟨by omega,a2,fun y hy=>(a3 y hy).trans (fr y hy)⟩) (by
   rintro ⟨T,S,qI⟩ ⟨t0,E,hA,fr⟩;simp only at t0 E hA fr;have hlen:DR ZK 40 (T 3)=some (I n):=by
    rcases hA with ⟨J,G⟩|⟨b,J,G,h3,Y,h5⟩
    .rw[G]
     have:n=0:=by have:=congrArg List.length J;simpa using this
     rw[this];exact nU (by kernel_rfl)
    .rw[Y,yT];exact nT (by kernel_rfl)
   refine⟨_,by simp only[go_sem,t0,hlen,zi];rfl,by simp,_,_,_,rfl,?_⟩;simp only[go_sem];exact⟨E,hA,fr⟩) (by
   simp only[go_sem];exact⟨.inl ⟨rfl,rfl⟩,fun _ _=>trivial⟩)
 exact⟨_,σ',nx',by simp only[go_sem],O,G,Ed⟩
def FK(K:List (Int×Int))(X:List Rat)(nm:Nat):Nat->List Rat
 |0=>List.replicate nm 0
 |c+1=>(FK K X nm c).set (K.getD c (0,0)).1.toNat ((FK K X nm c).getD (K.getD c (0,0)).1.toNat 0+O7 (K.getD c (0,0)).2 (X.getD c 0))
theorem oD(K:List (Int×Int))(X:List Rat)(nm:Nat):∀c,(FK K X nm c).length=nm
 |0=>by simp[FK]
 |c+1=>by rw[FK,yP];exact oD K X nm c
def UM(K:List (Int×Int))(k c:Nat):Nat:=((K.take c).filter fun p=>p.1.toNat==k).length
theorem J4{K:List (Int×Int)}{c:Nat}(h:c<K.length)(k:Nat):UM K k (c+1)=UM K k c+if K[c].1.toNat=k then 1 else 0:=by
 unfold UM;rw[yJ,zy h,List.filter_append,zo];congr 1
 by_cases e:K[c].1.toNat=k
 .simp[e]
 .simp[e]
theorem Md(K:List (Int×Int))(k c:Nat):UM K k c<=(K.filter fun p=>p.1.toNat==k).length :=
 ((List.take_sublist c K).filter _).length_le
theorem abC(m:Member)(j k:Nat):((E_ m j).filter fun p=>p.1.toNat==k).length<=(if j=k then 2 else 0)/\(j=k->0<((E_ m j).filter fun p=>p.1.toNat==k).length):=by
 unfold E_
 by_cases E:m.kind=2<;>by_cases G:m.kind=1<;>by_cases e:j=k<;>simp[E,G,e]
theorem OY(s:Structure)(k:Nat):∀n,((cols s n).filter fun p=>p.1.toNat==k).length<=(if k<n then 2 else 0)/\(k<n->0<((cols s n).filter fun p=>p.1.toNat==k).length)
 |0=>by simp[cols]
 |n+1=>by
  obtain⟨E,O⟩:=OY s k n;obtain⟨J,S⟩:=abC (mem s n) n k;rw[oh,List.filter_append,zo]
  by_cases e:n=k
  .subst e
   rw[sO (Nat.lt_irrefl _)]at E;rw[sN rfl]at J;rw[sN (Nat.lt_succ_self _)];exact⟨by omega,fun _=>by have:=S rfl;omega⟩
  .rw[sO e]at J
   by_cases G:k<n
   .rw[sN G]at E
    rw[sN (by omega)];exact⟨by omega,fun _=>by have:=O G;omega⟩
   .rw[sO G]at E
    rw[sO (by omega)];exact⟨by omega,fun h=>by omega⟩
theorem kY{α:Type}(l:List α)(i k:Nat)(v d:α)(h:i<l.length):(l.set i v).getD k d=if i=k then v else l.getD k d:=by
 rw[zx,zx,List.getElem?_set]
 by_cases e:i=k
 .subst e;rw[sN rfl,sN h,sN rfl];rfl
 .rw[sO e,sO e]
theorem avZ{k:Nat}{q:Rat}(s:Int)(h:Ln k q):Ln k (O7 s q):=by
 unfold O7
 split
 .exact UH h
 .exact h
section
variable {K:List (Int×Int)} {X:List Rat} {nm:Nat}
def DnI(K:List (Int×Int))(X:List Rat)(nm c k:Nat):Prop:=(UM K k c=0/\(Gq K X nm c).getD k none=none/\(FK K X nm c).getD k 0=0) \/
 (0<UM K k c/\(Gq K X nm c).getD k none=some ((FK K X nm c).getD k 0)/\Ln (7*UM K k c) ((FK K X nm c).getD k 0))
theorem UN(S:∀x∈X,Ln 6 x)(Y:∀k,(K.filter fun p=>p.1.toNat==k).length<=2)(hk:∀c (h:c<K.length),K[c].1.toNat<nm):∀c,c<=K.length->∀k,k<nm->DnI K X nm c k
 |0,_,k,hkn=> .inl ⟨rfl,by
   rw[Gq,zx,wZ,sN hkn];rfl,by
   rw[FK,zx,wZ,sN hkn];rfl⟩
 |c+1,hc,k,hkn=>by
  have ih:=UN S Y hk c (by omega) k hkn;have G:=hk c (by omega);have e1:K.getD c (0,0)=K[c]'(by omega):=by rw[zx,zy (by omega)];rfl
  have hx:Ln 6 (X.getD c 0):=by
   rw[zx]
   by_cases hc:c<X.length
   .rw[zy hc];exact S _ (zu hc)
   .rw[yw (by omega)];exact(sF (z:=0) (by decide)).mono (by decide)
  have E:=J4 (K:=K) (c:=c) (by omega) k;have hle:=zT (Md K k (c+1)) (Y k);unfold DnI;rw[Gq,FK,e1,kY _ _ _ _ _ (by rw[lT];exact G),kY _ _ _ _ _ (by rw[oD];exact G)];have hv:=avZ (K[c]'(by omega)).2 hx;generalize O7 (K[c]'(by omega)).2 (X.getD c 0)=v at *
  by_cases e:(K[c]'(by omega)).1.toNat=k
  .rw[sN e]at E
   rw[sN e,sN e,e];refine .inr ⟨by omega,?_⟩;rcases ih with ⟨i1,J,O⟩|⟨i1,J,O⟩
   .rw[J,O]
    have:(0:Rat)+v=v:=by grind
    rw[this];exact⟨rfl,hv.mono (by omega)⟩
   .rw[J]
    have hs:=aa2 O hv;exact⟨mO (hs.mono (by omega)),hs.mono (by omega)⟩
  .rw[sO e]at E
   rw[sO e,sO e,E];exact ih
theorem av1(S:∀x∈X,Ln 6 x)(J:∀k,(K.filter fun p=>p.1.toNat==k).length<=2)(O:∀c (h:c<K.length),K[c].1.toNat<nm){c:Nat}(hc:c<K.length):Ln 7 ((FK K X nm c).getD K[c].1.toNat 0):=by
 have hle:=zT (Md K K[c].1.toNat (c+1)) (J _);have E:=J4 hc K[c].1.toNat;rw[sN rfl]at E;rcases UN S J O c (by omega) _ (O c hc)with ⟨Y,i2,G⟩|⟨Y,i2,G⟩
 .rw[G];exact(sF (z:=0) (by decide)).mono (by decide)
 .exact G.mono (by omega)
theorem ap3(Y:∀x∈X,Ln 6 x)(O:∀k,(K.filter fun p=>p.1.toNat==k).length<=2)(hk:∀c (h:c<K.length),K[c].1.toNat<nm){c:Nat}(hc:c<=K.length):∀q∈FK K X nm c,Ln 14 q:=fun q hq=>by
 obtain⟨k,E,e⟩:=yc hq;have J:k<nm:=by rw[oD]at E;exact E
 have S:(FK K X nm c).getD k 0=q:=by rw[zx,zy E,<- e];rfl
 have hle:=zT (Md K k c) (O _);rcases UN Y O hk c hc _ J with ⟨i1,i2,G⟩|⟨i1,i2,G⟩
 .rw[S]at G;rw[G];exact(sF (z:=0) (by decide)).mono (by decide)
 .rw[S]at G;exact G.mono (by omega)
theorem RG:∀l:List Rat,CP (l.map some)=some l
 |[]=>rfl
 |q :: l=>by
  show(CP (l.map some)).map _=_;rw[RG l];rfl
theorem av2(S:∀x∈X,Ln 6 x)(Y:∀k,(K.filter fun p=>p.1.toNat==k).length<=2)(h1:∀k,k<nm->0<(K.filter fun p=>p.1.toNat==k).length)(hk:∀c (h:c<K.length),K[c].1.toNat<nm):CP (Gq K X nm K.length)=some (FK K X nm K.length):=by
 rw[<- RG];congr 1;refine yR (by rw[lT,zQ,oD]) fun k G g2=>?_
 have E:k<nm:=by rw[lT]at G;exact G
 have e1:(Gq K X nm K.length).getD k none=(Gq K X nm K.length)[k]:=by rw[zx,zy G];rfl
 have e2:(FK K X nm K.length).getD k 0=(FK K X nm K.length)[k]'(by rw[oD];exact E):=by rw[zx,zy (by rw[oD];exact E)];rfl
 have h3:=h1 k E;rcases UN S Y hk K.length (zq _) k E with ⟨J,O,i3⟩|⟨J,O,i3⟩
 .unfold UM at J;rw[yX]at J;omega
 .rw[<- e1,O,xZ,e2]
end
def F7(s:Structure)(x:Nat->Rat):List Rat:=FK (cols s s.members.length) ((List.range (CQ s)).map x) s.members.length (CQ s)
theorem RH(s:Structure)(x:Nat->Rat):(F7 s x).length=s.members.length:=oD _ _ _ _
theorem UO(s:Structure)(k:Nat):((cols s s.members.length).filter fun p=>p.1.toNat==k).length<=2:=by
 have:=(OY s k s.members.length).1
 split at this<;>omega
theorem UQ(s:Structure):∀c (h:c<(cols s s.members.length).length),(cols s s.members.length)[c].1.toNat<s.members.length:=fun c h=>by
 obtain⟨⟨q,e,E⟩,-⟩:=ou (zu h);rw[e,zA];exact E
theorem ap4{x:Nat->Rat}{n:Nat}(h:∀j,j<n->Ln 6 (x j)):∀y∈(List.range n).map x,Ln 6 y:=fun y E=>by
 obtain⟨j,G,rfl⟩:=List.mem_map.mp E;exact h j (List.mem_range.mp G)
theorem OZ{s:Structure}{x:Nat->Rat}(h:∀j,j<CQ s->Ln 6 (x j)):∀q∈F7 s x,Ln 14 q:=ap3 (ap4 h) (UO s) (UQ s) (zq _)
theorem aiK{s:Structure}{x:Nat->Rat}(h:∀j,j<CQ s->Ln 6 (x j)):CP (Gq (cols s s.members.length) ((List.range (CQ s)).map x) s.members.length (CQ s))=some (F7 s x) :=
 av2 (ap4 h) (UO s) (fun k E=>(OY s k _).2 E) (UQ s)
theorem Je{s:Structure}{l:List Int}{x:Nat->Rat}(h:(EP s l).Best x)(G:(EP s l).Open):False:=by
 obtain⟨y,J,E⟩:=G 1;have e:ob (EP s l).n (EP s l).c y=0:=by
  unfold ob;refine bH fun j O=>?_
  have:(EP s l).c j=0:=by
   show((((List.replicate (CQ s) (0:Int)).getD j 0:Int)):Rat)=0;rw[zx]
   by_cases hc:j<CQ s
   .rw[wZ,sN hc];rfl
   .rw[wZ,sO hc];rfl
  rw[this];grind
 rw[e]at E;exact absurd E (by decide)
def badR:List V:=[Bo false,.ts [] 0,.ts [] 0]
def cR(a:Option Rat):List V:=match a with
 |none=>badR
 |some q=>cQ q
theorem ap5(a:Option Rat):(cR a).length=3:=by cases a<;>rfl
theorem aiL(a:Option Rat):(cR a).all vI=true:=by cases a<;>rfl
theorem amj(a:Option Rat):(cR a).take 3=cR a:=by cases a<;>rfl
theorem afd(x y z:V)(a:Option Rat):patch [x,y,z] 0 (cR a)=cR a:=by cases a<;>rfl
attribute [go_sem] ap5 aiL amj afd
theorem ap6(n:Nat)(hn:n<=24)(σ:Store)(nx:Nat):∃v σ' nx',ev ZK wI Am 178 [I n] σ nx=some (v,σ',nx')/\nx<=nx'/\Ja v σ' nx nx' (List.replicate n (0:Rat))/\∀y,y<nx->σ' y=σ y:=by
 have E:=Iq n 0 24;have hb:inB n 0 24=true:=by unfold inB;rw[sH (by omega),sH (by omega)];rfl
 rw[hb]at E;obtain⟨v,σ',nx',G,J,O,S⟩:=ap2 n (by omega) σ nx;refine⟨v,σ',nx',?_,J,O,S⟩;rw[mg [.tmp 2] [] func178];simp only[go_sem,qC,E,G]
theorem aiM{v:V}{σ:Store}{lo nx:Nat}{L:List Rat}(h:Ja v σ lo nx L)(E:L≠[]):∃b,lo<=b/\b<nx/\v= .rs b 0 L.length/\σ b=some ⟨L.flatMap cQ,3,true⟩:=by
 rcases h with ⟨G,_⟩|⟨b,_,J,O,S,Y⟩
 .exact absurd G E
 .exact⟨b,J,O,S,Y⟩
theorem av3{s:Structure}(h:Ba s)(ho:Ah s){x:Nat->Rat}(hx:∀j,j<CQ s->Ln 6 (x j)) :
  fn ZK wI Am 146 [.agg (iI s),LL cQ ((List.range (CQ s)).map x)]=some (.Bf [LL cQ (F7 s x),Bo true]):=by
 have e4:=h.2.1;have k1:=Iu s ho;rw[gy h]at k1;have k2:=Ye h.sg;have a1:=ap4 hx;have a2:=oz s s.members.length;have S:=OZ hx;have b4:F7 s x=FK (cols s s.members.length) ((List.range (CQ s)).map x) s.members.length (cols s s.members.length).length:=rfl;have b5:=UO s;have b6:=UQ s;have b7:∀c (h:c<(cols s s.members.length).length),(∃q:Nat,(cols s s.members.length)[c].1=(q:Int)/\q<s.members.length)/\((cols s s.members.length)[c].2=1\/(cols s s.members.length)[c].2= -1):=fun c h=>ou (zu h)
 have a3:((List.range (CQ s)).map x).length=(cols s s.members.length).length:=by rw[zQ,uH];rfl
 rw[b4]at S⊢;obtain⟨X,eX⟩:∃X,X=(List.range (CQ s)).map x:=⟨_,rfl⟩;obtain⟨K,eK⟩:∃K,K=cols s s.members.length:=⟨_,rfl⟩;rw[<- eX]at a1 S a3⊢;rw[<- eK]at k2 a2 S b5 b6 b7 a3⊢;have k3:=aiJ (xs:=X) (fun q hq=>(a1 q hq).mono (by decide)) (by omega);obtain⟨s0,b8⟩:∃s0,s0=upd pI 0 (some ⟨iI s,0,true⟩):=⟨_,rfl⟩;have b0:s0 0=some ⟨iI s,0,true⟩:=by rw[b8,Zi]
 obtain⟨vz,e5,nz,k4,e6,d7,U3⟩:=ap6 s.members.length (by omega) s0 1;have c0:((X.length:Int) !=((K.map F6).length:Int))=false:=by rw[zQ,a3];simp
 have el:(K.map F6).length=K.length:=zQ ..;have b9:(K.map Gy).length=K.length:=zQ ..;rw[m_,mg [.tmp 4,.tmp 5] [11,12] func146];simp only[go_sem,qC,k1,k2,k3,c0,<- b8,b0,k4];generalize hL:jI _ _=y;obtain⟨r,rfl,T,σ,nx,rfl,h2⟩:=oZ hL K.length (fun c st=>st.T 1=LL cQ X/\st.T 7=LI (K.map Gy)/\st.T 33=LI (K.map F6)/\st.T 34=I K.length/\st.T 35=I c/\Ja (st.T 8) st.σ 1 st.nx (FK K X s.members.length c))
  (fun r=>∃T σ nx,r=(.exit 0,⟨T,σ,nx⟩)/\Ja (T 8) σ 1 nx (FK K X s.members.length K.length)) (by
   clear hL;rintro c ⟨T,σ,nx⟩ hc ⟨t1,t7,J,E,G,hA⟩;simp only at t1 t7 J E G hA;have g1:(c:Int)<(K.length:Int):=by omega
   have g2:=jC c;have g3:=ZR (n:=(c:Int)+1);obtain⟨⟨k,hk,c2⟩,c3⟩:=b7 c hc;have a4:=idx (xs:=K.map F6) (k:=c) (by omega);have a5:=idx (xs:=K.map Gy) (k:=c) (by omega);rw[xZ,show F6 K[c]=(k:Int)from hk]at a4;rw[xZ]at a5;have a6:=Bg (K.map F6) c (by omega);have a7:=Bg (K.map Gy) c (by omega);have a8:=cO (c:=cQ) (s:=3) qH X c (by omega);have a9:=bU (c:=cQ) (s:=3) qH X;have c4:c*3+3<=X.length*3:=by omega
   have c5:=bY (c:=cQ) (s:=3) qH (by omega) X c (by omega);have c7:(c:Int)<(X.length:Int):=by omega
   have O:=oD K X s.members.length c;have Y:=av1 a1 b5 b6 hc;have b2:=a1 _ (zu (l:=X) (n:=c) (by omega));have a0:FK K X s.members.length (c+1)=(FK K X s.members.length c).set k ((FK K X s.members.length c).getD k 0+O7 K[c].2 (X[c]'(by omega))):=by
    rw[FK];have e1:K.getD c (0,0)=K[c]:=by rw[zx,zy hc];rfl
    have e2:X.getD c 0=X[c]'(by omega):=by rw[zx,zy (by omega)];rfl
    rw[e1,e2,hk,zA]
   rw[hk,zA]at Y;obtain⟨xc,d8⟩:∃xc,xc=X[c]'(by omega):=⟨_,rfl⟩;rw[<- d8]at a8 b2 a0;obtain⟨sg,c8⟩:∃sg,sg=K[c].2:=⟨_,rfl⟩;have a5:((K.map Gy).flatMap cI)[c]?=some (I sg):=by rw[c8];exact a5
   rw[<- c8]at c3 a0;obtain⟨D,eD⟩:∃D,D=FK K X s.members.length c:=⟨_,rfl⟩;rw[<- eD]at hA O Y a0;obtain⟨b,d9,b3,t8,hb⟩:=aiM hA (fun e=>by rw[e]at O;simp at O;omega);rw[O]at t8;have d0:=cO (c:=cQ) (s:=3) qH D k (by omega);have d2:=bU (c:=cQ) (s:=3) qH D;rw[O]at d2;have d3:k*3+3<=s.members.length*3:=by omega
   have d4:(k:Int)<(s.members.length:Int):=by omega
   have d5:=jC k;obtain⟨d,ed⟩:∃d,d=D.getD k 0:=⟨_,rfl⟩;have d1:((D.flatMap cQ).drop (k*3)).take 3=cQ d:=by
    rw[d0,ed,zx,zy (by omega)];rfl
   rw[<- ed]at Y a0;have n1:¬(0:Int)< -1:=by decide
   have n0:(0:Int)<1:=by decide
   have c9:∀q σ d,stripL (strip σ d) (cQ q)=some (cQ q,[]):=fun q σ d=>qG σ d q
   have fin:∀(v:Rat),v=d+O7 sg xc->Ja (V.rs b 0 s.members.length) (upd σ b (some ⟨(D.set k v).flatMap cQ,3,true⟩)) 1 nx (FK K X s.members.length (c+1)):=fun v hv=>by
    rw[a0,<- hv];refine .inr ⟨b,fun e=>?_,d9,b3,by rw[yP,O],by rw[Zi]⟩;have:=congrArg List.length e;rw[yP,O]at this;have:s.members.length=0:=this;omega
   rcases c3 with rfl|rfl
   .have k5:=aiH d xc Y b2 (by decide)
    have c6:patch (D.flatMap cQ) (k*3) (cQ (d+xc))=(D.set k (d+xc)).flatMap cQ:=iC qH _ _ (by omega) _;refine .inl ⟨_,by simp only[go_sem,t1,t7,t8,J,E,G,hb,b3,g1,g2,g3,a4,a5,a6,a7,a8,a9,c4,c5,c7,hc,el,b9,d1,d2,d3,d4,d5,c2,n0,k5,c6,c9];rfl,?_⟩;simp only[go_sem,t1,t7,t8,J,E,G];exact⟨rfl,fin _ rfl⟩
   .have k5:=aiI d xc Y b2 (by decide)
    have c6:patch (D.flatMap cQ) (k*3) (cQ (d-xc))=(D.set k (d-xc)).flatMap cQ:=iC qH _ _ (by omega) _;refine .inl ⟨_,by simp only[go_sem,t1,t7,t8,J,E,G,hb,b3,g1,g2,g3,a4,a5,a6,a7,a8,a9,c4,c5,c7,hc,el,b9,d1,d2,d3,d4,d5,c2,n1,k5,c6,c9];rfl,?_⟩;simp only[go_sem,t1,t7,t8,J,E,G];refine⟨rfl,fin _ ?_⟩;show d-xc=d+ -xc;grind) (by
   clear hL;rintro ⟨T,σ,nx⟩ ⟨t1,t7,J,E,G,hA⟩;simp only at t1 t7 J E G hA;refine⟨_,by simp only[go_sem,E,G,zi];rfl,by simp,_,_,_,rfl,?_⟩;simp only[go_sem];exact hA) (by
   simp only[go_sem,el];exact d7)
 have k6:=aiJ (xs:=FK K X s.members.length K.length) (fun q hq=>(S q hq).mono (by decide)) (by rw[oD];omega);obtain⟨D,eD⟩:∃D,D=FK K X s.members.length K.length:=⟨_,rfl⟩;rw[<- eD]at h2 k6⊢;rcases h2 with ⟨h3,h4⟩|⟨b,h3,h4,h5,h6,h7⟩
 .rw[h3]at k6⊢
  have k6:fn ZK conv ext 177 [.ts [] 0]=some (Bo true):=k6
  simp only[go_sem,h4,k6];rfl
 .have e0:=fun d=>fA (d:=d) h7 rfl
  have e3:∀t,∃wr,behind σ [b] t b=some ⟨D.flatMap cQ,3,wr⟩:=fun t=>Uu h7
  have d6:∀t d,strip (behind σ [b] t) (d+1) (.rs b 0 D.length)=some (LL cQ D,[b]):=fun t d=>by
   obtain⟨wr,hw⟩:=e3 t;rw[aQ,hw];have a2:=bU (c:=cQ) (s:=3) qH D;simp only[zk,yY,yZ,a2,zq,if_true];rw[zl (by omega),QX];rfl
  simp only[go_sem,h6,e0,k6,d6]
theorem aiN{s:Structure}(h:Ba s)(G:Ah s){l:List Int}(E:AL s.bI.length l):fn ZK conv ext 73 [.agg (iI s),LI l]=some (Bo true):=by
 have J:=h.1;have k:=aj7 s l G (by rw[E.1];unfold maxLen;omega);rw[gy h,gy E]at k;exact k
theorem aiO{s:Structure}(h:Ba s)(S:Ah s){l:List Int}(hl:AL s.bI.length l) :
  (∃qs,qs.length=s.members.length/\(∀q∈qs,Ln 24 q)/\fn ZK wI Am 30 [.agg (iI s),LI l]=some (.Bf [LL cQ qs,Bo true])/\fn ZK wI Am 116 [.agg (iI s),LI l]=some (.Bf [LL cQ qs,Bo true]) /\
   ∃x:Nat->Rat,(EP s l).Best x/\(∀j,j<CQ s->Ln 6 (x j))/\qs=F7 s x/\∃T,(EP s l).Good T/\x=BH (EP s l).m T) \/
  (fn ZK wI Am 30 [.agg (iI s),LI l]=some U2/\fn ZK wI Am 116 [.agg (iI s),LI l]=some U2/\((EP s l).None\/(EP s l).Open)):=by
 have Yq:=h.1;have hb:∀x∈l,-100<=x/\x<=100:=fun x J=>kG (hl.2 x J)
 obtain⟨r,k1,hr⟩:=IY S (l:=l) (by rw[hl.1];unfold maxLen;omega);obtain⟨r0,Y,a1⟩:=ami h.sg hb;have k3:=aiG h.sg hl.1 hb;have k4:=aiN h S hl;unfold CZ at Y k3;have n2:((2:Int) !=0)=true:=by decide
 have n3:((3:Int) !=0)=true:=by decide
 have n0:((0:Int) !=0)=false:=by decide
 have a0:r=U2/\((EP s l).None\/(EP s l).Open)\/∃x:Nat->Rat,(EP s l).Best x/\(∀j,j<CQ s->Ln 24 (x j))/\r=En (Gq (cols s s.members.length) ((List.range (CQ s)).map x) s.members.length (CQ s)):=by
  rcases hr with ⟨hn,_⟩|⟨_,_,hr⟩
  .exact absurd ⟨h,hl⟩ hn
  .exact hr
 have no:(EP s l).None\/(EP s l).Open->fn ZK wI Am 30 [.agg (iI s),LI l]=some U2:=fun hn=>by
  rcases a0 with ⟨e,_⟩|⟨x,J,_⟩
  .rw[k1,e]
  .rcases hn with hn|hn
   .exact absurd hn J.WS
   .exact absurd hn (fun S=>Je J S)
 rcases a1 with ⟨O,hn⟩|⟨O,hn⟩|⟨x,J,E,a3,O,hT⟩
 .refine .inr ⟨no (.inl hn),?_,.inl hn⟩
  rw[O]at Y;unfold U2;rw[m_,mg [.tmp 4,.tmp 5] [] func116];simp only[go_sem,Y,k3,k4,n2,n3]
 .refine .inr ⟨no (.inr hn),?_,.inr hn⟩
  rw[O]at Y;unfold U2;rw[m_,mg [.tmp 4,.tmp 5] [] func116];simp only[go_sem,Y,k3,k4,n2,n3]
 .have hn:(EP s l).n=CQ s:=rfl
  rw[hn]at E O;refine .inl ⟨F7 s x,RH s x,fun q hq=>(OZ E q hq).mono (by decide),?_,?_,x,J,E,rfl,hT⟩
  .rcases a0 with ⟨_,G⟩|⟨x',a2,_,e⟩
   .rcases G with G|G
    .exact absurd G J.WS
    .exact absurd G (fun S=>Je J S)
   .have eX:(List.range (CQ s)).map x'=(List.range (CQ s)).map x:=xG fun j hj=>a2.eq J j (List.mem_range.mp hj)
    rw[k1,e,eX];unfold En;rw[aiK E]
  .have k5:=av3 h S E
   obtain⟨X,eX⟩:∃X,X=(List.range (CQ s)).map x:=⟨_,rfl⟩;obtain⟨v,ev⟩:∃v,v=ob (CQ s) (EP s l).c x:=⟨_,rfl⟩;have O:r0= .agg (I 0 :: LL cQ X :: cQ v):=by rw[eX,ev];exact O
   rw[O]at Y;rw[<- eX]at k5;rw[m_,mg [.tmp 4,.tmp 5] [] func116];have g1:(I 0 :: LL cQ X :: cQ v).length=5:=rfl;have g2:(I 0 :: LL cQ X :: cQ v).all vI=true:=rfl;have g3:(I 0 :: LL cQ X :: cQ v)[0]?=some (I 0):=rfl;have g4:(I 0 :: LL cQ X :: cQ v)[1]?=some (LL cQ X):=rfl;have g5:(I 0 :: LL cQ X :: cQ v).take 5=I 0 :: LL cQ X :: cQ v:=rfl;simp only[go_sem,Y,k3,k4,g1,g2,g3,g4,g5,k5,n0]
end Go.Proofs.YtjjhejehbhbdeaaGreat
namespace Go.Proofs.YtjjhejehbhbdeaaGreat
open Go Go.TV
theorem Yf{E:Array Edge}{ids:List Nat}:∀ {acc:List (Nat×Bool×List Nat)},(acc.all fun p=> !p.2.1)=true->okG E false ids acc=true
 |[],_=>rfl
 |p :: acc,h=>by
  rw[vO,zD]at h;have G:p.2.1=false:=by simpa using h.1
  unfold okG;rw[G,Yf h.2];rfl
theorem iZ{E:Array Edge}{ids:List Nat}{acc:List (Nat×Bool×List Nat)}(h:(acc.all fun p=> !p.2.1)=true):okF E acc false ids=true:=by
 cases ids with
 |nil=>rfl
 |cons b G=>exact Yf h
open Go.Plan
attribute [-go_sem] qy
noncomputable def endsB(y:Cm)(fr to:Int):Bool:=pb (AZ y) && (inB fr 0 ((y.aI.length:Int) - 1) && inB to 0 ((y.aI.length:Int) - 1))
theorem UR{y:Cm}{fr to:Int}(hp:Cj y fr to=true):endsB y fr to=true:=by
 unfold Cj at hp;simp only[zD,decide_eq_true_eq]at hp;obtain⟨E,⟨J,O⟩,G⟩:=hp;obtain⟨⟨t0,S⟩,_⟩:=Uz G;unfold endsB inB;rw[E,sH (by omega),sH (by omega),sH (by omega),sH (by omega)];rfl
theorem O1{y:Cm}{fr to:Int}(E:endsB y fr to=true):AZ y/\∃a t:Nat,fr=(a:Int)/\to=(t:Int)/\a<y.aI.length/\t<y.aI.length:=by
 unfold endsB at E;simp only[zD]at E;obtain⟨O,G,J⟩:=E;have G:=kG G;have J:=kG J;exact⟨ig O,fr.toNat,to.toNat,by omega,by omega,by omega,by omega⟩
noncomputable def FP(y:Cm)(fr:Int):List Int:=if(endsB y fr fr && DV (Ar y) fr.toNat)=true then F8 (fun i=>decide (0<=dst (DY y) (DV (Ar y)) i fr.toNat)) y.aI.length else []
theorem abD(y:Cm)(fr:Int):(FP y fr).length<=1000000:=by
 unfold FP
 split
 .rename_i h
  rw[zD]at h;obtain⟨E,_⟩:=O1 h.1;exact zT (Zo _ _) (by have:=E.1;omega)
 .exact vg _
def aiP(y:Cm)(a c:Int):Bool:=y.moves.any fun m=>(m.fr==a) && (m.to==c)
noncomputable def Jf(y:Cm)(plan:List Int)(k:Nat):Bool:=inB (plan.getD k 0) 0 ((y.aI.length:Int) - 1) && (DV (Ar y) (plan.getD k 0).toNat && (decide (k=0)||aiP y (plan.getD (k-1) 0) (plan.getD k 0)))
noncomputable def Me(y:Cm)(plan:List Int):Bool:=pb (AZ y) && (decide (plan≠[]) && (List.range plan.length).all (Jf y plan))
theorem RI{p:Nat->Bool}{n:Nat}(h:∀i,i<n->p i=true):(List.range n).all p=true:=by
 rw[wo];exact fun i hi=>h i (List.mem_range.mp hi)
theorem UU{p:Nat->Bool}{n k:Nat}(E:k<n)(h:p k=false):(List.range n).all p=false:=by
 rw[List.all_eq_false];exact⟨k,List.mem_range.mpr E,by rw[h];simp⟩
theorem aiQ(xs:List TV.Move)(m:TV.Move)(h:xs.length<=maxLen):fn ZK conv ext 36 [LL Dl xs,.agg (Dl m)]=some (Bo (xs.any fun o=>(o.fr==m.fr) && (o.to==m.to))):=by
 have G:=Qk xs m h;have e:(xs.any fun o=>(o.fr==m.fr) && (o.to==m.to))=decide (0<=ix (Dz m) xs):=by
  by_cases c:ix (Dz m) xs<0
  .rw[sG (by omega),List.any_eq_false]
   intro o E;have:=(Ky _ _).mp c o E;unfold Dz at this;rw[BEq.comm (a:=o.fr),BEq.comm (a:=o.to),this];simp
  .rw[sH (by omega),List.any_eq_true]
   refine zh fun hn=>c ((Ky _ _).mpr fun o E=>?_)
   cases hs:Dz m o with
   |false=>rfl
   |true=>
    unfold Dz at hs;exact absurd ⟨o,E,by rw[BEq.comm (a:=o.fr),BEq.comm (a:=o.to)];exact hs⟩ hn
 rw[e,m_,mg [.tmp 4] [] func36]
 by_cases c:(0:Int)<=ix (Dz m) xs
 .rw[sH c]
  simp only[go_sem,G,c]
 .rw[sG c]
  simp only[go_sem,G,c]
theorem amk(y:Cm)(ho:GN y)(plan:List Int)(a5:plan.length<=1048576):fn ZK DK Fp 15 [.agg (AQ y),LI plan]=some (Bo (Me y plan)):=by
 have k1:=LD y ho;unfold Me;rw[m_,mg [.tmp 4] [] func15];cases hg:pb (AZ y)with
 |false=>
  rw[hg]at k1;simp only[go_sem,k1,uo]
 |true=>
  rw[hg]at k1;have hG:=ig hg;have Ol:=hG.1;have a6:=hG.2.1
  by_cases a1:plan=[]
  .subst a1
   have e0:((([]:List Int).length:Int)==0)=true:=rfl;simp only[go_sem,k1,e0];simp
  have a7:plan.length≠0:=fun e=>a1 (zZ e)
  have e0:((plan.length:Int)==0)=false:=by rw[sJ];omega
  rw[sH a1,wQ,wQ];have k2:=aic y ho Ol;have hS:=dG y;obtain⟨wr,a4⟩:∃wr,wr=flat 7 (LL Es (Ar y)):=⟨_,rfl⟩;simp only[go_sem,k1,e0,k2];generalize hL:jI _ _=z;obtain⟨x,rfl,hx⟩:=oZ hL plan.length (fun k st=>st.T 1=LI plan/\st.T 2= .rp 0 0/\st.T 5=LL Es (Ar y)/\st.T 17=LI plan/\st.T 18=I plan.length/\st.T 19=I k/\0<st.nx/\st.σ 0=some ⟨AQ y,0,wr⟩/\∀i,i<k->Jf y plan i=true)
   (fun x=>∃T σ nx,(x=(.exit 0,⟨T,σ,nx⟩)/\(List.range plan.length).all (Jf y plan)=true)\/(x=(.ret,⟨T,σ,nx⟩)/\T 4=Bo false/\(List.range plan.length).all (Jf y plan)=false)) (by
    clear hL;rintro k ⟨T,σ,nx⟩ hk ⟨t1,t2,t5,G,Y,J,O,S,a0⟩;simp only at t1 t2 t5 G Y J O S;have g1:(k:Int)<(plan.length:Int):=by omega
    have g2:=jC k;have g3:=ZR (n:=(k:Int)+1);have g4:=idx (xs:=plan) (k:=k) hk;have g5:=Bg plan k hk;have gd:plan.getD k 0=plan[k]:=by rw[zx,zy hk];rfl
    obtain⟨p,ep⟩:∃p,p=plan[k]:=⟨_,rfl⟩;rw[<- ep]at g4 gd;have E:Jf y plan k=(inB p 0 ((y.aI.length:Int) - 1) && (DV (Ar y) p.toNat && (decide (k=0)||aiP y (plan.getD (k-1) 0) p))):=by unfold Jf;rw[gd]
    have no:Jf y plan k=false->(List.range plan.length).all (Jf y plan)=false:=fun h=>UU hk h
    by_cases c1:p<0
    .have hb:inB p 0 ((y.aI.length:Int) - 1)=false:=by unfold inB;rw[sG (by omega)];rfl
     rw[hb]at E;refine .inr ⟨_,by simp only[go_sem,t1,t2,t5,G,Y,J,hS,g1,g2,g4,g5,hk,c1];rfl,by simp,_,_,_,.inr ⟨rfl,by simp only[go_sem],no (by rw[E];rfl)⟩⟩
    by_cases c2:(y.aI.length:Int)<=p
    .have hb:inB p 0 ((y.aI.length:Int) - 1)=false:=by unfold inB;rw[sG (p:=p<=_) (by omega),wS]
     rw[hb]at E;refine .inr ⟨_,by simp only[go_sem,t1,t2,t5,G,Y,J,hS,g1,g2,g4,g5,hk,c1,c2];rfl,by simp,_,_,_,.inr ⟨rfl,by simp only[go_sem],no (by rw[E];rfl)⟩⟩
    have hb:inB p 0 ((y.aI.length:Int) - 1)=true:=by unfold inB;rw[sH (by omega),sH (by omega)];rfl
    rw[hb]at E;obtain⟨j,rfl⟩:∃j:Nat,p=(j:Int):=⟨p.toNat,by omega⟩;rw[zA]at E;have hj:j<y.aI.length:=by omega
    have a2:j<(Ar y).length:=by omega
    have j1:(j:Int)<(y.aI.length:Int):=by omega
    have j2:=jC j;have j3:((Ar y).flatMap Es)[j]?=some (Bo (DV (Ar y) j)):=by rw[rH a2];exact bg (fun b=>Bo b) (Ar y) j a2
    have j5:=ael (Ar y) j a2;cases hs:DV (Ar y) j with
    |false=>
     rw[hs]at E j3;refine .inr ⟨_,by simp only[go_sem,t1,t2,t5,G,Y,J,hS,g1,g2,g4,g5,hk,c1,c2,j1,j2,j3,j5,hj];rfl,by simp,_,_,_,.inr ⟨rfl,by simp only[go_sem],no (by rw[E];rfl)⟩⟩
    |true=>
    rw[hs]at E j3
    by_cases h0:k=0
    .rw[sH h0]at E
     have i0:¬(0:Int)<(k:Int):=by omega
     refine .inl ⟨_,by simp only[go_sem,t1,t2,t5,G,Y,J,hS,g1,g2,g3,g4,g5,hk,c1,c2,j1,j2,j3,j5,hj,i0];rfl,?_⟩;simp only[go_sem,t1,t2,t5,G,Y];refine⟨rfl,O,S,fun i hi=>?_⟩
     by_cases e:i=k
     .rw[e,E];rfl
     .exact a0 i (by omega)
    .have i0:(0:Int)<(k:Int):=by omega
     rw[sG h0,Bool.false_or]at E;have i1:=ZR (n:=(k:Int) - 1);have i2:(k:Int) - 1=((k-1:Nat):Int):=by omega
     have i3:=idx (xs:=plan) (k:=k-1) (by omega);have i4:((k-1:Nat):Int)<(plan.length:Int):=by omega
     have i5:(0:Int)<=((k-1:Nat):Int):=by omega
     have i6:k-1<plan.length:=by omega
     rw[i2]at i1;have a3:plan.getD (k-1) 0=plan[k-1]'(by omega):=by rw[zx,zy (by omega)];rfl
     obtain⟨q,eq⟩:∃q,q=plan[k-1]'(by omega):=⟨_,rfl⟩;rw[<- eq]at i3 a3;rw[a3]at E;have k4:fn ZK conv ext 36 [LL Dl y.moves,.agg [I q,I j]]=some (Bo (aiP y q (j:Int))):=aiQ y.moves ⟨q,(j:Int)⟩ (by unfold maxLen;omega)
     cases hm:aiP y q (j:Int)with
     |false=>
      rw[hm]at E k4;refine .inr ⟨_,by simp only[go_sem,t1,t2,t5,G,Y,J,S,O,hS,g1,g2,g4,g5,hk,c1,c2,j1,j2,j3,j5,hj,i0,i1,i2,i3,i4,i5,i6,k4];rfl,by simp,_,_,_,.inr ⟨rfl,by simp only[go_sem],no (by rw[E];rfl)⟩⟩
     |true=>
      rw[hm]at E k4;refine .inl ⟨_,by simp only[go_sem,t1,t2,t5,G,Y,J,S,O,hS,g1,g2,g3,g4,g5,hk,c1,c2,j1,j2,j3,j5,hj,i0,i1,i2,i3,i4,i5,i6,k4];rfl,?_⟩;simp only[go_sem,t1,t2,t5,G,Y];refine⟨rfl,O,S,fun i hi=>?_⟩
      by_cases e:i=k
      .rw[e,E];rfl
      .exact a0 i (by omega)) (by
    clear hL;rintro ⟨T,σ,nx⟩ ⟨t1,t2,t5,G,Y,J,O,S,a0⟩;simp only at t1 t2 t5 G Y J O S;exact⟨_,by simp only[go_sem,Y,J,zi];rfl,by simp,_,_,_,.inl ⟨rfl,RI a0⟩⟩) (by
    simp only[go_sem];exact⟨by rw[a4],fun i h=>absurd h (zU _)⟩)
  obtain⟨T,σ,nx,⟨rfl,hm⟩|⟨rfl,t4,hm⟩⟩:=hx
  .rw[hm]
   simp only[go_sem]
  .rw[hm]
   simp only[go_sem,t4]
def O8(n:Nat)(all:List Nat):List Bool:=(List.range n).map fun i=>decide (i∈all)
theorem mF(n:Nat)(all:List Nat):(O8 n all).length=n:=by simp[O8]
theorem ap7{n:Nat}{all:List Nat}{i:Nat}(h:i<n):((O8 n all).flatMap Es)[i]?=some (Bo (decide (i∈all))):=by
 rw[bg (fun b=>Bo b) (O8 n all) i (by rw[mF];exact h)];simp[O8]
theorem acZ(n:Nat)(all:List Nat)(c:Nat):((O8 n all).flatMap Es).set c (Bo true)=(O8 n (all++[c])).flatMap Es:=by
 rw[Tm];congr 1;refine yR (by simp[O8]) fun i G J=>?_
 rw[wG];simp only[O8,xZ,uh,wz,xY]
 by_cases e:c=i
 .subst e;simp
 .rw[sO e]
  have:¬i=c:=fun E=>e E.symm
  simp[this]
theorem ac0(n:Nat):rep n [Bo false]=(O8 n []).flatMap Es:=by
 rw[Rf];congr 1;unfold O8;refine yR (by simp) fun i E G=>by simp
theorem PX{T:Nat->V}{σ:Store}{nx t O:Nat}{l:List Int}(h:BZ T σ nx t O l)(x:Int)(hl:l.length<100000) :
  ∃σ',Aj (upd σ nx (some ⟨[I x],1,true⟩)) (nx+1) 1 8 (T t) [I x] 1=some (.rs (nx+1) 0 (l.length+1),σ',nx+1+1)/\σ' (nx+1)=some ⟨(l++[x]).flatMap cI,1,true⟩/\∀q,q<nx->(∀b o l,T t= .rs b o l->b≠q)->σ' q=σ q:=by
 obtain⟨b,off,cells,J,S,h3,Y,h5,h6⟩:=h;have hm:l.length+1<=maxLen:=by unfold maxLen;omega
 have E:(cells.flatMap cI).length=cells.length:=qM cells;refine⟨upd (upd (upd σ nx (some ⟨[I x],1,true⟩)) b none) (nx+1) (some ⟨(cells.flatMap cI).drop off++[I x],1,true⟩),?_,?_,fun q hq G=>?_⟩
 .rw[J,qy,Zk,S]
  simp only[zk];rw[sO (by decide),sO (by rw[E];omega),sN ⟨by rw[E];omega,trivial,hm,by omega,rfl⟩]
 .rw[Zi]
  have:(cells.flatMap cI).drop off=l.flatMap cI:=by rw[jL,<- List.map_drop,<- jL,Y]
  rw[this,zS];rfl
 .rw[Zk,Zj _ _ (yu (G _ _ _ J)),Zk]
theorem aml(y:Cm)(ho:GN y)(fr:Int)(nx:Nat):∃v c7 qI ids,ev ZK DK Fp 9 [.agg (AQ y),I fr] pI nx=some (v,c7,qI)/\nx<=qI/\Own c7 1 v (LI (FP y fr)) ids/\∀b∈ids,nx<=b/\b<qI:=by
 have k1:=LD y ho;have c8:endsB y fr fr=false->FP y fr=[]:=fun h=>by unfold FP;rw[h,uo,sO (by simp)]
 rw[mg [.tmp 4] [] func9];cases hg:pb (AZ y)with
 |false=>
  rw[hg]at k1;rw[c8 (by unfold endsB;rw[hg];rfl)];simp only[go_sem,k1];exact⟨_,_,_,[],rfl,by omega,iK _ _,by simp⟩
 |true=>
  rw[hg]at k1;have hG:=ig hg;have Ol:=hG.1
  by_cases c1:fr<0
  .rw[c8 (by unfold endsB inB;rw[sG (p:=0<=fr) (by omega)];simp)]
   simp only[go_sem,k1,c1];exact⟨_,_,_,[],rfl,by omega,iK _ _,by simp⟩
  by_cases c2:(y.aI.length:Int)<=fr
  .rw[c8 (by unfold endsB inB;rw[sG (p:=fr<=_) (by omega)];simp)]
   simp only[go_sem,k1,c1,c2];exact⟨_,_,_,[],rfl,by omega,iK _ _,by simp⟩
  obtain⟨a,rfl⟩:∃a:Nat,fr=(a:Int):=⟨fr.toNat,by omega⟩;have ha:a<y.aI.length:=by omega
  have he:endsB y a a=true:=by unfold endsB inB;rw[hg,sH (by omega),sH (by omega)];rfl
  have k2:=aic y ho Ol;have hS:=dG y;have f1:(a:Int)<(y.aI.length:Int):=by omega
  have f2:=jC a;have b7:a<(Ar y).length:=by omega
  have f3:((Ar y).flatMap Es)[a]?=some (Bo (DV (Ar y) a)):=by rw[rH b7];exact bg (fun b=>Bo b) (Ar y) a b7
  have f5:=ael (Ar y) a b7;unfold FP;rw[he,wQ,zA];cases hs:DV (Ar y) a with
  |false=>
   rw[hs]at f3;rw[sO (by simp)];simp only[go_sem,k1,c1,c2,k2,hS,f1,f2,f3,f5,ha];exact⟨_,_,_,[],rfl,by omega,iK _ _,by simp⟩
  |true=>
  rw[hs]at f3;rw[sN rfl];obtain⟨S,eS⟩:∃S,S=Ar y:=⟨_,rfl⟩;obtain⟨wr,e5⟩:∃wr,wr=flat 7 (LL Es (Ar y)):=⟨_,rfl⟩;have m1:(0:Int)<=(y.aI.length:Int):=by omega
  have m2:1*(y.aI.length:Int)<=281474976710656:=by omega
  have m3:(y.aI.length:Int)<=9223372036854775807:=by omega
  have e0:(rep y.aI.length [Bo false]).set a (Bo true)=(O8 y.aI.length [a]).flatMap Es:=by rw[ac0,acZ];rfl
  have e1:(rep y.aI.length [Bo false]).length=y.aI.length:=by rw[ac0,IB,mF,yO]
  rw[<- eS]at hS b7 f3 f5 k2 hs e5⊢;have z1:nx+1<nx+1+1:=by omega
  have z2:¬nx=nx+1:=by omega
  have z3:¬nx+1=nx:=by omega
  have b8:∀i,DV S i=true->i<y.aI.length:=fun i hi=>by have:=rG hi;omega
  simp only[go_sem,k1,c1,c2,k2,hS,f1,f2,f3,f5,ha,m1,m2,m3,e0,e1,z1,z2,z3];generalize hL:jI _ _=w
  obtain⟨x,rfl,T,σ,nx',rfl,G,t6,all,J,c6⟩:=jP hL (fun m st=>st.T 2= .rp nx 0/\st.T 5=LL Es S/\st.T 6= .rs (nx+1) 0 y.aI.length/\nx+1<st.nx/\(∃wr,st.σ nx=some ⟨AQ y,0,wr⟩)/\∃all p,Fwd (DY y) (DV S) a all p/\p<=all.length/\m+p=y.aI.length/\st.σ (nx+1)=some ⟨(O8 y.aI.length all).flatMap Es,1,true⟩ /\
    ((p=all.length/\st.T 7= .ts [] 0)\/(p<all.length/\BZ st.T st.σ st.nx 7 (nx+1) (Ak (all.drop p))/\∀b o l,st.T 7= .rs b o l->b≠nx)))
   (fun x=>∃T σ nx',x=(.exit 0,⟨T,σ,nx'⟩)/\nx+1<nx'/\T 6= .rs (nx+1) 0 y.aI.length/\∃all,σ (nx+1)=some ⟨(O8 y.aI.length all).flatMap Es,1,true⟩/\∀i,i∈all↔0<=dst (DY y) (DV S) i a) (by
    clear hL;rintro m ⟨T,σ,CG⟩ ⟨t2,t5,t6,G,⟨h5,Y⟩,all,p,hB,hp,hm,J,hq⟩;simp only at t2 t5 t6 G Y J hq;rcases hq with ⟨rfl,t7⟩|⟨hp,hq,a0⟩
    .exact .inr ⟨_,by simp only[go_sem,t7];rfl,by simp,_,_,_,rfl,G,by simp only[go_sem,t6],all,J,fun i=>hB.fin (zq _) i⟩
    .have e6:=hB.bound b8
     obtain⟨h,eh⟩:∃h,h=all[p]:=⟨_,rfl⟩;have b5:=hq;rw[Zz all hp,<- eh]at b5;obtain⟨b,off,cells,q1,q2,q3,q4,q5,q6⟩:=b5;have q7:=gG q4;have p1:((h:Int) :: Ak (all.drop (p+1))).length=all.length-p:=by rw[zW,Zy,zN];omega
     rw[p1]at q1;have p2:(0:Int)<((all.length-p:Nat):Int):=by omega
     have p3:0<all.length-p:=by omega
     have p4:(0:Int)<=0:=by omega
     have p5:(0:Int).toNat=0:=rfl;have k4:=aie y hG (h:Int);rw[Ri]at k4;have b9:=JY Y (LI (Ak (nexts y h)));obtain⟨TK,d3⟩:∃TK,TK=behind σ [nx] (LI (Ak (nexts y h))):=⟨_,rfl⟩;rw[<- d3]at b9;have e7:∃wr,TK nx=some ⟨AQ y,0,wr⟩:=⟨_,by rw[b9,Zi]⟩;have e8:TK (nx+1)=some ⟨(O8 y.aI.length all).flatMap Es,1,true⟩:=by rw[b9,Zk];exact J
     have e9:BZ T TK CG 7 (nx+1) (Ak (all.drop p)):=by
      obtain⟨b',b2,E,a1,a2,a3,a4,a5,a6⟩:=hq;exact⟨b',b2,E,a1,by rw[b9,Zj _ _ (a0 _ _ _ a1)];exact a2,a3,a4,a5,a6⟩
     refine bC ?_
     conv=>
      enter [1,r,1,1]
      simp only[go_sem,t2,t5,t6,Y,q1,q2,q7,p2,p3,p4,p5,k4,Zy,<- d3]
     generalize hL:jI _ _=w
     obtain⟨r,rfl,T1,σ',AO,rfl,t2,t5,t6,G,d4,O,d5,d6,d7,d8,f0,f4,c9⟩:=oZ hL (nexts y h).length (fun j st=>st.T 2= .rp nx 0/\st.T 5=LL Es S/\st.T 6= .rs (nx+1) 0 y.aI.length/\st.T 46=LI (Ak (nexts y h))/\st.T 47=I (nexts y h).length/\st.T 48=I j/\nx+1<st.nx/\(∃wr,st.σ nx=some ⟨AQ y,0,wr⟩) /\
       ∃all,Fwd (DY y) (DV S) a all p/\∃hp:p<all.length,h=all[p]/\st.σ (nx+1)=some ⟨(O8 y.aI.length all).flatMap Es,1,true⟩/\BZ st.T st.σ st.nx 7 (nx+1) (Ak (all.drop p))/\(∀b o l,st.T 7= .rs b o l->b≠nx)/\∀i (hi:i<(nexts y h).length),i<j->DV S (nexts y h)[i]=true->(nexts y h)[i]∈all)
      (fun r=>∃T σ AO,r=(.exit 2,⟨T,σ,AO⟩)/\T 2= .rp nx 0/\T 5=LL Es S/\T 6= .rs (nx+1) 0 y.aI.length/\nx+1<AO/\(∃wr,σ nx=some ⟨AQ y,0,wr⟩) /\
       ∃all,Fwd (DY y) (DV S) a all p/\∃hp:p<all.length,h=all[p]/\σ (nx+1)=some ⟨(O8 y.aI.length all).flatMap Es,1,true⟩/\BZ T σ AO 7 (nx+1) (Ak (all.drop p))/\(∀b o l,T 7= .rs b o l->b≠nx)/\∀i (hi:i<(nexts y h).length),DV S (nexts y h)[i]=true->(nexts y h)[i]∈all) (by
       clear hL;rintro j ⟨T,σ,CG⟩ hj ⟨t2,t5,t6,a8,a7,a9,G,⟨b6,Y⟩,all,hB,hp,eh,J,hq,a0,hd⟩;simp only at t2 t5 t6 a8 a7 a9 G Y J hq a0;have e6:=hB.bound b8;have h6:=X8 y h;have g1:(j:Int)<((nexts y h).length:Int):=by omega
       have g2:=jC j;have g3:=ZR (n:=(j:Int)+1);have g4:=Rj (nexts y h) hj;have g5:=Zy (nexts y h);have g6:(Ak (nexts y h)).flatMap cI≠[]:=fun e=>by
        have h2:=qM (Ak (nexts y h));rw[e,g5]at h2;have h2:0=(nexts y h).length:=h2;omega
       have hc:=X7 hj;have c0:DY y h (nexts y h)[j]=true:=by
        have:=zu hj;exact(List.mem_filter.mp this).2
       obtain⟨c,ec⟩:∃c,c=(nexts y h)[j]:=⟨_,rfl⟩;rw[<- ec]at g4 hc c0;have ic:(c:Int)<(y.aI.length:Int):=by omega
       have d0:=jC c;have d1:c<S.length:=by omega
       have v3:(S.flatMap Es)[c]?=some (Bo (DV S c)):=by rw[rH d1];exact bg (fun b=>Bo b) S c d1
       have v5:=ael S c d1;have fl:=ap7 (n:=y.aI.length) (all:=all) hc;have f6:((O8 y.aI.length all).flatMap Es).length=y.aI.length:=by rw[IB,mF,yO]
       have next:∀b4:List Nat,(∀i,i∈all->i∈b4)->(DV S c=true->c∈b4)->∀i (hi:i<(nexts y h).length),i<j+1->DV S (nexts y h)[i]=true->(nexts y h)[i]∈b4:=fun b4 h1 h2 i hi h7 hl=>by
        by_cases e:i=j
        .subst e
         rw[<- ec]at hl⊢;exact h2 hl
        .exact h1 _ (hd i hi (by omega) hl)
       cases c3:DV S c with
       |false=>
        rw[c3]at v3;refine .inl ⟨_,by simp only[go_sem,t2,t5,t6,a8,a7,a9,g1,g2,g3,g4,g5,g6,hj,ic,d0,hS,hc,v3,v5];rfl,?_⟩;simp only[go_sem,t2,t5,t6,a8,a7];exact⟨rfl,G,⟨b6,Y⟩,all,hB,hp,eh,J,gJ hq (by simp only[go_sem]) (zq _),a0,next all (fun _ h=>h) (fun h=>by rw[c3]at h;cases h)⟩
       |true=>
        rw[c3]at v3
        by_cases hm:c∈all
        .rw[sH hm]at fl
         refine .inl ⟨_,by simp only[go_sem,t2,t5,t6,a8,a7,a9,g1,g2,g3,g4,g5,g6,hj,ic,d0,hS,hc,v3,v5,J,fl];rfl,?_⟩;simp only[go_sem,t2,t5,t6,a8,a7];exact⟨rfl,G,⟨b6,Y⟩,all,hB,hp,eh,J,gJ hq (by simp only[go_sem]) (zq _),a0,next all (fun _ h=>h) (fun _=>hm)⟩
        .rw[sG hm]at fl
         have c4:=hB.add hp hm c3 (by rw[<- eh];exact c0);have st:=acZ y.aI.length all c;obtain⟨σ2,EC⟩:∃σ2,σ2=upd σ (nx+1) (some ⟨(O8 y.aI.length (all++[c])).flatMap Es,1,true⟩):=⟨_,rfl⟩;have c5:BZ T σ2 CG 7 (nx+1) (Ak (all.drop p)):=by rw[EC];exact Q_ hq _
         have b3:σ2 nx=some ⟨AQ y,0,b6⟩:=by rw[EC,Zk];exact Y
         have b5:=hq;rw[Zz all hp,<- eh]at b5;obtain⟨b,off,cells,q1,q2,q3,q4,q5,q6⟩:=b5;have p1:((h:Int) :: Ak (all.drop (p+1))).length=all.length-p:=by rw[zW,Zy,zN];omega
         rw[p1]at q1;obtain⟨d9,d2,f7,hf⟩:=PX c5 (c:Int) (by rw[Zy,zN];omega);rw[Zy,zN]at d2;have f8:d9 (nx+1)=σ2 (nx+1):=hf _ (by omega) (fun b' o l e=>by rw[q1]at e;cases e;exact q6);have f9:d9 nx=some ⟨AQ y,0,b6⟩:=by rw[hf _ (by omega) a0];exact b3
         rw[q1]at d2;refine .inl ⟨_,by simp only[go_sem,t2,t5,t6,a8,a7,a9,g1,g2,g3,g4,g5,g6,hj,ic,d0,hS,hc,v3,v5,J,fl,f6,G,st,<- EC,q1,d2];rfl,?_⟩;simp only[go_sem,t2,t5,t6,a8,a7];have g0:p<(all++[c]).length:=by rw[zo];omega
         refine⟨rfl,by omega,⟨b6,f9⟩,all++[c],c4,g0,by rw[yG hp];exact eh,?_,?_,fun b o l hb=>by(cases hb;omega),next (all++[c]) (fun i h=>zB _ h) (fun _=>by simp)⟩
         .rw[f8,EC,Zi]
         .have ed:Ak ((all++[c]).drop p)=Ak (all.drop p)++[(c:Int)]:=by
           rw[vV (by omega)];simp[Ak]
          rw[ed];refine g_ (b:=CG+1) ?_ f7 (by omega) (by omega);rw[zo,Zy,zN];simp only[go_sem]) (by
       clear hL;rintro ⟨T,σ,CG⟩ ⟨t2,t5,t6,a8,a7,a9,G,Y,all,hB,hp,eh,J,hq,a0,hd⟩;simp only at t2 t5 t6 a8 a7 a9 G Y J hq a0;exact⟨_,by simp only[go_sem,a7,a9,zi];rfl,by simp,_,_,_,rfl,by simp only[go_sem,t2],by simp only[go_sem,t5],by simp only[go_sem,t6],G,Y,all,hB,hp,eh,J,gJ hq (by simp only[go_sem]) (zq _),by simpa only[go_sem]using a0,fun i hi=>hd i hi hi⟩) (by
       simp only[go_sem,t2,t5,t6];exact⟨G,e7,all,hB,hp,eh,e8,gJ e9 (by simp only[go_sem]) (zq _),a0,fun i hi h0=>absurd h0 (zU _)⟩)
     have c4:=d5.next d6 fun i hi c0=>by
      have g7:i∈nexts y h:=by
       unfold nexts;rw[List.mem_filter,List.mem_range];exact⟨b8 i hi,by rw[d7];exact c0⟩
      obtain⟨j,hj,ej⟩:=yc g7;rw[<- ej]at hi⊢;exact c9 j hj hi
     have h8:=d5.bound b8;have c5:=f0;rw[Zz O d6,<- d7]at c5;obtain⟨b',b2,E,r1,r2,r3,r4,r5,r6⟩:=c5;have g8:((h:Int) :: Ak (O.drop (p+1))).length=O.length-p:=by rw[zW,Zy,zN];omega
     rw[g8]at r1 r3;have g9:=f4 _ _ _ r1;have r7:((E.flatMap cI)).length=E.length:=qM _;have r8:b2+(O.length-p)<=E.length:=by omega
     have r9:1<=O.length-p:=by omega
     have e2:¬(1:Nat)=0:=by decide
     have e3:(0:Int)<=1:=by decide
     have e4:(1:Int).toNat=1:=rfl
     by_cases hl:O.length-p=1
     .rw[hl]at r1 r8
      refine⟨_,by simp only[go_sem,r1,r2,r7,r8,e2,e3,e4,zq];rfl,.inl ⟨_,rfl,m-1,by omega,?_⟩⟩;simp only[go_sem,t2,t5,t6];exact⟨G,d4,O,p+1,c4,by omega,by omega,d8,.inl (by omega)⟩
     .have h3:¬1=O.length-p:=fun e=>hl e.symm
      refine⟨_,by simp only[go_sem,r1,r2,r7,r8,r9,e2,e3,e4,h3];rfl,.inl ⟨_,rfl,m-1,by omega,?_⟩⟩;simp only[go_sem,t2,t5,t6];refine⟨G,d4,O,p+1,c4,by omega,by omega,d8,.inr ⟨by omega,⟨b',b2+1,E,?_,r2,?_,OJ r4,r5,r6⟩,fun b o l hb=>by(cases hb;exact g9)⟩⟩
      .simp only[go_sem]
       rw[Zy,zN];congr 1
      .rw[Zy,zN];omega) y.aI.length (by
    simp only[go_sem];refine⟨by omega,⟨_,by rw[Zk,Zk,Zi]⟩,[a],0,aeV hs,by simp,by omega,?_,.inr ⟨by simp,?_,fun b o l hb=>by(cases hb;omega)⟩⟩
    .rw[Zk,Zi]
    .refine g_ (b:=nx+1+1) (by simp only[go_sem];rfl) ?_ (by omega) (by omega)
     simp only[go_sem];rfl)
  clear hL;obtain⟨v,c7,qI,ids,k3,hn,o1,hi⟩:=ab4 (O8 y.aI.length all) (by rw[mF];omega) nx';have g1:=fun d=>o1.gather (d':=d+1) (by omega)
  rw[mF]at o1;have e:F8 (fun i=>(O8 y.aI.length all)[i]?==some true) y.aI.length=F8 (fun i=>decide (0<=dst (DY y) (DV S) i a)) y.aI.length:=Qv fun i hi=>by
   simp only[O8,zF,xO hi,zG]
   by_cases h:i∈all
   .rw[sH h,sH ((c6 i).mp h)];rfl
   .rw[sG h,sG (fun h'=>h ((c6 i).mpr h'))];rfl
  rw[e]at o1;have h4:=fun d=>X6 J (mF y.aI.length all) d
  simp only[go_sem,t6,h4,k3,g1];exact⟨v,_,qI,ids,rfl,by omega,o1.join fun b hb=>(hi b hb).1,fun b hb=>by have:=hi b hb;omega⟩
open Go.Lp
theorem ap8{nm E:Nat}(r D G:Nat->Rat)(v:Rat)(O:E<nm)(h:∀k,k<nm->G k=if E=k then D k+v else D k):sm (fun k=>r k*G k) nm=sm (fun k=>r k*D k) nm+r E*v:=by
 have e:sm (fun k=>r k*G k) nm=sm (fun k=>r k*D k+(if E=k then r k*v else 0)) nm:=bQ fun k J=>by
  rw[h k J]
  by_cases c:E=k
  .rw[sN c,sN c];grind
  .rw[sO c,sO c];grind
 rw[e,bT];congr 1;rw[bK O fun j _ S=>sO (fun e=>S e.symm),sN rfl]
section
variable {K:List (Int×Int)} {X:List Rat} {nm:Nat}
theorem ac1{c:Nat}(E:(K.getD c (0,0)).1.toNat<nm)(k:Nat):(FK K X nm (c+1)).getD k 0=if(K.getD c (0,0)).1.toNat=k then(FK K X nm c).getD k 0+O7 (K.getD c (0,0)).2 (X.getD c 0)else(FK K X nm c).getD k 0:=by
 rw[FK,kY _ _ _ _ _ (by rw[oD];exact E)]
 by_cases e:(K.getD c (0,0)).1.toNat=k
 .rw[sN e,sN e,e]
 .rw[sO e,sO e]
theorem aiR(E:∀c,c<K.length->(K.getD c (0,0)).1.toNat<nm)(r:Nat->Rat):∀C,C<=K.length->sm (fun c=>r (K.getD c (0,0)).1.toNat *O7 (K.getD c (0,0)).2 (X.getD c 0)) C=sm (fun k=>r k*(FK K X nm C).getD k 0) nm
 |0,_=>by
  rw[bH (n:=nm) fun k G=>by
   rw[FK,zx,wZ,sN G];show r k*0=0;grind]
  rfl
 |C+1,hC=>by
  have J:=aiR E r C (by omega);rw[ap8 r (fun k=>(FK K X nm C).getD k 0) _ _ (E C (by omega)) fun k _=>ac1 (E C (by omega)) k];rw[<- J];rfl
theorem am5{M:Nat}{Δ:Rat}(E:∀c,c<K.length->(K.getD c (0,0)).1.toNat<nm)(G:∀c,c<K.length->ZB M (X.getD c 0*Δ)):∀C,C<=K.length->∀k,k<nm->ZB (UM K k C*M) ((FK K X nm C).getD k 0*Δ)
 |0,_,k,hkn=>⟨0,by
   rw[FK,zx,wZ,sN hkn];show(0:Rat)*Δ=_;grind,by simp⟩
 |C+1,hC,k,hkn=>by
  have J:=am5 E G C (by omega) k hkn;have S:K.getD C (0,0)=K[C]'(by omega):=by rw[zx,zy (by omega)];rfl
  rw[ac1 (E C (by omega)) k,J4 (show C<K.length by omega) k];have O:=G C (by omega);have hs:ZB M (O7 (K.getD C (0,0)).2 (X.getD C 0)*Δ):=by
   unfold O7
   split
   .have:-(X.getD C 0)*Δ= -(X.getD C 0*Δ):=by grind
    rw[this];exact O.neg
   .exact O
  rw[S]at hs⊢
  by_cases e:(K[C]'(by omega)).1.toNat=k
  .rw[sN e,sN e,vP,Nat.one_mul]
   have:((FK K X nm C).getD k 0+O7 (K[C]'(by omega)).2 (X.getD C 0))*Δ=(FK K X nm C).getD k 0*Δ+O7 (K[C]'(by omega)).2 (X.getD C 0)*Δ:=by grind
   rw[this];exact J.add hs
  .rw[sO e,sO e]
   exact J
end
theorem amm{s:Int}(h:s=1\/s= -1)(x:Rat):O7 s x=(s:Rat)*x:=by
 rcases h with rfl|rfl
 .show x=((1:Int):Rat)*x
  grind
 .show -x=((-1:Int):Rat)*x
  grind
theorem UW(s:Structure):∀c,c<(cols s s.members.length).length->((cols s s.members.length).getD c (0,0)).1.toNat<s.members.length:=fun c h=>by
 rw[zx,zy h];exact UQ s c h
theorem Yg{s:Structure}{l:List Int}{x:Nat->Rat}(hx:(EP s l).F x){i:Nat}(hi:i<JU s) :
  sm (fun k=>(((Cb s (free s).length).getD i []).getD k 0:Rat)*(F7 s x).getD k 0) s.members.length=((GY s l).getD i 0:Int):=by
 have hF:=hx.1 i hi;obtain⟨R,eR⟩:∃R,R=(Cb s (free s).length).getD i []:=⟨_,rfl⟩;have S:=ny s;have J:i<(Cb s (free s).length).length:=by rw[S];exact hi
 have a1:(cols s s.members.length).length=CQ s:=rfl;have hA:∀c,c<CQ s->(O6 s).getD (i*CQ s+c) 0=((cols s s.members.length).getD c (0,0)).2*R.getD ((cols s s.members.length).getD c (0,0)).1.toNat 0:=fun c hc=>by
  unfold O6;rw[zx,mG (fun r:List Int=>(cols s s.members.length).map fun p=>p.2*r.getD p.1.toNat 0) (C:=CQ s) (fun _=>by rw[zQ];rfl) _ J hc,zF,zy (by omega),eR];rw[zx (l:=Cb s _),zy J,zx (l:=cols s _),zy (show c<(cols s s.members.length).length by omega)];rfl
 have G:=aiR (K:=cols s s.members.length) (X:=(List.range (CQ s)).map x) (nm:=s.members.length) (UW s) (fun k=>((R.getD k 0:Int):Rat)) (CQ s) (zq _);have hD:FK (cols s s.members.length) ((List.range (CQ s)).map x) s.members.length (CQ s)=F7 s x:=rfl;rw[hD]at G;rw[<- eR,<- G];have E:sm (fun j=>(((sg (GY s l) i*(O6 s).getD (i*CQ s+j) 0:Int)):Rat)*x j) (CQ s)=((sg (GY s l) i*(GY s l).getD i 0:Int):Rat):=hF;have Y:sg (GY s l) i=1\/sg (GY s l) i= -1:=by unfold sg;split<;>simp
 have e2:sm (fun j=>(((sg (GY s l) i*(O6 s).getD (i*CQ s+j) 0:Int)):Rat)*x j) (CQ s)=(sg (GY s l) i:Rat)*sm (fun c=>((R.getD ((cols s s.members.length).getD c (0,0)).1.toNat 0:Int):Rat)*O7 ((cols s s.members.length).getD c (0,0)).2 (((List.range (CQ s)).map x).getD c 0)) (CQ s):=by
  rw[<- bP];refine bQ fun c hc=>?_
  have O:c<(cols s s.members.length).length:=by omega
  have a0:=(ou (zu O)).2;have e3:(cols s s.members.length).getD c (0,0)=(cols s s.members.length)[c]:=by rw[zx,zy O];rfl
  have e4:((List.range (CQ s)).map x).getD c 0=x c:=by rw[zx,zF,xO hc];rfl
  rw[hA c hc,e4,e3,amm a0]
  push_cast
  grind
 rw[e2]at E;rcases Y with h1|h1
 .rw[h1]at E
  push_cast at E
  grind
 .rw[h1]at E
  push_cast at E
  grind
theorem J5{α β:Type}(f g:β->α)(d:α):∀(js:List β) {t:Nat} (E:t<js.length),(js.flatMap fun j=>[f j,g j]).getD (2*t) d=f js[t]/\(js.flatMap fun j=>[f j,g j]).getD (2*t+1) d=g js[t]
 |j :: js,0,_=>⟨rfl,rfl⟩
 |j :: js,t+1,E=>by
  have G:=J5 f g d js (t:=t) (by simpa using E);exact G
theorem fU(f:Nat->Int){n k:Nat}(h:k<n):((List.range n).map f).getD k 0=f k:=by
 rw[zx,zF,xO h];rfl
theorem abE{s:Structure}{l:List Int}{x:Nat->Rat}(O:(EP s l).F x){t:Nat}(S:t<(free s).length) :
  sm (fun k=>((eX s (free s)[t] k:Int):Rat)*(F7 s x).getD k 0) s.members.length=((-l.getD (2*(free s)[t].toNat) 0:Int):Rat) /\
  sm (fun k=>((eY s (free s)[t] k:Int):Rat)*(F7 s x).getD k 0) s.members.length=((-l.getD (2*(free s)[t].toNat+1) 0:Int):Rat):=by
 have Y:=J5 (fun j=>(List.range s.members.length).map (eX s j)) (fun j=>(List.range s.members.length).map (eY s j)) [] (free s) S;have h2:=J5 (fun j:Int=> -l.getD (2*j.toNat) 0) (fun j=> -l.getD (2*j.toNat+1) 0) 0 (free s) S;have e1:Cb s (free s).length=(free s).flatMap fun j=>[(List.range s.members.length).map (eX s j),(List.range s.members.length).map (eY s j)]:=by unfold Cb;rw[yX];rfl
 have E:=Yg O (i:=2*t) (by unfold JU;omega);have G:=Yg O (i:=2*t+1) (by unfold JU;omega);unfold GY at E G;rw[e1,Y.1,h2.1]at E;rw[e1,Y.2,h2.2]at G;constructor
 .rw[<- E]
  exact bQ fun k J=>by rw[fU _ J]
 .rw[<- G]
  exact bQ fun k J=>by rw[fU _ J]
structure Cd (s:Structure) (q:List Rat) (Δ:Rat):Prop where
 d:ZB BM Δ
 nz:Δ≠0
 q:∀k,k<s.members.length->ZB (2*BM) (q.getD k 0*Δ)
theorem amn{m:Nat}(h:m<=12):fact 1000 m<=BM:=by
 have:=Rx (K:=0) (m:=m) (by decide) h;omega
theorem amo{s:Structure}(h:SG s){l:List Int}(hb:∀x∈l,-100<=x/\x<=100){T:Tab}(E:(EP s l).Good T):∃Δ,Cd s (F7 s (BH (EP s l).m T)) Δ:=by
 have hp:=avX h hb;have hw:Whole (EP s l) 1000:=gW hp;have hm:(EP s l).m<=12:=hp.hm;have J:=amn hm;have O:ZB BM (Lp.CU (EP s l).m fun q=>(EP s l).A (T.B q)):=(E.ed.EW E.ok.bn hw.A).mono J;have S:∀i,i<(EP s l).m->ZB BM (T.b i*Lp.CU (EP s l).m fun q=>(EP s l).A (T.B q)):=fun i hi=>(E.ed.FV E.ok.bn hw.A hw.w hi).mono J
 refine⟨_,O,E.ed.ind,fun k Y=>?_⟩;have hX:∀c,c<(cols s s.members.length).length->ZB BM (((List.range (CQ s)).map (BH (EP s l).m T)).getD c 0*Lp.CU (EP s l).m fun q=>(EP s l).A (T.B q)):=fun c hc=>by
  have e4:((List.range (CQ s)).map (BH (EP s l).m T)).getD c 0=BH (EP s l).m T c:=by rw[zx,zF,xO (show c<CQ s from hc)];rfl
  rw[e4]
  by_cases G:basic (EP s l).m T c
  .obtain⟨i,hi,e⟩:=G
   rw[<- e,qm E.ok hi];exact S i hi
  .rw[ql G]
   exact⟨0,by grind,by simp⟩
 have h1:=am5 (K:=cols s s.members.length) (nm:=s.members.length) (UW s) hX (CQ s) (zq _) k Y;refine h1.mono ?_;have h2:=zT (Md (cols s s.members.length) k (CQ s)) (UO s k);exact zK _ h2
theorem ZB.cast{z:Int}{M:Nat}(h:z.natAbs<=M):ZB M (z:Rat):=⟨z,rfl,h⟩
theorem ac2{Δ q:Rat}{M:Nat}(G:ZB BM Δ)(J:Δ≠0)(h:ZB M (q*Δ))(O:BM<=M)(E:M<=1000000000*BM):Ln 7 q:=by
 have:=bG (G.mono O) J h;have hb:ln (1000000000*BM)<=7:=jY.mpr (by decide+kernel);exact⟨zT (jX (zT this.1 E)) hb,zT (jX (zT this.2 E)) hb⟩
def sX(s:Structure)(q:List Rat)(j:Int)(n:Nat):Rat:=sm (fun k=>((eX s j k:Int):Rat)*q.getD k 0) n
def sY(s:Structure)(q:List Rat)(j:Int)(n:Nat):Rat:=sm (fun k=>((eY s j k:Int):Rat)*q.getD k 0) n
theorem ac3(s:Structure)(q:List Rat)(j:Int)(n:Nat):sX s q j (n+1)=sX s q j n+q.getD n 0*((eX s j n:Int):Rat):=by
 unfold sX;show sm _ n+_=_;grind
theorem ac4(s:Structure)(q:List Rat)(j:Int)(n:Nat):sY s q j (n+1)=sY s q j n+q.getD n 0*((eY s j n:Int):Rat):=by
 unfold sY;show sm _ n+_=_;grind
section
variable {s:Structure} {q:List Rat} {Δ:Rat}
theorem Cd.term(hc:Cd s q Δ){k:Nat}(E:k<s.members.length){z:Int}(G:z.natAbs<=100):ZB (200*BM) (((z:Int):Rat)*q.getD k 0*Δ):=by
 have:((z:Int):Rat)*q.getD k 0*Δ=((z:Int):Rat)*(q.getD k 0*Δ):=by grind
 rw[this];exact((ZB.cast G).mul (hc.q k E)).mono (by omega)
theorem Cd.sum(hc:Cd s q Δ){e:Nat->Int}(E:∀k,(e k).natAbs<=100):∀n,n<=s.members.length->ZB (n*(200*BM)) (sm (fun k=>((e k:Int):Rat)*q.getD k 0) n*Δ)
 |0,_=>⟨0,by show(0:Rat)*Δ=_;grind,by simp⟩
 |n+1,hn=>by
  have G:=hc.sum E n (by omega);have J:=hc.term (k:=n) (by omega) (E n);have:sm (fun k=>((e k:Int):Rat)*q.getD k 0) (n+1)*Δ=sm (fun k=>((e k:Int):Rat)*q.getD k 0) n*Δ+((e n:Int):Rat)*q.getD n 0*Δ:=by
   show(sm _ n+_)*Δ=_;grind
  rw[this];exact(G.add J).mono (by generalize 200*BM=B;rw[xg];omega)
theorem am6{s:Structure}(h:SG s)(j:Int)(k:Nat):(eX s j k).natAbs<=100/\(eY s j k).natAbs<=100:=by
 have:=azc h j k;omega
theorem Cd.LnX(hc:Cd s q Δ)(h:SG s)(j:Int){n:Nat}(hn:n<=s.members.length):Ln 7 (sX s q j n):=by
 have E:=h.nm;have G:=hc.sum (e:=eX s j) (fun k=>(am6 h j k).1) n hn;have J:0<BM:=by decide+kernel
 refine ac2 (M:=n*(200*BM)+BM) hc.d hc.nz (G.mono (by omega)) (by omega) ?_;have:n*(200*BM)<=8*(200*BM):=zK _ (by omega);omega
theorem Cd.LnY(hc:Cd s q Δ)(h:SG s)(j:Int){n:Nat}(hn:n<=s.members.length):Ln 7 (sY s q j n):=by
 have E:=h.nm;have G:=hc.sum (e:=eY s j) (fun k=>(am6 h j k).2) n hn;have J:0<BM:=by decide+kernel
 refine ac2 (M:=n*(200*BM)+BM) hc.d hc.nz (G.mono (by omega)) (by omega) ?_;have:n*(200*BM)<=8*(200*BM):=zK _ (by omega);omega
theorem Cd.LnT(hc:Cd s q Δ){k:Nat}(E:k<s.members.length){z:Int}(G:z.natAbs<=100):Ln 7 (q.getD k 0*((z:Int):Rat)):=by
 have J:0<BM:=by decide+kernel
 have e:q.getD k 0*((z:Int):Rat)=((z:Int):Rat)*q.getD k 0:=by grind
 rw[e];exact ac2 (M:=200*BM) hc.d hc.nz (hc.term E G) (by omega) (by omega)
theorem Cd.LnQ(hc:Cd s q Δ){k:Nat}(E:k<s.members.length):Ln 7 (q.getD k 0):=by
 have G:0<BM:=by decide+kernel
 exact ac2 (M:=2*BM) hc.d hc.nz (hc.q k E) (by omega) (by omega)
end
theorem av5{s:Structure}(h:SG s){q:List Rat}{Δ:Rat}(hl:q.length=s.members.length)(hc:Cd s q Δ)(j:Int) :
  fn ZK wI Am 62 [.tp (iI s) 0,LL cF q,I j]=some (.Bf [.tp (cQ (sX s q j s.members.length)) 0,.tp (cQ (sY s q j s.members.length)) 0]):=by
 have b6:=h.nm;have k0:=jv 0 (by decide) (by decide);have k0:fn ZK conv ext 65 [I 0]=some (.tp (cQ 0) 0):=k0
 rw[m_,mg [.tmp 6,.tmp 7] [] func62];simp only[go_sem,k0];generalize hL:jI _ _=y;obtain⟨x,rfl,T,σ,nx,rfl,S,Y⟩:=oZ hL s.members.length (fun k st=>st.T 0= .tp (iI s) 0/\st.T 1=LL cF q/\st.T 2=I j/\st.T 8= .tp (cQ (sX s q j k)) 0/\st.T 9= .tp (cQ (sY s q j k)) 0/\st.T 19=LL Ac s.members/\st.T 20=I s.members.length/\st.T 21=I k)
  (fun x=>∃T σ nx,x=(.exit 0,⟨T,σ,nx⟩)/\T 8= .tp (cQ (sX s q j s.members.length)) 0/\T 9= .tp (cQ (sY s q j s.members.length)) 0) (by
   clear hL;rintro k ⟨T,σ,nx⟩ hk ⟨t0,t1,t2,S,Y,G,E,J⟩;simp only at t0 t1 t2 S Y G E J;have g1:(k:Int)<(s.members.length:Int):=by omega
   have g2:=jC k;have g3:=ZR (n:=(k:Int)+1);have g4:=Nl s.members k hk;rw[jH hk]at g4;have g5:=GR s.members;have g6:k*3+3<=s.members.length*3:=by omega
   have g9:=Np s.members k hk;have k1:=Uj h hk;have hv:=Ze h k;have a8:=qP q (k:=k) (by omega);have a9:(q.flatMap cF).length=q.length:=qO q;have a4:(k:Int)<(q.length:Int):=by omega
   have a5:q.flatMap cF≠[]:=fun e=>by rw[e]at a9;have:q.length=0:=a9.symm;omega
   have a6:k<q.length:=by omega
   have a7:q.getD k 0=q[k]'(by omega):=by rw[zx,zy (by omega)];rfl
   have hX:=hc.LnX h j (n:=k) (by omega);have hY:=hc.LnY h j (n:=k) (by omega);have a0:=hc.LnX h j (n:=k+1) (by omega);have a1:=hc.LnY h j (n:=k+1) (by omega);have hQ:=hc.LnQ hk;rw[ac3]at a0;rw[ac4]at a1;have sx:=ac3 s q j k;have sy:=ac4 s q j k
   have key:∀u v:Int,u.natAbs<=100->v.natAbs<=100->u=eX s j k->v=eY s j k ->
     fn ZK conv ext 65 [I u]=some (.tp (cQ ((u:Int):Rat)) 0)/\fn ZK conv ext 65 [I v]=some (.tp (cQ ((v:Int):Rat)) 0) /\
     fn ZK wI Am 104 [.tp (cQ (q[k]'(by omega))) 0,.tp (cQ ((u:Int):Rat)) 0]=some (.tp (cQ (q[k]'(by omega)*((u:Int):Rat))) 0)/\fn ZK wI Am 104 [.tp (cQ (q[k]'(by omega))) 0,.tp (cQ ((v:Int):Rat)) 0]=some (.tp (cQ (q[k]'(by omega)*((v:Int):Rat))) 0) /\
     fn ZK wI Am 64 [.tp (cQ (sX s q j k)) 0,.tp (cQ (q[k]'(by omega)*((u:Int):Rat))) 0]=some (.tp (cQ (sX s q j (k+1))) 0)/\fn ZK wI Am 64 [.tp (cQ (sY s q j k)) 0,.tp (cQ (q[k]'(by omega)*((v:Int):Rat))) 0]=some (.tp (cQ (sY s q j (k+1))) 0):=by
    intro u v hu hv b2 b3;have tu:=hc.LnT hk hu;have tv:=hc.LnT hk hv;rw[a7]at tu tv hQ a0 a1 sx sy;rw[<- b2]at a0 sx;rw[<- b3]at a1 sy;refine⟨jv u (by omega) (by omega),jv v (by omega) (by omega),?_,?_,?_,?_⟩
    .have:=alu (a:=some (q[k]'(by omega))) (b:=some ((u:Int):Rat)) (fun z O=>by cases O;exact hQ.mono (by decide)) (fun z O=>by cases O;exact(sF (by omega)).mono (by decide))
     rw[show Lh (some (q[k]'(by omega))) (some ((u:Int):Rat))=some (q[k]'(by omega)*((u:Int):Rat))from mO (tu.mono (by decide))]at this;exact this
    .have:=alu (a:=some (q[k]'(by omega))) (b:=some ((v:Int):Rat)) (fun z O=>by cases O;exact hQ.mono (by decide)) (fun z O=>by cases O;exact(sF (by omega)).mono (by decide))
     rw[show Lh (some (q[k]'(by omega))) (some ((v:Int):Rat))=some (q[k]'(by omega)*((v:Int):Rat))from mO (tv.mono (by decide))]at this;exact this
    .have:=aeW (a:=some (sX s q j k)) (b:=some (q[k]'(by omega)*((u:Int):Rat))) (fun z O=>by cases O;exact hX.mono (by decide)) (fun z O=>by cases O;exact tu.mono (by decide))
     rw[show ahS (some (sX s q j k)) (some (q[k]'(by omega)*((u:Int):Rat)))=some (sX s q j k+q[k]'(by omega)*((u:Int):Rat))from mO (a0.mono (by decide)),<- sx]at this;exact this
    .have:=aeW (a:=some (sY s q j k)) (b:=some (q[k]'(by omega)*((v:Int):Rat))) (fun z O=>by cases O;exact hY.mono (by decide)) (fun z O=>by cases O;exact tv.mono (by decide))
     rw[show ahS (some (sY s q j k)) (some (q[k]'(by omega)*((v:Int):Rat)))=some (sY s q j k+q[k]'(by omega)*((v:Int):Rat))from mO (a1.mono (by decide)),<- sy]at this;exact this
   have st1:∀(z:Rat) σ d,strip σ d (.tp (cQ z) 0)=some (.tp (cQ z) 0,[]):=fun z σ d=>by rw[aN]
   have y1:nx<nx+1:=by omega
   by_cases ca:j=(mem s k).a
   .have a2:(j==(mem s k).a)=true:=by simpa using ca
    have ex:eX s j k=vx s k:=by unfold eX;rw[sN ca]
    have ey:eY s j k=vy s k:=by unfold eY;rw[sN ca]
    obtain⟨m1,m2,m3,m4,m5,m6⟩:=key (vx s k) (vy s k) (by omega) (by omega) ex.symm ey.symm;obtain⟨U,eU⟩:∃U,U=cQ ((vx s k:Int):Rat):=⟨_,rfl⟩;obtain⟨V,eV⟩:∃V,V=cQ ((vy s k:Int):Rat):=⟨_,rfl⟩;rw[<- eU]at m1 m3;rw[<- eV]at m2 m4;refine .inl ⟨_,by simp only[go_sem,t0,t1,t2,S,Y,G,E,J,g1,g2,g3,g4,g5,g6,g9,k1,a8,a9,a4,a5,a6,a2,y1,m1,m2,m3,m4,m5,m6,st1];rfl,?_⟩;simp only[go_sem,t0,t1,t2,G,E];rfl
   .have a2:(j==(mem s k).a)=false:=by simpa using ca
    by_cases cb:j=(mem s k).b
    .have a3:(j==(mem s k).b)=true:=by simpa using cb
     have ex:eX s j k=0-vx s k:=by unfold eX;rw[sO ca,sN cb];omega
     have ey:eY s j k=0-vy s k:=by unfold eY;rw[sO ca,sN cb];omega
     have w1:=ZR (n:=0-vx s k);have w2:=ZR (n:=0-vy s k);obtain⟨m1,m2,m3,m4,m5,m6⟩:=key (0-vx s k) (0-vy s k) (by omega) (by omega) ex.symm ey.symm;obtain⟨U,eU⟩:∃U,U=cQ ((0-vx s k:Int):Rat):=⟨_,rfl⟩;obtain⟨V,eV⟩:∃V,V=cQ ((0-vy s k:Int):Rat):=⟨_,rfl⟩;rw[<- eU]at m1 m3;rw[<- eV]at m2 m4;refine .inl ⟨_,by simp only[go_sem,t0,t1,t2,S,Y,G,E,J,g1,g2,g3,g4,g5,g6,g9,k1,a8,a9,a4,a5,a6,a2,a3,y1,w1,w2,m1,m2,m3,m4,m5,m6,st1];rfl,?_⟩;simp only[go_sem,t0,t1,t2,G,E];rfl
    .have a3:(j==(mem s k).b)=false:=by simpa using cb
     have ex:eX s j k=0:=by unfold eX;rw[sO ca,sO cb]
     have ey:eY s j k=0:=by unfold eY;rw[sO ca,sO cb]
     have b4:sX s q j (k+1)=sX s q j k:=by rw[sx,ex];show _+_*((0:Int):Rat)=_;grind
     have b5:sY s q j (k+1)=sY s q j k:=by rw[sy,ey];show _+_*((0:Int):Rat)=_;grind
     refine .inl ⟨_,by simp only[go_sem,t0,t1,t2,S,Y,G,E,J,g1,g2,g3,g4,g5,g6,g9,k1,a2,a3,y1];rfl,?_⟩;simp only[go_sem,t0,t1,t2,S,Y,G,E];rw[b4,b5];exact⟨rfl,rfl,rfl⟩) (by
   clear hL;rintro ⟨T,σ,nx⟩ ⟨t0,t1,t2,S,Y,G,E,J⟩;simp only at t0 t1 t2 S Y G E J;exact⟨_,by simp only[go_sem,E,J,zi];rfl,by simp,_,_,_,rfl,by simp only[go_sem,S],by simp only[go_sem,Y]⟩) (by
   simp only[go_sem];exact⟨rfl,rfl⟩)
 simp only[go_sem,S,Y]
theorem av6(x y:Operand)(row:List V)(off:Nat):Aw ZK .neq 110 x y (.tp row off) (.sc (.pointer none))=some (Bo true):=by
 unfold Aw;simp only[toVal,Tryz.underlying110];rfl
attribute [go_sem] av6
theorem ac5(z:Rat)(h:z=0):fn ZK conv ext 63 [.tp (cQ z) 0]=some (Bo true):=by
 have k:=amD z;have e:Az z.num 0=0:=by rw[h];rfl
 rw[e]at k;have E:((0:Int)==0)=true:=rfl;rw[m_,mg [.tmp 2] [] func63];simp only[go_sem,k,E]
structure EqP (s:Structure) (l:List Int) (q:List Rat):Prop where
 len:q.length=s.members.length
 L:∀z∈q,Ln 24 z
 cd:∃Δ,Cd s q Δ
 bal:∀t (h:t<(free s).length),sX s q (free s)[t] s.members.length=((-l.getD (2*(free s)[t].toNat) 0:Int):Rat)/\sY s q (free s)[t] s.members.length=((-l.getD (2*(free s)[t].toNat+1) 0:Int):Rat)
 azo:∀k,k<s.members.length->(mem s k).kind=1->0<=q.getD k 0
 av7:∀k,k<s.members.length->(mem s k).kind=2->q.getD k 0<=0
section
variable {K:List (Int×Int)} {X:List Rat} {nm:Nat}
theorem aiS(E:∀c,c<K.length->(K.getD c (0,0)).1.toNat<nm)(G:∀c,0<=X.getD c 0){k:Nat}(hs:∀c,c<K.length->(K.getD c (0,0)).1.toNat=k->(K.getD c (0,0)).2=1):∀C,C<=K.length->0<=(FK K X nm C).getD k 0
 |0,_=>by
  rw[FK,zx,wZ]
  split<;>exact vN
 |C+1,hC=>by
  have J:=aiS E G hs C (by omega);rw[ac1 (E C (by omega)) k]
  split
  .rename_i e
   rw[hs C (by omega) e];have:=G C;show 0<=_+X.getD C 0;grind
  .exact J
theorem aiT(E:∀c,c<K.length->(K.getD c (0,0)).1.toNat<nm)(G:∀c,0<=X.getD c 0){k:Nat}(hs:∀c,c<K.length->(K.getD c (0,0)).1.toNat=k->(K.getD c (0,0)).2= -1):∀C,C<=K.length->(FK K X nm C).getD k 0<=0
 |0,_=>by
  rw[FK,zx,wZ]
  split<;>exact vN
 |C+1,hC=>by
  have J:=aiT E G hs C (by omega);rw[ac1 (E C (by omega)) k]
  split
  .rename_i e
   rw[hs C (by omega) e];have:=G C;show _+ -X.getD C 0<=0;grind
  .exact J
end
theorem RJ{s:Structure}{n:Nat}{p:Int×Int}(h:p∈cols s n):((mem s p.1.toNat).kind=1->p.2=1)/\((mem s p.1.toNat).kind=2->p.2= -1):=by
 unfold cols at h;obtain⟨k,-,h⟩:=List.mem_flatMap.mp h;unfold E_ at h;rcases List.mem_append.mp h with h|h
 .split at h
  .cases h
  .rename_i c
   rw[List.mem_singleton.mp h];exact⟨fun _=>rfl,fun e=>absurd (by simpa using e) c⟩
 .split at h
  .cases h
  .rename_i c
   rw[List.mem_singleton.mp h];exact⟨fun e=>absurd (by simpa using e) c,fun _=>rfl⟩
theorem ap9{s:Structure}(h:SG s){l:List Int}(hb:∀x∈l,-100<=x/\x<=100){x:Nat->Rat}(J:(EP s l).Best x)(S:∀j,j<CQ s->Ln 6 (x j))(Y:∃T,(EP s l).Good T/\x=BH (EP s l).m T):EqP s l (F7 s x):=by
 have O:∀c,0<=((List.range (CQ s)).map x).getD c 0:=fun c=>by
  rw[zx,zF]
  by_cases hc:c<CQ s
  .rw[xO hc];exact J.1.2 c hc
  .rw[yw (by simp;omega)];exact vN
 have E:∀c,c<(cols s s.members.length).length->(cols s s.members.length).getD c (0,0)∈cols s s.members.length:=fun c hc=>by
  rw[zx,zy hc];exact zu hc
 refine⟨RH s x,fun z hz=>(OZ S z hz).mono (by decide),?_,fun t ht=>abE J.1 ht,fun k hk e=>?_,fun k hk e=>?_⟩
 .obtain⟨T,hg,rfl⟩:=Y
  exact amo h hb hg
 .exact aiS (UW s) O (fun c hc G=>(RJ (E c hc)).1 (by rw[G];exact e)) _ (zq _)
 .exact aiT (UW s) O (fun c hc G=>(RJ (E c hc)).2 (by rw[G];exact e)) _ (zq _)
theorem Yh{X:Rat}{v:Int}(h:X=((-v:Int):Rat)):X+((v:Int):Rat)=0:=by
 rw[h]
 push_cast
 grind
theorem Yi{s:Structure}(h:Ba s)(ho:Ah s){l:List Int}(hl:AL s.bI.length l){q:List Rat}(hq:EqP s l q):fn ZK wI Am 31 [.agg (iI s),LI l,LL cQ q]=some (Bo true):=by
 have a1:=h.2.1;have Yq:=h.1;have a2:=lS s;have k1:=jd h ho hq.len hq.L;have k2:=Qi (iI s) 0 s.bI l rfl (by omega) (by rw[hl.1];unfold maxLen;omega);rw[gy hl]at k2;have k3:=kK h.sg;obtain⟨Δ,hc⟩:=hq.cd;have hb:∀x∈l,-100<=x/\x<=100:=fun x hx=>kG (hl.2 x hx)
 have a0:∀i,-100<=l.getD i 0/\l.getD i 0<=100:=fun i=>by
  rw[zx]
  by_cases hi:i<l.length
  .rw[zy hi];exact hb _ (zu hi)
  .rw[yw (by omega)];simp
 rw[m_,mg [.tmp 6] [] func31];simp only[go_sem,k1,k2,k3];generalize hL:jI _ _=y;obtain⟨x,rfl,T,σ,nx,rfl⟩:=oZ hL (free s).length (fun k st=>st.T 1=LI l/\st.T 3= .rp 0 0/\st.T 7=LL cF q/\st.T 25=LI (free s)/\st.T 26=I (free s).length/\st.T 27=I k/\0<st.nx/\∃wr,st.σ 0=some ⟨iI s,0,wr⟩)
  (fun x=>∃T σ nx,x=(.exit 0,⟨T,σ,nx⟩)) (by
   clear hL;rintro k ⟨T,σ,nx⟩ hk ⟨t1,t3,t7,J,E,O,S,wr,G⟩;simp only at t1 t3 t7 J E O S G;obtain⟨j,ej,hj⟩:=acX hk;have g1:(k:Int)<((free s).length:Int):=by omega
   have g2:=jC k;have g3:=ZR (n:=(k:Int)+1);have g4:=idx (xs:=free s) (k:=k) hk;rw[ej]at g4;have g5:=Bg (free s) k hk;have k4:=av5 h.sg hq.len hc (j:Int);have Y:=hq.bal k hk;rw[ej,zA]at Y;have w1:=ZR (n:=2*(j:Int));have w2:=ZR (n:=2*(j:Int)+1);have e1:2*(j:Int)=((2*j:Nat):Int):=by omega
   have e2:((2*j:Nat):Int)+1=((2*j+1:Nat):Int):=by omega
   rw[e1]at w1 w2;rw[e2]at w2;have a3:=hl.1;have i1:((2*j:Nat):Int)<(l.length:Int):=by omega
   have i2:((2*j+1:Nat):Int)<(l.length:Int):=by omega
   have i3:(0:Int)<=((2*j:Nat):Int):=by omega
   have i4:(0:Int)<=((2*j+1:Nat):Int):=by omega
   have i5:=idx (xs:=l) (k:=2*j) (by omega);have i6:=idx (xs:=l) (k:=2*j+1) (by omega);rw[<- lF (by omega) 0]at i5 i6;have i7:=Bg l (2*j) (by omega);have b1:=a0 (2*j);have b2:=a0 (2*j+1);have z1:=Yh Y.1;have z2:=Yh Y.2;have hX:=hc.LnX h.sg (j:Int) (n:=s.members.length) (zq _);have hY:=hc.LnY h.sg (j:Int) (n:=s.members.length) (zq _);obtain⟨u,eu⟩:∃u,u=l.getD (2*j) 0:=⟨_,rfl⟩;obtain⟨v,ev⟩:∃v,v=l.getD (2*j+1) 0:=⟨_,rfl⟩;rw[<- eu]at i5 b1 z1;rw[<- ev]at i6 b2 z2;obtain⟨P,eP⟩:∃P,P=sX s q (j:Int) s.members.length:=⟨_,rfl⟩;obtain⟨Q,eQ⟩:∃Q,Q=sY s q (j:Int) s.members.length:=⟨_,rfl⟩;rw[<- eP]at k4 z1 hX;rw[<- eQ]at k4 z2 hY;have m1:=jv u (by omega) (by omega);have m2:=jv v (by omega) (by omega);have lz:Ln 24 (0:Rat):=(sF (z:=0) (by decide)).mono (by decide);have m3:fn ZK wI Am 64 [.tp (cQ P) 0,.tp (cQ ((u:Int):Rat)) 0]=some (.tp (cQ (P+((u:Int):Rat))) 0):=by
    have:=aeW (a:=some P) (b:=some ((u:Int):Rat)) (fun z hz=>by cases hz;exact hX.mono (by decide)) (fun z hz=>by cases hz;exact(sF (by omega)).mono (by decide));rw[show ahS (some P) (some ((u:Int):Rat))=some (P+((u:Int):Rat))from mO (by rw[z1];exact lz)]at this;exact this
   have m4:fn ZK wI Am 64 [.tp (cQ Q) 0,.tp (cQ ((v:Int):Rat)) 0]=some (.tp (cQ (Q+((v:Int):Rat))) 0):=by
    have:=aeW (a:=some Q) (b:=some ((v:Int):Rat)) (fun z hz=>by cases hz;exact hY.mono (by decide)) (fun z hz=>by cases hz;exact(sF (by omega)).mono (by decide));rw[show ahS (some Q) (some ((v:Int):Rat))=some (Q+((v:Int):Rat))from mO (by rw[z2];exact lz)]at this;exact this
   have m5:=ac5 (P+((u:Int):Rat)) z1;have m6:=ac5 (Q+((v:Int):Rat)) z2;obtain⟨U,eU⟩:∃U,U=cQ ((u:Int):Rat):=⟨_,rfl⟩;obtain⟨V,eV⟩:∃V,V=cQ ((v:Int):Rat):=⟨_,rfl⟩;rw[<- eU]at m1 m3;rw[<- eV]at m2 m4;have st1:∀(z:Rat) σ d,strip σ d (.tp (cQ z) 0)=some (.tp (cQ z) 0,[]):=fun z σ d=>by rw[aN]
   refine .inl ⟨_,by simp only[go_sem,t1,t3,t7,J,E,O,G,S,g1,g2,g3,g4,g5,hk,k4,e1,e2,w1,w2,i1,i2,i3,i4,i5,i6,i7,m1,m2,m3,m4,m5,m6,st1];rfl,?_⟩;simp only[go_sem,t1,t3,t7,J,E,S]
   first
   |exact⟨rfl,_,JY G _ ▸ Zi _ _ _⟩
   |exact⟨rfl,Uu G⟩
   |trace_state) (by
   clear hL;rintro ⟨T,σ,nx⟩ ⟨t1,t3,t7,J,E,O,S,G⟩;simp only at t1 t3 t7 J E O S G;exact⟨_,by simp only[go_sem,E,O,zi];rfl,by simp,_,_,_,rfl⟩) (by
   simp only[go_sem]
   first
   |exact⟨_,rfl⟩
   |trace_state)
 simp only[go_sem]
theorem ap'{z:Rat}(h:0<=z):¬Az z.num 0<0:=by
 have E:0<=z.num:=Rat.num_nonneg.mpr h;unfold Az;rw[sO (by omega)]
 split<;>decide
theorem aqa{z:Rat}(h:z<=0):¬0<Az z.num 0:=by
 have E:0<=(-z).num:=Rat.num_nonneg.mpr (by grind);have G:z.num<=0:=by rw[Rat.neg_num]at E;omega
 unfold Az
 by_cases c:z.num<0
 .rw[sN c];decide
 .rw[sO c,sN (by omega)];decide
theorem aff{s:Structure}(h:Ba s)(ho:Ah s){l:List Int}{q:List Rat}(hq:EqP s l q):fn ZK wI Am 32 [.agg (iI s),LL cQ q]=some (Bo true):=by
 have a4:=h.2.1;have k1:=jd h ho hq.len hq.L;rw[m_,mg [.tmp 4] [] func32];simp only[go_sem,k1];generalize hL:jI _ _=y;obtain⟨x,rfl,T,σ,nx,rfl⟩:=oZ hL s.members.length (fun k st=>st.T 5=LL cF q/\st.T 18=LL Ac s.members/\st.T 19=I s.members.length/\st.T 20=I k)
  (fun x=>∃T σ nx,x=(.exit 0,⟨T,σ,nx⟩)) (by
   clear hL;rintro k ⟨T,σ,nx⟩ hk ⟨O,S,E,G⟩;simp only at O S E G;have g1:(k:Int)<(s.members.length:Int):=by omega
   have g2:=jC k;have g3:=ZR (n:=(k:Int)+1);have g4:=Nl s.members k hk;rw[jH hk]at g4;have g5:=GR s.members;have g6:k*3+3<=s.members.length*3:=by omega
   have g9:=Np s.members k hk;have a5:=hq.len;have a8:=qP q (k:=k) (by omega);have a9:(q.flatMap cF).length=q.length:=qO q;have a0:(k:Int)<(q.length:Int):=by omega
   have a1:q.flatMap cF≠[]:=fun e=>by rw[e]at a9;have:q.length=0:=a9.symm;omega
   have a2:k<q.length:=by omega
   have a3:q.getD k 0=q[k]'(by omega):=by rw[zx,zy (by omega)];rfl
   have hr:=hq.azo k hk;have hs:=hq.av7 k hk;rw[a3]at hr hs;obtain⟨z,ez⟩:∃z,z=q[k]'(by omega):=⟨_,rfl⟩;rw[<- ez]at a8 hr hs;have k2:=amD z;have y1:nx<nx+1:=by omega
   by_cases c1:(mem s k).kind=1
   .have Y:((mem s k).kind==1)=true:=by simpa using c1
    have J:((mem s k).kind==2)=false:=by rw[c1];rfl
    have n1:=ap' (hr c1);refine .inl ⟨_,by simp only[go_sem,O,S,E,G,g1,g2,g3,g4,g5,g6,g9,a8,a9,a0,a1,a2,k2,Y,J,n1,y1];rfl,?_⟩;simp only[go_sem,O,S,E]
    try rfl
   .have Y:((mem s k).kind==1)=false:=by simpa using c1
    by_cases c2:(mem s k).kind=2
    .have J:((mem s k).kind==2)=true:=by simpa using c2
     have n1:=aqa (hs c2);refine .inl ⟨_,by simp only[go_sem,O,S,E,G,g1,g2,g3,g4,g5,g6,g9,a8,a9,a0,a1,a2,k2,Y,J,n1,y1];rfl,?_⟩;simp only[go_sem,O,S,E]
     try rfl
    .have J:((mem s k).kind==2)=false:=by simpa using c2
     refine .inl ⟨_,by simp only[go_sem,O,S,E,G,g1,g2,g3,g4,g5,g6,g9,a8,a9,a0,a1,a2,k2,Y,J,y1];rfl,?_⟩;simp only[go_sem,O,S,E]
     try rfl) (by
   clear hL;rintro ⟨T,σ,nx⟩ ⟨O,S,E,G⟩;simp only at O S E G;exact⟨_,by simp only[go_sem,E,G,zi];rfl,by simp,_,_,_,rfl⟩) (by
   simp only[go_sem])
 simp only[go_sem]
theorem O4{s:Structure}(h:Ba s)(E:Ah s){l:List Int}(J:AL s.bI.length l){q:List Rat}(G:EqP s l q):fn ZK wI Am 11 [.agg (iI s),LI l,LL cQ q]=some (Bo true):=by
 have O:=Yi h E J G;have S:=aff h E G;rw[m_,mg [.tmp 6] [] func11];simp only[go_sem,O,S]
theorem aiU{s:Structure}(h:Ba s)(O:Ah s){l w:List Int}(S:AL s.bI.length l)(hw:Df s.members.length w)(hs:Fe s l w) :
  ∃q,EqP s l q/\fn ZK wI Am 10 [.agg (iI s),LI l,LI w]=some (.Bf [LL cQ q,Bo true])/\fn ZK wI Am 12 [.agg (iI s),LL cQ q,LI w]=some (Bo true)/\fn ZK wI Am 11 [.agg (iI s),LI l,LL cQ q]=some (Bo true):=by
 have hb:∀x∈l,-100<=x/\x<=100:=fun x Y=>kG (S.2 x Y)
 unfold Fe at hs;rcases aiO h O S with ⟨qs,a0,a1,E,-,x,Y,h6,e,hT⟩|⟨E,-,-⟩
 .have hE:EqP s l qs:=by rw[e];exact ap9 h.sg hb Y h6 hT
  have G:=Q5 h O a0 a1 hw;cases J:G7 s qs w with
  |true=>
   rw[J]at G;refine⟨qs,hE,?_,G,O4 h O S hE⟩;rw[m_,mg [.tmp 6,.tmp 7] [] func10];simp only[go_sem,E,G]
  |false=>
   exfalso;rw[J]at G;have k5:fn ZK wI Am 10 [.agg (iI s),LI l,LI w]=some (.Bf [.ts [] 0,Bo false]):=by
    rw[m_,mg [.tmp 6,.tmp 7] [] func10];simp only[go_sem,E,G]
   have k6:fn ZK wI Am 13 [.agg (iI s),LI l,LI w]=some (Bo false):=by
    rw[m_,mg [.tmp 6] [] func13];simp only[go_sem,k5]
   rw[k6]at hs;cases hs
 .exfalso
  have E:fn ZK wI Am 30 [.agg (iI s),LI l]=some (.Bf [.ts [] 0,Bo false]):=E;have k5:fn ZK wI Am 10 [.agg (iI s),LI l,LI w]=some (.Bf [.ts [] 0,Bo false]):=by
   rw[m_,mg [.tmp 6,.tmp 7] [] func10];simp only[go_sem,E]
  have k6:fn ZK wI Am 13 [.agg (iI s),LI l,LI w]=some (Bo false):=by
   rw[m_,mg [.tmp 6] [] func13];simp only[go_sem,k5]
  rw[k6]at hs;cases hs
theorem aiV{E:List Int}(G:okL 1 (fun n=>(Lit.int .u8 n).wf=true) E):∀x∈E,0<=x/\x<=255:=fun x J=>by
 have:=G.1 x J;simp only[Lit.wf,zD,decide_eq_true_eq]at this;have O:IntKind.u8.min=0:=by decide
 have S:IntKind.u8.max=255:=by decide
 rw[O,S]at this;exact this
theorem O5{y:Cm}{fr to:Int}(G:Cj y fr to=true):AZ y/\∃a t d:Nat,fr=(a:Int)/\to=(t:Int)/\a<y.aI.length/\t<y.aI.length/\dst (DY y) (DV (Ar y)) t a=(d:Int)/\Ea y fr to=Ak ((List.range (d+1)).map (XC (DY y) (dst (DY y) (DV (Ar y)) t) y.aI.length a)):=by
 obtain⟨O,a,t,rfl,rfl,ha,S⟩:=O1 (UR G);have es:PW y (Ar y) (t:Int)=dst (DY y) (DV (Ar y)) t:=by funext i;unfold PW;rw[sN ⟨by omega,by omega⟩,zA]
 have E:=G;unfold Cj at E;simp only[zD,decide_eq_true_eq]at E;rw[es,zA]at E;obtain⟨d,J⟩:∃d:Nat,dst (DY y) (DV (Ar y)) t a=(d:Int):=⟨(dst (DY y) (DV (Ar y)) t a).toNat,by omega⟩;refine⟨O,a,t,d,rfl,rfl,ha,S,J,?_⟩;unfold Ea;rw[sN G,es,zA];unfold plan;rw[J,zA]
theorem amq{y:Cm}{fr to:Int}(G:Cj y fr to=true):Ea y fr to≠[]/\∀k (h:k<(Ea y fr to).length),∃i:Nat,(Ea y fr to)[k]=(i:Int)/\∃hi:i<y.aI.length,KI y.aI[i] y.strict=true:=by
 obtain⟨hG,a,t,d,rfl,rfl,ha,ht,O,e⟩:=O5 G;have E:∀i,DV (Ar y) i=true->i<y.aI.length:=fun i hi=>by have:=rG hi;rw[dG]at this;exact this
 rw[e];refine⟨fun h=>by
  have:=congrArg List.length h;simp[Ak]at this,fun k Y=>?_⟩
 have a0:k<d+1:=by simpa[Ak]using Y
 refine⟨XC (DY y) (dst (DY y) (DV (Ar y)) t) y.aI.length a k,by simp[Ak],?_⟩;have h1:=jw E (mv:=DY y) (to:=t) (a:=a) k (by rw[O];omega);have J:=(Uk (mv:=DY y) (al:=DV (Ar y)) (to:=t) (i:=XC (DY y) (dst (DY y) (DV (Ar y)) t) y.aI.length a k) (by rw[h1,O];omega)).1;have S:=E _ J;refine⟨S,?_⟩;rw[rH (by rw[dG];exact S)]at J
 simpa[Ar]using J
theorem Yj{y:Cm}{fr to:Int}(a0:Cj y fr to=true):Me y (Ea y fr to)=true:=by
 obtain⟨hG,a,t,d,rfl,rfl,ha,ht,hd,e⟩:=O5 a0;have J:∀i,DV (Ar y) i=true->i<y.aI.length:=fun i hi=>by have:=rG hi;rw[dG]at this;exact this
 obtain⟨at_,O⟩:∃at_,at_=XC (DY y) (dst (DY y) (DV (Ar y)) t) y.aI.length a:=⟨_,rfl⟩;have Y:∀k:Nat,k<=d->dst (DY y) (DV (Ar y)) t (at_ k)=(d:Int) - k:=fun k S=>by
  have:=jw J (mv:=DY y) (to:=t) (a:=a) k (by rw[hd];omega);rw[hd]at this;rw[O];exact this
 have E:∀k:Nat,k<=d->DV (Ar y) (at_ k)=true:=fun k S=>(Uk (mv:=DY y) (al:=DV (Ar y)) (to:=t) (i:=at_ k) (by rw[Y k S];omega)).1
 have a1:∀k:Nat,k+1<=d->DY y (at_ k) (at_ (k+1))=true:=fun k S=>by
  have h1:=(aa6 J (mv:=DY y) (to:=t) (a:=at_ k) (by rw[Y k (by omega)];omega)).2.1;have h2:at_ (k+1)=Jg (DY y) (dst (DY y) (DV (Ar y)) t) y.aI.length (at_ k):=by rw[O];rfl
  rw[h2];exact h1
 have G:∀k:Nat,k<=d->(Ea y (a:Int) (t:Int)).getD k 0=((at_ k:Nat):Int):=fun k S=>by
  rw[e,<- O,zx];unfold Ak;rw[zF,zF,xO (by omega)];rfl
 have hlen:(Ea y (a:Int) (t:Int)).length=d+1:=by rw[e];simp[Ak]
 have a2:Ea y (a:Int) (t:Int)≠[]:=fun h=>by rw[h]at hlen;simp at hlen
 unfold Me;rw[gy hG,sH a2,wQ,wQ];refine RI fun k S=>?_
 rw[hlen]at S;unfold Jf;have hr:=J _ (E k (by omega));rw[G k (by omega),zA,E k (by omega)];have hb:inB ((at_ k:Nat):Int) 0 ((y.aI.length:Int) - 1)=true:=by unfold inB;rw[sH (by omega),sH (by omega)];rfl
 rw[hb,wQ,wQ]
 by_cases h0:k=0
 .rw[sH h0];rfl
 .rw[G (k-1) (by omega)]
  have:=a1 (k-1) (by omega);rw[show k-1+1=k by omega]at this;have h2:aiP y ((at_ (k-1):Nat):Int) ((at_ k:Nat):Int)=true:=this;rw[h2,Bool.or_true]
theorem aiW{y:Cm}{to:Int}(G:AZ y)(E:Cj y 0 to=false)(O:0<=to)(S:to<(y.aI.length:Int)):to∉FP y 0:=fun hm=>by
 obtain⟨t,rfl⟩:∃t:Nat,to=(t:Int):=⟨to.toNat,by omega⟩;unfold FP at hm
 split at hm
 .rw[alY]at hm
  have J:0<=dst (DY y) (DV (Ar y)) t 0:=by simpa using hm.2
  have es:PW y (Ar y) (t:Int)=dst (DY y) (DV (Ar y)) t:=by funext i;unfold PW;rw[sN ⟨by omega,by omega⟩,zA]
  unfold Cj at E;rw[gy G,es]at E;have:decide (0<=dst (DY y) (DV (Ar y)) t (0:Int).toNat)=true:=by simpa using J
  rw[this,sH (p:=(0:Int)<=0) (by omega),sH (p:=(0:Int)<_) (by omega)]at E;cases E
 .cases hm
theorem abG{t:Dp}{strict:Bool}(h:KI t strict=true):Ba t.st/\AL t.st.bI.length t.load/\Df t.st.members.length t.limits/\Fe t.st t.load t.limits/\∀k,k<t.st.members.length->(strict=true->fn ZK wI Am 13 [.agg (iI (del t.st k)),LI t.load,LI (t.limits.eraseIdx k)]=some (Bo true)):=by
 unfold KI at h;rw[zD]at h;obtain⟨J,O,S⟩:=I8 h.1;cases strict with
 |false=>
  have E:pb (Fe t.st t.load t.limits)=true:=h.2;exact⟨J,O,S,ig E,fun k Y e=>by cases e⟩
 |true=>
  have E:I7 t.st t.load t.limits=true:=h.2;unfold I7 at E;rw[zD]at E;refine⟨J,O,S,ig E.1,fun k Y _=>?_⟩;have G:=E.2;unfold upto at G;rw[wo]at G;exact ig (G k (List.mem_range.mpr Y))
end Go.Proofs.YtjjhejehbhbdeaaGreat
