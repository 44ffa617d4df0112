import Derived.Test.YtjknobpihkmilaaGreatTb5
set_option linter.unusedSimpArgs false
set_option linter.unusedVariables false
set_option linter.unusedSectionVars false
set_option linter.defProp false
set_option maxRecDepth 10000
set_option maxHeartbeats 4000000
open Go.Proofs.Tryz renaming prog->ZM
open Go.Proofs.Tryz
open Bool renaming and_eq_true->zM,true_and->xY,and_false->wY,false_and->wM,not_false->wE,not_true->vH,and_true->uj
open Classical renaming byContradiction->zf
open Int renaming lt_irrefl->zi,toNat_natCast->zF,natCast_mul->yj
open List renaming getElem?_eq_getElem->zy,getD_eq_getElem?_getD->zx,getElem_mem->zu,length_append->zo,take_of_length_le->zl,length_take->zh,eq_nil_of_length_eq_zero->zZ,mem_cons_of_mem->zY,mem_cons->zX,length_cons->zV,getElem?_append_left->zU,length_map->zT,flatMap_append->zQ,mem_cons_self->zO,getElem?_append_right->zN,append_nil->zH,flatMap_cons->zG,length_drop->zC,getElem_of_mem->zA,append_assoc->yw,drop_zero->yg,getElem?_map->yc,length_nil->yY,getElem?_eq_none->yX,length_singleton->yV,length_replicate->yU,take_length->yT,drop_eq_getElem_cons->yS,ext_getElem->yQ,length_set->yP,getElem_append_left->yO,take_add_one->yL,nil_append->yJ,mem_singleton->yD,getElem_map->yC,drop_of_length_le->yA,mem_append->xW,map_congr_left->xM,map_append->xH,getElem_range->wZ,range_succ->wX,getElem_set->wW,all_eq_true->wV,getElem?_range->wB,all_cons->vY,getElem?_replicate->vU,getElem_take->vS,mem_or_eq_of_mem_set->uz,flatMap_replicate->uV,getElem_cons_zero->uT,length_range->uM,replicate_succ'->uK,mem_of_mem_drop->uJ,drop_drop->uD,filter_append->tH
open Nat renaming le_refl->zq,not_lt_zero->zW,le_trans->zL,mul_le_mul_right->zD,zero_add->yZ,mul_one->yN,succ_mul->xq,mul_le_mul->xK,lt_or_eq_of_le->xJ,le_of_lt_succ->xA,add_assoc->wH,zero_mul->vM,add_zero->uS
open Option renaming bind_some->zk,getD_some->yG
namespace Go.Proofs.YtjknobpihkmilaaGreat
open Go Go.TV Go.Lp
attribute [-go_sem] qy
def awX(p:Prog)(r:V):Prop:=(r= .agg [I 2,.ts [] 0,Bo false,.ts [] 0,.ts [] 0]/\p.None)\/(r= .agg [I 3,.ts [] 0,Bo false,.ts [] 0,.ts [] 0]/\p.Open) \/
 ∃x:Nat->Rat,p.Best x/\(∀j,j<p.n->Ln 6 (x j))/\Ln 6 (ob p.n p.c x)/\r= .agg (I 0 :: LL cQ ((List.range p.n).map x) :: cQ (ob p.n p.c x))/\∃T,p.Good T/\x=BH p.m T
section
variable {A b c:List Int} {m n:Nat}
def Q1(A b c:List Int)(m n:Nat)(D:TQ):Prop:=∃T,Vq (AV A b c m n) (n+m) (AV A b c m n).c1 T D (List.range m)/\(AV A b c m n).Good T
def Q2(A b c:List Int)(m n:Nat)(D:TQ):Prop:=∃T,Vq (AV A b c m n) (n+m) (AV A b c m n).c1 T D (List.range m)/\(AV A b c m n).Good T/\Zero (AV A b c m n) T
def Q3(A b c:List Int)(m n:Nat)(ι:List Nat)(D:TQ):Prop:=∃T,Vq (AV A b c m n) n ((AV A b c m n).C 0) T D ι/\(AV A b c m n).Good T/\(AV A b c m n).Out T/\∀x∈D.B,x<n
theorem amP{D E:TQ}(h:Q1 A b c m n D)(hs:Og (n+m) 1 D E):Q1 A b c m n E:=by
 obtain⟨T,G,J⟩:=h;obtain⟨T',O,S⟩:=G.step (C:=fun _=>(AV A b c m n).c1) (Oi (p:=AV A b c m n) (n':=n+m)) hs;exact⟨T',S,J.step O⟩
theorem amQ{ι:List Nat}{D G:TQ}(h:Q3 A b c m n ι D)(hs:Og n (n+1) D G):Q3 A b c m n ι G:=by
 obtain⟨T,S,Y,J,h4⟩:=h;obtain⟨T',O,k2⟩:=S.step (C:=(AV A b c m n).C) (Ol (p:=AV A b c m n)) hs;refine⟨T',k2,Y.step O,?_,fun x E=>?_⟩
 case refine_2=>
  obtain⟨s,r,g1,-,rfl⟩:=hs;rcases uz E with E|rfl
  .exact h4 x E
  .exact g1.lt
 obtain⟨s,r,g1,g2,rfl⟩:=O
 by_cases hB:T.B r<n
 .exact J.piv hB g1.fr
 .have:=(J.z r g2.lt (by show n<=T.B r;omega)).2 s g1.fr
  have:=g2.pos;grind
theorem aqL{D:TQ}(h:Q2 A b c m n D)(E:∀i,i<D.R.length->EN n D i):∃T,Vq (AV A b c m n) (n+m) (AV A b c m n).c1 T D (List.range m)/\(AV A b c m n).Good T/\Zero (AV A b c m n) T/\(AV A b c m n).Out T:=by
 obtain⟨T,G,h2,O⟩:=h;refine⟨T,G,h2,O,⟨fun i hi S=>⟨O i hi S,fun j Y=>?_⟩⟩⟩;have hl:D.R.length=m:=by rw[<- G.len];simp
 have J:i<m:=hi;have e1:=G.ent i j (by omega) (by have:j<n:=Y;omega);have e2:=G.BH i (by omega);rw[gG J]at e1 e2;rw[<- e1];exact E i (by omega) (by rw[e2];exact S) j Y
theorem ade{C:Nat->Nat->Rat}{p:Prog}{n':Nat}{T:Tab}{D:TQ}{ι:List Nat}(h:Vq p n' (C 0) T D ι){j:Nat}(E:j<n')(hn:j∉D.B):BH p.m T j=0:=by
 unfold BH;refine bK fun i hi=>?_
 rw[sQ fun e=>hn ((h.mem E).mpr ⟨i,hi,e⟩)]
theorem abP(a b c d e:V)(v:Rat):patch [a,b,c,d,e] 2 (cQ v)=a :: b :: cQ v:=rfl
theorem abQ(a b c d e x y:V)(v:Rat):patch [a,b,c,d,e] 0 (x :: y :: cQ v)=x :: y :: cQ v:=rfl
theorem amR(a b:V)(v:Rat):(a :: b :: cQ v).length=5:=rfl
theorem amS(a b:V)(v:Rat):(a :: b :: cQ v).all vI=(vI a && (vI b && true)):=rfl
theorem amT(x:Value):vI (.sc x)=true:=rfl
theorem aji:vI .nil=true:=rfl
theorem amU(b o l:Nat):vI (.rs b o l)=true:=rfl
theorem ajj(a b:V)(v:Rat):(a :: b :: cQ v)[1]?=some b:=rfl
theorem ajk(a b w:V)(v:Rat):(a :: b :: cQ v).set 1 w=a :: w :: cQ v:=rfl
theorem ajl(a b:V)(v:Rat):(a :: b :: cQ v).take 5=a :: b :: cQ v:=rfl
attribute [go_sem] abP abQ amR amS amT aji amU ajj ajk ajl
theorem aqM(hp:PrS A b c m n):∃r,fn ZM Aa Ak 163 [.agg (C9 m n A b c)]=some r/\awX (AV A b c m n) r:=by
 have hm:=hp.hm;have hn:=hp.hn;have hc:=hp.hc;have b6:∀x,(-1000<=x/\x<=1000)->(-1000000<=x/\x<=1000000):=fun x h=>by omega
 obtain⟨N,hN⟩:∃N,N=n+m:=⟨_,rfl⟩;obtain⟨s1,b4⟩:∃s1,s1=upd (upd pI 0 (some ⟨C9 m n A b c,0,true⟩)) 1 (some ⟨[I 0,.nil,Bo false,.nil,.nil],0,true⟩):=⟨_,rfl⟩;have b5:s1 0=some ⟨C9 m n A b c,0,true⟩:=by rw[b4,Zk _ _ (by decide),Zj]
 have h8:s1 1=some ⟨[I 0,.nil,Bo false,.nil,.nil],0,true⟩:=by rw[b4,Zj]
 obtain⟨σ2,CU,bt,k1,bc,vr,vb,rb,j5,S,En⟩:=aqD (c:=c) hp.hA hp.hb (by omega) (by omega) hp.bA hp.bb s1 2;have j6:Q1 A b c m n (Dq A b m n m):=⟨_,abO,gZ⟩;have h9:∀D,Q1 A b c m n D->ShF D (n+m)/\D.B.Nodup:=fun D h=>by
  obtain⟨T,h1,h2⟩:=h;exact abN hp h1 h2 anR
 have j7:Xl (n+m) 1 (2^(n+m)) (Dq A b m n m):=Vq.aa1 (C:=fun _=>(AV A b c m n).c1) Oi abO (acw gZ.ok);obtain⟨j8,AA,o6,D3,k2,j9,k7,Oz,o7,EP⟩:=auz (Q1 A b c m n) false (d:=1) rfl h9 (fun D D' h hs=>amP h hs) j6 j7 j5 (fun b hb=>(S b hb).2);obtain⟨T3,v3,g3,z3,k8⟩:=aa3 (p:=AV A b c m n) j9 abO gZ fun r hr=>List.mem_range.mpr hr
 have i0:=(h9 D3 k7).1;have i1:=i0.Gy;have LZ:=Oz.t;have e0:=Oz.c;rw[<- hN]at LZ i1;have l1:bt<AA:=by have:=S bt (by simp);omega
 have l2:bc<AA:=by have:=S bc (by simp);omega
 have a1:=jF N;have a2:(N:Int)<((N+1:Nat):Int):=by omega
 have a3:=d_ (c:=cQ) (s:=3) qJ D3.c N (by omega);rw[<- lM (by omega) 0]at a3;have a4:=bZ (c:=cQ) (s:=3) qJ D3.c;rw[i1]at a4;have a5:N*3+3<=(N+1)*3:=by omega
 have k9:Ln 6 (D3.c.getD N 0):=by rw[lM (by omega)];exact i0.amI _ (zu _)
 have k3:=dM (D3.c.getD N 0) (k9.mono (by decide));have b7:=abJ (D3.c.getD N 0);have e5:∀x,x<2->j8 x=s1 x:=fun x hx=>by
  rw[EP x (by have:=S bt (by simp);omega) fun hm=>by have:=S x (by simp only[zX,xW]at hm⊢;rcases hm with h|h|h<;>simp[h]);omega];exact En x hx
 have e6:=(e5 0 (by decide)).trans b5;have l6:=(e5 1 (by decide)).trans h8;unfold C9 at b4 b5 e6 k1⊢;rw[mJ,nC [.cell 2 225] [8,12,16] func163]
 by_cases hz:D3.c.getD N 0=0
 .rw[sJ hz,vH]at b7
  have l7:Q2 A b c m n D3:=⟨T3,v3,g3,z3 (by rw[show(AV A b c m n).N=N from hN.symm];exact hz)⟩;have c9:∀r,r<m->r∈List.range m:=fun r hr=>List.mem_range.mpr hr
  obtain⟨Dz,FK,Y,i2,l8,e7,c0,D4,k4,l9,i3,m1,UZ,Vh⟩:=amK (nx:=AA) (A:=A) (b:=b) (m:=m) (N:=N) (Q2 A b c m n) hc hN (by omega) hp.bc (fun D h=>by
   obtain⟨T,h1,h2,h3⟩:=h;rw[hN];exact(abN hp h1 h2 anR).1) (fun D i k h hi hB hk m2=>by
   obtain⟨T,h1,h2,h3⟩:=h;exact⟨_,aa4 (p:=AV A b c m n) h1 h2 h3 hi hB hk m2⟩) (fun D h i4=>by
   obtain⟨T,h1,h2,h3⟩:=h;exact afG hp h1 h2 c9 h3 i4) l7 (by rw[hN];exact Oz) (fun x hx=>by have:=S x hx;omega)
  obtain⟨T4,v4,g4,z4,o4⟩:=aqL l9 i3;have V4:=anS hp v4 g4 c9 z4 i3;have i5:∀D,Q3 A b c m n (CY n (List.range m) D4.B) D->ShF D n/\D.B.Nodup:=fun D h=>by
   obtain⟨T,h1,h2,h3,h4⟩:=h;exact abN hp h1 h2 (awS hp)
  obtain⟨DF,G,m3,J,k5,m4,i6,GH,p0,X8⟩:=auz (Q3 A b c m n (CY n (List.range m) D4.B)) true (d:=n+1) rfl i5 (fun D D' h hs=>amQ h hs) ⟨T4,V4,g4,o4,Jp.2⟩ (Vq.aa1 (C:=(AV A b c m n).C) Ol V4 (acw g4.ok)) m1 (fun b hb=>(UZ b hb).2);obtain⟨T5,V5,g5,o5,m5,m6⟩:=aa5 (p:=AV A b c m n) m4 V4 g4 o4;unfold C9 at k4;have p1:=(S bt (by simp)).1;have p2:=(S bt (by simp)).2;have i7:∀x,x<2->DF x=s1 x:=fun x hx=>by
   rw[X8 x (by have:=UZ Y (by simp);omega) fun hm=>by have:=UZ x (by simp only[zX,xW]at hm⊢;rcases hm with h|h|h<;>simp[h]);omega];rw[Vh x (by omega) fun hm=>by have:=S x (by simp only[zX,xW]at hm⊢;rcases hm with h|h|h<;>simp[h]);omega];rw[e5 x hx]
  have i9:=(i7 0 (by decide)).trans b5;have j0:=(i7 1 (by decide)).trans h8;cases m3 with
  |false=>
   refine⟨_,by simp only[go_sem,qE,<- b4,b5,k1,k2,LZ,e0,a1,a2,a3,a4,a5,k3,b7,l1,l2,e6,k4,k5,j0],.inr (.inl ⟨rfl,m6 rfl⟩)⟩
  |true=>
   obtain⟨a8,p3⟩:=i5 J i6;have e9:=GH.t;have m7:=GH.c;have m8:=a8.Gy;have d1:Y<G:=by have:=UZ Y (by simp);omega
   have d2:i2<G:=by have:=UZ i2 (by simp);omega
   have c1:=jF n;have c2:(n:Int)<((n+1:Nat):Int):=by omega
   have c3:=d_ (c:=cQ) (s:=3) qJ J.c n (by omega);rw[<- lM (by omega) 0]at c3;have c4:=bZ (c:=cQ) (s:=3) qJ J.c;rw[m8]at c4;have c5:n*3+3<=(n+1)*3:=by omega
   have h5:Ln 6 (J.c.getD n 0):=by rw[lM (by omega)];exact a8.amI _ (zu _)
   have d3:G<G+1:=by omega
   have k6:=ahl (J.c.getD n 0) (by have:=h5.1;omega) (by have:=h5.2;omega);have j1:-J.c.getD n 0=ob n (AV A b c m n).c (BH m T5):=ao3 (p:=AV A b c m n) V5 g5;have h6:=UU h5;rw[j1]at k6 h6;generalize J.c.getD n 0=q at c3 k6;generalize hv:ob n (AV A b c m n).c (BH m T5)=v at k6 h6;simp only[go_sem,qE,<- b4,b5,k1,k2,LZ,e0,a1,a2,a3,a4,a5,k3,b7,l1,l2,e6,k4,k5,e9,m7,c1,c2,c3,c4,c5,d1,d2,d3,k6];have k0:fn ZM conv ext 190 [I 0]=some (.agg (cQ 0)):=dO 0 (by decide) (by decide)
   have m9:1<G:=by have:=UZ Y (by simp);omega
   generalize hL:iI _ _=y;obtain⟨x,rfl,T6,CZ,O,rfl,t2,t4,t5,PI,O7,b3⟩:=oZ hL n (fun j st=>st.T 1= .rp 0 0/\st.T 2= .rp 1 0/\st.T 4= .rp Y 0/\st.T 5= .rp G 0/\st.T 6=I j/\G<st.nx/\(∀y,y<G->st.σ y=DF y)/\((j=0/\st.σ G=some ⟨I 0 :: .nil :: cQ v,0,true⟩)\/∃E,0<j/\G<E/\E<st.nx/\st.σ G=some ⟨I 0 :: .rs E 0 j :: cQ v,0,true⟩/\st.σ E=some ⟨(List.replicate j (0:Rat)).flatMap cQ,3,true⟩))
    (fun x=>∃T CZ O,x=(.exit 0,⟨T,CZ,O⟩)/\T 2= .rp 1 0/\T 4= .rp Y 0/\T 5= .rp G 0/\G<O/\(∀y,y<G->CZ y=DF y)/\((n=0/\CZ G=some ⟨I 0 :: .nil :: cQ v,0,true⟩)\/∃E,0<n/\G<E/\E<O/\CZ G=some ⟨I 0 :: .rs E 0 n :: cQ v,0,true⟩/\CZ E=some ⟨(List.replicate n (0:Rat)).flatMap cQ,3,true⟩)) (by
     clear hL;rintro j ⟨T,CZ,O⟩ hj ⟨t1,t2,t4,t5,t6,PI,O7,b3⟩;simp only at t1 t2 t4 t5 t6 PI O7 b3;have g1:(j:Int)<(n:Int):=by omega
     have g3:=ZU (n:=(j:Int)+1);have c7:CZ 0=_:=(O7 0 (by omega)).trans i9;have y1:G<O:=by omega
     have y2:¬G=O:=by omega
     have y3:(G==O)=false:=by rw[sN];omega
     have y4:(O==G)=false:=by rw[sN];omega
     have y5:G<O+1:=by omega
     have y6:¬G=O+1:=by omega
     have y7:(G==O+1)=false:=by rw[sN];omega
     have y8:(O+1==G)=false:=by rw[sN];omega
     have y9:G<O+1+1:=by omega
     have O4:¬G=O+1+1:=by omega
     have O5:(G==O+1+1)=false:=by rw[sN];omega
     have O6:(O+1+1==G)=false:=by rw[sN];omega
     have j2:O<O+1:=by omega
     have Rx:O+1<O+1+1:=by omega
     rcases b3 with ⟨h0,st⟩|⟨E,p4,c1,c2,st,sx⟩
     .refine .inl ⟨_,by simp only[go_sem,t1,t2,t4,t5,t6,c7,st,g1,g3,k0,y1,y2,y3,y4,y5,y6,y7,y8,y9,O4,O5,O6,j2,Rx];rfl,?_⟩
      simp only[go_sem,t1,t2,t4,t5];refine⟨rfl,by omega,fun x hx=>?_,.inr ⟨O+1,by omega,by omega,by omega,by rw[h0],?_⟩⟩
      .rw[Zm,Zm,Zm];exact O7 x hx
      .rw[Zm,Zj,h0];rfl
     .have j3:=rD (σ:=restrict (upd CZ O (some ⟨cQ 0,3,true⟩)) [E,O]) (nx:=O+1) (size:=3) (bytes:=56) (b:=E) (len:=j) (m:=1) (row:=cQ 0) (by rw[fO,Zm];exact sx) (by rw[bZ qJ,yU]) (by decide) (by decide) (by unfold maxLen;omega) (by omega) rfl
      have x1:E<O+1:=by omega
      have x2:(G==E)=false:=by rw[sN];omega
      have x3:(E==G)=false:=by rw[sN];omega
      have x4:¬G=E:=by omega
      refine .inl ⟨_,by simp only[go_sem,t1,t2,t4,t5,t6,c7,st,g1,g3,k0,j3,x1,x2,x3,x4,y1,y2,y3,y4,y5,y6,y7,y8,y9,O4,O5,O6,j2,Rx];rfl,?_⟩;simp only[go_sem,t1,t2,t4,t5];refine⟨rfl,by omega,fun x hx=>?_,.inr ⟨O+1,by omega,by omega,by omega,rfl,?_⟩⟩
      .rw[Zm,Zm,Zm,Zm];exact O7 x hx
      .rw[Zm,Zj,uK,zQ];simp) (by
     clear hL;rintro ⟨T,CZ,O⟩ ⟨t1,t2,t4,t5,t6,PI,O7,b3⟩;simp only at t1 t2 t4 t5 t6 PI O7 b3;have c7:CZ 0=_:=(O7 0 (by omega)).trans i9;refine⟨_,by simp only[go_sem,t1,t6,c7,zi];rfl,by simp,_,_,_,rfl,?_⟩;simp only[go_sem,t2,t4,t5];exact⟨PI,O7,b3⟩) (by
     simp only[go_sem];exact⟨by omega,fun y hy=>by rw[Zm],.inl trivial⟩)
   clear hL;have n0:∀x∈J.B,x<n:=i6.choose_spec.2.2.2;obtain⟨K,eK⟩:∃K,K=J.R.length:=⟨_,rfl⟩;have p5:=a8.Bq;have p6:=a8.Gz;obtain⟨f,ef⟩:∃f,f=BH m T5:=⟨_,rfl⟩;have b8:∀i,i<K->Cm J.R i n=f (J.B.getD i 0):=fun i hi=>by rw[ef];exact atd (p:=AV A b c m n) V5 g5 (by omega)
   have hlen:DI ZM 29 e7=some (I K):=by
    rcases GH.b with ⟨q1,rfl⟩|⟨bb,q1,rfl,_⟩
    .rw[show K=0 by omega];exact nX (by kernel_rfl)
    .rw[eK];exact nV (by kernel_rfl)
   obtain⟨vx,n1,n2⟩:∃vx,CZ G=some ⟨I 0 :: vx :: cQ v,0,true⟩/\((n=0/\vx= .nil)\/∃E,0<n/\G<E/\E<O/\vx= .rs E 0 n/\CZ E=some ⟨(List.replicate n (0:Rat)).flatMap cQ,3,true⟩):=by
    rcases b3 with ⟨h0,h1⟩|⟨E,h0,h1,h2,h3,h4⟩
    .exact⟨_,h1,.inl ⟨h0,rfl⟩⟩
    .exact⟨_,h3,.inr ⟨E,h0,h1,h2,rfl,h4⟩⟩
   have n3:CZ Y=_:=(O7 Y d1).trans e9;simp only[go_sem,t2,t4,t5,n3,hlen];generalize hL:iI _ _=y;obtain⟨x,rfl,T7,EU,a7,rfl,t2,t5,a6,b2,Yo⟩:=oZ hL K (fun i st=>st.T 2= .rp 1 0/\st.T 4= .rp Y 0/\st.T 5= .rp G 0/\st.T 60=e7/\st.T 61=I K/\st.T 62=I i/\O<=st.nx/\(∀y,y<G->st.σ y=DF y)/\st.σ G=some ⟨I 0 :: vx :: cQ v,0,true⟩/\((n=0/\vx= .nil)\/∃E,0<n/\G<E/\E<O/\vx= .rs E 0 n/\st.σ E=some ⟨(xB J.B f i n).flatMap cQ,3,true⟩))
    (fun x=>∃T EU a7,x=(.exit 2,⟨T,EU,a7⟩)/\T 2= .rp 1 0/\T 5= .rp G 0/\(∀y,y<G->EU y=DF y)/\EU G=some ⟨I 0 :: vx :: cQ v,0,true⟩/\((n=0/\vx= .nil)\/∃E,0<n/\G<E/\E<O/\vx= .rs E 0 n/\EU E=some ⟨(xB J.B f K n).flatMap cQ,3,true⟩)) (by
     clear hL;rintro i ⟨T,EU,a7⟩ hi ⟨t2,t4,t5,t60,t61,t62,c8,a6,b2,Yo⟩;simp only at t2 t4 t5 t60 t61 t62 c8 a6 b2 Yo;have j4:J.B.getD i 0<n:=by rw[lM (by omega)];exact n0 _ (zu _)
     rcases Yo with ⟨h0,_⟩|⟨E,h0,h1,h2,rfl,h4⟩
     .omega
     obtain⟨br,rfl,n4⟩:∃br,l8= .rs br 0 K/\DF br=some ⟨c0.map fun b=>V.rs b 0 (n+1),1,true⟩:=by
      rcases GH.r with ⟨e,_⟩|⟨br,_,e,e2⟩
      .omega
      .exact⟨br,by rw[e,eK],e2⟩
     obtain⟨bb,rfl,n5⟩:∃bb,e7= .rs bb 0 K/\DF bb=some ⟨(CB J.B).flatMap cI,1,true⟩:=by
      rcases GH.b with ⟨e,_⟩|⟨bb,_,e,e2⟩
      .omega
      .exact⟨bb,by rw[e,eK],e2⟩
     have h7:i<c0.length:=by have:=GH.len;omega
     obtain⟨bi,FI⟩:∃bi,bi=c0[i]:=⟨_,rfl⟩;have p7:=UZ br (by simp[bk]);have p8:=UZ bb (by simp[bk]);have p9:bi<FK:=by rw[FI];exact(UZ _ (by simp[zu h7])).2
     have g1:(i:Int)<(K:Int):=by omega
     have g2:=jF i;have g3:=ZU (n:=(i:Int)+1);have e1:EU Y=_:=(a6 Y d1).trans e9;have e2:EU br=_:=(a6 br (by omega)).trans n4;have e3:EU bb=_:=(a6 bb (by omega)).trans n5;have e4:EU bi=some ⟨(ED J.R i).flatMap cQ,3,true⟩:=(a6 bi (by omega)).trans (by rw[FI];exact GH.row i h7);have r1:(c0.map fun b=>V.rs b 0 (n+1))[i]?=some (.rs bi 0 (n+1)):=by rw[yc,zy h7,FI];rfl
     have b1:=idx (xs:=CB J.B) (k:=i) (by rw[aA];omega);rw[aB (by omega)]at b1;have rl:=dR a8.row (show i<J.R.length by omega);have r3:=pq (R:=J.R) (i:=i) (j:=n) (by omega);have lq:Ln 6 (Cm J.R i n):=by
      rw[<- oD (by omega)];exact a8.big _ (by rw[dS (show i<J.R.length by omega)];exact zu _) _ (zu _)
     rw[b8 i hi]at r3 lq;have r4:=bZ (c:=cQ) (s:=3) qJ (ED J.R i);rw[rl]at r4;have kc:=aqu (f (J.B.getD i 0)) (lq.mono (by decide));have c6:patch ((xB J.B f i n).flatMap cQ) (J.B.getD i 0*3) (cQ (f (J.B.getD i 0)))=(xB J.B f (i+1) n).flatMap cQ:=by
      rw[iE qJ _ _ (by rw[ZQ];exact j4),aii f (by omega)]
     have g5:=bZ (c:=cQ) (s:=3) qJ (xB J.B f i n);rw[ZQ]at g5;generalize J.B.getD i 0=B at j4 b1 r3 kc c6;have g6:=jF B;have g7:(B:Int)<(n:Int):=by omega
     have g8:B*3+3<=n*3:=by omega
     have l1:G<a7:=by omega
     have l2:Y<a7:=by omega
     have l3:br<a7:=by omega
     have l4:bi<a7:=by omega
     have l5:E<a7:=by omega
     have z1:(G==E)=false:=by rw[sN];omega
     have z2:(Y==E)=false:=by rw[sN];omega
     have z3:(br==E)=false:=by rw[sN];omega
     have z4:(bi==E)=false:=by rw[sN];omega
     refine .inl ⟨_,by simp only[go_sem,t2,t4,t5,t60,t61,t62,e1,e2,e3,e4,b2,h4,r1,b1,r3,r4,g1,g2,g3,g5,g6,g7,g8,c1,c2,c5,kc,c6,l1,l2,l3,l4,l5,z1,z2,z3,z4];rfl,?_⟩;simp only[go_sem,t2,t4,t5,t60,t61];refine⟨rfl,c8,fun y hy=>?_,?_,.inr ⟨E,h0,h1,h2,rfl,?_⟩⟩
     .rw[Zm];exact a6 y hy
     .rw[Zm];exact b2
     .rw[Zj]) (by
     clear hL;rintro ⟨T,EU,a7⟩ ⟨t2,t4,t5,t60,t61,t62,c8,a6,b2,Yo⟩;simp only at t2 t4 t5 t60 t61 t62 c8 a6 b2 Yo;refine⟨_,by simp only[go_sem,t61,t62,zi];rfl,by simp,_,_,_,rfl,?_⟩;simp only[go_sem,t2,t5];exact⟨a6,b2,Yo⟩) (by
     simp only[go_sem,t2,t4,t5];refine⟨O7,n1,?_⟩;rcases n2 with h|⟨E,h0,h1,h2,h3,h4⟩
     .exact .inl h
     .exact .inr ⟨E,h0,h1,h2,h3,by rw[acS];exact h4⟩)
   clear hL;have n6:EU 1=_:=(a6 1 m9).trans j0;have hX:xB J.B f K n=(List.range n).map f:=by
    unfold xB;rw[zl (by omega)];refine xM fun j hj=>?_
    by_cases h:j∈J.B
    .rw[sO h]
    .rw[sQ h,ef]
     exact(ade (C:=(AV A b c m n).C) V5 (List.mem_range.mp hj) h).symm
   have n7:∀j,j<n->Ln 6 (f j):=fun j hj=>by
    by_cases h:j∈J.B
    .obtain⟨i,hi,rfl⟩:=zA h
     rw[<- lM hi 0,<- b8 i (by omega),<- oD (by rw[dR a8.row (by omega)];omega)];exact a8.big _ (by rw[dS (show i<J.R.length by omega)];exact zu _) _ (zu _)
    .have e:BH m T5 j=0:=ade (C:=(AV A b c m n).C) V5 hj h
     rw[ef,e];exact amN
   obtain⟨ids,n8⟩:∃ids,∀σ',(∀y,y≠1->σ' y=EU y)->strip σ' 6 vx=some (LL cQ ((List.range n).map f),ids):=by
    rcases Yo with ⟨h0,rfl⟩|⟨E,h0,h1,h2,rfl,h4⟩
    .exact⟨[],fun σ' _=>by rw[aT,h0];rfl⟩
    .exact⟨[E],fun σ' h=>fE (by rw[h E (by omega),<- hX];exact h4) (by simp)⟩
   obtain⟨b9,e8⟩:∃b9,b9=upd EU 1 (some ⟨I 0 :: vx :: cQ v,0,true⟩):=⟨_,rfl⟩;have n9:=n8 b9 fun y hy=>by rw[e8,Zk _ _ hy]
   have o0:b9 1=some ⟨I 0 :: vx :: cQ v,0,true⟩:=by rw[e8,Zj]
   have o2:=qH b9 6 v;have o3:vI vx=true:=by
    rcases Yo with ⟨-,rfl⟩|⟨E,-,-,-,rfl,-⟩<;>rfl
   refine⟨.agg (I 0 :: LL cQ ((List.range n).map f) :: cQ v),?_,.inr (.inr ⟨f,by rw[ef];exact m5 rfl,n7,by rw[show ob (AV A b c m n).n (AV A b c m n).c f=v by rw[ef];exact hv];exact h6,by rw[show ob (AV A b c m n).n (AV A b c m n).c f=v by rw[ef];exact hv];rfl,T5,g5,ef⟩)⟩;simp only[go_sem,t2,t5,b2,n6,<- e8,o0,n9,o2,o3,au]
 .rw[sH hz,wE]at b7
  refine⟨_,by simp only[go_sem,qE,<- b4,b5,k1,k2,LZ,e0,a1,a2,a3,a4,a5,k3,b7,l1,l2,l6],.inl ⟨rfl,k8 (by rw[show(AV A b c m n).N=N from hN.symm];exact hz)⟩⟩
end
theorem adf{s:Structure}(h:SG s):fn ZM conv ext 194 [.agg (jI s)]=some (LI (free s)):=by
 have a1:=h.nj;unfold free;rw[mJ,nC [.tmp 2] [] func194];simp only[go_sem];generalize hL:iI _ _=y;obtain⟨r,rfl,T',σ',nx',rfl,h2⟩:=oZ hL s.bI.length (fun k st=>st.T 8=LL Af s.bI/\st.T 9=I s.bI.length/\st.T 10=I k/\Grow st.T st.σ st.nx 3 (F5 (Du s) k))
  (fun r=>∃T σ nx',r=(.exit 0,⟨T,σ,nx'⟩)/\Grow T σ nx' 3 (F5 (Du s) s.bI.length)) (by
   clear hL;rintro k ⟨T,σ,nx⟩ G ⟨O,E,J,S⟩;simp only at O E J S;have f1:(k:Int)<(s.bI.length:Int):=by omega
   have f2:=jF k;have f3:=ZU (n:=(k:Int)+1);have f4:=JX s.bI k G;have f5:=Gu s.bI;have f6:k*4+4<=s.bI.length*4:=by omega
   have f9:=PX s.bI k G;have hle:=IX (Du s) k;have Y:=fun x=>kX S x
   cases hp:s.bI[k].fixed with
   |false=>
    have hq:Du s k=true:=by simp[Du,zy G,hp]
    obtain⟨σ',ha,hs⟩:=kW (Y (some ⟨[Sg s.bI[k].name,I s.bI[k].x,I s.bI[k].y,Bo false],0,true⟩)) (k:Int) (by omega);refine .inl ⟨_,by simp only[go_sem,O,E,J,f1,f2,f3,f4,f5,f6,f9,hp,G,ha];rfl,?_⟩;simp only[go_sem,O,E];rw[MF hq];exact⟨rfl,kS hs (by simp[go_sem]) (by simp)⟩
   |true=>
    have hq:Du s k=false:=by simp[Du,zy G,hp]
    refine .inl ⟨_,by simp only[go_sem,O,E,J,f1,f2,f3,f4,f5,f6,f9,hp,G];rfl,?_⟩;simp only[go_sem,O,E];rw[TF hq];exact⟨rfl,kU (T:=T) (by simp only[go_sem]) (Y _)⟩) (by
   rintro ⟨T,σ,nx⟩ ⟨O,E,J,S⟩;simp only at O E J S;exact⟨_,by simp only[go_sem,E,J,zi];rfl,by simp,_,_,_,rfl,kU (by simp only[go_sem]) S⟩) (by
   simp only[go_sem];exact .inl ⟨by simp only[go_sem],rfl⟩)
 obtain⟨ids,hs⟩:=kR h2 6;simp only[go_sem,hs]
theorem amW{s:Structure}(h:SG s){k:Nat}(E:k<s.members.length):fn ZM conv ext 222 [.agg (jI s),I k]=some (.AX [I (vx s k),I (vy s k)]):=by
 have J:=h.mr k E;rw[jL E]at J;have hb:=Kt h k;have a1:=h.nm;have a6:=h.nj;have O:=Tf s.members k E;rw[jL E]at O;have f1:(k:Int)<(s.members.length:Int):=by omega
 have f2:=jF k;have f4:=IG s.members;have f5:k*3+3<=s.members.length*3:=by omega
 have f6:=Ti s.members k E;have S:(s.members.flatMap Ac)[k*3+0]?=some (I (mem s k).a):=by rw[<- jL E];exact cO (c:=Ac) (fun _=>rfl) s.members k E (j:=0) (by decide)
 have m2:(s.members.flatMap Ac)[k*3+1]?=some (I (mem s k).b):=by rw[<- jL E];exact cO (c:=Ac) (fun _=>rfl) s.members k E (j:=1) (by decide)
 rw[uS]at S;unfold vx vy at hb⊢;generalize mem s k=mm at *;obtain⟨Y,mb,mk⟩:=mm;obtain⟨r1,r2,r3,r4,r5,r6⟩:=J;simp only at *;obtain⟨a,rfl⟩:∃a:Nat,Y=(a:Int):=⟨Y.toNat,by omega⟩;obtain⟨b,rfl⟩:∃b:Nat,mb=(b:Int):=⟨mb.toNat,by omega⟩;have ha:a<s.bI.length:=by omega
 have G:b<s.bI.length:=by omega
 have ea:XP s (a:Int)=s.bI[a]:=by unfold XP;rw[zF,zy ha];rfl
 have eb:XP s (b:Int)=s.bI[b]:=by unfold XP;rw[zF,zy G];rfl
 rw[ea,eb]at hb⊢;have g4:=Gu s.bI;have g6:=PX s.bI a ha;have p1:=JX s.bI a ha;have p2:=JX s.bI b G;have p3:a*4+4<=s.bI.length*4:=by omega
 have p4:b*4+4<=s.bI.length*4:=by omega
 have w1:=ZU (n:=s.bI[b].x-s.bI[a].x);have w2:=ZU (n:=s.bI[b].y-s.bI[a].y);rw[mJ,nC [.tmp 4,.tmp 5] [1,2] func222];simp only[go_sem,O,f1,f2,f4,f5,f6,S,m2,r1,r2,r3,r4,g4,g6,p1,p2,p3,p4,w1,w2]
def G2(v1 v2:V)(σ:Store)(nx:Nat)(E G:List Int):Prop:=(E=[]/\v1= .nil/\G=[]/\v2= .nil)\/∃b1 J,b1≠J/\b1<nx/\J<nx/\E≠[]/\G≠[]/\v1= .rs b1 0 E.length/\v2= .rs J 0 G.length/\σ b1=some ⟨E.flatMap cI,1,true⟩/\σ J=some ⟨G.flatMap cI,1,true⟩
theorem G2.congr{v1 v2:V}{σ σ':Store}{nx nx':Nat}{E G:List Int}(h:G2 v1 v2 σ nx E G)(hn:nx<=nx')(e:∀b,b<nx->σ' b=σ b):G2 v1 v2 σ' nx' E G:=by
 rcases h with h|⟨b1,J,O,S,Y,h4,h5,h6,h7,h8,h9⟩
 .exact .inl h
 .exact .inr ⟨b1,J,O,by omega,by omega,h4,h5,h6,h7,(e b1 S).trans h8,(e J Y).trans h9⟩
theorem lZ{v1 v2:V}{σ:Store}{nx:Nat}{O S:List Int}(h:G2 v1 v2 σ nx O S)(x y:Int)(h1:O.length<100000)(h2:S.length<100000) :
  ∃E σ2,Ah (upd σ nx (some ⟨[I x],1,true⟩)) (nx+1) 1 8 v1 [I x] 1=some (.rs (nx+1) 0 (O.length+1),E,nx+1+1)/\Ah (upd E (nx+1+1) (some ⟨[I y],1,true⟩)) (nx+1+1+1) 1 8 v2 [I y] 1=some (.rs (nx+1+1+1) 0 (S.length+1),σ2,nx+1+1+1+1) /\
   G2 (.rs (nx+1) 0 (O.length+1)) (.rs (nx+1+1+1) 0 (S.length+1)) σ2 (nx+1+1+1+1) (O++[x]) (S++[y])/\∀b,b<nx->(∀o l,v1≠ .rs b o l)->(∀o l,v2≠ .rs b o l)->σ2 b=σ b:=by
 have g1:CG cI 1 (fun _=>v1) σ nx 0 O:=by
  rcases h with ⟨J,G,-,-⟩|⟨b1,Y,J,G,q3,q4,q5,q6,q7,q8,q9⟩
  .exact .inl ⟨G,J⟩
  .exact .inr ⟨b1,q6,q4,q8,G⟩
 obtain⟨E,a1,a2,a3⟩:=ku (c:=cI) (s:=1) (bytes:=8) (fun _=>rfl) (fun _=>rfl) (by decide) g1 x h1 (by decide);have o1:∀b,b<nx->(∀o l,v1≠ .rs b o l)->E b=σ b:=fun b hb hv=>a3 b hb fun b' o l e e2=>hv o l (by rw[e2];exact e)
 have g2:CG cI 1 (fun _=>v2) E (nx+1+1) 0 S:=by
  rcases h with ⟨-,-,J,G⟩|⟨b1,Y,J,G,q3,q4,q5,q6,q7,q8,q9⟩
  .exact .inl ⟨G,J⟩
  .exact .inr ⟨Y,q7,q5,(o1 Y q3 fun o l e=>by rw[q6]at e;simp only[V.rs.injEq]at e;exact J e.1).trans q9,by omega⟩
 obtain⟨σ2,c1,c2,c3⟩:=ku (c:=cI) (s:=1) (bytes:=8) (fun _=>rfl) (fun _=>rfl) (by decide) g2 y h2 (by decide);refine⟨E,σ2,a1,c1,.inr ⟨nx+1,nx+1+1+1,by omega,by omega,by omega,by simp,by simp,by rw[zo];rfl,by rw[zo];rfl,?_,c2⟩,fun b hb a6 a7=>?_⟩
 .rw[c3 (nx+1) (by omega) fun b o l e e2=>?_];exact a2
  rcases h with ⟨-,-,-,G⟩|⟨b1,Y,J,G,q3,q4,q5,q6,q7,q8,q9⟩
  .rw[G]at e;cases e
  .rw[q7]at e;simp only[V.rs.injEq]at e;omega
 .rw[c3 b (by omega) fun b' o l e e2=>a7 o l (by rw[e2];exact e)]
  exact o1 b hb a6
theorem G2.ne{v1 v2:V}{σ:Store}{nx:Nat}{J O:List Int}(h:G2 v1 v2 σ nx J O){b:Nat}(hb:nx<=b):(∀o l,v1≠ .rs b o l)/\∀o l,v2≠ .rs b o l:=by
 rcases h with ⟨-,E,-,G⟩|⟨b1,b2,E,G,q3,q4,q5,S,Y,q8,q9⟩
 .rw[E,G];exact⟨fun o l e=>(by cases e),fun o l e=>(by cases e)⟩
 .rw[S,Y]
  exact⟨fun o l e=>by simp only[V.rs.injEq]at e;omega,fun o l e=>by simp only[V.rs.injEq]at e;omega⟩
theorem G2.len{v1 v2:V}{σ:Store}{nx:Nat}{E G:List Int}(h:G2 v1 v2 σ nx E G)(d:Nat):(∃i,strip σ (d+1) v1=some (LI E,i))/\∃i,strip σ (d+1) v2=some (LI G,i):=by
 rcases h with ⟨rfl,rfl,rfl,rfl⟩|⟨b1,S,Y,q2,q3,q4,q5,rfl,rfl,J,O⟩
 .exact⟨⟨[],by rw[aT];rfl⟩,⟨[],by rw[aT];rfl⟩⟩
 .exact⟨⟨_,kJ J rfl d⟩,⟨_,kJ O rfl d⟩⟩
def Gg(p:Int×Int):Int:=p.1
def GK(p:Int×Int):Int:=p.2
theorem Yp{s:Structure}(h:SG s):fn ZM conv ext 192 [.agg (jI s)]=some (.AX [LI ((cols s s.members.length).map Gg),LI ((cols s s.members.length).map GK)]):=by
 have b8:=h.nm;rw[mJ,nC [.tmp 2,.tmp 3] [] func192];simp only[go_sem];generalize hL:iI _ _=y;obtain⟨r,rfl,T',σ',nx',rfl,h2⟩:=oZ hL s.members.length (fun k st=>st.T 11=LL Ac s.members/\st.T 12=I s.members.length/\st.T 13=I k/\G2 (st.T 4) (st.T 5) st.σ st.nx ((cols s k).map Gg) ((cols s k).map GK))
  (fun r=>∃T σ nx',r=(.exit 0,⟨T,σ,nx'⟩)/\G2 (T 4) (T 5) σ nx' ((cols s s.members.length).map Gg) ((cols s s.members.length).map GK)) (by
   clear hL;rintro k ⟨T,σ,nx⟩ a7 ⟨G,E,J,hg⟩;simp only at G E J hg;have f1:(k:Int)<(s.members.length:Int):=by omega
   have f2:=jF k;have f3:=ZU (n:=(k:Int)+1);have f4:=Tf s.members k a7;have f5:=IG s.members;have f6:k*3+3<=s.members.length*3:=by omega
   have f9:=Ti s.members k a7;have hr:=h.mr k a7;rw[jL a7]at f4 hr;have hle:=oz s k;have e1:((cols s k).map Gg).length<=16:=by rw[zT];omega
   have e2:((cols s k).map GK).length<=16:=by rw[zT];omega
   rw[oh,xH,xH];generalize (cols s k).map Gg=L1 at *;generalize (cols s k).map GK=L2 at *;obtain⟨S,em⟩:∃S,S=mem s k:=⟨_,rfl⟩;rw[<- em]at f4 hr⊢;obtain⟨s0,O⟩:∃s0,s0=upd σ nx (some ⟨Ac S,0,true⟩):=⟨_,rfl⟩;have b5:G2 (T 4) (T 5) s0 (nx+1) L1 L2:=hg.congr (by omega) fun b hb=>by rw[O,Zm]
   have Y:s0 nx=some ⟨Ac S,0,true⟩:=by rw[O,Zj]
   unfold Ac at O;have a8:=hg.ne (zq nx);unfold FV
   by_cases k2:S.kind=2
   .have g1:(S.kind !=2)=false:=by simpa using k2
    have g2:(S.kind !=1)=true:=by simp[k2]
    obtain⟨b6,σ2,a1,a2,a3,a4⟩:=lZ b5 (k:Int) (-1) (by omega) (by omega);refine .inl ⟨_,by simp only[go_sem,G,E,J,f1,f2,f3,f4,f5,f6,f9,<- O,Y,g1,g2,a1,a2];rfl,?_⟩;simp only[go_sem,G,E];rw[sO k2,sQ (by omega)];exact⟨rfl,a3⟩
   .by_cases k1:S.kind=1
    .have g1:(S.kind !=2)=true:=by simpa using k2
     have g2:(S.kind !=1)=false:=by simpa using k1
     obtain⟨b6,σ2,a1,a2,a3,a4⟩:=lZ b5 (k:Int) 1 (by omega) (by omega);have a6:σ2 nx=_:=(a4 nx (by omega) a8.1 a8.2).trans Y;refine .inl ⟨_,by simp only[go_sem,G,E,J,f1,f2,f3,f4,f5,f6,f9,<- O,Y,g1,g2,a1,a2,a6];rfl,?_⟩;simp only[go_sem,G,E];rw[sQ k2,sO k1];exact⟨rfl,a3⟩
    .have g1:(S.kind !=2)=true:=by simpa using k2
     have g2:(S.kind !=1)=true:=by simpa using k1
     obtain⟨b6,σ2,a1,a2,a3,a4⟩:=lZ b5 (k:Int) 1 (by omega) (by omega);have a6:σ2 nx=_:=(a4 nx (by omega) a8.1 a8.2).trans Y;obtain⟨b9,Dz,b1,b2,b3,b4⟩:=lZ a3 (k:Int) (-1) (by simp;omega) (by simp;omega);simp only[zo,yV]at b1 b2 b3;refine .inl ⟨_,by simp only[go_sem,G,E,J,f1,f2,f3,f4,f5,f6,f9,<- O,Y,g1,g2,a1,a2,a6,b1,b2];rfl,?_⟩;simp only[go_sem,G,E];rw[sQ k2,sQ k1];refine⟨rfl,?_⟩;have e3:∀(L:List Int) (f:Int×Int->Int) (x y:Int×Int),L++List.map f ([x]++[y])=L++[f x]++[f y]:=fun L f x y=>by simp
     rw[e3,e3];exact b3) (by
   rintro ⟨T,σ,nx⟩ ⟨G,E,J,hg⟩;simp only at G E J hg;refine⟨_,by simp only[go_sem,E,J,zi];rfl,by simp,_,_,_,rfl,?_⟩;simp only[go_sem];exact hg) (by
   simp only[go_sem];exact .inl ⟨rfl,rfl,rfl,rfl⟩)
 obtain⟨⟨i1,b7⟩,⟨i2,a6⟩⟩:=h2.len 5;simp only[go_sem,b7,a6]
def pB(l:List Int)(j:Int):List Int:=[-l.getD (2*j.toNat) 0,-l.getD (2*j.toNat+1) 0]
theorem adg(l:List Int)(js:List Int):(js.flatMap (pB l)).length=2*js.length:=by
 induction js with
 |nil=>rfl
 |cons j js E=>rw[zG,zo,E,zV];show 2+_=_;omega
theorem amX{s:Structure}{i:Nat}(hi:i<(free s).length):∃q:Nat,(free s)[i]=(q:Int)/\q<s.bI.length:=by
 have hm:=zu hi;generalize (free s)[i]=z at hm;unfold free F5 at hm;obtain⟨q,E,rfl⟩:=List.mem_map.mp hm;exact⟨q,rfl,List.mem_range.mp (List.mem_filter.mp E).1⟩
theorem aqP{s:Structure}(h:SG s){l:List Int}(hl:l.length=2*s.bI.length)(hb:∀x∈l,-100<=x/\x<=100):fn ZM conv ext 195 [.agg (jI s),LI l]=some (LI (Ls s l)):=by
 have a7:=lg s;have a8:=h.nj;have k1:=adf h;have O:∀q,-100<=l.getD q 0/\l.getD q 0<=100:=fun q=>by
  rw[zx]
  by_cases hq:q<l.length
  .rw[zy hq];exact hb _ (zu hq)
  .rw[yX (by omega)];simp
 rw[mJ,nC [.tmp 4] [5] func195];unfold jI at k1⊢;simp only[go_sem,k1];generalize hL:iI _ _=y;obtain⟨r,rfl,T',σ',nx',rfl,h2⟩:=oZ hL (free s).length (fun i st=>st.T 1=LI l/\st.T 10=LI (free s)/\st.T 11=I (free s).length/\st.T 12=I i/\((i=0/\st.T 5= .nil)\/∃b,0<i/\b<st.nx/\st.T 5= .rs b 0 (2*i)/\st.σ b=some ⟨(((free s).take i).flatMap (pB l)).flatMap cI,1,true⟩))
  (fun r=>∃T σ nx',r=(.exit 0,⟨T,σ,nx'⟩)/\(((free s).length=0/\T 5= .nil)\/∃b,0<(free s).length/\b<nx'/\T 5= .rs b 0 (2*(free s).length)/\σ b=some ⟨(((free s).take (free s).length).flatMap (pB l)).flatMap cI,1,true⟩)) (by
   clear hL;rintro i ⟨T,σ,nx⟩ hi ⟨t1,t10,t11,t12,S⟩;simp only at t1 t10 t11 t12 S;obtain⟨q,eq,hq⟩:=amX hi;have f1:(i:Int)<((free s).length:Int):=by omega
   have f2:=jF i;have f3:=ZU (n:=(i:Int)+1);have f4:=Ba (free s) i hi;have f5:=idx hi;rw[eq]at f5;have w1:=ZU (n:=2*(q:Int));have w2:=ZU (n:=2*(q:Int)+1);have e1:2*(q:Int)=((2*q:Nat):Int):=by omega
   have e2:((2*q:Nat):Int)+1=((2*q+1:Nat):Int):=by omega
   rw[e1]at w1 w2;rw[e2]at w2;have g1:((2*q:Nat):Int)<(l.length:Int):=by omega
   have g2:((2*q+1:Nat):Int)<(l.length:Int):=by omega
   have g3:(0:Int)<=((2*q:Nat):Int):=by omega
   have g4:(0:Int)<=((2*q+1:Nat):Int):=by omega
   have g5:=idx (xs:=l) (k:=2*q) (by omega);have g6:=idx (xs:=l) (k:=2*q+1) (by omega);rw[<- lM (by omega) 0]at g5 g6;have g7:=Ba l (2*q) (by omega);have b1:=O (2*q);have b2:=O (2*q+1);have Y:((free s).take (i+1)).flatMap (pB l)=((free s).take i).flatMap (pB l)++[0-l.getD (2*q) 0,0-l.getD (2*q+1) 0]:=by
    rw[yL,zy hi,eq,zQ];simp[pB]
   generalize l.getD (2*q) 0=u at *;generalize l.getD (2*q+1) 0=v at *;have w3:=ZU (n:=0-u);have w4:=ZU (n:=0-v);have y1:nx<nx+1:=by omega
   have y2:2<=maxLen:=by unfold maxLen;decide
   rcases S with ⟨J,E⟩|⟨b,J,h1,E,G⟩
   .refine .inl ⟨_,by simp only[go_sem,t1,t10,t11,t12,E,f1,f2,f3,f4,f5,e1,e2,w1,w2,w3,w4,g1,g2,g3,g4,g5,g6,g7,y1,y2];rfl,?_⟩
    simp only[go_sem,t1,t10,t11];refine⟨rfl,.inr ⟨nx+1,by omega,by omega,by rw[J],?_⟩⟩;rw[Zj,Y,J];rfl
   .have a1:=rE (σ:=restrict (upd σ nx (some ⟨[I (0-u),I (0-v)],1,true⟩)) [b,nx]) (nx:=nx+1) (bytes:=8) (b:=b) (len:=2*i) (m:=2) (row:=[I (0-u),I (0-v)]) (by rw[fO,Zm];exact G) (by show((((free s).take i).flatMap (pB l)).flatMap cI).length=_;rw[qN,adg,zh];omega) rfl (by decide) (by unfold maxLen;omega) (by omega) rfl
    have x1:b<nx+1:=by omega
    refine .inl ⟨_,by simp only[go_sem,t1,t10,t11,t12,E,f1,f2,f3,f4,f5,e1,e2,w1,w2,w3,w4,g1,g2,g3,g4,g5,g6,g7,y1,y2,a1,x1];rfl,?_⟩;simp only[go_sem,t1,t10,t11];refine⟨rfl,.inr ⟨nx+1,by omega,by omega,by rw[show 2*(i+1)=2*i+2 by omega],?_⟩⟩;rw[Zj,Y,zQ];rfl) (by
   rintro ⟨T,σ,nx⟩ ⟨t1,t10,t11,t12,S⟩;simp only at t1 t10 t11 t12 S;refine⟨_,by simp only[go_sem,t11,t12,zi];rfl,by simp,_,_,_,rfl,?_⟩;simp only[go_sem];exact S) (by
   simp only[go_sem];exact .inl trivial)
 have e:Ls s l=(free s).flatMap (pB l):=rfl;rw[zl (zq _)]at h2;rcases h2 with ⟨J,E⟩|⟨b,J,h1,E,G⟩
 .have:free s=[]:=zZ J
  rw[e,this]
  (simp only[go_sem,E])<;>rfl
 .have a6:=kJ G (adg l (free s)) 6
  rw[<- e]at a6;simp only[go_sem,E,a6]
def G2l(lo:Nat)(v1 v2:V)(σ:Store)(nx:Nat)(E G:List Int):Prop:=G2 v1 v2 σ nx E G/\(∀b o l,v1= .rs b o l->lo<=b)/\∀b o l,v2= .rs b o l->lo<=b
theorem adh{v:V}{σ:Store}{nx:Nat}{G E:List Int}(h:CG cI 1 (fun _=>v) σ nx 0 G)(h2:E≠[])(hl:G.length+E.length<100000) :
  ∃σ',Ah σ nx 1 8 v (E.flatMap cI) E.length=some (.rs nx 0 (G.length+E.length),σ',nx+1)/\CG cI 1 (fun _=> .rs nx 0 (G.length+E.length)) σ' (nx+1) 0 (G++E)/\∀y,y<nx->(∀o l,v≠ .rs y o l)->σ' y=σ y:=by
 have O:E.length≠0:=fun e=>h2 (zZ e)
 have S:(E.flatMap cI).all vI=true:=by
  rw[wV];intro w hw;obtain⟨x,-,hx⟩:=List.mem_flatMap.mp hw;rw[List.mem_singleton.mp hx];rfl
 have Y:G++E≠[]:=fun e=>h2 (List.append_eq_nil_iff.mp e).2
 rcases h with ⟨J,rfl⟩|⟨b,J,a7,a6,a8⟩
 .have J:v= .nil:=J
  subst J;refine⟨upd σ nx (some ⟨E.flatMap cI,1,true⟩),by rw[r_,sQ O,sO ⟨by unfold maxLen;omega,by omega⟩,yY,yZ];rfl,.inr ⟨nx,by rw[zo],Y,by rw[Zj,yJ],by omega⟩,fun y hy _=>by rw[Zm]⟩
 .have J:v= .rs b 0 G.length:=J
  subst J;have a1:=rE (σ:=σ) (nx:=nx) (bytes:=8) (b:=b) (len:=G.length) (m:=E.length) (row:=E.flatMap cI) a6 (qN G) rfl O (by unfold maxLen;omega) (by omega) S;refine⟨_,a1,.inr ⟨nx,by rw[zo],Y,by rw[Zj,zQ],by omega⟩,fun y hy hv=>?_⟩;rw[Zm,Zk _ _ fun e=>hv 0 G.length (by rw[e])]
def Hq(s:Structure)(j:Int):List Int:=(List.range s.members.length).map (eX s j)++(List.range s.members.length).map (eY s j)
theorem ajn(s:Structure)(j:Int):(Hq s j).length=2*s.members.length:=by unfold Hq;simp;omega
theorem RQ(s:Structure):∀js:List Int,(js.flatMap (Hq s)).length=2*s.members.length*js.length
 |[]=>rfl
 |j :: js=>by rw[zG,zo,RQ s js,ajn,zV,Nat.mul_succ];omega
theorem aw2{s:Structure}(h:SG s)(hm:0<s.members.length):fn ZM conv ext 193 [.agg (jI s)]=some (LI ((free s).flatMap (Hq s))):=by
 have c9:=h.nm;have e0:=lg s;have e1:=h.nj;have k1:=adf h;have kV:=fun k hk=>amW h (k:=k) hk
 rw[mJ,nC [.tmp 2] [] func193];unfold jI at k1 kV⊢;simp only[go_sem,k1];generalize hL:iI _ _=y;obtain⟨r,rfl,T',σ',nx',rfl,h2⟩:=oZ hL (free s).length (fun i st=>st.T 1= .rp 0 0/\st.T 14=LI (free s)/\st.T 15=I (free s).length/\st.T 16=I i/\0<st.nx/\st.σ 0=some ⟨[LL Af s.bI,LL Ac s.members],0,true⟩/\CG cI 1 (fun _=>st.T 3) st.σ st.nx 0 (((free s).take i).flatMap (Hq s))/\∀o l,st.T 3≠ .rs 0 o l)
  (fun r=>∃T σ nx',r=(.exit 0,⟨T,σ,nx'⟩)/\CG cI 1 (fun _=>T 3) σ nx' 0 ((free s).flatMap (Hq s))) (by
   clear hL;rintro i ⟨T,σ,nx⟩ hi ⟨t1,t14,t15,t16,a6,s0,hg,a8⟩;simp only at t1 t14 t15 t16 a6 s0 hg a8;obtain⟨j,ej⟩:∃j,j=(free s)[i]:=⟨_,rfl⟩;have f1:(i:Int)<((free s).length:Int):=by omega
   have f2:=jF i;have f3:=ZU (n:=(i:Int)+1);have f4:=Ba (free s) i hi;have f5:=idx hi;rw[<- ej]at f5;refine bD ?_
   conv=>
    enter [1,r,1,1]
    simp only[go_sem,t1,t14,t15,t16,s0,f1,f2,f4,f5]
   generalize hL:iI _ _=z;obtain⟨x,rfl,T2,σ2,S,rfl,t1,t14,t15,t16,t3,a7,En,E⟩:=oZ hL s.members.length (fun k st=>st.T 1= .rp 0 0/\st.T 14=LI (free s)/\st.T 15=I (free s).length/\st.T 16=I i/\st.T 3=T 3/\st.T 5=I j/\st.T 23=LL Ac s.members/\st.T 24=I s.members.length/\st.T 25=I k/\nx<=st.nx/\(∀y,y<nx->st.σ y=σ y)/\G2l nx (st.T 6) (st.T 7) st.σ st.nx ((List.range k).map (eX s j)) ((List.range k).map (eY s j)))
    (fun x=>∃T2 σ2 S,x=(.exit 2,⟨T2,σ2,S⟩)/\T2 1= .rp 0 0/\T2 14=LI (free s)/\T2 15=I (free s).length/\T2 16=I i/\T2 3=T 3/\nx<=S/\(∀y,y<nx->σ2 y=σ y)/\G2l nx (T2 6) (T2 7) σ2 S ((List.range s.members.length).map (eX s j)) ((List.range s.members.length).map (eY s j))) (by
     clear hL;rintro k ⟨T2,σ2,S⟩ hk ⟨t1,t14,t15,t16,t3,t5,t23,t24,t25,a7,En,E,J,O⟩;simp only at t1 t14 t15 t16 t3 t5 t23 t24 t25 a7 En E J O;have g1:(k:Int)<(s.members.length:Int):=by omega
     have g2:=jF k;have g3:=ZU (n:=(k:Int)+1);have g4:=Tf s.members k hk;have g5:=IG s.members;have g6:k*3+3<=s.members.length*3:=by omega
     have g9:=Ti s.members k hk;rw[jL hk]at g4;have kv:=kV k hk;have e2:=Kt h k;have b7:σ2 0=_:=(En 0 a6).trans s0;obtain⟨m1,em⟩:∃m1,m1=mem s k:=⟨_,rfl⟩;rw[<- em]at g4;obtain⟨s3,G⟩:∃s3,s3=upd σ2 S (some ⟨Ac m1,0,true⟩):=⟨_,rfl⟩;have b8:G2 (T2 6) (T2 7) s3 (S+1) ((List.range k).map (eX s j)) ((List.range k).map (eY s j)):=E.congr (by omega) fun b hb=>by rw[G,Zm]
     have b3:s3 S=some ⟨Ac m1,0,true⟩:=by rw[G,Zj]
     have b4:s3 0=_:=(by rw[G,Zm]:s3 0=σ2 0).trans b7;have EP:∀y,y<nx->s3 y=σ y:=fun y hy=>by rw[G,Zm];exact En y hy
     obtain⟨Dz,DF,a1,a2,a3,a4⟩:=lZ b8 (eX s j k) (eY s j k) (by simp;omega) (by simp;omega);have eR:∀f:Nat->Int,(List.range (k+1)).map f=(List.range k).map f++[f k]:=fun f=>by rw[wX,xH];rfl
     have hl:((List.range k).map (eX s j)).length=k:=by simp
     have b9:((List.range k).map (eY s j)).length=k:=by simp
     rw[hl]at a1 a3;rw[b9]at a2 a3;have fin:(∀y,y<nx->DF y=σ y):=fun y hy=>(a4 y (by omega) (fun o l e=>by have:=J _ _ _ e;omega) fun o l e=>by have:=O _ _ _ e;omega).trans (EP y hy)
     have done:G2l nx (.rs (S+1+1) 0 (k+1)) (.rs (S+1+1+1+1) 0 (k+1)) DF (S+1+1+1+1+1) ((List.range (k+1)).map (eX s j)) ((List.range (k+1)).map (eY s j)):=by
      rw[eR,eR];exact⟨a3,fun b o l e=>by simp only[V.rs.injEq]at e;omega,fun b o l e=>by simp only[V.rs.injEq]at e;omega⟩
     unfold Ac at G
     by_cases ja:j=m1.a
     .have c1:(j==m1.a)=true:=beq_iff_eq.mpr ja
      have ex:eX s j k=vx s k:=by unfold eX;rw[sO (by rw[<- em];exact ja)]
      have ey:eY s j k=vy s k:=by unfold eY;rw[sO (by rw[<- em];exact ja)]
      rw[ex]at a1;rw[ey]at a2;refine .inl ⟨_,by simp only[go_sem,t1,t14,t15,t16,t3,t5,t23,t24,t25,g1,g2,g3,g4,g5,g6,g9,<- G,b3,b4,kv,c1,a1,a2];rfl,?_⟩;simp only[go_sem,t1,t14,t15,t16,t3,t5,t23,t24];rw[<- wX];exact⟨rfl,by omega,fin,done⟩
     .have c1:(j==m1.a)=false:=beq_false_of_ne ja
      by_cases jb:j=m1.b
      .have c2:(j==m1.b)=true:=beq_iff_eq.mpr jb
       have ex:eX s j k=0-vx s k:=by unfold eX;rw[sQ (by rw[<- em];exact ja),sO (by rw[<- em];exact jb)];omega
       have ey:eY s j k=0-vy s k:=by unfold eY;rw[sQ (by rw[<- em];exact ja),sO (by rw[<- em];exact jb)];omega
       have w1:=ZU (n:=0-vx s k);have w2:=ZU (n:=0-vy s k);rw[ex]at a1;rw[ey]at a2;refine .inl ⟨_,by simp only[go_sem,t1,t14,t15,t16,t3,t5,t23,t24,t25,g1,g2,g3,g4,g5,g6,g9,<- G,b3,b4,kv,c1,c2,w1,w2,a1,a2];rfl,?_⟩;simp only[go_sem,t1,t14,t15,t16,t3,t5,t23,t24];rw[<- wX];exact⟨rfl,by omega,fin,done⟩
      .have c2:(j==m1.b)=false:=beq_false_of_ne jb
       have ex:eX s j k=0:=by unfold eX;rw[sQ (by rw[<- em];exact ja),sQ (by rw[<- em];exact jb)]
       have ey:eY s j k=0:=by unfold eY;rw[sQ (by rw[<- em];exact ja),sQ (by rw[<- em];exact jb)]
       rw[ex]at a1;rw[ey]at a2;refine .inl ⟨_,by simp only[go_sem,t1,t14,t15,t16,t3,t5,t23,t24,t25,g1,g2,g3,g4,g5,g6,g9,<- G,b3,b4,kv,c1,c2,a1,a2];rfl,?_⟩;simp only[go_sem,t1,t14,t15,t16,t3,t5,t23,t24];rw[<- wX];exact⟨rfl,by omega,fin,done⟩) (by
     clear hL;rintro ⟨T2,σ2,S⟩ ⟨t1,t14,t15,t16,t3,t5,t23,t24,t25,a7,En,E⟩;simp only at t1 t14 t15 t16 t3 t5 t23 t24 t25 a7 En E;refine⟨_,by simp only[go_sem,t24,t25,zi];rfl,by simp,_,_,_,rfl,?_⟩;simp only[go_sem,t1,t14,t15,t16,t3];exact⟨a7,En,E⟩) (by
     simp only[go_sem,t1,t14,t15,t16];exact⟨fun _ _=>trivial,.inl ⟨rfl,rfl,rfl,rfl⟩,fun _ _ _ e=>(by cases e),fun _ _ _ e=>(by cases e)⟩)
   clear hL;obtain⟨E,J,O⟩:=E;obtain⟨X,b5⟩:∃X,X=(List.range s.members.length).map (eX s j):=⟨_,rfl⟩;obtain⟨Y,b6⟩:∃Y,Y=(List.range s.members.length).map (eY s j):=⟨_,rfl⟩;have lX:X.length=s.members.length:=by rw[b5];simp
   have lY:Y.length=s.members.length:=by rw[b6];simp
   rw[<- b5,<- b6]at E;rcases E with ⟨q1,-⟩|⟨b1,b2,q1,q2,q3,q4,q5,q6,q7,q8,q9⟩
   .rw[q1]at lX;simp at lX;omega
   have e3:=J _ _ _ q6;have c0:=O _ _ _ q7;obtain⟨L,eL⟩:∃L,L=((free s).take i).flatMap (Hq s):=⟨_,rfl⟩;have Vb:L.length<=100:=by
    rw[eL,RQ,zh];have:2*s.members.length*min i (free s).length<=16*6:=xK (by omega) (by omega);omega
   rw[<- eL]at hg;have c4:CG cI 1 (fun _=>T 3) σ2 S 0 L:=by
    rcases hg with h|⟨b,p1,p2,p3,p4⟩
    .exact .inl h
    .exact .inr ⟨b,p1,p2,(En b p4).trans p3,by omega⟩
   have hv:∀y,nx<=y->∀o l,T 3≠ .rs y o l:=fun y hy o l e=>by
    have:=kZ hg (b:=y) (o:=o) (l:=l) e;omega
   obtain⟨c5,a1,a2,a3⟩:=adh c4 q4 (by omega);obtain⟨Dz,c1,c2,c3⟩:=adh a2 q5 (by rw[zo];omega);have s3:c5 b2=_:=(a3 b2 q3 (hv b2 c0)).trans q9;have c6:Dz 0=some ⟨[LL Af s.bI,LL Ac s.members],0,true⟩:=by
    rw[c3 0 (by omega) fun o l e=>by simp only[V.rs.injEq]at e;omega,a3 0 (by omega) a8,En 0 a6];exact s0
   simp only[zo,lX,lY]at a1 c1 c2 q6 q7;have eT:((free s).take (i+1)).flatMap (Hq s)=L++X++Y:=by
    rw[yL,zy hi,zQ,<- eL,<- ej,yw];show L++(Hq s j++[])=_;unfold Hq;rw[<- b5,<- b6,zH]
   have tX:(X.flatMap cI).take s.members.length=X.flatMap cI:=zl (by rw[qN];omega);have tY:(Y.flatMap cI).take s.members.length=Y.flatMap cI:=zl (by rw[qN];omega);have c7:s.members.length<=X.length:=by omega
   have c8:s.members.length<=Y.length:=by omega
   refine⟨_,by simp only[go_sem,t16,f3,t3,q6,q7,q8,tX,tY,c7,c8,a1,s3,c1];rfl,.inl ⟨_,rfl,?_⟩⟩;simp only[go_sem,t1,t14,t15];rw[eT];exact⟨rfl,by omega,c6,c2,fun o l e=>by simp only[V.rs.injEq]at e;omega⟩) (by
   rintro ⟨T,σ,nx⟩ ⟨t1,t14,t15,t16,a6,s0,hg,a8⟩;simp only at t1 t14 t15 t16 a6 s0 hg a8;refine⟨_,by simp only[go_sem,t15,t16,zi];rfl,by simp,_,_,_,rfl,?_⟩;simp only[go_sem];rw[zl (zq _)]at hg;exact hg) (by
   simp only[go_sem];exact⟨.inl ⟨rfl,rfl⟩,fun _ _=>trivial⟩)
 obtain⟨ids,hs⟩:=Lm (c:=cI) (s:=1) (fun _=>rfl) 6 (fun x=>by rw[au,aQ,aY];rfl) h2;simp only[go_sem,hs]
theorem abR(s:Structure)(js:List Int):js.flatMap (Hq s)=(js.flatMap (EO s)).flatMap id:=by
 induction js with
 |nil=>rfl
 |cons j js E=>
  rw[zG,zG,zQ,E];show Hq s j++_=(((List.range s.members.length).map (eX s j))++(((List.range s.members.length).map (eY s j))++[]))++_;rw[zH];rfl
theorem aqQ{s:Structure}(h:SG s)(hm:s.members=[]):fn ZM conv ext 193 [.agg (jI s)]=some (LI []):=by
 have O:=lg s;have S:=h.nj;have G:=adf h;rw[mJ,nC [.tmp 2] [] func193];unfold jI at G⊢;rw[hm]at G⊢;have G:fn ZM conv ext 194 [.agg [LL Af s.bI,.ts [] 0]]=some (LI (free s)):=G
 simp only[go_sem,G];generalize J:iI _ _=y;obtain⟨r,rfl,T',σ',nx',rfl,Y⟩:=oZ J (free s).length (fun i st=>st.T 1= .rp 0 0/\st.T 14=LI (free s)/\st.T 15=I (free s).length/\st.T 16=I i/\st.T 3= .nil/\0<st.nx/\st.σ 0=some ⟨[LL Af s.bI,.ts [] 0],0,true⟩)
  (fun r=>∃T σ nx',r=(.exit 0,⟨T,σ,nx'⟩)/\T 3= .nil) (by
   clear J;rintro i ⟨T,σ,nx⟩ hi ⟨t1,t14,t15,t16,t3,E,s0⟩;simp only at t1 t14 t15 t16 t3 E s0;have f1:(i:Int)<((free s).length:Int):=by omega
   have f2:=jF i;have f3:=ZU (n:=(i:Int)+1);have f4:=Ba (free s) i hi;have f5:=idx hi;refine bD ?_
   conv=>
    enter [1,r,1,1]
    simp only[go_sem,t1,t14,t15,t16,t3,s0,f1,f2,f4,f5]
   generalize J:iI _ _=z;obtain rfl:=jT J (by simp only[go_sem];rfl) (by simp);refine⟨_,by simp only[go_sem,t3,t16,f3];rfl,.inl ⟨_,rfl,?_⟩⟩;simp only[go_sem,t1,t14,t15,t16,t3];exact⟨rfl,E,s0⟩) (by
   rintro ⟨T,σ,nx⟩ ⟨t1,t14,t15,t16,t3,E,s0⟩;simp only at t1 t14 t15 t16 t3 E s0;refine⟨_,by simp only[go_sem,t15,t16,zi];rfl,by simp,_,_,_,rfl,?_⟩;simp only[go_sem,t3]) (by
   simp only[go_sem];rfl)
 (simp only[go_sem,Y])<;>rfl
theorem aqR{s:Structure}(h:SG s):fn ZM conv ext 193 [.agg (jI s)]=some (LI ((free s).flatMap (Hq s))):=by
 by_cases hm:s.members=[]
 .have e:(free s).flatMap (Hq s)=[]:=by
   rw[List.flatMap_eq_nil_iff];intro j _;unfold Hq;rw[hm];rfl
  rw[e];exact aqQ h hm
 .exact aw2 h (List.length_pos_iff.mpr hm)
theorem RS{C:Nat}:∀ {xs:List (List Int)} {i c:Nat},(∀x∈xs,x.length=C)->(hi:i<xs.length)->c<C->(xs.flatMap id)[i*C+c]?=(xs[i])[c]?
 |[],i,c,_,hi,_=>absurd hi (zW _)
 |x :: xs,0,c,hx,_,hc=>by
  rw[zG,vM,yZ,zU (by rw[id,hx x zO];exact hc)];rfl
 |x :: xs,i+1,c,hx,hi,hc=>by
  have E:=hx x zO;rw[zG,zN (by rw[id,E,xq];omega),id,E,show(i+1)*C+c-C=i*C+c by rw[xq];omega,RS (fun y G=>hx y (zY _ G)) (by simpa using hi) hc];rfl
def amY(σ:Store)(nx:Nat)(G:List Int)(R C:Nat)(B:V)(p:Nat):Prop:=(p=0/\σ 3=some ⟨[I R,I C,.nil,B,.rs 2 0 C],0,true⟩)\/∃E,0<p/\3<E/\E<nx/\σ 3=some ⟨[I R,I C,.rs E 0 p,B,.rs 2 0 C],0,true⟩/\σ E=some ⟨(G.take p).flatMap cI,1,true⟩
theorem ajo{s:Structure}(h:SG s){l:List Int}(hl:l.length=2*s.bI.length)(hb:∀x∈l,-100<=x/\x<=100) :
  fn ZM conv ext 164 [.agg (jI s),LI l]=some (.agg (C9 (MV s) (DZ s) (Vf s) (Ls s l) (List.replicate (DZ s) 0))):=by
 have c7:=h.nm;have i6:=lg s;have i7:=h.nj;have i9:=oz s s.members.length;have k1:=Yp h;have k2:=aqR h;have k3:=adf h;have k4:=aqP h hl hb;have c8:=Kw s;obtain⟨E,hE⟩:∃E,E=C_ s (free s).length:=⟨_,rfl⟩;obtain⟨K,hK⟩:∃K,K=cols s s.members.length:=⟨_,rfl⟩;obtain⟨RF,b6⟩:∃RF,RF=(free s).flatMap (Hq s):=⟨_,rfl⟩;obtain⟨R,eR⟩:∃R,R=MV s:=⟨_,rfl⟩;obtain⟨C,eC⟩:∃C,C=DZ s:=⟨_,rfl⟩;have hR:E.length=R:=by rw[hE,eR];exact c8
 have hC:K.length=C:=by rw[hK,eC];rfl
 have c9:R<=12:=by rw[eR];unfold MV;omega
 have e0:C<=16:=by rw[<- hC,hK];omega
 have b7:(Vf s).length=R*C:=by rw[eR,eC];exact MS s
 have j0:R*C<=12*16:=xK c9 e0;rw[<- hK]at k1;rw[<- b6]at k2;rw[<- eR,<- eC];have k1:fn ZM conv ext 192 [.agg (jI s)]=some (.AX [.ts ((K.map Gg).flatMap cI) C,LI (K.map GK)]):=by rw[k1,<- hC];show some (V.AX [V.ts _ (K.map Gg).length,_])=_;rw[zT]
 have f0:=jF C;have f5:8*(C:Int)<=281474976710656:=by omega
 have f6:(C:Int)<=9223372036854775807:=by omega
 have e2:2*((free s).length:Int)=(R:Int):=by rw[eR];unfold MV;omega
 have w2:=ZU (n:=(R:Int));rw[mJ,nC [.cell 4 128] [4,11] func164];unfold jI at k1 k2 k3 k4⊢;simp only[go_sem,k1,k2,k3,k4,e2,w2,f0,f5,f6];generalize hL:iI _ _=y;obtain⟨J,a7⟩:∃J,J=Vf s:=⟨_,rfl⟩;rw[<- a7]at b7;have e1:RF=E.flatMap id:=by
  rw[b6,hE,abR];unfold C_;rw[yT]
 have b8:∀r∈E,r.length=s.members.length:=by rw[hE];exact fun r hr=>Rn hr
 have e5:∀i c (hi:i<R) (hc:c<C) (hq:i*C+c<J.length),J[i*C+c]=(K[c]'(by omega)).2*(E[i]'(by omega)).getD (K[c]'(by omega)).1.toNat 0:=fun i c hi hc hq=>by
  have:=mO (fun r:List Int=>K.map fun p=>p.2*r.getD p.1.toNat 0) (C:=C) (fun _=>by rw[zT];exact hC) E (i:=i) (c:=c) (by omega) hc;rw[yc,zy (l:=K) (i:=c) (by omega)]at this;have e2:J=E.flatMap fun r=>K.map fun p=>p.2*r.getD p.1.toNat 0:=by rw[a7,hE,hK];rfl
  rw[<- e2,zy hq]at this;exact Option.some.inj this
 have e6:∀x∈J,-1000<=x/\x<=1000:=by rw[a7];exact abq h
 obtain⟨x,rfl,T1,b2,qI,rfl,t4,t9,j1,e7,e9,h5⟩:=oZ hL R (fun i st=>st.T 4= .rp 1 0/\st.T 5= .ts ((K.map Gg).flatMap cI) C/\st.T 6=LI (K.map GK)/\st.T 7=I s.members.length/\st.T 8=LI RF/\st.T 9= .rp 3 0/\st.T 10=I i/\3<st.nx/\st.σ 1=some ⟨[I 0,I 0,.nil,.nil,.nil],0,true⟩/\st.σ 2=some ⟨(List.replicate C 0).flatMap cI,1,true⟩/\amY st.σ st.nx J R C (LI (Ls s l)) (i*C))
  (fun x=>∃T σ nx,x=(.exit 0,⟨T,σ,nx⟩)/\T 4= .rp 1 0/\T 9= .rp 3 0/\3<nx/\σ 1=some ⟨[I 0,I 0,.nil,.nil,.nil],0,true⟩/\σ 2=some ⟨(List.replicate C 0).flatMap cI,1,true⟩/\amY σ nx J R C (LI (Ls s l)) (R*C)) (by
   clear hL;rintro i ⟨T,σ,nx⟩ hi ⟨t4,t5,t6,t7,t8,t9,t10,G,O,S,hA⟩;simp only at t4 t5 t6 t7 t8 t9 t10 G O S hA;have f1:(i:Int)<(R:Int):=by omega
   have f2:=jF i;have f3:=ZU (n:=(i:Int)+1);obtain⟨vA,a1⟩:∃vA,σ 3=some ⟨[I R,I C,vA,LI (Ls s l),.rs 2 0 C],0,true⟩:=by
    rcases hA with ⟨-,Y⟩|⟨ba,-,-,-,Y,-⟩<;>exact⟨_,Y⟩
   refine bD ?_
   conv=>
    enter [1,r,1,1]
    simp only[go_sem,t5,t9,t10,a1,f1]
   generalize hL:iI _ _=z;obtain⟨x,rfl,T2,σ2,CU,rfl,t4,t5,t6,t7,t8,t9,t10,h6,O,S,b9⟩:=oZ hL C (fun c st=>st.T 4= .rp 1 0/\st.T 5= .ts ((K.map Gg).flatMap cI) C/\st.T 6=LI (K.map GK)/\st.T 7=I s.members.length/\st.T 8=LI RF/\st.T 9= .rp 3 0/\st.T 10=I i/\st.T 42= .ts ((K.map Gg).flatMap cI) C/\st.T 43=I C/\st.T 44=I c/\3<st.nx/\st.σ 1=some ⟨[I 0,I 0,.nil,.nil,.nil],0,true⟩/\st.σ 2=some ⟨(List.replicate C 0).flatMap cI,1,true⟩/\amY st.σ st.nx J R C (LI (Ls s l)) (i*C+c))
    (fun x=>∃T σ nx,x=(.exit 2,⟨T,σ,nx⟩)/\T 4= .rp 1 0/\T 5= .ts ((K.map Gg).flatMap cI) C/\T 6=LI (K.map GK)/\T 7=I s.members.length/\T 8=LI RF/\T 9= .rp 3 0/\T 10=I i/\3<nx/\σ 1=some ⟨[I 0,I 0,.nil,.nil,.nil],0,true⟩/\σ 2=some ⟨(List.replicate C 0).flatMap cI,1,true⟩/\amY σ nx J R C (LI (Ls s l)) (i*C+C)) (by
     clear hL;rintro c ⟨T,σ,nx⟩ hc ⟨t4,t5,t6,t7,t8,t9,t10,t42,t43,t44,G,O,S,hA⟩;simp only at t4 t5 t6 t7 t8 t9 t10 t42 t43 t44 G O S hA;have h7:K[c]'(by omega)∈cols s s.members.length:=by rw[<- hK];exact zu _
     obtain⟨⟨q,c0,h8⟩,j2⟩:=ou h7;obtain⟨u,eu⟩:∃u,u=(K[c]'(by omega)).2:=⟨_,rfl⟩;have b3:i*C+c<J.length:=by
      have:(i+1)*C<=R*C:=zD _ (by omega);rw[xq]at this;omega
     obtain⟨e,ee⟩:∃e,e=(E[i]'(by omega)).getD q 0:=⟨_,rfl⟩;have b4:=e5 i c hi hc b3;rw[c0,zF,<- ee,<- eu]at b4;have h9:=e6 _ (zu b3);rw[b4]at h9;have g1:(c:Int)<(C:Int):=by omega
     have g2:=jF c;have g3:=ZU (n:=(c:Int)+1);have g4:=idx (xs:=K.map Gg) (k:=c) (by rw[zT];omega);rw[yC,show Gg (K[c]'(by omega))=(q:Int)from c0]at g4;have g5:=idx (xs:=K.map GK) (k:=c) (by rw[zT];omega);rw[yC,show GK (K[c]'(by omega))=u from eu.symm]at g5;have g6:=Ba (K.map Gg) c (by rw[zT];omega);have g7:=Ba (K.map GK) c (by rw[zT];omega);have g8:(c:Int)<((K.map GK).length:Int):=by rw[zT];omega
     have j3:i*s.members.length<=12*8:=xK (by omega) c7;have e3:(i:Int)*(s.members.length:Int)=((i*s.members.length:Nat):Int):=by push_cast;rfl
     have w1:=ZU (n:=((i*s.members.length:Nat):Int));have e4:((i*s.members.length:Nat):Int)+(q:Int)=((i*s.members.length+q:Nat):Int):=by push_cast;rfl
     have c2:=ZU (n:=((i*s.members.length+q:Nat):Int));have w3:=ZU (n:=u*e);have j4:=b8 _ (zu (l:=E) (n:=i) (by omega));have a8:RF[i*s.members.length+q]?=some e:=by
      rw[e1,RS b8 (by omega) h8,ee,zx,zy (by omega)];rfl
     have b5:i*s.members.length+q<RF.length:=by
      refine zf fun hn=>?_
      rw[yX (by omega)]at a8;cases a8
     have g9:=idx (xs:=RF) b5;rw[zy b5]at a8;rw[Option.some.inj a8]at g9;have g10:((i*s.members.length+q:Nat):Int)<(RF.length:Int):=by omega
     have g11:(0:Int)<=((i*s.members.length+q:Nat):Int):=by omega
     have g12:=Ba RF _ b5;have c3:J.take (i*C+(c+1))=J.take (i*C+c)++[u*e]:=by
      rw[<- wH,yL,zy b3,b4];rfl
     have j5:i*C+c<=200:=by omega
     have y1:3<nx:=by omega
     have y2:¬3=nx:=by omega
     have y3:(3==nx)=false:=by rw[sN];omega
     have y4:(nx==3)=false:=by rw[sN];omega
     have y5:3<nx+1:=by omega
     have y6:¬3=nx+1:=by omega
     have y7:(3==nx+1)=false:=by rw[sN];omega
     have y8:(nx+1==3)=false:=by rw[sN];omega
     have y9:3<nx+1+1:=by omega
     have O4:¬3=nx+1+1:=by omega
     have O5:(3==nx+1+1)=false:=by rw[sN];omega
     have O6:(nx+1+1==3)=false:=by rw[sN];omega
     have c4:nx<nx+1:=by omega
     have Rx:nx+1<nx+1+1:=by omega
     rcases hA with ⟨h0,Y⟩|⟨ba,h0,h1,h2,Y,h4⟩
     .refine .inl ⟨_,by simp only[go_sem,t4,t5,t6,t7,t8,t9,t10,t42,t43,t44,Y,g1,g2,g3,g4,g5,g6,g7,g8,e3,w1,e4,c2,w3,g9,g10,g11,g12,y1,y2,y3,y4,y5,y6,y7,y8,y9,O4,O5,O6,c4,Rx];rfl,?_⟩
      simp only[go_sem,t4,t5,t6,t7,t8,t9,t10,t42,t43];refine⟨rfl,by omega,?_,?_,.inr ⟨nx+1,by omega,by omega,by omega,?_,?_⟩⟩
      .repeat rw[Zm]
       exact O
      .repeat rw[Zm]
       exact S
      .rw[Zj,show i*C+(c+1)=1 by omega]
      .rw[Zm,Zj,c3,h0];rfl
     .have c5:=rE (σ:=restrict (upd σ nx (some ⟨[I (u*e)],1,true⟩)) [ba,nx]) (nx:=nx+1) (bytes:=8) (b:=ba) (len:=i*C+c) (m:=1) (row:=[I (u*e)]) (by rw[fO,Zm];exact h4) (by show((J.take (i*C+c)).flatMap cI).length=_;rw[qN,zh];omega) rfl (by decide) (by unfold maxLen;omega) (by omega) rfl
      have x1:ba<nx+1:=by omega
      have x2:(3==ba)=false:=by rw[sN];omega
      have x3:(ba==3)=false:=by rw[sN];omega
      have x4:¬3=ba:=by omega
      refine .inl ⟨_,by simp only[go_sem,t4,t5,t6,t7,t8,t9,t10,t42,t43,t44,Y,g1,g2,g3,g4,g5,g6,g7,g8,e3,w1,e4,c2,w3,g9,g10,g11,g12,c5,x1,x2,x3,x4,y1,y2,y3,y4,y5,y6,y7,y8,y9,O4,O5,O6,c4,Rx];rfl,?_⟩;simp only[go_sem,t4,t5,t6,t7,t8,t9,t10,t42,t43];refine⟨rfl,by omega,?_,?_,.inr ⟨nx+1,by omega,by omega,by omega,?_,?_⟩⟩
      .repeat rw[Zm]
       exact O
      .repeat rw[Zm]
       exact S
      .rw[Zj];rfl
      .rw[Zm,Zj,c3,zQ];rfl) (by
     clear hL;rintro ⟨T,σ,nx⟩ ⟨t4,t5,t6,t7,t8,t9,t10,t42,t43,t44,G,O,S,hA⟩;simp only at t4 t5 t6 t7 t8 t9 t10 t42 t43 t44 G O S hA;refine⟨_,by simp only[go_sem,t43,t44,zi];rfl,by simp,_,_,_,rfl,?_⟩;simp only[go_sem,t4,t5,t6,t7,t8,t9,t10];exact⟨G,O,S,hA⟩) (by
     simp only[go_sem,t4,t5,t6,t7,t8,t9,t10];exact⟨G,O,S,hA⟩)
   refine⟨_,by simp only[go_sem,t10,f3];rfl,.inl ⟨_,rfl,?_⟩⟩;simp only[go_sem,t4,t5,t6,t7,t8,t9];rw[<- xq]at b9;exact⟨rfl,h6,O,S,b9⟩) (by
   clear hL;rintro ⟨T,σ,nx⟩ ⟨t4,t5,t6,t7,t8,t9,t10,G,O,S,hA⟩;simp only at t4 t5 t6 t7 t8 t9 t10 G O S hA;obtain⟨vA,a1⟩:∃vA,σ 3=some ⟨[I R,I C,vA,LI (Ls s l),.rs 2 0 C],0,true⟩:=by
    rcases hA with ⟨-,Y⟩|⟨ba,-,-,-,Y,-⟩<;>exact⟨_,Y⟩
   refine⟨_,by simp only[go_sem,t9,t10,a1,zi];rfl,by simp,_,_,_,rfl,?_⟩;simp only[go_sem,t4,t9];exact⟨G,O,S,hA⟩) (by
   simp only[go_sem];refine⟨by rw[<- fU],.inl ⟨rfl,by rw[Zj]⟩⟩)
 clear hL;obtain⟨vA,a1,i0,i2⟩:∃vA,b2 3=some ⟨[I R,I C,vA,LI (Ls s l),.rs 2 0 C],0,true⟩/\vI vA=true/\∀σ',(∀y,y≠1->σ' y=b2 y)->∃ids,strip σ' 6 vA=some (LI J,ids):=by
  rcases h5 with ⟨h0,Y⟩|⟨ba,h0,h1,h2,Y,h4⟩
  .have:J=[]:=zZ (by omega)
   exact⟨_,Y,rfl,fun σ' _=>⟨[],by rw[aT,this];rfl⟩⟩
  .rw[zl (by omega)]at h4
   exact⟨_,Y,rfl,fun σ' i3=>⟨_,kJ ((i3 ba (by omega)).trans h4) b7 5⟩⟩
 obtain⟨a6,e8⟩:∃a6,a6=upd b2 1 (some ⟨[I R,I C,vA,LI (Ls s l),.rs 2 0 C],0,true⟩):=⟨_,rfl⟩;have i4:a6 1=some ⟨[I R,I C,vA,LI (Ls s l),.rs 2 0 C],0,true⟩:=by rw[e8,Zj]
 obtain⟨i1,c6⟩:=i2 a6 fun y hy=>by rw[e8,Zk _ _ hy]
 have i5:=kJ (σ:=a6) (b:=2) (xs:=List.replicate C 0) (by rw[e8,Zk _ _ (by decide)];exact e9) (n:=C) (by simp) 5;rw[a7]at c6;simp only[go_sem,t4,t9,a1,e7,i0,<- e8,i4,c6,i5,au]
 try rfl
end Go.Proofs.YtjknobpihkmilaaGreat
namespace Go.Proofs.YtjknobpihkmilaaGreat
open Go Go.TV Go.Lp
theorem aAl{s:Structure}(h:SG s){l:List Int}(hb:∀x∈l,-100<=x/\x<=100):PrS (Vf s) (Ls s l) (List.replicate (DZ s) 0) (MV s) (DZ s):=by
 have E:=lg s;have G:=h.nj;have J:=h.nm;have O:=oz s s.members.length;refine⟨MS s,by rw[Uz];rfl,by simp,?_,?_,abq h,aiH hb,fun x S=>?_⟩
 .unfold MV;omega
 .unfold DZ;omega
 .rw[(List.mem_replicate.mp S).2];decide
theorem am0{s:Structure}(h:SG s){l:List Int}(hb:∀x∈l,-100<=x/\x<=100) :
  ∃r,fn ZM Aa Ak 163 [.agg (C9 (MV s) (DZ s) (Vf s) (Ls s l) (List.replicate (DZ s) 0))]=some r/\awX (JA s l) r:=aqM (aAl h hb)
attribute [-go_sem] qy
theorem ajp{a b:Nat}(x y:Rat)(G:Ln a x)(J:Ln b y)(E:a+b<=23):fn ZM conv ext 198 [.agg (cQ x),.agg (cQ y)]=some (.agg (cQ (x+y))):=by
 have o1:=Yi x (G.mono (by omega));have O:=Yi y (J.mono (by omega));have S:=ac9 x y G J E;unfold cQ at *;rw[mJ,nC [.cell 4 173] [] func198];simp only[go_sem,o1,O,S]
theorem ajq{a b:Nat}(x y:Rat)(J:Ln a x)(E:Ln b y)(G:a+b<=23):fn ZM conv ext 199 [.agg (cQ x),.agg (cQ y)]=some (.agg (cQ (x-y))):=by
 have o1:=Yi x (J.mono (by omega));have S:=Yi y (E.mono (by omega));have Y:=ahl y (by have:=E.1;omega) (by have:=E.2;omega);have O:=ac9 x (-y) J (UU E) G;rw[<- Rat.sub_eq_add_neg]at O;unfold cQ at *;rw[mJ,nC [.cell 4 173] [] func199];simp only[go_sem,o1,S,Y,O]
theorem ajr{xs:List Rat}(h:∀x∈xs,Ln 24 x)(O:xs.length<=1000):fn ZM conv ext 196 [LL cQ xs]=some (Bo true):=by
 rw[mJ,nC [.tmp 2] [] func196];simp only[go_sem];generalize G:iI _ _=y;obtain⟨r,rfl,T',σ',nx',rfl⟩:=oZ G xs.length (fun k st=>st.T 5=LL cQ xs/\st.T 6=I xs.length/\st.T 7=I k)
  (fun r=>∃T σ nx',r=(.exit 0,⟨T,σ,nx'⟩)) (by
   clear G;rintro k ⟨T,σ,nx⟩ E ⟨t5,t6,t7⟩;simp only at t5 t6 t7;have f1:(k:Int)<(xs.length:Int):=by omega
   have f2:=jF k;have f3:=ZU (n:=(k:Int)+1);have f4:=d_ (c:=cQ) (s:=3) qJ xs k E;have f5:=bZ (c:=cQ) (s:=3) qJ xs;have f6:k*3+3<=xs.length*3:=by omega
   have f7:=bg (c:=cQ) (s:=3) qJ (by omega) xs k E;have J:=Yi xs[k] (h _ (zu E));refine .inl ⟨_,by simp only[go_sem,t5,t6,t7,f1,f2,f3,f4,f5,f6,f7,J];rfl,?_⟩;simp only[go_sem,t5,t6];rfl) (by
   rintro ⟨T,σ,nx⟩ ⟨t5,t6,t7⟩;simp only at t5 t6 t7;exact⟨_,by simp only[go_sem,t6,t7,zi];rfl,by simp,_,_,_,rfl⟩) (by
   simp only[go_sem])
 simp only[go_sem]
theorem aw3:fn ZM conv ext 240 []=some (.agg (cQ 0)):=by
 have E:fn ZM conv ext 190 [I 0]=some (.agg (cQ 0)):=dO 0 (by decide) (by decide)
 rw[mJ,nC [.cell 0 173] [] func240];simp only[go_sem,E]
theorem aqT(n:Nat)(hn:n<=1000)(σ:Store)(nx:Nat):∃v σ' nx',ev ZM Aa Ak 223 [I n] σ nx=some (v,σ',nx')/\nx<=nx'/\Jl v σ' nx nx' (List.replicate n (0:Rat))/\∀y,y<nx->σ' y=σ y:=by
 have k0:=aw3;rw[nC [.tmp 2] [] func223];simp only[go_sem];generalize hL:iI _ _=y;obtain⟨r,rfl,T',σ',nx',rfl,O,G,En⟩:=oZ hL n (fun k st=>st.T 0=I n/\nx<=st.nx/\Jl (st.T 3) st.σ nx st.nx (List.replicate k (0:Rat))/\∀y,y<nx->st.σ y=σ y)
  (fun r=>∃T σ' nx',r=(.exit 0,⟨T,σ',nx'⟩)/\nx<=nx'/\Jl (T 3) σ' nx nx' (List.replicate n (0:Rat))/\∀y,y<nx->σ' y=σ y) (by
   clear hL;rintro k ⟨T,S,qI⟩ hk ⟨t0,E,hA,fr⟩;simp only at t0 E hA fr;have f1:(k:Int)<(n:Int):=by omega
   have hlen:DI ZM 84 (T 3)=some (I k):=by
    rcases hA with ⟨J,G⟩|⟨b,J,G,h3,Y,h5⟩
    .rw[G]
     have:k=0:=by have:=congrArg List.length J;simpa using this
     rw[this];exact nX (by kernel_rfl)
    .rw[Y,yU];exact nV (by kernel_rfl)
   obtain⟨σ',a1,a2,a3⟩:=rJ hA E 0 (by rw[yU];omega);rw[yU]at a1 a2;refine .inl ⟨_,by simp only[go_sem,t0,hlen,f1,k0,a1];rfl,?_⟩;simp only[go_sem,t0];rw[uK];exact⟨by omega,a2,fun y hy=>(a3 y hy).trans (fr y hy)⟩) (by
   rintro ⟨T,S,qI⟩ ⟨t0,E,hA,fr⟩;simp only at t0 E hA fr;have hlen:DI ZM 84 (T 3)=some (I n):=by
    rcases hA with ⟨J,G⟩|⟨b,J,G,h3,Y,h5⟩
    .rw[G]
     have:n=0:=by have:=congrArg List.length J;simpa using this
     rw[this];exact nX (by kernel_rfl)
    .rw[Y,yU];exact nV (by kernel_rfl)
   refine⟨_,by simp only[go_sem,t0,hlen,zi];rfl,by simp,_,_,_,rfl,?_⟩;simp only[go_sem];exact⟨E,hA,fr⟩) (by
   simp only[go_sem];exact⟨.inl ⟨rfl,rfl⟩,fun _ _=>trivial⟩)
 exact⟨_,σ',nx',by simp only[go_sem],O,G,En⟩
def JB(K:List (Int×Int))(X:List Rat)(nm:Nat):Nat->List Rat
 |0=>List.replicate nm 0
 |c+1=>(JB K X nm c).set (K.getD c (0,0)).1.toNat ((JB K X nm c).getD (K.getD c (0,0)).1.toNat 0+sgQ (K.getD c (0,0)).2 (X.getD c 0))
theorem oG(K:List (Int×Int))(X:List Rat)(nm:Nat):∀c,(JB K X nm c).length=nm
 |0=>by simp[JB]
 |c+1=>by rw[JB,yP];exact oG K X nm c
def Yq(K:List (Int×Int))(k c:Nat):Nat:=((K.take c).filter fun p=>p.1.toNat==k).length
theorem RU{K:List (Int×Int)}{c:Nat}(h:c<K.length)(k:Nat):Yq K k (c+1)=Yq K k c+if K[c].1.toNat=k then 1 else 0:=by
 unfold Yq;rw[yL,zy h,tH,zo];congr 1
 by_cases e:K[c].1.toNat=k
 .simp[e]
 .simp[e]
theorem U0(K:List (Int×Int))(k c:Nat):Yq K k c<=(K.filter fun p=>p.1.toNat==k).length :=
 ((List.take_sublist c K).filter _).length_le
theorem abS(m:Member)(j k:Nat):((FV m j).filter fun p=>p.1.toNat==k).length<=(if j=k then 2 else 0)/\(j=k->0<((FV m j).filter fun p=>p.1.toNat==k).length):=by
 unfold FV
 by_cases E:m.kind=2<;>by_cases G:m.kind=1<;>by_cases e:j=k<;>simp[E,G,e]
theorem Pv(s:Structure)(k:Nat):∀n,((cols s n).filter fun p=>p.1.toNat==k).length<=(if k<n then 2 else 0)/\(k<n->0<((cols s n).filter fun p=>p.1.toNat==k).length)
 |0=>by simp[cols]
 |n+1=>by
  obtain⟨E,O⟩:=Pv s k n;obtain⟨J,S⟩:=abS (mem s n) n k;rw[oh,tH,zo]
  by_cases e:n=k
  .subst e
   rw[sQ (Nat.lt_irrefl _)]at E;rw[sO rfl]at J;rw[sO (Nat.lt_succ_self _)];exact⟨by omega,fun _=>by have:=S rfl;omega⟩
  .rw[sQ e]at J
   by_cases G:k<n
   .rw[sO G]at E
    rw[sO (by omega)];exact⟨by omega,fun _=>by have:=O G;omega⟩
   .rw[sQ G]at E
    rw[sQ (by omega)];exact⟨by omega,fun h=>by omega⟩
theorem lD{α:Type}(l:List α)(i k:Nat)(v d:α)(h:i<l.length):(l.set i v).getD k d=if i=k then v else l.getD k d:=by
 rw[zx,zx,List.getElem?_set]
 by_cases e:i=k
 .subst e;rw[sO rfl,sO h,sO rfl];rfl
 .rw[sQ e,sQ e]
theorem aw4{k:Nat}{q:Rat}(s:Int)(h:Ln k q):Ln k (sgQ s q):=by
 unfold sgQ
 split
 .exact UU h
 .exact h
section
variable {K:List (Int×Int)} {X:List Rat} {nm:Nat}
def DnI(K:List (Int×Int))(X:List Rat)(nm c k:Nat):Prop:=(Yq K k c=0/\(Gv K X nm c).getD k none=none/\(JB K X nm c).getD k 0=0) \/
 (0<Yq K k c/\(Gv K X nm c).getD k none=some ((JB K X nm c).getD k 0)/\Ln (7*Yq K k c) ((JB K X nm c).getD k 0))
theorem U2(S:∀x∈X,Ln 6 x)(Y:∀k,(K.filter fun p=>p.1.toNat==k).length<=2)(hk:∀c (h:c<K.length),K[c].1.toNat<nm):∀c,c<=K.length->∀k,k<nm->DnI K X nm c k
 |0,_,k,hkn=> .inl ⟨rfl,by
   rw[Gv,zx,vU,sO hkn];rfl,by
   rw[JB,zx,vU,sO hkn];rfl⟩
 |c+1,hc,k,hkn=>by
  have ih:=U2 S Y hk c (by omega) k hkn;have G:=hk c (by omega);have e1:K.getD c (0,0)=K[c]'(by omega):=by rw[zx,zy (by omega)];rfl
  have hx:Ln 6 (X.getD c 0):=by
   rw[zx]
   by_cases hc:c<X.length
   .rw[zy hc];exact S _ (zu hc)
   .rw[yX (by omega)];exact(sG (z:=0) (by decide)).mono (by decide)
  have E:=RU (K:=K) (c:=c) (by omega) k;have hle:=zL (U0 K k (c+1)) (Y k);unfold DnI;rw[Gv,JB,e1,lD _ _ _ _ _ (by rw[m_];exact G),lD _ _ _ _ _ (by rw[oG];exact G)];have hv:=aw4 (K[c]'(by omega)).2 hx;generalize sgQ (K[c]'(by omega)).2 (X.getD c 0)=v at *
  by_cases e:(K[c]'(by omega)).1.toNat=k
  .rw[sO e]at E
   rw[sO e,sO e,e];refine .inr ⟨by omega,?_⟩;rcases ih with ⟨i1,J,O⟩|⟨i1,J,O⟩
   .rw[J,O]
    have:(0:Rat)+v=v:=by grind
    rw[this];exact⟨rfl,hv.mono (by omega)⟩
   .rw[J]
    have hs:=abh O hv;exact⟨ae8 (hs.mono (by omega)),hs.mono (by omega)⟩
  .rw[sQ e]at E
   rw[sQ e,sQ e,E];exact ih
theorem aw5(S:∀x∈X,Ln 6 x)(J:∀k,(K.filter fun p=>p.1.toNat==k).length<=2)(O:∀c (h:c<K.length),K[c].1.toNat<nm){c:Nat}(hc:c<K.length):Ln 7 ((JB K X nm c).getD K[c].1.toNat 0):=by
 have hle:=zL (U0 K K[c].1.toNat (c+1)) (J _);have E:=RU hc K[c].1.toNat;rw[sO rfl]at E;rcases U2 S J O c (by omega) _ (O c hc)with ⟨Y,i2,G⟩|⟨Y,i2,G⟩
 .rw[G];exact(sG (z:=0) (by decide)).mono (by decide)
 .exact G.mono (by omega)
theorem aqU(Y:∀x∈X,Ln 6 x)(O:∀k,(K.filter fun p=>p.1.toNat==k).length<=2)(hk:∀c (h:c<K.length),K[c].1.toNat<nm){c:Nat}(hc:c<=K.length):∀q∈JB K X nm c,Ln 14 q:=fun q hq=>by
 obtain⟨k,E,e⟩:=zA hq;have J:k<nm:=by rw[oG]at E;exact E
 have S:(JB K X nm c).getD k 0=q:=by rw[zx,zy E,<- e];rfl
 have hle:=zL (U0 K k c) (O _);rcases U2 Y O hk c hc _ J with ⟨i1,i2,G⟩|⟨i1,i2,G⟩
 .rw[S]at G;rw[G];exact(sG (z:=0) (by decide)).mono (by decide)
 .rw[S]at G;exact G.mono (by omega)
theorem RV:∀l:List Rat,B_ (l.map some)=some l
 |[]=>rfl
 |q :: l=>by
  show(B_ (l.map some)).map _=_;rw[RV l];rfl
theorem aw6(O:∀x∈X,Ln 6 x)(S:∀k,(K.filter fun p=>p.1.toNat==k).length<=2)(Y:∀k,k<nm->0<(K.filter fun p=>p.1.toNat==k).length)(hk:∀c (h:c<K.length),K[c].1.toNat<nm):B_ (Gv K X nm K.length)=some (JB K X nm K.length):=by
 rw[<- RV];congr 1;refine yQ (by rw[m_,zT,oG]) fun k g1 g2=>?_
 have E:k<nm:=by rw[m_]at g1;exact g1
 have e1:(Gv K X nm K.length).getD k none=(Gv K X nm K.length)[k]:=by rw[zx,zy g1];rfl
 have e2:(JB K X nm K.length).getD k 0=(JB K X nm K.length)[k]'(by rw[oG];exact E):=by rw[zx,zy (by rw[oG];exact E)];rfl
 have h3:=Y k E;rcases U2 O S hk K.length (zq _) k E with ⟨G,J,i3⟩|⟨G,J,i3⟩
 .unfold Yq at G;rw[yT]at G;omega
 .rw[<- e1,J,yC,e2]
end
def Px(s:Structure)(x:Nat->Rat):List Rat:=JB (cols s s.members.length) ((List.range (DZ s)).map x) s.members.length (DZ s)
theorem afI(s:Structure)(x:Nat->Rat):(Px s x).length=s.members.length:=oG _ _ _ _
theorem abT(s:Structure)(k:Nat):((cols s s.members.length).filter fun p=>p.1.toNat==k).length<=2:=by
 have:=(Pv s k s.members.length).1
 split at this<;>omega
theorem abU(s:Structure):∀c (h:c<(cols s s.members.length).length),(cols s s.members.length)[c].1.toNat<s.members.length:=fun c h=>by
 obtain⟨⟨q,e,E⟩,-⟩:=ou (zu h);rw[e,zF];exact E
theorem aqV{x:Nat->Rat}{n:Nat}(h:∀j,j<n->Ln 6 (x j)):∀y∈(List.range n).map x,Ln 6 y:=fun y E=>by
 obtain⟨j,G,rfl⟩:=List.mem_map.mp E;exact h j (List.mem_range.mp G)
theorem Yr{s:Structure}{x:Nat->Rat}(h:∀j,j<DZ s->Ln 6 (x j)):∀q∈Px s x,Ln 14 q:=aqU (aqV h) (abT s) (abU s) (zq _)
theorem ajs{s:Structure}{x:Nat->Rat}(h:∀j,j<DZ s->Ln 6 (x j)):B_ (Gv (cols s s.members.length) ((List.range (DZ s)).map x) s.members.length (DZ s))=some (Px s x) :=
 aw6 (aqV h) (abT s) (fun k E=>(Pv s k _).2 E) (abU s)
theorem Jq{s:Structure}{l:List Int}{x:Nat->Rat}(h:(JA s l).Best x)(G:(JA s l).Open):False:=by
 obtain⟨y,J,E⟩:=G 1;have e:ob (JA s l).n (JA s l).c y=0:=by
  unfold ob;refine bK fun j O=>?_
  have:(JA s l).c j=0:=by
   show((((List.replicate (DZ s) (0:Int)).getD j 0:Int)):Rat)=0;rw[zx]
   by_cases hc:j<DZ s
   .rw[vU,sO hc];rfl
   .rw[vU,sQ hc];rfl
  rw[this];grind
 rw[e]at E;exact absurd E (by decide)
def badR:List V:=[Bo false,.ts [] 0,.ts [] 0]
def cR(a:Option Rat):List V:=match a with
 |none=>badR
 |some q=>cQ q
theorem aqW(a:Option Rat):(cR a).length=3:=by cases a<;>rfl
theorem ajt(a:Option Rat):(cR a).all vI=true:=by cases a<;>rfl
theorem am1(a:Option Rat):(cR a).take 3=cR a:=by cases a<;>rfl
theorem afJ(x y z:V)(a:Option Rat):patch [x,y,z] 0 (cR a)=cR a:=by cases a<;>rfl
attribute [go_sem] aqW ajt am1 afJ
theorem aqX(n:Nat)(hn:n<=24)(σ:Store)(nx:Nat):∃v σ' nx',ev ZM Aa Ak 197 [I n] σ nx=some (v,σ',nx')/\nx<=nx'/\Jl v σ' nx nx' (List.replicate n (0:Rat))/\∀y,y<nx->σ' y=σ y:=by
 have E:=II n 0 24;have hb:inB n 0 24=true:=by unfold inB;rw[sJ (by omega),sJ (by omega)];rfl
 rw[hb]at E;obtain⟨v,σ',nx',G,J,O,S⟩:=aqT n (by omega) σ nx;refine⟨v,σ',nx',?_,J,O,S⟩;rw[nC [.tmp 2] [] func197];simp only[go_sem,qE,E,G]
theorem aju{v:V}{σ:Store}{lo nx:Nat}{L:List Rat}(h:Jl v σ lo nx L)(E:L≠[]):∃b,lo<=b/\b<nx/\v= .rs b 0 L.length/\σ b=some ⟨L.flatMap cQ,3,true⟩:=by
 rcases h with ⟨G,_⟩|⟨b,_,J,O,S,Y⟩
 .exact absurd G E
 .exact⟨b,J,O,S,Y⟩
theorem aw7{s:Structure}(h:Bf s)(ho:Aj s){x:Nat->Rat}(hx:∀j,j<DZ s->Ln 6 (x j)) :
  fn ZM Aa Ak 165 [.agg (jI s),LL cQ ((List.range (DZ s)).map x)]=some (.AX [LL cQ (Px s x),Bo true]):=by
 have e8:=h.2.1;have k1:=IL s ho;rw[iC h]at k1;have k2:=Yp h.sg;have Y:=aqV hx;have a1:=oz s s.members.length;have G:=Yr hx;have b5:Px s x=JB (cols s s.members.length) ((List.range (DZ s)).map x) s.members.length (cols s s.members.length).length:=rfl;have b6:=abT s;have b7:=abU s;have b8:∀c (h:c<(cols s s.members.length).length),(∃q:Nat,(cols s s.members.length)[c].1=(q:Int)/\q<s.members.length)/\((cols s s.members.length)[c].2=1\/(cols s s.members.length)[c].2= -1):=fun c h=>ou (zu h)
 have b2:((List.range (DZ s)).map x).length=(cols s s.members.length).length:=by rw[zT,uM];rfl
 rw[b5]at G⊢;obtain⟨X,eX⟩:∃X,X=(List.range (DZ s)).map x:=⟨_,rfl⟩;obtain⟨K,eK⟩:∃K,K=cols s s.members.length:=⟨_,rfl⟩;rw[<- eX]at Y G b2⊢;rw[<- eK]at k2 a1 G b6 b7 b8 b2⊢;have k3:=ajr (xs:=X) (fun q hq=>(Y q hq).mono (by decide)) (by omega);obtain⟨s0,b9⟩:∃s0,s0=upd pI 0 (some ⟨jI s,0,true⟩):=⟨_,rfl⟩;have b0:s0 0=some ⟨jI s,0,true⟩:=by rw[b9,Zj]
 obtain⟨vz,e9,nz,k4,h0,e3,Vh⟩:=aqX s.members.length (by omega) s0 1;have c0:((X.length:Int) !=((K.map Gg).length:Int))=false:=by rw[zT,b2];simp
 have el:(K.map Gg).length=K.length:=zT ..;have c2:(K.map GK).length=K.length:=zT ..;rw[mJ,nC [.tmp 4,.tmp 5] [11,12] func165];simp only[go_sem,qE,k1,k2,k3,c0,<- b9,b0,k4];generalize hL:iI _ _=y;obtain⟨r,rfl,T,σ,nx,rfl,h2⟩:=oZ hL K.length (fun c st=>st.T 1=LL cQ X/\st.T 7=LI (K.map GK)/\st.T 33=LI (K.map Gg)/\st.T 34=I K.length/\st.T 35=I c/\Jl (st.T 8) st.σ 1 st.nx (JB K X s.members.length c))
  (fun r=>∃T σ nx,r=(.exit 0,⟨T,σ,nx⟩)/\Jl (T 8) σ 1 nx (JB K X s.members.length K.length)) (by
   clear hL;rintro c ⟨T,σ,nx⟩ hc ⟨t1,t7,t33,t34,t35,hA⟩;simp only at t1 t7 t33 t34 t35 hA;have g1:(c:Int)<(K.length:Int):=by omega
   have g2:=jF c;have g3:=ZU (n:=(c:Int)+1);obtain⟨⟨k,hk,c3⟩,c4⟩:=b8 c hc;have a4:=idx (xs:=K.map Gg) (k:=c) (by omega);have a5:=idx (xs:=K.map GK) (k:=c) (by omega);rw[yC,show Gg K[c]=(k:Int)from hk]at a4;rw[yC]at a5;have a6:=Ba (K.map Gg) c (by omega);have a7:=Ba (K.map GK) c (by omega);have a8:=d_ (c:=cQ) (s:=3) qJ X c (by omega);have a9:=bZ (c:=cQ) (s:=3) qJ X;have c5:c*3+3<=X.length*3:=by omega
   have c7:=bg (c:=cQ) (s:=3) qJ (by omega) X c (by omega);have a12:(c:Int)<(X.length:Int):=by omega
   have E:=oG K X s.members.length c;have J:=aw5 Y b6 b7 hc;have b3:=Y _ (zu (l:=X) (n:=c) (by omega));have O:JB K X s.members.length (c+1)=(JB K X s.members.length c).set k ((JB K X s.members.length c).getD k 0+sgQ K[c].2 (X[c]'(by omega))):=by
    rw[JB];have e1:K.getD c (0,0)=K[c]:=by rw[zx,zy hc];rfl
    have e2:X.getD c 0=X[c]'(by omega):=by rw[zx,zy (by omega)];rfl
    rw[e1,e2,hk,zF]
   rw[hk,zF]at J;obtain⟨S,e4⟩:∃S,S=X[c]'(by omega):=⟨_,rfl⟩;rw[<- e4]at a8 b3 O;obtain⟨sg,c8⟩:∃sg,sg=K[c].2:=⟨_,rfl⟩;have a5:((K.map GK).flatMap cI)[c]?=some (I sg):=by rw[c8];exact a5
   rw[<- c8]at c4 O;obtain⟨D,eD⟩:∃D,D=JB K X s.members.length c:=⟨_,rfl⟩;rw[<- eD]at hA E J O;obtain⟨b,e5,b4,t8,hb⟩:=aju hA (fun e=>by rw[e]at E;simp at E;omega);rw[E]at t8;have d0:=d_ (c:=cQ) (s:=3) qJ D k (by omega);have d2:=bZ (c:=cQ) (s:=3) qJ D;rw[E]at d2;have d3:k*3+3<=s.members.length*3:=by omega
   have d4:(k:Int)<(s.members.length:Int):=by omega
   have d5:=jF k;obtain⟨d,ed⟩:∃d,d=D.getD k 0:=⟨_,rfl⟩;have d1:((D.flatMap cQ).drop (k*3)).take 3=cQ d:=by
    rw[d0,ed,zx,zy (by omega)];rfl
   rw[<- ed]at J O;have n1:¬(0:Int)< -1:=by decide
   have n0:(0:Int)<1:=by decide
   have c9:∀q σ d,stripL (strip σ d) (cQ q)=some (cQ q,[]):=fun q σ d=>qH σ d q
   have fin:∀(v:Rat),v=d+sgQ sg S->Jl (V.rs b 0 s.members.length) (upd σ b (some ⟨(D.set k v).flatMap cQ,3,true⟩)) 1 nx (JB K X s.members.length (c+1)):=fun v hv=>by
    rw[O,<- hv];refine .inr ⟨b,fun e=>?_,e5,b4,by rw[yP,E],by rw[Zj]⟩;have:=congrArg List.length e;rw[yP,E]at this;have:s.members.length=0:=this;omega
   rcases c4 with rfl|rfl
   .have k5:=ajp d S J b3 (by decide)
    have c6:patch (D.flatMap cQ) (k*3) (cQ (d+S))=(D.set k (d+S)).flatMap cQ:=iE qJ _ _ (by omega) _;refine .inl ⟨_,by simp only[go_sem,t1,t7,t8,t33,t34,t35,hb,b4,g1,g2,g3,a4,a5,a6,a7,a8,a9,c5,c7,a12,hc,el,c2,d1,d2,d3,d4,d5,c3,n0,k5,c6,c9];rfl,?_⟩;simp only[go_sem,t1,t7,t8,t33,t34,t35];exact⟨rfl,fin _ rfl⟩
   .have k5:=ajq d S J b3 (by decide)
    have c6:patch (D.flatMap cQ) (k*3) (cQ (d-S))=(D.set k (d-S)).flatMap cQ:=iE qJ _ _ (by omega) _;refine .inl ⟨_,by simp only[go_sem,t1,t7,t8,t33,t34,t35,hb,b4,g1,g2,g3,a4,a5,a6,a7,a8,a9,c5,c7,a12,hc,el,c2,d1,d2,d3,d4,d5,c3,n1,k5,c6,c9];rfl,?_⟩;simp only[go_sem,t1,t7,t8,t33,t34,t35];refine⟨rfl,fin _ ?_⟩;show d-S=d+ -S;grind) (by
   clear hL;rintro ⟨T,σ,nx⟩ ⟨t1,t7,t33,t34,t35,hA⟩;simp only at t1 t7 t33 t34 t35 hA;refine⟨_,by simp only[go_sem,t34,t35,zi];rfl,by simp,_,_,_,rfl,?_⟩;simp only[go_sem];exact hA) (by
   simp only[go_sem,el];exact e3)
 have k6:=ajr (xs:=JB K X s.members.length K.length) (fun q hq=>(G q hq).mono (by decide)) (by rw[oG];omega);obtain⟨D,eD⟩:∃D,D=JB K X s.members.length K.length:=⟨_,rfl⟩;rw[<- eD]at h2 k6⊢;rcases h2 with ⟨h3,h4⟩|⟨b,h3,h4,h5,h6,h7⟩
 .rw[h3]at k6⊢
  have k6:fn ZM conv ext 196 [.ts [] 0]=some (Bo true):=k6
  simp only[go_sem,h4,k6];rfl
 .have e6:=fun d=>fE (d:=d) h7 rfl
  have e7:∀t,∃wr,behind σ [b] t b=some ⟨D.flatMap cQ,3,wr⟩:=fun t=>ac2 h7
  have e0:∀t d,strip (behind σ [b] t) (d+1) (.rs b 0 D.length)=some (LL cQ D,[b]):=fun t d=>by
   obtain⟨wr,hw⟩:=e7 t;rw[aS,hw];have a1:=bZ (c:=cQ) (s:=3) qJ D;simp only[zk,yZ,yg,a1,zq,if_true];rw[zl (by omega),Ro];rfl
  simp only[go_sem,h6,e6,k6,e0]
theorem ajv{s:Structure}(h:Bf s)(G:Aj s){l:List Int}(E:AQ s.bI.length l):fn ZM conv ext 88 [.agg (jI s),LI l]=some (Bo true):=by
 have J:=h.1;have k:=akO s l G (by rw[E.1];unfold maxLen;omega);rw[iC h,iC E]at k;exact k
theorem ajw{s:Structure}(h:Bf s)(S:Aj s){l:List Int}(hl:AQ s.bI.length l) :
  (∃qs,qs.length=s.members.length/\(∀q∈qs,Ln 24 q)/\fn ZM Aa Ak 40 [.agg (jI s),LI l]=some (.AX [LL cQ qs,Bo true])/\fn ZM Aa Ak 128 [.agg (jI s),LI l]=some (.AX [LL cQ qs,Bo true]) /\
   ∃x:Nat->Rat,(JA s l).Best x/\(∀j,j<DZ s->Ln 6 (x j))/\qs=Px s x/\∃T,(JA s l).Good T/\x=BH (JA s l).m T) \/
  (fn ZM Aa Ak 40 [.agg (jI s),LI l]=some Vg/\fn ZM Aa Ak 128 [.agg (jI s),LI l]=some Vg/\((JA s l).None\/(JA s l).Open)):=by
 have a8:=h.1;have hb:∀x∈l,-100<=x/\x<=100:=fun x J=>kK (hl.2 x J)
 obtain⟨r,k1,hr⟩:=Jg S (l:=l) (by rw[hl.1];unfold maxLen;omega);obtain⟨r0,Y,a6⟩:=am0 h.sg hb;have k3:=ajo h.sg hl.1 hb;have k4:=ajv h S hl;unfold C9 at Y k3;have n2:((2:Int) !=0)=true:=by decide
 have n3:((3:Int) !=0)=true:=by decide
 have n0:((0:Int) !=0)=false:=by decide
 have a1:r=Vg/\((JA s l).None\/(JA s l).Open)\/∃x:Nat->Rat,(JA s l).Best x/\(∀j,j<DZ s->Ln 24 (x j))/\r=Ez (Gv (cols s s.members.length) ((List.range (DZ s)).map x) s.members.length (DZ s)):=by
  rcases hr with ⟨hn,_⟩|⟨_,_,hr⟩
  .exact absurd ⟨h,hl⟩ hn
  .exact hr
 have no:(JA s l).None\/(JA s l).Open->fn ZM Aa Ak 40 [.agg (jI s),LI l]=some Vg:=fun hn=>by
  rcases a1 with ⟨e,_⟩|⟨x,J,_⟩
  .rw[k1,e]
  .rcases hn with hn|hn
   .exact absurd hn J.Xf
   .exact absurd hn (fun S=>Jq J S)
 rcases a6 with ⟨O,hn⟩|⟨O,hn⟩|⟨x,J,E,b2,O,hT⟩
 .refine .inr ⟨no (.inl hn),?_,.inl hn⟩
  rw[O]at Y;unfold Vg;rw[mJ,nC [.tmp 4,.tmp 5] [] func128];simp only[go_sem,Y,k3,k4,n2,n3]
 .refine .inr ⟨no (.inr hn),?_,.inr hn⟩
  rw[O]at Y;unfold Vg;rw[mJ,nC [.tmp 4,.tmp 5] [] func128];simp only[go_sem,Y,k3,k4,n2,n3]
 .have hn:(JA s l).n=DZ s:=rfl
  rw[hn]at E O;refine .inl ⟨Px s x,afI s x,fun q hq=>(Yr E q hq).mono (by decide),?_,?_,x,J,E,rfl,hT⟩
  .rcases a1 with ⟨_,G⟩|⟨x',a7,_,e⟩
   .rcases G with G|G
    .exact absurd G J.Xf
    .exact absurd G (fun S=>Jq J S)
   .have eX:(List.range (DZ s)).map x'=(List.range (DZ s)).map x:=xM fun j hj=>a7.eq J j (List.mem_range.mp hj)
    rw[k1,e,eX];unfold Ez;rw[ajs E]
  .have k5:=aw7 h S E
   obtain⟨X,eX⟩:∃X,X=(List.range (DZ s)).map x:=⟨_,rfl⟩;obtain⟨v,ev⟩:∃v,v=ob (DZ s) (JA s l).c x:=⟨_,rfl⟩;have O:r0= .agg (I 0 :: LL cQ X :: cQ v):=by rw[eX,ev];exact O
   rw[O]at Y;rw[<- eX]at k5;rw[mJ,nC [.tmp 4,.tmp 5] [] func128];have g1:(I 0 :: LL cQ X :: cQ v).length=5:=rfl;have g2:(I 0 :: LL cQ X :: cQ v).all vI=true:=rfl;have g3:(I 0 :: LL cQ X :: cQ v)[0]?=some (I 0):=rfl;have g4:(I 0 :: LL cQ X :: cQ v)[1]?=some (LL cQ X):=rfl;have g5:(I 0 :: LL cQ X :: cQ v).take 5=I 0 :: LL cQ X :: cQ v:=rfl;simp only[go_sem,Y,k3,k4,g1,g2,g3,g4,g5,k5,n0]
end Go.Proofs.YtjknobpihkmilaaGreat
namespace Go.Proofs.YtjknobpihkmilaaGreat
open Go Go.TV
theorem Yt{E:Array Edge}{ids:List Nat}:∀ {acc:List (Nat×Bool×List Nat)},(acc.all fun p=> !p.2.1)=true->okG E false ids acc=true
 |[],_=>rfl
 |p :: acc,h=>by
  rw[vY,zM]at h;have G:p.2.1=false:=by simpa using h.1
  unfold okG;rw[G,Yt h.2];rfl
theorem Yu{E:Array Edge}{ids:List Nat}{acc:List (Nat×Bool×List Nat)}(h:(acc.all fun p=> !p.2.1)=true):okF E acc false ids=true:=by
 cases ids with
 |nil=>rfl
 |cons b G=>exact Yt h
open Go.Plan
attribute [-go_sem] qy
noncomputable def endsB(y:BZ)(fr to:Int):Bool:=pb (AU y) && (inB fr 0 ((y.aI.length:Int) - 1) && inB to 0 ((y.aI.length:Int) - 1))
theorem U3{y:BZ}{fr to:Int}(hp:CJ y fr to=true):endsB y fr to=true:=by
 unfold CJ at hp;simp only[zM,decide_eq_true_eq]at hp;obtain⟨E,⟨J,O⟩,G⟩:=hp;obtain⟨⟨t0,t1⟩,_⟩:=UH G;unfold endsB inB;rw[E,sJ (by omega),sJ (by omega),sJ (by omega),sJ (by omega)];rfl
theorem abV{y:BZ}{fr to:Int}(E:endsB y fr to=true):AU y/\∃a t:Nat,fr=(a:Int)/\to=(t:Int)/\a<y.aI.length/\t<y.aI.length:=by
 unfold endsB at E;simp only[zM]at E;obtain⟨O,G,J⟩:=E;have G:=kK G;have J:=kK J;exact⟨iy O,fr.toNat,to.toNat,by omega,by omega,by omega,by omega⟩
def ajx(y:BZ)(a c:Int):Bool:=y.moves.any fun m=>(m.fr==a) && (m.to==c)
noncomputable def Hw(y:BZ)(plan:List Int)(k:Nat):Bool:=inB (plan.getD k 0) 0 ((y.aI.length:Int) - 1) && (Dk (Aq y) (plan.getD k 0).toNat && (decide (k=0)||ajx y (plan.getD (k-1) 0) (plan.getD k 0)))
noncomputable def EF(y:BZ)(plan:List Int):Bool:=pb (AU y) && (decide (plan≠[]) && (List.range plan.length).all (Hw y plan))
theorem KE{p:Nat->Bool}{n:Nat}(h:∀i,i<n->p i=true):(List.range n).all p=true:=by
 rw[wV];exact fun i hi=>h i (List.mem_range.mp hi)
theorem Jr{p:Nat->Bool}{n k:Nat}(E:k<n)(h:p k=false):(List.range n).all p=false:=by
 rw[List.all_eq_false];exact⟨k,List.mem_range.mpr E,by rw[h];simp⟩
theorem ajy(xs:List TV.Move)(m:TV.Move)(h:xs.length<=maxLen):fn ZM conv ext 35 [LL Dp xs,.agg (Dp m)]=some (Bo (xs.any fun o=>(o.fr==m.fr) && (o.to==m.to))):=by
 have G:=QF xs m h;have e:(xs.any fun o=>(o.fr==m.fr) && (o.to==m.to))=decide (0<=ix (DL m) xs):=by
  by_cases c:ix (DL m) xs<0
  .rw[sH (by omega),List.any_eq_false]
   intro o E;have:=(KW _ _).mp c o E;unfold DL at this;rw[BEq.comm (a:=o.fr),BEq.comm (a:=o.to),this];simp
  .rw[sJ (by omega),List.any_eq_true]
   refine zf fun hn=>c ((KW _ _).mpr fun o E=>?_)
   cases hs:DL m o with
   |false=>rfl
   |true=>
    unfold DL at hs;exact absurd ⟨o,E,by rw[BEq.comm (a:=o.fr),BEq.comm (a:=o.to)];exact hs⟩ hn
 rw[e,mJ,nC [.tmp 4] [] func35]
 by_cases c:(0:Int)<=ix (DL m) xs
 .rw[sJ c]
  simp only[go_sem,G,c]
 .rw[sH c]
  simp only[go_sem,G,c]
theorem adi(y:BZ)(ho:Gl y)(plan:List Int)(b2:plan.length<=1048576):fn ZM Cb D7 13 [.agg (Cj y),LI plan]=some (Bo (EF y plan)):=by
 have k1:=Tm y ho;unfold EF;rw[mJ,nC [.tmp 4] [] func13];cases hg:pb (AU y)with
 |false=>
  rw[hg]at k1;simp only[go_sem,k1,wM]
 |true=>
  rw[hg]at k1;have hG:=iy hg;have PI:=hG.1;have b3:=hG.2.1
  by_cases a1:plan=[]
  .subst a1
   have e0:((([]:List Int).length:Int)==0)=true:=rfl;simp only[go_sem,k1,e0];simp
  have b4:plan.length≠0:=fun e=>a1 (zZ e)
  have e0:((plan.length:Int)==0)=false:=by rw[sN];omega
  rw[sJ a1,xY,xY];have k2:=anN y ho PI;have hS:=dL y;obtain⟨wr,a8⟩:∃wr,wr=flat 7 (LL D8 (Aq y)):=⟨_,rfl⟩;simp only[go_sem,k1,e0,k2];generalize hL:iI _ _=z;obtain⟨x,rfl,hx⟩:=oZ hL plan.length (fun k st=>st.T 1=LI plan/\st.T 2= .rp 0 0/\st.T 5=LL D8 (Aq y)/\st.T 17=LI plan/\st.T 18=I plan.length/\st.T 19=I k/\0<st.nx/\st.σ 0=some ⟨Cj y,0,wr⟩/\∀i,i<k->Hw y plan i=true)
   (fun x=>∃T σ nx,(x=(.exit 0,⟨T,σ,nx⟩)/\(List.range plan.length).all (Hw y plan)=true)\/(x=(.ret,⟨T,σ,nx⟩)/\T 4=Bo false/\(List.range plan.length).all (Hw y plan)=false)) (by
    clear hL;rintro k ⟨T,σ,nx⟩ S ⟨t1,t2,t5,t17,O,t19,G,J,Y⟩;simp only at t1 t2 t5 t17 O t19 G J;have g1:(k:Int)<(plan.length:Int):=by omega
    have g2:=jF k;have g3:=ZU (n:=(k:Int)+1);have g4:=idx (xs:=plan) (k:=k) S;have g5:=Ba plan k S;have gd:plan.getD k 0=plan[k]:=by rw[zx,zy S];rfl
    obtain⟨p,ep⟩:∃p,p=plan[k]:=⟨_,rfl⟩;rw[<- ep]at g4 gd;have E:Hw y plan k=(inB p 0 ((y.aI.length:Int) - 1) && (Dk (Aq y) p.toNat && (decide (k=0)||ajx y (plan.getD (k-1) 0) p))):=by unfold Hw;rw[gd]
    have no:Hw y plan k=false->(List.range plan.length).all (Hw y plan)=false:=fun h=>Jr S h
    by_cases c1:p<0
    .have hb:inB p 0 ((y.aI.length:Int) - 1)=false:=by unfold inB;rw[sH (by omega)];rfl
     rw[hb]at E;refine .inr ⟨_,by simp only[go_sem,t1,t2,t5,t17,O,t19,hS,g1,g2,g4,g5,S,c1];rfl,by simp,_,_,_,.inr ⟨rfl,by simp only[go_sem],no (by rw[E];rfl)⟩⟩
    by_cases c2:(y.aI.length:Int)<=p
    .have hb:inB p 0 ((y.aI.length:Int) - 1)=false:=by unfold inB;rw[sH (p:=p<=_) (by omega),wY]
     rw[hb]at E;refine .inr ⟨_,by simp only[go_sem,t1,t2,t5,t17,O,t19,hS,g1,g2,g4,g5,S,c1,c2];rfl,by simp,_,_,_,.inr ⟨rfl,by simp only[go_sem],no (by rw[E];rfl)⟩⟩
    have hb:inB p 0 ((y.aI.length:Int) - 1)=true:=by unfold inB;rw[sJ (by omega),sJ (by omega)];rfl
    rw[hb]at E;obtain⟨j,rfl⟩:∃j:Nat,p=(j:Int):=⟨p.toNat,by omega⟩;rw[zF]at E;have hj:j<y.aI.length:=by omega
    have a6:j<(Aq y).length:=by omega
    have j1:(j:Int)<(y.aI.length:Int):=by omega
    have j2:=jF j;have j3:((Aq y).flatMap D8)[j]?=some (Bo (Dk (Aq y) j)):=by rw[rH a6];exact cu (fun b=>Bo b) (Aq y) j a6
    have j5:=ahp (Aq y) j a6;cases hs:Dk (Aq y) j with
    |false=>
     rw[hs]at E j3;refine .inr ⟨_,by simp only[go_sem,t1,t2,t5,t17,O,t19,hS,g1,g2,g4,g5,S,c1,c2,j1,j2,j3,j5,hj];rfl,by simp,_,_,_,.inr ⟨rfl,by simp only[go_sem],no (by rw[E];rfl)⟩⟩
    |true=>
    rw[hs]at E j3
    by_cases h0:k=0
    .rw[sJ h0]at E
     have i0:¬(0:Int)<(k:Int):=by omega
     refine .inl ⟨_,by simp only[go_sem,t1,t2,t5,t17,O,t19,hS,g1,g2,g3,g4,g5,S,c1,c2,j1,j2,j3,j5,hj,i0];rfl,?_⟩;simp only[go_sem,t1,t2,t5,t17,O];refine⟨rfl,G,J,fun i hi=>?_⟩
     by_cases e:i=k
     .rw[e,E];rfl
     .exact Y i (by omega)
    .have i0:(0:Int)<(k:Int):=by omega
     rw[sH h0,Bool.false_or]at E;have i1:=ZU (n:=(k:Int) - 1);have i2:(k:Int) - 1=((k-1:Nat):Int):=by omega
     have i3:=idx (xs:=plan) (k:=k-1) (by omega);have i4:((k-1:Nat):Int)<(plan.length:Int):=by omega
     have i5:(0:Int)<=((k-1:Nat):Int):=by omega
     have i6:k-1<plan.length:=by omega
     rw[i2]at i1;have a7:plan.getD (k-1) 0=plan[k-1]'(by omega):=by rw[zx,zy (by omega)];rfl
     obtain⟨q,eq⟩:∃q,q=plan[k-1]'(by omega):=⟨_,rfl⟩;rw[<- eq]at i3 a7;rw[a7]at E;have k4:fn ZM conv ext 35 [LL Dp y.moves,.agg [I q,I j]]=some (Bo (ajx y q (j:Int))):=ajy y.moves ⟨q,(j:Int)⟩ (by unfold maxLen;omega)
     cases hm:ajx y q (j:Int)with
     |false=>
      rw[hm]at E k4;refine .inr ⟨_,by simp only[go_sem,t1,t2,t5,t17,O,t19,J,G,hS,g1,g2,g4,g5,S,c1,c2,j1,j2,j3,j5,hj,i0,i1,i2,i3,i4,i5,i6,k4];rfl,by simp,_,_,_,.inr ⟨rfl,by simp only[go_sem],no (by rw[E];rfl)⟩⟩
     |true=>
      rw[hm]at E k4;refine .inl ⟨_,by simp only[go_sem,t1,t2,t5,t17,O,t19,J,G,hS,g1,g2,g3,g4,g5,S,c1,c2,j1,j2,j3,j5,hj,i0,i1,i2,i3,i4,i5,i6,k4];rfl,?_⟩;simp only[go_sem,t1,t2,t5,t17,O];refine⟨rfl,G,J,fun i hi=>?_⟩
      by_cases e:i=k
      .rw[e,E];rfl
      .exact Y i (by omega)) (by
    clear hL;rintro ⟨T,σ,nx⟩ ⟨t1,t2,t5,t17,O,t19,G,J,Y⟩;simp only at t1 t2 t5 t17 O t19 G J;exact⟨_,by simp only[go_sem,O,t19,zi];rfl,by simp,_,_,_,.inl ⟨rfl,KE Y⟩⟩) (by
    simp only[go_sem];exact⟨by rw[a8],fun i h=>absurd h (zW _)⟩)
  obtain⟨T,σ,nx,⟨rfl,hm⟩|⟨rfl,t4,hm⟩⟩:=hx
  .rw[hm]
   simp only[go_sem]
  .rw[hm]
   simp only[go_sem,t4]
open Go.Lp
section
variable {K:List (Int×Int)} {X:List Rat} {nm:Nat}
end
def sX(s:Structure)(q:List Rat)(j:Int)(n:Nat):Rat:=sm (fun k=>((eX s j k:Int):Rat)*q.getD k 0) n
section
variable {s:Structure} {q:List Rat} {Δ:Rat}
end
section
variable {K:List (Int×Int)} {X:List Rat} {nm:Nat}
end
theorem ajz{E:List Int}(G:okL 1 (fun n=>(Lit.int .u8 n).wf=true) E):∀x∈E,0<=x/\x<=255:=fun x J=>by
 have:=G.1 x J;simp only[Lit.wf,zM,decide_eq_true_eq]at this;have O:IntKind.u8.min=0:=by decide
 have S:IntKind.u8.max=255:=by decide
 rw[O,S]at this;exact this
theorem gu{y:BZ}{fr to:Int}(G:CJ y fr to=true):AU y/\∃a t d:Nat,fr=(a:Int)/\to=(t:Int)/\a<y.aI.length/\t<y.aI.length/\dst (Ea y) (Dk (Aq y)) t a=(d:Int)/\BF y fr to=AB ((List.range (d+1)).map (Ve (Ea y) (dst (Ea y) (Dk (Aq y)) t) y.aI.length a)):=by
 obtain⟨O,a,t,rfl,rfl,ha,S⟩:=abV (U3 G);have es:UF y (Aq y) (t:Int)=dst (Ea y) (Dk (Aq y)) t:=by funext i;unfold UF;rw[sO ⟨by omega,by omega⟩,zF]
 have E:=G;unfold CJ at E;simp only[zM,decide_eq_true_eq]at E;rw[es,zF]at E;obtain⟨d,J⟩:∃d:Nat,dst (Ea y) (Dk (Aq y)) t a=(d:Int):=⟨(dst (Ea y) (Dk (Aq y)) t a).toNat,by omega⟩;refine⟨O,a,t,d,rfl,rfl,ha,S,J,?_⟩;unfold BF;rw[sO G,es,zF];unfold plan;rw[J,zF]
theorem adk{y:BZ}{fr to:Int}(G:CJ y fr to=true):BF y fr to≠[]/\∀k (h:k<(BF y fr to).length),∃i:Nat,(BF y fr to)[k]=(i:Int)/\∃hi:i<y.aI.length,Hu y.aI[i] y.strict=true:=by
 obtain⟨hG,a,t,d,rfl,rfl,ha,ht,O,e⟩:=gu G;have E:∀i,Dk (Aq y) i=true->i<y.aI.length:=fun i hi=>by have:=rG hi;rw[dL]at this;exact this
 rw[e];refine⟨fun h=>by
  have:=congrArg List.length h;simp[AB]at this,fun k Y=>?_⟩
 have a1:k<d+1:=by simpa[AB]using Y
 refine⟨Ve (Ea y) (dst (Ea y) (Dk (Aq y)) t) y.aI.length a k,by simp[AB],?_⟩;have h1:=kE E (mv:=Ea y) (to:=t) (a:=a) k (by rw[O];omega);have J:=(OJ (mv:=Ea y) (al:=Dk (Aq y)) (to:=t) (i:=Ve (Ea y) (dst (Ea y) (Dk (Aq y)) t) y.aI.length a k) (by rw[h1,O];omega)).1;have S:=E _ J;refine⟨S,?_⟩;rw[rH (by rw[dL];exact S)]at J
 simpa[Aq]using J
theorem Yv{y:BZ}{fr to:Int}(a1:CJ y fr to=true):EF y (BF y fr to)=true:=by
 obtain⟨hG,a,t,d,rfl,rfl,ha,ht,hd,e⟩:=gu a1;have J:∀i,Dk (Aq y) i=true->i<y.aI.length:=fun i hi=>by have:=rG hi;rw[dL]at this;exact this
 obtain⟨at_,O⟩:∃at_,at_=Ve (Ea y) (dst (Ea y) (Dk (Aq y)) t) y.aI.length a:=⟨_,rfl⟩;have Y:∀k:Nat,k<=d->dst (Ea y) (Dk (Aq y)) t (at_ k)=(d:Int) - k:=fun k S=>by
  have:=kE J (mv:=Ea y) (to:=t) (a:=a) k (by rw[hd];omega);rw[hd]at this;rw[O];exact this
 have E:∀k:Nat,k<=d->Dk (Aq y) (at_ k)=true:=fun k S=>(OJ (mv:=Ea y) (al:=Dk (Aq y)) (to:=t) (i:=at_ k) (by rw[Y k S];omega)).1
 have a6:∀k:Nat,k+1<=d->Ea y (at_ k) (at_ (k+1))=true:=fun k S=>by
  have h1:=(Ut J (mv:=Ea y) (to:=t) (a:=at_ k) (by rw[Y k (by omega)];omega)).2.1;have h2:at_ (k+1)=Jv (Ea y) (dst (Ea y) (Dk (Aq y)) t) y.aI.length (at_ k):=by rw[O];rfl
  rw[h2];exact h1
 have G:∀k:Nat,k<=d->(BF y (a:Int) (t:Int)).getD k 0=((at_ k:Nat):Int):=fun k S=>by
  rw[e,<- O,zx];unfold AB;rw[yc,yc,wB (by omega)];rfl
 have hlen:(BF y (a:Int) (t:Int)).length=d+1:=by rw[e];simp[AB]
 have a7:BF y (a:Int) (t:Int)≠[]:=fun h=>by rw[h]at hlen;simp at hlen
 unfold EF;rw[iC hG,sJ a7,xY,xY];refine KE fun k S=>?_
 rw[hlen]at S;unfold Hw;have hr:=J _ (E k (by omega));rw[G k (by omega),zF,E k (by omega)];have hb:inB ((at_ k:Nat):Int) 0 ((y.aI.length:Int) - 1)=true:=by unfold inB;rw[sJ (by omega),sJ (by omega)];rfl
 rw[hb,xY,xY]
 by_cases h0:k=0
 .rw[sJ h0];rfl
 .rw[G (k-1) (by omega)]
  have:=a6 (k-1) (by omega);rw[show k-1+1=k by omega]at this;have h2:ajx y ((at_ (k-1):Nat):Int) ((at_ k:Nat):Int)=true:=this;rw[h2,Bool.or_true]
theorem abW{t:CP}{strict:Bool}(h:Hu t strict=true):Bf t.st/\AQ t.st.bI.length t.load/\Dx t.st.members.length t.limits/\FN t.st t.load t.limits/\∀k,k<t.st.members.length->(strict=true->fn ZM Aa Ak 37 [.agg (jI (del t.st k)),LI t.load,LI (t.limits.eraseIdx k)]=some (Bo true)):=by
 unfold Hu at h;rw[zM]at h;obtain⟨J,O,S⟩:=bH h.1;cases strict with
 |false=>
  have E:pb (FN t.st t.load t.limits)=true:=h.2;exact⟨J,O,S,iy E,fun k Y e=>by cases e⟩
 |true=>
  have E:Ji t.st t.load t.limits=true:=h.2;unfold Ji at E;rw[zM]at E;refine⟨J,O,S,iy E.1,fun k Y _=>?_⟩;have G:=E.2;unfold upto at G;rw[wV]at G;exact iy (G k (List.mem_range.mpr Y))
end Go.Proofs.YtjknobpihkmilaaGreat
/- What a plan begins and ends with; what can be reached. -/
namespace Go.Proofs.YtjknobpihkmilaaGreat
open Go Go.TV Go.Plan
end Go.Proofs.YtjknobpihkmilaaGreat
/- What a member needs: the least whole limit. -/
namespace Go.Proofs.YtjknobpihkmilaaGreat
open Go Go.TV Go.Lp
attribute [-go_sem] qy
def sqr(m:Nat):Rat:=(((m:Int)*(m:Int):Int):Rat)
def ajA(x:Rat)(n:Nat):Prop:=n<=1001/\(∀m,m<n->sqr m<x)/\(n=1001\/¬sqr n<x)
theorem adl(x:Rat):∃n,ajA x n:=by
 obtain⟨k,E,hm⟩:=Go.Plan.least (p:=fun n=>n=1001\/¬sqr n<x) ⟨1001,.inl rfl⟩;refine⟨k,hm 1001 (.inl rfl),fun m G=>?_,E⟩
 by_cases h:sqr m<x
 .exact h
 .have:=hm m (.inr h);omega
noncomputable def need(x:Rat):Nat:=Classical.choose (adl x)
theorem adn(x:Rat):ajA x (need x):=Classical.choose_spec (adl x)
theorem ado{x:Rat}{n:Nat}(h:ajA x n):need x=n:=by
 obtain⟨J,a2,a3⟩:=adn x;obtain⟨b1,E,G⟩:=h;rcases Nat.lt_trichotomy (need x) n with c|c|c
 .have:=E _ c
  rcases a3 with e|e
  .omega
  .exact absurd this e
 .exact c
 .have:=a2 _ c
  rcases G with e|e
  .omega
  .exact absurd this e
theorem aqY(a b:Int):0<Ar a b↔Ar b a<0:=by
 rcases pJ a b with ⟨J,E⟩|⟨J,E⟩|⟨J,E⟩<;>rcases pJ b a with ⟨O,G⟩|⟨O,G⟩|⟨O,G⟩<;>rw[E,G]<;>omega
theorem am2(m:Nat)(h:m<=1000):-9223372036854775808<(m:Int)*(m:Int)/\(m:Int)*(m:Int)<=1000000/\0<=(m:Int)*(m:Int):=by
 have E:m*m<=1000*1000:=xK h h;have G:(m:Int)*(m:Int)=((m*m:Nat):Int):=(yj m m).symm;omega
noncomputable def nd(x:Rat):Int:=if need x<=1000 then(need x:Int)else 0
noncomputable def nb(x:Rat):Bool:=decide (need x<=1000)
theorem am3(x:Rat)(hx:Ln 24 x):fn ZM conv ext 76 [.tp (cQ x) 0]=some (.AX [I (nd x),Bo (nb x)]):=by
 rw[mJ,nC [.tmp 2,.tmp 3] [] func76];simp only[go_sem];generalize J:iI _ _=y;obtain⟨r,rfl,T,σ,nx,hr⟩:=oZ J 1001 (fun k st=>st.T 0= .tp (cQ x) 0/\st.T 5=I k/\∀m,m<k->sqr m<x)
  (fun r=>∃T σ nx,(r=(.exit 0,⟨T,σ,nx⟩)/\need x=1001)\/(r=(.ret,⟨T,σ,nx⟩)/\T 2=I (need x)/\T 3=Bo true/\need x<=1000)) (by
   clear J;rintro k ⟨T,σ,nx⟩ hk ⟨t0,t5,E⟩;simp only at t0 t5;have f1:(k:Int)<1001:=by omega
   have f3:=ZU (n:=(k:Int)+1);obtain⟨b1,b2,b3⟩:=am2 k (by omega);have w1:=ZU (n:=(k:Int)*(k:Int));have O:=kD ((k:Int)*(k:Int)) (by omega) (by omega);have G:=anI (((k:Int)*(k:Int):Int):Rat) x ((sG (by omega)).mono (by decide)) (hx.mono (by decide));have hc:=UQ (((k:Int)*(k:Int):Int):Rat) x;obtain⟨m2,S⟩:∃m2,m2=cQ (((k:Int)*(k:Int):Int):Rat):=⟨_,rfl⟩;obtain⟨z,ez⟩:∃z,z=Ar ((((k:Int)*(k:Int):Int):Rat).num*x.den) (x.num*(((k:Int)*(k:Int):Int):Rat).den):=⟨_,rfl⟩;rw[<- S]at O G;rw[<- ez]at G hc
   by_cases hz:0<=z
   .have hn:need x=k:=ado ⟨by omega,E,.inr fun h=>by have:=hc.mpr h;omega⟩
    refine .inr ⟨_,by simp only[go_sem,t0,t5,f1,w1,O,G,hz];rfl,by simp,_,_,_,.inr ⟨rfl,by simp only[go_sem,hn],by simp only[go_sem],by omega⟩⟩
   .refine .inl ⟨_,by simp only[go_sem,t0,t5,f1,f3,w1,O,G,hz];rfl,?_⟩
    simp only[go_sem,t0];refine⟨rfl,fun m hm=>?_⟩
    by_cases e:m=k
    .subst e;exact hc.mp (by omega)
    .exact E m (by omega)) (by
   clear J;rintro ⟨T,σ,nx⟩ ⟨t0,t5,E⟩;simp only at t0 t5;have e:((1001:Nat):Int)=1001:=rfl;rw[e]at t5;exact⟨_,by simp only[go_sem,t5,zi];rfl,by simp,_,_,_,.inl ⟨rfl,ado ⟨zq _,E,.inl rfl⟩⟩⟩) (by
   simp only[go_sem];exact fun m hm=>absurd hm (zW m))
 rcases hr with ⟨rfl,hn⟩|⟨rfl,t2,t3,hn⟩
 .have Y:nd x=0:=by unfold nd;rw[sQ (by omega)]
  have e2:nb x=false:=by unfold nb;exact sH (by omega)
  rw[Y,e2];simp only[go_sem]
 .have Y:nd x=need x:=by unfold nd;rw[sO hn]
  have e2:nb x=true:=by unfold nb;exact sJ hn
  rw[Y,e2];simp only[go_sem,t2,t3]
noncomputable def Js(O:Option (List Rat)):Option (List Int):=O.bind fun xs=>if xs.all nb=true then some (xs.map nd)else none
theorem Yw{α:Type}{p:α->Bool}{xs:List α}{k:Nat}(E:k<xs.length)(h:(xs.take k).all p=true)(hp:p xs[k]=true):(xs.take (k+1)).all p=true:=by
 rw[aJ E,List.all_append,h];simp[hp]
theorem aqZ{α:Type}{p:α->Bool}{xs:List α}{k:Nat}(E:k<xs.length)(hp:p xs[k]=false):xs.all p=false:=by
 cases h:xs.all p with
 |false=>rfl
 |true=>
  rw[wV]at h;rw[h _ (zu E)]at hp;cases hp
end Go.Proofs.YtjknobpihkmilaaGreat
/- A plan's line: the names of its aI,joined. -/
namespace Go.Proofs.YtjknobpihkmilaaGreat
open Go Go.TV Go.Plan
attribute [-go_sem] qy
theorem afK{y:BZ}{plan:List Int}(h:EF y plan=true):AU y/\plan≠[]/\∀k (E:k<plan.length),∃j:Nat,plan[k]=(j:Int)/\j<y.aI.length:=by
 unfold EF at h;simp only[zM,decide_eq_true_eq,wV,List.mem_range]at h;obtain⟨J,O,S⟩:=h;refine⟨iy J,O,fun k E=>?_⟩;have G:=S k E;unfold Hw at G;rw[zM,zx,zy E]at G;have Y:=kK G.1;simp only[yG]at Y;exact⟨plan[k].toNat,by omega,by omega⟩
end Go.Proofs.YtjknobpihkmilaaGreat
/- Needs of a ajB: both sides. -/
namespace Go.Proofs.YtjknobpihkmilaaGreat
open Go Go.TV Go.Lp
attribute [-go_sem] qy
theorem am4(W:List Int)(i:Nat)(x:Int):(W.flatMap cI).set i (I x)=(W.set i x).flatMap cI:=by rw[jP,jP,List.map_set]
theorem Py(x:Int):fn ZM conv ext 43 [I x]=some (Bo (x==0)):=by
 rw[mJ,nC [.tmp 2] [] func43];simp only[go_sem]
def nz(x:Int):Bool:=!(x==0)
theorem adp{xs:List Int}{j:Nat}(E:j<xs.length):(xs.take (j+1)).filter nz=if nz xs[j]=true then(xs.take j).filter nz++[xs[j]]else(xs.take j).filter nz:=by
 rw[aJ E,tH]
 by_cases h:nz xs[j]=true
 .rw[sO h,List.filter_cons_of_pos h];rfl
 .rw[sQ h,List.filter_cons_of_neg h,List.filter_nil,zH]
theorem Yx{σ:Store}{nx b:Nat}{xs:List Int}{n:Nat}(hb:σ b=some ⟨xs.flatMap cI,1,true⟩)(hn:xs.length=n)(hl:n<=1000) :
  ∃σ' zs,ev ZM Cb D7 42 [.rs b 0 n,.clo 43 []] σ nx=some (.rs b 0 (xs.filter nz).length,σ',nx)/\σ' b=some ⟨(xs.filter nz++zs).flatMap cI,1,true⟩/\∀c,c≠b->σ' c=σ c:=by
 have k1:=indexInt xs (.nil) 43 (fun x=>x==0) (by unfold maxLen;omega) (by rfl) (fun x _=>Py x);have k2:=Py;have st:=fun d=>kJ hb hn d
 rw[nC [.tmp 4] [] func42]
 by_cases J:∀i (h:i<xs.length),(fun x:Int=>x==0) xs[i]=false
 .rw[jw J]at k1
  have e1:((-1:Int)== -1)=true:=rfl;have ef:xs.filter nz=xs:=List.filter_eq_self.mpr fun x hx=>by
   obtain⟨i,hi,rfl⟩:=zA hx;have:=J i hi;simp only at this;unfold nz;rw[this];rfl
  rw[ef];refine⟨σ,[],?_,by rw[zH];exact hb,fun _ _=>rfl⟩;simp only[go_sem,st,k1,e1,hn]
 .obtain⟨i,hi,a7,hz⟩:∃i,∃hi:i<xs.length,(∀m (h:m<xs.length),m<i->(fun x:Int=>x==0) xs[m]=false)/\(fun x:Int=>x==0) xs[i]=true:=by
   have hex:∃i,∃hi:i<xs.length,(fun x:Int=>x==0) xs[i]=true:=by
    apply zf;intro b4;refine J fun i hi=>?_
    cases h:(fun x:Int=>x==0) xs[i]with
    |false=>rfl
    |true=>exact absurd ⟨i,hi,h⟩ b4
   obtain⟨i,⟨hi,h1⟩,h2⟩:=Go.Plan.least hex;refine⟨i,hi,fun m hm b8=>?_,h1⟩;cases h:(fun x:Int=>x==0) xs[m]with
   |false=>rfl
   |true=>have:=h2 m ⟨hm,h⟩;omega
  rw[kC hi a7 hz]at k1;have e1:((i:Int)== -1)=false:=by rw[sN];omega
  have w1:=ZU (n:=(i:Int)+1);have ei:(xs.take i).filter nz=xs.take i:=List.filter_eq_self.mpr fun x hx=>by
   obtain⟨m,hm,rfl⟩:=zA hx;rw[zh]at hm;rw[vS];have:=a7 m (by omega) (by omega);simp only at this;unfold nz;rw[this];rfl
  have O:(xs.take (i+1)).filter nz=xs.take i:=by
   rw[adp hi,ei,sQ];simp only at hz;unfold nz;rw[hz];simp
  simp only[go_sem,st,k1,e1,w1];generalize hL:iI _ _=y;obtain⟨r,rfl,T,σ',W,j,rfl,t0,t5,h1,h2,h3,h4,h5⟩:=jS hL (fun m st=>∃T σ' W,∃E j:Nat,st=⟨T,σ',nx⟩/\m=n-j/\j<=n/\E<j/\T 0= .rs b 0 n/\T 1= .clo 43 []/\T 5=I E/\T 6=I j/\σ' b=some ⟨(W:List Int).flatMap cI,1,true⟩/\W.length=n/\W.take E=(xs.take j).filter nz/\W.drop j=xs.drop j/\∀c,c≠b->σ' c=σ c)
   (fun r=>∃T σ' W,∃E:Nat,r=(.exit 0,⟨T,σ',nx⟩)/\T 0= .rs b 0 n/\T 5=I E/\E<n/\σ' b=some ⟨(W:List Int).flatMap cI,1,true⟩/\W.length=n/\W.take E=xs.filter nz/\∀c,c≠b->σ' c=σ c) (by
    clear hL;rintro m _ ⟨T,σ',W,E,j,rfl,rfl,b9,c0,t0,t1,t5,t6,hs,hW,ht,hd,hf⟩
    by_cases hj:j<n
    .have f1:(j:Int)<(n:Int):=by omega
     have f2:=jF j;have f3:=ZU (n:=(j:Int)+1);have f4:=ZU (n:=(E:Int)+1);have f5:(E:Int)<(n:Int):=by omega
     have f6:(0:Int)<=(E:Int):=by omega
     have a8:j<W.length:=by omega
     have b5:E<W.length:=by omega
     have g4:=idx (xs:=W) (k:=j) a8;have g5:(W.flatMap cI).length=n:=by rw[qN,hW]
     have b2:W[j]=xs[j]'(by omega):=by
      have h1:=yS a8;have h2:=yS (l:=xs) (i:=j) (by omega);rw[hd,h2]at h1;exact(List.cons.inj h1).1.symm
     have a1:W.drop (j+1)=xs.drop (j+1):=by rw[<- uD,<- uD,hd]
     have hlen:((xs.take j).filter nz).length=E:=by rw[<- ht,zh];omega
     obtain⟨x,ex⟩:∃x,x=W[j]:=⟨_,rfl⟩;rw[<- ex]at g4 b2;have S:=k2 x;have G:=adp (xs:=xs) (j:=j) (by omega);rw[<- b2]at G;have b6:E<n:=by omega
     cases Y:x==0 with
     |true=>
      rw[Y]at S;have:nz x=false:=by unfold nz;rw[Y];rfl
      rw[this,sQ (by simp)]at G;refine .inl ⟨_,by simp only[go_sem,t0,t1,t5,t6,hs,f1,f2,f3,g4,g5,hj,S];rfl,n - (j+1),by omega,_,σ',W,E,j+1,rfl,rfl,by omega,by omega,?_⟩;simp only[go_sem,t0,t1,t5]
      first
       |exact⟨rfl,hs,hW,by rw[G];exact ht,a1,hf⟩
       |exact⟨hs,hW,by rw[G];exact ht,a1,hf⟩
     |false=>
      rw[Y]at S;have:nz x=true:=by unfold nz;rw[Y];rfl
      rw[this,sO rfl]at G;have sc:=am4 W E x;refine .inl ⟨_,by simp only[go_sem,t0,t1,t5,t6,hs,f1,f2,f3,f4,f5,f6,g4,g5,hj,b6,S,sc];rfl,n - (j+1),by omega,_,_,W.set E x,E+1,j+1,rfl,rfl,by omega,by omega,?_⟩;simp only[go_sem,t0,t1];have q1:(W.set E x).take (E+1)=(xs.take (j+1)).filter nz:=by
       rw[G,<- ht,List.take_set,aJ b5,List.set_append,sQ (by rw[zh];omega)];have:E - (W.take E).length=0:=by rw[zh];omega
       rw[this];rfl
      have q2:(W.set E x).drop (j+1)=xs.drop (j+1):=by rw[List.drop_set_of_lt (by omega),a1]
      have q3:(W.set E x).length=n:=by rw[yP,hW]
      have q4:∀c,c≠b->upd σ' b (some ⟨(W.set E x).flatMap cI,1,true⟩) c=σ c:=fun c hc=>by rw[Zk _ _ hc];exact hf c hc
      exact⟨rfl,rfl,hW,q1,q2,q4⟩
    .have e:j=n:=by omega
     have f1:¬(j:Int)<(n:Int):=by omega
     refine .inr ⟨_,by simp only[go_sem,t0,t6,f1];rfl,by simp,_,_,W,E,rfl,?_⟩;simp only[go_sem,t0,t5];exact⟨by omega,hs,hW,by rw[ht,e,zl (by omega)],hf⟩) (n - (i+1)) (by
    refine⟨_,_,xs,i,i+1,rfl,rfl,by omega,by omega,?_⟩;simp only[go_sem]
    first
     |exact⟨rfl,hb,hn,O.symm,rfl,fun _ _=>rfl⟩
     |exact⟨hb,hn,O.symm,rfl,fun _ _=>rfl⟩
     |exact⟨rfl,hb,hn,O.symm,fun _ _=>trivial⟩
     |exact⟨hb,hn,O.symm,fun _ _=>trivial⟩)
  have i0:=jF j;have i1:j<=n:=by omega
  have i2:¬j=n:=by omega
  have i3:¬n-j=0:=by omega
  have i4:(j:Int).toNat=j:=zF _;have i5:(W.flatMap cI).length=n:=by rw[qN,h3]
  have i6:j+(n-j)<=n:=by omega
  have b3:(xs.filter nz).length=j:=by rw[<- h4,zh];omega
  have rc:(rep (n-j) [I 0]).all vI=true:=by
   have:rep (n-j) [I 0]=(List.replicate (n-j) (0:Int)).flatMap cI:=by simp[rep,uV]
   rw[this];exact qO _
  have pe:patch (W.flatMap cI) j (rep (n-j) [I 0])=(xs.filter nz++List.replicate (n-j) 0).flatMap cI:=by
   have hr:rep (n-j) [I 0]=(List.replicate (n-j) (0:Int)).flatMap cI:=by simp[rep,uV]
   have b7:(rep (n-j) [I 0]).length=n-j:=by rw[hr,qN,yU]
   rw[iH _ _ _ (by rw[b7,i5];omega),hr,zQ,<- h4,yA (by rw[i5,qN,yU];omega),zH];congr 1;rw[jP,jP,List.map_take]
  by_cases a6:j=0
  .have i7:(j=0)=True:=eq_true a6
   have n0:¬n=0:=by omega
   have i8:0+n<=n:=by omega
   have i9:n-j=n:=by omega
   rw[i9]at rc pe;rw[a6]at pe;have ia:j<=(xs.filter nz++List.replicate n (0:Int)).length:=by omega
   refine⟨_,List.replicate n 0,by simp only[go_sem,t0,t5,h2,i0,i1,i2,i4,i5,i7,i8,ia,n0,ET,rc,pe,b3];rfl,by rw[Zj],fun c hc=>by rw[Zk _ _ hc];exact h5 c hc⟩
  .have ia:j<=(xs.filter nz++List.replicate (n-j) (0:Int)).length:=by rw[zo];omega
   refine⟨_,List.replicate (n-j) 0,by simp only[go_sem,t0,t5,h2,i0,i1,i2,i3,i4,i5,i6,a6,ia,ET,rc,pe,b3];rfl,by rw[Zj],fun c hc=>by rw[Zk _ _ hc];exact h5 c hc⟩
end Go.Proofs.YtjknobpihkmilaaGreat
/- Needs of a ajB: the program's side,the reference's side,joined. -/
namespace Go.Proofs.YtjknobpihkmilaaGreat
open Go Go.TV Go.Lp
attribute [-go_sem] qy
theorem afL{s:Structure}(h:Bf s)(ho:Aj s){qs:List Rat}(hl:qs.length=s.members.length)(hL:∀q∈qs,Ln 24 q)(nx:Nat) :
  ∃G qI,(Js (B_ (Lu s qs))=none/\nx<=qI/\ev ZM Cb D7 41 [.agg (jI s),LL cQ qs] pI nx=some (.AX [.nil,Bo false],G,qI)) \/
   (∃L b,Js (B_ (Lu s qs))=some L/\L.length=s.members.length/\nx<=b/\b<qI/\ev ZM Cb D7 41 [.agg (jI s),LL cQ qs] pI nx=some (.AX [.rs b 0 L.length,Bo true],G,qI)/\G b=some ⟨L.flatMap cI,1,true⟩):=by
 have a8:=h.2.1;have S:=je h ho hl hL;unfold G6 at S;rw[nC [.tmp 4,.tmp 5] [] func41];cases hq:B_ (Lu s qs)with
 |none=>
  rw[hq]at S;refine⟨_,_,.inl ⟨rfl,?_,by simp only[go_sem,S];rfl⟩⟩;omega
 |some xs=>
 rw[hq]at S;have a1:xs.length=s.members.length:=by rw[dJ hq,bJ,hl]
 have e1:(8:Int)*(xs.length:Int)<=281474976710656:=by omega
 have e2:(xs.length:Int)<=9223372036854775807:=by omega
 have e3:(0:Int)<=(xs.length:Int):=by omega
 obtain⟨R,eR⟩:∃R,R=V.AX [LL cF xs,Bo true]:=⟨_,rfl⟩;obtain⟨N,eN⟩:∃N,N=xs.map nd:=⟨_,rfl⟩;have hN:N.length=xs.length:=by rw[eN,zT]
 simp only[go_sem,S,e1,e2,e3];generalize J:iI _ _=y;obtain⟨r,rfl,T,σ,m,hr⟩:=oZ J xs.length (fun k st=>st.T 8= .rs (nx+1) 0 xs.length/\st.T 21=LL cF xs/\st.T 22=I xs.length/\st.T 23=I k/\st.nx=nx+1+1/\st.σ (nx+1)=some ⟨mix cI [I 0] N xs.length k,1,true⟩/\(xs.take k).all nb=true)
  (fun r=>∃T σ m,m=nx+1+1/\((r=(.exit 0,⟨T,σ,m⟩)/\T 8= .rs (nx+1) 0 xs.length/\σ (nx+1)=some ⟨N.flatMap cI,1,true⟩/\xs.all nb=true)\/(r=(.ret,⟨T,σ,m⟩)/\T 4= .nil/\T 5=Bo false/\xs.all nb=false))) (by
   clear J;rintro k ⟨T,σ,m⟩ O ⟨t8,t21,t22,t23,hm,hs,E⟩;simp only at t8 t21 t22 t23 hm hs;subst hm;have g1:(k:Int)<(xs.length:Int):=by omega
   have g2:=jF k;have g3:=ZU (n:=(k:Int)+1);have g4:=qQ xs O;have g9:(xs.flatMap cF).length=xs.length:=qP xs;have Y:xs.flatMap cF≠[]:=fun e=>by rw[e]at g9;have:xs.length=0:=g9.symm;omega
   have hx:=aiS hq _ (zu O);have a6:k<N.length:=by omega
   have a7:N[k]=nd xs[k]:=by subst eN;simp
   have f7:=ab7 (c:=cI) (s:=1) (fun _=>rfl) (z:=[I 0]) rfl N k (by omega);have f8:(mix cI [I 0] N N.length k).set k (I N[k])=mix cI [I 0] N N.length (k+1):=akC (c:=I) N k a6;rw[a7]at f8;rw[hN]at f7 f8;obtain⟨x,ex⟩:∃x,x=xs[k]:=⟨_,rfl⟩;rw[<- ex]at g4 hx f8;have k2:=am3 x hx;obtain⟨q,eq⟩:∃q,q=cQ x:=⟨_,rfl⟩;rw[<- eq]at g4 k2;have sq:∀σ d,stripL (strip σ d) q=some (q,[]):=fun σ d=>by rw[eq];exact qH σ d _
   cases hb:nb x with
   |true=>
    rw[hb]at k2;refine .inl ⟨_,by simp only[go_sem,t8,t21,t22,t23,hs,g1,g2,g3,g4,g9,Y,O,f7,f8,k2,sq];rfl,?_⟩;simp only[go_sem,t8,t21,t22]
    first
     |exact⟨rfl,Yw O E (by rw[<- ex];exact hb)⟩
     |exact Yw O E (by rw[<- ex];exact hb)
   |false=>
    rw[hb]at k2;refine .inr ⟨_,by simp only[go_sem,t8,t21,t22,t23,hs,g1,g2,g4,g9,Y,O,f7,f8,k2,sq];rfl,by simp,_,_,_,rfl,.inr ⟨rfl,?_⟩⟩;simp only[go_sem];exact aqZ O (by rw[<- ex];exact hb)) (by
   clear J;rintro ⟨T,σ,m⟩ ⟨t8,t21,t22,t23,hm,hs,E⟩;simp only at t8 t21 t22 t23 hm hs;rw[zl (zq _)]at E;rw[<- hN,ag1]at hs;exact⟨_,by simp only[go_sem,t22,t23,zi];rfl,by simp,_,_,_,hm,.inl ⟨rfl,by simp only[go_sem,t8],hs,E⟩⟩) (by
   (simp only[go_sem,ag0 cI [I 0] N])<;>trivial)
 obtain⟨hm,hr⟩:=hr;subst hm;rcases hr with ⟨rfl,t8,hs,E⟩|⟨rfl,t4,t5,E⟩
 .have e:Js (some xs)=some N:=by unfold Js;rw[zk,sO E,eN]
  exact⟨σ,nx+1+1,.inr ⟨N,nx+1,e,by rw[hN,a1],by omega,by omega,by simp only[go_sem,t8,hN],hs⟩⟩
 .have e:Js (some xs)=none:=by unfold Js;rw[zk,sQ (by rw[E];simp)]
  exact⟨σ,nx+1+1,.inl ⟨e,by omega,by simp only[go_sem,t4,t5]⟩⟩
abbrev LG(t:CP)(o:Option (List Int)):Prop:=∀nx,∃E G,(o=none/\nx<=G/\ev ZM Cb D7 19 [.agg (Az t)] pI nx=some (.AX [.nil,Bo false],E,G)) \/
  (∃L J b,o=some L/\nx<=b/\b<G/\ev ZM Cb D7 19 [.agg (Az t)] pI nx=some (.AX [.rs b 0 L.length,Bo true],E,G)/\E b=some ⟨(L++J).flatMap cI,1,true⟩)
end Go.Proofs.YtjknobpihkmilaaGreat
/- Ints at the head of a block of one's own; marks of a ajB. -/
namespace Go.Proofs.YtjknobpihkmilaaGreat
open Go Go.TV
attribute [-go_sem] qy
def G9(σ:Store)(v:V)(L:List Int)(ids:List Nat):Prop:=(v= .nil/\L=[]/\ids=[])\/∃b E,v= .rs b 0 L.length/\ids=[b]/\σ b=some ⟨(L++E).flatMap cI,1,true⟩
section
variable {σ:Store} {v:V} {L:List Int} {ids:List Nat}
theorem G9.strip(h:G9 σ v L ids)(d:Nat):TV.strip σ (d+1) v=some (LI L,ids):=by
 rcases h with ⟨rfl,rfl,rfl⟩|⟨b,E,rfl,rfl,h⟩
 .rw[aT];rfl
 .rw[zQ]at h
  exact RD h rfl d
theorem G9.gather(h:G9 σ v L ids)(d:Nat):TV.gather σ (d+1) v=some ids:=by
 rcases h with ⟨rfl,rfl,rfl⟩|⟨b,E,rfl,rfl,h⟩
 .rfl
 .exact lN d h
theorem G9.frame{σ':Store}(h:G9 σ v L ids)(E:∀b∈ids,σ' b=σ b):G9 σ' v L ids:=by
 rcases h with ⟨rfl,rfl,rfl⟩|⟨b,G,rfl,rfl,h⟩
 .exact .inl ⟨rfl,rfl,rfl⟩
 .exact .inr ⟨b,G,rfl,rfl,by rw[E b (by simp)];exact h⟩
theorem G9.join{n:Nat}{E:Store}(h:G9 σ v L ids)(hn:∀b∈ids,n<=b):G9 (Ce n E σ ids) v L ids :=
 h.frame fun b hb=>jr (by have:=hn b hb;omega) hb
theorem G9.cell(h:G9 σ v L ids):vI v=true:=by
 rcases h with ⟨rfl,rfl,rfl⟩|⟨b,E,rfl,rfl,h⟩<;>rfl
end
theorem anV{t:CP}{o:Option (List Int)}(h:LG t o)(nx:Nat):∃v E G ids,ev ZM Cb D7 19 [.agg (Az t)] pI nx=some (.AX [v,Bo o.isSome],E,G)/\nx<=G/\G9 E v (o.getD []) ids/\∀b∈ids,nx<=b/\b<G:=by
 obtain⟨E,G,⟨rfl,hn,k⟩|⟨L,J,b,rfl,O,S,k,hs⟩⟩:=h nx
 .exact⟨_,_,_,[],k,hn,.inl ⟨rfl,rfl,rfl⟩,by simp⟩
 .exact⟨_,_,_,[b],k,by omega,.inr ⟨b,J,rfl,rfl,hs⟩,fun c hc=>by rw[List.mem_singleton.mp hc];exact⟨O,S⟩⟩
end Go.Proofs.YtjknobpihkmilaaGreat
/- What a plan that is found proves,and what follows if none is found. -/
namespace Go.Proofs.YtjknobpihkmilaaGreat
open Go Go.TV Go.Plan
theorem abX{y:BZ}{fr to:Int}(a6:CJ y fr to=true)(k:Nat)(h:k<(BF y fr to).length) :
  (BF y fr to)[k]∉(BF y fr to).take k/\(BF y fr to)[k]∈anO y/\(∀(h0:0<k),(BF y fr to)[k]∈nextL y ((BF y fr to)[k-1]'(by omega))):=by
 obtain⟨hG,a,t,d,rfl,rfl,ha,ht,hd,e⟩:=gu a6;have J:∀i,Dk (Aq y) i=true->i<y.aI.length:=fun i hi=>by have:=rG hi;rw[dL]at this;exact this
 obtain⟨at_,S⟩:∃at_,at_=Ve (Ea y) (dst (Ea y) (Dk (Aq y)) t) y.aI.length a:=⟨_,rfl⟩;have O:∀k:Nat,k<=d->dst (Ea y) (Dk (Aq y)) t (at_ k)=(d:Int) - k:=fun k hk=>by
  have:=kE J (mv:=Ea y) (to:=t) (a:=a) k (by rw[hd];omega);rw[hd]at this;rw[S];exact this
 have E:∀k:Nat,k<=d->Dk (Aq y) (at_ k)=true:=fun k hk=>(OJ (mv:=Ea y) (al:=Dk (Aq y)) (to:=t) (i:=at_ k) (by rw[O k hk];omega)).1
 have a7:∀k:Nat,k+1<=d->Ea y (at_ k) (at_ (k+1))=true:=fun k hk=>by
  have h1:=(Ut J (mv:=Ea y) (to:=t) (a:=at_ k) (by rw[O k (by omega)];omega)).2.1;have Y:at_ (k+1)=Jv (Ea y) (dst (Ea y) (Dk (Aq y)) t) y.aI.length (at_ k):=by rw[S];rfl
  rw[Y];exact h1
 have hlen:(BF y (a:Int) (t:Int)).length=d+1:=by rw[e];simp[AB]
 have G:∀k (hk:k<(BF y (a:Int) (t:Int)).length),(BF y (a:Int) (t:Int))[k]=((at_ k:Nat):Int):=fun k hk=>by
  simp[e,<- S,AB]
 refine⟨fun hm=>?_,?_,fun h0=>?_⟩
 .obtain⟨j,hj,a1⟩:=zA hm
  rw[vS]at a1;rw[zh]at hj;rw[G j (by omega),G k h]at a1;have h1:at_ j=at_ k:=by omega
  have Y:=O j (by omega);have h3:=O k (by omega);rw[h1,h3]at Y;omega
 .rw[G k h]
  unfold anO;rw[sO (iC hG),UJ];exact⟨J _ (E k (by omega)),E k (by omega)⟩
 .rw[G k h,G (k-1) (by omega)]
  have h1:=J _ (E (k-1) (by omega));have Y:=a7 (k-1) (by omega);rw[show k-1+1=k by omega]at Y;unfold nextL;rw[sO ⟨iC hG,by omega,by omega⟩,UJ];exact⟨J _ (E k (by omega)),Y⟩
end Go.Proofs.YtjknobpihkmilaaGreat
/- Hg: what can be used,whether it suffices. -/
namespace Go.Proofs.YtjknobpihkmilaaGreat
open Go Go.TV
attribute [-go_sem] qy
def us(x:TV.Item)(n d:Int):Bool:=decide (n<=x.limit) && decide (d<=x.expires)
theorem adq(x:TV.Item)(n d:Int):fn ZM conv ext 70 [.agg (BG x),I n,I d]=some (Bo (us x n d)):=by
 unfold us;rw[mJ,nC [.tmp 6] [] func70]
 by_cases E:n<=x.limit
 .by_cases G:d<=x.expires<;>simp only[go_sem,E,G]
 .simp only[go_sem,E]
  try rfl
def itm(xs:List TV.Item)(k:Nat):TV.Item:=xs.getD k ⟨⟨#[]⟩,0,0⟩
theorem adr{xs:List TV.Item}{k:Nat}(h:k<xs.length):itm xs k=xs[k]:=by unfold itm;rw[zx,zy h];rfl
def Fz(xs:List TV.Item)(tp:Nat->Bool)(n d:Int):Nat->Nat
 |0=>0
 |k+1=>Fz xs tp n d k+(if(!tp k && us (itm xs k) n d)=true then 1 else 0)
def Jt(needs:List Int)(n:Int):Nat->Nat
 |0=>0
 |k+1=>Jt needs n k+(if n<=needs.getD k 0 then 1 else 0)
theorem ads(xs:List TV.Item)(tp:Nat->Bool)(n d:Int):∀k,Fz xs tp n d k<=k
 |0=>zq _
 |k+1=>by
  have:=ads xs tp n d k;unfold Fz
  split<;>omega
theorem U5(needs:List Int)(n:Int):∀k,Jt needs n k<=k
 |0=>zq _
 |k+1=>by
  have:=U5 needs n k;unfold Jt
  split<;>omega
def enB(xs:List TV.Item)(tp:Nat->Bool)(needs:List Int)(d:Int)(j:Nat):Bool:=decide (Jt needs (needs.getD j 0) needs.length<=Fz xs tp (needs.getD j 0) d xs.length)
def Dj(xs:List TV.Item)(tp:Nat->Bool)(needs:List Int)(d:Int):Bool:=(List.range needs.length).all (enB xs tp needs d)
theorem lH{l:List Int}{k:Nat}(h:k<l.length):l.getD k 0=l[k]:=by rw[zx,zy h];rfl
theorem Pz{xs:List TV.Item}{tp:Nat->Bool}{needs:List Int}{d:Int}(h:∀i,i<needs.length->enB xs tp needs d i=true):Dj xs tp needs d=true:=KE h
theorem afM{xs:List TV.Item}{tp:Nat->Bool}{needs:List Int}{d:Int}{k:Nat}(E:k<needs.length)(h:enB xs tp needs d k=false):Dj xs tp needs d=false:=Jr E h
def am5:=d_ (c:=BG) (s:=3) (fun _=>rfl)
def am6:=bg (c:=BG) (s:=3) (fun _=>rfl) (by omega)
def adt:=bZ (c:=BG) (s:=3) (fun _=>rfl)
theorem adu(xs:List TV.Item)(E:List Bool)(needs:List Int)(d:Int)(hx:xs.length<=12)(hn:needs.length<=12)(ht:E.length=xs.length) :
  fn ZM conv ext 71 [LL BG xs,LL D8 E,LI needs,I d]=some (Bo (Dj xs (Dk E) needs d)):=by
 rw[mJ,nC [.tmp 8] [] func71];simp only[go_sem];generalize S:iI _ _=y;obtain⟨r,rfl,T,σ,nx,hr⟩:=oZ S needs.length (fun j st=>st.T 0=LL BG xs/\st.T 1=LL D8 E/\st.T 2=LI needs/\st.T 3=I d/\st.T 17=LI needs/\st.T 18=I needs.length/\st.T 19=I j/\∀i,i<j->enB xs (Dk E) needs d i=true)
  (fun r=>∃T σ nx,(r=(.exit 0,⟨T,σ,nx⟩)/\Dj xs (Dk E) needs d=true)\/(r=(.ret,⟨T,σ,nx⟩)/\T 8=Bo false/\Dj xs (Dk E) needs d=false)) (by
   clear S;rintro j ⟨T,σ,nx⟩ hj ⟨t0,t1,t2,t3,t17,G,t19,a1⟩;simp only at t0 t1 t2 t3 t17 G t19;have f1:(j:Int)<(needs.length:Int):=by omega
   have f2:=jF j;have f3:=ZU (n:=(j:Int)+1);have f4:=idx (xs:=needs) (k:=j) hj;have f9:=Ba needs j hj;have a6:=lH hj;obtain⟨n,en⟩:∃n,n=needs[j]:=⟨_,rfl⟩;rw[<- en]at f4 a6;refine bD ?_
   conv=>
    enter [1,r,1,1]
    simp only[go_sem,t0,t1,t2,t3,t17,G,t19,f1,f2,f4,f9,hj]
   generalize S:iI _ _=z;obtain⟨r,rfl,T1,c0,qI,rfl,u0,u1,u2,u3,b2,a7,b3,b4,b5,b6⟩:=oZ S xs.length (fun k st=>st.T 0=LL BG xs/\st.T 1=LL D8 E/\st.T 2=LI needs/\st.T 3=I d/\st.T 10=I n/\st.T 11=I (Fz xs (Dk E) n d k)/\st.T 12=I 0/\st.T 17=LI needs/\st.T 18=I needs.length/\st.T 19=I j/\st.T 23=LL BG xs/\st.T 24=I xs.length/\st.T 25=I k)
    (fun r=>∃T σ nx,r=(.exit 2,⟨T,σ,nx⟩)/\T 0=LL BG xs/\T 1=LL D8 E/\T 2=LI needs/\T 3=I d/\T 10=I n/\T 11=I (Fz xs (Dk E) n d xs.length)/\T 12=I 0/\T 17=LI needs/\T 18=I needs.length/\T 19=I j) (by
     clear S;rintro k ⟨T,σ,nx⟩ O ⟨t0,t1,t2,t3,t10,t11,t12,t17,G,t19,t23,t24,t25⟩;simp only at t0 t1 t2 t3 t10 t11 t12 t17 G t19 t23 t24 t25;have g1:(k:Int)<(xs.length:Int):=by omega
     have g2:=jF k;have g3:=ZU (n:=(k:Int)+1);have g4:=am5 xs k O;have g5:=adt xs;have g6:k*3+3<=xs.length*3:=by omega
     have g9:=am6 xs k O;have J:k<E.length:=by omega
     have i1:(k:Int)<(E.length:Int):=by omega
     have i4:(E.flatMap D8)[k]?=some (Bo (Dk E k)):=by rw[rH J];exact cu (fun b=>Bo b) E k J
     have i5:=Ht E;have i9:=ahp E k J;have hle:=ads xs (Dk E) n d k;have w1:=ZU (n:=(Fz xs (Dk E) n d k:Int)+1);have k1:=adq xs[k] n d;have hs:Fz xs (Dk E) n d (k+1)=Fz xs (Dk E) n d k+(if(!Dk E k && us xs[k] n d)=true then 1 else 0):=by rw[<- adr O];rfl
     obtain⟨x,ex⟩:∃x,x=xs[k]:=⟨_,rfl⟩;rw[<- ex]at g4 k1 hs;have y1:nx<nx+1:=by omega
     cases hb:Dk E k with
     |true=>
      rw[hb]at i4 hs;rw[show Fz xs (Dk E) n d (k+1)=Fz xs (Dk E) n d k from hs];refine .inl ⟨_,by simp only[go_sem,t0,t1,t3,t10,t11,t23,t24,t25,g1,g2,g3,g4,g5,g6,g9,O,i1,i4,i5,i9,J,y1];rfl,?_⟩;simp only[go_sem,t0,t1,t2,t3,t10,t11,t12,t17,G,t19,t23,t24]
      try trivial
     |false=>
      rw[hb]at i4 hs;cases hu:us x n d with
      |true=>
       rw[hu]at k1 hs;rw[show Fz xs (Dk E) n d (k+1)=Fz xs (Dk E) n d k+1 from hs];refine .inl ⟨_,by simp only[go_sem,t0,t1,t3,t10,t11,t23,t24,t25,g1,g2,g3,g4,g5,g6,g9,O,i1,i4,i5,i9,J,y1,k1,w1];rfl,?_⟩;simp only[go_sem,t0,t1,t2,t3,t10,t12,t17,G,t19,t23,t24]
       try trivial
      |false=>
       rw[hu]at k1 hs;rw[show Fz xs (Dk E) n d (k+1)=Fz xs (Dk E) n d k from hs];refine .inl ⟨_,by simp only[go_sem,t0,t1,t3,t10,t11,t23,t24,t25,g1,g2,g3,g4,g5,g6,g9,O,i1,i4,i5,i9,J,y1,k1];rfl,?_⟩;simp only[go_sem,t0,t1,t2,t3,t10,t11,t12,t17,G,t19,t23,t24]
       try trivial) (by
     clear S;rintro ⟨T,σ,nx⟩ ⟨t0,t1,t2,t3,t10,t11,t12,t17,G,t19,t23,t24,t25⟩;simp only at t0 t1 t2 t3 t10 t11 t12 t17 G t19 t23 t24 t25;refine⟨_,by simp only[go_sem,t24,t25,zi];rfl,by simp,_,_,_,rfl,?_⟩;simp only[go_sem,t0,t1,t2,t3,t10,t11,t12,t17,G,t19]
     try trivial) (by
     simp only[go_sem,t0,t1,t2,t3,t17,G,t19]
     try exact⟨rfl,rfl⟩
     try rfl)
   conv=>
    enter [1,r,1,1]
    simp only[go_sem,u2]
   generalize S:iI _ _=z;obtain⟨C,eC⟩:∃C,C=Fz xs (Dk E) n d xs.length:=⟨_,rfl⟩;rw[<- eC]at a7;obtain⟨r,rfl,T2,σ2,CU,rfl,v0,v1,v2,v3,v10,v11,v12,b7,b8,b9⟩:=oZ S needs.length (fun k st=>st.T 0=LL BG xs/\st.T 1=LL D8 E/\st.T 2=LI needs/\st.T 3=I d/\st.T 10=I n/\st.T 11=I C/\st.T 12=I (Jt needs n k)/\st.T 17=LI needs/\st.T 18=I needs.length/\st.T 19=I j/\st.T 44=LI needs/\st.T 45=I needs.length/\st.T 46=I k)
    (fun r=>∃T σ nx,r=(.exit 4,⟨T,σ,nx⟩)/\T 0=LL BG xs/\T 1=LL D8 E/\T 2=LI needs/\T 3=I d/\T 10=I n/\T 11=I C/\T 12=I (Jt needs n needs.length)/\T 17=LI needs/\T 18=I needs.length/\T 19=I j) (by
     clear S;rintro k ⟨T,σ,nx⟩ O ⟨t0,t1,t2,t3,t10,t11,t12,t17,G,t19,t44,t45,t46⟩;simp only at t0 t1 t2 t3 t10 t11 t12 t17 G t19 t44 t45 t46;have g1:(k:Int)<(needs.length:Int):=by omega
     have g2:=jF k;have g3:=ZU (n:=(k:Int)+1);have g4:=idx (xs:=needs) (k:=k) O;have g9:=Ba needs k O;have hle:=U5 needs n k;have w1:=ZU (n:=(Jt needs n k:Int)+1);have hs:Jt needs n (k+1)=Jt needs n k+(if n<=needs[k]then 1 else 0):=by rw[<- lH O];rfl
     obtain⟨x,ex⟩:∃x,x=needs[k]:=⟨_,rfl⟩;rw[<- ex]at g4 hs
     by_cases Y:n<=x
     .rw[sO Y]at hs
      rw[hs];refine .inl ⟨_,by simp only[go_sem,t10,t12,t44,t45,t46,g1,g2,g3,g4,g9,O,Y,w1];rfl,?_⟩;simp only[go_sem,t0,t1,t2,t3,t10,t11,t17,G,t19,t44,t45]
      try trivial
     .rw[sQ Y]at hs
      rw[hs];refine .inl ⟨_,by simp only[go_sem,t10,t12,t44,t45,t46,g1,g2,g3,g4,g9,O,Y];rfl,?_⟩;simp only[go_sem,t0,t1,t2,t3,t10,t11,t12,t17,G,t19,t44,t45]
      try trivial) (by
     clear S;rintro ⟨T,σ,nx⟩ ⟨t0,t1,t2,t3,t10,t11,t12,t17,G,t19,t44,t45,t46⟩;simp only at t0 t1 t2 t3 t10 t11 t12 t17 G t19 t44 t45 t46;refine⟨_,by simp only[go_sem,t45,t46,zi];rfl,by simp,_,_,_,rfl,?_⟩;simp only[go_sem,t0,t1,t2,t3,t10,t11,t12,t17,G,t19]
     try trivial) (by
     simp only[go_sem,u0,u1,u2,u3,b2,a7,b3,b4,b5,b6]
     try exact⟨rfl,rfl⟩
     try rfl)
   have a8:enB xs (Dk E) needs d j=decide (Jt needs n needs.length<=C):=by unfold enB;rw[a6,eC]
   by_cases hc:(C:Int)<((Jt needs n needs.length:Nat):Int)
   .have e2:enB xs (Dk E) needs d j=false:=by rw[a8];exact sH (by omega)
    refine⟨_,by simp only[go_sem,v11,v12,hc];rfl,.inr ⟨by simp,_,_,_,.inr ⟨rfl,by simp only[go_sem],afM hj e2⟩⟩⟩
   .have e2:enB xs (Dk E) needs d j=true:=by rw[a8];exact sJ (by omega)
    refine⟨_,by simp only[go_sem,v11,v12,b9,hc,f3];rfl,.inl ⟨_,rfl,?_⟩⟩;simp only[go_sem,v0,v1,v2,v3,b7,b8];refine⟨rfl,fun i hi=>?_⟩
    by_cases e:i=j
    .rw[e];exact e2
    .exact a1 i (by omega)) (by
   clear S;rintro ⟨T,σ,nx⟩ ⟨t0,t1,t2,t3,t17,G,t19,a1⟩;simp only at t0 t1 t2 t3 t17 G t19;exact⟨_,by simp only[go_sem,G,t19,zi];rfl,by simp,_,_,_,.inl ⟨rfl,Pz a1⟩⟩) (by
   simp only[go_sem]
   first
    |exact fun i hi=>absurd hi (zW _)
    |exact⟨rfl,fun i hi=>absurd hi (zW _)⟩)
 rcases hr with ⟨rfl,h⟩|⟨rfl,t8,h⟩
 .rw[h];simp only[go_sem]
 .rw[h];simp only[go_sem,t8]
end Go.Proofs.YtjknobpihkmilaaGreat
/- Whether items that are not taken suffice: the reference. -/
namespace Go.Proofs.YtjknobpihkmilaaGreat
open Go Go.TV
attribute [-go_sem] qy
def Vj(out:List Int)(k:Nat):Bool:=decide ((k:Int)∈out)
end Go.Proofs.YtjknobpihkmilaaGreat
/- aAo: valid ones,both sides. -/
namespace Go.Proofs.YtjknobpihkmilaaGreat
open Go Go.TV
attribute [-go_sem] qy
theorem afN(xs:List TV.Item)(c:V)(g:FuncId)(p:TV.Item->Bool)(t:V)(h:xs.length<=maxLen)(hc:conv g= .KI)(ht:strip pI 7 t=some (t,[]))(hg:∀x∈xs,fn ZM conv ext g [.agg (BG x),t]=some (Bo (p x))) :
  fn ZM conv ext 141 [LL BG xs,.clo g [t]]=some (I (ix p xs)):=by
 have e2:(xs.length:Int)<=9223372036854775807:=by unfold maxLen at h;omega
 rw[mJ,nC [.tmp 4] [] func141];simp only[go_sem];generalize hL:iI _ _=y;obtain⟨r,rfl,hr⟩:=oZ hL xs.length (fun k st=>st.nx=0/\st.σ=pI/\st.T 0=LL BG xs/\st.T 1= .clo g [t]/\st.T 7=I xs.length/\st.T 8=I k/\∀i (h:i<xs.length),i<k->p xs[i]=false)
  (fun r=>(∃T,r=(.exit 0,⟨T,pI,0⟩)/\ix p xs= -1)\/(∃T,r=(.ret,⟨T,pI,0⟩)/\T 4=I (ix p xs))) (by
   clear hL;rintro k ⟨T,σ,nx⟩ E ⟨hn,G,S,J,O,Y,hi⟩;simp only at hn G S J O Y;subst hn G;have f1:(k:Int)<(xs.length:Int):=by omega
   have f2:=jF k;have f3:=ZU (n:=(k:Int)+1);have f4:=am5 xs k E;have f5:=adt xs;have f6:k*3+3<=xs.length*3:=by omega
   have f9:=am6 xs k E;have f10:=hg xs[k] (zu E);cases hp:p xs[k]with
   |true=>
    rw[hp]at f10;refine .inr ⟨_,by simp only[go_sem,S,J,O,Y,f1,f2,f4,f5,f6,f9,f10,hc,ht];rfl,by simp,.inr ⟨_,rfl,?_⟩⟩;simp only[go_sem];rw[kC E hi hp]
   |false=>
    rw[hp]at f10;refine .inl ⟨_,by simp only[go_sem,S,J,O,Y,f1,f2,f3,f4,f5,f6,f9,f10,hc,ht];rfl,?_⟩;simp only[go_sem,S,J,O];exact⟨rfl,jv E hi hp⟩) (by
   clear hL;rintro ⟨T,σ,nx⟩ ⟨hn,G,S,J,O,Y,hi⟩;simp only at hn G S J O Y;subst hn G;exact⟨_,by simp only[go_sem,O,Y,zi];rfl,by simp,.inl ⟨_,rfl,jw fun i h=>hi i h h⟩⟩) (by
   simp only[go_sem];exact fun i _ h=>absurd h (zW _))
 rcases hr with ⟨T,rfl,J⟩|⟨T,rfl,J⟩
 .simp only[go_sem,J]
 .simp only[go_sem,J]
def Ju(x y:TV.Item):Bool:=y.name.toList==x.name.toList
theorem U7(x y:TV.Item):fn ZM conv ext 142 [.agg (BG y),.tp (BG x) 0]=some (Bo (Ju x y)):=by
 unfold Ju;rw[mJ,nC [.tmp 3] [] func142];simp only[go_sem]
noncomputable def PD(x:TV.Item):Bool:=pb (DJ x.name) && (inB x.limit 0 1000 && inB x.expires 0 10000)
theorem am7(x:TV.Item)(h:H_ x):fn ZM conv ext 140 [.agg (BG x)]=some (Bo (PD x)):=by
 have E:=Tj x.name h.1;have G:=ab8 x.limit;unfold PD;generalize pb (DJ x.name)=b1 at *;generalize inB x.limit 0 1000=O at *;rw[mJ,nC [.tmp 2] [] func140];cases b1 with
 |false=>simp only[go_sem,E,wM]
 |true=>
  cases O with
  |false=>simp only[go_sem,E,G,wM,xY]
  |true=>
   unfold inB
   by_cases J:0<=x.expires
   .by_cases S:x.expires<=10000<;>simp only[go_sem,E,G,J,S,xY]
   .simp only[go_sem,E,G,J,xY]
    try rfl
def EY(xs:List TV.Item):Prop:=xs.length<=12/\∀i (h:i<xs.length),PD xs[i]=true/\ix (Ju xs[i]) xs=i
theorem dK(x:TV.Item):Ju x x=true:=by unfold Ju;simp
theorem ajD(xs:List TV.Item)(h:okL 32 H_ xs):fn ZM conv ext 106 [LL BG xs]=some (Bo (pb (EY xs))):=by
 rw[mJ,nC [.tmp 2] [] func106]
 by_cases c1:(12:Int)<xs.length
 .rw[iD (fun hn=>by have:=hn.1;omega)]
  simp only[go_sem,c1]
 simp only[go_sem,c1];generalize S:iI _ _=y;obtain⟨r,rfl,T,σ,nx,hr⟩:=oZ S xs.length (fun k st=>st.T 0=LL BG xs/\st.T 8=LL BG xs/\st.T 9=I xs.length/\st.T 10=I k/\∀i (h:i<xs.length),i<k->PD xs[i]=true/\ix (Ju xs[i]) xs=i)
  (fun r=>∃T σ nx,(r=(.exit 0,⟨T,σ,nx⟩)/\EY xs)\/(r=(.ret,⟨T,σ,nx⟩)/\T 2=Bo false/\¬EY xs)) (by
   clear S;rintro k ⟨T,σ,nx⟩ G ⟨t0,t8,t9,t10,hi⟩;simp only at t0 t8 t9 t10;have f1:(k:Int)<(xs.length:Int):=by omega
   have f2:=jF k;have f3:=ZU (n:=(k:Int)+1);have f4:=am5 xs k G;have f5:=adt xs;have f6:k*3+3<=xs.length*3:=by omega
   have f9:=am6 xs k G;have J:=am7 xs[k] (h.1 _ (zu G));have Y:=afN xs (.tp (BG xs[k]) 0) 142 (Ju xs[k]) (.tp (BG xs[k]) 0) (by unfold maxLen;omega) (by rfl) (by rfl) (fun z _=>U7 xs[k] z);have y1:nx<nx+1:=by omega
   cases O:PD xs[k]with
   |false=>
    rw[O]at J;refine .inr ⟨_,by simp only[go_sem,t0,t8,t9,t10,f1,f2,f4,f5,f6,f9,J,y1];rfl,by simp,_,_,_,.inr ⟨rfl,by simp only[go_sem],fun hn=>?_⟩⟩;have:=(hn.2 k G).1;rw[O]at this;cases this
   |true=>
    rw[O]at J
    by_cases E:ix (Ju xs[k]) xs=k
    .rw[E]at Y
     refine .inl ⟨_,by simp only[go_sem,t0,t8,t9,t10,f1,f2,f3,f4,f5,f6,f9,J,Y,y1];rfl,?_⟩;simp only[go_sem,t0,t8,t9];refine⟨rfl,fun i a1 a6=>?_⟩;rcases xJ (xA a6)with q|q
     .exact hi i a1 q
     .subst q;exact⟨O,E⟩
    .have a7:(ix (Ju xs[k]) xs !=(k:Int))=true:=by simpa using E
     refine .inr ⟨_,by simp only[go_sem,t0,t8,t9,t10,f1,f2,f4,f5,f6,f9,J,Y,a7,y1];rfl,by simp,_,_,_,.inr ⟨rfl,by simp only[go_sem],fun hn=>E (hn.2 k G).2⟩⟩) (by
   clear S;rintro ⟨T,σ,nx⟩ ⟨t0,t8,t9,t10,hi⟩;simp only at t0 t8 t9 t10;exact⟨_,by simp only[go_sem,t9,t10,zi];rfl,by simp,_,_,_,.inl ⟨rfl,⟨by omega,fun i h=>hi i h h⟩⟩⟩) (by
   simp only[go_sem];exact fun i _ h=>absurd h (zW _))
 rcases hr with ⟨rfl,hg⟩|⟨rfl,t2,hg⟩
 .rw[iC hg];simp only[go_sem]
 .rw[iD hg];simp only[go_sem,t2]
end Go.Proofs.YtjknobpihkmilaaGreat
/- Hg assigned: the program. -/
namespace Go.Proofs.YtjknobpihkmilaaGreat
open Go Go.TV
attribute [-go_sem] qy
noncomputable def Yy(xs:List TV.Item)(needs:List Int)(d:Int):Bool:=pb (EY xs) && (decide (needs.length<=12) && Dj xs (fun _=>false) needs d)
theorem afO(n:Nat):Dk (List.replicate n false)=fun _=>false:=by
 funext i;unfold Dk;rw[zx,vU]
 split<;>rfl
theorem am8:Vj []=fun _=>false:=by funext i;unfold Vj;simp
theorem afP(xs:List TV.Item)(needs:List Int)(d:Int)(h:okL 32 H_ xs):fn ZM conv ext 69 [LL BG xs,LI needs,I d]=some (Bo (Yy xs needs d)):=by
 have G:=ajD xs h;unfold Yy;rw[mJ,nC [.tmp 6] [] func69]
 by_cases J:EY xs
 .rw[iC J]at G
  rw[iC J,xY];have hx:=J.1
  by_cases hn:needs.length<=12
  .have O:(needs.length:Int)<=12:=by omega
   have e1:(1:Int)*(xs.length:Int)<=281474976710656:=by omega
   have e2:(xs.length:Int)<=9223372036854775807:=by omega
   have e3:(0:Int)<=(xs.length:Int):=by omega
   have S:=adu xs (List.replicate xs.length false) needs d hx hn (by simp);rw[afO]at S;have Y:=KA xs.length;have st:∀σ b,σ b=some ⟨(List.replicate xs.length false).flatMap D8,1,true⟩->∀d,strip σ (d+1) (.rs b 0 xs.length)=some (LL D8 (List.replicate xs.length false),[b]):=fun σ b hs d=>Pe hs (by simp) d
   have E:=st (upd pI 0 (some ⟨(List.replicate xs.length false).flatMap D8,1,true⟩)) 0 (by rw[Zj]);rw[sJ hn,xY];obtain⟨W,eW⟩:∃W,W=(List.replicate xs.length false).flatMap D8:=⟨_,rfl⟩;rw[<- eW]at Y E;obtain⟨B,eB⟩:∃B,B=LL D8 (List.replicate xs.length false):=⟨_,rfl⟩;rw[<- eB]at E S;simp only[go_sem,G,O,e1,e2,e3,Y,E,S]
  .have O:¬(needs.length:Int)<=12:=by omega
   rw[sH hn,wM];simp only[go_sem,G,O]
 .rw[iD J]at G
  rw[iD J,wM];simp only[go_sem,G]
def U8(xs:List TV.Item)(out:List Int)(n:Int)(rest:List Int)(d:Int)(i:Nat):Bool:=us (itm xs i) n d && (!Vj out i && Dj xs (Vj (out++[(i:Int)])) rest d)
def JC(xs:List TV.Item)(needs:List Int)(d:Int):Nat->List Int
 |0=>[]
 |k+1=>match(List.range xs.length).find? (U8 xs (JC xs needs d k) (needs.getD k 0) (needs.drop (k+1)) d)with
  |some i=>JC xs needs d k++[(i:Int)]
  |none=>JC xs needs d k
theorem ajE{xs:List TV.Item}{needs:List Int}{d:Int}{k:Nat}(h:∀i,i<xs.length->U8 xs (JC xs needs d k) (needs.getD k 0) (needs.drop (k+1)) d i=false):JC xs needs d (k+1)=JC xs needs d k:=by
 have:(List.range xs.length).find? (U8 xs (JC xs needs d k) (needs.getD k 0) (needs.drop (k+1)) d)=none:=by
  rw[List.find?_eq_none];intro i hi;rw[h i (List.mem_range.mp hi)];simp
 rw[JC,this]
theorem Yz{xs:List TV.Item}{needs:List Int}{d:Int}{k i:Nat}(hi:i<xs.length)(E:∀m,m<i->U8 xs (JC xs needs d k) (needs.getD k 0) (needs.drop (k+1)) d m=false)(h:U8 xs (JC xs needs d k) (needs.getD k 0) (needs.drop (k+1)) d i=true):JC xs needs d (k+1)=JC xs needs d k++[(i:Int)]:=by
 have J:i<(List.range xs.length).length:=by simpa using hi
 have:=UG (p:=U8 xs (JC xs needs d k) (needs.getD k 0) (needs.drop (k+1)) d) (l:=List.range xs.length) (j:=i) J (fun m hm G=>by rw[wZ];exact E m G) (by rw[wZ];exact h);rw[wZ]at this;rw[JC,this]
theorem adv(xs:List TV.Item)(needs:List Int)(d:Int):∀k,(JC xs needs d k).length<=k
 |0=>zq _
 |k+1=>by
  have:=adv xs needs d k;rw[JC]
  split
  .rw[zo];simp;omega
  .omega
noncomputable def DY(xs:List TV.Item)(needs:List Int)(d:Int):Option (List Int):=if Yy xs needs d=true then some (JC xs needs d needs.length)else none
def Ig(n:Nat)(out:List Int):List Bool:=(List.range n).map (Vj out)
theorem aF(n:Nat)(out:List Int):(Ig n out).length=n:=by simp[Ig]
theorem am9(n:Nat):List.replicate n false=Ig n []:=by
 unfold Ig;rw[am8];simp[List.map_const']
theorem ajF{n:Nat}{out:List Int}{i:Nat}(h:i<n):Dk (Ig n out) i=Vj out i:=by
 rw[rH (by rw[aF];exact h)];simp[Ig]
theorem am_(n:Nat)(out:List Int)(i:Nat):(Ig n out).set i true=Ig n (out++[(i:Int)]):=by
 refine yQ (by simp[Ig]) fun j E G=>?_
 rw[wW];simp only[Ig,yC,wZ];unfold Vj
 by_cases e:i=j
 .subst e;simp
 .have ne:¬(j:Int)=(i:Int):=by omega
  rw[sQ e,decide_eq_decide,xW,yD];exact⟨.inl,fun h=>h.elim id fun h=>absurd h ne⟩
theorem afQ(n:Nat)(out:List Int)(i:Nat)(h:Vj out i=false):(Ig n (out++[(i:Int)])).set i false=Ig n out:=by
 refine yQ (by simp[Ig]) fun j E G=>?_
 rw[wW];simp only[Ig,yC,wZ]
 by_cases e:i=j
 .subst e;rw[sO rfl,h]
 .rw[sQ e]
  unfold Vj;have ne:¬(j:Int)=(i:Int):=by omega
  rw[decide_eq_decide,xW,yD];exact⟨fun h=>h.elim id fun h=>absurd h ne,.inl⟩
theorem PE{xs:List TV.Item}{tp tq:Nat->Bool}{n d:Int}:∀k,(∀i,i<k->tp i=tq i)->Fz xs tp n d k=Fz xs tq n d k
 |0,_=>rfl
 |k+1,h=>by
  unfold Fz;rw[PE k fun i hi=>h i (by omega),h k (by omega)]
theorem Qi{xs:List TV.Item}{tp tq:Nat->Bool}{needs:List Int}{d:Int}(h:∀i,i<xs.length->tp i=tq i):Dj xs tp needs d=Dj xs tq needs d:=by
 unfold Dj;congr 1;funext j;unfold enB;rw[PE xs.length h]
theorem RX(E:List Bool)(i:Nat)(b:Bool):(E.flatMap D8).set i (Bo b)=(E.set i b).flatMap D8:=by
 have e:∀l:List Bool,l.flatMap D8=l.map fun b=>Bo b:=fun l=>by
  induction l with
  |nil=>rfl
  |cons x l G=>show Bo x :: l.flatMap D8=_;rw[G];rfl
 rw[e,e,List.map_set]
end Go.Proofs.YtjknobpihkmilaaGreat
/- Hg assigned: the program's walk. -/
namespace Go.Proofs.YtjknobpihkmilaaGreat
open Go Go.TV
attribute [-go_sem] qy
theorem am'(l:List Int)(k:Nat):(l.flatMap cI).drop k=(l.drop k).flatMap cI:=by rw[jP,<- List.map_drop,<- jP]
theorem YA(xs:List TV.Item)(needs:List Int)(d:Int)(h:okL 32 H_ xs)(nx:Nat):∃v b2 qI ids,ev ZM Cb D7 39 [LL BG xs,LI needs,I d] pI nx=some (.AX [v,Bo (DY xs needs d).isSome],b2,qI)/\nx<=qI/\Own b2 1 v (LI ((DY xs needs d).getD [])) ids/\∀b∈ids,nx<=b/\b<qI:=by
 have k1:=afP xs needs d h;rw[nC [.tmp 6,.tmp 7] [] func39];cases hc:Yy xs needs d with
 |false=>
  rw[hc]at k1;have e:DY xs needs d=none:=by unfold DY;rw[hc];rfl
  rw[e];simp only[go_sem,k1];exact⟨_,_,_,[],rfl,zq _,iO _ _,by simp⟩
 |true=>
 rw[hc]at k1;have e:DY xs needs d=some (JC xs needs d needs.length):=by unfold DY;rw[hc,sO rfl]
 rw[e];have b3:=hc;unfold Yy at b3;simp only[zM,decide_eq_true_eq]at b3;obtain⟨hg,hn,-⟩:=b3;have hx:=(iy hg).1;obtain⟨n,en⟩:∃n,n=xs.length:=⟨_,rfl⟩;have e1:(1:Int)*(xs.length:Int)<=281474976710656:=by omega
 have e2:(xs.length:Int)<=9223372036854775807:=by omega
 have e3:(0:Int)<=(xs.length:Int):=by omega
 have rf:rep xs.length [Bo false]=(Ig xs.length []).flatMap D8:=by rw[KA,am9]
 simp only[go_sem,k1,e1,e2,e3,rf];generalize hL:iI _ _=y;obtain⟨r,rfl,T,σ,m,rfl,hm,E,G⟩:=oZ hL needs.length (fun k st=>st.T 0=LL BG xs/\st.T 1=LI needs/\st.T 2=I d/\st.T 8= .rs nx 0 xs.length/\st.T 22=LI needs/\st.T 23=I needs.length/\st.T 24=I k/\nx<st.nx/\st.σ nx=some ⟨(Ig xs.length (JC xs needs d k)).flatMap D8,1,true⟩/\Grow st.T st.σ st.nx 9 (JC xs needs d k)/\∀b o l,st.T 9= .rs b o l->nx<b)
  (fun r=>∃T σ m,r=(.exit 0,⟨T,σ,m⟩)/\nx<m/\Grow T σ m 9 (JC xs needs d needs.length)/\∀b o l,T 9= .rs b o l->nx<b) (by
   clear hL;rintro k ⟨T,σ,m⟩ hk ⟨t0,t1,t2,t8,t22,t23,t24,hm,hs,E,G⟩;simp only at t0 t1 t2 t8 t22 t23 t24 hm hs E;have f1:(k:Int)<(needs.length:Int):=by omega
   have f2:=jF k;have f3:=ZU (n:=(k:Int)+1);have f4:=idx (xs:=needs) (k:=k) hk;have f9:=Ba needs k hk;have b4:=lH hk;obtain⟨q,eq⟩:∃q,q=needs[k]:=⟨_,rfl⟩;rw[<- eq]at f4 b4;have c3:=adv xs needs d k;have Y:=ajE (xs:=xs) (needs:=needs) (d:=d) (k:=k);have a6:=fun i=>Yz (xs:=xs) (needs:=needs) (d:=d) (k:=k) (i:=i)
   rw[b4]at Y;simp only[b4]at a6;obtain⟨out,eo⟩:∃out,out=JC xs needs d k:=⟨_,rfl⟩;obtain⟨S,b9⟩:∃S,S=JC xs needs d (k+1):=⟨_,rfl⟩;rw[<- eo]at hs E c3 Y;simp only[<- eo,<- b9]at a6 Y;rw[<- b9];obtain⟨rest,er⟩:∃rest,rest=needs.drop (k+1):=⟨_,rfl⟩;have c4:rest.length=needs.length - (k+1):=by rw[er,zC]
   simp only[<- er]at a6 Y;refine bD ?_
   conv=>
    enter [1,r,1,1]
    simp only[go_sem,t0,t1,t2,t8,t22,t23,t24,f1,f2,f4,f9,hk]
   generalize hL:iI _ _=z;obtain⟨r,rfl,T1,b2,m1,rfl,u0,u1,u2,u8,c5,c6,c7,c8,c9,e0,c0⟩:=oZ hL xs.length (fun i st=>st.T 0=LL BG xs/\st.T 1=LI needs/\st.T 2=I d/\st.T 8= .rs nx 0 xs.length/\st.T 10=I k/\st.T 11=I q/\st.T 22=LI needs/\st.T 23=I needs.length/\st.T 24=I k/\st.T 29=LL BG xs/\st.T 30=I xs.length/\st.T 31=I i/\nx<st.nx/\st.σ nx=some ⟨(Ig xs.length out).flatMap D8,1,true⟩/\Grow st.T st.σ st.nx 9 out/\(∀b o l,st.T 9= .rs b o l->nx<b)/\∀i',i'<i->U8 xs out q rest d i'=false)
    (fun r=>∃T σ m,r=(.exit 2,⟨T,σ,m⟩)/\T 0=LL BG xs/\T 1=LI needs/\T 2=I d/\T 8= .rs nx 0 xs.length/\T 22=LI needs/\T 23=I needs.length/\T 24=I k/\nx<m/\σ nx=some ⟨(Ig xs.length S).flatMap D8,1,true⟩/\Grow T σ m 9 S/\∀b o l,T 9= .rs b o l->nx<b) (by
     clear hL;rintro i ⟨T,σ,m⟩ hi ⟨t0,t1,t2,t8,t10,t11,t22,t23,t24,t29,t30,t31,hm,hs,E,G,a7⟩;simp only at t0 t1 t2 t8 t10 t11 t22 t23 t24 t29 t30 t31 hm hs E;have g1:(i:Int)<(xs.length:Int):=by omega
     have g2:=jF i;have g3:=ZU (n:=(i:Int)+1);have g4:=am5 xs i hi;have g5:=adt xs;have g6:i*3+3<=xs.length*3:=by omega
     have g9:=am6 xs i hi;have c2:i<(Ig xs.length out).length:=by rw[aF];exact hi
     have i4:((Ig xs.length out).flatMap D8)[i]?=some (Bo (Vj out i)):=by rw[<- ajF hi,rH c2];exact cu (fun b=>Bo b) (Ig xs.length out) i c2
     have i5:((Ig xs.length out).flatMap D8).length=xs.length:=by rw[Ht,aF,yN]
     have k2:=adq xs[i] q d;have J:U8 xs out q rest d i=(us xs[i] q d && (!Vj out i && Dj xs (Vj (out++[(i:Int)])) rest d)):=by unfold U8;rw[adr hi]
     have b5:((Ig xs.length out).flatMap D8).set i (Bo true)=(Ig xs.length (out++[(i:Int)])).flatMap D8:=by rw[RX,am_]
     have i6:((Ig xs.length (out++[(i:Int)])).flatMap D8).length=xs.length:=by rw[Ht,aF,yN]
     have k3:=adu xs (Ig xs.length (out++[(i:Int)])) rest d hx (by omega) (aF _ _);rw[Qi (tq:=Vj (out++[(i:Int)])) (fun j hj=>ajF hj)]at k3;obtain⟨x,ex⟩:∃x,x=xs[i]:=⟨_,rfl⟩;rw[<- ex]at g4 k2 J;have y1:m<m+1:=by omega
     have z1:¬nx=m:=by omega
     have z2:¬m=nx:=by omega
     have b6:=kX E (some ⟨BG x,0,true⟩);have skip:U8 xs out q rest d i=false->∀i',i'<i+1->U8 xs out q rest d i'=false:=fun h i' e8=>by
      by_cases e:i'=i
      .rw[e];exact h
      .exact a7 i' (by omega)
     cases b7:Vj out i with
     |true=>
      rw[b7]at i4 J;have O:U8 xs out q rest d i=false:=by rw[J];simp
      refine .inl ⟨_,by simp only[go_sem,t0,t2,t8,t10,t11,t29,t30,t31,hs,g1,g2,g3,g4,g5,g6,g9,hi,i4,i5,y1,z1,z2];rfl,?_⟩;simp only[go_sem,t0,t1,t2,t8,t10,t11,t22,t23,t24,t29,t30,hs,z1,z2];exact⟨rfl,by omega,kU (T:=T) (by simp only[go_sem]) b6,G,skip O⟩
     |false=>
     rw[b7]at i4 J;cases hu:us x q d with
     |false=>
      rw[hu]at k2 J;have O:U8 xs out q rest d i=false:=by rw[J];simp
      refine .inl ⟨_,by simp only[go_sem,t0,t2,t8,t10,t11,t29,t30,t31,hs,g1,g2,g3,g4,g5,g6,g9,hi,i4,i5,k2,y1,z1,z2];rfl,?_⟩;simp only[go_sem,t0,t1,t2,t8,t10,t11,t22,t23,t24,t29,t30,hs,z1,z2];exact⟨rfl,by omega,kU (T:=T) (by simp only[go_sem]) b6,G,skip O⟩
     |true=>
     rw[hu]at k2 J;have w1:=ZU (n:=(k:Int)+1);have w2:((k:Int)+1).toNat=k+1:=by omega
     have w3:(0:Int)<=(k:Int)+1:=by omega
     have w4:k+1<=needs.length:=hk;have w5:(needs.flatMap cI).drop (k+1)=rest.flatMap cI:=by rw[er,am']
     have w6:needs.length - (k+1)=rest.length:=c4.symm;have w7:(rest.flatMap cI).take rest.length=rest.flatMap cI:=qK rest;obtain⟨F,eF⟩:∃F,F=(Ig xs.length (out++[(i:Int)])).flatMap D8:=⟨_,rfl⟩;rw[<- eF]at b5 i6;obtain⟨σ2,a8⟩:∃σ2,σ2=upd (upd σ m (some ⟨BG x,0,true⟩)) nx (some ⟨F,1,true⟩):=⟨_,rfl⟩;have sF:σ2 nx=some ⟨F,1,true⟩:=by rw[a8,Zj]
     have st:=fun d=>Pe (σ:=σ2) (b:=nx) (xs:=Ig xs.length (out++[(i:Int)])) (by rw[sF,eF]) (n:=xs.length) (aF _ _) d
     obtain⟨B,eB⟩:∃B,B=LL D8 (Ig xs.length (out++[(i:Int)])):=⟨_,rfl⟩;rw[<- eB]at st k3;have b8:Grow T σ2 (m+1) 9 out:=kT b6 fun b o l hb=>by rw[a8,Zk _ _ (by have:=G b o l hb;omega)]
     have e9:∀b o l,T 9= .rs b o l->b<m+1:=fun b o l hb=>by
      rcases b8 with ⟨a,_⟩|⟨b',a,_,_,c⟩
      .rw[a]at hb;cases hb
      .rw[a]at hb;cases hb;exact c
     cases he:Dj xs (Vj (out++[(i:Int)])) rest d with
     |true=>
      rw[he]at k3 J;have O:U8 xs out q rest d i=true:=by rw[J];rfl
      have e4:=a6 i hi a7 O;obtain⟨σ',ha,e5,e6⟩:=IY b8 (i:Int) (by omega);refine .inr ⟨_,by simp only[go_sem,t0,t1,t2,t8,t10,t11,t29,t30,t31,hs,g1,g2,g4,g5,g6,g9,hi,i4,i5,i6,k2,y1,z1,z2,b5,<- a8,w1,w2,w3,w4,w5,w6,w7,st,k3,ha];rfl,by simp,_,_,_,rfl,?_⟩;simp only[go_sem,t0,t1,t2,t8,t22,t23,t24];rw[e4];refine⟨by omega,?_,kS e5 (by simp[go_sem]) (by simp),fun b o l hb=>by cases hb;omega⟩;rw[e6 nx (by omega) (fun b o l hb=>by have:=G b o l hb;omega),sF,eF]
     |false=>
      rw[he]at k3 J;have O:U8 xs out q rest d i=false:=by rw[J];rfl
      have e7:F.set i (Bo false)=(Ig xs.length out).flatMap D8:=by rw[eF,RX,afQ _ _ _ b7]
      refine .inl ⟨_,by simp only[go_sem,t0,t1,t2,t8,t10,t11,t29,t30,t31,hs,g1,g2,g3,g4,g5,g6,g9,hi,i4,i5,i6,k2,y1,z1,z2,b5,<- a8,sF,w1,w2,w3,w4,w5,w6,w7,st,k3,e7];rfl,?_⟩;simp only[go_sem,t0,t1,t2,t8,t10,t11,t22,t23,t24,t29,t30];refine⟨rfl,by omega,kU (T:=T) (by simp only[go_sem]) (kT b8 fun b o l hb=>by rw[Zk _ _ (by have:=G b o l hb;omega)]),G,skip O⟩) (by
     clear hL;rintro ⟨T,σ,m⟩ ⟨t0,t1,t2,t8,t10,t11,t22,t23,t24,t29,t30,t31,hm,hs,E,G,a7⟩;simp only at t0 t1 t2 t8 t10 t11 t22 t23 t24 t29 t30 t31 hm hs E;refine⟨_,by simp only[go_sem,t30,t31,zi];rfl,by simp,_,_,_,rfl,?_⟩;simp only[go_sem,t0,t1,t2,t8,t22,t23,t24];rw[Y a7];exact⟨hm,hs,kU (T:=T) (by simp only[go_sem]) E,G⟩) (by
     simp only[go_sem,t0,t1,t2,t8,t22,t23,t24]
     first
      |exact⟨hm,hs,kU (T:=T) (by simp only[go_sem]) E,G,fun i hi=>absurd hi (zW _)⟩
      |exact⟨rfl,hm,hs,kU (T:=T) (by simp only[go_sem]) E,G,fun i hi=>absurd hi (zW _)⟩)
   refine⟨_,by simp only[go_sem,c7,f3];rfl,.inl ⟨_,rfl,?_⟩⟩;simp only[go_sem,u0,u1,u2,u8,c5,c6];exact⟨rfl,c8,c9,kU (T:=T1) (by simp only[go_sem]) e0,c0⟩) (by
   clear hL;rintro ⟨T,σ,m⟩ ⟨t0,t1,t2,t8,t22,t23,t24,hm,hs,E,G⟩;simp only at t0 t1 t2 t8 t22 t23 t24 hm hs E;refine⟨_,by simp only[go_sem,t23,t24,zi];rfl,by simp,_,_,_,rfl,hm,kU (T:=T) (by simp only[go_sem]) E,?_⟩;simp only[go_sem];exact G) (by
   simp only[go_sem];exact⟨by omega,rfl,.inl ⟨by simp only[go_sem],rfl⟩,fun b o l hb=>by cases hb⟩)
 obtain⟨ids,ho,hb⟩:∃ids,Own σ 1 (T 9) (LI (JC xs needs d needs.length)) ids/\∀b∈ids,nx<=b/\b<m:=by
  rcases E with ⟨a1,a2⟩|⟨b,a1,a2,a3,a4⟩
  .rw[a1,a2];exact⟨[],iO _ _,by simp⟩
  .have:=G b _ _ a1
   rw[a1];exact⟨[b],iM a3 (by omega),fun c hc=>by rw[List.mem_singleton.mp hc];omega⟩
 simp only[go_sem];exact⟨_,_,_,ids,rfl,by omega,ho,hb⟩
end Go.Proofs.YtjknobpihkmilaaGreat
/- Hg of a plan: the program. -/
namespace Go.Proofs.YtjknobpihkmilaaGreat
open Go Go.TV
attribute [-go_sem] qy
def NL(σ:Store)(B:Nat)(vs:List V)(is:List (List Nat))(E:List (List Int)):Prop :=
 σ B=some ⟨vs,1,true⟩/\is.length=vs.length/\E.length=vs.length/\∀k (h:k<vs.length) (G:k<is.length) (J:k<E.length),Own σ 1 vs[k] (LI E[k]) is[k]
theorem ajG{σ:Store}{v:V}{xs:List Int}{ids:List Nat}(h:Own σ 1 v (LI xs) ids):vI v=true:=by
 rcases IV h with ⟨rfl,_⟩|⟨b,st,rfl,_⟩<;>rfl
theorem PG{f:V->Option (List Nat)}:∀ {vs:List V} {is:List (List Nat)},is.length=vs.length->(∀k (h:k<vs.length) (G:k<is.length),f vs[k]=some is[k])->AL f vs=some is.flatten
 |[],[],_,_=>rfl
 |[],i :: is,h,_=>by simp at h
 |v :: vs,[],h,_=>by simp at h
 |v :: vs,i :: is,h,hf=>by
  have E:=hf 0 (by simp) (by simp);simp only[uT]at E;have J:=PG (f:=f) (vs:=vs) (is:=is) (by simpa using h) (fun k G O=>by
   have:=hf (k+1) (by simp;omega) (by simp;omega)
   simpa using this)
  unfold AL;rw[E,J];rfl
theorem NL.gather{σ:Store}{B:Nat}{vs:List V}{is:List (List Nat)}{G:List (List Int)}(h:NL σ B vs is G)(d n:Nat):gather σ (d+2) (.rs B 0 n)=some (B :: is.flatten):=by
 obtain⟨J,O,h3,S⟩:=h;have:=PG (f:=TV.gather σ (d+1)) O (fun k Y E=>(S k Y E (by omega)).gather (d':=d+1) (by omega));show(match σ B with|some B'=>_|none=>none)=_;rw[J];simp only[this]
theorem NL.frame{σ σ':Store}{B:Nat}{vs:List V}{is:List (List Nat)}{J:List (List Int)}(h:NL σ B vs is J)(O:σ' B=σ B)(S:∀b∈is.flatten,σ' b=σ b):NL σ' B vs is J:=by
 obtain⟨Y,h2,h3,h4⟩:=h;refine⟨by rw[O];exact Y,h2,h3,fun k hk E G=>(h4 k hk E G).frame fun b hb=>S b ?_⟩;exact List.mem_flatten.mpr ⟨is[k],zu E,hb⟩
theorem NL.snoc{σ σ':Store}{B B':Nat}{vs:List V}{is:List (List Nat)}{E:List (List Int)}{v:V}{i:List Nat}{l:List Int}(h:NL σ B vs is E)(hB:σ' B'=some ⟨vs++[v],1,true⟩)(hf:∀b∈is.flatten,σ' b=σ b)(ho:Own σ' 1 v (LI l) i):NL σ' B' (vs++[v]) (is++[i]) (E++[l]):=by
 obtain⟨h1,h2,h3,h4⟩:=h;refine⟨hB,by simp[h2],by simp[h3],fun k hk G J=>?_⟩
 by_cases e:k<vs.length
 .have O:(vs++[v])[k]=vs[k]:=yO e
  have S:(is++[i])[k]=is[k]'(by omega):=yO (by omega);have Y:(E++[l])[k]=E[k]'(by omega):=yO (by omega);rw[O,S,Y];exact(h4 k e (by omega) (by omega)).frame fun b hb=>hf b (List.mem_flatten.mpr ⟨is[k]'(by omega),zu _,hb⟩)
 .have ek:k=vs.length:=by rw[zo,yV]at hk;omega
  subst ek;have O:(vs++[v])[vs.length]'hk=v:=by simp
  have S:(is++[i])[vs.length]'G=i:=by simp[<- h2]
  have Y:(E++[l])[vs.length]'J=l:=by simp[<- h3]
  rw[O,S,Y];exact ho
noncomputable def G_(N:Nat->Option (List Int))(xs:List TV.Item)(plan:List Int)(day:Int)(k:Nat):Option (List Int):=(N (plan.getD k 0).toNat).bind fun L=>DY xs L (day+k)
theorem anW{l:List Int}{k:Nat}(h:k<l.length):l.getD k 0=l[k]:=by rw[zx,zy h];rfl
def aAr(N:Nat->Option (List Int))(xs:List TV.Item)(plan:List Int)(day:Int)(lo:Nat)(v:V)(ok:Bool)(σ:Store)(hi:Nat):Prop :=
 (ok=false/\v= .nil/\∃k,k<plan.length/\G_ N xs plan day k=none) \/
 (ok=true/\∃B vs is E,v= .rs B 0 plan.length/\vs.length=plan.length/\NL σ B vs is E/\lo<=B/\B<hi/\(∀b∈is.flatten,lo<=b/\b<hi/\b≠B)/\∀k (h:k<E.length),G_ N xs plan day k=some E[k])
theorem ana{y:BZ}{N:Nat->Option (List Int)}{plan:List Int}(J:∀j (h:j<y.aI.length),(j:Int)∈plan->LG y.aI[j] (N j)){j:Nat}(h:j<y.aI.length)(hm:(j:Int)∈plan)(nx:Nat):∃v E G ids,ev ZM Cb D7 19 [.agg (Az y.aI[j])] pI nx=some (.AX [v,Bo (N j).isSome],E,G)/\nx<=G/\G9 E v ((N j).getD []) ids/\∀b∈ids,nx<=b/\b<G:=anV (J j h hm) nx
theorem LH(y:BZ)(ho:Gl y)(N:Nat->Option (List Int))(plan:List Int)(hN:∀j (h:j<y.aI.length),(j:Int)∈plan->LG y.aI[j] (N j))(e1:plan.length<=1048576)(c0:EF y plan=true)(xs:List TV.Item)(h:okL 32 H_ xs)(day:Int)(e8:0<=day)(e9:day<=10000)(nx:Nat) :
  ∃v ok b3 qI,ev ZM Cb D7 18 [.agg (Cj y),LI plan,LL BG xs,I day] pI nx=some (.AX [v,Bo ok],b3,qI)/\nx<=qI/\aAr N xs plan day nx v ok b3 qI:=by
 have k1:=adi y ho plan e1;rw[c0]at k1;obtain⟨hG,b7,hp⟩:=afK c0;have PI:=hG.1;have d0:¬day<0:=by omega
 have d1:¬(10000:Int)<day:=by omega
 obtain⟨wr,h0⟩:∃wr,wr=flat 7 (Bo true):=⟨_,rfl⟩;rw[nC [.tmp 8,.tmp 9] [] func18];simp only[go_sem,k1,d0,d1];generalize hL:iI _ _=z;obtain⟨r,rfl,T,σ,m,hm,hr⟩:=oZ hL plan.length (fun k st=>st.T 1=LI plan/\st.T 2=LL BG xs/\st.T 3=I day/\st.T 4= .rp nx 0/\st.T 28=LI plan/\st.T 29=I plan.length/\st.T 30=I k/\nx<st.nx/\st.σ nx=some ⟨Cj y,0,true⟩/\∃vs is J,vs.length=k/\(∀b∈is.flatten,nx<b/\b<st.nx)/\(∀j (h:j<J.length),G_ N xs plan day j=some J[j])/\((k=0/\st.T 10= .nil/\vs=[]/\is=[]/\J=[])\/∃B,st.T 10= .rs B 0 k/\NL st.σ B vs is J/\nx<B/\B<st.nx/\∀b∈is.flatten,b≠B))
  (fun r=>∃T σ m,nx<m/\((r=(.exit 0,⟨T,σ,m⟩)/\∃B vs is J,T 10= .rs B 0 plan.length/\vs.length=plan.length/\NL σ B vs is J/\nx<B/\B<m/\(∀b∈is.flatten,nx<b/\b<m/\b≠B)/\∀k (h:k<J.length),G_ N xs plan day k=some J[k])\/(r=(.ret,⟨T,σ,m⟩)/\T 8= .nil/\T 9=Bo false/\∃k,k<plan.length/\G_ N xs plan day k=none))) (by
   clear hL;rintro k ⟨T,σ,m⟩ hk ⟨t1,t2,t3,t4,t28,t29,t30,hm,S,vs,is,J,Y,G,a7,hA⟩;simp only at t1 t2 t3 t4 t28 t29 t30 hm S hA G;have f1:(k:Int)<(plan.length:Int):=by omega
   have f2:=jF k;have f3:=ZU (n:=(k:Int)+1);have f4:=idx (xs:=plan) (k:=k) hk;have f9:=Ba plan k hk;obtain⟨j,ej,hj⟩:=hp k hk;have c2:=anW hk;rw[ej]at f4 c2;have g1:(j:Int)<(y.aI.length:Int):=by omega
   have g2:=jF j;have g5:=ag_ y.aI j hj;have g6:=WQ y.aI;have g7:j*5+5<=y.aI.length*5:=by omega
   have g9:=WO y.aI j hj;obtain⟨v1,b3,m1,c3,k2,h4,hP,e3⟩:=ana hN hj (by rw[<- ej];exact zu hk) m;have gP:=fun d=>hP.gather d
   have E:G_ N xs plan day k=(N j).bind fun L=>DY xs L (day+k):=by unfold G_;rw[c2,zF]
   obtain⟨t,et⟩:∃t,t=y.aI[j]:=⟨_,rfl⟩;rw[<- et]at g5 k2;obtain⟨Jw,ea⟩:∃Jw,Jw=Ce m σ b3 c3:=⟨_,rfl⟩;have c4:G9 Jw v1 ((N j).getD []) c3:=by rw[ea];exact hP.join fun b hb=>(e3 b hb).1
   have sP:=fun d=>c4.strip d
   have e4:Jw nx=some ⟨Cj y,0,true⟩:=by rw[ea,jq hm,S]
   cases c5:N j with
   |none=>
    rw[c5]at k2 E;refine .inr ⟨_,by simp only[go_sem,t1,t2,t3,t4,t28,t29,t30,S,f1,f2,f4,f9,hk,g1,g2,g5,g6,g7,g9,hj,k2,gP,<- ea,Option.isSome_none];rfl,by simp,_,_,m1,by omega,.inr ⟨rfl,by simp only[go_sem],by simp only[go_sem],k,hk,E⟩⟩
   |some L=>
   rw[c5]at k2 E c4 sP;have E:G_ N xs plan day k=DY xs L (day+k):=E;have w1:=ZU (n:=day+(k:Int));obtain⟨v2,σ2,m2,Gi,k3,h5,hO,a8⟩:=YA xs L (day+(k:Int)) h m1;have gO:=fun d=>hO.gather (d':=d+1) (by omega)
   obtain⟨Jy,eb⟩:∃Jy,Jy=Ce m1 Jw σ2 Gi:=⟨_,rfl⟩;have a6:Own Jy 1 v2 (LI ((DY xs L (day+k)).getD [])) Gi:=by rw[eb];exact hO.join fun b hb=>(a8 b hb).1
   have c6:Jy nx=some ⟨Cj y,0,true⟩:=by rw[eb,jq (by omega),e4]
   have b5:∀c,c<m->Jy c=σ c:=fun c hc=>by rw[eb,jq (by omega),ea,jq hc]
   cases hE:DY xs L (day+(k:Int))with
   |none=>
    rw[hE]at k3 E;refine .inr ⟨_,by simp only[go_sem,t1,t2,t3,t4,t28,t29,t30,S,f1,f2,f4,f9,hk,g1,g2,g5,g6,g7,g9,hj,k2,gP,<- ea,Option.isSome_some,Option.isSome_none,yG,sP,w1,k3,gO,<- eb];rfl,by simp,_,_,m2,by omega,.inr ⟨rfl,by simp only[go_sem],by simp only[go_sem],k,hk,E⟩⟩
   |some l=>
   rw[hE]at k3 E a6;have a6:Own Jy 1 v2 (LI l) Gi:=a6;have O:=ajG a6;have c7:=pW O;have b6:∀j' (c8:j'<(J++[l]).length),G_ N xs plan day j'=some (J++[l])[j']:=fun j' c8=>by
    have e5:J.length=k:=by
     rcases hA with ⟨e,_,_,_,e2⟩|⟨B,_,a1,_⟩
     .rw[e2,e];rfl
     .rw[a1.2.2.1,Y]
    by_cases c:j'<J.length
    .rw[a7 j' c,yO c]
    .have:j'=k:=by rw[zo,yV]at c8;omega
     subst this;rw[E];simp[<- e5]
   have b4:∀b∈(is++[Gi]).flatten,nx<b/\b<m2:=fun b hb=>by
    rw[List.flatten_append,xW]at hb;rcases hb with hb|hb
    .have:=G b hb;omega
    .have:=a8 b (by simpa using hb);omega
   obtain⟨Jz,ec⟩:∃Jz,Jz=upd Jy m2 (some ⟨[v2],1,true⟩):=⟨_,rfl⟩;have cC:Jz m2=some ⟨[v2],1,true⟩:=by rw[ec,Zj]
   have l1:1<=[v2].length:=zq 1;have l2:[v2].take 1=[v2]:=rfl;have l3:1<=maxLen/\1*24<=140737488355328:=⟨by decide,by decide⟩;have l4:¬(1:Nat)=0:=by decide
   rcases hA with ⟨e0,t10,rfl,rfl,rfl⟩|⟨B,t10,a1,b8,b2,b9⟩
   .refine .inl ⟨_,by simp only[go_sem,t1,t2,t3,t4,t10,t28,t29,t30,S,f1,f2,f3,f4,f9,hk,g1,g2,g5,g6,g7,g9,hj,k2,gP,<- ea,Option.isSome_some,yG,sP,w1,k3,gO,<- eb,O,c7,<- ec,cC,l1,l2,l3,l4];rfl,?_⟩
    simp only[go_sem,t1,t2,t3,t4,t28,t29];have hf:∀c,c<m2->upd Jz (m2+1) (some ⟨[v2],1,true⟩) c=Jy c:=fun c hc=>by rw[Zm,ec,Zm]
    refine⟨rfl,by omega,by rw[hf nx (by omega)];exact c6,[v2],[Gi],[l],by rw[e0];rfl,fun b hb=>by have:=b4 b (by simpa using hb);omega,b6,.inr ⟨m2+1,by rw[e0],?_,by omega,by omega,fun b hb e=>by have:=b4 b (by simpa using hb);omega⟩⟩;refine⟨by rw[Zj],rfl,rfl,fun k' h1 h2 h3=>?_⟩;have:k'=0:=by simpa using h1
    subst this;exact a6.frame fun b hb=>hf b (a8 b hb).2
   .have c9:NL Jy B vs is J:=a1.frame (b5 B b2) fun b hb=>b5 b (G b hb).2
    have e6:Jz B=some ⟨vs,1,true⟩:=by rw[ec,Zm];exact c9.1
    have ha:=rE (σ:=Jz) (nx:=m2+1) (bytes:=24) (b:=B) (len:=k) (m:=1) (row:=[v2]) e6 Y rfl (by decide) (by unfold maxLen;omega) (by omega) (by simp[O]);obtain⟨YG,ed⟩:∃YG,YG=upd (upd Jz B none) (m2+1) (some ⟨vs++[v2],1,true⟩):=⟨_,rfl⟩;have ha:Ah Jz (m2+1) 1 24 (.rs B 0 k) [v2] 1=some (.rs (m2+1) 0 (k+1),YG,m2+1+1):=by rw[ha,ed]
    have hf:∀c,c<m2->c≠B->YG c=Jy c:=fun c hc b7=>by rw[ed,Zm,Zk _ _ b7,ec,Zm]
    refine .inl ⟨_,by simp only[go_sem,t1,t2,t3,t4,t10,t28,t29,t30,S,f1,f2,f3,f4,f9,hk,g1,g2,g5,g6,g7,g9,hj,k2,gP,<- ea,Option.isSome_some,yG,sP,w1,k3,gO,<- eb,O,c7,<- ec,cC,l1,l2,ha];rfl,?_⟩;simp only[go_sem,t1,t2,t3,t4,t28,t29];refine⟨rfl,by omega,by rw[hf nx (by omega) (by omega)];exact c6,vs++[v2],is++[Gi],J++[l],by rw[zo,Y];rfl,fun b hb=>by have:=b4 b hb;omega,b6,.inr ⟨m2+1,rfl,?_,by omega,by omega,fun b hb e=>by have:=b4 b hb;omega⟩⟩;exact c9.snoc (by rw[ed,Zj]) (fun b hb=>hf b (by have:=G b hb;omega) (b9 b hb)) (a6.frame fun b hb=>hf b (a8 b hb).2 (by have:=a8 b hb;omega))) (by
   clear hL;rintro ⟨T,σ,m⟩ ⟨t1,t2,t3,t4,t28,t29,t30,hm,S,vs,is,J,Y,G,a7,hA⟩;simp only at t1 t2 t3 t4 t28 t29 t30 hm S hA G;have e7:plan.length≠0:=fun e=>b7 (zZ e)
   rcases hA with ⟨e0,_⟩|⟨B,t10,a1,b8,b2,b9⟩
   .exact absurd e0 e7
   .exact⟨_,by simp only[go_sem,t29,t30,zi];rfl,by simp,_,_,_,hm,.inl ⟨rfl,B,vs,is,J,by simp only[go_sem,t10],Y,a1,b8,b2,fun b hb=>⟨(G b hb).1,(G b hb).2,b9 b hb⟩,a7⟩⟩) (by
   simp only[go_sem];exact⟨by omega,[],[],[],rfl,by simp,fun j h=>absurd h (zW _),.inl ⟨rfl,rfl,rfl⟩⟩)
 rcases hr with ⟨rfl,B,vs,is,J,t10,Y,a1,b8,b2,G,a7⟩|⟨rfl,t8,t9,hk⟩
 .simp only[go_sem,t10]
  exact⟨_,_,_,_,rfl,by omega,.inr ⟨rfl,B,vs,is,J,rfl,Y,a1,by omega,b2,fun b hb=>by have:=G b hb;omega,a7⟩⟩
 .simp only[go_sem,t8,t9]
  exact⟨_,_,_,_,rfl,by omega,.inl ⟨rfl,rfl,hk⟩⟩
theorem YB(y:BZ)(Y:Gl y)(plan:List Int)(E:plan.length<=1048576)(G:EF y plan=false)(xs:List TV.Item)(day:Int)(a1:0<=day)(a6:day<=10000)(nx:Nat) :
  ∃J O,ev ZM Cb D7 18 [.agg (Cj y),LI plan,LL BG xs,I day] pI nx=some (.AX [.nil,Bo false],J,O)/\nx<=O:=by
 have S:=adi y Y plan E;rw[G]at S;have d0:¬day<0:=by omega
 have d1:¬(10000:Int)<day:=by omega
 rw[nC [.tmp 8,.tmp 9] [] func18];simp only[go_sem,S,d0,d1];exact⟨_,_,rfl,by omega⟩
end Go.Proofs.YtjknobpihkmilaaGreat
/- Hg for the aI of a plan in a drawn aFi. -/
namespace Go.Proofs.YtjknobpihkmilaaGreat
open Go Go.TV Go.Lp
attribute [-go_sem] qy
theorem ajI{t:CP}(ho:FZ t)(hs:Dy t=true){qs:List Rat}(J:qs.length=t.st.members.length)(O:∀q∈qs,Ln 24 q)
  (k1:fn ZM Aa Ak 40 [.agg (jI t.st),LI t.load]=some (.AX [LL cQ qs,Bo true])) {L:List Int} (hO:Js (B_ (Lu t.st qs))=some L) (Vb:L.length<=8) (nx:Nat) :
  ∃E qI S b,nx<=b/\b<qI/\ev ZM Cb D7 19 [.agg (Az t)] pI nx=some (.AX [.rs b 0 (L.filter nz).length,Bo true],E,qI)/\E b=some ⟨(L.filter nz++S).flatMap cI,1,true⟩:=by
 have a1:=kP t ho;rw[hs]at a1;obtain⟨h1,h2,h3⟩:=bH hs;obtain⟨E,n1,⟨e,_⟩|⟨L',b,e,a8,b2,Y,k4,G⟩⟩:=afL h1 ho.2.1 J O (nx+1)
 .rw[hO]at e;cases e
 .rw[hO]at e
  cases e;obtain⟨Jw,ea⟩:∃Jw,Jw=Ce (nx+1) (upd pI nx (some ⟨Az t,0,true⟩)) E [b]:=⟨_,rfl⟩;have a6:Jw b=some ⟨L.flatMap cI,1,true⟩:=by
   rw[ea];unfold Ce;rw[sQ (by omega),sO (by simp),G]
  have g1:=fun d=>lN (off:=0) (len:=L.length) d G
  obtain⟨σ2,S,k5,a7,hf⟩:=Yx (nx:=n1) a6 rfl (by omega);refine⟨σ2,n1,S,b,by omega,Y,?_,a7⟩;rw[nC [.tmp 2,.tmp 3] [] func19];simp only[go_sem,qE,a1,k1,k4,g1,<- ea,k5]
theorem afR{x:Rat}{w:Int}(O:0<=w)(S:w<=1000)(E:X3 x w=false):need x<=1000:=by
 obtain⟨m,rfl⟩:∃m:Nat,w=(m:Int):=⟨w.toNat,by omega⟩;unfold X3 at E;have G:=of_decide_eq_false E;rw[aqY,UQ]at G;have J:¬sqr m<x:=G;have hn:=(adn x).2.1
 by_cases c:need x<=m
 .omega
 .exact absurd (hn m (by omega)) J
theorem ajJ{p:Nat->Bool}{n:Nat}(h:(F5 p n).length=0):∀k,k<n->p k=false:=fun k G=>by
 cases hp:p k with
 |false=>rfl
 |true=>
  have E:(k:Int)∈F5 p n:=(UJ p n k).mpr ⟨G,hp⟩;rw[zZ h]at E;cases E
theorem aw9(x:Rat):nd x<=1000:=by
 unfold nd
 split<;>omega
theorem ajK{t:CP}{strict:Bool}(ho:FZ t)(hs:Hu t strict=true):∃L,LG t (some L)/\L.length<=t.st.members.length/\∀x∈L,x<=1000:=by
 have a6:Dy t=true:=by
  unfold Hu at hs;rw[zM]at hs;exact hs.1
 obtain⟨h1,h2,h3,O,-⟩:=abW hs;have b6:=h1.2.1;unfold FN at O;rcases ajw h1 ho.2.1 h2 with ⟨qs,G,S,J,-,-⟩|⟨J,-,-⟩
 .have k3:=Rt h1 ho.2.1 G S h3
  cases E:Gt t.st qs t.limits with
  |true=>
   unfold Gt at E;cases hq:B_ (Lu t.st qs)with
   |none=>rw[hq]at E;cases E
   |some xs=>
   rw[hq]at E;have a7:xs.length=t.st.members.length:=by rw[dJ hq,bJ,G]
   have a8:=ajJ (of_decide_eq_true E);have Y:xs.all nb=true:=by
    rw[wV];intro x hx;obtain⟨k,hk,rfl⟩:=zA hx;have a1:k<t.limits.length:=by rw[h3.1];omega
    have h4:=a8 k hk;unfold G7 at h4;rw[zx,zy hk,zx,zy a1]at h4;have hw:=kK (h3.2 _ (zu a1));unfold nb;exact sJ (afR hw.1 hw.2 h4)
   have hO:Js (B_ (Lu t.st qs))=some (xs.map nd):=by rw[hq];unfold Js;rw[zk,sO Y]
   have Vb:(xs.map nd).length=t.st.members.length:=by rw[zT,a7]
   have b7:=List.length_filter_le nz (xs.map nd);refine⟨(xs.map nd).filter nz,fun nx=>?_,by omega,fun x hx=>?_⟩
   .obtain⟨b2,n1,zs,b,b3,b4,k4,b5⟩:=ajI ho a6 G S J hO (by omega) nx
    exact⟨b2,n1,.inr ⟨_,zs,b,rfl,b3,b4,k4,b5⟩⟩
   .obtain⟨q,_,rfl⟩:=List.mem_map.mp (List.mem_filter.mp hx).1
    exact aw9 q
  |false=>
   exfalso;rw[E]at k3;have k5:fn ZM Aa Ak 65 [.agg (jI t.st),LI t.load,LI t.limits]=some (.AX [.ts [] 0,Bo false]):=by
    rw[mJ,nC [.tmp 6,.tmp 7] [] func65];simp only[go_sem,J,k3]
   have k6:fn ZM Aa Ak 37 [.agg (jI t.st),LI t.load,LI t.limits]=some (Bo false):=by
    rw[mJ,nC [.tmp 6] [] func37];simp only[go_sem,k5]
   rw[k6]at O;cases O
 .exfalso
  have J:fn ZM Aa Ak 40 [.agg (jI t.st),LI t.load]=some (.AX [.ts [] 0,Bo false]):=J;have k5:fn ZM Aa Ak 65 [.agg (jI t.st),LI t.load,LI t.limits]=some (.AX [.ts [] 0,Bo false]):=by
   rw[mJ,nC [.tmp 6,.tmp 7] [] func65];simp only[go_sem,J]
  have k6:fn ZM Aa Ak 37 [.agg (jI t.st),LI t.load,LI t.limits]=some (Bo false):=by
   rw[mJ,nC [.tmp 6] [] func37];simp only[go_sem,k5]
  rw[k6]at O;cases O
def BX:List TV.Item:=[⟨⟨#[97]⟩,1000,9⟩,⟨⟨#[98]⟩,1000,9⟩,⟨⟨#[99]⟩,1000,9⟩]
theorem U9(u:UInt8)(h:BJ u=true):PD ⟨⟨#[u]⟩,1000,9⟩=true:=by
 unfold PD;rw[iC (name1 u h)];rfl
theorem aq0:EY BX:=by
 have G:BJ 97=true:=by decide
 have J:BJ 98=true:=by decide
 have O:BJ 99=true:=by decide
 refine⟨by decide,fun i hi=>?_⟩;have:i=0\/i=1\/i=2:=by simp only[BX,zV,yY]at hi;omega
 rcases this with rfl|rfl|rfl
 .exact⟨U9 _ G,kC (k:=0) hi (fun j S E=>absurd E (zW _)) (dK _)⟩
 .refine⟨U9 _ J,kC (k:=1) hi (fun j S E=>?_) (dK _)⟩
  have:j=0:=by omega
  subst this;exact jD 97 98 rfl
 .refine⟨U9 _ O,kC (k:=2) hi (fun j S E=>?_) (dK _)⟩
  have:j=0\/j=1:=by omega
  rcases this with rfl|rfl
  .exact jD 97 99 rfl
  .exact jD 98 99 rfl
theorem us3{n d:Int}(hn:n<=1000)(E:d<=9){k:Nat}(G:k<3):us (itm BX k) n d=true:=by
 have:k=0\/k=1\/k=2:=by omega
 unfold us;rcases this with rfl|rfl|rfl<;>(simp only[zM,decide_eq_true_eq];exact⟨hn,E⟩)
theorem cnt3(tp:Nat->Bool){n d:Int}(hn:n<=1000)(E:d<=9):Fz BX tp n d 3=(if tp 0 then 0 else 1)+(if tp 1 then 0 else 1)+(if tp 2 then 0 else 1):=by
 have G:=us3 hn E (k:=0) (by decide);have J:=us3 hn E (k:=1) (by decide);have O:=us3 hn E (k:=2) (by decide);simp only[Fz,G,J,O,uj];cases tp 0<;>cases tp 1<;>cases tp 2<;>rfl
theorem adw{tp:Nat->Bool}{needs:List Int}{d:Int}(hn:∀x∈needs,x<=1000)(G:d<=9)(h:needs.length<=(if tp 0 then 0 else 1)+(if tp 1 then 0 else 1)+(if tp 2 then 0 else 1)):Dj BX tp needs d=true:=by
 refine Pz fun j E=>?_
 unfold enB;have J:=cnt3 tp (hn _ (by rw[lH E];exact zu E):needs.getD j 0<=1000) G;have S:=U5 needs (needs.getD j 0) needs.length;have O:BX.length=3:=rfl;rw[O,J];exact sJ (by omega)
theorem YC(k i:Nat):Vj ((List.range k).map fun(j:Nat)=>(j:Int)) i=decide (i<k):=by
 unfold Vj;rw[decide_eq_decide,List.mem_map];constructor
 .rintro ⟨j,E,e⟩
  rw[List.mem_range]at E;omega
 .intro h
  exact⟨i,List.mem_range.mpr h,rfl⟩
theorem aw_{needs:List Int}{d:Int}(hn:∀x∈needs,x<=1000)(G:d<=9)(S:needs.length<=3):∀k,k<=needs.length->JC BX needs d k=(List.range k).map fun(j:Nat)=>(j:Int)
 |0,_=>rfl
 |k+1,hk=>by
  have J:=aw_ hn G S k (by omega);have E:k<3:=by omega
  have O:needs.getD k 0<=1000:=hn _ (by rw[lH (by omega)];exact zu _);have hs:(List.range k).map (fun(j:Nat)=>(j:Int))++[(k:Int)]=(List.range (k+1)).map fun(j:Nat)=>(j:Int):=by rw[wX,xH];rfl
  have Y:∀m<k,U8 BX (JC BX needs d k) (needs.getD k 0) (needs.drop (k+1)) d m=false:=fun m hm=>by
   unfold U8;rw[J,YC,sJ hm];simp
  have h2:U8 BX (JC BX needs d k) (needs.getD k 0) (needs.drop (k+1)) d k=true:=by
   unfold U8;rw[J,YC,sH (Nat.lt_irrefl k),us3 O G E,hs];have:Dj BX (Vj ((List.range (k+1)).map fun(j:Nat)=>(j:Int))) (needs.drop (k+1)) d=true:=by
    refine adw (fun x hx=>hn x (uJ hx)) G ?_;rw[YC,YC,YC,zC];have:k=0\/k=1\/k=2:=by omega
    rcases this with rfl|rfl|rfl<;>simp<;>omega
   rw[this];rfl
  rw[Yz (i:=k) (show k<BX.length from E) Y h2,J,hs]
theorem abY{needs:List Int}{d:Int}(hn:∀x∈needs,x<=1000)(E:d<=9)(G:needs.length<=3):∃l,DY BX needs d=some l/\l.length=needs.length:=by
 have hc:Yy BX needs d=true:=by
  unfold Yy;rw[iC aq0,sJ (by omega),adw hn E (by simpa using G)];rfl
 refine⟨JC BX needs d needs.length,by unfold DY;rw[sO hc],?_⟩;rw[aw_ hn E G _ (zq _)];simp
theorem aq1{needs:List Int}{d:Int}{l:List Int}(h:DY [] needs d=some l):needs=[]:=by
 unfold DY at h
 split at h
 .rename_i hc
  unfold Yy at hc;simp only[zM]at hc;have E:=hc.2.2;cases needs with
  |nil=>rfl
  |cons x r=>
   exfalso;unfold Dj at E;rw[wV]at E;have G:=E 0 (by simp);unfold enB at G;have J:=of_decide_eq_true G;simp only[yY,Fz,List.getD_cons_zero]at J;have O:∀k,1<=Jt (x :: r) x (k+1):=fun k=>by
    induction k with
    |zero=>simp[Jt]
    |succ k S=>rw[Jt];omega
   have:=O r.length;simp only[zV]at J;omega
 .cases h
end Go.Proofs.YtjknobpihkmilaaGreat
