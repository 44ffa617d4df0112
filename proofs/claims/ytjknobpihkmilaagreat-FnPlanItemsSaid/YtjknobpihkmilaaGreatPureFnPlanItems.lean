import Derived.Test.YtjknobpihkmilaaGreatTb6
set_option linter.unusedSimpArgs false
set_option linter.unusedVariables false
set_option linter.unusedSectionVars false
set_option linter.defProp false
set_option maxRecDepth 10000
set_option maxHeartbeats 4000000
open Go.Proofs.Tryz renaming prog->ZM
open Go.Proofs.Tryz
open Int renaming lt_irrefl->zi,toNat_natCast->zF
open List renaming getElem?_eq_getElem->zy,getElem_mem->zu,take_of_length_le->zl,length_take->zh,mem_cons_of_mem->zY,mem_cons->zX,length_cons->zV,mem_cons_self->zO,not_mem_nil->zK,append_nil->zH,getElem_of_mem->zA,drop_zero->yg,length_nil->yY,getElem?_drop->xw,getElem_take->vS,getElem?_take_of_lt->um
open Nat renaming le_trans->zL,zero_add->yZ,zero_le->wF,zero_mul->vM
open Option renaming bind_some->zk,map_some->zJ,getD_some->yG
namespace Go.Proofs.YtjknobpihkmilaaGreat
open Go Go.TV Go.Plan
attribute [-go_sem] qy
theorem aAs:okL 32 H_ BX:=by
 refine⟨fun x E=>?_,by decide,by decide⟩;have o1:∀u:UInt8,okS ⟨#[u]⟩:=fun u=>by unfold okS;show 1<=_;omega
 have G:okI 1000:=iq.mpr (by omega);have J:okI 9:=iq.mpr (by omega);simp only[BX,zX,zK,or_false]at E;rcases E with rfl|rfl|rfl<;>exact⟨o1 _,G,J⟩
theorem aAt:okL 32 H_ []:=⟨(fun x E=>by cases E),by decide,by decide⟩
theorem adx{σ:Store}{v:V}{xs:List Int}{ids:List Nat}(h:Own σ 1 v (LI xs) ids){P:Program}{t:TypeId}(E:(xI P t).slice=true):DI P t v=some (I xs.length):=by
 rcases IV h with ⟨rfl,e,_⟩|⟨b,st,rfl,_⟩
 .rw[nX E,e];rfl
 .rw[nV E]
theorem anb{σ:Store}{v:V}{xs:List Int}{ids:List Nat}(h:G9 σ v xs ids){P:Program}{t:TypeId}(E:(xI P t).slice=true):DI P t v=some (I xs.length):=by
 rcases h with ⟨rfl,rfl,rfl⟩|⟨b,G,rfl,rfl,h⟩
 .rw[nX E];rfl
 .rw[nV E]
theorem anc{y:BZ}{fr to:Int}(E:CJ y fr to=true):(BF y fr to).length<=y.aI.length:=by
 have G:=adk E;have S:=abX E;have hn:((BF y fr to).map Int.toNat).Nodup:=by
  unfold List.Nodup;rw[List.pairwise_map,List.pairwise_iff_getElem];intro i j hi O Y e;obtain⟨a,J,_⟩:=G.2 i hi;obtain⟨b,eb,_⟩:=G.2 j O;refine(S j O).1 ?_;have:(BF y fr to)[j]=(BF y fr to)[i]:=by rw[J,eb]at e⊢;omega
  rw[this];have ht:i<((BF y fr to).take j).length:=by rw[zh];omega
  have e2:((BF y fr to).take j)[i]=(BF y fr to)[i]:=vS;rw[<- e2];exact zu ht
 have:=jC (n:=y.aI.length) hn fun x hx=>by
  obtain⟨z,hz,rfl⟩:=List.mem_map.mp hx;obtain⟨k,hk,rfl⟩:=zA hz;obtain⟨a,J,ha,_⟩:=G.2 k hk;rw[J,zF];exact ha
 simpa using this
namespace Pure
theorem FnPlanItems(x0:(List Int))(h0:(okL 1 (fun n=>(Lit.int .u8 n).wf=true)) x0) :
  fn ZM Cb D7 4 [LL (fun n:Int=>[.sc (.int .u8 n)]) x0]=some (Bo true):=by
 by_cases hs:(1048576:Int)<(x0.length:Int)
 .rw[mJ,nC [.tmp 2] [22] func4]
  simp only[go_sem,hs]
 have hx:=ajz h0;have hl:x0.length<=1048576:=by omega
 obtain⟨y,i0,hG,ho,j4,j5,i2⟩:=aby x0 hx hl;have k1:fn ZM conv ext 6 [LL (fun n:Int=>[.sc (.int .u8 n)]) x0]=some (.agg (Cj y)):=i0
 have k4:=Tm y ho;rw[iC hG]at k4;have PI:=hG.1;obtain⟨v,b8,O,i1,k5,j6,o1,a7⟩:=afA y ho 0 1 1;have g1:=fun d=>o1.gather (d':=d+1) (by omega)
 obtain⟨Jw,ea⟩:∃Jw,Jw=Ce 1 (upd pI 0 (some ⟨Cj y,0,true⟩)) b8 i1:=⟨_,rfl⟩;have i3:Own Jw 1 v (LI (BF y 0 1)) i1:=by rw[ea];exact o1.join fun b hb=>(a7 b hb).1
 have a0:Jw 0=some ⟨Cj y,0,true⟩:=by rw[ea,jq (by omega),Zj]
 obtain⟨X,eX⟩:∃X,X=BX.flatMap BG:=⟨_,rfl⟩;obtain⟨Jy,eb⟩:∃Jy,Jy=upd Jw O (some ⟨X,3,true⟩):=⟨_,rfl⟩;have b0:Jy 0=some ⟨Cj y,0,true⟩:=by rw[eb,Zm,a0]
 have bX:Jy O=some ⟨X,3,true⟩:=by rw[eb,Zj]
 have b9:Own Jy 1 v (LI (BF y 0 1)) i1:=i3.frame fun b hb=>by rw[eb,Zk _ _ (by have:=a7 b hb;omega)]
 have sv:=fun d=>b9.strip (d':=d+1) (by omega)
 have i4:X=[Sg ⟨#[97]⟩,I 1000,I 9,Sg ⟨#[98]⟩,I 1000,I 9,Sg ⟨#[99]⟩,I 1000,I 9]:=by rw[eX];rfl
 have r1:patch (rep 3 [V.sc (Value.string ByteArray.empty),V.sc (Value.int IntKind.i64 0),V.sc (Value.int IntKind.i64 0)]) 0 [V.sc (Value.string ⟨#[97]⟩),V.sc (Value.int IntKind.i64 1000),V.sc (Value.int IntKind.i64 9)]=[V.sc (Value.string ⟨#[97]⟩),V.sc (Value.int IntKind.i64 1000),V.sc (Value.int IntKind.i64 9),V.sc (Value.string ByteArray.empty),V.sc (Value.int IntKind.i64 0),V.sc (Value.int IntKind.i64 0),V.sc (Value.string ByteArray.empty),V.sc (Value.int IntKind.i64 0),V.sc (Value.int IntKind.i64 0)]:=rfl;have r2:patch [V.sc (Value.string ⟨#[97]⟩),V.sc (Value.int IntKind.i64 1000),V.sc (Value.int IntKind.i64 9),V.sc (Value.string ByteArray.empty),V.sc (Value.int IntKind.i64 0),V.sc (Value.int IntKind.i64 0),V.sc (Value.string ByteArray.empty),V.sc (Value.int IntKind.i64 0),V.sc (Value.int IntKind.i64 0)] 3 [V.sc (Value.string ⟨#[98]⟩),V.sc (Value.int IntKind.i64 1000),V.sc (Value.int IntKind.i64 9)]=[V.sc (Value.string ⟨#[97]⟩),V.sc (Value.int IntKind.i64 1000),V.sc (Value.int IntKind.i64 9),V.sc (Value.string ⟨#[98]⟩),V.sc (Value.int IntKind.i64 1000),V.sc (Value.int IntKind.i64 9),V.sc (Value.string ByteArray.empty),V.sc (Value.int IntKind.i64 0),V.sc (Value.int IntKind.i64 0)]:=rfl;have r3:patch [V.sc (Value.string ⟨#[97]⟩),V.sc (Value.int IntKind.i64 1000),V.sc (Value.int IntKind.i64 9),V.sc (Value.string ⟨#[98]⟩),V.sc (Value.int IntKind.i64 1000),V.sc (Value.int IntKind.i64 9),V.sc (Value.string ByteArray.empty),V.sc (Value.int IntKind.i64 0),V.sc (Value.int IntKind.i64 0)] 6 [V.sc (Value.string ⟨#[99]⟩),V.sc (Value.int IntKind.i64 1000),V.sc (Value.int IntKind.i64 9)]=X:=by rw[eX];rfl
 have r4:3<=(rep 3 [V.sc (Value.string ByteArray.empty),V.sc (Value.int IntKind.i64 0),V.sc (Value.int IntKind.i64 0)]).length:=by decide
 have sX:∀σ:Store,σ O=some ⟨X,3,true⟩->∀d,strip σ (d+1) (.rs O 0 3)=some (LL BG BX,[O]):=fun σ h d=>by
  rw[aS,h,i4];have:∀d,stripL (strip σ d) [Sg ⟨#[97]⟩,I 1000,I 9,Sg ⟨#[98]⟩,I 1000,I 9,Sg ⟨#[99]⟩,I 1000,I 9]=some ([Sg ⟨#[97]⟩,I 1000,I 9,Sg ⟨#[98]⟩,I 1000,I 9,Sg ⟨#[99]⟩,I 1000,I 9],[]):=fun d=>by
   simp only[au,aY,aQ,zH,zk,zJ]
  simp only[zk,yZ,yg,zV,yY];rw[sO (by decide),zl (by decide),this];rfl
 have c8:=sX Jy bX;have c2:=zL (afB y 0 1) (by decide:1000000<=1048576);rw[mJ,nC [.tmp 2] [22] func4];cases a8:CJ y 0 1 with
 |false=>
  rw[a8]at k5;have b2:BF y 0 1=[]:=by unfold BF;rw[a8,sQ (by simp)]
  have i5:EF y []=false:=by unfold EF;simp
  obtain⟨σ2,n2,k6,i6⟩:=YB y ho [] (by decide) i5 BX 0 (by decide) (by decide) (O+1);rw[b2]at sv;simp only[go_sem,qE,hs,k1,k4,k5,g1,<- ea,a0,r1,r2,r3,r4,<- eb,b0,sv,c8,k6]
 |true=>
 rw[a8]at k5;have hP:=adk a8;have hle:=anc a8;have k9:=Yv a8;obtain⟨P,eP⟩:∃P,P=BF y 0 1:=⟨_,rfl⟩;rw[<- eP]at b9 sv c2 hP hle k9;have j7:P.length<=4:=by omega
 have b2:0<P.length:=List.length_pos_iff.mpr hP.1;obtain⟨N,hN⟩:∃N:Nat->Option (List Int),∀j (h:j<y.aI.length),(j:Int)∈P->∃L,N j=some L/\LG y.aI[j] (some L)/\L.length<=3/\∀x∈L,x<=1000:=by
  have hE:∀j:Nat,∃o:Option (List Int),∀(h:j<y.aI.length),(j:Int)∈P->∃L,o=some L/\LG y.aI[j] (some L)/\L.length<=3/\∀x∈L,x<=1000:=fun j=>by
   by_cases h:j<y.aI.length/\(j:Int)∈P
   .obtain⟨k,hk,e⟩:=zA h.2
    obtain⟨i,ei,hi,b3⟩:=hP.2 k hk;have:i=j:=by rw[ei]at e;omega
    subst this;obtain⟨L,h1,h2,h3⟩:=ajK (ho.1.1 _ (zu hi)) b3;have:=i2 _ (zu hi);exact⟨some L,fun _ _=>⟨L,rfl,h1,by omega,h3⟩⟩
   .exact⟨none,fun h1 h2=>absurd ⟨h1,h2⟩ h⟩
  exact⟨fun j=>Classical.choose (hE j),fun j=>Classical.choose_spec (hE j)⟩
 have c9:∀j (h:j<y.aI.length),(j:Int)∈P->LG y.aI[j] (N j):=fun j h hm=>by
  obtain⟨L,e,h1,-⟩:=hN j h hm;rw[e];exact h1
 have Y:∀k (hk:k<P.length),∃(j:Nat) (L:List Int),P[k]=(j:Int)/\(∃hj:j<y.aI.length,LG y.aI[j] (some L))/\L.length<=3/\(∀x∈L,x<=1000)/\∀xs:List TV.Item,G_ N xs P 0 k=DY xs L (0+k):=fun k hk=>by
  obtain⟨i,ei,hi,b3⟩:=hP.2 k hk;obtain⟨L,e,h1,h2,h3⟩:=hN i hi (by rw[<- ei];exact zu hk);refine⟨i,L,ei,⟨hi,h1⟩,h2,h3,fun xs=>?_⟩;unfold G_;rw[anW hk,ei,zF,e];rfl
 obtain⟨w,ok,σ2,n2,k6,i6,hE⟩:=LH y ho N P c9 c2 k9 BX aAs 0 (by decide) (by decide) (O+1);rcases hE with ⟨-,-,k,hk,e⟩|⟨rfl,B,vs,is,ls,rfl,j8,e5,j9,k0,i7,e6⟩
 .exfalso
  obtain⟨j,L,-,-,h2,h3,e2⟩:=Y k hk;obtain⟨l,e3,-⟩:=abY (d:=0+k) h3 (by omega) h2;rw[e2 BX,e3]at e;cases e
 have g2:=fun d=>e5.gather d P.length
 obtain⟨Jz,ec⟩:∃Jz,Jz=Ce (O+1) Jy σ2 (B :: is.flatten):=⟨_,rfl⟩;have b4:∀c,c<O+1->Jz c=Jy c:=fun c hc=>by rw[ec,jq hc]
 have G:NL Jz B vs is ls:=e5.frame (by rw[ec,jr (by omega) (zO ..)]) fun b hb=>by rw[ec,jr (by have:=i7 b hb;omega) (zY _ hb)]
 have i9:Own Jz 1 v (LI P) i1:=b9.frame fun b hb=>b4 b (by have:=a7 b hb;omega)
 have c0:Jz 0=some ⟨Cj y,0,true⟩:=by rw[b4 0 (by omega),b0]
 have cX:Jz O=some ⟨X,3,true⟩:=by rw[b4 O (by omega),bX]
 obtain⟨b,hv,j0,e7,k2⟩:∃b,v= .rs b 0 P.length/\i1=[b]/\Jz b=some ⟨P.flatMap cI,1,true⟩/\0<P.length:=by
  rcases IV i9 with ⟨_,e,_⟩|⟨b,st,h1,h2,h3,h4⟩
  .exact absurd e hP.1
  .have:st=1:=by
    rcases Nat.lt_trichotomy st 1 with c|c|c
    .have:st=0:=by omega
     subst this;omega
    .exact c
    .have:P.length*1<P.length*st:=Nat.mul_lt_mul_of_pos_left c b2
     omega
   subst this;exact⟨b,h1,h2,h3,b2⟩
 have k3:=a7 b (by rw[j0];simp);subst hv;have e1:((P.length:Int) !=(P.length:Int))=false:=by simp
 have e2:((P.length:Int)==0)=false:=beq_eq_false_iff_ne.mpr (by omega);have e3:(P.length !=P.length)=false:=by simp
 have e4:(P.length==0)=false:=beq_eq_false_iff_ne.mpr (by omega);simp only[go_sem,qE,hs,k1,k4,k5,g1,<- ea,a0,r1,r2,r3,r4,<- eb,b0,sv,c8,k6,g2,<- ec,e1,e2,e3,e4];generalize hL:iI _ _=z;obtain⟨x,rfl,T,σ,nx,rfl,t3,t4,t6,t7,k7,E⟩:=oZ hL P.length (fun j st=>st.T 3= .rp 0 0/\st.T 4= .rs b 0 P.length/\st.T 6= .rs O 0 3/\st.T 7= .rs B 0 P.length/\st.T 62= .rs b 0 P.length/\st.T 63=I P.length/\st.T 64=I j/\n2<=st.nx/\∀c,c<n2->st.σ c=Jz c)
  (fun x=>∃T σ nx,x=(.exit 0,⟨T,σ,nx⟩)/\T 3= .rp 0 0/\T 4= .rs b 0 P.length/\T 6= .rs O 0 3/\T 7= .rs B 0 P.length/\n2<=nx/\∀c,c<n2->σ c=Jz c) (by
   clear hL;rintro k ⟨T,σ,m⟩ hk ⟨t3,t4,t6,t7,t62,t63,t64,hm,E⟩;simp only at t3 t4 t6 t7 t62 t63 t64 hm E;have d0:=(E 0 (by omega)).trans c0;have db:=(E b (by omega)).trans e7;have f1:(k:Int)<(P.length:Int):=by omega
   have f2:=jF k;have f3:=ZU (n:=(k:Int)+1);have f4:=idx (xs:=P) (k:=k) hk;have f5:=bZ (c:=cI) (s:=1) (fun _=>rfl) P;obtain⟨j,L,ej,⟨hj,c3⟩,c4,c5,a6⟩:=Y k hk;rw[ej]at f4;have g1:(j:Int)<(y.aI.length:Int):=by omega
   have g2:=jF j;have g3:¬(j:Int)<0:=by omega
   have g4:¬(y.aI.length:Int)<=(j:Int):=by omega
   have g5:=ag_ y.aI j hj;have g6:=WQ y.aI;have g7:j*5+5<=y.aI.length*5:=by omega
   have g9:=WO y.aI j hj;have q1:=IJ y y.aI[j].name ho.1.2.2;have q2:=kP y.aI[j] (ho.1.1 _ (zu hj));obtain⟨t,et⟩:∃t,t=y.aI[j]:=⟨_,rfl⟩;have q4:=hG.2.2.1 j hj;rw[<- et]at g5 c3 q1 q2 q4;rw[q4.2]at q1;rw[q4.1]at q2;have g10:(y.aI.flatMap Az)[j*5]?=some (Sg t.name):=by
    have:=congrArg (fun l:List V=>l[0]?) g5;rw[um (by decide),xw]at this
    simpa using this
   obtain⟨v1,b8,m1,e8,q3,k8,b5,a7⟩:=anV c3 m;have gP:=fun d=>b5.gather d
   obtain⟨YG,ed⟩:∃YG,YG=Ce m σ b8 e8:=⟨_,rfl⟩;have c6:∀c,c<n2->YG c=Jz c:=fun c hc=>by rw[ed,jq (by omega),E c hc]
   have b5:G9 YG v1 L e8:=by rw[ed];exact b5.join fun b hb=>(a7 b hb).1
   have e0:=c6 0 (by omega);rw[c0]at e0;have eB:=c6 B (by omega);rw[G.1]at eB;obtain⟨w,ew⟩:∃w,w=vs[k]'(by omega):=⟨_,rfl⟩;have a1:=G.2.2.2 k (by omega) (by rw[G.2.1];omega) (by rw[G.2.2.1];omega);rw[<- ew]at a1;have J:=e6 k (by rw[G.2.2.1];omega);obtain⟨l,e3,b6⟩:=abY (d:=0+k) c5 (by omega) c4;rw[a6 BX,e3]at J;have J:=Option.some.inj J;rw[<- J]at a1;have e9:=anb b5 (P:=ZM) (t:=29) (by kernel_rfl);have S:=adx a1 (P:=ZM) (t:=29) (by kernel_rfl);rw[b6]at S;have z1:((L.length:Int) !=(L.length:Int))=false:=by simp
   have z2:(L.length !=L.length)=false:=by simp
   have z3:0<m:=by omega
   have z4:0<m1:=by omega
   have z5:B<m1:=by omega
   have z6:vs[k]?=some w:=by rw[ew];exact zy (by omega)
   have z7:(((j:Nat):Int) !=((j:Nat):Int))=false:=by simp
   have z8:(j !=j)=false:=by simp
   exact .inl ⟨_,by simp only[go_sem,qE,t3,t4,t6,t7,t62,t63,t64,d0,db,f1,f2,f3,f4,f5,hk,hj,g1,g2,g3,g4,g5,g6,g7,g9,g10,q1,q2,q3,gP,Option.isSome_some,yG,<- ed,e0,eB,e9,S,z1,z2,z3,z4,z5,z6,z7,z8];rfl,by
    simp only[go_sem,t3,t4,t6,t7,t62,t63];exact⟨rfl,by omega,fun c hc=>c6 c hc⟩⟩) (by
   clear hL;rintro ⟨T,σ,m⟩ ⟨t3,t4,t6,t7,t62,t63,t64,hm,E⟩;simp only at t3 t4 t6 t7 t62 t63 t64 hm E;exact⟨_,by simp only[go_sem,t63,t64,zi];rfl,by simp,_,_,_,rfl,by simp only[go_sem,t3],by simp only[go_sem,t4],by simp only[go_sem,t6],by simp only[go_sem,t7],hm,E⟩) (by
   simp only[go_sem];exact fun _ _=>trivial)
 have d0:=(E 0 (by omega)).trans c0;have db:=(E b (by omega)).trans e7;have dX:=(E O (by omega)).trans cX;have dB:=(E B (by omega)).trans G.1;have s1:∀d,strip σ (d+1) (.rs b 0 P.length)=some (LI P,[b]):=fun d=>kJ (σ:=σ) (b:=b) (xs:=P) db (n:=P.length) rfl d
 have s2:∀d,strip σ (d+1) (.rs O 0 0)=some (LL BG [],[O]):=fun d=>by
  rw[aS,dX];simp only[zk,vM,yZ,yg,List.take_zero,wF,if_true,aY,zJ];rfl
 have h5:Int.toNat 0=0:=rfl;have h6:0*3<=X.length:=by omega
 have h7:([b,O].all fun b=>decide (b<nx))=true:=by simp;omega
 have y0:0<nx:=by omega
 have y1:O<nx:=by omega
 have y2:b<nx:=by omega
 obtain⟨j,L,ej,⟨hj,c3⟩,c4,c5,a6⟩:=Y 0 b2;obtain⟨u,ok,σ2,m2,q1,l1,hE⟩:=LH y ho N P c9 c2 k9 [] aAt 0 (by decide) (by decide) nx;rcases hE with ⟨rfl,rfl,-⟩|⟨rfl,B2,l2,j1,l3,rfl,l4,h8,l5,l6,l7,h9⟩
 .simp only[go_sem,qE,t3,t4,t6,t7,d0,dX,s1,s2,q1,y0,y1,y2,h5,h6,h7,Yu]
 .have g3:=fun d=>h8.gather d P.length
  obtain⟨c7,ee⟩:∃c7,c7=K_ nx m2 σ σ2 (B2 :: j1.flatten):=⟨_,rfl⟩;have j2:c7 B=some ⟨vs,1,true⟩:=by rw[ee,anr (by omega)];exact dB
  have y3:(0:Int)<(P.length:Int):=by omega
  obtain⟨w,ew⟩:∃w,w=vs[0]'(by omega):=⟨_,rfl⟩;have a1:=G.2.2.2 0 (by omega) (by rw[G.2.1];omega) (by rw[G.2.2.1];omega);rw[<- ew]at a1;have J:=e6 0 (by rw[G.2.2.1];omega);have b7:=h9 0 (by rw[h8.2.2.1];omega);obtain⟨l,e3,b6⟩:=abY (d:=0+((0:Nat):Int)) c5 (by decide) c4;rw[a6 BX,e3]at J;have J:=Option.some.inj J;rw[a6 []]at b7;have j3:=aq1 b7;rw[j3]at b6;rw[<- J]at a1;have S:=adx a1 (P:=ZM) (t:=29) (by kernel_rfl);rw[b6]at S;have z6:vs[0]?=some w:=by rw[ew];exact zy (by omega)
  simp only[go_sem,qE,t3,t4,t6,t7,d0,dX,s1,s2,q1,g3,<- ee,j2,y0,y1,y2,y3,h5,h6,h7,S,z6,Yu]
end Pure
end Go.Proofs.YtjknobpihkmilaaGreat
