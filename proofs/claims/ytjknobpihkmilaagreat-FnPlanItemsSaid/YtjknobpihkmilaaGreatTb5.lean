import Derived.Test.YtjknobpihkmilaaGreatTb4
set_option linter.unusedSimpArgs false
set_option linter.unusedVariables false
set_option linter.unusedSectionVars false
set_option linter.defProp false
set_option maxRecDepth 10000
set_option maxHeartbeats 4000000
open Go.Proofs.Tryz renaming prog->ZM
open Go.Proofs.Tryz
open Bool renaming and_eq_true->zM,false_eq_true->yE,true_and->xY,and_false->wY,false_and->wM,not_false->wE,not_true->vH,and_true->uj
open Classical renaming byContradiction->zf
open Int renaming lt_irrefl->zi,toNat_natCast->zF,natCast_mul->yj,le_refl->xP,le_of_lt->x9,natAbs_natCast->wo,natAbs_neg->wC,toNat_of_nonneg->uZ,natAbs_mul->uY
open List renaming getElem?_eq_getElem->zy,getD_eq_getElem?_getD->zx,getElem_mem->zu,length_append->zo,take_of_length_le->zl,length_take->zh,eq_nil_of_length_eq_zero->zZ,mem_cons_of_mem->zY,mem_cons->zX,length_cons->zV,getElem?_append_left->zU,length_map->zT,flatMap_append->zQ,mem_cons_self->zO,getElem?_append_right->zN,not_mem_nil->zK,append_nil->zH,flatMap_cons->zG,length_drop->zC,getElem_of_mem->zA,mem_append_left->z_,append_assoc->yw,mem_append_right->yh,drop_zero->yg,getElem?_map->yc,length_nil->yY,getElem?_eq_none->yX,length_singleton->yV,length_replicate->yU,take_length->yT,drop_eq_getElem_cons->yS,cons_append->yR,ext_getElem->yQ,length_set->yP,getElem_append_left->yO,take_add_one->yL,nil_append->yJ,length_eraseIdx_of_lt->yH,mem_singleton->yD,getElem_map->yC,drop_of_length_le->yA,getElem?_drop->xw,replicate_succ->xu,nodup_cons->xk,mem_append->xW,set_append_right->xO,map_congr_left->xM,map_append->xH,take_left'->xG,getElem_range->wZ,range_succ->wX,getElem_set->wW,mem_of_mem_take->wR,getElem_append_right->wP,replicate_append_replicate->wG,getElem?_range->wB,all_nil->w_,flatMap_nil->vw,all_cons->vY,getElem_take->vS,set_cons_zero->vC,take_append_drop->vB,mem_of_mem_eraseIdx->uo,drop_append_of_le_length->ug,getElem_inj->uX,getElem_cons_zero->uT,map_cons->uN,length_range->uM,replicate_succ'->uK,getElem?_mapIdx->uH,drop_drop->uD,length_zipWith->tZ,eraseIdx_eq_take_drop_succ->tN,getElem?_set_self->tC
open Nat renaming le_refl->zq,not_lt_zero->zW,le_trans->zL,mul_le_mul_right->zD,zero_add->yZ,mul_one->yN,sub_self->yM,succ_mul->xq,min_eq_left->xX,lt_of_lt_of_le->xQ,mul_le_mul->xK,add_comm->wQ,zero_le->wF,add_mul->vZ,div_one->vK,le_mul_of_pos_left->t_
open Ne renaming symm->yu
open Option renaming bind_some->zk,map_some->zJ
open Option.some renaming injEq->sW
open Prod.mk renaming injEq->sS
namespace Go.Proofs.YtjknobpihkmilaaGreat
open Go Go.TV Go.Lp
attribute [-go_sem] qy
theorem jG{n:Nat}(h:ln n<=60):Di (dg n) :=
 ⟨fun x E=>by have:=aaN n x E;unfold inB;rw[sJ this.1,sJ this.2];rfl,h,Zt n⟩
theorem ap0(q:Rat)(h:Ln 24 q):fn ZM Aa Ak 211 [.agg (cQ q)]=some (Bo true):=by
 have Y:(dg q.num.natAbs).length<=24:=h.1;have a1:(dg q.den).length<=24:=h.2;have E:=aeO (decide (q.num<0)) (dg q.num.natAbs) (by unfold Short;omega);have G:(decide (q.num<0) && decide (dg q.num.natAbs=[]))=false:=by
  by_cases hz:q.num<0
  .rw[sH (oO (n:=q.num.natAbs) (by omega)),wY]
  .rw[sH hz];rfl
 rw[iC (jG (by have:=h.1;omega)),G]at E;have O:=ahe (dg q.den) (by unfold Short;omega);rw[iC (jG (by have:=h.2;omega))]at O;have S:=Xu q.num.natAbs q.den (by have:=h.1;omega) (by have:=h.2;omega);rw[show Nat.gcd q.num.natAbs q.den=1 from q.reduced,oN (d:=1) (by decide) (by decide)]at S;have k4:fn ZM conv ext 175 [.ts [I 1] 1,.ts [I 1] 1]=some (I 0):=by
  have:=asU 1 (by decide);rw[oN (d:=1) (by decide) (by decide)]at this;exact this
 have J:fn ZM Aa Ak 174 [LI (dg q.num.natAbs),LI (dg q.den)]=some (.ts [I 1] 1):=S;have c0:(((dg q.den).length:Int)==0)=false:=by rw[sN];have:=rC (oO q.den_nz);omega
 have c1:¬(24:Int)<((dg q.num.natAbs).length:Int):=by omega
 have c2:¬(24:Int)<((dg q.den).length:Int):=by omega
 unfold cQ;rw[mJ,nC [.tmp 2] [] func211];simp only[go_sem]at E;simp only[go_sem,E,O,J,k4,c0,c1,c2]
theorem aug(q:Rat)(h:Ln 24 q):fn ZM Aa Ak 183 [.agg (cQ q)]=some (.tp (cQ q) 0):=by
 have E:=ap0 q h;unfold cQ at E⊢;rw[mJ,nC [.tmp 2] [] func183];simp only[go_sem,E]
theorem aiO(qs:List Rat){k:Nat}(h:k<qs.length):((qs.take k).flatMap cF++rep (qs.length-k) [V.sc (.pointer none)]).set k (.tp (cQ qs[k]) 0)=(qs.take (k+1)).flatMap cF++rep (qs.length - (k+1)) [V.sc (.pointer none)]:=by
 have E:((qs.take k).flatMap cF).length=k:=by rw[qP,zh];omega
 rw[xO _ _ (by omega),E,yM,show qs.length-k=qs.length - (k+1)+1 by omega,fP,aJ h,zQ,yw];rfl
theorem aiP(qs:List Rat){k:Nat}(h:k<qs.length):((qs.take (k+1)).flatMap cF++rep (qs.length - (k+1)) [V.sc (.pointer none)])[k]?=some (.tp (cQ qs[k]) 0):=by
 have E:k<(qs.take (k+1)).length:=by rw[zh];omega
 rw[zU (by rw[qP];exact E),qQ _ E,vS]
theorem XY(qs:List Rat){k:Nat}(h:k<=qs.length):((qs.take k).flatMap cF++rep (qs.length-k) [V.sc (.pointer none)]).length=qs.length:=by
 rw[zo,qP,fQ,zh];simp;omega
theorem afq(a b c:V)(q:Rat):patch [a,b,c] 0 (cQ q)=cQ q:=rfl
attribute [go_sem] afq
theorem ap1(qs:List Rat)(hL:∀q∈qs,Ln 24 q)(hn:qs.length<=1000):fn ZM Aa Ak 152 [LL cQ qs]=some (.AX [LL cF qs,Bo true]):=by
 have m1:(0:Int)<=(qs.length:Int):=by omega
 have m2:8*(qs.length:Int)<=281474976710656:=by omega
 have m3:(qs.length:Int)<=9223372036854775807:=by omega
 rw[mJ,nC [.tmp 2,.tmp 3] [] func152];simp only[go_sem,m1,m2,m3];generalize J:iI _ _=y;obtain⟨x,rfl,T,σ,nx,rfl,t4,s0⟩:=oZ J qs.length (fun k st=>st.T 4= .rs 0 0 qs.length/\st.T 10=LL cQ qs/\st.T 11=I qs.length/\st.T 12=I k/\0<st.nx/\st.σ 0=some ⟨(qs.take k).flatMap cF++rep (qs.length-k) [V.sc (.pointer none)],1,true⟩)
  (fun x=>∃T σ nx,x=(.exit 0,⟨T,σ,nx⟩)/\T 4= .rs 0 0 qs.length/\σ 0=some ⟨qs.flatMap cF,1,true⟩) (by
   clear J;rintro k ⟨T,σ,nx⟩ E ⟨t4,t10,t11,t12,G,s0⟩;simp only at t4 t10 t11 t12 G s0;have g1:(k:Int)<(qs.length:Int):=by omega
   have g2:=jF k;have g3:=ZU (n:=(k:Int)+1);have g4:=d_ (c:=cQ) (s:=3) (fun _=>rfl) qs k E;have g5:=bg (c:=cQ) (s:=3) (fun _=>rfl) (by omega) qs k E;have g6:=ac1 qs;have g7:k*3+3<=qs.length*3:=by omega
   have O:=aug qs[k] (hL _ (zu E));have S:=aiO qs E;have Y:=aiP qs E;have p3:=XY qs (k:=k) (by omega);have p4:=XY qs (k:=k+1) (by omega);have d1:¬0=nx:=by omega
   have d2:¬nx=0:=by omega
   have d3:k+1<=qs.length:=E;obtain⟨q,eq⟩:∃q,q=qs[k]:=⟨_,rfl⟩;rw[<- eq]at g4 O S Y;have st1:∀σ d,stripL (strip σ d) (cQ q)=some (cQ q,[]):=fun σ d=>qH σ d q
   refine .inl ⟨_,by simp only[go_sem,t4,t10,t11,t12,s0,g1,g2,g3,g4,g5,g6,g7,E,O,S,Y,p3,p4,d1,d2,d3,st1];rfl,?_⟩;simp only[go_sem,t4,t10,t11,d1,d2];exact⟨rfl,by omega⟩) (by
   rintro ⟨T,σ,nx⟩ ⟨t4,t10,t11,t12,G,s0⟩;simp only at t4 t10 t11 t12 G s0;have g1:¬(qs.length:Int)<(qs.length:Int):=by omega
   refine⟨_,by simp only[go_sem,t11,t12,g1];rfl,by simp,_,_,_,rfl,?_⟩;simp only[go_sem,t4];have e:rep 0 [V.sc (.pointer none)]=[]:=rfl;rw[yT,yM,e,zH]at s0;exact s0) (by
   simp only[go_sem])
 have u1:qs.length<=(qs.flatMap cF).length:=by rw[qP];exact zq _
 have u2:(qs.flatMap cF).take qs.length=qs.flatMap cF:=zl (by rw[qP];exact zq _);have u3:=Jf σ 4 qs;simp only[go_sem,t4,s0,u1,u2,u3]
theorem abx{s:Structure}(h:Bf s)(G:Aj s){qs:List Rat}(J:qs.length=s.members.length)(O:∀q∈qs,Ln 24 q):fn ZM Aa Ak 113 [.tp (jI s) 0,LL cQ qs]=some (.AX [LL cF qs,Bo true]):=by
 have S:=h.2.1;have E:=IK s G;rw[iC h]at E;have Y:=ap1 qs O (by omega);have c0:((qs.length:Int) !=(s.members.length:Int))=false:=by rw[J];simp
 rw[mJ,nC [.tmp 4,.tmp 5] [] func113];simp only[go_sem,E,Y,c0]
def sqQ(s:Structure)(q:Rat)(k:Nat):Option Rat:=Qe (Qe (some q) (some q)) (some ((vx s k*vx s k+vy s k*vy s k:Int):Rat))
theorem ac3{a b:Option Rat}:LnO 24 (Qe a b):=fun y h=>by
 cases a with
 |none=>cases h
 |some x=>cases b with
  |none=>cases h
  |some z=>exact acZ h
theorem UC{s:Structure}(h:SG s){qs:List Rat}(hl:qs.length=s.members.length)(hL:∀q∈qs,Ln 24 q){k:Nat}(G:k<qs.length) :
  fn ZM Aa Ak 114 [.tp (jI s) 0,LL cF qs,I k]=some (pQ (sqQ s qs[k] k)):=by
 have k1:=acT h (k:=k) (by omega);have hb:=Kt h k;have a6:=h.nm;have g1:(k:Int)<(qs.length:Int):=by omega
 have g2:=jF k;have g4:=qQ qs G;have g9:(qs.flatMap cF).length=qs.length:=qP qs;have J:qs.flatMap cF≠[]:=fun e=>by rw[e]at g9;have:qs.length=0:=g9.symm;omega
 have O:=hL _ (zu G);obtain⟨q,eq⟩:∃q,q=qs[k]:=⟨_,rfl⟩;rw[<- eq]at g4 O⊢;have x2:0<=vx s k*vx s k/\vx s k*vx s k<=10000:=by
  have h1:vx s k*vx s k=((vx s k).natAbs*(vx s k).natAbs:Nat):=by rw[Int.natAbs_mul_self]
  have h2:(vx s k).natAbs*(vx s k).natAbs<=100*100:=xK (by omega) (by omega);omega
 have y2:0<=vy s k*vy s k/\vy s k*vy s k<=10000:=by
  have h1:vy s k*vy s k=((vy s k).natAbs*(vy s k).natAbs:Nat):=by rw[Int.natAbs_mul_self]
  have h2:(vy s k).natAbs*(vy s k).natAbs<=100*100:=xK (by omega) (by omega);omega
 have w1:=ZU (n:=vx s k*vx s k);have w2:=ZU (n:=vy s k*vy s k);have w3:=ZU (n:=vx s k*vx s k+vy s k*vy s k);have k2:=kD (vx s k*vx s k+vy s k*vy s k) (by omega) (by omega);have k3:fn ZM Aa Ak 153 [.tp (cQ q) 0,.tp (cQ q) 0]=some (pQ (Qe (some q) (some q))):=at6 (a:=some q) (b:=some q) (fun z E=>by cases E;exact O.mono (by decide)) (fun z E=>by cases E;exact O.mono (by decide));have S:fn ZM Aa Ak 153 [pQ (Qe (some q) (some q)),.tp (cQ ((vx s k*vx s k+vy s k*vy s k:Int):Rat)) 0]=some (pQ (sqQ s q k)) :=
  at6 (b:=some ((vx s k*vx s k+vy s k*vy s k:Int):Rat)) (fun z E=>(ac3 z E).mono (by decide)) (fun z E=>by cases E;exact(sG (by omega)).mono (by decide))
 have st1:∀σ d,strip σ d (pQ (Qe (some q) (some q)))=some (pQ (Qe (some q) (some q)),[]):=fun σ d=>by
  cases Qe (some q) (some q)with
  |none=>unfold pQ;rw[aQ]
  |some z=>unfold pQ;rw[aO]
 have e1:(((vx s k*vx s k+vy s k*vy s k:Int):Rat))=((vx s k*vx s k+vy s k*vy s k:Int):Rat):=rfl;obtain⟨m1,Y⟩:∃m1,m1=pQ (Qe (some q) (some q)):=⟨_,rfl⟩;rw[<- Y]at k3 S st1;obtain⟨m2,a1⟩:∃m2,m2=cQ ((vx s k*vx s k+vy s k*vy s k:Int):Rat):=⟨_,rfl⟩;rw[<- a1]at k2 S;rw[mJ,nC [.tmp 6] [] func114];simp only[go_sem,k1,g1,g2,g4,g9,J,G,w1,w2,w3,k2,k3,S,st1];exact OV _ _
def Lu(s:Structure)(qs:List Rat):List (Option Rat):=(List.range qs.length).map fun k=>sqQ s (qs.getD k 0) k
theorem bJ(s:Structure)(qs:List Rat):(Lu s qs).length=qs.length:=by simp[Lu]
theorem amr(s:Structure)(qs:List Rat){k:Nat}(h:k<qs.length):(Lu s qs)[k]'(by rw[bJ];exact h)=sqQ s qs[k] k:=by
 simp[Lu,zx,zy h]
def G6(O:List (Option Rat)):V:=match B_ O with
 |some xs=> .AX [LL cF xs,Bo true]
 |none=> .AX [.ts [] 0,Bo false]
def Jh(xs:List Rat)(n:Nat):List V:=xs.flatMap cF++rep (n-xs.length) [V.sc (.pointer none)]
theorem XZ(xs:List Rat){n:Nat}(h:xs.length<=n):(Jh xs n).length=n:=by
 unfold Jh;rw[zo,qP,fQ];simp;omega
theorem aiQ(xs:List Rat){n:Nat}(h:xs.length<n)(q:Rat):(Jh xs n).set xs.length (.tp (cQ q) 0)=Jh (xs++[q]) n:=by
 unfold Jh;rw[xO _ _ (by rw[qP];exact zq _),qP,yM,zo,yV,show n-xs.length=n - (xs.length+1)+1 by omega,fP,zQ,yw];rfl
theorem aiR(xs:List Rat){n:Nat}(q:Rat):(Jh (xs++[q]) n)[xs.length]?=some (.tp (cQ q) 0):=by
 unfold Jh;rw[zU (by rw[qP];simp),qQ _ (by simp)];simp
theorem je{s:Structure}(h:Bf s)(ho:Aj s){qs:List Rat}(hl:qs.length=s.members.length)(hL:∀q∈qs,Ln 24 q) :
  fn ZM Aa Ak 75 [.tp (jI s) 0,LL cQ qs]=some (G6 (Lu s qs)):=by
 have a7:=h.2.1;have k1:=abx h ho hl hL;have m1:(0:Int)<=(qs.length:Int):=by omega
 have m2:8*(qs.length:Int)<=281474976710656:=by omega
 have m3:(qs.length:Int)<=9223372036854775807:=by omega
 rw[mJ,nC [.tmp 4,.tmp 5] [] func75];simp only[go_sem,k1,m1,m2,m3];generalize a1:iI _ _=y;obtain⟨x,rfl,hx⟩:=oZ a1 qs.length (fun k st=>st.T 0= .tp (jI s) 0/\st.T 6=LL cF qs/\st.T 8= .rs 0 0 qs.length/\st.T 22=I qs.length/\st.T 23=I k/\0<st.nx/\∃xs,B_ ((Lu s qs).take k)=some xs/\st.σ 0=some ⟨Jh xs qs.length,1,true⟩)
  (fun x=>∃T σ nx,(x=(.exit 0,⟨T,σ,nx⟩)/\T 8= .rs 0 0 qs.length/\∃xs,B_ (Lu s qs)=some xs/\σ 0=some ⟨Jh xs qs.length,1,true⟩)\/(x=(.ret,⟨T,σ,nx⟩)/\T 4= .nil/\T 5=Bo false/\B_ (Lu s qs)=none)) (by
   clear a1;rintro k ⟨T,σ,nx⟩ Y ⟨t0,t6,t8,t22,t23,G,xs,E,s0⟩;simp only at t0 t6 t8 t22 t23 G s0;have g1:(k:Int)<(qs.length:Int):=by omega
   have g2:=jF k;have g3:=ZU (n:=(k:Int)+1);have a6:k<(Lu s qs).length:=by rw[bJ];exact Y
   have J:xs.length=k:=by rw[dJ E,zh];omega
   have O:(Lu s qs).take (k+1)=(Lu s qs).take k++[sqQ s qs[k] k]:=by rw[aJ a6,amr s qs Y]
   have S:=UC h.sg hl hL Y;have p1:=XZ xs (n:=qs.length) (by omega);have g5:k+1<=qs.length:=Y;cases hv:sqQ s qs[k] k with
   |none=>
    rw[hv]at S O;have S:fn ZM Aa Ak 114 [.tp (jI s) 0,LL cF qs,I k]=some (.sc (.pointer none)):=S;have p3:((Jh xs qs.length).set k (V.sc (.pointer none)))[k]?=some (V.sc (.pointer none)):=by
     rw[tC (by omega)]
    have p4:((Jh xs qs.length).set k (V.sc (.pointer none))).length=qs.length:=by rw[yP];exact p1
    refine .inr ⟨_,by simp only[go_sem,t0,t6,t8,t22,t23,s0,g1,g2,g5,Y,S,p1,p3,p4];rfl,by simp,_,_,_,.inr ⟨rfl,?_⟩⟩;simp only[go_sem];have:Lu s qs=(Lu s qs).take (k+1)++(Lu s qs).drop (k+1):=(vB _ _).symm;rw[this,O];refine Kz ?_;rw[dH,E];rfl
   |some z=>
    rw[hv]at S O;have S:fn ZM Aa Ak 114 [.tp (jI s) 0,LL cF qs,I k]=some (.tp (cQ z) 0):=S;have p2:=aiQ xs (n:=qs.length) (by omega) z;have p3:=aiR xs (n:=qs.length) z;have p4:=XZ (xs++[z]) (n:=qs.length) (by simp;omega);rw[J]at p2 p3;refine .inl ⟨_,by simp only[go_sem,t0,t6,t8,t22,t23,s0,g1,g2,g3,g5,Y,S,p1,p2,p3,p4];rfl,?_⟩;simp only[go_sem,t0,t6,t8,t22];refine⟨rfl,G,xs++[z],?_,rfl⟩;rw[O,dH,E];rfl) (by
   rintro ⟨T,σ,nx⟩ ⟨t0,t6,t8,t22,t23,G,xs,E,s0⟩;simp only at t0 t6 t8 t22 t23 G s0;have g1:¬(qs.length:Int)<(qs.length:Int):=by omega
   refine⟨_,by simp only[go_sem,t22,t23,g1];rfl,by simp,_,_,_,.inl ⟨rfl,?_⟩⟩;simp only[go_sem,t8];rw[<- bJ s qs,yT]at E;exact⟨xs,E,s0⟩) (by
   simp only[go_sem];refine⟨[],rfl,?_⟩;unfold Jh;rfl)
 rcases hx with ⟨T,σ,nx,⟨rfl,t8,xs,E,s0⟩|⟨rfl,t4,t5,E⟩⟩
 .have J:xs.length=qs.length:=by rw[dJ E,bJ]
  have e1:Jh xs qs.length=xs.flatMap cF:=by unfold Jh;rw[J,yM];exact zH _
  rw[e1]at s0;have u1:qs.length<=(xs.flatMap cF).length:=by rw[qP];omega
  have u2:(xs.flatMap cF).take qs.length=xs.flatMap cF:=zl (by rw[qP];omega);have u3:=Jf σ 4 xs;unfold G6;rw[E];simp only[go_sem,t8,s0,u1,u2,u3];show some (V.AX [V.ts _ qs.length,_])=some (V.AX [V.ts _ xs.length,_]);rw[J]
 .unfold G6
  rw[E];simp only[go_sem,t4,t5]
theorem anI(x y:Rat)(E:Ln 100 x)(G:Ln 100 y):fn ZM conv ext 116 [.tp (cQ x) 0,.tp (cQ y) 0]=some (I (Ar (x.num*y.den) (y.num*x.den))):=by
 have Y:=jX E G;have n2:=jX G E;have J:=IU x y.den (by have:=E.1;omega) (by have:=G.2;omega);have O:=IU y x.den (by have:=G.1;omega) (by have:=E.2;omega);have S:=QK (x.num*y.den) (y.num*x.den) (by omega) (by omega);unfold cQ at *;unfold cZ at *;rw[mJ,nC [.tmp 4] [] func116];simp only[go_sem,J,O,S]
def X3(x:Rat)(w:Int):Bool:=decide (0<Ar (x.num*((w*w:Int):Rat).den) (((w*w:Int):Rat).num*x.den))
theorem OY:∀ {l:List (Option Rat)} {xs:List Rat},B_ l=some xs->∀x∈xs,some x∈l
 |[],xs,h,x,E=>by cases h;cases E
 |none :: l,_,h,_,_=>by cases h
 |some q :: l,xs,h,x,E=>by
  cases e:B_ l with
  |none=>rw[show B_ (some q :: l)=(B_ l).map (q :: ·)from rfl,e]at h;cases h
  |some rs=>
   rw[show B_ (some q :: l)=(B_ l).map (q :: ·)from rfl,e]at h;cases h;rcases List.mem_cons.mp E with rfl|E
   .exact zO
   .exact zY _ (OY e x E)
theorem aiS{s:Structure}{qs xs:List Rat}(h:B_ (Lu s qs)=some xs):∀x∈xs,Ln 24 x:=fun x E=>by
 have:=OY h x E;unfold Lu at this;obtain⟨k,-,e⟩:=List.mem_map.mp this;exact ac3 x e
def G7(xs:List Rat)(w:List Int)(k:Nat):Bool:=X3 (xs.getD k 0) (w.getD k 0)
def overR(O:List (Option Rat))(w:List Int):V:=match B_ O with
 |some xs=> .AX [LI (F5 (G7 xs w) xs.length),Bo true]
 |none=> .AX [.ts [] 0,Bo false]
theorem X4{s:Structure}(h:Bf s)(ho:Aj s){qs:List Rat}(hl:qs.length=s.members.length)(hL:∀q∈qs,Ln 24 q){w:List Int}(hw:Dx s.members.length w) :
  fn ZM Aa Ak 137 [.tp (jI s) 0,LL cQ qs,LI w]=some (overR (Lu s qs) w):=by
 have b2:=h.2.1;have O:=je h ho hl hL;have k2:=KY (jI s) 0 s.members w rfl (by rw[hw.1];unfold maxLen;omega);rw[iC hw]at k2;unfold G6 at O;unfold overR;rw[mJ,nC [.tmp 6,.tmp 7] [] func137];cases hq:B_ (Lu s qs)with
 |none=>
  rw[hq]at O;simp only[go_sem,O]
 |some xs=>
  rw[hq]at O;simp only[go_sem,O,k2];have b3:xs.length=s.members.length:=by rw[dJ hq,bJ,hl]
  generalize S:iI _ _=y;obtain⟨x,rfl,T,σ,nx,rfl,J⟩:=oZ S xs.length (fun k st=>st.T 2=LI w/\st.T 27=LL cF xs/\st.T 28=I xs.length/\st.T 29=I k/\Grow st.T st.σ st.nx 10 (F5 (G7 xs w) k))
   (fun x=>∃T σ nx,x=(.exit 0,⟨T,σ,nx⟩)/\Grow T σ nx 10 (F5 (G7 xs w) xs.length)) (by
    clear S;rintro k ⟨T,σ,nx⟩ Y ⟨t2,t27,t28,t29,J⟩;simp only at t2 t27 t28 t29 J;have g1:(k:Int)<(xs.length:Int):=by omega
    have g2:=jF k;have g3:=ZU (n:=(k:Int)+1);have g4:=qQ xs Y;have g9:(xs.flatMap cF).length=xs.length:=qP xs;have a6:xs.flatMap cF≠[]:=fun e=>by rw[e]at g9;have:xs.length=0:=g9.symm;omega
    have G:k<w.length:=by rw[hw.1];omega
    have a7:=kK (hw.2 _ (zu G));have a1:=idx (xs:=w) (k:=k) G;have a2:=Ba w k G;have a3:(k:Int)<(w.length:Int):=by omega
    have hx:=aiS hq _ (zu Y);have E:G7 xs w k=X3 xs[k] w[k]:=by
     unfold G7;rw[zx,zy Y,zx,zy G];rfl
    obtain⟨x,ex⟩:∃x,x=xs[k]:=⟨_,rfl⟩;obtain⟨v,ev⟩:∃v,v=w[k]:=⟨_,rfl⟩;rw[<- ex,<- ev]at E;rw[<- ex]at g4 hx;rw[<- ev]at a1 a7;have v2:0<=v*v/\v*v<=1000000:=by
     have h1:v*v=(v.natAbs*v.natAbs:Nat):=by rw[Int.natAbs_mul_self]
     have h2:v.natAbs*v.natAbs<=1000*1000:=xK (by omega) (by omega);omega
    have w1:=ZU (n:=v*v);have k3:=kD (v*v) (by omega) (by omega);have k4:=anI x ((v*v:Int):Rat) (hx.mono (by decide)) ((sG (by omega)).mono (by decide));have hle:=IX (G7 xs w) k;unfold X3 at E;obtain⟨m2,a8⟩:∃m2,m2=cQ ((v*v:Int):Rat):=⟨_,rfl⟩;obtain⟨z,ez⟩:∃z,z=Ar (x.num*((v*v:Int):Rat).den) (((v*v:Int):Rat).num*x.den):=⟨_,rfl⟩;rw[<- a8]at k3 k4;rw[<- ez]at k4 E
    by_cases hz:0<z
    .rw[sJ hz]at E
     obtain⟨σ',ha,hs⟩:=kW J (k:Int) (by omega);refine .inl ⟨_,by simp only[go_sem,t2,t27,t28,t29,g1,g2,g3,g4,g9,a6,Y,G,a1,a2,a3,w1,k3,k4,hz,ha];rfl,?_⟩;simp only[go_sem,t2,t27,t28];rw[MF E];exact⟨rfl,kS hs (by simp[go_sem]) (by simp)⟩
    .rw[sH hz]at E
     refine .inl ⟨_,by simp only[go_sem,t2,t27,t28,t29,g1,g2,g3,g4,g9,a6,Y,G,a1,a2,a3,w1,k3,k4,hz];rfl,?_⟩;simp only[go_sem,t2,t27,t28];rw[TF E];exact⟨rfl,kU (T:=T) (by simp only[go_sem]) J⟩) (by
    rintro ⟨T,σ,nx⟩ ⟨t2,t27,t28,t29,J⟩;simp only at t2 t27 t28 t29 J;exact⟨_,by simp only[go_sem,t28,t29,zi];rfl,by simp,_,_,_,rfl,kU (T:=T) (by simp only[go_sem]) J⟩) (by
    simp only[go_sem];exact .inl ⟨by simp only[go_sem],rfl⟩)
  obtain⟨ids,hs⟩:=kR J 5;simp only[go_sem,hs]
def Gt(s:Structure)(qs:List Rat)(w:List Int):Bool:=match B_ (Lu s qs)with
 |some xs=>decide ((F5 (G7 xs w) xs.length).length=0)
 |none=>false
theorem Rt{s:Structure}(h:Bf s)(O:Aj s){qs:List Rat}(S:qs.length=s.members.length)(Y:∀q∈qs,Ln 24 q){w:List Int}(hw:Dx s.members.length w) :
  fn ZM Aa Ak 103 [.agg (jI s),LL cQ qs,LI w]=some (Bo (Gt s qs w)):=by
 have E:=X4 h O S Y hw;unfold overR at E;unfold Gt;rw[mJ,nC [.tmp 6] [] func103];cases J:B_ (Lu s qs)with
 |none=>
  rw[J]at E;simp only[go_sem,E]
 |some xs=>
  rw[J]at E
  by_cases G:(F5 (G7 xs w) xs.length).length=0
  .have e:(((F5 (G7 xs w) xs.length).length:Int)==0)=true:=by rw[G];rfl
   simp only[go_sem,E,e,sJ G]
  .have e:(((F5 (G7 xs w) xs.length).length:Int)==0)=false:=by rw[sN];omega
   simp only[go_sem,E,e,sH G]
def aiT(s:Structure)(l w:List Int)(r:V):Prop :=
 (∃qs,qs.length=s.members.length/\(∀q∈qs,Ln 24 q)/\XW s l (.AX [LL cQ qs,Bo true])/\Gt s qs w=true/\r= .AX [LL cQ qs,Bo true]) \/
 (r=Vg/\(XW s l Vg\/∃qs,qs.length=s.members.length/\(∀q∈qs,Ln 24 q)/\XW s l (.AX [LL cQ qs,Bo true])/\Gt s qs w=false))
theorem OZ{s:Structure}(h:Bf s)(ho:Aj s){l w:List Int}(hl:AQ s.bI.length l)(hw:Dx s.members.length w) :
  ∃r,fn ZM Aa Ak 65 [.agg (jI s),LI l,LI w]=some r/\aiT s l w r:=by
 have a6:=h.1;obtain⟨r,O,hr⟩:=Jg ho (l:=l) (by rw[hl.1];unfold maxLen;omega);have no:r=Vg->∃r,fn ZM Aa Ak 65 [.agg (jI s),LI l,LI w]=some r/\aiT s l w r:=fun e=>by
  subst e;have a1:fn ZM Aa Ak 40 [.agg (jI s),LI l]=some (.AX [.ts [] 0,Bo false]):=O;refine⟨Vg,?_,.inr ⟨rfl,.inl hr⟩⟩;unfold Vg;rw[mJ,nC [.tmp 6,.tmp 7] [] func65];simp only[go_sem,a1]
 rcases hr with ⟨_,e⟩|⟨h1,h2,⟨e,_⟩|⟨x,hb,hx,e⟩⟩
 .exact no e
 .exact no e
 .cases S:B_ (Gv (cols s s.members.length) ((List.range (DZ s)).map x) s.members.length (DZ s))with
  |none=>exact no (by rw[e];unfold Ez;rw[S];rfl)
  |some qs=>
   have e2:r= .AX [LL cQ qs,Bo true]:=by rw[e];unfold Ez;rw[S]
   have G:qs.length=s.members.length:=by rw[dJ S,m_]
   have J:∀q∈qs,Ln 24 q:=fun q hm=>UA (fun y hy=>by
    obtain⟨j,hj,rfl⟩:=List.mem_map.mp hy;exact hx j (List.mem_range.mp hj)) _ _ (OY S q hm) q rfl
   have hD:XW s l (.AX [LL cQ qs,Bo true]):=by
    rw[<- e2];exact .inr ⟨h1,h2,.inr ⟨x,hb,hx,e⟩⟩
   rw[e2]at O;have Y:=Rt h ho G J hw;cases E:Gt s qs w with
   |true=>
    rw[E]at Y;refine⟨.AX [LL cQ qs,Bo true],?_,.inl ⟨qs,G,J,hD,E,rfl⟩⟩;rw[mJ,nC [.tmp 6,.tmp 7] [] func65];simp only[go_sem,O,Y]
   |false=>
    rw[E]at Y;refine⟨Vg,?_,.inr ⟨rfl,.inr ⟨qs,G,J,hD,E⟩⟩⟩;unfold Vg;rw[mJ,nC [.tmp 6,.tmp 7] [] func65];simp only[go_sem,O,Y]
theorem ams{s:Structure}(h:Bf s)(J:Aj s){l w:List Int}(O:AQ s.bI.length l)(hw:Dx s.members.length w) :
  ∃b r,fn ZM Aa Ak 37 [.agg (jI s),LI l,LI w]=some (Bo b)/\aiT s l w r/\(b=true↔r≠Vg):=by
 obtain⟨r,E,S⟩:=OZ h J O hw;rcases S with ⟨qs,G,a2,a3,a4,rfl⟩|⟨rfl,G⟩
 .refine⟨true,_,?_,.inl ⟨qs,G,a2,a3,a4,rfl⟩,⟨fun _ e=>?_,fun _=>rfl⟩⟩
  .rw[mJ,nC [.tmp 6] [] func37]
   simp only[go_sem,E]
  .unfold Vg at e
   injection e with e
   injection e with _ e
   injection e with e _
   cases e
 .refine⟨false,_,?_,.inr ⟨rfl,G⟩,⟨fun e=>by(cases e),fun e=>absurd rfl e⟩⟩
  unfold Vg at E;rw[mJ,nC [.tmp 6] [] func37];simp only[go_sem,E]
def MW(t:CP)(k:Nat):Prop:=acX t.st/\t.name=F8 k/\t.load.length=2*t.st.bI.length/\Bd t.load/\t.limits.length=t.st.members.length/\∀x∈t.limits,x=5\/x=20\/x=100\/x=500
theorem O1{s:Structure}(h:acX s):1<=s.bI.length/\s.bI.length<=4/\1<=s.members.length/\s.members.length<=3:=by
 obtain⟨E,G,J,O,S,Y,k,_,rfl|⟨x4,k3,_,_,rfl⟩⟩:=h
 .simp
 .simp
theorem digit_ok(k:Nat)(h:k<4):Ew (48+k).toUInt8=true:=by
 have:k=0\/k=1\/k=2\/k=3:=by omega
 rcases this with rfl|rfl|rfl|rfl<;>decide
theorem Ru{t:CP}{k:Nat}(Y:k<4)(h:MW t k):Dy t=true/\FZ t:=by
 obtain⟨G,J,h3,O,h5,S⟩:=h;obtain⟨g1,g2⟩:=al9 G;obtain⟨l1,l2,l3,l4⟩:=O1 G;have mx:8<=maxLen:=by decide
 have nm:DJ t.name:=by
  rw[J];exact name2 116 _ (by decide) (digit_ok k Y)
 have nz:t.name.size=2:=by rw[J];rfl
 refine⟨?_,by unfold okS;omega,g2,⟨fun x E=>iq.mpr (by have:=O x E;omega),by omega,by omega⟩,⟨fun x E=>iq.mpr (by have:=S x E;omega),by omega,by omega⟩⟩;unfold Dy;have a1:AQ t.st.bI.length t.load:=⟨h3,fun x E=>MR (by have:=O x E;omega)⟩;have a2:Dx t.st.members.length t.limits:=⟨h5,fun x E=>MR (by have:=S x E;omega)⟩;rw[iC nm,iC g1,iC a1,iC a2];rfl
theorem Qh(σ:Store)(d:Nat)(ms:List Member):stripL (strip σ d) (ms.flatMap Ac)=some (ms.flatMap Ac,[]):=aX (fun x=>by rw[au,aQ,au,aQ,au,aQ,aY];rfl) ms
theorem UD(σ:Store)(d:Nat)(js:List Dn):stripL (strip σ d) (js.flatMap Af)=some (js.flatMap Af,[]):=aX (fun x=>by rw[au,aQ,au,aQ,au,aQ,au,aQ,aY];rfl) js
theorem dA{α:Type}{c:α->List V}{s:Nat}(hc:∀x,(c x).length=s)(hs:∀(σ:Store) (d:Nat) (l:List α),stripL (strip σ d) (l.flatMap c)=some (l.flatMap c,[])){σ:Store}{b:Nat}{l:List α}{w:Bool}(h:σ b=some ⟨l.flatMap c,s,w⟩)(d:Nat):strip σ (d+1) (.rs b 0 l.length)=some (LL c l,[b]):=by
 have E:=bZ hc l;rw[aS,h];simp only[zk,yZ,yg,E,zq,if_true];rw[zl (by omega),hs];rfl
theorem amu{xs:List Int}(Y:∀x∈xs,0<=x/\x<=255)(hl:xs.length<=1048576){σ:Store}{c nx:Nat}(hc:BP σ c xs)(k5:c<nx)(k:Nat)(hk:k<4) :
  ∃t cells ids σ' nx',ev ZM conv ext 60 [.rp c 0,I k] σ nx=some (.agg cells,σ',nx')/\MW t k/\cells.length=5/\cells.all vI=true/\stripL (strip σ' 5) cells=some (Az t,ids)/\(∀b∈ids,nx<=b/\b<nx')/\nx<nx'/\BP σ' c xs/\∀q,q<nx->q≠c->σ' q=σ q:=by
 obtain⟨i,h,h0,h3⟩:=hc;obtain⟨s,hs,i',h',dj,dm,dn,kh,d1,d2,d3,j1⟩:=atT xs Y hl i h h3;obtain⟨l1,l2,l3,l4⟩:=O1 hs;obtain⟨a6,k1,h4,a8,b4,b6⟩:=kh c (nx+1) (upd σ nx (some ⟨[Sg ByteArray.empty,.nil,.nil,.nil,.nil],0,true⟩)) (by rw[Zm];exact h0) (by omega);obtain⟨jb,b8⟩:∃jb,jb=nx+1+dj:=⟨_,rfl⟩;obtain⟨G,b9⟩:∃G,G=nx+1+dm:=⟨_,rfl⟩;obtain⟨O,h5⟩:∃O,O=nx+1+dn:=⟨_,rfl⟩;rw[<- b8,<- b9,<- h5]at k1;rw[<- b8]at a8;rw[<- b9]at b4;have C1:BP a6 c xs:=⟨i',h',h4,j1⟩;have b1:a6 nx=some ⟨[Sg ByteArray.empty,.nil,.nil,.nil,.nil],0,true⟩:=by rw[b6 nx (by omega) (by omega),Zj]
 obtain⟨σ2,e2⟩:∃σ2,σ2=upd a6 O (some ⟨[.rs jb 0 s.bI.length,.rs G 0 s.members.length],0,true⟩):=⟨_,rfl⟩;have C2:BP σ2 c xs:=by rw[e2];exact C1.upd (by omega)
 have b2:σ2 O=some ⟨[.rs jb 0 s.bI.length,.rs G 0 s.members.length],0,true⟩:=by rw[e2,Zj]
 have h6:σ2 nx=some ⟨[Sg ByteArray.empty,.nil,.nil,.nil,.nil],0,true⟩:=by rw[e2,Zm];exact b1
 have c0:σ2 jb=some ⟨s.bI.flatMap Af,4,true⟩:=by rw[e2,Zm];exact a8
 have h7:σ2 G=some ⟨s.members.flatMap Ac,3,true⟩:=by rw[e2,Zm];exact b4
 have kd:=apR k hk;have hF:∀q,q∈[c,jb,G]->restrict σ2 [c,jb,G] q=σ2 q:=fun q hq=>by unfold restrict;rw[sO hq]
 obtain⟨L,lb,h8,E,k3,Vb,h9,i0,g1,g2,Cr,f3⟩:=atW Y hl (js:=s.bI) l1 l2 (w:=.rs G 0 s.members.length) (σ:=restrict σ2 [c,jb,G]) (nx:=O+1) (c:=c) (jb:=jb) (by
  obtain⟨a1,a2,a3,a4⟩:=C2;exact⟨a1,a2,by rw[hF c (by simp)];exact a3,a4⟩) (by omega) (by rw[hF jb (by simp)];exact c0) (by omega) (by omega) rfl
 obtain⟨J,e3⟩:∃J,J=yI [c,jb,G] (O+1) E σ2 h8:=⟨_,rfl⟩;have p3:∀q,q<O+1->q≠c->J q=σ2 q:=fun q hq c2=>by
  rw[e3];unfold yI
  split
  .rw[f3 q hq c2]
   rename_i hh;rcases hh with hh|hh
   .exact hF q hh
   .omega
  .rfl
 have C3:BP J c xs:=by
  obtain⟨a1,a2,a3,a4⟩:=Cr;refine⟨a1,a2,?_,a4⟩;rw[e3];unfold yI;rw[sO (.inl (by simp))];exact a3
 have i1:J lb=some ⟨L.flatMap cI,1,true⟩:=by
  rw[e3];unfold yI;rw[sO (.inr ⟨g1,g2⟩)];exact i0
 have b3:J O=some ⟨[.rs jb 0 s.bI.length,.rs G 0 s.members.length],0,true⟩:=by rw[p3 O (by omega) (by omega)];exact b2
 have i2:J nx=some ⟨[Sg ByteArray.empty,.nil,.nil,.nil,.nil],0,true⟩:=by rw[p3 nx (by omega) (by omega)];exact h6
 have i3:J jb=some ⟨s.bI.flatMap Af,4,true⟩:=by rw[p3 jb (by omega) (by omega)];exact c0
 have i4:J G=some ⟨s.members.flatMap Ac,3,true⟩:=by rw[p3 G (by omega) (by omega)];exact h7
 have EP:∀q,q<nx->q≠c->J q=σ q:=fun q h1 h2=>by
  rw[p3 q (by omega) h2,e2,Zm,b6 q (by omega) h2,Zm]
 rw[nC [.cell 4 43] [2,5] func60];have z1:¬O=nx:=by omega
 have z2:¬nx=O:=by omega
 have z3:O<O+1:=by omega
 have z4:c<O+1:=by omega
 have z5:jb<O+1:=by omega
 have z6:G<O+1:=by omega
 have z7:¬E=O:=by omega
 have z8:¬O=E:=by omega
 have sz:(⟨#[116]⟩:ByteArray).size+(acW k).size<=9223372036854775807:=by show 1+1<=_;omega
 have i5:(#[116]:Array UInt8).size+(acW k).size<=9223372036854775807:=sz;have nm:(⟨#[116]⟩:ByteArray)++acW k=F8 k:=rfl;have z9:E<E+1:=by omega
 have i6:(O==c)=false:=by rw[sN];omega
 have i7:(c==O)=false:=by rw[sN];omega
 have z12:(O==jb)=false:=by rw[sN];omega
 have i9:(O==G)=false:=by rw[sN];omega
 have j0:(jb==O)=false:=by rw[sN];omega
 have j2:(G==O)=false:=by rw[sN];omega
 have j3:(E==c)=false:=by rw[sN];omega
 have j4:(E==jb)=false:=by rw[sN];omega
 have j5:(E==G)=false:=by rw[sN];omega
 have j6:(E==O)=false:=by rw[sN];omega
 obtain⟨Z,eZ⟩:∃Z:V->List V,Z=fun w=>[Sg (F8 k),.rs jb 0 s.bI.length,.rs G 0 s.members.length,.rs lb 0 (2*s.bI.length),w]:=⟨_,rfl⟩
 obtain⟨m0,c3⟩:∃m0,m0=s.members.length:=⟨_,rfl⟩;simp only[go_sem,qE,k1,<- e2,b2,kd,k3,z1,z2,z3,z4,z5,z6,z7,z8,z9,i6,i7,z12,i9,j0,j2,j3,j4,j5,j6,sz,i5,nm,<- e3,b3];generalize hL:iI _ _=y;obtain⟨x,rfl,T,Dz,n4,rfl,t4,t6,k6,C4,acc,w,ha,hv,S,hG,hB,Vh⟩:=oZ hL m0 (fun j st=>st.T 0= .rp c 0/\st.T 4= .rp nx 0/\st.T 6= .rp E 0/\st.T 19=I m0/\st.T 20=I j/\E<st.nx/\BP st.σ c xs/\∃acc w,acc.length=j/\(∀x∈acc,x=5\/x=20\/x=100\/x=500)/\st.σ E=some ⟨Z w,0,true⟩/\Grow (fun _=>w) st.σ st.nx 0 acc/\(∀b o l,w= .rs b o l->E<b)/\∀q,q<E->q≠c->st.σ q=J q)
  (fun x=>∃T Dz n4,x=(.exit 0,⟨T,Dz,n4⟩)/\T 4= .rp nx 0/\T 6= .rp E 0/\E<n4/\BP Dz c xs/\∃acc w,acc.length=m0/\(∀x∈acc,x=5\/x=20\/x=100\/x=500)/\Dz E=some ⟨Z w,0,true⟩/\Grow (fun _=>w) Dz n4 0 acc/\(∀b o l,w= .rs b o l->E<b)/\∀q,q<E->q≠c->Dz q=J q) (by
   clear hL;rintro j ⟨T,Dz,m⟩ hj ⟨t0,t4,t6,t19,t20,hm,C4,acc,w,ha,hv,S,hG,hB,Vh⟩;simp only at t0 t4 t6 t19 t20 hm C4 S hG Vh;have f1:(j:Int)<(m0:Int):=by omega
   have f2:=jF j;have f3:=ZU (n:=(j:Int)+1);have c4:∀a:V,rep 4 [a]=[a,a,a,a]:=fun _=>rfl
   have c5:∀z:List V,rep 1 z=z:=fun z=>by simp[rep]
   obtain⟨DF,e5⟩:∃DF,DF=upd Dz m (some ⟨[I 5,I 20,I 100,I 500],1,true⟩):=⟨_,rfl⟩;have C5:BP DF c xs:=by rw[e5];exact C4.upd (by omega)
   obtain⟨r,hr,x,kp,j7⟩:=apS Y hl (σ:=restrict DF [c,m]) (c:=c) (b:=m) (nx:=m+1) (by
    obtain⟨a1,a2,a3,a4⟩:=C5;exact⟨a1,a2,by rw[fO];exact a3,a4⟩) (by omega) [5,20,100,500] (by decide) (by decide) (by rw[fK,e5,Zj];rfl) (by omega) (by omega)
   obtain⟨v,c6⟩:∃v,v=([5,20,100,500]:List Int)[r]:=⟨_,rfl⟩;have c7:v=5\/v=20\/v=100\/v=500:=by
    have:r=0\/r=1\/r=2\/r=3:=by simp only[zV,yY]at hr;omega
    rcases this with rfl|rfl|rfl|rfl<;>subst c6<;>simp
   rw[<- c6]at kp;have kp:ev ZM conv ext 99 [.rp c 0,.rs m 0 4] (restrict DF [c,m]) (m+1)=some (I v,upd (restrict DF [c,m]) c x,m+1):=kp
   obtain⟨CZ,e6⟩:∃CZ,CZ=upd DF c x:=⟨_,rfl⟩;have C6:BP CZ c xs:=by
    obtain⟨a1,a2,a3,a4⟩:=j7;rw[Zj]at a3;exact⟨a1,a2,by rw[e6,Zj];exact a3,a4⟩
   obtain⟨EU,e7⟩:∃EU,EU=upd CZ (m+1) (some ⟨[I v],1,true⟩):=⟨_,rfl⟩;have C7:BP EU c xs:=by rw[e7];exact C6.upd (by omega)
   have b7:EU E=some ⟨Z w,0,true⟩:=by rw[e7,Zm,e6,Zm,e5,Zm];exact S
   have c8:EU (m+1)=some ⟨[I v],1,true⟩:=by rw[e7,Zj]
   have b5:DF E=some ⟨Z w,0,true⟩:=by rw[e5,Zm];exact S
   have c9:∀q,q<E->q≠c->EU q=J q:=fun q h1 h2=>by rw[e7,Zm,e6,Zk _ _ h2,e5,Zm];exact Vh q h1 h2
   have y1:¬E=m:=by omega
   have y2:¬E=m+1:=by omega
   have y3:¬E=m+1+1:=by omega
   have y4:E<m:=hm;have y5:c<m+1:=by omega
   have y6:m<m+1:=by omega
   have y7:m+1<m+1+1:=by omega
   have y8:E<m+1+1+1:=by omega
   have y9:(E==c)=false:=by rw[sN];omega
   have O4:(c==E)=false:=by rw[sN];omega
   have O5:(E==m)=false:=by rw[sN];omega
   have O6:(E==m+1)=false:=by rw[sN];omega
   have e0:(m==E)=false:=by rw[sN];omega
   have Rx:(m+1==E)=false:=by rw[sN];omega
   have e1:(m+1==c)=false:=by rw[sN];omega
   have e4:(m+1==m)=false:=by rw[sN];omega
   have e8:¬E=c:=by omega
   have Zw:∀w',(Z w).set 4 w'=Z w':=fun w'=>by rw[eZ];rfl
   have Z4:(Z w)[4]?=some w:=by rw[eZ];rfl
   have Zl:(Z w).length=5:=by rw[eZ];rfl
   rcases hG with ⟨hw,rfl⟩|⟨b,hw,c2,a7,j8⟩
   .have hw:w= .nil:=hw
    subst hw;refine .inl ⟨_,by simp only[go_sem,qE,t0,t4,t6,t19,t20,f1,f2,f3,c4,c5,<- e5,kp,S,b5,<- e6,<- e7,b7,c8,y1,y2,y3,y4,y5,y6,y7,y8,y9,O4,O5,O6,e0,Rx,e1,e4,e8,Z4,Zl,Zw,iZ];rfl,?_⟩;simp only[go_sem,t0,t4,t6,t19];refine⟨rfl,by omega,(C7.upd (by omega)).upd (by omega),[v],.rs (m+1+1) 0 1,by rw[<- ha];rfl,fun x Y=>by rw[yD]at Y;subst Y;exact c7,rfl,.inr ⟨m+1+1,rfl,by simp,?_,by omega⟩,fun b o l hb=>by cases hb;omega,fun q h1 h2=>?_⟩
    .rw[Zm,Zj];rfl
    .rw[Zm,Zm];exact c9 q h1 h2
   .have hw:w= .rs b 0 acc.length:=hw
    subst hw;have k7:=hB b 0 _ rfl;have j9:EU b=some ⟨acc.flatMap cI,1,true⟩:=by rw[e7,Zm,e6,Zm,e5,Zm];exact a7
    have e9:=rE (σ:=restrict EU [b,m+1]) (nx:=m+1+1) (bytes:=8) (b:=b) (len:=acc.length) (m:=1) (B:=⟨acc.flatMap cI,1,true⟩) (row:=[I v]) (by rw[fO];exact j9) (qN acc) rfl (by decide) (by unfold maxLen;omega) (by omega) rfl;have x1:b<m+1+1:=by omega
    have x2:(E==b)=false:=by rw[sN];omega
    have x3:(b==E)=false:=by rw[sN];omega
    have x4:(b==c)=false:=by rw[sN];omega
    have x5:(c==b)=false:=by rw[sN];omega
    have x6:(b==m)=false:=by rw[sN];omega
    have x7:(m==b)=false:=by rw[sN];omega
    have x8:¬E=b:=by omega
    refine .inl ⟨_,by simp only[go_sem,qE,t0,t4,t6,t19,t20,f1,f2,f3,c4,c5,<- e5,kp,S,b5,<- e6,<- e7,b7,c8,y1,y2,y3,y4,y5,y6,y7,y8,y9,O4,O5,O6,e0,Rx,e1,e4,e8,Z4,Zl,Zw,iZ,e9,x1,x2,x3,x4,x5,x6,x7,x8];rfl,?_⟩;simp only[go_sem,t0,t4,t6,t19];refine⟨rfl,by omega,((C7.upd (by omega)).upd (by omega)).upd (by omega),acc++[v],.rs (m+1+1) 0 (acc.length+1),by rw[zo,ha];rfl,fun x Y=>?_,rfl,.inr ⟨m+1+1,by rw[zo];rfl,by simp,?_,by omega⟩,fun b o l hb=>by cases hb;omega,fun q h1 h2=>?_⟩
    .rcases List.mem_append.mp Y with Y|Y
     .exact hv x Y
     .rw[yD]at Y;subst Y;exact c7
    .rw[Zm,Zj,zQ];rfl
    .rw[Zm,Zm,Zm];exact c9 q h1 h2) (by
   clear hL;rintro ⟨T,Dz,m⟩ ⟨t0,t4,t6,t19,t20,hm,C4,acc,w,ha,hv,S,hG,hB,Vh⟩;simp only at t0 t4 t6 t19 t20 hm C4 S hG Vh;exact⟨_,by simp only[go_sem,t19,t20,zi];rfl,by simp,_,_,_,rfl,by simp only[go_sem,t4],by simp only[go_sem,t6],hm,C4,acc,w,ha,hv,S,hG,hB,Vh⟩) (by
   simp only[go_sem,c3];refine⟨by omega,C3.upd (by omega),[],.nil,rfl,?_⟩;refine⟨fun x Y=>by(cases Y),?_⟩;exact⟨by rw[eZ],.inl ⟨rfl,rfl⟩,fun b o l hb=>by(cases hb),fun q h1 h2=>Zm⟩)
 have Z5:Z w=[Sg (F8 k),.rs jb 0 s.bI.length,.rs G 0 s.members.length,.rs lb 0 (2*s.bI.length),w]:=by rw[eZ]
 have k0:Dz nx=some ⟨[Sg ByteArray.empty,.nil,.nil,.nil,.nil],0,true⟩:=by rw[Vh nx (by omega) (by omega)];exact i2
 have cw:vI w=true:=by
  rcases hG with ⟨hw,_⟩|⟨b,hw,_⟩
  .have hw:w= .nil:=hw
   rw[hw];rfl
  .have hw:w= .rs b 0 _:=hw
   rw[hw];rfl
 have z20:¬E=nx:=by omega
 have z21:¬nx=E:=by omega
 rw[Z5]at S;simp only[go_sem,t4,t6,S,k0,cw,z20,z21];refine⟨⟨F8 k,s,L,acc⟩,[Sg (F8 k),.rs jb 0 s.bI.length,.rs G 0 s.members.length,.rs lb 0 (2*s.bI.length),w],?_⟩;have sj:strip (upd Dz nx (some ⟨[Sg (F8 k),.rs jb 0 s.bI.length,.rs G 0 s.members.length,.rs lb 0 (2*s.bI.length),w],0,true⟩)) 5 (.rs jb 0 s.bI.length)=some (LL Af s.bI,[jb]) :=
  dA (c:=Af) (s:=4) (fun _=>rfl) UD (w:=true) (by rw[Zm,Vh jb (by omega) (by omega)];exact i3) 4
 have sm:strip (upd Dz nx (some ⟨[Sg (F8 k),.rs jb 0 s.bI.length,.rs G 0 s.members.length,.rs lb 0 (2*s.bI.length),w],0,true⟩)) 5 (.rs G 0 s.members.length)=some (LL Ac s.members,[G]) :=
  dA (c:=Ac) (s:=3) (fun _=>rfl) Qh (w:=true) (by rw[Zm,Vh G (by omega) (by omega)];exact i4) 4
 have sl:strip (upd Dz nx (some ⟨[Sg (F8 k),.rs jb 0 s.bI.length,.rs G 0 s.members.length,.rs lb 0 (2*s.bI.length),w],0,true⟩)) 5 (.rs lb 0 (2*s.bI.length))=some (LI L,[lb]) :=
  kJ (by rw[Zm,Vh lb (by omega) (by omega)];exact i1) Vb 4
 obtain⟨iw,k2,k4⟩:∃iw,strip (upd Dz nx (some ⟨[Sg (F8 k),.rs jb 0 s.bI.length,.rs G 0 s.members.length,.rs lb 0 (2*s.bI.length),w],0,true⟩)) 5 w=some (LI acc,iw)/\∀b∈iw,nx<=b/\b<n4:=by
  rcases hG with ⟨hw,rfl⟩|⟨b,hw,_,a7,j8⟩
  .have hw:w= .nil:=hw
   exact⟨[],by rw[hw,aT];rfl,by simp⟩
  .have hw:w= .rs b 0 acc.length:=hw
   have:=hB b 0 _ hw;refine⟨[b],by rw[hw];exact kJ (by rw[Zm];exact a7) rfl 4,fun q hq=>by rw[yD]at hq;omega⟩
 refine⟨[]++([jb]++([G]++([lb]++(iw++[])))),_,n4,rfl,⟨hs,rfl,Vb,h9,?_,hv⟩,rfl,?_,?_,fun b hb=>?_,by omega,C4.upd (by omega),fun q h1 h2=>?_⟩
 .rw[ha,c3]
 .simp only[vY,cw];rfl
 .rw[au,aQ,au,sj,au,sm,au,sl,au,k2,aY];rfl
 .simp only[xW,yD,zK,or_false,false_or]at hb
  rcases hb with rfl|rfl|rfl|hb
  .omega
  .omega
  .omega
  .exact k4 b hb
 .rw[Zm,Vh q (by omega) h2];exact EP q h1 h2
theorem bC{f:V->Option (V×List Nat)}:∀ {a b E G:List V} {J O:List Nat},stripL f a=some (E,J)->stripL f b=some (G,O)->stripL f (a++b)=some (E++G,J++O)
 |[],b,E,G,J,O,h1,h2=>by
  rw[aY]at h1;cases h1;exact h2
 |v :: a,b,E,G,J,O,h1,h2=>by
  rw[au]at h1;cases S:f v with
  |none=>rw[S]at h1;cases h1
  |some p=>
   cases Y:stripL f a with
   |none=>rw[S,Y]at h1;cases h1
   |some q=>
    rw[S,Y]at h1;have ih:=bC Y h2;rw[yR,au,S,ih];simp only[zk,zJ,sW,sS]at h1⊢;obtain⟨rfl,rfl⟩:=h1;exact⟨rfl,by rw[yw]⟩
theorem ah{σ σ':Store}{d:Nat}{cells ts:List V}{ids:List Nat}(h:stripL (strip σ d) cells=some (ts,ids))(E:∀b∈ids,σ' b=σ b):stripL (strip σ' d) cells=some (ts,ids) :=
 ay (fun v t i h hi=>aV _ v t i h fun b hb=>E b (hi b hb)) h
theorem rD{σ:Store}{nx size bytes b len m:Nat}{cells row:List V}(hb:σ b=some ⟨cells,size,true⟩)(O:len*size=cells.length)(hs:0<size)(hm:m≠0)(E:len+m<=maxLen)(G:(len+m)*bytes<=140737488355328)(J:row.all vI=true) :
  Ah σ nx size bytes (.rs b 0 len) row m=some (.rs nx 0 (len+m),upd (upd σ b none) nx (some ⟨cells++row,size,true⟩),nx+1):=by
 rw[qy,hb];simp only[zk];have S:size<=m*size:=t_ _ (by omega);rw[sQ hm,sQ (by rw[vZ];omega),sO ⟨by omega,trivial,E,G,J⟩];rfl
theorem X5{z vs:List V}(h:vs.length=z.length)(E:2<=vs.length):patch z 0 vs=vs:=by
 rw[iH _ _ _ (by omega),List.take_zero,yJ,yZ,yA (by omega),zH]
structure X6 (σ:Store) (lo hi:Nat) (w:V) (EW:List CP) (cells:List V) (ids:List Nat):Prop where
 w:(w= .nil/\EW=[]/\cells=[])\/∃sb,w= .rs sb 0 EW.length/\EW≠[]/\σ sb=some ⟨cells,5,true⟩/\lo<=sb/\sb<hi/\sb∉ids
 st:stripL (strip σ 5) cells=some (EW.flatMap Az,ids)
 len:cells.length=EW.length*5
 cell:cells.all vI=true
 ids:∀b∈ids,lo<=b/\b<hi
 ok:∀i (h:i<EW.length),MW EW[i] i
theorem X6.frame{σ σ':Store}{lo hi E:Nat}{w:V}{EW:List CP}{cells:List V}{ids:List Nat}(h:X6 σ lo hi w EW cells ids)(O:hi<=E)(G:∀b,lo<=b->b<hi->σ' b=σ b):X6 σ' lo E w EW cells ids:=by
 refine⟨?_,ah h.st fun b hb=>G b (h.ids b hb).1 (h.ids b hb).2,h.len,h.cell,fun b hb=>⟨(h.ids b hb).1,xQ (h.ids b hb).2 O⟩,h.ok⟩;rcases h.w with hw|⟨sb,S,Y,h3,J,h5,h6⟩
 .exact .inl hw
 .exact .inr ⟨sb,S,Y,by rw[G sb J h5];exact h3,J,by omega,h6⟩
def anK:V->List Nat
 | .rs b _ _=>[b]
 |_=>[]
structure L8 (n:Nat) (ms:List TV.Move) (i k:Nat):Prop where
 len:ms.length<=12
 good:∀j (h:j<ms.length),E8 n ms[j]/\(ms[j].fr<(i:Int)\/(ms[j].fr=(i:Int)/\ms[j].to<(k:Int)))
 Qj:∀a b (ha:a<ms.length) (hb:b<ms.length),a<b->DL ms[b] ms[a]=false
theorem L8.mono{n:Nat}{ms:List TV.Move}{i k G J:Nat}(h:L8 n ms i k)(O:∀f t:Int,(f<(i:Int)\/(f=(i:Int)/\t<(k:Int)))->f<(n:Int)->t<(n:Int)->f<(G:Int)\/(f=(G:Int)/\t<(J:Int))):L8 n ms G J :=
 ⟨h.len,fun j E=>⟨(h.good j E).1,O _ _ (h.good j E).2 (h.good j E).1.2.1 (h.good j E).1.2.2.2.1⟩,h.Qj⟩
theorem L8.add{n:Nat}{ms:List TV.Move}{i k:Nat}(h:L8 n ms i k)(hl:ms.length<12)(hi:i<n)(hk:k<n)(a1:i≠k):L8 n (ms++[⟨(i:Int),(k:Int)⟩]) i (k+1):=by
 have J:∀ {a:Nat} (ha:a<(ms++[(⟨(i:Int),(k:Int)⟩:TV.Move)]).length),(∃E:a<ms.length,(ms++[(⟨(i:Int),(k:Int)⟩:TV.Move)])[a]=ms[a])\/(a=ms.length/\(ms++[(⟨(i:Int),(k:Int)⟩:TV.Move)])[a]=⟨(i:Int),(k:Int)⟩):=fun {a} ha=>by
  by_cases E:a<ms.length
  .exact .inl ⟨E,yO E⟩
  .have:a=ms.length:=by rw[zo,yV]at ha;omega
   subst this;exact .inr ⟨rfl,by simp⟩
 refine⟨by rw[zo];exact hl,fun j hj=>?_,fun a b ha hb O=>?_⟩
 .rcases J hj with ⟨E,e⟩|⟨_,e⟩
  .rw[e]
   have:=h.good j E;exact⟨this.1,by omega⟩
  .rw[e]
   exact⟨⟨by show(0:Int)<=(i:Int);omega,by show(i:Int)<(n:Int);omega,by show(0:Int)<=(k:Int);omega,by show(k:Int)<(n:Int);omega,by show(i:Int)≠(k:Int);omega⟩,.inr ⟨rfl,by show(k:Int)<((k+1:Nat):Int);omega⟩⟩
 .rcases J ha with ⟨G,S⟩|⟨ra,S⟩<;>rcases J hb with ⟨Y,eb⟩|⟨rb,eb⟩
  .rw[S,eb];exact h.Qj a b G Y O
  .rw[S,eb]
   have:=(h.good a G).2;unfold DL;simp only
   by_cases e1:(i:Int)=ms[a].fr
   .have e2:¬(k:Int)=ms[a].to:=by omega
    rw[show((k:Int)==ms[a].to)=false by rw[sN];exact e2,wY]
   .rw[show((i:Int)==ms[a].fr)=false by rw[sN];exact e1,wM]
  .omega
  .omega
theorem X7{α:Type}{c:α->List V}{s:Nat}{T:Nat->V}{σ σ':Store}{nx nx' t:Nat}{acc:List α}(E:CG c s T σ nx t acc)(hn:nx<=nx')(h:∀b o l,T t= .rs b o l->σ' b=σ b):CG c s T σ' nx' t acc:=by
 rcases E with ⟨g1,g2⟩|⟨b,g1,g2,g3,g4⟩
 .exact .inl ⟨g1,g2⟩
 .exact .inr ⟨b,g1,g2,by rw[h _ _ _ g1];exact g3,by omega⟩
theorem aiU{i k:Nat}(hi:i<4)(J:k<4)(h:i≠k):((F8 i).toList==(F8 k).toList)=false:=by
 have e:∀w:UInt8,(⟨#[116,w]⟩:ByteArray).toList=[116,w]:=fun w=>by
  unfold ByteArray.toList ByteArray.toList.loop ByteArray.toList.loop ByteArray.toList.loop;rfl
 unfold F8;rw[e,e];have E:i=0\/i=1\/i=2\/i=3:=by omega
 have G:k=0\/k=1\/k=2\/k=3:=by omega
 rcases E with rfl|rfl|rfl|rfl<;>rcases G with rfl|rfl|rfl|rfl<;>first|exact absurd rfl h|rfl
theorem amv{EW:List CP}{ms:List TV.Move}{b:Bool}{i k:Nat}(h4:EW.length<=4)(hs:∀i (h:i<EW.length),MW EW[i] i)(hm:L8 EW.length ms i k):AU ⟨EW,ms,b⟩/\Gl ⟨EW,ms,b⟩:=by
 have mx:12<=maxLen:=by decide
 have O:=hm.len;refine⟨⟨by show EW.length<=6;omega,O,fun i hi=>⟨(Ru (by have hi:i<EW.length:=hi;omega) (hs i hi)).1,?_⟩,fun j E=>⟨(hm.good j E).1,?_⟩⟩,⟨fun t S=>?_,by show EW.length*112<=_;omega,by show EW.length<=_;omega⟩,⟨fun m G=>?_,by show ms.length*16<=_;omega,by show ms.length<=_;omega⟩,trivial⟩
 .refine kC hi (fun j E Y=>?_) (by simp[isNamed])
  show((EW[j]).name.toList==(EW[i]).name.toList)=false;have hi:i<EW.length:=hi;rw[(hs j E).2.1,(hs i hi).2.1];exact aiU (by omega) (by omega) (by omega)
 .refine kC E (fun a ha J=>hm.Qj a j ha E J) (by simp[DL])
 .obtain⟨i,hi,rfl⟩:=zA S
  exact(Ru (by have:i<EW.length:=hi;omega) (hs i hi)).2
 .obtain⟨j,E,rfl⟩:=zA G
  obtain⟨⟨a1,a2,a3,a4,_⟩,_⟩:=hm.good j E;exact⟨iq.mpr (by show _<=ms[j].fr/\ms[j].fr<=_;omega),iq.mpr (by show _<=ms[j].to/\ms[j].to<=_;omega)⟩
theorem auj{xs:List Int}(hx:∀x∈xs,0<=x/\x<=255)(hl:xs.length<=1048576){σ:Store}{c nx:Nat}(hc:BP σ c xs)(i9:c<nx) :
  ∃y cells ids σ' nx',ev ZM conv ext 26 [.rp c 0] σ nx=some (.agg cells,σ',nx')/\cells.all vI=true/\cells.length=3/\(∀f,(∀b,b≠c->nx<=b->f b=σ' b)->stripL (strip f 6) cells=some (Cj y,ids))/\AU y/\Gl y/\(2<=y.aI.length/\y.aI.length<=4/\∀t∈y.aI,t.st.members.length<=3)/\∀q,q<nx->q≠c->σ' q=σ q:=by
 obtain⟨b,x0,k0,C0⟩:=abm hx hl (hc.upd (b:=nx) (x:=some ⟨[.nil,.nil,Bo false],0,true⟩) (by omega)) (show c<nx+1 by omega) 4 (by decide) (by decide);have z1:¬nx=nx+1:=by omega
 have z2:¬nx+1=nx:=by omega
 have z3:c<nx+1:=by omega
 rw[nC [.cell 2 26] [5] func26];simp only[go_sem,qE,k0,z1,z2,z3];generalize hL:iI _ _=y;obtain⟨x,rfl,T,DF,n5,rfl,t0,t2,t3,j0,C5,EW,cells,ids,w,b6,e8,e9,c5,hS,X8⟩:=jS hL (fun m st=>∃k,m+k=4/\st.T 0= .rp c 0/\st.T 2= .rp nx 0/\st.T 3= .rp (nx+1) 0/\st.T 4=I k/\nx+1<st.nx/\BP st.σ c xs/\∃EW cells ids w,EW.length=k/\st.σ nx=some ⟨[.nil,.nil,Bo false],0,true⟩/\st.σ (nx+1)=some ⟨[w,.nil,Bo b],0,true⟩/\X6 st.σ (nx+1+1) st.nx w EW cells ids/\∀q,q<nx->q≠c->st.σ q=σ q)
  (fun x=>∃T DF n5,x=(.exit 0,⟨T,DF,n5⟩)/\T 0= .rp c 0/\T 2= .rp nx 0/\T 3= .rp (nx+1) 0/\nx+1<n5/\BP DF c xs/\∃EW cells ids w,2<=EW.length/\EW.length<=4/\DF nx=some ⟨[.nil,.nil,Bo false],0,true⟩/\DF (nx+1)=some ⟨[w,.nil,Bo b],0,true⟩/\X6 DF (nx+1+1) n5 w EW cells ids/\∀q,q<nx->q≠c->DF q=σ q) (by
   clear hL;rintro m ⟨T,Y,m1⟩ ⟨k,j1,t0,t2,t3,t4,J,C1,EW,cells,ids,w,hlen,b0,b1,hS,fr⟩;simp only at t0 t2 t3 t4 J C1 b0 b1 hS fr;obtain⟨r,x1,k1,hr,C2⟩:=Uw hx hl C1 (show c<m1 by omega) 3 (by decide) (by decide);obtain⟨σ2,e2⟩:∃σ2,σ2=upd Y c x1:=⟨_,rfl⟩;rw[<- e2]at C2;have En:∀q,q≠c->σ2 q=Y q:=fun q h=>by rw[e2,Zk _ _ h]
   have w1:=ZU (n:=2+r)
   by_cases g1:(k:Int)<2+r
   .by_cases g2:(k:Int)<4
    .have G:=ZU (n:=(k:Int)+1)
     obtain⟨t,sc,is,c6,n',ks,hP,a7,a8,b7,a6,j2,Cr,j3⟩:=amu hx hl (σ:=restrict σ2 [c]) (c:=c) (nx:=m1) (by
      obtain⟨a1,a2,a3,a4⟩:=C2;exact⟨a1,a2,by rw[fM];exact a3,a4⟩) (by omega) k (by omega)
     obtain⟨S,e3⟩:∃S,S=yI [c] m1 n' σ2 c6:=⟨_,rfl⟩;have p1:∀q,q<m1->q≠c->S q=Y q:=fun q E O=>by
      rw[e3];unfold yI;rw[sQ (by simp only[yD];omega)];exact En q O
     have p2:∀q,m1<=q->q<n'->S q=c6 q:=fun q E O=>by
      rw[e3];unfold yI;rw[sO (.inr ⟨E,O⟩)]
     have C3:BP S c xs:=by
      obtain⟨a1,a2,a3,a4⟩:=Cr;refine⟨a1,a2,?_,a4⟩;rw[e3];unfold yI;rw[sO (.inl (by simp))];exact a3
     have c7:stripL (strip S 5) sc=some (Az t,is):=ah b7 fun b hb=>p2 b (a6 b hb).1 (a6 b hb).2
     have pz:∀a b c d e:V,patch [a,b,c,d,e] 0 sc=sc:=fun a b c d e=>X5 (by rw[a7];rfl) (by omega)
     have c8:∀z:List V,rep 1 z=z:=fun z=>by simp[rep]
     have tk:sc.take 5=sc:=zl (by omega);obtain⟨Dz,e4⟩:∃Dz,Dz=upd S n' (some ⟨sc,5,true⟩):=⟨_,rfl⟩;have b8:Dz (nx+1)=some ⟨[w,.nil,Bo b],0,true⟩:=by rw[e4,Zm,p1 _ (by omega) (by omega)];exact b1
     have c9:Dz n'=some ⟨sc,5,true⟩:=by rw[e4,Zj]
     have b9:σ2 (nx+1)=some ⟨[w,.nil,Bo b],0,true⟩:=by rw[En _ (by omega)];exact b1
     have C4:BP Dz c xs:=by rw[e4];exact C3.upd (by omega)
     have p4:∀q,q<m1->q≠c->Dz q=Y q:=fun q E O=>by rw[e4,Zm];exact p1 q E O
     have XO:stripL (strip Dz 5) sc=some (Az t,is):=ah c7 fun b hb=>by rw[e4,Zk _ _ (by have:=a6 b hb;omega)]
     have y1:nx+1<m1:=J;have y2:c<m1:=by omega
     have y3:n'<n'+1:=by omega
     have y4:nx+1<n'+1+1:=by omega
     have y5:¬nx+1=n':=by omega
     have y6:¬nx+1=n'+1:=by omega
     have y7:(nx+1==c)=false:=by rw[sN];omega
     have y8:(c==nx+1)=false:=by rw[sN];omega
     have y9:(nx+1==n')=false:=by rw[sN];omega
     have O4:(n'==nx+1)=false:=by rw[sN];omega
     have O5:(n'==c)=false:=by rw[sN];omega
     have O6:5<=sc.length:=by omega
     rcases hS.w with ⟨rfl,rfl,rfl⟩|⟨sb,rfl,j4,c2,s1,s2,s3⟩
     .refine .inl ⟨_,by simp only[go_sem,qE,t0,t2,t3,t4,k1,<- e2,w1,G,g1,g2,b1,b9,ks,<- e3,a7,a8,pz,c8,tk,<- e4,b8,c9,y1,y2,y3,y4,y5,y6,y7,y8,y9,O4,O5,O6,iZ];rfl,?_⟩
      simp only[go_sem,t0,t2,t3];have e0:k=0:=hlen.symm;refine⟨3,by omega,1,by omega,by rw[e0];rfl,by omega,(C4.upd (by omega)).upd (by omega),[t],sc,is,.rs (n'+1) 0 1,rfl,?_,rfl,?_,fun q E O=>?_⟩
      .rw[Zm,Zm,p4 _ (by omega) (by omega)];exact b0
      .refine⟨.inr ⟨n'+1,rfl,by simp,by rw[Zm,Zj],by omega,by omega,fun hm=>by have:=a6 _ hm;omega⟩,?_,by rw[a7];rfl,a8,fun b hb=>by have:=a6 b hb;omega,fun i hi=>?_⟩
       .have e:[t].flatMap Az=Az t:=by simp
        rw[e];exact ah XO fun b hb=>by rw[Zk _ _ (by have:=a6 b hb;omega),Zk _ _ (by have:=a6 b hb;omega)]
       .have hi0:i=0:=by rw[yV]at hi;omega
        subst hi0;rw[e0]at hP;exact hP
      .rw[Zm,Zm,p4 _ (by omega) O];exact fr q E O
     .rw[hlen]at b1 b9 b8
      have h0:Dz sb=some ⟨cells,5,true⟩:=by rw[p4 _ (by omega) (by omega)];exact c2
      have e5:=rD (σ:=restrict Dz [sb,n']) (nx:=n'+1) (size:=5) (bytes:=112) (b:=sb) (len:=k) (m:=1) (row:=sc) (by rw[fO];exact h0) (by rw[hS.len,hlen]) (by omega) (by decide) (by unfold maxLen;omega) (by omega) a8;have x1:sb<n'+1:=by omega
      have x2:(nx+1==sb)=false:=by rw[sN];omega
      have x3:(sb==nx+1)=false:=by rw[sN];omega
      have x4:(sb==c)=false:=by rw[sN];omega
      have x5:(c==sb)=false:=by rw[sN];omega
      have x6:¬nx+1=sb:=by omega
      refine .inl ⟨_,by simp only[go_sem,qE,t0,t2,t3,t4,k1,<- e2,w1,G,g1,g2,b1,b9,ks,<- e3,a7,a8,pz,c8,tk,<- e4,b8,c9,y1,y2,y3,y4,y5,y6,y7,y8,y9,O4,O5,O6,iZ,e5,x1,x2,x3,x4,x5,x6];rfl,?_⟩;simp only[go_sem,t0,t2,t3];refine⟨m-1,by omega,k+1,by omega,rfl,by omega,((C4.upd (by omega)).upd (by omega)).upd (by omega),EW++[t],cells++sc,ids++is,.rs (n'+1) 0 (k+1),by rw[zo,hlen];rfl,?_,rfl,?_,fun q E O=>?_⟩
      .rw[Zm,Zm,Zm,p4 _ (by omega) (by omega)];exact b0
      .refine⟨.inr ⟨n'+1,by rw[zo,hlen];rfl,by simp,by rw[Zm,Zj],by omega,by omega,fun hm=>?_⟩,?_,by rw[zo,zo,hS.len,a7,vZ];rfl,by rw[List.all_append,hS.cell,a8];rfl,fun b hb=>?_,fun i hi=>?_⟩
       .rcases List.mem_append.mp hm with hm|hm
        .have:=hS.ids _ hm;omega
        .have:=a6 _ hm;omega
       .rw[zQ]
        have e:[t].flatMap Az=Az t:=by simp
        rw[e];refine bC (ah hS.st fun b hb=>?_) (ah XO fun b hb=>?_)
        .have:=hS.ids b hb
         rw[Zm,Zm,Zk _ _ (fun e=>s3 (by rw[<- e];exact hb)),p4 _ (by omega) (by omega)]
        .have:=a6 b hb
         rw[Zm,Zm,Zm]
       .rcases List.mem_append.mp hb with hb|hb
        .have:=hS.ids b hb;omega
        .have:=a6 b hb;omega
       .by_cases e6:i<EW.length
        .rw[yO e6];exact hS.ok i e6
        .have b3:i=EW.length:=by rw[zo,yV]at hi;omega
         subst b3;rw[wP (zq _)];simp only[yM,uT];rw[hlen];exact hP
      .rw[Zm,Zm,Zm,p4 _ (by omega) O];exact fr q E O
    .refine .inr ⟨_,by simp only[go_sem,qE,t0,t4,k1,<- e2,w1,g1,g2];rfl,by simp,_,_,_,rfl,by simp only[go_sem,t0],by simp only[go_sem,t2],by simp only[go_sem,t3],J,C2,EW,cells,ids,w,by omega,by omega,by rw[En _ (by omega)];exact b0,by rw[En _ (by omega)];exact b1,hS.frame (zq _) fun q E O=>En q (by omega),fun q E O=>by rw[En q O];exact fr q E O⟩
   .refine .inr ⟨_,by simp only[go_sem,qE,t0,t4,k1,<- e2,w1,g1];rfl,by simp,_,_,_,rfl,by simp only[go_sem,t0],by simp only[go_sem,t2],by simp only[go_sem,t3],J,C2,EW,cells,ids,w,by omega,by omega,by rw[En _ (by omega)];exact b0,by rw[En _ (by omega)];exact b1,hS.frame (zq _) fun q E O=>En q (by omega),fun q E O=>by rw[En q O];exact fr q E O⟩) 4 (by
   simp only[go_sem];refine⟨0,by omega,rfl,by omega,C0.upd (by omega),[],[],[],.nil,rfl,?_,rfl,⟨.inl ⟨rfl,rfl,rfl⟩,rfl,rfl,rfl,fun b hb=>by(cases hb),fun i hi=>absurd hi (zW _)⟩,fun q E O=>?_⟩
   .rw[Zm,Zm,Zj]
   .rw[Zm,Zk _ _ O,Zm])
 obtain⟨n,en⟩:∃n,n=EW.length:=⟨_,rfl⟩;obtain⟨sb,rfl,c2,s1,s2,s3⟩:∃sb,w= .rs sb 0 n/\DF sb=some ⟨cells,5,true⟩/\nx+1+1<=sb/\sb<n5/\sb∉ids:=by
  rcases hS.w with ⟨_,hs,_⟩|⟨sb,hw,_,h3,h4,h5,h6⟩
  .rw[hs]at b6;simp at b6
  .exact⟨sb,by rw[hw,en],h3,h4,h5,h6⟩
 rw[<- en]at b6 e8;simp only[go_sem,t3,c5];generalize hL:iI _ _=z;obtain⟨x,rfl,T2,CZ,n6,rfl,t2,t3,PI,ms,G,c0,c1,hG,hM,hB,O7⟩:=oZ hL n (fun i st=>st.T 0= .rp c 0/\st.T 2= .rp nx 0/\st.T 3= .rp (nx+1) 0/\st.T 5=I n/\st.T 6=I i/\n5<=st.nx/\BP st.σ c xs/\∃ms G,st.σ nx=some ⟨[.nil,.nil,Bo false],0,true⟩/\st.σ (nx+1)=some ⟨[.rs sb 0 n,G,Bo b],0,true⟩/\CG Dp 2 (fun _=>G) st.σ st.nx 0 ms/\L8 n ms i 0/\(∀b o l,G= .rs b o l->n5<=b)/\∀q,q<n5->q≠c->q≠nx+1->st.σ q=DF q)
  (fun x=>∃T CZ n6,x=(.exit 2,⟨T,CZ,n6⟩)/\T 2= .rp nx 0/\T 3= .rp (nx+1) 0/\n5<=n6/\∃ms G,CZ nx=some ⟨[.nil,.nil,Bo false],0,true⟩/\CZ (nx+1)=some ⟨[.rs sb 0 n,G,Bo b],0,true⟩/\CG Dp 2 (fun _=>G) CZ n6 0 ms/\L8 n ms n 0/\(∀b o l,G= .rs b o l->n5<=b)/\∀q,q<n5->q≠c->q≠nx+1->CZ q=DF q) (by
   clear hL;rintro i ⟨T,Y,m1⟩ hi ⟨t0,t2,t3,t5,t6,J,C1,ms,G,c0,c1,hG,hM,hB,fr⟩;simp only at t0 t2 t3 t5 t6 J C1 c0 c1 hG fr;have f1:(i:Int)<(n:Int):=by omega
   have f3:=ZU (n:=(i:Int)+1);refine bD ?_
   conv=>
    enter [1,r,1,1]
    simp only[go_sem,t5,t6,f1]
   generalize hL:iI _ _=z;obtain⟨x,rfl,T',σ',m',rfl,t0,t2,t3,t5,t6,hm,C',h7,h8,d0,d1,h9,i0,i1,i2⟩:=oZ hL n (fun k st=>st.T 0= .rp c 0/\st.T 2= .rp nx 0/\st.T 3= .rp (nx+1) 0/\st.T 5=I n/\st.T 6=I i/\st.T 7=I k/\n5<=st.nx/\BP st.σ c xs/\∃ms G,st.σ nx=some ⟨[.nil,.nil,Bo false],0,true⟩/\st.σ (nx+1)=some ⟨[.rs sb 0 n,G,Bo b],0,true⟩/\CG Dp 2 (fun _=>G) st.σ st.nx 0 ms/\L8 n ms i k/\(∀b o l,G= .rs b o l->n5<=b)/\∀q,q<n5->q≠c->q≠nx+1->st.σ q=DF q)
    (fun x=>∃T CZ n6,x=(.exit 4,⟨T,CZ,n6⟩)/\T 0= .rp c 0/\T 2= .rp nx 0/\T 3= .rp (nx+1) 0/\T 5=I n/\T 6=I i/\n5<=n6/\BP CZ c xs/\∃ms G,CZ nx=some ⟨[.nil,.nil,Bo false],0,true⟩/\CZ (nx+1)=some ⟨[.rs sb 0 n,G,Bo b],0,true⟩/\CG Dp 2 (fun _=>G) CZ n6 0 ms/\L8 n ms i n/\(∀b o l,G= .rs b o l->n5<=b)/\∀q,q<n5->q≠c->q≠nx+1->CZ q=DF q) (by
     clear hL;rintro k ⟨T,Y,m1⟩ hk ⟨t0,t2,t3,t5,t6,t7,J,C1,ms,G,c0,c1,hG,hM,hB,fr⟩;simp only at t0 t2 t3 t5 t6 t7 J C1 c0 c1 hG fr;have g1:(k:Int)<(n:Int):=by omega
     have g3:=ZU (n:=(k:Int)+1);have next:L8 n ms i (k+1):=hM.mono fun f t h _ _=>by omega
     by_cases b3:i=k
     .have e1:((i:Int) !=(k:Int))=false:=by rw[b3];simp
      refine .inl ⟨_,by simp only[go_sem,t0,t3,t5,t6,t7,g1,g3,e1];rfl,?_⟩;simp only[go_sem,t0,t2,t3,t5,t6];exact⟨rfl,J,C1,ms,G,c0,c1,hG,next,hB,fr⟩
     .have e1:((i:Int) !=(k:Int))=true:=by simp;omega
      obtain⟨r,x1,k1,C2⟩:=abm hx hl C1 (show c<m1 by omega) 2 (by decide) (by decide);obtain⟨σ2,e2⟩:∃σ2,σ2=upd Y c x1:=⟨_,rfl⟩;rw[<- e2]at C2;have En:∀q,q≠c->σ2 q=Y q:=fun q h=>by rw[e2,Zk _ _ h]
      have c3:σ2 nx=some ⟨[.nil,.nil,Bo false],0,true⟩:=by rw[En _ (by omega)];exact c0
      have b2:σ2 (nx+1)=some ⟨[.rs sb 0 n,G,Bo b],0,true⟩:=by rw[En _ (by omega)];exact c1
      have EP:∀q,q<n5->q≠c->q≠nx+1->σ2 q=DF q:=fun q E O h3=>by rw[En q O];exact fr q E O h3
      have c4:CG Dp 2 (fun _=>G) σ2 m1 0 ms:=X7 hG (zq _) fun b o l h=>En b (by have:=hB b o l h;omega)
      have j5:=hM.len;have no:DI ZM 24 G=some (I ms.length):=by
       rcases hG with ⟨E,O⟩|⟨bb,E,_⟩
       .have E:G= .nil:=E
        rw[E,O];rfl
       .have E:G= .rs bb 0 ms.length:=E
        rw[E];rfl
      cases r with
      |false=>
       refine .inl ⟨_,by simp only[go_sem,qE,t0,t3,t5,t6,t7,g1,g3,e1,k1,<- e2];rfl,?_⟩;simp only[go_sem,t0,t2,t3,t5,t6];exact⟨rfl,J,C2,ms,G,c3,b2,c4,next,hB,EP⟩
      |true=>
       by_cases b5:(ms.length:Int)<12
       .have i3:=ku (c:=Dp) (s:=2) (bytes:=16) (fun _=>rfl) (fun _=>rfl) (by decide) c4 (⟨(i:Int),(k:Int)⟩:TV.Move) (by omega) (by decide)
        obtain⟨S,ha,i4,i5⟩:=i3;have u1:∀q,q<m1->(∀b o l,G= .rs b o l->q≠b)->S q=σ2 q:=i5;have d1:S (nx+1)=some ⟨[.rs sb 0 n,G,Bo b],0,true⟩:=by rw[u1 _ (by omega) fun b o l h=>by have:=hB b o l h;omega];exact b2
        have d0:S nx=some ⟨[.nil,.nil,Bo false],0,true⟩:=by rw[u1 _ (by omega) fun b o l h=>by have:=hB b o l h;omega];exact c3
        have C3:BP S c xs:=by
         obtain⟨a1,a2,a3,a4⟩:=C2;exact⟨a1,a2,by rw[u1 _ (by omega) fun b o l h=>by have:=hB b o l h;omega];exact a3,a4⟩
        refine .inl ⟨_,by simp only[go_sem,qE,t0,t3,t5,t6,t7,g1,g3,e1,k1,<- e2,b2,no,b5,ha,d1];rfl,?_⟩;simp only[go_sem,t0,t2,t3,t5,t6];refine⟨rfl,by omega,C3.upd (by omega),ms++[⟨(i:Int),(k:Int)⟩],.rs (m1+1) 0 (ms.length+1),?_,rfl,?_,hM.add (by omega) (by omega) (by omega) b3,fun b o l hb=>by(cases hb;omega),fun q E O h3=>?_⟩
        .rw[Zm];exact d0
        .refine .inr ⟨m1+1,by rw[zo];rfl,by simp,?_,by omega⟩
         rw[Zm];exact i4
        .rw[Zk _ _ h3,u1 q (by omega) fun b o l h=>by have:=hB b o l h;omega];exact EP q E O h3
       .refine .inl ⟨_,by simp only[go_sem,qE,t0,t3,t5,t6,t7,g1,g3,e1,k1,<- e2,b2,no,b5];rfl,?_⟩
        simp only[go_sem,t0,t2,t3,t5,t6];exact⟨rfl,J,C2,ms,G,c3,b2,c4,next,hB,EP⟩) (by
     clear hL;rintro ⟨T,Y,m1⟩ ⟨t0,t2,t3,t5,t6,t7,J,C1,ms,G,c0,c1,hG,hM,hB,fr⟩;simp only at t0 t2 t3 t5 t6 t7 J C1 c0 c1 hG fr;exact⟨_,by simp only[go_sem,t5,t7,zi];rfl,by simp,_,_,_,rfl,by simp only[go_sem,t0],by simp only[go_sem,t2],by simp only[go_sem,t3],by simp only[go_sem,t5],by simp only[go_sem,t6],J,C1,ms,G,c0,c1,hG,hM,hB,fr⟩) (by
     simp only[go_sem,t0,t2,t3,t5,t6];exact⟨J,C1,ms,G,c0,c1,hG,hM,hB,fr⟩)
   refine⟨_,by simp only[go_sem,t6,f3];rfl,.inl ⟨_,rfl,?_⟩⟩;simp only[go_sem,t0,t2,t3,t5];exact⟨rfl,hm,C',h7,h8,d0,d1,h9,i0.mono fun f t h E O=>by omega,i1,i2⟩) (by
   clear hL;rintro ⟨T,Y,m1⟩ ⟨t0,t2,t3,t5,t6,J,C1,ms,G,c0,c1,hG,hM,hB,fr⟩;simp only at t0 t2 t3 t5 t6 J C1 c0 c1 hG fr;exact⟨_,by simp only[go_sem,t5,t6,zi];rfl,by simp,_,_,_,rfl,by simp only[go_sem,t2],by simp only[go_sem,t3],J,ms,G,c0,c1,hG,hM,hB,fr⟩) (by
   simp only[go_sem,t0,t2,t3];exact⟨C5,[],.nil,e9,c5,.inl ⟨rfl,rfl⟩,⟨wF _,fun j hj=>absurd hj (zW _),fun a b ha=>absurd ha (zW _)⟩,fun b o l h=>by(cases h),fun q _ _ _=>trivial⟩)
 have cw:vI G=true:=by
  rcases hG with ⟨E,_⟩|⟨bb,E,_⟩
  .have E:G= .nil:=E
   rw[E];rfl
  .have E:G= .rs bb 0 ms.length:=E
   rw[E];rfl
 simp only[go_sem,t2,t3,c0,c1,cw,z1,z2];obtain⟨i6,i7⟩:=amv (b:=b) (EW:=EW) (ms:=ms) (i:=n) (k:=0) (by omega) hS.ok (by rw[<- en];exact hM);obtain⟨b4,ef⟩:∃b4,b4=upd CZ nx (some ⟨[.rs sb 0 n,G,Bo b],0,true⟩):=⟨_,rfl⟩;have l1:∀q,nx<q->b4 q=CZ q:=fun q h=>by rw[ef,Zm]
 rw[<- ef];refine⟨⟨EW,ms,b⟩,[.rs sb 0 n,G,Bo b],sb :: ids++(anK G++([]++[])),b4,n6,rfl,by simp only[vY,cw];rfl,rfl,fun f hf=>?_,i6,i7,⟨by show 2<=EW.length;omega,by show EW.length<=4;omega,fun t ht=>by
  obtain⟨i,hi,rfl⟩:=zA (show t∈EW from ht);exact(O1 (hS.ok i hi).1).2.2.2⟩,fun q E O=>?_⟩
 .have e7:∀q,nx+1<q->q<n5->f q=DF q:=fun q E O=>by
   rw[hf q (by omega) (by omega),l1 q (by omega),O7 q O (by omega) (by omega)]
  have g1:strip f 6 (.rs sb 0 n)=some (LL Az EW,sb :: ids):=by
   have b7:stripL (strip f 5) cells=some (EW.flatMap Az,ids):=ah hS.st fun q hq=>e7 q (by have:=hS.ids q hq;omega) (hS.ids q hq).2
   rw[aS,e7 sb (by omega) s2,c2];have hl:=hS.len;rw[<- en]at hl;simp only[zk,yZ,yg,hl,zq,if_true];rw[zl (by omega),b7];show some (V.ts _ n,_)=some (V.ts _ EW.length,_);rw[en]
  have g2:strip f 6 G=some (LL Dp ms,anK G):=by
   rcases hG with ⟨E,rfl⟩|⟨bb,E,_,h3,h4⟩
   .have E:G= .nil:=E
    rw[E,aT];rfl
   .have E:G= .rs bb 0 ms.length:=E
    have:=hB bb 0 _ E;rw[E];exact dA (c:=Dp) (s:=2) (fun _=>rfl) (fun σ d l=>aX (fun x=>by rw[au,aQ,au,aQ,aY];rfl) l) (w:=true) (by rw[hf bb (by omega) (by omega),l1 bb (by omega)];exact h3) 5
  rw[au,g1,au,g2,au,aQ,aY];rfl
 .rw[ef,Zm,O7 q (by omega) O (by omega)];exact X8 q E O
theorem aby(xs:List Int)(S:∀x∈xs,0<=x/\x<=255)(Y:xs.length<=1048576):∃y,fn ZM conv ext 6 [LL cB xs]=some (.agg (Cj y))/\AU y/\Gl y/\(2<=y.aI.length/\y.aI.length<=4/\∀t∈y.aI,t.st.members.length<=3):=by
 obtain⟨h0,k0⟩:=sNew xs S Y 1 (upd pI 0 (some ⟨[.nil,.nil,Bo false],0,true⟩));obtain⟨y,cells,ids,σ',nx',k1,hc,G,J,g1,g2,g3,O⟩:=auj S Y (c:=1) (nx:=2) (σ:=upd (upd pI 0 (some ⟨[.nil,.nil,Bo false],0,true⟩)) 1 (some (QI xs 0 h0 0))) ⟨0,h0,by rw[Zj],by omega,by omega⟩ (by omega);have b0:σ' 0=some ⟨[.nil,.nil,Bo false],0,true⟩:=by rw[O 0 (by omega) (by omega),Zm,Zj]
 have s0:=J (upd σ' 0 (some ⟨cells,0,true⟩)) fun b h1 h2=>Zm
 obtain⟨E,a2,a3,rfl⟩:∃E a2 a3,cells=[E,a2,a3]:=by
  match cells,G with
  |[E,a2,a3],_=>exact⟨E,a2,a3,rfl⟩
 refine⟨y,?_,g1,g2,g3⟩;simp only[vY,w_,zM]at hc;rw[mJ,nC [.cell 2 26] [] func6];simp only[go_sem,qE,k0,k1,b0,hc,s0]
end Go.Proofs.YtjknobpihkmilaaGreat
namespace Go.Proofs.YtjknobpihkmilaaGreat
open Go Go.TV
abbrev ap2:List Nat:=[3,4,5,8,9,12,13,14,15,17,18,19,30,31,36,39,41,42,61,62,63]
abbrev ap3:List Nat:=[33,32,16,24,54,92,93,55]
def Cb:FuncId->Conv:=fun f=>if f∈([62,15,8,9,33,61,41,19,39,18,64,101]:List Nat)then .own else if f∈([63,42,24,54,92,93,55]:List Nat)then .inl else .KI
noncomputable def D7:Ext:=fun f=>if f=64 then some (FT)else if f=101 then some (Ic 4)else if f∈ap2 then none else if f∈ap3 then some (fun args σ nx=>ev ZM BA NV f args σ nx)else some fun args σ nx=>ev ZM Aa Ak f args σ nx
theorem extSOk:Iw ZM D7:=fun f g h args σ nx v σ' nx' J=>by
 unfold D7 at h
 by_cases E:f=64
 .subst E
  rw[sO rfl]at h;cases h;exact pU args σ nx v σ' nx' J
 have O:=E
 by_cases G:f=101
 .subst G
  rw[sQ (by decide),sO rfl]at h;cases h;exact Uu args σ nx v σ' nx' J
 have n101:=G;simp only[O,n101,if_false]at h
 split at h
 .cases h
 .split at h
  .cases h
   exact mg (by kernel_rfl) aoP f args σ nx v σ' nx' J
  .cases h
   exact mg (by kernel_rfl) apb f args σ nx v σ' nx' J
theorem fnS{f:FuncId}(h:List.contains ([64,101]++ap2++ap3) f=false)(ts:List V):fn ZM Cb D7 f ts=fn ZM Aa Ak f ts:=by
 have hn:¬f∈([64,101]++ap2++ap3:List Nat):=fun e=>by rw[List.contains_iff_mem.mpr e]at h;cases h
 simp only[xW,not_or]at hn;have E:=hn.1.1;simp only[zX,zK,or_false,not_or]at E;rw[mJ,mJ,n_ (g:=fun args σ nx=>ev ZM Aa Ak f args σ nx) (by unfold D7;simp only[E,if_false];rw[sQ hn.1.2,sQ hn.2])]
theorem ap4(args:List V)(σ:Store)(nx:Nat):ev ZM Cb D7 33 args σ nx=ev ZM BA NV 33 args σ nx:=n_ (g:=fun args σ nx=>ev ZM BA NV 33 args σ nx) rfl args σ nx
theorem aiV(args:List V)(σ:Store)(nx:Nat):ev ZM Cb D7 32 args σ nx=ev ZM BA NV 32 args σ nx:=n_ (g:=fun args σ nx=>ev ZM BA NV 32 args σ nx) rfl args σ nx
theorem ap5(ts:List V):fn ZM Cb D7 32 ts=fn ZM BA NV 32 ts:=by rw[mJ,mJ,aiV]
theorem ap6(args:List V)(σ:Store)(nx:Nat):ev ZM Cb D7 64 args σ nx=(FT) args σ nx:=n_ (g:=(FT)) rfl args σ nx
theorem amw(args:List V)(σ:Store)(nx:Nat):ev ZM Cb D7 101 args σ nx=(Ic 4) args σ nx:=n_ (g:=(Ic 4)) rfl args σ nx
abbrev nI(n:Nat):Prop:=∀ts:List V,fn ZM Cb D7 n ts=fn ZM Aa Ak n ts
theorem ap7:nI 6/\nI 10/\nI 20/\nI 21/\nI 26/\nI 27/\nI 29/\nI 34/\nI 35/\nI 37/\nI 40/\nI 43/\nI 44/\nI 45/\nI 46/\nI 47/\nI 48/\nI 58/\nI 59/\nI 60/\nI 65/\nI 69/\nI 70/\nI 71:=by and_intros<;>exact fnS rfl
theorem ap8:nI 72/\nI 73/\nI 74/\nI 75/\nI 76/\nI 77/\nI 78/\nI 79/\nI 80/\nI 81/\nI 82/\nI 83/\nI 84/\nI 87/\nI 88/\nI 96/\nI 97/\nI 98/\nI 99/\nI 100/\nI 102/\nI 103/\nI 106/\nI 107:=by and_intros<;>exact fnS rfl
theorem ap9:nI 108/\nI 109/\nI 110/\nI 111/\nI 112/\nI 113/\nI 114/\nI 115/\nI 116/\nI 117/\nI 118/\nI 119/\nI 120/\nI 121/\nI 122/\nI 123/\nI 125/\nI 126/\nI 128/\nI 135/\nI 136/\nI 137/\nI 140/\nI 141:=by and_intros<;>exact fnS rfl
theorem ap_:nI 142/\nI 143/\nI 144/\nI 145/\nI 146/\nI 147/\nI 148/\nI 149/\nI 150/\nI 151/\nI 152/\nI 153/\nI 154/\nI 155/\nI 156/\nI 157/\nI 158/\nI 159/\nI 160/\nI 161/\nI 162/\nI 163/\nI 164/\nI 165:=by and_intros<;>exact fnS rfl
theorem ap':nI 168/\nI 169/\nI 170/\nI 171/\nI 172/\nI 173/\nI 174/\nI 175/\nI 176/\nI 177/\nI 178/\nI 179/\nI 180/\nI 181/\nI 182/\nI 183/\nI 184/\nI 185/\nI 186/\nI 187/\nI 188/\nI 189/\nI 190/\nI 191:=by and_intros<;>exact fnS rfl
theorem aqa:nI 192/\nI 193/\nI 194/\nI 195/\nI 196/\nI 197/\nI 198/\nI 199/\nI 202/\nI 203/\nI 204/\nI 205/\nI 206/\nI 207/\nI 208/\nI 209/\nI 210/\nI 211/\nI 212/\nI 213/\nI 214/\nI 215/\nI 216/\nI 217:=by and_intros<;>exact fnS rfl
theorem aqb:nI 218/\nI 219/\nI 220/\nI 221/\nI 222/\nI 223/\nI 226/\nI 227/\nI 228/\nI 229/\nI 230/\nI 231/\nI 232/\nI 233/\nI 234/\nI 235/\nI 236/\nI 237/\nI 238/\nI 239/\nI 240/\nI 242/\nI 243/\nI 244:=by and_intros<;>exact fnS rfl
theorem aqc:nI 245/\nI 246/\nI 247/\nI 248/\nI 249/\nI 250/\nI 251:=by and_intros<;>exact fnS rfl
abbrev gI(n:Nat):Prop:=Cb n= .KI
abbrev EC(n:Nat):Prop:=Cb n= .own
theorem aqd:gI 4/\gI 6/\EC 8/\gI 10/\gI 13/\gI 14/\EC 18/\EC 19/\gI 20/\gI 21/\gI 26/\gI 27/\gI 29/\gI 30/\gI 31/\gI 32/\EC 33/\gI 34/\gI 35/\gI 36/\gI 37/\EC 39/\gI 40/\EC 41:=by and_intros<;>exact rfl
theorem aqe:Cb 42= .inl/\gI 43/\gI 44/\gI 45/\gI 46/\gI 47/\gI 48/\gI 58/\gI 59/\gI 60/\EC 61/\EC 62/\Cb 63= .inl/\EC 64/\gI 65/\gI 69/\gI 70/\gI 71/\gI 72/\gI 73/\gI 74/\gI 75/\gI 76/\gI 77:=by and_intros<;>exact rfl
theorem aqf:gI 78/\gI 79/\gI 80/\gI 81/\gI 82/\gI 83/\gI 84/\gI 87/\gI 88/\gI 96/\gI 97/\gI 98/\gI 99/\gI 100/\EC 101/\gI 102/\gI 103/\gI 106/\gI 107/\gI 108/\gI 109/\gI 110/\gI 111/\gI 112:=by and_intros<;>exact rfl
theorem aqg:gI 113/\gI 114/\gI 115/\gI 116/\gI 117/\gI 118/\gI 119/\gI 120/\gI 121/\gI 122/\gI 123/\gI 125/\gI 126/\gI 128/\gI 135/\gI 136/\gI 137/\gI 140/\gI 141/\gI 142/\gI 143/\gI 144/\gI 145/\gI 146:=by and_intros<;>exact rfl
theorem aqh:gI 147/\gI 148/\gI 149/\gI 150/\gI 151/\gI 152/\gI 153/\gI 154/\gI 155/\gI 156/\gI 157/\gI 158/\gI 159/\gI 160/\gI 161/\gI 162/\gI 163/\gI 164/\gI 165/\gI 168/\gI 169/\gI 170/\gI 171/\gI 172:=by and_intros<;>exact rfl
theorem aqi:gI 173/\gI 174/\gI 175/\gI 176/\gI 177/\gI 178/\gI 179/\gI 180/\gI 181/\gI 182/\gI 183/\gI 184/\gI 185/\gI 186/\gI 187/\gI 188/\gI 189/\gI 190/\gI 191/\gI 192/\gI 193/\gI 194/\gI 195/\gI 196:=by and_intros<;>exact rfl
theorem aqj:gI 197/\gI 198/\gI 199/\gI 202/\gI 203/\gI 204/\gI 205/\gI 206/\gI 207/\gI 208/\gI 209/\gI 210/\gI 211/\gI 212/\gI 213/\gI 214/\gI 215/\gI 216/\gI 217/\gI 218/\gI 219/\gI 220/\gI 221/\gI 222:=by and_intros<;>exact rfl
theorem aqk:gI 223/\gI 226/\gI 227/\gI 228/\gI 229/\gI 230/\gI 231/\gI 232/\gI 233/\gI 234/\gI 235/\gI 236/\gI 237/\gI 238/\gI 239/\gI 240/\gI 242/\gI 243/\gI 244/\gI 245/\gI 246/\gI 247/\gI 248/\gI 249:=by and_intros<;>exact rfl
theorem aql:gI 250/\gI 251:=by and_intros<;>exact rfl
attribute [go_sem] ap7 ap8 ap9 ap_ ap' aqa aqb aqc
attribute [go_sem] aqd aqe aqf aqg aqh aqi aqj aqk aql
attribute [go_sem] ap4 aiV
attribute [go_sem] ap6 amw
open Go.Plan
attribute [-go_sem] qy
def azC(a b:Int):Int:=IntKind.u64.wrap ((BitVec.ofInt 64 a &&& BitVec.ofInt 64 b).toNat:Nat)
theorem amx{P:Program}{t:TypeId}{x y:Operand}{a b:Int}:Am P .and t x y (.sc (.int .u64 a)) (.sc (.int .u64 b))=some (.sc (.int .u64 (azC a b))):=by
 simp only[Am,toVal,eqGuard_at_int,binOp_and];rfl
attribute [go_sem] amx
theorem aqm(n:Nat)(G:1<=n)(J:n<=6):fn ZM conv ext 135 [.sc (.int .u64 1),.sc (.int .u64 n)]=some (.AX [.sc (.int .u64 0),.sc (.int .u64 n)]):=by
 have hn:n=1\/n=2\/n=3\/n=4\/n=5\/n=6:=by omega
 have E:¬(32:Int)<0:=by decide
 rcases hn with rfl|rfl|rfl|rfl|rfl|rfl<;>rw[mJ,nC [.tmp 4,.tmp 5] [] func135]<;>simp only[go_sem,E]<;>rfl
theorem azD(n:Nat)(E:1<=n)(G:n<=6):fn ZM conv ext 100 [.sc (.int .u64 1),.sc (.int .u64 n)]=some (.AX [.sc (.int .u64 0),.sc (.int .u64 n)]):=by
 have k:=aqm n E G;rw[mJ,nC [.tmp 4,.tmp 5] [] func100];simp only[go_sem,k]
theorem aum(k:IntKind)(n:Int)(σ:Store):Bv ZM 3 106 (.sc (.int k n)) σ=some (.sc (.int .u64 (IntKind.u64.wrap n))):=JV Tryz.underlying3 Tryz.underlying106
theorem aun(k:IntKind)(n:Int)(σ:Store):Bv ZM 106 3 (.sc (.int k n)) σ=some (.sc (.int .i64 (IntKind.i64.wrap n))):=JV Tryz.underlying106 Tryz.underlying3
section
variable {P:Program} {conv:FuncId->Conv} {call:TV.Call} (d:Option Tmp) (ty:TypeId) (ps:String) (af:Array Edge) (gd:Option (Nat×Bool)) (T:Nat->V) (σ:Store) (nx:Nat)
theorem afr(s x:Operand)(ts:Array TypeId):Ad conv T σ ⟨d,.call ⟨.builtin .copy,#[s,x],ts⟩,ty,ps,af,gd⟩=Ae (val T s)++Ae (val T x):=by
 show([val T s,val T x].flatMap Ae)=_;simp only[zG,vw,zH]
theorem aqn(s x:Operand)(ts:Array TypeId):writer conv ⟨d,.call ⟨.builtin .copy,#[s,x],ts⟩,ty,ps,af,gd⟩=true:=rfl
theorem aiW(s x:Operand)(t u:TypeId):Ai P conv call ⟨d,.call ⟨.builtin .copy,#[s,x],#[t,u]⟩,ty,ps,af,gd⟩ T σ nx=
  if((Ae (val T s)++Ae (val T x)).all fun b=>decide (b<nx))=true then atA (Ae (val T s)++Ae (val T x)) σ nx (GR P #[t,u] (val T s) (val T x) (restrict σ (Ae (val T s)++Ae (val T x))) nx)else none:=by
 rw[nP (F:=Ae (val T s)++Ae (val T x)) T σ nx (by
  show some ([val T s,val T x].flatMap Ae)=_;simp only[zG,vw,zH]) (fun _=>rfl)]
 rfl
end
attribute [go_sem] afr aqn aiW
def ER(n k:Nat):List Int:=List.replicate k (-1)++List.replicate (n-k) 0
theorem Ry{n k:Nat}(h:k<=n):(ER n k).length=n:=by simp[ER];omega
theorem abz{n k m:Nat}(h:k+m<=n)(hm:m<=k)(h0:m≠0):patch ((ER n k).flatMap cI) k ((((ER n k).flatMap cI).take k).take m)=(ER n (k+m)).flatMap cI:=by
 have G:((ER n k).flatMap cI).length=n:=by rw[qN,Ry (by omega)]
 have E:((ER n k).flatMap cI).take k=(List.replicate k (-1)).flatMap cI:=by
  rw[qL];congr 1;unfold ER;rw[xG (by simp)]
 have J:((List.replicate k (-1:Int)).flatMap cI).take m=(List.replicate m (-1)).flatMap cI:=by
  rw[qL,List.take_replicate,xX hm]
 have O:∀(j:Nat) (xs:List Int),(xs.flatMap cI).drop j=(xs.drop j).flatMap cI:=fun j=>by
  induction j with
  |zero=>intro xs;rfl
  |succ j S=>
   intro xs;cases xs with
   |nil=>rfl
   |cons y Y=>exact S Y
 rw[E,J,iH _ _ _ (by rw[qN,G];simp;omega),E,qN,yU,O,<- zQ,<- zQ];congr 1;unfold ER;rw[List.drop_append,yA (by simp),yJ,List.drop_replicate,yU,wG];congr 2;omega
theorem aiX(n:Nat)(O:1<=n)(h6:n<=6)(nx:Nat):∃J G,ev ZM Cb D7 61 [.ts [I (-1)] 1,I n] pI nx=some (.rs nx 0 n,J,G)/\nx<G/\J nx=some ⟨(List.replicate n (-1)).flatMap cI,1,true⟩:=by
 have c1:¬(n:Int)<0:=by omega
 have k:=azD n O h6;have w1:=ZT (n:=(n:Int)) (by omega) (by omega);have w2:=ZT (n:=1) (by omega) (by omega);have w3:=ZU (n:=(n:Int));have c2:¬(0:Int)<0:=by decide
 have c3:¬(9223372036854775807:Int)<(n:Int):=by omega
 have m1:=jF n;have m2:8*(n:Int)<=281474976710656:=by omega
 have m3:(n:Int)<=9223372036854775807:=by omega
 have m4:min 1 n=1:=by omega
 have m5:¬(1:Nat)=0:=by decide
 have r1:((rep n [V.sc (.int .i64 0)])).length=n:=by rw[fQ];simp
 have r2:patch (rep n [V.sc (.int .i64 0)]) 0 [I (-1)]=(ER n 1).flatMap cI:=by
  have hn:n=1\/n=2\/n=3\/n=4\/n=5\/n=6:=by omega
  rcases hn with rfl|rfl|rfl|rfl|rfl|rfl<;>rfl
 have m6:1<=n:=O;rw[nC [.tmp 4] [9] func61];simp only[go_sem,c1,c2,c3,w1,w2,w3,k,m1,m2,m3,aum,aun,r1,m4,m5,m6,H9,r2];generalize S:iI _ _=y;obtain⟨x,rfl,T,σ,G,rfl,E,t7,hs⟩:=jS S (fun m st=>∃k,1<=k/\k<=n/\m+k=n/\nx<st.nx/\st.T 7= .rs nx 0 n/\st.T 8=I k/\st.σ nx=some ⟨(ER n k).flatMap cI,1,true⟩)
  (fun x=>∃T σ G,x=(.exit 0,⟨T,σ,G⟩)/\nx<G/\T 7= .rs nx 0 n/\σ nx=some ⟨(ER n n).flatMap cI,1,true⟩) (by
   clear S;rintro m ⟨T,σ,G⟩ ⟨k,k1,Y,k3,E,t7,t8,hs⟩;simp only at E t7 t8 hs;have hlen:((ER n k).flatMap cI).length=n:=by rw[qN,Ry Y]
   by_cases hk:k<n
   .have g1:(k:Int)<(n:Int):=by omega
    have g2:=jF k;have g3:¬k=0:=by omega
    have g4:¬k=n:=by omega
    have g5:k<=n:=Y;obtain⟨q,hq⟩:∃q,q=min k (n-k):=⟨_,rfl⟩;have g6:¬q=0:=by omega
    have g7:k+q<=n:=by omega
    have g8:(((ER n k).flatMap cI).take k).take q=(List.replicate q (-1)).flatMap cI:=by
     rw[qL,qL];congr 1;unfold ER;rw[xG (by simp),List.take_replicate,xX (by omega)]
    have g9:=abz (n:=n) (k:=k) (m:=q) (by omega) (by omega) g6;have g10:((List.replicate q (-1)).flatMap cI).all vI=true:=qO _;have w4:=ZU (n:=(k:Int)+(q:Int));rw[g8]at g9;refine .inl ⟨_,by simp only[go_sem,t7,t8,hs,g1,g2,g3,g4,g5,hlen,E,<- hq,g6,g7,g8,g9,g10,w4,H9];rfl,m-q,by omega,k+q,by omega,by omega,by omega,?_⟩;simp only[go_sem,t7];exact⟨E,rfl⟩
   .have:k=n:=by omega
    subst this;refine .inr ⟨_,by simp only[go_sem,t7,t8,zi];rfl,by simp,_,_,_,rfl,E,?_,hs⟩;simp only[go_sem,t7]) (n-1) (by
   simp only[go_sem];exact⟨1,zq _,O,by omega,by omega,rfl,rfl⟩)
 simp only[go_sem,t7];refine⟨_,_,rfl,E,?_⟩;rw[hs];unfold ER;rw[yM];simp
def Ea(y:BZ)(i k:Nat):Bool:=DT y.moves (i:Int) k
def Dk(al:List Bool)(i:Nat):Bool:=al.getD i false
theorem rG{al:List Bool}{i:Nat}(h:Dk al i=true):i<al.length:=by
 unfold Dk at h;rw[zx]at h
 by_cases hi:i<al.length
 .exact hi
 .rw[yX (by omega)]at h;cases h
theorem rH{al:List Bool}{i:Nat}(h:i<al.length):Dk al i=al[i]:=by
 unfold Dk;rw[zx,zy h];rfl
def DC(n:Nat)(out:Nat->Int):List Int:=(List.range n).map out
theorem jm(n:Nat)(out:Nat->Int):(DC n out).length=n:=by simp[DC]
theorem MX{n:Nat}(out:Nat->Int){a:Nat}(h:a<n):((DC n out).flatMap cI)[a]?=some (I (out a)):=by
 rw[idx (xs:=DC n out) (k:=a) (by rw[jm];exact h)];simp[DC]
theorem X9{n:Nat}(out:Nat->Int)(a:Nat)(v:Int):((DC n out).flatMap cI).set a (I v)=(DC n (put out a v)).flatMap cI:=by
 have e:∀(l:List Int) (k:Nat),(l.flatMap cI).set k (I v)=(l.set k v).flatMap cI:=fun l=>by
  induction l with
  |nil=>intro k;rfl
  |cons x l E=>
   intro k;cases k with
   |zero=>rfl
   |succ k=>
    show I x :: (l.flatMap cI).set k (I v)=_;rw[E];rfl
 rw[e];congr 1;refine yQ (by simp[DC]) fun i G J=>?_
 rw[wW];simp only[DC,yC,wZ,put]
 by_cases c:a=i
 .subst c;simp
 .rw[sQ c,sQ (fun e=>c e.symm)]
def DV(T:Nat->V)(σ:Store)(nx t E:Nat)(l:List Int):Prop:=∃(b off:Nat) (cells:List Int),T t= .rs b off l.length/\σ b=some ⟨cells.flatMap cI,1,true⟩/\off+l.length=cells.length/\cells.drop off=l/\b<nx/\b≠E
theorem UE{T:Nat->V}{σ:Store}{nx t G:Nat}{l:List Int}(h:DV T σ nx t G l)(hb:G<nx)(x:Int)(hl:l.length<100000) :
  ∃σ',Ah (upd σ nx (some ⟨[I x],1,true⟩)) (nx+1) 1 8 (T t) [I x] 1=some (.rs (nx+1) 0 (l.length+1),σ',nx+1+1)/\σ' (nx+1)=some ⟨(l++[x]).flatMap cI,1,true⟩/\σ' G=σ G:=by
 obtain⟨b,off,cells,J,O,h3,S,h5,Y⟩:=h;have hm:l.length+1<=maxLen:=by unfold maxLen;omega
 have E:(cells.flatMap cI).length=cells.length:=qN cells;refine⟨upd (upd (upd σ nx (some ⟨[I x],1,true⟩)) b none) (nx+1) (some ⟨(cells.flatMap cI).drop off++[I x],1,true⟩),?_,?_,?_⟩
 .rw[J,qy,Zm,O]
  simp only[zk];rw[sQ (by decide),sQ (by rw[E];omega),sO ⟨by rw[E];omega,trivial,hm,by omega,rfl⟩]
 .rw[Zj]
  have:(cells.flatMap cI).drop off=l.flatMap cI:=by
   rw[<- S];have e:∀(k:Nat) (xs:List Int),(xs.flatMap cI).drop k=(xs.drop k).flatMap cI:=fun k=>by
    induction k with
    |zero=>intro xs;rfl
    |succ k ih=>
     intro xs;cases xs with
     |nil=>rfl
     |cons y ys=>exact ih ys
   exact e _ _
  rw[this,zQ];rfl
 .rw[Zm,Zk _ _ (fun e=>Y e.symm),Zm]
theorem Rz{T:Nat->V}{σ:Store}{nx t E b:Nat}{l:List Int}(G:T t= .rs b 0 l.length)(J:σ b=some ⟨l.flatMap cI,1,true⟩)(O:b<nx)(S:b≠E):DV T σ nx t E l:=⟨b,0,l,G,J,by omega,rfl,O,S⟩
theorem gK{T T':Nat->V}{σ:Store}{nx nx' t E:Nat}{l:List Int}(h:DV T σ nx t E l)(G:T' t=T t)(hn:nx<=nx'):DV T' σ nx' t E l:=by
 obtain⟨b,off,cells,J,O,S,Y,h5,h6⟩:=h;exact⟨b,off,cells,by rw[G,J],O,S,Y,by omega,h6⟩
theorem afs{T:Nat->V}{σ:Store}{nx t E:Nat}{l:List Int}(h:DV T σ nx t E l)(x:Option Fv):DV T (upd σ E x) nx t E l:=by
 obtain⟨b,off,cells,J,O,S,Y,h5,G⟩:=h;exact⟨b,off,cells,J,by rw[Zk _ _ G];exact O,S,Y,h5,G⟩
theorem X_{T:Nat->V}{σ:Store}{nx t E:Nat}{l:List Int}(h:DV T σ nx t E l)(x:Option Fv):DV T (upd σ nx x) (nx+1) t E l:=by
 obtain⟨b,off,cells,G,J,O,S,h5,Y⟩:=h;exact⟨b,off,cells,G,by rw[Zm];exact J,O,S,by omega,Y⟩
theorem O8{cells:List Int}{off:Nat}{x:Int}{l:List Int}(h:cells.drop off=x :: l):(cells.flatMap cI)[off]?=some (I x):=by
 have E:off<cells.length:=by
  refine zf fun hn=>?_
  rw[yA (by omega)]at h;cases h
 rw[idx (xs:=cells) (k:=off) E];rw[yS E]at h;injection h with h _
 rw[h]
theorem abA{cells:List Int}{off:Nat}{x:Int}{l:List Int}(h:cells.drop off=x :: l):cells.drop (off+1)=l:=by
 rw[<- uD,h];rfl
def AB(l:List Nat):List Int:=l.map fun(i:Nat)=>(i:Int)
theorem amy{y:BZ}(E:AU y){j:Nat}(G:j<y.moves.length):∃a c:Nat,y.moves[j]=⟨(a:Int),(c:Int)⟩/\a<y.aI.length/\c<y.aI.length:=by
 obtain⟨_,_,_,hm⟩:=E;obtain⟨J,S,O,Y,_⟩:=(hm j G).1;refine⟨y.moves[j].fr.toNat,y.moves[j].to.toNat,?_,by omega,by omega⟩;rw[uZ J,uZ O]
theorem ac8(y:BZ)(i k:Nat):Ea y i k=true↔∃j,∃h:j<y.moves.length,y.moves[j]=⟨(i:Int),(k:Int)⟩:=by
 unfold Ea DT;rw[List.any_eq_true];constructor
 .rintro ⟨m,hm,hp⟩
  obtain⟨j,E,rfl⟩:=zA hm;rw[zM,beq_iff_eq,beq_iff_eq]at hp;refine⟨j,E,?_⟩;rw[<- hp.1,<- hp.2]
 .rintro ⟨j,E,e⟩
  exact⟨_,zu E,by rw[e];simp⟩
noncomputable def UF(y:BZ)(al:List Bool)(to:Int)(i:Nat):Int:=if 0<=to/\to<(y.aI.length:Int)then dst (Ea y) (Dk al) to.toNat i else -1
theorem abB{y:BZ}{al:List Bool}{to:Int}(h:¬(0<=to/\to<(y.aI.length:Int)/\Dk al to.toNat=true))(i:Nat):UF y al to i= -1:=by
 unfold UF
 split
 .rename_i c
  refine aiu fun k E=>h ⟨c.1,c.2,E.lst⟩
 .rfl
theorem O9{n:Nat}{f g:Nat->Int}(h:∀i,i<n->f i=g i):DC n f=DC n g:=xM fun i hi=>h i (by simpa using hi)
theorem abC(n:Nat)(v:Int):DC n (fun _=>v)=List.replicate n v:=by
 unfold DC;refine yQ (by simp) fun i E G=>by simp
theorem Zy(l:List Nat):(AB l).length=l.length:=by simp[AB]
theorem Zz(l:List Nat){p:Nat}(h:p<l.length):AB (l.drop p)=(l[p]:Int) :: AB (l.drop (p+1)):=by
 rw[yS h];rfl
theorem aiY{y:BZ}{al:List Bool}{t:Nat}{all:List Nat}{p:Nat}{out:Nat->Int}(h:XQ (Ea y) (Dk al) t all p out)(hp:all.length<=p)(E:t<y.aI.length):DC y.aI.length out=DC y.aI.length (UF y al (t:Int)) :=
 O9 fun i _=>by
  unfold UF;rw[sO (by omega),zF];exact(h.fin hp i).symm
theorem aqo(y:BZ)(hg:AU y)(i4:y.aI.length≠0)(to:Int)(al:List Bool)(i5:al.length=y.aI.length) :
  fn ZM Cb D7 30 [.tp (Cj y) 0,I to,LL D8 al]=some (LI (DC y.aI.length (UF y al to))):=by
 have PI:=hg.1;have i6:=hg.2.1;obtain⟨n,en⟩:∃n,n=y.aI.length:=⟨_,rfl⟩;obtain⟨S,qI,k1,h3,s1⟩:=aiX n (by omega) (by omega) 1;have o1:Own S 1 (.rs 1 0 n) (LI (List.replicate n (-1))) [1]:=by
  have:=iM (d:=0) s1 (st:=1) (by simp)
  rwa [yU]at this
 have g1:=fun d=>o1.gather (d':=d+1) (by omega)
 have j1:∀σ,Ce 1 σ S [1] 1=S 1:=fun σ=>jr (by omega) (by simp)
 rw[mJ,nC [.tmp 6] [12] func30];have fin:∀(σ:Store) (out:Nat->Int) (d:Nat),σ 1=some ⟨(DC n out).flatMap cI,1,true⟩->strip σ (d+1) (.rs 1 0 n)=some (LI (DC n out),[1]):=fun σ out d h=>kJ h (jm n out) d
 rw[<- abC]at s1;have s2:∀σ,Ce 1 σ S [1] 1=some ⟨(DC n (fun _=> -1)).flatMap cI,1,true⟩:=fun σ=>(j1 σ).trans s1
 rw[<- en];have no:(∀i,UF y al to i= -1)->some (LI (DC n (fun _=> -1)))=some (LI (DC n (UF y al to))):=fun h=>by rw[O9 (f:=fun _=> -1) (g:=UF y al to) (fun i _=>(h i).symm)]
 by_cases c1:to<0
 .rw[<- no fun i=>abB (fun h=>by omega) i]
  have f0:=fun σ d=>fin (Ce 1 σ S [1]) (fun _=> -1) d (s2 σ)
  simp only[go_sem,<- en,k1,g1,s2,c1,f0]
 by_cases c2:(n:Int)<=to
 .rw[<- no fun i=>abB (fun h=>by omega) i]
  have f0:=fun σ d=>fin (Ce 1 σ S [1]) (fun _=> -1) d (s2 σ)
  simp only[go_sem,<- en,k1,g1,s2,c1,c2,f0]
 obtain⟨t,rfl⟩:∃t:Nat,to=(t:Int):=⟨to.toNat,by omega⟩;have ht:t<n:=by omega
 have d1:(t:Int)<(n:Int):=by omega
 have d2:=jF t;have a6:t<al.length:=by omega
 have d3:(al.flatMap D8)[t]?=some (Bo (Dk al t)):=by rw[rH a6];exact cu (fun b=>Bo b) al t a6
 have d4:=Ht al;have d5:=ahp al t a6;have d6:(t:Int)<(al.length:Int):=by omega
 cases b4:Dk al t with
 |false=>
  rw[b4]at d3;rw[<- no fun i=>abB (fun h=>by rw[zF]at h;rw[b4]at h;cases h.2.2) i];have f0:=fun σ d=>fin (Ce 1 σ S [1]) (fun _=> -1) d (s2 σ)
  simp only[go_sem,<- en,k1,g1,s2,c1,c2,d1,d2,d3,d4,d5,d6,a6,f0]
 |true=>
  rw[b4]at d3;have e1:=MX (n:=n) (fun _=> -1) ht;have e2:=X9 (n:=n) (fun _=> -1) t 0;have e3:((DC n fun _=>(-1:Int)).flatMap cI).length=n:=by rw[qN,jm]
  have nz:¬qI=1:=by omega
  have h4:¬1=qI:=by omega
  have nl:1<qI:=h3;simp only[go_sem,<- en,k1,g1,s2,c1,c2,d1,d2,d3,d4,d5,d6,a6,e1,e2,e3,ht,nz,h4,nl];generalize hL:iI _ _=w
  obtain⟨x,rfl,T,σ,nx,rfl,t7,out,hs,c9⟩:=jS hL (fun m st=>st.T 0= .tp (Cj y) 0/\st.T 2=LL D8 al/\st.T 7= .rs 1 0 n/\1<st.nx/\∃all p out,XQ (Ea y) (Dk al) t all p out/\p<=all.length/\m+p=n/\st.σ 1=some ⟨(DC n out).flatMap cI,1,true⟩ /\
    ((p=all.length/\st.T 8= .ts [] 0)\/(p<all.length/\DV st.T st.σ st.nx 8 1 (AB (all.drop p)))))
   (fun x=>∃T σ nx,x=(.exit 0,⟨T,σ,nx⟩)/\T 7= .rs 1 0 n/\∃out,σ 1=some ⟨(DC n out).flatMap cI,1,true⟩/\DC n out=DC n (UF y al (t:Int))) (by
    clear hL;rintro m ⟨T,σ,nx⟩ ⟨t0,t2,t7,Y,all,p,out,hB,hp,hm,hs,hq⟩;simp only at t0 t2 t7 Y hs hq;rcases hq with ⟨rfl,t8⟩|⟨hp,hq⟩
    .refine .inr ⟨_,by simp only[go_sem,t8];rfl,by simp,_,_,_,rfl,by simp only[go_sem,t7],out,hs,?_⟩
     rw[en];exact aiY hB (zq _) (by omega)
    .have h5:=hB.bound (n:=n) fun i hi=>by have:=rG hi;omega
     obtain⟨h,eh⟩:∃h,h=all[p]:=⟨_,rfl⟩;have a7:=hq;rw[Zz all hp,<- eh]at a7;obtain⟨b,off,cells,q1,q2,q3,q4,q5,q6⟩:=a7;have q7:=O8 q4;have p1:((h:Int) :: AB (all.drop (p+1))).length=all.length-p:=by rw[zV,Zy,zC];omega
     rw[p1]at q1;have p2:(0:Int)<((all.length-p:Nat):Int):=by omega
     refine bD ?_
     conv=>
      enter [1,r,1,1]
      simp only[go_sem,t0,t2,t7,q1,p2]
     generalize hL:iI _ _=w
     obtain⟨r,rfl,T1,σ',nx',rfl,t0,t2,t7,e0,E,b9,e4,e5,e6,e7,h6,c3⟩:=oZ hL y.moves.length (fun j st=>st.T 0= .tp (Cj y) 0/\st.T 2=LL D8 al/\st.T 7= .rs 1 0 n/\st.T 47=LL Dp y.moves/\st.T 48=I y.moves.length/\st.T 49=I j/\1<st.nx /\
       ∃all out,XQ (Ea y) (Dk al) t all p out/\∃hp:p<all.length,h=all[p]/\st.σ 1=some ⟨(DC n out).flatMap cI,1,true⟩/\DV st.T st.σ st.nx 8 1 (AB (all.drop p))/\∀i (hi:i<y.moves.length),i<j->∀a:Nat,y.moves[i]=⟨(a:Int),(h:Int)⟩->Dk al a=true->a∈all)
      (fun r=>∃T σ nx,r=(.exit 2,⟨T,σ,nx⟩)/\T 0= .tp (Cj y) 0/\T 2=LL D8 al/\T 7= .rs 1 0 n/\1<nx /\
       ∃all out,XQ (Ea y) (Dk al) t all p out/\∃hp:p<all.length,h=all[p]/\σ 1=some ⟨(DC n out).flatMap cI,1,true⟩/\DV T σ nx 8 1 (AB (all.drop p))/\∀i (hi:i<y.moves.length),∀a:Nat,y.moves[i]=⟨(a:Int),(h:Int)⟩->Dk al a=true->a∈all) (by
       clear hL;rintro j ⟨T,σ,nx⟩ hj ⟨t0,t2,t7,t47,t48,t49,Y,all,out,hB,hp,eh,hs,hq,hd⟩;simp only at t0 t2 t7 t47 t48 t49 Y hs hq;have h5:=hB.bound (n:=n) fun i hi=>by have:=rG hi;omega
       obtain⟨a,c,e,ha,hc⟩:=amy hg hj;rw[<- en]at ha hc;have a7:=hq;rw[Zz all hp,<- eh]at a7;obtain⟨b,off,cells,q1,q2,q3,q4,q5,q6⟩:=a7;have q7:=O8 q4;have p1:((h:Int) :: AB (all.drop (p+1))).length=all.length-p:=by rw[zV,Zy,zC];omega
       rw[p1]at q1;have p2:(0:Int)<((all.length-p:Nat):Int):=by omega
       have p3:0<all.length-p:=by omega
       have p4:(0:Int)<=0:=by omega
       have p5:(0:Int).toNat=0:=rfl;have f1:(j:Int)<(y.moves.length:Int):=by omega
       have f2:=jF j;have f3:=ZU (n:=(j:Int)+1);have f4:=akQ y.moves j hj;rw[e]at f4;have f5:=ace y.moves;have f6:j*2+2<=y.moves.length*2:=by omega
       have f9:=acd y.moves j hj;obtain⟨GL,Ya⟩:∃GL,GL=upd σ nx (some ⟨Dp ⟨(a:Int),(c:Int)⟩,0,true⟩):=⟨_,rfl⟩;have b0:GL nx=some ⟨Dp ⟨(a:Int),(c:Int)⟩,0,true⟩:=by rw[Ya,Zj]
       have b1:GL 1=some ⟨(DC n out).flatMap cI,1,true⟩:=by rw[Ya,Zm];exact hs
       have b2:GL b=some ⟨cells.flatMap cI,1,true⟩:=by rw[Ya,Zm];exact q2
       have z1:b<nx+1:=by omega
       have z2:nx<nx+1:=by omega
       have z3:1<nx+1:=by omega
       have ic:(c:Int)<(n:Int):=by omega
       have c4:=jF c;have ia:(a:Int)<(n:Int):=by omega
       have c5:=jF a;have c6:(a:Int)<(al.length:Int):=by omega
       have a1:a<al.length:=by omega
       have la:=MX out ha;have lc:=MX out hc;have ll:((DC n out).flatMap cI).length=n:=by rw[qN,jm]
       have v3:(al.flatMap D8)[a]?=some (Bo (Dk al a)):=by rw[rH a1];exact cu (fun b=>Bo b) al a a1
       have v4:=Ht al;have v5:=ahp al a a1;have b5:DV T GL (nx+1) 8 1 (AB (all.drop p)):=by rw[Ya];exact X_ hq _
       by_cases b6:c=h
       .have c1:((c:Int)==(h:Int))=true:=by simp[b6]
        have ea:∀(a':Nat),y.moves[j]=⟨(a':Int),(h:Int)⟩->a'=a:=fun a' e'=>by
         rw[e]at e';simp only[TV.Move.mk.injEq]at e';omega
        cases b7:Dk al a with
        |false=>
         rw[b7]at v3;refine .inl ⟨_,by simp only[go_sem,t0,t2,t7,t47,t48,t49,f1,f2,f3,f4,f5,f6,f9,<- Ya,b0,b1,b2,q1,q7,z1,z2,z3,p2,p3,p4,p5,c1,ic,c4,ia,c5,c6,a1,ha,hc,v3,v4,v5,la,lc];rfl,?_⟩;simp only[go_sem,t0,t2,t7,t47,t48];refine⟨rfl,by omega,all,out,hB,hp,eh,b1,gK b5 (by simp only[go_sem]) (zq _),fun i hi c7 a' e' J=>?_⟩
         by_cases O:i=j
         .subst O
          rw[ea a' e',b7]at J;cases J
         .exact hd i hi (by omega) a' e' J
        |true=>
         rw[b7]at v3
         by_cases hm:a∈all
         .have o1:¬out a<0:=fun h7=>(hB.lo a).mp h7 hm
          refine .inl ⟨_,by simp only[go_sem,t0,t2,t7,t47,t48,t49,f1,f2,f3,f4,f5,f6,f9,<- Ya,b0,b1,b2,q1,q7,z1,z2,z3,p2,p3,p4,p5,c1,ic,c4,ia,c5,c6,a1,ha,hc,v3,v4,v5,la,lc,o1];rfl,?_⟩;simp only[go_sem,t0,t2,t7,t47,t48];refine⟨rfl,by omega,all,out,hB,hp,eh,b1,gK b5 (by simp only[go_sem]) (zq _),fun i hi c7 a' e' J=>?_⟩
          by_cases O:i=j
          .subst O
           rw[ea a' e'];exact hm
          .exact hd i hi (by omega) a' e' J
         .have o1:out a<0:=(hB.lo a).mpr hm
          have h8:Ea y a all[p]=true:=by
           rw[<- eh];exact(ac8 y a h).mpr ⟨j,hj,by rw[e,b6]⟩
          have a8:=hB.add hp hm b7 h8;rw[<- eh,<- b6]at a8;have oc:0<=out c/\out c<10:=by
           have e8:c∈all:=by rw[b6,eh];exact zu hp
           obtain⟨kk,i7,_⟩:=hB.way c e8;have:=hB.bnd c e8;omega
          have w4:=ZU (n:=out c+1);have st:=X9 (n:=n) out a (out c+1);obtain⟨σ2,FY⟩:∃σ2,σ2=upd GL 1 (some ⟨(DC n (put out a (out c+1))).flatMap cI,1,true⟩):=⟨_,rfl⟩;have b8:DV T σ2 (nx+1) 8 1 (AB (all.drop p)):=by rw[FY];exact afs b5 _
          have b3:σ2 nx=some ⟨Dp ⟨(a:Int),(c:Int)⟩,0,true⟩:=by rw[FY,Zm];exact b0
          obtain⟨i9,c8,h9,i0⟩:=UE b8 (by omega) (a:Int) (by rw[Zy,zC];omega);rw[Zy,zC]at c8;rw[q1]at c8;refine .inl ⟨_,by simp only[go_sem,t0,t2,t7,t47,t48,t49,f1,f2,f3,f4,f5,f6,f9,<- Ya,b0,b1,b2,q1,q7,z1,z2,z3,p2,p3,p4,p5,c1,ic,c4,ia,c5,c6,a1,ha,hc,v3,v4,v5,la,lc,ll,o1,w4,st,<- FY,b3,c8];rfl,?_⟩;simp only[go_sem,t0,t2,t7,t47,t48];have i1:p<(all++[a]).length:=by rw[zo];omega
          refine⟨rfl,by omega,all++[a],_,a8,i1,by rw[yO hp];exact eh,?_,?_,fun i hi c7 a' e' J=>?_⟩
          .rw[i0,FY,Zj]
          .have ed:AB ((all++[a]).drop p)=AB (all.drop p)++[(a:Int)]:=by
            rw[ug (by omega)];simp[AB]
           rw[ed];refine Rz (b:=nx+1+1) ?_ h9 (by omega) (by omega);rw[zo,Zy,zC];simp only[go_sem]
          .by_cases O:i=j
           .subst O
            rw[ea a' e'];simp
           .exact z_ _ (hd i hi (by omega) a' e' J)
       .have c1:((c:Int)==(h:Int))=false:=by rw[sN];omega
        refine .inl ⟨_,by simp only[go_sem,t0,t2,t7,t47,t48,t49,f1,f2,f3,f4,f5,f6,f9,<- Ya,b0,b1,b2,q1,q7,z1,z2,z3,p2,p3,p4,p5,c1];rfl,?_⟩;simp only[go_sem,t0,t2,t7,t47,t48];refine⟨rfl,by omega,all,out,hB,hp,eh,b1,gK b5 (by simp only[go_sem]) (zq _),fun i hi c7 a' e' J=>?_⟩
        by_cases O:i=j
        .subst O
         rw[e]at e';simp only[TV.Move.mk.injEq]at e';omega
        .exact hd i hi (by omega) a' e' J) (by
       clear hL;rintro ⟨T,σ,nx⟩ ⟨t0,t2,t7,t47,t48,t49,Y,all,out,hB,hp,eh,hs,hq,hd⟩;simp only at t0 t2 t7 t47 t48 t49 Y hs hq;refine⟨_,by simp only[go_sem,t48,t49,zi];rfl,by simp,_,_,_,rfl,by simp only[go_sem,t0],by simp only[go_sem,t2],by simp only[go_sem,t7],Y,all,out,hB,hp,eh,hs,gK hq (by simp only[go_sem]) (zq _),fun i hi=>hd i hi hi⟩) (by
       simp only[go_sem,t0,t2,t7];exact⟨Y,all,out,hB,hp,eh,hs,gK hq (by simp only[go_sem]) (zq _),fun i hi h0=>absurd h0 (zW _)⟩)
     have a8:=e4.next e5 fun i hi i2=>by
      obtain⟨j,hj,ej⟩:=(ac8 y i E[p]).mp i2;exact c3 j hj i (by rw[ej,e6]) hi
     have j0:=e4.bound (n:=n) fun i hi=>by have:=rG hi;omega
     have b8:=h6;rw[Zz E e5,<- e6]at b8;obtain⟨b',c0,G,r1,r2,r3,r4,r5,r6⟩:=b8;have i3:((h:Int) :: AB (E.drop (p+1))).length=E.length-p:=by rw[zV,Zy,zC];omega
     rw[i3]at r1 r3;have r7:((G.flatMap cI)).length=G.length:=qN _;have r8:c0+(E.length-p)<=G.length:=by omega
     have r9:1<=E.length-p:=by omega
     have e9:¬(1:Nat)=0:=by decide
     have h1:(0:Int)<=1:=by decide
     have h2:(1:Int).toNat=1:=rfl
     by_cases hl:E.length-p=1
     .rw[hl]at r1 r8
      refine⟨_,by simp only[go_sem,r1,r2,r7,r8,e9,h1,h2,zq];rfl,.inl ⟨_,rfl,m-1,by omega,?_⟩⟩;simp only[go_sem,t0,t2,t7];exact⟨e0,E,p+1,b9,a8,by omega,by omega,e7,.inl (by omega)⟩
     .have J:¬1=E.length-p:=fun e=>hl e.symm
      refine⟨_,by simp only[go_sem,r1,r2,r7,r8,r9,e9,h1,h2,J];rfl,.inl ⟨_,rfl,m-1,by omega,?_⟩⟩;simp only[go_sem,t0,t2,t7];refine⟨e0,E,p+1,b9,a8,by omega,by omega,e7,.inr ⟨by omega,b',c0+1,G,?_,r2,?_,abA r4,r5,r6⟩⟩
      .simp only[go_sem]
       rw[Zy,zC];congr 1
      .rw[Zy,zC];omega) n (by
    simp only[go_sem];refine⟨by omega,[t],0,_,afm b4,by simp,by omega,?_,.inr ⟨by simp,?_⟩⟩
    .rw[Zm,Zj]
    .refine Rz (b:=qI) (by simp only[go_sem];rfl) ?_ (by omega) (by omega)
     simp only[go_sem];rfl)
  have f0:=fun d=>fin σ out d hs
  simp only[go_sem,t7,f0,c9]
def del(s:Structure)(k:Nat):Structure:=⟨s.bI,s.members.eraseIdx k⟩
theorem o_{α:Type}(l:List α)(k:Nat):(l.eraseIdx k).length<=l.length:=List.length_eraseIdx_le l k
theorem aqp{s:Structure}(h:Bf s)(k:Nat):Bf (del s k) :=
 ⟨h.1,zL (o_ _ _) h.2.1,h.2.2.1,fun m hm=>h.2.2.2 m (uo hm)⟩
theorem amA{s:Structure}(h:Aj s)(k:Nat):Aj (del s k) :=
 ⟨h.1,fun m hm=>h.2.1 m (uo hm),zL (zD _ (o_ _ _)) h.2.2.1,zL (o_ _ _) h.2.2.2⟩
theorem aft{n k:Nat}{w:List Int}(h:Dx n w)(E:k<n):Dx (n-1) (w.eraseIdx k) :=
 ⟨by rw[yH (by rw[h.1];exact E),h.1],fun x G=>h.2 x (uo G)⟩
def FM(ms:List Member)(k j:Nat):List Member:=(ms.take j).eraseIdx k
theorem aiZ{ms:List Member}{k j:Nat}(E:j<ms.length)(h:j≠k):FM ms k (j+1)=FM ms k j++[ms[j]]:=by
 unfold FM;rw[aJ E];have G:(ms.take j).length=j:=by rw[zh];omega
 by_cases J:k<j
 .rw[List.eraseIdx_append_of_lt_length (by omega)]
 .have O:[ms[j]].eraseIdx (k - (ms.take j).length)=[ms[j]]:=List.eraseIdx_of_length_le (by rw[G,yV];omega)
  have S:(ms.take j).eraseIdx k=ms.take j:=List.eraseIdx_of_length_le (by omega);rw[List.eraseIdx_append_of_length_le (by omega),O,S]
theorem amB{ms:List Member}{k:Nat}(E:k<ms.length):FM ms k (k+1)=FM ms k k:=by
 unfold FM;have G:(ms.take k).length=k:=by rw[zh];omega
 have J:(ms.take k).eraseIdx k=ms.take k:=List.eraseIdx_of_length_le (by omega);rw[aJ E,List.eraseIdx_append_of_length_le (by omega),G,yM,J];simp
theorem ai0(ms:List Member)(k j:Nat):(FM ms k j).length<=j:=by
 unfold FM;have:=o_ (ms.take j) k;rw[zh]at this;omega
theorem Yb(σ:Store)(d:Nat):∀ {cells:List V},(cells.all akI)=true->EG (own σ d) cells=some (cells,[])
 |[],_=>rfl
 |v :: cells,h=>by
  rw[vY,zM]at h;unfold EG;rw[Yb σ d h.2];cases v<;>first|(cases d<;>rfl)|cases h.1
theorem afu(js:List Dn):((js.flatMap Af).all akI)=true:=by
 induction js with
 |nil=>rfl
 |cons j js E=>exact E
theorem Yc(js:List Dn):((js.flatMap Af).all vI)=true:=by
 induction js with
 |nil=>rfl
 |cons j js E=>exact E
theorem amC(js:List Dn)(h:js.length<=1000000)(nx:Nat):∃v E G ids,Ic 4 [LL Af js] pI nx=some (v,E,G)/\nx<=G/\Own E 1 v (LL Af js) ids/\∀b∈ids,nx<=b/\b<G:=by
 have J:=Gu js;have e:Ic 4 [LL Af js] pI nx=if js.length=0 then some (.nil,pI,nx)else some (.rs nx 0 js.length,Au pI nx (js.flatMap Af) 4,nx+1):=by
  show(if(js.flatMap Af).length=js.length*4/\js.length<=1000000/\_ then _ else _)=_;rw[sO ⟨J,h,Yc js⟩]
 rw[e]
 by_cases O:js.length=0
 .have:js=[]:=zZ O
  subst this;exact⟨.nil,pI,nx,[],rfl,zq _,iO _ _,by simp⟩
 .rw[sQ O]
  refine⟨_,_,_,[nx],rfl,by omega,⟨?_,by simp⟩,by simp⟩;have S:=Yb (Au pI nx (js.flatMap Af) 4) 0 (afu js);simp only[own,Au,Zj]at S⊢;rw[sO ⟨trivial,trivial,J.symm⟩,S]
theorem Yd{σ:Store}{d:Nat}{α:Type}{c:α->List V}{v:V}{xs:List α}{ids:List Nat}(h:Own σ (d+1) v (LL c xs) ids):vI v=true:=by
 obtain⟨h,_⟩:=h;cases v<;>simp only[own]at h<;>first|rfl|(cases h;done)|(split at h<;>simp at h)
theorem afv(s:Structure)(hj:s.bI.length<=1000000)(hm:s.members.length<=1000)(k:Nat)(hk:k<s.members.length)(E:Nat):∃v w σ' nx' a8,ev ZM Cb D7 62 [.agg (jI s),.ts [I k] 1] pI E=some (.agg [v,w],σ',nx')/\E<=nx'/\Own σ' 2 (.agg [v,w]) (.agg (jI (del s k))) a8/\∀b∈a8,E<=b/\b<nx':=by
 obtain⟨v,b4,G,ids,k1,c6,o1,J⟩:=amC s.bI hj (E+1+1);have g1:=fun d=>o1.gather (d':=d+1) (by omega)
 have c1:=Yd o1;have c2:=pW c1;obtain⟨Jw,ea⟩:∃Jw,Jw=Ce (E+1+1) (upd (upd pI E (some ⟨jI s,0,true⟩)) (E+1) (some ⟨[.nil,.nil],0,true⟩)) b4 ids:=⟨_,rfl⟩;have oa:Own Jw 1 v (LL Af s.bI) ids:=by rw[ea];exact o1.join fun b hb=>(J b hb).1
 have a0:Jw E=some ⟨jI s,0,true⟩:=by rw[ea,jq (by omega),Zm,Zj]
 have a1:Jw (E+1)=some ⟨[.nil,.nil],0,true⟩:=by rw[ea,jq (by omega),Zj]
 rw[nC [.cell 4 41] [] func62];have n0:¬G=E:=by omega
 have b5:¬E=G:=by omega
 have n2:¬G=E+1:=by omega
 have b2:¬E+1=G:=by omega
 have nb:¬E=E+1:=by omega
 have b6:¬E+1=E:=by omega
 simp only[go_sem,k1,g1,c1,c2,<- ea,a0,a1,n0,b5,n2,b2,nb,b6];generalize hL:iI _ _=y;obtain⟨x,rfl,T,σ,nx,rfl,c7,t4,t5,w,h1,O,o2,Y,hw⟩:=oZ hL s.members.length (fun j st=>st.T 1= .ts [I k] 1/\st.T 4= .rp (E+1) 0/\st.T 5= .rp G 0/\st.T 13=LL Ac s.members/\st.T 14=I s.members.length/\st.T 15=I j/\G<st.nx/\∃w,st.σ (E+1)=some ⟨[.nil,.nil],0,true⟩/\st.σ G=some ⟨[v,w],0,true⟩/\Own st.σ 1 v (LL Af s.bI) ids/\CG Ac 3 (fun _=>w) st.σ st.nx 0 (FM s.members k j)/\∀b o l,w= .rs b o l->G<b)
  (fun x=>∃T σ nx,x=(.exit 0,⟨T,σ,nx⟩)/\G<nx/\T 4= .rp (E+1) 0/\T 5= .rp G 0/\∃w,σ (E+1)=some ⟨[.nil,.nil],0,true⟩/\σ G=some ⟨[v,w],0,true⟩/\Own σ 1 v (LL Af s.bI) ids/\CG Ac 3 (fun _=>w) σ nx 0 (FM s.members k s.members.length)/\∀b o l,w= .rs b o l->G<b) (by
   clear hL;rintro j ⟨T,σ,nx⟩ hj ⟨t1,t4,t5,t13,t14,t15,S,w,h1,O,o2,Y,hw⟩;simp only at t1 t4 t5 t13 t14 t15 S h1 O o2 Y;have f1:(j:Int)<(s.members.length:Int):=by omega
   have f2:=jF j;have f3:=ZU (n:=(j:Int)+1);have f4:=Tf s.members j hj;have f5:=IG s.members;have f6:j*3+3<=s.members.length*3:=by omega
   have f9:=Ti s.members j hj;have k2:=apD [(k:Int)] (j:Int) (by simp);have hle:=ai0 s.members k j;have z1:¬G=nx:=by omega
   have z2:¬nx=G:=by omega
   have z3:¬E+1=nx:=by omega
   have o3:=fun x=>(Own.upd (σ:=σ) (d:=1) (v:=v) (t:=LL Af s.bI) (ids:=ids) (c:=nx) (x:=x) (fun hb=>by have:=(J nx hb).2;omega)).symm ▸ o2
   obtain⟨m1,em⟩:∃m1,m1=s.members[j]:=⟨_,rfl⟩;rw[<- em]at f4
   by_cases a6:j=k
   .have km:decide ((j:Int)∈[(k:Int)])=true:=by rw[a6];simp
    rw[km]at k2;have a7:fn ZM conv ext 102 [.ts [I k] 1,I j]=some (Bo true):=k2
    refine .inl ⟨_,by simp only[go_sem,t1,t4,t5,t13,t14,t15,f1,f2,f3,f4,f5,f6,f9,hj,a7];rfl,?_⟩;simp only[go_sem,t1,t4,t5,t13,t14,z1,z2,z3,h1,O];have ek:FM s.members k (j+1)=FM s.members k j:=by subst a6;exact amB hj
    rw[ek];exact⟨rfl,by omega,w,rfl,o3 _,lC Y _,hw⟩
   .have km:decide ((j:Int)∈[(k:Int)])=false:=by simp;omega
    rw[km]at k2;have a7:fn ZM conv ext 102 [.ts [I k] 1,I j]=some (Bo false):=k2
    have b7:=lC Y (some ⟨Ac m1,0,true⟩);obtain⟨σ',ha,hs,b8⟩:=ku (c:=Ac) (s:=3) (bytes:=24) (fun _=>rfl) (fun _=>rfl) (by decide) b7 m1 (by omega) (by decide);have y1:∀q,q<nx->(∀b o l,w= .rs b o l->q≠b)->σ' q=σ q:=fun q hq b9=>by
     rw[b8 q (by omega) (fun b o l h=>b9 b o l h),Zm]
    have y2:σ' G=some ⟨[v,w],0,true⟩:=by rw[y1 G S (fun b o l h e=>by have:=hw b o l h;omega)];exact O
    have y3:σ' (E+1)=some ⟨[.nil,.nil],0,true⟩:=by rw[y1 (E+1) (by omega) (fun b o l h e=>by have:=hw b o l h;omega)];exact h1
    have o4:Own σ' 1 v (LL Af s.bI) ids:=o2.frame fun q hq=>y1 q (by have:=(J q hq).2;omega) (fun b o l h e=>by have:=hw b o l h;have:=(J q hq).2;omega)
    refine .inl ⟨_,by simp only[go_sem,t1,t4,t5,t13,t14,t15,f1,f2,f3,f4,f5,f6,f9,hj,a7,z1,z2,z3,O,ha,y2];rfl,?_⟩;simp only[go_sem,t1,t4,t5,t13,t14];rw[aiZ hj a6,<- em];refine⟨rfl,by omega,_,?_,rfl,?_,?_,?_⟩
    .rw[Zm];exact y3
    .exact(Own.upd (fun hb=>by have:=(J G hb).2;omega)).symm ▸ o4
    .refine .inr ⟨nx+1+1,by rw[zo];rfl,by simp,?_,by omega⟩
     rw[Zm];exact hs
    .intro b o l hb
     cases hb;omega) (by
   clear hL;rintro ⟨T,σ,nx⟩ ⟨t1,t4,t5,t13,t14,t15,S,w,h1,O,o2,Y,hw⟩;simp only at t1 t4 t5 t13 t14 t15 S h1 O o2 Y;exact⟨_,by simp only[go_sem,t14,t15,zi];rfl,by simp,_,_,_,rfl,S,by simp only[go_sem,t4],by simp only[go_sem,t5],w,h1,O,o2,Y,hw⟩) (by
   simp only[go_sem,n2,b2,a1];exact⟨by omega,_,rfl,(Own.upd (c:=G) (fun hb=>by have:=(J _ hb).2;omega)).symm ▸ oa,.inl ⟨rfl,rfl⟩,fun b o l h=>by cases h⟩)
 have ek:FM s.members k s.members.length=(del s k).members:=by
  unfold FM del;rw[yT]
 rw[ek]at Y;have z3:¬E+1=G:=by omega
 have cw:vI w=true:=by
  rcases Y with ⟨a,_⟩|⟨b,a,_⟩
  .have a:w= .nil:=a
   rw[a];rfl
  .have a:w= .rs b 0 _:=a
   rw[a];rfl
 have ow:∃is,EG (own (upd σ (E+1) (some ⟨[v,w],0,true⟩)) 1) [w]=some ([LL Ac (del s k).members],is)/\is.Nodup/\∀q∈is,G<q/\q<nx:=by
  rcases Y with ⟨a,b⟩|⟨b,a1,a2,a3,a4⟩
  .have a:w= .nil:=a
   rw[a,b];exact⟨[],rfl,by simp,by simp⟩
  .have a1:w= .rs b 0 _:=a1
   have hb:=hw _ _ _ a1;subst a1;have h2:=aho (d:=0) (σ:=upd σ (E+1) (some ⟨[v,.rs b 0 (del s k).members.length],0,true⟩)) (b:=b) (s:=3) (c:=Ac) (xs:=(del s k).members) (by rw[Zm];exact a3) (fun _=>rfl) aeP;exact⟨[b],by simp only[EG,h2];rfl,by simp,fun q hq=>by rw[List.mem_singleton.mp hq];exact⟨hb,a4⟩⟩
 obtain⟨is,c0,c3,b3⟩:=ow;have c4:own (upd σ (E+1) (some ⟨[v,w],0,true⟩)) 1 v=some (LL Af s.bI,ids):=by
  have:=((Own.upd (σ:=σ) (d:=1) (v:=v) (t:=LL Af s.bI) (ids:=ids) (c:=E+1) (x:=some ⟨[v,w],0,true⟩) (fun hb=>by have:=(J (E+1) hb).1;omega)).symm ▸ o2);exact this.1
 have hO:Own (upd σ (E+1) (some ⟨[v,w],0,true⟩)) 2 (.agg [v,w]) (.agg (jI (del s k))) (ids++is):=by
  refine⟨?_,?_⟩
  .unfold own
   have c5:EG (own (upd σ (E+1) (some ⟨[v,w],0,true⟩)) 1) [v,w]=some ([LL Af s.bI,LL Ac (del s k).members],ids++is):=by
    unfold EG;rw[c4,c0]
   simp only[c5];rfl
  .rw[List.nodup_append]
   exact⟨o2.2,c3,fun a ha b hb e=>by have h1:=(J a ha).2;have h2:=(b3 b hb).1;omega⟩
 simp only[go_sem,t4,t5,h1,O,z3,c1,cw];exact⟨v,w,_,nx,ids++is,rfl,by omega,hO,fun q hq=>by
  rcases List.mem_append.mp hq with h|h
  .have:=J q h;omega
  .have:=b3 q h;omega⟩
theorem jP(xs:List Int):xs.flatMap cI=xs.map I:=by
 induction xs with
 |nil=>rfl
 |cons x xs E=>show I x :: xs.flatMap cI=_;rw[E];rfl
theorem Ye(xs:List Int)(k:Nat):(xs.flatMap cI).eraseIdx k=(xs.eraseIdx k).flatMap cI:=by rw[jP,jP,jO]
theorem RD{σ:Store}{b:Nat}{xs:List Int}{ex:List V}{n:Nat}(h:σ b=some ⟨xs.flatMap cI++ex,1,true⟩)(hn:xs.length=n)(d:Nat):strip σ (d+1) (.rs b 0 n)=some (LI xs,[b]):=by
 rw[aS,h];simp only[zk,yN,yZ,yg];rw[sO (by rw[zo,qN];omega),xG (by rw[qN,hn]),Dt];show some (V.ts _ n,[b])=_;rw[<- hn]
theorem Yf{P:Program}{σ:Store}{t:TypeId}{b off len:Nat}{lo hi E:V}(h:(xI P t).slice=true)(G:(xI P t).SA=true):AY P t (.rs b off len) (some lo) (some hi) (some E) σ=(bnd (some lo) 0).bind fun l=>(bnd (some hi) 0).bind fun h=>(bnd (some E) 0).bind fun m=>if l<=h/\h<=m/\m<=len then some .junk else none:=by
 obtain⟨e,Y,z,J,O,h3,h4,S,h6,h7⟩:=Zn h G;unfold AY;simp only[J,O,S];cases bnd (some lo) 0<;>cases bnd (some hi) 0<;>cases bnd (some E) 0<;>rfl
attribute [go_sem] Yf
theorem amD{σ:Store}{nx b:Nat}{w:List Int}{n k:Nat}(hb:σ b=some ⟨w.flatMap cI,1,true⟩)(J:b<nx)(hw:w.length=n)(hn:n<=1000)(hk:k<n) :
  ∃σ',ev ZM Cb D7 63 [.rs b 0 n,I k,I ((k:Int)+1)] σ nx=some (.rs b 0 (n-1),σ',nx)/\(∃ex,σ' b=some ⟨(w.eraseIdx k).flatMap cI++ex,1,true⟩)/\∀c,c≠b->σ' c=σ c:=by
 have G:(w.flatMap cI).length=n:=by rw[qN,hw]
 have e1:((k:Int)==(k:Int)+1)=false:=by rw[sN];omega
 have i0:=jF k;have i1:(0:Int)<=(k:Int)+1:=by omega
 have i2:((k:Int)+1).toNat=k+1:=by omega
 have i3:k<=k+1:=by omega
 have i4:k+1<=n:=hk;have i5:¬k+1=0:=by omega
 have i6:k<=n:=by omega
 have i7:=jF n;rw[nC [.tmp 6] [5] func63];have O:¬n=0:=by omega
 have z1:∀(c:Nat) (x:Option Fv),c≠b->upd σ b x c=σ c:=fun c x h=>Zk _ _ h
 by_cases E:k+1=n
 .have m1:n-1=k:=by omega
  have m3:n-k=1:=by omega
  have a1:¬k=n:=by omega
  have ha:=ah7 (restrict σ [b]) nx 1 8 b 0 k [] (B:=⟨w.flatMap cI,1,true⟩) (by rw[fM];exact hb);have le:∃ex,patch (w.flatMap cI) k [I 0]=(w.eraseIdx k).flatMap cI++ex:=by
   rw[iH _ _ _ (by rw[G];simp;omega),<- Ye,tN,yA (l:=w.flatMap cI) (i:=k+1) (by omega),zH,yw];exact⟨_,rfl⟩
  by_cases S:k=0
  .have a6:(k=0)=True:=eq_true S
   have hr:rep n [I 0]=[I 0]:=by
    have:n=1:=by omega
    rw[this];rfl
   have a8:0+n<=n:=by omega
   simp only[go_sem,hb,G,J,e1,i0,i1,i2,i3,i4,i5,i6,i7,E,a1,ha,O,a6,zF,zq,ET,m1,hr,a8];exact⟨_,rfl,by rw[Zj];obtain⟨ex,e⟩:=le;exact⟨ex,by rw[<- e,S,iF]⟩,fun c hc=>Zk _ _ hc⟩
  .simp only[go_sem,hb,G,J,e1,i0,i1,i2,i3,i4,i5,i6,i7,E,a1,ha,O,S,m3,zF,zq,ET,m1]
   exact⟨_,rfl,by rw[Zj];obtain⟨ex,e⟩:=le;exact⟨ex,by rw[<- e];rfl⟩,fun c hc=>Zk _ _ hc⟩
 .have m1:¬n - (k+1)=0:=by omega
  have m2:((w.flatMap cI).drop (k+1)).take (n - (k+1))=(w.flatMap cI).drop (k+1):=zl (by rw[zC,G];omega);have i8:k+1+(n - (k+1))<=n:=by omega
  have rl:((w.flatMap cI).drop (k+1)).length=n - (k+1):=by rw[zC,G]
  have Y:((w.flatMap cI).drop (k+1)).all vI=true:=by
   rw[jP,<- List.map_drop,<- jP];exact qO _
  obtain⟨Pc,hP⟩:∃Pc,Pc=patch (w.flatMap cI) k ((w.flatMap cI).drop (k+1)):=⟨_,rfl⟩;have a7:Pc.length=n:=by
   rw[hP,iH _ _ _ (by rw[rl,G];omega)];simp only[zo,zh,zC,G];omega
  obtain⟨b4,b2⟩:∃ex,Pc=(w.eraseIdx k).flatMap cI++ex:=by
   obtain⟨ex,e⟩:=iG (w.flatMap cI) [] (i:=k) (m:=n) G hk m1;rw[zH]at e;exact⟨ex,by rw[hP,e,Ye]⟩
  have ha:=apH (σ:=restrict σ [b,b]) (nx:=nx) (bytes:=8) (b:=b) (len:=k) (m:=n - (k+1)) (row:=(w.flatMap cI).drop (k+1)) (cells:=w.flatMap cI) (by rw[fJ];exact hb) m1 (by rw[G];omega) Y;rw[<- hP]at ha;have m5:k+(n - (k+1))=n-1:=by omega
  rw[m5]at ha;have j1:((n-1:Nat):Int).toNat=n-1:=zF _;have j2:(0:Int)<=((n-1:Nat):Int):=by omega
  have j3:n-1<=n:=by omega
  have j4:¬n-1=0:=by omega
  have j5:¬n-1=n:=by omega
  have j6:n - (n-1)=1:=by omega
  have j7:n-1+1<=n:=by omega
  have le:∃ex,patch Pc (n-1) [I 0]=(w.eraseIdx k).flatMap cI++ex:=by
   have b3:((w.eraseIdx k).flatMap cI).length=n-1:=by rw[qN,yH (by omega),hw]
   rw[iH _ _ _ (by rw[a7];simp;omega),b2,xG b3,yw];exact⟨_,rfl⟩
  simp only[go_sem,hb,G,J,e1,i0,i1,i2,i3,i4,i5,i6,i7,i8,E,m1,m2,ha,O,zF,zq,j1,j2,j3,j4,j5,j6,j7,a7,ET];exact⟨_,rfl,by rw[Zj];obtain⟨ex,e⟩:=le;exact⟨ex,by rw[<- e];rfl⟩,fun c hc=>Zk _ _ hc⟩
def FN(s:Structure)(l w:List Int):Prop:=fn ZM Aa Ak 37 [.agg (jI s),LI l,LI w]=some (Bo true)
theorem O_{s:Structure}(h:Bf s)(E:Aj s){l w:List Int}(G:AQ s.bI.length l)(hw:Dx s.members.length w) :
  fn ZM Aa Ak 37 [.agg (jI s),LI l,LI w]=some (Bo (pb (FN s l w))):=by
 obtain⟨b,r,k,_⟩:=ams h E G hw;rw[k];cases b with
 |true=>
  have:FN s l w:=k;rw[iC this]
 |false=>
  have:¬FN s l w:=fun e=>by unfold FN at e;rw[k]at e;cases e
  rw[iD this]
noncomputable def upto(s:Structure)(l w:List Int)(n:Nat):Bool:=(List.range n).all fun k=>pb (FN (del s k) l (w.eraseIdx k))
theorem upto_succ(s:Structure)(l w:List Int)(n:Nat):upto s l w (n+1)=(upto s l w n && pb (FN (del s n) l (w.eraseIdx n))):=by simp[upto,wX]
theorem abD{s:Structure}{l w:List Int}{k n:Nat}(E:k<n)(h:pb (FN (del s k) l (w.eraseIdx k))=false):upto s l w n=false:=by
 unfold upto;rw[List.all_eq_false];exact⟨k,by simpa using E,by rw[h];simp⟩
noncomputable def Ji(s:Structure)(l w:List Int):Bool:=pb (FN s l w) && upto s l w s.members.length
theorem amE(w:List Int)(hw:w.length<=1000)(E:w.length≠0)(nx:Nat):FT [LI w] pI nx=some (.rs nx 0 w.length,Au pI nx (w.flatMap cI) 1,nx+1):=by
 show(if(w.flatMap cI).length=w.length/\w.length<=17592186044000/\(w.flatMap cI).all vI=true then _ else none)=_;rw[sO ⟨qN w,by omega,qO w⟩,sQ E]
theorem Yg{s:Structure}(h:Bf s)(ho:Aj s){l w:List Int}(hl:AQ s.bI.length l)(hw:Dx s.members.length w) :
  fn ZM Cb D7 36 [.agg (jI s),LI l,LI w]=some (Bo (Ji s l w)):=by
 have k1:=O_ h ho hl hw;have c0:=h.2.1;have c2:=h.1;have O:=hw.1;unfold Ji;rw[mJ,nC [.tmp 6] [] func36];cases hs:pb (FN s l w)with
 |false=>
  rw[hs]at k1;simp only[go_sem,k1]
 |true=>
  rw[hs]at k1;simp only[go_sem,k1];generalize hL:iI _ _=y;obtain⟨x,rfl,hx⟩:=oZ hL s.members.length (fun j st=>st.T 1=LI l/\st.T 2=LI w/\st.T 3= .rp 0 0/\st.T 15=I s.members.length/\st.T 16=I j/\0<st.nx/\st.σ 0=some ⟨jI s,0,true⟩/\upto s l w j=true)
   (fun x=>∃T σ nx,(x=(.exit 0,⟨T,σ,nx⟩)/\upto s l w s.members.length=true)\/(x=(.ret,⟨T,σ,nx⟩)/\T 6=Bo false/\upto s l w s.members.length=false)) (by
    clear hL;rintro j ⟨T,σ,nx⟩ hj ⟨t1,t2,t3,t15,t16,a6,E,hu⟩;simp only at t1 t2 t3 t15 t16 a6 E;have f1:(j:Int)<(s.members.length:Int):=by omega
    have f2:=jF j;have f3:=ZU (n:=(j:Int)+1);obtain⟨v,v2,b7,G,Y,k2,c3,hO,a7⟩:=afv s (by omega) (by omega) j hj (nx+1);have k3:=amE w (by omega) (by omega) G;rw[O]at k3;obtain⟨S,eS⟩:∃S,S=del s j:=⟨_,rfl⟩;rw[<- eS]at hO;have gO:=fun d=>hO.gather (d':=d+2) (by omega)
    have hlen:(w.eraseIdx j).length=s.members.length-1:=by rw[yH (by omega),O]
    have b8:S.bI=s.bI:=by rw[eS];rfl
    have b9:S.members.length=s.members.length-1:=by
     rw[eS];unfold del;exact yH hj
    have k5:=O_ (s:=S) (l:=l) (w:=w.eraseIdx j) (by rw[eS];exact aqp h j) (by rw[eS];exact amA ho j) (by rw[b8];exact hl) (by rw[b9];exact aft hw hj);have oc:Own (Au pI G (w.flatMap cI) 1) 1 (.rs G 0 s.members.length) (LI w) [G]:=by
     have:=iM (σ:=Au pI G (w.flatMap cI) 1) (d:=0) (b:=G) (st:=1) (xs:=w) (by unfold Au;rw[Zj]) (by omega)
     rwa [O]at this
    have gc:=fun d=>oc.gather (d':=d+1) (by omega)
    unfold Au at k3 gc;obtain⟨J,e1⟩:∃J,J=Ce (nx+1) (upd σ nx (some ⟨[I j],1,true⟩)) b7 Y:=⟨_,rfl⟩;have b1:J 0=some ⟨jI s,0,true⟩:=by rw[e1,jq (by omega),Zm];exact E
    have o1:Own J 2 (.agg [v,v2]) (.agg (jI S)) Y:=hO.frame fun q hq=>by
     have:=a7 q hq;rw[e1,jr (by omega) hq]
    obtain⟨σ2,e2⟩:∃σ2,σ2=Ce G J (upd pI G (some ⟨w.flatMap cI,1,true⟩)) [G]:=⟨_,rfl⟩;have b2:σ2 0=some ⟨jI s,0,true⟩:=by rw[e2,jq (by omega)];exact b1
    have b3:σ2 G=some ⟨w.flatMap cI,1,true⟩:=by rw[e2,jr (by omega) (by simp),Zj]
    have o2:Own σ2 2 (.agg [v,v2]) (.agg (jI S)) Y:=o1.frame fun q hq=>by
     have:=a7 q hq;rw[e2,jq (by omega)]
    obtain⟨a8,k4,⟨ex,b4⟩,b5⟩:=amD (nx:=G+1) (k:=j) b3 (by omega) O (by omega) hj;have b6:a8 0=some ⟨jI s,0,true⟩:=by rw[b5 0 (by omega)];exact b2
    have st:=fun d=>RD b4 hlen d
    have o3:Own a8 2 (.agg [v,v2]) (.agg (jI S)) Y:=o2.frame fun q hq=>by
     have:=a7 q hq;rw[b5 q (by omega)]
    have so:=fun d=>o3.strip (d':=d+2) (by omega)
    have f4:=ZU (n:=(j:Int)+1);have us:=upto_succ s l w j;rw[<- eS]at us;cases a1:pb (FN S l (w.eraseIdx j))with
    |true=>
     rw[a1]at k5 us;refine .inl ⟨_,by simp only[go_sem,qE,t1,t2,t3,t15,t16,E,f1,f2,f3,k2,gO,<- e1,k3,gc,<- e2,k4,st,so,k5,b6];rfl,?_⟩;simp only[go_sem,t1,t2,t3,t15,b6];exact⟨rfl,by omega,by rw[us,hu];rfl⟩
    |false=>
     rw[a1]at k5;refine .inr ⟨_,by simp only[go_sem,qE,t1,t2,t3,t15,t16,E,f1,f2,f3,k2,gO,<- e1,k3,gc,<- e2,k4,st,so,k5,b6];rfl,by simp,_,_,_,.inr ⟨rfl,by simp only[go_sem],?_⟩⟩;rw[eS]at a1;exact abD hj a1) (by
    rintro ⟨T,σ,nx⟩ ⟨t1,t2,t3,t15,t16,a6,E,hu⟩;simp only at t1 t2 t3 t15 t16 a6 E;exact⟨_,by simp only[go_sem,t15,t16,zi];rfl,by simp,_,_,_,.inl ⟨rfl,hu⟩⟩) (by
    simp only[go_sem];rfl)
  obtain⟨T,σ,nx,⟨rfl,hu⟩|⟨rfl,t6,hu⟩⟩:=hx
  .rw[hu]
   simp only[go_sem]
  .rw[hu]
   simp only[go_sem,t6]
noncomputable def Hu(t:CP)(strict:Bool):Bool:=Dy t && (if strict=true then Ji t.st t.load t.limits else pb (FN t.st t.load t.limits))
theorem bH{t:CP}(h:Dy t=true):Bf t.st/\AQ t.st.bI.length t.load/\Dx t.st.members.length t.limits:=by
 unfold Dy at h;simp only[zM]at h;exact⟨iy h.2.1.1,iy h.2.1.2,iy h.2.2⟩
theorem Yh(t:CP)(G:FZ t)(strict:Bool):fn ZM Cb D7 14 [.agg (Az t),Bo strict]=some (Bo (Hu t strict)):=by
 have E:=kP t G;unfold Hu;rw[mJ,nC [.tmp 4] [] func14];cases hs:Dy t with
 |false=>
  rw[hs]at E;simp only[go_sem,E]
 |true=>
  rw[hs]at E;obtain⟨J,O,S⟩:=bH hs;have Y:=Yg J G.2.1 O S;have k3:=O_ J G.2.1 O S;cases strict with
  |true=>simp only[go_sem,E,Y]
  |false=>simp only[go_sem,E,k3]
theorem amF{α:Type}{xs:List α}{n k:Nat}(d:α)(E:k<xs.length)(hn:xs.length=n):(xs.take k++List.replicate (n-k) d).set k xs[k]=xs.take (k+1)++List.replicate (n - (k+1)) d:=by
 have G:(xs.take k).length=k:=by rw[zh];omega
 rw[xO _ _ (by omega),G,yM,show n-k=n - (k+1)+1 by omega,xu,vC,aJ E,yw];rfl
theorem KA(n:Nat):rep n [Bo false]=(List.replicate n false).flatMap D8:=QN n
noncomputable def Aq(y:BZ):List Bool:=y.aI.map fun t=>Hu t y.strict
theorem dL(y:BZ):(Aq y).length=y.aI.length:=by simp[Aq]
theorem Pe{σ:Store}{b:Nat}{xs:List Bool}(h:σ b=some ⟨xs.flatMap D8,1,true⟩){n:Nat}(hn:xs.length=n)(d:Nat):strip σ (d+1) (.rs b 0 n)=some (LL D8 xs,[b]):=by
 have E:(xs.flatMap D8).length=xs.length:=by rw[Ht,yN]
 rw[aS,h];simp only[zk,yN,yZ,yg,E];rw[sO (by omega),zl (by omega),aX (fun x=>by rw[au,aQ,aY];rfl)];show some (V.ts _ n,[b])=_;rw[<- hn]
theorem anN(y:BZ)(ho:Gl y)(PI:y.aI.length<=6):fn ZM Cb D7 31 [.tp (Cj y) 0]=some (LL D8 (Aq y)):=by
 obtain⟨n,en⟩:∃n,n=y.aI.length:=⟨_,rfl⟩;have e1:1*(n:Int)<=281474976710656:=by omega
 have e2:(n:Int)<=9223372036854775807:=by omega
 have e3:=jF n;have a8:=dL y;rw[mJ,nC [.tmp 2] [5] func31];simp only[go_sem,<- en,e1,e2,e3,xP];generalize hL:iI _ _=z;obtain⟨r,rfl,T',σ',nx',rfl,O,hs⟩:=oZ hL n (fun k s=>1<=s.nx/\s.T 0= .tp (Cj y) 0/\s.T 3= .rs 0 0 n/\s.T 15=LL Az y.aI/\s.T 16=I n/\s.T 17=I k/\s.σ 0=some ⟨((Aq y).take k++List.replicate (n-k) false).flatMap D8,1,true⟩)
  (fun r=>∃T σ nx',r=(.exit 0,⟨T,σ,nx'⟩)/\T 3= .rs 0 0 n/\σ 0=some ⟨(Aq y).flatMap D8,1,true⟩) (by
   clear hL;rintro k ⟨T,σ,m⟩ hk ⟨hm,Y,O,G,E,J,hs⟩;simp only at hm Y O G E J hs;have S:k<y.aI.length:=by omega
   have a1:k<(Aq y).length:=by omega
   have f1:(k:Int)<(n:Int):=by omega
   have f2:=jF k;have f3:=ZU (n:=(k:Int)+1);have f4:=ag_ y.aI k S;have f5:=WQ y.aI;rw[<- en]at f5;have f6:k*5+5<=n*5:=by omega
   have f9:=WO y.aI k S;have f7:(((Aq y).take k++List.replicate (n-k) false).flatMap D8).length=n:=by
    rw[Ht,yN,zo,zh,yU];omega
   have k1:=Yh y.aI[k] (ho.1.1 _ (zu S)) y.strict;have es:(Aq y)[k]=Hu y.aI[k] y.strict:=by simp[Aq]
   have f8:=acr ((Aq y).take k++List.replicate (n-k) false) k (Aq y)[k];rw[amF false a1 (by omega),es]at f8;have nz:¬0=m:=by omega
   have a6:¬m=0:=by omega
   have f10:k<n:=hk;have f11:0<m+1:=by omega
   have f12:m<m+1:=by omega
   obtain⟨t,et⟩:∃t,t=y.aI[k]:=⟨_,rfl⟩;rw[<- et]at f4 k1 f8;obtain⟨sb,eb⟩:∃sb,sb=Hu t y.strict:=⟨_,rfl⟩;rw[<- eb]at k1 f8;refine .inl ⟨_,by simp only[go_sem,<- en,Y,O,G,E,J,hs,f1,f2,f3,f4,f5,f6,f7,f8,f9,f10,f11,f12,k1,nz,a6];rfl,?_⟩;simp only[go_sem,Y,O,G,E];rfl) (by
   clear hL;rintro ⟨T,σ,m⟩ ⟨hm,Y,O,G,E,J,hs⟩;simp only at hm Y O G E J hs;rw[zl (by omega),yM,List.replicate_zero,zH]at hs;exact⟨_,by simp only[go_sem,E,J,zi];rfl,by simp,_,_,_,rfl,by simp only[go_sem,O],hs⟩) (by
   simp only[go_sem];rw[<- KA])
 have a7:=fun d=>Pe hs (n:=n) (by omega) d
 simp only[go_sem,O,a7]
theorem aqs(y:BZ)(E:AU y)(i:Int):fn ZM Cb D7 32 [.tp (Cj y) 0,I i]=some (LI (F5 (DT y.moves i) y.aI.length)):=by
 obtain⟨v,G,O,ids,k,_,J,_⟩:=aeT y E i 0;rw[ap5,mJ,k];simp only[go_sem,J.strip (d':=7) (by omega)]
def nexts(y:BZ)(a:Nat):List Nat:=(List.range y.aI.length).filter (Ea y a)
theorem afw(y:BZ)(a:Nat):F5 (DT y.moves (a:Int)) y.aI.length=AB (nexts y a):=rfl
theorem abE(l:List Nat){j:Nat}(h:j<l.length):(AB l)[j]'(by rw[Zy];exact h)=(l[j]:Int):=by simp[AB]
theorem afx(l:List Nat){j:Nat}(h:j<l.length):((AB l).flatMap cI)[j]?=some (I (l[j]:Int)):=by
 rw[idx (xs:=AB l) (k:=j) (by rw[Zy];exact h),abE l h]
theorem UG{α:Type}{p:α->Bool}:∀ {l:List α} {j:Nat} (h:j<l.length),(∀i (hi:i<l.length),i<j->p l[i]=false)->p l[j]=true->l.find? p=some l[j]
 |[],_,h,_,_=>absurd h (zW _)
 |x :: l,0,_,_,h=>by
  have h:p x=true:=h;simp[List.find?_cons,h]
 |x :: l,j+1,hj,hlo,h=>by
  have E:p x=false:=hlo 0 (by simp) (by omega);have:=UG (l:=l) (j:=j) (by rw[zV]at hj;omega) (fun i hi G=>hlo (i+1) (by rw[zV];omega) (by omega)) h;simp only[List.find?_cons,E];exact this
theorem aqt{y:BZ}{out:Nat->Int}{a j:Nat}(h:j<(nexts y a).length)(E:∀i (hi:i<(nexts y a).length),i<j->(out (nexts y a)[i]==out a-1)=false)(G:(out (nexts y a)[j]==out a-1)=true):Jv (Ea y) out y.aI.length a=(nexts y a)[j]:=by
 have J:=UG (p:=fun i=>out i==out a-1) h E G;unfold Jv;have O:(List.range y.aI.length).find? (fun i=>Ea y a i && (out i==out a-1))=(nexts y a).find? (fun i=>out i==out a-1):=by
  unfold nexts;rw[List.find?_filter];congr 1;funext i;generalize Ea y a i=b1;generalize (out i==out a-1)=b2;cases b1<;>cases b2<;>rfl
 rw[O,J];rfl
theorem ai1{y:BZ}{a j:Nat}(h:j<(nexts y a).length):(nexts y a)[j]<y.aI.length:=by
 have:=zu h;exact List.mem_range.mp (List.mem_filter.mp this).1
theorem ai2(y:BZ)(a:Nat):(nexts y a).length<=y.aI.length:=by
 unfold nexts;exact zL (List.length_filter_le _ _) (by simp)
theorem abG{y:BZ}{al:List Bool}(G:al.length=y.aI.length){to a:Nat}(h:0<dst (Ea y) (Dk al) to a):∃j,∃E:j<(nexts y a).length,(dst (Ea y) (Dk al) to (nexts y a)[j]==dst (Ea y) (Dk al) to a-1)=true:=by
 obtain⟨J,O,S⟩:=Ut (mv:=Ea y) (al:=Dk al) (n:=y.aI.length) (to:=to) (a:=a) (fun i hi=>by have:=rG hi;omega) h;have hm:Jv (Ea y) (dst (Ea y) (Dk al) to) y.aI.length a∈nexts y a:=by
  unfold nexts;rw[List.mem_filter];exact⟨by simpa using J,O⟩
 obtain⟨j,E,e⟩:=zA hm;exact⟨j,E,by rw[e,S];simp⟩
noncomputable def CJ(y:BZ)(fr to:Int):Bool:=pb (AU y) && (decide (0<=fr) && decide (fr<(y.aI.length:Int)) && decide (0<=UF y (Aq y) to fr.toNat))
noncomputable def BF(y:BZ)(fr to:Int):List Int:=if CJ y fr to=true then AB (plan (Ea y) (UF y (Aq y) to) y.aI.length fr.toNat)else []
theorem UH{y:BZ}{al:List Bool}{to:Int}{i:Nat}(h:0<=UF y al to i):(0<=to/\to<(y.aI.length:Int))/\UF y al to=dst (Ea y) (Dk al) to.toNat:=by
 by_cases c:0<=to/\to<(y.aI.length:Int)
 .exact⟨c,funext fun i=>by unfold UF;rw[sO c]⟩
 .unfold UF at h
  rw[sQ c]at h;omega
theorem afy{σ:Store}{b:Nat}{cells:List V}{st:Nat}{wr:Bool}(h:σ b=some ⟨cells,st,wr⟩)(t:V):behind σ [b] t=upd σ b (some ⟨cells,st,wr && flat depth t⟩):=by
 unfold behind;cases E:flat depth t with
 |true=>
  simp only[uj,List.isEmpty_cons,Bool.false_or,if_true];funext i
  by_cases e:i=b
  .subst e;rw[Zj,h]
  .rw[Zk _ _ e]
 |false=>
  simp only[List.isEmpty_cons,Bool.or_self,yE,if_false,wY];unfold DR DR;rw[h];rfl
theorem kT{T:Nat->V}{σ σ':Store}{nx t:Nat}{acc:List Int}(E:Grow T σ nx t acc)(h:∀b o l,T t= .rs b o l->σ' b=σ b):Grow T σ' nx t acc:=by
 rcases E with ⟨g1,g2⟩|⟨b,g1,g2,g3,g4⟩
 .exact .inl ⟨g1,g2⟩
 .exact .inr ⟨b,g1,g2,by rw[h _ _ _ g1];exact g3,g4⟩
def FP(y:BZ)(out:Nat->Int)(a k:Nat):List Int:=AB ((List.range (k+1)).map (Ve (Ea y) out y.aI.length a))
theorem afz(y:BZ)(out:Nat->Int)(a k:Nat):(FP y out a k).length=k+1:=by simp[FP,AB]
theorem abH(y:BZ)(out:Nat->Int)(a k:Nat):FP y out a (k+1)=FP y out a k++[((Ve (Ea y) out y.aI.length a (k+1):Nat):Int)]:=by
 unfold FP AB;rw[wX];simp
theorem afA(y:BZ)(ho:Gl y)(fr to:Int)(nx:Nat):∃v b5 qI ids,ev ZM Cb D7 8 [.agg (Cj y),I fr,I to] pI nx=some (.AX [v,Bo (CJ y fr to)],b5,qI)/\nx<=qI/\Own b5 1 v (LI (BF y fr to)) ids/\∀b∈ids,nx<=b/\b<qI:=by
 obtain⟨n,en⟩:∃n,n=y.aI.length:=⟨_,rfl⟩;have k1:=Tm y ho;have Y:∀ok,ok=CJ y fr to->ok=false->BF y fr to=[]:=fun ok e h=>by unfold BF;rw[<- e,h,sQ (by simp)]
 rw[nC [.tmp 6,.tmp 7] [] func8];cases hg:pb (AU y)with
 |false=>
  have e:CJ y fr to=false:=by unfold CJ;rw[hg,wM]
  rw[hg]at k1;rw[e,Y _ e.symm rfl];simp only[go_sem,k1];exact⟨_,_,_,[],rfl,by omega,iO _ _,by simp⟩
 |true=>
  rw[hg]at k1;have hG:=iy hg
  by_cases c1:fr<0
  .have e:CJ y fr to=false:=by unfold CJ;rw[hg,sH (p:=0<=fr) (by omega)];rfl
   rw[e,Y _ e.symm rfl];simp only[go_sem,k1,c1];exact⟨_,_,_,[],rfl,by omega,iO _ _,by simp⟩
  by_cases c2:(y.aI.length:Int)<=fr
  .have e:CJ y fr to=false:=by unfold CJ;rw[hg,sH (p:=fr<_) (by omega),wY];rfl
   rw[e,Y _ e.symm rfl];simp only[go_sem,k1,c1,c2];exact⟨_,_,_,[],rfl,by omega,iO _ _,by simp⟩
  obtain⟨a0,rfl⟩:∃a:Nat,fr=(a:Int):=⟨fr.toNat,by omega⟩;have c4:a0<y.aI.length:=by omega
  have PI:=hG.1;have k2:=anN y ho PI;have k3:=aqo y hG (by omega) to (Aq y) (dL y);obtain⟨out,eo⟩:∃out,out=UF y (Aq y) to:=⟨_,rfl⟩;rw[<- eo]at k3;have f1:(a0:Int)<(y.aI.length:Int):=by omega
  have f2:=jF a0;have la:=fun {a:Nat} (h:a<y.aI.length)=>MX (n:=y.aI.length) out h
  have b6:=la c4;have ll:=jm y.aI.length out;have O:(DC y.aI.length out).flatMap cI≠[]:=fun e=>by
   have h:=qN (DC y.aI.length out);rw[e,ll]at h;have h:0=y.aI.length:=h;omega
  by_cases c3:out a0<0
  .have e:CJ y a0 to=false:=by
    unfold CJ;rw[<- eo,zF,sH (p:=0<=out a0) (by omega),wY,wY]
   rw[e,Y _ e.symm rfl];simp only[go_sem,k1,c1,c2,k2,k3,ll,O,b6,f1,f2,c3];exact⟨_,_,_,[],rfl,by omega,iO _ _,by simp⟩
  have e:CJ y a0 to=true:=by
   unfold CJ;rw[<- eo,hg,zF,sJ (p:=0<=out a0) (by omega),sJ f2,sJ (p:=(a0:Int)<_) (by omega)];rfl
  obtain⟨⟨t0,t1⟩,es⟩:=UH (y:=y) (al:=Aq y) (to:=to) (i:=a0) (by rw[<- eo];omega);rw[<- eo]at es;have c5:BF y a0 to=FP y out a0 (out a0).toNat:=by
   unfold BF;rw[sO e,<- eo,zF];rfl
  rw[e,c5];obtain⟨d,hd⟩:∃d:Nat,out a0=(d:Int):=⟨(out a0).toNat,by omega⟩;have a8:∀i,Dk (Aq y) i=true->i<y.aI.length:=fun i hi=>by have:=rG hi;rw[dL]at this;exact this
  have b2:∀k:Nat,k<=d->out (Ve (Ea y) out y.aI.length a0 k)=(d:Int) - k:=fun k hk=>by
   have:=kE a8 (mv:=Ea y) (to:=to.toNat) (a:=a0) k (by rw[<- es,hd];omega);rw[<- es,hd]at this;exact this
  have b7:∀k:Nat,k<=d->Ve (Ea y) out y.aI.length a0 k<y.aI.length:=fun k hk=>by
   have h1:=b2 k hk;have h2:=OJ (mv:=Ea y) (al:=Dk (Aq y)) (to:=to.toNat) (i:=Ve (Ea y) out y.aI.length a0 k) (by rw[<- es];omega);exact a8 _ h2.1
  have e8:d<=6:=by
   have:=aix a8 (mv:=Ea y) (to:=to.toNat) (a:=a0) (by rw[<- es,hd];omega);rw[<- es,hd]at this;omega
  obtain⟨at_,a1⟩:∃at_,at_=Ve (Ea y) out y.aI.length a0:=⟨_,rfl⟩;rw[<- a1]at b2 b7;have c6:∀k,FP y out a0 (k+1)=FP y out a0 k++[((at_ (k+1):Nat):Int)]:=fun k=>by rw[a1];exact abH y out a0 k
  have w0:FP y out a0 0=[(a0:Int)]:=rfl;have wl:=afz y out a0;have c7:(out a0).toNat=d:=by omega
  rw[c7];simp only[go_sem,k1,c1,c2,k2,k3,ll,O,b6,f1,f2,c3];generalize hL:iI _ _=z;obtain⟨x,rfl,T,σ,nx',rfl,E,c8,c9⟩:=jS hL (fun m st=>∃k,k+m=d/\st.T 3= .rp nx 0/\st.T 8=LI (DC y.aI.length out)/\st.T 10=I (at_ k)/\nx+1<st.nx/\(∃wr,st.σ nx=some ⟨Cj y,0,wr⟩)/\Grow st.T st.σ st.nx 9 (FP y out a0 k)/\∀b o l,st.T 9= .rs b o l->nx+1<=b)
   (fun x=>∃T σ nx',x=(.exit 0,⟨T,σ,nx'⟩)/\nx+1<nx'/\Grow T σ nx' 9 (FP y out a0 d)/\∀b o l,T 9= .rs b o l->nx+1<=b) (by
    clear hL;rintro m ⟨T,σ,CU⟩ ⟨k,hk,t3,t8,t10,E,⟨wr,G⟩,J,S⟩;simp only at t3 t8 t10 E G J S;have ha:=b7 k (by omega);have ho:=b2 k (by omega);have a6:=la ha;have g1:(at_ k:Int)<(y.aI.length:Int):=by omega
    have g2:(0:Int)<=(at_ k:Int):=by omega
    by_cases hm:m=0
    .subst hm
     have e0:k=d:=by omega
     have g3:¬0<out (at_ k):=by omega
     refine .inr ⟨_,by simp only[go_sem,t8,t10,ll,O,a6,g1,g2,ha,g3];rfl,by simp,_,_,_,rfl,E,?_,by simpa only[go_sem]using S⟩;rw[<- e0];exact kU (by simp only[go_sem]) J
    .have g3:0<out (at_ k):=by omega
     have k4:=aqs y hG (at_ k:Int);rw[afw]at k4;have e9:=ai2 y (at_ k);have b3:=afy G (LI (AB (nexts y (at_ k))));obtain⟨Jy,b8⟩:∃Jy,Jy=behind σ [nx] (LI (AB (nexts y (at_ k)))):=⟨_,rfl⟩;rw[<- b8]at b3;have e1:∃wr,Jy nx=some ⟨Cj y,0,wr⟩:=⟨_,by rw[b3,Zj]⟩;have e2:Grow T Jy CU 9 (FP y out a0 k):=kT J fun b o l h=>by rw[b3,Zk _ _ (by have:=S b o l h;omega)]
     have w4:=ZU (n:=out (at_ k) - 1);have b9:at_ (k+1)=Jv (Ea y) out y.aI.length (at_ k):=by rw[a1];rfl
     refine bD ?_
     conv=>
      enter [1,r,1,1]
      simp only[go_sem,t3,t8,t10,G,ll,O,a6,g1,g2,ha,g3,k4,Zy,<- b8]
     generalize hL:iI _ _=w;obtain⟨r,rfl,T',σ',AA,rfl,t3,t8,t10,E,⟨e3,G⟩,J,S⟩:=oZ hL (nexts y (at_ k)).length (fun j st=>st.T 3= .rp nx 0/\st.T 8=LI (DC y.aI.length out)/\st.T 10=I (at_ k)/\st.T 44=LI (AB (nexts y (at_ k)))/\st.T 45=I (nexts y (at_ k)).length/\st.T 46=I j/\nx+1<st.nx/\(∃wr,st.σ nx=some ⟨Cj y,0,wr⟩)/\Grow st.T st.σ st.nx 9 (FP y out a0 k)/\(∀b o l,st.T 9= .rs b o l->nx+1<=b)/\∀i (hi:i<(nexts y (at_ k)).length),i<j->(out (nexts y (at_ k))[i]==out (at_ k) - 1)=false)
      (fun r=>∃T σ AA,r=(.exit 2,⟨T,σ,AA⟩)/\T 3= .rp nx 0/\T 8=LI (DC y.aI.length out)/\T 10=I (at_ (k+1))/\nx+1<AA/\(∃wr,σ nx=some ⟨Cj y,0,wr⟩)/\Grow T σ AA 9 (FP y out a0 k)/\∀b o l,T 9= .rs b o l->nx+1<=b) (by
       clear hL;rintro j ⟨T,σ,CU⟩ hj ⟨t3,t8,t10,t44,t45,t46,E,G,J,S,a7⟩;simp only at t3 t8 t10 t44 t45 t46 E G J S;have f1:(j:Int)<((nexts y (at_ k)).length:Int):=by omega
       have f2:=jF j;have f3:=ZU (n:=(j:Int)+1);have f4:=afx (nexts y (at_ k)) hj;have f5:=Zy (nexts y (at_ k));have f6:(AB (nexts y (at_ k))).flatMap cI≠[]:=fun e=>by
        have h:=qN (AB (nexts y (at_ k)));rw[e,f5]at h;have h:0=(nexts y (at_ k)).length:=h;omega
       have hc:=ai1 hj;have b4:=la hc;obtain⟨c,ec⟩:∃c,c=(nexts y (at_ k))[j]:=⟨_,rfl⟩;rw[<- ec]at f4 hc b4;have i1:(c:Int)<(y.aI.length:Int):=by omega
       have i2:=jF c;cases hq:(out c==out (at_ k) - 1)with
       |true=>
        have hn:=aqt hj a7 (by rw[<- ec];exact hq);refine .inr ⟨_,by simp only[go_sem,t3,t8,t10,t44,t45,t46,ll,O,a6,b4,g1,g2,ha,f1,f2,f3,f4,f5,f6,hj,hc,i1,i2,w4,hq];rfl,by simp,_,_,_,rfl,?_⟩;simp only[go_sem,t3,t8];rw[b9,hn,<- ec];exact⟨rfl,E,G,kU (by simp only[go_sem]) J,S⟩
       |false=>
        refine .inl ⟨_,by simp only[go_sem,t3,t8,t10,t44,t45,t46,ll,O,a6,b4,g1,g2,ha,f1,f2,f3,f4,f5,f6,hj,hc,i1,i2,w4,hq];rfl,?_⟩;simp only[go_sem,t3,t8,t10,t44,t45];refine⟨rfl,E,G,kU (by simp only[go_sem]) J,S,fun i hi h3=>?_⟩
        by_cases e:i=j
        .subst e;rw[<- ec];exact hq
        .exact a7 i hi (by omega)) (by
       clear hL;rintro ⟨T,σ,CU⟩ ⟨t3,t8,t10,t44,t45,t46,E,G,J,S,a7⟩;exfalso;obtain⟨j,hj,hq⟩:=abG (y:=y) (al:=Aq y) (dL y) (to:=to.toNat) (a:=at_ k) (by rw[<- es];exact g3);rw[<- es,a7 j hj hj]at hq;cases hq) (by
       simp only[go_sem,t3,t8,t10];exact⟨E,e1,kU (by simp only[go_sem]) e2,S,fun i hi h0=>absurd h0 (zW _)⟩)
     obtain⟨Dz,c0,e4,e5⟩:=IY J (at_ (k+1):Int) (by rw[wl];omega);rw[wl]at c0;refine⟨_,by simp only[go_sem,t10,c0];rfl,.inl ⟨_,rfl,m-1,by omega,k+1,by omega,?_⟩⟩;simp only[go_sem,t3,t8,t10];refine⟨by omega,?_,?_,fun b o l hb=>?_⟩
     .exact⟨e3,by rw[e5 nx (by omega) (fun b o l hb=>by have:=S b o l hb;omega)];exact G⟩
     .rw[c6]
      exact kS e4 (by simp only[go_sem,zo,wl]) (by simp)
     .cases hb;omega) d (by
    simp only[go_sem];refine⟨0,by omega,by rw[a1];rfl,by omega,⟨_,by rw[Zm,Zj]⟩,.inr ⟨nx+1,?_,by rw[w0];simp,?_,by omega⟩,fun b o l hb=>by cases hb;omega⟩
    .simp only[go_sem]
     rfl
    .rw[Zj];rfl)
  obtain⟨ids,e6,e7⟩:=Xa c8 c9;simp only[go_sem];exact⟨_,_,_,ids,rfl,by omega,e6,fun b hb=>by have:=e7 b hb;omega⟩
theorem afB(y:BZ)(fr to:Int):(BF y fr to).length<=1000000:=by
 unfold BF
 split
 .rename_i h
  unfold CJ at h;simp only[zM,decide_eq_true_eq]at h;obtain⟨G,⟨J,O⟩,E⟩:=h;obtain⟨_,es⟩:=UH E;have:=aix (mv:=Ea y) (al:=Dk (Aq y)) (n:=y.aI.length) (to:=to.toNat) (a:=fr.toNat) (fun i hi=>by have:=rG hi;rw[dL]at this;exact this) (by rw[<- es];exact E);rw[Zy,aiy,es];have:=(iy G).1;omega
 .exact wF _
noncomputable def anO(y:BZ):List Int:=if pb (AU y)=true then F5 (Dk (Aq y)) y.aI.length else []
theorem UJ(p:Nat->Bool)(n:Nat)(a:Nat):(a:Int)∈F5 p n↔a<n/\p a=true:=by
 unfold F5;rw[List.mem_map];constructor
 .rintro ⟨i,hi,e⟩
  rw[List.mem_filter,List.mem_range]at hi;have:i=a:=by omega
  subst this;exact hi
 .intro h
  exact⟨a,by rw[List.mem_filter,List.mem_range];exact h,rfl⟩
noncomputable def blk(y:BZ)(fr to:Int)(i:Nat):Bool:=!((i:Int)==fr) && (!((i:Int)==to) && (Dk (Aq y) i && decide (UF y ((Aq y).set i false) to fr.toNat<0)))
end Go.Proofs.YtjknobpihkmilaaGreat
namespace Go.Proofs.YtjknobpihkmilaaGreat
open Go Go.TV Go.Lp
theorem aus(neg:Bool)(m n:Nat)(hm:ln m<=24)(h0:n≠0)(hn:ln n<=24) :
  fn ZM conv ext 232 [Bo neg,LI (dg m),LI (dg n)]=some (.agg [Bo (neg && decide (0<(dg (m / Nat.gcd m n)).length)),LI (dg (m / Nat.gcd m n)),LI (dg (n / Nat.gcd m n))]):=by
 have J:Nat.gcd m n≠0:=fun e=>h0 (Nat.eq_zero_of_gcd_eq_zero_right e)
 have O:Nat.gcd m n<=n:=Nat.gcd_le_right _ (by omega);have a1:n / Nat.gcd m n≠0:=by
  have:=Nat.div_pos O (by omega);omega
 have hg:=jc O;have k1:=KZ (dg m) (dD (by omega));have k2:=KZ (dg n) (dD (by omega));rw[Zt]at k1 k2;have S:=aco n (by omega);have k4:=anH m n (by omega) (by omega);have Y:=aco (Nat.gcd m n) (by omega);have k6:=aiN m (Nat.gcd m n) J (by omega) (by omega);have k7:=aiN n (Nat.gcd m n) J (by omega) (by omega);have lx:=ahT m (Nat.gcd m n);have ly:=ahT n (Nat.gcd m n);have G:=anl neg (dg (m / Nat.gcd m n)) (dD (by omega)) (by rw[Zt];show ln _<=60;omega);rw[Zt]at G;have l0:(((dg n).length:Int)==0)=false:=by rw[sN];have:=rC (oO h0);omega
 have c1:¬(24:Int)<((dg (m / Nat.gcd m n)).length:Int):=by unfold ln at lx hm;omega
 have c2:¬(24:Int)<((dg (n / Nat.gcd m n)).length:Int):=by unfold ln at ly hn;omega
 have z1:¬(dg (n / Nat.gcd m n)).length=0:=rC (oO a1);have s1:(dg (n / Nat.gcd m n)).length<=maxLen/\(dg (n / Nat.gcd m n)).length*8<=140737488355328:=by unfold maxLen;unfold ln at ly hn;omega
 rw[mJ,nC [.cell 6 173] [] func232]
 by_cases h1:n=1
 .have E:Nat.gcd m n=1:=by rw[h1,Nat.gcd_one_right]
  simp only[E,vK]at c1 c2 G z1 s1⊢;rw[sJ h1]at S;simp only[go_sem,k1,k2,S,G,l0,c1,c2,z1,s1]
 .rw[sH h1]at S
  by_cases E:Nat.gcd m n=1
  .rw[sJ E]at Y
   rw[E]at k4 Y;simp only[E,vK]at c1 c2 G z1 s1⊢;simp only[go_sem,k1,k2,S,k4,Y,G,l0,c1,c2,z1,s1]
  .rw[sH E]at Y
   simp only[go_sem,k1,k2,S,k4,Y,k6,k7,G,l0,c1,c2,z1,s1]
theorem UK(z:Int)(d:Nat)(O:ln z.natAbs<=24)(J:d≠0)(S:ln d<=24)(b:Bool)(n:Nat)(hb:A_ b n=z):fn ZM conv ext 232 [Bo b,LI (dg n),LI (dg d)]=some (.agg (cQ (mkRat z d))):=by
 have hn:n=z.natAbs:=by rw[<- hb];unfold A_;split<;>omega
 subst hn;rw[aus b z.natAbs d O J S,ano z J];unfold ahh
 by_cases E:z.natAbs=0
 .rw[E,Nat.zero_div,oJ];simp
 .have:b=decide (z<0):=by
   have G:=hb;unfold A_ at G;cases b with
   |true=>rw[sO rfl]at G;rw[sJ (by omega)]
   |false=>rw[sQ (by decide)]at G;rw[sH (by omega)]
  rw[this]
theorem Yi(q:Rat)(h:Ln 24 q):fn ZM conv ext 218 [.agg (cQ q)]=some (Bo true):=by
 have l1:(dg q.num.natAbs).length<=24:=h.1;have l2:(dg q.den).length<=24:=h.2;have E:=aeN (decide (q.num<0)) (dg q.num.natAbs) (by unfold Short;omega);have S:(!decide (q.num<0)||decide (0<(dg q.num.natAbs).length))=true:=by
  by_cases hn:q.num<0
  .rw[sJ (List.length_pos_iff.mpr (oO (by omega))),Bool.or_true]
  .rw[sH hn];rfl
 rw[iC (jG (by have:=h.1;omega)),S]at E;have G:=aaP (dg q.den) (by unfold Short;omega);rw[iC (jG (by have:=h.2;omega))]at G;have J:=anH q.num.natAbs q.den (by have:=h.1;omega) (by have:=h.2;omega);rw[q.reduced]at J;have O:=asQ (dg 1) (WV (by decide));rw[sJ ((QH 1).mpr rfl)]at O;have Y:(((dg q.den).length:Int)==0)=false:=by rw[sN];have:=rC (oO q.den_nz);omega
 have c1:¬(24:Int)<((dg q.num.natAbs).length:Int):=by omega
 have c2:¬(24:Int)<((dg q.den).length:Int):=by omega
 unfold cQ;rw[mJ,nC [.tmp 2] [] func218];simp only[go_sem,xY]at E;simp only[go_sem,E,G,J,O,Y,c1,c2]
theorem amG(q:Rat)(d:Nat)(hb:ln (q.num*d).natAbs<=60):fn ZM conv ext 220 [Bo (decide (q.num<0)),LI (dg (q.num.natAbs*d))]=some (.agg (cZ (q.num*d))):=by
 have e:A_ (decide (q.num<0)) (q.num.natAbs*d)=q.num*d:=by
  have h:=dF q.num
  conv=>rhs;rw[<- h]
  unfold A_
  by_cases E:q.num<0
  .rw[sJ E,sO rfl,sO rfl,yj,Int.neg_mul]
  .rw[sH E,sQ (by decide),sQ (by decide),yj]
 rw[uY,wo]at hb;rw[NU _ _ hb,e]
theorem Ln.up{k:Nat}{q:Rat}(h:Ln k q)(E:k<=24):ln q.num.natAbs<=1000000/\ln q.den<=1000000:=⟨by have:=h.1;omega,by have:=h.2;omega⟩
theorem ac9{a b:Nat}(x y:Rat)(E:Ln a x)(G:Ln b y)(a6:a+b<=23):fn ZM conv ext 213 [.agg (cQ x),.agg (cQ y)]=some (.agg (cQ (x+y))):=by
 have n1:=jX E G;have n2:=jX G E;have a7:=QX E G;have J:=E.up (by omega);have O:=G.up (by omega);have o1:=aco x.den J.2;have S:=aco y.den O.2;have k1:=dN x.num.natAbs y.den J.1 O.2;have k2:=dN y.num.natAbs x.den O.1 J.2;have k3:=dN x.den y.den J.2 O.2;have k4:=amG x y.den (by omega);have k5:=amG y x.den (by omega);have n3:=Jb (x.num*y.den) (y.num*x.den);have k6:=W9 (x.num*y.den) (y.num*x.den) (by omega) (by omega) (by omega);have k7:=UK (x.num*y.den+y.num*x.den) (x.den*y.den) (by omega) (dd0 x y) (by omega) (decide (x.num*y.den+y.num*x.den<0)) (x.num*y.den+y.num*x.den).natAbs (dF _);rw[<- Rat.add_def']at k7;rw[mJ,nC [.cell 4 173] [] func213]
 by_cases Y:x.den=1
 .by_cases h2:y.den=1
  .have n4:=Jb x.num y.num
   have a8:=E.1;have b2:=G.1;have m1:=W9 x.num y.num J.1 O.1 (by omega);have m2:=UK (x.num+y.num) 1 (by omega) (by decide) (by have:=jV (n:=1) (by decide);omega) (decide (x.num+y.num<0)) (x.num+y.num).natAbs (dF _);have e:mkRat (x.num+y.num) 1=x+y:=by rw[Rat.add_def',Y,h2];simp
   rw[e,oN (d:=1) (by decide) (by decide)]at m2;have a1:fn ZM conv ext 232 [Bo (decide (x.num+y.num<0)),LI (dg (x.num+y.num).natAbs),.ts [I 1] 1]=some (.agg (cQ (x+y))):=m2
   rw[sJ Y]at o1;rw[sJ h2]at S;unfold cZ at *;unfold cQ at *;simp only[go_sem,o1,S,m1,a1]
  .rw[sJ Y]at o1
   rw[sH h2]at S;unfold cZ at *;unfold cQ at *;simp only[go_sem,o1,S,k1,k2,k3,k4,k5,k6,k7]
 .rw[sH Y]at o1
  unfold cZ at *;unfold cQ at *;simp only[go_sem,o1,k1,k2,k3,k4,k5,k6,k7]
theorem aut{x y:Rat}{k l:Nat}(h:Ln k x)(E:Ln l y):ln (x.num.natAbs*y.num.natAbs)<=k+l:=by
 have:=jZ x.num.natAbs y.num.natAbs;have:=h.1;have:=E.1;omega
theorem abI(b:Bool)(n:Nat):(A_ b n).natAbs=n:=by unfold A_;split<;>omega
theorem auu{a b:Nat}(x y:Rat)(E:Ln a x)(G:Ln b y)(Y:a+b<=24):fn ZM conv ext 237 [.agg (cQ x),.agg (cQ y)]=some (.agg (cQ (x*y))):=by
 have J:=E.up (by omega);have O:=G.up (by omega);have n1:=aut E G;have n2:=QX E G;have k1:=dN x.num.natAbs y.num.natAbs J.1 O.1;have k2:=dN x.den y.den J.2 O.2;have S:=UK (A_ (decide (x.num<0) !=decide (y.num<0)) (x.num.natAbs*y.num.natAbs)) (x.den*y.den) (by rw[abI];omega) (dd0 x y) (by omega) _ _ rfl;rw[<- alN]at S;have e:∀a b:Bool,(!a==b)=(a !=b):=by decide
 unfold cQ at *;rw[mJ,nC [.cell 4 173] [] func237];simp only[go_sem,k1,k2,S,e]
theorem anP{a b:Nat}(x y:Rat)(E:Ln a x)(G:Ln b y)(Y:a+b<=24)(h0:y.num≠0):fn ZM conv ext 233 [.agg (cQ x),.agg (cQ y)]=some (.agg (cQ (x / y))):=by
 have J:=E.up (by omega);have O:=G.up (by omega);have o1:=Yi x (E.mono (by omega));have o2:=Yi y (G.mono (by omega));have n1:=jZ x.num.natAbs y.den;have n2:=jZ x.den y.num.natAbs;have:=E.1;have:=E.2;have:=G.1;have:=G.2;have k1:=dN x.num.natAbs y.den J.1 O.2;have k2:=dN x.den y.num.natAbs J.2 O.1;have S:=UK (A_ (decide (x.num<0) !=decide (y.num<0)) (x.num.natAbs*y.den)) (x.den*y.num.natAbs) (by rw[abI];omega) (Nat.mul_ne_zero x.den_nz (by omega)) (by omega) _ _ rfl;rw[<- ahk x y h0]at S;have e:∀a b:Bool,(!a==b)=(a !=b):=by decide
 unfold cQ at *;rw[mJ,nC [.cell 4 173] [] func233];simp only[go_sem,o1,o2,k1,k2,S,e]
theorem ai3(x y:Int)(O:ln x.natAbs<=1000000)(S:ln y.natAbs<=1000000):fn ZM conv ext 226 [.agg (cZ x),.agg (cZ y)]=some (I (Ar x y)):=by
 have Y:=WY x.natAbs y.natAbs O S;have k2:=WY y.natAbs x.natAbs S O;rw[mJ,nC [.tmp 4] [] func226];unfold cZ at *
 by_cases G:x<0<;>by_cases J:y<0
 .have e:Bg y.natAbs x.natAbs=Ar x y:=by
   unfold Bg Ar
   by_cases h:x<y
   .rw[sO (show y.natAbs<x.natAbs by omega),sO h]
   .rw[sQ (show ¬y.natAbs<x.natAbs by omega),sQ h]
    by_cases E:x=y
    .rw[sO (by omega),sO E]
    .rw[sQ (by omega),sQ E]
  rw[e]at k2;rw[sJ G,sJ J];simp only[go_sem,k2]
 .have e:Ar x y= -1:=by unfold Ar;rw[sO (by omega)]
  rw[sJ G,sH J,e];simp only[go_sem]
 .have e:Ar x y=1:=by unfold Ar;rw[sQ (by omega),sQ (by omega)]
  rw[sH G,sJ J,e];simp only[go_sem]
 .have e:Bg x.natAbs y.natAbs=Ar x y:=by
   unfold Bg Ar
   by_cases h:x<y
   .rw[sO (show x.natAbs<y.natAbs by omega),sO h]
   .rw[sQ (show ¬x.natAbs<y.natAbs by omega),sQ h]
    by_cases E:x=y
    .rw[sO (by omega),sO E]
    .rw[sQ (by omega),sQ E]
  rw[e]at Y;rw[sH G,sH J];simp only[go_sem,Y]
theorem auv{a b:Nat}(x y:Rat)(E:Ln a x)(G:Ln b y)(S:a+b<=60)(ha:a<=24)(hb:b<=24):fn ZM conv ext 202 [.agg (cQ x),.agg (cQ y)]=some (I (Ar (x.num*y.den) (y.num*x.den))):=by
 have J:=E.up ha;have O:=G.up hb;have n1:=jX E G;have n2:=jX G E;have Y:=dN x.num.natAbs y.den J.1 O.2;have k2:=dN y.num.natAbs x.den O.1 J.2;have k3:=amG x y.den (by omega);have k4:=amG y x.den (by omega);have k5:=ai3 (x.num*y.den) (y.num*x.den) (by omega) (by omega);unfold cZ at *;unfold cQ at *;rw[mJ,nC [.tmp 4] [] func202];simp only[go_sem,Y,k2,k3,k4,k5]
theorem dM(x:Rat)(S:Ln 24 x):fn ZM conv ext 187 [.agg (cQ x)]=some (I (Ar x.num 0)):=by
 have J:=Yi x S;have main:∀m:List Int,fn ZM conv ext 218 [.agg [Bo (decide (x.num<0)),LI m,LI (dg x.den)]]=some (Bo true)->m=[]->fn ZM conv ext 187 [.agg [Bo (decide (x.num<0)),LI m,LI (dg x.den)]]=some (I 0):=fun m k hm=>by
  have E:((m.length:Int)==0)=true:=by rw[hm];rfl
  rw[mJ,nC [.tmp 2] [] func187];simp only[go_sem,k,E]
 unfold cQ at *
 by_cases O:x.num=0
 .have e:Ar x.num 0=0:=by rw[O];rfl
  rw[e];exact main _ J (by rw[O,Int.natAbs_zero,oJ])
 rw[mJ,nC [.tmp 2] [] func187]
 .have E:(((dg x.num.natAbs).length:Int)==0)=false:=by rw[sN];have:=rC (oO (n:=x.num.natAbs) (by omega));omega
  by_cases G:x.num<0
  .have e:Ar x.num 0= -1:=by unfold Ar;rw[sO G]
   rw[sJ G]at *;simp only[go_sem,J,E,e]
  .have e:Ar x.num 0=1:=by unfold Ar;rw[sQ G,sQ (by omega)]
   rw[sH G]at *;simp only[go_sem,J,E,e]
theorem aqu(x:Rat)(E:Ln 24 x):fn ZM conv ext 191 [.agg (cQ x)]=some (.agg (cQ x)):=by
 have l1:(dg x.num.natAbs).length<=24:=E.1;have l2:(dg x.den).length<=24:=E.2;have G:¬(dg x.den).length=0:=rC (oO x.den_nz);have J:(dg x.den).length<=maxLen/\(dg x.den).length*8<=140737488355328:=by unfold maxLen;omega
 have S:(dg x.num.natAbs).length<=maxLen/\(dg x.num.natAbs).length*8<=140737488355328:=by unfold maxLen;omega
 unfold cQ;rw[mJ,nC [.cell 2 173] [1] func191]
 by_cases O:(dg x.num.natAbs).length=0
 .have Y:dg x.num.natAbs=[]:=zZ O
  rw[Y]
  (simp only[go_sem,G,J])<;>rfl
 .simp only[go_sem,G,J,O,S]
def Ei{α:Type}(W L:List α)(c:Nat):List α:=W.take c++L.drop c
section
variable {α:Type} {W L:List α} {c:Nat}
theorem KC(W L:List α):Ei W L 0=L:=by simp[Ei]
theorem jH(h:W.length=L.length)(hc:c<=L.length):(Ei W L c).length=L.length:=by unfold Ei;simp;omega
theorem Jj(h:W.length=L.length)(hc:c<L.length):(Ei W L c)[c]'(by rw[jH h (by omega)];exact hc)=L[c]:=by
 have:(Ei W L c)[c]?=L[c]?:=by
  unfold Ei;rw[zN (by simp;omega),xw];congr 1;simp;omega
 rw[zy (by rw[jH h (by omega)];exact hc),zy hc]at this;exact Option.some.inj this
theorem Jk(h:W.length=L.length)(hc:c<L.length):(Ei W L c).set c (W[c]'(by omega))=Ei W L (c+1):=by
 unfold Ei;have E:(W.take c).length=c:=by simp;omega
 rw[xO _ _ (by omega),E,yM,yS hc,vC,yL,zy (by omega),yw];rfl
theorem KD(h:W.length=L.length):Ei W L L.length=W:=by
 unfold Ei;rw[zl (by omega),yA (zq _),zH]
theorem RG(h:W.length=L.length)(hc:c<L.length)(e:W[c]'(by omega)=L[c]):Ei W L c=Ei W L (c+1):=by
 rw[<- Jk h hc,e];have:=Jj h hc
 conv=>rhs;rw[<- this]
 rw[List.set_getElem_self]
end
theorem jA{q:Rat}:q.num=0↔q=0:=Rat.num_eq_zero
theorem abJ(q:Rat):(Ar q.num 0 !=0)= !decide (q=0):=by rw[TU,decide_eq_decide.mpr jA]
theorem ai4(q:Rat):(Ar q.num 0==0)=decide (q=0):=by rw[Ot,decide_eq_decide.mpr jA]
theorem amH{q:Rat}:0<q.num↔0<q:=by
 have E:=Rat.num_nonneg (q:=q);have G:=jA (q:=q);constructor
 .intro h
  have:0<=q:=E.mp (by omega);have:q≠0:=fun e=>by have:=G.mpr e;omega
  grind
 .intro h
  have g1:0<=q.num:=E.mpr (by grind);have g2:q.num≠0:=fun e=>by have:=G.mp e;grind
  omega
theorem UL(q:Rat):Ar q.num 0<=0↔¬0<q:=by rw[pG,amH]
theorem ai5{x t:List Rat}{f:Rat}{i:Nat}(h:i<x.length)(E:i<t.length):(LW x t f)[i]'(by unfold LW;rw[tZ];omega)=x[i] - f*t[i]:=by simp only[LW,List.getElem_zipWith]
theorem lM{α:Type}{xs:List α}{k:Nat}(h:k<xs.length)(d:α):xs.getD k d=xs[k]:=by rw[zx,zy h];rfl
theorem aqv{σ:Store}{nx bi bR N k:Nat}{x t:List Rat}(hx:x.length=N+1)(ht:t.length=N+1)(hN:N<=1000)(hk:k<N+1)(bx:∀u∈x,Ln 6 u)(bt:∀v∈t,Ln 6 v)(h1:σ bi=some ⟨x.flatMap cQ,3,true⟩)(h2:σ bR=some ⟨t.flatMap cQ,3,true⟩)(a1:bi≠bR)(b2:bi<nx)(b3:bR<nx) :
  ∃σ' nx',ev ZM Aa Ak 219 [.rs bi 0 (N+1),.rs bR 0 (N+1),I k] σ nx=some (.AX [],σ',nx')/\σ' bi=some ⟨(LW x t (x.getD k 0)).flatMap cQ,3,true⟩/\nx<=nx'/\∀b,b<nx->b≠bi->σ' b=σ b:=by
 obtain⟨f,ef⟩:∃f,f=x.getD k 0:=⟨_,rfl⟩;have S:x[k]'(by omega)=f:=by rw[ef,lM (by omega)]
 have bf:Ln 6 f:=by rw[<- S];exact bx _ (zu (by omega))
 have a3:=jF k;have a4:(k:Int)<((N+1:Nat):Int):=by omega
 have a6:=d_ (c:=cQ) (s:=3) qJ x k (by omega);rw[S]at a6;have a7:=bZ (c:=cQ) (s:=3) qJ x;rw[hx]at a7;have a8:k*3+3<=(N+1)*3:=by omega
 have k1:=dM f (bf.mono (by decide));rw[<- ef];rw[nC [] [7] func219]
 by_cases G:f=0
 .have Y:=ai4 f
  rw[sJ G]at Y;refine⟨upd σ nx (some ⟨cQ f,0,true⟩),nx+1,by simp only[go_sem,h1,a3,a4,a6,a7,a8,k1,Y,Zi],?_,by omega,fun b hb _=>by rw[Zm]⟩;rw[Zm,h1];congr 3;subst G;apply yQ
  .rw[pO (by omega)]
  .intro i g1 g2
   rw[ai5 g1 (by omega)];grind
 .have Y:=ai4 f
  rw[sH G]at Y;obtain⟨W,eW⟩:∃W,W=LW x t f:=⟨_,rfl⟩;have b5:W.length=N+1:=by rw[eW,pO (by omega),hx]
  have E:W.length=x.length:=by omega
  have k2:=ahl f (by have:=bf.1;omega) (by have:=bf.2;omega);rw[<- eW];obtain⟨s0,J⟩:∃s0,s0=upd (upd σ nx (some ⟨cQ f,0,true⟩)) (nx+1) (some ⟨cQ (-f),0,true⟩):=⟨_,rfl⟩;have YJ:∀b,b<nx->s0 b=σ b:=fun b hb=>by rw[J,Zm,Zm]
  have b4:s0 (nx+1)=some ⟨cQ (-f),0,true⟩:=by rw[J,Zj]
  simp only[go_sem,h1,a3,a4,a6,a7,a8,k1,Y,k2,Zi,<- J];generalize hL:iI _ _=y;obtain⟨r,rfl,T',σ',nx',rfl,hn,hr,fr⟩:=oZ hL (N+1) (fun j st=>st.T 0= .rs bi 0 (N+1)/\st.T 1= .rs bR 0 (N+1)/\st.T 7= .rp (nx+1) 0/\st.T 19=I ((N+1:Nat):Int)/\st.T 20=I j/\nx+2<=st.nx/\st.σ bi=some ⟨(Ei W x j).flatMap cQ,3,true⟩/\∀b,b<nx+2->b≠bi->st.σ b=s0 b)
   (fun r=>∃T σ' nx',r=(.exit 0,⟨T,σ',nx'⟩)/\nx+2<=nx'/\σ' bi=some ⟨W.flatMap cQ,3,true⟩/\∀b,b<nx+2->b≠bi->σ' b=s0 b) (by
    clear hL;rintro j ⟨T,O,m0⟩ hj ⟨t0,t1,t7,t19,t20,hm,hb,fr⟩;simp only at t0 t1 t7 t19 t20 hm hb;have g1:(j:Int)<((N+1:Nat):Int):=by omega
    have g2:=jF j;have g3:=ZU (n:=(j:Int)+1);have g4:=d_ (c:=cQ) (s:=3) qJ (Ei W x j) j (by rw[jH E (by omega)];omega);rw[Jj E (by omega)]at g4;have g5:=bZ (c:=cQ) (s:=3) qJ (Ei W x j);rw[jH E (by omega),hx]at g5;have g6:j*3+3<=(N+1)*3:=by omega
    have g7:=d_ (c:=cQ) (s:=3) qJ t j (by omega);have g8:=bZ (c:=cQ) (s:=3) qJ t;rw[ht]at g8;obtain⟨v,ev⟩:∃v,v=t[j]'(by omega):=⟨_,rfl⟩;obtain⟨u,eu⟩:∃u,u=x[j]'(by omega):=⟨_,rfl⟩;have bv:Ln 6 v:=by rw[ev];exact bt _ (zu (by omega))
    have bu:Ln 6 u:=by rw[eu];exact bx _ (zu (by omega))
    have hw:W[j]'(by omega)=u-f*v:=by subst eW;rw[ai5 (by omega) (by omega),eu,ev]
    rw[<- ev]at g7;rw[<- eu]at g4;have e1:O bR=_:=(fr bR (by omega) (yu a1)).trans ((YJ bR b3).trans h2);have e2:O (nx+1)=_:=(fr (nx+1) (by omega) (by omega)).trans b4;have k3:=dM v (bv.mono (by decide));have l1:bi<m0:=by omega
    have l2:bR<m0:=by omega
    have l3:nx+1<m0:=by omega
    have s3:=abJ v
    by_cases hv:v=0
    .rw[sJ hv,vH]at s3
     refine .inl ⟨_,by simp only[go_sem,t0,t1,t7,t19,t20,hb,e1,g1,g2,g3,g6,g7,g8,k3,s3];rfl,?_⟩;simp only[go_sem,t0,t1,t7,t19];refine⟨rfl,hm,?_,fr⟩;rw[<- RG E (by omega) (by rw[hw,<- eu,hv];grind)];exact hb
    .rw[sH hv,wE]at s3
     have k4:=auu (-f) v (a:=6) (b:=6) ⟨by rw[Rat.neg_num,wC];exact bf.1,by rw[Rat.neg_den];exact bf.2⟩ bv (by decide);have k5:=ac9 u (-f*v) (a:=6) (b:=12) bu (abg (k:=6) (l:=6) ⟨by rw[Rat.neg_num,wC];exact bf.1,by rw[Rat.neg_den];exact bf.2⟩ bv (by decide)) (by decide);have c6:patch ((Ei W x j).flatMap cQ) (j*3) (cQ (u+ -f*v))=(Ei W x (j+1)).flatMap cQ:=by
      rw[iE qJ _ _ (by rw[jH E (by omega)];omega),show u+ -f*v=W[j]'(by omega) by rw[hw];grind,Jk E (by omega)]
     refine .inl ⟨_,by simp only[go_sem,t0,t1,t7,t19,t20,hb,e1,e2,g1,g2,g3,g4,g5,g6,g7,g8,k3,s3,k4,k5,c6,l1,l2,l3];rfl,?_⟩;simp only[go_sem,t0,t1,t7,t19];refine⟨rfl,hm,fun b hb hn=>?_⟩;rw[Zk _ _ hn];exact fr b hb hn) (by
    clear hL;rintro ⟨T,O,m0⟩ ⟨t0,t1,t7,t19,t20,hm,hb,fr⟩;simp only at t0 t1 t7 t19 t20 hm hb;refine⟨_,by simp only[go_sem,t19,t20,zi];rfl,by simp,_,_,_,rfl,hm,?_,fr⟩;rw[<- hx,KD E]at hb;exact hb) (by
    simp only[go_sem];refine⟨?_,fun _ _ _=>trivial⟩;rw[KC,YJ bi b2];exact h1)
  exact⟨σ',nx',by simp only[go_sem],hr,by omega,fun b hb hn=>(fr b (by omega) hn).trans (YJ b hb)⟩
theorem UM{σ:Store}{nx bi bR N k:Nat}{x t:List Rat}(Y:x.length=N+1)(ht:t.length=N+1)(hN:N<=1000)(hk:k<N+1)(bx:∀u∈x,Ln 6 u)(bt:∀v∈t,Ln 6 v)(h1:σ bi=some ⟨x.flatMap cQ,3,true⟩)(h2:σ bR=some ⟨t.flatMap cQ,3,true⟩)(G:bi≠bR)(J:bi<nx)(O:bR<nx) :
  ∃S nx' σ',ev ZM Aa Ak 219 [.rs bi 0 (N+1),.rs bR 0 (N+1),I k] (restrict σ [bi,bR]) nx=some (.AX [],S,nx')/\yI [bi,bR] nx nx' σ S=σ'/\σ' bi=some ⟨(LW x t (x.getD k 0)).flatMap cQ,3,true⟩/\nx<=nx'/\∀b,b<nx->b≠bi->σ' b=σ b:=by
 obtain⟨s2,nx',e,g1,g2,g3⟩:=aqv (σ:=restrict σ [bi,bR]) Y ht hN hk bx bt ((fO σ bi bR).trans h1) ((fK σ bi bR).trans h2) G J O;refine⟨s2,nx',_,e,rfl,?_,g2,fun b hb hn=>?_⟩
 .unfold yI;rw[sO (.inl (by simp))];exact g1
 .unfold yI
  split
  .rename_i E
   rw[g3 b hb hn];unfold restrict;rcases E with E|E
   .rw[sO E]
   .omega
  .rfl
def GV(σ:Store)(v:V)(n:Nat)(cs:List V):Prop:=(n=0/\v= .nil)\/∃b,0<n/\v= .rs b 0 n/\σ b=some ⟨cs,1,true⟩
def bk:V->List Nat
 | .rs b _ _=>[b]
 |_=>[]
def ED(R:List (List Rat))(i:Nat):List Rat:=R.getD i []
structure Fp (σ:Store) (bt bc:Nat) (vr vb:V) (rb:List Nat) (D:TQ) (N:Nat):Prop where
 t:σ bt=some ⟨[I N,vr,vb,.rs bc 0 (N+1)],0,true⟩
 r:GV σ vr D.R.length (rb.map fun b=>V.rs b 0 (N+1))
 row:∀i (h:i<rb.length),σ rb[i]=some ⟨(ED D.R i).flatMap cQ,3,true⟩
 b:GV σ vb D.R.length ((CB D.B).flatMap cI)
 c:σ bc=some ⟨D.c.flatMap cQ,3,true⟩
 len:rb.length=D.R.length
 nd:(bt :: bc :: (bk vr++bk vb++rb)).Nodup
structure ShF (D:TQ) (N:Nat):Prop where
 row:∀x∈D.R,x.length=N+1
 Bq:D.B.length=D.R.length
 Gy:D.c.length=N+1
 Gz:D.R.length<=1000
 sz:N<=1000
 big:∀x∈D.R,∀q∈x,Ln 6 q
 amI:∀q∈D.c,Ln 6 q
 inB:∀b∈D.B,b<1000000
theorem dS{R:List (List Rat)}{i:Nat}(h:i<R.length):ED R i=R[i]:=lM h []
theorem dR{R:List (List Rat)}{n i:Nat}(hn:∀x∈R,x.length=n)(h:i<R.length):(ED R i).length=n:=by rw[dS h];exact hn _ (zu h)
theorem ac_{R:List (List Rat)}{r k i:Nat}(hi:i<R.length):ED (Ef R r k) i=if i=r then(ED R i).map (· / Cm R r k)else LW (ED R i) ((ED R r).map (· / Cm R r k)) ((ED R i).getD k 0):=by
 unfold ED Ef;simp only[zx,uH];rw[zy hi];rfl
theorem ai6{σ:Store}{nx bt bc:Nat}{vr vb:V}{rb:List Nat}{D:TQ}{N r k:Nat}(h:Fp σ bt bc vr vb rb D N)(hs:ShF D N)(h2:ShF (Oe D r k) N)(S:∀b∈bt :: bc :: (bk vr++bk vb++rb),b<nx)(hr:r<D.R.length)(hk:k<N)(hp:Cm D.R r k≠0) :
  ∃σ' nx',ev ZM Aa Ak 217 [.rp bt 0,I r,I k] σ nx=some (.AX [],σ',nx')/\Fp σ' bt bc vr vb rb (Oe D r k) N/\nx<=nx'/\∀b,b<nx->b∉bc :: (bk vb++rb)->σ' b=σ b:=by
 obtain⟨ht,h3,c0,h4,hc,hlen,c2⟩:=h;rcases h3 with ⟨h0,_⟩|⟨br,_,rfl,b2⟩
 .omega
 rcases h4 with ⟨h0,_⟩|⟨bb,_,rfl,h5⟩
 .omega
 simp only[bk,yR,yJ]at S c2⊢;have hN:=hs.sz;have hR:=hs.Gz;simp only[xk,zX,not_or]at c2;obtain⟨⟨n1,n2,n3,n4⟩,⟨n5,n6,n7⟩,⟨n8,n9⟩,c3,b6⟩:=c2;have TX:=S bt (by simp);have c9:=S bc (by simp);have TY:=S br (by simp);have h6:=S bb (by simp);have Fg:∀j (E:j<rb.length),rb[j]<nx:=fun j E=>S _ (by simp[zu E])
 have c4:∀j (E:j<rb.length),rb[j]≠bt/\rb[j]≠bc/\rb[j]≠br/\rb[j]≠bb:=fun j E=>⟨fun e=>n4 (e ▸ zu E),fun e=>n7 (e ▸ zu E),fun e=>n9 (e ▸ zu E),fun e=>c3 (e ▸ zu E)⟩
 have O:r<rb.length:=by omega
 obtain⟨bR,YH⟩:∃bR,bR=rb[r]:=⟨_,rfl⟩;have h7:bR<nx:=by rw[YH];exact Fg r O
 have nR:=c4 r O;rw[<- YH]at nR;obtain⟨t,et⟩:∃t,t=ED D.R r:=⟨_,rfl⟩;have e0:σ bR=some ⟨t.flatMap cQ,3,true⟩:=by rw[YH,et];exact c0 r O
 have b7:t.length=N+1:=by rw[et];exact dR hs.row hr
 have e5:∀v∈t,Ln 6 v:=by rw[et,dS hr];exact hs.big _ (zu hr)
 obtain⟨p,ep⟩:∃p,p=Cm D.R r k:=⟨_,rfl⟩;have e6:t[k]'(by omega)=p:=by rw[ep];unfold Cm;rw[<- lM (by omega) 0,et];rfl
 have bp:Ln 6 p:=by rw[<- e6];exact e5 _ (zu (by omega))
 have h8:p.num≠0:=fun e=>hp (by rw[<- ep];exact jA.mp e)
 have a1:=jF r;have a2:(r:Int)<(D.R.length:Int):=by omega
 have a3:=jF k;have a4:(k:Int)<((N+1:Nat):Int):=by omega
 have a5:(rb.map fun b=>V.rs b 0 (N+1))[r]?=some (.rs bR 0 (N+1)):=by rw[yc,zy O,YH];rfl
 have a6:=d_ (c:=cQ) (s:=3) qJ t k (by omega);rw[e6]at a6;have a7:=bZ (c:=cQ) (s:=3) qJ t;rw[b7]at a7;have a8:k*3+3<=(N+1)*3:=by omega
 obtain⟨s0,c5⟩:∃s0,s0=upd σ nx (some ⟨cQ p,0,true⟩):=⟨_,rfl⟩;have YJ:∀b,b<nx->s0 b=σ b:=fun b hb=>by rw[c5,Zm]
 have h9:s0 nx=some ⟨cQ p,0,true⟩:=by rw[c5,Zj]
 have e7:=(YJ bt TX).trans ht;have e8:=(YJ br TY).trans b2;obtain⟨W,eW⟩:∃W,W=t.map (· / p):=⟨_,rfl⟩;have e9:W.length=N+1:=by rw[eW,zT,b7]
 have Y:W.length=t.length:=by omega
 have b8:ED (Ef D.R r k) r=W:=by rw[ac_ hr,sO rfl,<- et,<- ep,eW]
 have pl:=h_ D.R r k;have bW:∀v∈W,Ln 6 v:=by
  rw[<- b8,dS (by omega)];exact h2.big _ (zu (l:=(Oe D r k).R) (by show r<(Ef D.R r k).length;omega))
 rw[nC [] [4,10,12] func217];simp only[go_sem,ht,b2,e0,a1,a2,a3,a4,a5,a6,a7,a8,Zi,<- c5,e7,e8];generalize hL:iI _ _=y;obtain⟨x,rfl,T1,G,m1,rfl,t0,t1,t2,i0,i1,i2⟩:=oZ hL (N+1) (fun j st=>st.T 0= .rp bt 0/\st.T 1=I r/\st.T 2=I k/\st.T 6= .rp nx 0/\st.T 26=I ((N+1:Nat):Int)/\st.T 27=I j/\nx+1<=st.nx/\st.σ bR=some ⟨(Ei W t j).flatMap cQ,3,true⟩/\∀b,b<nx+1->b≠bR->st.σ b=s0 b)
  (fun x=>∃T σ' nx',x=(.exit 0,⟨T,σ',nx'⟩)/\T 0= .rp bt 0/\T 1=I r/\T 2=I k/\nx+1<=nx'/\σ' bR=some ⟨W.flatMap cQ,3,true⟩/\∀b,b<nx+1->b≠bR->σ' b=s0 b) (by
   clear hL;rintro j ⟨T,G,m0⟩ E ⟨t0,t1,t2,t6,t26,t27,hm,hb,fr⟩;simp only at t0 t1 t2 t6 t26 t27 hm hb;have g1:(j:Int)<((N+1:Nat):Int):=by omega
   have g2:=jF j;have g3:=ZU (n:=(j:Int)+1);have g4:=d_ (c:=cQ) (s:=3) qJ (Ei W t j) j (by rw[jH Y (by omega)];omega);rw[Jj Y (by omega)]at g4;have g5:=bZ (c:=cQ) (s:=3) qJ (Ei W t j);rw[jH Y (by omega),b7]at g5;have g6:j*3+3<=(N+1)*3:=by omega
   obtain⟨v,ev⟩:∃v,v=t[j]'(by omega):=⟨_,rfl⟩;have bv:Ln 6 v:=by rw[ev];exact e5 _ (zu (by omega))
   rw[<- ev]at g4;have e1:G bt=_:=(fr bt (by omega) (yu nR.1)).trans e7;have e2:G br=_:=(fr br (by omega) (yu nR.2.2.1)).trans e8;have e3:G nx=_:=(fr nx (by omega) (by omega)).trans h9;have l1:bt<m0:=by omega
   have l2:br<m0:=by omega
   have l3:nx<m0:=by omega
   have l4:bR<m0:=by omega
   have k1:=anP v p bv bp (by decide) h8;have c6:patch ((Ei W t j).flatMap cQ) (j*3) (cQ (v / p))=(Ei W t (j+1)).flatMap cQ:=by
    have hw:v / p=W[j]'(by omega):=by subst eW;rw[yC,ev]
    rw[iE qJ _ _ (by rw[jH Y (by omega)];omega),hw,Jk Y (by omega)]
   refine .inl ⟨_,by simp only[go_sem,t0,t1,t2,t6,t26,t27,hb,e1,e2,e3,a1,a2,a5,g1,g2,g3,g4,g5,g6,k1,c6,l1,l2,l3,l4];rfl,?_⟩;simp only[go_sem,t0,t1,t2,t6,t26];refine⟨rfl,hm,fun b hb hn=>?_⟩;rw[Zk _ _ hn];exact fr b hb hn) (by
   clear hL;rintro ⟨T,G,m0⟩ ⟨t0,t1,t2,t6,t26,t27,hm,hb,fr⟩;simp only at t0 t1 t2 t6 t26 t27 hm hb;refine⟨_,by simp only[go_sem,t26,t27,zi];rfl,by simp,_,_,_,rfl,?_⟩;simp only[go_sem,t0,t1,t2];refine⟨hm,?_,fr⟩;rw[<- b7,KD Y]at hb;exact hb) (by
   simp only[go_sem];refine⟨?_,fun _ _ _=>trivial⟩;rw[KC,YJ bR h7];exact e0)
 have b9:∀b,b<nx->b≠bR->G b=σ b:=fun b hb hn=>(i2 b (by omega) hn).trans (YJ b hb)
 have e1:G bt=_:=(b9 bt TX (yu nR.1)).trans ht;have e2:G br=_:=(b9 br TY (yu nR.2.2.1)).trans b2;simp only[go_sem,t0,t1,t2,e1];generalize hL:iI _ _=y;obtain⟨x,rfl,T2,σ2,m2,rfl,t0,t1,t2,j0,EO,En⟩:=oZ hL D.R.length (fun i st=>st.T 0= .rp bt 0/\st.T 1=I r/\st.T 2=I k/\st.T 56=I D.R.length/\st.T 57=I i/\nx+1<=st.nx/\(∀j (E:j<rb.length),st.σ rb[j]=some ⟨(if j<i\/j=r then ED (Ef D.R r k) j else ED D.R j).flatMap cQ,3,true⟩)/\∀b,b<nx->b∉rb->st.σ b=σ b)
  (fun x=>∃T σ' nx',x=(.exit 2,⟨T,σ',nx'⟩)/\T 0= .rp bt 0/\T 1=I r/\T 2=I k/\nx+1<=nx'/\(∀j (E:j<rb.length),σ' rb[j]=some ⟨(ED (Ef D.R r k) j).flatMap cQ,3,true⟩)/\∀b,b<nx->b∉rb->σ' b=σ b) (by
   clear hL;rintro i ⟨T,σ2,m0⟩ hi ⟨t0,t1,t2,t56,t57,hm,rows,fr⟩;simp only at t0 t1 t2 t56 t57 hm rows;have g1:(i:Int)<(D.R.length:Int):=by omega
   have g2:=jF i;have g3:=ZU (n:=(i:Int)+1);have b3:i<rb.length:=by omega
   by_cases YD:i=r
   .have c1:((i:Int) !=(r:Int))=false:=by rw[YD];simp
    refine .inl ⟨_,by simp only[go_sem,t0,t1,t2,t56,t57,g1,g3,c1];rfl,?_⟩;simp only[go_sem,t0,t1,t2,t56];refine⟨rfl,hm,fun j E=>?_,fr⟩;rw[rows j E]
    by_cases J:j=r
    .rw[sO (.inr J),sO (.inr J)]
    .by_cases i3:j<i
     .rw[sO (.inl i3),sO (.inl (by omega))]
     .rw[sQ (by omega),sQ (by omega)]
   .have c1:((i:Int) !=(r:Int))=true:=by rw[bne_iff_ne];omega
    obtain⟨bi,FI⟩:∃bi,bi=rb[i]:=⟨_,rfl⟩;have j1:bi<nx:=by rw[FI];exact Fg i b3
    have ni:=c4 i b3;rw[<- FI]at ni;have i4:bi≠bR:=fun e=>YD (by rw[FI,YH]at e;exact(uX b6).mp e)
    have b5:(rb.map fun b=>V.rs b 0 (N+1))[i]?=some (.rs bi 0 (N+1)):=by rw[yc,zy b3,FI];rfl
    have i5:σ2 bi=some ⟨(ED D.R i).flatMap cQ,3,true⟩:=by rw[FI,rows i b3,sQ (by omega)]
    have c7:σ2 bR=some ⟨W.flatMap cQ,3,true⟩:=by rw[YH,rows r O,sO (.inr rfl),b8]
    have e1:σ2 bt=_:=(fr bt TX n4).trans ht;have e2:σ2 br=_:=(fr br TY n9).trans b2;have l1:bt<m0:=by omega
    have l2:br<m0:=by omega
    have l3:bi<m0:=by omega
    have l4:bR<m0:=by omega
    have z1:(bt==bi)=false:=beq_false_of_ne (yu ni.1);have z2:(bt==bR)=false:=beq_false_of_ne (yu nR.1);have z3:(br==bi)=false:=beq_false_of_ne (yu ni.2.2.1);have z4:(br==bR)=false:=beq_false_of_ne (yu nR.2.2.1);obtain⟨s3,m3,b4,kc,pe,q1,q2,q3⟩:=UM (σ:=σ2) (nx:=m0) (k:=k) (dR hs.row hi) e9 hN (by omega) (by rw[dS hi];exact hs.big _ (zu hi)) bW i5 c7 i4 l3 l4;refine .inl ⟨_,by simp only[go_sem,t0,t1,t2,t56,t57,e1,e2,a1,a2,a5,b5,g1,g2,g3,c1,l1,l2,l3,l4,z1,z2,z3,z4,kc,pe];rfl,?_⟩;simp only[go_sem,t0,t1,t2,t56];refine⟨rfl,by omega,fun j E=>?_,fun b hb hn=>?_⟩
    .by_cases h1:j=i
     .subst h1
      rw[<- FI,q1,sO (.inl (by omega)),ac_ hi,sQ YD,<- et,<- ep,<- eW]
     .have i6:rb[j]≠bi:=fun e=>h1 (by rw[FI]at e;exact(uX b6).mp e)
      rw[q3 _ (by have:=Fg j E;omega) i6,rows j E]
      by_cases J:j<i\/j=r
      .rw[sO J,sO (by omega)]
      .rw[sQ J,sQ (by omega)]
    .rw[q3 b (by omega) (fun e=>hn (by rw[e,FI];exact zu b3))]
     exact fr b hb hn) (by
   clear hL;rintro ⟨T,σ2,m0⟩ ⟨t0,t1,t2,t56,t57,hm,rows,fr⟩;simp only at t0 t1 t2 t56 t57 hm rows;refine⟨_,by simp only[go_sem,t56,t57,zi];rfl,by simp,_,_,_,rfl,?_⟩;simp only[go_sem,t0,t1,t2];refine⟨hm,fun j E=>?_,fr⟩;rw[rows j E,sO (.inl (by omega))]) (by
   simp only[go_sem,t0,t1,t2];refine⟨i0,fun j E=>?_,fun b hb hn=>b9 b hb fun e=>hn (by rw[e,YH];exact zu O)⟩
   by_cases J:j=r
   .subst J
    rw[sO (.inr rfl),b8,<- YH];exact i1
   .rw[sQ (by omega),b9 _ (Fg j E) (fun e=>J (by rw[YH]at e;exact(uX b6).mp e))]
    exact c0 j E)
 have e1:σ2 bt=_:=(En bt TX n4).trans ht;have e2:σ2 br=_:=(En br TY n9).trans b2;have e3:σ2 bc=_:=(En bc c9 n7).trans hc;have c7:σ2 bR=some ⟨W.flatMap cQ,3,true⟩:=by rw[YH,EO r O,b8]
 have l1:bt<m2:=by omega
 have l2:br<m2:=by omega
 have l3:bc<m2:=by omega
 have l4:bR<m2:=by omega
 have z1:(bt==bc)=false:=beq_false_of_ne n1;have z2:(bt==bR)=false:=beq_false_of_ne (yu nR.1);have z3:(br==bc)=false:=beq_false_of_ne (yu n5);have z4:(br==bR)=false:=beq_false_of_ne (yu nR.2.2.1);obtain⟨s3,m3,b4,kc,pe,q1,q2,q3⟩:=UM (σ:=σ2) (nx:=m2) (k:=k) hs.Gy e9 hN (by omega) hs.amI bW e3 c7 (yu nR.2.1) l3 l4;have d1:b4 bt=_:=(q3 bt l1 n1).trans e1;have d2:b4 bb=_:=(q3 bb (by omega) (yu n6)).trans ((En bb h6 c3).trans h5);have hB:(CB D.B).length=D.R.length:=by rw[aA];exact hs.Bq
 have i7:r<(CB D.B).length:=by omega
 have i9:((CB D.B).flatMap cI).set r (I k)=(CB (D.B.set r k)).flatMap cI:=by
  rw[qM];unfold CB;rw[List.map_set]
 obtain⟨Dz,e4⟩:∃Dz,Dz=upd b4 bb (some ⟨(CB (D.B.set r k)).flatMap cI,1,true⟩):=⟨_,rfl⟩;have f4:∀b,b<nx->b≠bb->Dz b=b4 b:=fun b _ hn=>by rw[e4,Zk _ _ hn]
 have c8:(Oe D r k).R.length=D.R.length:=pl;refine⟨Dz,m3,by simp only[go_sem,t0,t1,t2,e1,e2,e3,a1,a2,a5,l1,l2,l3,l4,z1,z2,z3,z4,kc,pe,d1,d2,i7,i9,<- e4],⟨?_,?_,fun j E=>?_,?_,?_,by rw[c8];exact hlen,?_⟩,by omega,fun b hb hn=>?_⟩
 .rw[f4 bt TX n3];exact d1
 .rw[c8]
  exact .inr ⟨br,by omega,rfl,by rw[f4 br TY n8,q3 br l2 (yu n5)];exact e2⟩
 .have:=c4 j E
  rw[f4 _ (Fg j E) this.2.2.2,q3 _ (by have:=Fg j E;omega) this.2.1];exact EO j E
 .rw[c8]
  exact .inr ⟨bb,by omega,rfl,by rw[e4,Zj];rfl⟩
 .rw[f4 bc c9 n6,q1,eW,et,ep]
  rfl
 .simp only[bk,yR,yJ,xk,zX,not_or]
  exact⟨⟨n1,n2,n3,n4⟩,⟨n5,n6,n7⟩,⟨n8,n9⟩,c3,b6⟩
 .simp only[zX,not_or]at hn
  rw[f4 b hb hn.2.1,q3 b (by omega) hn.1,En b hb hn.2.2]
def RH(x:List Rat):List V:=[LL cQ x]
def F9(D:TQ)(N:Nat):List V:=[I N,LL RH D.R,LI (CB D.B),LL cQ D.c]
def Pg(D:TQ)(N:Nat):V:=.tp (F9 D N) 0
theorem RI{R:List (List Rat)}{i:Nat}(h:i<R.length):(R.flatMap RH)[i]?=some (LL cQ (ED R i)):=by
 have:=cu (fun x=>LL cQ x) R i h;rw[dS h];exact this
theorem oD{R:List (List Rat)}{i j:Nat}(h:j<(ED R i).length):(ED R i)[j]=Cm R i j:=(lM h 0).symm
theorem pq{R:List (List Rat)}{i j:Nat}(E:j<(ED R i).length):(((ED R i).flatMap cQ).drop (j*3)).take 3=cQ (Cm R i j):=by
 rw[d_ qJ (ED R i) j E,oD E]
theorem aqz{D:TQ}{N:Nat}(hl:D.B.length<=100000)(s:Nat):fn ZM conv ext 214 [Pg D N,I s]=some (Bo (decide (s∈D.B))):=by
 have tl:=aA D.B;unfold Pg F9;rw[mJ,nC [.tmp 4] [] func214];simp only[go_sem];generalize hL:iI _ _=y;obtain⟨r,rfl,hr⟩:=oZ hL (CB D.B).length (fun k st=>st.T 1=I s/\st.T 10=LI (CB D.B)/\st.T 11=I (CB D.B).length/\st.T 12=I k/\∀i (h:i<D.B.length),i<k->D.B[i]≠s)
  (fun r=>(∃T σ nx,r=(.exit 0,⟨T,σ,nx⟩)/\s∉D.B)\/(∃T σ nx,r=(.ret,⟨T,σ,nx⟩)/\T 4=Bo true/\s∈D.B)) (by
   clear hL;rintro k ⟨T,σ,nx⟩ Y ⟨S,G,E,J,hi⟩;simp only at S G E J;have f1:(k:Int)<((CB D.B).length:Int):=by omega
   have f2:=jF k;have f3:=ZU (n:=(k:Int)+1);have f5:=Ba (CB D.B) k Y;have O:k<D.B.length:=by omega
   have f6:=idx Y;rw[aB O,lM O 0]at f6
   by_cases hp:D.B[k]=s
   .have c1:((D.B[k]:Int)==(s:Int))=true:=by rw[beq_iff_eq];omega
    refine .inr ⟨_,by simp only[go_sem,S,G,E,J,f1,f2,f5,f6,c1];rfl,by simp,.inr ⟨_,_,_,rfl,?_⟩⟩;simp only[go_sem];rw[<- hp];exact zu O
   .have c1:((D.B[k]:Int)==(s:Int))=false:=by rw[sN];omega
    refine .inl ⟨_,by simp only[go_sem,S,G,E,J,f1,f2,f3,f5,f6,c1];rfl,?_⟩;simp only[go_sem,S,G,E];refine⟨rfl,fun i h a1=>?_⟩
    by_cases e:i=k
    .subst e;exact hp
    .exact hi i h (by omega)) (by
   clear hL;rintro ⟨T,σ,nx⟩ ⟨S,G,E,J,hi⟩;simp only at S G E J;refine⟨_,by simp only[go_sem,E,J,zi];rfl,by simp,.inl ⟨_,_,_,rfl,fun hm=>?_⟩⟩;obtain⟨i,h,e⟩:=zA hm;exact hi i h (by omega) e) (by
   simp only[go_sem];exact fun i _ h=>absurd h (zW _))
 rcases hr with ⟨T,σ,nx,rfl,hx⟩|⟨T,σ,nx,rfl,h4,hx⟩
 .rw[sH hx];simp only[go_sem]
 .rw[sJ hx];simp only[go_sem,h4]
theorem fC{q j:Nat}:∀ {R:List (List Rat)} {B:List Nat},(∀b∈B,b≠q)->I_ q j R B=0
 |[],_,_=>by cases ‹List Nat›<;>rfl
 |_ :: _,[],_=>rfl
 |x :: R,b :: B,h=>by
  show(if b=q then x.getD j 0 else 0)+I_ q j R B=0;rw[sQ (h b zO),fC fun c hc=>h c (zY _ hc)];grind
theorem Yj{q j:Nat}:∀ {R:List (List Rat)} {B:List Nat} {i:Nat},B.Nodup->B.length=R.length->(h:i<B.length)->B[i]=q->I_ q j R B=Cm R i j
 |[],B,i,_,hl,h,_=>by rw[yY]at hl;omega
 |_ :: _,[],i,_,hl,h,_=>by simp at h
 |x :: R,b :: B,0,hn,hl,h,e=>by
  show(if b=q then x.getD j 0 else 0)+I_ q j R B=_;have e:b=q:=e;rw[xk]at hn;rw[sO e,fC fun c hc J=>hn.1 (by rw[e,<- J];exact hc)];show x.getD j 0+0=x.getD j 0;grind
 |x :: R,b :: B,i+1,hn,hl,h,e=>by
  show(if b=q then x.getD j 0 else 0)+I_ q j R B=_;rw[xk]at hn;have E:i<B.length:=by simpa using h
  have G:B[i]=q:=e;rw[sQ fun hb=>hn.1 (by rw[hb,<- G];exact zu E),Yj hn.2 (by simpa using hl) E G];show 0+Cm R i j=Cm R i j;grind
theorem Ph{g:Nat->Rat}{q:Nat}(G:Zr q g)(J:g q≠0):∀ {d:Nat},q<d->(Lp d g↔0<g q)
 |0,h=>absurd h (zW _)
 |d+1,h=>by
  show(Lp d g\/(Zr d g/\0<g d))↔_
  by_cases e:q=d
  .subst e
   constructor
   .rintro (E|E)
    .exact absurd G E.GY
    .exact E.2
   .exact fun E=> .inr ⟨G,E⟩
  .have O:=Ph G J (d:=d) (by omega)
   constructor
   .rintro (E|E)
    .exact O.mp E
    .exact absurd (E.1 q (by omega)) J
   .exact fun E=> .inl (O.mpr E)
def UN(D:TQ)(s k:Nat)(z:Int):Prop:=(z=0/\Zr (k+1) (MK D s))\/(z≠0/\∃q,q<=k/\Zr q (MK D s)/\MK D s q≠0/\(0<z↔0<MK D s q))
theorem Yk(q:Rat):0<Ar q.num 0↔0<q:=by
 have:=UL q;constructor
 .intro h;exact zf fun hn=>by have:=this.mpr hn;omega
 .intro h
  have E:¬Ar q.num 0<=0:=fun e=>this.mp e h
  omega
theorem UO(q:Rat):Ar q.num 0=0↔q=0:=by
 have:=ai4 q;constructor
 .intro h;rw[h]at this;exact of_decide_eq_true this.symm
 .intro h;rw[sJ h]at this;exact beq_iff_eq.mp this
theorem UN.zero(D:TQ)(s:Nat):UN D s 0 (Ar (D.c.getD s 0).num 0):=by
 have e:MK D s 0=D.c.getD s 0:=rfl
 by_cases h:D.c.getD s 0=0
 .refine .inl ⟨(UO _).mpr h,fun q E=>?_⟩
  have:q=0:=by omega
  subst this;rw[e,h]
 .exact .inr ⟨fun G=>h ((UO _).mp G),0,zq _,fun q E=>absurd E (zW _),by rw[e];exact h,by rw[e];exact Yk _⟩
theorem UN.next{D:TQ}{s k:Nat}(h:UN D s k 0){w:Rat}(hw:MK D s (k+1)=w):UN D s (k+1) (Ar w.num 0):=by
 rcases h with ⟨_,G⟩|⟨h,_⟩
 .by_cases E:w=0
  .exact .inl ⟨(UO _).mpr E,Zr.succ.mpr ⟨G,by rw[hw,E]⟩⟩
  .exact .inr ⟨fun J=>E ((UO _).mp J),k+1,zq _,G,by rw[hw];exact E,by rw[hw];exact Yk _⟩
 .exact absurd rfl h
theorem UN.pos{D:TQ}{s k d:Nat}{z:Int}(h:UN D s k z)(hd:k<d)(J:z=0->k+1=d):0<z↔Lp d (MK D s):=by
 rcases h with ⟨G,E⟩|⟨G,q,E,O,S,Y⟩
 .subst G
  rw[J rfl]at E;exact⟨fun h=>absurd h (by decide),fun h=>absurd E h.GY⟩
 .rw[Y,Ph O S (by omega)]
theorem auy{D:TQ}{N:Nat}(h:ShF D N)(a8:D.B.Nodup){s:Nat}(hs:s<N)(b2:s∉D.B)(lex:Bool) :
  ∃z,fn ZM conv ext 215 [Pg D N,I s,Bo lex]=some (I z)/\(0<z↔Lp (if lex=true then N+1 else 1) (MK D s)):=by
 have hN:=h.sz;have tl:(CB D.B).length=D.R.length:=by rw[aA];exact h.Bq
 have hR:=h.Gz;have a1:=jF s;have a2:(s:Int)<(D.c.length:Int):=by have:=h.Gy;omega
 have a3:=bg (c:=cQ) (s:=3) qJ (by omega) D.c s (by have:=h.Gy;omega);have a4:=d_ (c:=cQ) (s:=3) qJ D.c s (by have:=h.Gy;omega);rw[<- lM (by have:=h.Gy;omega) 0]at a4;have a5:=bZ (c:=cQ) (s:=3) qJ D.c;have a6:s*3+3<=D.c.length*3:=by have:=h.Gy;omega
 have b3:Ln 6 (D.c.getD s 0):=by rw[lM (by have:=h.Gy;omega)];exact h.amI _ (zu _)
 have k1:=dM (D.c.getD s 0) (b3.mono (by decide));unfold Pg F9;rw[mJ,nC [.tmp 6] [] func215];simp only[go_sem,a1,a2,a3,a4,a5,a6,k1];have b5:=h.Gy;have m1:((0:Int)==0)=true:=by decide
 generalize O:iI _ _=y;obtain⟨x,rfl,hx⟩:=oZ O N (fun k st=>st.T 0= .tp (F9 D N) 0/\st.T 1=I s/\st.T 2=Bo lex/\st.T 8=I k/\(lex=false->k=0)/\∃z,st.T 7=I z/\UN D s k z)
  (fun x=>(∃T σ nx z,x=(.exit 0,⟨T,σ,nx⟩)/\T 7=I z/\(0<z↔Lp (if lex=true then N+1 else 1) (MK D s)))\/(∃T σ nx,x=(.ret,⟨T,σ,nx⟩)/\T 6=I (-1)/\¬Lp (if lex=true then N+1 else 1) (MK D s))) (by
   clear O;rintro k ⟨T,σ,nx⟩ hk ⟨t0,t1,t2,t8,G,z,t7,E⟩;simp only at t0 t1 t2 t8 t7;unfold F9 at t0;have f1:(k:Int)<(N:Int):=by omega
   have f2:=jF k;have f3:=ZU (n:=(k:Int)+1)
   by_cases z0:z=0
   .subst z0
    cases lex with
    |false=>
     have b4:=G rfl;subst b4;refine .inr ⟨_,by simp only[go_sem,t0,t1,t2,t8,t7,m1];rfl,by simp,.inl ⟨_,_,_,0,rfl,?_⟩⟩;simp only[go_sem,t7];exact E.pos (by decide) fun _=>rfl
    |true=>
     by_cases a7:k=s
     .have c1:((k:Int)==(s:Int))=true:=by rw[a7];simp
      refine .inr ⟨_,by simp only[go_sem,t0,t1,t2,t8,t7,m1,f1,c1];rfl,by simp,.inr ⟨_,_,_,rfl,?_⟩⟩;simp only[go_sem];have e:MK D s (s+1)= -1:=by
       unfold MK;rw[sQ (by omega),sO rfl];show -1+I_ s s D.R D.B= -1;rw[fC fun b hb (e:b=s)=>b2 (by rw[<- e];exact hb)];grind
      rw[a7]at E;rcases E with ⟨_,E⟩|⟨E,_⟩
      .rw[Ph E (by rw[e];decide) (by omega),e];decide
      .exact absurd rfl E
     .have c1:((k:Int)==(s:Int))=false:=by rw[sN];omega
      have eg:MK D s (k+1)=I_ k s D.R D.B:=by
       unfold MK;rw[sQ (by omega),sQ (by omega)];show 0+I_ k s D.R D.B=_;grind
      refine bD ?_
      conv=>
       enter [1,r,1,1]
       simp only[go_sem,t0,t1,t2,t8,t7,m1,f1,c1]
      generalize O:iI _ _=y;obtain⟨x,rfl,T1,b6,qI,rfl,t0,t1,t2,t8,t7⟩:=oZ O D.R.length (fun i st=>st.T 0= .tp (F9 D N) 0/\st.T 1=I s/\st.T 2=Bo true/\st.T 8=I k/\st.T 40=LI (CB D.B)/\st.T 41=I D.R.length/\st.T 42=I i/\∃w:Rat,st.T 7=I (Ar w.num 0)/\((∃j,∃J:j<D.B.length,j<i/\D.B[j]=k/\w=Cm D.R j s)\/((∀j (J:j<D.B.length),j<i->D.B[j]≠k)/\w=0)))
       (fun x=>∃T σ nx,x=(.exit 2,⟨T,σ,nx⟩)/\T 0= .tp (F9 D N) 0/\T 1=I s/\T 2=Bo true/\T 8=I k/\T 7=I (Ar (I_ k s D.R D.B).num 0)) (by
        clear O;rintro i ⟨T,σ,nx⟩ hi ⟨t0,t1,t2,t8,t40,t41,t42,w,t7,hw⟩;simp only at t0 t1 t2 t8 t40 t41 t42 t7;have g1:(i:Int)<(D.R.length:Int):=by omega
        have g2:=jF i;have g3:=ZU (n:=(i:Int)+1);have g4:=Ba (CB D.B) i (by omega);have S:i<D.B.length:=by have:=h.Bq;omega
        have g5:=idx (xs:=CB D.B) (k:=i) (by omega);rw[aB S,lM S 0]at g5
        by_cases hb:D.B[i]=k
        .have c2:((D.B[i]:Int)==(k:Int))=true:=by rw[beq_iff_eq];omega
         have rl:=dR h.row hi;have r1:=RI hi;have r2:=bg (c:=RH) (s:=1) (fun _=>rfl) (by omega) D.R i hi;have r3:(s:Int)<((ED D.R i).length:Int):=by omega
         have r4:=bg (c:=cQ) (s:=3) qJ (by omega) (ED D.R i) s (by omega);have r5:=pq (R:=D.R) (i:=i) (j:=s) (by omega);have r6:=bZ (c:=cQ) (s:=3) qJ (ED D.R i);have r7:s*3+3<=(ED D.R i).length*3:=by omega
         have bq:Ln 6 (Cm D.R i s):=by
          rw[<- oD (by omega)];exact h.big _ (by rw[dS hi];exact zu hi) _ (zu _)
         have k2:=dM (Cm D.R i s) (bq.mono (by decide));unfold F9 at t0;refine .inl ⟨_,by simp only[go_sem,t0,t1,t2,t8,t40,t41,t42,t7,tl,g1,g2,g3,g4,g5,c2,a1,r1,r2,r3,r4,r5,r6,r7,k2];rfl,?_⟩;simp only[go_sem,t0,t1,t2,t8,t40,t41];exact⟨rfl,rfl,_,rfl,.inl ⟨i,S,by omega,hb,rfl⟩⟩
        .have c2:((D.B[i]:Int)==(k:Int))=false:=by rw[sN];omega
         refine .inl ⟨_,by simp only[go_sem,t0,t1,t2,t8,t40,t41,t42,t7,tl,g1,g2,g3,g4,g5,c2];rfl,?_⟩;simp only[go_sem,t0,t1,t2,t8,t40,t41,t7];refine⟨rfl,w,rfl,?_⟩;rcases hw with ⟨j,J,h1,Y,h3⟩|⟨h1,Y⟩
         .exact .inl ⟨j,J,by omega,Y,h3⟩
         .refine .inr ⟨fun j J b7=>?_,Y⟩
          by_cases e:j=i
          .subst e;exact hb
          .exact h1 j J (by omega)) (by
        clear O;rintro ⟨T,σ,nx⟩ ⟨t0,t1,t2,t8,t40,t41,t42,w,t7,hw⟩;simp only at t0 t1 t2 t8 t40 t41 t42 t7;refine⟨_,by simp only[go_sem,t41,t42,zi];rfl,by simp,_,_,_,rfl,?_⟩;simp only[go_sem,t0,t1,t2,t8,t7];have:w=I_ k s D.R D.B:=by
         rcases hw with ⟨j,J,h1,Y,h3⟩|⟨h1,Y⟩
         .rw[Yj a8 h.Bq J Y,h3]
         .rw[fC,Y]
          intro b hb e;obtain⟨j,J,e2⟩:=zA hb;exact h1 j J (by have:=h.Bq;omega) (e2.trans e)
        rw[this]) (by
        simp only[go_sem,t0,t1,t2,t8,t7,tl];exact⟨rfl,0,rfl,.inr ⟨fun j _ J=>absurd J (zW _),rfl⟩⟩)
      refine⟨_,by simp only[go_sem,t8,f3];rfl,.inl ⟨_,rfl,?_⟩⟩;simp only[go_sem,t0,t1,t2,t7];exact⟨rfl,by simp,_,rfl,E.next eg⟩
   .have c0:(z==(0:Int))=false:=by rw[sN];exact z0
    refine .inr ⟨_,by simp only[go_sem,t0,t1,t2,t8,t7,c0];rfl,by simp,.inl ⟨_,_,_,z,rfl,?_⟩⟩;simp only[go_sem,t7];refine E.pos ?_ fun e=>absurd e z0
    cases lex with
    |false=>have:=G rfl;simp;omega
    |true=>simp;omega) (by
   clear O;rintro ⟨T,σ,nx⟩ ⟨t0,t1,t2,t8,G,z,t7,E⟩;simp only at t0 t1 t2 t8 t7;unfold F9 at t0;have fin:0<z↔Lp (if lex=true then N+1 else 1) (MK D s):=by
    cases lex with
    |false=>have:=G rfl;omega
    |true=>exact E.pos (by simp) fun _=>by simp
   by_cases z0:z=0
   .subst z0
    cases lex with
    |false=>have:=G rfl;omega
    |true=>
     refine⟨_,by simp only[go_sem,t0,t1,t2,t8,t7,m1,zi];rfl,by simp,.inl ⟨_,_,_,0,rfl,?_⟩⟩;simp only[go_sem,t7];exact fin
   .have c0:(z==(0:Int))=false:=by rw[sN];exact z0
    refine⟨_,by simp only[go_sem,t0,t1,t2,t8,t7,c0];rfl,by simp,.inl ⟨_,_,_,z,rfl,?_⟩⟩;simp only[go_sem,t7];exact fin) (by
   simp only[go_sem];exact⟨rfl,fun _=>trivial,_,rfl,UN.zero D s⟩)
 rcases hx with ⟨T,σ,nx,z,rfl,t7,E⟩|⟨T,σ,nx,rfl,t6,E⟩
 .exact⟨z,by simp only[go_sem,t7],E⟩
 .exact⟨-1,by simp only[go_sem,t6],fun h=>absurd h (by decide),fun h=>absurd h E⟩
def qo(D:TQ)(N k i:Nat):Rat:=Cm D.R i N / Cm D.R i k
def EK(D:TQ)(N k i:Nat)(r:Int):Prop :=
 (r= -1/\∀j,j<i->¬0<Cm D.R j k)\/∃r':Nat,r=r'/\r'<i/\0<Cm D.R r' k/\(∀j,j<i->0<Cm D.R j k->qo D N k r'<=qo D N k j) /\
  ∀j,j<i->0<Cm D.R j k->qo D N k r'=qo D N k j->D.B.getD r' 0<=D.B.getD j 0
section
variable {D:TQ} {N k i:Nat} {r:Int}
theorem EK.skip(h:EK D N k i r)(hn:¬0<Cm D.R i k):EK D N k (i+1) r:=by
 have G:∀j,j<i+1->0<Cm D.R j k->j<i:=fun j E hp=>by
  by_cases e:j=i
  .subst e;exact absurd hp hn
  .omega
 rcases h with ⟨rfl,h⟩|⟨r',rfl,Y,J,O,S⟩
 .exact .inl ⟨rfl,fun j E hp=>h j (G j E hp) hp⟩
 .exact .inr ⟨r',rfl,by omega,J,fun j E hp=>O j (G j E hp) hp,fun j E hp=>S j (G j E hp) hp⟩
theorem EK.first(h:EK D N k i (-1))(hp:0<Cm D.R i k):EK D N k (i+1) i:=by
 rcases h with ⟨_,h⟩|⟨r',e,_⟩
 .have J:∀j,j<i+1->0<Cm D.R j k->j=i:=fun j G hp=>by
   by_cases e:j=i
   .exact e
   .exact absurd hp (h j (by omega))
  exact .inr ⟨i,rfl,by omega,hp,fun j G E=>by rw[J j G E];grind,fun j G E _=>by rw[J j G E];exact zq _⟩
 .omega
theorem EK.better{r:Nat}(h:EK D N k i r)(hp:0<Cm D.R i k)(hc:qo D N k i<qo D N k r\/(qo D N k i=qo D N k r/\D.B.getD i 0<D.B.getD r 0)):EK D N k (i+1) i:=by
 rcases h with ⟨e,_⟩|⟨r',e,S,Y,G,J⟩
 .omega
 .have:r=r':=by omega
  subst this;refine .inr ⟨i,rfl,by omega,hp,fun j O E=>?_,fun j O E he=>?_⟩
  .by_cases e:j=i
   .subst e;grind
   .have:=G j (by omega) E;grind
  .by_cases e:j=i
   .subst e;exact zq _
   .have g1:=G j (by omega) E
    rcases hc with hc|⟨hc,hb⟩
    .grind
    .have:=J j (by omega) E (by grind);omega
theorem EK.keep{r:Nat}(h:EK D N k i r)(hc:qo D N k r<qo D N k i\/(qo D N k i=qo D N k r/\D.B.getD r 0<=D.B.getD i 0)):EK D N k (i+1) r:=by
 rcases h with ⟨e,_⟩|⟨r',e,h1,G,J,O⟩
 .omega
 .have:r=r':=by omega
  subst this;refine .inr ⟨r,rfl,by omega,G,fun j S E=>?_,fun j S E Y=>?_⟩
  .by_cases e:j=i
   .subst e;grind
   .exact J j (by omega) E
  .by_cases e:j=i
   .subst e
    rcases hc with hc|⟨hc,hb⟩
    .grind
    .exact hb
   .exact O j (by omega) E Y
end
theorem UQ(x y:Rat):Ar (x.num*y.den) (y.num*x.den)<0↔x<y:=by
 rw[Rat.lt_iff];unfold Ar
 by_cases h:x.num*y.den<y.num*x.den
 .rw[sO h];exact⟨fun _=>h,fun _=>by decide⟩
 .rw[sQ h]
  refine⟨fun E=>?_,fun E=>absurd E h⟩
  split at E<;>exact absurd E (by decide)
theorem amJ(x y:Rat):(Ar (x.num*y.den) (y.num*x.den)==0)=decide (x=y):=by
 have E:=Rat.lt_iff x y;have G:=Rat.lt_iff y x
 by_cases e:x=y
 .rw[sJ e]
  subst e;unfold Ar;rw[sQ (by omega),sO rfl];rfl
 .rw[sH e]
  by_cases J:x<y
  .unfold Ar;rw[sO (E.mp J)];rfl
  .have O:y<x:=by grind
   have:=G.mp O;unfold Ar;rw[sQ (by omega),sQ (by omega)];rfl
theorem aqA{x y:Rat}{a b:Nat}(E:Ln a x)(G:Ln b y)(J:y.num≠0)(O:1<=a+b):Ln (a+b) (x / y):=by
 rw[ahk x y J];have S:=jZ x.num.natAbs y.den;have Y:=jZ x.den y.num.natAbs;have:=E.1;have:=E.2;have:=G.1;have:=G.2;exact acR (by rw[abI];omega) (by omega) O
theorem afC(a b:Rat):patch (cQ a) 0 (cQ b)=cQ b:=rfl
attribute [go_sem] afC
theorem aqB{D:TQ}{N:Nat}(h:ShF D N){k:Nat}(hk:k<N) :
  ∃r,fn ZM conv ext 216 [Pg D N,I k]=some (I r)/\EK D N k D.R.length r:=by
 have hN:=h.sz;have tl:(CB D.B).length=D.R.length:=by rw[aA];exact h.Bq
 have hR:=h.Gz;have a1:=jF k;have m1:(-1:Int)<0:=by decide
 have bq:∀i j,i<D.R.length->j<N+1->Ln 6 (Cm D.R i j):=fun i j hi hj=>by
  have rl:=dR h.row hi;rw[<- oD (by omega)];exact h.big _ (by rw[dS hi];exact zu hi) _ (zu _)
 have nz:∀i,0<Cm D.R i k->(Cm D.R i k).num≠0:=fun i hp e=>by have:=jA.mp e;grind
 have lq:∀i,i<D.R.length->0<Cm D.R i k->Ln 12 (qo D N k i):=fun i hi hp=>aqA (a:=6) (b:=6) (bq i N hi (by omega)) (bq i k hi (by omega)) (nz i hp) (by decide)
 unfold Pg F9;rw[mJ,nC [.tmp 4] [7,8] func216];simp only[go_sem];generalize hL:iI _ _=y;obtain⟨x,rfl,T',σ',nx',r,rfl,O,hb⟩:=oZ hL D.R.length (fun i st=>st.T 0= .tp (F9 D N) 0/\st.T 1=I k/\st.T 6= .rp 0 0/\st.T 14=LL RH D.R/\st.T 15=I D.R.length/\st.T 16=I i/\1<=st.nx/\∃r,st.T 5=I r/\EK D N k i r/\∃cs,st.σ 0=some ⟨cs,0,true⟩/\(∃u v w,cs=[u,v,w])/\∀r':Nat,r=r'->cs=cQ (qo D N k r'))
  (fun x=>∃T σ nx r,x=(.exit 0,⟨T,σ,nx⟩)/\T 5=I r/\EK D N k D.R.length r) (by
   clear hL;rintro i ⟨T,σ,nx⟩ hi ⟨S,Y,h6,FX,E,G,a7,r,O,hb,cs,a8,b6,b4⟩;simp only at S Y h6 FX E G a7 O a8;unfold F9 at S;obtain⟨u,v,w,rfl⟩:=b6;have f1:(i:Int)<(D.R.length:Int):=by omega
   have f2:=jF i;have f3:=ZU (n:=(i:Int)+1);have rl:=dR h.row hi;have r1:=RI hi;have r2:=bg (c:=RH) (s:=1) (fun _=>rfl) (by omega) D.R i hi;have r3:(k:Int)<((N+1:Nat):Int):=by omega
   have r4:=bg (c:=cQ) (s:=3) qJ (by omega) (ED D.R i) k (by omega);have r5:=pq (R:=D.R) (i:=i) (j:=k) (by omega);have r6:=bZ (c:=cQ) (s:=3) qJ (ED D.R i);rw[rl]at r6;have r7:k*3+3<=(N+1)*3:=by omega
   have s1:=dM (Cm D.R i k) ((bq i k hi (by omega)).mono (by decide))
   by_cases hp:0<Cm D.R i k
   .have c1:¬Ar (Cm D.R i k).num 0<=0:=fun e=>(UL _).mp e hp
    have w1:=ZU (n:=((N+1:Nat):Int) - 1);have w2:((N+1:Nat):Int) - 1=(N:Int):=by omega
    rw[w2]at w1;have n0:=jF N;have n3:(N:Int)<((N+1:Nat):Int):=by omega
    have n5:=pq (R:=D.R) (i:=i) (j:=N) (by omega);have n7:N*3+3<=(N+1)*3:=by omega
    have k1:=anP (Cm D.R i N) (Cm D.R i k) (bq i N hi (by omega)) (bq i k hi (by omega)) (by decide) (nz i hp);rw[show Cm D.R i N / Cm D.R i k=qo D N k i from rfl]at k1;have z0:¬(0:Nat)=nx:=by omega
    have z1:0<nx+1:=by omega
    have z2:nx<nx+1:=by omega
    rcases hb with ⟨rfl,hb⟩|⟨r',rfl,b7,b5,b8,b9⟩
    .refine .inl ⟨_,by simp only[go_sem,S,Y,h6,FX,E,G,O,a8,f1,f2,f3,r1,r2,rl,r3,r4,r5,r6,r7,s1,a1,c1,w1,w2,n0,n3,n5,n7,k1,m1,z0,z1,z2];rfl,?_⟩
     simp only[go_sem,S,Y,h6,FX,E,O,z0];exact⟨rfl,rfl,i,rfl,EK.first (.inl ⟨rfl,hb⟩) hp,_,rfl,⟨_,_,_,rfl⟩,fun r' e=>by rw[show r'=i by omega]⟩
    .have b2:EK D N k i r':=.inr ⟨r',rfl,b7,b5,b8,b9⟩
     have J:σ 0=some ⟨cQ (qo D N k r'),0,true⟩:=by rw[a8,b4 r' rfl]
     have q0:¬(r':Int)<0:=by omega
     have q1:(r':Int)<(D.R.length:Int):=by omega
     have q2:(0:Int)<=(r':Int):=by omega
     have q3:=Ba (CB D.B) i (by omega);have q4:=idx (xs:=CB D.B) (k:=i) (by omega);rw[aB (by have:=h.Bq;omega)]at q4;have q5:=Ba (CB D.B) r' (by omega);have q6:=idx (xs:=CB D.B) (k:=r') (by omega);rw[aB (by have:=h.Bq;omega)]at q6;have k2:=auv (qo D N k i) (qo D N k r') (lq i hi hp) (lq r' (by omega) b5) (by decide) (by decide) (by decide);have e1:=UQ (qo D N k i) (qo D N k r');have e2:=amJ (qo D N k i) (qo D N k r');generalize Ar ((qo D N k i).num*(qo D N k r').den) ((qo D N k r').num*(qo D N k i).den)=z at k2 e1 e2
     by_cases g1:qo D N k i<qo D N k r'
     .have a6:=e1.mpr g1
      refine .inl ⟨_,by simp only[go_sem,S,Y,h6,FX,E,G,O,J,f1,f2,f3,r1,r2,rl,r3,r4,r5,r6,r7,s1,a1,c1,w1,w2,n0,n3,n5,n7,k1,k2,q0,a6,z0,z1,z2];rfl,?_⟩;simp only[go_sem,S,Y,h6,FX,E,O,z0];exact⟨rfl,rfl,i,rfl,b2.better hp (.inl g1),_,rfl,⟨_,_,_,rfl⟩,fun r' e=>by rw[show r'=i by omega]⟩
     .have a6:¬z<0:=fun e=>g1 (e1.mp e)
      by_cases g2:qo D N k i=qo D N k r'
      .rw[sJ g2]at e2
       by_cases g3:D.B.getD i 0<D.B.getD r' 0
       .have b3:((D.B.getD i 0:Nat):Int)<((D.B.getD r' 0:Nat):Int):=by omega
        refine .inl ⟨_,by simp only[go_sem,S,Y,h6,FX,E,G,O,J,tl,f1,f2,f3,r1,r2,rl,r3,r4,r5,r6,r7,s1,a1,c1,w1,w2,n0,n3,n5,n7,k1,k2,q0,q1,q2,q3,q4,q5,q6,a6,e2,b3,z0,z1,z2];rfl,?_⟩;simp only[go_sem,S,Y,h6,FX,E,O,z0];exact⟨rfl,rfl,i,rfl,b2.better hp (.inr ⟨g2,g3⟩),_,rfl,⟨_,_,_,rfl⟩,fun r' e=>by rw[show r'=i by omega]⟩
       .have b3:¬((D.B.getD i 0:Nat):Int)<((D.B.getD r' 0:Nat):Int):=by omega
        refine .inl ⟨_,by simp only[go_sem,S,Y,h6,FX,E,G,O,J,tl,f1,f2,f3,r1,r2,rl,r3,r4,r5,r6,r7,s1,a1,c1,w1,w2,n0,n3,n5,n7,k1,k2,q0,q1,q2,q3,q4,q5,q6,a6,e2,b3,z0,z1,z2];rfl,?_⟩;simp only[go_sem,S,Y,h6,FX,E,O,z0,J];exact⟨rfl,rfl,r',rfl,b2.keep (.inr ⟨g2,by omega⟩),_,rfl,⟨_,_,_,rfl⟩,fun r2 e=>by rw[show r2=r' by omega]⟩
      .rw[sH g2]at e2
       refine .inl ⟨_,by simp only[go_sem,S,Y,h6,FX,E,G,O,J,tl,f1,f2,f3,r1,r2,rl,r3,r4,r5,r6,r7,s1,a1,c1,w1,w2,n0,n3,n5,n7,k1,k2,q0,a6,e2,z0,z1,z2];rfl,?_⟩;simp only[go_sem,S,Y,h6,FX,E,O,z0,J];exact⟨rfl,rfl,r',rfl,b2.keep (.inl (by grind)),_,rfl,⟨_,_,_,rfl⟩,fun r2 e=>by rw[show r2=r' by omega]⟩
   .have c1:Ar (Cm D.R i k).num 0<=0:=(UL _).mpr hp
    refine .inl ⟨_,by simp only[go_sem,S,Y,h6,FX,E,G,O,f1,f2,f3,r1,r2,rl,r3,r4,r5,r6,r7,s1,a1,c1];rfl,?_⟩;simp only[go_sem,S,Y,h6,FX,E,O];exact⟨rfl,rfl,a7,r,rfl,hb.skip hp,_,a8,⟨_,_,_,rfl⟩,b4⟩) (by
   clear hL;rintro ⟨T,σ,nx⟩ ⟨S,Y,h6,FX,E,G,a7,r,O,hb,_⟩;simp only at S Y h6 FX E G a7 O;refine⟨_,by simp only[go_sem,E,G,zi];rfl,by simp,_,_,_,r,rfl,?_,hb⟩;simp only[go_sem,O]) (by
   simp only[go_sem];exact⟨rfl,-1,rfl,.inl ⟨rfl,fun j hj=>absurd hj (zW _)⟩,_,rfl,⟨_,_,_,rfl⟩,fun r' e=>by omega⟩)
 exact⟨r,by simp only[go_sem,O],hb⟩
theorem fE{σ:Store}{b n d:Nat}{x:List Rat}(h:σ b=some ⟨x.flatMap cQ,3,true⟩)(E:x.length=n):strip σ (d+1) (.rs b 0 n)=some (LL cQ x,[b]):=by
 have G:=bZ (c:=cQ) (s:=3) qJ x;rw[aS,h];simp only[zk,yZ,yg];rw[sO (by omega),zl (by omega),aX (qH σ d) x];show some (V.ts _ n,[b])=_;rw[<- E]
theorem LC{σ:Store}{n d:Nat}:∀ {rb:List Nat} {R:List (List Rat)},rb.length=R.length->(∀i (h:i<rb.length),σ rb[i]=some ⟨(ED R i).flatMap cQ,3,true⟩)->(∀x∈R,x.length=n)->∃ids,stripL (strip σ (d+1)) (rb.map fun b=>V.rs b 0 n)=some (R.flatMap RH,ids)
 |[],[],_,_,_=>⟨[],rfl⟩
 |[],_ :: _,h,_,_=>by simp at h
 |_ :: _,[],h,_,_=>by simp at h
 |b :: rb,x :: R,h,hr,hn=>by
  obtain⟨ids,hi⟩:=LC (rb:=rb) (R:=R) (d:=d) (by simpa using h) (fun i hi=>by
   have:=hr (i+1) (by simpa using hi);exact this) fun y E=>hn y (zY _ E)
  have G:σ b=some ⟨x.flatMap cQ,3,true⟩:=hr 0 (by simp);refine⟨[b]++ids,?_⟩;rw[uN,au,fE G (hn x zO)];simp only[zk];rw[hi];rfl
theorem GV.ai7{σ:Store}{v:V}{n d:Nat}{cs t:List V}{ids:List Nat}(h:GV σ v n cs)(G:cs.length=n)(E:stripL (strip σ d) cs=some (t,ids)):∃J,strip σ (d+1) v=some (.ts t n,J):=by
 rcases h with ⟨rfl,rfl⟩|⟨b,hn,rfl,hb⟩
 .have:cs=[]:=zZ G
  subst this;rw[aY]at E;simp only[sW,sS]at E;obtain⟨rfl,rfl⟩:=E;exact⟨[],by rw[aT]⟩
 .refine⟨b :: ids,?_⟩
  rw[aS,hb];simp only[zk,yN,yZ,yg];rw[sO (by omega),zl (by omega),E];rfl
theorem abK{σ:Store}{bt bc:Nat}{vr vb:V}{rb:List Nat}{D:TQ}{N:Nat}(h:Fp σ bt bc vr vb rb D N)(hs:ShF D N):∃ids,strip σ 7 (.rp bt 0)=some (Pg D N,ids):=by
 obtain⟨ids,E⟩:=LC (d:=4) h.len h.row hs.row;obtain⟨S,Y⟩:=h.r.ai7 (by rw[zT,h.len]) E;have O:(CB D.B).length=D.R.length:=by rw[aA];exact hs.Bq
 obtain⟨G,s2⟩:=h.b.ai7 (d:=5) (by rw[qN,O]) (Dt ..);have J:strip σ 6 vb=some (LI (CB D.B),G):=by
  rw[s2];show some (V.ts _ D.R.length,G)=some (V.ts _ (CB D.B).length,G);rw[O]
 have s3:strip σ 6 (.rs bc 0 (N+1))=some (LL cQ D.c,[bc]):=fE (d:=5) h.c hs.Gy;have key:stripL (strip σ 6) [I N,vr,vb,.rs bc 0 (N+1)]=some (F9 D N,[]++(S++(G++([bc]++[])))):=by
  simp only[au,Y,J,s3,aQ,aY,zJ,zk];rfl
 exact⟨_,by rw[ND,h.t,zk,key];rfl⟩
theorem auz(Qp:TQ->Prop){N:Nat}(lex:Bool){d:Nat}(hd:d=if lex=true then N+1 else 1)(hI:∀D,Qp D->ShF D N/\D.B.Nodup)(a8:∀D D',Qp D->Og N d D D'->Qp D')
  {σ:Store} {nx bt bc:Nat} {vr vb:V} {rb:List Nat} {D:TQ} {n:Nat} (b7:Qp D) (hn:Xl N d n D) (h:Fp σ bt bc vr vb rb D N) (b8:∀b∈bt :: bc :: (bk vr++bk vb++rb),b<nx) :
  ∃σ' nx' G D',ev ZM Aa Ak 186 [.rp bt 0,Bo lex] σ nx=some (Bo G,σ',nx')/\alz N d D G D'/\Qp D'/\Fp σ' bt bc vr vb rb D' N/\nx<=nx'/\∀b,b<nx->b∉bc :: (bk vb++rb)->σ' b=σ b:=by
 rw[nC [.tmp 4] [] func186];simp only[go_sem];generalize hL:iI _ _=y;obtain⟨x,rfl,T1,a6,qI,G,D1,rfl,t4,hR,hQ,hT,J,fr⟩:=jS hL (fun m st=>st.T 0= .rp bt 0/\st.T 1=Bo lex/\nx<=st.nx/\(∀b,b<nx->b∉bc :: (bk vb++rb)->st.σ b=σ b)/\∃D1,G5 N d D D1/\Qp D1/\Fp st.σ bt bc vr vb rb D1 N/\Xl N d m D1)
  (fun x=>∃T σ' nx' G D',x=(.ret,⟨T,σ',nx'⟩)/\T 4=Bo G/\alz N d D G D'/\Qp D'/\Fp σ' bt bc vr vb rb D' N/\nx<=nx'/\∀b,b<nx->b∉bc :: (bk vb++rb)->σ' b=σ b) (by
   clear hL;rintro m ⟨T,a6,qI⟩ ⟨t0,t1,J,fr,D1,hr,hQ,hT,b3⟩;simp only at t0 t1 J hT;obtain⟨hS,b9⟩:=hI D1 hQ;obtain⟨ids,O⟩:=abK hT hS;have S:=hT.t;have hN:=hS.sz;refine bD ?_
   conv=>
    enter [1,r,1,1]
    simp only[go_sem,t0,t1]
   generalize hL:iI _ _=z;obtain⟨x,rfl,T2,hx⟩:=oZ hL N (fun k st=>st.T 0= .rp bt 0/\st.T 1=Bo lex/\st.T 6=I k/\st.σ=a6/\st.nx=qI/\((st.T 5=I (-1)/\∀j,j<k->j∉D1.B->¬Lp d (MK D1 j))\/∃s:Nat,st.T 5=I s/\ML N d D1 s))
    (fun x=>∃T,x=(.exit 2,⟨T,a6,qI⟩)/\T 0= .rp bt 0/\T 1=Bo lex/\((T 5=I (-1)/\∀j,j<N->j∉D1.B->¬Lp d (MK D1 j))\/∃s:Nat,T 5=I s/\ML N d D1 s)) (by
     clear hL;rintro k ⟨T,σ2,CU⟩ hk ⟨t0,t1,t6,Y,E,h5⟩;simp only at t0 t1 t6 Y E h5;subst Y E;have f1:(k:Int)<(N:Int):=by omega
     have f3:=ZU (n:=(k:Int)+1);rcases h5 with ⟨t5,a1⟩|⟨s,t5,hE⟩
     .have m1:(-1:Int)<0:=by decide
      have k1:=aqz (D:=D1) (N:=N) (by have:=hS.Bq;have:=hS.Gz;omega) k
      by_cases hB:k∈D1.B
      .rw[sJ hB]at k1
       refine .inl ⟨_,by simp only[go_sem,t0,t1,t5,t6,S,O,f1,f3,m1,k1];rfl,?_⟩;simp only[go_sem,t0,t1,t5];refine⟨rfl,.inl fun j hj a7=>?_⟩
       by_cases e:j=k
       .subst e;exact absurd hB a7
       .exact a1 j (by omega) a7
      .rw[sH hB]at k1
       obtain⟨z,k2,hz⟩:=auy hS b9 hk hB lex;rw[<- hd]at hz
       by_cases hp:0<z
       .refine .inl ⟨_,by simp only[go_sem,t0,t1,t5,t6,S,O,f1,f3,m1,k1,k2,hp];rfl,?_⟩
        simp only[go_sem,t0,t1];exact⟨rfl,.inr ⟨k,rfl,hk,hB,hz.mp hp,a1⟩⟩
       .refine .inl ⟨_,by simp only[go_sem,t0,t1,t5,t6,S,O,f1,f3,m1,k1,k2,hp];rfl,?_⟩
        simp only[go_sem,t0,t1,t5];refine⟨rfl,.inl fun j hj a7=>?_⟩
        by_cases e:j=k
        .subst e;exact fun hl=>hp (hz.mpr hl)
        .exact a1 j (by omega) a7
     .have m1:¬(s:Int)<0:=by omega
      refine .inr ⟨_,by simp only[go_sem,t0,t1,t5,t6,S,f1,m1];rfl,by simp,_,rfl,?_⟩;simp only[go_sem,t0,t1,t5];exact .inr ⟨s,rfl,hE⟩) (by
     clear hL;rintro ⟨T,σ2,CU⟩ ⟨t0,t1,t6,Y,E,h5⟩;simp only at t0 t1 t6 Y E h5;subst Y E;refine⟨_,by simp only[go_sem,t0,t1,t6,S,zi];rfl,by simp,_,rfl,?_⟩;simp only[go_sem,t0,t1];exact h5) (by
     simp only[go_sem,t0,t1];exact .inl fun j hj=>absurd hj (zW _))
   obtain⟨rfl,t0,t1,h5⟩:=hx;rcases h5 with ⟨t5,b4⟩|⟨s,t5,hE⟩
   .have m1:(-1:Int)<0:=by decide
    refine⟨_,by simp only[go_sem,t0,t1,t5,m1];rfl,.inr ⟨by simp,_,_,_,true,D1,rfl,?_⟩⟩;simp only[go_sem];exact⟨⟨hr,.inl ⟨rfl,b4⟩⟩,hQ,hT,J,fr⟩
   .have m1:¬(s:Int)<0:=by omega
    obtain⟨r,k3,hb⟩:=aqB hS hE.lt;rcases hb with ⟨rfl,hb⟩|⟨r',rfl,b5,c0,c2,c3⟩
    .have m2:(-1:Int)<0:=by decide
     refine⟨_,by simp only[go_sem,t0,t1,t5,m1,O,k3,m2];rfl,.inr ⟨by simp,_,_,_,false,D1,rfl,?_⟩⟩;simp only[go_sem];exact⟨⟨hr,.inr ⟨rfl,s,hE,hb⟩⟩,hQ,hT,J,fr⟩
    .have m2:¬(r':Int)<0:=by omega
     have b2:Og N d D1 (Oe D1 r' s):=⟨s,r',hE,⟨b5,c0,c2,c3⟩,rfl⟩;have b6:=a8 _ _ hQ b2;obtain⟨c5,AA,k4,Oz,c6,c4⟩:=ai6 hT hS (hI _ b6).1 (fun b hb=>xQ (b8 b hb) J) b5 hE.lt (by grind);cases m with
     |zero=>exact absurd b3 id
     |succ m'=>
      refine⟨_,by simp only[go_sem,qE,t0,t1,t5,m1,O,k3,m2,k4];rfl,.inl ⟨_,rfl,m',by omega,?_⟩⟩;simp only[go_sem,t0,t1];exact⟨by omega,fun b hb hn=>(c4 b (by omega) hn).trans (fr b hb hn),_,hr.tail b2,b6,Oz,b3 _ b2⟩) n (by
   simp only[go_sem];exact⟨fun _ _ _=>trivial,D,G5.refl D,b7,h,hn⟩)
 exact⟨a6,qI,G,D1,by simp only[go_sem,t4],hR,hQ,hT,J,fr⟩
attribute [-go_sem] qy
theorem aqC{m n:Nat}{A b c:List Int}(hA:A.length=m*n)(hm:m<=1000)(hn:n<=1000){i:Nat}(hi:i<m) :
  fn ZM conv ext 212 [.agg (C9 m n A b c),I i]=some (.ts (((A.drop (i*n)).take n).flatMap cI) n):=by
 have Y:i*n<=m*n:=zD _ (by omega);have E:(i+1)*n<=m*n:=zD _ (by omega);have h3:m*n<=1000*1000:=xK hm hn;have G:IntKind.i64.wrap ((i:Int)*(n:Int))=((i*n:Nat):Int):=by rw[ZU (by rw[<- yj];omega) (by rw[<- yj];omega),yj]
 have f1:=ZU (n:=(i:Int)+1);have J:IntKind.i64.wrap (((i:Int)+1)*(n:Int))=(((i+1)*n:Nat):Int):=by rw[show((i:Int)+1)=((i+1:Nat):Int)from rfl,ZU (by rw[<- yj];omega) (by rw[<- yj];omega),yj]
 have f3:((i*n:Nat):Int)<=(((i+1)*n:Nat):Int):=Int.ofNat_le.mpr (zD _ (by omega));have f4:(((i+1)*n:Nat):Int)<=((A.length:Nat):Int):=by rw[hA];exact Int.ofNat_le.mpr E
 have f6:(0:Int)<=((i*n:Nat):Int):=by omega
 have f7:(0:Int)<=(((i+1)*n:Nat):Int):=by omega
 have f8:(i+1)*n-i*n=n:=by rw[xq];omega
 have O:i*n<=(i+1)*n:=zD _ (by omega);have S:(i+1)*n<=A.length:=by omega
 unfold C9;rw[mJ,nC [.tmp 4] [] func212];simp only[go_sem,G,J,f1,f3,f4,f6,f7,f8,O,S];rw[XH,qL]
def Gf(f:Nat->Int):Nat->Int
 |0=>0
 |k+1=>Gf f k+f k
def Fq(A b:List Int)(m n k:Nat):List Int:=(List.range (n+m+1)).map fun j=>if j<n\/j=n+m then Gf (fun i=>cell0 A b m n i j) k else 0
def qs(z:List Int):List Rat:=z.map fun(x:Int)=>(x:Rat)
def Dq(A b:List Int)(m n k:Nat):TQ:=⟨(EJ A b m n k).map qs,(List.range k).map fun i=>n+i,qs (Fq A b m n k)⟩
theorem og(A b:List Int)(m n k:Nat):(Fq A b m n k).length=n+m+1:=by simp[Fq]
theorem abL(A b:List Int)(m n:Nat):Fq A b m n 0=List.replicate (n+m+1) 0:=by
 unfold Fq Gf;simp[List.map_const']
def ai8(A b c:List Int)(m n:Nat)(σ:Store)(nx k:Nat)(σ':Store)(nx':Nat)(bt:Nat):Prop:=∃bc vr vb rb,Fp σ' bt bc vr vb rb (Dq A b m n k) (n+m)/\(∀x∈bt :: bc :: (bk vr++bk vb++rb),nx<x/\x<nx')/\∀x,x<nx->σ' x=σ x
def Jl(v:V)(σ:Store)(lo nx:Nat)(L:List Rat):Prop:=(L=[]/\v= .nil)\/∃b,L≠[]/\lo<=b/\b<nx/\v= .rs b 0 L.length/\σ b=some ⟨L.flatMap cQ,3,true⟩
theorem rJ{v:V}{σ:Store}{lo nx:Nat}{L:List Rat}(h:Jl v σ lo nx L)(S:lo<=nx)(x:Rat)(Y:L.length<100000) :
  ∃σ',Ah (upd σ nx (some ⟨cQ x,3,true⟩)) (nx+1) 3 56 v (cQ x) 1=some (.rs (nx+1) 0 (L.length+1),σ',nx+1+1)/\Jl (.rs (nx+1) 0 (L.length+1)) σ' lo (nx+1+1) (L++[x])/\∀y,y<lo->σ' y=σ y:=by
 have hg:CG cQ 3 (fun _=>v) σ nx 0 L:=by
  rcases h with ⟨rfl,rfl⟩|⟨b,G,h2,J,E,O⟩
  .exact .inl ⟨rfl,rfl⟩
  .exact .inr ⟨b,E,G,O,J⟩
 obtain⟨σ',g1,g2,g3⟩:=ku (bytes:=56) qJ (fun _=>rfl) (by decide) hg x Y (by decide);refine⟨σ',g1,.inr ⟨nx+1,by simp,by omega,by omega,by rw[zo];rfl,g2⟩,fun y hy=>g3 y (by omega) fun b o l e=>?_⟩;rcases h with ⟨rfl,rfl⟩|⟨b',G,h2,J,E,O⟩
 .cases e
 .rw[E]at e;cases e;omega
theorem qB{A b:List Int}{m n i:Nat}(E:∀x∈A,-1000<=x/\x<=1000)(G:∀x∈b,-1000<=x/\x<=1000)(j:Nat):-1000<=cell0 A b m n i j/\cell0 A b m n i j<=1000:=by
 have J:=Rf (b:=b) (i:=i) (lK E (i*n+j));have O:=Rf (b:=b) (i:=i) (lK G i);unfold cell0
 split
 .omega
 .split
  .split<;>omega
  .omega
theorem ac'{f:Nat->Int}(h:∀i,-1000<=f i/\f i<=1000):∀k:Nat,-(1000*(k:Int))<=Gf f k/\Gf f k<=1000*(k:Int)
 |0=>by unfold Gf;omega
 |k+1=>by
  have:=ac' h k;have:=h k;unfold Gf;omega
theorem gQ(z:List Int):(qs z).length=z.length:=by simp[qs]
theorem Pj{z:List Int}{j:Nat}(h:j<z.length):(qs z)[j]'(by rw[gQ];exact h)=((z[j]:Int):Rat):=by simp[qs]
theorem Jm(A b:List Int)(m n k:Nat){j:Nat}(h:j<n+m+1):(Fq A b m n k)[j]'(by rw[og];exact h)=if j<n\/j=n+m then Gf (fun i=>cell0 A b m n i j) k else 0:=by simp[Fq]
theorem ai9{A b:List Int}{m n k:Nat}(E:∀x∈A,-1000<=x/\x<=1000)(G:∀x∈b,-1000<=x/\x<=1000)(J:k<=400){j:Nat}(h:j<n+m+1):-1000000<=(Fq A b m n k)[j]'(by rw[og];exact h)/\(Fq A b m n k)[j]'(by rw[og];exact h)<=1000000:=by
 rw[Jm _ _ _ _ _ h];have:=ac' (f:=fun i=>cell0 A b m n i j) (fun i=>qB E G j) k
 split<;>omega
theorem aqD{A b c:List Int}{m n:Nat}(hA:A.length=m*n)(hb:b.length=m)(hm:m<=400)(hn:n<=400)(b5:∀x∈A,-1000<=x/\x<=1000)(a7:∀x∈b,-1000<=x/\x<=1000)(σ:Store)(nx:Nat) :
  ∃σ' nx' bt,ev ZM Aa Ak 185 [.agg (C9 m n A b c)] σ nx=some (.rp bt 0,σ',nx')/\ai8 A b c m n σ nx m σ' nx' bt:=by
 obtain⟨N,hN⟩:∃N,N=n+m:=⟨_,rfl⟩;have f1:(n:Int)+(m:Int)=(N:Int):=by omega
 have f2:=ZU (n:=(N:Int));obtain⟨s0,b6⟩:∃s0,s0=upd (upd σ nx (some ⟨C9 m n A b c,0,true⟩)) (nx+1) (some ⟨[I N,.nil,.nil,.nil],0,true⟩):=⟨_,rfl⟩;have YJ:∀x,x<nx->s0 x=σ x:=fun x hx=>by rw[b6,Zm,Zm]
 have m9:s0 nx=some ⟨C9 m n A b c,0,true⟩:=by rw[b6,Zm,Zj]
 have n0:s0 (nx+1)=some ⟨[I N,.nil,.nil,.nil],0,true⟩:=by rw[b6,Zj]
 have k0:fn ZM conv ext 190 [I 0]=some (.agg (cQ 0)):=dO 0 (by decide) (by decide)
 unfold C9 at b6⊢;rw[nC [.tmp 2] [5,30,33] func185];simp only[go_sem,f1,f2,<- b6];generalize hL:iI _ _=y;obtain⟨x,rfl,T1,a6,qI,bc,rfl,t1,t3,n1,g1,g2,g3,g4,n6⟩:=oZ hL (N+1) (fun j st=>st.T 1= .rp nx 0/\st.T 3= .rp (nx+1) 0/\st.T 4=I j/\nx+2<=st.nx/\st.σ nx=some ⟨C9 m n A b c,0,true⟩/\(∀x,x<nx->st.σ x=σ x)/\((j=0/\st.σ (nx+1)=some ⟨[I N,.nil,.nil,.nil],0,true⟩)\/∃bc,0<j/\nx+1<bc/\bc<st.nx/\st.σ (nx+1)=some ⟨[I N,.nil,.nil,.rs bc 0 j],0,true⟩/\st.σ bc=some ⟨(List.replicate j (0:Rat)).flatMap cQ,3,true⟩))
  (fun x=>∃T a6 qI bc,x=(.exit 0,⟨T,a6,qI⟩)/\T 1= .rp nx 0/\T 3= .rp (nx+1) 0/\nx+1<bc/\bc<qI/\a6 nx=some ⟨C9 m n A b c,0,true⟩/\a6 (nx+1)=some ⟨[I N,.nil,.nil,.rs bc 0 (N+1)],0,true⟩/\a6 bc=some ⟨(List.replicate (N+1) (0:Rat)).flatMap cQ,3,true⟩/\∀x,x<nx->a6 x=σ x) (by
   clear hL;rintro j ⟨T,a6,qI⟩ hj ⟨t1,t3,t4,b4,sn,fr,hc⟩;simp only at t1 t3 t4 b4 sn fr hc;have g1:(j:Int)<=(N:Int):=by omega
   have g3:=ZU (n:=(j:Int)+1);have y1:nx+1<qI:=by omega
   have y2:nx+1<qI+1:=by omega
   have y3:qI<qI+1:=by omega
   have y4:¬nx+1=qI:=by omega
   have y5:¬nx+1=qI+1:=by omega
   have y6:(nx+1==qI)=false:=by rw[sN];omega
   have y7:(qI==nx+1)=false:=by rw[sN];omega
   have y8:nx+1<qI+1+1:=by omega
   have y9:=jF N;rcases hc with ⟨rfl,st⟩|⟨bc,n7,c1,c2,st,sc⟩
   .refine .inl ⟨_,by simp only[go_sem,t1,t3,t4,st,g1,g3,k0,y1,y2,y3,y4,y5,y6,y7,y8,y9];rfl,?_⟩
    simp only[go_sem,t1,t3];refine⟨rfl,by omega,?_,fun x hx=>?_,.inr ⟨qI+1,by omega,by omega,rfl,?_⟩⟩
    .rw[Zm,Zm,Zm];exact sn
    .rw[Zm,Zm,Zm];exact fr x hx
    .rw[Zm,Zj];rfl
   .have e8:=rD (σ:=restrict (upd a6 qI (some ⟨cQ 0,3,true⟩)) [bc,qI]) (nx:=qI+1) (size:=3) (bytes:=56) (b:=bc) (len:=j) (m:=1) (row:=cQ 0) (by rw[fO,Zm];exact sc) (by rw[bZ qJ,yU]) (by decide) (by decide) (by unfold maxLen;omega) (by omega) rfl
    have x1:bc<qI+1:=by omega
    have x2:(nx+1==bc)=false:=by rw[sN];omega
    have x3:(bc==nx+1)=false:=by rw[sN];omega
    have x4:¬nx+1=bc:=by omega
    refine .inl ⟨_,by simp only[go_sem,t1,t3,t4,st,g1,g3,k0,y1,y2,y3,y4,y5,y6,y7,y8,y9,e8,x1,x2,x3,x4];rfl,?_⟩;simp only[go_sem,t1,t3];refine⟨rfl,by omega,?_,fun x hx=>?_,.inr ⟨qI+1,by omega,by omega,by omega,rfl,?_⟩⟩
    .rw[Zm,Zm,Zm,Zm];exact sn
    .rw[Zm,Zm,Zm,Zm];exact fr x hx
    .rw[Zm,Zj,uK,zQ];simp) (by
   clear hL;rintro ⟨T,a6,qI⟩ ⟨t1,t3,t4,b4,sn,fr,hc⟩;simp only at t1 t3 t4 b4 sn fr hc;rcases hc with ⟨h0,_⟩|⟨bc,n7,c1,c2,st,sc⟩
   .omega
   .have g1:¬((N+1:Nat):Int)<=(N:Int):=by omega
    refine⟨_,by simp only[go_sem,t3,t4,st,g1];rfl,by simp,_,_,_,bc,rfl,?_⟩;simp only[go_sem,t1,t3];exact⟨c1,c2,sn,st,sc,fr⟩) (by
   simp only[go_sem];exact⟨m9,YJ,.inl n0⟩)
 clear hL;have i0:ai8 A b c m n σ nx 0 a6 qI (nx+1):=by
  refine⟨bc,.nil,.nil,[],⟨?_,.inl ⟨rfl,rfl⟩,fun i h=>absurd h (zW _),.inl ⟨rfl,rfl⟩,?_,rfl,?_⟩,fun x hx=>?_,n6⟩
  .rw[<- hN];exact g3
  .rw[g4]
   show _=some (Fv.mk ((qs (Fq A b m n 0)).flatMap cQ) 3 true);rw[abL,<- hN];unfold qs;rw[List.map_replicate];rfl
  .simp only[bk,zH,xk,yD,zK,not_false_iff,true_and,List.nodup_nil,and_true]
   omega
  .simp only[bk,zH,zX,zK,or_false]at hx
   omega
 simp only[go_sem,t1,t3];generalize hL:iI _ _=y;obtain⟨x,rfl,T2,σ2,CU,rfl,t3,hF⟩:=oZ hL m (fun i st=>st.T 1= .rp nx 0/\st.T 3= .rp (nx+1) 0/\st.T 5=I i/\nx+2<=st.nx/\st.σ nx=some ⟨C9 m n A b c,0,true⟩/\ai8 A b c m n σ nx i st.σ st.nx (nx+1))
  (fun x=>∃T σ2 CU,x=(.exit 2,⟨T,σ2,CU⟩)/\T 3= .rp (nx+1) 0/\ai8 A b c m n σ nx m σ2 CU (nx+1)) (by
   clear hL;rintro i ⟨T,σ2,CU⟩ hi ⟨t1,t3,t5,b4,sn,bc,vr,vb,rb,hT,b7,fr⟩;simp only at t1 t3 t5 b4 sn hT b7 fr;unfold C9 at sn;have g1:(i:Int)<(m:Int):=by omega
   have g2:=jF i;have g3:=ZU (n:=(i:Int)+1);have g9:(i:Int)<(b.length:Int):=by omega
   have g10:(b.flatMap cI)[i]?=some (I (b.getD i 0)):=by
    rw[idx (by omega),zx,zy (by omega)];rfl
   have g11:=Ba b i (by omega);have k1:=aqC (b:=b) (c:=c) hA (by omega) (by omega) hi;unfold C9 at k1;obtain⟨R0,c5⟩:∃R0,R0=qs (row0 A b m n i):=⟨_,rfl⟩;have c7:R0.length=N+1:=by rw[c5,gQ,fF,hN]
   have c8:∀j (h:j<R0.length),R0[j]=((cell0 A b m n i j:Int):Rat):=fun j h=>by
    subst c5;rw[Pj (by rw[fF];omega),fG _ _ _ _ _ (by omega)]
   have c9:∀j,j<R0.length->R0.take j++[((cell0 A b m n i j:Int):Rat)]=R0.take (j+1):=fun j h=>by
    rw[yL,zy h,c8 j h];rfl
   have kI:∀j,fn ZM conv ext 190 [I (cell0 A b m n i j)]=some (.agg (cQ ((cell0 A b m n i j:Int):Rat))):=fun j=>by
    have:=qB (i:=i) (m:=m) (n:=n) b5 a7 j;exact dO _ (by omega) (by omega)
   have e0:=XK b i;refine bD ?_
   by_cases b8:b.getD i 0<0
   case' pos=>
    replace e0:sg b i= -1:=by unfold sg;rw[sO b8]
   case' neg=>
    replace e0:sg b i=1:=by unfold sg;rw[sQ b8]
   all_goals
    conv=>
     enter [1,r,1,1]
     simp only[go_sem,t1,t3,t5,sn,g1,g2,g9,g10,g11,k1,b8]
    generalize hL:iI _ _=z;obtain⟨x,rfl,T3,G,AA,rfl,t1,t3,t5,t6,J,O,Y⟩:=oZ hL n (fun k st=>st.T 1= .rp nx 0/\st.T 3= .rp (nx+1) 0/\st.T 5=I i/\st.T 6=I (sg b i)/\st.T 53= .ts (((A.drop (i*n)).take n).flatMap cI) n/\st.T 54=I n/\st.T 55=I k/\CU<=st.nx/\Jl (st.T 7) st.σ CU st.nx (R0.take k)/\∀y,y<CU->st.σ y=σ2 y)
     (fun x=>∃T G AA,x=(.exit 4,⟨T,G,AA⟩)/\T 1= .rp nx 0/\T 3= .rp (nx+1) 0/\T 5=I i/\T 6=I (sg b i)/\CU<=AA/\Jl (T 7) G CU AA (R0.take n)/\∀y,y<CU->G y=σ2 y) (by
      clear hL;rintro k ⟨T,G,AA⟩ hk ⟨t1,t3,t5,t6,t53,t54,t55,J,O,Y⟩;simp only at t1 t3 t5 t6 t53 t54 t55 J O Y;have f1:(k:Int)<(n:Int):=by omega
      have f2:=jF k;have f3:=ZU (n:=(k:Int)+1);have r9:i*n+n<=A.length:=by
       have:(i+1)*n<=m*n:=zD _ (by omega);rw[xq]at this;omega
      have f4:(((A.drop (i*n)).take n).flatMap cI)[k]?=some (I (A.getD (i*n+k) 0)):=by
       rw[idx (by simp;omega),vS,List.getElem_drop,zx,zy (by omega)];rfl
      have f5:=Ba ((A.drop (i*n)).take n) k (by simp;omega);have ec:cell0 A b m n i k=sg b i*A.getD (i*n+k) 0:=by unfold cell0;rw[sO hk]
      have bd:=qB (i:=i) (m:=m) (n:=n) b5 a7 k;have k2:=kI k;rw[ec]at bd k2;have f6:=ZU (n:=sg b i*A.getD (i*n+k) 0);obtain⟨Dz,a1,a2,a3⟩:=rJ O J ((sg b i*A.getD (i*n+k) 0:Int):Rat) (by rw[zh];omega);rw[<- ec,c9 k (by omega)]at a2;refine .inl ⟨_,by simp only[go_sem,t1,t3,t5,t6,t53,t54,t55,f1,f2,f3,f4,f5,f6,k2,a1];rfl,?_⟩;simp only[go_sem,t1,t3,t5,t6,t53,t54];exact⟨rfl,by omega,a2,fun y S=>(a3 y S).trans (Y y S)⟩) (by
      clear hL;rintro ⟨T,G,AA⟩ ⟨t1,t3,t5,t6,t53,t54,t55,J,O,Y⟩;simp only at t1 t3 t5 t6 t53 t54 t55 J O Y;refine⟨_,by simp only[go_sem,t54,t55,zi];rfl,by simp,_,_,_,rfl,?_⟩;simp only[go_sem,t1,t3,t5,t6];exact⟨J,O,Y⟩) (by
      simp only[go_sem,t1,t3,t5,e0];exact⟨.inl ⟨rfl,rfl⟩,fun _ _=>trivial⟩)
    clear hL
    conv=>
     enter [1,r,1,1]
     simp only[go_sem,t1,t3,t5,t6]
    generalize hL:iI _ _=z;obtain⟨x,rfl,T4,Dz,FK,rfl,t1,t3,t5,t6,n8,O,Vh⟩:=oZ hL m (fun k st=>st.T 1= .rp nx 0/\st.T 3= .rp (nx+1) 0/\st.T 5=I i/\st.T 6=I (sg b i)/\st.T 10=I k/\CU<=st.nx/\Jl (st.T 7) st.σ CU st.nx (R0.take (n+k))/\∀y,y<CU->st.σ y=σ2 y)
     (fun x=>∃T G AA,x=(.exit 6,⟨T,G,AA⟩)/\T 1= .rp nx 0/\T 3= .rp (nx+1) 0/\T 5=I i/\T 6=I (sg b i)/\CU<=AA/\Jl (T 7) G CU AA (R0.take (n+m))/\∀y,y<CU->G y=σ2 y) (by
      clear hL;rintro k ⟨T,G,AA⟩ hk ⟨t1,t3,t5,t6,t10,J,O,Y⟩;simp only at t1 t3 t5 t6 t10 J O Y;have f1:(k:Int)<(m:Int):=by omega
      have f3:=ZU (n:=(k:Int)+1);have UR:G nx=_:=(Y nx (by omega)).trans sn;have k2:=kI (n+k);have ec:cell0 A b m n i (n+k)=if k=i then 1 else 0:=by
       unfold cell0;rw[sQ (by omega),sO (by omega)]
       by_cases h:k=i
       .rw[sO h,sO (by omega)]
       .rw[sQ h,sQ (by omega)]
      obtain⟨Dz,a1,a2,a3⟩:=rJ O J ((cell0 A b m n i (n+k):Int):Rat) (by rw[zh];omega);rw[c9 (n+k) (by omega)]at a2
      by_cases e1:k=i
      .rw[sO e1]at ec
       rw[ec]at k2 a1;have c1:((k:Int)==(i:Int))=true:=by rw[e1];simp
       refine .inl ⟨_,by simp only[go_sem,t1,t3,t5,t6,t10,UR,f1,f3,c1,k2,a1];rfl,?_⟩;simp only[go_sem,t1,t3,t5,t6];exact⟨rfl,by omega,a2,fun y S=>(a3 y S).trans (Y y S)⟩
      .rw[sQ e1]at ec
       rw[ec]at k2 a1;have c1:((k:Int)==(i:Int))=false:=by rw[sN];omega
       refine .inl ⟨_,by simp only[go_sem,t1,t3,t5,t6,t10,UR,f1,f3,c1,k2,a1];rfl,?_⟩;simp only[go_sem,t1,t3,t5,t6];exact⟨rfl,by omega,a2,fun y S=>(a3 y S).trans (Y y S)⟩) (by
      clear hL;rintro ⟨T,G,AA⟩ ⟨t1,t3,t5,t6,t10,J,O,Y⟩;simp only at t1 t3 t5 t6 t10 J O Y;have UR:G nx=_:=(Y nx (by omega)).trans sn;refine⟨_,by simp only[go_sem,t1,t10,UR,zi];rfl,by simp,_,_,_,rfl,?_⟩;simp only[go_sem,t1,t3,t5,t6];exact⟨J,O,Y⟩) (by
      simp only[go_sem,t1,t3,t5,t6];exact⟨J,O,Y⟩)
    clear hL;have n9:Dz nx=_:=(Vh nx (by omega)).trans sn;have ec:cell0 A b m n i (n+m)=sg b i*b.getD i 0:=by unfold cell0;rw[sQ (by omega),sQ (by omega)]
    have bd:=qB (i:=i) (m:=m) (n:=n) b5 a7 (n+m);have k2:=kI (n+m);obtain⟨DF,a1,a2,a3⟩:=rJ O n8 ((cell0 A b m n i (n+m):Int):Rat) (by rw[zh];omega);have eL:(R0.take (n+m)).length=N:=by rw[zh];omega
    have eF:R0.take (n+m+1)=R0:=zl (by omega);rw[eL,c9 (n+m) (by omega),eF]at a2;rw[ec]at bd k2 a1;rw[eL]at a1;have f6:=ZU (n:=sg b i*b.getD i 0)
    conv=>
     enter [1,r,1,1]
     simp only[go_sem,t1,t3,t5,t6,n9,g1,g2,g9,g10,g11,f6,k2,a1]
    obtain⟨e2,e3,o0,e9,o2,h6,b9⟩:=hT;rw[<- hN]at e2 e3;obtain⟨bw,h7⟩:∃bw,bw=FK+1:=⟨_,rfl⟩;have h8:DF bw=some ⟨R0.flatMap cQ,3,true⟩:=by
     rcases a2 with ⟨h,_⟩|⟨b',h1,h2,h3,h4,h5⟩
     .rw[h]at c7;simp at c7
     .simp only[V.rs.injEq]at h4
      rw[h7,h4.1];exact h5
    rw[<- h7];have f5:∀y,y<CU->DF y=σ2 y:=fun y S=>(a3 y S).trans (Vh y S)
    have o3:=b7 bc (by simp);obtain⟨C0,c0⟩:∃C0,C0=qs (Fq A b m n i):=⟨_,rfl⟩;obtain⟨C1,e4⟩:∃C1,C1=qs (Fq A b m n (i+1)):=⟨_,rfl⟩;have h9:C0.length=N+1:=by rw[c0,gQ,og,hN]
    have s1:C1.length=N+1:=by rw[e4,gQ,og,hN]
    have o4:σ2 bc=some ⟨C0.flatMap cQ,3,true⟩:=by rw[c0];exact o2
    clear a1 a2 a3 O k2 Vh;generalize hL:iI _ _=z;obtain⟨x,rfl,T5,CZ,E,rfl,t1,t3,t5,t7,PI,o5,O7⟩:=oZ hL (N+1) (fun k st=>st.T 1= .rp nx 0/\st.T 3= .rp (nx+1) 0/\st.T 5=I i/\st.T 7= .rs bw 0 (N+1)/\st.T 93=I ((N+1:Nat):Int)/\st.T 94=I k/\bw+1<=st.nx/\st.σ bc=some ⟨(Ei C1 C0 k).flatMap cQ,3,true⟩/\∀y,y<bw+1->y≠bc->st.σ y=DF y)
     (fun x=>∃T G AA,x=(.exit 8,⟨T,G,AA⟩)/\T 1= .rp nx 0/\T 3= .rp (nx+1) 0/\T 5=I i/\T 7= .rs bw 0 (N+1)/\bw+1<=AA/\G bc=some ⟨C1.flatMap cQ,3,true⟩/\∀y,y<bw+1->y≠bc->G y=DF y) (by
      clear hL;rintro k ⟨T,G,AA⟩ hk ⟨t1,t3,t5,t7,t93,t94,J,a8,Y⟩;simp only at t1 t3 t5 t7 t93 t94 J a8 Y;have q1:(k:Int)<((N+1:Nat):Int):=by omega
      have q2:=jF k;have q3:=ZU (n:=(k:Int)+1);have UR:G nx=_:=(Y nx (by omega) (by omega)).trans ((f5 nx (by omega)).trans sn);have YE:G (nx+1)=_:=(Y (nx+1) (by omega) (by simp only[xk,zX,not_or]at b9;exact b9.1.1)).trans ((f5 (nx+1) (by omega)).trans e2);have i1:G bw=_:=(Y bw (by omega) (by omega)).trans h8;have hC:C1.length=C0.length:=by omega
      have c3:C1[k]'(by omega)=if k<n\/k=n+m then C0[k]'(by omega)+R0[k]'(by omega)else C0[k]'(by omega):=by
       subst e4 c0;rw[Pj (by rw[og];omega),Pj (by rw[og];omega),c8,Jm _ _ _ _ _ (by omega),Jm _ _ _ _ _ (by omega)]
       by_cases h:k<n\/k=n+m
       .rw[sO h,sO h,sO h]
        rw[show Gf (fun i=>cell0 A b m n i k) (i+1)=Gf (fun i=>cell0 A b m n i k) i+cell0 A b m n i k from rfl,Rat.intCast_add]
       .rw[sQ h,sQ h,sQ h]
      have l0:Ln 1 (C0[k]'(by omega)):=by
       subst c0;rw[Pj (by rw[og];omega)];exact sG (ai9 b5 a7 (by omega) (by omega))
      have l1:Ln 1 (R0[k]'(by omega)):=by
       rw[c8];exact sG (by have:=qB (i:=i) (m:=m) (n:=n) b5 a7 k;omega)
      have g4:=d_ (c:=cQ) (s:=3) qJ (Ei C1 C0 k) k (by rw[jH hC (by omega)];omega);rw[Jj hC (by omega)]at g4;have g5:=bZ (c:=cQ) (s:=3) qJ (Ei C1 C0 k);rw[jH hC (by omega),h9]at g5;have g6:k*3+3<=(N+1)*3:=by omega
      have g7:=d_ (c:=cQ) (s:=3) qJ R0 k (by omega);have g8:=bZ (c:=cQ) (s:=3) qJ R0;rw[c7]at g8;have k2:=ac9 (C0[k]'(by omega)) (R0[k]'(by omega)) l0 l1 (by decide);have l1:nx+1<AA:=by omega
      have l2:bc<AA:=by omega
      have l3:bw<AA:=by omega
      by_cases b2:k<n\/k=n+m
      .rw[sO b2]at c3
       have c6:patch ((Ei C1 C0 k).flatMap cQ) (k*3) (cQ (C0[k]'(by omega)+R0[k]'(by omega)))=(Ei C1 C0 (k+1)).flatMap cQ:=by
        rw[iE qJ _ _ (by rw[jH hC (by omega)];omega),<- c3,Jk hC (by omega)]
       by_cases s2:k<n
       .have q4:(k:Int)<(n:Int):=by omega
        refine .inl ⟨_,by simp only[go_sem,t1,t3,t5,t7,t93,t94,UR,YE,a8,i1,q1,q2,q3,q4,g4,g5,g6,g7,g8,k2,c6,l1,l2,l3];rfl,?_⟩;simp only[go_sem,t1,t3,t5,t7,t93];refine⟨rfl,J,fun y S hn=>?_⟩;rw[Zk _ _ hn];exact Y y S hn
       .have q4:¬(k:Int)<(n:Int):=by omega
        have q5:((k:Int)==(N:Int))=true:=by rw[beq_iff_eq];omega
        refine .inl ⟨_,by simp only[go_sem,t1,t3,t5,t7,t93,t94,UR,YE,a8,i1,q1,q2,q3,q4,q5,g4,g5,g6,g7,g8,k2,c6,l1,l2,l3];rfl,?_⟩;simp only[go_sem,t1,t3,t5,t7,t93];refine⟨rfl,J,fun y S hn=>?_⟩;rw[Zk _ _ hn];exact Y y S hn
      .rw[sQ b2]at c3
       have q4:¬(k:Int)<(n:Int):=by omega
       have q5:((k:Int)==(N:Int))=false:=by rw[sN];omega
       refine .inl ⟨_,by simp only[go_sem,t1,t3,t5,t7,t93,t94,UR,YE,q1,q2,q3,q4,q5];rfl,?_⟩;simp only[go_sem,t1,t3,t5,t7,t93];refine⟨rfl,J,?_,Y⟩;rw[<- RG hC (by omega) c3];exact a8) (by
      clear hL;rintro ⟨T,G,AA⟩ ⟨t1,t3,t5,t7,t93,t94,J,a8,Y⟩;simp only at t1 t3 t5 t7 t93 t94 J a8 Y;refine⟨_,by simp only[go_sem,t93,t94,zi];rfl,by simp,_,_,_,rfl,?_⟩;simp only[go_sem,t1,t3,t5,t7];refine⟨J,?_,Y⟩;rw[<- h9,KD (by omega)]at a8;exact a8) (by
      simp only[go_sem,t1,t3,t5];refine⟨?_,fun _ _ _=>trivial⟩;rw[KC,f5 bc o3.2];exact o4)
    clear hL;simp only[xk,zX,not_or]at b9;obtain⟨⟨n1,n2⟩,n3,n4⟩:=b9;have f6:∀y,y<CU->y≠bc->CZ y=σ2 y:=fun y S hn=>(O7 y (by omega) hn).trans (f5 y S)
    have o6:CZ bw=some ⟨R0.flatMap cQ,3,true⟩:=(O7 bw (by omega) (by omega)).trans h8;have i2:CZ (nx+1)=some ⟨[I N,vr,vb,.rs bc 0 (N+1)],0,true⟩:=(f6 (nx+1) (by omega) n1).trans e2;have c4:CZ nx=_:=(f6 nx (by omega) (by omega)).trans sn;have p0:(Dq A b m n i).R.length=i:=by unfold Dq EJ;simp
    rw[p0]at e3 e9 h6;have fin:∀(σ':Store) (nx' Ie b3:Nat),E<=Ie->Ie<nx'->E<=b3->b3<nx'->Ie≠b3->σ' (nx+1)=some ⟨[I N,.rs Ie 0 (i+1),.rs b3 0 (i+1),.rs bc 0 (N+1)],0,true⟩->σ' Ie=some ⟨(rb++[bw]).map fun b=>V.rs b 0 (N+1),1,true⟩->σ' b3=some ⟨(CB ((List.range (i+1)).map fun i=>n+i)).flatMap cI,1,true⟩->(∀y,y<E->y≠nx+1->y∉bk vr++bk vb->σ' y=CZ y)->ai8 A b c m n σ nx (i+1) σ' nx' (nx+1):=fun σ' nx' Ie b3 p1 p2 p3 p4 p5 p6 p7 p8 p9=>by
     have b2:∀y,y∈bk vr++bk vb++rb->y≠nx+1/\y≠bc/\nx<y/\y<CU:=fun y S=>⟨fun e=>n2 (e ▸ S),fun e=>n3 (e ▸ S),b7 y (by simp only[zX];exact .inr (.inr S))⟩
     have e5:(Dq A b m n (i+1)).R.length=i+1:=by unfold Dq EJ;simp
     have i3:=List.nodup_append.mp n4;have i4:∀y,y<CU->y≠nx+1->y≠bc->y∉bk vr++bk vb->σ' y=σ2 y:=fun y h1 h2 h3 h4=>(p9 y (by omega) h2 h4).trans (f6 y h1 h3)
     have q0:∀j,j<i->ED (Dq A b m n (i+1)).R j=ED (Dq A b m n i).R j:=fun j hj=>by
      rw[dS (by omega),dS (by omega)];simp[Dq,EJ]
     have q6:ED (Dq A b m n (i+1)).R i=R0:=by
      rw[dS (by omega),c5];simp[Dq,EJ]
     refine⟨bc,.rs Ie 0 (i+1),.rs b3 0 (i+1),rb++[bw],⟨by rw[<- hN];exact p6,?_,fun j hj=>?_,?_,?_,?_,?_⟩,fun x hx=>?_,fun x hx=>?_⟩
     .rw[e5,<- hN];exact .inr ⟨Ie,by omega,rfl,p7⟩
     .rw[zo,yV]at hj
      by_cases e6:j<rb.length
      .rw[yO e6,q0 j (by omega)]
       have hm:=zu e6;have:=b2 rb[j] (yh _ hm);rw[i4 _ this.2.2.2 this.1 this.2.1 fun S=>i3.2.2 _ S _ hm rfl];exact o0 j e6
      .have:j=i:=by omega
       subst this;rw[wP (by omega),q6];simp only[List.getElem_singleton];rw[p9 bw (by omega) (by omega) fun S=>by have:=b2 bw (z_ _ S);omega];exact o6
     .rw[e5];exact .inr ⟨b3,by omega,rfl,p8⟩
     .rw[p9 bc (by omega) (yu n1) fun S=>n3 (z_ _ S)]
      show _=some (Fv.mk ((qs (Fq A b m n (i+1))).flatMap cQ) 3 true);rw[<- e4];exact o5
     .rw[e5,zo,h6];rfl
     .simp only[bk,yR,yJ,xk,zX,xW,zK,or_false,not_or]
      have a7:∀y,y∈rb->y<CU:=fun y S=>(b2 y (yh _ S)).2.2.2
      refine⟨⟨n1,by omega,by omega,fun h=>n2 (yh _ h),by omega⟩,⟨by omega,by omega,fun h=>n3 (yh _ h),by omega⟩,⟨p5,fun h=>by have:=a7 _ h;omega,by omega⟩,⟨fun h=>by have:=a7 _ h;omega,by omega⟩,?_⟩;exact List.nodup_append.mpr ⟨i3.2.1,by simp,fun x hx y S=>by rw[List.mem_singleton.mp S];have:=a7 _ hx;omega⟩
     .simp only[bk,yR,yJ,zX,xW,zK,or_false]at hx
      rcases hx with rfl|rfl|rfl|rfl|hx|rfl
      .omega
      .omega
      .omega
      .omega
      .have:=b2 x (yh _ hx);omega
      .omega
     .rw[i4 x (by omega) (by omega) (by omega) fun S=>by have:=b2 x (z_ _ S);omega]
      exact fr x hx
    have w1:=ZU (n:=(n:Int)+(i:Int));have tB:CB ((List.range (i+1)).map fun i=>n+i)=CB ((List.range i).map fun i=>n+i)++[(n:Int)+(i:Int)]:=by
     unfold CB;rw[wX,xH,xH];rfl
    have y1:nx<E:=by omega
    have y2:nx+1<E:=by omega
    have y3:¬nx+1=E:=by omega
    have y4:¬nx=E:=by omega
    have y5:(nx+1==E)=false:=by rw[sN];omega
    have y6:(E==nx+1)=false:=by rw[sN];omega
    have y7:bw<E:=by omega
    have y8:nx<E+1:=by omega
    have y9:nx+1<E+1:=by omega
    have O4:¬nx+1=E+1:=by omega
    have O5:¬nx=E+1:=by omega
    have O6:(nx+1==E+1)=false:=by rw[sN];omega
    have i5:(E+1==nx+1)=false:=by rw[sN];omega
    have Rx:bw<E+1:=by omega
    have i6:nx<E+1+1:=by omega
    have i7:nx+1<E+1+1:=by omega
    have i9:¬nx+1=E+1+1:=by omega
    have j0:¬nx=E+1+1:=by omega
    have j1:(nx+1==E+1+1)=false:=by rw[sN];omega
    have j2:(E+1+1==nx+1)=false:=by rw[sN];omega
    have j3:bw<E+1+1:=by omega
    have j4:nx<E+1+1+1:=by omega
    have j5:nx+1<E+1+1+1:=by omega
    have j6:¬nx+1=E+1+1+1:=by omega
    have j7:¬nx=E+1+1+1:=by omega
    have j8:(nx+1==E+1+1+1)=false:=by rw[sN];omega
    have j9:(E+1+1+1==nx+1)=false:=by rw[sN];omega
    have k3:bw<E+1+1+1:=by omega
    have k4:nx<E+1+1+1+1:=by omega
    have k5:nx+1<E+1+1+1+1:=by omega
    have k6:¬nx+1=E+1+1+1+1:=by omega
    have k7:¬nx=E+1+1+1+1:=by omega
    have k8:(nx+1==E+1+1+1+1)=false:=by rw[sN];omega
    have k9:(E+1+1+1+1==nx+1)=false:=by rw[sN];omega
    have l4:bw<E+1+1+1+1:=by omega
    have l5:¬nx=nx+1:=by omega
    have l6:E+1+1<E+1+1+1:=by omega
    have l7:E<E+1:=by omega
    have l8:E+1<E+1+1:=by omega
    have l9:(nx==E)=false:=by rw[sN];omega
    have m1:(E==nx)=false:=by rw[sN];omega
    have m2:(nx==E+1)=false:=by rw[sN];omega
    have m3:(E+1==nx)=false:=by rw[sN];omega
    have m4:(nx==E+1+1)=false:=by rw[sN];omega
    have m5:(E+1+1==nx)=false:=by rw[sN];omega
    have m6:(nx==E+1+1+1)=false:=by rw[sN];omega
    have m7:(E+1+1+1==nx)=false:=by rw[sN];omega
    rcases e3 with ⟨hi0,rfl⟩|⟨br,hi0,rfl,q7⟩<;>rcases e9 with ⟨q8,rfl⟩|⟨bb,q8,rfl,q9⟩
    .have r0:rb=[]:=zZ (by omega)
     subst r0;refine⟨_,by simp only[go_sem,t1,t3,t5,t7,i2,c4,g3,w1,y1,y2,y3,y4,y5,y6,y7,y8,y9,O4,O5,O6,i5,Rx,i6,i7,i9,j0,j1,j2,j3,j4,j5,j6,j7,j8,j9,k3,k4,k5,k6,k7,k8,k9,l4,l5,l6,l7,l8,l9,m1,m2,m3,m4,m5,m6,m7];rfl,.inl ⟨_,rfl,?_⟩⟩;simp only[go_sem,t1,t3,t5];refine⟨rfl,by omega,?_,fin _ _ (E+1) (E+1+1+1) (by omega) (by omega) (by omega) (by omega) (by omega) ?_ ?_ ?_ fun y h1 h2 _=>?_⟩
     .rw[Zm,Zm,Zm,Zm,Zm,Zm];exact c4
     .rw[Zj,hi0]
     .rw[Zm,Zm,Zm,Zm,Zj];rfl
     .rw[Zm,Zj,tB,hi0];rfl
     .rw[Zm,Zm,Zm,Zm,Zm,Zm]
    .omega
    .omega
    .have lr:=b7 br (by simp[bk])
     have lb:=b7 bb (by simp[bk]);simp only[bk,yR,yJ,zX,not_or]at n2 n3 n4;have n5:¬br=bb:=by
      rw[xk]at n4;exact fun e=>n4.1 (by rw[e];exact zO)
     have r1:CZ br=_:=(f6 br lr.2 (fun e=>n3.1 e.symm)).trans q7;have r2:CZ bb=_:=(f6 bb lb.2 (fun e=>n3.2.1 e.symm)).trans q9;have r3:=rE (σ:=upd CZ E (some ⟨[V.rs bw 0 (N+1)],1,true⟩)) (nx:=E+1) (bytes:=24) (b:=br) (len:=i) (m:=1) (row:=[V.rs bw 0 (N+1)]) (by rw[Zm];exact r1) (by simp;omega) rfl (by decide) (by unfold maxLen;omega) (by omega) rfl;obtain⟨EU,e7⟩:∃EU,EU=upd (upd (upd (upd CZ E (some ⟨[V.rs bw 0 (N+1)],1,true⟩)) br none) (E+1) (some ⟨(rb.map fun b=>V.rs b 0 (N+1))++[V.rs bw 0 (N+1)],1,true⟩)) (nx+1) (some ⟨[I N,.rs (E+1) 0 (i+1),.rs bb 0 i,.rs bc 0 (N+1)],0,true⟩):=⟨_,rfl⟩;have o7:∀y,y<E->y≠nx+1->y≠br->EU y=CZ y:=fun y h1 h2 h3=>by rw[e7,Zk _ _ h2,Zm,Zk _ _ h3,Zm]
     have r4:EU (nx+1)=some ⟨[I N,.rs (E+1) 0 (i+1),.rs bb 0 i,.rs bc 0 (N+1)],0,true⟩:=by rw[e7,Zj]
     have m8:EU nx=_:=(o7 nx (by omega) (by omega) (by omega)).trans c4;have r5:EU bb=_:=(o7 bb (by omega) (by omega) (yu n5)).trans r2;have r6:((CB (Dq A b m n i).B).flatMap cI).length=i:=by rw[qN,aA];simp[Dq]
     have r7:=rE (σ:=restrict (upd EU (E+1+1) (some ⟨[I ((n:Int)+(i:Int))],1,true⟩)) [bb,E+1+1]) (nx:=E+1+1+1) (bytes:=8) (b:=bb) (len:=i) (m:=1) (row:=[I ((n:Int)+(i:Int))]) (by rw[fO,Zm];exact r5) r6 rfl (by decide) (by unfold maxLen;omega) (by omega) rfl;have u1:¬nx+1=br:=fun e=>n2.1 e
     have u2:¬nx+1=bb:=fun e=>n2.2.1 e
     have u3:(nx+1==bb)=false:=beq_false_of_ne u2;have u4:(bb==nx+1)=false:=beq_false_of_ne (yu u2);have u5:bb<E+1+1:=by omega
     have u6:bb<E+1+1+1:=by omega
     have u7:(nx==bb)=false:=by rw[sN];omega
     have u8:(bb==nx)=false:=by rw[sN];omega
     have u9:¬nx=br:=by omega
     have r8:¬nx=bb:=by omega
     refine⟨_,by simp only[go_sem,t1,t3,t5,t7,i2,c4,g3,w1,r3,<- e7,r4,m8,r7,u1,u2,u3,u4,u5,u6,u7,u8,u9,r8,y1,y2,y3,y4,y5,y6,y7,y8,y9,O4,O5,O6,i5,Rx,i6,i7,i9,j0,j1,j2,j3,j4,j5,j6,j7,j8,j9,k3,k4,k5,k6,k7,k8,k9,l4,l5,l6,l7,l8,l9,m1,m2,m3,m4,m5,m6,m7];rfl,.inl ⟨_,rfl,?_⟩⟩;simp only[go_sem,t1,t3,t5];refine⟨rfl,by omega,?_,fin _ _ (E+1) (E+1+1+1) (by omega) (by omega) (by omega) (by omega) (by omega) ?_ ?_ ?_ fun y h1 h2 h3=>?_⟩
     .rw[Zm,Zm,Zm,Zm];exact m8
     .rw[Zj]
     .rw[Zm,Zm,Zm,Zm,e7,Zm,Zj,xH];rfl
     .rw[Zm,Zj,tB,zQ];rfl
     .simp only[bk,yR,yJ,zX,zK,or_false,not_or]at h3
      rw[Zk _ _ h2,Zm,Zk _ _ h3.2,Zm];exact o7 y h1 h2 h3.1) (by
   clear hL;rintro ⟨T,σ2,CU⟩ ⟨t1,t3,t5,b4,sn,hF⟩;simp only at t1 t3 t5 b4 sn hF;unfold C9 at sn;refine⟨_,by simp only[go_sem,t1,t5,sn,zi];rfl,by simp,_,_,_,rfl,?_⟩;simp only[go_sem,t3];exact hF) (by
   simp only[go_sem,t1,t3];exact⟨by omega,g2,i0⟩)
 exact⟨σ2,CU,nx+1,by simp only[go_sem,t3],hF⟩
def EN(n:Nat)(D:TQ)(i:Nat):Prop:=n<=D.B.getD i 0->∀j,j<n->Cm D.R i j=0
theorem EN.piv{n N:Nat}{D:TQ}{i k r:Nat}(E:∀x∈D.R,x.length=N+1)(hl:D.B.length=D.R.length)(h:EN n D r)(O:r<D.R.length)(hi:i<D.R.length)(S:k<n)(hn:n<=N)(G:r≠i):EN n (Oe D i k) r:=fun Y j hj=>by
 have J:n<=D.B.getD r 0:=by
  have:(D.B.set i k).getD r 0=D.B.getD r 0:=by
   rw[zx,zx,List.getElem?_set_ne (yu G)]
  rw[<- this];exact Y
 show Cm (Ef D.R i k) r j=0;rw[TP E hi O (by omega),sQ G,h J j hj,h J k S];grind
def Ho(c:List Int):List Rat:=qs c++[0]
def D2q(n:Nat)(D:TQ)(c:List Int):TQ:=⟨(pick n D.R D.B).1,(pick n D.R D.B).2,clears (Ho c) (pick n D.R D.B).1 (pick n D.R D.B).2⟩
theorem afD{α:Type}{c:α->List V}{s:Nat}(hc:∀x,(c x).length=s)(xs:List α){k:Nat}(h:k<=xs.length):(xs.flatMap c).take (k*s)=(xs.take k).flatMap c:=by
 have:=vB k xs
 conv=>lhs;rw[<- this]
 rw[zQ,xG];rw[bZ hc,zh,xX h]
theorem RJ{n:Nat}(x:List Rat)(b:Nat):∀ {R:List (List Rat)} {B:List Nat},B.length=R.length->pick n (R++[x]) (B++[b])=if b<n then((pick n R B).1++[x.take n++[x.getLastD 0]],(pick n R B).2++[b])else pick n R B
 |[],[],_=>by
  show(if b<n then((x.take n++[x.getLastD 0]) :: (pick n [] []).1,b :: (pick n [] []).2)else pick n [] [])=_;rfl
 |[],_ :: _,h=>by simp at h
 |_ :: _,[],h=>by simp at h
 |y :: R,d :: B,h=>by
  have E:=RJ (n:=n) x b (R:=R) (B:=B) (by simpa using h);show(if d<n then((y.take n++[y.getLastD 0]) :: (pick n (R++[x]) (B++[b])).1,d :: (pick n (R++[x]) (B++[b])).2)else pick n (R++[x]) (B++[b]))=if b<n then((if d<n then((y.take n++[y.getLastD 0]) :: (pick n R B).1,d :: (pick n R B).2)else pick n R B).1++_,(if d<n then((y.take n++[y.getLastD 0]) :: (pick n R B).1,d :: (pick n R B).2)else pick n R B).2++[b])else if d<n then((y.take n++[y.getLastD 0]) :: (pick n R B).1,d :: (pick n R B).2)else pick n R B
  rw[E]
  by_cases G:b<n<;>by_cases J:d<n<;>simp[G,J]
theorem Jo{n:Nat}:∀ {R:List (List Rat)} {B:List Nat},(pick n R B).2.length=(pick n R B).1.length
 |[],_=>by simp[pick]
 |_ :: _,[]=>by simp[pick]
 |x :: R,b :: B=>by
  have E:=Jo (n:=n) (R:=R) (B:=B);unfold pick
  split<;>simp[E]
theorem Jp{n:Nat}:∀ {R:List (List Rat)} {B:List Nat},(∀x∈(pick n R B).1,∃y∈R,x=y.take n++[y.getLastD 0])/\∀b∈(pick n R B).2,b<n
 |[],_=>by simp[pick]
 |_ :: _,[]=>by simp[pick]
 |y :: R,b :: B=>by
  obtain⟨O,S⟩:=Jp (n:=n) (R:=R) (B:=B);unfold pick
  split
  .refine⟨fun x E=>?_,fun d G=>?_⟩
   .rcases List.mem_cons.mp E with rfl|E
    .exact⟨y,zO,rfl⟩
    .obtain⟨z,J,e⟩:=O x E
     exact⟨z,zY _ J,e⟩
   .rcases List.mem_cons.mp G with rfl|G
    .assumption
    .exact S d G
  .refine⟨fun x E=>?_,S⟩
   obtain⟨z,J,e⟩:=O x E;exact⟨z,zY _ J,e⟩
theorem LD(x:List Rat)(b:Nat):∀ {R:List (List Rat)} {B:List Nat} {c:List Rat},B.length=R.length->clears c (R++[x]) (B++[b])=LW (clears c R B) x ((clears c R B).getD b 0)
 |[],[],_,_=>rfl
 |[],_ :: _,_,h=>by simp at h
 |_ :: _,[],_,h=>by simp at h
 |y :: R,d :: B,c,h=>LD x b (R:=R) (B:=B) (c:=LW c y (c.getD d 0)) (by simpa using h)
theorem Pm{n:Nat}:∀ {R:List (List Rat)} {B:List Nat} {c:List Rat},c.length=n->(∀x∈R,x.length=n)->(clears c R B).length=n
 |[],_,_,h,_=>by unfold clears;exact h
 |_ :: _,[],_,h,_=>by unfold clears;exact h
 |x :: R,b :: B,c,h,hr=>Pm (R:=R) (B:=B) (c:=LW c x (c.getD b 0)) (by rw[pO (by rw[hr x zO,h]),h]) fun y E=>hr y (zY _ E)
theorem ajc{σ σ':Store}{bt bc br bb bw m0 N b:Nat}{vr vb:V}{rb:List Nat}{D:TQ}{x:List Rat}(h:Fp σ bt bc vr vb rb D N)(hm:∀y∈bt :: bc :: (bk vr++bk vb++rb),y<m0)(p1:m0<=br)(p2:m0<=bb)(p3:m0<=bw)(p4:br≠bb)(p5:br≠bw)(p6:bb≠bw)
  (q1:σ' bt=some ⟨[I N,.rs br 0 (D.R.length+1),.rs bb 0 (D.R.length+1),.rs bc 0 (N+1)],0,true⟩) (q2:σ' br=some ⟨(rb++[bw]).map fun b=>V.rs b 0 (N+1),1,true⟩) (q3:σ' bb=some ⟨(CB (D.B++[b])).flatMap cI,1,true⟩) (q4:σ' bw=some ⟨x.flatMap cQ,3,true⟩) (fr:∀y,y<m0->y≠bt->y∉bk vr++bk vb->σ' y=σ y) :
  Fp σ' bt bc (.rs br 0 (D.R.length+1)) (.rs bb 0 (D.R.length+1)) (rb++[bw]) ⟨D.R++[x],D.B++[b],D.c⟩ N:=by
 obtain⟨g1,g2,g3,g4,g5,g6,g7⟩:=h;have E:(D.R++[x]).length=D.R.length+1:=by simp
 simp only[xk,zX,not_or]at g7;obtain⟨⟨n1,n2⟩,n3,n4⟩:=g7;have Y:=List.nodup_append.mp n4;have a1:∀y,y∈bk vr++bk vb++rb->y<m0:=fun y G=>hm y (by simp only[zX];exact .inr (.inr G))
 have a7:=hm bt (by simp);have a6:=hm bc (by simp);refine⟨q1,?_,fun j hj=>?_,?_,?_,?_,?_⟩
 .show GV σ' _ (D.R++[x]).length _
  rw[E];exact .inr ⟨br,by omega,rfl,q2⟩
 .show _=some (Fv.mk ((ED (D.R++[x]) j).flatMap cQ) 3 true)
  rw[zo,yV]at hj
  by_cases J:j<rb.length
  .have e:ED (D.R++[x]) j=ED D.R j:=by rw[dS (by rw[E];omega),dS (by omega),yO (by omega)]
   rw[yO J,e];have O:=zu J;rw[fr _ (a1 _ (yh _ O)) (fun e=>n2 (e ▸ yh _ O)) fun G=>Y.2.2 _ G _ O rfl];exact g3 j J
  .have e:ED (D.R++[x]) j=x:=by
    rw[dS (by rw[E];omega),wP (by omega)];simp
   rw[wP (by omega),e];simp only[List.getElem_singleton];exact q4
 .show GV σ' _ (D.R++[x]).length _
  rw[E];exact .inr ⟨bb,by omega,rfl,q3⟩
 .rw[fr bc a6 (yu n1) fun G=>n3 (z_ _ G)];exact g5
 .show _=(D.R++[x]).length
  rw[E,zo,g6];rfl
 .simp only[bk,yR,yJ,xk,zX,xW,zK,or_false,not_or]
  have S:∀y,y∈rb->y<m0:=fun y G=>a1 y (yh _ G)
  refine⟨⟨n1,by omega,by omega,fun h=>n2 (yh _ h),by omega⟩,⟨by omega,by omega,fun h=>n3 (yh _ h),by omega⟩,⟨p4,fun h=>by have:=S _ h;omega,p5⟩,⟨fun h=>by have:=S _ h;omega,p6⟩,?_⟩;exact List.nodup_append.mpr ⟨Y.2.1,by simp,fun x hx y G=>by rw[List.mem_singleton.mp G];have:=S _ hx;omega⟩
theorem amK(Qp:TQ->Prop){A b c:List Int}{m n N:Nat}(hc:c.length=n)(hN:N=n+m)(aBO:n<=400)(hc1:∀x∈c,-1000<=x/\x<=1000)(hI:∀D,Qp D->ShF D N)
  (hpv:∀D i k,Qp D->i<D.R.length->n<=D.B.getD i 0->k<n->Cm D.R i k≠0->Qp (Oe D i k))
  (hcl:∀D,Qp D->(∀i,i<D.R.length->EN n D i)->∀q,q<=(pick n D.R D.B).1.length->∀u∈clears (Ho c) ((pick n D.R D.B).1.take q) ((pick n D.R D.B).2.take q),Ln 6 u)
  {σ:Store} {nx bt bc:Nat} {vr vb:V} {rb:List Nat} {D:TQ} (hQ:Qp D) (h:Fp σ bt bc vr vb rb D N) (b2:∀x∈bt :: bc :: (bk vr++bk vb++rb),x<nx) :
  ∃σ' nx' q0 O Yl Ym Ib D',ev ZM Aa Ak 188 [.agg (C9 m n A b c),.rp bt 0] σ nx=some (.rp q0 0,σ',nx')/\Qp D'/\(∀i,i<D'.R.length->EN n D' i)/\Fp σ' q0 O Yl Ym Ib (D2q n D' c) n/\(∀x∈q0 :: O :: (bk Yl++bk Ym++Ib),nx<=x/\x<nx')/\∀x,x<nx->x∉bc :: (bk vb++rb)->σ' x=σ x:=by
 have hbt:=h.t;obtain⟨s0,l5⟩:∃s0,s0=upd σ nx (some ⟨C9 m n A b c,0,true⟩):=⟨_,rfl⟩;have YJ:∀x,x<nx->s0 x=σ x:=fun x Y=>by rw[l5,Zm]
 have s0n:s0 nx=some ⟨C9 m n A b c,0,true⟩:=by rw[l5,Zj]
 have w2:=(YJ bt (b2 bt (by simp))).trans hbt;have auO:Fp s0 bt bc vr vb rb D N:=by
  obtain⟨g1,g2,g3,g4,g5,g6,g7⟩:=h;have gv:∀v n cs,(∀x∈bk v,x<nx)->GV σ v n cs->GV s0 v n cs:=fun v n cs Y hg=>by
   rcases hg with hg|⟨b,q1,rfl,q3⟩
   .exact .inl hg
   .exact .inr ⟨b,q1,rfl,(YJ b (Y b (by simp[bk]))).trans q3⟩
  refine⟨w2,gv _ _ _ (fun x Y=>b2 x (by simp[Y])) g2,fun i hi=>(YJ _ (b2 _ (by simp[zu hi]))).trans (g3 i hi),gv _ _ _ (fun x Y=>b2 x (by simp[Y])) g4,(YJ bc (b2 bc (by simp))).trans g5,g6,g7⟩
 have hlR:∀D1:TQ,Fp s0 bt bc vr vb rb D1 N->D1.R.length=rb.length:=fun D1 h1=>h1.len.symm
 obtain⟨L,eL⟩:∃L,L=D.R.length:=⟨_,rfl⟩;have aBP:L<=1000:=by have:=(hI D hQ).Gz;omega
 have hlen:DI ZM 245 vr=some (I L):=by
  rcases h.r with ⟨q1,rfl⟩|⟨br,q1,rfl,_⟩
  .have:L=0:=by omega
   subst this;exact nX (by kernel_rfl)
  .rw[eL];exact nV (by kernel_rfl)
 unfold C9 at l5⊢;rw[nC [.tmp 4] [14,15,21,22,27] func188];simp only[go_sem,<- l5,w2,hlen];generalize hL:iI _ _=y;obtain⟨x,rfl,T1,S,G,D1,rfl,t1,t2,j2,b5,k4,Vd,c0,b8,n3⟩:=oZ hL L (fun i st=>st.T 1= .rp bt 0/\st.T 2= .rp nx 0/\st.T 18=I L/\st.T 19=I i/\nx+1<=st.nx/\st.σ nx=some ⟨C9 m n A b c,0,true⟩/\(∀x,x<nx->x∉bc :: (bk vb++rb)->st.σ x=σ x)/\∃D1,Qp D1/\D1.R.length=L/\(∀q,q<i->EN n D1 q)/\Fp st.σ bt bc vr vb rb D1 N)
  (fun x=>∃T S G D1,x=(.exit 0,⟨T,S,G⟩)/\T 1= .rp bt 0/\T 2= .rp nx 0/\nx+1<=G/\S nx=some ⟨C9 m n A b c,0,true⟩/\(∀x,x<nx->x∉bc :: (bk vb++rb)->S x=σ x)/\Qp D1/\(∀q,q<L->EN n D1 q)/\Fp S bt bc vr vb rb D1 N/\D1.R.length=L) (by
   clear hL;rintro i ⟨T,S,G⟩ hi ⟨t1,t2,D9,t19,j2,b5,k4,D1,Vd,q8,c0,b8⟩;simp only at t1 t2 D9 t19 j2 b5 b8;unfold C9 at b5;have g1:(i:Int)<(L:Int):=by omega
   have g2:=jF i;have g3:=ZU (n:=(i:Int)+1);refine bD ?_
   conv=>
    enter [1,r,1,1]
    simp only[go_sem,t1,t2,D9,t19,g1]
   generalize hL:iI _ _=z;obtain⟨x,rfl,T2,σ2,CU,D2,rfl,t1,t2,D9,t19,c5,b3,j0,c6,b4,a6,a7⟩:=oZ hL n (fun j st=>st.T 1= .rp bt 0/\st.T 2= .rp nx 0/\st.T 18=I L/\st.T 19=I i/\st.T 5=I i/\st.T 6=I j/\nx+1<=st.nx/\st.σ nx=some ⟨[I m,I n,LI A,LI b,LI c],0,true⟩/\(∀x,x<nx->x∉bc :: (bk vb++rb)->st.σ x=σ x)/\∃D1,Qp D1/\D1.R.length=L/\(∀q,q<i->EN n D1 q)/\Fp st.σ bt bc vr vb rb D1 N/\(n<=D1.B.getD i 0->∀q,q<j->Cm D1.R i q=0))
    (fun x=>∃T S G D1,x=(.exit 2,⟨T,S,G⟩)/\T 1= .rp bt 0/\T 2= .rp nx 0/\T 18=I L/\T 19=I i/\nx+1<=G/\S nx=some ⟨[I m,I n,LI A,LI b,LI c],0,true⟩/\(∀x,x<nx->x∉bc :: (bk vb++rb)->S x=σ x)/\Qp D1/\D1.R.length=L/\(∀q,q<i+1->EN n D1 q)/\Fp S bt bc vr vb rb D1 N) (by
     clear hL;rintro j ⟨T,σ2,CU⟩ hj ⟨t1,t2,D9,t19,t5,t6,c5,b3,j0,D2,c6,b4,a6,a7,hz⟩;simp only at t1 t2 D9 t19 t5 t6 c5 b3 a7;have q1:(j:Int)<(n:Int):=by omega
     have q2:=jF j;have q3:=ZU (n:=(j:Int)+1);have j3:=hI D2 c6;have q9:=a7.t;obtain⟨br,rfl,l6⟩:∃br,vr= .rs br 0 L/\σ2 br=some ⟨rb.map fun b=>V.rs b 0 (N+1),1,true⟩:=by
      rcases a7.r with ⟨e,_⟩|⟨br,_,e,e2⟩
      .omega
      .exact⟨br,by rw[e,b4],e2⟩
     obtain⟨bb,rfl,k5⟩:∃bb,vb= .rs bb 0 L/\σ2 bb=some ⟨(CB D2.B).flatMap cI,1,true⟩:=by
      rcases a7.b with ⟨e,_⟩|⟨bb,_,e,e2⟩
      .omega
      .exact⟨bb,by rw[e,b4],e2⟩
     have l1:nx<CU:=by omega
     have l2:bt<CU:=by have:=b2 bt (by simp);omega
     have l3:bb<CU:=by have:=b2 bb (by simp[bk]);omega
     have w3:=j3.Bq;have b1:=idx (xs:=CB D2.B) (k:=i) (by rw[aA];omega);rw[aB (by omega)]at b1
     by_cases hB:n<=D2.B.getD i 0
     .have c1:(n:Int)<=((D2.B.getD i 0:Nat):Int):=by omega
      have b9:i<rb.length:=by have:=a7.len;omega
      have r1:(rb.map fun b=>V.rs b 0 (N+1))[i]?=some (.rs rb[i] 0 (N+1)):=by rw[yc,zy b9];rfl
      have r2:=a7.row i b9;have rl:=dR j3.row (show i<D2.R.length by omega);have r3:=pq (R:=D2.R) (i:=i) (j:=j) (by omega);have r4:=bZ (c:=cQ) (s:=3) qJ (ED D2.R i);rw[rl]at r4;have r5:(j:Int)<((N+1:Nat):Int):=by omega
      have r6:j*3+3<=(N+1)*3:=by omega
      have bq:Ln 6 (Cm D2.R i j):=by
       rw[<- oD (by omega)];exact j3.big _ (by rw[dS (show i<D2.R.length by omega)];exact zu _) _ (zu _)
      have k1:=dM (Cm D2.R i j) (bq.mono (by decide));have s1:=abJ (Cm D2.R i j)
      by_cases h0:Cm D2.R i j=0
      .rw[sJ h0,vH]at s1
       refine .inl ⟨_,by simp only[go_sem,t1,t2,D9,t19,t5,t6,b3,q9,b4,l6,k5,b1,g1,g2,q1,q2,q3,c1,l1,l2,l3,r1,r2,r3,r4,r5,r6,k1,s1];rfl,?_⟩;simp only[go_sem,t1,t2,D9,t19,t5];refine⟨rfl,c5,b3,j0,D2,c6,b4,a6,a7,fun _ q hq=>?_⟩
       by_cases e:q=j
       .subst e;exact h0
       .exact hz hB q (by omega)
      .rw[sH h0,wE]at s1
       have w4:=hpv D2 i j c6 (by omega) hB hj h0;obtain⟨a8,J,k2,Oz,j4,EP⟩:=ai6 (nx:=CU) a7 j3 (hI _ w4) (fun b hb=>by have:=b2 b hb;omega) (show i<D2.R.length by omega) (show j<N by omega) h0;have hl3:(Oe D2 i j).R.length=L:=(h_ ..).trans b4;refine .inl ⟨_,by simp only[go_sem,qE,t1,t2,D9,t19,t5,t6,b3,q9,b4,l6,k5,b1,g1,g2,q1,q2,q3,c1,l1,l2,l3,r1,r2,r3,r4,r5,r6,k1,s1,k2];rfl,?_⟩;simp only[go_sem,t1,t2,D9,t19,t5];refine⟨rfl,by omega,?_,fun x Y l7=>(EP x (by omega) l7).trans (j0 x Y l7),_,w4,hl3,fun q hq=>(a6 q hq).piv j3.row j3.Bq (by omega) (by omega) hj (by omega) (by omega),Oz,fun hB3=>?_⟩
       .rw[EP nx (by omega) fun hm=>by have:=b2 nx (by simp only[zX,xW]at hm⊢;rcases hm with h|h|h<;>simp[h]);omega]
        exact b3
       .have:(D2.B.set i j).getD i 0=j:=by rw[zx,tC (by omega)];rfl
        have hB4:n<=(D2.B.set i j).getD i 0:=hB3;omega
     .have c1:¬(n:Int)<=((D2.B.getD i 0:Nat):Int):=by omega
      refine .inr ⟨_,by simp only[go_sem,t1,t2,D9,t19,t5,t6,b3,q9,b4,k5,b1,g1,g2,q1,c1,l1,l2,l3];rfl,by simp,_,_,_,D2,rfl,?_⟩;simp only[go_sem,t1,t2,D9,t19];refine⟨c5,b3,j0,c6,b4,fun q hq=>?_,a7⟩
      by_cases e:q=i
      .subst e;exact fun h=>absurd h hB
      .exact a6 q (by omega)) (by
     clear hL;rintro ⟨T,σ2,CU⟩ ⟨t1,t2,D9,t19,t5,t6,c5,b3,j0,D2,c6,b4,a6,a7,hz⟩;simp only at t1 t2 D9 t19 t5 t6 c5 b3 a7;have l1:nx<CU:=by omega
     refine⟨_,by simp only[go_sem,t2,t6,b3,zi,l1];rfl,by simp,_,_,_,D2,rfl,?_⟩;simp only[go_sem,t1,t2,D9,t19];refine⟨c5,b3,j0,c6,b4,fun q hq=>?_,a7⟩
     by_cases e:q=i
     .subst e;exact hz
     .exact a6 q (by omega)) (by
     simp only[go_sem,t1,t2,D9,t19];exact⟨j2,b5,k4,D1,Vd,q8,c0,b8,fun _ q hq=>absurd hq (zW _)⟩)
   refine⟨_,by simp only[go_sem,t19,g3];rfl,.inl ⟨_,rfl,?_⟩⟩;simp only[go_sem,t1,t2,D9];exact⟨rfl,c5,b3,j0,D2,c6,b4,a6,a7⟩) (by
   clear hL;rintro ⟨T,S,G⟩ ⟨t1,t2,D9,t19,j2,b5,k4,D1,Vd,q8,c0,b8⟩;simp only at t1 t2 D9 t19 j2 b5 b8;refine⟨_,by simp only[go_sem,D9,t19,zi];rfl,by simp,_,_,_,D1,rfl,?_⟩;simp only[go_sem,t1,t2];exact⟨j2,b5,k4,Vd,c0,b8,q8⟩) (by
   simp only[go_sem];exact⟨s0n,fun x Y _=>YJ x Y,D,hQ,eL.symm,fun q hq=>absurd hq (zW _),auO⟩)
 clear hL;have kI:∀j,fn ZM conv ext 190 [I (c.getD j 0)]=some (.agg (cQ ((c.getD j 0:Int):Rat))):=fun j=>by
  have:=lK hc1 j;exact dO _ (by omega) (by omega)
 have k0:fn ZM conv ext 190 [I 0]=some (.agg (cQ 0)):=dO 0 (by decide) (by decide)
 have snp:∀j,j<n->(qs c).take j++[((c.getD j 0:Int):Rat)]=(qs c).take (j+1):=fun j h=>by
  rw[yL,zy (by rw[gQ];omega),Pj (by omega),lM (by omega)];rfl
 unfold C9 at b5;have d1:¬nx=G:=by omega
 simp only[go_sem,t1,t2,b5,d1];generalize hL:iI _ _=y;obtain⟨x,rfl,T3,a8,J,rfl,t1,t2,t7,j4,UR,EP,j1⟩:=oZ hL n (fun j st=>st.T 1= .rp bt 0/\st.T 2= .rp nx 0/\st.T 7= .rp G 0/\st.T 8=I j/\G<st.nx/\st.σ nx=some ⟨[I m,I n,LI A,LI b,LI c],0,true⟩/\(∀x,x<G->st.σ x=S x)/\((j=0/\st.σ G=some ⟨[I n,.nil,.nil,.nil],0,true⟩)\/∃bc,0<j/\G<bc/\bc<st.nx/\st.σ G=some ⟨[I n,.nil,.nil,.rs bc 0 j],0,true⟩/\st.σ bc=some ⟨((qs c).take j).flatMap cQ,3,true⟩))
  (fun x=>∃T a8 J,x=(.exit 4,⟨T,a8,J⟩)/\T 1= .rp bt 0/\T 2= .rp nx 0/\T 7= .rp G 0/\G<J/\a8 nx=some ⟨[I m,I n,LI A,LI b,LI c],0,true⟩/\(∀x,x<G->a8 x=S x)/\((n=0/\a8 G=some ⟨[I n,.nil,.nil,.nil],0,true⟩)\/∃bc,0<n/\G<bc/\bc<J/\a8 G=some ⟨[I n,.nil,.nil,.rs bc 0 n],0,true⟩/\a8 bc=some ⟨((qs c).take n).flatMap cQ,3,true⟩)) (by
   clear hL;rintro j ⟨T,a8,J⟩ hj ⟨t1,t2,t7,t8,j4,UR,EP,j1⟩;simp only at t1 t2 t7 t8 j4 UR EP j1;have g1:(j:Int)<(n:Int):=by omega
   have g2:=jF j;have g3:=ZU (n:=(j:Int)+1);have g4:(j:Int)<(c.length:Int):=by omega
   have g5:(c.flatMap cI)[j]?=some (I (c.getD j 0)):=by
    rw[idx (by omega),zx,zy (by omega)];rfl
   have g6:=Ba c j (by omega);have k1:=kI j;have hs:=snp j hj;generalize ((c.getD j 0:Int):Rat)=w at k1 hs;have y1:nx<J:=by omega
   have y2:¬nx=J:=by omega
   have y3:(nx==J)=false:=by rw[sN];omega
   have y4:(J==nx)=false:=by rw[sN];omega
   have y5:G<J:=by omega
   have y6:¬G=J:=by omega
   have y7:(G==J)=false:=by rw[sN];omega
   have y8:(J==G)=false:=by rw[sN];omega
   have y9:nx<J+1:=by omega
   have O4:¬nx=J+1:=by omega
   have O5:(nx==J+1)=false:=by rw[sN];omega
   have O6:(J+1==nx)=false:=by rw[sN];omega
   have c7:G<J+1:=by omega
   have Rx:¬G=J+1:=by omega
   have c8:(G==J+1)=false:=by rw[sN];omega
   have c9:(J+1==G)=false:=by rw[sN];omega
   have e8:nx<J+1+1:=by omega
   have e9:¬nx=J+1+1:=by omega
   have h4:(nx==J+1+1)=false:=by rw[sN];omega
   have h5:(J+1+1==nx)=false:=by rw[sN];omega
   have h6:G<J+1+1:=by omega
   have h7:¬G=J+1+1:=by omega
   have h8:(G==J+1+1)=false:=by rw[sN];omega
   have h9:(J+1+1==G)=false:=by rw[sN];omega
   have i0:¬nx=G:=by omega
   have i1:¬G=nx:=by omega
   have i2:(nx==G)=false:=by rw[sN];omega
   have i3:(G==nx)=false:=by rw[sN];omega
   have i4:J<J+1:=by omega
   have i5:J+1<J+1+1:=by omega
   rcases j1 with ⟨h0,st⟩|⟨O,hj0,c1,c2,st,sc⟩
   .have g7:(qs c).take 0=[]:=rfl
    refine .inl ⟨_,by simp only[go_sem,t1,t2,t7,t8,UR,st,g1,g2,g3,g4,g5,g6,k1,y1,y2,y3,y4,y5,y6,y7,y8,y9,O4,O5,O6,c7,Rx,c8,c9,e8,e9,h4,h5,h6,h7,h8,h9,i0,i1,i2,i3,i4,i5];rfl,?_⟩;simp only[go_sem,t1,t2,t7];refine⟨rfl,by omega,?_,fun x Y=>?_,.inr ⟨J+1,by omega,by omega,by omega,by rw[h0],?_⟩⟩
    .rw[Zm,Zm,Zm];exact UR
    .rw[Zm,Zm,Zm];exact EP x Y
    .rw[Zm,Zj,<- hs,h0,g7];simp
   .have k6:=rD (σ:=restrict (upd a8 J (some ⟨cQ w,3,true⟩)) [O,J]) (nx:=J+1) (size:=3) (bytes:=56) (b:=O) (len:=j) (m:=1) (row:=cQ w) (by rw[fO,Zm];exact sc) (by rw[bZ qJ,zh,gQ];omega) (by decide) (by decide) (by unfold maxLen;omega) (by omega) rfl
    have x1:O<J+1:=by omega
    have x2:(G==O)=false:=by rw[sN];omega
    have x3:(O==G)=false:=by rw[sN];omega
    have x4:¬G=O:=by omega
    have x5:(nx==O)=false:=by rw[sN];omega
    have x6:(O==nx)=false:=by rw[sN];omega
    have x7:¬nx=O:=by omega
    refine .inl ⟨_,by simp only[go_sem,t1,t2,t7,t8,UR,st,g1,g2,g3,g4,g5,g6,k1,k6,x1,x2,x3,x4,x5,x6,x7,y1,y2,y3,y4,y5,y6,y7,y8,y9,O4,O5,O6,c7,Rx,c8,c9,e8,e9,h4,h5,h6,h7,h8,h9,i0,i1,i2,i3,i4,i5];rfl,?_⟩;simp only[go_sem,t1,t2,t7];refine⟨rfl,by omega,?_,fun x Y=>?_,.inr ⟨J+1,by omega,by omega,by omega,rfl,?_⟩⟩
    .rw[Zm,Zm,Zm,Zm];exact UR
    .rw[Zm,Zm,Zm,Zm];exact EP x Y
    .rw[Zm,Zj,<- hs,zQ];simp) (by
   clear hL;rintro ⟨T,a8,J⟩ ⟨t1,t2,t7,t8,j4,UR,EP,j1⟩;simp only at t1 t2 t7 t8 j4 UR EP j1;refine⟨_,by simp only[go_sem,t2,t8,UR,zi];rfl,by simp,_,_,_,rfl,?_⟩;simp only[go_sem,t1,t2,t7];exact⟨j4,UR,EP,j1⟩) (by
   simp only[go_sem,t1,t2];refine⟨by omega,?_,fun x Y=>?_,.inl trivial⟩
   .rw[Zk _ _ d1];exact b5
   .rw[Zm])
 clear hL;have y1:nx<J:=by omega
 have y2:¬nx=J:=by omega
 have y3:(nx==J)=false:=by rw[sN];omega
 have y4:(J==nx)=false:=by rw[sN];omega
 have y5:G<J:=by omega
 have y6:¬G=J:=by omega
 have y7:(G==J)=false:=by rw[sN];omega
 have y8:(J==G)=false:=by rw[sN];omega
 have y9:nx<J+1:=by omega
 have O4:¬nx=J+1:=by omega
 have O5:(nx==J+1)=false:=by rw[sN];omega
 have O6:(J+1==nx)=false:=by rw[sN];omega
 have c7:G<J+1:=by omega
 have Rx:¬G=J+1:=by omega
 have c8:(G==J+1)=false:=by rw[sN];omega
 have c9:(J+1==G)=false:=by rw[sN];omega
 have e8:nx<J+1+1:=by omega
 have e9:¬nx=J+1+1:=by omega
 have h4:(nx==J+1+1)=false:=by rw[sN];omega
 have h5:(J+1+1==nx)=false:=by rw[sN];omega
 have h6:G<J+1+1:=by omega
 have h7:¬G=J+1+1:=by omega
 have h8:(G==J+1+1)=false:=by rw[sN];omega
 have h9:(J+1+1==G)=false:=by rw[sN];omega
 have i0:¬nx=G:=by omega
 have i1:(nx==G)=false:=by rw[sN];omega
 have i2:¬G=nx:=by omega
 have i3:(G==nx)=false:=by rw[sN];omega
 have i4:J<J+1:=by omega
 have i5:J+1<J+1+1:=by omega
 have r0:=b8.t;have ltt:=b2 bt (by simp);have k7:bt<J+1+1:=by omega
 have i6:¬bt=G:=by omega
 have i7:¬bt=J:=by omega
 have k8:¬bt=J+1:=by omega
 have hqs:(qs c).take n=qs c:=zl (by rw[gQ];omega);rcases j1 with ⟨h0,st⟩|⟨O,hj0,c1,c2,st,sc⟩
 case' inl=>
  obtain⟨Dz,e4⟩:∃Dz,Dz=upd (upd (upd a8 J (some ⟨cQ 0,3,true⟩)) (J+1) (some ⟨cQ 0,3,true⟩)) G (some ⟨[I n,.nil,.nil,.rs (J+1) 0 1],0,true⟩):=⟨_,rfl⟩;have w5:Dz G=some ⟨[I n,.nil,.nil,.rs (J+1) 0 (n+1)],0,true⟩:=by rw[e4,Zj,h0]
  have w7:Dz (J+1)=some ⟨(Ho c).flatMap cQ,3,true⟩:=by
   have:c=[]:=zZ (by omega);rw[e4,Zm,Zj,this];rfl
  have l8:∀x,x<G->Dz x=S x:=fun x Y=>by rw[e4,Zm,Zm,Zm];exact EP x Y
  have s2:Dz bt=_:=(l8 bt (by omega)).trans r0;simp only[go_sem,t1,t2,t7,st,k0,y1,y2,y3,y4,y5,y6,y7,y8,y9,O4,O5,O6,c7,Rx,c8,c9,e8,e9,h4,h5,h6,h7,h8,h9,i0,i1,i2,i3,i4,i5,k7,i6,i7,k8,<- e4,s2,hlen]
 case' inr=>
  have k6:=rD (σ:=restrict (upd a8 J (some ⟨cQ 0,3,true⟩)) [O,J]) (nx:=J+1) (size:=3) (bytes:=56) (b:=O) (len:=n) (m:=1) (row:=cQ 0) (by rw[fO,Zm];exact sc) (by rw[bZ qJ,zh,gQ];omega) (by decide) (by decide) (by unfold maxLen;omega) (by omega) rfl;have x1:O<J+1:=by omega
  have x2:(G==O)=false:=by rw[sN];omega
  have x3:(O==G)=false:=by rw[sN];omega
  have x4:¬G=O:=by omega
  have x7:¬bt=O:=by omega
  obtain⟨Dz,e4⟩:∃Dz,Dz=upd (upd (upd (upd a8 J (some ⟨cQ 0,3,true⟩)) O none) (J+1) (some ⟨((qs c).take n).flatMap cQ++cQ 0,3,true⟩)) G (some ⟨[I n,.nil,.nil,.rs (J+1) 0 (n+1)],0,true⟩):=⟨_,rfl⟩;have w5:Dz G=some ⟨[I n,.nil,.nil,.rs (J+1) 0 (n+1)],0,true⟩:=by rw[e4,Zj]
  have w7:Dz (J+1)=some ⟨(Ho c).flatMap cQ,3,true⟩:=by
   rw[e4,Zm,Zj,hqs];unfold Ho;rw[zQ];simp
  have l8:∀x,x<G->Dz x=S x:=fun x Y=>by rw[e4,Zm,Zm,Zm,Zm];exact EP x Y
  have s2:Dz bt=_:=(l8 bt (by omega)).trans r0;simp only[go_sem,t1,t2,t7,st,k0,k6,x1,x2,x3,x4,x7,y1,y2,y3,y4,y5,y6,y7,y8,y9,O4,O5,O6,c7,Rx,c8,c9,e8,e9,h4,h5,h6,h7,h8,h9,i0,i1,i2,i3,i4,i5,k7,i6,i7,k8,<- e4,s2,hlen]
 all_goals
  clear e4;have j5:=hI D1 Vd;have w3:=j5.Bq;have hlR:=b8.len;generalize hL:iI _ _=y;obtain⟨x,rfl,T5,DF,E,j6,l9,c3,rfl,t7,j7,X8,GH,G8⟩:=oZ hL L (fun i st=>st.T 1= .rp bt 0/\st.T 2= .rp nx 0/\st.T 7= .rp G 0/\st.T 95=vr/\st.T 96=I L/\st.T 97=I i/\J+1<st.nx/\(∀x,x<G->st.σ x=S x)/\∃Yl Ym Ib,Fp st.σ G (J+1) Yl Ym Ib ⟨(pick n (D1.R.take i) (D1.B.take i)).1,(pick n (D1.R.take i) (D1.B.take i)).2,Ho c⟩ n/\∀x∈G :: (J+1) :: (bk Yl++bk Ym++Ib),G<=x/\x<st.nx)
   (fun x=>∃T DF E Yl Ym Ib,x=(.exit 6,⟨T,DF,E⟩)/\T 7= .rp G 0/\J+1<E/\(∀x,x<G->DF x=S x)/\Fp DF G (J+1) Yl Ym Ib ⟨(pick n D1.R D1.B).1,(pick n D1.R D1.B).2,Ho c⟩ n/\∀x∈G :: (J+1) :: (bk Yl++bk Ym++Ib),G<=x/\x<E) (by
    clear hL;rintro i ⟨T,DF,E⟩ hi ⟨t1,t2,t7,t95,t96,t97,j7,X8,Yl,Ym,Ib,GH,G8⟩;simp only at t1 t2 t7 t95 t96 t97 j7 X8 GH G8;obtain⟨br,rfl,l6⟩:∃br,vr= .rs br 0 L/\S br=some ⟨rb.map fun b=>V.rs b 0 (N+1),1,true⟩:=by
     rcases b8.r with ⟨e,_⟩|⟨br,_,e,e2⟩
     .omega
     .exact⟨br,by rw[e,n3],e2⟩
    obtain⟨bb,rfl,k5⟩:∃bb,vb= .rs bb 0 L/\S bb=some ⟨(CB D1.B).flatMap cI,1,true⟩:=by
     rcases b8.b with ⟨e,_⟩|⟨bb,_,e,e2⟩
     .omega
     .exact⟨bb,by rw[e,n3],e2⟩
    have b9:i<rb.length:=by omega
    obtain⟨bi,FI⟩:∃bi,bi=rb[i]:=⟨_,rfl⟩;have lb1:=b2 br (by simp[bk]);have lb2:=b2 bb (by simp[bk]);have lb3:bi<nx:=by rw[FI];exact b2 _ (by simp[zu b9])
    have g1:(i:Int)<(L:Int):=by omega
    have g2:=jF i;have g3:=ZU (n:=(i:Int)+1);have e1:DF bt=_:=(X8 bt (by omega)).trans r0;have e2:DF br=_:=(X8 br (by omega)).trans l6;have e3:DF bb=_:=(X8 bb (by omega)).trans k5;have e4:DF bi=some ⟨(ED D1.R i).flatMap cQ,3,true⟩:=(X8 bi (by omega)).trans (by rw[FI];exact b8.row i b9);have e5:DF nx=_:=(X8 nx (by omega)).trans b5;have r1:(rb.map fun b=>V.rs b 0 (N+1))[i]?=some (.rs bi 0 (N+1)):=by rw[yc,zy b9,FI];rfl
    have b1:=idx (xs:=CB D1.B) (k:=i) (by rw[aA];omega);rw[aB (by omega)]at b1;have j8:=RJ (n:=n) (ED D1.R i) (D1.B.getD i 0) (R:=D1.R.take i) (B:=D1.B.take i) (by rw[zh,zh,w3]);have pR:D1.R.take i++[ED D1.R i]=D1.R.take (i+1):=by rw[yL,zy (by omega),dS (by omega)];rfl
    have pB:D1.B.take i++[D1.B.getD i 0]=D1.B.take (i+1):=by rw[yL,zy (by omega),lM (by omega)];rfl
    rw[pR,pB]at j8;have l1:bt<E:=by omega
    have l2:bb<E:=by omega
    have l3:nx<E:=by omega
    by_cases hB:D1.B.getD i 0<n
    .rw[sO hB]at j8
     have c1:((D1.B.getD i 0:Nat):Int)<(n:Int):=by omega
     have rl:=dR j5.row (show i<D1.R.length by omega);obtain⟨w,ew⟩:∃w,w=(ED D1.R i).take n:=⟨_,rfl⟩;have hwl:w.length=n:=by rw[ew,zh];omega
     obtain⟨z,ez⟩:∃z,z=Cm D1.R i N:=⟨_,rfl⟩;have s4:(ED D1.R i).getLastD 0=z:=by
      rw[List.getLastD_eq_getLast?,List.getLast?_eq_getElem?,rl,ez];unfold Cm ED;rw[zx];rfl
     rw[<- ew,s4]at j8;have r3:=pq (R:=D1.R) (i:=i) (j:=N) (by omega);rw[<- ez]at r3;have r4:=bZ (c:=cQ) (s:=3) qJ (ED D1.R i);rw[rl]at r4;have r5:(N:Int)<((N+1:Nat):Int):=by omega
     have r6:N*3+3<=(N+1)*3:=by omega
     have r7:=jF N;have r8:=jF n;have r9:(n:Int)<=((N+1:Nat):Int):=by omega
     have w8:n<=N+1:=by omega
     have w9:n*3<=(N+1)*3:=by omega
     have x0:((ED D1.R i).flatMap cQ).take (n*3)=w.flatMap cQ:=by rw[ew,afD qJ _ (by omega)]
     have x8:¬n=0:=by omega
     have x9:n<=maxLen/\n*56<=140737488355328:=by unfold maxLen;omega
     have y1:nx<E:=by omega
     have y2:¬nx=E:=by omega
     have y3:(nx==E)=false:=by rw[sN];omega
     have y4:(E==nx)=false:=by rw[sN];omega
     have y5:G<E:=by omega
     have y6:¬G=E:=by omega
     have y7:(G==E)=false:=by rw[sN];omega
     have y8:(E==G)=false:=by rw[sN];omega
     have y9:bt<E:=by omega
     have O4:¬bt=E:=by omega
     have O5:(bt==E)=false:=by rw[sN];omega
     have O6:(E==bt)=false:=by rw[sN];omega
     have c7:bi<E:=by omega
     have Rx:¬bi=E:=by omega
     have c8:(bi==E)=false:=by rw[sN];omega
     have c9:(E==bi)=false:=by rw[sN];omega
     have e8:nx<E+1:=by omega
     have e9:¬nx=E+1:=by omega
     have h4:(nx==E+1)=false:=by rw[sN];omega
     have h5:(E+1==nx)=false:=by rw[sN];omega
     have h6:G<E+1:=by omega
     have h7:¬G=E+1:=by omega
     have h8:(G==E+1)=false:=by rw[sN];omega
     have h9:(E+1==G)=false:=by rw[sN];omega
     have i0:bt<E+1:=by omega
     have i1:¬bt=E+1:=by omega
     have i2:(bt==E+1)=false:=by rw[sN];omega
     have i3:(E+1==bt)=false:=by rw[sN];omega
     have i4:bi<E+1:=by omega
     have i5:¬bi=E+1:=by omega
     have y0:(bi==E+1)=false:=by rw[sN];omega
     have z6:(E+1==bi)=false:=by rw[sN];omega
     have z7:nx<E+1+1:=by omega
     have z8:¬nx=E+1+1:=by omega
     have A0:(nx==E+1+1)=false:=by rw[sN];omega
     have A1:(E+1+1==nx)=false:=by rw[sN];omega
     have A2:G<E+1+1:=by omega
     have A3:¬G=E+1+1:=by omega
     have A4:(G==E+1+1)=false:=by rw[sN];omega
     have A5:(E+1+1==G)=false:=by rw[sN];omega
     have A6:bt<E+1+1:=by omega
     have A7:¬bt=E+1+1:=by omega
     have A8:(bt==E+1+1)=false:=by rw[sN];omega
     have A9:(E+1+1==bt)=false:=by rw[sN];omega
     have B1:bi<E+1+1:=by omega
     have B2:¬bi=E+1+1:=by omega
     have B3:(bi==E+1+1)=false:=by rw[sN];omega
     have B4:(E+1+1==bi)=false:=by rw[sN];omega
     have B5:nx<E+1+1+1:=by omega
     have B6:¬nx=E+1+1+1:=by omega
     have B7:(nx==E+1+1+1)=false:=by rw[sN];omega
     have B8:(E+1+1+1==nx)=false:=by rw[sN];omega
     have B9:G<E+1+1+1:=by omega
     have C0:¬G=E+1+1+1:=by omega
     have C1:(G==E+1+1+1)=false:=by rw[sN];omega
     have C2:(E+1+1+1==G)=false:=by rw[sN];omega
     have C3:bt<E+1+1+1:=by omega
     have C4:¬bt=E+1+1+1:=by omega
     have C5:(bt==E+1+1+1)=false:=by rw[sN];omega
     have C6:(E+1+1+1==bt)=false:=by rw[sN];omega
     have C7:bi<E+1+1+1:=by omega
     have C8:¬bi=E+1+1+1:=by omega
     have D3:(bi==E+1+1+1)=false:=by rw[sN];omega
     have D4:(E+1+1+1==bi)=false:=by rw[sN];omega
     have D5:nx<E+1+1+1+1:=by omega
     have D6:¬nx=E+1+1+1+1:=by omega
     have E0:(nx==E+1+1+1+1)=false:=by rw[sN];omega
     have E1:(E+1+1+1+1==nx)=false:=by rw[sN];omega
     have E2:G<E+1+1+1+1:=by omega
     have E3:¬G=E+1+1+1+1:=by omega
     have E4:(G==E+1+1+1+1)=false:=by rw[sN];omega
     have E6:(E+1+1+1+1==G)=false:=by rw[sN];omega
     have E7:bt<E+1+1+1+1:=by omega
     have E9:¬bt=E+1+1+1+1:=by omega
     have F0:(bt==E+1+1+1+1)=false:=by rw[sN];omega
     have F1:(E+1+1+1+1==bt)=false:=by rw[sN];omega
     have F2:bi<E+1+1+1+1:=by omega
     have F3:¬bi=E+1+1+1+1:=by omega
     have F4:(bi==E+1+1+1+1)=false:=by rw[sN];omega
     have F7:(E+1+1+1+1==bi)=false:=by rw[sN];omega
     have G0:nx<E+1+1+1+1+1:=by omega
     have G1:¬nx=E+1+1+1+1+1:=by omega
     have G3:(nx==E+1+1+1+1+1)=false:=by rw[sN];omega
     have G4:(E+1+1+1+1+1==nx)=false:=by rw[sN];omega
     have H0:G<E+1+1+1+1+1:=by omega
     have H1:¬G=E+1+1+1+1+1:=by omega
     have H2:(G==E+1+1+1+1+1)=false:=by rw[sN];omega
     have H3:(E+1+1+1+1+1==G)=false:=by rw[sN];omega
     have H4:bt<E+1+1+1+1+1:=by omega
     have H5:¬bt=E+1+1+1+1+1:=by omega
     have I0:(bt==E+1+1+1+1+1)=false:=by rw[sN];omega
     have I1:(E+1+1+1+1+1==bt)=false:=by rw[sN];omega
     have I2:bi<E+1+1+1+1+1:=by omega
     have I3:¬bi=E+1+1+1+1+1:=by omega
     have I6:(bi==E+1+1+1+1+1)=false:=by rw[sN];omega
     have J0:(E+1+1+1+1+1==bi)=false:=by rw[sN];omega
     have J1:nx<E+1+1+1+1+1+1:=by omega
     have J2:¬nx=E+1+1+1+1+1+1:=by omega
     have K0:(nx==E+1+1+1+1+1+1)=false:=by rw[sN];omega
     have k7:(E+1+1+1+1+1+1==nx)=false:=by rw[sN];omega
     have i6:G<E+1+1+1+1+1+1:=by omega
     have i7:¬G=E+1+1+1+1+1+1:=by omega
     have k8:(G==E+1+1+1+1+1+1)=false:=by rw[sN];omega
     have n4:(E+1+1+1+1+1+1==G)=false:=by rw[sN];omega
     have K1:bt<E+1+1+1+1+1+1:=by omega
     have K2:¬bt=E+1+1+1+1+1+1:=by omega
     have K3:(bt==E+1+1+1+1+1+1)=false:=by rw[sN];omega
     have K4:(E+1+1+1+1+1+1==bt)=false:=by rw[sN];omega
     have K5:bi<E+1+1+1+1+1+1:=by omega
     have K6:¬bi=E+1+1+1+1+1+1:=by omega
     have K7:(bi==E+1+1+1+1+1+1)=false:=by rw[sN];omega
     have n5:(E+1+1+1+1+1+1==bi)=false:=by rw[sN];omega
     have n6:¬nx=G:=by omega
     have n7:(nx==G)=false:=by rw[sN];omega
     have n8:¬G=nx:=by omega
     have K8:(G==nx)=false:=by rw[sN];omega
     have K9:¬G=bt:=by omega
     have L0:(G==bt)=false:=by rw[sN];omega
     have L1:¬G=bi:=by omega
     have L2:(G==bi)=false:=by rw[sN];omega
     have L3:¬bt=G:=by omega
     have L4:(bt==G)=false:=by rw[sN];omega
     have L5:¬bi=G:=by omega
     have L7:(bi==G)=false:=by rw[sN];omega
     have M0:E<E+1:=by omega
     have M1:¬E=E+1:=by omega
     have M2:(E==E+1)=false:=by rw[sN];omega
     have M3:(E+1==E)=false:=by rw[sN];omega
     have M4:E<E+1+1:=by omega
     have M5:¬E=E+1+1:=by omega
     have M6:(E==E+1+1)=false:=by rw[sN];omega
     have M7:(E+1+1==E)=false:=by rw[sN];omega
     have M8:E<E+1+1+1:=by omega
     have M9:¬E=E+1+1+1:=by omega
     have N0:(E==E+1+1+1)=false:=by rw[sN];omega
     have N1:(E+1+1+1==E)=false:=by rw[sN];omega
     have N2:E<E+1+1+1+1:=by omega
     have N3:¬E=E+1+1+1+1:=by omega
     have N4:(E==E+1+1+1+1)=false:=by rw[sN];omega
     have N5:(E+1+1+1+1==E)=false:=by rw[sN];omega
     have N6:E<E+1+1+1+1+1:=by omega
     have O0:¬E=E+1+1+1+1+1:=by omega
     have O2:(E==E+1+1+1+1+1)=false:=by rw[sN];omega
     have O3:(E+1+1+1+1+1==E)=false:=by rw[sN];omega
     have P0:E<E+1+1+1+1+1+1:=by omega
     have P1:¬E=E+1+1+1+1+1+1:=by omega
     have P2:(E==E+1+1+1+1+1+1)=false:=by rw[sN];omega
     have P3:(E+1+1+1+1+1+1==E)=false:=by rw[sN];omega
     have P4:E+1<E+1+1:=by omega
     have n9:¬E+1=E+1+1:=by omega
     have o0:(E+1==E+1+1)=false:=by rw[sN];omega
     have o2:(E+1+1==E+1)=false:=by rw[sN];omega
     have o3:E+1<E+1+1+1:=by omega
     have P5:¬E+1=E+1+1+1:=by omega
     have P6:(E+1==E+1+1+1)=false:=by rw[sN];omega
     have P7:(E+1+1+1==E+1)=false:=by rw[sN];omega
     have o4:E+1<E+1+1+1+1:=by omega
     have o5:¬E+1=E+1+1+1+1:=by omega
     have p6:(E+1==E+1+1+1+1)=false:=by rw[sN];omega
     have p7:(E+1+1+1+1==E+1)=false:=by rw[sN];omega
     have P8:E+1<E+1+1+1+1+1:=by omega
     have Q0:¬E+1=E+1+1+1+1+1:=by omega
     have Q4:(E+1==E+1+1+1+1+1)=false:=by rw[sN];omega
     have Q6:(E+1+1+1+1+1==E+1)=false:=by rw[sN];omega
     have Q8:E+1<E+1+1+1+1+1+1:=by omega
     have R0:¬E+1=E+1+1+1+1+1+1:=by omega
     have p8:(E+1==E+1+1+1+1+1+1)=false:=by rw[sN];omega
     have p9:(E+1+1+1+1+1+1==E+1)=false:=by rw[sN];omega
     have R1:E+1+1<E+1+1+1:=by omega
     have R2:¬E+1+1=E+1+1+1:=by omega
     have R3:(E+1+1==E+1+1+1)=false:=by rw[sN];omega
     have R4:(E+1+1+1==E+1+1)=false:=by rw[sN];omega
     have R5:E+1+1<E+1+1+1+1:=by omega
     have R6:¬E+1+1=E+1+1+1+1:=by omega
     have R7:(E+1+1==E+1+1+1+1)=false:=by rw[sN];omega
     have R8:(E+1+1+1+1==E+1+1)=false:=by rw[sN];omega
     have R9:E+1+1<E+1+1+1+1+1:=by omega
     have S0:¬E+1+1=E+1+1+1+1+1:=by omega
     have S1:(E+1+1==E+1+1+1+1+1)=false:=by rw[sN];omega
     have S2:(E+1+1+1+1+1==E+1+1)=false:=by rw[sN];omega
     have S3:E+1+1<E+1+1+1+1+1+1:=by omega
     have S4:¬E+1+1=E+1+1+1+1+1+1:=by omega
     have S5:(E+1+1==E+1+1+1+1+1+1)=false:=by rw[sN];omega
     have S6:(E+1+1+1+1+1+1==E+1+1)=false:=by rw[sN];omega
     have S7:E+1+1+1<E+1+1+1+1:=by omega
     have S8:¬E+1+1+1=E+1+1+1+1:=by omega
     have T4:(E+1+1+1==E+1+1+1+1)=false:=by rw[sN];omega
     have T7:(E+1+1+1+1==E+1+1+1)=false:=by rw[sN];omega
     have T8:E+1+1+1<E+1+1+1+1+1:=by omega
     have T9:¬E+1+1+1=E+1+1+1+1+1:=by omega
     have U1:(E+1+1+1==E+1+1+1+1+1)=false:=by rw[sN];omega
     have U4:(E+1+1+1+1+1==E+1+1+1)=false:=by rw[sN];omega
     have U6:E+1+1+1<E+1+1+1+1+1+1:=by omega
     have V0:¬E+1+1+1=E+1+1+1+1+1+1:=by omega
     have V1:(E+1+1+1==E+1+1+1+1+1+1)=false:=by rw[sN];omega
     have V2:(E+1+1+1+1+1+1==E+1+1+1)=false:=by rw[sN];omega
     have V4:E+1+1+1+1<E+1+1+1+1+1:=by omega
     have V5:¬E+1+1+1+1=E+1+1+1+1+1:=by omega
     have W0:(E+1+1+1+1==E+1+1+1+1+1)=false:=by rw[sN];omega
     have W1:(E+1+1+1+1+1==E+1+1+1+1)=false:=by rw[sN];omega
     have W2:E+1+1+1+1<E+1+1+1+1+1+1:=by omega
     have W3:¬E+1+1+1+1=E+1+1+1+1+1+1:=by omega
     have W4:(E+1+1+1+1==E+1+1+1+1+1+1)=false:=by rw[sN];omega
     have W5:(E+1+1+1+1+1+1==E+1+1+1+1)=false:=by rw[sN];omega
     have W6:E+1+1+1+1+1<E+1+1+1+1+1+1:=by omega
     have W7:¬E+1+1+1+1+1=E+1+1+1+1+1+1:=by omega
     have W8:(E+1+1+1+1+1==E+1+1+1+1+1+1)=false:=by rw[sN];omega
     have X0:(E+1+1+1+1+1+1==E+1+1+1+1+1)=false:=by rw[sN];omega
     have X1:bb<E:=by omega
     have X2:¬bb=E:=by omega
     have Z0:(bb==E)=false:=by rw[sN];omega
     have Z1:(E==bb)=false:=by rw[sN];omega
     have Z2:bb<E+1:=by omega
     have Z3:¬bb=E+1:=by omega
     have Z4:(bb==E+1)=false:=by rw[sN];omega
     have Z5:(E+1==bb)=false:=by rw[sN];omega
     have Z6:bb<E+1+1:=by omega
     have awq:¬bb=E+1+1:=by omega
     have awr:(bb==E+1+1)=false:=by rw[sN];omega
     have awt:(E+1+1==bb)=false:=by rw[sN];omega
     have awu:bb<E+1+1+1:=by omega
     have awv:¬bb=E+1+1+1:=by omega
     have aww:(bb==E+1+1+1)=false:=by rw[sN];omega
     have awx:(E+1+1+1==bb)=false:=by rw[sN];omega
     have awy:bb<E+1+1+1+1:=by omega
     have awz:¬bb=E+1+1+1+1:=by omega
     have awC:(bb==E+1+1+1+1)=false:=by rw[sN];omega
     have awD:(E+1+1+1+1==bb)=false:=by rw[sN];omega
     have awE:bb<E+1+1+1+1+1:=by omega
     have awF:¬bb=E+1+1+1+1+1:=by omega
     have awG:(bb==E+1+1+1+1+1)=false:=by rw[sN];omega
     have awH:(E+1+1+1+1+1==bb)=false:=by rw[sN];omega
     have awI:bb<E+1+1+1+1+1+1:=by omega
     have awJ:¬bb=E+1+1+1+1+1+1:=by omega
     have awK:(bb==E+1+1+1+1+1+1)=false:=by rw[sN];omega
     have awL:(E+1+1+1+1+1+1==bb)=false:=by rw[sN];omega
     have awM:¬bb=G:=by omega
     have awN:¬G=bb:=by omega
     have awO:(bb==G)=false:=by rw[sN];omega
     have awP:(G==bb)=false:=by rw[sN];omega
     obtain⟨K,eK⟩:∃K,K=(pick n (D1.R.take i) (D1.B.take i)).1.length:=⟨_,rfl⟩;have eK2:(pick n (D1.R.take i) (D1.B.take i)).2.length=K:=by rw[eK];exact Jo
     have hKL:K<=1000:=by
      have h1:=GH.len;have h2:∀(R:List (List Rat)) (B:List Nat),(pick n R B).1.length<=R.length:=by
       intro R
       induction R with
       |nil=>intro B;simp[pick]
       |cons x R ih=>
        intro B;cases B with
        |nil=>simp[pick]
        |cons b B=>unfold pick;have:=ih B;split<;>simp<;>omega
      have:=h2 (D1.R.take i) (D1.B.take i);rw[zh]at this;omega
     have aEN:Ib.length=K:=GH.len.trans eK.symm;have hb:=GH.t
     have fin:∀σ' nx',E+1+1+1+1+1+1<nx'->σ' G=some ⟨[I n,.rs (E+1+1+1+1) 0 (K+1),.rs (E+1+1+1+1+1+1) 0 (K+1),.rs (J+1) 0 (n+1)],0,true⟩->σ' (E+1+1+1+1)=some ⟨(Ib++[E+1+1]).map fun b=>V.rs b 0 (n+1),1,true⟩->σ' (E+1+1+1+1+1+1)=some ⟨(CB ((pick n (D1.R.take i) (D1.B.take i)).2++[D1.B.getD i 0])).flatMap cI,1,true⟩->σ' (E+1+1)=some ⟨(w++[z]).flatMap cQ,3,true⟩->(∀y,y<E->y≠G->y∉bk Yl++bk Ym->σ' y=DF y) ->
       (∀x,x<G->σ' x=S x)/\∃Yl Ym Ib,Fp σ' G (J+1) Yl Ym Ib ⟨(pick n (D1.R.take (i+1)) (D1.B.take (i+1))).1,(pick n (D1.R.take (i+1)) (D1.B.take (i+1))).2,Ho c⟩ n/\∀x∈G :: (J+1) :: (bk Yl++bk Ym++Ib),G<=x/\x<nx':=fun σ' nx' p0 p1 p2 p3 p4 p5=>by
      refine⟨fun x Y=>(p5 x (by omega) (by omega) fun hm=>?_).trans (X8 x Y),.rs (E+1+1+1+1) 0 (K+1),.rs (E+1+1+1+1+1+1) 0 (K+1),Ib++[E+1+1],?_,fun x Y=>?_⟩
      .have:=G8 x (by simp only[zX];exact .inr (.inr (z_ _ hm)))
       omega
      .rw[j8]
       have:=ajc (x:=w++[z]) (b:=D1.B.getD i 0) GH (m0:=E) (br:=E+1+1+1+1) (bb:=E+1+1+1+1+1+1) (bw:=E+1+1) (σ':=σ') (fun y hy=>(G8 y hy).2) (by omega) (by omega) (by omega) (by omega) (by omega) (by omega)
        (by show σ' G=some (Fv.mk [_,.rs _ 0 ((pick n (D1.R.take i) (D1.B.take i)).1.length+1),.rs _ 0 ((pick n (D1.R.take i) (D1.B.take i)).1.length+1),_] _ _);rw[<- eK];exact p1) p2 p3 p4 p5
       rw[show(⟨(pick n (D1.R.take i) (D1.B.take i)).1,(pick n (D1.R.take i) (D1.B.take i)).2,Ho c⟩:TQ).R.length=K from eK.symm]at this;exact this
      .simp only[bk,yR,yJ,zX,xW,zK,or_false]at Y
       rcases Y with rfl|rfl|rfl|rfl|Y|rfl
       .omega
       .omega
       .omega
       .omega
       .have:=G8 x (by simp only[zX];exact .inr (.inr (yh _ Y)));omega
       .omega
     have ha1:=rD (σ:=restrict (upd (upd DF E (some ⟨w.flatMap cQ,3,true⟩)) (E+1) (some ⟨cQ z,3,true⟩)) [E,E+1]) (nx:=E+1+1) (size:=3) (bytes:=56) (b:=E) (len:=n) (m:=1) (row:=cQ z) (by rw[fO,Zm,Zj]) (by rw[bZ qJ,hwl]) (by decide) (by decide) (by unfold maxLen;omega) (by omega) rfl;obtain⟨CZ,e6⟩:∃CZ,CZ=upd (upd (upd (upd DF E (some ⟨w.flatMap cQ,3,true⟩)) (E+1) (some ⟨cQ z,3,true⟩)) E none) (E+1+1) (some ⟨w.flatMap cQ++cQ z,3,true⟩):=⟨_,rfl⟩;have o6:∀y,y<E->CZ y=DF y:=fun y hy=>by rw[e6,Zm,Zm,Zm,Zm]
     have lx1:G<E:=by omega
     have w6:CZ (E+1+1)=some ⟨(w++[z]).flatMap cQ,3,true⟩:=by rw[e6,Zj,zQ];simp
     have b6:CZ G=_:=(o6 G lx1).trans hb;have t6:CZ bt=_:=(o6 bt (by omega)).trans e1;have n0:CZ bb=_:=(o6 bb (by omega)).trans e3;have Bz:CZ nx=_:=(o6 nx (by omega)).trans e5;have u50:G<E+1+1+1+1+1+1+1:=by omega
     have hpK:∀q,q=(pick n (D1.R.take i) (D1.B.take i)).1.length->q=K:=fun q h=>h.trans eK.symm
     rcases GH.r with ⟨n1,rfl⟩|⟨Ie,n1,s5,Ug⟩<;>rcases GH.b with ⟨s6,rfl⟩|⟨a1,s6,s7,Uh⟩
     .have hK0:K=0:=eK.trans n1
      have az0:Ib=[]:=zZ (by omega);have hP2:(pick n (D1.R.take i) (D1.B.take i)).2=[]:=zZ (by omega);obtain⟨EU,e7⟩:∃EU,EU=upd (upd (upd CZ (E+1+1+1) (some ⟨[V.rs (E+1+1) 0 (n+1)],1,true⟩)) (E+1+1+1+1) (some ⟨[V.rs (E+1+1) 0 (n+1)],1,true⟩)) G (some ⟨[I n,.rs (E+1+1+1+1) 0 1,.nil,.rs (J+1) 0 (n+1)],0,true⟩):=⟨_,rfl⟩;have b7:EU G=some ⟨[I n,.rs (E+1+1+1+1) 0 1,.nil,.rs (J+1) 0 (n+1)],0,true⟩:=by rw[e7,Zj]
      have o7:∀y,y<E+1+1+1->y≠G->EU y=CZ y:=fun y h1 h2=>by rw[e7,Zk _ _ h2,Zm,Zm]
      have s8:EU bt=_:=(o7 bt (by omega) (by omega)).trans t6;have s9:EU bb=_:=(o7 bb (by omega) (by omega)).trans n0;refine .inl ⟨_,by simp only[go_sem,t1,t2,t7,t95,t96,t97,e1,e2,e3,e4,e5,r1,b1,g1,g2,g3,c1,l1,l2,l3,r3,r4,r5,r6,r7,r8,r9,w8,w9,x0,x8,x9,hb,ha1,u50,<- e6,b6,t6,n0,Bz,<- e7,b7,s8,s9,y1,y2,y3,y4,y5,y6,y7,y8,y9,O4,O5,O6,c7,Rx,c8,c9,e8,e9,h4,h5,h6,h7,h8,h9,i0,i1,i2,i3,i4,i5,y0,z6,z7,z8,A0,A1,A2,A3,A4,A5,A6,A7,A8,A9,B1,B2,B3,B4,B5,B6,B7,B8,B9,C0,C1,C2,C3,C4,C5,C6,C7,C8,D3,D4,D5,D6,E0,E1,E2,E3,E4,E6,E7,E9,F0,F1,F2,F3,F4,F7,G0,G1,G3,G4,H0,H1,H2,H3,H4,H5,I0,I1,I2,I3,I6,J0,J1,J2,K0,k7,i6,i7,k8,n4,K1,K2,K3,K4,K5,K6,K7,n5,n6,n7,n8,K8,K9,L0,L1,L2,L3,L4,L5,L7,M0,M1,M2,M3,M4,M5,M6,M7,M8,M9,N0,N1,N2,N3,N4,N5,N6,O0,O2,O3,P0,P1,P2,P3,P4,n9,o0,o2,o3,P5,P6,P7,o4,o5,p6,p7,P8,Q0,Q4,Q6,Q8,R0,p8,p9,R1,R2,R3,R4,R5,R6,R7,R8,R9,S0,S1,S2,S3,S4,S5,S6,S7,S8,T4,T7,T8,T9,U1,U4,U6,V0,V1,V2,V4,V5,W0,W1,W2,W3,W4,W5,W6,W7,W8,X0,X1,X2,Z0,Z1,Z2,Z3,Z4,Z5,Z6,awq,awr,awt,awu,awv,aww,awx,awy,awz,awC,awD,awE,awF,awG,awH,awI,awJ,awK,awL,awM,awN,awO,awP];rfl,?_⟩;simp only[go_sem,t1,t2,t7,t95,t96];refine⟨rfl,by omega,fin _ _ (by omega) ?_ ?_ ?_ ?_ fun y h1 h2 _=>?_⟩
      .rw[Zj,hK0]
      .rw[Zm,Zm,Zm,e7,Zm,Zj,az0];rfl
      .rw[Zm,Zj,hP2];rfl
      .rw[Zm,Zm,Zm,o7 _ (by omega) (by omega)];exact w6
      .rw[Zk _ _ h2,Zm,Zm,o7 y (by omega) h2];exact o6 y h1
     .exact absurd s6 (by rw[n1];decide)
     .exact absurd n1 (by rw[s6];decide)
     .replace s5:Yl= .rs Ie 0 K:=by rw[s5,eK]
      replace s7:Ym= .rs a1 0 K:=by rw[s7,eK]
      subst s5 s7;have nd5:=GH.nd;simp only[bk,yR,yJ,xk,zX,not_or]at nd5;obtain⟨⟨m1,m2,m3,m4⟩,⟨m5,m6,m7⟩,⟨m8,m9⟩,m10,m11⟩:=nd5;have lr':=G8 Ie (by simp[bk]);have lb':=G8 a1 (by simp[bk]);have ain:CZ Ie=_:=(o6 Ie lr'.2).trans Ug;have ail:CZ a1=_:=(o6 a1 lb'.2).trans Uh;have ha2:=rE (σ:=restrict (upd CZ (E+1+1+1) (some ⟨[V.rs (E+1+1) 0 (n+1)],1,true⟩)) [Ie,E+1+1+1]) (nx:=E+1+1+1+1) (bytes:=24) (b:=Ie) (len:=K) (m:=1) (row:=[V.rs (E+1+1) 0 (n+1)]) (by rw[fO,Zm];exact ain) (by simp;omega) rfl (by decide) (by unfold maxLen;omega) (by omega) rfl;obtain⟨EU,e7⟩:∃EU,EU=upd (upd (upd (upd CZ (E+1+1+1) (some ⟨[V.rs (E+1+1) 0 (n+1)],1,true⟩)) Ie none) (E+1+1+1+1) (some ⟨(Ib.map fun b=>V.rs b 0 (n+1))++[V.rs (E+1+1) 0 (n+1)],1,true⟩)) G (some ⟨[I n,.rs (E+1+1+1+1) 0 (K+1),.rs a1 0 K,.rs (J+1) 0 (n+1)],0,true⟩):=⟨_,rfl⟩;have b7:EU G=some ⟨[I n,.rs (E+1+1+1+1) 0 (K+1),.rs a1 0 K,.rs (J+1) 0 (n+1)],0,true⟩:=by rw[e7,Zj]
      have o7:∀y,y<E+1+1+1->y≠G->y≠Ie->EU y=CZ y:=fun y h1 h2 h3=>by rw[e7,Zk _ _ h2,Zm,Zk _ _ h3,Zm]
      have s8:EU bt=_:=(o7 bt (by omega) (by omega) (by omega)).trans t6;have s9:EU bb=_:=(o7 bb (by omega) (by omega) (by omega)).trans n0;have bb7:EU a1=_:=(o7 a1 (by omega) (yu m3) (yu m8)).trans ail;have ha3:=rE (σ:=restrict (upd EU (E+1+1+1+1+1) (some ⟨[I ((D1.B.getD i 0:Nat):Int)],1,true⟩)) [a1,E+1+1+1+1+1]) (nx:=E+1+1+1+1+1+1) (bytes:=8) (b:=a1) (len:=K) (m:=1) (row:=[I ((D1.B.getD i 0:Nat):Int)]) (by rw[fO,Zm];exact bb7) (by show((CB (pick n (D1.R.take i) (D1.B.take i)).2).flatMap cI).length=K;rw[qN,aA];exact eK2) rfl (by decide) (by unfold maxLen;omega) (by omega) rfl;have u1:¬G=Ie:=m2;have u2:¬G=a1:=m3;have u3:(G==Ie)=false:=beq_false_of_ne m2;have u4:(G==a1)=false:=beq_false_of_ne m3;have u5:(Ie==G)=false:=beq_false_of_ne (yu m2);have u6:(a1==G)=false:=beq_false_of_ne (yu m3);have u7:Ie<E+1+1+1:=by omega
      have u8:Ie<E+1+1+1+1:=by omega
      have u9:a1<E+1+1+1+1+1:=by omega
      have u10:a1<E+1+1+1+1+1+1:=by omega
      have u11:(bt==Ie)=false:=by rw[sN];omega
      have u12:(bt==a1)=false:=by rw[sN];omega
      have u13:(bi==Ie)=false:=by rw[sN];omega
      have u14:(bb==Ie)=false:=by rw[sN];omega
      have u15:(bb==a1)=false:=by rw[sN];omega
      have u16:¬bt=Ie:=by omega
      have u17:¬bb=Ie:=by omega
      have u18:¬bt=a1:=by omega
      have u19:¬bb=a1:=by omega
      have u20:(Ie==E)=false:=by rw[sN];omega
      have u21:(E==Ie)=false:=by rw[sN];omega
      have u22:(Ie==E+1)=false:=by rw[sN];omega
      have u23:(E+1==Ie)=false:=by rw[sN];omega
      refine .inl ⟨_,by simp only[go_sem,t1,t2,t7,t95,t96,t97,e1,e2,e3,e4,e5,r1,b1,g1,g2,g3,c1,l1,l2,l3,r3,r4,r5,r6,r7,r8,r9,w8,w9,x0,x8,x9,hb,ha1,u50,<- e6,b6,t6,n0,Bz,ha2,<- e7,b7,s8,s9,ha3,u1,u2,u3,u4,u5,u6,u7,u8,u9,u10,u11,u12,u13,u14,u15,u16,u17,u18,u19,u20,u21,u22,u23,y1,y2,y3,y4,y5,y6,y7,y8,y9,O4,O5,O6,c7,Rx,c8,c9,e8,e9,h4,h5,h6,h7,h8,h9,i0,i1,i2,i3,i4,i5,y0,z6,z7,z8,A0,A1,A2,A3,A4,A5,A6,A7,A8,A9,B1,B2,B3,B4,B5,B6,B7,B8,B9,C0,C1,C2,C3,C4,C5,C6,C7,C8,D3,D4,D5,D6,E0,E1,E2,E3,E4,E6,E7,E9,F0,F1,F2,F3,F4,F7,G0,G1,G3,G4,H0,H1,H2,H3,H4,H5,I0,I1,I2,I3,I6,J0,J1,J2,K0,k7,i6,i7,k8,n4,K1,K2,K3,K4,K5,K6,K7,n5,n6,n7,n8,K8,K9,L0,L1,L2,L3,L4,L5,L7,M0,M1,M2,M3,M4,M5,M6,M7,M8,M9,N0,N1,N2,N3,N4,N5,N6,O0,O2,O3,P0,P1,P2,P3,P4,n9,o0,o2,o3,P5,P6,P7,o4,o5,p6,p7,P8,Q0,Q4,Q6,Q8,R0,p8,p9,R1,R2,R3,R4,R5,R6,R7,R8,R9,S0,S1,S2,S3,S4,S5,S6,S7,S8,T4,T7,T8,T9,U1,U4,U6,V0,V1,V2,V4,V5,W0,W1,W2,W3,W4,W5,W6,W7,W8,X0,X1,X2,Z0,Z1,Z2,Z3,Z4,Z5,Z6,awq,awr,awt,awu,awv,aww,awx,awy,awz,awC,awD,awE,awF,awG,awH,awI,awJ,awK,awL,awM,awN,awO,awP];rfl,?_⟩;simp only[go_sem,t1,t2,t7,t95,t96];refine⟨rfl,by omega,fin _ _ (by omega) ?_ ?_ ?_ ?_ fun y h1 h2 h3=>?_⟩
      .rw[Zj]
      .rw[Zm,Zm,Zm,Zm,e7,Zm,Zj,xH];rfl
      .rw[Zm,Zj]
       show some (Fv.mk ((CB (pick n (D1.R.take i) (D1.B.take i)).2).flatMap cI++[I ((D1.B.getD i 0:Nat):Int)]) 1 true)=_;unfold CB;rw[xH,zQ];rfl
      .rw[Zm,Zm,Zm,Zm,o7 _ (by omega) (by omega) (by omega)];exact w6
      .simp only[bk,yR,yJ,zX,zK,or_false,not_or]at h3
       rw[Zk _ _ h2,Zm,Zk _ _ h3.2,Zm,o7 y (by omega) h2 h3.1];exact o6 y h1
    .rw[sQ hB]at j8
     have c1:¬((D1.B.getD i 0:Nat):Int)<(n:Int):=by omega
     refine .inl ⟨_,by simp only[go_sem,t1,t2,t7,t95,t96,t97,e1,e2,e3,e5,r1,b1,g1,g2,g3,c1,l1,l2,l3];rfl,?_⟩;simp only[go_sem,t1,t2,t7,t95,t96];exact⟨rfl,j7,X8,Yl,Ym,Ib,by rw[j8];exact GH,G8⟩) (by
    clear hL;rintro ⟨T,DF,E⟩ ⟨t1,t2,t7,t95,t96,t97,j7,X8,Yl,Ym,Ib,GH,G8⟩;simp only at t1 t2 t7 t95 t96 t97 j7 X8 GH G8;refine⟨_,by simp only[go_sem,t96,t97,zi];rfl,by simp,_,_,_,Yl,Ym,Ib,rfl,?_⟩;simp only[go_sem,t7];rw[zl (by omega),zl (by omega)]at GH;exact⟨j7,X8,GH,G8⟩) (by
    simp only[go_sem,t1,t2,t7];refine⟨by omega,l8,.nil,.nil,[],⟨w5,.inl ⟨rfl,rfl⟩,fun i h=>absurd h (zW _),.inl ⟨rfl,rfl⟩,w7,rfl,?_⟩,fun x Y=>?_⟩
    .simp only[bk,zH,xk,yD,zK,not_false_iff,true_and,List.nodup_nil,and_true]
     omega
    .simp only[bk,zH,zX,zK,or_false]at Y
     omega)
  clear hL;obtain⟨P,eP⟩:∃P,P=pick n D1.R D1.B:=⟨_,rfl⟩;have n2:=Jp (n:=n) (R:=D1.R) (B:=D1.B);have hpl:=Jo (n:=n) (R:=D1.R) (B:=D1.B);have awQ:=hcl D1 Vd fun i hi=>c0 i (by omega)
  rw[<- eP]at n2 hpl GH awQ;have alR:∀x∈P.1,x.length=n+1:=fun x Y=>by
   obtain⟨y,hy,rfl⟩:=n2.1 x Y;have:=j5.row y hy;rw[zo,zh];simp;omega
  have pln:∀x∈P.1,∀q∈x,Ln 6 q:=fun x Y q hq=>by
   obtain⟨y,hy,rfl⟩:=n2.1 x Y;have hyl:=j5.row y hy;rcases List.mem_append.mp hq with hq|hq
   .exact j5.big y hy q (wR hq)
   .rw[List.mem_singleton.mp hq,List.getLastD_eq_getLast?,List.getLast?_eq_getElem?,zy (by omega)]
    exact j5.big y hy _ (zu _)
  obtain⟨K,eK⟩:∃K,K=P.1.length:=⟨_,rfl⟩;have u0:(⟨P.1,P.2,Ho c⟩:TQ).R.length=K:=eK.symm;have aqH:K<=1000:=by
   have h2:∀(R:List (List Rat)) (B:List Nat),(pick n R B).1.length<=R.length:=by
    intro R
    induction R with
    |nil=>intro B;simp[pick]
    |cons x R ih=>
     intro B;cases B with
     |nil=>simp[pick]
     |cons b B=>unfold pick;have:=ih B;split<;>simp<;>omega
   have:=h2 D1.R D1.B;rw[<- eP]at this;omega
  have v6:DI ZM 245 j6=some (I K):=by
   rcases GH.r with ⟨q1,rfl⟩|⟨br,q1,rfl,_⟩
   .rw[u0]at q1
    rw[q1];exact nX (by kernel_rfl)
   .rw[u0];exact nV (by kernel_rfl)
  have hb5:=GH.t;simp only[go_sem,t7,hb5,v6];generalize hL:iI _ _=y;obtain⟨x,rfl,T6,CZ,Bz,rfl,t7,PI,O7,i9⟩:=oZ hL K (fun i st=>st.T 7= .rp G 0/\st.T 157=j6/\st.T 158=I K/\st.T 159=I i/\E<=st.nx/\(∀x,x<G->st.σ x=DF x)/\Fp st.σ G (J+1) j6 l9 c3 ⟨P.1,P.2,clears (Ho c) (P.1.take i) (P.2.take i)⟩ n)
   (fun x=>∃T CZ Bz,x=(.exit 8,⟨T,CZ,Bz⟩)/\T 7= .rp G 0/\E<=Bz/\(∀x,x<G->CZ x=DF x)/\Fp CZ G (J+1) j6 l9 c3 ⟨P.1,P.2,clears (Ho c) P.1 P.2⟩ n) (by
    clear hL;rintro i ⟨T,CZ,Bz⟩ hi ⟨t7,t157,j9,t159,PI,O7,i9⟩;simp only at t7 t157 j9 t159 PI i9;obtain⟨q1,q2,q3,q4,q5,q6,q7⟩:=i9;have hl6:c3.length=K:=q6.trans u0;rcases q2 with ⟨w0,_⟩|⟨k3,_,v7,al3⟩
    .have:P.1.length=0:=w0
     omega
    rcases q4 with ⟨w0,_⟩|⟨c4,_,v8,al4⟩
    .have:P.1.length=0:=w0
     omega
    replace v7:j6= .rs k3 0 K:=by rw[v7,eK]
    replace v8:l9= .rs c4 0 K:=by rw[v8,eK]
    subst v7 v8;have b9:i<c3.length:=by omega
    obtain⟨bi,FI⟩:∃bi,bi=c3[i]:=⟨_,rfl⟩;have YD:CZ bi=some ⟨(ED P.1 i).flatMap cQ,3,true⟩:=by rw[FI];exact q3 i b9
    have q7':=q7;simp only[bk,yR,yJ,xk,zX,not_or]at q7;obtain⟨⟨m1,m2,m3,m4⟩,⟨m5,m6,m7⟩,⟨m8,m9⟩,m10,m11⟩:=q7;have k9:bi∈c3:=by rw[FI];exact zu b9
    have d1:G≠bi:=fun e=>m4 (e ▸ k9)
    have d2:J+1≠bi:=fun e=>m7 (e ▸ k9)
    have d3:k3≠bi:=fun e=>m9 (e ▸ k9)
    have d4:c4≠bi:=fun e=>m10 (e ▸ k9)
    have g1:(i:Int)<(K:Int):=by omega
    have g2:=jF i;have g3:=ZU (n:=(i:Int)+1);have r1:(c3.map fun b=>V.rs b 0 (n+1))[i]?=some (.rs bi 0 (n+1)):=by rw[yc,zy b9,FI];rfl
    have b1:((CB P.2).flatMap cI)[i]?=some (I ((P.2.getD i 0:Nat):Int)):=by
     rw[idx (by rw[aA];omega),aB (by omega)]
    have l1:G<Bz:=by have:=G8 G (by simp);omega
    have l2:J+1<Bz:=by omega
    have l3:c4<Bz:=by have:=G8 c4 (by simp[bk]);omega
    have l4:bi<Bz:=by have:=G8 bi (by simp[k9]);omega
    have z1:(G==J+1)=false:=beq_false_of_ne m1;have z2:(G==bi)=false:=beq_false_of_ne d1;have z3:(c4==J+1)=false:=beq_false_of_ne (yu m6);have z4:(c4==bi)=false:=beq_false_of_ne d4;have hPi:P.2.getD i 0<n:=by rw[lM (by omega)];exact n2.2 _ (zu _)
    have awR:ED P.1 i∈P.1:=by rw[dS (by omega)];exact zu _
    have az7:(Ho c).length=n+1:=by unfold Ho;rw[zo,gQ];simp;omega
    obtain⟨s3,m3',aES,kc,pe,f1,f2,f3⟩:=UM (σ:=CZ) (nx:=Bz) (bi:=J+1) (bR:=bi) (N:=n) (k:=P.2.getD i 0) (x:=clears (Ho c) (P.1.take i) (P.2.take i)) (t:=ED P.1 i) (Pm az7 fun x Y=>alR x (wR Y)) (alR _ awR) (by omega) (by omega) (awQ i (by omega)) (pln _ awR) q5 YD d2 l2 l4;have esn:LW (clears (Ho c) (P.1.take i) (P.2.take i)) (ED P.1 i) ((clears (Ho c) (P.1.take i) (P.2.take i)).getD (P.2.getD i 0) 0)=clears (Ho c) (P.1.take (i+1)) (P.2.take (i+1)):=by
     have e1:P.1.take (i+1)=P.1.take i++[ED P.1 i]:=by rw[yL,zy (by omega),dS (by omega)];rfl
     have e2:P.2.take (i+1)=P.2.take i++[P.2.getD i 0]:=by rw[yL,zy (by omega),lM (by omega)];rfl
     rw[e1,e2,LD _ _ (by rw[zh,zh,hpl])]
    refine .inl ⟨_,by simp only[go_sem,t7,t157,j9,t159,q1,al3,al4,b1,r1,g1,g2,g3,l1,l2,l3,l4,z1,z2,z3,z4,kc,pe];rfl,?_⟩;simp only[go_sem,t7,t157,j9];refine⟨rfl,by omega,fun x Y=>(f3 x (by omega) (by omega)).trans (O7 x Y),⟨(f3 G l1 m1).trans q1,.inr ⟨k3,by show 0<P.1.length;omega,by show _=V.rs k3 0 P.1.length;rw[eK],(f3 k3 (by have:=G8 k3 (by simp[bk]);omega) (yu m5)).trans al3⟩,fun j hj=>?_,.inr ⟨c4,by show 0<P.1.length;omega,by show _=V.rs c4 0 P.1.length;rw[eK],(f3 c4 l3 (yu m6)).trans al4⟩,?_,q6,q7'⟩⟩
    .have hm:=zu hj
     rw[f3 _ (by have:=G8 c3[j] (by simp[hm]);omega) fun e=>m7 (e ▸ hm)];exact q3 j hj
    .rw[f1]
     show some (Fv.mk (List.flatMap cQ (LW _ _ _)) 3 true)=_;rw[esn]) (by
    clear hL;rintro ⟨T,CZ,Bz⟩ ⟨t7,t157,j9,t159,PI,O7,i9⟩;simp only at t7 t157 j9 t159 PI i9;refine⟨_,by simp only[go_sem,j9,t159,zi];rfl,by simp,_,_,_,rfl,?_⟩;simp only[go_sem,t7];rw[zl (by omega),zl (by omega)]at i9;exact⟨PI,O7,i9⟩) (by
    simp only[go_sem,t7];have e0:clears (Ho c) [] []=Ho c:=by unfold clears;rfl
    rw[e0];exact⟨fun _ _=>trivial,GH⟩)
  refine⟨CZ,Bz,G,J+1,j6,l9,c3,D1,by simp only[go_sem,t7],Vd,fun i hi=>c0 i (by omega),?_,fun x Y=>?_,fun x Y l7=>(O7 x (by omega)).trans ((X8 x (by omega)).trans (k4 x Y l7))⟩
  .unfold D2q;rw[<- eP];exact i9
  .have:=G8 x Y;omega
end Go.Proofs.YtjknobpihkmilaaGreat
namespace Go.Proofs.YtjknobpihkmilaaGreat
open Go Go.TV Go.Lp
theorem RN{M:Nat}(E:1<=M):∀ {k m:Nat},m<=k->fact M m<=fact M k
 |0,m,h=>by have:m=0:=by omega
            subst this;exact zq _
 |k+1,m,h=>by
  by_cases e:m=k+1
  .subst e;exact zq _
  .refine zL (RN E (k:=k) (m:=m) (by omega)) ?_
   show fact M k<=(k+1)*(M*fact M k);have G:1*fact M k<=M*fact M k:=zD _ E;have J:1*(M*fact M k)<=(k+1)*(M*fact M k):=zD _ (by omega);omega
def BM:Nat:=13*(1000*fact 1000 12)+fact 1000 12
theorem anQ:ln BM<=6:=jd.mpr (by decide+kernel)
theorem Yn{K m:Nat}(E:K<=1000)(hm:m<=12):(m+1)*(K*fact 1000 m)+fact 1000 m<=BM:=by
 have G:=RN (M:=1000) (by decide) hm;have J:K*fact 1000 m<=1000*fact 1000 12:=xK E G;have O:(m+1)*(K*fact 1000 m)<=13*(1000*fact 1000 12):=xK (by omega) J;unfold BM;omega
theorem Pn{M:Nat}{q:Rat}(h:q.num.natAbs<=M/\q.den<=M)(E:M<=BM):Ln 6 q :=
 ⟨zL (jc (zL h.1 E)) anQ,zL (jc (zL h.2 E)) anQ⟩
theorem UU{k:Nat}{q:Rat}(h:Ln k q):Ln k (-q):=⟨by rw[Rat.neg_num,wC];exact h.1,by rw[Rat.neg_den];exact h.2⟩
theorem amN:Ln 6 0:=Ln.mono (sG (z:=0) (by decide)) (by decide)
structure PrS (A b c:List Int) (m n:Nat):Prop where
 hA:A.length=m*n
 hb:b.length=m
 hc:c.length=n
 hm:m<=12
 hn:n<=16
 bA:∀x∈A,-1000<=x/\x<=1000
 bb:∀x∈b,-1000<=x/\x<=1000
 bc:∀x∈c,-1000<=x/\x<=1000
theorem gX{A b c:List Int}{m n:Nat}(h:PrS A b c m n):Whole (AV A b c m n) 1000 :=
 ⟨by decide,fun j k _ _=>⟨_,rfl,Rf (lK h.bA _)⟩,fun k _=>⟨_,rfl,Rf (lK h.bb _)⟩⟩
section
variable {A b c:List Int} {m n n':Nat} {C:Nat->Rat} {T:Tab} {D:TQ} {ι:List Nat}
theorem aqK(hp:PrS A b c m n)(E:(AV A b c m n).Good T){i j:Nat}(hi:i<m)(G:j<n+m):Ln 6 (T.e i j) :=
 Pn (aly E (gX hp) hi G) (by have:=Yn (K:=0) (m:=m) (by decide) hp.hm;show fact 1000 m<=BM;omega)
theorem ajg(hp:PrS A b c m n)(E:(AV A b c m n).Good T){i:Nat}(hi:i<m):Ln 6 (T.b i) :=
 Pn (ae2 E (gX hp) hi) (by have:=Yn (K:=0) (m:=m) (by decide) hp.hm;show fact 1000 m<=BM;omega)
theorem abN(hp:PrS A b c m n)(h:Vq (AV A b c m n) n' C T D ι)(E:(AV A b c m n).Good T)(hC:∀j,ZB 1000 (C j)):ShF D n'/\D.B.Nodup:=by
 have hm:=hp.hm;have hn:=hp.hn;have hle:n'<=n+m:=h.le;have hl:D.R.length<=m:=by
  rw[<- h.len];have h2:ι ⊆ List.range m:=fun r hr=>List.mem_range.mpr (h.lt r hr)
  have h3:=h.nd.length_le_of_subset h2
  rwa [uM]at h3
 refine⟨⟨h.row,h.Bq,h.Gy,by omega,by omega,fun x hx q J=>?_,fun q J=>?_,fun q J=>?_⟩,?_⟩
 .obtain⟨i,hi,rfl⟩:=zA hx
  obtain⟨j,O,rfl⟩:=zA J;have a6:=h.row _ (zu hi);have e:(D.R[i])[j]=Cm D.R i j:=by
   have:=oD (R:=D.R) (i:=i) (j:=j) (by rw[dS hi];exact O);rw[<- this];simp only[dS hi]
  rw[e]
  by_cases G:j<n'
  .rw[h.ent i j hi G];exact aqK hp E (h.io hi) (by omega)
  .have:j=n':=by omega
   subst this;rw[h.rhs i hi];exact ajg hp E (h.io hi)
 .obtain⟨j,O,rfl⟩:=zA J
  have a7:=h.Gy;rw[<- lM O 0]
  by_cases G:j<n'
  .rw[h.cost j G]
   exact Pn (aoZ E (gX hp) hC (show j<n+m by omega)) (Yn (zq _) hm)
  .have:j=n':=by omega
   subst this;rw[h.val];exact UU (Pn (ao0 E (gX hp) hC) (Yn (zq _) hm))
 .obtain⟨i,hi,rfl⟩:=zA J
  have S:=h.Bq;rw[<- lM hi 0,h.BH i (by omega)];have:T.B (ι.getD i 0)<n+m:=E.ok.bn _ (h.io (by omega));omega
 .rw[List.nodup_iff_pairwise_ne,List.pairwise_iff_getElem]
  intro i j hi O a8 e;have S:=h.Bq;rw[<- lM hi 0,<- lM O 0,h.BH i (by omega),h.BH j (by omega)]at e;have Y:=E.ok.un _ _ (h.io (i:=i) (by omega)) (h.io (i:=j) (by omega));have u2:=E.ok.un _ _ (h.io (i:=i) (by omega)) (h.io (i:=i) (by omega));rw[sO rfl]at u2;rw[<- e,u2]at Y;have:ι.getD i 0=ι.getD j 0:=by
   refine zf fun a1=>?_
   rw[sQ a1]at Y;exact absurd Y (by decide)
  have:=lG h.nd (by rw[h.len];omega) (by rw[h.len];omega) this;omega
theorem anR(j:Nat):ZB 1000 ((AV A b c m n).c1 j):=by
 unfold Prog.c1
 split
 .exact⟨0,rfl,by decide⟩
 .exact⟨-1,rfl,by decide⟩
theorem awS(hp:PrS A b c m n)(j:Nat):ZB 1000 ((AV A b c m n).C 0 j):=by
 unfold Prog.C;rw[sO rfl]
 split
 .exact⟨c.getD j 0,rfl,by have:=lK hp.bc j;omega⟩
 .exact⟨0,rfl,by decide⟩
theorem Po:∀ {R:List (List Rat)} {B:List Nat} (q:Nat),Units R B->Units (R.take q) (B.take q)
 |[],_,q,_=>by simp[Units]
 |_ :: _,[],q,_=>by cases q<;>simp[Units]
 |x :: R,b :: B,0,_=>by simp[Units]
 |x :: R,b :: B,q+1,h=>⟨fun b' E=>h.1 b' (wR E),Po (R:=R) (B:=B) q h.2⟩
theorem ada{c:List Rat}{j F:Nat}{Δ:Rat}(hc:∀i,ZB 1000 (c.getD i 0)):∀ {R:List (List Rat)} {B:List Nat},(∀x∈R,ZB F (x.getD j 0*Δ))->ZB (R.length*(1000*F)) (F6 c j R B*Δ)
 |[],_,_=>by
  have e:F6 c j [] ‹List Nat›=0:=by unfold F6;rfl
  rw[e];exact⟨0,by grind,wF _⟩
 |x :: R,[],_=>by
  have e:F6 c j (x :: R) []=0:=by unfold F6;rfl
  rw[e];exact⟨0,by grind,wF _⟩
 |x :: R,b :: B,h=>by
  have e:F6 c j (x :: R) (b :: B)*Δ=c.getD b 0*(x.getD j 0*Δ)+F6 c j R B*Δ:=by
   show(c.getD b 0*x.getD j 0+F6 c j R B)*Δ=_;grind
  rw[e];have E:=(hc b).mul (h x zO);have G:=ada hc (R:=R) (B:=B) fun y J=>h y (zY _ J)
  exact(E.add G).mono (by rw[zV,xq R.length (1000*F)];exact Nat.le_of_eq (wQ _ _))
theorem UW(c:List Int)(i:Nat):(Ho c).getD i 0=((c.getD i 0:Int):Rat):=by
 unfold Ho qs;rw[zx,zx]
 by_cases h:i<c.length
 .rw[zU (by simpa using h),yc,zy h];rfl
 .rw[zN (by simp;omega),yX (l:=c) (by omega)]
  by_cases E:i=c.length
  .subst E;simp
  .rw[yX (by simp;omega)];rfl
theorem adb(hc:c.length=n):(Ho c).length=n+1:=by unfold Ho;rw[zo,gQ];simp;omega
theorem anS(hp:PrS A b c m n)(h:Vq (AV A b c m n) (n+m) (AV A b c m n).c1 T D ι)(G:(AV A b c m n).Good T)(J:∀r,r<m->r∈ι)(O:Zero (AV A b c m n) T)(E:∀i,i<D.R.length->EN n D i) :
  Vq (AV A b c m n) n ((AV A b c m n).C 0) T (D2q n D c) (CY n ι D.B) :=
 Xn (p:=AV A b c m n) h G J O E (adb hp.hc) (fun j S=>UW c j) (by
  show(Ho c).getD n 0=0;rw[UW,zx,yX (by have:=hp.hc;omega)];rfl)
theorem afG(hp:PrS A b c m n)(h:Vq (AV A b c m n) (n+m) (AV A b c m n).c1 T D ι)(E:(AV A b c m n).Good T)(P5:∀r,r<m->r∈ι)(hz:Zero (AV A b c m n) T)(Y:∀i,i<D.R.length->EN n D i) :
  ∀q,q<=(pick n D.R D.B).1.length->∀u∈clears (Ho c) ((pick n D.R D.B).1.take q) ((pick n D.R D.B).2.take q),Ln 6 u:=fun q S u hu=>by
 have V:=anS hp h E P5 hz Y;have b2:=adb hp.hc;have G:=Jp (n:=n) (R:=D.R) (B:=D.B);have J:=Jo (n:=n) (R:=D.R) (B:=D.B);have hw:=gX hp;have b3:(pick n D.R D.B).1.length<=m:=by
  have h1:(CY n ι D.B).length=(pick n D.R D.B).1.length:=V.len;rw[<- h1];have h2:CY n ι D.B ⊆ List.range m:=fun r hr=>List.mem_range.mpr (V.lt r hr)
  have h3:=V.nd.length_le_of_subset h2
  rwa [uM]at h3
 obtain⟨P,eP⟩:∃P,P=pick n D.R D.B:=⟨_,rfl⟩;unfold D2q at V;rw[<- eP]at V G J S hu b3;have a1:∀i,i<P.1.length->P.2.getD i 0<n:=fun i hi=>by rw[lM (by omega)];exact G.2 _ (zu _)
 have b4:Units P.1 P.2:=by
  have:=Xm (R:=P.1) (k:=0) (B:=P.2) (by rw[yg];exact J) fun i q hi S b9 _=>by
   rw[Nat.sub_zero,V.ent i _ hi (a1 q S),show P.2.getD q 0=T.B ((CY n ι D.B).getD q 0)from V.BH q S,E.ok.un _ _ (V.io hi) (V.io S)];rw[sQ fun e=>by have:=lG V.nd (by rw[V.len];exact hi) (by rw[V.len];exact S) e;omega]
  rwa [yg]at this
 obtain⟨k1,k2⟩:=Ko (n:=n+1) (R:=P.1.take q) (B:=P.2.take q) b2 (fun x hx=>V.row x (wR hx)) (fun d hd=>by have:=G.2 d (wR hd);omega) (Po q b4) (by rw[zh,zh,J]);obtain⟨j,hj,rfl⟩:=zA hu;rw[<- lM hj 0,k2 j (by omega)];obtain⟨Δ,O⟩:∃Δ,Δ=Lp.CX m fun q=>(AV A b c m n).A (T.B q):=⟨_,rfl⟩
 obtain⟨F,eF⟩:∃F,F=fact 1000 m:=⟨_,rfl⟩;have a6:ZB F Δ:=by rw[O,eF];exact E.ed.FU E.ok.bn hw.A
 have b5:Δ≠0:=by rw[O];exact E.ed.ind
 have a7:∀i,ZB 1000 ((Ho c).getD i 0):=fun i=>⟨c.getD i 0,UW c i,by have:=lK hp.bc i;omega⟩
 have b6:=ada (j:=j) (F:=F) (Δ:=Δ) a7 (R:=P.1.take q) (B:=P.2.take q) fun x hx=>by
  obtain⟨i,hi,rfl⟩:=zA (wR hx);have e:P.1[i].getD j 0=Cm P.1 i j:=by show _=(ED P.1 i).getD j 0;rw[dS hi]
  rw[e,O,eF]
  by_cases b7:j<n
  .rw[show Cm P.1 i j=T.e ((CY n ι D.B).getD i 0) j from V.ent i j hi b7]
   exact E.ed.NZ E.ok.bn hw.A (V.io hi) (show j<n+m by omega)
  .have:j=n:=by omega
   subst this;rw[show Cm P.1 i j=T.b ((CY j ι D.B).getD i 0)from V.rhs i hi];exact E.ed.GZ E.ok.bn hw.A hw.w (V.io hi)
 have a8:ZB ((m+1)*(1000*F)+F) (((Ho c).getD j 0-F6 (Ho c) j (P.1.take q) (P.2.take q))*Δ):=by
  have e:((Ho c).getD j 0-F6 (Ho c) j (P.1.take q) (P.2.take q))*Δ=(Ho c).getD j 0*Δ+ -(F6 (Ho c) j (P.1.take q) (P.2.take q)*Δ):=by grind
  rw[e];refine(((a7 j).mul a6).add b6.neg).mono ?_;have:(P.1.take q).length*(1000*F)<=m*(1000*F):=zD _ (by rw[zh];omega);rw[xq m (1000*F)];exact zL (Nat.add_le_add_left this _) (by rw[wQ];exact Nat.le_add_right _ _)
 have b8:ZB ((m+1)*(1000*F)+F) Δ:=a6.mono (by omega);exact Pn (I5 b8 b5 a8) (by rw[eF];exact Yn (zq _) hp.hm)
end
theorem UY(f:Nat->Int):∀k,sm (fun i=>((f i:Int):Rat)) k=((Gf f k:Int):Rat)
 |0=>rfl
 |k+1=>by
  show sm (fun i=>((f i:Int):Rat)) k+((f k:Int):Rat)=((Gf f k+f k:Int):Rat);rw[UY f k,Rat.intCast_add]
section
variable {A b c:List Int} {m n:Nat}
theorem ajh{i j:Nat}(hi:i<m)(E:j<n+m+1):Cm (Dq A b m n m).R i j=((cell0 A b m n i j:Int):Rat):=by
 have G:(Dq A b m n m).R.length=m:=by unfold Dq EJ;simp
 have e:ED (Dq A b m n m).R i=qs (row0 A b m n i):=by
  rw[dS (by omega)];simp[Dq,EJ]
 show(ED (Dq A b m n m).R i).getD j 0=_;rw[e,lM (by rw[gQ,fF];omega),Pj (by rw[fF];omega),fG _ _ _ _ _ (by omega)]
theorem awU{i j:Nat}(hi:i<m)(J:j<n+m):(AV A b c m n).T0.e i j=((cell0 A b m n i j:Int):Rat):=by
 show(AV A b c m n).A j i=_;unfold cell0 Prog.A;show(if j<n then _ else if i+n=j then 1 else 0)=_
 by_cases E:j<n
 .rw[sO E,sO E];rfl
 .rw[sQ E,sQ E,sO J]
  by_cases G:j=n+i
  .rw[sO G,sO (by omega)];rfl
  .rw[sQ G,sQ (by omega)];rfl
theorem awV{i:Nat}:(AV A b c m n).T0.b i=((cell0 A b m n i (n+m):Int):Rat):=by
 show((sg b i*b.getD i 0:Int):Rat)=_;unfold cell0;rw[sQ (by omega),sQ (by omega)]
theorem RP{k:Nat}:∀ {m:Nat},Gf (fun i=>if k=i then 1 else 0) m=if k<m then 1 else 0
 |0=>rfl
 |m+1=>by
  show Gf _ m+(if k=m then 1 else 0)=_;rw[RP]
  by_cases h:k<m
  .rw[sO h,sQ (by omega),sO (by omega)];rfl
  .by_cases E:k=m
   .rw[sQ h,sO E,sO (by omega)];rfl
   .rw[sQ h,sQ E,sQ (by omega)];rfl
theorem Pq{f g:Nat->Int}:∀ {m:Nat},(∀i,i<m->f i=g i)->Gf f m=Gf g m
 |0,_=>rfl
 |m+1,h=>by
  show Gf f m+f m=Gf g m+g m;rw[Pq fun i hi=>h i (by omega),h m (by omega)]
theorem abO:Vq (AV A b c m n) (n+m) (AV A b c m n).c1 (AV A b c m n).T0 (Dq A b m n m) (List.range m):=by
 have J:(Dq A b m n m).R.length=m:=by unfold Dq EJ;simp
 have O:∀i,i<m->(AV A b c m n).c1 ((AV A b c m n).T0.B i)= -1:=fun i hi=>by
  show(if i+n<n then(0:Rat)else -1)= -1;rw[sQ (by omega)]
 have S:∀j,j<n+m+1->(Dq A b m n m).c.getD j 0=((if j<n\/j=n+m then Gf (fun i=>cell0 A b m n i j) m else 0:Int):Rat):=fun j G=>by
  show(qs (Fq A b m n m)).getD j 0=_;rw[lM (by rw[gQ,og];omega),Pj (by rw[og];omega),Jm _ _ _ _ _ G]
 refine⟨by rw[J];simp,by rw[J];simp[Dq],by show(qs (Fq A b m n m)).length=_;rw[gQ,og],fun x hx=>?_,fun r Y=>List.mem_range.mp Y,List.nodup_range,zq _,fun i j hi G=>?_,fun i hi=>?_,fun i hi=>?_,fun j G=>?_,?_,fun r Y hn=>absurd (List.mem_range.mpr Y) hn⟩
 .obtain⟨y,hy,rfl⟩:=List.mem_map.mp hx
  obtain⟨i,-,rfl⟩:=List.mem_map.mp hy;rw[gQ,fF]
 .rw[J]at hi
  rw[gG hi,ajh hi (by omega),awU hi G]
 .rw[J]at hi
  rw[gG hi,ajh hi (by omega),awV]
 .rw[J]at hi
  rw[gG hi];show((List.range m).map fun i=>n+i).getD i 0=i+n;rw[zx,yc,wB hi];show n+i=i+n;omega
 .rw[S j (by omega)]
  have e:gm (AV A b c m n).m (AV A b c m n).T0 (AV A b c m n).c1 j=(AV A b c m n).c1 j+((Gf (fun i=>cell0 A b m n i j) m:Int):Rat):=by
   rw[<- UY];have E:sm (fun i=>(AV A b c m n).T0.e i j*(AV A b c m n).c1 ((AV A b c m n).T0.B i)) m= -1*sm (fun i=>((cell0 A b m n i j:Int):Rat)) m:=by
    rw[<- bT];exact bU fun i hi=>by rw[awU hi G,O i hi];grind
   show(AV A b c m n).c1 j-sm (fun i=>(AV A b c m n).T0.e i j*(AV A b c m n).c1 ((AV A b c m n).T0.B i)) m=_;rw[E];grind
  rw[e]
  by_cases E:j<n
  .rw[sO (.inl E)]
   show _=(if j<n then(0:Rat)else -1)+_;rw[sO E];grind
  .rw[sQ (by omega)]
   show _=(if j<n then(0:Rat)else -1)+_;rw[sQ E,Pq (g:=fun i=>if j-n=i then 1 else 0) fun i hi=>by
    unfold cell0;rw[sQ E,sO G]
    by_cases h2:j=n+i
    .rw[sO h2,sO (by omega)]
    .rw[sQ h2,sQ (by omega)],RP,sO (by omega)]
   decide+kernel
 .rw[S (n+m) (by omega),sO (.inr rfl),<- UY]
  have E:sm (fun i=>(AV A b c m n).T0.b i*(AV A b c m n).c1 ((AV A b c m n).T0.B i)) m= -1*sm (fun i=>((cell0 A b m n i (n+m):Int):Rat)) m:=by
   rw[<- bT];exact bU fun i hi=>by rw[awV,O i hi];grind
  show _= -sm (fun i=>(AV A b c m n).T0.b i*(AV A b c m n).c1 ((AV A b c m n).T0.B i)) m;rw[E];grind
end
end Go.Proofs.YtjknobpihkmilaaGreat
