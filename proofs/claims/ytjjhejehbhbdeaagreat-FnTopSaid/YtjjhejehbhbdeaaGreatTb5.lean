import Derived.Test.YtjjhejehbhbdeaaGreatTb4
set_option linter.unusedSimpArgs false
set_option linter.unusedVariables false
set_option linter.unusedSectionVars false
set_option linter.defProp false
set_option maxRecDepth 10000
set_option maxHeartbeats 4000000
open Go.Proofs.Tryz renaming prog->ZK
open Go.Proofs.Tryz
open Bool renaming and_eq_true->zD,false_eq_true->xu,and_false->wS,true_and->wQ,not_false->vZ,not_true->uz,false_and->uo,and_true->uJ
open Classical renaming byContradiction->zh
open Int renaming lt_irrefl->zi,toNat_natCast->zA,natCast_mul->yg,le_refl->xJ,natAbs_natCast->wU,natAbs_neg->vY,toNat_of_nonneg->uS,natAbs_mul->uQ
open List renaming getElem?_eq_getElem->zy,getD_eq_getElem?_getD->zx,getElem_mem->zu,length_append->zo,take_of_length_le->zl,length_take->zf,eq_nil_of_length_eq_zero->zZ,mem_cons_of_mem->zY,mem_cons->zX,length_cons->zW,getElem?_append_left->zV,flatMap_append->zS,length_map->zQ,length_drop->zN,getElem?_append_right->zM,mem_cons_self->zL,flatMap_cons->zJ,not_mem_nil->zH,getElem?_map->zF,append_nil->zC,mem_append_left->zB,getElem?_eq_none->yw,mem_append_right->yj,append_assoc->yh,getElem_of_mem->yc,drop_zero->yZ,take_length->yX,length_nil->yV,length_singleton->yU,length_replicate->yT,cons_append->yS,ext_getElem->yR,length_set->yP,length_eraseIdx_of_lt->yN,nil_append->yM,drop_eq_getElem_cons->yL,take_add_one->yJ,getElem_append_left->yG,drop_of_length_le->xk,getElem_map->xZ,mem_singleton->xY,replicate_succ->xX,nodup_cons->xW,getElem?_drop->xQ,getElem?_range->xO,set_append_right->xH,map_congr_left->xG,mem_append->wz,map_append->wR,take_left'->wP,range_succ->wK,mem_of_mem_take->wJ,getElem_set->wG,getElem_append_right->wF,flatMap_nil->w_,replicate_append_replicate->vk,drop_append_of_le_length->vV,all_nil->vU,all_cons->vO,set_cons_zero->um,take_append_drop->uj,getElem_range->uh,eraseIdx_eq_take_drop_succ->uf,mem_of_mem_eraseIdx->uV,getElem_inj->uP,map_cons->uK,length_range->uH,replicate_succ'->uG,getElem?_mapIdx->uF,length_zipWith->tN,getElem?_set_self->tC,getElem_cons_zero->su
open Nat renaming le_refl->zq,not_lt_zero->zU,le_trans->zT,mul_le_mul_right->zK,zero_add->yY,sub_self->yQ,mul_one->yO,succ_mul->xg,lt_of_lt_of_le->xK,min_eq_left->xC,mul_le_mul->x9,add_comm->wH,zero_le->vg,add_mul->vP,div_one->vC,le_mul_of_pos_left->t_
open Ne renaming symm->yu
open Option renaming bind_some->zk,map_some->zG
open Option.some renaming injEq->sS
open Prod.mk renaming injEq->sQ
namespace Go.Proofs.YtjjhejehbhbdeaaGreat
open Go Go.TV Go.Lp
attribute [-go_sem] qy
theorem abh(σ:Store)(b:Nat)(cells:List V)(st:Nat)(wr:Bool)(t:V):behind (upd σ b (some ⟨cells,st,wr⟩)) [b] t=upd σ b (some ⟨cells,st,wr && flat depth t⟩):=by
 unfold behind;cases E:flat depth t with
 |true=>simp
 |false=>
  simp only[List.isEmpty_cons,Bool.or_self,xu,if_false,wS];unfold DF DF;rw[Zi,Zh];rfl
attribute [go_sem] abh
def U2:V:=.Bf [.ts [] 0,Bo false]
def XH(s:Structure)(l:List Int)(r:V):Prop:=(¬(Ba s/\AL s.bI.length l)/\r=U2)\/(Ba s/\AL s.bI.length l/\((r=U2/\((EP s l).None\/(EP s l).Open)) \/
 ∃x:Nat->Rat,(EP s l).Best x/\(∀j,j<CQ s->Ln 24 (x j))/\r=En (Gq (cols s s.members.length) ((List.range (CQ s)).map x) s.members.length (CQ s))))
theorem IY{s:Structure}(h:Ah s){l:List Int}(hl:l.length<=maxLen):∃r,fn ZK wI Am 30 [.agg (iI s),LI l]=some r/\XH s l r:=by
 have G:=abT s l h hl
 by_cases E:Ba s/\AL s.bI.length l
 .obtain⟨J,S⟩:=E
  rw[gy J,gy S]at G;have hb:∀x∈l,-100<=x/\x<=100:=fun x hx=>kG (S.2 x hx)
  have k2:=PN J.sg S.1 hb;obtain⟨r0,Y,hr⟩:=alD J hb;unfold CZ at k2 Y;rw[m_,mg [.tmp 4,.tmp 5] [] func30];rcases hr with ⟨rfl,h3⟩|⟨x,h3,h4,rfl⟩
  .refine⟨_,by simp only[go_sem,G,k2,Y];rfl,.inr ⟨J,S,.inl ⟨rfl,h3⟩⟩⟩
  .obtain⟨O,eO⟩:∃O,O=Gq (cols s s.members.length) ((List.range (CQ s)).map x) s.members.length (CQ s):=⟨_,rfl⟩
   have a0:∀o∈O,LnO 24 o:=by
    rw[eO];exact Ut (fun y hy=>by
     obtain⟨j,hj,rfl⟩:=List.mem_map.mp hy;exact h4 j (List.mem_range.mp hj)) _
   have a1:O.length<=1000:=by rw[eO,lT];have:=J.2.1;omega
   have k4:=alG O a0 a1;rw[<- eO]at Y;refine⟨En O,?_,.inr ⟨J,S,.inr ⟨x,h3,h4,by rw[eO]⟩⟩⟩;unfold En at k4⊢;cases hq:CP O with
   |none=>rw[hq]at k4;simp only[go_sem,G,k2,Y,k4]
   |some qs=>rw[hq]at k4;simp only[go_sem,G,k2,Y,k4]
 .have hf:(pb (Ba s) && pb (AL s.bI.length l))=false:=by
   by_cases a:Ba s
   .have:¬AL s.bI.length l:=fun b=>E ⟨a,b⟩
    rw[h_ this,wS]
   .rw[h_ a,uo]
  rw[hf]at G;rw[m_,mg [.tmp 4,.tmp 5] [] func30];refine⟨_,by simp only[go_sem,G];rfl,.inl ⟨E,rfl⟩⟩
theorem jD{n:Nat}(h:ln n<=60):Dh (dg n) :=
 ⟨fun x E=>by have:=aax n x E;unfold inB;rw[sH this.1,sH this.2];rfl,h,Zt n⟩
theorem ao7(q:Rat)(h:Ln 24 q):fn ZK wI Am 162 [.agg (cQ q)]=some (Bo true):=by
 have Y:(dg q.num.natAbs).length<=24:=h.1;have a0:(dg q.den).length<=24:=h.2;have E:=aei (decide (q.num<0)) (dg q.num.natAbs) (by unfold Short;omega);have G:(decide (q.num<0) && decide (dg q.num.natAbs=[]))=false:=by
  by_cases hz:q.num<0
  .rw[sG (oO (n:=q.num.natAbs) (by omega)),wS]
  .rw[sG hz];rfl
 rw[gy (jD (by have:=h.1;omega)),G]at E;have O:=agy (dg q.den) (by unfold Short;omega);rw[gy (jD (by have:=h.2;omega))]at O;have S:=Xe q.num.natAbs q.den (by have:=h.1;omega) (by have:=h.2;omega);rw[show Nat.gcd q.num.natAbs q.den=1 from q.reduced,oN (d:=1) (by decide) (by decide)]at S;have k4:fn ZK conv ext 141 [.ts [I 1] 1,.ts [I 1] 1]=some (I 0):=by
  have:=arP 1 (by decide);rw[oN (d:=1) (by decide) (by decide)]at this;exact this
 have J:fn ZK wI Am 158 [LI (dg q.num.natAbs),LI (dg q.den)]=some (.ts [I 1] 1):=S;have c0:(((dg q.den).length:Int)==0)=false:=by rw[sJ];have:=rC (oO q.den_nz);omega
 have c1:¬(24:Int)<((dg q.num.natAbs).length:Int):=by omega
 have c2:¬(24:Int)<((dg q.den).length:Int):=by omega
 unfold cQ;rw[m_,mg [.tmp 2] [] func162];simp only[go_sem]at E;simp only[go_sem,E,O,J,k4,c0,c1,c2]
theorem as4(q:Rat)(h:Ln 24 q):fn ZK wI Am 136 [.agg (cQ q)]=some (.tp (cQ q) 0):=by
 have E:=ao7 q h;unfold cQ at E⊢;rw[m_,mg [.tmp 2] [] func136];simp only[go_sem,E]
theorem ah1(qs:List Rat){k:Nat}(h:k<qs.length):((qs.take k).flatMap cF++rep (qs.length-k) [V.sc (.pointer none)]).set k (.tp (cQ qs[k]) 0)=(qs.take (k+1)).flatMap cF++rep (qs.length - (k+1)) [V.sc (.pointer none)]:=by
 have E:((qs.take k).flatMap cF).length=k:=by rw[qO,zf];omega
 rw[xH _ _ (by omega),E,yQ,show qs.length-k=qs.length - (k+1)+1 by omega,fJ,aH h,zS,yh];rfl
theorem ah2(qs:List Rat){k:Nat}(h:k<qs.length):((qs.take (k+1)).flatMap cF++rep (qs.length - (k+1)) [V.sc (.pointer none)])[k]?=some (.tp (cQ qs[k]) 0):=by
 have E:k<(qs.take (k+1)).length:=by rw[zf];omega
 rw[zV (by rw[qO];exact E),qP _ E,List.getElem_take]
theorem XI(qs:List Rat){k:Nat}(h:k<=qs.length):((qs.take k).flatMap cF++rep (qs.length-k) [V.sc (.pointer none)]).length=qs.length:=by
 rw[zo,qO,fK,zf];simp;omega
theorem ae0(a b c:V)(q:Rat):patch [a,b,c] 0 (cQ q)=cQ q:=rfl
attribute [go_sem] ae0
theorem ao8(qs:List Rat)(hL:∀q∈qs,Ln 24 q)(hn:qs.length<=1000):fn ZK wI Am 100 [LL cQ qs]=some (.Bf [LL cF qs,Bo true]):=by
 have m1:(0:Int)<=(qs.length:Int):=by omega
 have m2:8*(qs.length:Int)<=281474976710656:=by omega
 have m3:(qs.length:Int)<=9223372036854775807:=by omega
 rw[m_,mg [.tmp 2,.tmp 3] [] func100];simp only[go_sem,m1,m2,m3];generalize a0:jI _ _=y;obtain⟨x,rfl,T,σ,nx,rfl,O,s0⟩:=oZ a0 qs.length (fun k st=>st.T 4= .rs 0 0 qs.length/\st.T 10=LL cQ qs/\st.T 11=I qs.length/\st.T 12=I k/\0<st.nx/\st.σ 0=some ⟨(qs.take k).flatMap cF++rep (qs.length-k) [V.sc (.pointer none)],1,true⟩)
  (fun x=>∃T σ nx,x=(.exit 0,⟨T,σ,nx⟩)/\T 4= .rs 0 0 qs.length/\σ 0=some ⟨qs.flatMap cF,1,true⟩) (by
   clear a0;rintro k ⟨T,σ,nx⟩ S ⟨O,G,E,J,Y,s0⟩;simp only at O G E J Y s0;have g1:(k:Int)<(qs.length:Int):=by omega
   have g2:=jC k;have g3:=ZR (n:=(k:Int)+1);have g4:=cO (c:=cQ) (s:=3) (fun _=>rfl) qs k S;have g5:=bY (c:=cQ) (s:=3) (fun _=>rfl) (by omega) qs k S;have g6:=acH qs;have g7:k*3+3<=qs.length*3:=by omega
   have kl:=as4 qs[k] (hL _ (zu S));have p1:=ah1 qs S;have p2:=ah2 qs S;have p3:=XI qs (k:=k) (by omega);have p4:=XI qs (k:=k+1) (by omega);have d1:¬0=nx:=by omega
   have d2:¬nx=0:=by omega
   have d3:k+1<=qs.length:=S;obtain⟨q,eq⟩:∃q,q=qs[k]:=⟨_,rfl⟩;rw[<- eq]at g4 kl p1 p2;have st1:∀σ d,stripL (strip σ d) (cQ q)=some (cQ q,[]):=fun σ d=>qG σ d q
   refine .inl ⟨_,by simp only[go_sem,O,G,E,J,s0,g1,g2,g3,g4,g5,g6,g7,S,kl,p1,p2,p3,p4,d1,d2,d3,st1];rfl,?_⟩;simp only[go_sem,O,G,E,d1,d2];exact⟨rfl,by omega⟩) (by
   rintro ⟨T,σ,nx⟩ ⟨O,G,E,J,Y,s0⟩;simp only at O G E J Y s0;have g1:¬(qs.length:Int)<(qs.length:Int):=by omega
   refine⟨_,by simp only[go_sem,E,J,g1];rfl,by simp,_,_,_,rfl,?_⟩;simp only[go_sem,O];have e:rep 0 [V.sc (.pointer none)]=[]:=rfl;rw[yX,yQ,e,zC]at s0;exact s0) (by
   simp only[go_sem])
 have u1:qs.length<=(qs.flatMap cF).length:=by rw[qO];exact zq _
 have u2:(qs.flatMap cF).take qs.length=qs.flatMap cF:=zl (by rw[qO];exact zq _);have u3:=IW σ 4 qs;simp only[go_sem,O,s0,u1,u2,u3]
theorem jd{s:Structure}(h:Ba s)(G:Ah s){qs:List Rat}(J:qs.length=s.members.length)(O:∀q∈qs,Ln 24 q):fn ZK wI Am 59 [.tp (iI s) 0,LL cQ qs]=some (.Bf [LL cF qs,Bo true]):=by
 have S:=h.2.1;have E:=Ir s G;rw[gy h]at E;have Y:=ao8 qs O (by omega);have c0:((qs.length:Int) !=(s.members.length:Int))=false:=by rw[J];simp
 rw[m_,mg [.tmp 4,.tmp 5] [] func59];simp only[go_sem,E,Y,c0]
def sqQ(s:Structure)(q:Rat)(k:Nat):Option Rat:=Lh (Lh (some q) (some q)) (some ((vx s k*vx s k+vy s k*vy s k:Int):Rat))
theorem acI{a b:Option Rat}:LnO 24 (Lh a b):=fun y h=>by
 cases a with
 |none=>cases h
 |some x=>cases b with
  |none=>cases h
  |some z=>exact acF h
theorem Uw{s:Structure}(h:SG s){qs:List Rat}(hl:qs.length=s.members.length)(hL:∀q∈qs,Ln 24 q){k:Nat}(G:k<qs.length) :
  fn ZK wI Am 109 [.tp (iI s) 0,LL cF qs,I k]=some (pQ (sqQ s qs[k] k)):=by
 have k1:=Uj h (k:=k) (by omega);have hb:=Ze h k;have a2:=h.nm;have g1:(k:Int)<(qs.length:Int):=by omega
 have g2:=jC k;have g4:=qP qs G;have J:(qs.flatMap cF).length=qs.length:=qO qs;have O:qs.flatMap cF≠[]:=fun e=>by rw[e]at J;have:qs.length=0:=J.symm;omega
 have S:=hL _ (zu G);obtain⟨q,eq⟩:∃q,q=qs[k]:=⟨_,rfl⟩;rw[<- eq]at g4 S⊢;have x2:0<=vx s k*vx s k/\vx s k*vx s k<=10000:=by
  have h1:vx s k*vx s k=((vx s k).natAbs*(vx s k).natAbs:Nat):=by rw[Int.natAbs_mul_self]
  have h2:(vx s k).natAbs*(vx s k).natAbs<=100*100:=x9 (by omega) (by omega);omega
 have y2:0<=vy s k*vy s k/\vy s k*vy s k<=10000:=by
  have h1:vy s k*vy s k=((vy s k).natAbs*(vy s k).natAbs:Nat):=by rw[Int.natAbs_mul_self]
  have h2:(vy s k).natAbs*(vy s k).natAbs<=100*100:=x9 (by omega) (by omega);omega
 have w1:=ZR (n:=vx s k*vx s k);have w2:=ZR (n:=vy s k*vy s k);have w3:=ZR (n:=vx s k*vx s k+vy s k*vy s k);have k2:=jv (vx s k*vx s k+vy s k*vy s k) (by omega) (by omega);have k3:fn ZK wI Am 104 [.tp (cQ q) 0,.tp (cQ q) 0]=some (pQ (Lh (some q) (some q))):=alu (a:=some q) (b:=some q) (fun z E=>by cases E;exact S.mono (by decide)) (fun z E=>by cases E;exact S.mono (by decide));have Y:fn ZK wI Am 104 [pQ (Lh (some q) (some q)),.tp (cQ ((vx s k*vx s k+vy s k*vy s k:Int):Rat)) 0]=some (pQ (sqQ s q k)) :=
  alu (b:=some ((vx s k*vx s k+vy s k*vy s k:Int):Rat)) (fun z E=>(acI z E).mono (by decide)) (fun z E=>by cases E;exact(sF (by omega)).mono (by decide))
 have st1:∀σ d,strip σ d (pQ (Lh (some q) (some q)))=some (pQ (Lh (some q) (some q)),[]):=fun σ d=>by
  cases Lh (some q) (some q)with
  |none=>unfold pQ;rw[aP]
  |some z=>unfold pQ;rw[aN]
 have e1:(((vx s k*vx s k+vy s k*vy s k:Int):Rat))=((vx s k*vx s k+vy s k*vy s k:Int):Rat):=rfl;obtain⟨m1,a0⟩:∃m1,m1=pQ (Lh (some q) (some q)):=⟨_,rfl⟩;rw[<- a0]at k3 Y st1;obtain⟨m2,a1⟩:∃m2,m2=cQ ((vx s k*vx s k+vy s k*vy s k:Int):Rat):=⟨_,rfl⟩;rw[<- a1]at k2 Y;rw[m_,mg [.tmp 6] [] func109];simp only[go_sem,k1,g1,g2,g4,J,O,G,w1,w2,w3,k2,k3,Y,st1];exact Oz _ _
def QZ(s:Structure)(qs:List Rat):List (Option Rat):=(List.range qs.length).map fun k=>sqQ s (qs.getD k 0) k
theorem IZ(s:Structure)(qs:List Rat):(QZ s qs).length=qs.length:=by simp[QZ]
theorem alK(s:Structure)(qs:List Rat){k:Nat}(h:k<qs.length):(QZ s qs)[k]'(by rw[IZ];exact h)=sqQ s qs[k] k:=by
 simp[QZ,zx,zy h]
def I4(O:List (Option Rat)):V:=match CP O with
 |some xs=> .Bf [LL cF xs,Bo true]
 |none=> .Bf [.ts [] 0,Bo false]
def I5(xs:List Rat)(n:Nat):List V:=xs.flatMap cF++rep (n-xs.length) [V.sc (.pointer none)]
theorem XJ(xs:List Rat){n:Nat}(h:xs.length<=n):(I5 xs n).length=n:=by
 unfold I5;rw[zo,qO,fK];simp;omega
theorem ah3(xs:List Rat){n:Nat}(h:xs.length<n)(q:Rat):(I5 xs n).set xs.length (.tp (cQ q) 0)=I5 (xs++[q]) n:=by
 unfold I5;rw[xH _ _ (by rw[qO];exact zq _),qO,yQ,zo,yU,show n-xs.length=n - (xs.length+1)+1 by omega,fJ,zS,yh];rfl
theorem ah4(xs:List Rat){n:Nat}(q:Rat):(I5 (xs++[q]) n)[xs.length]?=some (.tp (cQ q) 0):=by
 unfold I5;rw[zV (by rw[qO];simp),qP _ (by simp)];simp
theorem PS{s:Structure}(h:Ba s)(ho:Ah s){qs:List Rat}(hl:qs.length=s.members.length)(hL:∀q∈qs,Ln 24 q) :
  fn ZK wI Am 67 [.tp (iI s) 0,LL cQ qs]=some (I4 (QZ s qs)):=by
 have a3:=h.2.1;have k1:=jd h ho hl hL;have m1:(0:Int)<=(qs.length:Int):=by omega
 have m2:8*(qs.length:Int)<=281474976710656:=by omega
 have m3:(qs.length:Int)<=9223372036854775807:=by omega
 rw[m_,mg [.tmp 4,.tmp 5] [] func67];simp only[go_sem,k1,m1,m2,m3];generalize a1:jI _ _=y;obtain⟨x,rfl,hx⟩:=oZ a1 qs.length (fun k st=>st.T 0= .tp (iI s) 0/\st.T 6=LL cF qs/\st.T 8= .rs 0 0 qs.length/\st.T 22=I qs.length/\st.T 23=I k/\0<st.nx/\∃xs,CP ((QZ s qs).take k)=some xs/\st.σ 0=some ⟨I5 xs qs.length,1,true⟩)
  (fun x=>∃T σ nx,(x=(.exit 0,⟨T,σ,nx⟩)/\T 8= .rs 0 0 qs.length/\∃xs,CP (QZ s qs)=some xs/\σ 0=some ⟨I5 xs qs.length,1,true⟩)\/(x=(.ret,⟨T,σ,nx⟩)/\T 4= .nil/\T 5=Bo false/\CP (QZ s qs)=none)) (by
   clear a1;rintro k ⟨T,σ,nx⟩ hk ⟨t0,t6,O,G,J,S,xs,E,s0⟩;simp only at t0 t6 O G J S s0;have g1:(k:Int)<(qs.length:Int):=by omega
   have g2:=jC k;have g3:=ZR (n:=(k:Int)+1);have a2:k<(QZ s qs).length:=by rw[IZ];exact hk
   have Y:xs.length=k:=by rw[dF E,zf];omega
   have a0:(QZ s qs).take (k+1)=(QZ s qs).take k++[sqQ s qs[k] k]:=by rw[aH a2,alK s qs hk]
   have k2:=Uw h.sg hl hL hk;have p1:=XJ xs (n:=qs.length) (by omega);have g5:k+1<=qs.length:=hk;cases hv:sqQ s qs[k] k with
   |none=>
    rw[hv]at k2 a0;have k2:fn ZK wI Am 109 [.tp (iI s) 0,LL cF qs,I k]=some (.sc (.pointer none)):=k2;have p3:((I5 xs qs.length).set k (V.sc (.pointer none)))[k]?=some (V.sc (.pointer none)):=by
     rw[tC (by omega)]
    have p4:((I5 xs qs.length).set k (V.sc (.pointer none))).length=qs.length:=by rw[yP];exact p1
    refine .inr ⟨_,by simp only[go_sem,t0,t6,O,G,J,s0,g1,g2,g5,hk,k2,p1,p3,p4];rfl,by simp,_,_,_,.inr ⟨rfl,?_⟩⟩;simp only[go_sem];have:QZ s qs=(QZ s qs).take (k+1)++(QZ s qs).drop (k+1):=(uj _ _).symm;rw[this,a0];refine JW ?_;rw[dD,E];rfl
   |some z=>
    rw[hv]at k2 a0;have k2:fn ZK wI Am 109 [.tp (iI s) 0,LL cF qs,I k]=some (.tp (cQ z) 0):=k2;have p2:=ah3 xs (n:=qs.length) (by omega) z;have p3:=ah4 xs (n:=qs.length) z;have p4:=XJ (xs++[z]) (n:=qs.length) (by simp;omega);rw[Y]at p2 p3;refine .inl ⟨_,by simp only[go_sem,t0,t6,O,G,J,s0,g1,g2,g3,g5,hk,k2,p1,p2,p3,p4];rfl,?_⟩;simp only[go_sem,t0,t6,O,G];refine⟨rfl,S,xs++[z],?_,rfl⟩;rw[a0,dD,E];rfl) (by
   rintro ⟨T,σ,nx⟩ ⟨t0,t6,O,G,J,S,xs,E,s0⟩;simp only at t0 t6 O G J S s0;have g1:¬(qs.length:Int)<(qs.length:Int):=by omega
   refine⟨_,by simp only[go_sem,G,J,g1];rfl,by simp,_,_,_,.inl ⟨rfl,?_⟩⟩;simp only[go_sem,O];rw[<- IZ s qs,yX]at E;exact⟨xs,E,s0⟩) (by
   simp only[go_sem];refine⟨[],rfl,?_⟩;unfold I5;rfl)
 rcases hx with ⟨T,σ,nx,⟨rfl,O,xs,E,s0⟩|⟨rfl,t4,t5,E⟩⟩
 .have Y:xs.length=qs.length:=by rw[dF E,IZ]
  have e1:I5 xs qs.length=xs.flatMap cF:=by unfold I5;rw[Y,yQ];exact zC _
  rw[e1]at s0;have u1:qs.length<=(xs.flatMap cF).length:=by rw[qO];omega
  have u2:(xs.flatMap cF).take qs.length=xs.flatMap cF:=zl (by rw[qO];omega);have u3:=IW σ 4 xs;unfold I4;rw[E];simp only[go_sem,O,s0,u1,u2,u3];show some (V.Bf [V.ts _ qs.length,_])=some (V.Bf [V.ts _ xs.length,_]);rw[Y]
 .unfold I4
  rw[E];simp only[go_sem,t4,t5]
theorem as5(x y:Rat)(E:Ln 100 x)(G:Ln 100 y):fn ZK conv ext 68 [.tp (cQ x) 0,.tp (cQ y) 0]=some (I (Az (x.num*y.den) (y.num*x.den))):=by
 have Y:=jU E G;have n2:=jU G E;have J:=Iy x y.den (by have:=E.1;omega) (by have:=G.2;omega);have O:=Iy y x.den (by have:=G.1;omega) (by have:=E.2;omega);have S:=Qr (x.num*y.den) (y.num*x.den) (by omega) (by omega);unfold cQ at *;unfold cZ at *;rw[m_,mg [.tmp 4] [] func68];simp only[go_sem,J,O,S]
def ah5(x:Rat)(w:Int):Bool:=decide (0<Az (x.num*((w*w:Int):Rat).den) (((w*w:Int):Rat).num*x.den))
theorem OC:∀ {l:List (Option Rat)} {xs:List Rat},CP l=some xs->∀x∈xs,some x∈l
 |[],xs,h,x,E=>by cases h;cases E
 |none :: l,_,h,_,_=>by cases h
 |some q :: l,xs,h,x,E=>by
  cases e:CP l with
  |none=>rw[show CP (some q :: l)=(CP l).map (q :: ·)from rfl,e]at h;cases h
  |some rs=>
   rw[show CP (some q :: l)=(CP l).map (q :: ·)from rfl,e]at h;cases h;rcases List.mem_cons.mp E with rfl|E
   .exact zL
   .exact zY _ (OC e x E)
theorem ao9{s:Structure}{qs xs:List Rat}(h:CP (QZ s qs)=some xs):∀x∈xs,Ln 24 x:=fun x E=>by
 have:=OC h x E;unfold QZ at this;obtain⟨k,-,e⟩:=List.mem_map.mp this;exact acI x e
def Hf(xs:List Rat)(w:List Int)(k:Nat):Bool:=ah5 (xs.getD k 0) (w.getD k 0)
def overR(O:List (Option Rat))(w:List Int):V:=match CP O with
 |some xs=> .Bf [LI (F8 (Hf xs w) xs.length),Bo true]
 |none=> .Bf [.ts [] 0,Bo false]
theorem XK{s:Structure}(h:Ba s)(ho:Ah s){qs:List Rat}(hl:qs.length=s.members.length)(hL:∀q∈qs,Ln 24 q){w:List Int}(hw:Df s.members.length w) :
  fn ZK wI Am 33 [.tp (iI s) 0,LL cQ qs,LI w]=some (overR (QZ s qs) w):=by
 have a7:=h.2.1;have k1:=PS h ho hl hL;have k2:=KA (iI s) 0 s.members w rfl (by rw[hw.1];unfold maxLen;omega);rw[gy hw]at k2;unfold I4 at k1;unfold overR;rw[m_,mg [.tmp 6,.tmp 7] [] func33];cases hq:CP (QZ s qs)with
 |none=>
  rw[hq]at k1;simp only[go_sem,k1]
 |some xs=>
  rw[hq]at k1;simp only[go_sem,k1,k2];have a8:xs.length=s.members.length:=by rw[dF hq,IZ,hl]
  generalize a0:jI _ _=y;obtain⟨x,rfl,T,σ,nx,rfl,Y⟩:=oZ a0 xs.length (fun k st=>st.T 2=LI w/\st.T 27=LL cF xs/\st.T 28=I xs.length/\st.T 29=I k/\Grow st.T st.σ st.nx 10 (F8 (Hf xs w) k))
   (fun x=>∃T σ nx,x=(.exit 0,⟨T,σ,nx⟩)/\Grow T σ nx 10 (F8 (Hf xs w) xs.length)) (by
    clear a0;rintro k ⟨T,σ,nx⟩ hk ⟨t2,G,E,O,Y⟩;simp only at t2 G E O Y;have g1:(k:Int)<(xs.length:Int):=by omega
    have g2:=jC k;have g3:=ZR (n:=(k:Int)+1);have g4:=qP xs hk;have g9:(xs.flatMap cF).length=xs.length:=qO xs;have a4:xs.flatMap cF≠[]:=fun e=>by rw[e]at g9;have:xs.length=0:=g9.symm;omega
    have S:k<w.length:=by rw[hw.1];omega
    have a5:=kG (hw.2 _ (zu S));have a1:=idx (xs:=w) (k:=k) S;have a2:=Bg w k S;have a3:(k:Int)<(w.length:Int):=by omega
    have hx:=ao9 hq _ (zu hk);have J:Hf xs w k=ah5 xs[k] w[k]:=by
     unfold Hf;rw[zx,zy hk,zx,zy S];rfl
    obtain⟨x,ex⟩:∃x,x=xs[k]:=⟨_,rfl⟩;obtain⟨v,ev⟩:∃v,v=w[k]:=⟨_,rfl⟩;rw[<- ex,<- ev]at J;rw[<- ex]at g4 hx;rw[<- ev]at a1 a5;have v2:0<=v*v/\v*v<=1000000:=by
     have h1:v*v=(v.natAbs*v.natAbs:Nat):=by rw[Int.natAbs_mul_self]
     have h2:v.natAbs*v.natAbs<=1000*1000:=x9 (by omega) (by omega);omega
    have w1:=ZR (n:=v*v);have k3:=jv (v*v) (by omega) (by omega);have k4:=as5 x ((v*v:Int):Rat) (hx.mono (by decide)) ((sF (by omega)).mono (by decide));have hle:=Zo (Hf xs w) k;unfold ah5 at J;obtain⟨m2,a6⟩:∃m2,m2=cQ ((v*v:Int):Rat):=⟨_,rfl⟩;obtain⟨z,ez⟩:∃z,z=Az (x.num*((v*v:Int):Rat).den) (((v*v:Int):Rat).num*x.den):=⟨_,rfl⟩;rw[<- a6]at k3 k4;rw[<- ez]at k4 J
    by_cases hz:0<z
    .rw[sH hz]at J
     obtain⟨σ',ha,hs⟩:=kS Y (k:Int) (by omega);refine .inl ⟨_,by simp only[go_sem,t2,G,E,O,g1,g2,g3,g4,g9,a4,hk,S,a1,a2,a3,w1,k3,k4,hz,ha];rfl,?_⟩;simp only[go_sem,t2,G,E];rw[LJ J];exact⟨rfl,kQ hs (by simp[go_sem]) (by simp)⟩
    .rw[sG hz]at J
     refine .inl ⟨_,by simp only[go_sem,t2,G,E,O,g1,g2,g3,g4,g9,a4,hk,S,a1,a2,a3,w1,k3,k4,hz];rfl,?_⟩;simp only[go_sem,t2,G,E];rw[Tj J];exact⟨rfl,kR (T:=T) (by simp only[go_sem]) Y⟩) (by
    rintro ⟨T,σ,nx⟩ ⟨t2,G,E,O,Y⟩;simp only at t2 G E O Y;exact⟨_,by simp only[go_sem,E,O,zi];rfl,by simp,_,_,_,rfl,kR (T:=T) (by simp only[go_sem]) Y⟩) (by
    simp only[go_sem];exact .inl ⟨by simp only[go_sem],rfl⟩)
  obtain⟨ids,hs⟩:=kP Y 5;simp only[go_sem,hs]
def G7(s:Structure)(qs:List Rat)(w:List Int):Bool:=match CP (QZ s qs)with
 |some xs=>decide ((F8 (Hf xs w) xs.length).length=0)
 |none=>false
theorem Q5{s:Structure}(h:Ba s)(O:Ah s){qs:List Rat}(S:qs.length=s.members.length)(Y:∀q∈qs,Ln 24 q){w:List Int}(hw:Df s.members.length w) :
  fn ZK wI Am 12 [.agg (iI s),LL cQ qs,LI w]=some (Bo (G7 s qs w)):=by
 have E:=XK h O S Y hw;unfold overR at E;unfold G7;rw[m_,mg [.tmp 6] [] func12];cases J:CP (QZ s qs)with
 |none=>
  rw[J]at E;simp only[go_sem,E]
 |some xs=>
  rw[J]at E
  by_cases G:(F8 (Hf xs w) xs.length).length=0
  .have e:(((F8 (Hf xs w) xs.length).length:Int)==0)=true:=by rw[G];rfl
   simp only[go_sem,E,e,sH G]
  .have e:(((F8 (Hf xs w) xs.length).length:Int)==0)=false:=by rw[sJ];omega
   simp only[go_sem,E,e,sG G]
def ah6(s:Structure)(l w:List Int)(r:V):Prop :=
 (∃qs,qs.length=s.members.length/\(∀q∈qs,Ln 24 q)/\XH s l (.Bf [LL cQ qs,Bo true])/\G7 s qs w=true/\r= .Bf [LL cQ qs,Bo true]) \/
 (r=U2/\(XH s l U2\/∃qs,qs.length=s.members.length/\(∀q∈qs,Ln 24 q)/\XH s l (.Bf [LL cQ qs,Bo true])/\G7 s qs w=false))
theorem OD{s:Structure}(h:Ba s)(ho:Ah s){l w:List Int}(hl:AL s.bI.length l)(hw:Df s.members.length w) :
  ∃r,fn ZK wI Am 10 [.agg (iI s),LI l,LI w]=some r/\ah6 s l w r:=by
 have Yq:=h.1;obtain⟨r,O,hr⟩:=IY ho (l:=l) (by rw[hl.1];unfold maxLen;omega);have no:r=U2->∃r,fn ZK wI Am 10 [.agg (iI s),LI l,LI w]=some r/\ah6 s l w r:=fun e=>by
  subst e;have a0:fn ZK wI Am 30 [.agg (iI s),LI l]=some (.Bf [.ts [] 0,Bo false]):=O;refine⟨U2,?_,.inr ⟨rfl,.inl hr⟩⟩;unfold U2;rw[m_,mg [.tmp 6,.tmp 7] [] func10];simp only[go_sem,a0]
 rcases hr with ⟨_,e⟩|⟨h1,h2,⟨e,_⟩|⟨x,hb,hx,e⟩⟩
 .exact no e
 .exact no e
 .cases S:CP (Gq (cols s s.members.length) ((List.range (CQ s)).map x) s.members.length (CQ s))with
  |none=>exact no (by rw[e];unfold En;rw[S];rfl)
  |some qs=>
   have e2:r= .Bf [LL cQ qs,Bo true]:=by rw[e];unfold En;rw[S]
   have G:qs.length=s.members.length:=by rw[dF S,lT]
   have J:∀q∈qs,Ln 24 q:=fun q hm=>Ut (fun y hy=>by
    obtain⟨j,hj,rfl⟩:=List.mem_map.mp hy;exact hx j (List.mem_range.mp hj)) _ _ (OC S q hm) q rfl
   have hD:XH s l (.Bf [LL cQ qs,Bo true]):=by
    rw[<- e2];exact .inr ⟨h1,h2,.inr ⟨x,hb,hx,e⟩⟩
   rw[e2]at O;have Y:=Q5 h ho G J hw;cases E:G7 s qs w with
   |true=>
    rw[E]at Y;refine⟨.Bf [LL cQ qs,Bo true],?_,.inl ⟨qs,G,J,hD,E,rfl⟩⟩;rw[m_,mg [.tmp 6,.tmp 7] [] func10];simp only[go_sem,O,Y]
   |false=>
    rw[E]at Y;refine⟨U2,?_,.inr ⟨rfl,.inr ⟨qs,G,J,hD,E⟩⟩⟩;unfold U2;rw[m_,mg [.tmp 6,.tmp 7] [] func10];simp only[go_sem,O,Y]
theorem alL{s:Structure}(h:Ba s)(J:Ah s){l w:List Int}(O:AL s.bI.length l)(hw:Df s.members.length w) :
  ∃b r,fn ZK wI Am 13 [.agg (iI s),LI l,LI w]=some (Bo b)/\ah6 s l w r/\(b=true↔r≠U2):=by
 obtain⟨r,E,S⟩:=OD h J O hw;rcases S with ⟨qs,G,Y,a3,a4,rfl⟩|⟨rfl,G⟩
 .refine⟨true,_,?_,.inl ⟨qs,G,Y,a3,a4,rfl⟩,⟨fun _ e=>?_,fun _=>rfl⟩⟩
  .rw[m_,mg [.tmp 6] [] func13]
   simp only[go_sem,E]
  .unfold U2 at e
   injection e with e
   injection e with _ e
   injection e with e _
   cases e
 .refine⟨false,_,?_,.inr ⟨rfl,G⟩,⟨fun e=>by(cases e),fun e=>absurd rfl e⟩⟩
  unfold U2 at E;rw[m_,mg [.tmp 6] [] func13];simp only[go_sem,E]
def L_(t:Dp)(k:Nat):Prop:=acE t.st/\t.name=FY k/\t.load.length=2*t.st.bI.length/\Bd t.load/\t.limits.length=t.st.members.length/\∀x∈t.limits,x=5\/x=20\/x=100\/x=500
theorem XL{s:Structure}(h:acE s):1<=s.bI.length/\s.bI.length<=4/\1<=s.members.length/\s.members.length<=3:=by
 obtain⟨E,G,J,O,S,Y,k,_,rfl|⟨x4,k3,_,_,rfl⟩⟩:=h
 .simp
 .simp
theorem digit_ok(k:Nat)(h:k<4):Em (48+k).toUInt8=true:=by
 have:k=0\/k=1\/k=2\/k=3:=by omega
 rcases this with rfl|rfl|rfl|rfl<;>decide
theorem Q7{t:Dp}{k:Nat}(Y:k<4)(h:L_ t k):DT t=true/\Io t:=by
 obtain⟨G,J,h3,O,h5,S⟩:=h;obtain⟨g1,g2⟩:=alo G;obtain⟨l1,l2,l3,l4⟩:=XL G;have mx:8<=maxLen:=by decide
 have nm:DW t.name:=by
  rw[J];exact name2 116 _ (by decide) (digit_ok k Y)
 have nz:t.name.size=2:=by rw[J];rfl
 refine⟨?_,by unfold okS;omega,g2,⟨fun x E=>Ip.mpr (by have:=O x E;omega),by omega,by omega⟩,⟨fun x E=>Ip.mpr (by have:=S x E;omega),by omega,by omega⟩⟩;unfold DT;have a1:AL t.st.bI.length t.load:=⟨h3,fun x E=>L8 (by have:=O x E;omega)⟩;have a2:Df t.st.members.length t.limits:=⟨h5,fun x E=>L8 (by have:=S x E;omega)⟩;rw[gy nm,gy g1,gy a1,gy a2];rfl
theorem PU(σ:Store)(d:Nat)(ms:List Member):stripL (strip σ d) (ms.flatMap Ac)=some (ms.flatMap Ac,[]):=aW (fun x=>by rw[ak,aP,ak,aP,ak,aP,aX];rfl) ms
theorem Ux(σ:Store)(d:Nat)(js:List Dk):stripL (strip σ d) (js.flatMap Ag)=some (js.flatMap Ag,[]):=aW (fun x=>by rw[ak,aP,ak,aP,ak,aP,ak,aP,aX];rfl) js
theorem cu{α:Type}{c:α->List V}{s:Nat}(hc:∀x,(c x).length=s)(hs:∀(σ:Store) (d:Nat) (l:List α),stripL (strip σ d) (l.flatMap c)=some (l.flatMap c,[])){σ:Store}{b:Nat}{l:List α}{w:Bool}(h:σ b=some ⟨l.flatMap c,s,w⟩)(d:Nat):strip σ (d+1) (.rs b 0 l.length)=some (LL c l,[b]):=by
 have E:=bU hc l;rw[aQ,h];simp only[zk,yY,yZ,E,zq,if_true];rw[zl (by omega),hs];rfl
theorem alM{xs:List Int}(hx:∀x∈xs,0<=x/\x<=255)(hl:xs.length<=1048576){σ:Store}{c nx:Nat}(hc:BP σ c xs)(h8:c<nx)(k:Nat)(hk:k<4) :
  ∃t cells ids σ' nx',ev ZK conv ext 49 [.rp c 0,I k] σ nx=some (.agg cells,σ',nx')/\L_ t k/\cells.length=5/\cells.all vI=true/\stripL (strip σ' 5) cells=some (Au t,ids)/\(∀b∈ids,nx<=b/\b<nx')/\nx<nx'/\BP σ' c xs/\∀q,q<nx->q≠c->σ' q=σ q:=by
 obtain⟨i,h,d6,d7⟩:=hc;obtain⟨s,hs,i',h',dj,dm,dn,kh,d1,d2,d3,j1⟩:=asO xs hx hl i h d7;obtain⟨l1,l2,l3,l4⟩:=XL hs;obtain⟨a5,k1,d8,a7,a8,a9⟩:=kh c (nx+1) (upd σ nx (some ⟨[Sg ByteArray.empty,.nil,.nil,.nil,.nil],0,true⟩)) (by rw[Zk];exact d6) (by omega);obtain⟨jb,b4⟩:∃jb,jb=nx+1+dj:=⟨_,rfl⟩;obtain⟨G,b6⟩:∃G,G=nx+1+dm:=⟨_,rfl⟩;obtain⟨O,d9⟩:∃O,O=nx+1+dn:=⟨_,rfl⟩;rw[<- b4,<- b6,<- d9]at k1;rw[<- b4]at a7;rw[<- b6]at a8;have C1:BP a5 c xs:=⟨i',h',d8,j1⟩;have b1:a5 nx=some ⟨[Sg ByteArray.empty,.nil,.nil,.nil,.nil],0,true⟩:=by rw[a9 nx (by omega) (by omega),Zi]
 obtain⟨σ2,e2⟩:∃σ2,σ2=upd a5 O (some ⟨[.rs jb 0 s.bI.length,.rs G 0 s.members.length],0,true⟩):=⟨_,rfl⟩;have C2:BP σ2 c xs:=by rw[e2];exact C1.upd (by omega)
 have b2:σ2 O=some ⟨[.rs jb 0 s.bI.length,.rs G 0 s.members.length],0,true⟩:=by rw[e2,Zi]
 have e0:σ2 nx=some ⟨[Sg ByteArray.empty,.nil,.nil,.nil,.nil],0,true⟩:=by rw[e2,Zk];exact b1
 have b8:σ2 jb=some ⟨s.bI.flatMap Ag,4,true⟩:=by rw[e2,Zk];exact a7
 have PV:σ2 G=some ⟨s.members.flatMap Ac,3,true⟩:=by rw[e2,Zk];exact a8
 have kd:=aoY k hk;have hF:∀q,q∈[c,jb,G]->restrict σ2 [c,jb,G] q=σ2 q:=fun q hq=>by unfold restrict;rw[sN hq]
 obtain⟨L,lb,e1,E,k3,Yo,e4,e8,g1,g2,Cr,f3⟩:=asR hx hl (js:=s.bI) l1 l2 (w:=.rs G 0 s.members.length) (σ:=restrict σ2 [c,jb,G]) (nx:=O+1) (c:=c) (jb:=jb) (by
  obtain⟨a1,a2,a3,a4⟩:=C2;exact⟨a1,a2,by rw[hF c (by simp)];exact a3,a4⟩) (by omega) (by rw[hF jb (by simp)];exact b8) (by omega) (by omega) rfl
 obtain⟨J,e3⟩:∃J,J=zI [c,jb,G] (O+1) E σ2 e1:=⟨_,rfl⟩;have p3:∀q,q<O+1->q≠c->J q=σ2 q:=fun q hq b9=>by
  rw[e3];unfold zI
  split
  .rw[f3 q hq b9]
   rename_i hh;rcases hh with hh|hh
   .exact hF q hh
   .omega
  .rfl
 have C3:BP J c xs:=by
  obtain⟨a1,a2,a3,a4⟩:=Cr;refine⟨a1,a2,?_,a4⟩;rw[e3];unfold zI;rw[sN (.inl (by simp))];exact a3
 have e9:J lb=some ⟨L.flatMap cI,1,true⟩:=by
  rw[e3];unfold zI;rw[sN (.inr ⟨g1,g2⟩)];exact e8
 have b3:J O=some ⟨[.rs jb 0 s.bI.length,.rs G 0 s.members.length],0,true⟩:=by rw[p3 O (by omega) (by omega)];exact b2
 have f0:J nx=some ⟨[Sg ByteArray.empty,.nil,.nil,.nil,.nil],0,true⟩:=by rw[p3 nx (by omega) (by omega)];exact e0
 have f4:J jb=some ⟨s.bI.flatMap Ag,4,true⟩:=by rw[p3 jb (by omega) (by omega)];exact b8
 have f5:J G=some ⟨s.members.flatMap Ac,3,true⟩:=by rw[p3 G (by omega) (by omega)];exact PV
 have EJ:∀q,q<nx->q≠c->J q=σ q:=fun q h1 h2=>by
  rw[p3 q (by omega) h2,e2,Zk,a9 q (by omega) h2,Zk]
 rw[mg [.cell 4 39] [2,5] func49];have z1:¬O=nx:=by omega
 have z2:¬nx=O:=by omega
 have z3:O<O+1:=by omega
 have z4:c<O+1:=by omega
 have z5:jb<O+1:=by omega
 have z6:G<O+1:=by omega
 have z7:¬E=O:=by omega
 have z8:¬O=E:=by omega
 have sz:(⟨#[116]⟩:ByteArray).size+(ahM k).size<=9223372036854775807:=by show 1+1<=_;omega
 have nm:(⟨#[116]⟩:ByteArray)++ahM k=FY k:=rfl;have z9:E<E+1:=by omega
 have f6:(O==c)=false:=by rw[sJ];omega
 have f7:(c==O)=false:=by rw[sJ];omega
 have f8:(O==jb)=false:=by rw[sJ];omega
 have f9:(O==G)=false:=by rw[sJ];omega
 have g0:(jb==O)=false:=by rw[sJ];omega
 have g3:(G==O)=false:=by rw[sJ];omega
 have g4:(E==c)=false:=by rw[sJ];omega
 have g5:(E==jb)=false:=by rw[sJ];omega
 have g6:(E==G)=false:=by rw[sJ];omega
 have g7:(E==O)=false:=by rw[sJ];omega
 obtain⟨Z,eZ⟩:∃Z:V->List V,Z=fun w=>[Sg (FY k),.rs jb 0 s.bI.length,.rs G 0 s.members.length,.rs lb 0 (2*s.bI.length),w]:=⟨_,rfl⟩
 obtain⟨m0,c0⟩:∃m0,m0=s.members.length:=⟨_,rfl⟩;simp only[go_sem,qC,k1,<- e2,b2,kd,k3,z1,z2,z3,z4,z5,z6,z7,z8,z9,f6,f7,f8,f9,g0,g3,g4,g5,g6,g7,sz,nm,<- e3,b3];generalize hL:jI _ _=y;obtain⟨x,rfl,T,BN,n4,rfl,t4,t6,h9,C4,acc,w,ha,hv,S,hG,hB,U3⟩:=oZ hL m0 (fun j st=>st.T 0= .rp c 0/\st.T 4= .rp nx 0/\st.T 6= .rp E 0/\st.T 19=I m0/\st.T 20=I j/\E<st.nx/\BP st.σ c xs/\∃acc w,acc.length=j/\(∀x∈acc,x=5\/x=20\/x=100\/x=500)/\st.σ E=some ⟨Z w,0,true⟩/\Grow (fun _=>w) st.σ st.nx 0 acc/\(∀b o l,w= .rs b o l->E<b)/\∀q,q<E->q≠c->st.σ q=J q)
  (fun x=>∃T BN n4,x=(.exit 0,⟨T,BN,n4⟩)/\T 4= .rp nx 0/\T 6= .rp E 0/\E<n4/\BP BN c xs/\∃acc w,acc.length=m0/\(∀x∈acc,x=5\/x=20\/x=100\/x=500)/\BN E=some ⟨Z w,0,true⟩/\Grow (fun _=>w) BN n4 0 acc/\(∀b o l,w= .rs b o l->E<b)/\∀q,q<E->q≠c->BN q=J q) (by
   clear hL;rintro j ⟨T,BN,m⟩ hj ⟨t0,t4,t6,Y,a0,hm,C4,acc,w,ha,hv,S,hG,hB,U3⟩;simp only at t0 t4 t6 Y a0 hm C4 S hG U3;have f1:(j:Int)<(m0:Int):=by omega
   have f2:=jC j;have f3:=ZR (n:=(j:Int)+1);have c2:∀a:V,rep 4 [a]=[a,a,a,a]:=fun _=>rfl
   have c3:∀z:List V,rep 1 z=z:=fun z=>by simp[rep]
   obtain⟨Dx,e5⟩:∃Dx,Dx=upd BN m (some ⟨[I 5,I 20,I 100,I 500],1,true⟩):=⟨_,rfl⟩;have C5:BP Dx c xs:=by rw[e5];exact C4.upd (by omega)
   obtain⟨r,hr,x,kp,g8⟩:=aoZ hx hl (σ:=restrict Dx [c,m]) (c:=c) (b:=m) (nx:=m+1) (by
    obtain⟨a1,a2,a3,a4⟩:=C5;exact⟨a1,a2,by rw[fH];exact a3,a4⟩) (by omega) [5,20,100,500] (by decide) (by decide) (by rw[fF,e5,Zi];rfl) (by omega) (by omega)
   obtain⟨v,c4⟩:∃v,v=([5,20,100,500]:List Int)[r]:=⟨_,rfl⟩;have c5:v=5\/v=20\/v=100\/v=500:=by
    have:r=0\/r=1\/r=2\/r=3:=by simp only[zW,yV]at hr;omega
    rcases this with rfl|rfl|rfl|rfl<;>subst c4<;>simp
   rw[<- c4]at kp;have kp:ev ZK conv ext 87 [.rp c 0,.rs m 0 4] (restrict Dx [c,m]) (m+1)=some (I v,upd (restrict Dx [c,m]) c x,m+1):=kp
   obtain⟨CY,e6⟩:∃CY,CY=upd Dx c x:=⟨_,rfl⟩;have C6:BP CY c xs:=by
    obtain⟨a1,a2,a3,a4⟩:=g8;rw[Zi]at a3;exact⟨a1,a2,by rw[e6,Zi];exact a3,a4⟩
   obtain⟨EN,e7⟩:∃EN,EN=upd CY (m+1) (some ⟨[I v],1,true⟩):=⟨_,rfl⟩;have C7:BP EN c xs:=by rw[e7];exact C6.upd (by omega)
   have b7:EN E=some ⟨Z w,0,true⟩:=by rw[e7,Zk,e6,Zk,e5,Zk];exact S
   have c6:EN (m+1)=some ⟨[I v],1,true⟩:=by rw[e7,Zi]
   have b5:Dx E=some ⟨Z w,0,true⟩:=by rw[e5,Zk];exact S
   have c7:∀q,q<E->q≠c->EN q=J q:=fun q h1 h2=>by rw[e7,Zk,e6,Zj _ _ h2,e5,Zk];exact U3 q h1 h2
   have y1:¬E=m:=by omega
   have y2:¬E=m+1:=by omega
   have y3:¬E=m+1+1:=by omega
   have y4:E<m:=hm;have y5:c<m+1:=by omega
   have y6:m<m+1:=by omega
   have y7:m+1<m+1+1:=by omega
   have y8:E<m+1+1+1:=by omega
   have y9:(E==c)=false:=by rw[sJ];omega
   have OE:(c==E)=false:=by rw[sJ];omega
   have OG:(E==m)=false:=by rw[sJ];omega
   have OH:(E==m+1)=false:=by rw[sJ];omega
   have c8:(m==E)=false:=by rw[sJ];omega
   have Q8:(m+1==E)=false:=by rw[sJ];omega
   have c9:(m+1==c)=false:=by rw[sJ];omega
   have d0:(m+1==m)=false:=by rw[sJ];omega
   have d4:¬E=c:=by omega
   have Zw:∀w',(Z w).set 4 w'=Z w':=fun w'=>by rw[eZ];rfl
   have Z4:(Z w)[4]?=some w:=by rw[eZ];rfl
   have Zl:(Z w).length=5:=by rw[eZ];rfl
   rcases hG with ⟨hw,rfl⟩|⟨b,hw,b9,a6,g9⟩
   .have hw:w= .nil:=hw
    subst hw;refine .inl ⟨_,by simp only[go_sem,qC,t0,t4,t6,Y,a0,f1,f2,f3,c2,c3,<- e5,kp,S,b5,<- e6,<- e7,b7,c6,y1,y2,y3,y4,y5,y6,y7,y8,y9,OE,OG,OH,c8,Q8,c9,d0,d4,Z4,Zl,Zw,iW];rfl,?_⟩;simp only[go_sem,t0,t4,t6,Y];refine⟨rfl,by omega,(C7.upd (by omega)).upd (by omega),[v],.rs (m+1+1) 0 1,by rw[<- ha];rfl,fun x hx=>by rw[xY]at hx;subst hx;exact c5,rfl,.inr ⟨m+1+1,rfl,by simp,?_,by omega⟩,fun b o l hb=>by cases hb;omega,fun q h1 h2=>?_⟩
    .rw[Zk,Zi];rfl
    .rw[Zk,Zk];exact c7 q h1 h2
   .have hw:w= .rs b 0 acc.length:=hw
    subst hw;have i0:=hB b 0 _ rfl;have h0:EN b=some ⟨acc.flatMap cI,1,true⟩:=by rw[e7,Zk,e6,Zk,e5,Zk];exact a6
    have d5:=rE (σ:=restrict EN [b,m+1]) (nx:=m+1+1) (bytes:=8) (b:=b) (len:=acc.length) (m:=1) (B:=⟨acc.flatMap cI,1,true⟩) (row:=[I v]) (by rw[fH];exact h0) (qM acc) rfl (by decide) (by unfold maxLen;omega) (by omega) rfl;have x1:b<m+1+1:=by omega
    have x2:(E==b)=false:=by rw[sJ];omega
    have x3:(b==E)=false:=by rw[sJ];omega
    have x4:(b==c)=false:=by rw[sJ];omega
    have x5:(c==b)=false:=by rw[sJ];omega
    have x6:(b==m)=false:=by rw[sJ];omega
    have x7:(m==b)=false:=by rw[sJ];omega
    have x8:¬E=b:=by omega
    refine .inl ⟨_,by simp only[go_sem,qC,t0,t4,t6,Y,a0,f1,f2,f3,c2,c3,<- e5,kp,S,b5,<- e6,<- e7,b7,c6,y1,y2,y3,y4,y5,y6,y7,y8,y9,OE,OG,OH,c8,Q8,c9,d0,d4,Z4,Zl,Zw,iW,d5,x1,x2,x3,x4,x5,x6,x7,x8];rfl,?_⟩;simp only[go_sem,t0,t4,t6,Y];refine⟨rfl,by omega,((C7.upd (by omega)).upd (by omega)).upd (by omega),acc++[v],.rs (m+1+1) 0 (acc.length+1),by rw[zo,ha];rfl,fun x hx=>?_,rfl,.inr ⟨m+1+1,by rw[zo];rfl,by simp,?_,by omega⟩,fun b o l hb=>by cases hb;omega,fun q h1 h2=>?_⟩
    .rcases List.mem_append.mp hx with hx|hx
     .exact hv x hx
     .rw[xY]at hx;subst hx;exact c5
    .rw[Zk,Zi,zS];rfl
    .rw[Zk,Zk,Zk];exact c7 q h1 h2) (by
   clear hL;rintro ⟨T,BN,m⟩ ⟨t0,t4,t6,Y,a0,hm,C4,acc,w,ha,hv,S,hG,hB,U3⟩;simp only at t0 t4 t6 Y a0 hm C4 S hG U3;exact⟨_,by simp only[go_sem,Y,a0,zi];rfl,by simp,_,_,_,rfl,by simp only[go_sem,t4],by simp only[go_sem,t6],hm,C4,acc,w,ha,hv,S,hG,hB,U3⟩) (by
   simp only[go_sem,c0];refine⟨by omega,C3.upd (by omega),[],.nil,rfl,?_⟩;refine⟨fun x hx=>by(cases hx),?_⟩;exact⟨by rw[eZ],.inl ⟨rfl,rfl⟩,fun b o l hb=>by(cases hb),fun q h1 h2=>Zk⟩)
 have Z5:Z w=[Sg (FY k),.rs jb 0 s.bI.length,.rs G 0 s.members.length,.rs lb 0 (2*s.bI.length),w]:=by rw[eZ]
 have h3:BN nx=some ⟨[Sg ByteArray.empty,.nil,.nil,.nil,.nil],0,true⟩:=by rw[U3 nx (by omega) (by omega)];exact f0
 have cw:vI w=true:=by
  rcases hG with ⟨hw,_⟩|⟨b,hw,_⟩
  .have hw:w= .nil:=hw
   rw[hw];rfl
  .have hw:w= .rs b 0 _:=hw
   rw[hw];rfl
 have h4:¬E=nx:=by omega
 have h5:¬nx=E:=by omega
 rw[Z5]at S;simp only[go_sem,t4,t6,S,h3,cw,h4,h5];refine⟨⟨FY k,s,L,acc⟩,[Sg (FY k),.rs jb 0 s.bI.length,.rs G 0 s.members.length,.rs lb 0 (2*s.bI.length),w],?_⟩;have sj:strip (upd BN nx (some ⟨[Sg (FY k),.rs jb 0 s.bI.length,.rs G 0 s.members.length,.rs lb 0 (2*s.bI.length),w],0,true⟩)) 5 (.rs jb 0 s.bI.length)=some (LL Ag s.bI,[jb]) :=
  cu (c:=Ag) (s:=4) (fun _=>rfl) Ux (w:=true) (by rw[Zk,U3 jb (by omega) (by omega)];exact f4) 4
 have sm:strip (upd BN nx (some ⟨[Sg (FY k),.rs jb 0 s.bI.length,.rs G 0 s.members.length,.rs lb 0 (2*s.bI.length),w],0,true⟩)) 5 (.rs G 0 s.members.length)=some (LL Ac s.members,[G]) :=
  cu (c:=Ac) (s:=3) (fun _=>rfl) PU (w:=true) (by rw[Zk,U3 G (by omega) (by omega)];exact f5) 4
 have sl:strip (upd BN nx (some ⟨[Sg (FY k),.rs jb 0 s.bI.length,.rs G 0 s.members.length,.rs lb 0 (2*s.bI.length),w],0,true⟩)) 5 (.rs lb 0 (2*s.bI.length))=some (LI L,[lb]) :=
  kF (by rw[Zk,U3 lb (by omega) (by omega)];exact e9) Yo 4
 obtain⟨iw,h6,h7⟩:∃iw,strip (upd BN nx (some ⟨[Sg (FY k),.rs jb 0 s.bI.length,.rs G 0 s.members.length,.rs lb 0 (2*s.bI.length),w],0,true⟩)) 5 w=some (LI acc,iw)/\∀b∈iw,nx<=b/\b<n4:=by
  rcases hG with ⟨hw,rfl⟩|⟨b,hw,_,a6,g9⟩
  .have hw:w= .nil:=hw
   exact⟨[],by rw[hw,aS];rfl,by simp⟩
  .have hw:w= .rs b 0 acc.length:=hw
   have:=hB b 0 _ hw;refine⟨[b],by rw[hw];exact kF (by rw[Zk];exact a6) rfl 4,fun q hq=>by rw[xY]at hq;omega⟩
 refine⟨[]++([jb]++([G]++([lb]++(iw++[])))),_,n4,rfl,⟨hs,rfl,Yo,e4,?_,hv⟩,rfl,?_,?_,fun b hb=>?_,by omega,C4.upd (by omega),fun q h1 h2=>?_⟩
 .rw[ha,c0]
 .simp only[vO,cw];rfl
 .rw[ak,aP,ak,sj,ak,sm,ak,sl,ak,h6,aX];rfl
 .simp only[wz,xY,zH,or_false,false_or]at hb
  rcases hb with rfl|rfl|rfl|hb
  .omega
  .omega
  .omega
  .exact h7 b hb
 .rw[Zk,U3 q (by omega) h2];exact EJ q h1 h2
theorem b_{f:V->Option (V×List Nat)}:∀ {a b E G:List V} {J O:List Nat},stripL f a=some (E,J)->stripL f b=some (G,O)->stripL f (a++b)=some (E++G,J++O)
 |[],b,E,G,J,O,h1,h2=>by
  rw[aX]at h1;cases h1;exact h2
 |v :: a,b,E,G,J,O,h1,h2=>by
  rw[ak]at h1;cases S:f v with
  |none=>rw[S]at h1;cases h1
  |some p=>
   cases Y:stripL f a with
   |none=>rw[S,Y]at h1;cases h1
   |some q=>
    rw[S,Y]at h1;have ih:=b_ Y h2;rw[yS,ak,S,ih];simp only[zk,zG,sS,sQ]at h1⊢;obtain⟨rfl,rfl⟩:=h1;exact⟨rfl,by rw[yh]⟩
theorem aZ{σ σ':Store}{d:Nat}{cells ts:List V}{ids:List Nat}(h:stripL (strip σ d) cells=some (ts,ids))(E:∀b∈ids,σ' b=σ b):stripL (strip σ' d) cells=some (ts,ids) :=
 au (fun v t i h hi=>aU _ v t i h fun b hb=>E b (hi b hb)) h
theorem rD{σ:Store}{nx size bytes b len m:Nat}{cells row:List V}(hb:σ b=some ⟨cells,size,true⟩)(O:len*size=cells.length)(hs:0<size)(hm:m≠0)(E:len+m<=maxLen)(G:(len+m)*bytes<=140737488355328)(J:row.all vI=true) :
  Aj σ nx size bytes (.rs b 0 len) row m=some (.rs nx 0 (len+m),upd (upd σ b none) nx (some ⟨cells++row,size,true⟩),nx+1):=by
 rw[qy,hb];simp only[zk];have S:size<=m*size:=t_ _ (by omega);rw[sO hm,sO (by rw[vP];omega),sN ⟨by omega,trivial,E,G,J⟩];rfl
theorem XM{z vs:List V}(h:vs.length=z.length)(E:2<=vs.length):patch z 0 vs=vs:=by
 rw[iF _ _ _ (by omega),List.take_zero,yM,yY,xk (by omega),zC]
structure XO (σ:Store) (lo hi:Nat) (w:V) (Fb:List Dp) (cells:List V) (ids:List Nat):Prop where
 w:(w= .nil/\Fb=[]/\cells=[])\/∃sb,w= .rs sb 0 Fb.length/\Fb≠[]/\σ sb=some ⟨cells,5,true⟩/\lo<=sb/\sb<hi/\sb∉ids
 st:stripL (strip σ 5) cells=some (Fb.flatMap Au,ids)
 len:cells.length=Fb.length*5
 cell:cells.all vI=true
 ids:∀b∈ids,lo<=b/\b<hi
 ok:∀i (h:i<Fb.length),L_ Fb[i] i
theorem XO.frame{σ σ':Store}{lo hi E:Nat}{w:V}{Fb:List Dp}{cells:List V}{ids:List Nat}(h:XO σ lo hi w Fb cells ids)(O:hi<=E)(G:∀b,lo<=b->b<hi->σ' b=σ b):XO σ' lo E w Fb cells ids:=by
 refine⟨?_,aZ h.st fun b hb=>G b (h.ids b hb).1 (h.ids b hb).2,h.len,h.cell,fun b hb=>⟨(h.ids b hb).1,xK (h.ids b hb).2 O⟩,h.ok⟩;rcases h.w with hw|⟨sb,S,Y,h3,J,h5,h6⟩
 .exact .inl hw
 .exact .inr ⟨sb,S,Y,by rw[G sb J h5];exact h3,J,by omega,h6⟩
def amW:V->List Nat
 | .rs b _ _=>[b]
 |_=>[]
structure Lj (n:Nat) (ms:List TV.Move) (i k:Nat):Prop where
 len:ms.length<=12
 good:∀j (h:j<ms.length),ET n ms[j]/\(ms[j].fr<(i:Int)\/(ms[j].fr=(i:Int)/\ms[j].to<(k:Int)))
 PY:∀a b (ha:a<ms.length) (hb:b<ms.length),a<b->Dz ms[b] ms[a]=false
theorem Lj.mono{n:Nat}{ms:List TV.Move}{i k G J:Nat}(h:Lj n ms i k)(O:∀f t:Int,(f<(i:Int)\/(f=(i:Int)/\t<(k:Int)))->f<(n:Int)->t<(n:Int)->f<(G:Int)\/(f=(G:Int)/\t<(J:Int))):Lj n ms G J :=
 ⟨h.len,fun j E=>⟨(h.good j E).1,O _ _ (h.good j E).2 (h.good j E).1.2.1 (h.good j E).1.2.2.2.1⟩,h.PY⟩
theorem Lj.add{n:Nat}{ms:List TV.Move}{i k:Nat}(h:Lj n ms i k)(hl:ms.length<12)(hi:i<n)(hk:k<n)(a0:i≠k):Lj n (ms++[⟨(i:Int),(k:Int)⟩]) i (k+1):=by
 have J:∀ {a:Nat} (ha:a<(ms++[(⟨(i:Int),(k:Int)⟩:TV.Move)]).length),(∃E:a<ms.length,(ms++[(⟨(i:Int),(k:Int)⟩:TV.Move)])[a]=ms[a])\/(a=ms.length/\(ms++[(⟨(i:Int),(k:Int)⟩:TV.Move)])[a]=⟨(i:Int),(k:Int)⟩):=fun {a} ha=>by
  by_cases E:a<ms.length
  .exact .inl ⟨E,yG E⟩
  .have:a=ms.length:=by rw[zo,yU]at ha;omega
   subst this;exact .inr ⟨rfl,by simp⟩
 refine⟨by rw[zo];exact hl,fun j hj=>?_,fun a b ha hb O=>?_⟩
 .rcases J hj with ⟨E,e⟩|⟨_,e⟩
  .rw[e]
   have:=h.good j E;exact⟨this.1,by omega⟩
  .rw[e]
   exact⟨⟨by show(0:Int)<=(i:Int);omega,by show(i:Int)<(n:Int);omega,by show(0:Int)<=(k:Int);omega,by show(k:Int)<(n:Int);omega,by show(i:Int)≠(k:Int);omega⟩,.inr ⟨rfl,by show(k:Int)<((k+1:Nat):Int);omega⟩⟩
 .rcases J ha with ⟨G,S⟩|⟨ra,S⟩<;>rcases J hb with ⟨Y,eb⟩|⟨rb,eb⟩
  .rw[S,eb];exact h.PY a b G Y O
  .rw[S,eb]
   have:=(h.good a G).2;unfold Dz;simp only
   by_cases e1:(i:Int)=ms[a].fr
   .have e2:¬(k:Int)=ms[a].to:=by omega
    rw[show((k:Int)==ms[a].to)=false by rw[sJ];exact e2,wS]
   .rw[show((i:Int)==ms[a].fr)=false by rw[sJ];exact e1,uo]
  .omega
  .omega
theorem XP{α:Type}{c:α->List V}{s:Nat}{T:Nat->V}{σ σ':Store}{nx nx' t:Nat}{acc:List α}(J:Ci c s T σ nx t acc)(hn:nx<=nx')(h:∀b o l,T t= .rs b o l->σ' b=σ b):Ci c s T σ' nx' t acc:=by
 rcases J with ⟨E,G⟩|⟨b,E,G,O,S⟩
 .exact .inl ⟨E,G⟩
 .exact .inr ⟨b,E,G,by rw[h _ _ _ E];exact O,by omega⟩
theorem ah7{i k:Nat}(hi:i<4)(J:k<4)(h:i≠k):((FY i).toList==(FY k).toList)=false:=by
 have e:∀w:UInt8,(⟨#[116,w]⟩:ByteArray).toList=[116,w]:=fun w=>by
  unfold ByteArray.toList ByteArray.toList.loop ByteArray.toList.loop ByteArray.toList.loop;rfl
 unfold FY;rw[e,e];have E:i=0\/i=1\/i=2\/i=3:=by omega
 have G:k=0\/k=1\/k=2\/k=3:=by omega
 rcases E with rfl|rfl|rfl|rfl<;>rcases G with rfl|rfl|rfl|rfl<;>first|exact absurd rfl h|rfl
theorem alN{Fb:List Dp}{ms:List TV.Move}{b:Bool}{i k:Nat}(h4:Fb.length<=4)(hs:∀i (h:i<Fb.length),L_ Fb[i] i)(hm:Lj Fb.length ms i k):AZ ⟨Fb,ms,b⟩/\GN ⟨Fb,ms,b⟩:=by
 have mx:12<=maxLen:=by decide
 have O:=hm.len;refine⟨⟨by show Fb.length<=6;omega,O,fun i hi=>⟨(Q7 (by have hi:i<Fb.length:=hi;omega) (hs i hi)).1,?_⟩,fun j E=>⟨(hm.good j E).1,?_⟩⟩,⟨fun t S=>?_,by show Fb.length*112<=_;omega,by show Fb.length<=_;omega⟩,⟨fun m G=>?_,by show ms.length*16<=_;omega,by show ms.length<=_;omega⟩,trivial⟩
 .refine jr hi (fun j E Y=>?_) (by simp[isNamed])
  show((Fb[j]).name.toList==(Fb[i]).name.toList)=false;have hi:i<Fb.length:=hi;rw[(hs j E).2.1,(hs i hi).2.1];exact ah7 (by omega) (by omega) (by omega)
 .refine jr E (fun a ha J=>hm.PY a j ha E J) (by simp[Dz])
 .obtain⟨i,hi,rfl⟩:=yc S
  exact(Q7 (by have:i<Fb.length:=hi;omega) (hs i hi)).2
 .obtain⟨j,E,rfl⟩:=yc G
  obtain⟨⟨a1,a2,a3,a4,_⟩,_⟩:=hm.good j E;exact⟨Ip.mpr (by show _<=ms[j].fr/\ms[j].fr<=_;omega),Ip.mpr (by show _<=ms[j].to/\ms[j].to<=_;omega)⟩
theorem as8{xs:List Int}(hx:∀x∈xs,0<=x/\x<=255)(hl:xs.length<=1048576){σ:Store}{c nx:Nat}(hc:BP σ c xs)(f5:c<nx) :
  ∃y cells ids σ' nx',ev ZK conv ext 21 [.rp c 0] σ nx=some (.agg cells,σ',nx')/\cells.all vI=true/\cells.length=3/\(∀f,(∀b,b≠c->nx<=b->f b=σ' b)->stripL (strip f 6) cells=some (AQ y,ids))/\AZ y/\GN y/\2<=y.aI.length/\∀q,q<nx->q≠c->σ' q=σ q:=by
 obtain⟨b,x0,k0,C0⟩:=aa8 hx hl (hc.upd (b:=nx) (x:=some ⟨[.nil,.nil,Bo false],0,true⟩) (by omega)) (show c<nx+1 by omega) 4 (by decide) (by decide);have z1:¬nx=nx+1:=by omega
 have z2:¬nx+1=nx:=by omega
 have z3:c<nx+1:=by omega
 rw[mg [.cell 2 26] [5] func21];simp only[go_sem,qC,k0,z1,z2,z3];generalize hL:jI _ _=y;obtain⟨x,rfl,T,Dx,n5,rfl,t0,Y,S,f6,C5,Fb,cells,ids,w,b5,d5,d6,c4,hS,XQ⟩:=jP hL (fun m st=>∃k,m+k=4/\st.T 0= .rp c 0/\st.T 2= .rp nx 0/\st.T 3= .rp (nx+1) 0/\st.T 4=I k/\nx+1<st.nx/\BP st.σ c xs/\∃Fb cells ids w,Fb.length=k/\st.σ nx=some ⟨[.nil,.nil,Bo false],0,true⟩/\st.σ (nx+1)=some ⟨[w,.nil,Bo b],0,true⟩/\XO st.σ (nx+1+1) st.nx w Fb cells ids/\∀q,q<nx->q≠c->st.σ q=σ q)
  (fun x=>∃T Dx n5,x=(.exit 0,⟨T,Dx,n5⟩)/\T 0= .rp c 0/\T 2= .rp nx 0/\T 3= .rp (nx+1) 0/\nx+1<n5/\BP Dx c xs/\∃Fb cells ids w,2<=Fb.length/\Fb.length<=4/\Dx nx=some ⟨[.nil,.nil,Bo false],0,true⟩/\Dx (nx+1)=some ⟨[w,.nil,Bo b],0,true⟩/\XO Dx (nx+1+1) n5 w Fb cells ids/\∀q,q<nx->q≠c->Dx q=σ q) (by
   clear hL;rintro m ⟨T,a5,m1⟩ ⟨k,f7,t0,Y,S,t4,J,C1,Fb,cells,ids,w,hlen,b0,b1,hS,fr⟩;simp only at t0 Y S t4 J C1 b0 b1 hS fr;obtain⟨r,x1,k1,hr,C2⟩:=Um hx hl C1 (show c<m1 by omega) 3 (by decide) (by decide);obtain⟨σ2,e2⟩:∃σ2,σ2=upd a5 c x1:=⟨_,rfl⟩;rw[<- e2]at C2;have Ed:∀q,q≠c->σ2 q=a5 q:=fun q h=>by rw[e2,Zj _ _ h]
   have w1:=ZR (n:=2+r)
   by_cases g1:(k:Int)<2+r
   .by_cases g2:(k:Int)<4
    .have G:=ZR (n:=(k:Int)+1)
     obtain⟨t,sc,is,c5,n',ks,hP,a7,a8,b6,a6,f8,Cr,f9⟩:=alM hx hl (σ:=restrict σ2 [c]) (c:=c) (nx:=m1) (by
      obtain⟨a1,a2,a3,a4⟩:=C2;exact⟨a1,a2,by rw[fG];exact a3,a4⟩) (by omega) k (by omega)
     obtain⟨a0,e3⟩:∃a0,a0=zI [c] m1 n' σ2 c5:=⟨_,rfl⟩;have p1:∀q,q<m1->q≠c->a0 q=a5 q:=fun q E O=>by
      rw[e3];unfold zI;rw[sO (by simp only[xY];omega)];exact Ed q O
     have p2:∀q,m1<=q->q<n'->a0 q=c5 q:=fun q E O=>by
      rw[e3];unfold zI;rw[sN (.inr ⟨E,O⟩)]
     have C3:BP a0 c xs:=by
      obtain⟨a1,a2,a3,a4⟩:=Cr;refine⟨a1,a2,?_,a4⟩;rw[e3];unfold zI;rw[sN (.inl (by simp))];exact a3
     have c6:stripL (strip a0 5) sc=some (Au t,is):=aZ b6 fun b hb=>p2 b (a6 b hb).1 (a6 b hb).2
     have pz:∀a b c d e:V,patch [a,b,c,d,e] 0 sc=sc:=fun a b c d e=>XM (by rw[a7];rfl) (by omega)
     have c7:∀z:List V,rep 1 z=z:=fun z=>by simp[rep]
     have tk:sc.take 5=sc:=zl (by omega);obtain⟨BN,e4⟩:∃BN,BN=upd a0 n' (some ⟨sc,5,true⟩):=⟨_,rfl⟩;have b7:BN (nx+1)=some ⟨[w,.nil,Bo b],0,true⟩:=by rw[e4,Zk,p1 _ (by omega) (by omega)];exact b1
     have c8:BN n'=some ⟨sc,5,true⟩:=by rw[e4,Zi]
     have b8:σ2 (nx+1)=some ⟨[w,.nil,Bo b],0,true⟩:=by rw[Ed _ (by omega)];exact b1
     have C4:BP BN c xs:=by rw[e4];exact C3.upd (by omega)
     have p4:∀q,q<m1->q≠c->BN q=a5 q:=fun q E O=>by rw[e4,Zk];exact p1 q E O
     have Xz:stripL (strip BN 5) sc=some (Au t,is):=aZ c6 fun b hb=>by rw[e4,Zj _ _ (by have:=a6 b hb;omega)]
     have y1:nx+1<m1:=J;have y2:c<m1:=by omega
     have y3:n'<n'+1:=by omega
     have y4:nx+1<n'+1+1:=by omega
     have y5:¬nx+1=n':=by omega
     have y6:¬nx+1=n'+1:=by omega
     have y7:(nx+1==c)=false:=by rw[sJ];omega
     have y8:(c==nx+1)=false:=by rw[sJ];omega
     have y9:(nx+1==n')=false:=by rw[sJ];omega
     have OE:(n'==nx+1)=false:=by rw[sJ];omega
     have OG:(n'==c)=false:=by rw[sJ];omega
     have OH:5<=sc.length:=by omega
     rcases hS.w with ⟨rfl,rfl,rfl⟩|⟨sb,rfl,g0,b9,s1,s2,s3⟩
     .refine .inl ⟨_,by simp only[go_sem,qC,t0,Y,S,t4,k1,<- e2,w1,G,g1,g2,b1,b8,ks,<- e3,a7,a8,pz,c7,tk,<- e4,b7,c8,y1,y2,y3,y4,y5,y6,y7,y8,y9,OE,OG,OH,iW];rfl,?_⟩
      simp only[go_sem,t0,Y,S];have c9:k=0:=hlen.symm;refine⟨3,by omega,1,by omega,by rw[c9];rfl,by omega,(C4.upd (by omega)).upd (by omega),[t],sc,is,.rs (n'+1) 0 1,rfl,?_,rfl,?_,fun q E O=>?_⟩
      .rw[Zk,Zk,p4 _ (by omega) (by omega)];exact b0
      .refine⟨.inr ⟨n'+1,rfl,by simp,by rw[Zk,Zi],by omega,by omega,fun hm=>by have:=a6 _ hm;omega⟩,?_,by rw[a7];rfl,a8,fun b hb=>by have:=a6 b hb;omega,fun i hi=>?_⟩
       .have e:[t].flatMap Au=Au t:=by simp
        rw[e];exact aZ Xz fun b hb=>by rw[Zj _ _ (by have:=a6 b hb;omega),Zj _ _ (by have:=a6 b hb;omega)]
       .have hi0:i=0:=by rw[yU]at hi;omega
        subst hi0;rw[c9]at hP;exact hP
      .rw[Zk,Zk,p4 _ (by omega) O];exact fr q E O
     .rw[hlen]at b1 b8 b7
      have d7:BN sb=some ⟨cells,5,true⟩:=by rw[p4 _ (by omega) (by omega)];exact b9
      have d2:=rD (σ:=restrict BN [sb,n']) (nx:=n'+1) (size:=5) (bytes:=112) (b:=sb) (len:=k) (m:=1) (row:=sc) (by rw[fH];exact d7) (by rw[hS.len,hlen]) (by omega) (by decide) (by unfold maxLen;omega) (by omega) a8;have x1:sb<n'+1:=by omega
      have x2:(nx+1==sb)=false:=by rw[sJ];omega
      have x3:(sb==nx+1)=false:=by rw[sJ];omega
      have x4:(sb==c)=false:=by rw[sJ];omega
      have x5:(c==sb)=false:=by rw[sJ];omega
      have x6:¬nx+1=sb:=by omega
      refine .inl ⟨_,by simp only[go_sem,qC,t0,Y,S,t4,k1,<- e2,w1,G,g1,g2,b1,b8,ks,<- e3,a7,a8,pz,c7,tk,<- e4,b7,c8,y1,y2,y3,y4,y5,y6,y7,y8,y9,OE,OG,OH,iW,d2,x1,x2,x3,x4,x5,x6];rfl,?_⟩;simp only[go_sem,t0,Y,S];refine⟨m-1,by omega,k+1,by omega,rfl,by omega,((C4.upd (by omega)).upd (by omega)).upd (by omega),Fb++[t],cells++sc,ids++is,.rs (n'+1) 0 (k+1),by rw[zo,hlen];rfl,?_,rfl,?_,fun q E O=>?_⟩
      .rw[Zk,Zk,Zk,p4 _ (by omega) (by omega)];exact b0
      .refine⟨.inr ⟨n'+1,by rw[zo,hlen];rfl,by simp,by rw[Zk,Zi],by omega,by omega,fun hm=>?_⟩,?_,by rw[zo,zo,hS.len,a7,vP];rfl,by rw[List.all_append,hS.cell,a8];rfl,fun b hb=>?_,fun i hi=>?_⟩
       .rcases List.mem_append.mp hm with hm|hm
        .have:=hS.ids _ hm;omega
        .have:=a6 _ hm;omega
       .rw[zS]
        have e:[t].flatMap Au=Au t:=by simp
        rw[e];refine b_ (aZ hS.st fun b hb=>?_) (aZ Xz fun b hb=>?_)
        .have:=hS.ids b hb
         rw[Zk,Zk,Zj _ _ (fun e=>s3 (by rw[<- e];exact hb)),p4 _ (by omega) (by omega)]
        .have:=a6 b hb
         rw[Zk,Zk,Zk]
       .rcases List.mem_append.mp hb with hb|hb
        .have:=hS.ids b hb;omega
        .have:=a6 b hb;omega
       .by_cases d3:i<Fb.length
        .rw[yG d3];exact hS.ok i d3
        .have b2:i=Fb.length:=by rw[zo,yU]at hi;omega
         subst b2;rw[wF (zq _)];simp only[yQ,su];rw[hlen];exact hP
      .rw[Zk,Zk,Zk,p4 _ (by omega) O];exact fr q E O
    .refine .inr ⟨_,by simp only[go_sem,qC,t0,t4,k1,<- e2,w1,g1,g2];rfl,by simp,_,_,_,rfl,by simp only[go_sem,t0],by simp only[go_sem,Y],by simp only[go_sem,S],J,C2,Fb,cells,ids,w,by omega,by omega,by rw[Ed _ (by omega)];exact b0,by rw[Ed _ (by omega)];exact b1,hS.frame (zq _) fun q E O=>Ed q (by omega),fun q E O=>by rw[Ed q O];exact fr q E O⟩
   .refine .inr ⟨_,by simp only[go_sem,qC,t0,t4,k1,<- e2,w1,g1];rfl,by simp,_,_,_,rfl,by simp only[go_sem,t0],by simp only[go_sem,Y],by simp only[go_sem,S],J,C2,Fb,cells,ids,w,by omega,by omega,by rw[Ed _ (by omega)];exact b0,by rw[Ed _ (by omega)];exact b1,hS.frame (zq _) fun q E O=>Ed q (by omega),fun q E O=>by rw[Ed q O];exact fr q E O⟩) 4 (by
   simp only[go_sem];refine⟨0,by omega,rfl,by omega,C0.upd (by omega),[],[],[],.nil,rfl,?_,rfl,⟨.inl ⟨rfl,rfl,rfl⟩,rfl,rfl,rfl,fun b hb=>by(cases hb),fun i hi=>absurd hi (zU _)⟩,fun q E O=>?_⟩
   .rw[Zk,Zk,Zi]
   .rw[Zk,Zj _ _ O,Zk])
 obtain⟨n,en⟩:∃n,n=Fb.length:=⟨_,rfl⟩;obtain⟨sb,rfl,b9,s1,s2,s3⟩:∃sb,w= .rs sb 0 n/\Dx sb=some ⟨cells,5,true⟩/\nx+1+1<=sb/\sb<n5/\sb∉ids:=by
  rcases hS.w with ⟨_,hs,_⟩|⟨sb,hw,_,h3,h4,h5,h6⟩
  .rw[hs]at b5;simp at b5
  .exact⟨sb,by rw[hw,en],h3,h4,h5,h6⟩
 rw[<- en]at b5 d5;simp only[go_sem,S,c4];generalize hL:jI _ _=z;obtain⟨x,rfl,T2,CY,n6,rfl,Y,S,Ol,ms,G,c0,c1,hG,hM,hB,OI⟩:=oZ hL n (fun i st=>st.T 0= .rp c 0/\st.T 2= .rp nx 0/\st.T 3= .rp (nx+1) 0/\st.T 5=I n/\st.T 6=I i/\n5<=st.nx/\BP st.σ c xs/\∃ms G,st.σ nx=some ⟨[.nil,.nil,Bo false],0,true⟩/\st.σ (nx+1)=some ⟨[.rs sb 0 n,G,Bo b],0,true⟩/\Ci Dl 2 (fun _=>G) st.σ st.nx 0 ms/\Lj n ms i 0/\(∀b o l,G= .rs b o l->n5<=b)/\∀q,q<n5->q≠c->q≠nx+1->st.σ q=Dx q)
  (fun x=>∃T CY n6,x=(.exit 2,⟨T,CY,n6⟩)/\T 2= .rp nx 0/\T 3= .rp (nx+1) 0/\n5<=n6/\∃ms G,CY nx=some ⟨[.nil,.nil,Bo false],0,true⟩/\CY (nx+1)=some ⟨[.rs sb 0 n,G,Bo b],0,true⟩/\Ci Dl 2 (fun _=>G) CY n6 0 ms/\Lj n ms n 0/\(∀b o l,G= .rs b o l->n5<=b)/\∀q,q<n5->q≠c->q≠nx+1->CY q=Dx q) (by
   clear hL;rintro i ⟨T,a5,m1⟩ hi ⟨t0,Y,S,t5,t6,J,C1,ms,G,c0,c1,hG,hM,hB,fr⟩;simp only at t0 Y S t5 t6 J C1 c0 c1 hG fr;have f1:(i:Int)<(n:Int):=by omega
   have f3:=ZR (n:=(i:Int)+1);refine bC ?_
   conv=>
    enter [1,r,1,1]
    simp only[go_sem,t5,t6,f1]
   generalize hL:jI _ _=z;obtain⟨x,rfl,T',σ',m',rfl,t0,Y,S,t5,t6,hm,C',d8,d9,d0,d1,e0,e5,e6,e7⟩:=oZ hL n (fun k st=>st.T 0= .rp c 0/\st.T 2= .rp nx 0/\st.T 3= .rp (nx+1) 0/\st.T 5=I n/\st.T 6=I i/\st.T 7=I k/\n5<=st.nx/\BP st.σ c xs/\∃ms G,st.σ nx=some ⟨[.nil,.nil,Bo false],0,true⟩/\st.σ (nx+1)=some ⟨[.rs sb 0 n,G,Bo b],0,true⟩/\Ci Dl 2 (fun _=>G) st.σ st.nx 0 ms/\Lj n ms i k/\(∀b o l,G= .rs b o l->n5<=b)/\∀q,q<n5->q≠c->q≠nx+1->st.σ q=Dx q)
    (fun x=>∃T CY n6,x=(.exit 4,⟨T,CY,n6⟩)/\T 0= .rp c 0/\T 2= .rp nx 0/\T 3= .rp (nx+1) 0/\T 5=I n/\T 6=I i/\n5<=n6/\BP CY c xs/\∃ms G,CY nx=some ⟨[.nil,.nil,Bo false],0,true⟩/\CY (nx+1)=some ⟨[.rs sb 0 n,G,Bo b],0,true⟩/\Ci Dl 2 (fun _=>G) CY n6 0 ms/\Lj n ms i n/\(∀b o l,G= .rs b o l->n5<=b)/\∀q,q<n5->q≠c->q≠nx+1->CY q=Dx q) (by
     clear hL;rintro k ⟨T,a5,m1⟩ hk ⟨t0,Y,S,t5,t6,t7,J,C1,ms,G,c0,c1,hG,hM,hB,fr⟩;simp only at t0 Y S t5 t6 t7 J C1 c0 c1 hG fr;have g1:(k:Int)<(n:Int):=by omega
     have g3:=ZR (n:=(k:Int)+1);have next:Lj n ms i (k+1):=hM.mono fun f t h _ _=>by omega
     by_cases b2:i=k
     .have e1:((i:Int) !=(k:Int))=false:=by rw[b2];simp
      refine .inl ⟨_,by simp only[go_sem,t0,S,t5,t6,t7,g1,g3,e1];rfl,?_⟩;simp only[go_sem,t0,Y,S,t5,t6];exact⟨rfl,J,C1,ms,G,c0,c1,hG,next,hB,fr⟩
     .have e1:((i:Int) !=(k:Int))=true:=by simp;omega
      obtain⟨r,x1,k1,C2⟩:=aa8 hx hl C1 (show c<m1 by omega) 2 (by decide) (by decide);obtain⟨σ2,e2⟩:∃σ2,σ2=upd a5 c x1:=⟨_,rfl⟩;rw[<- e2]at C2;have Ed:∀q,q≠c->σ2 q=a5 q:=fun q h=>by rw[e2,Zj _ _ h]
      have c2:σ2 nx=some ⟨[.nil,.nil,Bo false],0,true⟩:=by rw[Ed _ (by omega)];exact c0
      have a9:σ2 (nx+1)=some ⟨[.rs sb 0 n,G,Bo b],0,true⟩:=by rw[Ed _ (by omega)];exact c1
      have EJ:∀q,q<n5->q≠c->q≠nx+1->σ2 q=Dx q:=fun q E O h3=>by rw[Ed q O];exact fr q E O h3
      have c3:Ci Dl 2 (fun _=>G) σ2 m1 0 ms:=XP hG (zq _) fun b o l h=>Ed b (by have:=hB b o l h;omega)
      have g4:=hM.len;have no:DR ZK 24 G=some (I ms.length):=by
       rcases hG with ⟨E,O⟩|⟨bb,E,_⟩
       .have E:G= .nil:=E
        rw[E,O];rfl
       .have E:G= .rs bb 0 ms.length:=E
        rw[E];rfl
      cases r with
      |false=>
       refine .inl ⟨_,by simp only[go_sem,qC,t0,S,t5,t6,t7,g1,g3,e1,k1,<- e2];rfl,?_⟩;simp only[go_sem,t0,Y,S,t5,t6];exact⟨rfl,J,C2,ms,G,c2,a9,c3,next,hB,EJ⟩
      |true=>
       by_cases b4:(ms.length:Int)<12
       .have e8:=kW (c:=Dl) (s:=2) (bytes:=16) (fun _=>rfl) (fun _=>rfl) (by decide) c3 (⟨(i:Int),(k:Int)⟩:TV.Move) (by omega) (by decide)
        obtain⟨a0,ha,e9,f0⟩:=e8;have u1:∀q,q<m1->(∀b o l,G= .rs b o l->q≠b)->a0 q=σ2 q:=f0;have d1:a0 (nx+1)=some ⟨[.rs sb 0 n,G,Bo b],0,true⟩:=by rw[u1 _ (by omega) fun b o l h=>by have:=hB b o l h;omega];exact a9
        have d0:a0 nx=some ⟨[.nil,.nil,Bo false],0,true⟩:=by rw[u1 _ (by omega) fun b o l h=>by have:=hB b o l h;omega];exact c2
        have C3:BP a0 c xs:=by
         obtain⟨a1,a2,a3,a4⟩:=C2;exact⟨a1,a2,by rw[u1 _ (by omega) fun b o l h=>by have:=hB b o l h;omega];exact a3,a4⟩
        refine .inl ⟨_,by simp only[go_sem,qC,t0,S,t5,t6,t7,g1,g3,e1,k1,<- e2,a9,no,b4,ha,d1];rfl,?_⟩;simp only[go_sem,t0,Y,S,t5,t6];refine⟨rfl,by omega,C3.upd (by omega),ms++[⟨(i:Int),(k:Int)⟩],.rs (m1+1) 0 (ms.length+1),?_,rfl,?_,hM.add (by omega) (by omega) (by omega) b2,fun b o l hb=>by(cases hb;omega),fun q E O h3=>?_⟩
        .rw[Zk];exact d0
        .refine .inr ⟨m1+1,by rw[zo];rfl,by simp,?_,by omega⟩
         rw[Zk];exact e9
        .rw[Zj _ _ h3,u1 q (by omega) fun b o l h=>by have:=hB b o l h;omega];exact EJ q E O h3
       .refine .inl ⟨_,by simp only[go_sem,qC,t0,S,t5,t6,t7,g1,g3,e1,k1,<- e2,a9,no,b4];rfl,?_⟩
        simp only[go_sem,t0,Y,S,t5,t6];exact⟨rfl,J,C2,ms,G,c2,a9,c3,next,hB,EJ⟩) (by
     clear hL;rintro ⟨T,a5,m1⟩ ⟨t0,Y,S,t5,t6,t7,J,C1,ms,G,c0,c1,hG,hM,hB,fr⟩;simp only at t0 Y S t5 t6 t7 J C1 c0 c1 hG fr;exact⟨_,by simp only[go_sem,t5,t7,zi];rfl,by simp,_,_,_,rfl,by simp only[go_sem,t0],by simp only[go_sem,Y],by simp only[go_sem,S],by simp only[go_sem,t5],by simp only[go_sem,t6],J,C1,ms,G,c0,c1,hG,hM,hB,fr⟩) (by
     simp only[go_sem,t0,Y,S,t5,t6];exact⟨J,C1,ms,G,c0,c1,hG,hM,hB,fr⟩)
   refine⟨_,by simp only[go_sem,t6,f3];rfl,.inl ⟨_,rfl,?_⟩⟩;simp only[go_sem,t0,Y,S,t5];exact⟨rfl,hm,C',d8,d9,d0,d1,e0,e5.mono fun f t h E O=>by omega,e6,e7⟩) (by
   clear hL;rintro ⟨T,a5,m1⟩ ⟨t0,Y,S,t5,t6,J,C1,ms,G,c0,c1,hG,hM,hB,fr⟩;simp only at t0 Y S t5 t6 J C1 c0 c1 hG fr;exact⟨_,by simp only[go_sem,t5,t6,zi];rfl,by simp,_,_,_,rfl,by simp only[go_sem,Y],by simp only[go_sem,S],J,ms,G,c0,c1,hG,hM,hB,fr⟩) (by
   simp only[go_sem,t0,Y,S];exact⟨C5,[],.nil,d6,c4,.inl ⟨rfl,rfl⟩,⟨vg _,fun j hj=>absurd hj (zU _),fun a b ha=>absurd ha (zU _)⟩,fun b o l h=>by(cases h),fun q _ _ _=>trivial⟩)
 have cw:vI G=true:=by
  rcases hG with ⟨E,_⟩|⟨bb,E,_⟩
  .have E:G= .nil:=E
   rw[E];rfl
  .have E:G= .rs bb 0 ms.length:=E
   rw[E];rfl
 simp only[go_sem,Y,S,c0,c1,cw,z1,z2];obtain⟨f2,f4⟩:=alN (b:=b) (Fb:=Fb) (ms:=ms) (i:=n) (k:=0) (by omega) hS.ok (by rw[<- en];exact hM);obtain⟨b3,ef⟩:∃b3,b3=upd CY nx (some ⟨[.rs sb 0 n,G,Bo b],0,true⟩):=⟨_,rfl⟩;have l1:∀q,nx<q->b3 q=CY q:=fun q h=>by rw[ef,Zk]
 rw[<- ef];refine⟨⟨Fb,ms,b⟩,[.rs sb 0 n,G,Bo b],sb :: ids++(amW G++([]++[])),b3,n6,rfl,by simp only[vO,cw];rfl,rfl,fun f hf=>?_,f2,f4,by show 2<=Fb.length;omega,fun q E O=>?_⟩
 .have d4:∀q,nx+1<q->q<n5->f q=Dx q:=fun q E O=>by
   rw[hf q (by omega) (by omega),l1 q (by omega),OI q O (by omega) (by omega)]
  have g1:strip f 6 (.rs sb 0 n)=some (LL Au Fb,sb :: ids):=by
   have b6:stripL (strip f 5) cells=some (Fb.flatMap Au,ids):=aZ hS.st fun q hq=>d4 q (by have:=hS.ids q hq;omega) (hS.ids q hq).2
   rw[aQ,d4 sb (by omega) s2,b9];have hl:=hS.len;rw[<- en]at hl;simp only[zk,yY,yZ,hl,zq,if_true];rw[zl (by omega),b6];show some (V.ts _ n,_)=some (V.ts _ Fb.length,_);rw[en]
  have g2:strip f 6 G=some (LL Dl ms,amW G):=by
   rcases hG with ⟨E,rfl⟩|⟨bb,E,_,h3,h4⟩
   .have E:G= .nil:=E
    rw[E,aS];rfl
   .have E:G= .rs bb 0 ms.length:=E
    have:=hB bb 0 _ E;rw[E];exact cu (c:=Dl) (s:=2) (fun _=>rfl) (fun σ d l=>aW (fun x=>by rw[ak,aP,ak,aP,aX];rfl) l) (w:=true) (by rw[hf bb (by omega) (by omega),l1 bb (by omega)];exact h3) 5
  rw[ak,g1,ak,g2,ak,aP,aX];rfl
 .rw[ef,Zk,OI q (by omega) O (by omega)];exact XQ q E O
theorem ae2(xs:List Int)(hx:∀x∈xs,0<=x/\x<=255)(hl:xs.length<=1048576):∃y,fn ZK conv ext 5 [LL cB xs]=some (.agg (AQ y))/\AZ y/\GN y/\2<=y.aI.length:=by
 obtain⟨h0,k0⟩:=sNew xs hx hl 1 (upd pI 0 (some ⟨[.nil,.nil,Bo false],0,true⟩));obtain⟨y,cells,ids,σ',nx',k1,hc,O,S,g1,g2,g3,Y⟩:=as8 hx hl (c:=1) (nx:=2) (σ:=upd (upd pI 0 (some ⟨[.nil,.nil,Bo false],0,true⟩)) 1 (some (Qo xs 0 h0 0))) ⟨0,h0,by rw[Zi],by omega,by omega⟩ (by omega);have b0:σ' 0=some ⟨[.nil,.nil,Bo false],0,true⟩:=by rw[Y 0 (by omega) (by omega),Zk,Zi]
 have s0:=S (upd σ' 0 (some ⟨cells,0,true⟩)) fun b h1 h2=>Zk
 obtain⟨E,G,J,rfl⟩:∃E G J,cells=[E,G,J]:=by
  match cells,O with
  |[E,G,J],_=>exact⟨E,G,J,rfl⟩
 refine⟨y,?_,g1,g2,g3⟩;simp only[vO,vU,zD]at hc;rw[m_,mg [.cell 2 26] [] func5];simp only[go_sem,qC,k0,k1,b0,hc,s0]
end Go.Proofs.YtjjhejehbhbdeaaGreat
namespace Go.Proofs.YtjjhejehbhbdeaaGreat
open Go Go.TV
abbrev ao_:List Nat:=[3,4,7,9,14,15,19,26,27,44,55,79]
abbrev apa:List Nat:=[29,28,18,42,77,78,43]
def DK:FuncId->Conv:=fun f=>if f∈([14,7,9,29,55,80,34]:List Nat)then .own else if f∈([79,18,42,77,78,43]:List Nat)then .inl else .KQ
noncomputable def Fp:Ext:=fun f=>if f=80 then some (FN)else if f=34 then some (Hz 4)else if f∈ao_ then none else if f∈apa then some (fun args σ nx=>ev ZK BF Nw f args σ nx)else some fun args σ nx=>ev ZK wI Am f args σ nx
theorem extSOk:Kq ZK Fp:=fun f g h args σ nx v σ' nx' J=>by
 unfold Fp at h
 by_cases E:f=80
 .subst E
  rw[sN rfl]at h;cases h;exact pO args σ nx v σ' nx' J
 have O:=E
 by_cases G:f=34
 .subst G
  rw[sO (by decide),sN rfl]at h;cases h;exact Ul args σ nx v σ' nx' J
 have S:=G;simp only[O,S,if_false]at h
 split at h
 .cases h
 .split at h
  .cases h
   exact mY (by kernel_rfl) anZ f args σ nx v σ' nx' J
  .cases h
   exact mY (by kernel_rfl) aom f args σ nx v σ' nx' J
theorem fnS{f:FuncId}(h:List.contains ([80,34]++ao_++apa) f=false)(ts:List V):fn ZK DK Fp f ts=fn ZK wI Am f ts:=by
 have hn:¬f∈([80,34]++ao_++apa:List Nat):=fun e=>by rw[List.contains_iff_mem.mpr e]at h;cases h
 simp only[wz,not_or]at hn;have E:=hn.1.1;simp only[zX,zH,or_false,not_or]at E;rw[m_,m_,mZ (g:=fun args σ nx=>ev ZK wI Am f args σ nx) (by unfold Fp;simp only[E,if_false];rw[sO hn.1.2,sO hn.2])]
theorem apb(args:List V)(σ:Store)(nx:Nat):ev ZK DK Fp 29 args σ nx=ev ZK BF Nw 29 args σ nx:=mZ (g:=fun args σ nx=>ev ZK BF Nw 29 args σ nx) rfl args σ nx
theorem ah8(args:List V)(σ:Store)(nx:Nat):ev ZK DK Fp 28 args σ nx=ev ZK BF Nw 28 args σ nx:=mZ (g:=fun args σ nx=>ev ZK BF Nw 28 args σ nx) rfl args σ nx
theorem apc(ts:List V):fn ZK DK Fp 28 ts=fn ZK BF Nw 28 ts:=by rw[m_,m_,ah8]
theorem apd(args:List V)(σ:Store)(nx:Nat):ev ZK DK Fp 80 args σ nx=(FN) args σ nx:=mZ (g:=(FN)) rfl args σ nx
theorem ape(args:List V)(σ:Store)(nx:Nat):ev ZK DK Fp 34 args σ nx=(Hz 4) args σ nx:=mZ (g:=(Hz 4)) rfl args σ nx
abbrev nI(n:Nat):Prop:=∀ts:List V,fn ZK DK Fp n ts=fn ZK wI Am n ts
theorem apf:nI 5/\nI 6/\nI 8/\nI 10/\nI 11/\nI 12/\nI 13/\nI 21/\nI 22/\nI 23/\nI 24/\nI 25/\nI 30/\nI 31/\nI 32/\nI 33/\nI 35/\nI 36/\nI 47/\nI 48/\nI 49/\nI 50/\nI 51/\nI 52:=by and_intros<;>exact fnS rfl
theorem apg:nI 53/\nI 54/\nI 56/\nI 57/\nI 58/\nI 59/\nI 60/\nI 61/\nI 62/\nI 63/\nI 64/\nI 65/\nI 66/\nI 67/\nI 68/\nI 69/\nI 72/\nI 73/\nI 83/\nI 84/\nI 85/\nI 86/\nI 87/\nI 88:=by and_intros<;>exact fnS rfl
theorem aph:nI 89/\nI 90/\nI 91/\nI 92/\nI 93/\nI 94/\nI 95/\nI 96/\nI 97/\nI 98/\nI 99/\nI 100/\nI 101/\nI 102/\nI 103/\nI 104/\nI 105/\nI 106/\nI 107/\nI 108/\nI 109/\nI 110/\nI 111/\nI 113:=by and_intros<;>exact fnS rfl
theorem apj:nI 114/\nI 116/\nI 122/\nI 123/\nI 124/\nI 125/\nI 126/\nI 127/\nI 129/\nI 130/\nI 131/\nI 132/\nI 133/\nI 134/\nI 135/\nI 136/\nI 137/\nI 138/\nI 139/\nI 140/\nI 141/\nI 142/\nI 143/\nI 144:=by and_intros<;>exact fnS rfl
theorem apk:nI 145/\nI 146/\nI 149/\nI 150/\nI 151/\nI 152/\nI 153/\nI 154/\nI 155/\nI 156/\nI 157/\nI 158/\nI 159/\nI 160/\nI 161/\nI 162/\nI 163/\nI 164/\nI 165/\nI 166/\nI 167/\nI 168/\nI 169/\nI 170:=by and_intros<;>exact fnS rfl
theorem apl:nI 171/\nI 172/\nI 173/\nI 174/\nI 175/\nI 176/\nI 177/\nI 178/\nI 179/\nI 180/\nI 183/\nI 184/\nI 185/\nI 186/\nI 187/\nI 188/\nI 189/\nI 190/\nI 191/\nI 192/\nI 193/\nI 194/\nI 195/\nI 196:=by and_intros<;>exact fnS rfl
theorem apm:nI 197/\nI 198/\nI 199/\nI 200/\nI 201/\nI 202/\nI 205/\nI 206/\nI 207/\nI 208/\nI 209/\nI 210/\nI 211/\nI 212/\nI 213/\nI 214/\nI 215/\nI 216/\nI 217/\nI 218/\nI 220/\nI 221/\nI 222/\nI 223:=by and_intros<;>exact fnS rfl
theorem apn:nI 224/\nI 225/\nI 226/\nI 227/\nI 228:=by and_intros<;>exact fnS rfl
abbrev dI(n:Nat):Prop:=DK n= .KQ
abbrev Gn(n:Nat):Prop:=DK n= .own
theorem apo:dI 3/\dI 5/\dI 6/\Gn 7/\dI 8/\Gn 9/\dI 10/\dI 11/\dI 12/\dI 13/\Gn 14/\dI 15/\dI 19/\dI 21/\dI 22/\dI 23/\dI 24/\dI 25/\dI 26/\dI 27/\dI 28/\Gn 29/\dI 30/\dI 31:=by and_intros<;>exact rfl
theorem apq:dI 32/\dI 33/\Gn 34/\dI 35/\dI 36/\dI 44/\dI 47/\dI 48/\dI 49/\dI 50/\dI 51/\dI 52/\dI 53/\dI 54/\Gn 55/\dI 56/\dI 57/\dI 58/\dI 59/\dI 60/\dI 61/\dI 62/\dI 63/\dI 64:=by and_intros<;>exact rfl
theorem apr:dI 65/\dI 66/\dI 67/\dI 68/\dI 69/\dI 72/\dI 73/\DK 79= .inl/\Gn 80/\dI 83/\dI 84/\dI 85/\dI 86/\dI 87/\dI 88/\dI 89/\dI 90/\dI 91/\dI 92/\dI 93/\dI 94/\dI 95/\dI 96/\dI 97:=by and_intros<;>exact rfl
theorem aps:dI 98/\dI 99/\dI 100/\dI 101/\dI 102/\dI 103/\dI 104/\dI 105/\dI 106/\dI 107/\dI 108/\dI 109/\dI 110/\dI 111/\dI 113/\dI 114/\dI 116/\dI 122/\dI 123/\dI 124/\dI 125/\dI 126/\dI 127/\dI 129:=by and_intros<;>exact rfl
theorem apt:dI 130/\dI 131/\dI 132/\dI 133/\dI 134/\dI 135/\dI 136/\dI 137/\dI 138/\dI 139/\dI 140/\dI 141/\dI 142/\dI 143/\dI 144/\dI 145/\dI 146/\dI 149/\dI 150/\dI 151/\dI 152/\dI 153/\dI 154/\dI 155:=by and_intros<;>exact rfl
theorem apu:dI 156/\dI 157/\dI 158/\dI 159/\dI 160/\dI 161/\dI 162/\dI 163/\dI 164/\dI 165/\dI 166/\dI 167/\dI 168/\dI 169/\dI 170/\dI 171/\dI 172/\dI 173/\dI 174/\dI 175/\dI 176/\dI 177/\dI 178/\dI 179:=by and_intros<;>exact rfl
theorem apv:dI 180/\dI 183/\dI 184/\dI 185/\dI 186/\dI 187/\dI 188/\dI 189/\dI 190/\dI 191/\dI 192/\dI 193/\dI 194/\dI 195/\dI 196/\dI 197/\dI 198/\dI 199/\dI 200/\dI 201/\dI 202/\dI 205/\dI 206/\dI 207:=by and_intros<;>exact rfl
theorem apw:dI 208/\dI 209/\dI 210/\dI 211/\dI 212/\dI 213/\dI 214/\dI 215/\dI 216/\dI 217/\dI 218/\dI 220/\dI 221/\dI 222/\dI 223/\dI 224/\dI 225/\dI 226/\dI 227/\dI 228:=by and_intros<;>exact rfl
attribute [go_sem] apf apg aph apj apk apl apm apn
attribute [go_sem] apo apq apr aps apt apu apv apw
attribute [go_sem] apb ah8
attribute [go_sem] apd ape
open Go.Plan
attribute [-go_sem] qy
def ayB(a b:Int):Int:=IntKind.u64.wrap ((BitVec.ofInt 64 a &&& BitVec.ofInt 64 b).toNat:Nat)
theorem alO{P:Program}{t:TypeId}{x y:Operand}{a b:Int}:Aw P .and t x y (.sc (.int .u64 a)) (.sc (.int .u64 b))=some (.sc (.int .u64 (ayB a b))):=by
 simp only[Aw,toVal,eqGuard_at_int,binOp_and];rfl
attribute [go_sem] alO
theorem apx(n:Nat)(G:1<=n)(J:n<=6):fn ZK conv ext 129 [.sc (.int .u64 1),.sc (.int .u64 n)]=some (.Bf [.sc (.int .u64 0),.sc (.int .u64 n)]):=by
 have hn:n=1\/n=2\/n=3\/n=4\/n=5\/n=6:=by omega
 have E:¬(32:Int)<0:=by decide
 rcases hn with rfl|rfl|rfl|rfl|rfl|rfl<;>rw[m_,mg [.tmp 4,.tmp 5] [] func129]<;>simp only[go_sem,E]<;>rfl
theorem ayC(n:Nat)(E:1<=n)(G:n<=6):fn ZK conv ext 94 [.sc (.int .u64 1),.sc (.int .u64 n)]=some (.Bf [.sc (.int .u64 0),.sc (.int .u64 n)]):=by
 have k:=apx n E G;rw[m_,mg [.tmp 4,.tmp 5] [] func94];simp only[go_sem,k]
theorem atc(k:IntKind)(n:Int)(σ:Store):BA ZK 3 134 (.sc (.int k n)) σ=some (.sc (.int .u64 (IntKind.u64.wrap n))):=Jw Tryz.underlying3 Tryz.underlying134
theorem atd(k:IntKind)(n:Int)(σ:Store):BA ZK 134 3 (.sc (.int k n)) σ=some (.sc (.int .i64 (IntKind.i64.wrap n))):=Jw Tryz.underlying134 Tryz.underlying3
section
variable {P:Program} {conv:FuncId->Conv} {call:TV.Call} (d:Option Tmp) (ty:TypeId) (ps:String) (af:Array Edge) (gd:Option (Nat×Bool)) (T:Nat->V) (σ:Store) (nx:Nat)
theorem ae3(s x:Operand)(ts:Array TypeId):Af conv T σ ⟨d,.call ⟨.builtin .copy,#[s,x],ts⟩,ty,ps,af,gd⟩=Aa (val T s)++Aa (val T x):=by
 show([val T s,val T x].flatMap Aa)=_;simp only[zJ,w_,zC]
theorem apy(s x:Operand)(ts:Array TypeId):writer conv ⟨d,.call ⟨.builtin .copy,#[s,x],ts⟩,ty,ps,af,gd⟩=true:=rfl
theorem ah9(s x:Operand)(t u:TypeId):Aq P conv call ⟨d,.call ⟨.builtin .copy,#[s,x],#[t,u]⟩,ty,ps,af,gd⟩ T σ nx=
  if((Aa (val T s)++Aa (val T x)).all fun b=>decide (b<nx))=true then aoN (Aa (val T s)++Aa (val T x)) σ nx (GI P #[t,u] (val T s) (val T x) (restrict σ (Aa (val T s)++Aa (val T x))) nx)else none:=by
 rw[nN (F:=Aa (val T s)++Aa (val T x)) T σ nx (by
  show some ([val T s,val T x].flatMap Aa)=_;simp only[zJ,w_,zC]) (fun _=>rfl)]
 rfl
end
attribute [go_sem] ae3 apy ah9
def EK(n k:Nat):List Int:=List.replicate k (-1)++List.replicate (n-k) 0
theorem Q9{n k:Nat}(h:k<=n):(EK n k).length=n:=by simp[EK];omega
theorem abj{n k m:Nat}(h:k+m<=n)(hm:m<=k)(h0:m≠0):patch ((EK n k).flatMap cI) k ((((EK n k).flatMap cI).take k).take m)=(EK n (k+m)).flatMap cI:=by
 have G:((EK n k).flatMap cI).length=n:=by rw[qM,Q9 (by omega)]
 have E:((EK n k).flatMap cI).take k=(List.replicate k (-1)).flatMap cI:=by
  rw[qK];congr 1;unfold EK;rw[wP (by simp)]
 have J:((List.replicate k (-1:Int)).flatMap cI).take m=(List.replicate m (-1)).flatMap cI:=by
  rw[qK,List.take_replicate,xC hm]
 have O:∀(j:Nat) (xs:List Int),(xs.flatMap cI).drop j=(xs.drop j).flatMap cI:=fun j=>by
  induction j with
  |zero=>intro xs;rfl
  |succ j S=>
   intro xs;cases xs with
   |nil=>rfl
   |cons y Y=>exact S Y
 rw[E,J,iF _ _ _ (by rw[qM,G];simp;omega),E,qM,yT,O,<- zS,<- zS];congr 1;unfold EK;rw[List.drop_append,xk (by simp),yM,List.drop_replicate,yT,vk];congr 2;omega
theorem ah_(n:Nat)(S:1<=n)(h6:n<=6)(nx:Nat):∃O G,ev ZK DK Fp 55 [.ts [I (-1)] 1,I n] pI nx=some (.rs nx 0 n,O,G)/\nx<G/\O nx=some ⟨(List.replicate n (-1)).flatMap cI,1,true⟩:=by
 have c1:¬(n:Int)<0:=by omega
 have k:=ayC n S h6;have w1:=ZQ (n:=(n:Int)) (by omega) (by omega);have w2:=ZQ (n:=1) (by omega) (by omega);have w3:=ZR (n:=(n:Int));have c2:¬(0:Int)<0:=by decide
 have c3:¬(9223372036854775807:Int)<(n:Int):=by omega
 have m1:=jC n;have m2:8*(n:Int)<=281474976710656:=by omega
 have m3:(n:Int)<=9223372036854775807:=by omega
 have m4:min 1 n=1:=by omega
 have m5:¬(1:Nat)=0:=by decide
 have r1:((rep n [V.sc (.int .i64 0)])).length=n:=by rw[fK];simp
 have r2:patch (rep n [V.sc (.int .i64 0)]) 0 [I (-1)]=(EK n 1).flatMap cI:=by
  have hn:n=1\/n=2\/n=3\/n=4\/n=5\/n=6:=by omega
  rcases hn with rfl|rfl|rfl|rfl|rfl|rfl<;>rfl
 have m6:1<=n:=S;rw[mg [.tmp 4] [9] func55];simp only[go_sem,c1,c2,c3,w1,w2,w3,k,m1,m2,m3,atc,atd,r1,m4,m5,m6,Hu,r2];generalize hL:jI _ _=y;obtain⟨x,rfl,T,σ,G,rfl,E,J,hs⟩:=jP hL (fun m st=>∃k,1<=k/\k<=n/\m+k=n/\nx<st.nx/\st.T 7= .rs nx 0 n/\st.T 8=I k/\st.σ nx=some ⟨(EK n k).flatMap cI,1,true⟩)
  (fun x=>∃T σ G,x=(.exit 0,⟨T,σ,G⟩)/\nx<G/\T 7= .rs nx 0 n/\σ nx=some ⟨(EK n n).flatMap cI,1,true⟩) (by
   clear hL;rintro m ⟨T,σ,G⟩ ⟨k,k1,k2,k3,E,J,Y,hs⟩;simp only at E J Y hs;have hlen:((EK n k).flatMap cI).length=n:=by rw[qM,Q9 k2]
   by_cases hk:k<n
   .have g1:(k:Int)<(n:Int):=by omega
    have g2:=jC k;have g3:¬k=0:=by omega
    have g4:¬k=n:=by omega
    have g5:k<=n:=k2;obtain⟨q,hq⟩:∃q,q=min k (n-k):=⟨_,rfl⟩;have g6:¬q=0:=by omega
    have g7:k+q<=n:=by omega
    have g8:(((EK n k).flatMap cI).take k).take q=(List.replicate q (-1)).flatMap cI:=by
     rw[qK,qK];congr 1;unfold EK;rw[wP (by simp),List.take_replicate,xC (by omega)]
    have g9:=abj (n:=n) (k:=k) (m:=q) (by omega) (by omega) g6;have a0:((List.replicate q (-1)).flatMap cI).all vI=true:=qN _;have w4:=ZR (n:=(k:Int)+(q:Int));rw[g8]at g9;refine .inl ⟨_,by simp only[go_sem,J,Y,hs,g1,g2,g3,g4,g5,hlen,E,<- hq,g6,g7,g8,g9,a0,w4,Hu];rfl,m-q,by omega,k+q,by omega,by omega,by omega,?_⟩;simp only[go_sem,J];exact⟨E,rfl⟩
   .have:k=n:=by omega
    subst this;refine .inr ⟨_,by simp only[go_sem,J,Y,zi];rfl,by simp,_,_,_,rfl,E,?_,hs⟩;simp only[go_sem,J]) (n-1) (by
   simp only[go_sem];exact⟨1,zq _,S,by omega,by omega,rfl,rfl⟩)
 simp only[go_sem,J];refine⟨_,_,rfl,E,?_⟩;rw[hs];unfold EK;rw[yQ];simp
def DY(y:Cm)(i k:Nat):Bool:=DU y.moves (i:Int) k
def DV(al:List Bool)(i:Nat):Bool:=al.getD i false
theorem rG{al:List Bool}{i:Nat}(h:DV al i=true):i<al.length:=by
 unfold DV at h;rw[zx]at h
 by_cases hi:i<al.length
 .exact hi
 .rw[yw (by omega)]at h;cases h
theorem rH{al:List Bool}{i:Nat}(h:i<al.length):DV al i=al[i]:=by
 unfold DV;rw[zx,zy h];rfl
def Dw(n:Nat)(out:Nat->Int):List Int:=(List.range n).map out
theorem jh(n:Nat)(out:Nat->Int):(Dw n out).length=n:=by simp[Dw]
theorem Mc{n:Nat}(out:Nat->Int){a:Nat}(h:a<n):((Dw n out).flatMap cI)[a]?=some (I (out a)):=by
 rw[idx (xs:=Dw n out) (k:=a) (by rw[jh];exact h)];simp[Dw]
theorem XR{n:Nat}(out:Nat->Int)(a:Nat)(v:Int):((Dw n out).flatMap cI).set a (I v)=(Dw n (put out a v)).flatMap cI:=by
 have e:∀(l:List Int) (k:Nat),(l.flatMap cI).set k (I v)=(l.set k v).flatMap cI:=fun l=>by
  induction l with
  |nil=>intro k;rfl
  |cons x l E=>
   intro k;cases k with
   |zero=>rfl
   |succ k=>
    show I x :: (l.flatMap cI).set k (I v)=_;rw[E];rfl
 rw[e];congr 1;refine yR (by simp[Dw]) fun i G J=>?_
 rw[wG];simp only[Dw,xZ,uh,put]
 by_cases c:a=i
 .subst c;simp
 .rw[sO c,sO (fun e=>c e.symm)]
def BZ(T:Nat->V)(σ:Store)(nx t E:Nat)(l:List Int):Prop:=∃(b off:Nat) (cells:List Int),T t= .rs b off l.length/\σ b=some ⟨cells.flatMap cI,1,true⟩/\off+l.length=cells.length/\cells.drop off=l/\b<nx/\b≠E
theorem Uy{T:Nat->V}{σ:Store}{nx t G:Nat}{l:List Int}(h:BZ T σ nx t G l)(hb:G<nx)(x:Int)(hl:l.length<100000) :
  ∃σ',Aj (upd σ nx (some ⟨[I x],1,true⟩)) (nx+1) 1 8 (T t) [I x] 1=some (.rs (nx+1) 0 (l.length+1),σ',nx+1+1)/\σ' (nx+1)=some ⟨(l++[x]).flatMap cI,1,true⟩/\σ' G=σ G:=by
 obtain⟨b,off,cells,J,O,h3,S,h5,Y⟩:=h;have hm:l.length+1<=maxLen:=by unfold maxLen;omega
 have E:(cells.flatMap cI).length=cells.length:=qM cells;refine⟨upd (upd (upd σ nx (some ⟨[I x],1,true⟩)) b none) (nx+1) (some ⟨(cells.flatMap cI).drop off++[I x],1,true⟩),?_,?_,?_⟩
 .rw[J,qy,Zk,O]
  simp only[zk];rw[sO (by decide),sO (by rw[E];omega),sN ⟨by rw[E];omega,trivial,hm,by omega,rfl⟩]
 .rw[Zi]
  have:(cells.flatMap cI).drop off=l.flatMap cI:=by
   rw[<- S];have e:∀(k:Nat) (xs:List Int),(xs.flatMap cI).drop k=(xs.drop k).flatMap cI:=fun k=>by
    induction k with
    |zero=>intro xs;rfl
    |succ k ih=>
     intro xs;cases xs with
     |nil=>rfl
     |cons y ys=>exact ih ys
   exact e _ _
  rw[this,zS];rfl
 .rw[Zk,Zj _ _ (fun e=>Y e.symm),Zk]
theorem g_{T:Nat->V}{σ:Store}{nx t E b:Nat}{l:List Int}(G:T t= .rs b 0 l.length)(J:σ b=some ⟨l.flatMap cI,1,true⟩)(O:b<nx)(S:b≠E):BZ T σ nx t E l:=⟨b,0,l,G,J,by omega,rfl,O,S⟩
theorem gJ{T T':Nat->V}{σ:Store}{nx nx' t E:Nat}{l:List Int}(h:BZ T σ nx t E l)(G:T' t=T t)(hn:nx<=nx'):BZ T' σ nx' t E l:=by
 obtain⟨b,off,cells,J,O,S,Y,h5,h6⟩:=h;exact⟨b,off,cells,by rw[G,J],O,S,Y,by omega,h6⟩
theorem Q_{T:Nat->V}{σ:Store}{nx t E:Nat}{l:List Int}(h:BZ T σ nx t E l)(x:Option Fj):BZ T (upd σ E x) nx t E l:=by
 obtain⟨b,off,cells,J,O,S,Y,h5,G⟩:=h;exact⟨b,off,cells,J,by rw[Zj _ _ G];exact O,S,Y,h5,G⟩
theorem XT{T:Nat->V}{σ:Store}{nx t E:Nat}{l:List Int}(h:BZ T σ nx t E l)(x:Option Fj):BZ T (upd σ nx x) (nx+1) t E l:=by
 obtain⟨b,off,cells,G,J,O,S,h5,Y⟩:=h;exact⟨b,off,cells,G,by rw[Zk];exact J,O,S,by omega,Y⟩
theorem gG{cells:List Int}{off:Nat}{x:Int}{l:List Int}(h:cells.drop off=x :: l):(cells.flatMap cI)[off]?=some (I x):=by
 have E:off<cells.length:=by
  refine zh fun hn=>?_
  rw[xk (by omega)]at h;cases h
 rw[idx (xs:=cells) (k:=off) E];rw[yL E]at h;injection h with h _
 rw[h]
theorem OJ{cells:List Int}{off:Nat}{x:Int}{l:List Int}(h:cells.drop off=x :: l):cells.drop (off+1)=l:=by
 rw[<- List.drop_drop,h];rfl
def Ak(l:List Nat):List Int:=l.map fun(i:Nat)=>(i:Int)
theorem alP{y:Cm}(E:AZ y){j:Nat}(G:j<y.moves.length):∃a c:Nat,y.moves[j]=⟨(a:Int),(c:Int)⟩/\a<y.aI.length/\c<y.aI.length:=by
 obtain⟨_,_,_,hm⟩:=E;obtain⟨J,S,O,Y,_⟩:=(hm j G).1;refine⟨y.moves[j].fr.toNat,y.moves[j].to.toNat,?_,by omega,by omega⟩;rw[uS J,uS O]
theorem acN(y:Cm)(i k:Nat):DY y i k=true↔∃j,∃h:j<y.moves.length,y.moves[j]=⟨(i:Int),(k:Int)⟩:=by
 unfold DY DU;rw[List.any_eq_true];constructor
 .rintro ⟨m,hm,hp⟩
  obtain⟨j,E,rfl⟩:=yc hm;rw[zD,beq_iff_eq,beq_iff_eq]at hp;refine⟨j,E,?_⟩;rw[<- hp.1,<- hp.2]
 .rintro ⟨j,E,e⟩
  exact⟨_,zu E,by rw[e];simp⟩
noncomputable def PW(y:Cm)(al:List Bool)(to:Int)(i:Nat):Int:=if 0<=to/\to<(y.aI.length:Int)then dst (DY y) (DV al) to.toNat i else -1
theorem abk{y:Cm}{al:List Bool}{to:Int}(h:¬(0<=to/\to<(y.aI.length:Int)/\DV al to.toNat=true))(i:Nat):PW y al to i= -1:=by
 unfold PW
 split
 .rename_i c
  refine ahG fun k E=>h ⟨c.1,c.2,E.lst⟩
 .rfl
theorem OL{n:Nat}{f g:Nat->Int}(h:∀i,i<n->f i=g i):Dw n f=Dw n g:=xG fun i hi=>h i (by simpa using hi)
theorem abl(n:Nat)(v:Int):Dw n (fun _=>v)=List.replicate n v:=by
 unfold Dw;refine yR (by simp) fun i E G=>by simp
theorem Zy(l:List Nat):(Ak l).length=l.length:=by simp[Ak]
theorem Zz(l:List Nat){p:Nat}(h:p<l.length):Ak (l.drop p)=(l[p]:Int) :: Ak (l.drop (p+1)):=by
 rw[yL h];rfl
theorem ah'{y:Cm}{al:List Bool}{t:Nat}{all:List Nat}{p:Nat}{out:Nat->Int}(h:XB (DY y) (DV al) t all p out)(hp:all.length<=p)(E:t<y.aI.length):Dw y.aI.length out=Dw y.aI.length (PW y al (t:Int)) :=
 OL fun i _=>by
  unfold PW;rw[sN (by omega),zA];exact(h.fin hp i).symm
theorem apz(y:Cm)(hg:AZ y)(g5:y.aI.length≠0)(to:Int)(al:List Bool)(g6:al.length=y.aI.length) :
  fn ZK DK Fp 26 [.tp (AQ y) 0,I to,LL Es al]=some (LI (Dw y.aI.length (PW y al to))):=by
 have Ol:=hg.1;have g7:=hg.2.1;obtain⟨n,en⟩:∃n,n=y.aI.length:=⟨_,rfl⟩;obtain⟨a1,qI,k1,e5,s1⟩:=ah_ n (by omega) (by omega) 1;have o1:Own a1 1 (.rs 1 0 n) (LI (List.replicate n (-1))) [1]:=by
  have:=JH (d:=0) s1 (st:=1) (by simp)
  rwa [yT]at this
 have g1:=fun d=>o1.gather (d':=d+1) (by omega)
 have j1:∀σ,Di 1 σ a1 [1] 1=a1 1:=fun σ=>jm (by omega) (by simp)
 rw[m_,mg [.tmp 6] [12] func26];have fin:∀(σ:Store) (out:Nat->Int) (d:Nat),σ 1=some ⟨(Dw n out).flatMap cI,1,true⟩->strip σ (d+1) (.rs 1 0 n)=some (LI (Dw n out),[1]):=fun σ out d h=>kF h (jh n out) d
 rw[<- abl]at s1;have s2:∀σ,Di 1 σ a1 [1] 1=some ⟨(Dw n (fun _=> -1)).flatMap cI,1,true⟩:=fun σ=>(j1 σ).trans s1
 rw[<- en];have no:(∀i,PW y al to i= -1)->some (LI (Dw n (fun _=> -1)))=some (LI (Dw n (PW y al to))):=fun h=>by rw[OL (f:=fun _=> -1) (g:=PW y al to) (fun i _=>(h i).symm)]
 by_cases c1:to<0
 .rw[<- no fun i=>abk (fun h=>by omega) i]
  have f0:=fun σ d=>fin (Di 1 σ a1 [1]) (fun _=> -1) d (s2 σ)
  simp only[go_sem,<- en,k1,g1,s2,c1,f0]
 by_cases c2:(n:Int)<=to
 .rw[<- no fun i=>abk (fun h=>by omega) i]
  have f0:=fun σ d=>fin (Di 1 σ a1 [1]) (fun _=> -1) d (s2 σ)
  simp only[go_sem,<- en,k1,g1,s2,c1,c2,f0]
 obtain⟨t,rfl⟩:∃t:Nat,to=(t:Int):=⟨to.toNat,by omega⟩;have ht:t<n:=by omega
 have d1:(t:Int)<(n:Int):=by omega
 have d2:=jC t;have a4:t<al.length:=by omega
 have d3:(al.flatMap Es)[t]?=some (Bo (DV al t)):=by rw[rH a4];exact bg (fun b=>Bo b) al t a4
 have d4:=IB al;have d5:=ael al t a4;have d6:(t:Int)<(al.length:Int):=by omega
 cases a7:DV al t with
 |false=>
  rw[a7]at d3;rw[<- no fun i=>abk (fun h=>by rw[zA]at h;rw[a7]at h;cases h.2.2) i];have f0:=fun σ d=>fin (Di 1 σ a1 [1]) (fun _=> -1) d (s2 σ)
  simp only[go_sem,<- en,k1,g1,s2,c1,c2,d1,d2,d3,d4,d5,d6,a4,f0]
 |true=>
  rw[a7]at d3;have e1:=Mc (n:=n) (fun _=> -1) ht;have e2:=XR (n:=n) (fun _=> -1) t 0;have e3:((Dw n fun _=>(-1:Int)).flatMap cI).length=n:=by rw[qM,jh]
  have nz:¬qI=1:=by omega
  have e6:¬1=qI:=by omega
  have nl:1<qI:=e5;simp only[go_sem,<- en,k1,g1,s2,c1,c2,d1,d2,d3,d4,d5,d6,a4,e1,e2,e3,ht,nz,e6,nl];generalize hL:jI _ _=w
  obtain⟨x,rfl,T,σ,nx,rfl,t7,out,hs,c6⟩:=jP hL (fun m st=>st.T 0= .tp (AQ y) 0/\st.T 2=LL Es al/\st.T 7= .rs 1 0 n/\1<st.nx/\∃all p out,XB (DY y) (DV al) t all p out/\p<=all.length/\m+p=n/\st.σ 1=some ⟨(Dw n out).flatMap cI,1,true⟩ /\
    ((p=all.length/\st.T 8= .ts [] 0)\/(p<all.length/\BZ st.T st.σ st.nx 8 1 (Ak (all.drop p)))))
   (fun x=>∃T σ nx,x=(.exit 0,⟨T,σ,nx⟩)/\T 7= .rs 1 0 n/\∃out,σ 1=some ⟨(Dw n out).flatMap cI,1,true⟩/\Dw n out=Dw n (PW y al (t:Int))) (by
    clear hL;rintro m ⟨T,σ,nx⟩ ⟨t0,t2,t7,a2,all,p,out,hB,hp,hm,hs,hq⟩;simp only at t0 t2 t7 a2 hs hq;rcases hq with ⟨rfl,t8⟩|⟨hp,hq⟩
    .refine .inr ⟨_,by simp only[go_sem,t8];rfl,by simp,_,_,_,rfl,by simp only[go_sem,t7],out,hs,?_⟩
     rw[en];exact ah' hB (zq _) (by omega)
    .have e7:=hB.bound (n:=n) fun i hi=>by have:=rG hi;omega
     obtain⟨h,eh⟩:∃h,h=all[p]:=⟨_,rfl⟩;have a5:=hq;rw[Zz all hp,<- eh]at a5;obtain⟨b,off,cells,q1,q2,q3,q4,q5,q6⟩:=a5;have q7:=gG q4;have p1:((h:Int) :: Ak (all.drop (p+1))).length=all.length-p:=by rw[zW,Zy,zN];omega
     rw[p1]at q1;have p2:(0:Int)<((all.length-p:Nat):Int):=by omega
     refine bC ?_
     conv=>
      enter [1,r,1,1]
      simp only[go_sem,t0,t2,t7,q1,p2]
     generalize hL:jI _ _=w
     obtain⟨r,rfl,T1,σ',nx',rfl,t0,t2,t7,c7,E,b6,c8,c9,d0,d7,e8,b8⟩:=oZ hL y.moves.length (fun j st=>st.T 0= .tp (AQ y) 0/\st.T 2=LL Es al/\st.T 7= .rs 1 0 n/\st.T 47=LL Dl y.moves/\st.T 48=I y.moves.length/\st.T 49=I j/\1<st.nx /\
       ∃all out,XB (DY y) (DV al) t all p out/\∃hp:p<all.length,h=all[p]/\st.σ 1=some ⟨(Dw n out).flatMap cI,1,true⟩/\BZ st.T st.σ st.nx 8 1 (Ak (all.drop p))/\∀i (hi:i<y.moves.length),i<j->∀a:Nat,y.moves[i]=⟨(a:Int),(h:Int)⟩->DV al a=true->a∈all)
      (fun r=>∃T σ nx,r=(.exit 2,⟨T,σ,nx⟩)/\T 0= .tp (AQ y) 0/\T 2=LL Es al/\T 7= .rs 1 0 n/\1<nx /\
       ∃all out,XB (DY y) (DV al) t all p out/\∃hp:p<all.length,h=all[p]/\σ 1=some ⟨(Dw n out).flatMap cI,1,true⟩/\BZ T σ nx 8 1 (Ak (all.drop p))/\∀i (hi:i<y.moves.length),∀a:Nat,y.moves[i]=⟨(a:Int),(h:Int)⟩->DV al a=true->a∈all) (by
       clear hL;rintro j ⟨T,σ,nx⟩ hj ⟨t0,t2,t7,O,G,a0,a2,all,out,hB,hp,eh,hs,hq,hd⟩;simp only at t0 t2 t7 O G a0 a2 hs hq;have e7:=hB.bound (n:=n) fun i hi=>by have:=rG hi;omega
       obtain⟨a,c,e,ha,hc⟩:=alP hg hj;rw[<- en]at ha hc;have a5:=hq;rw[Zz all hp,<- eh]at a5;obtain⟨b,off,cells,q1,q2,q3,q4,q5,q6⟩:=a5;have q7:=gG q4;have p1:((h:Int) :: Ak (all.drop (p+1))).length=all.length-p:=by rw[zW,Zy,zN];omega
       rw[p1]at q1;have p2:(0:Int)<((all.length-p:Nat):Int):=by omega
       have p3:0<all.length-p:=by omega
       have p4:(0:Int)<=0:=by omega
       have p5:(0:Int).toNat=0:=rfl;have f1:(j:Int)<(y.moves.length:Int):=by omega
       have f2:=jC j;have f3:=ZR (n:=(j:Int)+1);have f4:=aj9 y.moves j hj;rw[e]at f4;have f5:=abU y.moves;have f6:j*2+2<=y.moves.length*2:=by omega
       have f9:=aj_ y.moves j hj;obtain⟨Gz,XU⟩:∃Gz,Gz=upd σ nx (some ⟨Dl ⟨(a:Int),(c:Int)⟩,0,true⟩):=⟨_,rfl⟩;have b0:Gz nx=some ⟨Dl ⟨(a:Int),(c:Int)⟩,0,true⟩:=by rw[XU,Zi]
       have b1:Gz 1=some ⟨(Dw n out).flatMap cI,1,true⟩:=by rw[XU,Zk];exact hs
       have b2:Gz b=some ⟨cells.flatMap cI,1,true⟩:=by rw[XU,Zk];exact q2
       have z1:b<nx+1:=by omega
       have z2:nx<nx+1:=by omega
       have z3:1<nx+1:=by omega
       have ic:(c:Int)<(n:Int):=by omega
       have b9:=jC c;have ia:(a:Int)<(n:Int):=by omega
       have c0:=jC a;have c3:(a:Int)<(al.length:Int):=by omega
       have a3:a<al.length:=by omega
       have la:=Mc out ha;have lc:=Mc out hc;have ll:((Dw n out).flatMap cI).length=n:=by rw[qM,jh]
       have v3:(al.flatMap Es)[a]?=some (Bo (DV al a)):=by rw[rH a3];exact bg (fun b=>Bo b) al a a3
       have v4:=IB al;have v5:=ael al a a3;have a8:BZ T Gz (nx+1) 8 1 (Ak (all.drop p)):=by rw[XU];exact XT hq _
       by_cases a9:c=h
       .have c1:((c:Int)==(h:Int))=true:=by simp[a9]
        have ea:∀(a':Nat),y.moves[j]=⟨(a':Int),(h:Int)⟩->a'=a:=fun a' e'=>by
         rw[e]at e';simp only[TV.Move.mk.injEq]at e';omega
        cases b4:DV al a with
        |false=>
         rw[b4]at v3;refine .inl ⟨_,by simp only[go_sem,t0,t2,t7,O,G,a0,f1,f2,f3,f4,f5,f6,f9,<- XU,b0,b1,b2,q1,q7,z1,z2,z3,p2,p3,p4,p5,c1,ic,b9,ia,c0,c3,a3,ha,hc,v3,v4,v5,la,lc];rfl,?_⟩;simp only[go_sem,t0,t2,t7,O,G];refine⟨rfl,by omega,all,out,hB,hp,eh,b1,gJ a8 (by simp only[go_sem]) (zq _),fun i hi c4 a' e' S=>?_⟩
         by_cases Y:i=j
         .subst Y
          rw[ea a' e',b4]at S;cases S
         .exact hd i hi (by omega) a' e' S
        |true=>
         rw[b4]at v3
         by_cases hm:a∈all
         .have o1:¬out a<0:=fun e9=>(hB.lo a).mp e9 hm
          refine .inl ⟨_,by simp only[go_sem,t0,t2,t7,O,G,a0,f1,f2,f3,f4,f5,f6,f9,<- XU,b0,b1,b2,q1,q7,z1,z2,z3,p2,p3,p4,p5,c1,ic,b9,ia,c0,c3,a3,ha,hc,v3,v4,v5,la,lc,o1];rfl,?_⟩;simp only[go_sem,t0,t2,t7,O,G];refine⟨rfl,by omega,all,out,hB,hp,eh,b1,gJ a8 (by simp only[go_sem]) (zq _),fun i hi c4 a' e' S=>?_⟩
          by_cases Y:i=j
          .subst Y
           rw[ea a' e'];exact hm
          .exact hd i hi (by omega) a' e' S
         .have o1:out a<0:=(hB.lo a).mpr hm
          have f7:DY y a all[p]=true:=by
           rw[<- eh];exact(acN y a h).mpr ⟨j,hj,by rw[e,a9]⟩
          have a6:=hB.add hp hm b4 f7;rw[<- eh,<- a9]at a6;have oc:0<=out c/\out c<10:=by
           have d8:c∈all:=by rw[a9,eh];exact zu hp
           obtain⟨kk,g8,_⟩:=hB.way c d8;have:=hB.bnd c d8;omega
          have w4:=ZR (n:=out c+1);have st:=XR (n:=n) out a (out c+1);obtain⟨σ2,EC⟩:∃σ2,σ2=upd Gz 1 (some ⟨(Dw n (put out a (out c+1))).flatMap cI,1,true⟩):=⟨_,rfl⟩;have b5:BZ T σ2 (nx+1) 8 1 (Ak (all.drop p)):=by rw[EC];exact Q_ a8 _
          have b3:σ2 nx=some ⟨Dl ⟨(a:Int),(c:Int)⟩,0,true⟩:=by rw[EC,Zk];exact b0
          obtain⟨g9,c5,f8,g0⟩:=Uy b5 (by omega) (a:Int) (by rw[Zy,zN];omega);rw[Zy,zN]at c5;rw[q1]at c5;refine .inl ⟨_,by simp only[go_sem,t0,t2,t7,O,G,a0,f1,f2,f3,f4,f5,f6,f9,<- XU,b0,b1,b2,q1,q7,z1,z2,z3,p2,p3,p4,p5,c1,ic,b9,ia,c0,c3,a3,ha,hc,v3,v4,v5,la,lc,ll,o1,w4,st,<- EC,b3,c5];rfl,?_⟩;simp only[go_sem,t0,t2,t7,O,G];have g2:p<(all++[a]).length:=by rw[zo];omega
          refine⟨rfl,by omega,all++[a],_,a6,g2,by rw[yG hp];exact eh,?_,?_,fun i hi c4 a' e' S=>?_⟩
          .rw[g0,EC,Zi]
          .have ed:Ak ((all++[a]).drop p)=Ak (all.drop p)++[(a:Int)]:=by
            rw[vV (by omega)];simp[Ak]
           rw[ed];refine g_ (b:=nx+1+1) ?_ f8 (by omega) (by omega);rw[zo,Zy,zN];simp only[go_sem]
          .by_cases Y:i=j
           .subst Y
            rw[ea a' e'];simp
           .exact zB _ (hd i hi (by omega) a' e' S)
       .have c1:((c:Int)==(h:Int))=false:=by rw[sJ];omega
        refine .inl ⟨_,by simp only[go_sem,t0,t2,t7,O,G,a0,f1,f2,f3,f4,f5,f6,f9,<- XU,b0,b1,b2,q1,q7,z1,z2,z3,p2,p3,p4,p5,c1];rfl,?_⟩;simp only[go_sem,t0,t2,t7,O,G];refine⟨rfl,by omega,all,out,hB,hp,eh,b1,gJ a8 (by simp only[go_sem]) (zq _),fun i hi c4 a' e' S=>?_⟩
        by_cases Y:i=j
        .subst Y
         rw[e]at e';simp only[TV.Move.mk.injEq]at e';omega
        .exact hd i hi (by omega) a' e' S) (by
       clear hL;rintro ⟨T,σ,nx⟩ ⟨t0,t2,t7,O,G,a0,a2,all,out,hB,hp,eh,hs,hq,hd⟩;simp only at t0 t2 t7 O G a0 a2 hs hq;refine⟨_,by simp only[go_sem,G,a0,zi];rfl,by simp,_,_,_,rfl,by simp only[go_sem,t0],by simp only[go_sem,t2],by simp only[go_sem,t7],a2,all,out,hB,hp,eh,hs,gJ hq (by simp only[go_sem]) (zq _),fun i hi=>hd i hi hi⟩) (by
       simp only[go_sem,t0,t2,t7];exact⟨a2,all,out,hB,hp,eh,hs,gJ hq (by simp only[go_sem]) (zq _),fun i hi h0=>absurd h0 (zU _)⟩)
     have a6:=c8.next c9 fun i hi g3=>by
      obtain⟨j,hj,ej⟩:=(acN y i E[p]).mp g3;exact b8 j hj i (by rw[ej,d0]) hi
     have h1:=c8.bound (n:=n) fun i hi=>by have:=rG hi;omega
     have b5:=e8;rw[Zz E c9,<- d0]at b5;obtain⟨b',b7,J,r1,r2,r3,r4,r5,r6⟩:=b5;have g4:((h:Int) :: Ak (E.drop (p+1))).length=E.length-p:=by rw[zW,Zy,zN];omega
     rw[g4]at r1 r3;have r7:((J.flatMap cI)).length=J.length:=qM _;have r8:b7+(E.length-p)<=J.length:=by omega
     have r9:1<=E.length-p:=by omega
     have d9:¬(1:Nat)=0:=by decide
     have e0:(0:Int)<=1:=by decide
     have e4:(1:Int).toNat=1:=rfl
     by_cases hl:E.length-p=1
     .rw[hl]at r1 r8
      refine⟨_,by simp only[go_sem,r1,r2,r7,r8,d9,e0,e4,zq];rfl,.inl ⟨_,rfl,m-1,by omega,?_⟩⟩;simp only[go_sem,t0,t2,t7];exact⟨c7,E,p+1,b6,a6,by omega,by omega,d7,.inl (by omega)⟩
     .have S:¬1=E.length-p:=fun e=>hl e.symm
      refine⟨_,by simp only[go_sem,r1,r2,r7,r8,r9,d9,e0,e4,S];rfl,.inl ⟨_,rfl,m-1,by omega,?_⟩⟩;simp only[go_sem,t0,t2,t7];refine⟨c7,E,p+1,b6,a6,by omega,by omega,d7,.inr ⟨by omega,b',b7+1,J,?_,r2,?_,OJ r4,r5,r6⟩⟩
      .simp only[go_sem]
       rw[Zy,zN];congr 1
      .rw[Zy,zN];omega) n (by
    simp only[go_sem];refine⟨by omega,[t],0,_,aeU a7,by simp,by omega,?_,.inr ⟨by simp,?_⟩⟩
    .rw[Zk,Zi]
    .refine g_ (b:=qI) (by simp only[go_sem];rfl) ?_ (by omega) (by omega)
     simp only[go_sem];rfl)
  have f0:=fun d=>fin σ out d hs
  simp only[go_sem,t7,f0,c6]
def del(s:Structure)(k:Nat):Structure:=⟨s.bI,s.members.eraseIdx k⟩
theorem nk{α:Type}(l:List α)(k:Nat):(l.eraseIdx k).length<=l.length:=List.length_eraseIdx_le l k
theorem apB{s:Structure}(h:Ba s)(k:Nat):Ba (del s k) :=
 ⟨h.1,zT (nk _ _) h.2.1,h.2.2.1,fun m hm=>h.2.2.2 m (uV hm)⟩
theorem alR{s:Structure}(h:Ah s)(k:Nat):Ah (del s k) :=
 ⟨h.1,fun m hm=>h.2.1 m (uV hm),zT (zK _ (nk _ _)) h.2.2.1,zT (nk _ _) h.2.2.2⟩
theorem ae4{n k:Nat}{w:List Int}(h:Df n w)(E:k<n):Df (n-1) (w.eraseIdx k) :=
 ⟨by rw[yN (by rw[h.1];exact E),h.1],fun x G=>h.2 x (uV G)⟩
def FH(ms:List Member)(k j:Nat):List Member:=(ms.take j).eraseIdx k
theorem aia{ms:List Member}{k j:Nat}(E:j<ms.length)(h:j≠k):FH ms k (j+1)=FH ms k j++[ms[j]]:=by
 unfold FH;rw[aH E];have G:(ms.take j).length=j:=by rw[zf];omega
 by_cases J:k<j
 .rw[List.eraseIdx_append_of_lt_length (by omega)]
 .have O:[ms[j]].eraseIdx (k - (ms.take j).length)=[ms[j]]:=List.eraseIdx_of_length_le (by rw[G,yU];omega)
  have S:(ms.take j).eraseIdx k=ms.take j:=List.eraseIdx_of_length_le (by omega);rw[List.eraseIdx_append_of_length_le (by omega),O,S]
theorem alS{ms:List Member}{k:Nat}(E:k<ms.length):FH ms k (k+1)=FH ms k k:=by
 unfold FH;have G:(ms.take k).length=k:=by rw[zf];omega
 have J:(ms.take k).eraseIdx k=ms.take k:=List.eraseIdx_of_length_le (by omega);rw[aH E,List.eraseIdx_append_of_length_le (by omega),G,yQ,J];simp
theorem aib(ms:List Member)(k j:Nat):(FH ms k j).length<=j:=by
 unfold FH;have:=nk (ms.take j) k;rw[zf]at this;omega
theorem XV(σ:Store)(d:Nat):∀ {cells:List V},(cells.all ajW)=true->Ep (own σ d) cells=some (cells,[])
 |[],_=>rfl
 |v :: cells,h=>by
  rw[vO,zD]at h;unfold Ep;rw[XV σ d h.2];cases v<;>first|(cases d<;>rfl)|cases h.1
theorem ae5(js:List Dk):((js.flatMap Ag).all ajW)=true:=by
 induction js with
 |nil=>rfl
 |cons j js E=>exact E
theorem XW(js:List Dk):((js.flatMap Ag).all vI)=true:=by
 induction js with
 |nil=>rfl
 |cons j js E=>exact E
theorem alT(js:List Dk)(h:js.length<=1000000)(nx:Nat):∃v E G ids,Hz 4 [LL Ag js] pI nx=some (v,E,G)/\nx<=G/\Own E 1 v (LL Ag js) ids/\∀b∈ids,nx<=b/\b<G:=by
 have J:=Gp js;have e:Hz 4 [LL Ag js] pI nx=if js.length=0 then some (.nil,pI,nx)else some (.rs nx 0 js.length,AA pI nx (js.flatMap Ag) 4,nx+1):=by
  show(if(js.flatMap Ag).length=js.length*4/\js.length<=1000000/\_ then _ else _)=_;rw[sN ⟨J,h,XW js⟩]
 rw[e]
 by_cases O:js.length=0
 .have:js=[]:=zZ O
  subst this;exact⟨.nil,pI,nx,[],rfl,zq _,iK _ _,by simp⟩
 .rw[sO O]
  refine⟨_,_,_,[nx],rfl,by omega,⟨?_,by simp⟩,by simp⟩;have S:=XV (AA pI nx (js.flatMap Ag) 4) 0 (ae5 js);simp only[own,AA,Zi]at S⊢;rw[sN ⟨trivial,trivial,J.symm⟩,S]
theorem XY{σ:Store}{d:Nat}{α:Type}{c:α->List V}{v:V}{xs:List α}{ids:List Nat}(h:Own σ (d+1) v (LL c xs) ids):vI v=true:=by
 obtain⟨h,_⟩:=h;cases v<;>simp only[own]at h<;>first|rfl|(cases h;done)|(split at h<;>simp at h)
theorem kM(s:Structure)(hj:s.bI.length<=1000000)(hm:s.members.length<=1000)(k:Nat)(hk:k<s.members.length)(E:Nat):∃v w σ' nx' JX,ev ZK DK Fp 14 [.agg (iI s),.ts [I k] 1] pI E=some (.agg [v,w],σ',nx')/\E<=nx'/\Own σ' 2 (.agg [v,w]) (.agg (iI (del s k))) JX/\∀b∈JX,E<=b/\b<nx':=by
 obtain⟨v,b3,G,ids,k1,c5,o1,J⟩:=alT s.bI hj (E+1+1);have g1:=fun d=>o1.gather (d':=d+1) (by omega)
 have c1:=XY o1;have c2:=pV c1;obtain⟨TJ,ea⟩:∃TJ,TJ=Di (E+1+1) (upd (upd pI E (some ⟨iI s,0,true⟩)) (E+1) (some ⟨[.nil,.nil],0,true⟩)) b3 ids:=⟨_,rfl⟩;have oa:Own TJ 1 v (LL Ag s.bI) ids:=by rw[ea];exact o1.join fun b hb=>(J b hb).1
 have a0:TJ E=some ⟨iI s,0,true⟩:=by rw[ea,jk (by omega),Zk,Zi]
 have a1:TJ (E+1)=some ⟨[.nil,.nil],0,true⟩:=by rw[ea,jk (by omega),Zi]
 rw[mg [.cell 4 37] [] func14];have n0:¬G=E:=by omega
 have b4:¬E=G:=by omega
 have n2:¬G=E+1:=by omega
 have a9:¬E+1=G:=by omega
 have nb:¬E=E+1:=by omega
 have b5:¬E+1=E:=by omega
 simp only[go_sem,k1,g1,c1,c2,<- ea,a0,a1,n0,b4,n2,a9,nb,b5];generalize hL:jI _ _=y;obtain⟨x,rfl,T,σ,nx,rfl,c6,t4,t5,w,h1,O,o2,hg,hw⟩:=oZ hL s.members.length (fun j st=>st.T 1= .ts [I k] 1/\st.T 4= .rp (E+1) 0/\st.T 5= .rp G 0/\st.T 13=LL Ac s.members/\st.T 14=I s.members.length/\st.T 15=I j/\G<st.nx/\∃w,st.σ (E+1)=some ⟨[.nil,.nil],0,true⟩/\st.σ G=some ⟨[v,w],0,true⟩/\Own st.σ 1 v (LL Ag s.bI) ids/\Ci Ac 3 (fun _=>w) st.σ st.nx 0 (FH s.members k j)/\∀b o l,w= .rs b o l->G<b)
  (fun x=>∃T σ nx,x=(.exit 0,⟨T,σ,nx⟩)/\G<nx/\T 4= .rp (E+1) 0/\T 5= .rp G 0/\∃w,σ (E+1)=some ⟨[.nil,.nil],0,true⟩/\σ G=some ⟨[v,w],0,true⟩/\Own σ 1 v (LL Ag s.bI) ids/\Ci Ac 3 (fun _=>w) σ nx 0 (FH s.members k s.members.length)/\∀b o l,w= .rs b o l->G<b) (by
   clear hL;rintro j ⟨T,σ,nx⟩ hj ⟨t1,t4,t5,Y,S,a5,a6,w,h1,O,o2,hg,hw⟩;simp only at t1 t4 t5 Y S a5 a6 h1 O o2 hg;have f1:(j:Int)<(s.members.length:Int):=by omega
   have f2:=jC j;have f3:=ZR (n:=(j:Int)+1);have f4:=Nl s.members j hj;have f5:=GR s.members;have f6:j*3+3<=s.members.length*3:=by omega
   have f9:=Np s.members j hj;have k2:=aoJ [(k:Int)] (j:Int) (by simp);have hle:=aib s.members k j;have z1:¬G=nx:=by omega
   have z2:¬nx=G:=by omega
   have z3:¬E+1=nx:=by omega
   have o3:=fun x=>(Own.upd (σ:=σ) (d:=1) (v:=v) (t:=LL Ag s.bI) (ids:=ids) (c:=nx) (x:=x) (fun hb=>by have:=(J nx hb).2;omega)).symm ▸ o2
   obtain⟨m1,em⟩:∃m1,m1=s.members[j]:=⟨_,rfl⟩;rw[<- em]at f4
   by_cases a7:j=k
   .have km:decide ((j:Int)∈[(k:Int)])=true:=by rw[a7];simp
    rw[km]at k2;have a8:fn ZK conv ext 35 [.ts [I k] 1,I j]=some (Bo true):=k2
    refine .inl ⟨_,by simp only[go_sem,t1,t4,t5,Y,S,a5,f1,f2,f3,f4,f5,f6,f9,hj,a8];rfl,?_⟩;simp only[go_sem,t1,t4,t5,Y,S,z1,z2,z3,h1,O];have ek:FH s.members k (j+1)=FH s.members k j:=by subst a7;exact alS hj
    rw[ek];exact⟨rfl,by omega,w,rfl,o3 _,kX hg _,hw⟩
   .have km:decide ((j:Int)∈[(k:Int)])=false:=by simp;omega
    rw[km]at k2;have a8:fn ZK conv ext 35 [.ts [I k] 1,I j]=some (Bo false):=k2
    have b6:=kX hg (some ⟨Ac m1,0,true⟩);obtain⟨σ',ha,hs,b7⟩:=kW (c:=Ac) (s:=3) (bytes:=24) (fun _=>rfl) (fun _=>rfl) (by decide) b6 m1 (by omega) (by decide);have y1:∀q,q<nx->(∀b o l,w= .rs b o l->q≠b)->σ' q=σ q:=fun q hq b8=>by
     rw[b7 q (by omega) (fun b o l h=>b8 b o l h),Zk]
    have y2:σ' G=some ⟨[v,w],0,true⟩:=by rw[y1 G a6 (fun b o l h e=>by have:=hw b o l h;omega)];exact O
    have y3:σ' (E+1)=some ⟨[.nil,.nil],0,true⟩:=by rw[y1 (E+1) (by omega) (fun b o l h e=>by have:=hw b o l h;omega)];exact h1
    have o4:Own σ' 1 v (LL Ag s.bI) ids:=o2.frame fun q hq=>y1 q (by have:=(J q hq).2;omega) (fun b o l h e=>by have:=hw b o l h;have:=(J q hq).2;omega)
    refine .inl ⟨_,by simp only[go_sem,t1,t4,t5,Y,S,a5,f1,f2,f3,f4,f5,f6,f9,hj,a8,z1,z2,z3,O,ha,y2];rfl,?_⟩;simp only[go_sem,t1,t4,t5,Y,S];rw[aia hj a7,<- em];refine⟨rfl,by omega,_,?_,rfl,?_,?_,?_⟩
    .rw[Zk];exact y3
    .exact(Own.upd (fun hb=>by have:=(J G hb).2;omega)).symm ▸ o4
    .refine .inr ⟨nx+1+1,by rw[zo];rfl,by simp,?_,by omega⟩
     rw[Zk];exact hs
    .intro b o l hb
     cases hb;omega) (by
   clear hL;rintro ⟨T,σ,nx⟩ ⟨t1,t4,t5,Y,S,a5,a6,w,h1,O,o2,hg,hw⟩;simp only at t1 t4 t5 Y S a5 a6 h1 O o2 hg;exact⟨_,by simp only[go_sem,S,a5,zi];rfl,by simp,_,_,_,rfl,a6,by simp only[go_sem,t4],by simp only[go_sem,t5],w,h1,O,o2,hg,hw⟩) (by
   simp only[go_sem,n2,a9,a1];exact⟨by omega,_,rfl,(Own.upd (c:=G) (fun hb=>by have:=(J _ hb).2;omega)).symm ▸ oa,.inl ⟨rfl,rfl⟩,fun b o l h=>by cases h⟩)
 have ek:FH s.members k s.members.length=(del s k).members:=by
  unfold FH del;rw[yX]
 rw[ek]at hg;have z3:¬E+1=G:=by omega
 have cw:vI w=true:=by
  rcases hg with ⟨a,_⟩|⟨b,a,_⟩
  .have a:w= .nil:=a
   rw[a];rfl
  .have a:w= .rs b 0 _:=a
   rw[a];rfl
 have ow:∃is,Ep (own (upd σ (E+1) (some ⟨[v,w],0,true⟩)) 1) [w]=some ([LL Ac (del s k).members],is)/\is.Nodup/\∀q∈is,G<q/\q<nx:=by
  rcases hg with ⟨a,b⟩|⟨b,a1,a2,a3,a4⟩
  .have a:w= .nil:=a
   rw[a,b];exact⟨[],rfl,by simp,by simp⟩
  .have a1:w= .rs b 0 _:=a1
   have hb:=hw _ _ _ a1;subst a1;have h2:=agI (d:=0) (σ:=upd σ (E+1) (some ⟨[v,.rs b 0 (del s k).members.length],0,true⟩)) (b:=b) (s:=3) (c:=Ac) (xs:=(del s k).members) (by rw[Zk];exact a3) (fun _=>rfl) aek;exact⟨[b],by simp only[Ep,h2];rfl,by simp,fun q hq=>by rw[List.mem_singleton.mp hq];exact⟨hb,a4⟩⟩
 obtain⟨is,b9,c0,b2⟩:=ow;have c3:own (upd σ (E+1) (some ⟨[v,w],0,true⟩)) 1 v=some (LL Ag s.bI,ids):=by
  have:=((Own.upd (σ:=σ) (d:=1) (v:=v) (t:=LL Ag s.bI) (ids:=ids) (c:=E+1) (x:=some ⟨[v,w],0,true⟩) (fun hb=>by have:=(J (E+1) hb).1;omega)).symm ▸ o2);exact this.1
 have hO:Own (upd σ (E+1) (some ⟨[v,w],0,true⟩)) 2 (.agg [v,w]) (.agg (iI (del s k))) (ids++is):=by
  refine⟨?_,?_⟩
  .unfold own
   have c4:Ep (own (upd σ (E+1) (some ⟨[v,w],0,true⟩)) 1) [v,w]=some ([LL Ag s.bI,LL Ac (del s k).members],ids++is):=by
    unfold Ep;rw[c3,b9]
   simp only[c4];rfl
  .rw[List.nodup_append]
   exact⟨o2.2,c0,fun a ha b hb e=>by have h1:=(J a ha).2;have h2:=(b2 b hb).1;omega⟩
 simp only[go_sem,t4,t5,h1,O,z3,c1,cw];exact⟨v,w,_,nx,ids++is,rfl,by omega,hO,fun q hq=>by
  rcases List.mem_append.mp hq with h|h
  .have:=J q h;omega
  .have:=b2 q h;omega⟩
theorem jL(xs:List Int):xs.flatMap cI=xs.map I:=by
 induction xs with
 |nil=>rfl
 |cons x xs E=>show I x :: xs.flatMap cI=_;rw[E];rfl
theorem XZ(xs:List Int)(k:Nat):(xs.flatMap cI).eraseIdx k=(xs.eraseIdx k).flatMap cI:=by rw[jL,jL,jK]
theorem ae6{σ:Store}{b:Nat}{xs:List Int}{ex:List V}{n:Nat}(h:σ b=some ⟨xs.flatMap cI++ex,1,true⟩)(hn:xs.length=n)(d:Nat):strip σ (d+1) (.rs b 0 n)=some (LI xs,[b]):=by
 rw[aQ,h];simp only[zk,yO,yY,yZ];rw[sN (by rw[zo,qM];omega),wP (by rw[qM,hn]),Dn];show some (V.ts _ n,[b])=_;rw[<- hn]
theorem X3{P:Program}{σ:Store}{t:TypeId}{b off len:Nat}{lo hi E:V}(h:(Ae P t).slice=true)(G:(Ae P t).Si=true):AX P t (.rs b off len) (some lo) (some hi) (some E) σ=(bnd (some lo) 0).bind fun l=>(bnd (some hi) 0).bind fun h=>(bnd (some E) 0).bind fun m=>if l<=h/\h<=m/\m<=len then some .junk else none:=by
 obtain⟨e,Y,z,J,O,h3,h4,S,h6,h7⟩:=Zm h G;unfold AX;simp only[J,O,S];cases bnd (some lo) 0<;>cases bnd (some hi) 0<;>cases bnd (some E) 0<;>rfl
attribute [go_sem] X3
theorem alU{σ:Store}{nx b:Nat}{w:List Int}{n k:Nat}(hb:σ b=some ⟨w.flatMap cI,1,true⟩)(J:b<nx)(hw:w.length=n)(hn:n<=1000)(hk:k<n) :
  ∃σ',ev ZK DK Fp 79 [.rs b 0 n,I k,I ((k:Int)+1)] σ nx=some (.rs b 0 (n-1),σ',nx)/\(∃ex,σ' b=some ⟨(w.eraseIdx k).flatMap cI++ex,1,true⟩)/\∀c,c≠b->σ' c=σ c:=by
 have G:(w.flatMap cI).length=n:=by rw[qM,hw]
 have e1:((k:Int)==(k:Int)+1)=false:=by rw[sJ];omega
 have i0:=jC k;have i1:(0:Int)<=(k:Int)+1:=by omega
 have i2:((k:Int)+1).toNat=k+1:=by omega
 have i3:k<=k+1:=by omega
 have i4:k+1<=n:=hk;have i5:¬k+1=0:=by omega
 have i6:k<=n:=by omega
 have i7:=jC n;rw[mg [.tmp 6] [5] func79];have O:¬n=0:=by omega
 have z1:∀(c:Nat) (x:Option Fj),c≠b->upd σ b x c=σ c:=fun c x h=>Zj _ _ h
 by_cases E:k+1=n
 .have m1:n-1=k:=by omega
  have m3:n-k=1:=by omega
  have a0:¬k=n:=by omega
  have ha:=Xq (restrict σ [b]) nx 1 8 b 0 k [] (B:=⟨w.flatMap cI,1,true⟩) (by rw[fG];exact hb);have le:∃ex,patch (w.flatMap cI) k [I 0]=(w.eraseIdx k).flatMap cI++ex:=by
   rw[iF _ _ _ (by rw[G];simp;omega),<- XZ,uf,xk (l:=w.flatMap cI) (i:=k+1) (by omega),zC,yh];exact⟨_,rfl⟩
  by_cases S:k=0
  .have a1:(k=0)=True:=eq_true S
   have hr:rep n [I 0]=[I 0]:=by
    have:n=1:=by omega
    rw[this];rfl
   have a3:0+n<=n:=by omega
   simp only[go_sem,hb,G,J,e1,i0,i1,i2,i3,i4,i5,i6,i7,E,a0,ha,O,a1,zA,zq,Gg,m1,hr,a3];exact⟨_,rfl,by rw[Zi];obtain⟨ex,e⟩:=le;exact⟨ex,by rw[<- e,S,iD]⟩,fun c hc=>Zj _ _ hc⟩
  .simp only[go_sem,hb,G,J,e1,i0,i1,i2,i3,i4,i5,i6,i7,E,a0,ha,O,S,m3,zA,zq,Gg,m1]
   exact⟨_,rfl,by rw[Zi];obtain⟨ex,e⟩:=le;exact⟨ex,by rw[<- e];rfl⟩,fun c hc=>Zj _ _ hc⟩
 .have m1:¬n - (k+1)=0:=by omega
  have m2:((w.flatMap cI).drop (k+1)).take (n - (k+1))=(w.flatMap cI).drop (k+1):=zl (by rw[zN,G];omega);have i8:k+1+(n - (k+1))<=n:=by omega
  have rl:((w.flatMap cI).drop (k+1)).length=n - (k+1):=by rw[zN,G]
  have Y:((w.flatMap cI).drop (k+1)).all vI=true:=by
   rw[jL,<- List.map_drop,<- jL];exact qN _
  obtain⟨Pc,hP⟩:∃Pc,Pc=patch (w.flatMap cI) k ((w.flatMap cI).drop (k+1)):=⟨_,rfl⟩;have a2:Pc.length=n:=by
   rw[hP,iF _ _ _ (by rw[rl,G];omega)];simp only[zo,zf,zN,G];omega
  obtain⟨a6,a4⟩:∃ex,Pc=(w.eraseIdx k).flatMap cI++ex:=by
   obtain⟨ex,e⟩:=iE (w.flatMap cI) [] (i:=k) (m:=n) G hk m1;rw[zC]at e;exact⟨ex,by rw[hP,e,XZ]⟩
  have ha:=aoO (σ:=restrict σ [b,b]) (nx:=nx) (bytes:=8) (b:=b) (len:=k) (m:=n - (k+1)) (row:=(w.flatMap cI).drop (k+1)) (cells:=w.flatMap cI) (by rw[fE];exact hb) m1 (by rw[G];omega) Y;rw[<- hP]at ha;have m5:k+(n - (k+1))=n-1:=by omega
  rw[m5]at ha;have j1:((n-1:Nat):Int).toNat=n-1:=zA _;have j2:(0:Int)<=((n-1:Nat):Int):=by omega
  have j3:n-1<=n:=by omega
  have j4:¬n-1=0:=by omega
  have j5:¬n-1=n:=by omega
  have j6:n - (n-1)=1:=by omega
  have j7:n-1+1<=n:=by omega
  have le:∃ex,patch Pc (n-1) [I 0]=(w.eraseIdx k).flatMap cI++ex:=by
   have a5:((w.eraseIdx k).flatMap cI).length=n-1:=by rw[qM,yN (by omega),hw]
   rw[iF _ _ _ (by rw[a2];simp;omega),a4,wP a5,yh];exact⟨_,rfl⟩
  simp only[go_sem,hb,G,J,e1,i0,i1,i2,i3,i4,i5,i6,i7,i8,E,m1,m2,ha,O,zA,zq,j1,j2,j3,j4,j5,j6,j7,a2,Gg];exact⟨_,rfl,by rw[Zi];obtain⟨ex,e⟩:=le;exact⟨ex,by rw[<- e];rfl⟩,fun c hc=>Zj _ _ hc⟩
def Fe(s:Structure)(l w:List Int):Prop:=fn ZK wI Am 13 [.agg (iI s),LI l,LI w]=some (Bo true)
theorem OM{s:Structure}(h:Ba s)(E:Ah s){l w:List Int}(G:AL s.bI.length l)(hw:Df s.members.length w) :
  fn ZK wI Am 13 [.agg (iI s),LI l,LI w]=some (Bo (pb (Fe s l w))):=by
 obtain⟨b,r,k,_⟩:=alL h E G hw;rw[k];cases b with
 |true=>
  have:Fe s l w:=k;rw[gy this]
 |false=>
  have:¬Fe s l w:=fun e=>by unfold Fe at e;rw[k]at e;cases e
  rw[h_ this]
noncomputable def upto(s:Structure)(l w:List Int)(n:Nat):Bool:=(List.range n).all fun k=>pb (Fe (del s k) l (w.eraseIdx k))
theorem upto_succ(s:Structure)(l w:List Int)(n:Nat):upto s l w (n+1)=(upto s l w n && pb (Fe (del s n) l (w.eraseIdx n))):=by simp[upto,wK]
theorem abm{s:Structure}{l w:List Int}{k n:Nat}(E:k<n)(h:pb (Fe (del s k) l (w.eraseIdx k))=false):upto s l w n=false:=by
 unfold upto;rw[List.all_eq_false];exact⟨k,by simpa using E,by rw[h];simp⟩
noncomputable def I7(s:Structure)(l w:List Int):Bool:=pb (Fe s l w) && upto s l w s.members.length
theorem alV(w:List Int)(hw:w.length<=1000)(E:w.length≠0)(nx:Nat):FN [LI w] pI nx=some (.rs nx 0 w.length,AA pI nx (w.flatMap cI) 1,nx+1):=by
 show(if(w.flatMap cI).length=w.length/\w.length<=17592186044000/\(w.flatMap cI).all vI=true then _ else none)=_;rw[sN ⟨qM w,by omega,qN w⟩,sO E]
theorem X4{s:Structure}(h:Ba s)(ho:Ah s){l w:List Int}(hl:AL s.bI.length l)(hw:Df s.members.length w) :
  fn ZK DK Fp 44 [.agg (iI s),LI l,LI w]=some (Bo (I7 s l w)):=by
 have k1:=OM h ho hl hw;have a8:=h.2.1;have Yq:=h.1;have a0:=hw.1;unfold I7;rw[m_,mg [.tmp 6] [] func44];cases hs:pb (Fe s l w)with
 |false=>
  rw[hs]at k1;simp only[go_sem,k1]
 |true=>
  rw[hs]at k1;simp only[go_sem,k1];generalize hL:jI _ _=y;obtain⟨x,rfl,hx⟩:=oZ hL s.members.length (fun j st=>st.T 1=LI l/\st.T 2=LI w/\st.T 3= .rp 0 0/\st.T 15=I s.members.length/\st.T 16=I j/\0<st.nx/\st.σ 0=some ⟨iI s,0,true⟩/\upto s l w j=true)
   (fun x=>∃T σ nx,(x=(.exit 0,⟨T,σ,nx⟩)/\upto s l w s.members.length=true)\/(x=(.ret,⟨T,σ,nx⟩)/\T 6=Bo false/\upto s l w s.members.length=false)) (by
    clear hL;rintro j ⟨T,σ,nx⟩ hj ⟨t1,t2,t3,E,G,a2,J,hu⟩;simp only at t1 t2 t3 E G a2 J;have f1:(j:Int)<(s.members.length:Int):=by omega
    have f2:=jC j;have f3:=ZR (n:=(j:Int)+1);obtain⟨v,v2,a5,O,JX,k2,a9,hO,a3⟩:=kM s (by omega) (by omega) j hj (nx+1);have k3:=alV w (by omega) (by omega) O;rw[a0]at k3;obtain⟨S,eS⟩:∃S,S=del s j:=⟨_,rfl⟩;rw[<- eS]at hO;have gO:=fun d=>hO.gather (d':=d+2) (by omega)
    have hlen:(w.eraseIdx j).length=s.members.length-1:=by rw[yN (by omega),a0]
    have a6:S.bI=s.bI:=by rw[eS];rfl
    have a7:S.members.length=s.members.length-1:=by
     rw[eS];unfold del;exact yN hj
    have k5:=OM (s:=S) (l:=l) (w:=w.eraseIdx j) (by rw[eS];exact apB h j) (by rw[eS];exact alR ho j) (by rw[a6];exact hl) (by rw[a7];exact ae4 hw hj);have oc:Own (AA pI O (w.flatMap cI) 1) 1 (.rs O 0 s.members.length) (LI w) [O]:=by
     have:=JH (σ:=AA pI O (w.flatMap cI) 1) (d:=0) (b:=O) (st:=1) (xs:=w) (by unfold AA;rw[Zi]) (by omega)
     rwa [a0]at this
    have gc:=fun d=>oc.gather (d':=d+1) (by omega)
    unfold AA at k3 gc;obtain⟨Y,e1⟩:∃Y,Y=Di (nx+1) (upd σ nx (some ⟨[I j],1,true⟩)) a5 JX:=⟨_,rfl⟩;have b1:Y 0=some ⟨iI s,0,true⟩:=by rw[e1,jk (by omega),Zk];exact J
    have o1:Own Y 2 (.agg [v,v2]) (.agg (iI S)) JX:=hO.frame fun q hq=>by
     have:=a3 q hq;rw[e1,jm (by omega) hq]
    obtain⟨σ2,e2⟩:∃σ2,σ2=Di O Y (upd pI O (some ⟨w.flatMap cI,1,true⟩)) [O]:=⟨_,rfl⟩;have b2:σ2 0=some ⟨iI s,0,true⟩:=by rw[e2,jk (by omega)];exact b1
    have b3:σ2 O=some ⟨w.flatMap cI,1,true⟩:=by rw[e2,jm (by omega) (by simp),Zi]
    have o2:Own σ2 2 (.agg [v,v2]) (.agg (iI S)) JX:=o1.frame fun q hq=>by
     have:=a3 q hq;rw[e2,jk (by omega)]
    obtain⟨a4,k4,⟨ex,b4⟩,b5⟩:=alU (nx:=O+1) (k:=j) b3 (by omega) a0 (by omega) hj;have b6:a4 0=some ⟨iI s,0,true⟩:=by rw[b5 0 (by omega)];exact b2
    have st:=fun d=>ae6 b4 hlen d
    have o3:Own a4 2 (.agg [v,v2]) (.agg (iI S)) JX:=o2.frame fun q hq=>by
     have:=a3 q hq;rw[b5 q (by omega)]
    have so:=fun d=>o3.strip (d':=d+2) (by omega)
    have f4:=ZR (n:=(j:Int)+1);have us:=upto_succ s l w j;rw[<- eS]at us;cases a1:pb (Fe S l (w.eraseIdx j))with
    |true=>
     rw[a1]at k5 us;refine .inl ⟨_,by simp only[go_sem,qC,t1,t2,t3,E,G,J,f1,f2,f3,k2,gO,<- e1,k3,gc,<- e2,k4,st,so,k5,b6];rfl,?_⟩;simp only[go_sem,t1,t2,t3,E,b6];exact⟨rfl,by omega,by rw[us,hu];rfl⟩
    |false=>
     rw[a1]at k5;refine .inr ⟨_,by simp only[go_sem,qC,t1,t2,t3,E,G,J,f1,f2,f3,k2,gO,<- e1,k3,gc,<- e2,k4,st,so,k5,b6];rfl,by simp,_,_,_,.inr ⟨rfl,by simp only[go_sem],?_⟩⟩;rw[eS]at a1;exact abm hj a1) (by
    rintro ⟨T,σ,nx⟩ ⟨t1,t2,t3,E,G,a2,J,hu⟩;simp only at t1 t2 t3 E G a2 J;exact⟨_,by simp only[go_sem,E,G,zi];rfl,by simp,_,_,_,.inl ⟨rfl,hu⟩⟩) (by
    simp only[go_sem];rfl)
  obtain⟨T,σ,nx,⟨rfl,hu⟩|⟨rfl,t6,hu⟩⟩:=hx
  .rw[hu]
   simp only[go_sem]
  .rw[hu]
   simp only[go_sem,t6]
noncomputable def KI(t:Dp)(strict:Bool):Bool:=DT t && (if strict=true then I7 t.st t.load t.limits else pb (Fe t.st t.load t.limits))
theorem I8{t:Dp}(h:DT t=true):Ba t.st/\AL t.st.bI.length t.load/\Df t.st.members.length t.limits:=by
 unfold DT at h;simp only[zD]at h;exact⟨ig h.2.1.1,ig h.2.1.2,ig h.2.2⟩
theorem X5(t:Dp)(G:Io t)(strict:Bool):fn ZK DK Fp 19 [.agg (Au t),Bo strict]=some (Bo (KI t strict)):=by
 have E:=Qj t G;unfold KI;rw[m_,mg [.tmp 4] [] func19];cases hs:DT t with
 |false=>
  rw[hs]at E;simp only[go_sem,E]
 |true=>
  rw[hs]at E;obtain⟨J,O,S⟩:=I8 hs;have Y:=X4 J G.2.1 O S;have k3:=OM J G.2.1 O S;cases strict with
  |true=>simp only[go_sem,E,Y]
  |false=>simp only[go_sem,E,k3]
theorem alX{α:Type}{xs:List α}{n k:Nat}(d:α)(E:k<xs.length)(hn:xs.length=n):(xs.take k++List.replicate (n-k) d).set k xs[k]=xs.take (k+1)++List.replicate (n - (k+1)) d:=by
 have G:(xs.take k).length=k:=by rw[zf];omega
 rw[xH _ _ (by omega),G,yQ,show n-k=n - (k+1)+1 by omega,xX,um,aH E,yh];rfl
theorem Rf(n:Nat):rep n [Bo false]=(List.replicate n false).flatMap Es:=Qw n
noncomputable def Ar(y:Cm):List Bool:=y.aI.map fun t=>KI t y.strict
theorem dG(y:Cm):(Ar y).length=y.aI.length:=by simp[Ar]
theorem X6{σ:Store}{b:Nat}{xs:List Bool}(h:σ b=some ⟨xs.flatMap Es,1,true⟩){n:Nat}(hn:xs.length=n)(d:Nat):strip σ (d+1) (.rs b 0 n)=some (LL Es xs,[b]):=by
 have E:(xs.flatMap Es).length=xs.length:=by rw[IB,yO]
 rw[aQ,h];simp only[zk,yO,yY,yZ,E];rw[sN (by omega),zl (by omega),aW (fun x=>by rw[ak,aP,aX];rfl)];show some (V.ts _ n,[b])=_;rw[<- hn]
theorem aic(y:Cm)(ho:GN y)(Ol:y.aI.length<=6):fn ZK DK Fp 27 [.tp (AQ y) 0]=some (LL Es (Ar y)):=by
 obtain⟨n,en⟩:∃n,n=y.aI.length:=⟨_,rfl⟩;have e1:1*(n:Int)<=281474976710656:=by omega
 have e2:(n:Int)<=9223372036854775807:=by omega
 have e3:=jC n;have a6:=dG y;rw[m_,mg [.tmp 2] [5] func27];simp only[go_sem,<- en,e1,e2,e3,xJ];generalize hL:jI _ _=z;obtain⟨r,rfl,T',σ',nx',rfl,O,hs⟩:=oZ hL n (fun k s=>1<=s.nx/\s.T 0= .tp (AQ y) 0/\s.T 3= .rs 0 0 n/\s.T 15=LL Au y.aI/\s.T 16=I n/\s.T 17=I k/\s.σ 0=some ⟨((Ar y).take k++List.replicate (n-k) false).flatMap Es,1,true⟩)
  (fun r=>∃T σ nx',r=(.exit 0,⟨T,σ,nx'⟩)/\T 3= .rs 0 0 n/\σ 0=some ⟨(Ar y).flatMap Es,1,true⟩) (by
   clear hL;rintro k ⟨T,σ,m⟩ hk ⟨hm,Y,O,G,E,J,hs⟩;simp only at hm Y O G E J hs;have S:k<y.aI.length:=by omega
   have a0:k<(Ar y).length:=by omega
   have f1:(k:Int)<(n:Int):=by omega
   have f2:=jC k;have f3:=ZR (n:=(k:Int)+1);have f4:=aj0 y.aI k S;have f5:=abQ y.aI;rw[<- en]at f5;have f6:k*5+5<=n*5:=by omega
   have f9:=aj1 y.aI k S;have f7:(((Ar y).take k++List.replicate (n-k) false).flatMap Es).length=n:=by
    rw[IB,yO,zo,zf,yT];omega
   have k1:=X5 y.aI[k] (ho.1.1 _ (zu S)) y.strict;have es:(Ar y)[k]=KI y.aI[k] y.strict:=by simp[Ar]
   have f8:=Tm ((Ar y).take k++List.replicate (n-k) false) k (Ar y)[k];rw[alX false a0 (by omega),es]at f8;have nz:¬0=m:=by omega
   have a1:¬m=0:=by omega
   have a2:k<n:=hk;have a3:0<m+1:=by omega
   have a4:m<m+1:=by omega
   obtain⟨t,et⟩:∃t,t=y.aI[k]:=⟨_,rfl⟩;rw[<- et]at f4 k1 f8;obtain⟨sb,eb⟩:∃sb,sb=KI t y.strict:=⟨_,rfl⟩;rw[<- eb]at k1 f8;refine .inl ⟨_,by simp only[go_sem,<- en,Y,O,G,E,J,hs,f1,f2,f3,f4,f5,f6,f7,f8,f9,a2,a3,a4,k1,nz,a1];rfl,?_⟩;simp only[go_sem,Y,O,G,E];rfl) (by
   clear hL;rintro ⟨T,σ,m⟩ ⟨hm,Y,O,G,E,J,hs⟩;simp only at hm Y O G E J hs;rw[zl (by omega),yQ,List.replicate_zero,zC]at hs;exact⟨_,by simp only[go_sem,E,J,zi];rfl,by simp,_,_,_,rfl,by simp only[go_sem,O],hs⟩) (by
   simp only[go_sem];rw[<- Rf])
 have a5:=fun d=>X6 hs (n:=n) (by omega) d
 simp only[go_sem,O,a5]
theorem aie(y:Cm)(E:AZ y)(i:Int):fn ZK DK Fp 28 [.tp (AQ y) 0,I i]=some (LI (F8 (DU y.moves i) y.aI.length)):=by
 obtain⟨v,G,O,ids,k,_,J,_⟩:=aeo y E i 0;rw[apc,m_,k];simp only[go_sem,J.strip (d':=7) (by omega)]
def nexts(y:Cm)(a:Nat):List Nat:=(List.range y.aI.length).filter (DY y a)
theorem Ri(y:Cm)(a:Nat):F8 (DU y.moves (a:Int)) y.aI.length=Ak (nexts y a):=rfl
theorem abn(l:List Nat){j:Nat}(h:j<l.length):(Ak l)[j]'(by rw[Zy];exact h)=(l[j]:Int):=by simp[Ak]
theorem Rj(l:List Nat){j:Nat}(h:j<l.length):((Ak l).flatMap cI)[j]?=some (I (l[j]:Int)):=by
 rw[idx (xs:=Ak l) (k:=j) (by rw[Zy];exact h),abn l h]
theorem acO{α:Type}{p:α->Bool}:∀ {l:List α} {j:Nat} (h:j<l.length),(∀i (hi:i<l.length),i<j->p l[i]=false)->p l[j]=true->l.find? p=some l[j]
 |[],_,h,_,_=>absurd h (zU _)
 |x :: l,0,_,_,h=>by
  have h:p x=true:=h;simp[List.find?_cons,h]
 |x :: l,j+1,hj,hlo,h=>by
  have E:p x=false:=hlo 0 (by simp) (by omega);have:=acO (l:=l) (j:=j) (by rw[zW]at hj;omega) (fun i hi G=>hlo (i+1) (by rw[zW];omega) (by omega)) h;simp only[List.find?_cons,E];exact this
theorem apC{y:Cm}{out:Nat->Int}{a j:Nat}(h:j<(nexts y a).length)(E:∀i (hi:i<(nexts y a).length),i<j->(out (nexts y a)[i]==out a-1)=false)(G:(out (nexts y a)[j]==out a-1)=true):Jg (DY y) out y.aI.length a=(nexts y a)[j]:=by
 have J:=acO (p:=fun i=>out i==out a-1) h E G;unfold Jg;have O:(List.range y.aI.length).find? (fun i=>DY y a i && (out i==out a-1))=(nexts y a).find? (fun i=>out i==out a-1):=by
  unfold nexts;rw[List.find?_filter];congr 1;funext i;generalize DY y a i=b1;generalize (out i==out a-1)=b2;cases b1<;>cases b2<;>rfl
 rw[O,J];rfl
theorem X7{y:Cm}{a j:Nat}(h:j<(nexts y a).length):(nexts y a)[j]<y.aI.length:=by
 have:=zu h;exact List.mem_range.mp (List.mem_filter.mp this).1
theorem X8(y:Cm)(a:Nat):(nexts y a).length<=y.aI.length:=by
 unfold nexts;exact zT (List.length_filter_le _ _) (by simp)
theorem abo{y:Cm}{al:List Bool}(G:al.length=y.aI.length){to a:Nat}(h:0<dst (DY y) (DV al) to a):∃j,∃E:j<(nexts y a).length,(dst (DY y) (DV al) to (nexts y a)[j]==dst (DY y) (DV al) to a-1)=true:=by
 obtain⟨J,O,S⟩:=aa6 (mv:=DY y) (al:=DV al) (n:=y.aI.length) (to:=to) (a:=a) (fun i hi=>by have:=rG hi;omega) h;have hm:Jg (DY y) (dst (DY y) (DV al) to) y.aI.length a∈nexts y a:=by
  unfold nexts;rw[List.mem_filter];exact⟨by simpa using J,O⟩
 obtain⟨j,E,e⟩:=yc hm;exact⟨j,E,by rw[e,S];simp⟩
noncomputable def Cj(y:Cm)(fr to:Int):Bool:=pb (AZ y) && (decide (0<=fr) && decide (fr<(y.aI.length:Int)) && decide (0<=PW y (Ar y) to fr.toNat))
noncomputable def Ea(y:Cm)(fr to:Int):List Int:=if Cj y fr to=true then Ak (plan (DY y) (PW y (Ar y) to) y.aI.length fr.toNat)else []
theorem Uz{y:Cm}{al:List Bool}{to:Int}{i:Nat}(h:0<=PW y al to i):(0<=to/\to<(y.aI.length:Int))/\PW y al to=dst (DY y) (DV al) to.toNat:=by
 by_cases c:0<=to/\to<(y.aI.length:Int)
 .exact⟨c,funext fun i=>by unfold PW;rw[sN c]⟩
 .unfold PW at h
  rw[sO c]at h;omega
theorem JY{σ:Store}{b:Nat}{cells:List V}{st:Nat}{wr:Bool}(h:σ b=some ⟨cells,st,wr⟩)(t:V):behind σ [b] t=upd σ b (some ⟨cells,st,wr && flat depth t⟩):=by
 unfold behind;cases E:flat depth t with
 |true=>
  simp only[uJ,List.isEmpty_cons,Bool.false_or,if_true];funext i
  by_cases e:i=b
  .subst e;rw[Zi,h]
  .rw[Zj _ _ e]
 |false=>
  simp only[List.isEmpty_cons,Bool.or_self,xu,if_false,wS];unfold DF DF;rw[h];rfl
theorem abp{T:Nat->V}{σ σ':Store}{nx t:Nat}{acc:List Int}(J:Grow T σ nx t acc)(h:∀b o l,T t= .rs b o l->σ' b=σ b):Grow T σ' nx t acc:=by
 rcases J with ⟨E,G⟩|⟨b,E,G,O,S⟩
 .exact .inl ⟨E,G⟩
 .exact .inr ⟨b,E,G,by rw[h _ _ _ E];exact O,S⟩
def FI(y:Cm)(out:Nat->Int)(a k:Nat):List Int:=Ak ((List.range (k+1)).map (XC (DY y) out y.aI.length a))
theorem ae7(y:Cm)(out:Nat->Int)(a k:Nat):(FI y out a k).length=k+1:=by simp[FI,Ak]
theorem abq(y:Cm)(out:Nat->Int)(a k:Nat):FI y out a (k+1)=FI y out a k++[((XC (DY y) out y.aI.length a (k+1):Nat):Int)]:=by
 unfold FI Ak;rw[wK];simp
theorem ae8(y:Cm)(ho:GN y)(fr to:Int)(nx:Nat):∃v b4 qI ids,ev ZK DK Fp 7 [.agg (AQ y),I fr,I to] pI nx=some (.Bf [v,Bo (Cj y fr to)],b4,qI)/\nx<=qI/\Own b4 1 v (LI (Ea y fr to)) ids/\∀b∈ids,nx<=b/\b<qI:=by
 obtain⟨n,en⟩:∃n,n=y.aI.length:=⟨_,rfl⟩;have k1:=LD y ho;have a3:∀ok,ok=Cj y fr to->ok=false->Ea y fr to=[]:=fun ok e h=>by unfold Ea;rw[<- e,h,sO (by simp)]
 rw[mg [.tmp 6,.tmp 7] [] func7];cases hg:pb (AZ y)with
 |false=>
  have e:Cj y fr to=false:=by unfold Cj;rw[hg,uo]
  rw[hg]at k1;rw[e,a3 _ e.symm rfl];simp only[go_sem,k1];exact⟨_,_,_,[],rfl,by omega,iK _ _,by simp⟩
 |true=>
  rw[hg]at k1;have hG:=ig hg
  by_cases c1:fr<0
  .have e:Cj y fr to=false:=by unfold Cj;rw[hg,sG (p:=0<=fr) (by omega)];rfl
   rw[e,a3 _ e.symm rfl];simp only[go_sem,k1,c1];exact⟨_,_,_,[],rfl,by omega,iK _ _,by simp⟩
  by_cases c2:(y.aI.length:Int)<=fr
  .have e:Cj y fr to=false:=by unfold Cj;rw[hg,sG (p:=fr<_) (by omega),wS];rfl
   rw[e,a3 _ e.symm rfl];simp only[go_sem,k1,c1,c2];exact⟨_,_,_,[],rfl,by omega,iK _ _,by simp⟩
  obtain⟨E,rfl⟩:∃a:Nat,fr=(a:Int):=⟨fr.toNat,by omega⟩;have c0:E<y.aI.length:=by omega
  have Ol:=hG.1;have k2:=aic y ho Ol;have k3:=apz y hG (by omega) to (Ar y) (dG y);obtain⟨out,eo⟩:∃out,out=PW y (Ar y) to:=⟨_,rfl⟩;rw[<- eo]at k3;have f1:(E:Int)<(y.aI.length:Int):=by omega
  have f2:=jC E;have la:=fun {a:Nat} (h:a<y.aI.length)=>Mc (n:=y.aI.length) out h
  have b5:=la c0;have ll:=jh y.aI.length out;have Y:(Dw y.aI.length out).flatMap cI≠[]:=fun e=>by
   have h:=qM (Dw y.aI.length out);rw[e,ll]at h;have h:0=y.aI.length:=h;omega
  by_cases c3:out E<0
  .have e:Cj y E to=false:=by
    unfold Cj;rw[<- eo,zA,sG (p:=0<=out E) (by omega),wS,wS]
   rw[e,a3 _ e.symm rfl];simp only[go_sem,k1,c1,c2,k2,k3,ll,Y,b5,f1,f2,c3];exact⟨_,_,_,[],rfl,by omega,iK _ _,by simp⟩
  have e:Cj y E to=true:=by
   unfold Cj;rw[<- eo,hg,zA,sH (p:=0<=out E) (by omega),sH f2,sH (p:=(E:Int)<_) (by omega)];rfl
  obtain⟨⟨t0,t1⟩,es⟩:=Uz (y:=y) (al:=Ar y) (to:=to) (i:=E) (by rw[<- eo];omega);rw[<- eo]at es;have c4:Ea y E to=FI y out E (out E).toNat:=by
   unfold Ea;rw[sN e,<- eo,zA];rfl
  rw[e,c4];obtain⟨d,hd⟩:∃d:Nat,out E=(d:Int):=⟨(out E).toNat,by omega⟩;have a8:∀i,DV (Ar y) i=true->i<y.aI.length:=fun i hi=>by have:=rG hi;rw[dG]at this;exact this
  have a9:∀k:Nat,k<=d->out (XC (DY y) out y.aI.length E k)=(d:Int) - k:=fun k hk=>by
   have:=jw a8 (mv:=DY y) (to:=to.toNat) (a:=E) k (by rw[<- es,hd];omega);rw[<- es,hd]at this;exact this
  have b6:∀k:Nat,k<=d->XC (DY y) out y.aI.length E k<y.aI.length:=fun k hk=>by
   have h1:=a9 k hk;have h2:=Uk (mv:=DY y) (al:=DV (Ar y)) (to:=to.toNat) (i:=XC (DY y) out y.aI.length E k) (by rw[<- es];omega);exact a8 _ h2.1
  have d7:d<=6:=by
   have:=ahJ a8 (mv:=DY y) (to:=to.toNat) (a:=E) (by rw[<- es,hd];omega);rw[<- es,hd]at this;omega
  obtain⟨at_,a4⟩:∃at_,at_=XC (DY y) out y.aI.length E:=⟨_,rfl⟩;rw[<- a4]at a9 b6;have c5:∀k,FI y out E (k+1)=FI y out E k++[((at_ (k+1):Nat):Int)]:=fun k=>by rw[a4];exact abq y out E k
  have w0:FI y out E 0=[(E:Int)]:=rfl;have wl:=ae7 y out E;have c6:(out E).toNat=d:=by omega
  rw[c6];simp only[go_sem,k1,c1,c2,k2,k3,ll,Y,b5,f1,f2,c3];generalize hL:jI _ _=z;obtain⟨x,rfl,T,σ,nx',rfl,J,c7,c8⟩:=jP hL (fun m st=>∃k,k+m=d/\st.T 3= .rp nx 0/\st.T 8=LI (Dw y.aI.length out)/\st.T 10=I (at_ k)/\nx+1<st.nx/\(∃wr,st.σ nx=some ⟨AQ y,0,wr⟩)/\Grow st.T st.σ st.nx 9 (FI y out E k)/\∀b o l,st.T 9= .rs b o l->nx+1<=b)
   (fun x=>∃T σ nx',x=(.exit 0,⟨T,σ,nx'⟩)/\nx+1<nx'/\Grow T σ nx' 9 (FI y out E d)/\∀b o l,T 9= .rs b o l->nx+1<=b) (by
    clear hL;rintro m ⟨T,σ,CG⟩ ⟨k,hk,t3,t8,G,J,⟨wr,O⟩,S,hB⟩;simp only at t3 t8 G J O S hB;have ha:=b6 k (by omega);have ho:=a9 k (by omega);have a5:=la ha;have g1:(at_ k:Int)<(y.aI.length:Int):=by omega
    have g2:(0:Int)<=(at_ k:Int):=by omega
    by_cases hm:m=0
    .subst hm
     have c9:k=d:=by omega
     have g3:¬0<out (at_ k):=by omega
     refine .inr ⟨_,by simp only[go_sem,t8,G,ll,Y,a5,g1,g2,ha,g3];rfl,by simp,_,_,_,rfl,J,?_,by simpa only[go_sem]using hB⟩;rw[<- c9];exact kR (by simp only[go_sem]) S
    .have g3:0<out (at_ k):=by omega
     have k4:=aie y hG (at_ k:Int);rw[Ri]at k4;have d8:=X8 y (at_ k);have b2:=JY O (LI (Ak (nexts y (at_ k))));obtain⟨TK,b7⟩:∃TK,TK=behind σ [nx] (LI (Ak (nexts y (at_ k)))):=⟨_,rfl⟩;rw[<- b7]at b2;have d0:∃wr,TK nx=some ⟨AQ y,0,wr⟩:=⟨_,by rw[b2,Zi]⟩;have d1:Grow T TK CG 9 (FI y out E k):=abp S fun b o l h=>by rw[b2,Zj _ _ (by have:=hB b o l h;omega)]
     have w4:=ZR (n:=out (at_ k) - 1);have b8:at_ (k+1)=Jg (DY y) out y.aI.length (at_ k):=by rw[a4];rfl
     refine bC ?_
     conv=>
      enter [1,r,1,1]
      simp only[go_sem,t3,t8,G,O,ll,Y,a5,g1,g2,ha,g3,k4,Zy,<- b7]
     generalize hL:jI _ _=w;obtain⟨r,rfl,T',σ',AO,rfl,t3,t8,G,J,⟨d2,O⟩,S,hB⟩:=oZ hL (nexts y (at_ k)).length (fun j st=>st.T 3= .rp nx 0/\st.T 8=LI (Dw y.aI.length out)/\st.T 10=I (at_ k)/\st.T 44=LI (Ak (nexts y (at_ k)))/\st.T 45=I (nexts y (at_ k)).length/\st.T 46=I j/\nx+1<st.nx/\(∃wr,st.σ nx=some ⟨AQ y,0,wr⟩)/\Grow st.T st.σ st.nx 9 (FI y out E k)/\(∀b o l,st.T 9= .rs b o l->nx+1<=b)/\∀i (hi:i<(nexts y (at_ k)).length),i<j->(out (nexts y (at_ k))[i]==out (at_ k) - 1)=false)
      (fun r=>∃T σ AO,r=(.exit 2,⟨T,σ,AO⟩)/\T 3= .rp nx 0/\T 8=LI (Dw y.aI.length out)/\T 10=I (at_ (k+1))/\nx+1<AO/\(∃wr,σ nx=some ⟨AQ y,0,wr⟩)/\Grow T σ AO 9 (FI y out E k)/\∀b o l,T 9= .rs b o l->nx+1<=b) (by
       clear hL;rintro j ⟨T,σ,CG⟩ hj ⟨t3,t8,G,a1,a2,a6,J,O,S,hB,a7⟩;simp only at t3 t8 G a1 a2 a6 J O S hB;have f1:(j:Int)<((nexts y (at_ k)).length:Int):=by omega
       have f2:=jC j;have f3:=ZR (n:=(j:Int)+1);have f4:=Rj (nexts y (at_ k)) hj;have f5:=Zy (nexts y (at_ k));have f6:(Ak (nexts y (at_ k))).flatMap cI≠[]:=fun e=>by
        have h:=qM (Ak (nexts y (at_ k)));rw[e,f5]at h;have h:0=(nexts y (at_ k)).length:=h;omega
       have hc:=X7 hj;have b3:=la hc;obtain⟨c,ec⟩:∃c,c=(nexts y (at_ k))[j]:=⟨_,rfl⟩;rw[<- ec]at f4 hc b3;have i1:(c:Int)<(y.aI.length:Int):=by omega
       have i2:=jC c;cases hq:(out c==out (at_ k) - 1)with
       |true=>
        have hn:=apC hj a7 (by rw[<- ec];exact hq);refine .inr ⟨_,by simp only[go_sem,t3,t8,G,a1,a2,a6,ll,Y,a5,b3,g1,g2,ha,f1,f2,f3,f4,f5,f6,hj,hc,i1,i2,w4,hq];rfl,by simp,_,_,_,rfl,?_⟩;simp only[go_sem,t3,t8];rw[b8,hn,<- ec];exact⟨rfl,J,O,kR (by simp only[go_sem]) S,hB⟩
       |false=>
        refine .inl ⟨_,by simp only[go_sem,t3,t8,G,a1,a2,a6,ll,Y,a5,b3,g1,g2,ha,f1,f2,f3,f4,f5,f6,hj,hc,i1,i2,w4,hq];rfl,?_⟩;simp only[go_sem,t3,t8,G,a1,a2];refine⟨rfl,J,O,kR (by simp only[go_sem]) S,hB,fun i hi d9=>?_⟩
        by_cases e:i=j
        .subst e;rw[<- ec];exact hq
        .exact a7 i hi (by omega)) (by
       clear hL;rintro ⟨T,σ,CG⟩ ⟨t3,t8,G,a1,a2,a6,J,O,S,hB,a7⟩;exfalso;obtain⟨j,hj,hq⟩:=abo (y:=y) (al:=Ar y) (dG y) (to:=to.toNat) (a:=at_ k) (by rw[<- es];exact g3);rw[<- es,a7 j hj hj]at hq;cases hq) (by
       simp only[go_sem,t3,t8,G];exact⟨J,d0,kR (by simp only[go_sem]) d1,hB,fun i hi h0=>absurd h0 (zU _)⟩)
     obtain⟨BN,b9,d3,d4⟩:=Tn S (at_ (k+1):Int) (by rw[wl];omega);rw[wl]at b9;refine⟨_,by simp only[go_sem,G,b9];rfl,.inl ⟨_,rfl,m-1,by omega,k+1,by omega,?_⟩⟩;simp only[go_sem,t3,t8,G];refine⟨by omega,?_,?_,fun b o l hb=>?_⟩
     .exact⟨d2,by rw[d4 nx (by omega) (fun b o l hb=>by have:=hB b o l hb;omega)];exact O⟩
     .rw[c5]
      exact kQ d3 (by simp only[go_sem,zo,wl]) (by simp)
     .cases hb;omega) d (by
    simp only[go_sem];refine⟨0,by omega,by rw[a4];rfl,by omega,⟨_,by rw[Zk,Zi]⟩,.inr ⟨nx+1,?_,by rw[w0];simp,?_,by omega⟩,fun b o l hb=>by cases hb;omega⟩
    .simp only[go_sem]
     rfl
    .rw[Zi];rfl)
  obtain⟨ids,d5,d6⟩:=WL c7 c8;simp only[go_sem];exact⟨_,_,_,ids,rfl,by omega,d5,fun b hb=>by have:=d6 b hb;omega⟩
theorem Rk(y:Cm)(fr to:Int):(Ea y fr to).length<=1000000:=by
 unfold Ea
 split
 .rename_i h
  unfold Cj at h;simp only[zD,decide_eq_true_eq]at h;obtain⟨G,⟨J,O⟩,E⟩:=h;obtain⟨_,es⟩:=Uz E;have:=ahJ (mv:=DY y) (al:=DV (Ar y)) (n:=y.aI.length) (to:=to.toNat) (a:=fr.toNat) (fun i hi=>by have:=rG hi;rw[dG]at this;exact this) (by rw[<- es];exact E);rw[Zy,ahK,es];have:=(ig G).1;omega
 .exact vg _
theorem ayK(xs:List Int)(m:Int)(h:xs.length<=1000000):fn ZK conv ext 8 [LI xs,I m]=some (Bo (decide (m∈xs))):=by
 rw[m_,mg [.tmp 4] [] func8];simp only[go_sem];generalize hL:jI _ _=y;obtain⟨x,rfl,hx⟩:=oZ hL xs.length (fun k st=>st.T 1=I m/\st.T 7=LI xs/\st.T 8=I xs.length/\st.T 9=I k/\∀i (h:i<xs.length),i<k->xs[i]≠m)
  (fun x=>∃T σ nx,(x=(.exit 0,⟨T,σ,nx⟩)/\m∉xs)\/(x=(.ret,⟨T,σ,nx⟩)/\T 4=Bo true/\m∈xs)) (by
   clear hL;rintro k ⟨T,σ,nx⟩ Y ⟨J,O,E,S,G⟩;simp only at J O E S;have f1:(k:Int)<(xs.length:Int):=by omega
   have f2:=jC k;have f3:=ZR (n:=(k:Int)+1);have f4:=idx (xs:=xs) (k:=k) Y;have f5:=Bg xs k Y
   by_cases e:xs[k]=m
   .have e':(xs[k]==m)=true:=by simpa using e
    refine .inr ⟨_,by simp only[go_sem,J,O,E,S,f1,f2,f4,f5,Y,e'];rfl,by simp,_,_,_,.inr ⟨rfl,by simp only[go_sem],?_⟩⟩;rw[<- e];exact zu Y
   .have e':(xs[k]==m)=false:=by simpa using e
    refine .inl ⟨_,by simp only[go_sem,J,O,E,S,f1,f2,f3,f4,f5,Y,e'];rfl,?_⟩;simp only[go_sem,J,O,E];refine⟨rfl,fun i hi a0=>?_⟩
    by_cases h':i=k
    .subst h';exact e
    .exact G i hi (by omega)) (by
   clear hL;rintro ⟨T,σ,nx⟩ ⟨J,O,E,S,G⟩;simp only at J O E S;refine⟨_,by simp only[go_sem,E,S,zi];rfl,by simp,_,_,_,.inl ⟨rfl,fun hm=>?_⟩⟩;obtain⟨i,hi,e⟩:=yc hm;exact G i hi hi e) (by
   simp only[go_sem];exact fun i _ h=>absurd h (zU _))
 obtain⟨T,σ,nx,⟨rfl,hm⟩|⟨rfl,t4,hm⟩⟩:=hx
 .rw[sG hm]
  simp only[go_sem]
 .rw[sH hm]
  simp only[go_sem,t4]
theorem alY(p:Nat->Bool)(n:Nat)(a:Nat):(a:Int)∈F8 p n↔a<n/\p a=true:=by
 unfold F8;rw[List.mem_map];constructor
 .rintro ⟨i,hi,e⟩
  rw[List.mem_filter,List.mem_range]at hi;have:i=a:=by omega
  subst this;exact hi
 .intro h
  exact⟨a,by rw[List.mem_filter,List.mem_range];exact h,rfl⟩
noncomputable def blk(y:Cm)(fr to:Int)(i:Nat):Bool:=!((i:Int)==fr) && (!((i:Int)==to) && (DV (Ar y) i && decide (PW y ((Ar y).set i false) to fr.toNat<0)))
end Go.Proofs.YtjjhejehbhbdeaaGreat
namespace Go.Proofs.YtjjhejehbhbdeaaGreat
open Go Go.TV Go.Lp
theorem atg(neg:Bool)(m n:Nat)(hm:ln m<=24)(h0:n≠0)(hn:ln n<=24) :
  fn ZK conv ext 210 [Bo neg,LI (dg m),LI (dg n)]=some (.agg [Bo (neg && decide (0<(dg (m / Nat.gcd m n)).length)),LI (dg (m / Nat.gcd m n)),LI (dg (n / Nat.gcd m n))]):=by
 have J:Nat.gcd m n≠0:=fun e=>h0 (Nat.eq_zero_of_gcd_eq_zero_right e)
 have O:Nat.gcd m n<=n:=Nat.gcd_le_right _ (by omega);have a0:n / Nat.gcd m n≠0:=by
  have:=Nat.div_pos O (by omega);omega
 have hg:=jX O;have k1:=KC (dg m) (d_ (by omega));have k2:=KC (dg n) (d_ (by omega));rw[Zt]at k1 k2;have S:=ab2 n (by omega);have k4:=amV m n (by omega) (by omega);have Y:=ab2 (Nat.gcd m n) (by omega);have k6:=ah0 m (Nat.gcd m n) J (by omega) (by omega);have k7:=ah0 n (Nat.gcd m n) J (by omega) (by omega);have lx:=ag' m (Nat.gcd m n);have ly:=ag' n (Nat.gcd m n);have G:=amA neg (dg (m / Nat.gcd m n)) (d_ (by omega)) (by rw[Zt];show ln _<=60;omega);rw[Zt]at G;have l0:(((dg n).length:Int)==0)=false:=by rw[sJ];have:=rC (oO h0);omega
 have c1:¬(24:Int)<((dg (m / Nat.gcd m n)).length:Int):=by unfold ln at lx hm;omega
 have c2:¬(24:Int)<((dg (n / Nat.gcd m n)).length:Int):=by unfold ln at ly hn;omega
 have z1:¬(dg (n / Nat.gcd m n)).length=0:=rC (oO a0);have s1:(dg (n / Nat.gcd m n)).length<=maxLen/\(dg (n / Nat.gcd m n)).length*8<=140737488355328:=by unfold maxLen;unfold ln at ly hn;omega
 rw[m_,mg [.cell 6 150] [] func210]
 by_cases h1:n=1
 .have E:Nat.gcd m n=1:=by rw[h1,Nat.gcd_one_right]
  simp only[E,vC]at c1 c2 G z1 s1⊢;rw[sH h1]at S;simp only[go_sem,k1,k2,S,G,l0,c1,c2,z1,s1]
 .rw[sG h1]at S
  by_cases E:Nat.gcd m n=1
  .rw[sH E]at Y
   rw[E]at k4 Y;simp only[E,vC]at c1 c2 G z1 s1⊢;simp only[go_sem,k1,k2,S,k4,Y,G,l0,c1,c2,z1,s1]
  .rw[sG E]at Y
   simp only[go_sem,k1,k2,S,k4,Y,k6,k7,G,l0,c1,c2,z1,s1]
theorem UA(z:Int)(d:Nat)(O:ln z.natAbs<=24)(J:d≠0)(S:ln d<=24)(b:Bool)(n:Nat)(hb:Bc b n=z):fn ZK conv ext 210 [Bo b,LI (dg n),LI (dg d)]=some (.agg (cQ (mkRat z d))):=by
 have hn:n=z.natAbs:=by rw[<- hb];unfold Bc;split<;>omega
 subst hn;rw[atg b z.natAbs d O J S,amC z J];unfold agB
 by_cases E:z.natAbs=0
 .rw[E,Nat.zero_div,oJ];simp
 .have:b=decide (z<0):=by
   have G:=hb;unfold Bc at G;cases b with
   |true=>rw[sN rfl]at G;rw[sH (by omega)]
   |false=>rw[sO (by decide)]at G;rw[sG (by omega)]
  rw[this]
theorem X9(q:Rat)(h:Ln 24 q):fn ZK conv ext 197 [.agg (cQ q)]=some (Bo true):=by
 have l1:(dg q.num.natAbs).length<=24:=h.1;have l2:(dg q.den).length<=24:=h.2;have E:=aeh (decide (q.num<0)) (dg q.num.natAbs) (by unfold Short;omega);have S:(!decide (q.num<0)||decide (0<(dg q.num.natAbs).length))=true:=by
  by_cases hn:q.num<0
  .rw[sH (List.length_pos_iff.mpr (oO (by omega))),Bool.or_true]
  .rw[sG hn];rfl
 rw[gy (jD (by have:=h.1;omega)),S]at E;have G:=aaz (dg q.den) (by unfold Short;omega);rw[gy (jD (by have:=h.2;omega))]at G;have J:=amV q.num.natAbs q.den (by have:=h.1;omega) (by have:=h.2;omega);rw[q.reduced]at J;have O:=arM (dg 1) (WA (by decide));rw[sH ((Qm 1).mpr rfl)]at O;have Y:(((dg q.den).length:Int)==0)=false:=by rw[sJ];have:=rC (oO q.den_nz);omega
 have c1:¬(24:Int)<((dg q.num.natAbs).length:Int):=by omega
 have c2:¬(24:Int)<((dg q.den).length:Int):=by omega
 unfold cQ;rw[m_,mg [.tmp 2] [] func197];simp only[go_sem,wQ]at E;simp only[go_sem,E,G,J,O,Y,c1,c2]
theorem alZ(q:Rat)(d:Nat)(hb:ln (q.num*d).natAbs<=60):fn ZK conv ext 199 [Bo (decide (q.num<0)),LI (dg (q.num.natAbs*d))]=some (.agg (cZ (q.num*d))):=by
 have e:Bc (decide (q.num<0)) (q.num.natAbs*d)=q.num*d:=by
  have h:=dA q.num
  conv=>rhs;rw[<- h]
  unfold Bc
  by_cases E:q.num<0
  .rw[sH E,sN rfl,sN rfl,yg,Int.neg_mul]
  .rw[sG E,sO (by decide),sO (by decide),yg]
 rw[uQ,wU]at hb;rw[Nv _ _ hb,e]
theorem Ln.up{k:Nat}{q:Rat}(h:Ln k q)(E:k<=24):ln q.num.natAbs<=1000000/\ln q.den<=1000000:=⟨by have:=h.1;omega,by have:=h.2;omega⟩
theorem acP{a b:Nat}(x y:Rat)(E:Ln a x)(G:Ln b y)(a1:a+b<=23):fn ZK conv ext 192 [.agg (cQ x),.agg (cQ y)]=some (.agg (cQ (x+y))):=by
 have n1:=jU E G;have n2:=jU G E;have a2:=QG E G;have J:=E.up (by omega);have O:=G.up (by omega);have o1:=ab2 x.den J.2;have S:=ab2 y.den O.2;have k1:=dJ x.num.natAbs y.den J.1 O.2;have k2:=dJ y.num.natAbs x.den O.1 J.2;have k3:=dJ x.den y.den J.2 O.2;have k4:=alZ x y.den (by omega);have k5:=alZ y x.den (by omega);have n3:=IL (x.num*y.den) (y.num*x.den);have k6:=WH (x.num*y.den) (y.num*x.den) (by omega) (by omega) (by omega);have k7:=UA (x.num*y.den+y.num*x.den) (x.den*y.den) (by omega) (dd0 x y) (by omega) (decide (x.num*y.den+y.num*x.den<0)) (x.num*y.den+y.num*x.den).natAbs (dA _);rw[<- Rat.add_def']at k7;rw[m_,mg [.cell 4 150] [] func192]
 by_cases Y:x.den=1
 .by_cases h2:y.den=1
  .have n4:=IL x.num y.num
   have a3:=E.1;have a4:=G.1;have m1:=WH x.num y.num J.1 O.1 (by omega);have m2:=UA (x.num+y.num) 1 (by omega) (by decide) (by have:=jS (n:=1) (by decide);omega) (decide (x.num+y.num<0)) (x.num+y.num).natAbs (dA _);have e:mkRat (x.num+y.num) 1=x+y:=by rw[Rat.add_def',Y,h2];simp
   rw[e,oN (d:=1) (by decide) (by decide)]at m2;have a0:fn ZK conv ext 210 [Bo (decide (x.num+y.num<0)),LI (dg (x.num+y.num).natAbs),.ts [I 1] 1]=some (.agg (cQ (x+y))):=m2
   rw[sH Y]at o1;rw[sH h2]at S;unfold cZ at *;unfold cQ at *;simp only[go_sem,o1,S,m1,a0]
  .rw[sH Y]at o1
   rw[sG h2]at S;unfold cZ at *;unfold cQ at *;simp only[go_sem,o1,S,k1,k2,k3,k4,k5,k6,k7]
 .rw[sG Y]at o1
  unfold cZ at *;unfold cQ at *;simp only[go_sem,o1,k1,k2,k3,k4,k5,k6,k7]
theorem ath{x y:Rat}{k l:Nat}(h:Ln k x)(E:Ln l y):ln (x.num.natAbs*y.num.natAbs)<=k+l:=by
 have:=jW x.num.natAbs y.num.natAbs;have:=h.1;have:=E.1;omega
theorem abr(b:Bool)(n:Nat):(Bc b n).natAbs=n:=by unfold Bc;split<;>omega
theorem ati{a b:Nat}(x y:Rat)(E:Ln a x)(G:Ln b y)(Y:a+b<=24):fn ZK conv ext 215 [.agg (cQ x),.agg (cQ y)]=some (.agg (cQ (x*y))):=by
 have J:=E.up (by omega);have O:=G.up (by omega);have n1:=ath E G;have n2:=QG E G;have k1:=dJ x.num.natAbs y.num.natAbs J.1 O.1;have k2:=dJ x.den y.den J.2 O.2;have S:=UA (Bc (decide (x.num<0) !=decide (y.num<0)) (x.num.natAbs*y.num.natAbs)) (x.den*y.den) (by rw[abr];omega) (dd0 x y) (by omega) _ _ rfl;rw[<- ak3]at S;have e:∀a b:Bool,(!a==b)=(a !=b):=by decide
 unfold cQ at *;rw[m_,mg [.cell 4 150] [] func215];simp only[go_sem,k1,k2,S,e]
theorem amZ{a b:Nat}(x y:Rat)(E:Ln a x)(G:Ln b y)(Y:a+b<=24)(h0:y.num≠0):fn ZK conv ext 211 [.agg (cQ x),.agg (cQ y)]=some (.agg (cQ (x / y))):=by
 have J:=E.up (by omega);have O:=G.up (by omega);have o1:=X9 x (E.mono (by omega));have o2:=X9 y (G.mono (by omega));have n1:=jW x.num.natAbs y.den;have n2:=jW x.den y.num.natAbs;have:=E.1;have:=E.2;have:=G.1;have:=G.2;have k1:=dJ x.num.natAbs y.den J.1 O.2;have k2:=dJ x.den y.num.natAbs J.2 O.1;have S:=UA (Bc (decide (x.num<0) !=decide (y.num<0)) (x.num.natAbs*y.den)) (x.den*y.num.natAbs) (by rw[abr];omega) (Nat.mul_ne_zero x.den_nz (by omega)) (by omega) _ _ rfl;rw[<- agE x y h0]at S;have e:∀a b:Bool,(!a==b)=(a !=b):=by decide
 unfold cQ at *;rw[m_,mg [.cell 4 150] [] func211];simp only[go_sem,o1,o2,k1,k2,S,e]
theorem aii(x y:Int)(O:ln x.natAbs<=1000000)(S:ln y.natAbs<=1000000):fn ZK conv ext 205 [.agg (cZ x),.agg (cZ y)]=some (I (Az x y)):=by
 have Y:=WE x.natAbs y.natAbs O S;have k2:=WE y.natAbs x.natAbs S O;rw[m_,mg [.tmp 4] [] func205];unfold cZ at *
 by_cases G:x<0<;>by_cases J:y<0
 .have e:Bj y.natAbs x.natAbs=Az x y:=by
   unfold Bj Az
   by_cases h:x<y
   .rw[sN (show y.natAbs<x.natAbs by omega),sN h]
   .rw[sO (show ¬y.natAbs<x.natAbs by omega),sO h]
    by_cases E:x=y
    .rw[sN (by omega),sN E]
    .rw[sO (by omega),sO E]
  rw[e]at k2;rw[sH G,sH J];simp only[go_sem,k2]
 .have e:Az x y= -1:=by unfold Az;rw[sN (by omega)]
  rw[sH G,sG J,e];simp only[go_sem]
 .have e:Az x y=1:=by unfold Az;rw[sO (by omega),sO (by omega)]
  rw[sG G,sH J,e];simp only[go_sem]
 .have e:Bj x.natAbs y.natAbs=Az x y:=by
   unfold Bj Az
   by_cases h:x<y
   .rw[sN (show x.natAbs<y.natAbs by omega),sN h]
   .rw[sO (show ¬x.natAbs<y.natAbs by omega),sO h]
    by_cases E:x=y
    .rw[sN (by omega),sN E]
    .rw[sO (by omega),sO E]
  rw[e]at Y;rw[sG G,sG J];simp only[go_sem,Y]
theorem atj{a b:Nat}(x y:Rat)(E:Ln a x)(G:Ln b y)(S:a+b<=60)(ha:a<=24)(hb:b<=24):fn ZK conv ext 183 [.agg (cQ x),.agg (cQ y)]=some (I (Az (x.num*y.den) (y.num*x.den))):=by
 have J:=E.up ha;have O:=G.up hb;have n1:=jU E G;have n2:=jU G E;have Y:=dJ x.num.natAbs y.den J.1 O.2;have k2:=dJ y.num.natAbs x.den O.1 J.2;have k3:=alZ x y.den (by omega);have k4:=alZ y x.den (by omega);have k5:=aii (x.num*y.den) (y.num*x.den) (by omega) (by omega);unfold cZ at *;unfold cQ at *;rw[m_,mg [.tmp 4] [] func183];simp only[go_sem,Y,k2,k3,k4,k5]
theorem dH(x:Rat)(S:Ln 24 x):fn ZK conv ext 168 [.agg (cQ x)]=some (I (Az x.num 0)):=by
 have J:=X9 x S;have main:∀m:List Int,fn ZK conv ext 197 [.agg [Bo (decide (x.num<0)),LI m,LI (dg x.den)]]=some (Bo true)->m=[]->fn ZK conv ext 168 [.agg [Bo (decide (x.num<0)),LI m,LI (dg x.den)]]=some (I 0):=fun m k hm=>by
  have E:((m.length:Int)==0)=true:=by rw[hm];rfl
  rw[m_,mg [.tmp 2] [] func168];simp only[go_sem,k,E]
 unfold cQ at *
 by_cases O:x.num=0
 .have e:Az x.num 0=0:=by rw[O];rfl
  rw[e];exact main _ J (by rw[O,Int.natAbs_zero,oJ])
 rw[m_,mg [.tmp 2] [] func168]
 .have E:(((dg x.num.natAbs).length:Int)==0)=false:=by rw[sJ];have:=rC (oO (n:=x.num.natAbs) (by omega));omega
  by_cases G:x.num<0
  .have e:Az x.num 0= -1:=by unfold Az;rw[sN G]
   rw[sH G]at *;simp only[go_sem,J,E,e]
  .have e:Az x.num 0=1:=by unfold Az;rw[sO G,sO (by omega)]
   rw[sG G]at *;simp only[go_sem,J,E,e]
theorem apE(x:Rat)(E:Ln 24 x):fn ZK conv ext 172 [.agg (cQ x)]=some (.agg (cQ x)):=by
 have l1:(dg x.num.natAbs).length<=24:=E.1;have l2:(dg x.den).length<=24:=E.2;have G:¬(dg x.den).length=0:=rC (oO x.den_nz);have J:(dg x.den).length<=maxLen/\(dg x.den).length*8<=140737488355328:=by unfold maxLen;omega
 have S:(dg x.num.natAbs).length<=maxLen/\(dg x.num.natAbs).length*8<=140737488355328:=by unfold maxLen;omega
 unfold cQ;rw[m_,mg [.cell 2 150] [1] func172]
 by_cases O:(dg x.num.natAbs).length=0
 .have Y:dg x.num.natAbs=[]:=zZ O
  rw[Y]
  (simp only[go_sem,G,J])<;>rfl
 .simp only[go_sem,G,J,O,S]
def Eb{α:Type}(W L:List α)(c:Nat):List α:=W.take c++L.drop c
section
variable {α:Type} {W L:List α} {c:Nat}
theorem JZ(W L:List α):Eb W L 0=L:=by simp[Eb]
theorem jE(h:W.length=L.length)(hc:c<=L.length):(Eb W L c).length=L.length:=by unfold Eb;simp;omega
theorem I9(h:W.length=L.length)(hc:c<L.length):(Eb W L c)[c]'(by rw[jE h (by omega)];exact hc)=L[c]:=by
 have:(Eb W L c)[c]?=L[c]?:=by
  unfold Eb;rw[zM (by simp;omega),xQ];congr 1;simp;omega
 rw[zy (by rw[jE h (by omega)];exact hc),zy hc]at this;exact Option.some.inj this
theorem I_(h:W.length=L.length)(hc:c<L.length):(Eb W L c).set c (W[c]'(by omega))=Eb W L (c+1):=by
 unfold Eb;have E:(W.take c).length=c:=by simp;omega
 rw[xH _ _ (by omega),E,yQ,yL hc,um,yJ,zy (by omega),yh];rfl
theorem J3(h:W.length=L.length):Eb W L L.length=W:=by
 unfold Eb;rw[zl (by omega),xk (zq _),zC]
theorem Rl(h:W.length=L.length)(hc:c<L.length)(e:W[c]'(by omega)=L[c]):Eb W L c=Eb W L (c+1):=by
 rw[<- I_ h hc,e];have:=I9 h hc
 conv=>rhs;rw[<- this]
 rw[List.set_getElem_self]
end
theorem iy{q:Rat}:q.num=0↔q=0:=Rat.num_eq_zero
theorem abt(q:Rat):(Az q.num 0 !=0)= !decide (q=0):=by rw[TL,decide_eq_decide.mpr iy]
theorem aij(q:Rat):(Az q.num 0==0)=decide (q=0):=by rw[NZ,decide_eq_decide.mpr iy]
theorem al0{q:Rat}:0<q.num↔0<q:=by
 have E:=Rat.num_nonneg (q:=q);have G:=iy (q:=q);constructor
 .intro h
  have:0<=q:=E.mp (by omega);have:q≠0:=fun e=>by have:=G.mpr e;omega
  grind
 .intro h
  have J:0<=q.num:=E.mpr (by grind);have O:q.num≠0:=fun e=>by have:=G.mp e;grind
  omega
theorem UC(q:Rat):Az q.num 0<=0↔¬0<q:=by rw[pG,al0]
theorem aik{x t:List Rat}{f:Rat}{i:Nat}(h:i<x.length)(E:i<t.length):(KY x t f)[i]'(by unfold KY;rw[tN];omega)=x[i] - f*t[i]:=by simp only[KY,List.getElem_zipWith]
theorem lF{α:Type}{xs:List α}{k:Nat}(h:k<xs.length)(d:α):xs.getD k d=xs[k]:=by rw[zx,zy h];rfl
theorem apF{σ:Store}{nx bi bR N k:Nat}{x t:List Rat}(hx:x.length=N+1)(ht:t.length=N+1)(hN:N<=1000)(hk:k<N+1)(bx:∀u∈x,Ln 6 u)(bt:∀v∈t,Ln 6 v)(h1:σ bi=some ⟨x.flatMap cQ,3,true⟩)(h2:σ bR=some ⟨t.flatMap cQ,3,true⟩)(a1:bi≠bR)(a2:bi<nx)(a5:bR<nx) :
  ∃σ' nx',ev ZK wI Am 198 [.rs bi 0 (N+1),.rs bR 0 (N+1),I k] σ nx=some (.Bf [],σ',nx')/\σ' bi=some ⟨(KY x t (x.getD k 0)).flatMap cQ,3,true⟩/\nx<=nx'/\∀b,b<nx->b≠bi->σ' b=σ b:=by
 obtain⟨f,ef⟩:∃f,f=x.getD k 0:=⟨_,rfl⟩;have a0:x[k]'(by omega)=f:=by rw[ef,lF (by omega)]
 have bf:Ln 6 f:=by rw[<- a0];exact bx _ (zu (by omega))
 have a3:=jC k;have a4:(k:Int)<((N+1:Nat):Int):=by omega
 have a6:=cO (c:=cQ) (s:=3) qH x k (by omega);rw[a0]at a6;have a7:=bU (c:=cQ) (s:=3) qH x;rw[hx]at a7;have a8:k*3+3<=(N+1)*3:=by omega
 have k1:=dH f (bf.mono (by decide));rw[<- ef];rw[mg [] [7] func198]
 by_cases O:f=0
 .have s1:=aij f
  rw[sH O]at s1;refine⟨upd σ nx (some ⟨cQ f,0,true⟩),nx+1,by simp only[go_sem,h1,a3,a4,a6,a7,a8,k1,s1,Zh],?_,by omega,fun b hb _=>by rw[Zk]⟩;rw[Zk,h1];congr 3;subst O;apply yR
  .rw[pK (by omega)]
  .intro i g1 g2
   rw[aik g1 (by omega)];grind
 .have s1:=aij f
  rw[sG O]at s1;obtain⟨W,eW⟩:∃W,W=KY x t f:=⟨_,rfl⟩;have b2:W.length=N+1:=by rw[eW,pK (by omega),hx]
  have G:W.length=x.length:=by omega
  have k2:=agF f (by have:=bf.1;omega) (by have:=bf.2;omega);rw[<- eW];obtain⟨s0,S⟩:∃s0,s0=upd (upd σ nx (some ⟨cQ f,0,true⟩)) (nx+1) (some ⟨cQ (-f),0,true⟩):=⟨_,rfl⟩;have Yr:∀b,b<nx->s0 b=σ b:=fun b hb=>by rw[S,Zk,Zk]
  have a9:s0 (nx+1)=some ⟨cQ (-f),0,true⟩:=by rw[S,Zi]
  simp only[go_sem,h1,a3,a4,a6,a7,a8,k1,s1,k2,Zh,<- S];generalize hL:jI _ _=y;obtain⟨r,rfl,T',σ',nx',rfl,hn,hr,fr⟩:=oZ hL (N+1) (fun j st=>st.T 0= .rs bi 0 (N+1)/\st.T 1= .rs bR 0 (N+1)/\st.T 7= .rp (nx+1) 0/\st.T 19=I ((N+1:Nat):Int)/\st.T 20=I j/\nx+2<=st.nx/\st.σ bi=some ⟨(Eb W x j).flatMap cQ,3,true⟩/\∀b,b<nx+2->b≠bi->st.σ b=s0 b)
   (fun r=>∃T σ' nx',r=(.exit 0,⟨T,σ',nx'⟩)/\nx+2<=nx'/\σ' bi=some ⟨W.flatMap cQ,3,true⟩/\∀b,b<nx+2->b≠bi->σ' b=s0 b) (by
    clear hL;rintro j ⟨T,Y,m0⟩ hj ⟨t0,t1,t7,E,J,hm,hb,fr⟩;simp only at t0 t1 t7 E J hm hb;have g1:(j:Int)<((N+1:Nat):Int):=by omega
    have g2:=jC j;have g3:=ZR (n:=(j:Int)+1);have g4:=cO (c:=cQ) (s:=3) qH (Eb W x j) j (by rw[jE G (by omega)];omega);rw[I9 G (by omega)]at g4;have g5:=bU (c:=cQ) (s:=3) qH (Eb W x j);rw[jE G (by omega),hx]at g5;have g6:j*3+3<=(N+1)*3:=by omega
    have g7:=cO (c:=cQ) (s:=3) qH t j (by omega);have g8:=bU (c:=cQ) (s:=3) qH t;rw[ht]at g8;obtain⟨v,ev⟩:∃v,v=t[j]'(by omega):=⟨_,rfl⟩;obtain⟨u,eu⟩:∃u,u=x[j]'(by omega):=⟨_,rfl⟩;have bv:Ln 6 v:=by rw[ev];exact bt _ (zu (by omega))
    have bu:Ln 6 u:=by rw[eu];exact bx _ (zu (by omega))
    have hw:W[j]'(by omega)=u-f*v:=by subst eW;rw[aik (by omega) (by omega),eu,ev]
    rw[<- ev]at g7;rw[<- eu]at g4;have e1:Y bR=_:=(fr bR (by omega) (yu a1)).trans ((Yr bR a5).trans h2);have e2:Y (nx+1)=_:=(fr (nx+1) (by omega) (by omega)).trans a9;have k3:=dH v (bv.mono (by decide));have l1:bi<m0:=by omega
    have l2:bR<m0:=by omega
    have l3:nx+1<m0:=by omega
    have s3:=abt v
    by_cases hv:v=0
    .rw[sH hv,uz]at s3
     refine .inl ⟨_,by simp only[go_sem,t0,t1,t7,E,J,hb,e1,g1,g2,g3,g6,g7,g8,k3,s3];rfl,?_⟩;simp only[go_sem,t0,t1,t7,E];refine⟨rfl,hm,?_,fr⟩;rw[<- Rl G (by omega) (by rw[hw,<- eu,hv];grind)];exact hb
    .rw[sG hv,vZ]at s3
     have k4:=ati (-f) v (a:=6) (b:=6) ⟨by rw[Rat.neg_num,vY];exact bf.1,by rw[Rat.neg_den];exact bf.2⟩ bv (by decide);have k5:=acP u (-f*v) (a:=6) (b:=12) bu (aa1 (k:=6) (l:=6) ⟨by rw[Rat.neg_num,vY];exact bf.1,by rw[Rat.neg_den];exact bf.2⟩ bv (by decide)) (by decide);have c6:patch ((Eb W x j).flatMap cQ) (j*3) (cQ (u+ -f*v))=(Eb W x (j+1)).flatMap cQ:=by
      rw[iC qH _ _ (by rw[jE G (by omega)];omega),show u+ -f*v=W[j]'(by omega) by rw[hw];grind,I_ G (by omega)]
     refine .inl ⟨_,by simp only[go_sem,t0,t1,t7,E,J,hb,e1,e2,g1,g2,g3,g4,g5,g6,g7,g8,k3,s3,k4,k5,c6,l1,l2,l3];rfl,?_⟩;simp only[go_sem,t0,t1,t7,E];refine⟨rfl,hm,fun b hb hn=>?_⟩;rw[Zj _ _ hn];exact fr b hb hn) (by
    clear hL;rintro ⟨T,Y,m0⟩ ⟨t0,t1,t7,E,J,hm,hb,fr⟩;simp only at t0 t1 t7 E J hm hb;refine⟨_,by simp only[go_sem,E,J,zi];rfl,by simp,_,_,_,rfl,hm,?_,fr⟩;rw[<- hx,J3 G]at hb;exact hb) (by
    simp only[go_sem];refine⟨?_,fun _ _ _=>trivial⟩;rw[JZ,Yr bi a2];exact h1)
  exact⟨σ',nx',by simp only[go_sem],hr,by omega,fun b hb hn=>(fr b (by omega) hn).trans (Yr b hb)⟩
theorem UD{σ:Store}{nx bi bR N k:Nat}{x t:List Rat}(Y:x.length=N+1)(ht:t.length=N+1)(hN:N<=1000)(hk:k<N+1)(bx:∀u∈x,Ln 6 u)(bt:∀v∈t,Ln 6 v)(h1:σ bi=some ⟨x.flatMap cQ,3,true⟩)(h2:σ bR=some ⟨t.flatMap cQ,3,true⟩)(G:bi≠bR)(J:bi<nx)(O:bR<nx) :
  ∃S nx' σ',ev ZK wI Am 198 [.rs bi 0 (N+1),.rs bR 0 (N+1),I k] (restrict σ [bi,bR]) nx=some (.Bf [],S,nx')/\zI [bi,bR] nx nx' σ S=σ'/\σ' bi=some ⟨(KY x t (x.getD k 0)).flatMap cQ,3,true⟩/\nx<=nx'/\∀b,b<nx->b≠bi->σ' b=σ b:=by
 obtain⟨s2,nx',e,g1,g2,g3⟩:=apF (σ:=restrict σ [bi,bR]) Y ht hN hk bx bt ((fH σ bi bR).trans h1) ((fF σ bi bR).trans h2) G J O;refine⟨s2,nx',_,e,rfl,?_,g2,fun b hb hn=>?_⟩
 .unfold zI;rw[sN (.inl (by simp))];exact g1
 .unfold zI
  split
  .rename_i E
   rw[g3 b hb hn];unfold restrict;rcases E with E|E
   .rw[sN E]
   .omega
  .rfl
def GV(σ:Store)(v:V)(n:Nat)(cs:List V):Prop:=(n=0/\v= .nil)\/∃b,0<n/\v= .rs b 0 n/\σ b=some ⟨cs,1,true⟩
def bk:V->List Nat
 | .rs b _ _=>[b]
 |_=>[]
def Eo(R:List (List Rat))(i:Nat):List Rat:=R.getD i []
structure Fg (σ:Store) (bt bc:Nat) (vr vb:V) (rb:List Nat) (D:TQ) (N:Nat):Prop where
 t:σ bt=some ⟨[I N,vr,vb,.rs bc 0 (N+1)],0,true⟩
 r:GV σ vr D.R.length (rb.map fun b=>V.rs b 0 (N+1))
 row:∀i (h:i<rb.length),σ rb[i]=some ⟨(Eo D.R i).flatMap cQ,3,true⟩
 b:GV σ vb D.R.length ((Ce D.B).flatMap cI)
 c:σ bc=some ⟨D.c.flatMap cQ,3,true⟩
 len:rb.length=D.R.length
 nd:(bt :: bc :: (bk vr++bk vb++rb)).Nodup
structure ShF (D:TQ) (N:Nat):Prop where
 row:∀x∈D.R,x.length=N+1
 Bz:D.B.length=D.R.length
 Gu:D.c.length=N+1
 Gv:D.R.length<=1000
 sz:N<=1000
 big:∀x∈D.R,∀q∈x,Ln 6 q
 al1:∀q∈D.c,Ln 6 q
 inB:∀b∈D.B,b<1000000
theorem dN{R:List (List Rat)}{i:Nat}(h:i<R.length):Eo R i=R[i]:=lF h []
theorem dM{R:List (List Rat)}{n i:Nat}(hn:∀x∈R,x.length=n)(h:i<R.length):(Eo R i).length=n:=by rw[dN h];exact hn _ (zu h)
theorem acQ{R:List (List Rat)}{r k i:Nat}(hi:i<R.length):Eo (D9 R r k) i=if i=r then(Eo R i).map (· / Cc R r k)else KY (Eo R i) ((Eo R r).map (· / Cc R r k)) ((Eo R i).getD k 0):=by
 unfold Eo D9;simp only[zx,uF];rw[zy hi];rfl
theorem ail{σ:Store}{nx bt bc:Nat}{vr vb:V}{rb:List Nat}{D:TQ}{N r k:Nat}(h:Fg σ bt bc vr vb rb D N)(hs:ShF D N)(e7:ShF (NP D r k) N)(a9:∀b∈bt :: bc :: (bk vr++bk vb++rb),b<nx)(hr:r<D.R.length)(hk:k<N)(hp:Cc D.R r k≠0) :
  ∃σ' nx',ev ZK wI Am 196 [.rp bt 0,I r,I k] σ nx=some (.Bf [],σ',nx')/\Fg σ' bt bc vr vb rb (NP D r k) N/\nx<=nx'/\∀b,b<nx->b∉bc :: (bk vb++rb)->σ' b=σ b:=by
 obtain⟨ht,e8,c5,e9,hc,hlen,c7⟩:=h;rcases e8 with ⟨h0,_⟩|⟨br,_,rfl,b6⟩
 .omega
 rcases e9 with ⟨h0,_⟩|⟨bb,_,rfl,f0⟩
 .omega
 simp only[bk,yS,yM]at a9 c7⊢;have hN:=hs.sz;have hR:=hs.Gv;simp only[xW,zX,not_or]at c7;obtain⟨⟨n1,n2,n3,n4⟩,⟨n5,n6,n7⟩,⟨n8,n9⟩,c8,c0⟩:=c7;have TN:=a9 bt (by simp);have d5:=a9 bc (by simp);have TP:=a9 br (by simp);have f1:=a9 bb (by simp);have E5:∀j (E:j<rb.length),rb[j]<nx:=fun j E=>a9 _ (by simp[zu E])
 have c9:∀j (E:j<rb.length),rb[j]≠bt/\rb[j]≠bc/\rb[j]≠br/\rb[j]≠bb:=fun j E=>⟨fun e=>n4 (e ▸ zu E),fun e=>n7 (e ▸ zu E),fun e=>n9 (e ▸ zu E),fun e=>c8 (e ▸ zu E)⟩
 have a0:r<rb.length:=by omega
 obtain⟨bR,Yn⟩:∃bR,bR=rb[r]:=⟨_,rfl⟩;have f2:bR<nx:=by rw[Yn];exact E5 r a0
 have nR:=c9 r a0;rw[<- Yn]at nR;obtain⟨t,et⟩:∃t,t=Eo D.R r:=⟨_,rfl⟩;have d6:σ bR=some ⟨t.flatMap cQ,3,true⟩:=by rw[Yn,et];exact c5 r a0
 have c2:t.length=N+1:=by rw[et];exact dM hs.row hr
 have d7:∀v∈t,Ln 6 v:=by rw[et,dN hr];exact hs.big _ (zu hr)
 obtain⟨p,ep⟩:∃p,p=Cc D.R r k:=⟨_,rfl⟩;have d8:t[k]'(by omega)=p:=by rw[ep];unfold Cc;rw[<- lF (by omega) 0,et];rfl
 have bp:Ln 6 p:=by rw[<- d8];exact d7 _ (zu (by omega))
 have f3:p.num≠0:=fun e=>hp (by rw[<- ep];exact iy.mp e)
 have a1:=jC r;have a2:(r:Int)<(D.R.length:Int):=by omega
 have a3:=jC k;have a4:(k:Int)<((N+1:Nat):Int):=by omega
 have a5:(rb.map fun b=>V.rs b 0 (N+1))[r]?=some (.rs bR 0 (N+1)):=by rw[zF,zy a0,Yn];rfl
 have a6:=cO (c:=cQ) (s:=3) qH t k (by omega);rw[d8]at a6;have a7:=bU (c:=cQ) (s:=3) qH t;rw[c2]at a7;have a8:k*3+3<=(N+1)*3:=by omega
 obtain⟨s0,d0⟩:∃s0,s0=upd σ nx (some ⟨cQ p,0,true⟩):=⟨_,rfl⟩;have Yr:∀b,b<nx->s0 b=σ b:=fun b hb=>by rw[d0,Zk]
 have f5:s0 nx=some ⟨cQ p,0,true⟩:=by rw[d0,Zi]
 have d9:=(Yr bt TN).trans ht;have e0:=(Yr br TP).trans b6;obtain⟨W,eW⟩:∃W,W=t.map (· / p):=⟨_,rfl⟩;have e5:W.length=N+1:=by rw[eW,zQ,c2]
 have b2:W.length=t.length:=by omega
 have c3:Eo (D9 D.R r k) r=W:=by rw[acQ hr,sN rfl,<- et,<- ep,eW]
 have pl:=gu D.R r k;have bW:∀v∈W,Ln 6 v:=by
  rw[<- c3,dN (by omega)];exact e7.big _ (zu (l:=(NP D r k).R) (by show r<(D9 D.R r k).length;omega))
 rw[mg [] [4,10,12] func196];simp only[go_sem,ht,b6,d6,a1,a2,a3,a4,a5,a6,a7,a8,Zh,<- d0,d9,e0];generalize hL:jI _ _=y;obtain⟨x,rfl,T1,O,m1,rfl,t0,G,J,f6,f7,f8⟩:=oZ hL (N+1) (fun j st=>st.T 0= .rp bt 0/\st.T 1=I r/\st.T 2=I k/\st.T 6= .rp nx 0/\st.T 26=I ((N+1:Nat):Int)/\st.T 27=I j/\nx+1<=st.nx/\st.σ bR=some ⟨(Eb W t j).flatMap cQ,3,true⟩/\∀b,b<nx+1->b≠bR->st.σ b=s0 b)
  (fun x=>∃T σ' nx',x=(.exit 0,⟨T,σ',nx'⟩)/\T 0= .rp bt 0/\T 1=I r/\T 2=I k/\nx+1<=nx'/\σ' bR=some ⟨W.flatMap cQ,3,true⟩/\∀b,b<nx+1->b≠bR->σ' b=s0 b) (by
   clear hL;rintro j ⟨T,O,m0⟩ E ⟨t0,G,J,t6,b3,b7,hm,hb,fr⟩;simp only at t0 G J t6 b3 b7 hm hb;have g1:(j:Int)<((N+1:Nat):Int):=by omega
   have g2:=jC j;have g3:=ZR (n:=(j:Int)+1);have g4:=cO (c:=cQ) (s:=3) qH (Eb W t j) j (by rw[jE b2 (by omega)];omega);rw[I9 b2 (by omega)]at g4;have g5:=bU (c:=cQ) (s:=3) qH (Eb W t j);rw[jE b2 (by omega),c2]at g5;have g6:j*3+3<=(N+1)*3:=by omega
   obtain⟨v,ev⟩:∃v,v=t[j]'(by omega):=⟨_,rfl⟩;have bv:Ln 6 v:=by rw[ev];exact d7 _ (zu (by omega))
   rw[<- ev]at g4;have e1:O bt=_:=(fr bt (by omega) (yu nR.1)).trans d9;have e2:O br=_:=(fr br (by omega) (yu nR.2.2.1)).trans e0;have e3:O nx=_:=(fr nx (by omega) (by omega)).trans f5;have l1:bt<m0:=by omega
   have l2:br<m0:=by omega
   have l3:nx<m0:=by omega
   have l4:bR<m0:=by omega
   have k1:=amZ v p bv bp (by decide) f3;have c6:patch ((Eb W t j).flatMap cQ) (j*3) (cQ (v / p))=(Eb W t (j+1)).flatMap cQ:=by
    have hw:v / p=W[j]'(by omega):=by subst eW;rw[xZ,ev]
    rw[iC qH _ _ (by rw[jE b2 (by omega)];omega),hw,I_ b2 (by omega)]
   refine .inl ⟨_,by simp only[go_sem,t0,G,J,t6,b3,b7,hb,e1,e2,e3,a1,a2,a5,g1,g2,g3,g4,g5,g6,k1,c6,l1,l2,l3,l4];rfl,?_⟩;simp only[go_sem,t0,G,J,t6,b3];refine⟨rfl,hm,fun b hb hn=>?_⟩;rw[Zj _ _ hn];exact fr b hb hn) (by
   clear hL;rintro ⟨T,O,m0⟩ ⟨t0,G,J,t6,b3,b7,hm,hb,fr⟩;simp only at t0 G J t6 b3 b7 hm hb;refine⟨_,by simp only[go_sem,b3,b7,zi];rfl,by simp,_,_,_,rfl,?_⟩;simp only[go_sem,t0,G,J];refine⟨hm,?_,fr⟩;rw[<- c2,J3 b2]at hb;exact hb) (by
   simp only[go_sem];refine⟨?_,fun _ _ _=>trivial⟩;rw[JZ,Yr bR f2];exact d6)
 have c4:∀b,b<nx->b≠bR->O b=σ b:=fun b hb hn=>(f8 b (by omega) hn).trans (Yr b hb)
 have e1:O bt=_:=(c4 bt TN (yu nR.1)).trans ht;have e2:O br=_:=(c4 br TP (yu nR.2.2.1)).trans b6;simp only[go_sem,t0,G,J,e1];generalize hL:jI _ _=y;obtain⟨x,rfl,T2,σ2,m2,rfl,t0,G,J,h2,EI,Ed⟩:=oZ hL D.R.length (fun i st=>st.T 0= .rp bt 0/\st.T 1=I r/\st.T 2=I k/\st.T 56=I D.R.length/\st.T 57=I i/\nx+1<=st.nx/\(∀j (E:j<rb.length),st.σ rb[j]=some ⟨(if j<i\/j=r then Eo (D9 D.R r k) j else Eo D.R j).flatMap cQ,3,true⟩)/\∀b,b<nx->b∉rb->st.σ b=σ b)
  (fun x=>∃T σ' nx',x=(.exit 2,⟨T,σ',nx'⟩)/\T 0= .rp bt 0/\T 1=I r/\T 2=I k/\nx+1<=nx'/\(∀j (E:j<rb.length),σ' rb[j]=some ⟨(Eo (D9 D.R r k) j).flatMap cQ,3,true⟩)/\∀b,b<nx->b∉rb->σ' b=σ b) (by
   clear hL;rintro i ⟨T,σ2,m0⟩ hi ⟨t0,G,J,S,b4,hm,rows,fr⟩;simp only at t0 G J S b4 hm rows;have g1:(i:Int)<(D.R.length:Int):=by omega
   have g2:=jC i;have g3:=ZR (n:=(i:Int)+1);have b8:i<rb.length:=by omega
   by_cases Yk:i=r
   .have c1:((i:Int) !=(r:Int))=false:=by rw[Yk];simp
    refine .inl ⟨_,by simp only[go_sem,t0,G,J,S,b4,g1,g3,c1];rfl,?_⟩;simp only[go_sem,t0,G,J,S];refine⟨rfl,hm,fun j E=>?_,fr⟩;rw[rows j E]
    by_cases Y:j=r
    .rw[sN (.inr Y),sN (.inr Y)]
    .by_cases f9:j<i
     .rw[sN (.inl f9),sN (.inl (by omega))]
     .rw[sO (by omega),sO (by omega)]
   .have c1:((i:Int) !=(r:Int))=true:=by rw[bne_iff_ne];omega
    obtain⟨bi,FC⟩:∃bi,bi=rb[i]:=⟨_,rfl⟩;have h3:bi<nx:=by rw[FC];exact E5 i b8
    have ni:=c9 i b8;rw[<- FC]at ni;have g0:bi≠bR:=fun e=>Yk (by rw[FC,Yn]at e;exact(uP c0).mp e)
    have b5:(rb.map fun b=>V.rs b 0 (N+1))[i]?=some (.rs bi 0 (N+1)):=by rw[zF,zy b8,FC];rfl
    have g7:σ2 bi=some ⟨(Eo D.R i).flatMap cQ,3,true⟩:=by rw[FC,rows i b8,sO (by omega)]
    have d3:σ2 bR=some ⟨W.flatMap cQ,3,true⟩:=by rw[Yn,rows r a0,sN (.inr rfl),c3]
    have e1:σ2 bt=_:=(fr bt TN n4).trans ht;have e2:σ2 br=_:=(fr br TP n9).trans b6;have l1:bt<m0:=by omega
    have l2:br<m0:=by omega
    have l3:bi<m0:=by omega
    have l4:bR<m0:=by omega
    have z1:(bt==bi)=false:=beq_false_of_ne (yu ni.1);have z2:(bt==bR)=false:=beq_false_of_ne (yu nR.1);have z3:(br==bi)=false:=beq_false_of_ne (yu ni.2.2.1);have z4:(br==bR)=false:=beq_false_of_ne (yu nR.2.2.1);obtain⟨s3,m3,b9,kc,pe,q1,q2,q3⟩:=UD (σ:=σ2) (nx:=m0) (k:=k) (dM hs.row hi) e5 hN (by omega) (by rw[dN hi];exact hs.big _ (zu hi)) bW g7 d3 g0 l3 l4;refine .inl ⟨_,by simp only[go_sem,t0,G,J,S,b4,e1,e2,a1,a2,a5,b5,g1,g2,g3,c1,l1,l2,l3,l4,z1,z2,z3,z4,kc,pe];rfl,?_⟩;simp only[go_sem,t0,G,J,S];refine⟨rfl,by omega,fun j E=>?_,fun b hb hn=>?_⟩
    .by_cases e6:j=i
     .subst e6
      rw[<- FC,q1,sN (.inl (by omega)),acQ hi,sO Yk,<- et,<- ep,<- eW]
     .have g8:rb[j]≠bi:=fun e=>e6 (by rw[FC]at e;exact(uP c0).mp e)
      rw[q3 _ (by have:=E5 j E;omega) g8,rows j E]
      by_cases Y:j<i\/j=r
      .rw[sN Y,sN (by omega)]
      .rw[sO Y,sO (by omega)]
    .rw[q3 b (by omega) (fun e=>hn (by rw[e,FC];exact zu b8))]
     exact fr b hb hn) (by
   clear hL;rintro ⟨T,σ2,m0⟩ ⟨t0,G,J,S,b4,hm,rows,fr⟩;simp only at t0 G J S b4 hm rows;refine⟨_,by simp only[go_sem,S,b4,zi];rfl,by simp,_,_,_,rfl,?_⟩;simp only[go_sem,t0,G,J];refine⟨hm,fun j E=>?_,fr⟩;rw[rows j E,sN (.inl (by omega))]) (by
   simp only[go_sem,t0,G,J];refine⟨f6,fun j E=>?_,fun b hb hn=>c4 b hb fun e=>hn (by rw[e,Yn];exact zu a0)⟩
   by_cases Y:j=r
   .subst Y
    rw[sN (.inr rfl),c3,<- Yn];exact f7
   .rw[sO (by omega),c4 _ (E5 j E) (fun e=>Y (by rw[Yn]at e;exact(uP c0).mp e))]
    exact c5 j E)
 have e1:σ2 bt=_:=(Ed bt TN n4).trans ht;have e2:σ2 br=_:=(Ed br TP n9).trans b6;have e3:σ2 bc=_:=(Ed bc d5 n7).trans hc;have d3:σ2 bR=some ⟨W.flatMap cQ,3,true⟩:=by rw[Yn,EI r a0,c3]
 have l1:bt<m2:=by omega
 have l2:br<m2:=by omega
 have l3:bc<m2:=by omega
 have l4:bR<m2:=by omega
 have z1:(bt==bc)=false:=beq_false_of_ne n1;have z2:(bt==bR)=false:=beq_false_of_ne (yu nR.1);have z3:(br==bc)=false:=beq_false_of_ne (yu n5);have z4:(br==bR)=false:=beq_false_of_ne (yu nR.2.2.1);obtain⟨s3,m3,b9,kc,pe,q1,q2,q3⟩:=UD (σ:=σ2) (nx:=m2) (k:=k) hs.Gu e5 hN (by omega) hs.al1 bW e3 d3 (yu nR.2.1) l3 l4;have d1:b9 bt=_:=(q3 bt l1 n1).trans e1;have d2:b9 bb=_:=(q3 bb (by omega) (yu n6)).trans ((Ed bb f1 c8).trans f0);have hB:(Ce D.B).length=D.R.length:=by rw[aA];exact hs.Bz
 have g9:r<(Ce D.B).length:=by omega
 have h1:((Ce D.B).flatMap cI).set r (I k)=(Ce (D.B.set r k)).flatMap cI:=by
  rw[qL];unfold Ce;rw[List.map_set]
 obtain⟨BN,e4⟩:∃BN,BN=upd b9 bb (some ⟨(Ce (D.B.set r k)).flatMap cI,1,true⟩):=⟨_,rfl⟩;have f4:∀b,b<nx->b≠bb->BN b=b9 b:=fun b _ hn=>by rw[e4,Zj _ _ hn]
 have d4:(NP D r k).R.length=D.R.length:=pl;refine⟨BN,m3,by simp only[go_sem,t0,G,J,e1,e2,e3,a1,a2,a5,l1,l2,l3,l4,z1,z2,z3,z4,kc,pe,d1,d2,g9,h1,<- e4],⟨?_,?_,fun j E=>?_,?_,?_,by rw[d4];exact hlen,?_⟩,by omega,fun b hb hn=>?_⟩
 .rw[f4 bt TN n3];exact d1
 .rw[d4]
  exact .inr ⟨br,by omega,rfl,by rw[f4 br TP n8,q3 br l2 (yu n5)];exact e2⟩
 .have:=c9 j E
  rw[f4 _ (E5 j E) this.2.2.2,q3 _ (by have:=E5 j E;omega) this.2.1];exact EI j E
 .rw[d4]
  exact .inr ⟨bb,by omega,rfl,by rw[e4,Zi];rfl⟩
 .rw[f4 bc d5 n6,q1,eW,et,ep]
  rfl
 .simp only[bk,yS,yM,xW,zX,not_or]
  exact⟨⟨n1,n2,n3,n4⟩,⟨n5,n6,n7⟩,⟨n8,n9⟩,c8,c0⟩
 .simp only[zX,not_or]at hn
  rw[f4 b hb hn.2.1,q3 b (by omega) hn.1,Ed b hb hn.2.2]
def Rn(x:List Rat):List V:=[LL cQ x]
def FZ(D:TQ)(N:Nat):List V:=[I N,LL Rn D.R,LI (Ce D.B),LL cQ D.c]
def OO(D:TQ)(N:Nat):V:=.tp (FZ D N) 0
theorem Ro{R:List (List Rat)}{i:Nat}(h:i<R.length):(R.flatMap Rn)[i]?=some (LL cQ (Eo R i)):=by
 have:=bg (fun x=>LL cQ x) R i h;rw[dN h];exact this
theorem oC{R:List (List Rat)}{i j:Nat}(h:j<(Eo R i).length):(Eo R i)[j]=Cc R i j:=(lF h 0).symm
theorem pY{R:List (List Rat)}{i j:Nat}(E:j<(Eo R i).length):(((Eo R i).flatMap cQ).drop (j*3)).take 3=cQ (Cc R i j):=by
 rw[cO qH (Eo R i) j E,oC E]
theorem apJ{D:TQ}{N:Nat}(hl:D.B.length<=100000)(s:Nat):fn ZK conv ext 193 [OO D N,I s]=some (Bo (decide (s∈D.B))):=by
 have tl:=aA D.B;unfold OO FZ;rw[m_,mg [.tmp 4] [] func193];simp only[go_sem];generalize hL:jI _ _=y;obtain⟨r,rfl,hr⟩:=oZ hL (Ce D.B).length (fun k st=>st.T 1=I s/\st.T 10=LI (Ce D.B)/\st.T 11=I (Ce D.B).length/\st.T 12=I k/\∀i (h:i<D.B.length),i<k->D.B[i]≠s)
  (fun r=>(∃T σ nx,r=(.exit 0,⟨T,σ,nx⟩)/\s∉D.B)\/(∃T σ nx,r=(.ret,⟨T,σ,nx⟩)/\T 4=Bo true/\s∈D.B)) (by
   clear hL;rintro k ⟨T,σ,nx⟩ Y ⟨S,G,E,J,hi⟩;simp only at S G E J;have f1:(k:Int)<((Ce D.B).length:Int):=by omega
   have f2:=jC k;have f3:=ZR (n:=(k:Int)+1);have f5:=Bg (Ce D.B) k Y;have O:k<D.B.length:=by omega
   have f6:=idx Y;rw[aB O,lF O 0]at f6
   by_cases hp:D.B[k]=s
   .have c1:((D.B[k]:Int)==(s:Int))=true:=by rw[beq_iff_eq];omega
    refine .inr ⟨_,by simp only[go_sem,S,G,E,J,f1,f2,f5,f6,c1];rfl,by simp,.inr ⟨_,_,_,rfl,?_⟩⟩;simp only[go_sem];rw[<- hp];exact zu O
   .have c1:((D.B[k]:Int)==(s:Int))=false:=by rw[sJ];omega
    refine .inl ⟨_,by simp only[go_sem,S,G,E,J,f1,f2,f3,f5,f6,c1];rfl,?_⟩;simp only[go_sem,S,G,E];refine⟨rfl,fun i h a0=>?_⟩
    by_cases e:i=k
    .subst e;exact hp
    .exact hi i h (by omega)) (by
   clear hL;rintro ⟨T,σ,nx⟩ ⟨S,G,E,J,hi⟩;simp only at S G E J;refine⟨_,by simp only[go_sem,E,J,zi];rfl,by simp,.inl ⟨_,_,_,rfl,fun hm=>?_⟩⟩;obtain⟨i,h,e⟩:=yc hm;exact hi i h (by omega) e) (by
   simp only[go_sem];exact fun i _ h=>absurd h (zU _))
 rcases hr with ⟨T,σ,nx,rfl,hx⟩|⟨T,σ,nx,rfl,h4,hx⟩
 .rw[sG hx];simp only[go_sem]
 .rw[sH hx];simp only[go_sem,h4]
theorem dw{q j:Nat}:∀ {R:List (List Rat)} {B:List Nat},(∀b∈B,b≠q)->IJ q j R B=0
 |[],_,_=>by cases ‹List Nat›<;>rfl
 |_ :: _,[],_=>rfl
 |x :: R,b :: B,h=>by
  show(if b=q then x.getD j 0 else 0)+IJ q j R B=0;rw[sO (h b zL),dw fun c hc=>h c (zY _ hc)];grind
theorem X_{q j:Nat}:∀ {R:List (List Rat)} {B:List Nat} {i:Nat},B.Nodup->B.length=R.length->(h:i<B.length)->B[i]=q->IJ q j R B=Cc R i j
 |[],B,i,_,hl,h,_=>by rw[yV]at hl;omega
 |_ :: _,[],i,_,hl,h,_=>by simp at h
 |x :: R,b :: B,0,hn,hl,h,e=>by
  show(if b=q then x.getD j 0 else 0)+IJ q j R B=_;have e:b=q:=e;rw[xW]at hn;rw[sN e,dw fun c hc J=>hn.1 (by rw[e,<- J];exact hc)];show x.getD j 0+0=x.getD j 0;grind
 |x :: R,b :: B,i+1,hn,hl,h,e=>by
  show(if b=q then x.getD j 0 else 0)+IJ q j R B=_;rw[xW]at hn;have E:i<B.length:=by simpa using h
  have G:B[i]=q:=e;rw[sO fun hb=>hn.1 (by rw[hb,<- G];exact zu E),X_ hn.2 (by simpa using hl) E G];show 0+Cc R i j=Cc R i j;grind
theorem OQ{g:Nat->Rat}{q:Nat}(G:Zr q g)(J:g q≠0):∀ {d:Nat},q<d->(Lp d g↔0<g q)
 |0,h=>absurd h (zU _)
 |d+1,h=>by
  show(Lp d g\/(Zr d g/\0<g d))↔_
  by_cases e:q=d
  .subst e
   constructor
   .rintro (E|E)
    .exact absurd G E.GU
    .exact E.2
   .exact fun E=> .inr ⟨G,E⟩
  .have O:=OQ G J (d:=d) (by omega)
   constructor
   .rintro (E|E)
    .exact O.mp E
    .exact absurd (E.1 q (by omega)) J
   .exact fun E=> .inl (O.mpr E)
def UE(D:TQ)(s k:Nat)(z:Int):Prop:=(z=0/\Zr (k+1) (LU D s))\/(z≠0/\∃q,q<=k/\Zr q (LU D s)/\LU D s q≠0/\(0<z↔0<LU D s q))
theorem Ya(q:Rat):0<Az q.num 0↔0<q:=by
 have:=UC q;constructor
 .intro h;exact zh fun hn=>by have:=this.mpr hn;omega
 .intro h
  have E:¬Az q.num 0<=0:=fun e=>this.mp e h
  omega
theorem UF(q:Rat):Az q.num 0=0↔q=0:=by
 have:=aij q;constructor
 .intro h;rw[h]at this;exact of_decide_eq_true this.symm
 .intro h;rw[sH h]at this;exact beq_iff_eq.mp this
theorem UE.zero(D:TQ)(s:Nat):UE D s 0 (Az (D.c.getD s 0).num 0):=by
 have e:LU D s 0=D.c.getD s 0:=rfl
 by_cases h:D.c.getD s 0=0
 .refine .inl ⟨(UF _).mpr h,fun q E=>?_⟩
  have:q=0:=by omega
  subst this;rw[e,h]
 .exact .inr ⟨fun G=>h ((UF _).mp G),0,zq _,fun q E=>absurd E (zU _),by rw[e];exact h,by rw[e];exact Ya _⟩
theorem UE.next{D:TQ}{s k:Nat}(h:UE D s k 0){w:Rat}(hw:LU D s (k+1)=w):UE D s (k+1) (Az w.num 0):=by
 rcases h with ⟨_,G⟩|⟨h,_⟩
 .by_cases E:w=0
  .exact .inl ⟨(UF _).mpr E,Zr.succ.mpr ⟨G,by rw[hw,E]⟩⟩
  .exact .inr ⟨fun J=>E ((UF _).mp J),k+1,zq _,G,by rw[hw];exact E,by rw[hw];exact Ya _⟩
 .exact absurd rfl h
theorem UE.pos{D:TQ}{s k d:Nat}{z:Int}(h:UE D s k z)(hd:k<d)(J:z=0->k+1=d):0<z↔Lp d (LU D s):=by
 rcases h with ⟨G,E⟩|⟨G,q,E,O,S,Y⟩
 .subst G
  rw[J rfl]at E;exact⟨fun h=>absurd h (by decide),fun h=>absurd E h.GU⟩
 .rw[Y,OQ O S (by omega)]
theorem atm{D:TQ}{N:Nat}(h:ShF D N)(b3:D.B.Nodup){s:Nat}(hs:s<N)(b4:s∉D.B)(lex:Bool) :
  ∃z,fn ZK conv ext 194 [OO D N,I s,Bo lex]=some (I z)/\(0<z↔Lp (if lex=true then N+1 else 1) (LU D s)):=by
 have hN:=h.sz;have tl:(Ce D.B).length=D.R.length:=by rw[aA];exact h.Bz
 have hR:=h.Gv;have a1:=jC s;have a2:(s:Int)<(D.c.length:Int):=by have:=h.Gu;omega
 have a3:=bY (c:=cQ) (s:=3) qH (by omega) D.c s (by have:=h.Gu;omega);have a4:=cO (c:=cQ) (s:=3) qH D.c s (by have:=h.Gu;omega);rw[<- lF (by have:=h.Gu;omega) 0]at a4;have a5:=bU (c:=cQ) (s:=3) qH D.c;have a6:s*3+3<=D.c.length*3:=by have:=h.Gu;omega
 have b5:Ln 6 (D.c.getD s 0):=by rw[lF (by have:=h.Gu;omega)];exact h.al1 _ (zu _)
 have k1:=dH (D.c.getD s 0) (b5.mono (by decide));unfold OO FZ;rw[m_,mg [.tmp 6] [] func194];simp only[go_sem,a1,a2,a3,a4,a5,a6,k1];have b7:=h.Gu;have m1:((0:Int)==0)=true:=by decide
 generalize hL:jI _ _=y;obtain⟨x,rfl,hx⟩:=oZ hL N (fun k st=>st.T 0= .tp (FZ D N) 0/\st.T 1=I s/\st.T 2=Bo lex/\st.T 8=I k/\(lex=false->k=0)/\∃z,st.T 7=I z/\UE D s k z)
  (fun x=>(∃T σ nx z,x=(.exit 0,⟨T,σ,nx⟩)/\T 7=I z/\(0<z↔Lp (if lex=true then N+1 else 1) (LU D s)))\/(∃T σ nx,x=(.ret,⟨T,σ,nx⟩)/\T 6=I (-1)/\¬Lp (if lex=true then N+1 else 1) (LU D s))) (by
   clear hL;rintro k ⟨T,σ,nx⟩ hk ⟨t0,G,J,O,a8,z,E,Y⟩;simp only at t0 G J O E;unfold FZ at t0;have f1:(k:Int)<(N:Int):=by omega
   have f2:=jC k;have f3:=ZR (n:=(k:Int)+1)
   by_cases z0:z=0
   .subst z0
    cases lex with
    |false=>
     have b6:=a8 rfl;subst b6;refine .inr ⟨_,by simp only[go_sem,t0,G,J,O,E,m1];rfl,by simp,.inl ⟨_,_,_,0,rfl,?_⟩⟩;simp only[go_sem,E];exact Y.pos (by decide) fun _=>rfl
    |true=>
     by_cases b2:k=s
     .have c1:((k:Int)==(s:Int))=true:=by rw[b2];simp
      refine .inr ⟨_,by simp only[go_sem,t0,G,J,O,E,m1,f1,c1];rfl,by simp,.inr ⟨_,_,_,rfl,?_⟩⟩;simp only[go_sem];have e:LU D s (s+1)= -1:=by
       unfold LU;rw[sO (by omega),sN rfl];show -1+IJ s s D.R D.B= -1;rw[dw fun b hb (e:b=s)=>b4 (by rw[<- e];exact hb)];grind
      rw[b2]at Y;rcases Y with ⟨_,Y⟩|⟨Y,_⟩
      .rw[OQ Y (by rw[e];decide) (by omega),e];decide
      .exact absurd rfl Y
     .have c1:((k:Int)==(s:Int))=false:=by rw[sJ];omega
      have eg:LU D s (k+1)=IJ k s D.R D.B:=by
       unfold LU;rw[sO (by omega),sO (by omega)];show 0+IJ k s D.R D.B=_;grind
      refine bC ?_
      conv=>
       enter [1,r,1,1]
       simp only[go_sem,t0,G,J,O,E,m1,f1,c1]
      generalize hL:jI _ _=y;obtain⟨x,rfl,T1,b8,qI,rfl,t0,G,J,O,E⟩:=oZ hL D.R.length (fun i st=>st.T 0= .tp (FZ D N) 0/\st.T 1=I s/\st.T 2=Bo true/\st.T 8=I k/\st.T 40=LI (Ce D.B)/\st.T 41=I D.R.length/\st.T 42=I i/\∃w:Rat,st.T 7=I (Az w.num 0)/\((∃j,∃hj:j<D.B.length,j<i/\D.B[j]=k/\w=Cc D.R j s)\/((∀j (hj:j<D.B.length),j<i->D.B[j]≠k)/\w=0)))
       (fun x=>∃T σ nx,x=(.exit 2,⟨T,σ,nx⟩)/\T 0= .tp (FZ D N) 0/\T 1=I s/\T 2=Bo true/\T 8=I k/\T 7=I (Az (IJ k s D.R D.B).num 0)) (by
        clear hL;rintro i ⟨T,σ,nx⟩ hi ⟨t0,G,J,O,a0,S,a7,w,E,hw⟩;simp only at t0 G J O a0 S a7 E;have g1:(i:Int)<(D.R.length:Int):=by omega
        have g2:=jC i;have g3:=ZR (n:=(i:Int)+1);have g4:=Bg (Ce D.B) i (by omega);have a9:i<D.B.length:=by have:=h.Bz;omega
        have g5:=idx (xs:=Ce D.B) (k:=i) (by omega);rw[aB a9,lF a9 0]at g5
        by_cases hb:D.B[i]=k
        .have c2:((D.B[i]:Int)==(k:Int))=true:=by rw[beq_iff_eq];omega
         have rl:=dM h.row hi;have r1:=Ro hi;have r2:=bY (c:=Rn) (s:=1) (fun _=>rfl) (by omega) D.R i hi;have r3:(s:Int)<((Eo D.R i).length:Int):=by omega
         have r4:=bY (c:=cQ) (s:=3) qH (by omega) (Eo D.R i) s (by omega);have r5:=pY (R:=D.R) (i:=i) (j:=s) (by omega);have r6:=bU (c:=cQ) (s:=3) qH (Eo D.R i);have r7:s*3+3<=(Eo D.R i).length*3:=by omega
         have bq:Ln 6 (Cc D.R i s):=by
          rw[<- oC (by omega)];exact h.big _ (by rw[dN hi];exact zu hi) _ (zu _)
         have k2:=dH (Cc D.R i s) (bq.mono (by decide));unfold FZ at t0;refine .inl ⟨_,by simp only[go_sem,t0,G,J,O,a0,S,a7,E,tl,g1,g2,g3,g4,g5,c2,a1,r1,r2,r3,r4,r5,r6,r7,k2];rfl,?_⟩;simp only[go_sem,t0,G,J,O,a0,S];exact⟨rfl,rfl,_,rfl,.inl ⟨i,a9,by omega,hb,rfl⟩⟩
        .have c2:((D.B[i]:Int)==(k:Int))=false:=by rw[sJ];omega
         refine .inl ⟨_,by simp only[go_sem,t0,G,J,O,a0,S,a7,E,tl,g1,g2,g3,g4,g5,c2];rfl,?_⟩;simp only[go_sem,t0,G,J,O,a0,S,E];refine⟨rfl,w,rfl,?_⟩;rcases hw with ⟨j,hj,h1,h2,h3⟩|⟨h1,h2⟩
         .exact .inl ⟨j,hj,by omega,h2,h3⟩
         .refine .inr ⟨fun j hj b9=>?_,h2⟩
          by_cases e:j=i
          .subst e;exact hb
          .exact h1 j hj (by omega)) (by
        clear hL;rintro ⟨T,σ,nx⟩ ⟨t0,G,J,O,a0,S,a7,w,E,hw⟩;simp only at t0 G J O a0 S a7 E;refine⟨_,by simp only[go_sem,S,a7,zi];rfl,by simp,_,_,_,rfl,?_⟩;simp only[go_sem,t0,G,J,O,E];have:w=IJ k s D.R D.B:=by
         rcases hw with ⟨j,hj,h1,h2,h3⟩|⟨h1,h2⟩
         .rw[X_ b3 h.Bz hj h2,h3]
         .rw[dw,h2]
          intro b hb e;obtain⟨j,hj,e2⟩:=yc hb;exact h1 j hj (by have:=h.Bz;omega) (e2.trans e)
        rw[this]) (by
        simp only[go_sem,t0,G,J,O,E,tl];exact⟨rfl,0,rfl,.inr ⟨fun j _ hj=>absurd hj (zU _),rfl⟩⟩)
      refine⟨_,by simp only[go_sem,O,f3];rfl,.inl ⟨_,rfl,?_⟩⟩;simp only[go_sem,t0,G,J,E];exact⟨rfl,by simp,_,rfl,Y.next eg⟩
   .have c0:(z==(0:Int))=false:=by rw[sJ];exact z0
    refine .inr ⟨_,by simp only[go_sem,t0,G,J,O,E,c0];rfl,by simp,.inl ⟨_,_,_,z,rfl,?_⟩⟩;simp only[go_sem,E];refine Y.pos ?_ fun e=>absurd e z0
    cases lex with
    |false=>have:=a8 rfl;simp;omega
    |true=>simp;omega) (by
   clear hL;rintro ⟨T,σ,nx⟩ ⟨t0,G,J,O,a8,z,E,Y⟩;simp only at t0 G J O E;unfold FZ at t0;have fin:0<z↔Lp (if lex=true then N+1 else 1) (LU D s):=by
    cases lex with
    |false=>have:=a8 rfl;omega
    |true=>exact Y.pos (by simp) fun _=>by simp
   by_cases z0:z=0
   .subst z0
    cases lex with
    |false=>have:=a8 rfl;omega
    |true=>
     refine⟨_,by simp only[go_sem,t0,G,J,O,E,m1,zi];rfl,by simp,.inl ⟨_,_,_,0,rfl,?_⟩⟩;simp only[go_sem,E];exact fin
   .have c0:(z==(0:Int))=false:=by rw[sJ];exact z0
    refine⟨_,by simp only[go_sem,t0,G,J,O,E,c0];rfl,by simp,.inl ⟨_,_,_,z,rfl,?_⟩⟩;simp only[go_sem,E];exact fin) (by
   simp only[go_sem];exact⟨rfl,fun _=>trivial,_,rfl,UE.zero D s⟩)
 rcases hx with ⟨T,σ,nx,z,rfl,E,Y⟩|⟨T,σ,nx,rfl,t6,Y⟩
 .exact⟨z,by simp only[go_sem,E],Y⟩
 .exact⟨-1,by simp only[go_sem,t6],fun h=>absurd h (by decide),fun h=>absurd h Y⟩
def qo(D:TQ)(N k i:Nat):Rat:=Cc D.R i N / Cc D.R i k
def Ey(D:TQ)(N k i:Nat)(r:Int):Prop :=
 (r= -1/\∀j,j<i->¬0<Cc D.R j k)\/∃r':Nat,r=r'/\r'<i/\0<Cc D.R r' k/\(∀j,j<i->0<Cc D.R j k->qo D N k r'<=qo D N k j) /\
  ∀j,j<i->0<Cc D.R j k->qo D N k r'=qo D N k j->D.B.getD r' 0<=D.B.getD j 0
section
variable {D:TQ} {N k i:Nat} {r:Int}
theorem Ey.skip(h:Ey D N k i r)(hn:¬0<Cc D.R i k):Ey D N k (i+1) r:=by
 have G:∀j,j<i+1->0<Cc D.R j k->j<i:=fun j E hp=>by
  by_cases e:j=i
  .subst e;exact absurd hp hn
  .omega
 rcases h with ⟨rfl,h⟩|⟨r',rfl,Y,J,O,S⟩
 .exact .inl ⟨rfl,fun j E hp=>h j (G j E hp) hp⟩
 .exact .inr ⟨r',rfl,by omega,J,fun j E hp=>O j (G j E hp) hp,fun j E hp=>S j (G j E hp) hp⟩
theorem Ey.first(h:Ey D N k i (-1))(hp:0<Cc D.R i k):Ey D N k (i+1) i:=by
 rcases h with ⟨_,h⟩|⟨r',e,_⟩
 .have J:∀j,j<i+1->0<Cc D.R j k->j=i:=fun j G hp=>by
   by_cases e:j=i
   .exact e
   .exact absurd hp (h j (by omega))
  exact .inr ⟨i,rfl,by omega,hp,fun j G E=>by rw[J j G E];grind,fun j G E _=>by rw[J j G E];exact zq _⟩
 .omega
theorem Ey.better{r:Nat}(h:Ey D N k i r)(hp:0<Cc D.R i k)(hc:qo D N k i<qo D N k r\/(qo D N k i=qo D N k r/\D.B.getD i 0<D.B.getD r 0)):Ey D N k (i+1) i:=by
 rcases h with ⟨e,_⟩|⟨r',e,S,Y,G,J⟩
 .omega
 .have:r=r':=by omega
  subst this;refine .inr ⟨i,rfl,by omega,hp,fun j O E=>?_,fun j O E he=>?_⟩
  .by_cases e:j=i
   .subst e;grind
   .have:=G j (by omega) E;grind
  .by_cases e:j=i
   .subst e;exact zq _
   .have g1:=G j (by omega) E
    rcases hc with hc|⟨hc,hb⟩
    .grind
    .have:=J j (by omega) E (by grind);omega
theorem Ey.keep{r:Nat}(h:Ey D N k i r)(hc:qo D N k r<qo D N k i\/(qo D N k i=qo D N k r/\D.B.getD r 0<=D.B.getD i 0)):Ey D N k (i+1) r:=by
 rcases h with ⟨e,_⟩|⟨r',e,h1,G,J,O⟩
 .omega
 .have:r=r':=by omega
  subst this;refine .inr ⟨r,rfl,by omega,G,fun j S E=>?_,fun j S E Y=>?_⟩
  .by_cases e:j=i
   .subst e;grind
   .exact J j (by omega) E
  .by_cases e:j=i
   .subst e
    rcases hc with hc|⟨hc,hb⟩
    .grind
    .exact hb
   .exact O j (by omega) E Y
end
theorem al2(x y:Rat):Az (x.num*y.den) (y.num*x.den)<0↔x<y:=by
 rw[Rat.lt_iff];unfold Az
 by_cases h:x.num*y.den<y.num*x.den
 .rw[sN h];exact⟨fun _=>h,fun _=>by decide⟩
 .rw[sO h]
  refine⟨fun E=>?_,fun E=>absurd E h⟩
  split at E<;>exact absurd E (by decide)
theorem al3(x y:Rat):(Az (x.num*y.den) (y.num*x.den)==0)=decide (x=y):=by
 have E:=Rat.lt_iff x y;have G:=Rat.lt_iff y x
 by_cases e:x=y
 .rw[sH e]
  subst e;unfold Az;rw[sO (by omega),sN rfl];rfl
 .rw[sG e]
  by_cases J:x<y
  .unfold Az;rw[sN (E.mp J)];rfl
  .have O:y<x:=by grind
   have:=G.mp O;unfold Az;rw[sO (by omega),sO (by omega)];rfl
theorem apK{x y:Rat}{a b:Nat}(E:Ln a x)(G:Ln b y)(J:y.num≠0)(O:1<=a+b):Ln (a+b) (x / y):=by
 rw[agE x y J];have S:=jW x.num.natAbs y.den;have Y:=jW x.den y.num.natAbs;have:=E.1;have:=E.2;have:=G.1;have:=G.2;exact acA (by rw[abr];omega) (by omega) O
theorem ae9(a b:Rat):patch (cQ a) 0 (cQ b)=cQ b:=rfl
attribute [go_sem] ae9
theorem apL{D:TQ}{N:Nat}(h:ShF D N){k:Nat}(hk:k<N) :
  ∃r,fn ZK conv ext 195 [OO D N,I k]=some (I r)/\Ey D N k D.R.length r:=by
 have hN:=h.sz;have tl:(Ce D.B).length=D.R.length:=by rw[aA];exact h.Bz
 have hR:=h.Gv;have a1:=jC k;have m1:(-1:Int)<0:=by decide
 have bq:∀i j,i<D.R.length->j<N+1->Ln 6 (Cc D.R i j):=fun i j hi hj=>by
  have rl:=dM h.row hi;rw[<- oC (by omega)];exact h.big _ (by rw[dN hi];exact zu hi) _ (zu _)
 have nz:∀i,0<Cc D.R i k->(Cc D.R i k).num≠0:=fun i hp e=>by have:=iy.mp e;grind
 have lq:∀i,i<D.R.length->0<Cc D.R i k->Ln 12 (qo D N k i):=fun i hi hp=>apK (a:=6) (b:=6) (bq i N hi (by omega)) (bq i k hi (by omega)) (nz i hp) (by decide)
 unfold OO FZ;rw[m_,mg [.tmp 4] [7,8] func195];simp only[go_sem];generalize hL:jI _ _=y;obtain⟨x,rfl,T',σ',nx',r,rfl,O,hb⟩:=oZ hL D.R.length (fun i st=>st.T 0= .tp (FZ D N) 0/\st.T 1=I k/\st.T 6= .rp 0 0/\st.T 14=LL Rn D.R/\st.T 15=I D.R.length/\st.T 16=I i/\1<=st.nx/\∃r,st.T 5=I r/\Ey D N k i r/\∃cs,st.σ 0=some ⟨cs,0,true⟩/\(∃u v w,cs=[u,v,w])/\∀r':Nat,r=r'->cs=cQ (qo D N k r'))
  (fun x=>∃T σ nx r,x=(.exit 0,⟨T,σ,nx⟩)/\T 5=I r/\Ey D N k D.R.length r) (by
   clear hL;rintro i ⟨T,σ,nx⟩ hi ⟨S,Y,h6,FT,E,G,a2,r,O,hb,cs,a3,a8,a6⟩;simp only at S Y h6 FT E G a2 O a3;unfold FZ at S;obtain⟨u,v,w,rfl⟩:=a8;have f1:(i:Int)<(D.R.length:Int):=by omega
   have f2:=jC i;have f3:=ZR (n:=(i:Int)+1);have rl:=dM h.row hi;have r1:=Ro hi;have r2:=bY (c:=Rn) (s:=1) (fun _=>rfl) (by omega) D.R i hi;have r3:(k:Int)<((N+1:Nat):Int):=by omega
   have r4:=bY (c:=cQ) (s:=3) qH (by omega) (Eo D.R i) k (by omega);have r5:=pY (R:=D.R) (i:=i) (j:=k) (by omega);have r6:=bU (c:=cQ) (s:=3) qH (Eo D.R i);rw[rl]at r6;have r7:k*3+3<=(N+1)*3:=by omega
   have s1:=dH (Cc D.R i k) ((bq i k hi (by omega)).mono (by decide))
   by_cases hp:0<Cc D.R i k
   .have c1:¬Az (Cc D.R i k).num 0<=0:=fun e=>(UC _).mp e hp
    have w1:=ZR (n:=((N+1:Nat):Int) - 1);have w2:((N+1:Nat):Int) - 1=(N:Int):=by omega
    rw[w2]at w1;have n0:=jC N;have n3:(N:Int)<((N+1:Nat):Int):=by omega
    have n5:=pY (R:=D.R) (i:=i) (j:=N) (by omega);have n7:N*3+3<=(N+1)*3:=by omega
    have k1:=amZ (Cc D.R i N) (Cc D.R i k) (bq i N hi (by omega)) (bq i k hi (by omega)) (by decide) (nz i hp);rw[show Cc D.R i N / Cc D.R i k=qo D N k i from rfl]at k1;have z0:¬(0:Nat)=nx:=by omega
    have z1:0<nx+1:=by omega
    have z2:nx<nx+1:=by omega
    rcases hb with ⟨rfl,hb⟩|⟨r',rfl,a9,a7,b2,b3⟩
    .refine .inl ⟨_,by simp only[go_sem,S,Y,h6,FT,E,G,O,a3,f1,f2,f3,r1,r2,rl,r3,r4,r5,r6,r7,s1,a1,c1,w1,w2,n0,n3,n5,n7,k1,m1,z0,z1,z2];rfl,?_⟩
     simp only[go_sem,S,Y,h6,FT,E,O,z0];exact⟨rfl,rfl,i,rfl,Ey.first (.inl ⟨rfl,hb⟩) hp,_,rfl,⟨_,_,_,rfl⟩,fun r' e=>by rw[show r'=i by omega]⟩
    .have a4:Ey D N k i r':=.inr ⟨r',rfl,a9,a7,b2,b3⟩
     have J:σ 0=some ⟨cQ (qo D N k r'),0,true⟩:=by rw[a3,a6 r' rfl]
     have q0:¬(r':Int)<0:=by omega
     have q1:(r':Int)<(D.R.length:Int):=by omega
     have q2:(0:Int)<=(r':Int):=by omega
     have q3:=Bg (Ce D.B) i (by omega);have q4:=idx (xs:=Ce D.B) (k:=i) (by omega);rw[aB (by have:=h.Bz;omega)]at q4;have q5:=Bg (Ce D.B) r' (by omega);have q6:=idx (xs:=Ce D.B) (k:=r') (by omega);rw[aB (by have:=h.Bz;omega)]at q6;have k2:=atj (qo D N k i) (qo D N k r') (lq i hi hp) (lq r' (by omega) a7) (by decide) (by decide) (by decide);have e1:=al2 (qo D N k i) (qo D N k r');have e2:=al3 (qo D N k i) (qo D N k r');generalize Az ((qo D N k i).num*(qo D N k r').den) ((qo D N k r').num*(qo D N k i).den)=z at k2 e1 e2
     by_cases g1:qo D N k i<qo D N k r'
     .have a0:=e1.mpr g1
      refine .inl ⟨_,by simp only[go_sem,S,Y,h6,FT,E,G,O,J,f1,f2,f3,r1,r2,rl,r3,r4,r5,r6,r7,s1,a1,c1,w1,w2,n0,n3,n5,n7,k1,k2,q0,a0,z0,z1,z2];rfl,?_⟩;simp only[go_sem,S,Y,h6,FT,E,O,z0];exact⟨rfl,rfl,i,rfl,a4.better hp (.inl g1),_,rfl,⟨_,_,_,rfl⟩,fun r' e=>by rw[show r'=i by omega]⟩
     .have a0:¬z<0:=fun e=>g1 (e1.mp e)
      by_cases g2:qo D N k i=qo D N k r'
      .rw[sH g2]at e2
       by_cases g3:D.B.getD i 0<D.B.getD r' 0
       .have a5:((D.B.getD i 0:Nat):Int)<((D.B.getD r' 0:Nat):Int):=by omega
        refine .inl ⟨_,by simp only[go_sem,S,Y,h6,FT,E,G,O,J,tl,f1,f2,f3,r1,r2,rl,r3,r4,r5,r6,r7,s1,a1,c1,w1,w2,n0,n3,n5,n7,k1,k2,q0,q1,q2,q3,q4,q5,q6,a0,e2,a5,z0,z1,z2];rfl,?_⟩;simp only[go_sem,S,Y,h6,FT,E,O,z0];exact⟨rfl,rfl,i,rfl,a4.better hp (.inr ⟨g2,g3⟩),_,rfl,⟨_,_,_,rfl⟩,fun r' e=>by rw[show r'=i by omega]⟩
       .have a5:¬((D.B.getD i 0:Nat):Int)<((D.B.getD r' 0:Nat):Int):=by omega
        refine .inl ⟨_,by simp only[go_sem,S,Y,h6,FT,E,G,O,J,tl,f1,f2,f3,r1,r2,rl,r3,r4,r5,r6,r7,s1,a1,c1,w1,w2,n0,n3,n5,n7,k1,k2,q0,q1,q2,q3,q4,q5,q6,a0,e2,a5,z0,z1,z2];rfl,?_⟩;simp only[go_sem,S,Y,h6,FT,E,O,z0,J];exact⟨rfl,rfl,r',rfl,a4.keep (.inr ⟨g2,by omega⟩),_,rfl,⟨_,_,_,rfl⟩,fun r2 e=>by rw[show r2=r' by omega]⟩
      .rw[sG g2]at e2
       refine .inl ⟨_,by simp only[go_sem,S,Y,h6,FT,E,G,O,J,tl,f1,f2,f3,r1,r2,rl,r3,r4,r5,r6,r7,s1,a1,c1,w1,w2,n0,n3,n5,n7,k1,k2,q0,a0,e2,z0,z1,z2];rfl,?_⟩;simp only[go_sem,S,Y,h6,FT,E,O,z0,J];exact⟨rfl,rfl,r',rfl,a4.keep (.inl (by grind)),_,rfl,⟨_,_,_,rfl⟩,fun r2 e=>by rw[show r2=r' by omega]⟩
   .have c1:Az (Cc D.R i k).num 0<=0:=(UC _).mpr hp
    refine .inl ⟨_,by simp only[go_sem,S,Y,h6,FT,E,G,O,f1,f2,f3,r1,r2,rl,r3,r4,r5,r6,r7,s1,a1,c1];rfl,?_⟩;simp only[go_sem,S,Y,h6,FT,E,O];exact⟨rfl,rfl,a2,r,rfl,hb.skip hp,_,a3,⟨_,_,_,rfl⟩,a6⟩) (by
   clear hL;rintro ⟨T,σ,nx⟩ ⟨S,Y,h6,FT,E,G,a2,r,O,hb,_⟩;simp only at S Y h6 FT E G a2 O;refine⟨_,by simp only[go_sem,E,G,zi];rfl,by simp,_,_,_,r,rfl,?_,hb⟩;simp only[go_sem,O]) (by
   simp only[go_sem];exact⟨rfl,-1,rfl,.inl ⟨rfl,fun j hj=>absurd hj (zU _)⟩,_,rfl,⟨_,_,_,rfl⟩,fun r' e=>by omega⟩)
 exact⟨r,by simp only[go_sem,O],hb⟩
theorem fA{σ:Store}{b n d:Nat}{x:List Rat}(h:σ b=some ⟨x.flatMap cQ,3,true⟩)(E:x.length=n):strip σ (d+1) (.rs b 0 n)=some (LL cQ x,[b]):=by
 have G:=bU (c:=cQ) (s:=3) qH x;rw[aQ,h];simp only[zk,yY,yZ];rw[sN (by omega),zl (by omega),aW (qG σ d) x];show some (V.ts _ n,[b])=_;rw[<- E]
theorem KJ{σ:Store}{n d:Nat}:∀ {rb:List Nat} {R:List (List Rat)},rb.length=R.length->(∀i (h:i<rb.length),σ rb[i]=some ⟨(Eo R i).flatMap cQ,3,true⟩)->(∀x∈R,x.length=n)->∃ids,stripL (strip σ (d+1)) (rb.map fun b=>V.rs b 0 n)=some (R.flatMap Rn,ids)
 |[],[],_,_,_=>⟨[],rfl⟩
 |[],_ :: _,h,_,_=>by simp at h
 |_ :: _,[],h,_,_=>by simp at h
 |b :: rb,x :: R,h,hr,hn=>by
  obtain⟨ids,hi⟩:=KJ (rb:=rb) (R:=R) (d:=d) (by simpa using h) (fun i hi=>by
   have:=hr (i+1) (by simpa using hi);exact this) fun y E=>hn y (zY _ E)
  have G:σ b=some ⟨x.flatMap cQ,3,true⟩:=hr 0 (by simp);refine⟨[b]++ids,?_⟩;rw[uK,ak,fA G (hn x zL)];simp only[zk];rw[hi];rfl
theorem GV.ain{σ:Store}{v:V}{n d:Nat}{cs t:List V}{ids:List Nat}(h:GV σ v n cs)(G:cs.length=n)(E:stripL (strip σ d) cs=some (t,ids)):∃J,strip σ (d+1) v=some (.ts t n,J):=by
 rcases h with ⟨rfl,rfl⟩|⟨b,hn,rfl,hb⟩
 .have:cs=[]:=zZ G
  subst this;rw[aX]at E;simp only[sS,sQ]at E;obtain⟨rfl,rfl⟩:=E;exact⟨[],by rw[aS]⟩
 .refine⟨b :: ids,?_⟩
  rw[aQ,hb];simp only[zk,yO,yY,yZ];rw[sN (by omega),zl (by omega),E];rfl
theorem abu{σ:Store}{bt bc:Nat}{vr vb:V}{rb:List Nat}{D:TQ}{N:Nat}(h:Fg σ bt bc vr vb rb D N)(hs:ShF D N):∃ids,strip σ 7 (.rp bt 0)=some (OO D N,ids):=by
 obtain⟨ids,E⟩:=KJ (d:=4) h.len h.row hs.row;obtain⟨S,Y⟩:=h.r.ain (by rw[zQ,h.len]) E;have O:(Ce D.B).length=D.R.length:=by rw[aA];exact hs.Bz
 obtain⟨G,s2⟩:=h.b.ain (d:=5) (by rw[qM,O]) (Dn ..);have J:strip σ 6 vb=some (LI (Ce D.B),G):=by
  rw[s2];show some (V.ts _ D.R.length,G)=some (V.ts _ (Ce D.B).length,G);rw[O]
 have s3:strip σ 6 (.rs bc 0 (N+1))=some (LL cQ D.c,[bc]):=fA (d:=5) h.c hs.Gu;have key:stripL (strip σ 6) [I N,vr,vb,.rs bc 0 (N+1)]=some (FZ D N,[]++(S++(G++([bc]++[])))):=by
  simp only[ak,Y,J,s3,aP,aX,zG,zk];rfl
 exact⟨_,by rw[M_,h.t,zk,key];rfl⟩
theorem atn(Qp:TQ->Prop){N:Nat}(lex:Bool){d:Nat}(hd:d=if lex=true then N+1 else 1)(hI:∀D,Qp D->ShF D N/\D.B.Nodup)(a5:∀D D',Qp D->NQ N d D D'->Qp D')
  {σ:Store} {nx bt bc:Nat} {vr vb:V} {rb:List Nat} {D:TQ} {n:Nat} (b3:Qp D) (hn:WY N d n D) (h:Fg σ bt bc vr vb rb D N) (b4:∀b∈bt :: bc :: (bk vr++bk vb++rb),b<nx) :
  ∃σ' nx' J D',ev ZK wI Am 167 [.rp bt 0,Bo lex] σ nx=some (Bo J,σ',nx')/\akQ N d D J D'/\Qp D'/\Fg σ' bt bc vr vb rb D' N/\nx<=nx'/\∀b,b<nx->b∉bc :: (bk vb++rb)->σ' b=σ b:=by
 rw[mg [.tmp 4] [] func167];simp only[go_sem];generalize hL:jI _ _=y;obtain⟨x,rfl,T1,a3,qI,J,D1,rfl,t4,hR,hQ,hT,O,fr⟩:=jP hL (fun m st=>st.T 0= .rp bt 0/\st.T 1=Bo lex/\nx<=st.nx/\(∀b,b<nx->b∉bc :: (bk vb++rb)->st.σ b=σ b)/\∃D1,GX N d D D1/\Qp D1/\Fg st.σ bt bc vr vb rb D1 N/\WY N d m D1)
  (fun x=>∃T σ' nx' J D',x=(.ret,⟨T,σ',nx'⟩)/\T 4=Bo J/\akQ N d D J D'/\Qp D'/\Fg σ' bt bc vr vb rb D' N/\nx<=nx'/\∀b,b<nx->b∉bc :: (bk vb++rb)->σ' b=σ b) (by
   clear hL;rintro m ⟨T,a3,qI⟩ ⟨t0,E,O,fr,D1,hr,hQ,hT,a7⟩;simp only at t0 E O hT;obtain⟨hS,b5⟩:=hI D1 hQ;obtain⟨ids,Y⟩:=abu hT hS;have a0:=hT.t;have hN:=hS.sz;refine bC ?_
   conv=>
    enter [1,r,1,1]
    simp only[go_sem,t0,E]
   generalize hL:jI _ _=z;obtain⟨x,rfl,T2,hx⟩:=oZ hL N (fun k st=>st.T 0= .rp bt 0/\st.T 1=Bo lex/\st.T 6=I k/\st.σ=a3/\st.nx=qI/\((st.T 5=I (-1)/\∀j,j<k->j∉D1.B->¬Lp d (LU D1 j))\/∃s:Nat,st.T 5=I s/\LV N d D1 s))
    (fun x=>∃T,x=(.exit 2,⟨T,a3,qI⟩)/\T 0= .rp bt 0/\T 1=Bo lex/\((T 5=I (-1)/\∀j,j<N->j∉D1.B->¬Lp d (LU D1 j))\/∃s:Nat,T 5=I s/\LV N d D1 s)) (by
     clear hL;rintro k ⟨T,σ2,CG⟩ hk ⟨t0,E,t6,a1,G,h5⟩;simp only at t0 E t6 a1 G h5;subst a1 G;have f1:(k:Int)<(N:Int):=by omega
     have f3:=ZR (n:=(k:Int)+1);rcases h5 with ⟨S,a2⟩|⟨s,S,hE⟩
     .have m1:(-1:Int)<0:=by decide
      have k1:=apJ (D:=D1) (N:=N) (by have:=hS.Bz;have:=hS.Gv;omega) k
      by_cases hB:k∈D1.B
      .rw[sH hB]at k1
       refine .inl ⟨_,by simp only[go_sem,t0,E,S,t6,a0,Y,f1,f3,m1,k1];rfl,?_⟩;simp only[go_sem,t0,E,S];refine⟨rfl,.inl fun j hj a4=>?_⟩
       by_cases e:j=k
       .subst e;exact absurd hB a4
       .exact a2 j (by omega) a4
      .rw[sG hB]at k1
       obtain⟨z,k2,hz⟩:=atm hS b5 hk hB lex;rw[<- hd]at hz
       by_cases hp:0<z
       .refine .inl ⟨_,by simp only[go_sem,t0,E,S,t6,a0,Y,f1,f3,m1,k1,k2,hp];rfl,?_⟩
        simp only[go_sem,t0,E];exact⟨rfl,.inr ⟨k,rfl,hk,hB,hz.mp hp,a2⟩⟩
       .refine .inl ⟨_,by simp only[go_sem,t0,E,S,t6,a0,Y,f1,f3,m1,k1,k2,hp];rfl,?_⟩
        simp only[go_sem,t0,E,S];refine⟨rfl,.inl fun j hj a4=>?_⟩
        by_cases e:j=k
        .subst e;exact fun hl=>hp (hz.mpr hl)
        .exact a2 j (by omega) a4
     .have m1:¬(s:Int)<0:=by omega
      refine .inr ⟨_,by simp only[go_sem,t0,E,S,t6,a0,f1,m1];rfl,by simp,_,rfl,?_⟩;simp only[go_sem,t0,E,S];exact .inr ⟨s,rfl,hE⟩) (by
     clear hL;rintro ⟨T,σ2,CG⟩ ⟨t0,E,t6,a1,G,h5⟩;simp only at t0 E t6 a1 G h5;subst a1 G;refine⟨_,by simp only[go_sem,t0,E,t6,a0,zi];rfl,by simp,_,rfl,?_⟩;simp only[go_sem,t0,E];exact h5) (by
     simp only[go_sem,t0,E];exact .inl fun j hj=>absurd hj (zU _))
   obtain⟨rfl,t0,E,h5⟩:=hx;rcases h5 with ⟨S,a8⟩|⟨s,S,hE⟩
   .have m1:(-1:Int)<0:=by decide
    refine⟨_,by simp only[go_sem,t0,E,S,m1];rfl,.inr ⟨by simp,_,_,_,true,D1,rfl,?_⟩⟩;simp only[go_sem];exact⟨⟨hr,.inl ⟨rfl,a8⟩⟩,hQ,hT,O,fr⟩
   .have m1:¬(s:Int)<0:=by omega
    obtain⟨r,k3,hb⟩:=apL hS hE.lt;rcases hb with ⟨rfl,hb⟩|⟨r',rfl,a9,b6,b7,b8⟩
    .have m2:(-1:Int)<0:=by decide
     refine⟨_,by simp only[go_sem,t0,E,S,m1,Y,k3,m2];rfl,.inr ⟨by simp,_,_,_,false,D1,rfl,?_⟩⟩;simp only[go_sem];exact⟨⟨hr,.inr ⟨rfl,s,hE,hb⟩⟩,hQ,hT,O,fr⟩
    .have m2:¬(r':Int)<0:=by omega
     have a6:NQ N d D1 (NP D1 r' s):=⟨s,r',hE,⟨a9,b6,b7,b8⟩,rfl⟩;have b2:=a5 _ _ hQ a6;obtain⟨c0,AO,k4,Oa,c2,b9⟩:=ail hT hS (hI _ b2).1 (fun b hb=>xK (b4 b hb) O) a9 hE.lt (by grind);cases m with
     |zero=>exact absurd a7 id
     |succ m'=>
      refine⟨_,by simp only[go_sem,qC,t0,E,S,m1,Y,k3,m2,k4];rfl,.inl ⟨_,rfl,m',by omega,?_⟩⟩;simp only[go_sem,t0,E];exact⟨by omega,fun b hb hn=>(b9 b (by omega) hn).trans (fr b hb hn),_,hr.tail a6,b2,Oa,a7 _ a6⟩) n (by
   simp only[go_sem];exact⟨fun _ _ _=>trivial,D,GX.refl D,b3,h,hn⟩)
 exact⟨a3,qI,J,D1,by simp only[go_sem,t4],hR,hQ,hT,O,fr⟩
attribute [-go_sem] qy
theorem apM{m n:Nat}{A b c:List Int}(hA:A.length=m*n)(hm:m<=1000)(hn:n<=1000){i:Nat}(hi:i<m) :
  fn ZK conv ext 191 [.agg (CZ m n A b c),I i]=some (.ts (((A.drop (i*n)).take n).flatMap cI) n):=by
 have h1:i*n<=m*n:=zK _ (by omega);have E:(i+1)*n<=m*n:=zK _ (by omega);have h3:m*n<=1000*1000:=x9 hm hn;have G:IntKind.i64.wrap ((i:Int)*(n:Int))=((i*n:Nat):Int):=by rw[ZR (by rw[<- yg];omega) (by rw[<- yg];omega),yg]
 have J:=ZR (n:=(i:Int)+1);have O:IntKind.i64.wrap (((i:Int)+1)*(n:Int))=(((i+1)*n:Nat):Int):=by rw[show((i:Int)+1)=((i+1:Nat):Int)from rfl,ZR (by rw[<- yg];omega) (by rw[<- yg];omega),yg]
 have S:((i*n:Nat):Int)<=(((i+1)*n:Nat):Int):=Int.ofNat_le.mpr (zK _ (by omega));have Y:(((i+1)*n:Nat):Int)<=((A.length:Nat):Int):=by rw[hA];exact Int.ofNat_le.mpr E
 have f6:(0:Int)<=((i*n:Nat):Int):=by omega
 have f7:(0:Int)<=(((i+1)*n:Nat):Int):=by omega
 have f8:(i+1)*n-i*n=n:=by rw[xg];omega
 have n1:i*n<=(i+1)*n:=zK _ (by omega);have n2:(i+1)*n<=A.length:=by omega
 unfold CZ;rw[m_,mg [.tmp 4] [] func191];simp only[go_sem,G,O,J,S,Y,f6,f7,f8,n1,n2];rw[Xt,qK]
def F5(f:Nat->Int):Nat->Int
 |0=>0
 |k+1=>F5 f k+f k
def Fh(A b:List Int)(m n k:Nat):List Int:=(List.range (n+m+1)).map fun j=>if j<n\/j=n+m then F5 (fun i=>cell0 A b m n i j) k else 0
def qs(z:List Int):List Rat:=z.map fun(x:Int)=>(x:Rat)
def Dq(A b:List Int)(m n k:Nat):TQ:=⟨(Ew A b m n k).map qs,(List.range k).map fun i=>n+i,qs (Fh A b m n k)⟩
theorem og(A b:List Int)(m n k:Nat):(Fh A b m n k).length=n+m+1:=by simp[Fh]
theorem abv(A b:List Int)(m n:Nat):Fh A b m n 0=List.replicate (n+m+1) 0:=by
 unfold Fh F5;simp[List.map_const']
def aio(A b c:List Int)(m n:Nat)(σ:Store)(nx k:Nat)(σ':Store)(nx':Nat)(bt:Nat):Prop:=∃bc vr vb rb,Fg σ' bt bc vr vb rb (Dq A b m n k) (n+m)/\(∀x∈bt :: bc :: (bk vr++bk vb++rb),nx<x/\x<nx')/\∀x,x<nx->σ' x=σ x
def Ja(v:V)(σ:Store)(lo nx:Nat)(L:List Rat):Prop:=(L=[]/\v= .nil)\/∃b,L≠[]/\lo<=b/\b<nx/\v= .rs b 0 L.length/\σ b=some ⟨L.flatMap cQ,3,true⟩
theorem rJ{v:V}{σ:Store}{lo nx:Nat}{L:List Rat}(h:Ja v σ lo nx L)(S:lo<=nx)(x:Rat)(Y:L.length<100000) :
  ∃σ',Aj (upd σ nx (some ⟨cQ x,3,true⟩)) (nx+1) 3 56 v (cQ x) 1=some (.rs (nx+1) 0 (L.length+1),σ',nx+1+1)/\Ja (.rs (nx+1) 0 (L.length+1)) σ' lo (nx+1+1) (L++[x])/\∀y,y<lo->σ' y=σ y:=by
 have hg:Ci cQ 3 (fun _=>v) σ nx 0 L:=by
  rcases h with ⟨rfl,rfl⟩|⟨b,G,h2,J,E,O⟩
  .exact .inl ⟨rfl,rfl⟩
  .exact .inr ⟨b,E,G,O,J⟩
 obtain⟨σ',g1,g2,g3⟩:=kW (bytes:=56) qH (fun _=>rfl) (by decide) hg x Y (by decide);refine⟨σ',g1,.inr ⟨nx+1,by simp,by omega,by omega,by rw[zo];rfl,g2⟩,fun y hy=>g3 y (by omega) fun b o l e=>?_⟩;rcases h with ⟨rfl,rfl⟩|⟨b',G,h2,J,E,O⟩
 .cases e
 .rw[E]at e;cases e;omega
theorem qA{A b:List Int}{m n i:Nat}(E:∀x∈A,-1000<=x/\x<=1000)(G:∀x∈b,-1000<=x/\x<=1000)(j:Nat):-1000<=cell0 A b m n i j/\cell0 A b m n i j<=1000:=by
 have J:=QO (b:=b) (i:=i) (lD E (i*n+j));have O:=QO (b:=b) (i:=i) (lD G i);unfold cell0
 split
 .omega
 .split
  .split<;>omega
  .omega
theorem acR{f:Nat->Int}(h:∀i,-1000<=f i/\f i<=1000):∀k:Nat,-(1000*(k:Int))<=F5 f k/\F5 f k<=1000*(k:Int)
 |0=>by unfold F5;omega
 |k+1=>by
  have:=acR h k;have:=h k;unfold F5;omega
theorem gK(z:List Int):(qs z).length=z.length:=by simp[qs]
theorem OT{z:List Int}{j:Nat}(h:j<z.length):(qs z)[j]'(by rw[gK];exact h)=((z[j]:Int):Rat):=by simp[qs]
theorem Jb(A b:List Int)(m n k:Nat){j:Nat}(h:j<n+m+1):(Fh A b m n k)[j]'(by rw[og];exact h)=if j<n\/j=n+m then F5 (fun i=>cell0 A b m n i j) k else 0:=by simp[Fh]
theorem aip{A b:List Int}{m n k:Nat}(E:∀x∈A,-1000<=x/\x<=1000)(G:∀x∈b,-1000<=x/\x<=1000)(J:k<=400){j:Nat}(h:j<n+m+1):-1000000<=(Fh A b m n k)[j]'(by rw[og];exact h)/\(Fh A b m n k)[j]'(by rw[og];exact h)<=1000000:=by
 rw[Jb _ _ _ _ _ h];have:=acR (f:=fun i=>cell0 A b m n i j) (fun i=>qA E G j) k
 split<;>omega
theorem apN{A b c:List Int}{m n:Nat}(hA:A.length=m*n)(hb:b.length=m)(hm:m<=400)(hn:n<=400)(b5:∀x∈A,-1000<=x/\x<=1000)(a6:∀x∈b,-1000<=x/\x<=1000)(σ:Store)(nx:Nat) :
  ∃σ' nx' bt,ev ZK wI Am 166 [.agg (CZ m n A b c)] σ nx=some (.rp bt 0,σ',nx')/\aio A b c m n σ nx m σ' nx' bt:=by
 obtain⟨N,hN⟩:∃N,N=n+m:=⟨_,rfl⟩;have f1:(n:Int)+(m:Int)=(N:Int):=by omega
 have f2:=ZR (n:=(N:Int));obtain⟨s0,b6⟩:∃s0,s0=upd (upd σ nx (some ⟨CZ m n A b c,0,true⟩)) (nx+1) (some ⟨[I N,.nil,.nil,.nil],0,true⟩):=⟨_,rfl⟩;have Yr:∀x,x<nx->s0 x=σ x:=fun x hx=>by rw[b6,Zk,Zk]
 have l7:s0 nx=some ⟨CZ m n A b c,0,true⟩:=by rw[b6,Zk,Zi]
 have l8:s0 (nx+1)=some ⟨[I N,.nil,.nil,.nil],0,true⟩:=by rw[b6,Zi]
 have k0:fn ZK conv ext 171 [I 0]=some (.agg (cQ 0)):=dK 0 (by decide) (by decide)
 unfold CZ at b6⊢;rw[mg [.tmp 2] [5,30,33] func166];simp only[go_sem,f1,f2,<- b6];generalize hL:jI _ _=y;obtain⟨x,rfl,T1,a4,qI,bc,rfl,J,G,n1,g1,g2,g3,g4,l9⟩:=oZ hL (N+1) (fun j st=>st.T 1= .rp nx 0/\st.T 3= .rp (nx+1) 0/\st.T 4=I j/\nx+2<=st.nx/\st.σ nx=some ⟨CZ m n A b c,0,true⟩/\(∀x,x<nx->st.σ x=σ x)/\((j=0/\st.σ (nx+1)=some ⟨[I N,.nil,.nil,.nil],0,true⟩)\/∃bc,0<j/\nx+1<bc/\bc<st.nx/\st.σ (nx+1)=some ⟨[I N,.nil,.nil,.rs bc 0 j],0,true⟩/\st.σ bc=some ⟨(List.replicate j (0:Rat)).flatMap cQ,3,true⟩))
  (fun x=>∃T a4 qI bc,x=(.exit 0,⟨T,a4,qI⟩)/\T 1= .rp nx 0/\T 3= .rp (nx+1) 0/\nx+1<bc/\bc<qI/\a4 nx=some ⟨CZ m n A b c,0,true⟩/\a4 (nx+1)=some ⟨[I N,.nil,.nil,.rs bc 0 (N+1)],0,true⟩/\a4 bc=some ⟨(List.replicate (N+1) (0:Rat)).flatMap cQ,3,true⟩/\∀x,x<nx->a4 x=σ x) (by
   clear hL;rintro j ⟨T,a4,qI⟩ hj ⟨J,G,t4,b2,sn,fr,hc⟩;simp only at J G t4 b2 sn fr hc;have g1:(j:Int)<=(N:Int):=by omega
   have g3:=ZR (n:=(j:Int)+1);have y1:nx+1<qI:=by omega
   have y2:nx+1<qI+1:=by omega
   have y3:qI<qI+1:=by omega
   have y4:¬nx+1=qI:=by omega
   have y5:¬nx+1=qI+1:=by omega
   have y6:(nx+1==qI)=false:=by rw[sJ];omega
   have y7:(qI==nx+1)=false:=by rw[sJ];omega
   have y8:nx+1<qI+1+1:=by omega
   have y9:=jC N;rcases hc with ⟨rfl,st⟩|⟨bc,m1,c1,c2,st,sc⟩
   .refine .inl ⟨_,by simp only[go_sem,J,G,t4,st,g1,g3,k0,y1,y2,y3,y4,y5,y6,y7,y8,y9];rfl,?_⟩
    simp only[go_sem,J,G];refine⟨rfl,by omega,?_,fun x hx=>?_,.inr ⟨qI+1,by omega,by omega,rfl,?_⟩⟩
    .rw[Zk,Zk,Zk];exact sn
    .rw[Zk,Zk,Zk];exact fr x hx
    .rw[Zk,Zi];rfl
   .have d9:=rD (σ:=restrict (upd a4 qI (some ⟨cQ 0,3,true⟩)) [bc,qI]) (nx:=qI+1) (size:=3) (bytes:=56) (b:=bc) (len:=j) (m:=1) (row:=cQ 0) (by rw[fH,Zk];exact sc) (by rw[bU qH,yT]) (by decide) (by decide) (by unfold maxLen;omega) (by omega) rfl
    have x1:bc<qI+1:=by omega
    have x2:(nx+1==bc)=false:=by rw[sJ];omega
    have x3:(bc==nx+1)=false:=by rw[sJ];omega
    have x4:¬nx+1=bc:=by omega
    refine .inl ⟨_,by simp only[go_sem,J,G,t4,st,g1,g3,k0,y1,y2,y3,y4,y5,y6,y7,y8,y9,d9,x1,x2,x3,x4];rfl,?_⟩;simp only[go_sem,J,G];refine⟨rfl,by omega,?_,fun x hx=>?_,.inr ⟨qI+1,by omega,by omega,by omega,rfl,?_⟩⟩
    .rw[Zk,Zk,Zk,Zk];exact sn
    .rw[Zk,Zk,Zk,Zk];exact fr x hx
    .rw[Zk,Zi,uG,zS];simp) (by
   clear hL;rintro ⟨T,a4,qI⟩ ⟨J,G,t4,b2,sn,fr,hc⟩;simp only at J G t4 b2 sn fr hc;rcases hc with ⟨h0,_⟩|⟨bc,m1,c1,c2,st,sc⟩
   .omega
   .have g1:¬((N+1:Nat):Int)<=(N:Int):=by omega
    refine⟨_,by simp only[go_sem,G,t4,st,g1];rfl,by simp,_,_,_,bc,rfl,?_⟩;simp only[go_sem,J,G];exact⟨c1,c2,sn,st,sc,fr⟩) (by
   simp only[go_sem];exact⟨l7,Yr,.inl l8⟩)
 clear hL;have i0:aio A b c m n σ nx 0 a4 qI (nx+1):=by
  refine⟨bc,.nil,.nil,[],⟨?_,.inl ⟨rfl,rfl⟩,fun i h=>absurd h (zU _),.inl ⟨rfl,rfl⟩,?_,rfl,?_⟩,fun x hx=>?_,l9⟩
  .rw[<- hN];exact g3
  .rw[g4]
   show _=some (Fj.mk ((qs (Fh A b m n 0)).flatMap cQ) 3 true);rw[abv,<- hN];unfold qs;rw[List.map_replicate];rfl
  .simp only[bk,zC,xW,xY,zH,not_false_iff,true_and,List.nodup_nil,and_true]
   omega
  .simp only[bk,zC,zX,zH,or_false]at hx
   omega
 simp only[go_sem,J,G];generalize hL:jI _ _=y;obtain⟨x,rfl,T2,σ2,CG,rfl,G,hF⟩:=oZ hL m (fun i st=>st.T 1= .rp nx 0/\st.T 3= .rp (nx+1) 0/\st.T 5=I i/\nx+2<=st.nx/\st.σ nx=some ⟨CZ m n A b c,0,true⟩/\aio A b c m n σ nx i st.σ st.nx (nx+1))
  (fun x=>∃T σ2 CG,x=(.exit 2,⟨T,σ2,CG⟩)/\T 3= .rp (nx+1) 0/\aio A b c m n σ nx m σ2 CG (nx+1)) (by
   clear hL;rintro i ⟨T,σ2,CG⟩ hi ⟨J,G,S,b2,sn,bc,vr,vb,rb,hT,b7,fr⟩;simp only at J G S b2 sn hT b7 fr;unfold CZ at sn;have g1:(i:Int)<(m:Int):=by omega
   have g2:=jC i;have g3:=ZR (n:=(i:Int)+1);have g9:(i:Int)<(b.length:Int):=by omega
   have e0:(b.flatMap cI)[i]?=some (I (b.getD i 0)):=by
    rw[idx (by omega),zx,zy (by omega)];rfl
   have e1:=Bg b i (by omega);have k1:=apM (b:=b) (c:=c) hA (by omega) (by omega) hi;unfold CZ at k1;obtain⟨R0,c8⟩:∃R0,R0=qs (row0 A b m n i):=⟨_,rfl⟩;have c9:R0.length=N+1:=by rw[c8,gK,fB,hN]
   have d0:∀j (h:j<R0.length),R0[j]=((cell0 A b m n i j:Int):Rat):=fun j h=>by
    subst c8;rw[OT (by rw[fB];omega),fC _ _ _ _ _ (by omega)]
   have d1:∀j,j<R0.length->R0.take j++[((cell0 A b m n i j:Int):Rat)]=R0.take (j+1):=fun j h=>by
    rw[yJ,zy h,d0 j h];rfl
   have kI:∀j,fn ZK conv ext 171 [I (cell0 A b m n i j)]=some (.agg (cQ ((cell0 A b m n i j:Int):Rat))):=fun j=>by
    have:=qA (i:=i) (m:=m) (n:=n) b5 a6 j;exact dK _ (by omega) (by omega)
   have d2:=Xw b i;refine bC ?_
   by_cases b8:b.getD i 0<0
   case' pos=>
    replace d2:sg b i= -1:=by unfold sg;rw[sN b8]
   case' neg=>
    replace d2:sg b i=1:=by unfold sg;rw[sO b8]
   all_goals
    conv=>
     enter [1,r,1,1]
     simp only[go_sem,J,G,S,sn,g1,g2,g9,e0,e1,k1,b8]
    generalize hL:jI _ _=z;obtain⟨x,rfl,T3,O,AO,rfl,J,G,S,t6,Y,a0,EJ⟩:=oZ hL n (fun k st=>st.T 1= .rp nx 0/\st.T 3= .rp (nx+1) 0/\st.T 5=I i/\st.T 6=I (sg b i)/\st.T 53= .ts (((A.drop (i*n)).take n).flatMap cI) n/\st.T 54=I n/\st.T 55=I k/\CG<=st.nx/\Ja (st.T 7) st.σ CG st.nx (R0.take k)/\∀y,y<CG->st.σ y=σ2 y)
     (fun x=>∃T O AO,x=(.exit 4,⟨T,O,AO⟩)/\T 1= .rp nx 0/\T 3= .rp (nx+1) 0/\T 5=I i/\T 6=I (sg b i)/\CG<=AO/\Ja (T 7) O CG AO (R0.take n)/\∀y,y<CG->O y=σ2 y) (by
      clear hL;rintro k ⟨T,O,AO⟩ hk ⟨J,G,S,t6,b9,b3,c0,Y,a0,EJ⟩;simp only at J G S t6 b9 b3 c0 Y a0 EJ;have f1:(k:Int)<(n:Int):=by omega
      have f2:=jC k;have f3:=ZR (n:=(k:Int)+1);have q8:i*n+n<=A.length:=by
       have:(i+1)*n<=m*n:=zK _ (by omega);rw[xg]at this;omega
      have f4:(((A.drop (i*n)).take n).flatMap cI)[k]?=some (I (A.getD (i*n+k) 0)):=by
       rw[idx (by simp;omega),List.getElem_take,List.getElem_drop,zx,zy (by omega)];rfl
      have f5:=Bg ((A.drop (i*n)).take n) k (by simp;omega);have ec:cell0 A b m n i k=sg b i*A.getD (i*n+k) 0:=by unfold cell0;rw[sN hk]
      have bd:=qA (i:=i) (m:=m) (n:=n) b5 a6 k;have k2:=kI k;rw[ec]at bd k2;have f6:=ZR (n:=sg b i*A.getD (i*n+k) 0);obtain⟨BN,a1,a2,a3⟩:=rJ a0 Y ((sg b i*A.getD (i*n+k) 0:Int):Rat) (by rw[zf];omega);rw[<- ec,d1 k (by omega)]at a2;refine .inl ⟨_,by simp only[go_sem,J,G,S,t6,b9,b3,c0,f1,f2,f3,f4,f5,f6,k2,a1];rfl,?_⟩;simp only[go_sem,J,G,S,t6,b9,b3];exact⟨rfl,by omega,a2,fun y hy=>(a3 y hy).trans (EJ y hy)⟩) (by
      clear hL;rintro ⟨T,O,AO⟩ ⟨J,G,S,t6,b9,b3,c0,Y,a0,EJ⟩;simp only at J G S t6 b9 b3 c0 Y a0 EJ;refine⟨_,by simp only[go_sem,b3,c0,zi];rfl,by simp,_,_,_,rfl,?_⟩;simp only[go_sem,J,G,S,t6];exact⟨Y,a0,EJ⟩) (by
      simp only[go_sem,J,G,S,d2];exact⟨.inl ⟨rfl,rfl⟩,fun _ _=>trivial⟩)
    clear hL
    conv=>
     enter [1,r,1,1]
     simp only[go_sem,J,G,S,t6]
    generalize hL:jI _ _=z;obtain⟨x,rfl,T4,BN,FD,rfl,J,G,S,t6,m2,a0,U3⟩:=oZ hL m (fun k st=>st.T 1= .rp nx 0/\st.T 3= .rp (nx+1) 0/\st.T 5=I i/\st.T 6=I (sg b i)/\st.T 10=I k/\CG<=st.nx/\Ja (st.T 7) st.σ CG st.nx (R0.take (n+k))/\∀y,y<CG->st.σ y=σ2 y)
     (fun x=>∃T O AO,x=(.exit 6,⟨T,O,AO⟩)/\T 1= .rp nx 0/\T 3= .rp (nx+1) 0/\T 5=I i/\T 6=I (sg b i)/\CG<=AO/\Ja (T 7) O CG AO (R0.take (n+m))/\∀y,y<CG->O y=σ2 y) (by
      clear hL;rintro k ⟨T,O,AO⟩ hk ⟨J,G,S,t6,b4,Y,a0,EJ⟩;simp only at J G S t6 b4 Y a0 EJ;have f1:(k:Int)<(m:Int):=by omega
      have f3:=ZR (n:=(k:Int)+1);have UG:O nx=_:=(EJ nx (by omega)).trans sn;have k2:=kI (n+k);have ec:cell0 A b m n i (n+k)=if k=i then 1 else 0:=by
       unfold cell0;rw[sO (by omega),sN (by omega)]
       by_cases h:k=i
       .rw[sN h,sN (by omega)]
       .rw[sO h,sO (by omega)]
      obtain⟨BN,a1,a2,a3⟩:=rJ a0 Y ((cell0 A b m n i (n+k):Int):Rat) (by rw[zf];omega);rw[d1 (n+k) (by omega)]at a2
      by_cases d3:k=i
      .rw[sN d3]at ec
       rw[ec]at k2 a1;have c1:((k:Int)==(i:Int))=true:=by rw[d3];simp
       refine .inl ⟨_,by simp only[go_sem,J,G,S,t6,b4,UG,f1,f3,c1,k2,a1];rfl,?_⟩;simp only[go_sem,J,G,S,t6];exact⟨rfl,by omega,a2,fun y hy=>(a3 y hy).trans (EJ y hy)⟩
      .rw[sO d3]at ec
       rw[ec]at k2 a1;have c1:((k:Int)==(i:Int))=false:=by rw[sJ];omega
       refine .inl ⟨_,by simp only[go_sem,J,G,S,t6,b4,UG,f1,f3,c1,k2,a1];rfl,?_⟩;simp only[go_sem,J,G,S,t6];exact⟨rfl,by omega,a2,fun y hy=>(a3 y hy).trans (EJ y hy)⟩) (by
      clear hL;rintro ⟨T,O,AO⟩ ⟨J,G,S,t6,b4,Y,a0,EJ⟩;simp only at J G S t6 b4 Y a0 EJ;have UG:O nx=_:=(EJ nx (by omega)).trans sn;refine⟨_,by simp only[go_sem,J,b4,UG,zi];rfl,by simp,_,_,_,rfl,?_⟩;simp only[go_sem,J,G,S,t6];exact⟨Y,a0,EJ⟩) (by
      simp only[go_sem,J,G,S,t6];exact⟨Y,a0,EJ⟩)
    clear hL;have m3:BN nx=_:=(U3 nx (by omega)).trans sn;have ec:cell0 A b m n i (n+m)=sg b i*b.getD i 0:=by unfold cell0;rw[sO (by omega),sO (by omega)]
    have bd:=qA (i:=i) (m:=m) (n:=n) b5 a6 (n+m);have k2:=kI (n+m);obtain⟨Dx,a1,a2,a3⟩:=rJ a0 m2 ((cell0 A b m n i (n+m):Int):Rat) (by rw[zf];omega);have eL:(R0.take (n+m)).length=N:=by rw[zf];omega
    have eF:R0.take (n+m+1)=R0:=zl (by omega);rw[eL,d1 (n+m) (by omega),eF]at a2;rw[ec]at bd k2 a1;rw[eL]at a1;have f6:=ZR (n:=sg b i*b.getD i 0)
    conv=>
     enter [1,r,1,1]
     simp only[go_sem,J,G,S,t6,m3,g1,g2,g9,e0,e1,f6,k2,a1]
    obtain⟨d4,d5,m4,e2,m5,e3,c3⟩:=hT;rw[<- hN]at d4 d5;obtain⟨bw,e4⟩:∃bw,bw=FD+1:=⟨_,rfl⟩;have e5:Dx bw=some ⟨R0.flatMap cQ,3,true⟩:=by
     rcases a2 with ⟨h,_⟩|⟨b',h1,h2,h3,h4,h5⟩
     .rw[h]at c9;simp at c9
     .simp only[V.rs.injEq]at h4
      rw[e4,h4.1];exact h5
    rw[<- e4];have f5:∀y,y<CG->Dx y=σ2 y:=fun y hy=>(a3 y hy).trans (U3 y hy)
    have m6:=b7 bc (by simp);obtain⟨C0,c4⟩:∃C0,C0=qs (Fh A b m n i):=⟨_,rfl⟩;obtain⟨C1,d6⟩:∃C1,C1=qs (Fh A b m n (i+1)):=⟨_,rfl⟩;have e6:C0.length=N+1:=by rw[c4,gK,og,hN]
    have q9:C1.length=N+1:=by rw[d6,gK,og,hN]
    have m7:σ2 bc=some ⟨C0.flatMap cQ,3,true⟩:=by rw[c4];exact m5
    clear a1 a2 a3 a0 k2 U3;generalize hL:jI _ _=z;obtain⟨x,rfl,T5,CY,E,rfl,J,G,S,t7,Ol,m8,OI⟩:=oZ hL (N+1) (fun k st=>st.T 1= .rp nx 0/\st.T 3= .rp (nx+1) 0/\st.T 5=I i/\st.T 7= .rs bw 0 (N+1)/\st.T 93=I ((N+1:Nat):Int)/\st.T 94=I k/\bw+1<=st.nx/\st.σ bc=some ⟨(Eb C1 C0 k).flatMap cQ,3,true⟩/\∀y,y<bw+1->y≠bc->st.σ y=Dx y)
     (fun x=>∃T O AO,x=(.exit 8,⟨T,O,AO⟩)/\T 1= .rp nx 0/\T 3= .rp (nx+1) 0/\T 5=I i/\T 7= .rs bw 0 (N+1)/\bw+1<=AO/\O bc=some ⟨C1.flatMap cQ,3,true⟩/\∀y,y<bw+1->y≠bc->O y=Dx y) (by
      clear hL;rintro k ⟨T,O,AO⟩ hk ⟨J,G,S,t7,a5,Rq,Y,a7,EJ⟩;simp only at J G S t7 a5 Rq Y a7 EJ;have q1:(k:Int)<((N+1:Nat):Int):=by omega
      have q2:=jC k;have q3:=ZR (n:=(k:Int)+1);have UG:O nx=_:=(EJ nx (by omega) (by omega)).trans ((f5 nx (by omega)).trans sn);have Yl:O (nx+1)=_:=(EJ (nx+1) (by omega) (by simp only[xW,zX,not_or]at c3;exact c3.1.1)).trans ((f5 (nx+1) (by omega)).trans d4);have e8:O bw=_:=(EJ bw (by omega) (by omega)).trans e5;have hC:C1.length=C0.length:=by omega
      have c5:C1[k]'(by omega)=if k<n\/k=n+m then C0[k]'(by omega)+R0[k]'(by omega)else C0[k]'(by omega):=by
       subst d6 c4;rw[OT (by rw[og];omega),OT (by rw[og];omega),d0,Jb _ _ _ _ _ (by omega),Jb _ _ _ _ _ (by omega)]
       by_cases h:k<n\/k=n+m
       .rw[sN h,sN h,sN h]
        rw[show F5 (fun i=>cell0 A b m n i k) (i+1)=F5 (fun i=>cell0 A b m n i k) i+cell0 A b m n i k from rfl,Rat.intCast_add]
       .rw[sO h,sO h,sO h]
      have l0:Ln 1 (C0[k]'(by omega)):=by
       subst c4;rw[OT (by rw[og];omega)];exact sF (aip b5 a6 (by omega) (by omega))
      have l1:Ln 1 (R0[k]'(by omega)):=by
       rw[d0];exact sF (by have:=qA (i:=i) (m:=m) (n:=n) b5 a6 k;omega)
      have g4:=cO (c:=cQ) (s:=3) qH (Eb C1 C0 k) k (by rw[jE hC (by omega)];omega);rw[I9 hC (by omega)]at g4;have g5:=bU (c:=cQ) (s:=3) qH (Eb C1 C0 k);rw[jE hC (by omega),e6]at g5;have g6:k*3+3<=(N+1)*3:=by omega
      have g7:=cO (c:=cQ) (s:=3) qH R0 k (by omega);have g8:=bU (c:=cQ) (s:=3) qH R0;rw[c9]at g8;have k2:=acP (C0[k]'(by omega)) (R0[k]'(by omega)) l0 l1 (by decide);have l1:nx+1<AO:=by omega
      have l2:bc<AO:=by omega
      have l3:bw<AO:=by omega
      by_cases a8:k<n\/k=n+m
      .rw[sN a8]at c5
       have c6:patch ((Eb C1 C0 k).flatMap cQ) (k*3) (cQ (C0[k]'(by omega)+R0[k]'(by omega)))=(Eb C1 C0 (k+1)).flatMap cQ:=by
        rw[iC qH _ _ (by rw[jE hC (by omega)];omega),<- c5,I_ hC (by omega)]
       by_cases r0:k<n
       .have q4:(k:Int)<(n:Int):=by omega
        refine .inl ⟨_,by simp only[go_sem,J,G,S,t7,a5,Rq,UG,Yl,a7,e8,q1,q2,q3,q4,g4,g5,g6,g7,g8,k2,c6,l1,l2,l3];rfl,?_⟩;simp only[go_sem,J,G,S,t7,a5];refine⟨rfl,Y,fun y hy hn=>?_⟩;rw[Zj _ _ hn];exact EJ y hy hn
       .have q4:¬(k:Int)<(n:Int):=by omega
        have q5:((k:Int)==(N:Int))=true:=by rw[beq_iff_eq];omega
        refine .inl ⟨_,by simp only[go_sem,J,G,S,t7,a5,Rq,UG,Yl,a7,e8,q1,q2,q3,q4,q5,g4,g5,g6,g7,g8,k2,c6,l1,l2,l3];rfl,?_⟩;simp only[go_sem,J,G,S,t7,a5];refine⟨rfl,Y,fun y hy hn=>?_⟩;rw[Zj _ _ hn];exact EJ y hy hn
      .rw[sO a8]at c5
       have q4:¬(k:Int)<(n:Int):=by omega
       have q5:((k:Int)==(N:Int))=false:=by rw[sJ];omega
       refine .inl ⟨_,by simp only[go_sem,J,G,S,t7,a5,Rq,UG,Yl,q1,q2,q3,q4,q5];rfl,?_⟩;simp only[go_sem,J,G,S,t7,a5];refine⟨rfl,Y,?_,EJ⟩;rw[<- Rl hC (by omega) c5];exact a7) (by
      clear hL;rintro ⟨T,O,AO⟩ ⟨J,G,S,t7,a5,Rq,Y,a7,EJ⟩;simp only at J G S t7 a5 Rq Y a7 EJ;refine⟨_,by simp only[go_sem,a5,Rq,zi];rfl,by simp,_,_,_,rfl,?_⟩;simp only[go_sem,J,G,S,t7];refine⟨Y,?_,EJ⟩;rw[<- e6,J3 (by omega)]at a7;exact a7) (by
      simp only[go_sem,J,G,S];refine⟨?_,fun _ _ _=>trivial⟩;rw[JZ,f5 bc m6.2];exact m7)
    clear hL;simp only[xW,zX,not_or]at c3;obtain⟨⟨n1,n2⟩,n3,n4⟩:=c3;have f6:∀y,y<CG->y≠bc->CY y=σ2 y:=fun y hy hn=>(OI y (by omega) hn).trans (f5 y hy)
    have m9:CY bw=some ⟨R0.flatMap cQ,3,true⟩:=(OI bw (by omega) (by omega)).trans e5;have e9:CY (nx+1)=some ⟨[I N,vr,vb,.rs bc 0 (N+1)],0,true⟩:=(f6 (nx+1) (by omega) n1).trans d4;have c7:CY nx=_:=(f6 nx (by omega) (by omega)).trans sn;have n0:(Dq A b m n i).R.length=i:=by unfold Dq Ew;simp
    rw[n0]at d5 e2 e3;have fin:∀(σ':Store) (nx' HY a9:Nat),E<=HY->HY<nx'->E<=a9->a9<nx'->HY≠a9->σ' (nx+1)=some ⟨[I N,.rs HY 0 (i+1),.rs a9 0 (i+1),.rs bc 0 (N+1)],0,true⟩->σ' HY=some ⟨(rb++[bw]).map fun b=>V.rs b 0 (N+1),1,true⟩->σ' a9=some ⟨(Ce ((List.range (i+1)).map fun i=>n+i)).flatMap cI,1,true⟩->(∀y,y<E->y≠nx+1->y∉bk vr++bk vb->σ' y=CY y)->aio A b c m n σ nx (i+1) σ' nx' (nx+1):=fun σ' nx' HY a9 p1 p2 p3 p4 p5 p6 p7 p8 p9=>by
     have a8:∀y,y∈bk vr++bk vb++rb->y≠nx+1/\y≠bc/\nx<y/\y<CG:=fun y hy=>⟨fun e=>n2 (e ▸ hy),fun e=>n3 (e ▸ hy),b7 y (by simp only[zX];exact .inr (.inr hy))⟩
     have d7:(Dq A b m n (i+1)).R.length=i+1:=by unfold Dq Ew;simp
     have f0:=List.nodup_append.mp n4;have f7:∀y,y<CG->y≠nx+1->y≠bc->y∉bk vr++bk vb->σ' y=σ2 y:=fun y h1 h2 h3 h4=>(p9 y (by omega) h2 h4).trans (f6 y h1 h3)
     have n6:∀j,j<i->Eo (Dq A b m n (i+1)).R j=Eo (Dq A b m n i).R j:=fun j hj=>by
      rw[dN (by omega),dN (by omega)];simp[Dq,Ew]
     have n7:Eo (Dq A b m n (i+1)).R i=R0:=by
      rw[dN (by omega),c8];simp[Dq,Ew]
     refine⟨bc,.rs HY 0 (i+1),.rs a9 0 (i+1),rb++[bw],⟨by rw[<- hN];exact p6,?_,fun j hj=>?_,?_,?_,?_,?_⟩,fun x hx=>?_,fun x hx=>?_⟩
     .rw[d7,<- hN];exact .inr ⟨HY,by omega,rfl,p7⟩
     .rw[zo,yU]at hj
      by_cases d8:j<rb.length
      .rw[yG d8,n6 j (by omega)]
       have hm:=zu d8;have:=a8 rb[j] (yj _ hm);rw[f7 _ this.2.2.2 this.1 this.2.1 fun hy=>f0.2.2 _ hy _ hm rfl];exact m4 j d8
      .have:j=i:=by omega
       subst this;rw[wF (by omega),n7];simp only[List.getElem_singleton];rw[p9 bw (by omega) (by omega) fun hy=>by have:=a8 bw (zB _ hy);omega];exact m9
     .rw[d7];exact .inr ⟨a9,by omega,rfl,p8⟩
     .rw[p9 bc (by omega) (yu n1) fun hy=>n3 (zB _ hy)]
      show _=some (Fj.mk ((qs (Fh A b m n (i+1))).flatMap cQ) 3 true);rw[<- d6];exact m8
     .rw[d7,zo,e3];rfl
     .simp only[bk,yS,yM,xW,zX,wz,zH,or_false,not_or]
      have a6:∀y,y∈rb->y<CG:=fun y hy=>(a8 y (yj _ hy)).2.2.2
      refine⟨⟨n1,by omega,by omega,fun h=>n2 (yj _ h),by omega⟩,⟨by omega,by omega,fun h=>n3 (yj _ h),by omega⟩,⟨p5,fun h=>by have:=a6 _ h;omega,by omega⟩,⟨fun h=>by have:=a6 _ h;omega,by omega⟩,?_⟩;exact List.nodup_append.mpr ⟨f0.2.1,by simp,fun x hx y hy=>by rw[List.mem_singleton.mp hy];have:=a6 _ hx;omega⟩
     .simp only[bk,yS,yM,zX,wz,zH,or_false]at hx
      rcases hx with rfl|rfl|rfl|rfl|hx|rfl
      .omega
      .omega
      .omega
      .omega
      .have:=a8 x (yj _ hx);omega
      .omega
     .rw[f7 x (by omega) (by omega) (by omega) fun hy=>by have:=a8 x (zB _ hy);omega]
      exact fr x hx
    have w1:=ZR (n:=(n:Int)+(i:Int));have tB:Ce ((List.range (i+1)).map fun i=>n+i)=Ce ((List.range i).map fun i=>n+i)++[(n:Int)+(i:Int)]:=by
     unfold Ce;rw[wK,wR,wR];rfl
    have y1:nx<E:=by omega
    have y2:nx+1<E:=by omega
    have y3:¬nx+1=E:=by omega
    have y4:¬nx=E:=by omega
    have y5:(nx+1==E)=false:=by rw[sJ];omega
    have y6:(E==nx+1)=false:=by rw[sJ];omega
    have y7:bw<E:=by omega
    have y8:nx<E+1:=by omega
    have y9:nx+1<E+1:=by omega
    have OE:¬nx+1=E+1:=by omega
    have OG:¬nx=E+1:=by omega
    have OH:(nx+1==E+1)=false:=by rw[sJ];omega
    have f8:(E+1==nx+1)=false:=by rw[sJ];omega
    have Q8:bw<E+1:=by omega
    have f9:nx<E+1+1:=by omega
    have g0:nx+1<E+1+1:=by omega
    have h6:¬nx+1=E+1+1:=by omega
    have h7:¬nx=E+1+1:=by omega
    have h8:(nx+1==E+1+1)=false:=by rw[sJ];omega
    have h9:(E+1+1==nx+1)=false:=by rw[sJ];omega
    have i1:bw<E+1+1:=by omega
    have i2:nx<E+1+1+1:=by omega
    have i3:nx+1<E+1+1+1:=by omega
    have i4:¬nx+1=E+1+1+1:=by omega
    have i5:¬nx=E+1+1+1:=by omega
    have i6:(nx+1==E+1+1+1)=false:=by rw[sJ];omega
    have i7:(E+1+1+1==nx+1)=false:=by rw[sJ];omega
    have i9:bw<E+1+1+1:=by omega
    have j0:nx<E+1+1+1+1:=by omega
    have j1:nx+1<E+1+1+1+1:=by omega
    have j2:¬nx+1=E+1+1+1+1:=by omega
    have j3:¬nx=E+1+1+1+1:=by omega
    have j4:(nx+1==E+1+1+1+1)=false:=by rw[sJ];omega
    have j5:(E+1+1+1+1==nx+1)=false:=by rw[sJ];omega
    have j6:bw<E+1+1+1+1:=by omega
    have j7:¬nx=nx+1:=by omega
    have j8:E+1+1<E+1+1+1:=by omega
    have j9:E<E+1:=by omega
    have k3:E+1<E+1+1:=by omega
    have k4:(nx==E)=false:=by rw[sJ];omega
    have k5:(E==nx)=false:=by rw[sJ];omega
    have k6:(nx==E+1)=false:=by rw[sJ];omega
    have k7:(E+1==nx)=false:=by rw[sJ];omega
    have k8:(nx==E+1+1)=false:=by rw[sJ];omega
    have k9:(E+1+1==nx)=false:=by rw[sJ];omega
    have l4:(nx==E+1+1+1)=false:=by rw[sJ];omega
    have l5:(E+1+1+1==nx)=false:=by rw[sJ];omega
    rcases d5 with ⟨hi0,rfl⟩|⟨br,hi0,rfl,n8⟩<;>rcases e2 with ⟨n9,rfl⟩|⟨bb,n9,rfl,o0⟩
    .have o2:rb=[]:=zZ (by omega)
     subst o2;refine⟨_,by simp only[go_sem,J,G,S,t7,e9,c7,g3,w1,y1,y2,y3,y4,y5,y6,y7,y8,y9,OE,OG,OH,f8,Q8,f9,g0,h6,h7,h8,h9,i1,i2,i3,i4,i5,i6,i7,i9,j0,j1,j2,j3,j4,j5,j6,j7,j8,j9,k3,k4,k5,k6,k7,k8,k9,l4,l5];rfl,.inl ⟨_,rfl,?_⟩⟩;simp only[go_sem,J,G,S];refine⟨rfl,by omega,?_,fin _ _ (E+1) (E+1+1+1) (by omega) (by omega) (by omega) (by omega) (by omega) ?_ ?_ ?_ fun y h1 h2 _=>?_⟩
     .rw[Zk,Zk,Zk,Zk,Zk,Zk];exact c7
     .rw[Zi,hi0]
     .rw[Zk,Zk,Zk,Zk,Zi];rfl
     .rw[Zk,Zi,tB,hi0];rfl
     .rw[Zk,Zk,Zk,Zk,Zk,Zk]
    .omega
    .omega
    .have lr:=b7 br (by simp[bk])
     have lb:=b7 bb (by simp[bk]);simp only[bk,yS,yM,zX,not_or]at n2 n3 n4;have n5:¬br=bb:=by
      rw[xW]at n4;exact fun e=>n4.1 (by rw[e];exact zL)
     have o3:CY br=_:=(f6 br lr.2 (fun e=>n3.1 e.symm)).trans n8;have o4:CY bb=_:=(f6 bb lb.2 (fun e=>n3.2.1 e.symm)).trans o0;have o5:=rE (σ:=upd CY E (some ⟨[V.rs bw 0 (N+1)],1,true⟩)) (nx:=E+1) (bytes:=24) (b:=br) (len:=i) (m:=1) (row:=[V.rs bw 0 (N+1)]) (by rw[Zk];exact o3) (by simp;omega) rfl (by decide) (by unfold maxLen;omega) (by omega) rfl;obtain⟨EN,e7⟩:∃EN,EN=upd (upd (upd (upd CY E (some ⟨[V.rs bw 0 (N+1)],1,true⟩)) br none) (E+1) (some ⟨(rb.map fun b=>V.rs b 0 (N+1))++[V.rs bw 0 (N+1)],1,true⟩)) (nx+1) (some ⟨[I N,.rs (E+1) 0 (i+1),.rs bb 0 i,.rs bc 0 (N+1)],0,true⟩):=⟨_,rfl⟩;have o7:∀y,y<E->y≠nx+1->y≠br->EN y=CY y:=fun y h1 h2 h3=>by rw[e7,Zj _ _ h2,Zk,Zj _ _ h3,Zk]
     have o6:EN (nx+1)=some ⟨[I N,.rs (E+1) 0 (i+1),.rs bb 0 i,.rs bc 0 (N+1)],0,true⟩:=by rw[e7,Zi]
     have l6:EN nx=_:=(o7 nx (by omega) (by omega) (by omega)).trans c7;have p0:EN bb=_:=(o7 bb (by omega) (by omega) (yu n5)).trans o4;have q0:((Ce (Dq A b m n i).B).flatMap cI).length=i:=by rw[qM,aA];simp[Dq]
     have q6:=rE (σ:=restrict (upd EN (E+1+1) (some ⟨[I ((n:Int)+(i:Int))],1,true⟩)) [bb,E+1+1]) (nx:=E+1+1+1) (bytes:=8) (b:=bb) (len:=i) (m:=1) (row:=[I ((n:Int)+(i:Int))]) (by rw[fH,Zk];exact p0) q0 rfl (by decide) (by unfold maxLen;omega) (by omega) rfl;have u1:¬nx+1=br:=fun e=>n2.1 e
     have u2:¬nx+1=bb:=fun e=>n2.2.1 e
     have u3:(nx+1==bb)=false:=beq_false_of_ne u2;have u4:(bb==nx+1)=false:=beq_false_of_ne (yu u2);have u5:bb<E+1+1:=by omega
     have u6:bb<E+1+1+1:=by omega
     have u7:(nx==bb)=false:=by rw[sJ];omega
     have u8:(bb==nx)=false:=by rw[sJ];omega
     have u9:¬nx=br:=by omega
     have q7:¬nx=bb:=by omega
     refine⟨_,by simp only[go_sem,J,G,S,t7,e9,c7,g3,w1,o5,<- e7,o6,l6,q6,u1,u2,u3,u4,u5,u6,u7,u8,u9,q7,y1,y2,y3,y4,y5,y6,y7,y8,y9,OE,OG,OH,f8,Q8,f9,g0,h6,h7,h8,h9,i1,i2,i3,i4,i5,i6,i7,i9,j0,j1,j2,j3,j4,j5,j6,j7,j8,j9,k3,k4,k5,k6,k7,k8,k9,l4,l5];rfl,.inl ⟨_,rfl,?_⟩⟩;simp only[go_sem,J,G,S];refine⟨rfl,by omega,?_,fin _ _ (E+1) (E+1+1+1) (by omega) (by omega) (by omega) (by omega) (by omega) ?_ ?_ ?_ fun y h1 h2 h3=>?_⟩
     .rw[Zk,Zk,Zk,Zk];exact l6
     .rw[Zi]
     .rw[Zk,Zk,Zk,Zk,e7,Zk,Zi,wR];rfl
     .rw[Zk,Zi,tB,zS];rfl
     .simp only[bk,yS,yM,zX,zH,or_false,not_or]at h3
      rw[Zj _ _ h2,Zk,Zj _ _ h3.2,Zk];exact o7 y h1 h2 h3.1) (by
   clear hL;rintro ⟨T,σ2,CG⟩ ⟨J,G,S,b2,sn,hF⟩;simp only at J G S b2 sn hF;unfold CZ at sn;refine⟨_,by simp only[go_sem,J,S,sn,zi];rfl,by simp,_,_,_,rfl,?_⟩;simp only[go_sem,G];exact hF) (by
   simp only[go_sem,J,G];exact⟨by omega,g2,i0⟩)
 exact⟨σ2,CG,nx+1,by simp only[go_sem,G],hF⟩
def EH(n:Nat)(D:TQ)(i:Nat):Prop:=n<=D.B.getD i 0->∀j,j<n->Cc D.R i j=0
theorem EH.piv{n N:Nat}{D:TQ}{i k r:Nat}(E:∀x∈D.R,x.length=N+1)(hl:D.B.length=D.R.length)(h:EH n D r)(O:r<D.R.length)(hi:i<D.R.length)(S:k<n)(hn:n<=N)(G:r≠i):EH n (NP D i k) r:=fun Y j hj=>by
 have J:n<=D.B.getD r 0:=by
  have:(D.B.set i k).getD r 0=D.B.getD r 0:=by
   rw[zx,zx,List.getElem?_set_ne (yu G)]
  rw[<- this];exact Y
 show Cc (D9 D.R i k) r j=0;rw[TF E hi O (by omega),sO G,h J j hj,h J k S];grind
def G9(c:List Int):List Rat:=qs c++[0]
def D2q(n:Nat)(D:TQ)(c:List Int):TQ:=⟨(pick n D.R D.B).1,(pick n D.R D.B).2,clears (G9 c) (pick n D.R D.B).1 (pick n D.R D.B).2⟩
theorem ae_{α:Type}{c:α->List V}{s:Nat}(hc:∀x,(c x).length=s)(xs:List α){k:Nat}(h:k<=xs.length):(xs.flatMap c).take (k*s)=(xs.take k).flatMap c:=by
 have:=uj k xs
 conv=>lhs;rw[<- this]
 rw[zS,wP];rw[bU hc,zf,xC h]
theorem Rt{n:Nat}(x:List Rat)(b:Nat):∀ {R:List (List Rat)} {B:List Nat},B.length=R.length->pick n (R++[x]) (B++[b])=if b<n then((pick n R B).1++[x.take n++[x.getLastD 0]],(pick n R B).2++[b])else pick n R B
 |[],[],_=>by
  show(if b<n then((x.take n++[x.getLastD 0]) :: (pick n [] []).1,b :: (pick n [] []).2)else pick n [] [])=_;rfl
 |[],_ :: _,h=>by simp at h
 |_ :: _,[],h=>by simp at h
 |y :: R,d :: B,h=>by
  have E:=Rt (n:=n) x b (R:=R) (B:=B) (by simpa using h);show(if d<n then((y.take n++[y.getLastD 0]) :: (pick n (R++[x]) (B++[b])).1,d :: (pick n (R++[x]) (B++[b])).2)else pick n (R++[x]) (B++[b]))=if b<n then((if d<n then((y.take n++[y.getLastD 0]) :: (pick n R B).1,d :: (pick n R B).2)else pick n R B).1++_,(if d<n then((y.take n++[y.getLastD 0]) :: (pick n R B).1,d :: (pick n R B).2)else pick n R B).2++[b])else if d<n then((y.take n++[y.getLastD 0]) :: (pick n R B).1,d :: (pick n R B).2)else pick n R B
  rw[E]
  by_cases G:b<n<;>by_cases J:d<n<;>simp[G,J]
theorem Jc{n:Nat}:∀ {R:List (List Rat)} {B:List Nat},(pick n R B).2.length=(pick n R B).1.length
 |[],_=>by simp[pick]
 |_ :: _,[]=>by simp[pick]
 |x :: R,b :: B=>by
  have E:=Jc (n:=n) (R:=R) (B:=B);unfold pick
  split<;>simp[E]
theorem Jd{n:Nat}:∀ {R:List (List Rat)} {B:List Nat},(∀x∈(pick n R B).1,∃y∈R,x=y.take n++[y.getLastD 0])/\∀b∈(pick n R B).2,b<n
 |[],_=>by simp[pick]
 |_ :: _,[]=>by simp[pick]
 |y :: R,b :: B=>by
  obtain⟨O,S⟩:=Jd (n:=n) (R:=R) (B:=B);unfold pick
  split
  .refine⟨fun x E=>?_,fun d G=>?_⟩
   .rcases List.mem_cons.mp E with rfl|E
    .exact⟨y,zL,rfl⟩
    .obtain⟨z,J,e⟩:=O x E
     exact⟨z,zY _ J,e⟩
   .rcases List.mem_cons.mp G with rfl|G
    .assumption
    .exact S d G
  .refine⟨fun x E=>?_,S⟩
   obtain⟨z,J,e⟩:=O x E;exact⟨z,zY _ J,e⟩
theorem KL(x:List Rat)(b:Nat):∀ {R:List (List Rat)} {B:List Nat} {c:List Rat},B.length=R.length->clears c (R++[x]) (B++[b])=KY (clears c R B) x ((clears c R B).getD b 0)
 |[],[],_,_=>rfl
 |[],_ :: _,_,h=>by simp at h
 |_ :: _,[],_,h=>by simp at h
 |y :: R,d :: B,c,h=>KL x b (R:=R) (B:=B) (c:=KY c y (c.getD d 0)) (by simpa using h)
theorem OU{n:Nat}:∀ {R:List (List Rat)} {B:List Nat} {c:List Rat},c.length=n->(∀x∈R,x.length=n)->(clears c R B).length=n
 |[],_,_,h,_=>by unfold clears;exact h
 |_ :: _,[],_,h,_=>by unfold clears;exact h
 |x :: R,b :: B,c,h,hr=>OU (R:=R) (B:=B) (c:=KY c x (c.getD b 0)) (by rw[pK (by rw[hr x zL,h]),h]) fun y E=>hr y (zY _ E)
theorem aiu{σ σ':Store}{bt bc br bb bw m0 N b:Nat}{vr vb:V}{rb:List Nat}{D:TQ}{x:List Rat}(h:Fg σ bt bc vr vb rb D N)(hm:∀y∈bt :: bc :: (bk vr++bk vb++rb),y<m0)(p1:m0<=br)(p2:m0<=bb)(p3:m0<=bw)(p4:br≠bb)(p5:br≠bw)(p6:bb≠bw)
  (q1:σ' bt=some ⟨[I N,.rs br 0 (D.R.length+1),.rs bb 0 (D.R.length+1),.rs bc 0 (N+1)],0,true⟩) (q2:σ' br=some ⟨(rb++[bw]).map fun b=>V.rs b 0 (N+1),1,true⟩) (q3:σ' bb=some ⟨(Ce (D.B++[b])).flatMap cI,1,true⟩) (q4:σ' bw=some ⟨x.flatMap cQ,3,true⟩) (fr:∀y,y<m0->y≠bt->y∉bk vr++bk vb->σ' y=σ y) :
  Fg σ' bt bc (.rs br 0 (D.R.length+1)) (.rs bb 0 (D.R.length+1)) (rb++[bw]) ⟨D.R++[x],D.B++[b],D.c⟩ N:=by
 obtain⟨g1,g2,g3,g4,g5,g6,g7⟩:=h;have E:(D.R++[x]).length=D.R.length+1:=by simp
 simp only[xW,zX,not_or]at g7;obtain⟨⟨n1,n2⟩,n3,n4⟩:=g7;have Y:=List.nodup_append.mp n4;have a0:∀y,y∈bk vr++bk vb++rb->y<m0:=fun y G=>hm y (by simp only[zX];exact .inr (.inr G))
 have a2:=hm bt (by simp);have a1:=hm bc (by simp);refine⟨q1,?_,fun j hj=>?_,?_,?_,?_,?_⟩
 .show GV σ' _ (D.R++[x]).length _
  rw[E];exact .inr ⟨br,by omega,rfl,q2⟩
 .show _=some (Fj.mk ((Eo (D.R++[x]) j).flatMap cQ) 3 true)
  rw[zo,yU]at hj
  by_cases J:j<rb.length
  .have e:Eo (D.R++[x]) j=Eo D.R j:=by rw[dN (by rw[E];omega),dN (by omega),yG (by omega)]
   rw[yG J,e];have O:=zu J;rw[fr _ (a0 _ (yj _ O)) (fun e=>n2 (e ▸ yj _ O)) fun G=>Y.2.2 _ G _ O rfl];exact g3 j J
  .have e:Eo (D.R++[x]) j=x:=by
    rw[dN (by rw[E];omega),wF (by omega)];simp
   rw[wF (by omega),e];simp only[List.getElem_singleton];exact q4
 .show GV σ' _ (D.R++[x]).length _
  rw[E];exact .inr ⟨bb,by omega,rfl,q3⟩
 .rw[fr bc a1 (yu n1) fun G=>n3 (zB _ G)];exact g5
 .show _=(D.R++[x]).length
  rw[E,zo,g6];rfl
 .simp only[bk,yS,yM,xW,zX,wz,zH,or_false,not_or]
  have S:∀y,y∈rb->y<m0:=fun y G=>a0 y (yj _ G)
  refine⟨⟨n1,by omega,by omega,fun h=>n2 (yj _ h),by omega⟩,⟨by omega,by omega,fun h=>n3 (yj _ h),by omega⟩,⟨p4,fun h=>by have:=S _ h;omega,p5⟩,⟨fun h=>by have:=S _ h;omega,p6⟩,?_⟩;exact List.nodup_append.mpr ⟨Y.2.1,by simp,fun x hx y G=>by rw[List.mem_singleton.mp G];have:=S _ hx;omega⟩
theorem al4(Qp:TQ->Prop){A b c:List Int}{m n N:Nat}(hc:c.length=n)(hN:N=n+m)(aAJ:n<=400)(hc1:∀x∈c,-1000<=x/\x<=1000)(hI:∀D,Qp D->ShF D N)
  (hpv:∀D i k,Qp D->i<D.R.length->n<=D.B.getD i 0->k<n->Cc D.R i k≠0->Qp (NP D i k))
  (hcl:∀D,Qp D->(∀i,i<D.R.length->EH n D i)->∀q,q<=(pick n D.R D.B).1.length->∀u∈clears (G9 c) ((pick n D.R D.B).1.take q) ((pick n D.R D.B).2.take q),Ln 6 u)
  {σ:Store} {nx bt bc:Nat} {vr vb:V} {rb:List Nat} {D:TQ} (hQ:Qp D) (h:Fg σ bt bc vr vb rb D N) (a6:∀x∈bt :: bc :: (bk vr++bk vb++rb),x<nx) :
  ∃σ' nx' n4 Y Yb Yc Hy D',ev ZK wI Am 169 [.agg (CZ m n A b c),.rp bt 0] σ nx=some (.rp n4 0,σ',nx')/\Qp D'/\(∀i,i<D'.R.length->EH n D' i)/\Fg σ' n4 Y Yb Yc Hy (D2q n D' c) n/\(∀x∈n4 :: Y :: (bk Yb++bk Yc++Hy),nx<=x/\x<nx')/\∀x,x<nx->x∉bc :: (bk vb++rb)->σ' x=σ x:=by
 have hbt:=h.t;obtain⟨s0,j2⟩:∃s0,s0=upd σ nx (some ⟨CZ m n A b c,0,true⟩):=⟨_,rfl⟩;have Yr:∀x,x<nx->s0 x=σ x:=fun x hx=>by rw[j2,Zk]
 have s0n:s0 nx=some ⟨CZ m n A b c,0,true⟩:=by rw[j2,Zi]
 have q0:=(Yr bt (a6 bt (by simp))).trans hbt;have atD:Fg s0 bt bc vr vb rb D N:=by
  obtain⟨g1,g2,g3,g4,g5,g6,g7⟩:=h;have gv:∀v n cs,(∀x∈bk v,x<nx)->GV σ v n cs->GV s0 v n cs:=fun v n cs hx hg=>by
   rcases hg with hg|⟨b,q1,rfl,q3⟩
   .exact .inl hg
   .exact .inr ⟨b,q1,rfl,(Yr b (hx b (by simp[bk]))).trans q3⟩
  refine⟨q0,gv _ _ _ (fun x hx=>a6 x (by simp[hx])) g2,fun i hi=>(Yr _ (a6 _ (by simp[zu hi]))).trans (g3 i hi),gv _ _ _ (fun x hx=>a6 x (by simp[hx])) g4,(Yr bc (a6 bc (by simp))).trans g5,g6,g7⟩
 have hlR:∀D1:TQ,Fg s0 bt bc vr vb rb D1 N->D1.R.length=rb.length:=fun D1 h1=>h1.len.symm
 obtain⟨L,eL⟩:∃L,L=D.R.length:=⟨_,rfl⟩;have aAK:L<=1000:=by have:=(hI D hQ).Gv;omega
 have hlen:DR ZK 215 vr=some (I L):=by
  rcases h.r with ⟨q1,rfl⟩|⟨br,q1,rfl,_⟩
  .have:L=0:=by omega
   subst this;exact nU (by kernel_rfl)
  .rw[eL];exact nT (by kernel_rfl)
 unfold CZ at j2⊢;rw[mg [.tmp 4] [14,15,21,22,27] func169];simp only[go_sem,<- j2,q0,hlen];generalize hL:jI _ _=y;obtain⟨x,rfl,T1,a0,G,D1,rfl,S,O,h6,a9,i5,U0,b5,b2,k3⟩:=oZ hL L (fun i st=>st.T 1= .rp bt 0/\st.T 2= .rp nx 0/\st.T 18=I L/\st.T 19=I i/\nx+1<=st.nx/\st.σ nx=some ⟨CZ m n A b c,0,true⟩/\(∀x,x<nx->x∉bc :: (bk vb++rb)->st.σ x=σ x)/\∃D1,Qp D1/\D1.R.length=L/\(∀q,q<i->EH n D1 q)/\Fg st.σ bt bc vr vb rb D1 N)
  (fun x=>∃T a0 G D1,x=(.exit 0,⟨T,a0,G⟩)/\T 1= .rp bt 0/\T 2= .rp nx 0/\nx+1<=G/\a0 nx=some ⟨CZ m n A b c,0,true⟩/\(∀x,x<nx->x∉bc :: (bk vb++rb)->a0 x=σ x)/\Qp D1/\(∀q,q<L->EH n D1 q)/\Fg a0 bt bc vr vb rb D1 N/\D1.R.length=L) (by
   clear hL;rintro i ⟨T,a0,G⟩ hi ⟨S,O,EG,a1,h6,a9,i5,D1,U0,n5,b5,b2⟩;simp only at S O EG a1 h6 a9 b2;unfold CZ at a9;have g1:(i:Int)<(L:Int):=by omega
   have g2:=jC i;have g3:=ZR (n:=(i:Int)+1);refine bC ?_
   conv=>
    enter [1,r,1,1]
    simp only[go_sem,S,O,EG,a1,g1]
   generalize hL:jI _ _=z;obtain⟨x,rfl,T2,σ2,CG,D2,rfl,S,O,EG,a1,c3,a7,g9,c4,a8,a3,a4⟩:=oZ hL n (fun j st=>st.T 1= .rp bt 0/\st.T 2= .rp nx 0/\st.T 18=I L/\st.T 19=I i/\st.T 5=I i/\st.T 6=I j/\nx+1<=st.nx/\st.σ nx=some ⟨[I m,I n,LI A,LI b,LI c],0,true⟩/\(∀x,x<nx->x∉bc :: (bk vb++rb)->st.σ x=σ x)/\∃D1,Qp D1/\D1.R.length=L/\(∀q,q<i->EH n D1 q)/\Fg st.σ bt bc vr vb rb D1 N/\(n<=D1.B.getD i 0->∀q,q<j->Cc D1.R i q=0))
    (fun x=>∃T a0 G D1,x=(.exit 2,⟨T,a0,G⟩)/\T 1= .rp bt 0/\T 2= .rp nx 0/\T 18=I L/\T 19=I i/\nx+1<=G/\a0 nx=some ⟨[I m,I n,LI A,LI b,LI c],0,true⟩/\(∀x,x<nx->x∉bc :: (bk vb++rb)->a0 x=σ x)/\Qp D1/\D1.R.length=L/\(∀q,q<i+1->EH n D1 q)/\Fg a0 bt bc vr vb rb D1 N) (by
     clear hL;rintro j ⟨T,σ2,CG⟩ hj ⟨S,O,EG,a1,t5,t6,c3,a7,g9,D2,c4,a8,a3,a4,hz⟩;simp only at S O EG a1 t5 t6 c3 a7 a4;have q1:(j:Int)<(n:Int):=by omega
     have q2:=jC j;have q3:=ZR (n:=(j:Int)+1);have h7:=hI D2 c4;have n6:=a4.t;obtain⟨br,rfl,j3⟩:∃br,vr= .rs br 0 L/\σ2 br=some ⟨rb.map fun b=>V.rs b 0 (N+1),1,true⟩:=by
      rcases a4.r with ⟨e,_⟩|⟨br,_,e,e2⟩
      .omega
      .exact⟨br,by rw[e,a8],e2⟩
     obtain⟨bb,rfl,i6⟩:∃bb,vb= .rs bb 0 L/\σ2 bb=some ⟨(Ce D2.B).flatMap cI,1,true⟩:=by
      rcases a4.b with ⟨e,_⟩|⟨bb,_,e,e2⟩
      .omega
      .exact⟨bb,by rw[e,a8],e2⟩
     have l1:nx<CG:=by omega
     have l2:bt<CG:=by have:=a6 bt (by simp);omega
     have l3:bb<CG:=by have:=a6 bb (by simp[bk]);omega
     have q8:=h7.Bz;have b1:=idx (xs:=Ce D2.B) (k:=i) (by rw[aA];omega);rw[aB (by omega)]at b1
     by_cases hB:n<=D2.B.getD i 0
     .have c1:(n:Int)<=((D2.B.getD i 0:Nat):Int):=by omega
      have b3:i<rb.length:=by have:=a4.len;omega
      have r1:(rb.map fun b=>V.rs b 0 (N+1))[i]?=some (.rs rb[i] 0 (N+1)):=by rw[zF,zy b3];rfl
      have r2:=a4.row i b3;have rl:=dM h7.row (show i<D2.R.length by omega);have r3:=pY (R:=D2.R) (i:=i) (j:=j) (by omega);have r4:=bU (c:=cQ) (s:=3) qH (Eo D2.R i);rw[rl]at r4;have r5:(j:Int)<((N+1:Nat):Int):=by omega
      have r6:j*3+3<=(N+1)*3:=by omega
      have bq:Ln 6 (Cc D2.R i j):=by
       rw[<- oC (by omega)];exact h7.big _ (by rw[dN (show i<D2.R.length by omega)];exact zu _) _ (zu _)
      have k1:=dH (Cc D2.R i j) (bq.mono (by decide));have s1:=abt (Cc D2.R i j)
      by_cases h0:Cc D2.R i j=0
      .rw[sH h0,uz]at s1
       refine .inl ⟨_,by simp only[go_sem,S,O,EG,a1,t5,t6,a7,n6,a8,j3,i6,b1,g1,g2,q1,q2,q3,c1,l1,l2,l3,r1,r2,r3,r4,r5,r6,k1,s1];rfl,?_⟩;simp only[go_sem,S,O,EG,a1,t5];refine⟨rfl,c3,a7,g9,D2,c4,a8,a3,a4,fun _ q hq=>?_⟩
       by_cases e:q=j
       .subst e;exact h0
       .exact hz hB q (by omega)
      .rw[sG h0,vZ]at s1
       have q9:=hpv D2 i j c4 (by omega) hB hj h0;obtain⟨a5,J,k2,Oa,h8,EJ⟩:=ail (nx:=CG) a4 h7 (hI _ q9) (fun b hb=>by have:=a6 b hb;omega) (show i<D2.R.length by omega) (show j<N by omega) h0;have hl3:(NP D2 i j).R.length=L:=(gu ..).trans a8;refine .inl ⟨_,by simp only[go_sem,qC,S,O,EG,a1,t5,t6,a7,n6,a8,j3,i6,b1,g1,g2,q1,q2,q3,c1,l1,l2,l3,r1,r2,r3,r4,r5,r6,k1,s1,k2];rfl,?_⟩;simp only[go_sem,S,O,EG,a1,t5];refine⟨rfl,by omega,?_,fun x hx j4=>(EJ x (by omega) j4).trans (g9 x hx j4),_,q9,hl3,fun q hq=>(a3 q hq).piv h7.row h7.Bz (by omega) (by omega) hj (by omega) (by omega),Oa,fun hB3=>?_⟩
       .rw[EJ nx (by omega) fun hm=>by have:=a6 nx (by simp only[zX,wz]at hm⊢;rcases hm with h|h|h<;>simp[h]);omega]
        exact a7
       .have:(D2.B.set i j).getD i 0=j:=by rw[zx,tC (by omega)];rfl
        have hB4:n<=(D2.B.set i j).getD i 0:=hB3;omega
     .have c1:¬(n:Int)<=((D2.B.getD i 0:Nat):Int):=by omega
      refine .inr ⟨_,by simp only[go_sem,S,O,EG,a1,t5,t6,a7,n6,a8,i6,b1,g1,g2,q1,c1,l1,l2,l3];rfl,by simp,_,_,_,D2,rfl,?_⟩;simp only[go_sem,S,O,EG,a1];refine⟨c3,a7,g9,c4,a8,fun q hq=>?_,a4⟩
      by_cases e:q=i
      .subst e;exact fun h=>absurd h hB
      .exact a3 q (by omega)) (by
     clear hL;rintro ⟨T,σ2,CG⟩ ⟨S,O,EG,a1,t5,t6,c3,a7,g9,D2,c4,a8,a3,a4,hz⟩;simp only at S O EG a1 t5 t6 c3 a7 a4;have l1:nx<CG:=by omega
     refine⟨_,by simp only[go_sem,O,t6,a7,zi,l1];rfl,by simp,_,_,_,D2,rfl,?_⟩;simp only[go_sem,S,O,EG,a1];refine⟨c3,a7,g9,c4,a8,fun q hq=>?_,a4⟩
     by_cases e:q=i
     .subst e;exact hz
     .exact a3 q (by omega)) (by
     simp only[go_sem,S,O,EG,a1];exact⟨h6,a9,i5,D1,U0,n5,b5,b2,fun _ q hq=>absurd hq (zU _)⟩)
   refine⟨_,by simp only[go_sem,a1,g3];rfl,.inl ⟨_,rfl,?_⟩⟩;simp only[go_sem,S,O,EG];exact⟨rfl,c3,a7,g9,D2,c4,a8,a3,a4⟩) (by
   clear hL;rintro ⟨T,a0,G⟩ ⟨S,O,EG,a1,h6,a9,i5,D1,U0,n5,b5,b2⟩;simp only at S O EG a1 h6 a9 b2;refine⟨_,by simp only[go_sem,EG,a1,zi];rfl,by simp,_,_,_,D1,rfl,?_⟩;simp only[go_sem,S,O];exact⟨h6,a9,i5,U0,b5,b2,n5⟩) (by
   simp only[go_sem];exact⟨s0n,fun x hx _=>Yr x hx,D,hQ,eL.symm,fun q hq=>absurd hq (zU _),atD⟩)
 clear hL;have kI:∀j,fn ZK conv ext 171 [I (c.getD j 0)]=some (.agg (cQ ((c.getD j 0:Int):Rat))):=fun j=>by
  have:=lD hc1 j;exact dK _ (by omega) (by omega)
 have k0:fn ZK conv ext 171 [I 0]=some (.agg (cQ 0)):=dK 0 (by decide) (by decide)
 have snp:∀j,j<n->(qs c).take j++[((c.getD j 0:Int):Rat)]=(qs c).take (j+1):=fun j h=>by
  rw[yJ,zy (by rw[gK];omega),OT (by omega),lF (by omega)];rfl
 unfold CZ at a9;have d1:¬nx=G:=by omega
 simp only[go_sem,S,O,a9,d1];generalize hL:jI _ _=y;obtain⟨x,rfl,T3,a5,J,rfl,S,O,t7,h8,UG,EJ,h4⟩:=oZ hL n (fun j st=>st.T 1= .rp bt 0/\st.T 2= .rp nx 0/\st.T 7= .rp G 0/\st.T 8=I j/\G<st.nx/\st.σ nx=some ⟨[I m,I n,LI A,LI b,LI c],0,true⟩/\(∀x,x<G->st.σ x=a0 x)/\((j=0/\st.σ G=some ⟨[I n,.nil,.nil,.nil],0,true⟩)\/∃bc,0<j/\G<bc/\bc<st.nx/\st.σ G=some ⟨[I n,.nil,.nil,.rs bc 0 j],0,true⟩/\st.σ bc=some ⟨((qs c).take j).flatMap cQ,3,true⟩))
  (fun x=>∃T a5 J,x=(.exit 4,⟨T,a5,J⟩)/\T 1= .rp bt 0/\T 2= .rp nx 0/\T 7= .rp G 0/\G<J/\a5 nx=some ⟨[I m,I n,LI A,LI b,LI c],0,true⟩/\(∀x,x<G->a5 x=a0 x)/\((n=0/\a5 G=some ⟨[I n,.nil,.nil,.nil],0,true⟩)\/∃bc,0<n/\G<bc/\bc<J/\a5 G=some ⟨[I n,.nil,.nil,.rs bc 0 n],0,true⟩/\a5 bc=some ⟨((qs c).take n).flatMap cQ,3,true⟩)) (by
   clear hL;rintro j ⟨T,a5,J⟩ hj ⟨S,O,t7,t8,h8,UG,EJ,h4⟩;simp only at S O t7 t8 h8 UG EJ h4;have g1:(j:Int)<(n:Int):=by omega
   have g2:=jC j;have g3:=ZR (n:=(j:Int)+1);have g4:(j:Int)<(c.length:Int):=by omega
   have g5:(c.flatMap cI)[j]?=some (I (c.getD j 0)):=by
    rw[idx (by omega),zx,zy (by omega)];rfl
   have g6:=Bg c j (by omega);have k1:=kI j;have hs:=snp j hj;generalize ((c.getD j 0:Int):Rat)=w at k1 hs;have y1:nx<J:=by omega
   have y2:¬nx=J:=by omega
   have y3:(nx==J)=false:=by rw[sJ];omega
   have y4:(J==nx)=false:=by rw[sJ];omega
   have y5:G<J:=by omega
   have y6:¬G=J:=by omega
   have y7:(G==J)=false:=by rw[sJ];omega
   have y8:(J==G)=false:=by rw[sJ];omega
   have y9:nx<J+1:=by omega
   have OE:¬nx=J+1:=by omega
   have OG:(nx==J+1)=false:=by rw[sJ];omega
   have OH:(J+1==nx)=false:=by rw[sJ];omega
   have c5:G<J+1:=by omega
   have Q8:¬G=J+1:=by omega
   have c6:(G==J+1)=false:=by rw[sJ];omega
   have c7:(J+1==G)=false:=by rw[sJ];omega
   have c8:nx<J+1+1:=by omega
   have c9:¬nx=J+1+1:=by omega
   have d0:(nx==J+1+1)=false:=by rw[sJ];omega
   have d5:(J+1+1==nx)=false:=by rw[sJ];omega
   have d6:G<J+1+1:=by omega
   have d7:¬G=J+1+1:=by omega
   have d8:(G==J+1+1)=false:=by rw[sJ];omega
   have d9:(J+1+1==G)=false:=by rw[sJ];omega
   have e8:¬nx=G:=by omega
   have e9:¬G=nx:=by omega
   have f0:(nx==G)=false:=by rw[sJ];omega
   have f4:(G==nx)=false:=by rw[sJ];omega
   have f5:J<J+1:=by omega
   have f6:J+1<J+1+1:=by omega
   rcases h4 with ⟨h0,st⟩|⟨Y,hj0,c1,c2,st,sc⟩
   .have g7:(qs c).take 0=[]:=rfl
    refine .inl ⟨_,by simp only[go_sem,S,O,t7,t8,UG,st,g1,g2,g3,g4,g5,g6,k1,y1,y2,y3,y4,y5,y6,y7,y8,y9,OE,OG,OH,c5,Q8,c6,c7,c8,c9,d0,d5,d6,d7,d8,d9,e8,e9,f0,f4,f5,f6];rfl,?_⟩;simp only[go_sem,S,O,t7];refine⟨rfl,by omega,?_,fun x hx=>?_,.inr ⟨J+1,by omega,by omega,by omega,by rw[h0],?_⟩⟩
    .rw[Zk,Zk,Zk];exact UG
    .rw[Zk,Zk,Zk];exact EJ x hx
    .rw[Zk,Zi,<- hs,h0,g7];simp
   .have i7:=rD (σ:=restrict (upd a5 J (some ⟨cQ w,3,true⟩)) [Y,J]) (nx:=J+1) (size:=3) (bytes:=56) (b:=Y) (len:=j) (m:=1) (row:=cQ w) (by rw[fH,Zk];exact sc) (by rw[bU qH,zf,gK];omega) (by decide) (by decide) (by unfold maxLen;omega) (by omega) rfl
    have x1:Y<J+1:=by omega
    have x2:(G==Y)=false:=by rw[sJ];omega
    have x3:(Y==G)=false:=by rw[sJ];omega
    have x4:¬G=Y:=by omega
    have x5:(nx==Y)=false:=by rw[sJ];omega
    have x6:(Y==nx)=false:=by rw[sJ];omega
    have x7:¬nx=Y:=by omega
    refine .inl ⟨_,by simp only[go_sem,S,O,t7,t8,UG,st,g1,g2,g3,g4,g5,g6,k1,i7,x1,x2,x3,x4,x5,x6,x7,y1,y2,y3,y4,y5,y6,y7,y8,y9,OE,OG,OH,c5,Q8,c6,c7,c8,c9,d0,d5,d6,d7,d8,d9,e8,e9,f0,f4,f5,f6];rfl,?_⟩;simp only[go_sem,S,O,t7];refine⟨rfl,by omega,?_,fun x hx=>?_,.inr ⟨J+1,by omega,by omega,by omega,rfl,?_⟩⟩
    .rw[Zk,Zk,Zk,Zk];exact UG
    .rw[Zk,Zk,Zk,Zk];exact EJ x hx
    .rw[Zk,Zi,<- hs,zS];simp) (by
   clear hL;rintro ⟨T,a5,J⟩ ⟨S,O,t7,t8,h8,UG,EJ,h4⟩;simp only at S O t7 t8 h8 UG EJ h4;refine⟨_,by simp only[go_sem,O,t8,UG,zi];rfl,by simp,_,_,_,rfl,?_⟩;simp only[go_sem,S,O,t7];exact⟨h8,UG,EJ,h4⟩) (by
   simp only[go_sem,S,O];refine⟨by omega,?_,fun x hx=>?_,.inl trivial⟩
   .rw[Zj _ _ d1];exact a9
   .rw[Zk])
 clear hL;have y1:nx<J:=by omega
 have y2:¬nx=J:=by omega
 have y3:(nx==J)=false:=by rw[sJ];omega
 have y4:(J==nx)=false:=by rw[sJ];omega
 have y5:G<J:=by omega
 have y6:¬G=J:=by omega
 have y7:(G==J)=false:=by rw[sJ];omega
 have y8:(J==G)=false:=by rw[sJ];omega
 have y9:nx<J+1:=by omega
 have OE:¬nx=J+1:=by omega
 have OG:(nx==J+1)=false:=by rw[sJ];omega
 have OH:(J+1==nx)=false:=by rw[sJ];omega
 have c5:G<J+1:=by omega
 have Q8:¬G=J+1:=by omega
 have c6:(G==J+1)=false:=by rw[sJ];omega
 have c7:(J+1==G)=false:=by rw[sJ];omega
 have c8:nx<J+1+1:=by omega
 have c9:¬nx=J+1+1:=by omega
 have d0:(nx==J+1+1)=false:=by rw[sJ];omega
 have d5:(J+1+1==nx)=false:=by rw[sJ];omega
 have d6:G<J+1+1:=by omega
 have d7:¬G=J+1+1:=by omega
 have d8:(G==J+1+1)=false:=by rw[sJ];omega
 have d9:(J+1+1==G)=false:=by rw[sJ];omega
 have e8:¬nx=G:=by omega
 have e9:(nx==G)=false:=by rw[sJ];omega
 have f0:¬G=nx:=by omega
 have f4:(G==nx)=false:=by rw[sJ];omega
 have f5:J<J+1:=by omega
 have f6:J+1<J+1+1:=by omega
 have n7:=b2.t;have ltt:=a6 bt (by simp);have i9:bt<J+1+1:=by omega
 have f7:¬bt=G:=by omega
 have f8:¬bt=J:=by omega
 have j0:¬bt=J+1:=by omega
 have hqs:(qs c).take n=qs c:=zl (by rw[gK];omega);rcases h4 with ⟨h0,st⟩|⟨Y,hj0,c1,c2,st,sc⟩
 case' inl=>
  obtain⟨BN,e4⟩:∃BN,BN=upd (upd (upd a5 J (some ⟨cQ 0,3,true⟩)) (J+1) (some ⟨cQ 0,3,true⟩)) G (some ⟨[I n,.nil,.nil,.rs (J+1) 0 1],0,true⟩):=⟨_,rfl⟩;have r0:BN G=some ⟨[I n,.nil,.nil,.rs (J+1) 0 (n+1)],0,true⟩:=by rw[e4,Zi,h0]
  have s2:BN (J+1)=some ⟨(G9 c).flatMap cQ,3,true⟩:=by
   have:c=[]:=zZ (by omega);rw[e4,Zk,Zi,this];rfl
  have j5:∀x,x<G->BN x=a0 x:=fun x hx=>by rw[e4,Zk,Zk,Zk];exact EJ x hx
  have n8:BN bt=_:=(j5 bt (by omega)).trans n7;simp only[go_sem,S,O,t7,st,k0,y1,y2,y3,y4,y5,y6,y7,y8,y9,OE,OG,OH,c5,Q8,c6,c7,c8,c9,d0,d5,d6,d7,d8,d9,e8,e9,f0,f4,f5,f6,i9,f7,f8,j0,<- e4,n8,hlen]
 case' inr=>
  have i7:=rD (σ:=restrict (upd a5 J (some ⟨cQ 0,3,true⟩)) [Y,J]) (nx:=J+1) (size:=3) (bytes:=56) (b:=Y) (len:=n) (m:=1) (row:=cQ 0) (by rw[fH,Zk];exact sc) (by rw[bU qH,zf,gK];omega) (by decide) (by decide) (by unfold maxLen;omega) (by omega) rfl;have x1:Y<J+1:=by omega
  have x2:(G==Y)=false:=by rw[sJ];omega
  have x3:(Y==G)=false:=by rw[sJ];omega
  have x4:¬G=Y:=by omega
  have x7:¬bt=Y:=by omega
  obtain⟨BN,e4⟩:∃BN,BN=upd (upd (upd (upd a5 J (some ⟨cQ 0,3,true⟩)) Y none) (J+1) (some ⟨((qs c).take n).flatMap cQ++cQ 0,3,true⟩)) G (some ⟨[I n,.nil,.nil,.rs (J+1) 0 (n+1)],0,true⟩):=⟨_,rfl⟩;have r0:BN G=some ⟨[I n,.nil,.nil,.rs (J+1) 0 (n+1)],0,true⟩:=by rw[e4,Zi]
  have s2:BN (J+1)=some ⟨(G9 c).flatMap cQ,3,true⟩:=by
   rw[e4,Zk,Zi,hqs];unfold G9;rw[zS];simp
  have j5:∀x,x<G->BN x=a0 x:=fun x hx=>by rw[e4,Zk,Zk,Zk,Zk];exact EJ x hx
  have n8:BN bt=_:=(j5 bt (by omega)).trans n7;simp only[go_sem,S,O,t7,st,k0,i7,x1,x2,x3,x4,x7,y1,y2,y3,y4,y5,y6,y7,y8,y9,OE,OG,OH,c5,Q8,c6,c7,c8,c9,d0,d5,d6,d7,d8,d9,e8,e9,f0,f4,f5,f6,i9,f7,f8,j0,<- e4,n8,hlen]
 all_goals
  clear e4;have h9:=hI D1 U0;have q8:=h9.Bz;have hlR:=b2.len;generalize hL:jI _ _=y;obtain⟨x,rfl,T5,Dx,E,i0,j6,b8,rfl,t7,i1,XQ,Gw,GZ⟩:=oZ hL L (fun i st=>st.T 1= .rp bt 0/\st.T 2= .rp nx 0/\st.T 7= .rp G 0/\st.T 95=vr/\st.T 96=I L/\st.T 97=I i/\J+1<st.nx/\(∀x,x<G->st.σ x=a0 x)/\∃Yb Yc Hy,Fg st.σ G (J+1) Yb Yc Hy ⟨(pick n (D1.R.take i) (D1.B.take i)).1,(pick n (D1.R.take i) (D1.B.take i)).2,G9 c⟩ n/\∀x∈G :: (J+1) :: (bk Yb++bk Yc++Hy),G<=x/\x<st.nx)
   (fun x=>∃T Dx E Yb Yc Hy,x=(.exit 6,⟨T,Dx,E⟩)/\T 7= .rp G 0/\J+1<E/\(∀x,x<G->Dx x=a0 x)/\Fg Dx G (J+1) Yb Yc Hy ⟨(pick n D1.R D1.B).1,(pick n D1.R D1.B).2,G9 c⟩ n/\∀x∈G :: (J+1) :: (bk Yb++bk Yc++Hy),G<=x/\x<E) (by
    clear hL;rintro i ⟨T,Dx,E⟩ hi ⟨S,O,t7,b9,b4,h5,i1,XQ,Yb,Yc,Hy,Gw,GZ⟩;simp only at S O t7 b9 b4 h5 i1 XQ Gw GZ;obtain⟨br,rfl,j3⟩:∃br,vr= .rs br 0 L/\a0 br=some ⟨rb.map fun b=>V.rs b 0 (N+1),1,true⟩:=by
     rcases b2.r with ⟨e,_⟩|⟨br,_,e,e2⟩
     .omega
     .exact⟨br,by rw[e,k3],e2⟩
    obtain⟨bb,rfl,i6⟩:∃bb,vb= .rs bb 0 L/\a0 bb=some ⟨(Ce D1.B).flatMap cI,1,true⟩:=by
     rcases b2.b with ⟨e,_⟩|⟨bb,_,e,e2⟩
     .omega
     .exact⟨bb,by rw[e,k3],e2⟩
    have b3:i<rb.length:=by omega
    obtain⟨bi,FC⟩:∃bi,bi=rb[i]:=⟨_,rfl⟩;have lb1:=a6 br (by simp[bk]);have lb2:=a6 bb (by simp[bk]);have lb3:bi<nx:=by rw[FC];exact a6 _ (by simp[zu b3])
    have g1:(i:Int)<(L:Int):=by omega
    have g2:=jC i;have g3:=ZR (n:=(i:Int)+1);have e1:Dx bt=_:=(XQ bt (by omega)).trans n7;have e2:Dx br=_:=(XQ br (by omega)).trans j3;have e3:Dx bb=_:=(XQ bb (by omega)).trans i6;have e4:Dx bi=some ⟨(Eo D1.R i).flatMap cQ,3,true⟩:=(XQ bi (by omega)).trans (by rw[FC];exact b2.row i b3);have e5:Dx nx=_:=(XQ nx (by omega)).trans a9;have r1:(rb.map fun b=>V.rs b 0 (N+1))[i]?=some (.rs bi 0 (N+1)):=by rw[zF,zy b3,FC];rfl
    have b1:=idx (xs:=Ce D1.B) (k:=i) (by rw[aA];omega);rw[aB (by omega)]at b1;have i2:=Rt (n:=n) (Eo D1.R i) (D1.B.getD i 0) (R:=D1.R.take i) (B:=D1.B.take i) (by rw[zf,zf,q8]);have pR:D1.R.take i++[Eo D1.R i]=D1.R.take (i+1):=by rw[yJ,zy (by omega),dN (by omega)];rfl
    have pB:D1.B.take i++[D1.B.getD i 0]=D1.B.take (i+1):=by rw[yJ,zy (by omega),lF (by omega)];rfl
    rw[pR,pB]at i2;have l1:bt<E:=by omega
    have l2:bb<E:=by omega
    have l3:nx<E:=by omega
    by_cases hB:D1.B.getD i 0<n
    .rw[sN hB]at i2
     have c1:((D1.B.getD i 0:Nat):Int)<(n:Int):=by omega
     have rl:=dM h9.row (show i<D1.R.length by omega);obtain⟨w,ew⟩:∃w,w=(Eo D1.R i).take n:=⟨_,rfl⟩;have hwl:w.length=n:=by rw[ew,zf];omega
     obtain⟨z,ez⟩:∃z,z=Cc D1.R i N:=⟨_,rfl⟩;have n9:(Eo D1.R i).getLastD 0=z:=by
      rw[List.getLastD_eq_getLast?,List.getLast?_eq_getElem?,rl,ez];unfold Cc Eo;rw[zx];rfl
     rw[<- ew,n9]at i2;have r3:=pY (R:=D1.R) (i:=i) (j:=N) (by omega);rw[<- ez]at r3;have r4:=bU (c:=cQ) (s:=3) qH (Eo D1.R i);rw[rl]at r4;have r5:(N:Int)<((N+1:Nat):Int):=by omega
     have r6:N*3+3<=(N+1)*3:=by omega
     have r7:=jC N;have r8:=jC n;have r9:(n:Int)<=((N+1:Nat):Int):=by omega
     have s4:n<=N+1:=by omega
     have s5:n*3<=(N+1)*3:=by omega
     have s6:((Eo D1.R i).flatMap cQ).take (n*3)=w.flatMap cQ:=by rw[ew,ae_ qH _ (by omega)]
     have s7:¬n=0:=by omega
     have s8:n<=maxLen/\n*56<=140737488355328:=by unfold maxLen;omega
     have y1:nx<E:=by omega
     have y2:¬nx=E:=by omega
     have y3:(nx==E)=false:=by rw[sJ];omega
     have y4:(E==nx)=false:=by rw[sJ];omega
     have y5:G<E:=by omega
     have y6:¬G=E:=by omega
     have y7:(G==E)=false:=by rw[sJ];omega
     have y8:(E==G)=false:=by rw[sJ];omega
     have y9:bt<E:=by omega
     have OE:¬bt=E:=by omega
     have OG:(bt==E)=false:=by rw[sJ];omega
     have OH:(E==bt)=false:=by rw[sJ];omega
     have c5:bi<E:=by omega
     have Q8:¬bi=E:=by omega
     have c6:(bi==E)=false:=by rw[sJ];omega
     have c7:(E==bi)=false:=by rw[sJ];omega
     have c8:nx<E+1:=by omega
     have c9:¬nx=E+1:=by omega
     have d0:(nx==E+1)=false:=by rw[sJ];omega
     have d5:(E+1==nx)=false:=by rw[sJ];omega
     have d6:G<E+1:=by omega
     have d7:¬G=E+1:=by omega
     have d8:(G==E+1)=false:=by rw[sJ];omega
     have d9:(E+1==G)=false:=by rw[sJ];omega
     have e8:bt<E+1:=by omega
     have e9:¬bt=E+1:=by omega
     have f0:(bt==E+1)=false:=by rw[sJ];omega
     have f4:(E+1==bt)=false:=by rw[sJ];omega
     have f5:bi<E+1:=by omega
     have f6:¬bi=E+1:=by omega
     have s9:(bi==E+1)=false:=by rw[sJ];omega
     have t3:(E+1==bi)=false:=by rw[sJ];omega
     have t4:nx<E+1+1:=by omega
     have t9:¬nx=E+1+1:=by omega
     have u0:(nx==E+1+1)=false:=by rw[sJ];omega
     have v0:(E+1+1==nx)=false:=by rw[sJ];omega
     have v2:G<E+1+1:=by omega
     have v3:¬G=E+1+1:=by omega
     have v4:(G==E+1+1)=false:=by rw[sJ];omega
     have v5:(E+1+1==G)=false:=by rw[sJ];omega
     have v6:bt<E+1+1:=by omega
     have v7:¬bt=E+1+1:=by omega
     have v8:(bt==E+1+1)=false:=by rw[sJ];omega
     have v9:(E+1+1==bt)=false:=by rw[sJ];omega
     have w2:bi<E+1+1:=by omega
     have w3:¬bi=E+1+1:=by omega
     have w4:(bi==E+1+1)=false:=by rw[sJ];omega
     have w5:(E+1+1==bi)=false:=by rw[sJ];omega
     have w7:nx<E+1+1+1:=by omega
     have w8:¬nx=E+1+1+1:=by omega
     have w9:(nx==E+1+1+1)=false:=by rw[sJ];omega
     have x0:(E+1+1+1==nx)=false:=by rw[sJ];omega
     have x8:G<E+1+1+1:=by omega
     have x9:¬G=E+1+1+1:=by omega
     have y0:(G==E+1+1+1)=false:=by rw[sJ];omega
     have z0:(E+1+1+1==G)=false:=by rw[sJ];omega
     have z5:bt<E+1+1+1:=by omega
     have z6:¬bt=E+1+1+1:=by omega
     have z7:(bt==E+1+1+1)=false:=by rw[sJ];omega
     have z8:(E+1+1+1==bt)=false:=by rw[sJ];omega
     have z9:bi<E+1+1+1:=by omega
     have A0:¬bi=E+1+1+1:=by omega
     have A1:(bi==E+1+1+1)=false:=by rw[sJ];omega
     have A2:(E+1+1+1==bi)=false:=by rw[sJ];omega
     have A3:nx<E+1+1+1+1:=by omega
     have A4:¬nx=E+1+1+1+1:=by omega
     have A5:(nx==E+1+1+1+1)=false:=by rw[sJ];omega
     have A6:(E+1+1+1+1==nx)=false:=by rw[sJ];omega
     have A7:G<E+1+1+1+1:=by omega
     have A9:¬G=E+1+1+1+1:=by omega
     have B1:(G==E+1+1+1+1)=false:=by rw[sJ];omega
     have B2:(E+1+1+1+1==G)=false:=by rw[sJ];omega
     have B3:bt<E+1+1+1+1:=by omega
     have B4:¬bt=E+1+1+1+1:=by omega
     have B5:(bt==E+1+1+1+1)=false:=by rw[sJ];omega
     have B6:(E+1+1+1+1==bt)=false:=by rw[sJ];omega
     have B7:bi<E+1+1+1+1:=by omega
     have B8:¬bi=E+1+1+1+1:=by omega
     have B9:(bi==E+1+1+1+1)=false:=by rw[sJ];omega
     have C0:(E+1+1+1+1==bi)=false:=by rw[sJ];omega
     have C1:nx<E+1+1+1+1+1:=by omega
     have C2:¬nx=E+1+1+1+1+1:=by omega
     have C3:(nx==E+1+1+1+1+1)=false:=by rw[sJ];omega
     have C4:(E+1+1+1+1+1==nx)=false:=by rw[sJ];omega
     have C5:G<E+1+1+1+1+1:=by omega
     have C6:¬G=E+1+1+1+1+1:=by omega
     have C7:(G==E+1+1+1+1+1)=false:=by rw[sJ];omega
     have C8:(E+1+1+1+1+1==G)=false:=by rw[sJ];omega
     have D3:bt<E+1+1+1+1+1:=by omega
     have D4:¬bt=E+1+1+1+1+1:=by omega
     have D5:(bt==E+1+1+1+1+1)=false:=by rw[sJ];omega
     have D6:(E+1+1+1+1+1==bt)=false:=by rw[sJ];omega
     have E0:bi<E+1+1+1+1+1:=by omega
     have E1:¬bi=E+1+1+1+1+1:=by omega
     have E2:(bi==E+1+1+1+1+1)=false:=by rw[sJ];omega
     have E3:(E+1+1+1+1+1==bi)=false:=by rw[sJ];omega
     have E4:nx<E+1+1+1+1+1+1:=by omega
     have E5:¬nx=E+1+1+1+1+1+1:=by omega
     have E6:(nx==E+1+1+1+1+1+1)=false:=by rw[sJ];omega
     have i9:(E+1+1+1+1+1+1==nx)=false:=by rw[sJ];omega
     have f7:G<E+1+1+1+1+1+1:=by omega
     have f8:¬G=E+1+1+1+1+1+1:=by omega
     have j0:(G==E+1+1+1+1+1+1)=false:=by rw[sJ];omega
     have k4:(E+1+1+1+1+1+1==G)=false:=by rw[sJ];omega
     have E7:bt<E+1+1+1+1+1+1:=by omega
     have E9:¬bt=E+1+1+1+1+1+1:=by omega
     have F0:(bt==E+1+1+1+1+1+1)=false:=by rw[sJ];omega
     have F1:(E+1+1+1+1+1+1==bt)=false:=by rw[sJ];omega
     have F2:bi<E+1+1+1+1+1+1:=by omega
     have F3:¬bi=E+1+1+1+1+1+1:=by omega
     have F4:(bi==E+1+1+1+1+1+1)=false:=by rw[sJ];omega
     have k5:(E+1+1+1+1+1+1==bi)=false:=by rw[sJ];omega
     have k6:¬nx=G:=by omega
     have k7:(nx==G)=false:=by rw[sJ];omega
     have k8:¬G=nx:=by omega
     have G0:(G==nx)=false:=by rw[sJ];omega
     have G1:¬G=bt:=by omega
     have G3:(G==bt)=false:=by rw[sJ];omega
     have G4:¬G=bi:=by omega
     have G8:(G==bi)=false:=by rw[sJ];omega
     have H0:¬bt=G:=by omega
     have H1:(bt==G)=false:=by rw[sJ];omega
     have H2:¬bi=G:=by omega
     have H3:(bi==G)=false:=by rw[sJ];omega
     have H4:E<E+1:=by omega
     have H5:¬E=E+1:=by omega
     have I0:(E==E+1)=false:=by rw[sJ];omega
     have I1:(E+1==E)=false:=by rw[sJ];omega
     have I2:E<E+1+1:=by omega
     have I3:¬E=E+1+1:=by omega
     have I6:(E==E+1+1)=false:=by rw[sJ];omega
     have J0:(E+1+1==E)=false:=by rw[sJ];omega
     have J1:E<E+1+1+1:=by omega
     have J2:¬E=E+1+1+1:=by omega
     have K0:(E==E+1+1+1)=false:=by rw[sJ];omega
     have K1:(E+1+1+1==E)=false:=by rw[sJ];omega
     have K2:E<E+1+1+1+1:=by omega
     have K3:¬E=E+1+1+1+1:=by omega
     have K4:(E==E+1+1+1+1)=false:=by rw[sJ];omega
     have K5:(E+1+1+1+1==E)=false:=by rw[sJ];omega
     have K6:E<E+1+1+1+1+1:=by omega
     have K7:¬E=E+1+1+1+1+1:=by omega
     have K8:(E==E+1+1+1+1+1)=false:=by rw[sJ];omega
     have K9:(E+1+1+1+1+1==E)=false:=by rw[sJ];omega
     have L0:E<E+1+1+1+1+1+1:=by omega
     have L1:¬E=E+1+1+1+1+1+1:=by omega
     have L2:(E==E+1+1+1+1+1+1)=false:=by rw[sJ];omega
     have L3:(E+1+1+1+1+1+1==E)=false:=by rw[sJ];omega
     have L4:E+1<E+1+1:=by omega
     have k9:¬E+1=E+1+1:=by omega
     have l5:(E+1==E+1+1)=false:=by rw[sJ];omega
     have l6:(E+1+1==E+1)=false:=by rw[sJ];omega
     have l7:E+1<E+1+1+1:=by omega
     have L5:¬E+1=E+1+1+1:=by omega
     have L7:(E+1==E+1+1+1)=false:=by rw[sJ];omega
     have M0:(E+1+1+1==E+1)=false:=by rw[sJ];omega
     have l8:E+1<E+1+1+1+1:=by omega
     have l9:¬E+1=E+1+1+1+1:=by omega
     have n0:(E+1==E+1+1+1+1)=false:=by rw[sJ];omega
     have n1:(E+1+1+1+1==E+1)=false:=by rw[sJ];omega
     have M1:E+1<E+1+1+1+1+1:=by omega
     have M2:¬E+1=E+1+1+1+1+1:=by omega
     have M3:(E+1==E+1+1+1+1+1)=false:=by rw[sJ];omega
     have M4:(E+1+1+1+1+1==E+1)=false:=by rw[sJ];omega
     have M5:E+1<E+1+1+1+1+1+1:=by omega
     have M6:¬E+1=E+1+1+1+1+1+1:=by omega
     have n2:(E+1==E+1+1+1+1+1+1)=false:=by rw[sJ];omega
     have n3:(E+1+1+1+1+1+1==E+1)=false:=by rw[sJ];omega
     have M7:E+1+1<E+1+1+1:=by omega
     have M8:¬E+1+1=E+1+1+1:=by omega
     have M9:(E+1+1==E+1+1+1)=false:=by rw[sJ];omega
     have N0:(E+1+1+1==E+1+1)=false:=by rw[sJ];omega
     have N1:E+1+1<E+1+1+1+1:=by omega
     have N2:¬E+1+1=E+1+1+1+1:=by omega
     have N3:(E+1+1==E+1+1+1+1)=false:=by rw[sJ];omega
     have N4:(E+1+1+1+1==E+1+1)=false:=by rw[sJ];omega
     have N5:E+1+1<E+1+1+1+1+1:=by omega
     have N6:¬E+1+1=E+1+1+1+1+1:=by omega
     have N9:(E+1+1==E+1+1+1+1+1)=false:=by rw[sJ];omega
     have O0:(E+1+1+1+1+1==E+1+1)=false:=by rw[sJ];omega
     have O2:E+1+1<E+1+1+1+1+1+1:=by omega
     have O3:¬E+1+1=E+1+1+1+1+1+1:=by omega
     have P0:(E+1+1==E+1+1+1+1+1+1)=false:=by rw[sJ];omega
     have P1:(E+1+1+1+1+1+1==E+1+1)=false:=by rw[sJ];omega
     have P2:E+1+1+1<E+1+1+1+1:=by omega
     have P3:¬E+1+1+1=E+1+1+1+1:=by omega
     have P4:(E+1+1+1==E+1+1+1+1)=false:=by rw[sJ];omega
     have Q0:(E+1+1+1+1==E+1+1+1)=false:=by rw[sJ];omega
     have Q4:E+1+1+1<E+1+1+1+1+1:=by omega
     have Q6:¬E+1+1+1=E+1+1+1+1+1:=by omega
     have R0:(E+1+1+1==E+1+1+1+1+1)=false:=by rw[sJ];omega
     have R1:(E+1+1+1+1+1==E+1+1+1)=false:=by rw[sJ];omega
     have R2:E+1+1+1<E+1+1+1+1+1+1:=by omega
     have R3:¬E+1+1+1=E+1+1+1+1+1+1:=by omega
     have R4:(E+1+1+1==E+1+1+1+1+1+1)=false:=by rw[sJ];omega
     have R5:(E+1+1+1+1+1+1==E+1+1+1)=false:=by rw[sJ];omega
     have R6:E+1+1+1+1<E+1+1+1+1+1:=by omega
     have R7:¬E+1+1+1+1=E+1+1+1+1+1:=by omega
     have R8:(E+1+1+1+1==E+1+1+1+1+1)=false:=by rw[sJ];omega
     have R9:(E+1+1+1+1+1==E+1+1+1+1)=false:=by rw[sJ];omega
     have S0:E+1+1+1+1<E+1+1+1+1+1+1:=by omega
     have S1:¬E+1+1+1+1=E+1+1+1+1+1+1:=by omega
     have S2:(E+1+1+1+1==E+1+1+1+1+1+1)=false:=by rw[sJ];omega
     have S3:(E+1+1+1+1+1+1==E+1+1+1+1)=false:=by rw[sJ];omega
     have S4:E+1+1+1+1+1<E+1+1+1+1+1+1:=by omega
     have S5:¬E+1+1+1+1+1=E+1+1+1+1+1+1:=by omega
     have S6:(E+1+1+1+1+1==E+1+1+1+1+1+1)=false:=by rw[sJ];omega
     have S7:(E+1+1+1+1+1+1==E+1+1+1+1+1)=false:=by rw[sJ];omega
     have S8:bb<E:=by omega
     have T4:¬bb=E:=by omega
     have T7:(bb==E)=false:=by rw[sJ];omega
     have T8:(E==bb)=false:=by rw[sJ];omega
     have T9:bb<E+1:=by omega
     have U1:¬bb=E+1:=by omega
     have U3:(bb==E+1)=false:=by rw[sJ];omega
     have U4:(E+1==bb)=false:=by rw[sJ];omega
     have U6:bb<E+1+1:=by omega
     have V0:¬bb=E+1+1:=by omega
     have V1:(bb==E+1+1)=false:=by rw[sJ];omega
     have V2:(E+1+1==bb)=false:=by rw[sJ];omega
     have V4:bb<E+1+1+1:=by omega
     have V5:¬bb=E+1+1+1:=by omega
     have W0:(bb==E+1+1+1)=false:=by rw[sJ];omega
     have W1:(E+1+1+1==bb)=false:=by rw[sJ];omega
     have W2:bb<E+1+1+1+1:=by omega
     have W3:¬bb=E+1+1+1+1:=by omega
     have W4:(bb==E+1+1+1+1)=false:=by rw[sJ];omega
     have W5:(E+1+1+1+1==bb)=false:=by rw[sJ];omega
     have W6:bb<E+1+1+1+1+1:=by omega
     have W7:¬bb=E+1+1+1+1+1:=by omega
     have W8:(bb==E+1+1+1+1+1)=false:=by rw[sJ];omega
     have X0:(E+1+1+1+1+1==bb)=false:=by rw[sJ];omega
     have X1:bb<E+1+1+1+1+1+1:=by omega
     have X2:¬bb=E+1+1+1+1+1+1:=by omega
     have Z0:(bb==E+1+1+1+1+1+1)=false:=by rw[sJ];omega
     have Z1:(E+1+1+1+1+1+1==bb)=false:=by rw[sJ];omega
     have Z2:¬bb=G:=by omega
     have Z3:¬G=bb:=by omega
     have Z4:(bb==G)=false:=by rw[sJ];omega
     have Z5:(G==bb)=false:=by rw[sJ];omega
     obtain⟨K,eK⟩:∃K,K=(pick n (D1.R.take i) (D1.B.take i)).1.length:=⟨_,rfl⟩;have eK2:(pick n (D1.R.take i) (D1.B.take i)).2.length=K:=by rw[eK];exact Jc
     have hKL:K<=1000:=by
      have h1:=Gw.len;have h2:∀(R:List (List Rat)) (B:List Nat),(pick n R B).1.length<=R.length:=by
       intro R
       induction R with
       |nil=>intro B;simp[pick]
       |cons x R ih=>
        intro B;cases B with
        |nil=>simp[pick]
        |cons b B=>unfold pick;have:=ih B;split<;>simp<;>omega
      have:=h2 (D1.R.take i) (D1.B.take i);rw[zf]at this;omega
     have aDE:Hy.length=K:=Gw.len.trans eK.symm;have hb:=Gw.t
     have fin:∀σ' nx',E+1+1+1+1+1+1<nx'->σ' G=some ⟨[I n,.rs (E+1+1+1+1) 0 (K+1),.rs (E+1+1+1+1+1+1) 0 (K+1),.rs (J+1) 0 (n+1)],0,true⟩->σ' (E+1+1+1+1)=some ⟨(Hy++[E+1+1]).map fun b=>V.rs b 0 (n+1),1,true⟩->σ' (E+1+1+1+1+1+1)=some ⟨(Ce ((pick n (D1.R.take i) (D1.B.take i)).2++[D1.B.getD i 0])).flatMap cI,1,true⟩->σ' (E+1+1)=some ⟨(w++[z]).flatMap cQ,3,true⟩->(∀y,y<E->y≠G->y∉bk Yb++bk Yc->σ' y=Dx y) ->
       (∀x,x<G->σ' x=a0 x)/\∃Yb Yc Hy,Fg σ' G (J+1) Yb Yc Hy ⟨(pick n (D1.R.take (i+1)) (D1.B.take (i+1))).1,(pick n (D1.R.take (i+1)) (D1.B.take (i+1))).2,G9 c⟩ n/\∀x∈G :: (J+1) :: (bk Yb++bk Yc++Hy),G<=x/\x<nx':=fun σ' nx' p0 p1 p2 p3 p4 p5=>by
      refine⟨fun x hx=>(p5 x (by omega) (by omega) fun hm=>?_).trans (XQ x hx),.rs (E+1+1+1+1) 0 (K+1),.rs (E+1+1+1+1+1+1) 0 (K+1),Hy++[E+1+1],?_,fun x hx=>?_⟩
      .have:=GZ x (by simp only[zX];exact .inr (.inr (zB _ hm)))
       omega
      .rw[i2]
       have:=aiu (x:=w++[z]) (b:=D1.B.getD i 0) Gw (m0:=E) (br:=E+1+1+1+1) (bb:=E+1+1+1+1+1+1) (bw:=E+1+1) (σ':=σ') (fun y hy=>(GZ y hy).2) (by omega) (by omega) (by omega) (by omega) (by omega) (by omega)
        (by show σ' G=some (Fj.mk [_,.rs _ 0 ((pick n (D1.R.take i) (D1.B.take i)).1.length+1),.rs _ 0 ((pick n (D1.R.take i) (D1.B.take i)).1.length+1),_] _ _);rw[<- eK];exact p1) p2 p3 p4 p5
       rw[show(⟨(pick n (D1.R.take i) (D1.B.take i)).1,(pick n (D1.R.take i) (D1.B.take i)).2,G9 c⟩:TQ).R.length=K from eK.symm]at this;exact this
      .simp only[bk,yS,yM,zX,wz,zH,or_false]at hx
       rcases hx with rfl|rfl|rfl|rfl|hx|rfl
       .omega
       .omega
       .omega
       .omega
       .have:=GZ x (by simp only[zX];exact .inr (.inr (yj _ hx)));omega
       .omega
     have Z6:=rD (σ:=restrict (upd (upd Dx E (some ⟨w.flatMap cQ,3,true⟩)) (E+1) (some ⟨cQ z,3,true⟩)) [E,E+1]) (nx:=E+1+1) (size:=3) (bytes:=56) (b:=E) (len:=n) (m:=1) (row:=cQ z) (by rw[fH,Zk,Zi]) (by rw[bU qH,hwl]) (by decide) (by decide) (by unfold maxLen;omega) (by omega) rfl;obtain⟨CY,e6⟩:∃CY,CY=upd (upd (upd (upd Dx E (some ⟨w.flatMap cQ,3,true⟩)) (E+1) (some ⟨cQ z,3,true⟩)) E none) (E+1+1) (some ⟨w.flatMap cQ++cQ z,3,true⟩):=⟨_,rfl⟩;have o6:∀y,y<E->CY y=Dx y:=fun y hy=>by rw[e6,Zk,Zk,Zk,Zk]
     have lx1:G<E:=by omega
     have w6:CY (E+1+1)=some ⟨(w++[z]).flatMap cQ,3,true⟩:=by rw[e6,Zi,zS];simp
     have b6:CY G=_:=(o6 G lx1).trans hb;have t6:CY bt=_:=(o6 bt (by omega)).trans e1;have j7:CY bb=_:=(o6 bb (by omega)).trans e3;have BD:CY nx=_:=(o6 nx (by omega)).trans e5;have u50:G<E+1+1+1+1+1+1+1:=by omega
     have hpK:∀q,q=(pick n (D1.R.take i) (D1.B.take i)).1.length->q=K:=fun q h=>h.trans eK.symm
     rcases Gw.r with ⟨j8,rfl⟩|⟨HY,j8,o0,Ua⟩<;>rcases Gw.b with ⟨o2,rfl⟩|⟨a2,o2,o3,Ub⟩
     .have hK0:K=0:=eK.trans j8
      have ayZ:Hy=[]:=zZ (by omega);have hP2:(pick n (D1.R.take i) (D1.B.take i)).2=[]:=zZ (by omega);obtain⟨EN,e7⟩:∃EN,EN=upd (upd (upd CY (E+1+1+1) (some ⟨[V.rs (E+1+1) 0 (n+1)],1,true⟩)) (E+1+1+1+1) (some ⟨[V.rs (E+1+1) 0 (n+1)],1,true⟩)) G (some ⟨[I n,.rs (E+1+1+1+1) 0 1,.nil,.rs (J+1) 0 (n+1)],0,true⟩):=⟨_,rfl⟩;have b7:EN G=some ⟨[I n,.rs (E+1+1+1+1) 0 1,.nil,.rs (J+1) 0 (n+1)],0,true⟩:=by rw[e7,Zi]
      have o7:∀y,y<E+1+1+1->y≠G->EN y=CY y:=fun y h1 h2=>by rw[e7,Zj _ _ h2,Zk,Zk]
      have o4:EN bt=_:=(o7 bt (by omega) (by omega)).trans t6;have o5:EN bb=_:=(o7 bb (by omega) (by omega)).trans j7;refine .inl ⟨_,by simp only[go_sem,S,O,t7,b9,b4,h5,e1,e2,e3,e4,e5,r1,b1,g1,g2,g3,c1,l1,l2,l3,r3,r4,r5,r6,r7,r8,r9,s4,s5,s6,s7,s8,hb,Z6,u50,<- e6,b6,t6,j7,BD,<- e7,b7,o4,o5,y1,y2,y3,y4,y5,y6,y7,y8,y9,OE,OG,OH,c5,Q8,c6,c7,c8,c9,d0,d5,d6,d7,d8,d9,e8,e9,f0,f4,f5,f6,s9,t3,t4,t9,u0,v0,v2,v3,v4,v5,v6,v7,v8,v9,w2,w3,w4,w5,w7,w8,w9,x0,x8,x9,y0,z0,z5,z6,z7,z8,z9,A0,A1,A2,A3,A4,A5,A6,A7,A9,B1,B2,B3,B4,B5,B6,B7,B8,B9,C0,C1,C2,C3,C4,C5,C6,C7,C8,D3,D4,D5,D6,E0,E1,E2,E3,E4,E5,E6,i9,f7,f8,j0,k4,E7,E9,F0,F1,F2,F3,F4,k5,k6,k7,k8,G0,G1,G3,G4,G8,H0,H1,H2,H3,H4,H5,I0,I1,I2,I3,I6,J0,J1,J2,K0,K1,K2,K3,K4,K5,K6,K7,K8,K9,L0,L1,L2,L3,L4,k9,l5,l6,l7,L5,L7,M0,l8,l9,n0,n1,M1,M2,M3,M4,M5,M6,n2,n3,M7,M8,M9,N0,N1,N2,N3,N4,N5,N6,N9,O0,O2,O3,P0,P1,P2,P3,P4,Q0,Q4,Q6,R0,R1,R2,R3,R4,R5,R6,R7,R8,R9,S0,S1,S2,S3,S4,S5,S6,S7,S8,T4,T7,T8,T9,U1,U3,U4,U6,V0,V1,V2,V4,V5,W0,W1,W2,W3,W4,W5,W6,W7,W8,X0,X1,X2,Z0,Z1,Z2,Z3,Z4,Z5];rfl,?_⟩;simp only[go_sem,S,O,t7,b9,b4];refine⟨rfl,by omega,fin _ _ (by omega) ?_ ?_ ?_ ?_ fun y h1 h2 _=>?_⟩
      .rw[Zi,hK0]
      .rw[Zk,Zk,Zk,e7,Zk,Zi,ayZ];rfl
      .rw[Zk,Zi,hP2];rfl
      .rw[Zk,Zk,Zk,o7 _ (by omega) (by omega)];exact w6
      .rw[Zj _ _ h2,Zk,Zk,o7 y (by omega) h2];exact o6 y h1
     .exact absurd o2 (by rw[j8];decide)
     .exact absurd j8 (by rw[o2];decide)
     .replace o0:Yb= .rs HY 0 K:=by rw[o0,eK]
      replace o3:Yc= .rs a2 0 K:=by rw[o3,eK]
      subst o0 o3;have nd5:=Gw.nd;simp only[bk,yS,yM,xW,zX,not_or]at nd5;obtain⟨⟨m1,m2,m3,m4⟩,⟨m5,m6,m7⟩,⟨m8,m9⟩,m10,m11⟩:=nd5;have lr':=GZ HY (by simp[bk]);have lb':=GZ a2 (by simp[bk]);have ahA:CY HY=_:=(o6 HY lr'.2).trans Ua;have ahz:CY a2=_:=(o6 a2 lb'.2).trans Ub;have ha2:=rE (σ:=restrict (upd CY (E+1+1+1) (some ⟨[V.rs (E+1+1) 0 (n+1)],1,true⟩)) [HY,E+1+1+1]) (nx:=E+1+1+1+1) (bytes:=24) (b:=HY) (len:=K) (m:=1) (row:=[V.rs (E+1+1) 0 (n+1)]) (by rw[fH,Zk];exact ahA) (by simp;omega) rfl (by decide) (by unfold maxLen;omega) (by omega) rfl;obtain⟨EN,e7⟩:∃EN,EN=upd (upd (upd (upd CY (E+1+1+1) (some ⟨[V.rs (E+1+1) 0 (n+1)],1,true⟩)) HY none) (E+1+1+1+1) (some ⟨(Hy.map fun b=>V.rs b 0 (n+1))++[V.rs (E+1+1) 0 (n+1)],1,true⟩)) G (some ⟨[I n,.rs (E+1+1+1+1) 0 (K+1),.rs a2 0 K,.rs (J+1) 0 (n+1)],0,true⟩):=⟨_,rfl⟩;have b7:EN G=some ⟨[I n,.rs (E+1+1+1+1) 0 (K+1),.rs a2 0 K,.rs (J+1) 0 (n+1)],0,true⟩:=by rw[e7,Zi]
      have o7:∀y,y<E+1+1+1->y≠G->y≠HY->EN y=CY y:=fun y h1 h2 h3=>by rw[e7,Zj _ _ h2,Zk,Zj _ _ h3,Zk]
      have o4:EN bt=_:=(o7 bt (by omega) (by omega) (by omega)).trans t6;have o5:EN bb=_:=(o7 bb (by omega) (by omega) (by omega)).trans j7;have bb7:EN a2=_:=(o7 a2 (by omega) (yu m3) (yu m8)).trans ahz;have ha3:=rE (σ:=restrict (upd EN (E+1+1+1+1+1) (some ⟨[I ((D1.B.getD i 0:Nat):Int)],1,true⟩)) [a2,E+1+1+1+1+1]) (nx:=E+1+1+1+1+1+1) (bytes:=8) (b:=a2) (len:=K) (m:=1) (row:=[I ((D1.B.getD i 0:Nat):Int)]) (by rw[fH,Zk];exact bb7) (by show((Ce (pick n (D1.R.take i) (D1.B.take i)).2).flatMap cI).length=K;rw[qM,aA];exact eK2) rfl (by decide) (by unfold maxLen;omega) (by omega) rfl;have u1:¬G=HY:=m2;have u2:¬G=a2:=m3;have u3:(G==HY)=false:=beq_false_of_ne m2;have u4:(G==a2)=false:=beq_false_of_ne m3;have u5:(HY==G)=false:=beq_false_of_ne (yu m2);have u6:(a2==G)=false:=beq_false_of_ne (yu m3);have u7:HY<E+1+1+1:=by omega
      have u8:HY<E+1+1+1+1:=by omega
      have u9:a2<E+1+1+1+1+1:=by omega
      have u10:a2<E+1+1+1+1+1+1:=by omega
      have u11:(bt==HY)=false:=by rw[sJ];omega
      have u12:(bt==a2)=false:=by rw[sJ];omega
      have u13:(bi==HY)=false:=by rw[sJ];omega
      have u14:(bb==HY)=false:=by rw[sJ];omega
      have u15:(bb==a2)=false:=by rw[sJ];omega
      have u16:¬bt=HY:=by omega
      have u17:¬bb=HY:=by omega
      have u18:¬bt=a2:=by omega
      have u19:¬bb=a2:=by omega
      have u20:(HY==E)=false:=by rw[sJ];omega
      have u21:(E==HY)=false:=by rw[sJ];omega
      have u22:(HY==E+1)=false:=by rw[sJ];omega
      have u23:(E+1==HY)=false:=by rw[sJ];omega
      refine .inl ⟨_,by simp only[go_sem,S,O,t7,b9,b4,h5,e1,e2,e3,e4,e5,r1,b1,g1,g2,g3,c1,l1,l2,l3,r3,r4,r5,r6,r7,r8,r9,s4,s5,s6,s7,s8,hb,Z6,u50,<- e6,b6,t6,j7,BD,ha2,<- e7,b7,o4,o5,ha3,u1,u2,u3,u4,u5,u6,u7,u8,u9,u10,u11,u12,u13,u14,u15,u16,u17,u18,u19,u20,u21,u22,u23,y1,y2,y3,y4,y5,y6,y7,y8,y9,OE,OG,OH,c5,Q8,c6,c7,c8,c9,d0,d5,d6,d7,d8,d9,e8,e9,f0,f4,f5,f6,s9,t3,t4,t9,u0,v0,v2,v3,v4,v5,v6,v7,v8,v9,w2,w3,w4,w5,w7,w8,w9,x0,x8,x9,y0,z0,z5,z6,z7,z8,z9,A0,A1,A2,A3,A4,A5,A6,A7,A9,B1,B2,B3,B4,B5,B6,B7,B8,B9,C0,C1,C2,C3,C4,C5,C6,C7,C8,D3,D4,D5,D6,E0,E1,E2,E3,E4,E5,E6,i9,f7,f8,j0,k4,E7,E9,F0,F1,F2,F3,F4,k5,k6,k7,k8,G0,G1,G3,G4,G8,H0,H1,H2,H3,H4,H5,I0,I1,I2,I3,I6,J0,J1,J2,K0,K1,K2,K3,K4,K5,K6,K7,K8,K9,L0,L1,L2,L3,L4,k9,l5,l6,l7,L5,L7,M0,l8,l9,n0,n1,M1,M2,M3,M4,M5,M6,n2,n3,M7,M8,M9,N0,N1,N2,N3,N4,N5,N6,N9,O0,O2,O3,P0,P1,P2,P3,P4,Q0,Q4,Q6,R0,R1,R2,R3,R4,R5,R6,R7,R8,R9,S0,S1,S2,S3,S4,S5,S6,S7,S8,T4,T7,T8,T9,U1,U3,U4,U6,V0,V1,V2,V4,V5,W0,W1,W2,W3,W4,W5,W6,W7,W8,X0,X1,X2,Z0,Z1,Z2,Z3,Z4,Z5];rfl,?_⟩;simp only[go_sem,S,O,t7,b9,b4];refine⟨rfl,by omega,fin _ _ (by omega) ?_ ?_ ?_ ?_ fun y h1 h2 h3=>?_⟩
      .rw[Zi]
      .rw[Zk,Zk,Zk,Zk,e7,Zk,Zi,wR];rfl
      .rw[Zk,Zi]
       show some (Fj.mk ((Ce (pick n (D1.R.take i) (D1.B.take i)).2).flatMap cI++[I ((D1.B.getD i 0:Nat):Int)]) 1 true)=_;unfold Ce;rw[wR,zS];rfl
      .rw[Zk,Zk,Zk,Zk,o7 _ (by omega) (by omega) (by omega)];exact w6
      .simp only[bk,yS,yM,zX,zH,or_false,not_or]at h3
       rw[Zj _ _ h2,Zk,Zj _ _ h3.2,Zk,o7 y (by omega) h2 h3.1];exact o6 y h1
    .rw[sO hB]at i2
     have c1:¬((D1.B.getD i 0:Nat):Int)<(n:Int):=by omega
     refine .inl ⟨_,by simp only[go_sem,S,O,t7,b9,b4,h5,e1,e2,e3,e5,r1,b1,g1,g2,g3,c1,l1,l2,l3];rfl,?_⟩;simp only[go_sem,S,O,t7,b9,b4];exact⟨rfl,i1,XQ,Yb,Yc,Hy,by rw[i2];exact Gw,GZ⟩) (by
    clear hL;rintro ⟨T,Dx,E⟩ ⟨S,O,t7,b9,b4,h5,i1,XQ,Yb,Yc,Hy,Gw,GZ⟩;simp only at S O t7 b9 b4 h5 i1 XQ Gw GZ;refine⟨_,by simp only[go_sem,b4,h5,zi];rfl,by simp,_,_,_,Yb,Yc,Hy,rfl,?_⟩;simp only[go_sem,t7];rw[zl (by omega),zl (by omega)]at Gw;exact⟨i1,XQ,Gw,GZ⟩) (by
    simp only[go_sem,S,O,t7];refine⟨by omega,j5,.nil,.nil,[],⟨r0,.inl ⟨rfl,rfl⟩,fun i h=>absurd h (zU _),.inl ⟨rfl,rfl⟩,s2,rfl,?_⟩,fun x hx=>?_⟩
    .simp only[bk,zC,xW,xY,zH,not_false_iff,true_and,List.nodup_nil,and_true]
     omega
    .simp only[bk,zC,zX,zH,or_false]at hx
     omega)
  clear hL;obtain⟨P,eP⟩:∃P,P=pick n D1.R D1.B:=⟨_,rfl⟩;have j9:=Jd (n:=n) (R:=D1.R) (B:=D1.B);have hpl:=Jc (n:=n) (R:=D1.R) (B:=D1.B);have avK:=hcl D1 U0 fun i hi=>b5 i (by omega)
  rw[<- eP]at j9 hpl Gw avK;have ak7:∀x∈P.1,x.length=n+1:=fun x hx=>by
   obtain⟨y,hy,rfl⟩:=j9.1 x hx;have:=h9.row y hy;rw[zo,zf];simp;omega
  have pln:∀x∈P.1,∀q∈x,Ln 6 q:=fun x hx q hq=>by
   obtain⟨y,hy,rfl⟩:=j9.1 x hx;have hyl:=h9.row y hy;rcases List.mem_append.mp hq with hq|hq
   .exact h9.big y hy q (wJ hq)
   .rw[List.mem_singleton.mp hq,List.getLastD_eq_getLast?,List.getLast?_eq_getElem?,zy (by omega)]
    exact h9.big y hy _ (zu _)
  obtain⟨K,eK⟩:∃K,K=P.1.length:=⟨_,rfl⟩;have p6:(⟨P.1,P.2,G9 c⟩:TQ).R.length=K:=eK.symm;have apQ:K<=1000:=by
   have h2:∀(R:List (List Rat)) (B:List Nat),(pick n R B).1.length<=R.length:=by
    intro R
    induction R with
    |nil=>intro B;simp[pick]
    |cons x R ih=>
     intro B;cases B with
     |nil=>simp[pick]
     |cons b B=>unfold pick;have:=ih B;split<;>simp<;>omega
   have:=h2 D1.R D1.B;rw[<- eP]at this;omega
  have p7:DR ZK 215 i0=some (I K):=by
   rcases Gw.r with ⟨q1,rfl⟩|⟨br,q1,rfl,_⟩
   .rw[p6]at q1
    rw[q1];exact nU (by kernel_rfl)
   .rw[p6];exact nT (by kernel_rfl)
  have hb5:=Gw.t;simp only[go_sem,t7,hb5,p7];generalize hL:jI _ _=y;obtain⟨x,rfl,T6,CY,BD,rfl,t7,Ol,OI,f9⟩:=oZ hL K (fun i st=>st.T 7= .rp G 0/\st.T 157=i0/\st.T 158=I K/\st.T 159=I i/\E<=st.nx/\(∀x,x<G->st.σ x=Dx x)/\Fg st.σ G (J+1) i0 j6 b8 ⟨P.1,P.2,clears (G9 c) (P.1.take i) (P.2.take i)⟩ n)
   (fun x=>∃T CY BD,x=(.exit 8,⟨T,CY,BD⟩)/\T 7= .rp G 0/\E<=BD/\(∀x,x<G->CY x=Dx x)/\Fg CY G (J+1) i0 j6 b8 ⟨P.1,P.2,clears (G9 c) P.1 P.2⟩ n) (by
    clear hL;rintro i ⟨T,CY,BD⟩ hi ⟨t7,g0,i3,g8,Ol,OI,f9⟩;simp only at t7 g0 i3 g8 Ol f9;obtain⟨q1,q2,q3,q4,q5,q6,q7⟩:=f9;have hl6:b8.length=K:=q6.trans p6;rcases q2 with ⟨w0,_⟩|⟨i4,_,p8,alh⟩
    .have:P.1.length=0:=w0
     omega
    rcases q4 with ⟨w0,_⟩|⟨c0,_,p9,ali⟩
    .have:P.1.length=0:=w0
     omega
    replace p8:i0= .rs i4 0 K:=by rw[p8,eK]
    replace p9:j6= .rs c0 0 K:=by rw[p9,eK]
    subst p8 p9;have b3:i<b8.length:=by omega
    obtain⟨bi,FC⟩:∃bi,bi=b8[i]:=⟨_,rfl⟩;have Yk:CY bi=some ⟨(Eo P.1 i).flatMap cQ,3,true⟩:=by rw[FC];exact q3 i b3
    have q7':=q7;simp only[bk,yS,yM,xW,zX,not_or]at q7;obtain⟨⟨m1,m2,m3,m4⟩,⟨m5,m6,m7⟩,⟨m8,m9⟩,m10,m11⟩:=q7;have j1:bi∈b8:=by rw[FC];exact zu b3
    have d1:G≠bi:=fun e=>m4 (e ▸ j1)
    have d2:J+1≠bi:=fun e=>m7 (e ▸ j1)
    have d3:i4≠bi:=fun e=>m9 (e ▸ j1)
    have d4:c0≠bi:=fun e=>m10 (e ▸ j1)
    have g1:(i:Int)<(K:Int):=by omega
    have g2:=jC i;have g3:=ZR (n:=(i:Int)+1);have r1:(b8.map fun b=>V.rs b 0 (n+1))[i]?=some (.rs bi 0 (n+1)):=by rw[zF,zy b3,FC];rfl
    have b1:((Ce P.2).flatMap cI)[i]?=some (I ((P.2.getD i 0:Nat):Int)):=by
     rw[idx (by rw[aA];omega),aB (by omega)]
    have l1:G<BD:=by have:=GZ G (by simp);omega
    have l2:J+1<BD:=by omega
    have l3:c0<BD:=by have:=GZ c0 (by simp[bk]);omega
    have l4:bi<BD:=by have:=GZ bi (by simp[j1]);omega
    have z1:(G==J+1)=false:=beq_false_of_ne m1;have z2:(G==bi)=false:=beq_false_of_ne d1;have z3:(c0==J+1)=false:=beq_false_of_ne (yu m6);have z4:(c0==bi)=false:=beq_false_of_ne d4;have hPi:P.2.getD i 0<n:=by rw[lF (by omega)];exact j9.2 _ (zu _)
    have avL:Eo P.1 i∈P.1:=by rw[dN (by omega)];exact zu _
    have ay3:(G9 c).length=n+1:=by unfold G9;rw[zo,gK];simp;omega
    obtain⟨s3,m3',aDM,kc,pe,f1,f2,f3⟩:=UD (σ:=CY) (nx:=BD) (bi:=J+1) (bR:=bi) (N:=n) (k:=P.2.getD i 0) (x:=clears (G9 c) (P.1.take i) (P.2.take i)) (t:=Eo P.1 i) (OU ay3 fun x hx=>ak7 x (wJ hx)) (ak7 _ avL) (by omega) (by omega) (avK i (by omega)) (pln _ avL) q5 Yk d2 l2 l4;have esn:KY (clears (G9 c) (P.1.take i) (P.2.take i)) (Eo P.1 i) ((clears (G9 c) (P.1.take i) (P.2.take i)).getD (P.2.getD i 0) 0)=clears (G9 c) (P.1.take (i+1)) (P.2.take (i+1)):=by
     have e1:P.1.take (i+1)=P.1.take i++[Eo P.1 i]:=by rw[yJ,zy (by omega),dN (by omega)];rfl
     have e2:P.2.take (i+1)=P.2.take i++[P.2.getD i 0]:=by rw[yJ,zy (by omega),lF (by omega)];rfl
     rw[e1,e2,KL _ _ (by rw[zf,zf,hpl])]
    refine .inl ⟨_,by simp only[go_sem,t7,g0,i3,g8,q1,alh,ali,b1,r1,g1,g2,g3,l1,l2,l3,l4,z1,z2,z3,z4,kc,pe];rfl,?_⟩;simp only[go_sem,t7,g0,i3];refine⟨rfl,by omega,fun x hx=>(f3 x (by omega) (by omega)).trans (OI x hx),⟨(f3 G l1 m1).trans q1,.inr ⟨i4,by show 0<P.1.length;omega,by show _=V.rs i4 0 P.1.length;rw[eK],(f3 i4 (by have:=GZ i4 (by simp[bk]);omega) (yu m5)).trans alh⟩,fun j hj=>?_,.inr ⟨c0,by show 0<P.1.length;omega,by show _=V.rs c0 0 P.1.length;rw[eK],(f3 c0 l3 (yu m6)).trans ali⟩,?_,q6,q7'⟩⟩
    .have hm:=zu hj
     rw[f3 _ (by have:=GZ b8[j] (by simp[hm]);omega) fun e=>m7 (e ▸ hm)];exact q3 j hj
    .rw[f1]
     show some (Fj.mk (List.flatMap cQ (KY _ _ _)) 3 true)=_;rw[esn]) (by
    clear hL;rintro ⟨T,CY,BD⟩ ⟨t7,g0,i3,g8,Ol,OI,f9⟩;simp only at t7 g0 i3 g8 Ol f9;refine⟨_,by simp only[go_sem,i3,g8,zi];rfl,by simp,_,_,_,rfl,?_⟩;simp only[go_sem,t7];rw[zl (by omega),zl (by omega)]at f9;exact⟨Ol,OI,f9⟩) (by
    simp only[go_sem,t7];have e0:clears (G9 c) [] []=G9 c:=by unfold clears;rfl
    rw[e0];exact⟨fun _ _=>trivial,Gw⟩)
  refine⟨CY,BD,G,J+1,i0,j6,b8,D1,by simp only[go_sem,t7],U0,fun i hi=>b5 i (by omega),?_,fun x hx=>?_,fun x hx j4=>(OI x (by omega)).trans ((XQ x (by omega)).trans (i5 x hx j4))⟩
  .unfold D2q;rw[<- eP];exact f9
  .have:=GZ x hx;omega
end Go.Proofs.YtjjhejehbhbdeaaGreat
namespace Go.Proofs.YtjjhejehbhbdeaaGreat
open Go Go.TV Go.Lp
theorem Ru{M:Nat}(E:1<=M):∀ {k m:Nat},m<=k->fact M m<=fact M k
 |0,m,h=>by have:m=0:=by omega
            subst this;exact zq _
 |k+1,m,h=>by
  by_cases e:m=k+1
  .subst e;exact zq _
  .refine zT (Ru E (k:=k) (m:=m) (by omega)) ?_
   show fact M k<=(k+1)*(M*fact M k);have G:1*fact M k<=M*fact M k:=zK _ E;have J:1*(M*fact M k)<=(k+1)*(M*fact M k):=zK _ (by omega);omega
def BM:Nat:=13*(1000*fact 1000 12)+fact 1000 12
theorem am0:ln BM<=6:=jY.mpr (by decide+kernel)
theorem Rx{K m:Nat}(E:K<=1000)(hm:m<=12):(m+1)*(K*fact 1000 m)+fact 1000 m<=BM:=by
 have G:=Ru (M:=1000) (by decide) hm;have J:K*fact 1000 m<=1000*fact 1000 12:=x9 E G;have O:(m+1)*(K*fact 1000 m)<=13*(1000*fact 1000 12):=x9 (by omega) J;unfold BM;omega
theorem OV{M:Nat}{q:Rat}(h:q.num.natAbs<=M/\q.den<=M)(E:M<=BM):Ln 6 q :=
 ⟨zT (jX (zT h.1 E)) am0,zT (jX (zT h.2 E)) am0⟩
theorem UH{k:Nat}{q:Rat}(h:Ln k q):Ln k (-q):=⟨by rw[Rat.neg_num,vY];exact h.1,by rw[Rat.neg_den];exact h.2⟩
theorem al7:Ln 6 0:=Ln.mono (sF (z:=0) (by decide)) (by decide)
structure PrS (A b c:List Int) (m n:Nat):Prop where
 hA:A.length=m*n
 hb:b.length=m
 hc:c.length=n
 hm:m<=12
 hn:n<=16
 bA:∀x∈A,-1000<=x/\x<=1000
 bb:∀x∈b,-1000<=x/\x<=1000
 bc:∀x∈c,-1000<=x/\x<=1000
theorem gW{A b c:List Int}{m n:Nat}(h:PrS A b c m n):Whole (AV A b c m n) 1000 :=
 ⟨by decide,fun j k _ _=>⟨_,rfl,QO (lD h.bA _)⟩,fun k _=>⟨_,rfl,QO (lD h.bb _)⟩⟩
section
variable {A b c:List Int} {m n n':Nat} {C:Nat->Rat} {T:Tab} {D:TQ} {ι:List Nat}
theorem apT(hp:PrS A b c m n)(E:(AV A b c m n).Good T){i j:Nat}(hi:i<m)(G:j<n+m):Ln 6 (T.e i j) :=
 OV (akP E (gW hp) hi G) (by have:=Rx (K:=0) (m:=m) (by decide) hp.hm;show fact 1000 m<=BM;omega)
theorem aiy(hp:PrS A b c m n)(E:(AV A b c m n).Good T){i:Nat}(hi:i<m):Ln 6 (T.b i) :=
 OV (aez E (gW hp) hi) (by have:=Rx (K:=0) (m:=m) (by decide) hp.hm;show fact 1000 m<=BM;omega)
theorem abx(hp:PrS A b c m n)(h:Vq (AV A b c m n) n' C T D ι)(E:(AV A b c m n).Good T)(hC:∀j,ZB 1000 (C j)):ShF D n'/\D.B.Nodup:=by
 have hm:=hp.hm;have hn:=hp.hn;have hle:n'<=n+m:=h.le;have hl:D.R.length<=m:=by
  rw[<- h.len];have h2:ι ⊆ List.range m:=fun r hr=>List.mem_range.mpr (h.lt r hr)
  have h3:=h.nd.length_le_of_subset h2
  rwa [uH]at h3
 refine⟨⟨h.row,h.Bz,h.Gu,by omega,by omega,fun x hx q J=>?_,fun q J=>?_,fun q J=>?_⟩,?_⟩
 .obtain⟨i,hi,rfl⟩:=yc hx
  obtain⟨j,O,rfl⟩:=yc J;have a1:=h.row _ (zu hi);have e:(D.R[i])[j]=Cc D.R i j:=by
   have:=oC (R:=D.R) (i:=i) (j:=j) (by rw[dN hi];exact O);rw[<- this];simp only[dN hi]
  rw[e]
  by_cases G:j<n'
  .rw[h.ent i j hi G];exact apT hp E (h.io hi) (by omega)
  .have:j=n':=by omega
   subst this;rw[h.rhs i hi];exact aiy hp E (h.io hi)
 .obtain⟨j,O,rfl⟩:=yc J
  have a2:=h.Gu;rw[<- lF O 0]
  by_cases G:j<n'
  .rw[h.cost j G]
   exact OV (an9 E (gW hp) hC (show j<n+m by omega)) (Rx (zq _) hm)
  .have:j=n':=by omega
   subst this;rw[h.val];exact UH (OV (an_ E (gW hp) hC) (Rx (zq _) hm))
 .obtain⟨i,hi,rfl⟩:=yc J
  have S:=h.Bz;rw[<- lF hi 0,h.BH i (by omega)];have:T.B (ι.getD i 0)<n+m:=E.ok.bn _ (h.io (by omega));omega
 .rw[List.nodup_iff_pairwise_ne,List.pairwise_iff_getElem]
  intro i j hi O a3 e;have S:=h.Bz;rw[<- lF hi 0,<- lF O 0,h.BH i (by omega),h.BH j (by omega)]at e;have Y:=E.ok.un _ _ (h.io (i:=i) (by omega)) (h.io (i:=j) (by omega));have u2:=E.ok.un _ _ (h.io (i:=i) (by omega)) (h.io (i:=i) (by omega));rw[sN rfl]at u2;rw[<- e,u2]at Y;have:ι.getD i 0=ι.getD j 0:=by
   refine zh fun a0=>?_
   rw[sO a0]at Y;exact absurd Y (by decide)
  have:=ku h.nd (by rw[h.len];omega) (by rw[h.len];omega) this;omega
theorem am1(j:Nat):ZB 1000 ((AV A b c m n).c1 j):=by
 unfold Prog.c1
 split
 .exact⟨0,rfl,by decide⟩
 .exact⟨-1,rfl,by decide⟩
theorem avM(hp:PrS A b c m n)(j:Nat):ZB 1000 ((AV A b c m n).C 0 j):=by
 unfold Prog.C;rw[sN rfl]
 split
 .exact⟨c.getD j 0,rfl,by have:=lD hp.bc j;omega⟩
 .exact⟨0,rfl,by decide⟩
theorem OW:∀ {R:List (List Rat)} {B:List Nat} (q:Nat),Units R B->Units (R.take q) (B.take q)
 |[],_,q,_=>by simp[Units]
 |_ :: _,[],q,_=>by cases q<;>simp[Units]
 |x :: R,b :: B,0,_=>by simp[Units]
 |x :: R,b :: B,q+1,h=>⟨fun b' E=>h.1 b' (wJ E),OW (R:=R) (B:=B) q h.2⟩
theorem acS{c:List Rat}{j F:Nat}{Δ:Rat}(hc:∀i,ZB 1000 (c.getD i 0)):∀ {R:List (List Rat)} {B:List Nat},(∀x∈R,ZB F (x.getD j 0*Δ))->ZB (R.length*(1000*F)) (FW c j R B*Δ)
 |[],_,_=>by
  have e:FW c j [] ‹List Nat›=0:=by unfold FW;rfl
  rw[e];exact⟨0,by grind,vg _⟩
 |x :: R,[],_=>by
  have e:FW c j (x :: R) []=0:=by unfold FW;rfl
  rw[e];exact⟨0,by grind,vg _⟩
 |x :: R,b :: B,h=>by
  have e:FW c j (x :: R) (b :: B)*Δ=c.getD b 0*(x.getD j 0*Δ)+FW c j R B*Δ:=by
   show(c.getD b 0*x.getD j 0+FW c j R B)*Δ=_;grind
  rw[e];have E:=(hc b).mul (h x zL);have G:=acS hc (R:=R) (B:=B) fun y J=>h y (zY _ J)
  exact(E.add G).mono (by rw[zW,xg R.length (1000*F)];exact Nat.le_of_eq (wH _ _))
theorem UJ(c:List Int)(i:Nat):(G9 c).getD i 0=((c.getD i 0:Int):Rat):=by
 unfold G9 qs;rw[zx,zx]
 by_cases h:i<c.length
 .rw[zV (by simpa using h),zF,zy h];rfl
 .rw[zM (by simp;omega),yw (l:=c) (by omega)]
  by_cases E:i=c.length
  .subst E;simp
  .rw[yw (by simp;omega)];rfl
theorem acT(hc:c.length=n):(G9 c).length=n+1:=by unfold G9;rw[zo,gK];simp;omega
theorem am2(hp:PrS A b c m n)(h:Vq (AV A b c m n) (n+m) (AV A b c m n).c1 T D ι)(G:(AV A b c m n).Good T)(J:∀r,r<m->r∈ι)(O:Zero (AV A b c m n) T)(E:∀i,i<D.R.length->EH n D i) :
  Vq (AV A b c m n) n ((AV A b c m n).C 0) T (D2q n D c) (CX n ι D.B) :=
 W9 (p:=AV A b c m n) h G J O E (acT hp.hc) (fun j S=>UJ c j) (by
  show(G9 c).getD n 0=0;rw[UJ,zx,yw (by have:=hp.hc;omega)];rfl)
theorem afb(hp:PrS A b c m n)(h:Vq (AV A b c m n) (n+m) (AV A b c m n).c1 T D ι)(E:(AV A b c m n).Good T)(Px:∀r,r<m->r∈ι)(hz:Zero (AV A b c m n) T)(Y:∀i,i<D.R.length->EH n D i) :
  ∀q,q<=(pick n D.R D.B).1.length->∀u∈clears (G9 c) ((pick n D.R D.B).1.take q) ((pick n D.R D.B).2.take q),Ln 6 u:=fun q S u hu=>by
 have V:=am2 hp h E Px hz Y;have a4:=acT hp.hc;have G:=Jd (n:=n) (R:=D.R) (B:=D.B);have J:=Jc (n:=n) (R:=D.R) (B:=D.B);have hw:=gW hp;have a5:(pick n D.R D.B).1.length<=m:=by
  have h1:(CX n ι D.B).length=(pick n D.R D.B).1.length:=V.len;rw[<- h1];have h2:CX n ι D.B ⊆ List.range m:=fun r hr=>List.mem_range.mpr (V.lt r hr)
  have h3:=V.nd.length_le_of_subset h2
  rwa [uH]at h3
 obtain⟨P,eP⟩:∃P,P=pick n D.R D.B:=⟨_,rfl⟩;unfold D2q at V;rw[<- eP]at V G J S hu a5;have a0:∀i,i<P.1.length->P.2.getD i 0<n:=fun i hi=>by rw[lF (by omega)];exact G.2 _ (zu _)
 have a6:Units P.1 P.2:=by
  have:=WZ (R:=P.1) (k:=0) (B:=P.2) (by rw[yZ];exact J) fun i q hi S b3 _=>by
   rw[Nat.sub_zero,V.ent i _ hi (a0 q S),show P.2.getD q 0=T.B ((CX n ι D.B).getD q 0)from V.BH q S,E.ok.un _ _ (V.io hi) (V.io S)];rw[sO fun e=>by have:=ku V.nd (by rw[V.len];exact hi) (by rw[V.len];exact S) e;omega]
  rwa [yZ]at this
 obtain⟨k1,k2⟩:=JL (n:=n+1) (R:=P.1.take q) (B:=P.2.take q) a4 (fun x hx=>V.row x (wJ hx)) (fun d hd=>by have:=G.2 d (wJ hd);omega) (OW q a6) (by rw[zf,zf,J]);obtain⟨j,hj,rfl⟩:=yc hu;rw[<- lF hj 0,k2 j (by omega)];obtain⟨Δ,O⟩:∃Δ,Δ=Lp.CU m fun q=>(AV A b c m n).A (T.B q):=⟨_,rfl⟩
 obtain⟨F,eF⟩:∃F,F=fact 1000 m:=⟨_,rfl⟩;have a1:ZB F Δ:=by rw[O,eF];exact E.ed.EW E.ok.bn hw.A
 have a7:Δ≠0:=by rw[O];exact E.ed.ind
 have a2:∀i,ZB 1000 ((G9 c).getD i 0):=fun i=>⟨c.getD i 0,UJ c i,by have:=lD hp.bc i;omega⟩
 have a8:=acS (j:=j) (F:=F) (Δ:=Δ) a2 (R:=P.1.take q) (B:=P.2.take q) fun x hx=>by
  obtain⟨i,hi,rfl⟩:=yc (wJ hx);have e:P.1[i].getD j 0=Cc P.1 i j:=by show _=(Eo P.1 i).getD j 0;rw[dN hi]
  rw[e,O,eF]
  by_cases a9:j<n
  .rw[show Cc P.1 i j=T.e ((CX n ι D.B).getD i 0) j from V.ent i j hi a9]
   exact E.ed.NC E.ok.bn hw.A (V.io hi) (show j<n+m by omega)
  .have:j=n:=by omega
   subst this;rw[show Cc P.1 i j=T.b ((CX j ι D.B).getD i 0)from V.rhs i hi];exact E.ed.FV E.ok.bn hw.A hw.w (V.io hi)
 have a3:ZB ((m+1)*(1000*F)+F) (((G9 c).getD j 0-FW (G9 c) j (P.1.take q) (P.2.take q))*Δ):=by
  have e:((G9 c).getD j 0-FW (G9 c) j (P.1.take q) (P.2.take q))*Δ=(G9 c).getD j 0*Δ+ -(FW (G9 c) j (P.1.take q) (P.2.take q)*Δ):=by grind
  rw[e];refine(((a2 j).mul a1).add a8.neg).mono ?_;have:(P.1.take q).length*(1000*F)<=m*(1000*F):=zK _ (by rw[zf];omega);rw[xg m (1000*F)];exact zT (Nat.add_le_add_left this _) (by rw[wH];exact Nat.le_add_right _ _)
 have b2:ZB ((m+1)*(1000*F)+F) Δ:=a1.mono (by omega);exact OV (bG b2 a7 a3) (by rw[eF];exact Rx (zq _) hp.hm)
end
theorem UK(f:Nat->Int):∀k,sm (fun i=>((f i:Int):Rat)) k=((F5 f k:Int):Rat)
 |0=>rfl
 |k+1=>by
  show sm (fun i=>((f i:Int):Rat)) k+((f k:Int):Rat)=((F5 f k+f k:Int):Rat);rw[UK f k,Rat.intCast_add]
section
variable {A b c:List Int} {m n:Nat}
theorem aiz{i j:Nat}(hi:i<m)(E:j<n+m+1):Cc (Dq A b m n m).R i j=((cell0 A b m n i j:Int):Rat):=by
 have G:(Dq A b m n m).R.length=m:=by unfold Dq Ew;simp
 have e:Eo (Dq A b m n m).R i=qs (row0 A b m n i):=by
  rw[dN (by omega)];simp[Dq,Ew]
 show(Eo (Dq A b m n m).R i).getD j 0=_;rw[e,lF (by rw[gK,fB];omega),OT (by rw[fB];omega),fC _ _ _ _ _ (by omega)]
theorem avO{i j:Nat}(hi:i<m)(J:j<n+m):(AV A b c m n).T0.e i j=((cell0 A b m n i j:Int):Rat):=by
 show(AV A b c m n).A j i=_;unfold cell0 Prog.A;show(if j<n then _ else if i+n=j then 1 else 0)=_
 by_cases E:j<n
 .rw[sN E,sN E];rfl
 .rw[sO E,sO E,sN J]
  by_cases G:j=n+i
  .rw[sN G,sN (by omega)];rfl
  .rw[sO G,sO (by omega)];rfl
theorem avP{i:Nat}:(AV A b c m n).T0.b i=((cell0 A b m n i (n+m):Int):Rat):=by
 show((sg b i*b.getD i 0:Int):Rat)=_;unfold cell0;rw[sO (by omega),sO (by omega)]
theorem Ry{k:Nat}:∀ {m:Nat},F5 (fun i=>if k=i then 1 else 0) m=if k<m then 1 else 0
 |0=>rfl
 |m+1=>by
  show F5 _ m+(if k=m then 1 else 0)=_;rw[Ry]
  by_cases h:k<m
  .rw[sN h,sO (by omega),sN (by omega)];rfl
  .by_cases E:k=m
   .rw[sO h,sN E,sN (by omega)];rfl
   .rw[sO h,sO E,sO (by omega)];rfl
theorem OX{f g:Nat->Int}:∀ {m:Nat},(∀i,i<m->f i=g i)->F5 f m=F5 g m
 |0,_=>rfl
 |m+1,h=>by
  show F5 f m+f m=F5 g m+g m;rw[OX fun i hi=>h i (by omega),h m (by omega)]
theorem aby:Vq (AV A b c m n) (n+m) (AV A b c m n).c1 (AV A b c m n).T0 (Dq A b m n m) (List.range m):=by
 have J:(Dq A b m n m).R.length=m:=by unfold Dq Ew;simp
 have O:∀i,i<m->(AV A b c m n).c1 ((AV A b c m n).T0.B i)= -1:=fun i hi=>by
  show(if i+n<n then(0:Rat)else -1)= -1;rw[sO (by omega)]
 have S:∀j,j<n+m+1->(Dq A b m n m).c.getD j 0=((if j<n\/j=n+m then F5 (fun i=>cell0 A b m n i j) m else 0:Int):Rat):=fun j G=>by
  show(qs (Fh A b m n m)).getD j 0=_;rw[lF (by rw[gK,og];omega),OT (by rw[og];omega),Jb _ _ _ _ _ G]
 refine⟨by rw[J];simp,by rw[J];simp[Dq],by show(qs (Fh A b m n m)).length=_;rw[gK,og],fun x hx=>?_,fun r Y=>List.mem_range.mp Y,List.nodup_range,zq _,fun i j hi G=>?_,fun i hi=>?_,fun i hi=>?_,fun j G=>?_,?_,fun r Y hn=>absurd (List.mem_range.mpr Y) hn⟩
 .obtain⟨y,hy,rfl⟩:=List.mem_map.mp hx
  obtain⟨i,-,rfl⟩:=List.mem_map.mp hy;rw[gK,fB]
 .rw[J]at hi
  rw[fV hi,aiz hi (by omega),avO hi G]
 .rw[J]at hi
  rw[fV hi,aiz hi (by omega),avP]
 .rw[J]at hi
  rw[fV hi];show((List.range m).map fun i=>n+i).getD i 0=i+n;rw[zx,zF,xO hi];show n+i=i+n;omega
 .rw[S j (by omega)]
  have e:gm (AV A b c m n).m (AV A b c m n).T0 (AV A b c m n).c1 j=(AV A b c m n).c1 j+((F5 (fun i=>cell0 A b m n i j) m:Int):Rat):=by
   rw[<- UK];have E:sm (fun i=>(AV A b c m n).T0.e i j*(AV A b c m n).c1 ((AV A b c m n).T0.B i)) m= -1*sm (fun i=>((cell0 A b m n i j:Int):Rat)) m:=by
    rw[<- bP];exact bQ fun i hi=>by rw[avO hi G,O i hi];grind
   show(AV A b c m n).c1 j-sm (fun i=>(AV A b c m n).T0.e i j*(AV A b c m n).c1 ((AV A b c m n).T0.B i)) m=_;rw[E];grind
  rw[e]
  by_cases E:j<n
  .rw[sN (.inl E)]
   show _=(if j<n then(0:Rat)else -1)+_;rw[sN E];grind
  .rw[sO (by omega)]
   show _=(if j<n then(0:Rat)else -1)+_;rw[sO E,OX (g:=fun i=>if j-n=i then 1 else 0) fun i hi=>by
    unfold cell0;rw[sO E,sN G]
    by_cases h2:j=n+i
    .rw[sN h2,sN (by omega)]
    .rw[sO h2,sO (by omega)],Ry,sN (by omega)]
   decide+kernel
 .rw[S (n+m) (by omega),sN (.inr rfl),<- UK]
  have E:sm (fun i=>(AV A b c m n).T0.b i*(AV A b c m n).c1 ((AV A b c m n).T0.B i)) m= -1*sm (fun i=>((cell0 A b m n i (n+m):Int):Rat)) m:=by
   rw[<- bP];exact bQ fun i hi=>by rw[avP,O i hi];grind
  show _= -sm (fun i=>(AV A b c m n).T0.b i*(AV A b c m n).c1 ((AV A b c m n).T0.B i)) m;rw[E];grind
end
end Go.Proofs.YtjjhejehbhbdeaaGreat
