import Derived.Test.YtjknobpihkmilaaGreatTb3
set_option linter.unusedSimpArgs false
set_option linter.unusedVariables false
set_option linter.unusedSectionVars false
set_option linter.defProp false
set_option maxRecDepth 10000
set_option maxHeartbeats 4000000
open Go.Proofs.Tryz renaming prog->gu
open Go.Proofs.Tryz
open Bool renaming and_eq_true->zV,false_eq_true->yR,and_false->xA,false_and->vk
open Classical renaming byContradiction->zh
open Int renaming lt_irrefl->zX,toNat_natCast->zM,le_refl->xg,toNat_of_nonneg->vw,natAbs_neg->vg
open List renaming getElem?_eq_getElem->zy,getD_eq_getElem?_getD->zx,getElem_mem->zq,length_append->zo,take_of_length_le->zk,length_cons->zi,getElem?_append_left->zZ,length_take->zY,length_drop->zW,mem_cons_of_mem->zU,getElem?_append_right->zS,mem_cons->zQ,eq_nil_of_length_eq_zero->zN,flatMap_cons->zJ,mem_cons_self->zH,not_mem_nil->zG,append_assoc->zF,mem_append_left->zD,flatMap_append->zC,length_map->zB,append_nil->zA,length_nil->yw,getElem?_map->yg,getElem?_eq_none->yZ,length_eraseIdx_of_lt->yY,drop_zero->yX,take_length->yV,length_singleton->yT,drop_eq_getElem_cons->yQ,ext_getElem->yP,length_set->yO,length_replicate->yM,replicate_succ->yL,getElem_of_mem->yK,getElem_append_left->yH,getElem?_drop->yG,mem_append_right->yF,drop_of_length_le->yD,mem_singleton->yC,set_append_right->yA,getElem?_take->xk,take_left'->xZ,cons_append->xY,map_congr_left->xX,all_cons->xH,all_nil->xG,take_add_one->wz,drop_append_of_le_length->wo,flatMap_nil->wZ,getElem_set->wX,all_eq_true->wW,nil_append->wR,getElem_map->wL,take_append_drop->wJ,replicate_append_replicate->wG,mem_of_mem_eraseIdx->wE,take_append_of_le_length->w_,getElem_cons_zero->vX,set_cons_zero->vV,range_succ->vS,mem_or_eq_of_mem_set->vO,getElem_append_right->vN,mem_range->vG,eraseIdx_eq_take_drop_succ->uz,mem_append->uq
open Nat renaming le_refl->zu,le_trans->zL,not_lt_zero->zK,zero_add->yu,mul_one->yj,sub_self->yh,mul_le_mul_right->yc,min_eq_left->yB,lt_of_lt_of_le->xq,succ_mul->wY,add_mul->wO,zero_le->wM,mul_le_mul->wH,zero_mul->vC,div_le_self->uw
open Option renaming bind_some->zl,map_some->zT
open Option.some renaming injEq->uj
open Prod.mk renaming injEq->uh
namespace Go.Proofs.YtjknobpihkmilaaGreat
open Go Go.TV Go.Lp
theorem afX{p:Prog}{T:Tab}(h:p.Good T)(ho:p.Out T){q s:Nat}(J:q≠0)(hs:s<p.n)(O:¬basic p.m T s)(hg:0<gm p.m T (p.C q) s)(IY:∀i,i<p.m->T.e i s<=0):False:=by
 obtain⟨E,e⟩:∃E:Prog,E={ p with c:=p.C q }:=⟨_,rfl⟩;have hC:E.C 0=p.C q:=by
  subst e;funext j;unfold Prog.C;rw[uf rfl,ug J];show(if j<p.n then(if q=0 then _ else if j+1=q/\j<p.n then(-1:Rat)else 0)else 0)=_;rw[ug J]
  by_cases G:j<p.n
  .rw[uf G]
  .rw[ug G,ug (fun h=>G h.2)]
 have S:E.Good T:=by
  subst e;exact⟨h.ok,h.ed,h.sol⟩
 have Y:E.Out T:=by
  subst e;exact⟨ho.z⟩
 have a1:E.Open:=Prog.QZ (p:=E) S Y (s:=s) (by subst e;exact hs) (by subst e;exact O) (by rw[hC];subst e;exact hg) (by subst e;exact IY);obtain⟨x,hx,h1⟩:=a1 1;have a6:∀j,j<p.n->0<=x j:=by subst e;exact hx.2
 have hle:ob p.n (p.C q) x<=0:=by
  unfold ob;have:=jr (f:=fun j=> -(p.C q j*x j)) (n:=p.n) fun j G=>by
   have:=a6 j G;unfold Prog.C;rw[ug J]
   split<;>grind
  have e2:=jv (-1) (fun j=>p.C q j*x j) p.n;have e3:sm (fun j=> -(p.C q j*x j)) p.n=sm (fun j=> -1*(p.C q j*x j)) p.n:=jw fun j _=>by grind
  rw[e3,e2]at this;grind
 have:ob E.n E.c x=ob p.n (p.C q) x:=by subst e;rfl
 rw[this]at h1;grind
section
variable {A b c:List Int} {m n:Nat}
def QC(A b c:List Int)(m n:Nat)(ι:List Nat)(fr:List Bool)(D:TZ):Prop:=D.fr=fr/\∃T,Vw (g_ A b c m n) T D ι/\(g_ A b c m n).Good T
theorem ag6(hp:GY A b c m n){q:Nat}{v:Nat->Rat}{σ:Store}{nx bt br bb bf bo:Nat}{rb ι:List Nat}{D:TZ}{T:Tab}(h:gV σ bt br bb bf rb D (n+m))(hv:Vw (g_ A b c m n) T D ι)(hg:(g_ A b c m n).Good T)(ho:(g_ A b c m n).Out T)
  (a1:(g_ A b c m n).Ai q v (fun j=>D.fr.getD j false=true) T) (O:D.fr.length=n+m) (a6:∀x∈D.B,x<n) (a7:∀b∈bt :: br :: bb :: bf :: rb,b<nx) (a8:σ bo=some ⟨(Ht m n c q).flatMap cI,1,true⟩) (b2:bo<nx) (b3:bo∉bt :: br :: bb :: bf :: rb) :
  ∃σ' nx' E J T',ev gu aY bY 144 [.rp bt 0,.rs bo 0 (n+m)] σ nx=some (Bo E,σ',nx')/\gV σ' bt br bb bf rb J (n+m)/\nx<=nx'/\(∀b,b<nx->b∉bt :: bb :: bf :: rb->σ' b=σ b) /\
   Vw (g_ A b c m n) T' J ι/\(g_ A b c m n).Good T'/\(g_ A b c m n).Out T'/\J.fr.length=n+m/\(∀x∈J.B,x<n)/\((E=true/\∃v',(g_ A b c m n).Ai (q+1) v' (fun j=>J.fr.getD j false=true) T')\/(E=false/\q=0/\(g_ A b c m n).Open)):=by
 have hw:=lg hp;have S:∀j,D.fr.getD j false=true->j<n:=fun j hj=>a1.inn j hj
 have sh:∀D1,QC A b c m n ι D.fr D1->Ro D1 (n+m)/\0<D1.cu:=fun D1 ⟨e,T1,h1,h2⟩=>En hp h1 h2 (by rw[e];exact O)
 have oe:=alM m n c q;have Y:∀D1 D2,QC A b c m n ι D.fr D1->AV (n+m) (oF (Ht m n c q)) D1 D2->QC A b c m n ι D.fr D2:=fun D1 D2 ⟨e,T1,h1,h2⟩ hs=>by
  rw[oe]at hs;obtain⟨T2,g1,g2,g3⟩:=h1.step h2 hw (ah8 (c:=fun j=>c.getD j 0) (q:=q) h1 (by rw[e];exact S)) hs;exact⟨g3.trans e,T2,g2,h2.step g1⟩
 have b4:Ec (n+m) (oF (Ht m n c q)) (2^(n+m)) D:=by
  rw[oe];exact Vw.ah6 (o:=oq n (fun j=>c.getD j 0) q) hw hv hg (ah8 hv S) (agV hg.ok)
 obtain⟨σ',nx',E,J,ke,G,hT,hn,hf⟩:=alD (QC A b c m n ι D.fr) sh Y (Ov hp.bc q) ⟨rfl,T,hv,hg⟩ b4 h a7 a8 b2 b3;rw[oe]at G;obtain⟨T',v1,v2,v3,v4,v5⟩:=Za (p:=g_ A b c m n) hw (c:=fun j=>c.getD j 0) (fun j _=>rfl) G hv hg ho a1 (by rw[O];exact zu _);have b5:∀x∈J.B,x<n:=by
  obtain⟨D1,fr,⟨_,h1⟩,rfl,-⟩:=ag4 (Q:=fun D1=>D1.fr=D.fr/\∀x∈D1.B,x<n) (fun D1 D2 ⟨e,hB⟩ hs=>by
   obtain⟨s,r,g1,g2,rfl⟩:=hs;have e1:(BR D1 r s).fr=D1.fr:=by unfold BR;split<;>rfl
   have e2:(BR D1 r s).B=D1.B.set r s:=by unfold BR;split<;>rfl
   refine⟨e1.trans e,fun x hx=>?_⟩;rw[e2]at hx;rcases vO hx with h|h
   .exact hB x h
   .subst h;exact S _ (by rw[<- e];exact g1.fr)) G ⟨rfl,a6⟩
  exact h1
 refine⟨σ',nx',E,J,T',ke,hT,hn,hf,v1,v2,v3,v4.trans O,b5,?_⟩;rcases v5 with ⟨e,v5⟩|⟨e,s,s1,s2,s3,s4⟩
 .exact .inl ⟨e,_,v5⟩
 .by_cases hq:q=0
  .subst hq
   exact .inr ⟨e,rfl,Prog.QZ v2 v3 s1 s2 s3 s4⟩
  .exact(afX v2 v3 hq s1 s2 s3 s4).elim
end
theorem gV.congr{σ σ':Store}{bt br bb bf:Nat}{rb:List Nat}{D:TZ}{N:Nat}(h:gV σ bt br bb bf rb D N)(e:∀x∈bt :: br :: bb :: bf :: rb,σ' x=σ x):gV σ' bt br bb bf rb D N:=by
 refine⟨?_,?_,fun i hi=>(h.row i hi).congr (e _ ?_),?_,?_,h.len,h.nd⟩
 .rw[e bt (by simp)];exact h.t
 .rw[e br (by simp)];exact h.r
 .have:=zq hi
  simp[this]
 .rw[e bb (by simp)];exact h.b
 .rw[e bf (by simp)];exact h.f
section
variable {A b c:List Int} {m n:Nat}
theorem acP(hc:c.length=n):Ht m n c 0=c++List.replicate m 0:=by
 apply yP
 .simp[Ht,hc]
 .intro j E G
  have J:j<n+m:=by simpa[Ht]using E
  have e:(Ht m n c 0)[j]=if j<n then c.getD j 0 else 0:=by simp[Ht,oq]
  rw[e,List.getElem_append]
  by_cases h:j<n
  .rw[uf h,dif_pos (by omega),zx,zy (by omega)];rfl
  .rw[ug h,dif_neg (by omega),List.getElem_replicate]
theorem acQ(k:Nat)(G:k<n):Ht m n c (k+1)=(List.replicate (n+m) 0).set k (-1):=by
 apply yP
 .simp[Ht]
 .intro j E J
  have O:j<n+m:=by simpa[Ht]using E
  have e:(Ht m n c (k+1))[j]=if j=k/\j<n then -1 else 0:=by simp[Ht,oq]
  rw[e,wX]
  by_cases h:k=j
  .rw[uf h,uf ⟨h.symm,by omega⟩]
  .rw[ug h,ug (fun g=>h g.1.symm),List.getElem_replicate]
theorem aiN(hc:c.length=n)(σ:Store)(nx b:Nat):Di (upd σ b (some ⟨rep (n+m) [I 0],1,true⟩)) nx (c.flatMap cI) c.length (.rs b 0 (n+m))=some (I ((n:Nat):Int),upd σ b (some ⟨(Ht m n c 0).flatMap cI,1,true⟩),nx):=by
 unfold Di;have e:min c.length (n+m)=n:=by omega
 have E:(c.flatMap cI).length=n:=by rw[sS,hc]
 have G:(Ht m n c 0).flatMap cI=c.flatMap cI++rep m [I 0]:=by rw[acP hc,zC,lH]
 simp only[e,iW,zl,iV];rw[G]
 by_cases hn:n=0
 .rw[uf hn]
  have:c=[]:=zN (by omega);subst hn this;simp
 .rw[ug hn,uf ⟨trivial,by rw[lG];simp,by
   rw[wW];intro v J;obtain⟨x,-,O⟩:=List.mem_flatMap.mp (List.mem_of_mem_take J);rw[List.mem_singleton.mp O];rfl⟩]
  rw[zk (by omega),mQ _ _ _ (by rw[E,lG];simp),E];congr 4;rw[List.take_zero,wR,yu];congr 1;have:rep (n+m) [I 0]=rep n [I 0]++rep m [I 0]:=by rw[lH,lH,lH,<- zC,wG]
  rw[this,List.drop_left' (by rw[lG];simp)]
theorem afY{L:List Int}{N:Nat}(S:L.length=N)(σ:Store)(nx b:Nat)(hb:σ b=some ⟨L.flatMap cI,1,true⟩)(G:N≠0):BM σ nx [I 0] (.rs b 0 N)=some (.dF [],upd σ b (some ⟨(List.replicate N 0).flatMap cI,1,true⟩),nx):=by
 unfold BM;simp only;rw[ug G,hb];have E:(rep N [I 0]).length=N:=by rw[lG];simp
 simp only[zl];rw[uf ⟨trivial,by rw[sS];omega,by
  rw[lH,wW];intro v J;obtain⟨x,-,O⟩:=List.mem_flatMap.mp J;rw[List.mem_singleton.mp O];rfl⟩]
 rw[mQ _ _ _ (by rw[E,sS];omega),E,List.take_zero,wR,yu,yD (by rw[sS];omega),zA,lH]
def cF(q:Rat):List V:=[.tp (cQ q) 0]
def alO(p:Prog)(r:V):Prop:=(r= .dF [I 2,.ts [] 0,.sc (.pointer none)]/\p.None)\/(r= .dF [I 3,.ts [] 0,.sc (.pointer none)]/\p.Open) \/
 ∃x:Nat->Rat,p.Best x/\(∀j,j<p.n->Ln 24 (x j))/\r= .dF [I 0,LL cF ((List.range p.n).map x),.tp (cQ (ob p.n p.c x)) 0]
theorem acR{a:Int}{d k:Nat}(ha:ln a.natAbs<=k)(E:ln d<=k)(G:1<=k):Ln k (mkRat a d):=by
 constructor
 .rw[Rat.num_mkRat]
  split
  .show ln 0<=k;rw[G8];omega
  .exact zL (ny (Int.natAbs_ediv_le_natAbs _ _)) ha
 .rw[Rat.den_mkRat]
  split
  .exact zL (ng (by decide)) G
  .exact zL (ny (uw _ _)) E
theorem acS{x y:Rat}{k l:Nat}(h:Ln k x)(E:Ln l y)(G:1<=k+l):Ln (k+l) (x*y):=by
 rw[Rat.mul_def'];refine acR ?_ (Xf h E) G;have:=nk x.num y.num;have:=h.1;have:=E.1;omega
theorem acT{x y:Rat}{k l:Nat}(h:Ln k x)(E:Ln l y):Ln (k+l+1) (x+y):=by
 rw[Rat.add_def'];refine acR ?_ (zL (Xf h E) (by omega)) (by omega);have G:=LP h E;have J:=LP E h;have:=Oc (x.num*y.den) (y.num*x.den);omega
theorem uV{z:Int}(h:-1000000<=z/\z<=1000000):Ln 1 (z:Rat):=⟨ng (by show z.natAbs<_;omega),ng (by show 1<_;decide)⟩
theorem aiO(X:List Rat):∀(k:Nat) (q:Rat),(X.flatMap cF).set k (.tp (cQ q) 0)=(X.set k q).flatMap cF:=by
 induction X with
 |nil=>intro k q;rfl
 |cons a X E=>intro k q;cases k with
  |zero=>rfl
  |succ k=>show V.tp (cQ a) 0 :: ((X.flatMap cF).set k (.tp (cQ q) 0))=_;rw[E];rfl
theorem sZ(X:List Rat):(X.flatMap cF).length=X.length:=by
 induction X with
 |nil=>rfl
 |cons a X E=>rw[zJ,zo,E,zi];show 1+_=_;omega
theorem FH(X:List Rat){k:Nat}(h:k<X.length):(X.flatMap cF)[k]?=some (.tp (cQ X[k]) 0):=by
 induction X generalizing k with
 |nil=>exact absurd h (zK k)
 |cons a X E=>cases k with
  |zero=>rfl
  |succ k=>exact E (k:=k) (by simpa using h)
theorem acU(k N:Nat)(h:k<N):((List.replicate k (0:Rat)).flatMap cF++rep (N-k) [.sc (.pointer none)]).set k (.tp (cQ 0) 0)=(List.replicate (k+1) (0:Rat)).flatMap cF++rep (N - (k+1)) [.sc (.pointer none)]:=by
 rw[yA _ _ (by rw[sZ,yM];exact zu _),sZ,yM,yh,show N-k=N - (k+1)+1 by omega,lF,List.replicate_succ',zC,zF];rfl
theorem Eo(σ:Store)(d:Nat):∀X:List Rat,stripL (strip σ (d+1)) (X.flatMap cF)=some (X.flatMap cF,[])
 |[]=>by rw[wZ,jX]
 |q :: X=>by
  rw[zJ,show cF q++X.flatMap cF=V.tp (cQ q) 0 :: X.flatMap cF from rfl,jd,jO,Eo σ d X];rfl
def xB(B:List Nat)(f:Nat->Rat)(i n:Nat):List Rat:=(List.range n).map fun j=>if j∈B.take i then f j else 0
theorem Jq(B:List Nat)(f:Nat->Rat)(i n:Nat):(xB B f i n).length=n:=by simp[xB]
theorem afZ(B:List Nat)(f:Nat->Rat)(n:Nat):xB B f 0 n=List.replicate n 0:=by simp[xB,List.map_const']
theorem aiP{B:List Nat}(f:Nat->Rat){i n:Nat}(hi:i<B.length):(xB B f i n).set (B.getD i 0) (f (B.getD i 0))=xB B f (i+1) n:=by
 have hb:B[i]=B.getD i 0:=by rw[zx,zy hi];rfl
 apply yP
 .rw[yO,Jq,Jq]
 .intro j O G
  have J:j<n:=by rw[Jq]at G;exact G
  have e:∀i,(xB B f i n)[j]'(by rw[Jq];exact J)=if j∈B.take i then f j else 0:=fun i=>by simp[xB]
  rw[wX,e,e,wz,zy hi,hb]
  by_cases h:B.getD i 0=j
  .rw[uf h,h,uf (by simp)]
  .rw[ug h]
   by_cases E:j∈B.take i
   .rw[uf E,uf (by simp[E])]
   .rw[ug E,ug (by simp[E];exact fun e=>h e.symm)]
theorem aiQ(hp:GY A b c m n):∃r,fn gu aY bY 107 [.tp (Af m n A b c) 0]=some r/\alO (g_ A b c m n) r:=by
 have O:=hp.m0;have hm:=hp.hm;have hn:=hp.hn;have hc:=hp.hc;obtain⟨r0,kb,e3,aO,m8,-,hr⟩:=afW hp aG 0;obtain⟨N,hN⟩:∃N,N=n+m:=⟨_,rfl⟩;rw[qB,qO [.tmp 2,.tmp 3,.tmp 4] [24] func107];unfold Af at kb⊢;rcases hr with ⟨rfl,c7⟩|⟨bt,br,bb,bf,rb,D,T,ι,rfl,hT,e4,hv,hg,ho,i0,a1⟩
 .simp only[go_sem,sG,kb]
  exact⟨_,rfl,.inl ⟨rfl,c7⟩⟩
 .have c8:=hT.t
  have f1:bt<aO:=(a1 bt (by simp)).2;rw[<- hN]at c8;have f2:=nP N;have f3:8*(N:Int)<=281474976710656:=by omega
  have f4:(N:Int)<=9223372036854775807:=by omega
  have kc:=aiN (m:=m) hc e3 (aO+1) aO;rw[<- hN]at kc;obtain⟨σ2,Am⟩:∃σ2,σ2=upd e3 aO (some ⟨(Ht m n c 0).flatMap cI,1,true⟩):=⟨_,rfl⟩;rw[<- Am]at kc;have i1:gV σ2 bt br bb bf rb D (n+m):=hT.congr fun x G=>by rw[Am,iY _ _ (by have:=a1 x G;omega)]
  obtain⟨m9,GV,i2,D3,T3,km,VA,n0,i3,i4,i5,i6,i7,i9,e6⟩:=ag6 hp (q:=0) (v:=fun _=>0) (bo:=aO) (nx:=aO+1) i1 hv hg ho (by
   rw[e4];have:(fun j=>(VG m n).getD j false=true)=fun j=>j<(g_ A b c m n).n:=by funext j;exact propext (Xn m n j)
   rw[this];exact Prog.stage0) (by rw[e4];exact Ox m n) i0 (fun x G=>by have:=a1 x G;omega) (by rw[Am,iW]) (by omega) (fun G=>by have:=a1 aO G;omega)
  rw[<- hN]at km;rcases e6 with ⟨rfl,v1,j0⟩|⟨rfl,-,j1⟩
  .simp only[go_sem,sG,kb,c8,f1,f2,f3,f4,kc,km]
   generalize hL:aA _ _=y
   obtain⟨x,rfl,T4,A_,J,rfl,t0,t5,E,S,v4,b3,a6,a8,b4,RS⟩:=rP hL n (fun k st=>st.T 0= .tp (Af m n A b c) 0/\st.T 5= .rp bt 0/\st.T 7= .rs aO 0 N/\st.T 41=I n/\st.T 42=I k/\aO<st.nx/\(∃L:List Int,L.length=N/\st.σ aO=some ⟨L.flatMap cI,1,true⟩) /\
     ∃D U v,gV st.σ bt br bb bf rb D (n+m)/\Vw (g_ A b c m n) U D ι/\(g_ A b c m n).Good U/\(g_ A b c m n).Out U/\D.fr.length=n+m/\(∀x∈D.B,x<n)/\(g_ A b c m n).Ai (k+1) v (fun j=>D.fr.getD j false=true) U)
    (fun x=>∃T A_ J,x=(.exit 0,⟨T,A_,J⟩)/\T 0= .tp (Af m n A b c) 0/\T 5= .rp bt 0/\∃D U v,gV A_ bt br bb bf rb D (n+m)/\Vw (g_ A b c m n) U D ι/\(g_ A b c m n).Good U/\(g_ A b c m n).Out U/\D.fr.length=n+m/\(∀x∈D.B,x<n)/\(∀x∈bt :: br :: bb :: bf :: rb,x<J)/\(g_ A b c m n).Ai (n+1) v (fun j=>D.fr.getD j false=true) U) (by
     clear hL;rintro k ⟨T,A_,J⟩ hk ⟨t0,t5,t7,t41,t42,b5,⟨L,hL,c2⟩,E,U,v,b3,a6,a8,b4,b6,b8,RS⟩;simp only at t0 t5 t7 t41 t42 b5 c2 b3;have g1:(k:Int)<(n:Int):=by omega
     have g2:=nP k;have g3:=iF (n:=(k:Int)+1);have g4:=afY hL A_ J aO c2 (by omega);obtain⟨Cb,c3⟩:∃Cb,Cb=upd A_ aO (some ⟨(Ht m n c (k+1)).flatMap cI,1,true⟩):=⟨_,rfl⟩;have g5:((List.replicate N (0:Int)).flatMap cI).set k (I (-1))=(Ht m n c (k+1)).flatMap cI:=by rw[sQ,acQ k hk,hN]
     have g6:((List.replicate N (0:Int)).flatMap cI).length=N:=by rw[sS];simp
     have g7:(k:Int)<(N:Int):=by omega
     have g8:k<N:=by omega
     have g9:k+1<=N:=by omega
     have b2:gV Cb bt br bb bf rb E (n+m):=b3.congr fun x G=>by rw[c3,iY _ _ (by have:=a1 x G;omega)]
     obtain⟨Dn,n9,i2,D6,U6,e7,j2,Z_,j3,j4,j5,j6,e8,j7,j8⟩:=ag6 hp (q:=k+1) (bo:=aO) (nx:=J) b2 a6 a8 b4 RS b6 b8 (fun x G=>by have:=a1 x G;omega) (by rw[c3,iW]) b5 (fun G=>by have:=a1 aO G;omega);rw[<- hN]at e7;unfold Af at t0;rcases j8 with ⟨rfl,v6,j9⟩|⟨_,h,_⟩
     .refine .inl ⟨_,by simp only[go_sem,sG,t0,t5,t7,t41,t42,g1,g2,g3,g4,g5,g6,g7,g8,g9,<- c3,e7];rfl,?_⟩
      simp only[go_sem,t0,t5,t7,t41];refine⟨rfl,rfl,by omega,⟨Ht m n c (k+1),by rw[(Ov hp.bc _).1,hN],?_⟩,D6,U6,v6,j2,j4,j5,j6,e8,j7,j9⟩;rw[j3 aO b5 (fun G=>by
       have:=a1 aO (by simp only[zQ]at G⊢;rcases G with h|h|h|h<;>simp[h]);omega),c3,iW]
     .omega) (by
     rintro ⟨T,A_,J⟩ ⟨t0,t5,t7,t41,t42,b5,c2,E,U,v,b3,a6,a8,b4,b6,b8,RS⟩;simp only at t0 t5 t7 t41 t42 b5 c2 b3;have g1:¬(n:Int)<(n:Int):=by omega
     refine⟨_,by simp only[go_sem,t41,t42,g1];rfl,by simp,_,_,_,rfl,?_⟩;simp only[go_sem,t0,t5];exact⟨E,U,v,b3,a6,a8,b4,b6,b8,fun x G=>by have:=a1 x G;omega,RS⟩) (by
     simp only[go_sem,Af];refine⟨by omega,⟨Ht m n c 0,by rw[(Ov hp.bc _).1,hN],?_⟩,D3,T3,v1,VA,i4,i5,i6,i7,i9,j0⟩;rw[i3 aO (by omega) (fun G=>by
      have:=a1 aO (by simp only[zQ]at G⊢;rcases G with h|h|h|h<;>simp[h]);omega),Am,iW])
   clear hL;obtain⟨b6,b8,a7,e9⟩:=RS;have k0:=En hp a6 a8 b6;have k4:=e9.best a8 b4;have h1:=nP n;have h2:8*(n:Int)<=281474976710656:=by omega
   have h3:(n:Int)<=9223372036854775807:=by omega
   unfold Af at t0;simp only[go_sem,t0,t5,h1,h2,h3];generalize hL:aA _ _=y;obtain⟨x,rfl,T5,Cb,rfl,t0,t5,t9,k5,k6⟩:=rP hL n (fun k st=>st.T 0= .tp (Af m n A b c) 0/\st.T 5= .rp bt 0/\st.T 9= .rs J 0 n/\st.T 59=I n/\st.T 60=I k/\st.nx=J+1/\st.σ J=some ⟨(List.replicate k (0:Rat)).flatMap cF++rep (n-k) [.sc (.pointer none)],1,true⟩/\∀x,x<J->st.σ x=A_ x)
    (fun x=>∃T Cb,x=(.exit 2,⟨T,Cb,J+1⟩)/\T 0= .tp (Af m n A b c) 0/\T 5= .rp bt 0/\T 9= .rs J 0 n/\Cb J=some ⟨(List.replicate n (0:Rat)).flatMap cF,1,true⟩/\∀x,x<J->Cb x=A_ x) (by
     clear hL;rintro k ⟨T,Cb,m0⟩ hk ⟨t0,t5,t9,t59,t60,O,G,hs⟩;simp only at t0 t5 t9 t59 t60 O G hs;subst O;have g1:(k:Int)<(n:Int):=by omega
     have g2:=nP k;have g3:=iF (n:=(k:Int)+1);have g4:fn gu conv ext 115 [I 0]=some (.tp (cQ 0) 0):=oL 0 (by decide) (by decide)
     have g5:=acU k n hk;have g6:((List.replicate k (0:Rat)).flatMap cF++rep (n-k) [.sc (.pointer none)]).length=n:=by rw[zo,sZ,lG];simp;omega
     have g7:k+1<=n:=hk;refine .inl ⟨_,by simp only[go_sem,t0,t5,t9,t59,t60,G,hk,g1,g2,g3,g4,g5,g6,g7];rfl,?_⟩;simp only[go_sem,t0,t5,t9,t59];exact⟨rfl,fun x G=>by rw[iZ];exact hs x G⟩) (by
     rintro ⟨T,Cb,m0⟩ ⟨t0,t5,t9,t59,t60,O,G,hs⟩;simp only at t0 t5 t9 t59 t60 O G hs;subst O;have g1:¬(n:Int)<(n:Int):=by omega
     refine⟨_,by simp only[go_sem,t59,t60,g1];rfl,by simp,_,_,rfl,?_⟩;simp only[go_sem,t0,t5,t9];rw[yh]at G;have:rep 0 [V.sc (.pointer none)]=[]:=rfl;rw[this,zA]at G;exact⟨G,hs⟩) (by
     simp only[go_sem,t0,t5,Af];exact⟨rfl,fun x G=>by rw[iZ]⟩)
   clear hL;have b2:gV Cb bt br bb bf rb E (n+m):=b3.congr fun x G=>k6 x (a7 x G)
   obtain⟨hS,m7⟩:=k0;have h0:=b2.t;have k7:bt<J:=a7 bt (by simp);unfold Af at t0;obtain⟨n1,n2,n3,n4,n5,n6,n7,n8⟩:=nd4 b2.nd;have o0:=hS.Ja;have k8:=b2.len;obtain⟨J9,k9⟩:=b2.r;obtain⟨Ho,l5⟩:=b2.b;have o2:(Aj E.B).length=E.R.length:=by rw[jE];exact hS.gq
   have l6:E.B.length=E.R.length:=hS.gq;have g13:bt<J+1:=by omega
   have e8:∀x,x∈bt :: br :: bb :: bf :: rb->x<J:=a7;simp only[go_sem,t0,t5,h0,g13];generalize hL:aA _ _=y;obtain⟨x,rfl,T6,Dn,rfl,t0,t9,c4⟩:=rP hL E.R.length (fun i st=>st.T 0= .tp (Af m n A b c) 0/\st.T 5= .rp bt 0/\st.T 9= .rs J 0 n/\st.T 71= .rs bb 0 E.R.length/\st.T 72=I E.R.length/\st.T 73=I i/\st.nx=J+1/\st.σ J=some ⟨(xB E.B (eU m S) i n).flatMap cF,1,true⟩/\∀x,x<J->st.σ x=Cb x)
    (fun x=>∃T Dn,x=(.exit 4,⟨T,Dn,J+1⟩)/\T 0= .tp (Af m n A b c) 0/\T 9= .rs J 0 n/\Dn J=some ⟨(xB E.B (eU m S) E.R.length n).flatMap cF,1,true⟩) (by
     clear hL;rintro i ⟨T,Dn,m0⟩ hi ⟨t0,t5,t9,t71,t72,t73,O,G,hs⟩;simp only at t0 t5 t9 t71 t72 t73 O G hs;subst O;have g1:(i:Int)<(E.R.length:Int):=by omega
     have g2:=nP i;have g3:=iF (n:=(i:Int)+1);have g4:((Aj E.B).flatMap cI++Ho)[i]?=some (I ((E.B.getD i 0:Nat):Int)):=by
      rw[zZ (by rw[sS];omega),idx (by omega),jF (by omega)]
     have h4:E.B.getD i 0<n:=b8 _ (pK (by omega));have Y:=read a6 a8 hi;have c6:=aiP (B:=E.B) (eU m S) (i:=i) (n:=n) (by omega);obtain⟨bi,Jf⟩:∃bi,bi=E.B.getD i 0:=⟨_,rfl⟩;rw[<- Jf]at g4 h4 Y c6;have h5:i<rb.length:=by omega
     have f6:=lM (ex:=J9) (n:=n+m+1) h5;obtain⟨ri,c9⟩:∃ri,ri=rb[i]:=⟨_,rfl⟩;rw[<- c9]at f6;obtain⟨Li,Oh,CX,Oi⟩:=b2.row i h5;have l7:ri<J:=a7 ri (by rw[c9];simp[zq]);have l8:Dn ri=some ⟨Li.flatMap zc,2,true⟩:=by rw[hs ri l7,c9];exact Oh
     have rl:(vI E.R i).length=n+m+1:=by rw[kP hi];exact hS.row _ (zq hi)
     have GU:Li.length=n+m+1:=by have:=congrArg List.length CX;rw[zB,rl]at this;exact this
     have b7:=kD (c:=zc) (s:=2) iC Li;rw[GU]at b7;have g6:=kG (c:=zc) (s:=2) iC Li (n+m) (by omega);have g7:(n+m)*2+2<=(n+m+1)*2:=by omega
     have g8:((n+m:Nat):Int)<((n+m+1:Nat):Int):=by omega
     have g9:(0:Int)<=((n+m:Nat):Int):=by omega
     obtain⟨hq,e⟩:=LU CX (c:=n+m) (by rw[rl];omega);have e2:(vI E.R i)[n+m]'(by rw[rl];omega)=en E.R i (n+m):=by
      unfold en;rw[zx,zy (by rw[rl];omega)];rfl
     have z1:∀σ d,stripL (strip σ d) (zc Li[n+m])=some (cZ (en E.R i (n+m)),[]):=fun σ d=>by
      rw[h_ σ d (Oi _ (zq hq)),e,e2]
     have k1:fn gu aY bY 145 [.agg (cZ (en E.R i (n+m))),LI (dg E.cu.natAbs)]=some (.tp (cQ (eU m S bi)) 0):=by
      rw[I_ _ _ (by have:=hS.big i (n+m) hi (zu _);omega) (by omega) (by have:=hS.cu;omega)];have:mkRat (en E.R i (n+m)) E.cu.natAbs=eU m S bi:=by
       rw[<- show((en E.R i (n+m):Int):Rat) / E.cu=eU m S bi from Y,Rat.mkRat_eq_div];congr 1;have:((E.cu.natAbs:Nat):Int)=E.cu:=by omega
       rw[<- Rat.intCast_natCast,this]
      rw[this]
     have g10:(bi:Int)<(n:Int):=by omega
     have g11:=nP bi;have g12:bi+1<=n:=by omega
     have q1:=aiO (xB E.B (eU m S) i n) bi (eU m S bi);rw[c6]at q1;have q2:((xB E.B (eU m S) i n).flatMap cF).length=n:=by rw[sZ,Jq]
     have q3:bb<J:=a7 bb (by simp);have q4:br<J:=a7 br (by simp);have l9:=(hs bb q3).trans l5;have m1:=(hs br q4).trans k9;have m2:=(hs bt k7).trans h0;have q5:bb<J+1:=by omega
     have q6:br<J+1:=by omega
     have q7:ri<J+1:=by omega
     have q8:J<J+1:=by omega
     unfold Af at t0;refine .inl ⟨_,by simp only[go_sem,t0,t5,t9,t71,t72,t73,G,l9,m1,m2,l8,f6,g1,g2,g3,g4,g6,g7,g8,g9,g10,g11,g12,g13,b7,z1,k1,h4,q1,q2,q5,q6,q7,q8];rfl,?_⟩;simp only[go_sem,t0,t5,t9,t71,t72];exact⟨rfl,rfl,fun x G=>by rw[iZ];exact hs x G⟩) (by
     rintro ⟨T,Dn,m0⟩ ⟨t0,t5,t9,t71,t72,t73,O,G,hs⟩;simp only at t0 t5 t9 t71 t72 t73 O G hs;subst O;have g1:¬(E.R.length:Int)<(E.R.length:Int):=by omega
     refine⟨_,by simp only[go_sem,t72,t73,g1];rfl,by simp,_,_,rfl,?_⟩;simp only[go_sem,t0,t9];exact G) (by
     simp only[go_sem,t0,t5,t9,Af,afZ];exact⟨k5,fun _ _=>trivial⟩)
   clear hL;have m3:xB E.B (eU m S) E.R.length n=(List.range n).map (eU m S):=by
    unfold xB;rw[<- l6,yV];apply xX;intro j hj
    by_cases h:j∈E.B
    .rw[uf h]
    .rw[ug h];exact(Q9 a6 (List.mem_range.mp hj) h).symm
   rw[m3]at c4;have h6:=afU hp a6 a8;have h7:∀j,j<n->Ln 24 (eU m S j):=fun j hj=>by
    by_cases h:j∈E.B
    .obtain⟨i,hi,e⟩:=nT h
     have h8:i<E.R.length:=by omega
     have Y:=read a6 a8 h8;rw[e]at Y;have:mkRat (en E.R i (n+m)) E.cu.natAbs=eU m S j:=by
      rw[<- show((en E.R i (n+m):Int):Rat) / E.cu=eU m S j from Y,Rat.mkRat_eq_div];congr 1;have:((E.cu.natAbs:Nat):Int)=E.cu:=by omega
      rw[<- Rat.intCast_natCast,this]
     rw[<- this];exact acR (zL (h6.1 i (n+m) h8 (zu _)) (by decide)) (zL h6.2 (by decide)) (by decide)
    .rw[show eU m S j=0 from Q9 a6 hj h]
     exact(uV (z:=0) (by decide)).mono (by decide)
   obtain⟨X,hX⟩:∃X:List Rat,X=(List.range n).map (eU m S):=⟨_,rfl⟩;have c5:X.length=n:=by rw[hX];simp
   have m4:∀j (h:j<n),X[j]'(by omega)=eU m S j:=fun j h=>by subst hX;simp
   rw[<- hX]at c4;have g4:fn gu conv ext 115 [I 0]=some (.tp (cQ 0) 0):=oL 0 (by decide) (by decide)
   unfold Af at t0;simp only[go_sem,t0,t9,g4];generalize hL:aA _ _=y;obtain⟨x,rfl,T7,rfl,t9,t13⟩:=rP hL n (fun k st=>st.T 0= .tp (Af m n A b c) 0/\st.T 9= .rs J 0 n/\st.T 102= .rs J 0 n/\st.T 103=I n/\st.T 104=I k/\st.nx=J+1/\st.σ=Dn/\∃s,st.T 13= .tp (cQ s) 0/\s=sm (fun j=>((c.getD j 0:Int):Rat)*eU m S j) k/\Ln (1+52*k) s)
    (fun x=>∃T,x=(.exit 6,⟨T,Dn,J+1⟩)/\T 9= .rs J 0 n/\T 13= .tp (cQ (sm (fun j=>((c.getD j 0:Int):Rat)*eU m S j) n)) 0) (by
     clear hL;rintro k ⟨T,m5,m0⟩ hk ⟨t0,t9,b9,Zv,c0,O,hs,s,t13,e0,e1⟩;simp only at t0 t9 b9 Zv c0 O hs t13;subst O hs;have g1:(k:Int)<(n:Int):=by omega
     have g2:=nP k;have g3:=iF (n:=(k:Int)+1);have g4:=FH X (k:=k) (by omega);rw[m4 k hk]at g4;have m6:=Hr hp.bc k;have g5:=idx (xs:=c) (k:=k) (by omega);have e5:c[k]'(by omega)=c.getD k 0:=by rw[zx,zy (by omega)];rfl
     rw[e5]at g5;have g6:=iI c k (by omega);have g7:(k:Int)<(c.length:Int):=by omega
     have g8:(c.flatMap cI).length=c.length:=sS c;have g9:(X.flatMap cF).length=n:=by rw[sZ,c5]
     obtain⟨ck,h9⟩:∃ck,ck=c.getD k 0:=⟨_,rfl⟩;rw[<- h9]at g5 m6;have k1:=oL ck (by omega) (by omega);have l1:=uV (z:=ck) (by omega);have l2:=(h7 k hk).mono (show 24<=50 by decide);have k2:=Xh (eU m S k) (ck:Rat) (l2.mono (by decide)) (l1.mono (by decide));have l3:=acS l2 l1 (by decide);have k3:=acw s (eU m S k*(ck:Rat)) (e1.mono (by omega)) (l3.mono (by decide));have l4:=acT e1 l3;unfold Af at t0;refine .inl ⟨_,by simp only[go_sem,t0,t9,b9,Zv,c0,t13,c4,g1,g2,g3,g4,g5,g6,g7,g8,g9,k1,k2,k3];rfl,?_⟩;simp only[go_sem,t0,t9,b9,Zv];refine⟨rfl,rfl,_,rfl,?_,l4.mono (by omega)⟩;show _=sm _ k+((c.getD k 0:Int):Rat)*eU m S k;rw[e0,<- h9,Rat.mul_comm]) (by
     rintro ⟨T,m5,m0⟩ ⟨t0,t9,b9,Zv,c0,O,hs,s,t13,e0,e1⟩;simp only at t0 t9 b9 Zv c0 O hs t13;subst O hs;have g1:¬(n:Int)<(n:Int):=by omega
     refine⟨_,by simp only[go_sem,Zv,c0,g1];rfl,by simp,_,rfl,?_⟩;simp only[go_sem,t9,t13,e0]) (by
     simp only[go_sem,t0,t9,Af];exact⟨0,rfl,rfl,uV (z:=0) (by decide)⟩)
   clear hL;have z1:n<=(X.flatMap cF).length:=by rw[sZ,c5];exact zu _
   have z2:(X.flatMap cF).take n=X.flatMap cF:=zk (by rw[sZ,c5];exact zu _);have z3:=Eo Dn 4 X;simp only[go_sem,t9,t13,c4,z1,z2,z3];refine⟨_,rfl,.inr (.inr ⟨eU m S,k4,h7,?_⟩)⟩;rw[show(g_ A b c m n).n=n from rfl,<- hX];show V.dF [I 0,V.ts (X.flatMap cF) n,_]=V.dF [I 0,V.ts (X.flatMap cF) X.length,_];rw[c5];rfl
  .simp only[go_sem,sG,kb,c8,f1,f2,f3,f4,kc,km]
   exact⟨_,rfl,.inr (.inl ⟨rfl,j1⟩)⟩
end
theorem nZ{body:St->Option (Ex×St)}{st E:St}{y:Option (Ex×St)}{e:Ex}(G:aA body st=y)(h:body st=some (e,E))(J:e≠ .norm):y=some (e,E):=by
 obtain⟨r,rfl,O⟩:=nY G (fun _ s=>s=st) (fun r=>r=(e,E)) (fun n s hs=>by subst hs;exact .inr ⟨_,h,fun s h=>J (congrArg Prod.fst h),rfl⟩) 0 rfl;rw[O]
theorem Zx{body:St->Option (Ex×St)}{st st1 E:St}{y:Option (Ex×St)}{e:Ex}(G:aA body st=y)(J:body st=some (.norm,st1))(h:body st1=some (e,E))(O:e≠ .norm):y=some (e,E):=by
 obtain⟨r,rfl,S⟩:=nY G (fun n s=>(n=1/\s=st)\/(n=0/\s=st1)) (fun r=>r=(e,E)) (fun n s hs=>by
  rcases hs with ⟨rfl,rfl⟩|⟨rfl,rfl⟩
  .exact .inl ⟨_,J,0,by omega,.inr ⟨rfl,rfl⟩⟩
  .exact .inr ⟨_,h,fun s h=>O (congrArg Prod.fst h),rfl⟩) 1 (.inl ⟨rfl,rfl⟩)
 rw[S]
theorem ag7{σ:Store}{nx bt bf bo:Nat}(E:σ bt=some ⟨[.nil,Bo false,LI (dg 1),.nil,I 0,.rs bf 0 0],0,true⟩)(G:bt<nx) :
  ev gu aY bY 144 [.rp bt 0,.rs bo 0 0] σ nx=some (Bo true,σ,nx):=by
 rw[qO [.tmp 4] [] func144];simp only[go_sem];generalize J:aA _ _=y;have S:¬(0:Int)<0:=by decide
 obtain rfl:=Zx J (by
  simp only[go_sem,E,G];generalize O:aA _ _=Y;obtain rfl:=nZ O (by simp only[go_sem];rfl) (by simp);simp only[go_sem];rfl) (by simp only[go_sem];rfl) (by simp)
 clear J;simp only[go_sem,E,G];generalize J:aA _ _=y;obtain rfl:=nZ J (by simp only[go_sem];rfl) (by simp);simp only[go_sem]
theorem af2{σ:Store}{nx bt bf:Nat}(E:σ bt=some ⟨[.nil,Bo false,LI (dg 1),.nil,I 0,.rs bf 0 0],0,true⟩)(G:bt<nx) :
  ev gu aY bY 170 [.rp bt 0,I 0] σ nx=some (.dF [],σ,nx):=by
 rw[qO [] [10,11] func170];simp only[go_sem];generalize J:aA _ _=y;obtain rfl:=nZ J (by simp only[go_sem,E,G];rfl) (by simp);simp only[go_sem]
theorem af4(σ:Store):∃r,ev gu aY bY 143 [.tp (Af 0 0 [] [] []) 0] σ 0=some r/\∃σ' nx' bt bf,r=(.dF [.rp bt 0,Bo true],σ',nx')/\bt<nx'/\σ' bt=some ⟨[.nil,Bo false,LI (dg 1),.nil,I 0,.rs bf 0 0],0,true⟩:=by
 have S:fn gu conv ext 154 [I 1]=some (.agg [Bo false,LI (dg 1)]):=oU 1 (by decide) (by decide)
 have z2:IntKind.i64.wrap (0+0)=0:=by decide
 have z3:(1:Int)*0<=281474976710656:=by decide
 have z4:(0:Int)<=9223372036854775807:=by decide
 have z5:Int.toNat 0=0:=rfl;have Y:(8:Int)*0<=281474976710656:=by decide
 unfold Af;rw[qO [.tmp 2,.tmp 3] [15,18,24,38] func143];simp only[go_sem,S,z2,z3,z4,z5];generalize E:aA _ _=y;obtain rfl:=nZ E (by simp only[go_sem];rfl) (by simp);clear E;simp only[go_sem,z4,z5,Y];generalize E:aA _ _=y;obtain rfl:=nZ E (by simp only[go_sem];rfl) (by simp);clear E;obtain⟨σ2,O⟩:∃σ2,σ2=upd (upd (upd σ 0 (some ⟨rep 0 [V.sc (Value.bool false)],1,true⟩)) 1 (some ⟨[.nil,Bo false,LI (dg 1),.nil,I 0,.rs 0 0 0],0,true⟩)) 2 (some ⟨rep 0 [I 0],1,true⟩):=⟨_,rfl⟩;have G:σ2 1=some ⟨[.nil,Bo false,LI (dg 1),.nil,I 0,.rs 0 0 0],0,true⟩:=by rw[O];rfl
 have hm:=ag7 (nx:=3) (bo:=2) G (by decide);have hl:=af2 (nx:=3) G (by decide);have J:1<3:=by decide
 simp only[go_sem,sG,<- O,hm,G,J];generalize E:aA _ _=y;obtain rfl:=nZ E (by simp only[go_sem];rfl) (by simp);clear E;simp only[go_sem,G,J];generalize E:aA _ _=y;obtain rfl:=nZ E (by simp only[go_sem];rfl) (by simp);clear E;simp only[go_sem,sG,hl];exact⟨_,rfl,σ2,3,1,0,rfl,J,G⟩
theorem af5:fn gu aY bY 107 [.tp (Af 0 0 [] [] []) 0]=some (.dF [I 0,.ts [] 0,.tp (cQ 0) 0]):=by
 obtain⟨r0,kb,S,E,bt,bf,rfl,a7,Y⟩:=af4 aG;have z3:(8:Int)*0<=281474976710656:=by decide
 have z4:(0:Int)<=9223372036854775807:=by decide
 have z5:Int.toNat 0=0:=rfl;obtain⟨σ2,Am⟩:∃σ2,σ2=upd S E (some ⟨rep 0 [I 0],1,true⟩):=⟨_,rfl⟩;have Ji:σ2 bt=some ⟨[.nil,Bo false,LI (dg 1),.nil,I 0,.rs bf 0 0],0,true⟩:=by rw[Am,iZ];exact Y
 have a1:bt<E+1:=by omega
 have km:=ag7 (nx:=E+1) (bo:=E) Ji a1;have kc:Di σ2 (E+1) [] 0 (.rs E 0 0)=some (I 0,σ2,E+1):=rfl;have g4:fn gu conv ext 115 [I 0]=some (.tp (cQ 0) 0):=oL 0 (by decide) (by decide)
 rw[qB,qO [.tmp 2,.tmp 3,.tmp 4] [24] func107];have kb:ev gu aY bY 143 [.tp [I 0,I 0,LI [],LI [],LI []] 0] aG 0=some (.dF [.rp bt 0,Bo true],S,E):=kb;unfold Af;have kl:List.flatMap cI []=[]:=rfl;simp only[go_sem,sG,kb,Y,a7,z3,z4,z5,<- Am,kc,km,kl];generalize G:aA _ _=y;obtain rfl:=nZ G (by simp only[go_sem];rfl) (by simp);clear G;simp only[go_sem,z3,z4,z5];generalize G:aA _ _=y;obtain rfl:=nZ G (by simp only[go_sem];rfl) (by simp);clear G;obtain⟨J,O⟩:∃J,J=upd σ2 (E+1) (some ⟨rep 0 [V.sc (.pointer none)],1,true⟩):=⟨_,rfl⟩;have VJ:J bt=some ⟨[.nil,Bo false,LI (dg 1),.nil,I 0,.rs bf 0 0],0,true⟩:=by rw[O,iZ];exact Ji
 have a6:bt<E+1+1:=by omega
 simp only[go_sem,<- O,VJ,a6];generalize G:aA _ _=y;obtain rfl:=nZ G (by simp only[go_sem];rfl) (by simp);clear G;simp only[go_sem,g4];generalize G:aA _ _=y;obtain rfl:=nZ G (by simp only[go_sem];rfl) (by simp);clear G;have hx:J (E+1)=some ⟨[],1,true⟩:=by rw[O,iW];rfl
 simp only[go_sem,hx]
structure SG (s:Structure):Prop where
 nj:s.au.length<=6
 nm:s.members.length<=8
 pl:∀i (h:i<s.au.length),-50<=s.au[i].x/\s.au[i].x<=50/\-50<=s.au[i].y/\s.au[i].y<=50
 mr:∀k (h:k<s.members.length),f_ s.au.length s.members[k]
theorem dZ.sg{s:Structure}(h:dZ s):SG s:=by
 obtain⟨O,S,Y,h4⟩:=h;refine⟨O,S,fun i hi=>?_,fun k hk=>?_⟩
 .have E:=(Y i hi).1
  unfold BO at E;rw[zV,zV]at E;have G:=oS E.2.1;have J:=oS E.2.2;exact⟨G.1,G.2,J.1,J.2⟩
 .have E:=h4 _ (zq hk)
  refine zh fun hn=>?_
  rw[nU hn]at E;cases E
def mem(s:Structure)(k:Nat):Member:=(s.members[k]?).getD ⟨0,0,0⟩
def Zy(s:Structure)(i:Int):fM:=(s.au[i.toNat]?).getD ⟨ByteArray.empty,0,0,false⟩
def vx(s:Structure)(k:Nat):Int:=(Zy s (mem s k).b).x - (Zy s (mem s k).a).x
def vy(s:Structure)(k:Nat):Int:=(Zy s (mem s k).b).y - (Zy s (mem s k).a).y
theorem Hu{s:Structure}{k:Nat}(h:k<s.members.length):s.members[k]=mem s k:=by unfold mem;rw[zy h];rfl
theorem acZ{s:Structure}(h:SG s)(i:Int):-50<=(Zy s i).x/\(Zy s i).x<=50/\-50<=(Zy s i).y/\(Zy s i).y<=50:=by
 unfold Zy
 by_cases hi:i.toNat<s.au.length
 .rw[zy hi];exact h.pl _ hi
 .rw[yZ (by omega)];simp
theorem OB{s:Structure}(h:SG s)(k:Nat):-100<=vx s k/\vx s k<=100/\-100<=vy s k/\vy s k<=100:=by
 have E:=acZ h (mem s k).a;have G:=acZ h (mem s k).b;unfold vx vy;omega
theorem Ep{α:Type}{c:α->List V}{s:Nat}(hc:∀x,(c x).length=s)(xs:List α)(k:Nat)(h:k<xs.length){j:Nat}(E:j<s):(xs.flatMap c)[k*s+j]?=(c xs[k])[j]?:=by
 rw[<- kG hc xs k h,xk,uf E,yG]
theorem Xo{s:Structure}(h:SG s){k:Nat}(G:k<s.members.length):fn gu conv ext 150 [.tp (aC s) 0,I k]=some (.dF [I (vx s k),I (vy s k)]):=by
 have O:=h.mr k G;rw[Hu G]at O;have hb:=OB h k;have a1:=h.nm;have a6:=h.nj;have J:=abv s.members k G;rw[Hu G]at J;have f1:(k:Int)<(s.members.length:Int):=by omega
 have f2:=nP k;have f4:=QH s.members;have f5:k*3+3<=s.members.length*3:=by omega
 have f6:=abw s.members k G;unfold vx vy at hb⊢;generalize mem s k=mm at *;obtain⟨S,Y,mk⟩:=mm;obtain⟨r1,r2,r3,r4,r5,r6⟩:=O;simp only at *;obtain⟨a,rfl⟩:∃a:Nat,S=(a:Int):=⟨S.toNat,by omega⟩;obtain⟨b,rfl⟩:∃b:Nat,Y=(b:Int):=⟨Y.toNat,by omega⟩;have ha:a<s.au.length:=by omega
 have E:b<s.au.length:=by omega
 have ea:Zy s (a:Int)=s.au[a]:=by unfold Zy;rw[zM,zy ha];rfl
 have eb:Zy s (b:Int)=s.au[b]:=by unfold Zy;rw[zM,zy E];rfl
 rw[ea,eb]at hb⊢;have g4:=II s.au;have g6:=abu s.au a ha;have p1:(s.au.flatMap aX)[a*4+1]?=some (I s.au[a].x):=Ep (c:=aX) (fun _=>rfl) s.au a ha (j:=1) (by decide);have p2:(s.au.flatMap aX)[a*4+2]?=some (I s.au[a].y):=Ep (c:=aX) (fun _=>rfl) s.au a ha (j:=2) (by decide);have p3:(s.au.flatMap aX)[b*4+1]?=some (I s.au[b].x):=Ep (c:=aX) (fun _=>rfl) s.au b E (j:=1) (by decide);have p4:(s.au.flatMap aX)[b*4+2]?=some (I s.au[b].y):=Ep (c:=aX) (fun _=>rfl) s.au b E (j:=2) (by decide);have w1:=iF (n:=s.au[b].x-s.au[a].x);have w2:=iF (n:=s.au[b].y-s.au[a].y);rw[qB,qO [.tmp 4,.tmp 5] [2] func150];simp only[go_sem,J,f1,f2,f4,f5,f6,r1,r2,r3,r4,g4,g6,p1,p2,p3,p4,w1,w2]
def AY(s:Structure)(i:Nat):Bool:=(s.au[i]?).elim false fun j=> !j.fixed
def free(s:Structure):List Int:=BF (AY s) s.au.length
theorem VL{T:Nat->V}{σ:Store}{nx t:Nat}{acc:List Int}(E:Grow T σ nx t acc)(x:Option BZ):Grow T (upd σ nx x) (nx+1) t acc:=by
 rcases E with ⟨g1,g2⟩|⟨b,g1,g2,g3,g4⟩
 .exact .inl ⟨g1,g2⟩
 .exact .inr ⟨b,g1,g2,by rw[iZ];exact g3,by omega⟩
theorem Gu{s:Structure}(h:SG s):fn gu conv ext 111 [.tp (aC s) 0]=some (LI (free s)):=by
 have a1:=h.nj;unfold free;rw[qB,qO [.tmp 2] [] func111];simp only[go_sem];generalize hL:aA _ _=y;obtain⟨r,rfl,T',σ',nx',rfl,h2⟩:=rP hL s.au.length (fun k st=>st.T 9=LL aX s.au/\st.T 10=I s.au.length/\st.T 11=I k/\Grow st.T st.σ st.nx 3 (BF (AY s) k))
  (fun r=>∃T σ nx',r=(.exit 0,⟨T,σ,nx'⟩)/\Grow T σ nx' 3 (BF (AY s) s.au.length)) (by
   clear hL;rintro k ⟨T,σ,nx⟩ G ⟨O,E,J,S⟩;simp only at O E J S;have f1:(k:Int)<(s.au.length:Int):=by omega
   have f2:=nP k;have f3:=iF (n:=(k:Int)+1);have f4:=YU s.au k G;have f5:=II s.au;have f6:k*4+4<=s.au.length*4:=by omega
   have f9:=abu s.au k G;have hle:=iy (AY s) k;have Y:=fun x=>VL S x
   cases hp:s.au[k].fixed with
   |false=>
    have hq:AY s k=true:=by simp[AY,zy G,hp]
    obtain⟨σ',ha,hs⟩:=oz (Y (some ⟨[Sg s.au[k].name,I s.au[k].x,I s.au[k].y,Bo false],0,true⟩)) (k:Int) (by omega);refine .inl ⟨_,by simp only[go_sem,O,E,J,f1,f2,f3,f4,f5,f6,f9,hp,G,ha];rfl,?_⟩;simp only[go_sem,O,E];rw[NS hq];exact⟨rfl,oh hs (by simp[go_sem]) (by simp)⟩
   |true=>
    have hq:AY s k=false:=by simp[AY,zy G,hp]
    refine .inl ⟨_,by simp only[go_sem,O,E,J,f1,f2,f3,f4,f5,f6,f9,hp,G];rfl,?_⟩;simp only[go_sem,O,E];rw[Vk hq];exact⟨rfl,ou (T:=T) (by simp only[go_sem]) (Y _)⟩) (by
   rintro ⟨T,σ,nx⟩ ⟨O,E,J,S⟩;simp only at O E J S;exact⟨_,by simp only[go_sem,E,J,zX];rfl,by simp,_,_,_,rfl,ou (by simp only[go_sem]) S⟩) (by
   simp only[go_sem];exact .inl ⟨by simp only[go_sem],rfl⟩)
 obtain⟨ids,hs⟩:=og h2 6;simp only[go_sem,hs]
end Go.Proofs.YtjknobpihkmilaaGreat
namespace Go.Plan
inductive Way (mv:Nat->Nat->Bool) (al:Nat->Bool):Nat->Nat->Nat->Prop
 |nil {a:Nat} (h:al a=true):Way mv al 0 a a
 |cons {k a b c:Nat} (h:al a=true) (hm:mv a b=true) (hw:Way mv al k b c):Way mv al (k+1) a c
section
variable {mv:Nat->Nat->Bool} {al:Nat->Bool}
theorem Way.fst{k a b:Nat}(h:Way mv al k a b):al a=true:=by cases h<;>assumption
theorem Way.lst{k a b:Nat}(h:Way mv al k a b):al b=true:=by induction h<;>assumption
theorem Way.snoc{k a b c:Nat}(h:Way mv al k a b)(hm:mv b c=true)(hc:al c=true):Way mv al (k+1) a c:=by
 induction h with
 |nil h=>exact .cons h hm (.nil hc)
 |cons h E _ G=>exact .cons h E (G hm)
theorem Way.zero{a b:Nat}(h:Way mv al 0 a b):a=b/\al a=true:=by
 cases h with
 |nil h=>exact⟨rfl,h⟩
theorem Way.succ{k a c:Nat}(h:Way mv al (k+1) a c):al a=true/\∃b,mv a b=true/\Way mv al k b c:=by
 cases h with
 |cons h hm hw=>exact⟨h,_,hm,hw⟩
theorem least{p:Nat->Prop}(h:∃k,p k):∃k,p k/\∀j,p j->k<=j:=by
 obtain⟨k,E⟩:=h
 induction k using Nat.strongRecOn with
 |_ k G=>
  by_cases h:∃j,j<k/\p j
  .obtain⟨j,J,hp⟩:=h;exact G j J hp
  .exact⟨k,E,fun j hp=>zh fun O=>h ⟨j,by omega,hp⟩⟩
def FI(mv:Nat->Nat->Bool)(al:Nat->Bool)(to i:Nat)(d:Int):Prop:=(d= -1/\∀k,¬Way mv al k i to)\/∃k:Nat,d=(k:Int)/\Way mv al k i to/\∀j,Way mv al j i to->k<=j
theorem Xp(mv:Nat->Nat->Bool)(al:Nat->Bool)(to i:Nat):∃d,FI mv al to i d:=by
 by_cases h:∃k,Way mv al k i to
 .obtain⟨k,E,G⟩:=least h
  exact⟨k,.inr ⟨k,rfl,E,G⟩⟩
 .exact⟨-1,.inl ⟨rfl,fun k J=>h ⟨k,J⟩⟩⟩
noncomputable def dst(mv:Nat->Nat->Bool)(al:Nat->Bool)(to i:Nat):Int:=Classical.choose (Xp mv al to i)
theorem VN(mv:Nat->Nat->Bool)(al:Nat->Bool)(to i:Nat):FI mv al to i (dst mv al to i):=Classical.choose_spec (Xp mv al to i)
theorem FI.uniq{to i:Nat}{d e:Int}(E:FI mv al to i d)(G:FI mv al to i e):d=e:=by
 rcases E with ⟨rfl,E⟩|⟨k,rfl,E,J⟩<;>rcases G with ⟨rfl,G⟩|⟨j,rfl,G,O⟩
 .rfl
 .exact absurd G (E _)
 .exact absurd E (G _)
 .have:=J _ G;have:=O _ E;omega
theorem ac1{to i:Nat}{d:Int}(h:FI mv al to i d):dst mv al to i=d:=(VN mv al to i).uniq h
theorem Es{to i:Nat}(h:0<=dst mv al to i):∃k:Nat,dst mv al to i=k/\Way mv al k i to/\∀j,Way mv al j i to->k<=j:=by
 rcases VN mv al to i with ⟨E,_⟩|E
 .omega
 .exact E
theorem Jr{to i k:Nat}(h:Way mv al k i to):0<=dst mv al to i/\dst mv al to i<=k:=by
 rcases VN mv al to i with ⟨_,E⟩|⟨j,E,J,G⟩
 .exact absurd h (E _)
 .have:=G _ h;omega
theorem ac2{to i:Nat}(h:∀k,¬Way mv al k i to):dst mv al to i= -1:=ac1 (.inl ⟨rfl,h⟩)
theorem ac3{to:Nat}(h:al to=true):dst mv al to to=0:=by
 have:=Jr (Way.nil (mv:=mv) h);omega
theorem ac4{to i:Nat}(h:dst mv al to i=0):i=to/\al to=true:=by
 obtain⟨k,J,E,_⟩:=Es (mv:=mv) (al:=al) (to:=to) (i:=i) (by omega);have:k=0:=by omega
 subst this;obtain⟨rfl,G⟩:=E.zero;exact⟨rfl,G⟩
theorem Js{to i:Nat}(h:0<=dst mv al to i):al i=true/\al to=true:=by
 obtain⟨k,_,E,_⟩:=Es h;exact⟨E.fst,E.lst⟩
theorem ac5{to i m:Nat}(hi:al i=true)(hm:mv i m=true)(h:0<=dst mv al to m):0<=dst mv al to i/\dst mv al to i<=dst mv al to m+1:=by
 obtain⟨k,G,E,_⟩:=Es h;have:=Jr (Way.cons hi hm E);omega
theorem ac6{to i:Nat}(h:0<dst mv al to i):al i=true/\∃m,mv i m=true/\al m=true/\dst mv al to m=dst mv al to i-1:=by
 obtain⟨k,Y,O,h3⟩:=Es (mv:=mv) (al:=al) (to:=to) (i:=i) (by omega);cases k with
 |zero=>omega
 |succ k=>
  obtain⟨E,b,G,J⟩:=O.succ;have S:=Jr J;have h8:=ac5 E G S.1;exact⟨E,b,G,J.fst,by omega⟩
theorem nN:∀ {n:Nat} {l:List Nat},l.Nodup->(∀x∈l,x<n)->l.length<=n
 |0,[],_,_=>zu 0
 |0,x :: _,_,h=>absurd (h x zH) (zK _)
 |n+1,l,hn,h=>by
  have G:=nN (n:=n) (l:=l.erase n) (hn.sublist List.erase_sublist) fun x J=>by
   have E:=(List.Nodup.mem_erase_iff hn).mp J;have:=h x E.2;have:=E.1;omega
  by_cases hm:n∈l
  .have:=List.length_erase_of_mem hm
   omega
  .rw[List.erase_of_not_mem hm]at G
   omega
structure RU (mv:Nat->Nat->Bool) (al:Nat->Bool) (to:Nat) (all:List Nat) (p:Nat) (out:Nat->Int):Prop where
 nd:all.Nodup
 lab:∀i,i∉all->out i= -1
 way:∀i,i∈all->∃k:Nat,out i=k/\Way mv al k i to
 t0:to∈all/\out to=0
 srt:∀a b (ha:a<all.length) (hb:b<all.length),a<=b->out all[a]<=out all[b]
 don:∀a (ha:a<all.length),a<p->∀i,al i=true->mv i all[a]=true->i∈all/\out i<=out all[a]+1
 one:∀(hp:p<all.length),∀i∈all,out i<=out all[p]+1
 bnd:∀i,i∈all->out i<all.length
def put(out:Nat->Int)(x:Nat)(v:Int):Nat->Int:=fun i=>if i=x then v else out i
theorem lX(out:Nat->Int)(x:Nat)(v:Int):put out x v x=v:=uf rfl
theorem VO{out:Nat->Int}{x i:Nat}{v:Int}(h:i≠x):put out x v i=out i:=ug h
theorem Zz{to:Nat}(h:al to=true):RU mv al to [to] 0 (put (fun _=> -1) to 0):=by
 refine⟨by simp,fun i hi=>?_,fun i hi=>?_,⟨by simp,lX _ _ _⟩,fun a b ha hb _=>?_,fun a ha E=>absurd E (zK _),fun hp i hi=>?_,fun i hi=>?_⟩
 .exact VO (by simpa using hi)
 .have:i=to:=by simpa using hi
  subst this;exact⟨0,lX _ _ _,.nil h⟩
 .have G:a=0:=by simpa using ha
  have J:b=0:=by simpa using hb
  subst G J;exact xg _
 .have:i=to:=by simpa using hi
  subst this;show put _ _ _ _<=put _ _ _ i+1;omega
 .have:i=to:=by simpa using hi
  subst this;rw[lX];simp
theorem RU.lo{to:Nat}{all:List Nat}{p:Nat}{out:Nat->Int}(h:RU mv al to all p out)(i:Nat):(out i<0↔i∉all):=by
 constructor
 .intro E G
  obtain⟨k,J,_⟩:=h.way i G;omega
 .intro E
  rw[h.lab i E];omega
theorem RU.add{to:Nat}{all:List Nat}{p:Nat}{out:Nat->Int}(h:RU mv al to all p out)(hp:p<all.length){x:Nat}(hx:x∉all)(Y:al x=true)(a1:mv x all[p]=true):RU mv al to (all++[x]) p (put out x (out all[p]+1)):=by
 have ne:∀ {i:Nat},i∈all->put out x (out all[p]+1) i=out i:=fun {i} hi=>VO fun e=>hx (e ▸ hi)
 obtain⟨kp,b2,a6⟩:=h.way all[p] (zq hp);have G:∀i∈all++[x],put out x (out all[p]+1) i<=out all[p]+1:=fun i hi=>by
  rcases List.mem_append.mp hi with hi|hi
  .rw[ne hi];exact h.one hp i hi
  .have:i=x:=by simpa using hi
   subst this;rw[lX];exact xg _
 have gl:∀ {a:Nat} (ha:a<(all++[x]).length),(∃h':a<all.length,(all++[x])[a]=all[a])\/(a=all.length/\(all++[x])[a]=x):=fun {a} ha=>by
  by_cases h':a<all.length
  .exact .inl ⟨h',yH h'⟩
  .have:a=all.length:=by simp at ha;omega
   subst this;exact .inr ⟨rfl,by simp⟩
 refine⟨?_,fun i hi=>?_,fun i hi=>?_,⟨zD _ h.t0.1,?_⟩,fun a b ha hb a7=>?_,fun a ha a8 i hi hm=>?_,fun b3 i hi=>?_,fun i hi=>?_⟩
 .rw[List.nodup_append]
  exact⟨h.nd,by simp,fun a ha b hb=>by have:b=x:=by simpa using hb
                                       subst this;exact fun e=>hx (e ▸ ha)⟩
 .have h1:i∉all:=fun e=>hi (zD _ e)
  have h2:i≠x:=fun e=>hi (yF _ (by simp[e]))
  rw[VO h2];exact h.lab i h1
 .rcases List.mem_append.mp hi with hi|hi
  .rw[ne hi];exact h.way i hi
  .have:i=x:=by simpa using hi
   subst this;exact⟨kp+1,by rw[lX];omega,.cons Y a1 a6⟩
 .rw[ne h.t0.1];exact h.t0.2
 .rcases gl ha with ⟨E,J⟩|⟨ra,J⟩<;>rcases gl hb with ⟨O,S⟩|⟨rb,S⟩
  .rw[J,S,ne (zq E),ne (zq O)]
   exact h.srt a b E O a7
  .rw[J,S,lX,ne (zq E)]
   exact h.one hp _ (zq E)
  .omega
  .rw[J,S];exact xg _
 .rcases gl ha with ⟨E,J⟩|⟨ra,J⟩
  .rw[J]at hm⊢
   have:=h.don a E a8 i hi hm;rw[ne this.1,ne (zq E)];exact⟨zD _ this.1,this.2⟩
  .omega
 .have e:(all++[x])[p]=all[p]:=yH hp
  rw[e,ne (zq hp)];exact G i hi
 .have h1:=G i hi
  have h2:=h.bnd all[p] (zq hp);rw[zo,yT];omega
theorem RU.next{to:Nat}{all:List Nat}{p:Nat}{out:Nat->Int}(h:RU mv al to all p out)(hp:p<all.length)(G:∀i,al i=true->mv i all[p]=true->i∈all):RU mv al to all (p+1) out:=by
 refine⟨h.nd,h.lab,h.way,h.t0,h.srt,fun a ha J i hi hm=>?_,fun E i hi=>?_,h.bnd⟩
 .by_cases e:a=p
  .subst e
   exact⟨G i hi hm,h.one hp i (G i hi hm)⟩
  .exact h.don a ha (by omega) i hi hm
 .have O:=h.one hp i hi
  have S:=h.srt p (p+1) hp E (by omega);omega
theorem RU.fin{to:Nat}{all:List Nat}{p:Nat}{out:Nat->Int}(h:RU mv al to all p out)(hp:all.length<=p)(i:Nat):dst mv al to i=out i:=by
 have key:∀k i,Way mv al k i to->i∈all/\out i<=k:=by
  intro k
  induction k with
  |zero=>
   intro i hw;obtain⟨rfl,_⟩:=hw.zero;exact⟨h.t0.1,by rw[h.t0.2];omega⟩
  |succ k J=>
   intro i hw;obtain⟨E,b,G,O⟩:=hw.succ;obtain⟨S,h5⟩:=J b O;obtain⟨a,ha,rfl⟩:=yK S;obtain⟨Y,h7⟩:=h.don a ha (by omega) i E G;exact⟨Y,by omega⟩
 apply ac1
 by_cases hm:i∈all
 .obtain⟨k,E,G⟩:=h.way i hm
  exact .inr ⟨k,E,G,fun j hj=>by have:=(key j i hj).2;omega⟩
 .exact .inl ⟨h.lab i hm,fun k hk=>hm (key k i hk).1⟩
theorem RU.bound{to:Nat}{all:List Nat}{p n:Nat}{out:Nat->Int}(h:RU mv al to all p out)(hn:∀i,al i=true->i<n):all.length<=n :=
 nN h.nd fun i hi=>by obtain⟨k,_,hw⟩:=h.way i hi;exact hn i hw.fst
structure Xq (mv:Nat->Nat->Bool) (al:Nat->Bool) (fr:Nat) (all:List Nat) (p:Nat):Prop where
 nd:all.Nodup
 way:∀i,i∈all->∃k:Nat,Way mv al k fr i
 t0:fr∈all
 don:∀a (ha:a<all.length),a<p->∀i,al i=true->mv all[a] i=true->i∈all
theorem ZA{fr:Nat}(h:al fr=true):Xq mv al fr [fr] 0 :=
 ⟨by simp,fun i hi=>by have:i=fr:=by simpa using hi
                       subst this;exact⟨0,.nil h⟩,by simp,fun a ha E=>absurd E (zK _)⟩
theorem Xq.add{fr:Nat}{all:List Nat}{p:Nat}(h:Xq mv al fr all p)(hp:p<all.length){x:Nat}(Y:x∉all)(G:al x=true)(J:mv all[p] x=true):Xq mv al fr (all++[x]) p:=by
 obtain⟨kp,O⟩:=h.way all[p] (zq hp);refine⟨?_,fun i hi=>?_,zD _ h.t0,fun a ha S i hi hm=>?_⟩
 .rw[List.nodup_append]
  exact⟨h.nd,by simp,fun a ha b hb=>by have:b=x:=by simpa using hb
                                       subst this;exact fun e=>Y (e ▸ ha)⟩
 .rcases List.mem_append.mp hi with hi|hi
  .exact h.way i hi
  .have:i=x:=by simpa using hi
   subst this;exact⟨kp+1,O.snoc J G⟩
 .have E:a<all.length:=by omega
  have e:(all++[x])[a]=all[a]:=yH E;rw[e]at hm;exact zD _ (h.don a E S i hi hm)
theorem Xq.next{fr:Nat}{all:List Nat}{p:Nat}(h:Xq mv al fr all p)(hp:p<all.length)(E:∀i,al i=true->mv all[p] i=true->i∈all):Xq mv al fr all (p+1) :=
 ⟨h.nd,h.way,h.t0,fun a ha G i hi hm=>by
  by_cases e:a=p
  .subst e;exact E i hi hm
  .exact h.don a ha (by omega) i hi hm⟩
theorem Xq.fin{fr:Nat}{all:List Nat}{p:Nat}(h:Xq mv al fr all p)(hp:all.length<=p)(i:Nat):i∈all↔0<=dst mv al i fr:=by
 have key:∀k a,Way mv al k a i->a∈all->i∈all:=by
  intro k a hw
  induction hw with
  |nil _=>exact id
  |cons h1 hm E O=>
   intro ha;obtain⟨S,G,rfl⟩:=yK ha;exact O (h.don S G (by omega) _ E.fst hm)
 constructor
 .intro hi
  obtain⟨k,J⟩:=h.way i hi;exact(Jr J).1
 .intro Y
  obtain⟨k,_,J,_⟩:=Es Y;exact key k fr J h.t0
theorem Xq.bound{fr:Nat}{all:List Nat}{p n:Nat}(h:Xq mv al fr all p)(hn:∀i,al i=true->i<n):all.length<=n :=
 nN h.nd fun i hi=>by obtain⟨k,hw⟩:=h.way i hi;exact hn i hw.lst
def EH(mv:Nat->Nat->Bool)(out:Nat->Int)(n a:Nat):Nat:=((List.range n).find? fun i=>mv a i && (out i==out a-1)).getD a
def O4(mv:Nat->Nat->Bool)(out:Nat->Int)(n a:Nat):Nat->Nat
 |0=>a
 |k+1=>EH mv out n (O4 mv out n a k)
theorem OC{n to:Nat}(hn:∀i,al i=true->i<n){a:Nat}(h:0<dst mv al to a):EH mv (dst mv al to) n a<n/\mv a (EH mv (dst mv al to) n a)=true/\dst mv al to (EH mv (dst mv al to) n a)=dst mv al to a-1:=by
 obtain⟨_,m,J,O,S⟩:=ac6 h;unfold EH;cases E:(List.range n).find? fun i=>mv a i && (dst mv al to i==dst mv al to a-1)with
 |none=>
  rw[List.find?_eq_none]at E;have:=E m (by simpa using hn m O);simp[J,S]at this
 |some i=>
  have G:=List.find?_some E;have Y:=List.mem_of_find?_eq_some E;rw[zV,beq_iff_eq]at G;exact⟨by simpa using Y,G.1,G.2⟩
theorem oM{n to:Nat}(hn:∀i,al i=true->i<n){a:Nat}:∀k:Nat,(k:Int)<=dst mv al to a->dst mv al to (O4 mv (dst mv al to) n a k)=dst mv al to a-k
 |0,_=>by unfold O4;omega
 |k+1,h=>by
  have E:=oM hn (to:=to) (a:=a) k (by omega);have G:=OC hn (mv:=mv) (to:=to) (a:=O4 mv (dst mv al to) n a k) (by omega);unfold O4;omega
theorem ac7{n to:Nat}(hn:∀i,al i=true->i<n){a:Nat}(h:0<=dst mv al to a):dst mv al to a<n:=by
 obtain⟨d,hd⟩:∃d:Nat,dst mv al to a=d:=⟨(dst mv al to a).toNat,by omega⟩;have G:((List.range (d+1)).map (O4 mv (dst mv al to) n a)).Nodup:=by
  unfold List.Nodup;rw[List.pairwise_map];refine List.Pairwise.imp_of_mem ?_ (List.pairwise_lt_range (n:=d+1));intro i j hi J O e;rw[vG]at hi J;have E:=oM hn (mv:=mv) (to:=to) (a:=a) i (by omega);have S:=oM hn (mv:=mv) (to:=to) (a:=a) j (by omega);rw[e,S]at E;omega
 have Y:=nN (n:=n) G fun x hx=>by
  obtain⟨i,hi,rfl⟩:=List.mem_map.mp hx;rw[vG]at hi;have E:=oM hn (mv:=mv) (to:=to) (a:=a) i (by omega);exact hn _ (Js (mv:=mv) (to:=to) (by omega)).1
 simp at Y;omega
def plan(mv:Nat->Nat->Bool)(out:Nat->Int)(n a:Nat):List Nat:=(List.range ((out a).toNat+1)).map (O4 mv out n a)
theorem ac8(out:Nat->Int)(n a:Nat):(plan mv out n a).length=(out a).toNat+1:=by simp[plan]
end
end Go.Plan
namespace Go.Plan
section
variable {mv:Nat->Nat->Bool} {al:Nat->Bool}
noncomputable def lst(mv:Nat->Nat->Bool)(al:Nat->Bool)(to a:Nat):Int:=if 0<=dst mv al to a then dst mv al to a+1 else 0
def alV(f:Int->Int)(b:Int)(k:Int):Int:=if 0<f k/\(b=0\/f k<b)then f k else b
def best(f:Int->Int)(l:List Int):Int:=l.foldl (alV f) 0
end
end Go.Plan
namespace Go.Plan
section
variable {mv:Nat->Nat->Bool} {al:Nat->Bool}
end
end Go.Plan
namespace Go.Proofs.YtjknobpihkmilaaGreat
open Go Go.TV
def Dp(s:Nat):List V->Store->Nat->Option (V×Store×Nat)
 |[.ts row len],σ,nx=>if row.length=len*s/\len<=1000000/\row.all aJ=true then(if len=0 then some (.nil,σ,nx)else some (.rs nx 0 len,bG σ nx row s,nx+1))else none
 |_,_,_=>none
theorem OD(args:List V)(σ:Store)(nx:Nat)(v:V)(σ':Store)(nx':Nat)(h:Dp 4 args σ nx=some (v,σ',nx')):Ae gu 101 args σ nx v σ' nx':=by
 unfold Dp at h
 split at h
 .rename_i row len
  split at h
  .rename_i hc
   obtain⟨O,hs,G⟩:=hc;refine Iy (call:=fun _ _ _ _=>none) (conv:=fun _=> .FX) (fun _ _ _ _ _ _ _ h=>by cases h) (by kernel_rfl) func101 rfl Tryz.underlying38 (n:=0) (by kernel_rfl) (st1:=⟨upd (gX [.ts row len]) 2 .nil,σ,nx⟩) (T2:=upd (upd (gX [.ts row len]) 2 .nil) 3 (.ts row len)) (v1:=.ts row len) (row:=row) (len:=len) (vs:=[v]) ?_ rfl ?_ rfl ?_ ?_
   .rfl
   .rfl
   .rfl
   .intro b hb
    cases b with
    |true=>
     have J:=hb rfl;subst J;have E:len=0:=by
      have S:0=len*4:=O;omega
     subst E;simp only[if_true,uj,uh]at h;obtain⟨rfl,rfl,rfl⟩:=h;exact⟨.ret,_,rfl,.inr rfl,rfl,rfl,rfl⟩
    |false=>
     by_cases E:len=0
     .subst E
      have J:row=[]:=zN (by omega);subst J;simp only[if_true,uj,uh]at h;obtain⟨rfl,rfl,rfl⟩:=h;refine⟨.ret,?_,?_,.inr rfl,?_,?_,?_⟩
      .exact⟨upd (upd (upd (upd (upd (upd (upd (upd (gX [.ts [] 0]) 2 .nil) 3 (.ts [] 0)) 4 (.sc (.bool false))) 5 .nil) 6 (.ts [] 0)) 7 .nil) 2 .nil) 2 .nil,σ,nx⟩
      .simp only[aK,go_sem]
      .rfl
      .rfl
      .rfl
     .rw[ug E]at h
      simp only[uj,uh]at h;obtain⟨rfl,rfl,rfl⟩:=h;have q0:len<=maxLen:=by unfold maxLen;omega
      have Y:len<=maxLen/\len*1<=140737488355328:=by unfold maxLen;omega
      have q2:len<=maxLen/\len*40<=140737488355328:=by unfold maxLen;omega
      have q3:len<=maxLen/\len<=140737488355328:=by unfold maxLen;omega
      refine⟨.ret,?_,?_,.inr rfl,?_,?_,?_⟩
      .exact⟨upd (upd (upd (upd (upd (upd (upd (gX [.ts row len]) 2 .nil) 3 (.ts row len)) 4 (.sc (.bool false))) 5 .nil) 6 (.ts row len)) 7 (.rs nx 0 len)) 2 (.rs nx 0 len),bG σ nx row 4,nx+1⟩
      .simp only[aK,go_sem,O,E,Y,q2,q3]
      .rfl
      .rfl
      .rfl
  .cases h
 .cases h
section
variable {P:Program} {conv:FuncId->Conv} {call:TV.Call} (d:Option Tmp) (ty:TypeId) (ps:String) (af:Array Edge) (gd:Option (Nat×Bool)) (T:Nat->V) (σ:Store) (nx:Nat)
theorem Jt(t:TypeId)(len:Nat)(parts:Array (Nat×Operand))(E:(decide (len=0) && !parts.isEmpty)=false)(G:¬len=0)(h:(aN P t).slice=true)(J:(aN P t).PK=true) :
  aZ P conv call ⟨d,.buildSlice t len parts,ty,ps,af,gd⟩ T σ nx=dO P t len (parts.toList.map fun p=>(p.1,val T p.2)) σ nx:=by
 have key:∀σ,dO P t len (parts.toList.map fun p=>(p.1,val T p.2)) σ nx=(if 0<(aN P t).CW/\len*(aN P t).CW<=1000 then(fB (fun j=>some (j*(aN P t).CW,(aN P t).CW)) (rep len (aN P t).BD) (parts.toList.map fun p=>(p.1,val T p.2))).map fun cells=>(cells,(aN P t).CW,V.rs nx 0 len)else none).map fun p=>(p.2.2,bG σ nx p.1 p.2.1,nx+1):=fun σ=>by
  rw[qp h J,ug G]
  split
  .cases fB (fun j=>some (j*(aN P t).CW,(aN P t).CW)) (rep len (aN P t).BD) (parts.toList.map fun p=>(p.1,val T p.2))<;>rfl
  .rfl
 have:=DL (P:=P) (conv:=conv) (call:=call) (o:=⟨d,.buildSlice t len parts,ty,ps,af,gd⟩) T σ nx rfl fun σ=>(nD d ty ps af gd T σ nx t len parts E).trans (key σ)
 exact this.trans (key σ).symm
end
theorem Kr(σ:Store)(c b nx:Nat)(x:Option BZ):aQ [c,b] nx nx σ (upd (restrict σ [c,b]) c x)=upd σ c x:=by
 funext i;unfold aQ upd restrict
 by_cases E:i=c
 .simp[E]
 .by_cases G:i=b
  .simp[G]
  .rw[ug (by simp only[zQ,zG,or_false,E,G,false_or];omega),ug E]
attribute [go_sem] Jt Kr
theorem ac9(xs:List Int)(S:∀x∈xs,0<=x/\x<=255)(Y:xs.length<=1048576)(i h:Int)(hi:0<=i/\i<=xs.length)(n:Int)(h1:1<=n)(h2:n<=256) :
  ∃r E G,(∀(b st nx:Nat) (σ:Store),σ b=some (EI xs i h st)->b<nx->ev gu conv ext 58 [.rp b 0,I n] σ nx=some (Bo r,upd σ b (some (EI xs E G st)),nx))/\0<=E/\E<=xs.length:=by
 obtain⟨r,E,G,k,hr,J⟩:=kN xs S Y i h hi n h1 h2;refine⟨r==0,E,G,fun b st nx σ O hb=>?_,J⟩;have k':=k b st nx σ O hb;rw[qO [.tmp 4] [] func58];simp only[go_sem,sG,k']
theorem VP(xs:List Int)(hx:∀x∈xs,0<=x/\x<=255)(hl:xs.length<=1048576)(i h:Int)(hi:0<=i/\i<=xs.length)(E:List Int)(h1:1<=E.length)(h2:E.length<=256) :
  ∃r,∃hr:r<E.length,∃G J,(∀(c b nx:Nat) (σ:Store),σ c=some (EI xs i h 0)->σ b=some ⟨E.flatMap cI,1,true⟩->c<nx->b<nx->b≠c->ev gu conv ext 99 [.rp c 0,.rs b 0 E.length] σ nx=some (I E[r],upd σ c (some (EI xs G J 0)),nx))/\0<=G/\G<=xs.length:=by
 obtain⟨r,G,J,k,hr,O⟩:=kN xs hx hl i h hi E.length (by omega) (by omega);obtain⟨q,rfl⟩:∃q:Nat,r=(q:Int):=⟨r.toNat,by omega⟩;have hq:q<E.length:=by omega
 refine⟨q,hq,G,J,fun c b nx σ S hb hc a1 Y=>?_,O⟩;have k':=k c 0 nx σ S hc;have f1:(q:Int)<(E.length:Int):=by omega
 have f2:=nP q;have f3:=idx (xs:=E) (k:=q) hq;rw[qO [.tmp 4] [] func99];simp only[go_sem,sG,k',f1,f2,f3,hb,Y]
def BI(i:Nat):ByteArray:=⟨#[116,(48+i).toUInt8]⟩
def Xr(i:Nat):ByteArray:=⟨#[(48+i).toUInt8]⟩
theorem L6{σ:Store}{i j:Nat}{x:Option BZ}(h:i=j):upd σ j x i=x:=by rw[h,iW]
theorem ac_{body:St->Option (Ex×St)}{st E:St}{y:Option (Ex×St)}{e:Ex}(G:aA body st=y)(h:body st=some (e,E))(J:e≠ .norm):y=some (e,E):=by
 obtain⟨x,rfl,O⟩:=nY G (fun _ s=>s=st) (fun x=>x=(e,E)) (fun m s hs=>by
  subst hs;refine .inr ⟨_,h,fun s hs=>J (by cases hs;rfl),rfl⟩) 0 rfl
 rw[O]
theorem aiS(i:Nat)(h:i<4):fn gu conv ext 97 [I i]=some (Sg (Xr i)):=by
 have hi:i=0\/i=1\/i=2\/i=3:=by omega
 have c1:¬(i:Int)<0:=by omega
 have G:¬9<(i:Int):=by omega
 have w1:=iF (n:=48+(i:Int));have J:IntKind.u8.wrap (48+(i:Int))=48+(i:Int):=by
  rcases hi with rfl|rfl|rfl|rfl<;>decide
 have O:(0:Int)<=48+(i:Int)/\48+(i:Int)<256:=by omega
 have S:UInt8.ofNat (48+(i:Int)).toNat=(48+i).toUInt8:=by
  rcases hi with rfl|rfl|rfl|rfl<;>rfl
 rw[qB,qO [.tmp 2] [] func97];simp only[go_sem,c1];generalize Y:aA _ _=y;have E:=ac_ Y (by simp only[go_sem,G];rfl) (by simp);subst E;have sz:(⟨#[(48+i).toUInt8]⟩:ByteArray).size+(⟨#[]⟩:ByteArray).size<=9223372036854775807:=by show 1+0<=_;omega
 simp only[go_sem,w1,J,O,S,sz];rfl
def Xt(s:Structure):Prop:=∃E G J O S Y k:Int,((-4<=E/\E<= -1)/\(0<=G/\G<=2)/\(3<=J/\J<=6)/\(0<=O/\O<=2)/\(-1<=S/\S<=2)/\(-4<=Y/\Y<= -1)/\(k=1\/k=3)) /\
 (s=⟨[⟨⟨#[97]⟩,E,G,true⟩,⟨⟨#[98]⟩,J,O,true⟩,⟨⟨#[99]⟩,S,Y,false⟩],[⟨0,2,1⟩,⟨1,2,k⟩]⟩ \/
  ∃x4 k3:Int,(-1<=x4/\x4<=3)/\(k3=1\/k3=2\/k3=3)/\s=⟨[⟨⟨#[97]⟩,E,G,true⟩,⟨⟨#[98]⟩,J,O,true⟩,⟨⟨#[99]⟩,S,Y,false⟩,⟨⟨#[100]⟩,x4,-7,true⟩],[⟨0,2,1⟩,⟨1,2,k⟩,⟨3,2,k3⟩]⟩)
theorem alW(xs:List Int)(G:∀x∈xs,0<=x/\x<=255)(J:xs.length<=1048576)(i h:Int)(hi:0<=i/\i<=xs.length) :
  ∃s,Xt s/\∃i' h' dj dm dn,(∀(c nx:Nat) (σ:Store),σ c=some (EI xs i h 0)->c<nx->∃σ',ev gu conv ext 96 [.rp c 0] σ nx=some (.agg [.rs (nx+dj) 0 s.au.length,.rs (nx+dm) 0 s.members.length],σ',nx+dn) /\
   σ' c=some (EI xs i' h' 0)/\σ' (nx+dj)=some ⟨s.au.flatMap aX,4,true⟩/\σ' (nx+dm)=some ⟨s.members.flatMap bg,3,true⟩/\∀q,q<nx->q≠c->σ' q=σ q)/\dj<dn/\dm<dn/\dj≠dm/\0<=i'/\i'<=xs.length:=by
 obtain⟨r1,i1,h1,k1,b1,j1⟩:=kN xs G J i h hi 4 (by decide) (by decide);obtain⟨r2,i2,h2,k2,b2,j2⟩:=kN xs G J i1 h1 j1 3 (by decide) (by decide);obtain⟨r3,i3,h3,k3,b3,j3⟩:=kN xs G J i2 h2 j2 4 (by decide) (by decide);obtain⟨r4,i4,h4,k4,b4,j4⟩:=kN xs G J i3 h3 j3 3 (by decide) (by decide);obtain⟨r5,i5,h5,k5,b5,j5⟩:=kN xs G J i4 h4 j4 4 (by decide) (by decide);obtain⟨r6,i6,h6,k6,b6,j6⟩:=kN xs G J i5 h5 j5 4 (by decide) (by decide);obtain⟨r7,u9,i7,h7,k7,j7⟩:=VP xs G J i6 h6 j6 [1,1,1,3] (by decide) (by decide);obtain⟨r8,i8,h8,k8,j8⟩:=ac9 xs G J i7 h7 j7 2 (by decide) (by decide);obtain⟨r9,i9,h9,k9,b9,j9⟩:=kN xs G J i8 h8 j8 5 (by decide) (by decide);obtain⟨O,v6,u2,u5,v8,w0⟩:=VP xs G J i9 h9 j9 [1,2,3] (by decide) (by decide);obtain⟨S,u6⟩:∃e,e=([1,1,1,3]:List Int)[r7]:=⟨_,rfl⟩;obtain⟨E,u7⟩:∃e,e=([1,2,3]:List Int)[O]:=⟨_,rfl⟩;have v7:S=1\/S=3:=by
  have:r7=0\/r7=1\/r7=2\/r7=3:=by simp at u9;omega
  rcases this with rfl|rfl|rfl|rfl<;>subst u6<;>simp
 have v10:E=1\/E=2\/E=3:=by
  have:O=0\/O=1\/O=2:=by simp at v6;omega
  rcases this with rfl|rfl|rfl<;>subst u7<;>simp
 have q1:=fun(b nx:Nat) (σ:Store)=>k1 b 0 nx σ
 have q2:=fun(b nx:Nat) (σ:Store)=>k2 b 0 nx σ
 have q3:=fun(b nx:Nat) (σ:Store)=>k3 b 0 nx σ
 have q4:=fun(b nx:Nat) (σ:Store)=>k4 b 0 nx σ
 have q5:=fun(b nx:Nat) (σ:Store)=>k5 b 0 nx σ
 have q6:=fun(b nx:Nat) (σ:Store)=>k6 b 0 nx σ
 have q8:=fun(b nx:Nat) (σ:Store)=>k8 b 0 nx σ
 have q9:=fun(b nx:Nat) (σ:Store)=>k9 b 0 nx σ
 have q7:∀(c b nx:Nat) (σ:Store),σ c=some (EI xs i6 h6 0)->σ b=some ⟨[I 1,I 1,I 1,I 3],1,true⟩->c<nx->b<nx->b≠c->ev gu conv ext 99 [.rp c 0,.rs b 0 4] σ nx=some (I S,upd σ c (some (EI xs i7 h7 0)),nx):=by rw[u6];exact k7
 have w2:∀(c b nx:Nat) (σ:Store),σ c=some (EI xs i9 h9 0)->σ b=some ⟨[I 1,I 2,I 3],1,true⟩->c<nx->b<nx->b≠c->ev gu conv ext 99 [.rp c 0,.rs b 0 3] σ nx=some (I E,upd σ c (some (EI xs u2 u5 0)),nx):=by rw[u7];exact v8
 have w1:=iF (n:=-1-r1);have w3:=iF (n:=3+r3);have w5:=iF (n:=r5-1);have w6:=iF (n:=-1-r6);have w9:=iF (n:=r9-1);cases r8 with
 |false=>
  refine⟨⟨[⟨⟨#[97]⟩,-1-r1,r2,true⟩,⟨⟨#[98]⟩,3+r3,r4,true⟩,⟨⟨#[99]⟩,r5-1,-1-r6,false⟩],[⟨0,2,1⟩,⟨1,2,S⟩]⟩,⟨_,_,_,_,_,_,S,⟨by omega,by omega,by omega,by omega,by omega,by omega,v7⟩,.inl rfl⟩,i8,h8,2,4,5,fun c nx σ Y hc=>?_,by decide,by decide,by decide,j8⟩;have n0:¬c=nx:=by omega
  have n1:¬nx=c:=by omega
  have n2:c<nx+1:=by omega
  have n3:(c==nx)=false:=by rw[uZ];omega
  have n4:(nx==c)=false:=by rw[uZ];omega
  have n5:nx<nx+1:=by omega
  have n6:¬nx=nx+1:=by omega
  have n7:(nx==nx+1)=false:=by rw[uZ];omega
  have n8:nx<nx+1+1:=by omega
  have n9:¬nx=nx+1+1:=by omega
  have a1:(nx==nx+1+1)=false:=by rw[uZ];omega
  have a6:nx<nx+1+1+1:=by omega
  have a7:¬nx=nx+1+1+1:=by omega
  have a8:(nx==nx+1+1+1)=false:=by rw[uZ];omega
  have b7:nx<nx+1+1+1+1:=by omega
  have b8:¬nx=nx+1+1+1+1:=by omega
  have c0:(nx==nx+1+1+1+1)=false:=by rw[uZ];omega
  have c2:nx<nx+1+1+1+1+1:=by omega
  have c3:¬c=nx+1:=by omega
  have c4:¬nx+1=c:=by omega
  have c5:c<nx+1+1:=by omega
  have c6:(c==nx+1)=false:=by rw[uZ];omega
  have c7:(nx+1==c)=false:=by rw[uZ];omega
  have c8:¬nx+1=nx:=by omega
  have c9:(nx+1==nx)=false:=by rw[uZ];omega
  have e0:nx+1<nx+1+1:=by omega
  have e1:¬nx+1=nx+1+1:=by omega
  have e2:(nx+1==nx+1+1)=false:=by rw[uZ];omega
  have e3:nx+1<nx+1+1+1:=by omega
  have e4:¬nx+1=nx+1+1+1:=by omega
  have e5:(nx+1==nx+1+1+1)=false:=by rw[uZ];omega
  have e6:nx+1<nx+1+1+1+1:=by omega
  have e8:¬nx+1=nx+1+1+1+1:=by omega
  have e9:(nx+1==nx+1+1+1+1)=false:=by rw[uZ];omega
  have h0:nx+1<nx+1+1+1+1+1:=by omega
  have i0:¬c=nx+1+1:=by omega
  have j0:¬nx+1+1=c:=by omega
  have k0:c<nx+1+1+1:=by omega
  have l1:(c==nx+1+1)=false:=by rw[uZ];omega
  have l2:(nx+1+1==c)=false:=by rw[uZ];omega
  have l3:¬nx+1+1=nx:=by omega
  have l4:(nx+1+1==nx)=false:=by rw[uZ];omega
  have l5:¬nx+1+1=nx+1:=by omega
  have l6:(nx+1+1==nx+1)=false:=by rw[uZ];omega
  have l7:nx+1+1<nx+1+1+1:=by omega
  have l8:¬nx+1+1=nx+1+1+1:=by omega
  have l9:(nx+1+1==nx+1+1+1)=false:=by rw[uZ];omega
  have m1:nx+1+1<nx+1+1+1+1:=by omega
  have m2:¬nx+1+1=nx+1+1+1+1:=by omega
  have m3:(nx+1+1==nx+1+1+1+1)=false:=by rw[uZ];omega
  have m4:nx+1+1<nx+1+1+1+1+1:=by omega
  have m5:¬c=nx+1+1+1:=by omega
  have m6:¬nx+1+1+1=c:=by omega
  have m7:c<nx+1+1+1+1:=by omega
  have m8:(c==nx+1+1+1)=false:=by rw[uZ];omega
  have m9:(nx+1+1+1==c)=false:=by rw[uZ];omega
  have o0:¬nx+1+1+1=nx:=by omega
  have o2:(nx+1+1+1==nx)=false:=by rw[uZ];omega
  have o3:¬nx+1+1+1=nx+1:=by omega
  have o4:(nx+1+1+1==nx+1)=false:=by rw[uZ];omega
  have o5:¬nx+1+1+1=nx+1+1:=by omega
  have o6:(nx+1+1+1==nx+1+1)=false:=by rw[uZ];omega
  have p0:nx+1+1+1<nx+1+1+1+1:=by omega
  have p1:¬nx+1+1+1=nx+1+1+1+1:=by omega
  have p2:(nx+1+1+1==nx+1+1+1+1)=false:=by rw[uZ];omega
  have p3:nx+1+1+1<nx+1+1+1+1+1:=by omega
  have p4:¬c=nx+1+1+1+1:=by omega
  have p5:¬nx+1+1+1+1=c:=by omega
  have p6:c<nx+1+1+1+1+1:=by omega
  have p7:(c==nx+1+1+1+1)=false:=by rw[uZ];omega
  have p8:(nx+1+1+1+1==c)=false:=by rw[uZ];omega
  have p9:¬nx+1+1+1+1=nx:=by omega
  have q0:(nx+1+1+1+1==nx)=false:=by rw[uZ];omega
  have r0:¬nx+1+1+1+1=nx+1:=by omega
  have s1:(nx+1+1+1+1==nx+1)=false:=by rw[uZ];omega
  have s2:¬nx+1+1+1+1=nx+1+1:=by omega
  have s3:(nx+1+1+1+1==nx+1+1)=false:=by rw[uZ];omega
  have s4:¬nx+1+1+1+1=nx+1+1+1:=by omega
  have s5:(nx+1+1+1+1==nx+1+1+1)=false:=by rw[uZ];omega
  have s6:nx+1+1+1+1<nx+1+1+1+1+1:=by omega
  have s7:∀a b c d:V,rep 3 [a,b,c,d]=[a,b,c,d,a,b,c,d,a,b,c,d]:=fun _ _ _ _=>rfl
  have s8:∀a b c:V,rep 2 [a,b,c]=[a,b,c,a,b,c]:=fun _ _ _=>rfl
  have s9:∀a:V,rep 4 [a]=[a,a,a,a]:=fun _=>rfl
  have u0:∀a:V,rep 3 [a]=[a,a,a]:=fun _=>rfl
  have u1:∀z:List V,rep 1 z=z:=fun z=>by simp[rep]
  rw[qO [.cell 2 41] [5,6] func96];simp only[go_sem,s7,s8,s9,u0,u1,sG,q1,q2,q3,q4,q5,q6,q7,q8,Y,w1,w3,w5,w6,n0,n1,n2,n3,n4,n5,n6,n7,n8,n9,a1,a6,a7,a8,b7,b8,c0,c2,c3,c4,c5,c6,c7,c8,c9,e0,e1,e2,e3,e4,e5,e6,e8,e9,h0,i0,j0,k0,l1,l2,l3,l4,l5,l6,l7,l8,l9,m1,m2,m3,m4,m5,m6,m7,m8,m9,o0,o2,o3,o4,o5,o6,p0,p1,p2,p3,p4,p5,p6,p7,p8,p9,q0,r0,s1,s2,s3,s4,s5,s6];refine⟨_,rfl,?_,?_,?_,fun q hq w4=>?_⟩
  all_goals (repeat (first|rw[L6 (by omega)]|rw[iZ]))
  all_goals rfl
 |true=>
  refine⟨⟨[⟨⟨#[97]⟩,-1-r1,r2,true⟩,⟨⟨#[98]⟩,3+r3,r4,true⟩,⟨⟨#[99]⟩,r5-1,-1-r6,false⟩,⟨⟨#[100]⟩,r9-1,-7,true⟩],[⟨0,2,1⟩,⟨1,2,S⟩,⟨3,2,E⟩]⟩,⟨_,_,_,_,_,_,S,⟨by omega,by omega,by omega,by omega,by omega,by omega,v7⟩,.inr ⟨_,E,by omega,v10,rfl⟩⟩,u2,u5,6,9,10,fun c nx σ Y hc=>?_,by decide,by decide,by decide,w0⟩;have n0:¬c=nx:=by omega
  have n1:¬nx=c:=by omega
  have n2:c<nx+1:=by omega
  have n3:(c==nx)=false:=by rw[uZ];omega
  have n4:(nx==c)=false:=by rw[uZ];omega
  have n5:nx<nx+1:=by omega
  have n6:¬nx=nx+1:=by omega
  have n7:(nx==nx+1)=false:=by rw[uZ];omega
  have n8:nx<nx+1+1:=by omega
  have n9:¬nx=nx+1+1:=by omega
  have a1:(nx==nx+1+1)=false:=by rw[uZ];omega
  have a6:nx<nx+1+1+1:=by omega
  have a7:¬nx=nx+1+1+1:=by omega
  have a8:(nx==nx+1+1+1)=false:=by rw[uZ];omega
  have b7:nx<nx+1+1+1+1:=by omega
  have b8:¬nx=nx+1+1+1+1:=by omega
  have c0:(nx==nx+1+1+1+1)=false:=by rw[uZ];omega
  have c2:nx<nx+1+1+1+1+1:=by omega
  have c3:¬nx=nx+1+1+1+1+1:=by omega
  have c4:(nx==nx+1+1+1+1+1)=false:=by rw[uZ];omega
  have c5:nx<nx+1+1+1+1+1+1:=by omega
  have c6:¬nx=nx+1+1+1+1+1+1:=by omega
  have c7:(nx==nx+1+1+1+1+1+1)=false:=by rw[uZ];omega
  have c8:nx<nx+1+1+1+1+1+1+1:=by omega
  have c9:¬nx=nx+1+1+1+1+1+1+1:=by omega
  have e0:(nx==nx+1+1+1+1+1+1+1)=false:=by rw[uZ];omega
  have e1:nx<nx+1+1+1+1+1+1+1+1:=by omega
  have e2:¬nx=nx+1+1+1+1+1+1+1+1:=by omega
  have e3:(nx==nx+1+1+1+1+1+1+1+1)=false:=by rw[uZ];omega
  have e4:nx<nx+1+1+1+1+1+1+1+1+1:=by omega
  have e5:¬nx=nx+1+1+1+1+1+1+1+1+1:=by omega
  have e6:(nx==nx+1+1+1+1+1+1+1+1+1)=false:=by rw[uZ];omega
  have e8:nx<nx+1+1+1+1+1+1+1+1+1+1:=by omega
  have e9:¬c=nx+1:=by omega
  have h0:¬nx+1=c:=by omega
  have i0:c<nx+1+1:=by omega
  have j0:(c==nx+1)=false:=by rw[uZ];omega
  have k0:(nx+1==c)=false:=by rw[uZ];omega
  have l1:¬nx+1=nx:=by omega
  have l2:(nx+1==nx)=false:=by rw[uZ];omega
  have l3:nx+1<nx+1+1:=by omega
  have l4:¬nx+1=nx+1+1:=by omega
  have l5:(nx+1==nx+1+1)=false:=by rw[uZ];omega
  have l6:nx+1<nx+1+1+1:=by omega
  have l7:¬nx+1=nx+1+1+1:=by omega
  have l8:(nx+1==nx+1+1+1)=false:=by rw[uZ];omega
  have l9:nx+1<nx+1+1+1+1:=by omega
  have m1:¬nx+1=nx+1+1+1+1:=by omega
  have m2:(nx+1==nx+1+1+1+1)=false:=by rw[uZ];omega
  have m3:nx+1<nx+1+1+1+1+1:=by omega
  have m4:¬nx+1=nx+1+1+1+1+1:=by omega
  have m5:(nx+1==nx+1+1+1+1+1)=false:=by rw[uZ];omega
  have m6:nx+1<nx+1+1+1+1+1+1:=by omega
  have m7:¬nx+1=nx+1+1+1+1+1+1:=by omega
  have m8:(nx+1==nx+1+1+1+1+1+1)=false:=by rw[uZ];omega
  have m9:nx+1<nx+1+1+1+1+1+1+1:=by omega
  have o0:¬nx+1=nx+1+1+1+1+1+1+1:=by omega
  have o2:(nx+1==nx+1+1+1+1+1+1+1)=false:=by rw[uZ];omega
  have o3:nx+1<nx+1+1+1+1+1+1+1+1:=by omega
  have o4:¬nx+1=nx+1+1+1+1+1+1+1+1:=by omega
  have o5:(nx+1==nx+1+1+1+1+1+1+1+1)=false:=by rw[uZ];omega
  have o6:nx+1<nx+1+1+1+1+1+1+1+1+1:=by omega
  have p0:¬nx+1=nx+1+1+1+1+1+1+1+1+1:=by omega
  have p1:(nx+1==nx+1+1+1+1+1+1+1+1+1)=false:=by rw[uZ];omega
  have p2:nx+1<nx+1+1+1+1+1+1+1+1+1+1:=by omega
  have p3:¬c=nx+1+1:=by omega
  have p4:¬nx+1+1=c:=by omega
  have p5:c<nx+1+1+1:=by omega
  have p6:(c==nx+1+1)=false:=by rw[uZ];omega
  have p7:(nx+1+1==c)=false:=by rw[uZ];omega
  have p8:¬nx+1+1=nx:=by omega
  have p9:(nx+1+1==nx)=false:=by rw[uZ];omega
  have q0:¬nx+1+1=nx+1:=by omega
  have r0:(nx+1+1==nx+1)=false:=by rw[uZ];omega
  have s1:nx+1+1<nx+1+1+1:=by omega
  have s2:¬nx+1+1=nx+1+1+1:=by omega
  have s3:(nx+1+1==nx+1+1+1)=false:=by rw[uZ];omega
  have s4:nx+1+1<nx+1+1+1+1:=by omega
  have s5:¬nx+1+1=nx+1+1+1+1:=by omega
  have s6:(nx+1+1==nx+1+1+1+1)=false:=by rw[uZ];omega
  have w7:nx+1+1<nx+1+1+1+1+1:=by omega
  have w8:¬nx+1+1=nx+1+1+1+1+1:=by omega
  have x0:(nx+1+1==nx+1+1+1+1+1)=false:=by rw[uZ];omega
  have x1:nx+1+1<nx+1+1+1+1+1+1:=by omega
  have x2:¬nx+1+1=nx+1+1+1+1+1+1:=by omega
  have x3:(nx+1+1==nx+1+1+1+1+1+1)=false:=by rw[uZ];omega
  have x4:nx+1+1<nx+1+1+1+1+1+1+1:=by omega
  have x5:¬nx+1+1=nx+1+1+1+1+1+1+1:=by omega
  have x6:(nx+1+1==nx+1+1+1+1+1+1+1)=false:=by rw[uZ];omega
  have x7:nx+1+1<nx+1+1+1+1+1+1+1+1:=by omega
  have x8:¬nx+1+1=nx+1+1+1+1+1+1+1+1:=by omega
  have x9:(nx+1+1==nx+1+1+1+1+1+1+1+1)=false:=by rw[uZ];omega
  have y0:nx+1+1<nx+1+1+1+1+1+1+1+1+1:=by omega
  have y1:¬nx+1+1=nx+1+1+1+1+1+1+1+1+1:=by omega
  have y2:(nx+1+1==nx+1+1+1+1+1+1+1+1+1)=false:=by rw[uZ];omega
  have y3:nx+1+1<nx+1+1+1+1+1+1+1+1+1+1:=by omega
  have y4:¬c=nx+1+1+1:=by omega
  have y5:¬nx+1+1+1=c:=by omega
  have y6:c<nx+1+1+1+1:=by omega
  have n99:(c==nx+1+1+1)=false:=by rw[uZ];omega
  have n100:(nx+1+1+1==c)=false:=by rw[uZ];omega
  have n101:¬nx+1+1+1=nx:=by omega
  have n102:(nx+1+1+1==nx)=false:=by rw[uZ];omega
  have n103:¬nx+1+1+1=nx+1:=by omega
  have n104:(nx+1+1+1==nx+1)=false:=by rw[uZ];omega
  have n105:¬nx+1+1+1=nx+1+1:=by omega
  have n106:(nx+1+1+1==nx+1+1)=false:=by rw[uZ];omega
  have n107:nx+1+1+1<nx+1+1+1+1:=by omega
  have n108:¬nx+1+1+1=nx+1+1+1+1:=by omega
  have n109:(nx+1+1+1==nx+1+1+1+1)=false:=by rw[uZ];omega
  have n110:nx+1+1+1<nx+1+1+1+1+1:=by omega
  have n111:¬nx+1+1+1=nx+1+1+1+1+1:=by omega
  have n112:(nx+1+1+1==nx+1+1+1+1+1)=false:=by rw[uZ];omega
  have n113:nx+1+1+1<nx+1+1+1+1+1+1:=by omega
  have n114:¬nx+1+1+1=nx+1+1+1+1+1+1:=by omega
  have n115:(nx+1+1+1==nx+1+1+1+1+1+1)=false:=by rw[uZ];omega
  have n116:nx+1+1+1<nx+1+1+1+1+1+1+1:=by omega
  have n117:¬nx+1+1+1=nx+1+1+1+1+1+1+1:=by omega
  have n118:(nx+1+1+1==nx+1+1+1+1+1+1+1)=false:=by rw[uZ];omega
  have n119:nx+1+1+1<nx+1+1+1+1+1+1+1+1:=by omega
  have n120:¬nx+1+1+1=nx+1+1+1+1+1+1+1+1:=by omega
  have n121:(nx+1+1+1==nx+1+1+1+1+1+1+1+1)=false:=by rw[uZ];omega
  have n122:nx+1+1+1<nx+1+1+1+1+1+1+1+1+1:=by omega
  have n123:¬nx+1+1+1=nx+1+1+1+1+1+1+1+1+1:=by omega
  have n124:(nx+1+1+1==nx+1+1+1+1+1+1+1+1+1)=false:=by rw[uZ];omega
  have n125:nx+1+1+1<nx+1+1+1+1+1+1+1+1+1+1:=by omega
  have n126:¬c=nx+1+1+1+1:=by omega
  have n127:¬nx+1+1+1+1=c:=by omega
  have n128:c<nx+1+1+1+1+1:=by omega
  have n129:(c==nx+1+1+1+1)=false:=by rw[uZ];omega
  have n130:(nx+1+1+1+1==c)=false:=by rw[uZ];omega
  have n131:¬nx+1+1+1+1=nx:=by omega
  have n132:(nx+1+1+1+1==nx)=false:=by rw[uZ];omega
  have n133:¬nx+1+1+1+1=nx+1:=by omega
  have n134:(nx+1+1+1+1==nx+1)=false:=by rw[uZ];omega
  have n135:¬nx+1+1+1+1=nx+1+1:=by omega
  have n136:(nx+1+1+1+1==nx+1+1)=false:=by rw[uZ];omega
  have n137:¬nx+1+1+1+1=nx+1+1+1:=by omega
  have n138:(nx+1+1+1+1==nx+1+1+1)=false:=by rw[uZ];omega
  have n139:nx+1+1+1+1<nx+1+1+1+1+1:=by omega
  have n140:¬nx+1+1+1+1=nx+1+1+1+1+1:=by omega
  have n141:(nx+1+1+1+1==nx+1+1+1+1+1)=false:=by rw[uZ];omega
  have n142:nx+1+1+1+1<nx+1+1+1+1+1+1:=by omega
  have n143:¬nx+1+1+1+1=nx+1+1+1+1+1+1:=by omega
  have n144:(nx+1+1+1+1==nx+1+1+1+1+1+1)=false:=by rw[uZ];omega
  have n145:nx+1+1+1+1<nx+1+1+1+1+1+1+1:=by omega
  have n146:¬nx+1+1+1+1=nx+1+1+1+1+1+1+1:=by omega
  have n147:(nx+1+1+1+1==nx+1+1+1+1+1+1+1)=false:=by rw[uZ];omega
  have n148:nx+1+1+1+1<nx+1+1+1+1+1+1+1+1:=by omega
  have n149:¬nx+1+1+1+1=nx+1+1+1+1+1+1+1+1:=by omega
  have n150:(nx+1+1+1+1==nx+1+1+1+1+1+1+1+1)=false:=by rw[uZ];omega
  have n151:nx+1+1+1+1<nx+1+1+1+1+1+1+1+1+1:=by omega
  have n152:¬nx+1+1+1+1=nx+1+1+1+1+1+1+1+1+1:=by omega
  have n153:(nx+1+1+1+1==nx+1+1+1+1+1+1+1+1+1)=false:=by rw[uZ];omega
  have n154:nx+1+1+1+1<nx+1+1+1+1+1+1+1+1+1+1:=by omega
  have n155:¬c=nx+1+1+1+1+1:=by omega
  have n156:¬nx+1+1+1+1+1=c:=by omega
  have n157:c<nx+1+1+1+1+1+1:=by omega
  have n158:(c==nx+1+1+1+1+1)=false:=by rw[uZ];omega
  have n159:(nx+1+1+1+1+1==c)=false:=by rw[uZ];omega
  have n160:¬nx+1+1+1+1+1=nx:=by omega
  have n161:(nx+1+1+1+1+1==nx)=false:=by rw[uZ];omega
  have n162:¬nx+1+1+1+1+1=nx+1:=by omega
  have n163:(nx+1+1+1+1+1==nx+1)=false:=by rw[uZ];omega
  have n164:¬nx+1+1+1+1+1=nx+1+1:=by omega
  have n165:(nx+1+1+1+1+1==nx+1+1)=false:=by rw[uZ];omega
  have n166:¬nx+1+1+1+1+1=nx+1+1+1:=by omega
  have n167:(nx+1+1+1+1+1==nx+1+1+1)=false:=by rw[uZ];omega
  have n168:¬nx+1+1+1+1+1=nx+1+1+1+1:=by omega
  have n169:(nx+1+1+1+1+1==nx+1+1+1+1)=false:=by rw[uZ];omega
  have n170:nx+1+1+1+1+1<nx+1+1+1+1+1+1:=by omega
  have n171:¬nx+1+1+1+1+1=nx+1+1+1+1+1+1:=by omega
  have n172:(nx+1+1+1+1+1==nx+1+1+1+1+1+1)=false:=by rw[uZ];omega
  have n173:nx+1+1+1+1+1<nx+1+1+1+1+1+1+1:=by omega
  have n174:¬nx+1+1+1+1+1=nx+1+1+1+1+1+1+1:=by omega
  have n175:(nx+1+1+1+1+1==nx+1+1+1+1+1+1+1)=false:=by rw[uZ];omega
  have n176:nx+1+1+1+1+1<nx+1+1+1+1+1+1+1+1:=by omega
  have n177:¬nx+1+1+1+1+1=nx+1+1+1+1+1+1+1+1:=by omega
  have n178:(nx+1+1+1+1+1==nx+1+1+1+1+1+1+1+1)=false:=by rw[uZ];omega
  have n179:nx+1+1+1+1+1<nx+1+1+1+1+1+1+1+1+1:=by omega
  have n180:¬nx+1+1+1+1+1=nx+1+1+1+1+1+1+1+1+1:=by omega
  have n181:(nx+1+1+1+1+1==nx+1+1+1+1+1+1+1+1+1)=false:=by rw[uZ];omega
  have n182:nx+1+1+1+1+1<nx+1+1+1+1+1+1+1+1+1+1:=by omega
  have n183:¬c=nx+1+1+1+1+1+1:=by omega
  have n184:¬nx+1+1+1+1+1+1=c:=by omega
  have n185:c<nx+1+1+1+1+1+1+1:=by omega
  have n186:(c==nx+1+1+1+1+1+1)=false:=by rw[uZ];omega
  have n187:(nx+1+1+1+1+1+1==c)=false:=by rw[uZ];omega
  have n188:¬nx+1+1+1+1+1+1=nx:=by omega
  have n189:(nx+1+1+1+1+1+1==nx)=false:=by rw[uZ];omega
  have n190:¬nx+1+1+1+1+1+1=nx+1:=by omega
  have n191:(nx+1+1+1+1+1+1==nx+1)=false:=by rw[uZ];omega
  have n192:¬nx+1+1+1+1+1+1=nx+1+1:=by omega
  have n193:(nx+1+1+1+1+1+1==nx+1+1)=false:=by rw[uZ];omega
  have n194:¬nx+1+1+1+1+1+1=nx+1+1+1:=by omega
  have n195:(nx+1+1+1+1+1+1==nx+1+1+1)=false:=by rw[uZ];omega
  have n196:¬nx+1+1+1+1+1+1=nx+1+1+1+1:=by omega
  have n197:(nx+1+1+1+1+1+1==nx+1+1+1+1)=false:=by rw[uZ];omega
  have n198:¬nx+1+1+1+1+1+1=nx+1+1+1+1+1:=by omega
  have n199:(nx+1+1+1+1+1+1==nx+1+1+1+1+1)=false:=by rw[uZ];omega
  have n200:nx+1+1+1+1+1+1<nx+1+1+1+1+1+1+1:=by omega
  have n201:¬nx+1+1+1+1+1+1=nx+1+1+1+1+1+1+1:=by omega
  have n202:(nx+1+1+1+1+1+1==nx+1+1+1+1+1+1+1)=false:=by rw[uZ];omega
  have n203:nx+1+1+1+1+1+1<nx+1+1+1+1+1+1+1+1:=by omega
  have n204:¬nx+1+1+1+1+1+1=nx+1+1+1+1+1+1+1+1:=by omega
  have n205:(nx+1+1+1+1+1+1==nx+1+1+1+1+1+1+1+1)=false:=by rw[uZ];omega
  have n206:nx+1+1+1+1+1+1<nx+1+1+1+1+1+1+1+1+1:=by omega
  have n207:¬nx+1+1+1+1+1+1=nx+1+1+1+1+1+1+1+1+1:=by omega
  have n208:(nx+1+1+1+1+1+1==nx+1+1+1+1+1+1+1+1+1)=false:=by rw[uZ];omega
  have n209:nx+1+1+1+1+1+1<nx+1+1+1+1+1+1+1+1+1+1:=by omega
  have n210:¬c=nx+1+1+1+1+1+1+1:=by omega
  have n211:¬nx+1+1+1+1+1+1+1=c:=by omega
  have n212:c<nx+1+1+1+1+1+1+1+1:=by omega
  have n213:(c==nx+1+1+1+1+1+1+1)=false:=by rw[uZ];omega
  have n214:(nx+1+1+1+1+1+1+1==c)=false:=by rw[uZ];omega
  have n215:¬nx+1+1+1+1+1+1+1=nx:=by omega
  have n216:(nx+1+1+1+1+1+1+1==nx)=false:=by rw[uZ];omega
  have n217:¬nx+1+1+1+1+1+1+1=nx+1:=by omega
  have n218:(nx+1+1+1+1+1+1+1==nx+1)=false:=by rw[uZ];omega
  have n219:¬nx+1+1+1+1+1+1+1=nx+1+1:=by omega
  have n220:(nx+1+1+1+1+1+1+1==nx+1+1)=false:=by rw[uZ];omega
  have n221:¬nx+1+1+1+1+1+1+1=nx+1+1+1:=by omega
  have n222:(nx+1+1+1+1+1+1+1==nx+1+1+1)=false:=by rw[uZ];omega
  have n223:¬nx+1+1+1+1+1+1+1=nx+1+1+1+1:=by omega
  have n224:(nx+1+1+1+1+1+1+1==nx+1+1+1+1)=false:=by rw[uZ];omega
  have n225:¬nx+1+1+1+1+1+1+1=nx+1+1+1+1+1:=by omega
  have n226:(nx+1+1+1+1+1+1+1==nx+1+1+1+1+1)=false:=by rw[uZ];omega
  have n227:¬nx+1+1+1+1+1+1+1=nx+1+1+1+1+1+1:=by omega
  have n228:(nx+1+1+1+1+1+1+1==nx+1+1+1+1+1+1)=false:=by rw[uZ];omega
  have n229:nx+1+1+1+1+1+1+1<nx+1+1+1+1+1+1+1+1:=by omega
  have n230:¬nx+1+1+1+1+1+1+1=nx+1+1+1+1+1+1+1+1:=by omega
  have n231:(nx+1+1+1+1+1+1+1==nx+1+1+1+1+1+1+1+1)=false:=by rw[uZ];omega
  have n232:nx+1+1+1+1+1+1+1<nx+1+1+1+1+1+1+1+1+1:=by omega
  have n233:¬nx+1+1+1+1+1+1+1=nx+1+1+1+1+1+1+1+1+1:=by omega
  have n234:(nx+1+1+1+1+1+1+1==nx+1+1+1+1+1+1+1+1+1)=false:=by rw[uZ];omega
  have n235:nx+1+1+1+1+1+1+1<nx+1+1+1+1+1+1+1+1+1+1:=by omega
  have n236:¬c=nx+1+1+1+1+1+1+1+1:=by omega
  have n237:¬nx+1+1+1+1+1+1+1+1=c:=by omega
  have n238:c<nx+1+1+1+1+1+1+1+1+1:=by omega
  have n239:(c==nx+1+1+1+1+1+1+1+1)=false:=by rw[uZ];omega
  have n240:(nx+1+1+1+1+1+1+1+1==c)=false:=by rw[uZ];omega
  have n241:¬nx+1+1+1+1+1+1+1+1=nx:=by omega
  have n242:(nx+1+1+1+1+1+1+1+1==nx)=false:=by rw[uZ];omega
  have n243:¬nx+1+1+1+1+1+1+1+1=nx+1:=by omega
  have n244:(nx+1+1+1+1+1+1+1+1==nx+1)=false:=by rw[uZ];omega
  have n245:¬nx+1+1+1+1+1+1+1+1=nx+1+1:=by omega
  have n246:(nx+1+1+1+1+1+1+1+1==nx+1+1)=false:=by rw[uZ];omega
  have n247:¬nx+1+1+1+1+1+1+1+1=nx+1+1+1:=by omega
  have n248:(nx+1+1+1+1+1+1+1+1==nx+1+1+1)=false:=by rw[uZ];omega
  have n249:¬nx+1+1+1+1+1+1+1+1=nx+1+1+1+1:=by omega
  have n250:(nx+1+1+1+1+1+1+1+1==nx+1+1+1+1)=false:=by rw[uZ];omega
  have n251:¬nx+1+1+1+1+1+1+1+1=nx+1+1+1+1+1:=by omega
  have n252:(nx+1+1+1+1+1+1+1+1==nx+1+1+1+1+1)=false:=by rw[uZ];omega
  have n253:¬nx+1+1+1+1+1+1+1+1=nx+1+1+1+1+1+1:=by omega
  have n254:(nx+1+1+1+1+1+1+1+1==nx+1+1+1+1+1+1)=false:=by rw[uZ];omega
  have n255:¬nx+1+1+1+1+1+1+1+1=nx+1+1+1+1+1+1+1:=by omega
  have n256:(nx+1+1+1+1+1+1+1+1==nx+1+1+1+1+1+1+1)=false:=by rw[uZ];omega
  have n257:nx+1+1+1+1+1+1+1+1<nx+1+1+1+1+1+1+1+1+1:=by omega
  have n258:¬nx+1+1+1+1+1+1+1+1=nx+1+1+1+1+1+1+1+1+1:=by omega
  have n259:(nx+1+1+1+1+1+1+1+1==nx+1+1+1+1+1+1+1+1+1)=false:=by rw[uZ];omega
  have n260:nx+1+1+1+1+1+1+1+1<nx+1+1+1+1+1+1+1+1+1+1:=by omega
  have n261:¬c=nx+1+1+1+1+1+1+1+1+1:=by omega
  have n262:¬nx+1+1+1+1+1+1+1+1+1=c:=by omega
  have n263:c<nx+1+1+1+1+1+1+1+1+1+1:=by omega
  have n264:(c==nx+1+1+1+1+1+1+1+1+1)=false:=by rw[uZ];omega
  have n265:(nx+1+1+1+1+1+1+1+1+1==c)=false:=by rw[uZ];omega
  have n266:¬nx+1+1+1+1+1+1+1+1+1=nx:=by omega
  have n267:(nx+1+1+1+1+1+1+1+1+1==nx)=false:=by rw[uZ];omega
  have n268:¬nx+1+1+1+1+1+1+1+1+1=nx+1:=by omega
  have n269:(nx+1+1+1+1+1+1+1+1+1==nx+1)=false:=by rw[uZ];omega
  have n270:¬nx+1+1+1+1+1+1+1+1+1=nx+1+1:=by omega
  have n271:(nx+1+1+1+1+1+1+1+1+1==nx+1+1)=false:=by rw[uZ];omega
  have n272:¬nx+1+1+1+1+1+1+1+1+1=nx+1+1+1:=by omega
  have n273:(nx+1+1+1+1+1+1+1+1+1==nx+1+1+1)=false:=by rw[uZ];omega
  have n274:¬nx+1+1+1+1+1+1+1+1+1=nx+1+1+1+1:=by omega
  have n275:(nx+1+1+1+1+1+1+1+1+1==nx+1+1+1+1)=false:=by rw[uZ];omega
  have n276:¬nx+1+1+1+1+1+1+1+1+1=nx+1+1+1+1+1:=by omega
  have n277:(nx+1+1+1+1+1+1+1+1+1==nx+1+1+1+1+1)=false:=by rw[uZ];omega
  have n278:¬nx+1+1+1+1+1+1+1+1+1=nx+1+1+1+1+1+1:=by omega
  have n279:(nx+1+1+1+1+1+1+1+1+1==nx+1+1+1+1+1+1)=false:=by rw[uZ];omega
  have n280:¬nx+1+1+1+1+1+1+1+1+1=nx+1+1+1+1+1+1+1:=by omega
  have n281:(nx+1+1+1+1+1+1+1+1+1==nx+1+1+1+1+1+1+1)=false:=by rw[uZ];omega
  have n282:¬nx+1+1+1+1+1+1+1+1+1=nx+1+1+1+1+1+1+1+1:=by omega
  have n283:(nx+1+1+1+1+1+1+1+1+1==nx+1+1+1+1+1+1+1+1)=false:=by rw[uZ];omega
  have n284:nx+1+1+1+1+1+1+1+1+1<nx+1+1+1+1+1+1+1+1+1+1:=by omega
  have s7:∀a b c d:V,rep 3 [a,b,c,d]=[a,b,c,d,a,b,c,d,a,b,c,d]:=fun _ _ _ _=>rfl
  have s8:∀a b c:V,rep 2 [a,b,c]=[a,b,c,a,b,c]:=fun _ _ _=>rfl
  have s9:∀a:V,rep 4 [a]=[a,a,a,a]:=fun _=>rfl
  have u0:∀a:V,rep 3 [a]=[a,a,a]:=fun _=>rfl
  have u1:∀z:List V,rep 1 z=z:=fun z=>by simp[rep]
  rw[qO [.cell 2 41] [5,6] func96];have y7:3<=maxLen:=by decide
  have y8:4<=maxLen:=by decide
  simp only[go_sem,y7,y8,s7,s8,s9,u0,u1,sG,q1,q2,q3,q4,q5,q6,q7,q8,q9,w2,Y,w1,w3,w5,w6,w9,n0,n1,n2,n3,n4,n5,n6,n7,n8,n9,a1,a6,a7,a8,b7,b8,c0,c2,c3,c4,c5,c6,c7,c8,c9,e0,e1,e2,e3,e4,e5,e6,e8,e9,h0,i0,j0,k0,l1,l2,l3,l4,l5,l6,l7,l8,l9,m1,m2,m3,m4,m5,m6,m7,m8,m9,o0,o2,o3,o4,o5,o6,p0,p1,p2,p3,p4,p5,p6,p7,p8,p9,q0,r0,s1,s2,s3,s4,s5,s6,w7,w8,x0,x1,x2,x3,x4,x5,x6,x7,x8,x9,y0,y1,y2,y3,y4,y5,y6,n99,n100,n101,n102,n103,n104,n105,n106,n107,n108,n109,n110,n111,n112,n113,n114,n115,n116,n117,n118,n119,n120,n121,n122,n123,n124,n125,n126,n127,n128,n129,n130,n131,n132,n133,n134,n135,n136,n137,n138,n139,n140,n141,n142,n143,n144,n145,n146,n147,n148,n149,n150,n151,n152,n153,n154,n155,n156,n157,n158,n159,n160,n161,n162,n163,n164,n165,n166,n167,n168,n169,n170,n171,n172,n173,n174,n175,n176,n177,n178,n179,n180,n181,n182,n183,n184,n185,n186,n187,n188,n189,n190,n191,n192,n193,n194,n195,n196,n197,n198,n199,n200,n201,n202,n203,n204,n205,n206,n207,n208,n209,n210,n211,n212,n213,n214,n215,n216,n217,n218,n219,n220,n221,n222,n223,n224,n225,n226,n227,n228,n229,n230,n231,n232,n233,n234,n235,n236,n237,n238,n239,n240,n241,n242,n243,n244,n245,n246,n247,n248,n249,n250,n251,n252,n253,n254,n255,n256,n257,n258,n259,n260,n261,n262,n263,n264,n265,n266,n267,n268,n269,n270,n271,n272,n273,n274,n275,n276,n277,n278,n279,n280,n281,n282,n283,n284];refine⟨_,rfl,?_,?_,?_,fun q hq w4=>?_⟩
  all_goals (repeat (first|rw[L6 (by omega)]|rw[iZ]))
  all_goals rfl
theorem name1(u:UInt8)(h:lI u=true):AP ⟨#[u]⟩:=by
 refine⟨fun k b hb=>?_,zu 1,by show 1<=8;omega⟩;have J:=NH hb;have E:k=0:=by
  have:(⟨#[u]⟩:ByteArray).size=1:=rfl;omega
 subst E;have:b=u:=by
  have G:(⟨#[u]⟩:ByteArray)[0]?=some u:=rfl;rw[G]at hb;cases hb;rfl
 subst this;exact .inl h
theorem name2(u v:UInt8)(h:lI u=true)(J:Dj v=true):AP ⟨#[u,v]⟩:=by
 refine⟨fun k b hb=>?_,by show 1<=2;omega,by show 2<=8;omega⟩;have O:=NH hb;have:(⟨#[u,v]⟩:ByteArray).size=2:=rfl;have E:k=0\/k=1:=by omega
 rcases E with rfl|rfl
 .have G:(⟨#[u,v]⟩:ByteArray)[0]?=some u:=rfl
  rw[G]at hb;cases hb;exact .inl h
 .have G:(⟨#[u,v]⟩:ByteArray)[1]?=some v:=rfl
  rw[G]at hb;cases hb;exact .inr ⟨by decide,J⟩
theorem alY(u v:UInt8):((⟨#[u]⟩:ByteArray).toList==(⟨#[v]⟩:ByteArray).toList)=(u==v):=by
 have h:∀w:UInt8,(⟨#[w]⟩:ByteArray).toList=[w]:=fun w=>by
  unfold ByteArray.toList ByteArray.toList.loop ByteArray.toList.loop;rfl
 rw[h,h];show((u==v) && true)=_;rw[Bool.and_true]
theorem Hw{n a b:Int}(h:a<=n/\n<=b):inB n a b=true:=by unfold inB;rw[uY h.1,uY h.2];rfl
theorem oD(u:UInt8)(h:lI u=true){x y:Int}{f:Bool}(E:-50<=x/\x<=50)(G:-50<=y/\y<=50):BO ⟨⟨#[u]⟩,x,y,f⟩=true:=by
 unfold BO;rw[mJ (name1 u h),Hw E,Hw G];rfl
theorem Ju{js:List fM}{m:Member}(E:f_ js.length m)(hp:∀a b,js[m.a.toNat]?=some a->js[m.b.toNat]?=some b->IK a b=true):QL js m=true:=mJ ⟨E,hp⟩
theorem RV{js:List fM}(G:∀i j (hi:i<js.length) (O:j<js.length),i<j->fZ js[j].name js[i]=false)(i:Nat)(hi:i<js.length):ix (fZ js[i].name) js=i :=
 DW hi (fun J E h=>G J i E hi h) (by simp[fZ])
theorem Et(u v:UInt8)(h:(u==v)=false):((⟨#[u]⟩:ByteArray).toList==(⟨#[v]⟩:ByteArray).toList)=false:=(alY u v).trans h
theorem af7{s:Structure}(h:Xt s):dZ s/\bJ s:=by
 have J:∀u:UInt8,okS ⟨#[u]⟩:=fun u=>by unfold okS;show 1<=_;omega
 have E:∀n:Int,-100<=n/\n<=100->okI n:=fun n h=>DU.mpr (by omega)
 have O:lI 97=true:=by decide
 have S:lI 98=true:=by decide
 have Y:lI 99=true:=by decide
 have a1:lI 100=true:=by decide
 have mx:4<=maxLen:=by decide
 have pr:∀ {n1 n2:ByteArray} {x y x' y':Int} {f:Bool},y≠y'->IK ⟨n1,x,y,f⟩ ⟨n2,x',y',false⟩=true:=fun {n1 n2 x y x' y' f} h=>by
  unfold IK;have:(y==y')=false:=by simpa using h
  simp[this]
 obtain⟨x1,y1,x2,y2,x3,y3,k,⟨b1,b2,b3,b4,b5,b6,hk⟩,rfl|⟨x4,k3,b7,a7,rfl⟩⟩:=h
 .refine⟨⟨by simp,by simp,fun i hi=>⟨?_,RV (fun i j hi G a6=>?_) i hi⟩,fun m hm=>?_⟩,⟨fun j G=>?_,by simp,by simp only[zi,yw];omega⟩,⟨fun m hm=>?_,by simp,by simp only[zi,yw];omega⟩⟩
  .have:i=0\/i=1\/i=2:=by simp only[zi,yw]at hi;omega
   rcases this with rfl|rfl|rfl
   .exact oD _ O (by omega) (by omega)
   .exact oD _ S (by omega) (by omega)
   .exact oD _ Y (by omega) (by omega)
  .have:(i=0/\j=1)\/(i=0/\j=2)\/(i=1/\j=2):=by simp only[zi,yw]at hi G;omega
   rcases this with ⟨rfl,rfl⟩|⟨rfl,rfl⟩|⟨rfl,rfl⟩
   .exact Et 97 98 rfl
   .exact Et 97 99 rfl
   .exact Et 98 99 rfl
  .simp only[zQ,zG,or_false]at hm
   rcases hm with rfl|rfl
   .exact Ju (by unfold f_;simp only[zi,yw];omega) fun a b ha hb=>by
     cases ha;cases hb;exact pr (by omega)
   .exact Ju (by unfold f_;simp only[zi,yw];omega) fun a b ha hb=>by
     cases ha;cases hb;exact pr (by omega)
  .simp only[zQ,zG,or_false]at G
   rcases G with rfl|rfl|rfl<;>exact⟨J _,E _ (by simp only;omega),E _ (by simp only;omega),trivial⟩
  .simp only[zQ,zG,or_false]at hm
   rcases hm with rfl|rfl<;>exact⟨E _ (by simp only;omega),E _ (by simp only;omega),E _ (by simp only;omega)⟩
 .refine⟨⟨by simp,by simp,fun i hi=>⟨?_,RV (fun i j hi G a6=>?_) i hi⟩,fun m hm=>?_⟩,⟨fun j G=>?_,by simp,by simp only[zi,yw];omega⟩,⟨fun m hm=>?_,by simp,by simp only[zi,yw];omega⟩⟩
  .have:i=0\/i=1\/i=2\/i=3:=by simp only[zi,yw]at hi;omega
   rcases this with rfl|rfl|rfl|rfl
   .exact oD _ O (by omega) (by omega)
   .exact oD _ S (by omega) (by omega)
   .exact oD _ Y (by omega) (by omega)
   .exact oD _ a1 (by omega) (by omega)
  .have:(i=0/\j=1)\/(i=0/\j=2)\/(i=1/\j=2)\/(i=0/\j=3)\/(i=1/\j=3)\/(i=2/\j=3):=by simp only[zi,yw]at hi G;omega
   rcases this with ⟨rfl,rfl⟩|⟨rfl,rfl⟩|⟨rfl,rfl⟩|⟨rfl,rfl⟩|⟨rfl,rfl⟩|⟨rfl,rfl⟩
   .exact Et 97 98 rfl
   .exact Et 97 99 rfl
   .exact Et 98 99 rfl
   .exact Et 97 100 rfl
   .exact Et 98 100 rfl
   .exact Et 99 100 rfl
  .simp only[zQ,zG,or_false]at hm
   rcases hm with rfl|rfl|rfl
   .exact Ju (by unfold f_;simp only[zi,yw];omega) fun a b ha hb=>by
     cases ha;cases hb;exact pr (by omega)
   .exact Ju (by unfold f_;simp only[zi,yw];omega) fun a b ha hb=>by
     cases ha;cases hb;exact pr (by omega)
   .exact Ju (by unfold f_;simp only[zi,yw];omega) fun a b ha hb=>by
     cases ha;cases hb;exact pr (by omega)
  .simp only[zQ,zG,or_false]at G
   rcases G with rfl|rfl|rfl|rfl<;>exact⟨J _,E _ (by simp only;omega),E _ (by simp only;omega),trivial⟩
  .simp only[zQ,zG,or_false]at hm
   rcases hm with rfl|rfl|rfl<;>exact⟨E _ (by simp only;omega),E _ (by simp only;omega),E _ (by simp only;omega)⟩
def dJ(σ:Store)(c:Nat)(xs:List Int):Prop:=∃i h,σ c=some (EI xs i h 0)/\0<=i/\i<=xs.length
theorem dJ.upd{σ:Store}{c b:Nat}{xs:List Int}{x:Option BZ}(h:dJ σ c xs)(hb:c≠b):dJ (upd σ b x) c xs:=by
 obtain⟨i,g,E,G⟩:=h;exact⟨i,g,by rw[iY _ _ hb];exact E,G⟩
theorem OE{xs:List Int}(E:∀x∈xs,0<=x/\x<=255)(G:xs.length<=1048576){σ:Store}{c nx:Nat}(hc:dJ σ c xs)(hn:c<nx)(n:Int)(J:1<=n)(O:n<=256) :
  ∃r x,ev gu conv ext 59 [.rp c 0,I n] σ nx=some (I r,upd σ c x,nx)/\(0<=r/\r<n)/\dJ (upd σ c x) c xs:=by
 obtain⟨i,h,S,Y⟩:=hc;obtain⟨r,i',h',k,b,j⟩:=kN xs E G i h Y n J O;exact⟨r,_,k c 0 nx σ S hn,b,i',h',iW _ _ _,j⟩
theorem VQ{xs:List Int}(E:∀x∈xs,0<=x/\x<=255)(G:xs.length<=1048576){σ:Store}{c nx:Nat}(hc:dJ σ c xs)(hn:c<nx)(n:Int)(J:1<=n)(O:n<=256) :
  ∃r x,ev gu conv ext 58 [.rp c 0,I n] σ nx=some (Bo r,upd σ c x,nx)/\dJ (upd σ c x) c xs:=by
 obtain⟨i,h,S,Y⟩:=hc;obtain⟨r,i',h',k,j⟩:=ac9 xs E G i h Y n J O;exact⟨r,_,k c 0 nx σ S hn,i',h',iW _ _ _,j⟩
theorem aiT{xs:List Int}(S:∀x∈xs,0<=x/\x<=255)(Y:xs.length<=1048576){σ:Store}{c b nx:Nat}(hc:dJ σ c xs)(hn:c<nx)(E:List Int)(h1:1<=E.length)(h2:E.length<=256)(hb:σ b=some ⟨E.flatMap cI,1,true⟩)(G:b<nx)(J:b≠c) :
  ∃r,∃O:r<E.length,∃x,ev gu conv ext 99 [.rp c 0,.rs b 0 E.length] σ nx=some (I E[r],upd σ c x,nx)/\dJ (upd σ c x) c xs:=by
 obtain⟨i,h,k1,k2⟩:=hc;obtain⟨r,O,i',h',k,j⟩:=VP xs S Y i h k2 E h1 h2;exact⟨r,O,_,k c b nx σ k1 hb hn G J,i',h',iW _ _ _,j⟩
theorem VT(xs:List Int)(k:Nat)(v:Int):(xs.flatMap cI).set k (I v)=(xs.set k v).flatMap cI:=by
 induction xs generalizing k with
 |nil=>rfl
 |cons x xs E=>
  cases k with
  |zero=>rfl
  |succ k=>show I x :: (xs.flatMap cI).set k (I v)=_;rw[E];rfl
theorem RX(n:Nat):rep n [V.sc (.int .i64 0)]=(List.replicate n (0:Int)).flatMap cI:=by
 induction n with
 |zero=>rfl
 |succ n E=>rw[lF,E,yL];rfl
def Bd(L:List Int):Prop:=∀x∈L,-100<=x/\x<=100
theorem Bd.set{L:List Int}(h:Bd L){k:Nat}{v:Int}(G:-100<=v/\v<=100):Bd (L.set k v):=fun x E=>by
 rcases vO E with E|rfl
 .exact h x E
 .exact G
theorem alZ{xs:List Int}(hx:∀x∈xs,0<=x/\x<=255)(hl:xs.length<=1048576){js:List fM}(b4:1<=js.length)(b5:js.length<=4){σ:Store}{c nx jb:Nat}{w:V}{wr:Bool}(hc:dJ σ c xs)(c6:c<nx)(hj:σ jb=some ⟨js.flatMap aX,4,wr⟩)(b6:jb<nx)(b7:jb≠c)(hw:aJ w=true) :
  ∃L lb σ' nx',ev gu conv ext 98 [.rp c 0,.agg [.rs jb 0 js.length,w]] σ nx=some (.rs lb 0 (2*js.length),σ',nx')/\L.length=2*js.length/\Bd L/\σ' lb=some ⟨L.flatMap cI,1,true⟩/\nx<=lb/\lb<nx'/\dJ σ' c xs/\∀q,q<nx->q≠c->σ' q=σ q:=by
 obtain⟨n,en⟩:∃n,n=js.length:=⟨_,rfl⟩;have e1:(2*(n:Int)).toNat=2*n:=by omega
 have w1:=iF (n:=2*(n:Int));have e3:(0:Int)<=2*(n:Int):=by omega
 have e4:8*(2*(n:Int))<=281474976710656:=by omega
 have e5:2*(n:Int)<=9223372036854775807:=by omega
 rw[<- en]at b4 b5⊢;have cw:=rY hw;have nj:¬jb=nx:=by omega
 have b8:¬jb=nx+1:=by omega
 have nn:¬nx=nx+1:=by omega
 have rz:=RX (2*n);rw[qO [.tmp 4] [] func98];simp only[go_sem,hw,cw,w1,e1,e3,e4,e5,xg,nj,b8,nn,rz];generalize hL:aA _ _=y;obtain⟨x,rfl,T,E,aO,rfl,t0,t5,c5,hC,L,Vy,O,S,G⟩:=rP hL n (fun k st=>st.T 0= .rp c 0/\st.T 5= .rs (nx+1) 0 (2*n)/\st.T 14= .rs jb 0 n/\st.T 15=I n/\st.T 16=I k/\nx+1<st.nx/\dJ st.σ c xs/\∃L:List Int,L.length=2*n/\Bd L/\st.σ (nx+1)=some ⟨L.flatMap cI,1,true⟩/\∀q,q<nx->q≠c->st.σ q=σ q)
  (fun x=>∃T E aO,x=(.exit 0,⟨T,E,aO⟩)/\T 0= .rp c 0/\T 5= .rs (nx+1) 0 (2*n)/\nx+1<aO/\dJ E c xs/\∃L:List Int,L.length=2*n/\Bd L/\E (nx+1)=some ⟨L.flatMap cI,1,true⟩/\∀q,q<nx->q≠c->E q=σ q) (by
   clear hL;rintro k ⟨T,E,m⟩ hk ⟨t0,t5,t14,t15,t16,hm,hC,L,Vy,O,S,G⟩;simp only at t0 t5 t14 t15 t16 hm hC S G;have b9:k<js.length:=by omega
   have f1:(k:Int)<(n:Int):=by omega
   have f2:=nP k;have f3:=iF (n:=(k:Int)+1);have f4:=YU js k b9;have f5:=II js;rw[<- en]at f5;have f6:k*4+4<=n*4:=by omega
   have a8:E jb=some ⟨js.flatMap aX,4,wr⟩:=by rw[G jb b6 b7];exact hj
   obtain⟨j,ej⟩:∃j,j=js[k]:=⟨_,rfl⟩;rw[<- ej]at f4;obtain⟨jn,jx,jy,jf⟩:=j;obtain⟨σ2,e2⟩:∃σ2,σ2=upd E m (some ⟨aX ⟨jn,jx,jy,jf⟩,0,true⟩):=⟨_,rfl⟩;have m1:σ2 m=some ⟨aX ⟨jn,jx,jy,jf⟩,0,true⟩:=by rw[e2,iW]
   have Y:dJ σ2 c xs:=by rw[e2];exact hC.upd (by omega)
   have b3:σ2 (nx+1)=some ⟨L.flatMap cI,1,true⟩:=by rw[e2,iZ];exact S
   have J:∀q,q<nx->q≠c->σ2 q=σ q:=fun q h1 h2=>by rw[e2,iZ];exact G q h1 h2
   have hlen:(L.flatMap cI).length=2*n:=by rw[sS,Vy]
   cases jf with
   |true=>
    refine .inl ⟨_,by simp only[go_sem,t0,t5,t14,t15,t16,f1,f2,f3,f4,f5,f6,a8,<- e2,m1];rfl,?_⟩;simp only[go_sem,t0,t5,t14,t15];exact⟨rfl,by omega,Y,L,Vy,O,b3,J⟩
   |false=>
    obtain⟨r1,x1,k1,b1,c0⟩:=OE hx hl Y (show c<m+1 by omega) 7 (by decide) (by decide);have g1:=iF (n:=2*(k:Int));have g2:=iF (n:=r1-3);have g3:(2*(k:Int)).toNat=2*k:=by omega
    have g4:(0:Int)<=2*(k:Int):=by omega
    have g5:2*(k:Int)<((2*n:Nat):Int):=by omega
    have g6:2*k<2*n:=by omega
    have a1:upd σ2 c x1 (nx+1)=some ⟨L.flatMap cI,1,true⟩:=by rw[iZ];exact b3
    have s1:=VT L (2*k) (r1-3);obtain⟨a6,e3⟩:∃a6,a6=upd (upd σ2 c x1) (nx+1) (some ⟨(L.set (2*k) (r1-3)).flatMap cI,1,true⟩):=⟨_,rfl⟩;have c2:dJ a6 c xs:=by rw[e3];exact c0.upd (by omega)
    obtain⟨r2,x2,k2,b2,c3⟩:=OE hx hl c2 (show c<m+1 by omega) 9 (by decide) (by decide);have g7:=iF (n:=2*(k:Int)+1);have g8:=iF (n:=0-r2);have g9:(2*(k:Int)+1).toNat=2*k+1:=by omega
    have g10:(0:Int)<=2*(k:Int)+1:=by omega
    have g11:2*(k:Int)+1<((2*n:Nat):Int):=by omega
    have g12:2*k+1<2*n:=by omega
    have c4:upd a6 c x2 (nx+1)=some ⟨(L.set (2*k) (r1-3)).flatMap cI,1,true⟩:=by rw[iZ,e3,iW]
    have s2:=VT (L.set (2*k) (r1-3)) (2*k+1) (0-r2);have a7:((L.set (2*k) (r1-3)).flatMap cI).length=2*n:=by rw[sS,yO,Vy]
    refine .inl ⟨_,by simp only[go_sem,sG,t0,t5,t14,t15,t16,f1,f2,f3,f4,f5,f6,a8,<- e2,m1,k1,g1,g2,g3,g4,g5,g6,a1,hlen,s1,<- e3,k2,g7,g8,g9,g10,g11,g12,c4,s2,a7];rfl,?_⟩;simp only[go_sem,t0,t5,t14,t15];refine⟨rfl,by omega,c3.upd (by omega),(L.set (2*k) (r1-3)).set (2*k+1) (0-r2),by rw[yO,yO,Vy],(O.set (by omega)).set (by omega),rfl,fun q h1 h2=>?_⟩;rw[iZ,iY _ _ h2,e3,iZ,iY _ _ h2];exact J q h1 h2) (by
   clear hL;rintro ⟨T,E,m⟩ ⟨t0,t5,t14,t15,t16,hm,hC,L,Vy,O,S,G⟩;simp only at t0 t5 t14 t15 t16 hm hC S G;exact⟨_,by simp only[go_sem,t15,t16,zX];rfl,by simp,_,_,_,rfl,by simp only[go_sem,t0],by simp only[go_sem,t5],hm,hC,L,Vy,O,S,G⟩) (by
   simp only[go_sem];refine⟨by omega,(hc.upd (by omega)).upd (by omega),List.replicate (2*n) 0,by simp,fun x hx=>by rw[List.eq_of_mem_replicate hx];omega,rfl,fun q h1 h2=>?_⟩;rw[iZ,iZ])
 obtain⟨r,x3,k3,Y⟩:=VQ hx hl hC (show c<aO by omega) 8 (by decide) (by decide);have a1:upd E c x3 (nx+1)=some ⟨L.flatMap cI,1,true⟩:=by rw[iZ];exact S
 have hlen:(L.flatMap cI).length=2*n:=by rw[sS,Vy]
 have J:∀q,q<nx->q≠c->upd E c x3 q=σ q:=fun q h1 h2=>by rw[iY _ _ h2];exact G q h1 h2
 cases r with
 |false=>
  simp only[go_sem,sG,t0,t5,k3];exact⟨L,nx+1,_,_,rfl,Vy,O,a1,by omega,by omega,Y,J⟩
 |true=>
  have g7:=iF (n:=((2*n:Nat):Int) - 1);have g9:(((2*n:Nat):Int) - 1).toNat=2*n-1:=by omega
  have g10:(0:Int)<=((2*n:Nat):Int) - 1:=by omega
  have g11:((2*n:Nat):Int) - 1<((2*n:Nat):Int):=by omega
  have g12:2*n-1<2*n:=by omega
  have s2:=VT L (2*n-1) 4;simp only[go_sem,sG,t0,t5,k3,g7,g9,g10,g11,g12,a1,hlen,s2];refine⟨L.set (2*n-1) 4,nx+1,_,_,rfl,by rw[yO,Vy],O.set (by omega),iW _ _ _,by omega,by omega,Y.upd (by omega),fun q h1 h2=>?_⟩;rw[iZ];exact J q h1 h2
open Go.Lp
attribute [-go_sem] u_
def gG{α:Type}(c:α->List V)(s:Nat)(T:Nat->V)(σ:Store)(nx t:Nat)(acc:List α):Prop:=(T t= .nil/\acc=[])\/∃b,T t= .rs b 0 acc.length/\acc≠[]/\σ b=some ⟨acc.flatMap c,s,true⟩/\b<nx
section
variable {α:Type} {c:α->List V} {s:Nat} {T:Nat->V} {σ:Store} {nx t:Nat} {acc:List α}
theorem pJ(E:gG c s T σ nx t acc)(x:Option BZ):gG c s T (upd σ nx x) (nx+1) t acc:=by
 rcases E with ⟨g1,g2⟩|⟨b,g1,g2,g3,g4⟩
 .exact .inl ⟨g1,g2⟩
 .exact .inr ⟨b,g1,g2,by rw[iZ];exact g3,by omega⟩
theorem ac'{T':Nat->V}{E:Nat}(h:T' E=T t)(G:gG c s T σ nx t acc):gG c s T' σ nx E acc:=by
 unfold gG at *;rw[h];exact G
theorem pG(hc:∀x,(c x).length=s)(E:∀x,(c x).all aJ=true)(hs:0<s){bytes:Nat}(S:gG c s T σ nx t acc)(x:α)(hl:acc.length<100000)(hb:bytes<=1000) :
  ∃σ',bC (upd σ nx (some ⟨c x,s,true⟩)) (nx+1) s bytes (T t) (c x) 1=some (.rs (nx+1) 0 (acc.length+1),σ',nx+1+1)/\σ' (nx+1)=some ⟨(acc++[x]).flatMap c,s,true⟩/\∀y,y<nx->(∀b o l,T t= .rs b o l->y≠b)->σ' y=σ y:=by
 have hm:acc.length+1<=maxLen:=by unfold maxLen;omega
 have hmul:(acc.length+1)*bytes<=100000*1000:=wH (by omega) hb;rcases S with ⟨J,rfl⟩|⟨b,J,G,O,Y⟩
 .refine⟨_,by rw[J,DV,ug (by decide),uf ⟨by decide,by omega⟩];rfl,?_⟩
  refine⟨by simp[bG,upd],fun y hy _=>?_⟩;unfold bG;rw[iZ,iZ]
 .have hlen:(acc.flatMap c).length=acc.length*s:=kD hc acc
  refine⟨upd (upd (upd σ nx (some ⟨c x,s,true⟩)) b none) (nx+1) (some ⟨acc.flatMap c++c x,s,true⟩),?_,?_,fun y hy G=>?_⟩
  .rw[J,u_,iZ,O]
   simp only[zl];rw[ug (by decide),ug (by rw[hlen,wO];omega),uf ⟨by rw[hlen];omega,trivial,hm,by omega,E x⟩];rfl
  .rw[iW,zC];simp
  .have:=G _ _ _ J
   rw[iZ,iY _ _ this,iZ]
theorem Eu(G:gG c s T σ nx t acc){b o l:Nat}(h:T t= .rs b o l):b<nx:=by
 rcases G with ⟨E,_⟩|⟨b',E,_,_,J⟩
 .rw[E]at h;cases h
 .rw[E]at h;cases h;exact J
theorem pF{σ':Store}(h:σ' (nx+1)=some ⟨acc.flatMap c,s,true⟩)(G:T t= .rs (nx+1) 0 acc.length)(E:acc≠[]):gG c s T σ' (nx+1+1) t acc:=.inr ⟨nx+1,G,E,h,by omega⟩
theorem RY(hc:∀x,(c x).length=s)(d:Nat)(E:∀x,stripL (strip σ d) (c x)=some (c x,[]))(J:gG c s T σ nx t acc):∃ids,strip σ (d+1) (T t)=some (LL c acc,ids):=by
 rcases J with ⟨G,rfl⟩|⟨b,G,O,hb,S⟩
 .exact⟨[],by rw[G,jS];rfl⟩
 .refine⟨[b],?_⟩
  rw[G,jR,hb];have Y:=kD hc acc;simp only[zl,yu,yX,Y,zu,if_true];rw[zk (by omega),jW E];rfl
end
theorem af8(z:List V):rep 1 z=z:=by simp[rep]
theorem EZ(a b c d:V):patch [a,b] 0 [c,d]=[c,d]:=rfl
attribute [go_sem] af8 EZ
abbrev AZ(p:Int×Int):List V:=[I p.1,I p.2]
def FK(m:Member)(k:Nat):List (Int×Int):=(if m.kind=2 then []else [((k:Int),1)])++(if m.kind=1 then []else [((k:Int),-1)])
def cols(s:Structure)(n:Nat):List (Int×Int):=(List.range n).flatMap fun k=>FK (mem s k) k
theorem L8(s:Structure)(n:Nat):cols s (n+1)=cols s n++FK (mem s n) n:=by simp[cols,vS]
theorem VU(m:Member)(k:Nat):(FK m k).length<=2:=by
 unfold FK
 split<;>split<;>simp
theorem rQ(s:Structure):∀n,(cols s n).length<=2*n
 |0=>by simp[cols]
 |n+1=>by
  rw[L8,zo];have:=rQ s n;have:=VU (mem s n) n;omega
theorem Jv{s:Structure}(h:SG s):fn gu conv ext 108 [.tp (aC s) 0]=some (LL AZ (cols s s.members.length)):=by
 have b3:=h.nm;rw[qB,qO [.tmp 2] [] func108];simp only[go_sem];generalize hL:aA _ _=y;obtain⟨r,rfl,T',σ',nx',rfl,h2⟩:=rP hL s.members.length (fun k st=>st.T 9=LL bg s.members/\st.T 10=I s.members.length/\st.T 11=I k/\gG AZ 2 st.T st.σ st.nx 3 (cols s k))
  (fun r=>∃T σ nx',r=(.exit 0,⟨T,σ,nx'⟩)/\gG AZ 2 T σ nx' 3 (cols s s.members.length)) (by
   clear hL;rintro k ⟨T,σ,nx⟩ O ⟨S,E,G,hg⟩;simp only at S E G hg;have f1:(k:Int)<(s.members.length:Int):=by omega
   have f2:=nP k;have f3:=iF (n:=(k:Int)+1);have f4:=abv s.members k O;have f5:=QH s.members;have f6:k*3+3<=s.members.length*3:=by omega
   have f9:=abw s.members k O;have hr:=h.mr k O;rw[Hu O]at f4 hr;have hle:=rQ s k;rw[L8];obtain⟨J,e1⟩:∃J,J=mem s k:=⟨_,rfl⟩;rw[<- e1]at f4 hr⊢;have a1:=fun x=>pJ hg x
   unfold FK
   by_cases k2:J.kind=2
   .have g1:(J.kind !=2)=false:=by simpa using k2
    have g2:(J.kind !=1)=true:=by simp[k2]
    obtain⟨σ',ha,hs,Y⟩:=pG (c:=AZ) (s:=2) (bytes:=16) (fun _=>rfl) (fun _=>rfl) (by decide) (a1 (some ⟨bg J,0,true⟩)) ((k:Int),-1) (by omega) (by decide);refine .inl ⟨_,by simp only[go_sem,S,E,G,f1,f2,f3,f4,f5,f6,f9,g1,g2,ha];rfl,?_⟩;simp only[go_sem,S,E];rw[uf k2,ug (by omega),wR];exact⟨rfl,pF hs (by simp[go_sem]) (by simp)⟩
   .by_cases k1:J.kind=1
    .have g1:(J.kind !=2)=true:=by simpa using k2
     have g2:(J.kind !=1)=false:=by simpa using k1
     obtain⟨σ',ha,hs,Y⟩:=pG (c:=AZ) (s:=2) (bytes:=16) (fun _=>rfl) (fun _=>rfl) (by decide) (a1 (some ⟨bg J,0,true⟩)) ((k:Int),1) (by omega) (by decide);have a6:σ' nx=some ⟨bg J,0,true⟩:=by
      rw[Y nx (by omega) (fun b o l h=>by have:=Eu hg h;omega),iW]
     refine .inl ⟨_,by simp only[go_sem,S,E,G,f1,f2,f3,f4,f5,f6,f9,g1,g2,ha,a6];rfl,?_⟩;simp only[go_sem,S,E];rw[ug k2,uf k1,zA];exact⟨rfl,pF hs (by simp[go_sem]) (by simp)⟩
    .have g1:(J.kind !=2)=true:=by simpa using k2
     have g2:(J.kind !=1)=true:=by simpa using k1
     obtain⟨σ',ha,hs,Y⟩:=pG (c:=AZ) (s:=2) (bytes:=16) (fun _=>rfl) (fun _=>rfl) (by decide) (a1 (some ⟨bg J,0,true⟩)) ((k:Int),1) (by omega) (by decide);have a6:σ' nx=some ⟨bg J,0,true⟩:=by
      rw[Y nx (by omega) (fun b o l h=>by have:=Eu hg h;omega),iW]
     have a8:gG AZ 2 (upd T 3 (.rs (nx+1+1) 0 ((cols s k).length+1))) σ' (nx+1+1+1) 3 (cols s k++[((k:Int),1)]):=pF hs (by simp[go_sem]) (by simp);obtain⟨σ2,a7,b2,_⟩:=pG (c:=AZ) (s:=2) (bytes:=16) (fun _=>rfl) (fun _=>rfl) (by decide) a8 ((k:Int),-1) (by simp;omega) (by decide);rw[iW]at a7;refine .inl ⟨_,by simp only[go_sem,S,E,G,f1,f2,f3,f4,f5,f6,f9,g1,g2,ha,a7,a6];rfl,?_⟩;simp only[go_sem,S,E];rw[ug k2,ug k1,<- zF];exact⟨rfl,pF b2 (by simp[go_sem]) (by simp)⟩) (by
   rintro ⟨T,σ,nx⟩ ⟨S,E,G,hg⟩;simp only at S E G hg;exact⟨_,by simp only[go_sem,E,G,zX];rfl,by simp,_,_,_,rfl,ac' (by simp only[go_sem]) hg⟩) (by
   simp only[go_sem];exact .inl ⟨by simp only[go_sem],rfl⟩)
 obtain⟨ids,hs⟩:=RY (c:=AZ) (s:=2) (fun _=>rfl) 6 (fun x=>by rw[jd,jQ,jd,jQ,jX];rfl) h2;simp only[go_sem,hs]
theorem Kt{α:Type}{c:α->List V}{s:Nat}{T:Nat->V}{σ:Store}{nx t:Nat}{acc:List α}(hc:∀x,(c x).length=s)(E:∀x,(c x).all aJ=true)(hs:0<s){bytes:Nat}(hg:gG c s T σ nx t acc)(xs:List α)(hx:xs≠[])(hl:acc.length+xs.length<100000)(hb:bytes<=1000) :
  ∃σ',bC (upd σ nx (some ⟨xs.flatMap c,s,true⟩)) (nx+1) s bytes (T t) (xs.flatMap c) xs.length=some (.rs (nx+1) 0 (acc.length+xs.length),σ',nx+1+1)/\σ' (nx+1)=some ⟨(acc++xs).flatMap c,s,true⟩/\∀y,y<nx->(∀b o l,T t= .rs b o l->y≠b)->σ' y=σ y:=by
 have hm:acc.length+xs.length<=maxLen:=by unfold maxLen;omega
 have G:xs.length≠0:=fun e=>hx (zN e)
 have hmul:(acc.length+xs.length)*bytes<=100000*1000:=wH (by omega) hb;have a1:xs.length*bytes<=100000*1000:=wH (by omega) hb;have J:(xs.flatMap c).all aJ=true:=by
  rw[wW];intro v hv;obtain⟨x,-,h⟩:=List.mem_flatMap.mp hv;exact List.all_eq_true.mp (E x) v h
 rcases hg with ⟨S,rfl⟩|⟨b,S,O,Y,a6⟩
 .refine⟨_,by rw[S,DV,ug G,uf ⟨by unfold maxLen;omega,by omega⟩];simp only[yw,yu];rfl,?_⟩
  refine⟨by simp[bG,upd],fun y hy _=>?_⟩;unfold bG;rw[iZ,iZ]
 .have hlen:(acc.flatMap c).length=acc.length*s:=kD hc acc
  have hp:0<xs.length*s:=Nat.mul_pos (by omega) hs;refine⟨upd (upd (upd σ nx (some ⟨xs.flatMap c,s,true⟩)) b none) (nx+1) (some ⟨acc.flatMap c++xs.flatMap c,s,true⟩),?_,?_,fun y hy O=>?_⟩
  .rw[S,u_,iZ,Y]
   simp only[zl];rw[ug G,ug (by rw[hlen,wO];omega),uf ⟨by rw[hlen];omega,trivial,hm,by omega,J⟩];rfl
  .rw[iW,zC]
  .have:=O _ _ _ S
   rw[iZ,iY _ _ this,iZ]
def eX(s:Structure)(j:Int)(k:Nat):Int:=if j=(mem s k).a then vx s k else if j=(mem s k).b then -vx s k else 0
def eY(s:Structure)(j:Int)(k:Nat):Int:=if j=(mem s k).a then vy s k else if j=(mem s k).b then -vy s k else 0
def B_(s:Structure)(j:Int):List (List Int):=[(List.range s.members.length).map (eX s j),(List.range s.members.length).map (eY s j)]
def fP(s:Structure)(n:Nat):List (List Int):=((free s).take n).flatMap (B_ s)
abbrev cRw(r:List Int):List V:=[LI r]
abbrev cRf(n:Nat)(b:Nat):List V:=[.rs b 0 n]
def FM(σ:Store)(nx t n:Nat)(T:Nat->V)(rb:List Nat)(R:List (List Int)):Prop :=
 gG (cRf n) 1 T σ nx t rb/\rb.length=R.length/\(∀j (h:j<rb.length) (E:j<R.length),σ rb[j]=some ⟨R[j].flatMap cI,1,true⟩)/\(∀r∈R,r.length=n)/\∀b∈rb,b<nx/\∀c o l,T t= .rs c o l->b≠c
theorem OG{σ:Store}{nx t n:Nat}{T:Nat->V}{rb:List Nat}{R:List (List Int)}(h:FM σ nx t n T rb R)(d:Nat):∃ids,strip σ (d+1+1) (T t)=some (LL cRw R,ids):=by
 obtain⟨Y,G,hr,hn,-⟩:=h;have key:∀ {rb:List Nat} {R:List (List Int)},rb.length=R.length->(∀j (h:j<rb.length) (J:j<R.length),σ rb[j]=some ⟨R[j].flatMap cI,1,true⟩)->(∀r∈R,r.length=n)->∃ids,stripL (strip σ (d+1)) (rb.flatMap (cRf n))=some (R.flatMap cRw,ids):=by
  intro rb
  induction rb with
  |nil=>intro R E _ _;cases R with
   |nil=>exact⟨[],rfl⟩
   |cons=>cases E
  |cons b rb ih=>intro R E O S;cases R with
   |nil=>cases E
   |cons r R=>
    obtain⟨ids,e⟩:=ih (R:=R) (by simpa using E) (fun j h J=>O (j+1) (by simpa using h) (by simpa using J)) (fun x hx=>S x (by simp[hx]));have e1:=oQ (O 0 (by simp) (by simp)) (S _ (by simp)) d;refine⟨b :: ids,?_⟩;rw[zJ,zJ,show cRf n b++rb.flatMap (cRf n)=V.rs b 0 n :: rb.flatMap (cRf n)from rfl,jd,show strip σ (d+1) (V.rs b 0 n)=some (LI r,[b])from e1,e];rfl
 rcases Y with ⟨E,rfl⟩|⟨b,E,a1,hb,a6⟩
 .have:R=[]:=zN (by simpa using G.symm)
  subst this;exact⟨[],by rw[E,jS];rfl⟩
 .obtain⟨ids,e⟩:=key G hr hn
  refine⟨b :: ids,?_⟩;rw[E,jR,hb];have hlen:=kD (c:=cRf n) (s:=1) (fun _=>rfl) rb;simp only[zl,yu,yX,hlen,zu,if_true];rw[zk (by omega),e];simp only[zT];rw[G]
theorem L9{σ σ':Store}{nx nx' t n:Nat}{T T':Nat->V}{rb:List Nat}{R:List (List Int)}(h:FM σ nx t n T rb R)(E:T' t=T t)(hn:nx<=nx')(e:∀b,b<nx->σ' b=σ b):FM σ' nx' t n T' rb R:=by
 obtain⟨J,O,S,G,hb⟩:=h;refine⟨?_,O,fun j h Y=>?_,G,fun b h=>?_⟩
 .rcases J with ⟨g1,g2⟩|⟨b,g1,g2,g3,g4⟩
  .exact .inl ⟨E.trans g1,g2⟩
  .exact .inr ⟨b,E.trans g1,g2,by rw[e b g4];exact g3,by omega⟩
 .rw[e _ (hb _ (zq h)).1];exact S j h Y
 .obtain⟨h1,h2⟩:=hb b h
  exact⟨by omega,fun c o l hc=>h2 c o l (E ▸ hc)⟩
theorem ag8{s:Structure}(h:SG s)(j:Int)(k:Nat):-100<=eX s j k/\eX s j k<=100/\-100<=eY s j k/\eY s j k<=100:=by
 have:=OB h k;unfold eX eY
 split
 .omega
 .split<;>omega
theorem adb(z:V):rep 2 [z]=[z,z]:=rfl
theorem af9(x y a b:V):([x,y].set 0 a).set 1 b=[a,b]:=rfl
attribute [go_sem] adb af9
theorem VW(s:Structure){i:Nat}(h:i<(free s).length):fP s (i+1)=fP s i++B_ s (free s)[i]:=by
 unfold fP;rw[wz,zy h,zC];simp
theorem ade{R:List (List Int)}{j:Nat}(a b:List Int)(h:j<(R++[a,b]).length):(R++[a,b])[j]=if E:j<R.length then R[j]else if j=R.length then a else b:=by
 by_cases E:j<R.length
 .rw[yH E,dif_pos E]
 .rw[dif_neg E,vN (by omega)]
  rw[zo]at h;simp only[zi,yw]at h
  by_cases G:j=R.length
  .rw[uf G];simp[G]
  .rw[ug G]
   have:j-R.length=1:=by omega
   simp[this]
theorem Jw(s:Structure):(free s).length<=s.au.length:=iy _ _
theorem OH{s:Structure}(h:SG s):fn gu conv ext 110 [.tp (aC s) 0]=some (LL cRw (fP s (free s).length)):=by
 have b7:=h.nm;have b8:=Jw s;have b9:=h.nj;have k1:=Gu h;obtain⟨nm,hm⟩:∃nm,nm=s.members.length:=⟨_,rfl⟩;rw[qB,qO [.tmp 2] [] func110];simp only[go_sem,k1];generalize hL:aA _ _=y;obtain⟨r,rfl,T',σ',nx',rb,rfl,h2⟩:=rP hL (free s).length (fun i st=>st.T 0= .tp (aC s) 0/\st.T 13=LI (free s)/\st.T 14=I (free s).length/\st.T 15=I i/\∃rb,FM st.σ st.nx 3 nm st.T rb (fP s i))
  (fun r=>∃T σ nx' rb,r=(.exit 0,⟨T,σ,nx'⟩)/\FM σ nx' 3 nm T rb (fP s (free s).length)) (by
   clear hL;rintro i ⟨T,σ,nx⟩ a7 ⟨h0,Y,Gl,O,rb,hR⟩;simp only at h0 Y Gl O hR;have f1:(i:Int)<((free s).length:Int):=by omega
   have f2:=nP i;have f3:=iF (n:=(i:Int)+1);have f4:=idx (xs:=free s) (k:=i) a7;have f5:=iI (free s) i a7;obtain⟨j,hj⟩:∃j,j=(free s)[i]:=⟨_,rfl⟩;rw[<- hj]at f4;have m1:(0:Int)<=(s.members.length:Int):=by omega
   have m2:8*(s.members.length:Int)<=281474976710656:=by omega
   have m3:(s.members.length:Int)<=9223372036854775807:=by omega
   refine ji ?_
   conv=>
    enter [1,r,1,1]
    simp only[go_sem,h0,Y,Gl,O,f1,f2,f4,f5,m1,m2,m3]
   generalize hL:aA _ _=z
   obtain⟨x,rfl,S,E,G,rfl,t0,t6,t7,t13,t14,t15,hx,hy,a1,a6⟩:=rP hL s.members.length (fun k st=>st.T 0= .tp (aC s) 0/\st.T 5=I j/\st.T 6= .rs nx 0 s.members.length/\st.T 7= .rs (nx+1) 0 s.members.length/\st.T 13=LI (free s)/\st.T 14=I (free s).length/\st.T 15=I i/\st.T 34=LL bg s.members/\st.T 35=I s.members.length/\st.T 36=I k /\
     st.σ nx=some ⟨(pm (eX s j) (fun _=>0) k s.members.length).flatMap cI,1,true⟩/\st.σ (nx+1)=some ⟨(pm (eY s j) (fun _=>0) k s.members.length).flatMap cI,1,true⟩/\nx+1<st.nx/\st.T 3=T 3/\∀b,b<nx->st.σ b=σ b)
    (fun x=>∃S E G,x=(.exit 2,⟨S,E,G⟩)/\S 0= .tp (aC s) 0/\S 6= .rs nx 0 s.members.length/\S 7= .rs (nx+1) 0 s.members.length/\S 13=LI (free s)/\S 14=I (free s).length/\S 15=I i/\E nx=some ⟨(pm (eX s j) (fun _=>0) s.members.length s.members.length).flatMap cI,1,true⟩/\E (nx+1)=some ⟨(pm (eY s j) (fun _=>0) s.members.length s.members.length).flatMap cI,1,true⟩/\nx+1<G/\S 3=T 3/\∀b,b<nx->E b=σ b) (by
     clear hL;rintro k ⟨S,E,G⟩ hk ⟨t0,t5,t6,t7,t13,t14,t15,t34,t35,t36,hx,hy,a1,t3,hs⟩;simp only at t0 t5 t6 t7 t13 t14 t15 t34 t35 t36 hx hy a1 t3 hs;have g1:(k:Int)<(s.members.length:Int):=by omega
     have g2:=nP k;have g3:=iF (n:=(k:Int)+1);have g4:=abv s.members k hk;rw[Hu hk]at g4;have g5:=QH s.members;have g6:k*3+3<=s.members.length*3:=by omega
     have g9:=abw s.members k hk;have k2:=Xo h hk;have hb:=OB h k;have q1:((pm (eX s j) (fun _=>0) k s.members.length).flatMap cI).length=s.members.length:=by rw[sS,mD]
     have q2:((pm (eY s j) (fun _=>0) k s.members.length).flatMap cI).length=s.members.length:=by rw[sS,mD]
     have q3:=Jl (eX s j) (fun _=>0) hk;have q4:=Jl (eY s j) (fun _=>0) hk;have d1:¬nx=G:=by omega
     have d2:¬nx+1=G:=by omega
     have d3:¬nx+1=nx:=by omega
     have d4:¬nx=nx+1:=by omega
     have d5:¬G=nx:=by omega
     have d6:¬G=nx+1:=by omega
     have g7:k+1<=s.members.length:=hk;have w1:=iF (n:=-vx s k);have w2:=iF (n:=-vy s k);have w3:IntKind.i64.wrap (0-vx s k)= -vx s k:=by rw[iF];omega
     have w4:IntKind.i64.wrap (0-vy s k)= -vy s k:=by rw[iF];omega
     by_cases c1:j=(mem s k).a
     .have e1:(j==(mem s k).a)=true:=by simpa using c1
      have e2:((pm (eX s j) (fun _=>0) k s.members.length).flatMap cI).set k (I (vx s k))=(pm (eX s j) (fun _=>0) (k+1) s.members.length).flatMap cI:=by
       rw[sQ,<- q3];unfold eX;rw[uf c1]
      have e3:((pm (eY s j) (fun _=>0) k s.members.length).flatMap cI).set k (I (vy s k))=(pm (eY s j) (fun _=>0) (k+1) s.members.length).flatMap cI:=by
       rw[sQ,<- q4];unfold eY;rw[uf c1]
      refine .inl ⟨_,by simp only[go_sem,t0,t5,t6,t7,t13,t14,t15,t34,t35,t36,hx,hy,g1,g2,g3,g4,g5,g6,g7,g9,k2,q1,q2,hk,d1,d2,d3,d4,d5,d6,e1,e2,e3];rfl,?_⟩;simp only[go_sem,t0,t5,t6,t7,t13,t14,t15,t34,t35,d1,d2,d3,d4];exact⟨rfl,by omega,t3,fun b hb=>by rw[iZ,iZ,iZ];exact hs b hb⟩
     .have e1:(j==(mem s k).a)=false:=by simpa using c1
      by_cases c2:j=(mem s k).b
      .have e4:(j==(mem s k).b)=true:=by simpa using c2
       have e2:((pm (eX s j) (fun _=>0) k s.members.length).flatMap cI).set k (I (-vx s k))=(pm (eX s j) (fun _=>0) (k+1) s.members.length).flatMap cI:=by
        rw[sQ,<- q3];unfold eX;rw[ug c1,uf c2]
       have e3:((pm (eY s j) (fun _=>0) k s.members.length).flatMap cI).set k (I (-vy s k))=(pm (eY s j) (fun _=>0) (k+1) s.members.length).flatMap cI:=by
        rw[sQ,<- q4];unfold eY;rw[ug c1,uf c2]
       refine .inl ⟨_,by simp only[go_sem,t0,t5,t6,t7,t13,t14,t15,t34,t35,t36,hx,hy,g1,g2,g3,g4,g5,g6,g7,g9,k2,q1,q2,hk,d1,d2,d3,d4,d5,d6,e1,e4,e2,e3,w1,w2,w3,w4];rfl,?_⟩;simp only[go_sem,t0,t5,t6,t7,t13,t14,t15,t34,t35,d1,d2,d3,d4];exact⟨rfl,by omega,t3,fun b hb=>by rw[iZ,iZ,iZ];exact hs b hb⟩
      .have e4:(j==(mem s k).b)=false:=by simpa using c2
       have e2:=Oo (eX s j) (fun _=>0) (k:=k) (N:=s.members.length) (by unfold eX;rw[ug c1,ug c2]);have e3:=Oo (eY s j) (fun _=>0) (k:=k) (N:=s.members.length) (by unfold eY;rw[ug c1,ug c2]);refine .inl ⟨_,by simp only[go_sem,t0,t5,t6,t7,t13,t14,t15,t34,t35,t36,hx,hy,g1,g2,g3,g4,g5,g6,g7,g9,k2,q1,q2,hk,d1,d2,d3,d4,d5,d6,e1,e4];rfl,?_⟩;simp only[go_sem,t0,t5,t6,t7,t13,t14,t15,t34,t35,d1,d2,d3,d4];refine⟨rfl,by rw[hx,e2],by rw[hy,e3],by omega,t3,fun b hb=>by rw[iZ];exact hs b hb⟩) (by
     rintro ⟨S,E,G⟩ ⟨t0,t5,t6,t7,t13,t14,t15,t34,t35,t36,hx,hy,a1,t3,hs⟩;simp only at t0 t5 t6 t7 t13 t14 t15 t34 t35 t36 hx hy a1 t3 hs;have g1:¬(s.members.length:Int)<(s.members.length:Int):=by omega
     refine⟨_,by simp only[go_sem,t35,t36,g1];rfl,by simp,_,_,_,rfl,?_⟩;simp only[go_sem,t0,t6,t7,t13,t14,t15];exact⟨hx,hy,a1,t3,hs⟩) (by
     simp only[go_sem,h0,Y,Gl,O];rw[Eh,Eh,lS,<- lH,iZ,iW];exact⟨rfl,rfl,by omega,fun b hb=>by rw[iZ,iZ]⟩)
   rw[Oq]at hx hy;have b2:=a6.1;have a6:FM E G 3 nm S rb (fP s i):=L9 hR a6.1 (by omega) a6.2;obtain⟨hg,hl,hr,b3,a8⟩:=a6;have c0:rb.length<=2*i:=by
    rw[hl];unfold fP;have:=List.length_take_le i (free s);have e:∀l:List Int,(l.flatMap (B_ s)).length=2*l.length:=fun l=>by
     induction l with
     |nil=>rfl
     |cons a l ih=>rw[zJ,zo,ih,zi];simp only[B_,zi,yw];omega
    rw[e];omega
   obtain⟨σ2,ha,b4,b5⟩:=Kt (c:=cRf nm) (s:=1) (bytes:=24) (fun _=>rfl) (fun _=>rfl) (by decide) hg [nx,nx+1] (by simp) (by simp only[zi,yw];omega) (by decide);have ha:bC (upd E G (some ⟨[V.rs nx 0 s.members.length,V.rs (nx+1) 0 s.members.length],1,true⟩)) (G+1) 1 24 (S 3) [V.rs nx 0 s.members.length,V.rs (nx+1) 0 s.members.length] 2=some (.rs (G+1) 0 (rb.length+2),σ2,G+1+1):=by rw[<- hm];exact ha
   refine⟨_,by simp only[go_sem,t0,t6,t7,t13,t14,t15,f3,ha];rfl,.inl ⟨_,rfl,?_⟩⟩;simp only[go_sem,t0,t13,t14];have J:∀b,b<G->(b∈rb\/b=nx\/b=nx+1)->σ2 b=E b:=fun b hb hc=>by
    refine b5 b hb fun c o l h=>?_
    rcases hc with hc|hc|hc
    .exact(a8 b hc).2 c o l h
    .have:=Eu hR.1 (b2 ▸ h);omega
    .have:=Eu hR.1 (b2 ▸ h);omega
   refine⟨rfl,rb++[nx,nx+1],?_⟩;rw[VW s a7,<- hj];refine⟨.inr ⟨G+1,by simp[go_sem],by simp,b4,by omega⟩,by simp[hl,B_],fun q h1 h2=>?_,fun r b6=>?_,fun b hb=>?_⟩
   .have hq:(fP s i++B_ s j)[q]=if h1:q<(fP s i).length then(fP s i)[q]else if q=(fP s i).length then(List.range s.members.length).map (eX s j)else(List.range s.members.length).map (eY s j):=ade _ _ h2
    rw[hq]
    by_cases c1:q<rb.length
    .rw[dif_pos (by omega),yH c1,J _ (a8 _ (zq c1)).1 (.inl (zq c1))]
     exact hr q c1 (by omega)
    .rw[dif_neg (by omega),vN (by omega)]
     rw[zo]at h1;simp only[zi,yw]at h1
     by_cases c2:q=(fP s i).length
     .rw[uf c2]
      have:q-rb.length=0:=by omega
      simp only[this,vX];rw[J nx (by omega) (.inr (.inl rfl))];exact hx
     .rw[ug c2]
      have:q-rb.length=1:=by omega
      simp only[this,List.getElem_cons_succ,vX];rw[J (nx+1) (by omega) (.inr (.inr rfl))];exact hy
   .rcases List.mem_append.mp b6 with h|h
    .exact b3 r h
    .simp only[B_,zQ,zG,or_false]at h
     rcases h with h|h<;>rw[h]<;>simp[hm]
   .have c3:b<G:=by
     rcases List.mem_append.mp hb with h|h
     .exact(a8 b h).1
     .simp only[zQ,zG,or_false]at h;omega
    refine⟨by omega,fun c o l h=>?_⟩;simp only[go_sem,V.rs.injEq]at h;omega) (by
   rintro ⟨T,σ,nx⟩ ⟨h0,Y,Gl,O,rb,hR⟩;simp only at h0 Y Gl O hR;exact⟨_,by simp only[go_sem,Gl,O,zX];rfl,by simp,_,_,_,rb,rfl,L9 hR (by simp only[go_sem]) (zu _) fun _ _=>rfl⟩) (by
   simp only[go_sem];refine⟨[],.inl ⟨by simp only[go_sem],rfl⟩,by simp[fP],?_,?_,?_⟩
   .intro j h;cases h
   .intro r hr;simp[fP]at hr
   .intro b hb;cases hb)
 obtain⟨ids,hs⟩:=OG h2 5;simp only[go_sem,hs]
def A8(X:List Int)(k:Nat):List Int:=X.take k++List.replicate (X.length-k) 0
theorem Jy(X:List Int){k:Nat}(h:k<=X.length):(A8 X k).length=X.length:=by unfold A8;rw[zo,zY,yM];omega
theorem L_(X:List Int):A8 X 0=List.replicate X.length 0:=by simp[A8]
theorem Mc(X:List Int):A8 X X.length=X:=by simp[A8]
theorem Jz(X:List Int){k:Nat}(h:k<X.length):(A8 X k).set k X[k]=A8 X (k+1):=by
 unfold A8;have E:(X.take k).length=k:=by rw[zY];omega
 rw[yA _ _ (by omega),E,yh,show X.length-k=X.length - (k+1)+1 by omega,yL,vV,jK h,zF];rfl
def ZC(s:Structure):List Int:=(fP s (free s).length).flatMap fun r=>(cols s s.members.length).map fun p=>p.2*r.getD p.1.toNat 0
def fpB(s:Structure)(l:List Int):List Int:=(free s).flatMap fun j=>[-l.getD (2*j.toNat) 0,-l.getD (2*j.toNat+1) 0]
theorem JA{α:Type}(f:α->List Int){C:Nat}(E:∀x,(f x).length=C):∀xs:List α,(xs.flatMap f).length=xs.length*C
 |[]=>by simp
 |x :: xs=>by rw[zJ,zo,JA f E xs,E,zi,wY];omega
theorem flat_get{α:Type}(f:α->List Int){C:Nat}(E:∀x,(f x).length=C):∀(xs:List α) {i c:Nat} (hi:i<xs.length) (hc:c<C),(xs.flatMap f)[i*C+c]?=(f xs[i])[c]?
 |x :: xs,0,c,_,hc=>by rw[zJ,vC,yu,zZ (by rw[E];exact hc)];rfl
 |x :: xs,i+1,c,hi,hc=>by
  rw[zJ,zS (by rw[E,wY];omega),E,show(i+1)*C+c-C=i*C+c by rw[wY];omega,flat_get f E xs (by simpa using hi) hc];rfl
theorem Md(s:Structure):(fP s (free s).length).length=2*(free s).length:=by
 unfold fP;rw[yV]
 induction free s with
 |nil=>rfl
 |cons a l E=>rw[zJ,zo,E,zi];simp only[B_,zi,yw];omega
theorem ZE{s:Structure}{r:List Int}(h:r∈fP s (free s).length):r.length=s.members.length:=by
 unfold fP at h;obtain⟨j,-,h⟩:=List.mem_flatMap.mp h;simp only[B_,zQ,zG,or_false]at h;rcases h with h|h<;>rw[h]<;>simp
theorem RZ{s:Structure}(hs:SG s){r:List Int}(h:r∈fP s (free s).length):∀x∈r,-100<=x/\x<=100:=by
 unfold fP at h;obtain⟨j,-,h⟩:=List.mem_flatMap.mp h;simp only[B_,zQ,zG,or_false]at h;intro x E;rcases h with h|h<;>rw[h]at E<;>obtain⟨k,-,rfl⟩:=List.mem_map.mp E
 .have:=ag8 hs j k;omega
 .have:=ag8 hs j k;omega
theorem JB{s:Structure}:∀ {n:Nat} {p:Int×Int},p∈cols s n->(∃k:Nat,p.1=(k:Int)/\k<n)/\(p.2=1\/p.2= -1):=fun {n p} h=>by
 unfold cols at h;obtain⟨k,G,h⟩:=List.mem_flatMap.mp h;have E:=List.mem_range.mp G;unfold FK at h;rcases List.mem_append.mp h with h|h
 .split at h
  .cases h
  .rw[List.mem_singleton.mp h];exact⟨⟨k,rfl,E⟩,.inl rfl⟩
 .split at h
  .cases h
  .rw[List.mem_singleton.mp h];exact⟨⟨k,rfl,E⟩,.inr rfl⟩
theorem Xu(s:Structure):(ZC s).length=2*(free s).length*(cols s s.members.length).length:=by
 unfold ZC;rw[JA _ (fun _=>zB _),Md]
theorem Xv(s:Structure)(l:List Int):(fpB s l).length=2*(free s).length:=by
 unfold fpB;rw[JA _ (C:=2) (fun _=>rfl)];omega
def R_(s:Structure):Nat:=2*(free s).length
def CQ(s:Structure):Nat:=(cols s s.members.length).length
theorem Ku{s:Structure}(h:SG s){l:List Int}(hl:l.length=2*s.au.length)(hb:∀x∈l,-100<=x/\x<=100):fn gu conv ext 73 [.tp (aC s) 0,LI l,I 0,I 0]=some (.agg (Af (R_ s) (CQ s) (ZC s) (fpB s l) (List.replicate (CQ s) 0))):=by
 have i7:=h.nm;have i9:=Jw s;have j0:=h.nj;have j1:=rQ s s.members.length;have k1:=OH h;have k2:=Jv h;have k3:=Gu h;have h4:=Md s;obtain⟨E,hE⟩:∃E,E=fP s (free s).length:=⟨_,rfl⟩;obtain⟨K,hK⟩:∃K,K=cols s s.members.length:=⟨_,rfl⟩;have hR:E.length=R_ s:=by rw[hE];exact h4
 have hC:K.length=CQ s:=by rw[hK];rfl
 have e4:R_ s<=12:=by unfold R_;omega
 have e5:CQ s<=16:=by rw[<- hC,hK];omega
 have b3:(ZC s).length=R_ s*CQ s:=Xu s;have e6:R_ s*CQ s<=12*16:=wH e4 e5;rw[<- hE]at k1;rw[<- hK]at k2;have k1:fn gu conv ext 110 [.tp (aC s) 0]=some (.ts (E.flatMap cRw) (R_ s)):=by rw[<- hR];exact k1
 have k2:fn gu conv ext 108 [.tp (aC s) 0]=some (.ts (K.flatMap AZ) (CQ s)):=by rw[<- hC];exact k2
 obtain⟨R,eR⟩:∃R,R=R_ s:=⟨_,rfl⟩;obtain⟨C,eC⟩:∃C,C=CQ s:=⟨_,rfl⟩;rw[<- eR]at k1 hR e4 b3 e6⊢;rw[<- eC]at k2 hC e5 b3 e6⊢;have f1:=iF (n:=(R:Int));have f2:=iF (n:=(C:Int));have e3:(R:Int)*(C:Int)=((R*C:Nat):Int):=by push_cast;rfl
 have f3:=iF (n:=((R*C:Nat):Int));have f4:(0:Int)<=((R*C:Nat):Int):=by omega
 have f5:8*((R*C:Nat):Int)<=281474976710656:=by omega
 have f6:((R*C:Nat):Int)<=9223372036854775807:=by omega
 have f7:=nP R;have f8:8*(R:Int)<=281474976710656:=by omega
 have f9:(R:Int)<=9223372036854775807:=by omega
 have f10:=nP C;have f11:8*(C:Int)<=281474976710656:=by omega
 have f12:(C:Int)<=9223372036854775807:=by omega
 have f13:(R:Int)+0=R:=by omega
 have f14:(C:Int)+0=C:=by omega
 rw[qB,qO [.cell 8 128] [3,10,16] func73];unfold Af;simp only[go_sem,k1,k2,f1,f2,e3,f3,f4,f5,f6,f7,f8,f9,f10,f11,f12,f13,f14];generalize hL:aA _ _=y;have j2:=b3;obtain⟨FA,e7⟩:∃FA,FA=ZC s:=⟨_,rfl⟩;have h5:∀i c (hi:i<R) (hc:c<C) (hq:i*C+c<FA.length),FA[i*C+c]=(K[c]'(by omega)).2*(E[i]'(by omega)).getD (K[c]'(by omega)).1.toNat 0:=fun i c hi hc hq=>by
  have:=flat_get (fun r:List Int=>K.map fun p=>p.2*r.getD p.1.toNat 0) (C:=C) (fun _=>by rw[zB];exact hC) E (i:=i) (c:=c) (by omega) hc;rw[yg,zy (l:=K) (i:=c) (by omega)]at this;have e2:FA=E.flatMap fun r=>K.map fun p=>p.2*r.getD p.1.toNat 0:=by rw[e7,hE,hK];rfl
  rw[<- e2,zy hq]at this;exact Option.some.inj this
 rw[<- e7]at b3⊢
 obtain⟨x,rfl,T1,b4,aO,rfl,t0,t1,t8,t11,h6,s0,J,S,Y,s4⟩:=rP hL R (fun i st=>st.T 0= .tp (aC s) 0/\st.T 1=LI l/\st.T 8= .rp 0 0/\st.T 11= .rp 1 0/\st.T 10= .ts (K.flatMap AZ) C/\st.T 46= .ts (E.flatMap cRw) R/\st.T 47=I R/\st.T 48=I i/\4<st.nx /\
   st.σ 0=some ⟨[I 0,I 0,.nil,.nil,.nil],0,true⟩/\st.σ 1=some ⟨[I R,I C,.rs 2 0 (R*C),.rs 3 0 R,.rs 4 0 C],0,true⟩/\st.σ 2=some ⟨(A8 FA (i*C)).flatMap cI,1,true⟩/\st.σ 3=some ⟨(List.replicate R 0).flatMap cI,1,true⟩/\st.σ 4=some ⟨(List.replicate C 0).flatMap cI,1,true⟩)
  (fun x=>∃T1 b4 aO,x=(.exit 0,⟨T1,b4,aO⟩)/\T1 0= .tp (aC s) 0/\T1 1=LI l/\T1 8= .rp 0 0/\T1 11= .rp 1 0/\4<aO/\b4 0=some ⟨[I 0,I 0,.nil,.nil,.nil],0,true⟩/\b4 1=some ⟨[I R,I C,.rs 2 0 (R*C),.rs 3 0 R,.rs 4 0 C],0,true⟩/\b4 2=some ⟨FA.flatMap cI,1,true⟩/\b4 3=some ⟨(List.replicate R 0).flatMap cI,1,true⟩/\b4 4=some ⟨(List.replicate C 0).flatMap cI,1,true⟩) (by
   clear hL;rintro i ⟨T,σ,nx⟩ hi ⟨t0,t1,t8,t11,t10,t46,t47,t48,G,s0,J,S,Y,s4⟩;simp only at t0 t1 t8 t11 t10 t46 t47 t48 G s0 J S Y s4;have g1:(i:Int)<(R:Int):=by omega
   have g2:=nP i;have g3:=iF (n:=(i:Int)+1);have g4:(E.flatMap cRw)[i]?=some (LI (E[i]'(by omega))):=kF (fun r=>LI r) E i (by omega);have g5:=kE (c:=cRw) (s:=1) (fun _=>rfl) (by omega) E i (by omega);have g6:(E.flatMap cRw).length=R:=by rw[kD (c:=cRw) (s:=1) (fun _=>rfl),hR,yj]
   have e9:(E[i]'(by omega)).length=s.members.length:=by subst hE;exact ZE (zq _)
   have h0:∀x∈(E[i]'(by omega)),-100<=x/\x<=100:=by subst hE;exact RZ h (zq _)
   obtain⟨r,er⟩:∃r,r=E[i]'(by omega):=⟨_,rfl⟩;have h7:=h5 i;rw[<- er]at g4 e9 h0;refine ji ?_
   conv=>
    enter [1,q,1,1]
    simp only[go_sem,t0,t1,t8,t11,t10,t46,t47,t48,g1,g2,g4,g5,g6]
   generalize hL:aA _ _=z;have h8:(i+1)*C<=R*C:=yc _ hi;rw[wY]at h8
   obtain⟨x,rfl,T2,σ2,BH,rfl,t0,t1,t8,t11,t10,t46,t47,t48,G,s0,J,S,Y,s4⟩:=rP hL C (fun c st=>st.T 0= .tp (aC s) 0/\st.T 1=LI l/\st.T 8= .rp 0 0/\st.T 11= .rp 1 0/\st.T 10= .ts (K.flatMap AZ) C/\st.T 46= .ts (E.flatMap cRw) R/\st.T 47=I R/\st.T 48=I i/\st.T 12=I i/\st.T 13=LI r/\st.T 53= .ts (K.flatMap AZ) C/\st.T 54=I C/\st.T 55=I c/\4<st.nx /\
     st.σ 0=some ⟨[I 0,I 0,.nil,.nil,.nil],0,true⟩/\st.σ 1=some ⟨[I R,I C,.rs 2 0 (R*C),.rs 3 0 R,.rs 4 0 C],0,true⟩/\st.σ 2=some ⟨(A8 FA (i*C+c)).flatMap cI,1,true⟩/\st.σ 3=some ⟨(List.replicate R 0).flatMap cI,1,true⟩/\st.σ 4=some ⟨(List.replicate C 0).flatMap cI,1,true⟩)
    (fun x=>∃T2 σ2 BH,x=(.exit 2,⟨T2,σ2,BH⟩)/\T2 0= .tp (aC s) 0/\T2 1=LI l/\T2 8= .rp 0 0/\T2 11= .rp 1 0/\T2 10= .ts (K.flatMap AZ) C/\T2 46= .ts (E.flatMap cRw) R/\T2 47=I R/\T2 48=I i/\4<BH /\
     σ2 0=some ⟨[I 0,I 0,.nil,.nil,.nil],0,true⟩/\σ2 1=some ⟨[I R,I C,.rs 2 0 (R*C),.rs 3 0 R,.rs 4 0 C],0,true⟩/\σ2 2=some ⟨(A8 FA (i*C+C)).flatMap cI,1,true⟩/\σ2 3=some ⟨(List.replicate R 0).flatMap cI,1,true⟩/\σ2 4=some ⟨(List.replicate C 0).flatMap cI,1,true⟩) (by
     clear hL;rintro c ⟨T2,σ2,BH⟩ hc ⟨t0,t1,t8,t11,t10,t46,t47,t48,t12,t13,t53,t54,t55,G,s0,J,S,Y,s4⟩;simp only at t0 t1 t8 t11 t10 t46 t47 t48 t12 t13 t53 t54 t55 G s0 J S Y s4;have a1:(c:Int)<(C:Int):=by omega
     have a2:=nP c;have a3:=iF (n:=(c:Int)+1);have b8:c<K.length:=by omega
     have a4:=kG (c:=AZ) (s:=2) (fun _=>rfl) K c b8;have a5:=kE (c:=AZ) (s:=2) (fun _=>rfl) (by omega) K c b8;have a6:(K.flatMap AZ).length=C*2:=by rw[kD (c:=AZ) (s:=2) (fun _=>rfl),hC]
     have a7:c*2+2<=C*2:=by omega
     have b6:K[c]∈cols s s.members.length:=by rw[<- hK];exact zq b8
     obtain⟨⟨k,hk,j3⟩,c0⟩:=JB b6;have hq:i*C+c<FA.length:=by omega
     have b2:=h7 c hi hc hq;rw[<- er]at b2;obtain⟨kp,h9⟩:∃kp,kp=K[c]:=⟨_,rfl⟩;rw[<- h9]at a4 hk c0 b2;obtain⟨j4,b7⟩:=kp;simp only at hk c0 b2 a4;subst hk;rw[zM]at b2;have a8:=idx (xs:=r) (k:=k) (by omega);have e8:r[k]'(by omega)=r.getD k 0:=by rw[zx,zy (by omega)];rfl
     have i0:=h0 _ (zq (l:=r) (n:=k) (by omega));rw[e8]at a8 i0;have a9:=iI r k (by omega);have c2:(k:Int)<(r.length:Int):=by omega
     have c3:=nP k;have j5:-100<=b7*r.getD k 0/\b7*r.getD k 0<=100:=by rcases c0 with e|e<;>rw[e]<;>omega
     have a12:=iF (n:=b7*r.getD k 0);have c4:(i:Int)*(C:Int)=((i*C:Nat):Int):=by push_cast;rfl
     have c5:=iF (n:=((i*C:Nat):Int));have c6:((i*C:Nat):Int)+(c:Int)=((i*C+c:Nat):Int):=by omega
     have c7:=iF (n:=((i*C+c:Nat):Int));have c8:((i*C+c:Nat):Int)<((R*C:Nat):Int):=by omega
     have c9:(0:Int)<=((i*C+c:Nat):Int):=by omega
     have e0:i*C+c<R*C:=by omega
     have a20:i*C+c+1<=R*C:=by omega
     have a21:((A8 FA (i*C+c)).flatMap cI).length=R*C:=by rw[sS,Jy _ (by omega),b3]
     have i1:((A8 FA (i*C+c)).flatMap cI).set (i*C+c) (I (b7*r.getD k 0))=(A8 FA (i*C+c+1)).flatMap cI:=by
      rw[sQ,<- Jz FA hq,b2]
     have i2:(r.flatMap cI).length=r.length:=sS r;have d0:¬0=BH:=by omega
     have d1:¬1=BH:=by omega
     have d2:¬2=BH:=by omega
     have d3:¬3=BH:=by omega
     have d4:¬4=BH:=by omega
     have d5:¬BH=2:=by omega
     have d6:1<BH+1:=by omega
     have d7:2<BH+1:=by omega
     have d8:BH<BH+1:=by omega
     have d9:¬BH=1:=by omega
     refine .inl ⟨_,by simp only[go_sem,t0,t1,t8,t11,t10,t46,t47,t48,t12,t13,t53,t54,t55,J,S,a1,a2,a3,a4,a5,a6,a7,a8,a9,c2,c3,a12,c4,c5,c6,c7,c8,c9,e0,a20,a21,i1,i2,d0,d1,d2,d3,d4,d5,d6,d7,d8,d9];rfl,?_⟩;simp only[go_sem,t0,t1,t8,t11,t10,t46,t47,t48,t12,t13,t53,t54];refine⟨rfl,by omega,?_,?_,rfl,?_,?_⟩
     .rw[iY _ _ d0];exact s0
     .rw[iY _ _ d1];exact J
     .rw[iY _ _ d3];exact Y
     .rw[iY _ _ d4];exact s4) (by
     rintro ⟨T2,σ2,BH⟩ ⟨t0,t1,t8,t11,t10,t46,t47,t48,t12,t13,t53,t54,t55,G,s0,J,S,Y,s4⟩;simp only at t0 t1 t8 t11 t10 t46 t47 t48 t12 t13 t53 t54 t55 G s0 J S Y s4;have a1:¬(C:Int)<(C:Int):=by omega
     refine⟨_,by simp only[go_sem,t54,t55,a1];rfl,by simp,_,_,_,rfl,?_⟩;simp only[go_sem,t0,t1,t8,t11,t10,t46,t47,t48];exact⟨G,s0,J,S,Y,s4⟩) (by
     simp only[go_sem,t0,t1,t8,t11,t10,t46,t47,t48];exact⟨G,s0,J,S,Y,s4⟩)
   refine⟨_,by simp only[go_sem,t0,t1,t8,t11,t10,t46,t47,t48,g3];rfl,.inl ⟨_,rfl,?_⟩⟩;simp only[go_sem,t0,t1,t8,t11,t10,t46,t47];refine⟨rfl,G,s0,J,?_,Y,s4⟩;rw[wY];exact S) (by
   rintro ⟨T,σ,nx⟩ ⟨t0,t1,t8,t11,t10,t46,t47,t48,G,s0,J,S,Y,s4⟩;simp only at t0 t1 t8 t11 t10 t46 t47 t48 G s0 J S Y s4;have g1:¬(R:Int)<(R:Int):=by omega
   refine⟨_,by simp only[go_sem,t47,t48,g1];rfl,by simp,_,_,_,rfl,?_⟩;simp only[go_sem,t0,t1,t8,t11];rw[<- b3,Mc]at S;exact⟨G,s0,J,S,Y,s4⟩) (by
   simp only[go_sem,L_,b3,<- lH])
 clear hL;simp only[go_sem,t0,k3];generalize hL:aA _ _=y;obtain⟨F,eF⟩:∃F,F=free s:=⟨_,rfl⟩;have i3:R=2*F.length:=by rw[eR,eF];rfl
 have e1:=Xv s l;obtain⟨O,h1⟩:∃O,O=fpB s l:=⟨_,rfl⟩;rw[<- h1]at e1⊢;rw[<- eF]at e1;have i4:∀i (hi:i<F.length),∃j:Nat,F[i]=(j:Int)/\j<s.au.length/\O[2*i]'(by omega)= -l.getD (2*j) 0/\O[2*i+1]'(by omega)= -l.getD (2*j+1) 0:=fun i hi=>by
  have b6:F[i]∈BF (AY s) s.au.length:=by subst eF;exact zq hi
  unfold BF at b6;obtain⟨j,hj,e⟩:=List.mem_map.mp b6;have i5:=List.mem_range.mp (List.mem_filter.mp hj).1;have e2:O=F.flatMap fun j=>[-l.getD (2*j.toNat) 0,-l.getD (2*j.toNat+1) 0]:=by rw[h1,eF];rfl
  have g0:=flat_get (fun j:Int=>[-l.getD (2*j.toNat) 0,-l.getD (2*j.toNat+1) 0]) (C:=2) (fun _=>rfl) F (i:=i) (c:=0) hi (by decide);have g1:=flat_get (fun j:Int=>[-l.getD (2*j.toNat) 0,-l.getD (2*j.toNat+1) 0]) (C:=2) (fun _=>rfl) F (i:=i) (c:=1) hi (by decide);rw[<- e2,<- e,zM]at g0 g1;refine⟨j,e.symm,i5,?_,?_⟩
  .rw[show i*2+0=2*i by omega,zy (by omega)]at g0
   exact Option.some.inj g0
  .rw[show i*2+1=2*i+1 by omega,zy (by omega)]at g1
   exact Option.some.inj g1
 have j6:F.length<=6:=by rw[eF];omega
 obtain⟨x,rfl,T3,b5,GV,rfl,t8,t11,s0,J,S,Y,s4⟩:=rP hL F.length (fun i st=>st.T 1=LI l/\st.T 8= .rp 0 0/\st.T 11= .rp 1 0/\st.T 80=LI F/\st.T 81=I F.length/\st.T 82=I i/\4<st.nx /\
   st.σ 0=some ⟨[I 0,I 0,.nil,.nil,.nil],0,true⟩/\st.σ 1=some ⟨[I R,I C,.rs 2 0 (R*C),.rs 3 0 R,.rs 4 0 C],0,true⟩/\st.σ 2=some ⟨FA.flatMap cI,1,true⟩/\st.σ 3=some ⟨(A8 O (2*i)).flatMap cI,1,true⟩/\st.σ 4=some ⟨(List.replicate C 0).flatMap cI,1,true⟩)
  (fun x=>∃T3 b5 GV,x=(.exit 4,⟨T3,b5,GV⟩)/\T3 8= .rp 0 0/\T3 11= .rp 1 0/\b5 0=some ⟨[I 0,I 0,.nil,.nil,.nil],0,true⟩/\b5 1=some ⟨[I R,I C,.rs 2 0 (R*C),.rs 3 0 R,.rs 4 0 C],0,true⟩/\b5 2=some ⟨FA.flatMap cI,1,true⟩/\b5 3=some ⟨O.flatMap cI,1,true⟩/\b5 4=some ⟨(List.replicate C 0).flatMap cI,1,true⟩) (by
   clear hL;rintro i ⟨T,σ,nx⟩ hi ⟨t1,t8,t11,t80,Xw,t82,G,s0,J,S,Y,s4⟩;simp only at t1 t8 t11 t80 Xw t82 G s0 J S Y s4;obtain⟨j,hj,j7,hx,hy⟩:=i4 i hi;have g1:(i:Int)<(F.length:Int):=by omega
   have g2:=nP i;have g3:=iF (n:=(i:Int)+1);have g4:=idx (xs:=F) (k:=i) hi;rw[hj]at g4;have g5:=iI F i hi;have a1:(2:Int)*(i:Int)=((2*i:Nat):Int):=by push_cast;rfl
   have a2:=iF (n:=((2*i:Nat):Int));have a3:((2*i:Nat):Int)+1=((2*i+1:Nat):Int):=by omega
   have a4:=iF (n:=((2*i+1:Nat):Int));have a5:(2:Int)*(j:Int)=((2*j:Nat):Int):=by push_cast;rfl
   have a6:=iF (n:=((2*j:Nat):Int));have a7:((2*j:Nat):Int)+1=((2*j+1:Nat):Int):=by omega
   have a8:=iF (n:=((2*j+1:Nat):Int));have h2:∀q (h:q<l.length),(l.flatMap cI)[q]?=some (I (l.getD q 0)):=fun q h=>by
    rw[idx h,zx,zy h];rfl
   have h3:∀q (h:q<l.length),-100<=l.getD q 0/\l.getD q 0<=100:=fun q h=>by
    rw[zx,zy h];exact hb _ (zq h)
   have a9:=h2 (2*j) (by omega);have c2:=h2 (2*j+1) (by omega);have b9:=h3 (2*j) (by omega);have j8:=h3 (2*j+1) (by omega);have c3:=iI l (2*j) (by omega);have a12:((2*j:Nat):Int)<(l.length:Int):=by omega
   have c4:((2*j+1:Nat):Int)<(l.length:Int):=by omega
   have c5:(0:Int)<=((2*j:Nat):Int):=by omega
   have c6:(0:Int)<=((2*j+1:Nat):Int):=by omega
   have c7:((2*i:Nat):Int)<(R:Int):=by omega
   have c8:((2*i+1:Nat):Int)<(R:Int):=by omega
   have c9:(0:Int)<=((2*i:Nat):Int):=by omega
   have e0:(0:Int)<=((2*i+1:Nat):Int):=by omega
   have w1:=iF (n:=-l.getD (2*j) 0);have w2:=iF (n:=-l.getD (2*j+1) 0);have w3:IntKind.i64.wrap (0-l.getD (2*j) 0)= -l.getD (2*j) 0:=by rw[iF];omega
   have w4:IntKind.i64.wrap (0-l.getD (2*j+1) 0)= -l.getD (2*j+1) 0:=by rw[iF];omega
   have p1:((A8 O (2*i)).flatMap cI).length=R:=by rw[sS,Jy _ (by omega)];omega
   have p2:((A8 O (2*i+1)).flatMap cI).length=R:=by rw[sS,Jy _ (by omega)];omega
   have p3:((A8 O (2*i)).flatMap cI).set (2*i) (I (-l.getD (2*j) 0))=(A8 O (2*i+1)).flatMap cI:=by
    rw[sQ,<- Jz O (k:=2*i) (by omega),hx]
   have p4:((A8 O (2*i+1)).flatMap cI).set (2*i+1) (I (-l.getD (2*j+1) 0))=(A8 O (2*i+1+1)).flatMap cI:=by
    rw[sQ,<- Jz O (k:=2*i+1) (by omega),hy]
   have p5:2*i<R:=by omega
   have p6:2*i+1<R:=by omega
   have p7:2*i+1<=R:=by omega
   have p8:2*i+1+1<=R:=by omega
   have p9:3<nx:=by omega
   have i6:1<nx:=by omega
   refine .inl ⟨_,by simp only[go_sem,t1,t8,t11,t80,Xw,t82,J,Y,g1,g2,g3,g4,g5,a1,a2,a3,a4,a5,a6,a7,a8,a9,c2,c3,a12,c4,c5,c6,c7,c8,c9,e0,w1,w2,w3,w4,p1,p2,p3,p4,p5,p6,p7,p8,p9,i6];rfl,?_⟩;simp only[go_sem,t1,t8,t11,t80,Xw];exact⟨rfl,G,s0,J,S,by rw[show 2*(i+1)=2*i+1+1 by omega],s4⟩) (by
   rintro ⟨T,σ,nx⟩ ⟨t1,t8,t11,t80,Xw,t82,G,s0,J,S,Y,s4⟩;simp only at t1 t8 t11 t80 Xw t82 G s0 J S Y s4;have g1:¬(F.length:Int)<(F.length:Int):=by omega
   refine⟨_,by simp only[go_sem,Xw,t82,g1];rfl,by simp,_,_,_,rfl,?_⟩;simp only[go_sem,t8,t11];have:A8 O (2*F.length)=O:=by rw[show 2*F.length=O.length by omega,Mc]
   rw[this]at Y;exact⟨s0,J,S,Y,s4⟩) (by
   simp only[go_sem,t1,t8,t11,Nat.mul_zero,L_,<- eF];rw[e1,<- i3];exact⟨h6,s0,J,S,Y,s4⟩)
 clear hL;have u1:R*C<=FA.length:=by omega
 have u2:R<=O.length:=by omega
 have u3:C<=(List.replicate C (0:Int)).length:=by simp
 have v1:(FA.flatMap cI).take (R*C)=FA.flatMap cI:=zk (by rw[sS];omega);have v2:(O.flatMap cI).take R=O.flatMap cI:=zk (by rw[sS];omega);have v3:((List.replicate C (0:Int)).flatMap cI).take C=(List.replicate C (0:Int)).flatMap cI:=zk (by rw[sS];simp);simp only[go_sem,t8,t11,s0,J,S,Y,s4,u1,u2,u3,v1,v2,v3];have w1:FA.length=R*C:=by omega
 have w2:O.length=R:=by omega
 have w3:(List.replicate C (0:Int)).length=C:=by simp
 show some (V.agg [I R,I C,V.ts (FA.flatMap cI) (R*C),V.ts (O.flatMap cI) R,V.ts ((List.replicate C (0:Int)).flatMap cI) C])=some (V.agg [I R,I C,V.ts (FA.flatMap cI) FA.length,V.ts (O.flatMap cI) O.length,V.ts ((List.replicate C (0:Int)).flatMap cI) (List.replicate C (0:Int)).length]);rw[w1,w2,w3]
theorem af_{P:Program}{t e:TypeId}{x y:Operand}(h:P.underlying t=some (.pointer e)):bD P .eql t x y (.sc (.pointer none)) (.sc (.pointer none))=some (Bo true):=by
 have key:aI P ((Op.equal t (.pointer none) (.pointer none)).bind fun r=>pure (Value.bool r))=some (.bool true):=by
  show aI P ((Op.equalIn (9999+1) t _ _).bind fun r=>pure (Value.bool r))=_;unfold Op.equalIn underlying;show aI P (.program fun p=>_)=_;simp only[aI];have pb:∀ {β E:Type} (a:β) (f:β->Sem E),(Sem.pure a).bind f=f a:=fun _ _=>rfl
  have G:∀ {β E:Type} (a:β) (f:β->Sem E),(pure a:Sem β).bind f=f a:=fun _ _=>rfl
  simp only[h,pb,G];rfl
 simp only[bD,toVal,eqGuard_at_pointer,pure_bind,binOp];erw[key];rfl
theorem aiV(x y:Operand):bD gu .eql 133 x y (.sc (.pointer none)) (.sc (.pointer none))=some (Bo true):=af_ Tryz.underlying133
attribute [go_sem] aiV
def aos:Option Rat->Option Rat->Option Rat
 |some x,some y=>Fz (x+y)
 |_,_=>none
def Kv:Option Rat->Option Rat->Option Rat
 |some x,some y=>Fz (x*y)
 |_,_=>none
def LnO(k:Nat)(a:Option Rat):Prop:=∀x,a=some x->Ln k x
theorem aot(a:Option Rat):fn gu conv ext 148 [pQ a]=some (pQ (a.map fun x=> -x)):=by
 cases a with
 |none=>
  show fn gu conv ext 148 [.sc (.pointer none)]=some (.sc (.pointer none))
  rw[qB,qO [.tmp 2] [] func148];simp only[go_sem]
 |some x=>
  have k:=oP x.num;have E:(-x).num= -x.num:=rfl;have G:(-x).den=x.den:=rfl;show fn gu conv ext 148 [.tp (cQ x) 0]=some (.tp (cQ (-x)) 0)
  rw[qB,qO [.tmp 2] [] func148];unfold cQ;rw[E,G];unfold cZ at k;simp only[go_sem,k]
theorem JC(σ:Store)(a:Option Rat):Option.map (fun x=>x.1) (strip σ 7 (pQ a))=some (pQ a):=by
 cases a with
 |none=>rfl
 |some q=>unfold pQ;rw[jO];rfl
theorem al2{a b:Option Rat}(ha:LnO 100 a)(hb:LnO 100 b):fn gu aY bY 149 [pQ a,pQ b]=some (pQ (aos a b)):=by
 cases a with
 |none=>
  show fn gu aY bY 149 [.sc (.pointer none),pQ b]=some (.sc (.pointer none));rw[qB,qO [.tmp 4] [] func149];simp only[go_sem]
 |some x=>cases b with
  |none=>
   show fn gu aY bY 149 [.tp (cQ x) 0,.sc (.pointer none)]=some (.sc (.pointer none));rw[qB,qO [.tmp 4] [] func149];simp only[go_sem]
  |some y=>
   have E:=acw x y ((ha x rfl).mono (by decide)) ((hb y rfl).mono (by decide));have G:=alu (x+y) (Ln.mono (acT (ha x rfl) (hb y rfl) ) (by decide));show fn gu aY bY 149 [.tp (cQ x) 0,.tp (cQ y) 0]=some (pQ (Fz (x+y)));rw[qB,qO [.tmp 4] [] func149];simp only[go_sem,E,G];exact JC _ _
theorem al3{a b:Option Rat}(ha:LnO 100 a)(hb:LnO 100 b):fn gu aY bY 153 [pQ a,pQ b]=some (pQ (Kv a b)):=by
 cases a with
 |none=>
  show fn gu aY bY 153 [.sc (.pointer none),pQ b]=some (.sc (.pointer none));rw[qB,qO [.tmp 4] [] func153];simp only[go_sem]
 |some x=>cases b with
  |none=>
   show fn gu aY bY 153 [.tp (cQ x) 0,.sc (.pointer none)]=some (.sc (.pointer none));rw[qB,qO [.tmp 4] [] func153];simp only[go_sem]
  |some y=>
   have E:=Xh x y ((ha x rfl).mono (by decide)) ((hb y rfl).mono (by decide));have G:=alu (x*y) (Ln.mono (acS (ha x rfl) (hb y rfl) (by decide)) (by decide));show fn gu aY bY 153 [.tp (cQ x) 0,.tp (cQ y) 0]=some (pQ (Fz (x*y)));rw[qB,qO [.tmp 4] [] func153];simp only[go_sem,E,G];exact JC _ _
abbrev Ci(a:Option Rat):List V:=[pQ a]
def aga(o:Option Rat)(v:Rat):Option Rat:=match o with
 |none=>some v
 |some y=>Fz (y+v)
def sgQ(s:Int)(x:Rat):Rat:=if s<0 then -x else x
def Ew(K:List (Int×Int))(X:List Rat)(nm:Nat):Nat->List (Option Rat)
 |0=>List.replicate nm none
 |c+1=>(Ew K X nm c).set (K.getD c (0,0)).1.toNat (aga ((Ew K X nm c).getD (K.getD c (0,0)).1.toNat none) (sgQ (K.getD c (0,0)).2 (X.getD c 0)))
theorem Ey(K:List (Int×Int))(X:List Rat)(nm:Nat):∀c,(Ew K X nm c).length=nm
 |0=>by simp[Ew]
 |c+1=>by rw[Ew,yO];exact Ey K X nm c
theorem Xx{q y:Rat}(h:Fz q=some y):Ln 24 y:=by
 unfold Fz at h
 split at h
 .cases h;assumption
 .cases h
theorem OI{K:List (Int×Int)}{X:List Rat}{nm:Nat}(O:∀x∈X,Ln 24 x):∀c,∀o∈Ew K X nm c,LnO 24 o
 |0=>fun o G y E=>by
  have:=(List.mem_replicate.mp G).2;rw[this]at E;cases E
 |c+1=>fun o G y E=>by
  rw[Ew]at G;rcases vO G with h|h
  .exact OI O c o h y E
  .subst h
   unfold aga at E
   split at E
   .cases E
    have J:Ln 24 (X.getD c 0):=by
     rw[zx]
     by_cases hc:c<X.length
     .rw[zy hc];exact O _ (zq hc)
     .rw[yZ (by omega)];exact(uV (z:=0) (by decide)).mono (by decide)
    unfold sgQ
    split
    .have S:(-(X.getD c 0)).num= -(X.getD c 0).num:=rfl
     have Y:(-(X.getD c 0)).den=(X.getD c 0).den:=rfl;exact⟨by rw[S,vg];exact J.1,by rw[Y];exact J.2⟩
    .exact J
   .exact(Xx E).mono (by decide)
theorem agb(X:List (Option Rat)):∀(k:Nat) (q:Option Rat),(X.flatMap Ci).set k (pQ q)=(X.set k q).flatMap Ci:=by
 induction X with
 |nil=>intro k q;rfl
 |cons a X E=>intro k q;cases k with
  |zero=>rfl
  |succ k=>show pQ a :: ((X.flatMap Ci).set k (pQ q))=_;rw[E];rfl
theorem adf(N:Nat):rep N [V.sc (.pointer none)]=(List.replicate N (none:Option Rat)).flatMap Ci:=by
 induction N with
 |zero=>rfl
 |succ N E=>rw[lF,E,yL];rfl
theorem adg(a:Option Rat):cellsOfV (pQ a)=some [pQ a]:=by cases a<;>rfl
theorem agc(a:Option Rat):aJ (pQ a)=true:=by cases a<;>rfl
theorem FN(σ:Store)(d:Nat):∀X:List (Option Rat),stripL (strip σ d) (X.flatMap Ci)=some (X.flatMap Ci,[])
 |[]=>by rw[wZ,jX]
 |a :: X=>by
  rw[zJ,show Ci a++X.flatMap Ci=pQ a :: X.flatMap Ci from rfl,jd,FN σ d X];cases a with
  |none=>unfold pQ;rw[jQ];rfl
  |some q=>unfold pQ;rw[jO];rfl
attribute [go_sem] adg agc
def Xy:=kD (c:=Ci) (s:=1) (fun _=>rfl)
theorem al4{s:Structure}(h:SG s){X:List Rat}(hX:X.length=(cols s s.members.length).length)(hL:∀x∈X,Ln 24 x) :
  fn gu aY bY 109 [.tp (aC s) 0,LL cF X]=some (LL Ci (Ew (cols s s.members.length) X s.members.length (cols s s.members.length).length)):=by
 have e0:=h.nm;have e3:=rQ s s.members.length;have k2:=Jv h;have m1:(0:Int)<=(s.members.length:Int):=by omega
 have m2:8*(s.members.length:Int)<=281474976710656:=by omega
 have m3:(s.members.length:Int)<=9223372036854775807:=by omega
 obtain⟨K,hK⟩:∃K,K=cols s s.members.length:=⟨_,rfl⟩;have c5:∀c (hc:c<K.length),(∃k:Nat,K[c].1=(k:Int)/\k<s.members.length)/\(K[c].2=1\/K[c].2= -1):=fun c hc=>by subst hK;exact JB (zq hc)
 rw[<- hK]at k2 hX e3⊢;rw[qB,qO [.tmp 4] [10] func109];simp only[go_sem,k2,m1,m2,m3];generalize c6:aA _ _=y;obtain⟨nm,c7⟩:∃nm,nm=s.members.length:=⟨_,rfl⟩;rw[<- c7]at c5 e0 m1 m2 m3⊢;obtain⟨x,rfl,T1,S,aO,rfl,t5,s0⟩:=rP c6 K.length (fun c st=>st.T 1=LL cF X/\st.T 5= .rs 0 0 nm/\st.T 16=LL AZ K/\st.T 17=I K.length/\st.T 18=I c/\0<st.nx/\st.σ 0=some ⟨(Ew K X nm c).flatMap Ci,1,true⟩)
  (fun x=>∃T1 S aO,x=(.exit 0,⟨T1,S,aO⟩)/\T1 5= .rs 0 0 nm/\S 0=some ⟨(Ew K X nm K.length).flatMap Ci,1,true⟩) (by
   clear c6;rintro c ⟨T,σ,nx⟩ hc ⟨t1,t5,t16,t17,Kw,c0,s0⟩;simp only at t1 t5 t16 t17 Kw c0 s0;have g1:(c:Int)<(K.length:Int):=by omega
   have g2:=nP c;have g3:=iF (n:=(c:Int)+1);have a4:=kG (c:=AZ) (s:=2) (fun _=>rfl) K c hc;have a5:=kE (c:=AZ) (s:=2) (fun _=>rfl) (by omega) K c hc;have a6:=kD (c:=AZ) (s:=2) (fun _=>rfl) K;have a7:c*2+2<=K.length*2:=by omega
   have a8:=FH X (k:=c) (by omega);have a9:(X.flatMap cF).length=X.length:=sZ X;have Y:(c:Int)<(X.length:Int):=by omega
   have a1:X.flatMap cF≠[]:=fun e=>by rw[e]at a9;have:X.length=0:=a9.symm;omega
   obtain⟨⟨k,hk,J⟩,c2⟩:=c5 c hc;have G:Ew K X nm (c+1)=(Ew K X nm c).set K[c].1.toNat (aga ((Ew K X nm c).getD K[c].1.toNat none) (sgQ K[c].2 X[c])):=by
    rw[Ew];have e1:K.getD c (0,0)=K[c]:=by rw[zx,zy hc];rfl
    have e2:X.getD c 0=X[c]'(by omega):=by rw[zx,zy (by omega)];rfl
    rw[e1,e2]
   have b7:=hL _ (zq (l:=X) (n:=c) (by omega));obtain⟨kp,e4⟩:∃kp,kp=K[c]:=⟨_,rfl⟩;rw[<- e4]at a4 hk c2 G;obtain⟨k1,c8⟩:=kp;simp only at hk c2 G;subst hk;rw[zM]at G;obtain⟨E,e5⟩:∃E,E=X[c]'(by omega):=⟨_,rfl⟩;rw[<- e5]at a8 G b7;have hlen:=Ey K X nm c;have c9:=OI (K:=K) (nm:=nm) hL c;obtain⟨O,eO⟩:∃O,O=Ew K X nm c:=⟨_,rfl⟩;rw[<- eO]at s0 G hlen c9;have b1:=kF (fun a=>pQ a) O k (by omega);have b1:(O.flatMap Ci)[k]?=some (pQ (O.getD k none)):=by
    rw[b1,zx,zy (by omega)];rfl
   have c3:LnO 24 (O.getD k none):=by
    rw[zx,zy (by omega)];exact c9 _ (zq _)
   have b2:(O.flatMap Ci).length=nm:=by rw[Xy,hlen,yj]
   have b3:(k:Int)<(nm:Int):=by omega
   have b4:=nP k;have b5:k+1<=nm:=J;have b8:Ln 24 (sgQ c8 E):=by
    unfold sgQ
    split
    .exact⟨by show ln (-E.num).natAbs<=24;rw[vg];exact b7.1,b7.2⟩
    .exact b7
   have b6:=agb O k (aga (O.getD k none) (sgQ c8 E));rw[<- G]at b6;obtain⟨o,eo⟩:∃o,o=O.getD k none:=⟨_,rfl⟩;rw[<- eo]at b1 b6 c3;have b9:fn gu conv ext 148 [.tp (cQ E) 0]=some (.tp (cQ (-E)) 0):=aot (some E)
   have d0:¬nx=0:=by omega
   have d1:¬0=nx:=by omega
   have d2:0<nx+1:=by omega
   have d3:nx<nx+1:=by omega
   refine ji ?_;have n1:¬(1:Int)<0:=by decide
   have n2:(-1:Int)<0:=by decide
   rcases c2 with rfl|rfl
   .have sv:sgQ 1 E=E:=rfl
    rw[sv]at b6 b8;rcases o with _|y
    .have e6:(O.flatMap Ci).set k (.tp (cQ (E)) 0)=(Ew K X nm (c+1)).flatMap Ci:=b6
     have e1:(O.flatMap Ci)[k]?=some (.sc (.pointer none)):=b1;refine⟨_,by simp only[go_sem,t1,t5,t16,t17,Kw,s0,g1,g2,g3,a4,a5,a6,a7,a8,a9,Y,a1,b2,b3,b4,b5,J,e1,e6,b9,n1,n2,d0,d1,d2,d3];rfl,.inl ⟨_,rfl,?_⟩⟩;simp only[go_sem,t1,t5,t16,t17,d0,d1,d2]
     first|rfl|exact⟨rfl,rfl⟩|trace_state
    .have e6:(O.flatMap Ci).set k (pQ (Fz (y+E)))=(Ew K X nm (c+1)).flatMap Ci:=b6
     have e1:(O.flatMap Ci)[k]?=some (.tp (cQ y) 0):=b1;have c4:fn gu aY bY 149 [.tp (cQ y) 0,.tp (cQ (E)) 0]=some (pQ (Fz (y+E))):=al2 (a:=some y) (b:=some (E)) (fun z hz=>(c3 z hz).mono (by decide)) (fun z hz=>by cases hz;exact b8.mono (by decide));refine⟨_,by simp only[go_sem,t1,t5,t16,t17,Kw,s0,g1,g2,g3,a4,a5,a6,a7,a8,a9,Y,a1,b2,b3,b4,b5,J,e1,e6,b9,c4,n1,n2,d0,d1,d2,d3];rfl,.inl ⟨_,rfl,?_⟩⟩;simp only[go_sem,t1,t5,t16,t17,d0,d1,d2]
     first|rfl|exact⟨rfl,rfl⟩|trace_state
   .have sv:sgQ (-1) E= -E:=rfl
    rw[sv]at b6 b8;rcases o with _|y
    .have e6:(O.flatMap Ci).set k (.tp (cQ (-E)) 0)=(Ew K X nm (c+1)).flatMap Ci:=b6
     have e1:(O.flatMap Ci)[k]?=some (.sc (.pointer none)):=b1;refine⟨_,by simp only[go_sem,t1,t5,t16,t17,Kw,s0,g1,g2,g3,a4,a5,a6,a7,a8,a9,Y,a1,b2,b3,b4,b5,J,e1,e6,b9,n1,n2,d0,d1,d2,d3];rfl,.inl ⟨_,rfl,?_⟩⟩;simp only[go_sem,t1,t5,t16,t17,d0,d1,d2]
     first|rfl|exact⟨rfl,rfl⟩|trace_state
    .have e6:(O.flatMap Ci).set k (pQ (Fz (y+ -E)))=(Ew K X nm (c+1)).flatMap Ci:=b6
     have e1:(O.flatMap Ci)[k]?=some (.tp (cQ y) 0):=b1;have c4:fn gu aY bY 149 [.tp (cQ y) 0,.tp (cQ (-E)) 0]=some (pQ (Fz (y+ -E))):=al2 (a:=some y) (b:=some (-E)) (fun z hz=>(c3 z hz).mono (by decide)) (fun z hz=>by cases hz;exact b8.mono (by decide));refine⟨_,by simp only[go_sem,t1,t5,t16,t17,Kw,s0,g1,g2,g3,a4,a5,a6,a7,a8,a9,Y,a1,b2,b3,b4,b5,J,e1,e6,b9,c4,n1,n2,d0,d1,d2,d3];rfl,.inl ⟨_,rfl,?_⟩⟩;simp only[go_sem,t1,t5,t16,t17,d0,d1,d2]
     first|rfl|exact⟨rfl,rfl⟩|trace_state) (by
   rintro ⟨T,σ,nx⟩ ⟨t1,t5,t16,t17,Kw,c0,s0⟩;simp only at t1 t5 t16 t17 Kw c0 s0;have g1:¬(K.length:Int)<(K.length:Int):=by omega
   refine⟨_,by simp only[go_sem,t17,Kw,g1];rfl,by simp,_,_,_,rfl,?_⟩;simp only[go_sem,t5];exact s0) (by
   simp only[go_sem,<- c7];rw[Ew,<- adf])
 have hlen:=Ey K X nm K.length;have u1:nm<=((Ew K X nm K.length).flatMap Ci).length:=by rw[Xy,hlen];omega
 have u2:((Ew K X nm K.length).flatMap Ci).take nm=(Ew K X nm K.length).flatMap Ci:=zk (by rw[Xy,hlen];omega);have u3:=FN S 6 (Ew K X nm K.length);simp only[go_sem,t5,s0,u1,u2,u3];show some (V.ts _ nm)=some (V.ts _ (Ew K X nm K.length).length);rw[hlen]
def fpP(s:Structure)(l:List Int):Prog:=g_ (ZC s) (fpB s l) (List.replicate (CQ s) 0) (R_ s) (CQ s)
theorem aiX{s:Structure}(h:SG s):∀x∈ZC s,-1000<=x/\x<=1000:=fun x E=>by
 unfold ZC at E;obtain⟨r,G,E⟩:=List.mem_flatMap.mp E;obtain⟨p,hp,rfl⟩:=List.mem_map.mp E;have hb:-100<=r.getD p.1.toNat 0/\r.getD p.1.toNat 0<=100:=by
  rw[zx]
  by_cases hi:p.1.toNat<r.length
  .rw[zy hi];exact RZ h G _ (zq hi)
  .rw[yZ (by omega)];simp
 rcases (JB hp).2 with e|e<;>rw[e]<;>omega
theorem aiY{s:Structure}{l:List Int}(hb:∀x∈l,-100<=x/\x<=100):∀x∈fpB s l,-1000<=x/\x<=1000:=fun x E=>by
 unfold fpB at E;obtain⟨j,-,E⟩:=List.mem_flatMap.mp E;have key:∀q,-100<=l.getD q 0/\l.getD q 0<=100:=fun q=>by
  rw[zx]
  by_cases hi:q<l.length
  .rw[zy hi];exact hb _ (zq hi)
  .rw[yZ (by omega)];simp
 simp only[zQ,zG,or_false]at E;rcases E with rfl|rfl
 .have:=key (2*j.toNat);omega
 .have:=key (2*j.toNat+1);omega
theorem al6{s:Structure}(h:SG s){l:List Int}(hb:∀x∈l,-100<=x/\x<=100)(E:0<R_ s):GY (ZC s) (fpB s l) (List.replicate (CQ s) 0) (R_ s) (CQ s):=by
 have J:=Jw s;have O:=h.nj;have S:=rQ s s.members.length;have Y:=h.nm;refine⟨Xu s,Xv s l,by simp,E,by unfold R_;omega,by unfold CQ;omega,aiX h,aiY hb,fun x G=>?_⟩;rw[(List.mem_replicate.mp G).2];omega
theorem ZF{s:Structure}(h:dZ s)(J:free s=[]):s.members=[]:=by
 refine zh fun hn=>?_
 obtain⟨m,ms,e⟩:=List.exists_cons_of_ne_nil hn;have hm:m∈s.members:=by rw[e];simp
 have E:=h.2.2.2 m hm;have G:f_ s.au.length m:=zh fun G=>by rw[nU G]at E;cases E
 obtain⟨O,S,Y,r4,r5,r6⟩:=G;have ha:m.a.toNat<s.au.length:=by omega
 have hb:m.b.toNat<s.au.length:=by omega
 rw[KZ ⟨O,S,Y,r4,r5,r6⟩ (zy ha) (zy hb)]at E;have fixed:∀i (hi:i<s.au.length),s.au[i].fixed=true:=fun i hi=>by
  cases hf:s.au[i].fixed with
  |true=>rfl
  |false=>
   have hq:AY s i=true:=by simp[AY,zy hi,hf]
   have:(i:Int)∈free s:=by
    unfold free BF;exact List.mem_map.mpr ⟨i,List.mem_filter.mpr ⟨List.mem_range.mpr hi,hq⟩,rfl⟩
   rw[J]at this;cases this
 unfold IK at E;rw[fixed _ ha,fixed _ hb]at E;simp at E
theorem agh{s:Structure}(h:dZ s){l:List Int}(hb:∀x∈l,-100<=x/\x<=100):∃r,fn gu aY bY 107 [.tp (Af (R_ s) (CQ s) (ZC s) (fpB s l) (List.replicate (CQ s) 0)) 0]=some r/\alO (fpP s l) r:=by
 by_cases Y:0<R_ s
 .exact aiQ (al6 h.sg hb Y)
 .have E:free s=[]:=zN (by unfold R_ at Y;omega)
  have e1:=ZF h E;have G:R_ s=0:=by omega
  have J:CQ s=0:=by unfold CQ;rw[e1];rfl
  have O:ZC s=[]:=by unfold ZC fP;rw[E];rfl
  have S:fpB s l=[]:=by unfold fpB;rw[E];rfl
  refine⟨_,by rw[G,J,O,S];exact af5,.inr (.inr ⟨fun _=>0,?_,fun j hj=>?_,?_⟩)⟩
  .unfold fpP
   rw[G,J,O,S];refine⟨⟨fun k hk=>absurd hk (zK k),fun j hj=>absurd hj (zK j)⟩,fun y hy=>?_⟩;refine .inr fun q _=>?_
   show(0:Rat) - 0=0;grind
  .exact(uV (z:=0) (by decide)).mono (by decide)
  .unfold fpP
   rw[G,J,O,S];rfl
def al7(s:Structure)(l:List Int)(r:V):Prop:=(r= .dF [.ts [] 0,.ts [] 0,Bo false]/\((fpP s l).None\/(fpP s l).Open)) \/
 ∃x:Nat->Rat,(fpP s l).Best x/\(∀j,j<CQ s->Ln 24 (x j))/\r= .dF [LL Ci (Ew (cols s s.members.length) ((List.range (CQ s)).map x) s.members.length (CQ s)),.ts [] 0,Bo true]
theorem agi{s:Structure}(h:dZ s){l:List Int}(hb:∀x∈l,-100<=x/\x<=100):∃r,fn gu aY bY 72 [.tp (aC s) 0,.agg (Af (R_ s) (CQ s) (ZC s) (fpB s l) (List.replicate (CQ s) 0))]=some r/\al7 s l r:=by
 obtain⟨r0,E,hr⟩:=agh h hb;have k2:=Jv h.sg;have hC:(cols s s.members.length).length=CQ s:=rfl;obtain⟨C,eC⟩:∃C,C=CQ s:=⟨_,rfl⟩;have hn:(fpP s l).n=CQ s:=rfl;have a1:CQ s<=16:=by have:=rQ s s.members.length;have:=h.sg.nm;omega
 rw[qB,qO [.tmp 4,.tmp 5,.tmp 6] [] func72];unfold Af at E⊢;rcases hr with ⟨rfl,G⟩|⟨rfl,G⟩|⟨x,G,S,rfl⟩
 .refine⟨_,by simp only[go_sem,E];rfl,.inl ⟨rfl,.inl G⟩⟩
 .refine⟨_,by simp only[go_sem,E];rfl,.inl ⟨rfl,.inr G⟩⟩
 .rw[hn]at E S
  obtain⟨X,O⟩:∃X:List Rat,X=(List.range (CQ s)).map x:=⟨_,rfl⟩;have J:X.length=CQ s:=by rw[O];simp
  have kf:=al4 h.sg (X:=X) (by rw[J];rfl) (fun y hy=>by
   rw[O]at hy;obtain⟨j,hj,rfl⟩:=List.mem_map.mp hy;exact S j (List.mem_range.mp hj))
  rw[<- O]at E;have Y:fn gu conv ext 108 [.tp (aC s) 0]=some (.ts ((cols s s.members.length).flatMap AZ) X.length):=by rw[J];exact k2
  have z1:(X.flatMap cF).take X.length=X.flatMap cF:=zk (by rw[sZ];exact zu _);have z2:(X.flatMap cF).drop X.length=[]:=yD (by rw[sZ];exact zu _);have z0:(0:Int)<=(X.length:Int):=by omega
  refine⟨_,by simp only[go_sem,E,Y,z0,z1,z2,kf,yh,List.take_nil,FN];rfl,.inr ⟨x,G,S,?_⟩⟩;rw[<- O];rfl
def fA:List (Option Rat)->Option (List Rat)
 |[]=>some []
 |none :: _=>none
 |some q :: l=>(fA l).map (q :: ·)
theorem kK:∀(l:List (Option Rat)) (a:Option Rat),fA (l++[a])=(fA l).bind fun qs=>a.map fun q=>qs++[q]
 |[],none=>rfl
 |[],some q=>rfl
 |none :: l,a=>rfl
 |some q :: l,a=>by
  show(fA (l++[a])).map _=((fA l).map _).bind _;rw[kK l a];cases fA l with
  |none=>rfl
  |some qs=>cases a<;>rfl
theorem FP:∀ {l l':List (Option Rat)},fA l=none->fA (l++l')=none
 |[],_,h=>by cases h
 |none :: l,_,_=>rfl
 |some q :: l,l',h=>by
  show(fA (l++l')).map _=none;have:fA l=none:=by
   cases e:fA l with
   |none=>rfl
   |some qs=>rw[show fA (some q :: l)=(fA l).map (q :: ·)from rfl,e]at h;cases h
  rw[FP this];rfl
theorem kL:∀ {l:List (Option Rat)} {qs:List Rat},fA l=some qs->qs.length=l.length
 |[],qs,h=>by cases h;rfl
 |none :: l,_,h=>by cases h
 |some q :: l,qs,h=>by
  cases e:fA l with
  |none=>rw[show fA (some q :: l)=(fA l).map (q :: ·)from rfl,e]at h;cases h
  |some rs=>rw[show fA (some q :: l)=(fA l).map (q :: ·)from rfl,e]at h;cases h;simp[kL e]
abbrev zR:List V:=[Bo false,.nil,.nil]
def Ky(qs:List Rat)(n:Nat):List V:=qs.flatMap cQ++rep (n-qs.length) zR
def Xz:=kD (c:=cQ) (s:=3) (fun _=>rfl)
theorem Si(qs:List Rat){n:Nat}(h:qs.length<=n):(Ky qs n).length=n*3:=by
 unfold Ky;rw[zo,Xz,lG];simp only[zi,yw];omega
theorem adh(qs:List Rat){n:Nat}(h:qs.length<n)(q:Rat):patch (Ky qs n) (qs.length*3) (cQ q)=Ky (qs++[q]) n:=by
 have E:=Xz qs;rw[mQ _ _ _ (by rw[Si qs (by omega)];show qs.length*3+3<=n*3;omega)];unfold Ky;rw[w_ (by omega),zk (by omega),zC,zo,yT,show n-qs.length=n - (qs.length+1)+1 by omega,lF];rw[List.drop_append,yD (by rw[E];omega),wR,E,show qs.length*3+(cQ q).length-qs.length*3=3 by show qs.length*3+3-qs.length*3=3;omega];simp
theorem ZG(σ:Store)(d:Nat)(qs:List Rat):stripL (strip σ d) (qs.flatMap cQ)=some (qs.flatMap cQ,[]):=jW (fun q=>Jc σ d q) qs
theorem adi(q:Rat):(cQ q).all aJ=true:=rfl
theorem agj(q:Rat):(cQ q).take 3=cQ q:=rfl
theorem agk(q:Rat):(cQ q).length=3:=rfl
attribute [go_sem] adi agj agk
def Bg(O:List (Option Rat)):V:=match fA O with
 |some qs=> .dF [LL cQ qs,Bo true]
 |none=> .dF [.ts [] 0,Bo false]
theorem agl(O:List (Option Rat))(hL:∀o∈O,LnO 24 o)(hn:O.length<=1000):fn gu conv ext 74 [LL Ci O]=some (Bg O):=by
 have m1:(0:Int)<=(O.length:Int):=by omega
 have m2:56*(O.length:Int)<=281474976710656:=by omega
 have m3:(O.length:Int)<=9223372036854775807:=by omega
 rw[qB,qO [.tmp 2,.tmp 3] [] func74];simp only[go_sem,m1,m2,m3];generalize Y:aA _ _=y;obtain⟨x,rfl,hx⟩:=rP Y O.length (fun k st=>st.T 4= .rs 0 0 O.length/\st.T 10=LL Ci O/\st.T 11=I O.length/\st.T 12=I k/\0<st.nx/\∃qs,fA (O.take k)=some qs/\st.σ 0=some ⟨Ky qs O.length,3,true⟩)
  (fun x=>∃T σ nx,(x=(.exit 0,⟨T,σ,nx⟩)/\T 4= .rs 0 0 O.length/\∃qs,fA O=some qs/\σ 0=some ⟨Ky qs O.length,3,true⟩)\/(x=(.ret,⟨T,σ,nx⟩)/\T 2= .nil/\T 3=Bo false/\fA O=none)) (by
   clear Y;rintro k ⟨T,σ,nx⟩ S ⟨t4,t10,t11,t12,G,qs,E,s0⟩;simp only at t4 t10 t11 t12 G s0;have g1:(k:Int)<(O.length:Int):=by omega
   have g2:=nP k;have g3:=iF (n:=(k:Int)+1);have g4:(O.flatMap Ci)[k]?=some (pQ O[k]):=kF (fun a=>pQ a) O k S;have g5:=kE (c:=Ci) (s:=1) (fun _=>rfl) (by omega) O k S;have g6:=Xy O;rw[yj]at g6;have a1:qs.length=k:=by rw[kL E,zY];omega
   have J:O.take (k+1)=O.take k++[O[k]]:=jK S;have ho:=hL _ (zq S);obtain⟨o,eo⟩:∃o,o=O[k]:=⟨_,rfl⟩;rw[<- eo]at g4 J ho;cases o with
   |none=>
    have g4:(O.flatMap Ci)[k]?=some (.sc (.pointer none)):=g4;refine .inr ⟨_,by simp only[go_sem,t4,t10,t11,t12,g1,g2,g4,g5,g6,S];rfl,by simp,_,_,_,.inr ⟨rfl,?_⟩⟩;simp only[go_sem];have:O=O.take (k+1)++O.drop (k+1):=(wJ _ _).symm;rw[this,J];refine FP ?_;rw[kK,E];rfl
   |some q=>
    have g4:(O.flatMap Ci)[k]?=some (.tp (cQ q) 0):=g4;have hq:=ho q rfl;have ks:=ae3 q hq.1 hq.2;have p1:=Si qs (n:=O.length) (by omega);have p2:=adh qs (n:=O.length) (by omega) q;rw[a1]at p2;have p3:k*3+3<=O.length*3:=by omega
    refine .inl ⟨_,by simp only[go_sem,t4,t10,t11,t12,s0,g1,g2,g3,g4,g5,g6,S,ks,p1,p2,p3];rfl,?_⟩;simp only[go_sem,t4,t10,t11];refine⟨rfl,G,qs++[q],?_,rfl⟩;rw[J,kK,E];rfl) (by
   rintro ⟨T,σ,nx⟩ ⟨t4,t10,t11,t12,G,qs,E,s0⟩;simp only at t4 t10 t11 t12 G s0;have g1:¬(O.length:Int)<(O.length:Int):=by omega
   refine⟨_,by simp only[go_sem,t11,t12,g1];rfl,by simp,_,_,_,.inl ⟨rfl,?_⟩⟩;simp only[go_sem,t4];rw[yV]at E;exact⟨qs,E,s0⟩) (by
   simp only[go_sem];refine⟨[],rfl,?_⟩;unfold Ky;rfl)
 rcases hx with ⟨T,σ,nx,⟨rfl,t4,qs,E,s0⟩|⟨rfl,t2,t3,E⟩⟩
 .have hl:=kL E
  have e1:Ky qs O.length=qs.flatMap cQ:=by unfold Ky;rw[hl,yh];exact zA _
  rw[e1]at s0;have u0:=Xz qs;have u1:O.length*3<=(qs.flatMap cQ).length:=by rw[u0];omega
  have u2:(qs.flatMap cQ).take (O.length*3)=qs.flatMap cQ:=zk (by rw[u0];omega);have u3:=ZG σ 5 qs;unfold Bg;rw[E];simp only[go_sem,t4,s0,u1,u2,u3];show some (V.dF [V.ts _ O.length,_])=some (V.dF [V.ts _ qs.length,_]);rw[hl]
 .unfold Bg
  rw[E];simp only[go_sem,t2,t3]
def aiZ(P:Program)(ts:Array TypeId)(ty:TypeId)(a b:V)(σ:Store)(nx:Nat):FU:=BA P .min ts ty [a,b] σ nx
theorem ai0{P:Program}{conv:FuncId->Conv}{call:TV.Call}(d:Option Tmp)(ty:TypeId)(ps:String)(E:Array Edge)(G:Option (Nat×Bool))(T:Nat->V)(σ:Store)(nx:Nat)(a b:Operand)(ts:Array TypeId) :
  bH P conv call ⟨d,.call ⟨.builtin .min,#[a,b],ts⟩,ty,ps,E,G⟩ T σ nx=aiZ P ts ty (val T a) (val T b) σ nx:=rfl
attribute [go_sem] ai0
theorem VX(σ:Store)(b:Nat)(cells:List V)(st:Nat)(wr:Bool)(t:V):behind (upd σ b (some ⟨cells,st,wr⟩)) [b] t=upd σ b (some ⟨cells,st,wr && flat depth t⟩):=by
 unfold behind;cases E:flat depth t with
 |true=>simp
 |false=>
  simp only[List.isEmpty_cons,Bool.or_self,yR,if_false,xA];unfold Aw Aw;rw[iW,iV];rfl
attribute [go_sem] VX
def noR:V:=.dF [.ts [] 0,Bo false]
def Sj(s:Structure)(l:List Int)(r:V):Prop:=(¬(dZ s/\dN s.au.length l)/\r=noR)\/(dZ s/\dN s.au.length l/\((r=noR/\((fpP s l).None\/(fpP s l).Open)) \/
 ∃x:Nat->Rat,(fpP s l).Best x/\(∀j,j<CQ s->Ln 24 (x j))/\r=Bg (Ew (cols s s.members.length) ((List.range (CQ s)).map x) s.members.length (CQ s))))
theorem OJ{s:Structure}(h:bJ s){l:List Int}(hl:l.length<=maxLen):∃r,fn gu aY bY 40 [.agg (aC s),LI l]=some r/\Sj s l r:=by
 have G:=WI s l h hl
 by_cases E:dZ s/\dN s.au.length l
 .obtain⟨J,S⟩:=E
  rw[mJ J,mJ S]at G;have hb:∀x∈l,-100<=x/\x<=100:=fun x hx=>oS (S.2 x hx)
  have k2:=Ku J.sg S.1 hb;obtain⟨r0,Y,hr⟩:=agi J hb;unfold Af at k2 Y;rw[qB,qO [.tmp 4,.tmp 5] [] func40];rcases hr with ⟨rfl,h3⟩|⟨x,h3,h4,rfl⟩
  .refine⟨_,by simp only[go_sem,G,k2,Y];rfl,.inr ⟨J,S,.inl ⟨rfl,h3⟩⟩⟩
  .obtain⟨O,eO⟩:∃O,O=Ew (cols s s.members.length) ((List.range (CQ s)).map x) s.members.length (CQ s):=⟨_,rfl⟩
   have a1:∀o∈O,LnO 24 o:=by
    rw[eO];exact OI (fun y hy=>by
     obtain⟨j,hj,rfl⟩:=List.mem_map.mp hy;exact h4 j (List.mem_range.mp hj)) _
   have a6:O.length<=1000:=by rw[eO,Ey];have:=J.2.1;omega
   have k4:=agl O a1 a6;rw[<- eO]at Y;refine⟨Bg O,?_,.inr ⟨J,S,.inr ⟨x,h3,h4,by rw[eO]⟩⟩⟩;unfold Bg at k4⊢;cases hq:fA O with
   |none=>rw[hq]at k4;simp only[go_sem,G,k2,Y,k4]
   |some qs=>rw[hq]at k4;simp only[go_sem,G,k2,Y,k4]
 .have hf:(pb (dZ s) && pb (dN s.au.length l))=false:=by
   by_cases a:dZ s
   .have:¬dN s.au.length l:=fun b=>E ⟨a,b⟩
    rw[mM this,xA]
   .rw[mM a,vk]
  rw[hf]at G;rw[qB,qO [.tmp 4,.tmp 5] [] func40];refine⟨_,by simp only[go_sem,G];rfl,.inl ⟨E,rfl⟩⟩
theorem Gv{n:Nat}(h:ln n<=60):BP (dg n) :=
 ⟨fun x E=>by have:=abA n x E;unfold inB;rw[uY this.1,uY this.2];rfl,h,aeY n⟩
theorem ai1(q:Rat)(h:Ln 24 q):fn gu aY bY 211 [.agg (cQ q)]=some (Bo true):=by
 have Y:(dg q.num.natAbs).length<=24:=h.1;have a1:(dg q.den).length<=24:=h.2;have E:=YZ (decide (q.num<0)) (dg q.num.natAbs) (by unfold Short;omega);have G:(decide (q.num<0) && decide (dg q.num.natAbs=[]))=false:=by
  by_cases hz:q.num<0
  .rw[uX (rH (n:=q.num.natAbs) (by omega)),xA]
  .rw[uX hz];rfl
 rw[mJ (Gv (by have:=h.1;omega)),G]at E;have O:=abD (dg q.den) (by unfold Short;omega);rw[mJ (Gv (by have:=h.2;omega))]at O;have S:=Rl q.num.natAbs q.den (by have:=h.1;omega) (by have:=h.2;omega);rw[show Nat.gcd q.num.natAbs q.den=1 from q.reduced,rG (d:=1) (by decide) (by decide)]at S;have k4:fn gu conv ext 175 [.ts [I 1] 1,.ts [I 1] 1]=some (I 0):=by
  have:=akZ 1 (by decide);rw[rG (d:=1) (by decide) (by decide)]at this;exact this
 have J:fn gu aY bY 174 [LI (dg q.num.natAbs),LI (dg q.den)]=some (.ts [I 1] 1):=S;have c0:(((dg q.den).length:Int)==0)=false:=by rw[uZ];have:=uD (rH q.den_nz);omega
 have c1:¬(24:Int)<((dg q.num.natAbs).length:Int):=by omega
 have c2:¬(24:Int)<((dg q.den).length:Int):=by omega
 unfold cQ;rw[qB,qO [.tmp 2] [] func211];simp only[go_sem]at E;simp only[go_sem,E,O,J,k4,c0,c1,c2]
theorem al9(q:Rat)(h:Ln 24 q):fn gu aY bY 183 [.agg (cQ q)]=some (.tp (cQ q) 0):=by
 have E:=ai1 q h;unfold cQ at E⊢;rw[qB,qO [.tmp 2] [] func183];simp only[go_sem,E]
theorem adl(qs:List Rat){k:Nat}(h:k<qs.length):((qs.take k).flatMap cF++rep (qs.length-k) [V.sc (.pointer none)]).set k (.tp (cQ qs[k]) 0)=(qs.take (k+1)).flatMap cF++rep (qs.length - (k+1)) [V.sc (.pointer none)]:=by
 have E:((qs.take k).flatMap cF).length=k:=by rw[sZ,zY];omega
 rw[yA _ _ (by omega),E,yh,show qs.length-k=qs.length - (k+1)+1 by omega,lF,jK h,zC,zF];rfl
theorem adn(qs:List Rat){k:Nat}(h:k<qs.length):((qs.take (k+1)).flatMap cF++rep (qs.length - (k+1)) [V.sc (.pointer none)])[k]?=some (.tp (cQ qs[k]) 0):=by
 have E:k<(qs.take (k+1)).length:=by rw[zY];omega
 rw[zZ (by rw[sZ];exact E),FH _ E,List.getElem_take]
theorem Sl(qs:List Rat){k:Nat}(h:k<=qs.length):((qs.take k).flatMap cF++rep (qs.length-k) [V.sc (.pointer none)]).length=qs.length:=by
 rw[zo,sZ,lG,zY];simp;omega
theorem ZH(a b c:V)(q:Rat):patch [a,b,c] 0 (cQ q)=cQ q:=rfl
attribute [go_sem] ZH
theorem ai2(qs:List Rat)(hL:∀q∈qs,Ln 24 q)(hn:qs.length<=1000):fn gu aY bY 152 [LL cQ qs]=some (.dF [LL cF qs,Bo true]):=by
 have m1:(0:Int)<=(qs.length:Int):=by omega
 have m2:8*(qs.length:Int)<=281474976710656:=by omega
 have m3:(qs.length:Int)<=9223372036854775807:=by omega
 rw[qB,qO [.tmp 2,.tmp 3] [] func152];simp only[go_sem,m1,m2,m3];generalize J:aA _ _=y;obtain⟨x,rfl,T,σ,nx,rfl,t4,s0⟩:=rP J qs.length (fun k st=>st.T 4= .rs 0 0 qs.length/\st.T 10=LL cQ qs/\st.T 11=I qs.length/\st.T 12=I k/\0<st.nx/\st.σ 0=some ⟨(qs.take k).flatMap cF++rep (qs.length-k) [V.sc (.pointer none)],1,true⟩)
  (fun x=>∃T σ nx,x=(.exit 0,⟨T,σ,nx⟩)/\T 4= .rs 0 0 qs.length/\σ 0=some ⟨qs.flatMap cF,1,true⟩) (by
   clear J;rintro k ⟨T,σ,nx⟩ E ⟨t4,t10,t11,t12,G,s0⟩;simp only at t4 t10 t11 t12 G s0;have g1:(k:Int)<(qs.length:Int):=by omega
   have g2:=nP k;have g3:=iF (n:=(k:Int)+1);have g4:=kG (c:=cQ) (s:=3) (fun _=>rfl) qs k E;have g5:=kE (c:=cQ) (s:=3) (fun _=>rfl) (by omega) qs k E;have g6:=Xz qs;have g7:k*3+3<=qs.length*3:=by omega
   have O:=al9 qs[k] (hL _ (zq E));have S:=adl qs E;have Y:=adn qs E;have p3:=Sl qs (k:=k) (by omega);have p4:=Sl qs (k:=k+1) (by omega);have d1:¬0=nx:=by omega
   have d2:¬nx=0:=by omega
   have d3:k+1<=qs.length:=E;obtain⟨q,eq⟩:∃q,q=qs[k]:=⟨_,rfl⟩;rw[<- eq]at g4 O S Y;have st1:∀σ d,stripL (strip σ d) (cQ q)=some (cQ q,[]):=fun σ d=>Jc σ d q
   refine .inl ⟨_,by simp only[go_sem,t4,t10,t11,t12,s0,g1,g2,g3,g4,g5,g6,g7,E,O,S,Y,p3,p4,d1,d2,d3,st1];rfl,?_⟩;simp only[go_sem,t4,t10,t11,d1,d2];exact⟨rfl,by omega⟩) (by
   rintro ⟨T,σ,nx⟩ ⟨t4,t10,t11,t12,G,s0⟩;simp only at t4 t10 t11 t12 G s0;have g1:¬(qs.length:Int)<(qs.length:Int):=by omega
   refine⟨_,by simp only[go_sem,t11,t12,g1];rfl,by simp,_,_,_,rfl,?_⟩;simp only[go_sem,t4];have e:rep 0 [V.sc (.pointer none)]=[]:=rfl;rw[yV,yh,e,zA]at s0;exact s0) (by
   simp only[go_sem])
 have u1:qs.length<=(qs.flatMap cF).length:=by rw[sZ];exact zu _
 have u2:(qs.flatMap cF).take qs.length=qs.flatMap cF:=zk (by rw[sZ];exact zu _);have u3:=Eo σ 4 qs;simp only[go_sem,t4,s0,u1,u2,u3]
theorem VY{s:Structure}(h:dZ s)(G:bJ s){qs:List Rat}(J:qs.length=s.members.length)(O:∀q∈qs,Ln 24 q):fn gu aY bY 113 [.tp (aC s) 0,LL cQ qs]=some (.dF [LL cF qs,Bo true]):=by
 have S:=h.2.1;have E:=DX s G;rw[mJ h]at E;have Y:=ai2 qs O (by omega);have c0:((qs.length:Int) !=(s.members.length:Int))=false:=by rw[J];simp
 rw[qB,qO [.tmp 4,.tmp 5] [] func113];simp only[go_sem,E,Y,c0]
def sqQ(s:Structure)(q:Rat)(k:Nat):Option Rat:=Kv (Kv (some q) (some q)) (some ((vx s k*vx s k+vy s k*vy s k:Int):Rat))
theorem XA{a b:Option Rat}:LnO 24 (Kv a b):=fun y h=>by
 cases a with
 |none=>cases h
 |some x=>cases b with
  |none=>cases h
  |some z=>exact Xx h
theorem OL{s:Structure}(h:SG s){qs:List Rat}(hl:qs.length=s.members.length)(hL:∀q∈qs,Ln 24 q){k:Nat}(G:k<qs.length) :
  fn gu aY bY 114 [.tp (aC s) 0,LL cF qs,I k]=some (pQ (sqQ s qs[k] k)):=by
 have k1:=Xo h (k:=k) (by omega);have hb:=OB h k;have a6:=h.nm;have g1:(k:Int)<(qs.length:Int):=by omega
 have g2:=nP k;have g4:=FH qs G;have g9:(qs.flatMap cF).length=qs.length:=sZ qs;have J:qs.flatMap cF≠[]:=fun e=>by rw[e]at g9;have:qs.length=0:=g9.symm;omega
 have O:=hL _ (zq G);obtain⟨q,eq⟩:∃q,q=qs[k]:=⟨_,rfl⟩;rw[<- eq]at g4 O⊢;have x2:0<=vx s k*vx s k/\vx s k*vx s k<=10000:=by
  have h1:vx s k*vx s k=((vx s k).natAbs*(vx s k).natAbs:Nat):=by rw[Int.natAbs_mul_self]
  have h2:(vx s k).natAbs*(vx s k).natAbs<=100*100:=wH (by omega) (by omega);omega
 have y2:0<=vy s k*vy s k/\vy s k*vy s k<=10000:=by
  have h1:vy s k*vy s k=((vy s k).natAbs*(vy s k).natAbs:Nat):=by rw[Int.natAbs_mul_self]
  have h2:(vy s k).natAbs*(vy s k).natAbs<=100*100:=wH (by omega) (by omega);omega
 have w1:=iF (n:=vx s k*vx s k);have w2:=iF (n:=vy s k*vy s k);have w3:=iF (n:=vx s k*vx s k+vy s k*vy s k);have k2:=oL (vx s k*vx s k+vy s k*vy s k) (by omega) (by omega);have k3:fn gu aY bY 153 [.tp (cQ q) 0,.tp (cQ q) 0]=some (pQ (Kv (some q) (some q))):=al3 (a:=some q) (b:=some q) (fun z E=>by cases E;exact O.mono (by decide)) (fun z E=>by cases E;exact O.mono (by decide));have S:fn gu aY bY 153 [pQ (Kv (some q) (some q)),.tp (cQ ((vx s k*vx s k+vy s k*vy s k:Int):Rat)) 0]=some (pQ (sqQ s q k)) :=
  al3 (b:=some ((vx s k*vx s k+vy s k*vy s k:Int):Rat)) (fun z E=>(XA z E).mono (by decide)) (fun z E=>by cases E;exact(uV (by omega)).mono (by decide))
 have st1:∀σ d,strip σ d (pQ (Kv (some q) (some q)))=some (pQ (Kv (some q) (some q)),[]):=fun σ d=>by
  cases Kv (some q) (some q)with
  |none=>unfold pQ;rw[jQ]
  |some z=>unfold pQ;rw[jO]
 have e1:(((vx s k*vx s k+vy s k*vy s k:Int):Rat))=((vx s k*vx s k+vy s k*vy s k:Int):Rat):=rfl;obtain⟨m1,Y⟩:∃m1,m1=pQ (Kv (some q) (some q)):=⟨_,rfl⟩;rw[<- Y]at k3 S st1;obtain⟨m2,a1⟩:∃m2,m2=cQ ((vx s k*vx s k+vy s k*vy s k:Int):Rat):=⟨_,rfl⟩;rw[<- a1]at k2 S;rw[qB,qO [.tmp 6] [] func114];simp only[go_sem,k1,g1,g2,g4,g9,J,G,w1,w2,w3,k2,k3,S,st1];exact JC _ _
def Me(s:Structure)(qs:List Rat):List (Option Rat):=(List.range qs.length).map fun k=>sqQ s (qs.getD k 0) k
theorem Ez(s:Structure)(qs:List Rat):(Me s qs).length=qs.length:=by simp[Me]
theorem agm(s:Structure)(qs:List Rat){k:Nat}(h:k<qs.length):(Me s qs)[k]'(by rw[Ez];exact h)=sqQ s qs[k] k:=by
 simp[Me,zx,zy h]
def EC(O:List (Option Rat)):V:=match fA O with
 |some xs=> .dF [LL cF xs,Bo true]
 |none=> .dF [.ts [] 0,Bo false]
def ED(xs:List Rat)(n:Nat):List V:=xs.flatMap cF++rep (n-xs.length) [V.sc (.pointer none)]
theorem Sm(xs:List Rat){n:Nat}(h:xs.length<=n):(ED xs n).length=n:=by
 unfold ED;rw[zo,sZ,lG];simp;omega
theorem ado(xs:List Rat){n:Nat}(h:xs.length<n)(q:Rat):(ED xs n).set xs.length (.tp (cQ q) 0)=ED (xs++[q]) n:=by
 unfold ED;rw[yA _ _ (by rw[sZ];exact zu _),sZ,yh,zo,yT,show n-xs.length=n - (xs.length+1)+1 by omega,lF,zC,zF];rfl
theorem adp(xs:List Rat){n:Nat}(q:Rat):(ED (xs++[q]) n)[xs.length]?=some (.tp (cQ q) 0):=by
 unfold ED;rw[zZ (by rw[sZ];simp),FH _ (by simp)];simp
theorem Kz{s:Structure}(h:dZ s)(ho:bJ s){qs:List Rat}(hl:qs.length=s.members.length)(hL:∀q∈qs,Ln 24 q) :
  fn gu aY bY 75 [.tp (aC s) 0,LL cQ qs]=some (EC (Me s qs)):=by
 have a7:=h.2.1;have k1:=VY h ho hl hL;have m1:(0:Int)<=(qs.length:Int):=by omega
 have m2:8*(qs.length:Int)<=281474976710656:=by omega
 have m3:(qs.length:Int)<=9223372036854775807:=by omega
 rw[qB,qO [.tmp 4,.tmp 5] [] func75];simp only[go_sem,k1,m1,m2,m3];generalize a1:aA _ _=y;obtain⟨x,rfl,hx⟩:=rP a1 qs.length (fun k st=>st.T 0= .tp (aC s) 0/\st.T 6=LL cF qs/\st.T 8= .rs 0 0 qs.length/\st.T 22=I qs.length/\st.T 23=I k/\0<st.nx/\∃xs,fA ((Me s qs).take k)=some xs/\st.σ 0=some ⟨ED xs qs.length,1,true⟩)
  (fun x=>∃T σ nx,(x=(.exit 0,⟨T,σ,nx⟩)/\T 8= .rs 0 0 qs.length/\∃xs,fA (Me s qs)=some xs/\σ 0=some ⟨ED xs qs.length,1,true⟩)\/(x=(.ret,⟨T,σ,nx⟩)/\T 4= .nil/\T 5=Bo false/\fA (Me s qs)=none)) (by
   clear a1;rintro k ⟨T,σ,nx⟩ Y ⟨t0,t6,t8,t22,t23,G,xs,E,s0⟩;simp only at t0 t6 t8 t22 t23 G s0;have g1:(k:Int)<(qs.length:Int):=by omega
   have g2:=nP k;have g3:=iF (n:=(k:Int)+1);have a6:k<(Me s qs).length:=by rw[Ez];exact Y
   have J:xs.length=k:=by rw[kL E,zY];omega
   have O:(Me s qs).take (k+1)=(Me s qs).take k++[sqQ s qs[k] k]:=by rw[jK a6,agm s qs Y]
   have S:=OL h.sg hl hL Y;have p1:=Sm xs (n:=qs.length) (by omega);have g5:k+1<=qs.length:=Y;cases hv:sqQ s qs[k] k with
   |none=>
    rw[hv]at S O;have S:fn gu aY bY 114 [.tp (aC s) 0,LL cF qs,I k]=some (.sc (.pointer none)):=S;have p3:((ED xs qs.length).set k (V.sc (.pointer none)))[k]?=some (V.sc (.pointer none)):=by
     rw[List.getElem?_set_self (by omega)]
    have p4:((ED xs qs.length).set k (V.sc (.pointer none))).length=qs.length:=by rw[yO];exact p1
    refine .inr ⟨_,by simp only[go_sem,t0,t6,t8,t22,t23,s0,g1,g2,g5,Y,S,p1,p3,p4];rfl,by simp,_,_,_,.inr ⟨rfl,?_⟩⟩;simp only[go_sem];have:Me s qs=(Me s qs).take (k+1)++(Me s qs).drop (k+1):=(wJ _ _).symm;rw[this,O];refine FP ?_;rw[kK,E];rfl
   |some z=>
    rw[hv]at S O;have S:fn gu aY bY 114 [.tp (aC s) 0,LL cF qs,I k]=some (.tp (cQ z) 0):=S;have p2:=ado xs (n:=qs.length) (by omega) z;have p3:=adp xs (n:=qs.length) z;have p4:=Sm (xs++[z]) (n:=qs.length) (by simp;omega);rw[J]at p2 p3;refine .inl ⟨_,by simp only[go_sem,t0,t6,t8,t22,t23,s0,g1,g2,g3,g5,Y,S,p1,p2,p3,p4];rfl,?_⟩;simp only[go_sem,t0,t6,t8,t22];refine⟨rfl,G,xs++[z],?_,rfl⟩;rw[O,kK,E];rfl) (by
   rintro ⟨T,σ,nx⟩ ⟨t0,t6,t8,t22,t23,G,xs,E,s0⟩;simp only at t0 t6 t8 t22 t23 G s0;have g1:¬(qs.length:Int)<(qs.length:Int):=by omega
   refine⟨_,by simp only[go_sem,t22,t23,g1];rfl,by simp,_,_,_,.inl ⟨rfl,?_⟩⟩;simp only[go_sem,t8];rw[<- Ez s qs,yV]at E;exact⟨xs,E,s0⟩) (by
   simp only[go_sem];refine⟨[],rfl,?_⟩;unfold ED;rfl)
 rcases hx with ⟨T,σ,nx,⟨rfl,t8,xs,E,s0⟩|⟨rfl,t4,t5,E⟩⟩
 .have J:xs.length=qs.length:=by rw[kL E,Ez]
  have e1:ED xs qs.length=xs.flatMap cF:=by unfold ED;rw[J,yh];exact zA _
  rw[e1]at s0;have u1:qs.length<=(xs.flatMap cF).length:=by rw[sZ];omega
  have u2:(xs.flatMap cF).take qs.length=xs.flatMap cF:=zk (by rw[sZ];omega);have u3:=Eo σ 4 xs;unfold EC;rw[E];simp only[go_sem,t8,s0,u1,u2,u3];show some (V.dF [V.ts _ qs.length,_])=some (V.dF [V.ts _ xs.length,_]);rw[J]
 .unfold EC
  rw[E];simp only[go_sem,t4,t5]
theorem al_(x y:Rat)(E:Ln 100 x)(G:Ln 100 y):fn gu conv ext 116 [.tp (cQ x) 0,.tp (cQ y) 0]=some (I (dS (x.num*y.den) (y.num*x.den))):=by
 have Y:=LP E G;have n2:=LP G E;have J:=DZ x y.den (by have:=E.1;omega) (by have:=G.2;omega);have O:=DZ y x.den (by have:=G.1;omega) (by have:=E.2;omega);have S:=Lm (x.num*y.den) (y.num*x.den) (by omega) (by omega);unfold cQ at *;unfold cZ at *;rw[qB,qO [.tmp 4] [] func116];simp only[go_sem,J,O,S]
def adq(x:Rat)(w:Int):Bool:=decide (0<dS (x.num*((w*w:Int):Rat).den) (((w*w:Int):Rat).num*x.den))
theorem JD:∀ {l:List (Option Rat)} {xs:List Rat},fA l=some xs->∀x∈xs,some x∈l
 |[],xs,h,x,E=>by cases h;cases E
 |none :: l,_,h,_,_=>by cases h
 |some q :: l,xs,h,x,E=>by
  cases e:fA l with
  |none=>rw[show fA (some q :: l)=(fA l).map (q :: ·)from rfl,e]at h;cases h
  |some rs=>
   rw[show fA (some q :: l)=(fA l).map (q :: ·)from rfl,e]at h;cases h;rcases List.mem_cons.mp E with rfl|E
   .exact zH
   .exact zU _ (JD e x E)
theorem ai3{s:Structure}{qs xs:List Rat}(h:fA (Me s qs)=some xs):∀x∈xs,Ln 24 x:=fun x E=>by
 have:=JD h x E;unfold Me at this;obtain⟨k,-,e⟩:=List.mem_map.mp this;exact XA x e
def CZ(xs:List Rat)(w:List Int)(k:Nat):Bool:=adq (xs.getD k 0) (w.getD k 0)
def overR(O:List (Option Rat))(w:List Int):V:=match fA O with
 |some xs=> .dF [LI (BF (CZ xs w) xs.length),Bo true]
 |none=> .dF [.ts [] 0,Bo false]
theorem Sr{s:Structure}(h:dZ s)(ho:bJ s){qs:List Rat}(hl:qs.length=s.members.length)(hL:∀q∈qs,Ln 24 q){w:List Int}(hw:gK s.members.length w) :
  fn gu aY bY 137 [.tp (aC s) 0,LL cQ qs,LI w]=some (overR (Me s qs) w):=by
 have b2:=h.2.1;have O:=Kz h ho hl hL;have k2:=Gj (aC s) 0 s.members w rfl (by rw[hw.1];unfold maxLen;omega);rw[mJ hw]at k2;unfold EC at O;unfold overR;rw[qB,qO [.tmp 6,.tmp 7] [] func137];cases hq:fA (Me s qs)with
 |none=>
  rw[hq]at O;simp only[go_sem,O]
 |some xs=>
  rw[hq]at O;simp only[go_sem,O,k2];have b3:xs.length=s.members.length:=by rw[kL hq,Ez,hl]
  generalize S:aA _ _=y;obtain⟨x,rfl,T,σ,nx,rfl,J⟩:=rP S xs.length (fun k st=>st.T 2=LI w/\st.T 27=LL cF xs/\st.T 28=I xs.length/\st.T 29=I k/\Grow st.T st.σ st.nx 10 (BF (CZ xs w) k))
   (fun x=>∃T σ nx,x=(.exit 0,⟨T,σ,nx⟩)/\Grow T σ nx 10 (BF (CZ xs w) xs.length)) (by
    clear S;rintro k ⟨T,σ,nx⟩ Y ⟨t2,t27,t28,t29,J⟩;simp only at t2 t27 t28 t29 J;have g1:(k:Int)<(xs.length:Int):=by omega
    have g2:=nP k;have g3:=iF (n:=(k:Int)+1);have g4:=FH xs Y;have g9:(xs.flatMap cF).length=xs.length:=sZ xs;have a6:xs.flatMap cF≠[]:=fun e=>by rw[e]at g9;have:xs.length=0:=g9.symm;omega
    have G:k<w.length:=by rw[hw.1];omega
    have a7:=oS (hw.2 _ (zq G));have a1:=idx (xs:=w) (k:=k) G;have a2:=iI w k G;have a3:(k:Int)<(w.length:Int):=by omega
    have hx:=ai3 hq _ (zq Y);have E:CZ xs w k=adq xs[k] w[k]:=by
     unfold CZ;rw[zx,zy Y,zx,zy G];rfl
    obtain⟨x,ex⟩:∃x,x=xs[k]:=⟨_,rfl⟩;obtain⟨v,ev⟩:∃v,v=w[k]:=⟨_,rfl⟩;rw[<- ex,<- ev]at E;rw[<- ex]at g4 hx;rw[<- ev]at a1 a7;have v2:0<=v*v/\v*v<=1000000:=by
     have h1:v*v=(v.natAbs*v.natAbs:Nat):=by rw[Int.natAbs_mul_self]
     have h2:v.natAbs*v.natAbs<=1000*1000:=wH (by omega) (by omega);omega
    have w1:=iF (n:=v*v);have k3:=oL (v*v) (by omega) (by omega);have k4:=al_ x ((v*v:Int):Rat) (hx.mono (by decide)) ((uV (by omega)).mono (by decide));have hle:=iy (CZ xs w) k;unfold adq at E;obtain⟨m2,a8⟩:∃m2,m2=cQ ((v*v:Int):Rat):=⟨_,rfl⟩;obtain⟨z,ez⟩:∃z,z=dS (x.num*((v*v:Int):Rat).den) (((v*v:Int):Rat).num*x.den):=⟨_,rfl⟩;rw[<- a8]at k3 k4;rw[<- ez]at k4 E
    by_cases hz:0<z
    .rw[uY hz]at E
     obtain⟨σ',ha,hs⟩:=oz J (k:Int) (by omega);refine .inl ⟨_,by simp only[go_sem,t2,t27,t28,t29,g1,g2,g3,g4,g9,a6,Y,G,a1,a2,a3,w1,k3,k4,hz,ha];rfl,?_⟩;simp only[go_sem,t2,t27,t28];rw[NS E];exact⟨rfl,oh hs (by simp[go_sem]) (by simp)⟩
    .rw[uX hz]at E
     refine .inl ⟨_,by simp only[go_sem,t2,t27,t28,t29,g1,g2,g3,g4,g9,a6,Y,G,a1,a2,a3,w1,k3,k4,hz];rfl,?_⟩;simp only[go_sem,t2,t27,t28];rw[Vk E];exact⟨rfl,ou (T:=T) (by simp only[go_sem]) J⟩) (by
    rintro ⟨T,σ,nx⟩ ⟨t2,t27,t28,t29,J⟩;simp only at t2 t27 t28 t29 J;exact⟨_,by simp only[go_sem,t28,t29,zX];rfl,by simp,_,_,_,rfl,ou (T:=T) (by simp only[go_sem]) J⟩) (by
    simp only[go_sem];exact .inl ⟨by simp only[go_sem],rfl⟩)
  obtain⟨ids,hs⟩:=og J 5;simp only[go_sem,hs]
def EF(s:Structure)(qs:List Rat)(w:List Int):Bool:=match fA (Me s qs)with
 |some xs=>decide ((BF (CZ xs w) xs.length).length=0)
 |none=>false
theorem ZI{s:Structure}(h:dZ s)(O:bJ s){qs:List Rat}(S:qs.length=s.members.length)(Y:∀q∈qs,Ln 24 q){w:List Int}(hw:gK s.members.length w) :
  fn gu aY bY 103 [.agg (aC s),LL cQ qs,LI w]=some (Bo (EF s qs w)):=by
 have E:=Sr h O S Y hw;unfold overR at E;unfold EF;rw[qB,qO [.tmp 6] [] func103];cases J:fA (Me s qs)with
 |none=>
  rw[J]at E;simp only[go_sem,E]
 |some xs=>
  rw[J]at E
  by_cases G:(BF (CZ xs w) xs.length).length=0
  .have e:(((BF (CZ xs w) xs.length).length:Int)==0)=true:=by rw[G];rfl
   simp only[go_sem,E,e,uY G]
  .have e:(((BF (CZ xs w) xs.length).length:Int)==0)=false:=by rw[uZ];omega
   simp only[go_sem,E,e,uX G]
def adr(s:Structure)(l w:List Int)(r:V):Prop :=
 (∃qs,qs.length=s.members.length/\(∀q∈qs,Ln 24 q)/\Sj s l (.dF [LL cQ qs,Bo true])/\EF s qs w=true/\r= .dF [LL cQ qs,Bo true]) \/
 (r=noR/\(Sj s l noR\/∃qs,qs.length=s.members.length/\(∀q∈qs,Ln 24 q)/\Sj s l (.dF [LL cQ qs,Bo true])/\EF s qs w=false))
theorem JE{s:Structure}(h:dZ s)(ho:bJ s){l w:List Int}(hl:dN s.au.length l)(hw:gK s.members.length w) :
  ∃r,fn gu aY bY 65 [.agg (aC s),LI l,LI w]=some r/\adr s l w r:=by
 have a6:=h.1;obtain⟨r,O,hr⟩:=OJ ho (l:=l) (by rw[hl.1];unfold maxLen;omega);have no:r=noR->∃r,fn gu aY bY 65 [.agg (aC s),LI l,LI w]=some r/\adr s l w r:=fun e=>by
  subst e;have a1:fn gu aY bY 40 [.agg (aC s),LI l]=some (.dF [.ts [] 0,Bo false]):=O;refine⟨noR,?_,.inr ⟨rfl,.inl hr⟩⟩;unfold noR;rw[qB,qO [.tmp 6,.tmp 7] [] func65];simp only[go_sem,a1]
 rcases hr with ⟨_,e⟩|⟨h1,h2,⟨e,_⟩|⟨x,hb,hx,e⟩⟩
 .exact no e
 .exact no e
 .cases S:fA (Ew (cols s s.members.length) ((List.range (CQ s)).map x) s.members.length (CQ s))with
  |none=>exact no (by rw[e];unfold Bg;rw[S];rfl)
  |some qs=>
   have e2:r= .dF [LL cQ qs,Bo true]:=by rw[e];unfold Bg;rw[S]
   have G:qs.length=s.members.length:=by rw[kL S,Ey]
   have J:∀q∈qs,Ln 24 q:=fun q hm=>OI (fun y hy=>by
    obtain⟨j,hj,rfl⟩:=List.mem_map.mp hy;exact hx j (List.mem_range.mp hj)) _ _ (JD S q hm) q rfl
   have hD:Sj s l (.dF [LL cQ qs,Bo true]):=by
    rw[<- e2];exact .inr ⟨h1,h2,.inr ⟨x,hb,hx,e⟩⟩
   rw[e2]at O;have Y:=ZI h ho G J hw;cases E:EF s qs w with
   |true=>
    rw[E]at Y;refine⟨.dF [LL cQ qs,Bo true],?_,.inl ⟨qs,G,J,hD,E,rfl⟩⟩;rw[qB,qO [.tmp 6,.tmp 7] [] func65];simp only[go_sem,O,Y]
   |false=>
    rw[E]at Y;refine⟨noR,?_,.inr ⟨rfl,.inr ⟨qs,G,J,hD,E⟩⟩⟩;unfold noR;rw[qB,qO [.tmp 6,.tmp 7] [] func65];simp only[go_sem,O,Y]
theorem agn{s:Structure}(h:dZ s)(J:bJ s){l w:List Int}(O:dN s.au.length l)(hw:gK s.members.length w) :
  ∃b r,fn gu aY bY 37 [.agg (aC s),LI l,LI w]=some (Bo b)/\adr s l w r/\(b=true↔r≠noR):=by
 obtain⟨r,E,S⟩:=JE h J O hw;rcases S with ⟨qs,G,a2,a3,a4,rfl⟩|⟨rfl,G⟩
 .refine⟨true,_,?_,.inl ⟨qs,G,a2,a3,a4,rfl⟩,⟨fun _ e=>?_,fun _=>rfl⟩⟩
  .rw[qB,qO [.tmp 6] [] func37]
   simp only[go_sem,E]
  .unfold noR at e
   injection e with e
   injection e with _ e
   injection e with e _
   cases e
 .refine⟨false,_,?_,.inr ⟨rfl,G⟩,⟨fun e=>by(cases e),fun e=>absurd rfl e⟩⟩
  unfold noR at E;rw[qB,qO [.tmp 6] [] func37];simp only[go_sem,E]
def Hy(t:fV)(k:Nat):Prop:=Xt t.st/\t.name=BI k/\t.load.length=2*t.st.au.length/\Bd t.load/\t.limits.length=t.st.members.length/\∀x∈t.limits,x=5\/x=20\/x=100\/x=500
theorem JF{s:Structure}(h:Xt s):1<=s.au.length/\s.au.length<=4/\1<=s.members.length/\s.members.length<=3:=by
 obtain⟨E,G,J,O,S,Y,k,_,rfl|⟨x4,k3,_,_,rfl⟩⟩:=h
 .simp
 .simp
theorem digit_ok(k:Nat)(h:k<4):Dj (48+k).toUInt8=true:=by
 have:k=0\/k=1\/k=2\/k=3:=by omega
 rcases this with rfl|rfl|rfl|rfl<;>decide
theorem MB{t:fV}{k:Nat}(Y:k<4)(h:Hy t k):fO t=true/\DT t:=by
 obtain⟨G,J,h3,O,h5,S⟩:=h;obtain⟨g1,g2⟩:=af7 G;obtain⟨l1,l2,l3,l4⟩:=JF G;have mx:8<=maxLen:=by decide
 have nm:AP t.name:=by
  rw[J];exact name2 116 _ (by decide) (digit_ok k Y)
 have nz:t.name.size=2:=by rw[J];rfl
 refine⟨?_,by unfold okS;omega,g2,⟨fun x E=>DU.mpr (by have:=O x E;omega),by omega,by omega⟩,⟨fun x E=>DU.mpr (by have:=S x E;omega),by omega,by omega⟩⟩;unfold fO;have a1:dN t.st.au.length t.load:=⟨h3,fun x E=>Hw (by have:=O x E;omega)⟩;have a2:gK t.st.members.length t.limits:=⟨h5,fun x E=>Hw (by have:=S x E;omega)⟩;rw[mJ nm,mJ g1,mJ a1,mJ a2];rfl
theorem KA(σ:Store)(d:Nat)(ms:List Member):stripL (strip σ d) (ms.flatMap bg)=some (ms.flatMap bg,[]):=jW (fun x=>by rw[jd,jQ,jd,jQ,jd,jQ,jX];rfl) ms
theorem OM(σ:Store)(d:Nat)(js:List fM):stripL (strip σ d) (js.flatMap aX)=some (js.flatMap aX,[]):=jW (fun x=>by rw[jd,jQ,jd,jQ,jd,jQ,jd,jQ,jX];rfl) js
theorem kH{α:Type}{c:α->List V}{s:Nat}(hc:∀x,(c x).length=s)(hs:∀(σ:Store) (d:Nat) (l:List α),stripL (strip σ d) (l.flatMap c)=some (l.flatMap c,[])){σ:Store}{b:Nat}{l:List α}{w:Bool}(h:σ b=some ⟨l.flatMap c,s,w⟩)(d:Nat):strip σ (d+1) (.rs b 0 l.length)=some (LL c l,[b]):=by
 have E:=kD hc l;rw[jR,h];simp only[zl,yu,yX,E,zu,if_true];rw[zk (by omega),hs];rfl
theorem agp{xs:List Int}(hx:∀x∈xs,0<=x/\x<=255)(hl:xs.length<=1048576){σ:Store}{c nx:Nat}(hc:dJ σ c xs)(l6:c<nx)(k:Nat)(hk:k<4) :
  ∃t cells ids σ' nx',ev gu conv ext 60 [.rp c 0,I k] σ nx=some (.agg cells,σ',nx')/\Hy t k/\cells.length=5/\cells.all aJ=true/\stripL (strip σ' 5) cells=some (bZ t,ids)/\(∀b∈ids,nx<=b/\b<nx')/\nx<nx'/\dJ σ' c xs/\∀q,q<nx->q≠c->σ' q=σ q:=by
 obtain⟨i,h,h7,h8⟩:=hc;obtain⟨s,hs,i',h',dj,dm,dn,kh,d1,d2,d3,j1⟩:=alW xs hx hl i h h8;obtain⟨l1,l2,l3,l4⟩:=JF hs;obtain⟨a7,k1,h9,b4,b6,b8⟩:=kh c (nx+1) (upd σ nx (some ⟨[Sg ByteArray.empty,.nil,.nil,.nil,.nil],0,true⟩)) (by rw[iZ];exact h7) (by omega);obtain⟨jb,b9⟩:∃jb,jb=nx+1+dj:=⟨_,rfl⟩;obtain⟨G,c0⟩:∃G,G=nx+1+dm:=⟨_,rfl⟩;obtain⟨O,i0⟩:∃O,O=nx+1+dn:=⟨_,rfl⟩;rw[<- b9,<- c0,<- i0]at k1;rw[<- b9]at b4;rw[<- c0]at b6;have C1:dJ a7 c xs:=⟨i',h',h9,j1⟩;have b1:a7 nx=some ⟨[Sg ByteArray.empty,.nil,.nil,.nil,.nil],0,true⟩:=by rw[b8 nx (by omega) (by omega),iW]
 obtain⟨σ2,e2⟩:∃σ2,σ2=upd a7 O (some ⟨[.rs jb 0 s.au.length,.rs G 0 s.members.length],0,true⟩):=⟨_,rfl⟩;have C2:dJ σ2 c xs:=by rw[e2];exact C1.upd (by omega)
 have b2:σ2 O=some ⟨[.rs jb 0 s.au.length,.rs G 0 s.members.length],0,true⟩:=by rw[e2,iW]
 have i1:σ2 nx=some ⟨[Sg ByteArray.empty,.nil,.nil,.nil,.nil],0,true⟩:=by rw[e2,iZ];exact b1
 have c2:σ2 jb=some ⟨s.au.flatMap aX,4,true⟩:=by rw[e2,iZ];exact b4
 have i2:σ2 G=some ⟨s.members.flatMap bg,3,true⟩:=by rw[e2,iZ];exact b6
 have kd:=aiS k hk;have hF:∀q,q∈[c,jb,G]->restrict σ2 [c,jb,G] q=σ2 q:=fun q hq=>by unfold restrict;rw[uf hq]
 obtain⟨L,lb,i3,E,k3,Vy,i4,i5,g1,g2,Cr,f3⟩:=alZ hx hl (js:=s.au) l1 l2 (w:=.rs G 0 s.members.length) (σ:=restrict σ2 [c,jb,G]) (nx:=O+1) (c:=c) (jb:=jb) (by
  obtain⟨a1,a2,a3,a4⟩:=C2;exact⟨a1,a2,by rw[hF c (by simp)];exact a3,a4⟩) (by omega) (by rw[hF jb (by simp)];exact c2) (by omega) (by omega) rfl
 obtain⟨J,e3⟩:∃J,J=aQ [c,jb,G] (O+1) E σ2 i3:=⟨_,rfl⟩;have p3:∀q,q<O+1->q≠c->J q=σ2 q:=fun q hq c3=>by
  rw[e3];unfold aQ
  split
  .rw[f3 q hq c3]
   rename_i hh;rcases hh with hh|hh
   .exact hF q hh
   .omega
  .rfl
 have C3:dJ J c xs:=by
  obtain⟨a1,a2,a3,a4⟩:=Cr;refine⟨a1,a2,?_,a4⟩;rw[e3];unfold aQ;rw[uf (.inl (by simp))];exact a3
 have i6:J lb=some ⟨L.flatMap cI,1,true⟩:=by
  rw[e3];unfold aQ;rw[uf (.inr ⟨g1,g2⟩)];exact i5
 have b3:J O=some ⟨[.rs jb 0 s.au.length,.rs G 0 s.members.length],0,true⟩:=by rw[p3 O (by omega) (by omega)];exact b2
 have i7:J nx=some ⟨[Sg ByteArray.empty,.nil,.nil,.nil,.nil],0,true⟩:=by rw[p3 nx (by omega) (by omega)];exact i1
 have i9:J jb=some ⟨s.au.flatMap aX,4,true⟩:=by rw[p3 jb (by omega) (by omega)];exact c2
 have j0:J G=some ⟨s.members.flatMap bg,3,true⟩:=by rw[p3 G (by omega) (by omega)];exact i2
 have j2:∀q,q<nx->q≠c->J q=σ q:=fun q h1 h2=>by
  rw[p3 q (by omega) h2,e2,iZ,b8 q (by omega) h2,iZ]
 rw[qO [.cell 4 43] [2,5] func60];have z1:¬O=nx:=by omega
 have z2:¬nx=O:=by omega
 have z3:O<O+1:=by omega
 have z4:c<O+1:=by omega
 have z5:jb<O+1:=by omega
 have z6:G<O+1:=by omega
 have z7:¬E=O:=by omega
 have z8:¬O=E:=by omega
 have sz:(⟨#[116]⟩:ByteArray).size+(Xr k).size<=9223372036854775807:=by show 1+1<=_;omega
 have j3:(#[116]:Array UInt8).size+(Xr k).size<=9223372036854775807:=sz;have nm:(⟨#[116]⟩:ByteArray)++Xr k=BI k:=rfl;have z9:E<E+1:=by omega
 have j4:(O==c)=false:=by rw[uZ];omega
 have j5:(c==O)=false:=by rw[uZ];omega
 have z12:(O==jb)=false:=by rw[uZ];omega
 have j6:(O==G)=false:=by rw[uZ];omega
 have j7:(jb==O)=false:=by rw[uZ];omega
 have j8:(G==O)=false:=by rw[uZ];omega
 have j9:(E==c)=false:=by rw[uZ];omega
 have k0:(E==jb)=false:=by rw[uZ];omega
 have k2:(E==G)=false:=by rw[uZ];omega
 have k4:(E==O)=false:=by rw[uZ];omega
 obtain⟨Z,eZ⟩:∃Z:V->List V,Z=fun w=>[Sg (BI k),.rs jb 0 s.au.length,.rs G 0 s.members.length,.rs lb 0 (2*s.au.length),w]:=⟨_,rfl⟩
 obtain⟨m0,c4⟩:∃m0,m0=s.members.length:=⟨_,rfl⟩;simp only[go_sem,sG,k1,<- e2,b2,kd,k3,z1,z2,z3,z4,z5,z6,z7,z8,z9,j4,j5,z12,j6,j7,j8,j9,k0,k2,k4,sz,j3,nm,<- e3,b3];generalize hL:aA _ _=y;obtain⟨x,rfl,T,A_,n4,rfl,t4,t6,l7,C4,acc,w,ha,hv,S,hG,hB,Y⟩:=rP hL m0 (fun j st=>st.T 0= .rp c 0/\st.T 4= .rp nx 0/\st.T 6= .rp E 0/\st.T 19=I m0/\st.T 20=I j/\E<st.nx/\dJ st.σ c xs/\∃acc w,acc.length=j/\(∀x∈acc,x=5\/x=20\/x=100\/x=500)/\st.σ E=some ⟨Z w,0,true⟩/\Grow (fun _=>w) st.σ st.nx 0 acc/\(∀b o l,w= .rs b o l->E<b)/\∀q,q<E->q≠c->st.σ q=J q)
  (fun x=>∃T A_ n4,x=(.exit 0,⟨T,A_,n4⟩)/\T 4= .rp nx 0/\T 6= .rp E 0/\E<n4/\dJ A_ c xs/\∃acc w,acc.length=m0/\(∀x∈acc,x=5\/x=20\/x=100\/x=500)/\A_ E=some ⟨Z w,0,true⟩/\Grow (fun _=>w) A_ n4 0 acc/\(∀b o l,w= .rs b o l->E<b)/\∀q,q<E->q≠c->A_ q=J q) (by
   clear hL;rintro j ⟨T,A_,m⟩ hj ⟨t0,t4,t6,t19,t20,hm,C4,acc,w,ha,hv,S,hG,hB,Y⟩;simp only at t0 t4 t6 t19 t20 hm C4 S hG Y;have f1:(j:Int)<(m0:Int):=by omega
   have f2:=nP j;have f3:=iF (n:=(j:Int)+1);have c5:∀a:V,rep 4 [a]=[a,a,a,a]:=fun _=>rfl
   have c6:∀z:List V,rep 1 z=z:=fun z=>by simp[rep]
   obtain⟨Cb,e5⟩:∃Cb,Cb=upd A_ m (some ⟨[I 5,I 20,I 100,I 500],1,true⟩):=⟨_,rfl⟩;have C5:dJ Cb c xs:=by rw[e5];exact C4.upd (by omega)
   obtain⟨r,hr,x,kp,k5⟩:=aiT hx hl (σ:=restrict Cb [c,m]) (c:=c) (b:=m) (nx:=m+1) (by
    obtain⟨a1,a2,a3,a4⟩:=C5;exact⟨a1,a2,by rw[lD];exact a3,a4⟩) (by omega) [5,20,100,500] (by decide) (by decide) (by rw[Ef,e5,iW];rfl) (by omega) (by omega)
   obtain⟨v,c7⟩:∃v,v=([5,20,100,500]:List Int)[r]:=⟨_,rfl⟩;have c8:v=5\/v=20\/v=100\/v=500:=by
    have:r=0\/r=1\/r=2\/r=3:=by simp only[zi,yw]at hr;omega
    rcases this with rfl|rfl|rfl|rfl<;>subst c7<;>simp
   rw[<- c7]at kp;have kp:ev gu conv ext 99 [.rp c 0,.rs m 0 4] (restrict Cb [c,m]) (m+1)=some (I v,upd (restrict Cb [c,m]) c x,m+1):=kp
   obtain⟨Dn,e6⟩:∃Dn,Dn=upd Cb c x:=⟨_,rfl⟩;have C6:dJ Dn c xs:=by
    obtain⟨a1,a2,a3,a4⟩:=k5;rw[iW]at a3;exact⟨a1,a2,by rw[e6,iW];exact a3,a4⟩
   obtain⟨a6,e7⟩:∃a6,a6=upd Dn (m+1) (some ⟨[I v],1,true⟩):=⟨_,rfl⟩;have C7:dJ a6 c xs:=by rw[e7];exact C6.upd (by omega)
   have b7:a6 E=some ⟨Z w,0,true⟩:=by rw[e7,iZ,e6,iZ,e5,iZ];exact S
   have c9:a6 (m+1)=some ⟨[I v],1,true⟩:=by rw[e7,iW]
   have b5:Cb E=some ⟨Z w,0,true⟩:=by rw[e5,iZ];exact S
   have e0:∀q,q<E->q≠c->a6 q=J q:=fun q h1 h2=>by rw[e7,iZ,e6,iY _ _ h2,e5,iZ];exact Y q h1 h2
   have y1:¬E=m:=by omega
   have y2:¬E=m+1:=by omega
   have y3:¬E=m+1+1:=by omega
   have y4:E<m:=hm;have y5:c<m+1:=by omega
   have y6:m<m+1:=by omega
   have y7:m+1<m+1+1:=by omega
   have y8:E<m+1+1+1:=by omega
   have y9:(E==c)=false:=by rw[uZ];omega
   have e1:(c==E)=false:=by rw[uZ];omega
   have e4:(E==m)=false:=by rw[uZ];omega
   have e8:(E==m+1)=false:=by rw[uZ];omega
   have e9:(m==E)=false:=by rw[uZ];omega
   have h0:(m+1==E)=false:=by rw[uZ];omega
   have h3:(m+1==c)=false:=by rw[uZ];omega
   have h4:(m+1==m)=false:=by rw[uZ];omega
   have h5:¬E=c:=by omega
   have Zw:∀w',(Z w).set 4 w'=Z w':=fun w'=>by rw[eZ];rfl
   have Z4:(Z w)[4]?=some w:=by rw[eZ];rfl
   have Zl:(Z w).length=5:=by rw[eZ];rfl
   rcases hG with ⟨hw,rfl⟩|⟨b,hw,c3,a8,k6⟩
   .have hw:w= .nil:=hw
    subst hw;refine .inl ⟨_,by simp only[go_sem,sG,t0,t4,t6,t19,t20,f1,f2,f3,c5,c6,<- e5,kp,S,b5,<- e6,<- e7,b7,c9,y1,y2,y3,y4,y5,y6,y7,y8,y9,e1,e4,e8,e9,h0,h3,h4,h5,Z4,Zl,Zw,nH];rfl,?_⟩;simp only[go_sem,t0,t4,t6,t19];refine⟨rfl,by omega,(C7.upd (by omega)).upd (by omega),[v],.rs (m+1+1) 0 1,by rw[<- ha];rfl,fun x hx=>by rw[yC]at hx;subst hx;exact c8,rfl,.inr ⟨m+1+1,rfl,by simp,?_,by omega⟩,fun b o l hb=>by cases hb;omega,fun q h1 h2=>?_⟩
    .rw[iZ,iW];rfl
    .rw[iZ,iZ];exact e0 q h1 h2
   .have hw:w= .rs b 0 acc.length:=hw
    subst hw;have l8:=hB b 0 _ rfl;have k7:a6 b=some ⟨acc.flatMap cI,1,true⟩:=by rw[e7,iZ,e6,iZ,e5,iZ];exact a8
    have h6:=IB (σ:=restrict a6 [b,m+1]) (nx:=m+1+1) (bytes:=8) (b:=b) (len:=acc.length) (m:=1) (B:=⟨acc.flatMap cI,1,true⟩) (row:=[I v]) (by rw[lD];exact k7) (sS acc) rfl (by decide) (by unfold maxLen;omega) (by omega) rfl;have x1:b<m+1+1:=by omega
    have x2:(E==b)=false:=by rw[uZ];omega
    have x3:(b==E)=false:=by rw[uZ];omega
    have x4:(b==c)=false:=by rw[uZ];omega
    have x5:(c==b)=false:=by rw[uZ];omega
    have x6:(b==m)=false:=by rw[uZ];omega
    have x7:(m==b)=false:=by rw[uZ];omega
    have x8:¬E=b:=by omega
    refine .inl ⟨_,by simp only[go_sem,sG,t0,t4,t6,t19,t20,f1,f2,f3,c5,c6,<- e5,kp,S,b5,<- e6,<- e7,b7,c9,y1,y2,y3,y4,y5,y6,y7,y8,y9,e1,e4,e8,e9,h0,h3,h4,h5,Z4,Zl,Zw,nH,h6,x1,x2,x3,x4,x5,x6,x7,x8];rfl,?_⟩;simp only[go_sem,t0,t4,t6,t19];refine⟨rfl,by omega,((C7.upd (by omega)).upd (by omega)).upd (by omega),acc++[v],.rs (m+1+1) 0 (acc.length+1),by rw[zo,ha];rfl,fun x hx=>?_,rfl,.inr ⟨m+1+1,by rw[zo];rfl,by simp,?_,by omega⟩,fun b o l hb=>by cases hb;omega,fun q h1 h2=>?_⟩
    .rcases List.mem_append.mp hx with hx|hx
     .exact hv x hx
     .rw[yC]at hx;subst hx;exact c8
    .rw[iZ,iW,zC];rfl
    .rw[iZ,iZ,iZ];exact e0 q h1 h2) (by
   clear hL;rintro ⟨T,A_,m⟩ ⟨t0,t4,t6,t19,t20,hm,C4,acc,w,ha,hv,S,hG,hB,Y⟩;simp only at t0 t4 t6 t19 t20 hm C4 S hG Y;exact⟨_,by simp only[go_sem,t19,t20,zX];rfl,by simp,_,_,_,rfl,by simp only[go_sem,t4],by simp only[go_sem,t6],hm,C4,acc,w,ha,hv,S,hG,hB,Y⟩) (by
   simp only[go_sem,c4];refine⟨by omega,C3.upd (by omega),[],.nil,rfl,?_⟩;refine⟨fun x hx=>by(cases hx),?_⟩;exact⟨by rw[eZ],.inl ⟨rfl,rfl⟩,fun b o l hb=>by(cases hb),fun q h1 h2=>iZ⟩)
 have Z5:Z w=[Sg (BI k),.rs jb 0 s.au.length,.rs G 0 s.members.length,.rs lb 0 (2*s.au.length),w]:=by rw[eZ]
 have k8:A_ nx=some ⟨[Sg ByteArray.empty,.nil,.nil,.nil,.nil],0,true⟩:=by rw[Y nx (by omega) (by omega)];exact i7
 have cw:aJ w=true:=by
  rcases hG with ⟨hw,_⟩|⟨b,hw,_⟩
  .have hw:w= .nil:=hw
   rw[hw];rfl
  .have hw:w= .rs b 0 _:=hw
   rw[hw];rfl
 have z20:¬E=nx:=by omega
 have z21:¬nx=E:=by omega
 rw[Z5]at S;simp only[go_sem,t4,t6,S,k8,cw,z20,z21];refine⟨⟨BI k,s,L,acc⟩,[Sg (BI k),.rs jb 0 s.au.length,.rs G 0 s.members.length,.rs lb 0 (2*s.au.length),w],?_⟩;have sj:strip (upd A_ nx (some ⟨[Sg (BI k),.rs jb 0 s.au.length,.rs G 0 s.members.length,.rs lb 0 (2*s.au.length),w],0,true⟩)) 5 (.rs jb 0 s.au.length)=some (LL aX s.au,[jb]) :=
  kH (c:=aX) (s:=4) (fun _=>rfl) OM (w:=true) (by rw[iZ,Y jb (by omega) (by omega)];exact i9) 4
 have sm:strip (upd A_ nx (some ⟨[Sg (BI k),.rs jb 0 s.au.length,.rs G 0 s.members.length,.rs lb 0 (2*s.au.length),w],0,true⟩)) 5 (.rs G 0 s.members.length)=some (LL bg s.members,[G]) :=
  kH (c:=bg) (s:=3) (fun _=>rfl) KA (w:=true) (by rw[iZ,Y G (by omega) (by omega)];exact j0) 4
 have sl:strip (upd A_ nx (some ⟨[Sg (BI k),.rs jb 0 s.au.length,.rs G 0 s.members.length,.rs lb 0 (2*s.au.length),w],0,true⟩)) 5 (.rs lb 0 (2*s.au.length))=some (LI L,[lb]) :=
  oQ (by rw[iZ,Y lb (by omega) (by omega)];exact i6) Vy 4
 obtain⟨iw,k9,l5⟩:∃iw,strip (upd A_ nx (some ⟨[Sg (BI k),.rs jb 0 s.au.length,.rs G 0 s.members.length,.rs lb 0 (2*s.au.length),w],0,true⟩)) 5 w=some (LI acc,iw)/\∀b∈iw,nx<=b/\b<n4:=by
  rcases hG with ⟨hw,rfl⟩|⟨b,hw,_,a8,k6⟩
  .have hw:w= .nil:=hw
   exact⟨[],by rw[hw,jS];rfl,by simp⟩
  .have hw:w= .rs b 0 acc.length:=hw
   have:=hB b 0 _ hw;refine⟨[b],by rw[hw];exact oQ (by rw[iZ];exact a8) rfl 4,fun q hq=>by rw[yC]at hq;omega⟩
 refine⟨[]++([jb]++([G]++([lb]++(iw++[])))),_,n4,rfl,⟨hs,rfl,Vy,i4,?_,hv⟩,rfl,?_,?_,fun b hb=>?_,by omega,C4.upd (by omega),fun q h1 h2=>?_⟩
 .rw[ha,c4]
 .simp only[xH,cw];rfl
 .rw[jd,jQ,jd,sj,jd,sm,jd,sl,jd,k9,jX];rfl
 .simp only[uq,yC,zG,or_false,false_or]at hb
  rcases hb with rfl|rfl|rfl|hb
  .omega
  .omega
  .omega
  .exact l5 b hb
 .rw[iZ,Y q (by omega) h2];exact j2 q h1 h2
theorem jh{f:V->Option (V×List Nat)}:∀ {a b E G:List V} {J O:List Nat},stripL f a=some (E,J)->stripL f b=some (G,O)->stripL f (a++b)=some (E++G,J++O)
 |[],b,E,G,J,O,h1,h2=>by
  rw[jX]at h1;cases h1;exact h2
 |v :: a,b,E,G,J,O,h1,h2=>by
  rw[jd]at h1;cases S:f v with
  |none=>rw[S]at h1;cases h1
  |some p=>
   cases Y:stripL f a with
   |none=>rw[S,Y]at h1;cases h1
   |some q=>
    rw[S,Y]at h1;have ih:=jh Y h2;rw[xY,jd,S,ih];simp only[zl,zT,uj,uh]at h1⊢;obtain⟨rfl,rfl⟩:=h1;exact⟨rfl,by rw[zF]⟩
theorem jZ{σ σ':Store}{d:Nat}{cells ts:List V}{ids:List Nat}(h:stripL (strip σ d) cells=some (ts,ids))(E:∀b∈ids,σ' b=σ b):stripL (strip σ' d) cells=some (ts,ids) :=
 je (fun v t i h hi=>jU _ v t i h fun b hb=>E b (hi b hb)) h
theorem ZJ{σ:Store}{nx size bytes b len m:Nat}{cells row:List V}(hb:σ b=some ⟨cells,size,true⟩)(O:len*size=cells.length)(hs:0<size)(hm:m≠0)(E:len+m<=maxLen)(G:(len+m)*bytes<=140737488355328)(J:row.all aJ=true) :
  bC σ nx size bytes (.rs b 0 len) row m=some (.rs nx 0 (len+m),upd (upd σ b none) nx (some ⟨cells++row,size,true⟩),nx+1):=by
 rw[u_,hb];simp only[zl];have S:size<=m*size:=Nat.le_mul_of_pos_left _ (by omega);rw[ug hm,ug (by rw[wO];omega),uf ⟨by omega,trivial,E,G,J⟩];rfl
theorem Sv{z vs:List V}(h:vs.length=z.length)(E:2<=vs.length):patch z 0 vs=vs:=by
 rw[mQ _ _ _ (by omega),List.take_zero,wR,yu,yD (by omega),zA]
structure Sz (σ:Store) (lo hi:Nat) (w:V) (AA:List fV) (cells:List V) (ids:List Nat):Prop where
 w:(w= .nil/\AA=[]/\cells=[])\/∃sb,w= .rs sb 0 AA.length/\AA≠[]/\σ sb=some ⟨cells,5,true⟩/\lo<=sb/\sb<hi/\sb∉ids
 st:stripL (strip σ 5) cells=some (AA.flatMap bZ,ids)
 len:cells.length=AA.length*5
 cell:cells.all aJ=true
 ids:∀b∈ids,lo<=b/\b<hi
 ok:∀i (h:i<AA.length),Hy AA[i] i
theorem Sz.frame{σ σ':Store}{lo hi E:Nat}{w:V}{AA:List fV}{cells:List V}{ids:List Nat}(h:Sz σ lo hi w AA cells ids)(O:hi<=E)(G:∀b,lo<=b->b<hi->σ' b=σ b):Sz σ' lo E w AA cells ids:=by
 refine⟨?_,jZ h.st fun b hb=>G b (h.ids b hb).1 (h.ids b hb).2,h.len,h.cell,fun b hb=>⟨(h.ids b hb).1,xq (h.ids b hb).2 O⟩,h.ok⟩;rcases h.w with hw|⟨sb,S,Y,h3,J,h5,h6⟩
 .exact .inl hw
 .exact .inr ⟨sb,S,Y,by rw[G sb J h5];exact h3,J,by omega,h6⟩
def ag':V->List Nat
 | .rs b _ _=>[b]
 |_=>[]
structure GZ (n:Nat) (ms:List TV.Move) (i k:Nat):Prop where
 len:ms.length<=12
 good:∀j (h:j<ms.length),AQ n ms[j]/\(ms[j].fr<(i:Int)\/(ms[j].fr=(i:Int)/\ms[j].to<(k:Int)))
 KG:∀a b (ha:a<ms.length) (hb:b<ms.length),a<b->gi ms[b] ms[a]=false
theorem GZ.mono{n:Nat}{ms:List TV.Move}{i k G J:Nat}(h:GZ n ms i k)(O:∀f t:Int,(f<(i:Int)\/(f=(i:Int)/\t<(k:Int)))->f<(n:Int)->t<(n:Int)->f<(G:Int)\/(f=(G:Int)/\t<(J:Int))):GZ n ms G J :=
 ⟨h.len,fun j E=>⟨(h.good j E).1,O _ _ (h.good j E).2 (h.good j E).1.2.1 (h.good j E).1.2.2.2.1⟩,h.KG⟩
theorem GZ.add{n:Nat}{ms:List TV.Move}{i k:Nat}(h:GZ n ms i k)(hl:ms.length<12)(hi:i<n)(hk:k<n)(a1:i≠k):GZ n (ms++[⟨(i:Int),(k:Int)⟩]) i (k+1):=by
 have J:∀ {a:Nat} (ha:a<(ms++[(⟨(i:Int),(k:Int)⟩:TV.Move)]).length),(∃E:a<ms.length,(ms++[(⟨(i:Int),(k:Int)⟩:TV.Move)])[a]=ms[a])\/(a=ms.length/\(ms++[(⟨(i:Int),(k:Int)⟩:TV.Move)])[a]=⟨(i:Int),(k:Int)⟩):=fun {a} ha=>by
  by_cases E:a<ms.length
  .exact .inl ⟨E,yH E⟩
  .have:a=ms.length:=by rw[zo,yT]at ha;omega
   subst this;exact .inr ⟨rfl,by simp⟩
 refine⟨by rw[zo];exact hl,fun j hj=>?_,fun a b ha hb O=>?_⟩
 .rcases J hj with ⟨E,e⟩|⟨_,e⟩
  .rw[e]
   have:=h.good j E;exact⟨this.1,by omega⟩
  .rw[e]
   exact⟨⟨by show(0:Int)<=(i:Int);omega,by show(i:Int)<(n:Int);omega,by show(0:Int)<=(k:Int);omega,by show(k:Int)<(n:Int);omega,by show(i:Int)≠(k:Int);omega⟩,.inr ⟨rfl,by show(k:Int)<((k+1:Nat):Int);omega⟩⟩
 .rcases J ha with ⟨G,S⟩|⟨ra,S⟩<;>rcases J hb with ⟨Y,eb⟩|⟨rb,eb⟩
  .rw[S,eb];exact h.KG a b G Y O
  .rw[S,eb]
   have:=(h.good a G).2;unfold gi;simp only
   by_cases e1:(i:Int)=ms[a].fr
   .have e2:¬(k:Int)=ms[a].to:=by omega
    rw[show((k:Int)==ms[a].to)=false by rw[uZ];exact e2,xA]
   .rw[show((i:Int)==ms[a].fr)=false by rw[uZ];exact e1,vk]
  .omega
  .omega
theorem SA{α:Type}{c:α->List V}{s:Nat}{T:Nat->V}{σ σ':Store}{nx nx' t:Nat}{acc:List α}(E:gG c s T σ nx t acc)(hn:nx<=nx')(h:∀b o l,T t= .rs b o l->σ' b=σ b):gG c s T σ' nx' t acc:=by
 rcases E with ⟨g1,g2⟩|⟨b,g1,g2,g3,g4⟩
 .exact .inl ⟨g1,g2⟩
 .exact .inr ⟨b,g1,g2,by rw[h _ _ _ g1];exact g3,by omega⟩
theorem adt{i k:Nat}(hi:i<4)(J:k<4)(h:i≠k):((BI i).toList==(BI k).toList)=false:=by
 have e:∀w:UInt8,(⟨#[116,w]⟩:ByteArray).toList=[116,w]:=fun w=>by
  unfold ByteArray.toList ByteArray.toList.loop ByteArray.toList.loop ByteArray.toList.loop;rfl
 unfold BI;rw[e,e];have E:i=0\/i=1\/i=2\/i=3:=by omega
 have G:k=0\/k=1\/k=2\/k=3:=by omega
 rcases E with rfl|rfl|rfl|rfl<;>rcases G with rfl|rfl|rfl|rfl<;>first|exact absurd rfl h|rfl
theorem agq{AA:List fV}{ms:List TV.Move}{b:Bool}{i k:Nat}(h4:AA.length<=4)(hs:∀i (h:i<AA.length),Hy AA[i] i)(hm:GZ AA.length ms i k):aW ⟨AA,ms,b⟩/\qI ⟨AA,ms,b⟩:=by
 have mx:12<=maxLen:=by decide
 have O:=hm.len;refine⟨⟨by show AA.length<=6;omega,O,fun i hi=>⟨(MB (by have hi:i<AA.length:=hi;omega) (hs i hi)).1,?_⟩,fun j E=>⟨(hm.good j E).1,?_⟩⟩,⟨fun t S=>?_,by show AA.length*112<=_;omega,by show AA.length<=_;omega⟩,⟨fun m G=>?_,by show ms.length*16<=_;omega,by show ms.length<=_;omega⟩,trivial⟩
 .refine DW hi (fun j E Y=>?_) (by simp[isNamed])
  show((AA[j]).name.toList==(AA[i]).name.toList)=false;have hi:i<AA.length:=hi;rw[(hs j E).2.1,(hs i hi).2.1];exact adt (by omega) (by omega) (by omega)
 .refine DW E (fun a ha J=>hm.KG a j ha E J) (by simp[gi])
 .obtain⟨i,hi,rfl⟩:=yK S
  exact(MB (by have:i<AA.length:=hi;omega) (hs i hi)).2
 .obtain⟨j,E,rfl⟩:=yK G
  obtain⟨⟨a1,a2,a3,a4,_⟩,_⟩:=hm.good j E;exact⟨DU.mpr (by show _<=ms[j].fr/\ms[j].fr<=_;omega),DU.mpr (by show _<=ms[j].to/\ms[j].to<=_;omega)⟩
theorem amf{xs:List Int}(hx:∀x∈xs,0<=x/\x<=255)(hl:xs.length<=1048576){σ:Store}{c nx:Nat}(hc:dJ σ c xs)(j5:c<nx) :
  ∃y cells ids σ' nx',ev gu conv ext 26 [.rp c 0] σ nx=some (.agg cells,σ',nx')/\cells.all aJ=true/\cells.length=3/\(∀f,(∀b,b≠c->nx<=b->f b=σ' b)->stripL (strip f 6) cells=some (bQ y,ids))/\aW y/\qI y/\(2<=y.ah.length/\y.ah.length<=4/\∀t∈y.ah,t.st.members.length<=3)/\∀q,q<nx->q≠c->σ' q=σ q:=by
 obtain⟨b,x0,k0,C0⟩:=VQ hx hl (hc.upd (b:=nx) (x:=some ⟨[.nil,.nil,Bo false],0,true⟩) (by omega)) (show c<nx+1 by omega) 4 (by decide) (by decide);have z1:¬nx=nx+1:=by omega
 have z2:¬nx+1=nx:=by omega
 have z3:c<nx+1:=by omega
 rw[qO [.cell 2 26] [5] func26];simp only[go_sem,sG,k0,z1,z2,z3];generalize hL:aA _ _=y;obtain⟨x,rfl,T,Cb,n5,rfl,t0,t2,t3,j6,C5,AA,cells,ids,w,b6,h9,i0,c6,hS,i1⟩:=nY hL (fun m st=>∃k,m+k=4/\st.T 0= .rp c 0/\st.T 2= .rp nx 0/\st.T 3= .rp (nx+1) 0/\st.T 4=I k/\nx+1<st.nx/\dJ st.σ c xs/\∃AA cells ids w,AA.length=k/\st.σ nx=some ⟨[.nil,.nil,Bo false],0,true⟩/\st.σ (nx+1)=some ⟨[w,.nil,Bo b],0,true⟩/\Sz st.σ (nx+1+1) st.nx w AA cells ids/\∀q,q<nx->q≠c->st.σ q=σ q)
  (fun x=>∃T Cb n5,x=(.exit 0,⟨T,Cb,n5⟩)/\T 0= .rp c 0/\T 2= .rp nx 0/\T 3= .rp (nx+1) 0/\nx+1<n5/\dJ Cb c xs/\∃AA cells ids w,2<=AA.length/\AA.length<=4/\Cb nx=some ⟨[.nil,.nil,Bo false],0,true⟩/\Cb (nx+1)=some ⟨[w,.nil,Bo b],0,true⟩/\Sz Cb (nx+1+1) n5 w AA cells ids/\∀q,q<nx->q≠c->Cb q=σ q) (by
   clear hL;rintro m ⟨T,Y,m1⟩ ⟨k,j7,t0,t2,t3,t4,J,C1,AA,cells,ids,w,hlen,b0,b1,hS,fr⟩;simp only at t0 t2 t3 t4 J C1 b0 b1 hS fr;obtain⟨r,x1,k1,hr,C2⟩:=OE hx hl C1 (show c<m1 by omega) 3 (by decide) (by decide);obtain⟨σ2,e2⟩:∃σ2,σ2=upd Y c x1:=⟨_,rfl⟩;rw[<- e2]at C2;have Ce:∀q,q≠c->σ2 q=Y q:=fun q h=>by rw[e2,iY _ _ h]
   have w1:=iF (n:=2+r)
   by_cases g1:(k:Int)<2+r
   .by_cases g2:(k:Int)<4
    .have G:=iF (n:=(k:Int)+1)
     obtain⟨t,sc,is,c7,n',ks,hP,a7,a8,b7,a6,j8,Cr,j9⟩:=agp hx hl (σ:=restrict σ2 [c]) (c:=c) (nx:=m1) (by
      obtain⟨a1,a2,a3,a4⟩:=C2;exact⟨a1,a2,by rw[lC];exact a3,a4⟩) (by omega) k (by omega)
     obtain⟨S,e3⟩:∃S,S=aQ [c] m1 n' σ2 c7:=⟨_,rfl⟩;have p1:∀q,q<m1->q≠c->S q=Y q:=fun q E O=>by
      rw[e3];unfold aQ;rw[ug (by simp only[yC];omega)];exact Ce q O
     have p2:∀q,m1<=q->q<n'->S q=c7 q:=fun q E O=>by
      rw[e3];unfold aQ;rw[uf (.inr ⟨E,O⟩)]
     have C3:dJ S c xs:=by
      obtain⟨a1,a2,a3,a4⟩:=Cr;refine⟨a1,a2,?_,a4⟩;rw[e3];unfold aQ;rw[uf (.inl (by simp))];exact a3
     have c8:stripL (strip S 5) sc=some (bZ t,is):=jZ b7 fun b hb=>p2 b (a6 b hb).1 (a6 b hb).2
     have pz:∀a b c d e:V,patch [a,b,c,d,e] 0 sc=sc:=fun a b c d e=>Sv (by rw[a7];rfl) (by omega)
     have c9:∀z:List V,rep 1 z=z:=fun z=>by simp[rep]
     have tk:sc.take 5=sc:=zk (by omega);obtain⟨A_,e4⟩:∃A_,A_=upd S n' (some ⟨sc,5,true⟩):=⟨_,rfl⟩;have b8:A_ (nx+1)=some ⟨[w,.nil,Bo b],0,true⟩:=by rw[e4,iZ,p1 _ (by omega) (by omega)];exact b1
     have e0:A_ n'=some ⟨sc,5,true⟩:=by rw[e4,iW]
     have b9:σ2 (nx+1)=some ⟨[w,.nil,Bo b],0,true⟩:=by rw[Ce _ (by omega)];exact b1
     have C4:dJ A_ c xs:=by rw[e4];exact C3.upd (by omega)
     have p4:∀q,q<m1->q≠c->A_ q=Y q:=fun q E O=>by rw[e4,iZ];exact p1 q E O
     have RS:stripL (strip A_ 5) sc=some (bZ t,is):=jZ c8 fun b hb=>by rw[e4,iY _ _ (by have:=a6 b hb;omega)]
     have y1:nx+1<m1:=J;have y2:c<m1:=by omega
     have y3:n'<n'+1:=by omega
     have y4:nx+1<n'+1+1:=by omega
     have y5:¬nx+1=n':=by omega
     have y6:¬nx+1=n'+1:=by omega
     have y7:(nx+1==c)=false:=by rw[uZ];omega
     have y8:(c==nx+1)=false:=by rw[uZ];omega
     have y9:(nx+1==n')=false:=by rw[uZ];omega
     have e5:(n'==nx+1)=false:=by rw[uZ];omega
     have e6:(n'==c)=false:=by rw[uZ];omega
     have e7:5<=sc.length:=by omega
     rcases hS.w with ⟨rfl,rfl,rfl⟩|⟨sb,rfl,k2,c2,s1,s2,s3⟩
     .refine .inl ⟨_,by simp only[go_sem,sG,t0,t2,t3,t4,k1,<- e2,w1,G,g1,g2,b1,b9,ks,<- e3,a7,a8,pz,c9,tk,<- e4,b8,e0,y1,y2,y3,y4,y5,y6,y7,y8,y9,e5,e6,e7,nH];rfl,?_⟩
      simp only[go_sem,t0,t2,t3];have e8:k=0:=hlen.symm;refine⟨3,by omega,1,by omega,by rw[e8];rfl,by omega,(C4.upd (by omega)).upd (by omega),[t],sc,is,.rs (n'+1) 0 1,rfl,?_,rfl,?_,fun q E O=>?_⟩
      .rw[iZ,iZ,p4 _ (by omega) (by omega)];exact b0
      .refine⟨.inr ⟨n'+1,rfl,by simp,by rw[iZ,iW],by omega,by omega,fun hm=>by have:=a6 _ hm;omega⟩,?_,by rw[a7];rfl,a8,fun b hb=>by have:=a6 b hb;omega,fun i hi=>?_⟩
       .have e:[t].flatMap bZ=bZ t:=by simp
        rw[e];exact jZ RS fun b hb=>by rw[iY _ _ (by have:=a6 b hb;omega),iY _ _ (by have:=a6 b hb;omega)]
       .have hi0:i=0:=by rw[yT]at hi;omega
        subst hi0;rw[e8]at hP;exact hP
      .rw[iZ,iZ,p4 _ (by omega) O];exact fr q E O
     .rw[hlen]at b1 b9 b8
      have i2:A_ sb=some ⟨cells,5,true⟩:=by rw[p4 _ (by omega) (by omega)];exact c2
      have e9:=ZJ (σ:=restrict A_ [sb,n']) (nx:=n'+1) (size:=5) (bytes:=112) (b:=sb) (len:=k) (m:=1) (row:=sc) (by rw[lD];exact i2) (by rw[hS.len,hlen]) (by omega) (by decide) (by unfold maxLen;omega) (by omega) a8;have x1:sb<n'+1:=by omega
      have x2:(nx+1==sb)=false:=by rw[uZ];omega
      have x3:(sb==nx+1)=false:=by rw[uZ];omega
      have x4:(sb==c)=false:=by rw[uZ];omega
      have x5:(c==sb)=false:=by rw[uZ];omega
      have x6:¬nx+1=sb:=by omega
      refine .inl ⟨_,by simp only[go_sem,sG,t0,t2,t3,t4,k1,<- e2,w1,G,g1,g2,b1,b9,ks,<- e3,a7,a8,pz,c9,tk,<- e4,b8,e0,y1,y2,y3,y4,y5,y6,y7,y8,y9,e5,e6,e7,nH,e9,x1,x2,x3,x4,x5,x6];rfl,?_⟩;simp only[go_sem,t0,t2,t3];refine⟨m-1,by omega,k+1,by omega,rfl,by omega,((C4.upd (by omega)).upd (by omega)).upd (by omega),AA++[t],cells++sc,ids++is,.rs (n'+1) 0 (k+1),by rw[zo,hlen];rfl,?_,rfl,?_,fun q E O=>?_⟩
      .rw[iZ,iZ,iZ,p4 _ (by omega) (by omega)];exact b0
      .refine⟨.inr ⟨n'+1,by rw[zo,hlen];rfl,by simp,by rw[iZ,iW],by omega,by omega,fun hm=>?_⟩,?_,by rw[zo,zo,hS.len,a7,wO];rfl,by rw[List.all_append,hS.cell,a8];rfl,fun b hb=>?_,fun i hi=>?_⟩
       .rcases List.mem_append.mp hm with hm|hm
        .have:=hS.ids _ hm;omega
        .have:=a6 _ hm;omega
       .rw[zC]
        have e:[t].flatMap bZ=bZ t:=by simp
        rw[e];refine jh (jZ hS.st fun b hb=>?_) (jZ RS fun b hb=>?_)
        .have:=hS.ids b hb
         rw[iZ,iZ,iY _ _ (fun e=>s3 (by rw[<- e];exact hb)),p4 _ (by omega) (by omega)]
        .have:=a6 b hb
         rw[iZ,iZ,iZ]
       .rcases List.mem_append.mp hb with hb|hb
        .have:=hS.ids b hb;omega
        .have:=a6 b hb;omega
       .by_cases h0:i<AA.length
        .rw[yH h0];exact hS.ok i h0
        .have b3:i=AA.length:=by rw[zo,yT]at hi;omega
         subst b3;rw[vN (zu _)];simp only[yh,vX];rw[hlen];exact hP
      .rw[iZ,iZ,iZ,p4 _ (by omega) O];exact fr q E O
    .refine .inr ⟨_,by simp only[go_sem,sG,t0,t4,k1,<- e2,w1,g1,g2];rfl,by simp,_,_,_,rfl,by simp only[go_sem,t0],by simp only[go_sem,t2],by simp only[go_sem,t3],J,C2,AA,cells,ids,w,by omega,by omega,by rw[Ce _ (by omega)];exact b0,by rw[Ce _ (by omega)];exact b1,hS.frame (zu _) fun q E O=>Ce q (by omega),fun q E O=>by rw[Ce q O];exact fr q E O⟩
   .refine .inr ⟨_,by simp only[go_sem,sG,t0,t4,k1,<- e2,w1,g1];rfl,by simp,_,_,_,rfl,by simp only[go_sem,t0],by simp only[go_sem,t2],by simp only[go_sem,t3],J,C2,AA,cells,ids,w,by omega,by omega,by rw[Ce _ (by omega)];exact b0,by rw[Ce _ (by omega)];exact b1,hS.frame (zu _) fun q E O=>Ce q (by omega),fun q E O=>by rw[Ce q O];exact fr q E O⟩) 4 (by
   simp only[go_sem];refine⟨0,by omega,rfl,by omega,C0.upd (by omega),[],[],[],.nil,rfl,?_,rfl,⟨.inl ⟨rfl,rfl,rfl⟩,rfl,rfl,rfl,fun b hb=>by(cases hb),fun i hi=>absurd hi (zK _)⟩,fun q E O=>?_⟩
   .rw[iZ,iZ,iW]
   .rw[iZ,iY _ _ O,iZ])
 obtain⟨n,en⟩:∃n,n=AA.length:=⟨_,rfl⟩;obtain⟨sb,rfl,c2,s1,s2,s3⟩:∃sb,w= .rs sb 0 n/\Cb sb=some ⟨cells,5,true⟩/\nx+1+1<=sb/\sb<n5/\sb∉ids:=by
  rcases hS.w with ⟨_,hs,_⟩|⟨sb,hw,_,h3,h4,h5,h6⟩
  .rw[hs]at b6;simp at b6
  .exact⟨sb,by rw[hw,en],h3,h4,h5,h6⟩
 rw[<- en]at b6 h9;simp only[go_sem,t3,c6];generalize hL:aA _ _=z;obtain⟨x,rfl,T2,Dn,n6,rfl,t2,t3,Z_,ms,G,c0,c1,hG,hM,hB,h7⟩:=rP hL n (fun i st=>st.T 0= .rp c 0/\st.T 2= .rp nx 0/\st.T 3= .rp (nx+1) 0/\st.T 5=I n/\st.T 6=I i/\n5<=st.nx/\dJ st.σ c xs/\∃ms G,st.σ nx=some ⟨[.nil,.nil,Bo false],0,true⟩/\st.σ (nx+1)=some ⟨[.rs sb 0 n,G,Bo b],0,true⟩/\gG fG 2 (fun _=>G) st.σ st.nx 0 ms/\GZ n ms i 0/\(∀b o l,G= .rs b o l->n5<=b)/\∀q,q<n5->q≠c->q≠nx+1->st.σ q=Cb q)
  (fun x=>∃T Dn n6,x=(.exit 2,⟨T,Dn,n6⟩)/\T 2= .rp nx 0/\T 3= .rp (nx+1) 0/\n5<=n6/\∃ms G,Dn nx=some ⟨[.nil,.nil,Bo false],0,true⟩/\Dn (nx+1)=some ⟨[.rs sb 0 n,G,Bo b],0,true⟩/\gG fG 2 (fun _=>G) Dn n6 0 ms/\GZ n ms n 0/\(∀b o l,G= .rs b o l->n5<=b)/\∀q,q<n5->q≠c->q≠nx+1->Dn q=Cb q) (by
   clear hL;rintro i ⟨T,Y,m1⟩ hi ⟨t0,t2,t3,t5,t6,J,C1,ms,G,c0,c1,hG,hM,hB,fr⟩;simp only at t0 t2 t3 t5 t6 J C1 c0 c1 hG fr;have f1:(i:Int)<(n:Int):=by omega
   have f3:=iF (n:=(i:Int)+1);refine ji ?_
   conv=>
    enter [1,r,1,1]
    simp only[go_sem,t5,t6,f1]
   generalize hL:aA _ _=z;obtain⟨x,rfl,T',σ',m',rfl,t0,t2,t3,t5,t6,hm,C',i3,i4,d0,d1,i5,i6,i7,i9⟩:=rP hL n (fun k st=>st.T 0= .rp c 0/\st.T 2= .rp nx 0/\st.T 3= .rp (nx+1) 0/\st.T 5=I n/\st.T 6=I i/\st.T 7=I k/\n5<=st.nx/\dJ st.σ c xs/\∃ms G,st.σ nx=some ⟨[.nil,.nil,Bo false],0,true⟩/\st.σ (nx+1)=some ⟨[.rs sb 0 n,G,Bo b],0,true⟩/\gG fG 2 (fun _=>G) st.σ st.nx 0 ms/\GZ n ms i k/\(∀b o l,G= .rs b o l->n5<=b)/\∀q,q<n5->q≠c->q≠nx+1->st.σ q=Cb q)
    (fun x=>∃T Dn n6,x=(.exit 4,⟨T,Dn,n6⟩)/\T 0= .rp c 0/\T 2= .rp nx 0/\T 3= .rp (nx+1) 0/\T 5=I n/\T 6=I i/\n5<=n6/\dJ Dn c xs/\∃ms G,Dn nx=some ⟨[.nil,.nil,Bo false],0,true⟩/\Dn (nx+1)=some ⟨[.rs sb 0 n,G,Bo b],0,true⟩/\gG fG 2 (fun _=>G) Dn n6 0 ms/\GZ n ms i n/\(∀b o l,G= .rs b o l->n5<=b)/\∀q,q<n5->q≠c->q≠nx+1->Dn q=Cb q) (by
     clear hL;rintro k ⟨T,Y,m1⟩ hk ⟨t0,t2,t3,t5,t6,t7,J,C1,ms,G,c0,c1,hG,hM,hB,fr⟩;simp only at t0 t2 t3 t5 t6 t7 J C1 c0 c1 hG fr;have g1:(k:Int)<(n:Int):=by omega
     have g3:=iF (n:=(k:Int)+1);have next:GZ n ms i (k+1):=hM.mono fun f t h _ _=>by omega
     by_cases b3:i=k
     .have e1:((i:Int) !=(k:Int))=false:=by rw[b3];simp
      refine .inl ⟨_,by simp only[go_sem,t0,t3,t5,t6,t7,g1,g3,e1];rfl,?_⟩;simp only[go_sem,t0,t2,t3,t5,t6];exact⟨rfl,J,C1,ms,G,c0,c1,hG,next,hB,fr⟩
     .have e1:((i:Int) !=(k:Int))=true:=by simp;omega
      obtain⟨r,x1,k1,C2⟩:=VQ hx hl C1 (show c<m1 by omega) 2 (by decide) (by decide);obtain⟨σ2,e2⟩:∃σ2,σ2=upd Y c x1:=⟨_,rfl⟩;rw[<- e2]at C2;have Ce:∀q,q≠c->σ2 q=Y q:=fun q h=>by rw[e2,iY _ _ h]
      have c3:σ2 nx=some ⟨[.nil,.nil,Bo false],0,true⟩:=by rw[Ce _ (by omega)];exact c0
      have b2:σ2 (nx+1)=some ⟨[.rs sb 0 n,G,Bo b],0,true⟩:=by rw[Ce _ (by omega)];exact c1
      have c4:∀q,q<n5->q≠c->q≠nx+1->σ2 q=Cb q:=fun q E O h3=>by rw[Ce q O];exact fr q E O h3
      have c5:gG fG 2 (fun _=>G) σ2 m1 0 ms:=SA hG (zu _) fun b o l h=>Ce b (by have:=hB b o l h;omega)
      have k3:=hM.len;have no:Ar gu 24 G=some (I ms.length):=by
       rcases hG with ⟨E,O⟩|⟨bb,E,_⟩
       .have E:G= .nil:=E
        rw[E,O];rfl
       .have E:G= .rs bb 0 ms.length:=E
        rw[E];rfl
      cases r with
      |false=>
       refine .inl ⟨_,by simp only[go_sem,sG,t0,t3,t5,t6,t7,g1,g3,e1,k1,<- e2];rfl,?_⟩;simp only[go_sem,t0,t2,t3,t5,t6];exact⟨rfl,J,C2,ms,G,c3,b2,c5,next,hB,c4⟩
      |true=>
       by_cases b5:(ms.length:Int)<12
       .have j0:=pG (c:=fG) (s:=2) (bytes:=16) (fun _=>rfl) (fun _=>rfl) (by decide) c5 (⟨(i:Int),(k:Int)⟩:TV.Move) (by omega) (by decide)
        obtain⟨S,ha,j1,j2⟩:=j0;have u1:∀q,q<m1->(∀b o l,G= .rs b o l->q≠b)->S q=σ2 q:=j2;have d1:S (nx+1)=some ⟨[.rs sb 0 n,G,Bo b],0,true⟩:=by rw[u1 _ (by omega) fun b o l h=>by have:=hB b o l h;omega];exact b2
        have d0:S nx=some ⟨[.nil,.nil,Bo false],0,true⟩:=by rw[u1 _ (by omega) fun b o l h=>by have:=hB b o l h;omega];exact c3
        have C3:dJ S c xs:=by
         obtain⟨a1,a2,a3,a4⟩:=C2;exact⟨a1,a2,by rw[u1 _ (by omega) fun b o l h=>by have:=hB b o l h;omega];exact a3,a4⟩
        refine .inl ⟨_,by simp only[go_sem,sG,t0,t3,t5,t6,t7,g1,g3,e1,k1,<- e2,b2,no,b5,ha,d1];rfl,?_⟩;simp only[go_sem,t0,t2,t3,t5,t6];refine⟨rfl,by omega,C3.upd (by omega),ms++[⟨(i:Int),(k:Int)⟩],.rs (m1+1) 0 (ms.length+1),?_,rfl,?_,hM.add (by omega) (by omega) (by omega) b3,fun b o l hb=>by(cases hb;omega),fun q E O h3=>?_⟩
        .rw[iZ];exact d0
        .refine .inr ⟨m1+1,by rw[zo];rfl,by simp,?_,by omega⟩
         rw[iZ];exact j1
        .rw[iY _ _ h3,u1 q (by omega) fun b o l h=>by have:=hB b o l h;omega];exact c4 q E O h3
       .refine .inl ⟨_,by simp only[go_sem,sG,t0,t3,t5,t6,t7,g1,g3,e1,k1,<- e2,b2,no,b5];rfl,?_⟩
        simp only[go_sem,t0,t2,t3,t5,t6];exact⟨rfl,J,C2,ms,G,c3,b2,c5,next,hB,c4⟩) (by
     clear hL;rintro ⟨T,Y,m1⟩ ⟨t0,t2,t3,t5,t6,t7,J,C1,ms,G,c0,c1,hG,hM,hB,fr⟩;simp only at t0 t2 t3 t5 t6 t7 J C1 c0 c1 hG fr;exact⟨_,by simp only[go_sem,t5,t7,zX];rfl,by simp,_,_,_,rfl,by simp only[go_sem,t0],by simp only[go_sem,t2],by simp only[go_sem,t3],by simp only[go_sem,t5],by simp only[go_sem,t6],J,C1,ms,G,c0,c1,hG,hM,hB,fr⟩) (by
     simp only[go_sem,t0,t2,t3,t5,t6];exact⟨J,C1,ms,G,c0,c1,hG,hM,hB,fr⟩)
   refine⟨_,by simp only[go_sem,t6,f3];rfl,.inl ⟨_,rfl,?_⟩⟩;simp only[go_sem,t0,t2,t3,t5];exact⟨rfl,hm,C',i3,i4,d0,d1,i5,i6.mono fun f t h E O=>by omega,i7,i9⟩) (by
   clear hL;rintro ⟨T,Y,m1⟩ ⟨t0,t2,t3,t5,t6,J,C1,ms,G,c0,c1,hG,hM,hB,fr⟩;simp only at t0 t2 t3 t5 t6 J C1 c0 c1 hG fr;exact⟨_,by simp only[go_sem,t5,t6,zX];rfl,by simp,_,_,_,rfl,by simp only[go_sem,t2],by simp only[go_sem,t3],J,ms,G,c0,c1,hG,hM,hB,fr⟩) (by
   simp only[go_sem,t0,t2,t3];exact⟨C5,[],.nil,i0,c6,.inl ⟨rfl,rfl⟩,⟨wM _,fun j hj=>absurd hj (zK _),fun a b ha=>absurd ha (zK _)⟩,fun b o l h=>by(cases h),fun q _ _ _=>trivial⟩)
 have cw:aJ G=true:=by
  rcases hG with ⟨E,_⟩|⟨bb,E,_⟩
  .have E:G= .nil:=E
   rw[E];rfl
  .have E:G= .rs bb 0 ms.length:=E
   rw[E];rfl
 simp only[go_sem,t2,t3,c0,c1,cw,z1,z2];obtain⟨j3,j4⟩:=agq (b:=b) (AA:=AA) (ms:=ms) (i:=n) (k:=0) (by omega) hS.ok (by rw[<- en];exact hM);obtain⟨b4,ef⟩:∃b4,b4=upd Dn nx (some ⟨[.rs sb 0 n,G,Bo b],0,true⟩):=⟨_,rfl⟩;have l1:∀q,nx<q->b4 q=Dn q:=fun q h=>by rw[ef,iZ]
 rw[<- ef];refine⟨⟨AA,ms,b⟩,[.rs sb 0 n,G,Bo b],sb :: ids++(ag' G++([]++[])),b4,n6,rfl,by simp only[xH,cw];rfl,rfl,fun f hf=>?_,j3,j4,⟨by show 2<=AA.length;omega,by show AA.length<=4;omega,fun t ht=>by
  obtain⟨i,hi,rfl⟩:=yK (show t∈AA from ht);exact(JF (hS.ok i hi).1).2.2.2⟩,fun q E O=>?_⟩
 .have h8:∀q,nx+1<q->q<n5->f q=Cb q:=fun q E O=>by
   rw[hf q (by omega) (by omega),l1 q (by omega),h7 q O (by omega) (by omega)]
  have g1:strip f 6 (.rs sb 0 n)=some (LL bZ AA,sb :: ids):=by
   have b7:stripL (strip f 5) cells=some (AA.flatMap bZ,ids):=jZ hS.st fun q hq=>h8 q (by have:=hS.ids q hq;omega) (hS.ids q hq).2
   rw[jR,h8 sb (by omega) s2,c2];have hl:=hS.len;rw[<- en]at hl;simp only[zl,yu,yX,hl,zu,if_true];rw[zk (by omega),b7];show some (V.ts _ n,_)=some (V.ts _ AA.length,_);rw[en]
  have g2:strip f 6 G=some (LL fG ms,ag' G):=by
   rcases hG with ⟨E,rfl⟩|⟨bb,E,_,h3,h4⟩
   .have E:G= .nil:=E
    rw[E,jS];rfl
   .have E:G= .rs bb 0 ms.length:=E
    have:=hB bb 0 _ E;rw[E];exact kH (c:=fG) (s:=2) (fun _=>rfl) (fun σ d l=>jW (fun x=>by rw[jd,jQ,jd,jQ,jX];rfl) l) (w:=true) (by rw[hf bb (by omega) (by omega),l1 bb (by omega)];exact h3) 5
  rw[jd,g1,jd,g2,jd,jQ,jX];rfl
 .rw[ef,iZ,h7 q (by omega) O (by omega)];exact i1 q E O
theorem VZ(xs:List Int)(S:∀x∈xs,0<=x/\x<=255)(Y:xs.length<=1048576):∃y,fn gu conv ext 6 [LL cB xs]=some (.agg (bQ y))/\aW y/\qI y/\(2<=y.ah.length/\y.ah.length<=4/\∀t∈y.ah,t.st.members.length<=3):=by
 obtain⟨h0,k0⟩:=sNew xs S Y 1 (upd aG 0 (some ⟨[.nil,.nil,Bo false],0,true⟩));obtain⟨y,cells,ids,σ',nx',k1,hc,G,J,g1,g2,g3,O⟩:=amf S Y (c:=1) (nx:=2) (σ:=upd (upd aG 0 (some ⟨[.nil,.nil,Bo false],0,true⟩)) 1 (some (EI xs 0 h0 0))) ⟨0,h0,by rw[iW],by omega,by omega⟩ (by omega);have b0:σ' 0=some ⟨[.nil,.nil,Bo false],0,true⟩:=by rw[O 0 (by omega) (by omega),iZ,iW]
 have s0:=J (upd σ' 0 (some ⟨cells,0,true⟩)) fun b h1 h2=>iZ
 obtain⟨E,a2,a3,rfl⟩:∃E a2 a3,cells=[E,a2,a3]:=by
  match cells,G with
  |[E,a2,a3],_=>exact⟨E,a2,a3,rfl⟩
 refine⟨y,?_,g1,g2,g3⟩;simp only[xH,xG,zV]at hc;rw[qB,qO [.cell 2 26] [] func6];simp only[go_sem,sG,k0,k1,b0,hc,s0]
theorem ZK(xs:List Int)(E:∀x∈xs,0<=x/\x<=255)(G:xs.length<=1048576):∃y,fn gu conv ext 6 [LL cB xs]=some (.agg (bQ y))/\aW y/\qI y/\2<=y.ah.length:=by
 obtain⟨y,J,O,S,Y⟩:=VZ xs E G;exact⟨y,J,O,S,Y.1⟩
end Go.Proofs.YtjknobpihkmilaaGreat
namespace Go.Proofs.YtjknobpihkmilaaGreat
open Go Go.TV
abbrev ai4:List Nat:=[3,4,5,8,9,12,13,14,15,17,18,19,30,31,36,39,41,42,61,62,63]
abbrev ai5:List Nat:=[33,32,16,24,54,92,93,55]
def d_:FuncId->Conv:=fun f=>if f∈([62,15,8,9,33,61,41,19,39,18,64,101]:List Nat)then .own else if f∈([63,42,24,54,92,93,55]:List Nat)then .inl else .FX
noncomputable def wI:Ext:=fun f=>if f=64 then some (Bz)else if f=101 then some (Dp 4)else if f∈ai4 then none else if f∈ai5 then some (fun args σ nx=>ev gu bT CP f args σ nx)else some fun args σ nx=>ev gu aY bY f args σ nx
theorem extSOk:DI gu wI:=fun f g h args σ nx v σ' nx' J=>by
 unfold wI at h
 by_cases E:f=64
 .subst E
  rw[uf rfl]at h;cases h;exact rX args σ nx v σ' nx' J
 have O:=E
 by_cases G:f=101
 .subst G
  rw[ug (by decide),uf rfl]at h;cases h;exact OD args σ nx v σ' nx' J
 have n101:=G;simp only[O,n101,if_false]at h
 split at h
 .cases h
 .split at h
  .cases h
   exact qM (by kernel_rfl) ahZ f args σ nx v σ' nx' J
  .cases h
   exact qM (by kernel_rfl) aij f args σ nx v σ' nx' J
theorem fnS{f:FuncId}(h:List.contains ([64,101]++ai4++ai5) f=false)(ts:List V):fn gu d_ wI f ts=fn gu aY bY f ts:=by
 have hn:¬f∈([64,101]++ai4++ai5:List Nat):=fun e=>by rw[List.contains_iff_mem.mpr e]at h;cases h
 simp only[uq,not_or]at hn;have E:=hn.1.1;simp only[zQ,zG,or_false,not_or]at E;rw[qB,qB,qN (g:=fun args σ nx=>ev gu aY bY f args σ nx) (by unfold wI;simp only[E,if_false];rw[ug hn.1.2,ug hn.2])]
theorem ai6(args:List V)(σ:Store)(nx:Nat):ev gu d_ wI 33 args σ nx=ev gu bT CP 33 args σ nx:=qN (g:=fun args σ nx=>ev gu bT CP 33 args σ nx) rfl args σ nx
theorem adu(args:List V)(σ:Store)(nx:Nat):ev gu d_ wI 32 args σ nx=ev gu bT CP 32 args σ nx:=qN (g:=fun args σ nx=>ev gu bT CP 32 args σ nx) rfl args σ nx
theorem adv(args:List V)(σ:Store)(nx:Nat):ev gu d_ wI 16 args σ nx=ev gu bT CP 16 args σ nx:=qN (g:=fun args σ nx=>ev gu bT CP 16 args σ nx) rfl args σ nx
theorem ai7(ts:List V):fn gu d_ wI 32 ts=fn gu bT CP 32 ts:=by rw[qB,qB,adu]
theorem ai8(ts:List V):fn gu d_ wI 16 ts=fn gu bT CP 16 ts:=by rw[qB,qB,adv]
theorem ai9(args:List V)(σ:Store)(nx:Nat):ev gu d_ wI 64 args σ nx=(Bz) args σ nx:=qN (g:=(Bz)) rfl args σ nx
theorem agr(args:List V)(σ:Store)(nx:Nat):ev gu d_ wI 101 args σ nx=(Dp 4) args σ nx:=qN (g:=(Dp 4)) rfl args σ nx
abbrev aF(n:Nat):Prop:=∀ts:List V,fn gu d_ wI n ts=fn gu aY bY n ts
theorem ai_:aF 6/\aF 7/\aF 10/\aF 11/\aF 20/\aF 21/\aF 26/\aF 27/\aF 28/\aF 29/\aF 34/\aF 35/\aF 37/\aF 38/\aF 40/\aF 44/\aF 45/\aF 46/\aF 47/\aF 48/\aF 58/\aF 59/\aF 60/\aF 65:=by and_intros<;>exact fnS rfl
theorem ai':aF 72/\aF 73/\aF 74/\aF 75/\aF 77/\aF 78/\aF 79/\aF 80/\aF 81/\aF 82/\aF 83/\aF 84/\aF 96/\aF 97/\aF 98/\aF 99/\aF 100/\aF 102/\aF 103/\aF 107/\aF 108/\aF 109/\aF 110/\aF 111:=by and_intros<;>exact fnS rfl
theorem aja:aF 112/\aF 113/\aF 114/\aF 115/\aF 116/\aF 117/\aF 118/\aF 119/\aF 120/\aF 121/\aF 122/\aF 123/\aF 135/\aF 136/\aF 137/\aF 143/\aF 144/\aF 145/\aF 146/\aF 147/\aF 148/\aF 149/\aF 150/\aF 151:=by and_intros<;>exact fnS rfl
theorem ajb:aF 152/\aF 153/\aF 154/\aF 155/\aF 156/\aF 157/\aF 158/\aF 159/\aF 160/\aF 168/\aF 169/\aF 170/\aF 171/\aF 172/\aF 173/\aF 174/\aF 175/\aF 176/\aF 177/\aF 178/\aF 179/\aF 180/\aF 181/\aF 182:=by and_intros<;>exact fnS rfl
theorem ajc:aF 183/\aF 184/\aF 203/\aF 204/\aF 205/\aF 206/\aF 207/\aF 208/\aF 209/\aF 210/\aF 211/\aF 228/\aF 229/\aF 244:=by and_intros<;>exact fnS rfl
abbrev ay(n:Nat):Prop:=d_ n= .FX
abbrev Bh(n:Nat):Prop:=d_ n= .own
theorem ajd:ay 3/\ay 6/\ay 7/\Bh 8/\Bh 9/\ay 10/\ay 11/\ay 12/\ay 13/\ay 14/\Bh 15/\ay 16/\ay 17/\ay 20/\ay 21/\ay 26/\ay 27/\ay 28/\ay 29/\ay 30/\ay 31/\ay 32/\Bh 33/\ay 34:=by and_intros<;>exact rfl
theorem aje:ay 35/\ay 36/\ay 37/\ay 38/\ay 40/\ay 44/\ay 45/\ay 46/\ay 47/\ay 48/\ay 58/\ay 59/\ay 60/\Bh 61/\Bh 62/\d_ 63= .inl/\Bh 64/\ay 65/\ay 72/\ay 73/\ay 74/\ay 75/\ay 77/\ay 78:=by and_intros<;>exact rfl
theorem ajf:ay 79/\ay 80/\ay 81/\ay 82/\ay 83/\ay 84/\ay 96/\ay 97/\ay 98/\ay 99/\ay 100/\Bh 101/\ay 102/\ay 103/\ay 107/\ay 108/\ay 109/\ay 110/\ay 111/\ay 112/\ay 113/\ay 114/\ay 115/\ay 116:=by and_intros<;>exact rfl
theorem ajg:ay 117/\ay 118/\ay 119/\ay 120/\ay 121/\ay 122/\ay 123/\ay 135/\ay 136/\ay 137/\ay 143/\ay 144/\ay 145/\ay 146/\ay 147/\ay 148/\ay 149/\ay 150/\ay 151/\ay 152/\ay 153/\ay 154/\ay 155/\ay 156:=by and_intros<;>exact rfl
theorem ajh:ay 157/\ay 158/\ay 159/\ay 160/\ay 168/\ay 169/\ay 170/\ay 171/\ay 172/\ay 173/\ay 174/\ay 175/\ay 176/\ay 177/\ay 178/\ay 179/\ay 180/\ay 181/\ay 182/\ay 183/\ay 184/\ay 203/\ay 204/\ay 205:=by and_intros<;>exact rfl
theorem aji:ay 206/\ay 207/\ay 208/\ay 209/\ay 210/\ay 211/\ay 228/\ay 229/\ay 244:=by and_intros<;>exact rfl
attribute [go_sem] ai_ ai' aja ajb ajc
attribute [go_sem] ajd aje ajf ajg ajh aji
attribute [go_sem] ai6 adu adv
attribute [go_sem] ai9 agr
open Go.Plan
attribute [-go_sem] u_
def aoC(a b:Int):Int:=IntKind.u64.wrap ((BitVec.ofInt 64 a &&& BitVec.ofInt 64 b).toNat:Nat)
theorem ags{P:Program}{t:TypeId}{x y:Operand}{a b:Int}:bD P .and t x y (.sc (.int .u64 a)) (.sc (.int .u64 b))=some (.sc (.int .u64 (aoC a b))):=by
 simp only[bD,toVal,eqGuard_at_int,binOp_and];rfl
attribute [go_sem] ags
theorem ajj(n:Nat)(G:1<=n)(J:n<=6):fn gu conv ext 135 [.sc (.int .u64 1),.sc (.int .u64 n)]=some (.dF [.sc (.int .u64 0),.sc (.int .u64 n)]):=by
 have hn:n=1\/n=2\/n=3\/n=4\/n=5\/n=6:=by omega
 have E:¬(32:Int)<0:=by decide
 rcases hn with rfl|rfl|rfl|rfl|rfl|rfl<;>rw[qB,qO [.tmp 4,.tmp 5] [] func135]<;>simp only[go_sem,E]<;>rfl
theorem aoD(n:Nat)(E:1<=n)(G:n<=6):fn gu conv ext 100 [.sc (.int .u64 1),.sc (.int .u64 n)]=some (.dF [.sc (.int .u64 0),.sc (.int .u64 n)]):=by
 have k:=ajj n E G;rw[qB,qO [.tmp 4,.tmp 5] [] func100];simp only[go_sem,k]
theorem ami(k:IntKind)(n:Int)(σ:Store):dh gu 3 106 (.sc (.int k n)) σ=some (.sc (.int .u64 (IntKind.u64.wrap n))):=E5 Tryz.underlying3 Tryz.underlying106
theorem amj(k:IntKind)(n:Int)(σ:Store):dh gu 106 3 (.sc (.int k n)) σ=some (.sc (.int .i64 (IntKind.i64.wrap n))):=E5 Tryz.underlying106 Tryz.underlying3
section
variable {P:Program} {conv:FuncId->Conv} {call:TV.Call} (d:Option Tmp) (ty:TypeId) (ps:String) (af:Array Edge) (gd:Option (Nat×Bool)) (T:Nat->V) (σ:Store) (nx:Nat)
theorem ZL(s x:Operand)(ts:Array TypeId):aP conv T σ ⟨d,.call ⟨.builtin .copy,#[s,x],ts⟩,ty,ps,af,gd⟩=aS (val T s)++aS (val T x):=by
 show([val T s,val T x].flatMap aS)=_;simp only[zJ,wZ,zA]
theorem ajk(s x:Operand)(ts:Array TypeId):writer conv ⟨d,.call ⟨.builtin .copy,#[s,x],ts⟩,ty,ps,af,gd⟩=true:=rfl
theorem adw(s x:Operand)(t u:TypeId):aZ P conv call ⟨d,.call ⟨.builtin .copy,#[s,x],#[t,u]⟩,ty,ps,af,gd⟩ T σ nx=
  if((aS (val T s)++aS (val T x)).all fun b=>decide (b<nx))=true then alE (aS (val T s)++aS (val T x)) σ nx (CG P #[t,u] (val T s) (val T x) (restrict σ (aS (val T s)++aS (val T x))) nx)else none:=by
 rw[qZ (F:=aS (val T s)++aS (val T x)) T σ nx (by
  show some ([val T s,val T x].flatMap aS)=_;simp only[zJ,wZ,zA]) (fun _=>rfl)]
 rfl
end
attribute [go_sem] ZL ajk adw
def Au(n k:Nat):List Int:=List.replicate k (-1)++List.replicate (n-k) 0
theorem MC{n k:Nat}(h:k<=n):(Au n k).length=n:=by simp[Au];omega
theorem V3{n k m:Nat}(h:k+m<=n)(hm:m<=k)(h0:m≠0):patch ((Au n k).flatMap cI) k ((((Au n k).flatMap cI).take k).take m)=(Au n (k+m)).flatMap cI:=by
 have G:((Au n k).flatMap cI).length=n:=by rw[sS,MC (by omega)]
 have E:((Au n k).flatMap cI).take k=(List.replicate k (-1)).flatMap cI:=by
  rw[sO];congr 1;unfold Au;rw[xZ (by simp)]
 have J:((List.replicate k (-1:Int)).flatMap cI).take m=(List.replicate m (-1)).flatMap cI:=by
  rw[sO,List.take_replicate,yB hm]
 have O:∀(j:Nat) (xs:List Int),(xs.flatMap cI).drop j=(xs.drop j).flatMap cI:=fun j=>by
  induction j with
  |zero=>intro xs;rfl
  |succ j S=>
   intro xs;cases xs with
   |nil=>rfl
   |cons y Y=>exact S Y
 rw[E,J,mQ _ _ _ (by rw[sS,G];simp;omega),E,sS,yM,O,<- zC,<- zC];congr 1;unfold Au;rw[List.drop_append,yD (by simp),wR,List.drop_replicate,yM,wG];congr 2;omega
theorem adx(n:Nat)(O:1<=n)(h6:n<=6)(nx:Nat):∃J G,ev gu d_ wI 61 [.ts [I (-1)] 1,I n] aG nx=some (.rs nx 0 n,J,G)/\nx<G/\J nx=some ⟨(List.replicate n (-1)).flatMap cI,1,true⟩:=by
 have c1:¬(n:Int)<0:=by omega
 have k:=aoD n O h6;have w1:=iE (n:=(n:Int)) (by omega) (by omega);have w2:=iE (n:=1) (by omega) (by omega);have w3:=iF (n:=(n:Int));have c2:¬(0:Int)<0:=by decide
 have c3:¬(9223372036854775807:Int)<(n:Int):=by omega
 have m1:=nP n;have m2:8*(n:Int)<=281474976710656:=by omega
 have m3:(n:Int)<=9223372036854775807:=by omega
 have m4:min 1 n=1:=by omega
 have m5:¬(1:Nat)=0:=by decide
 have r1:((rep n [V.sc (.int .i64 0)])).length=n:=by rw[lG];simp
 have r2:patch (rep n [V.sc (.int .i64 0)]) 0 [I (-1)]=(Au n 1).flatMap cI:=by
  have hn:n=1\/n=2\/n=3\/n=4\/n=5\/n=6:=by omega
  rcases hn with rfl|rfl|rfl|rfl|rfl|rfl<;>rfl
 have m6:1<=n:=O;rw[qO [.tmp 4] [9] func61];simp only[go_sem,c1,c2,c3,w1,w2,w3,k,m1,m2,m3,ami,amj,r1,m4,m5,m6,Di,r2];generalize S:aA _ _=y;obtain⟨x,rfl,T,σ,G,rfl,E,t7,hs⟩:=nY S (fun m st=>∃k,1<=k/\k<=n/\m+k=n/\nx<st.nx/\st.T 7= .rs nx 0 n/\st.T 8=I k/\st.σ nx=some ⟨(Au n k).flatMap cI,1,true⟩)
  (fun x=>∃T σ G,x=(.exit 0,⟨T,σ,G⟩)/\nx<G/\T 7= .rs nx 0 n/\σ nx=some ⟨(Au n n).flatMap cI,1,true⟩) (by
   clear S;rintro m ⟨T,σ,G⟩ ⟨k,k1,Y,k3,E,t7,t8,hs⟩;simp only at E t7 t8 hs;have hlen:((Au n k).flatMap cI).length=n:=by rw[sS,MC Y]
   by_cases hk:k<n
   .have g1:(k:Int)<(n:Int):=by omega
    have g2:=nP k;have g3:¬k=0:=by omega
    have g4:¬k=n:=by omega
    have g5:k<=n:=Y;obtain⟨q,hq⟩:∃q,q=min k (n-k):=⟨_,rfl⟩;have g6:¬q=0:=by omega
    have g7:k+q<=n:=by omega
    have g8:(((Au n k).flatMap cI).take k).take q=(List.replicate q (-1)).flatMap cI:=by
     rw[sO,sO];congr 1;unfold Au;rw[xZ (by simp),List.take_replicate,yB (by omega)]
    have g9:=V3 (n:=n) (k:=k) (m:=q) (by omega) (by omega) g6;have g10:((List.replicate q (-1)).flatMap cI).all aJ=true:=sW _;have w4:=iF (n:=(k:Int)+(q:Int));rw[g8]at g9;refine .inl ⟨_,by simp only[go_sem,t7,t8,hs,g1,g2,g3,g4,g5,hlen,E,<- hq,g6,g7,g8,g9,g10,w4,Di];rfl,m-q,by omega,k+q,by omega,by omega,by omega,?_⟩;simp only[go_sem,t7];exact⟨E,rfl⟩
   .have:k=n:=by omega
    subst this;refine .inr ⟨_,by simp only[go_sem,t7,t8,zX];rfl,by simp,_,_,_,rfl,E,?_,hs⟩;simp only[go_sem,t7]) (n-1) (by
   simp only[go_sem];exact⟨1,zu _,O,by omega,by omega,rfl,rfl⟩)
 simp only[go_sem,t7];refine⟨_,_,rfl,E,?_⟩;rw[hs];unfold Au;rw[yh];simp
def fQ(y:bP)(i k:Nat):Bool:=gU y.moves (i:Int) k
def fH(al:List Bool)(i:Nat):Bool:=al.getD i false
theorem uG{al:List Bool}{i:Nat}(h:fH al i=true):i<al.length:=by
 unfold fH at h;rw[zx]at h
 by_cases hi:i<al.length
 .exact hi
 .rw[yZ (by omega)]at h;cases h
theorem uH{al:List Bool}{i:Nat}(h:i<al.length):fH al i=al[i]:=by
 unfold fH;rw[zx,zy h];rfl
def fU(n:Nat)(out:Nat->Int):List Int:=(List.range n).map out
theorem oC(n:Nat)(out:Nat->Int):(fU n out).length=n:=by simp[fU]
theorem Hz{n:Nat}(out:Nat->Int){a:Nat}(h:a<n):((fU n out).flatMap cI)[a]?=some (I (out a)):=by
 rw[idx (xs:=fU n out) (k:=a) (by rw[oC];exact h)];simp[fU]
theorem SB{n:Nat}(out:Nat->Int)(a:Nat)(v:Int):((fU n out).flatMap cI).set a (I v)=(fU n (put out a v)).flatMap cI:=by
 have e:∀(l:List Int) (k:Nat),(l.flatMap cI).set k (I v)=(l.set k v).flatMap cI:=fun l=>by
  induction l with
  |nil=>intro k;rfl
  |cons x l E=>
   intro k;cases k with
   |zero=>rfl
   |succ k=>
    show I x :: (l.flatMap cI).set k (I v)=_;rw[E];rfl
 rw[e];congr 1;refine yP (by simp[fU]) fun i G J=>?_
 rw[wX];simp only[fU,wL,List.getElem_range,put]
 by_cases c:a=i
 .subst c;simp
 .rw[ug c,ug (fun e=>c e.symm)]
def dP(T:Nat->V)(σ:Store)(nx t E:Nat)(l:List Int):Prop:=∃(b off:Nat) (cells:List Int),T t= .rs b off l.length/\σ b=some ⟨cells.flatMap cI,1,true⟩/\off+l.length=cells.length/\cells.drop off=l/\b<nx/\b≠E
theorem OO{T:Nat->V}{σ:Store}{nx t G:Nat}{l:List Int}(h:dP T σ nx t G l)(hb:G<nx)(x:Int)(hl:l.length<100000) :
  ∃σ',bC (upd σ nx (some ⟨[I x],1,true⟩)) (nx+1) 1 8 (T t) [I x] 1=some (.rs (nx+1) 0 (l.length+1),σ',nx+1+1)/\σ' (nx+1)=some ⟨(l++[x]).flatMap cI,1,true⟩/\σ' G=σ G:=by
 obtain⟨b,off,cells,J,O,h3,S,h5,Y⟩:=h;have hm:l.length+1<=maxLen:=by unfold maxLen;omega
 have E:(cells.flatMap cI).length=cells.length:=sS cells;refine⟨upd (upd (upd σ nx (some ⟨[I x],1,true⟩)) b none) (nx+1) (some ⟨(cells.flatMap cI).drop off++[I x],1,true⟩),?_,?_,?_⟩
 .rw[J,u_,iZ,O]
  simp only[zl];rw[ug (by decide),ug (by rw[E];omega),uf ⟨by rw[E];omega,trivial,hm,by omega,rfl⟩]
 .rw[iW]
  have:(cells.flatMap cI).drop off=l.flatMap cI:=by
   rw[<- S];have e:∀(k:Nat) (xs:List Int),(xs.flatMap cI).drop k=(xs.drop k).flatMap cI:=fun k=>by
    induction k with
    |zero=>intro xs;rfl
    |succ k ih=>
     intro xs;cases xs with
     |nil=>rfl
     |cons y ys=>exact ih ys
   exact e _ _
  rw[this,zC];rfl
 .rw[iZ,iY _ _ (fun e=>Y e.symm),iZ]
theorem lT{T:Nat->V}{σ:Store}{nx t E b:Nat}{l:List Int}(G:T t= .rs b 0 l.length)(J:σ b=some ⟨l.flatMap cI,1,true⟩)(O:b<nx)(S:b≠E):dP T σ nx t E l:=⟨b,0,l,G,J,by omega,rfl,O,S⟩
theorem lW{T T':Nat->V}{σ:Store}{nx nx' t E:Nat}{l:List Int}(h:dP T σ nx t E l)(G:T' t=T t)(hn:nx<=nx'):dP T' σ nx' t E l:=by
 obtain⟨b,off,cells,J,O,S,Y,h5,h6⟩:=h;exact⟨b,off,cells,by rw[G,J],O,S,Y,by omega,h6⟩
theorem MF{T:Nat->V}{σ:Store}{nx t E:Nat}{l:List Int}(h:dP T σ nx t E l)(x:Option BZ):dP T (upd σ E x) nx t E l:=by
 obtain⟨b,off,cells,J,O,S,Y,h5,G⟩:=h;exact⟨b,off,cells,J,by rw[iY _ _ G];exact O,S,Y,h5,G⟩
theorem SC{T:Nat->V}{σ:Store}{nx t E:Nat}{l:List Int}(h:dP T σ nx t E l)(x:Option BZ):dP T (upd σ nx x) (nx+1) t E l:=by
 obtain⟨b,off,cells,G,J,O,S,h5,Y⟩:=h;exact⟨b,off,cells,G,by rw[iZ];exact J,O,S,by omega,Y⟩
theorem lV{cells:List Int}{off:Nat}{x:Int}{l:List Int}(h:cells.drop off=x :: l):(cells.flatMap cI)[off]?=some (I x):=by
 have E:off<cells.length:=by
  refine zh fun hn=>?_
  rw[yD (by omega)]at h;cases h
 rw[idx (xs:=cells) (k:=off) E];rw[yQ E]at h;injection h with h _
 rw[h]
theorem JG{cells:List Int}{off:Nat}{x:Int}{l:List Int}(h:cells.drop off=x :: l):cells.drop (off+1)=l:=by
 rw[<- List.drop_drop,h];rfl
def aV(l:List Nat):List Int:=l.map fun(i:Nat)=>(i:Int)
theorem agt{y:bP}(E:aW y){j:Nat}(G:j<y.moves.length):∃a c:Nat,y.moves[j]=⟨(a:Int),(c:Int)⟩/\a<y.ah.length/\c<y.ah.length:=by
 obtain⟨_,_,_,hm⟩:=E;obtain⟨J,S,O,Y,_⟩:=(hm j G).1;refine⟨y.moves[j].fr.toNat,y.moves[j].to.toNat,?_,by omega,by omega⟩;rw[vw J,vw O]
theorem XB(y:bP)(i k:Nat):fQ y i k=true↔∃j,∃h:j<y.moves.length,y.moves[j]=⟨(i:Int),(k:Int)⟩:=by
 unfold fQ gU;rw[List.any_eq_true];constructor
 .rintro ⟨m,hm,hp⟩
  obtain⟨j,E,rfl⟩:=yK hm;rw[zV,beq_iff_eq,beq_iff_eq]at hp;refine⟨j,E,?_⟩;rw[<- hp.1,<- hp.2]
 .rintro ⟨j,E,e⟩
  exact⟨_,zq E,by rw[e];simp⟩
noncomputable def JH(y:bP)(al:List Bool)(to:Int)(i:Nat):Int:=if 0<=to/\to<(y.ah.length:Int)then dst (fQ y) (fH al) to.toNat i else -1
theorem V4{y:bP}{al:List Bool}{to:Int}(h:¬(0<=to/\to<(y.ah.length:Int)/\fH al to.toNat=true))(i:Nat):JH y al to i= -1:=by
 unfold JH
 split
 .rename_i c
  refine ac2 fun k E=>h ⟨c.1,c.2,E.lst⟩
 .rfl
theorem JI{n:Nat}{f g:Nat->Int}(h:∀i,i<n->f i=g i):fU n f=fU n g:=xX fun i hi=>h i (by simpa using hi)
theorem V5(n:Nat)(v:Int):fU n (fun _=>v)=List.replicate n v:=by
 unfold fU;refine yP (by simp) fun i E G=>by simp
theorem jC(l:List Nat):(aV l).length=l.length:=by simp[aV]
theorem jD(l:List Nat){p:Nat}(h:p<l.length):aV (l.drop p)=(l[p]:Int) :: aV (l.drop (p+1)):=by
 rw[yQ h];rfl
theorem ady{y:bP}{al:List Bool}{t:Nat}{all:List Nat}{p:Nat}{out:Nat->Int}(h:RU (fQ y) (fH al) t all p out)(hp:all.length<=p)(E:t<y.ah.length):fU y.ah.length out=fU y.ah.length (JH y al (t:Int)) :=
 JI fun i _=>by
  unfold JH;rw[uf (by omega),zM];exact(h.fin hp i).symm
theorem ajl(y:bP)(hg:aW y)(i4:y.ah.length≠0)(to:Int)(al:List Bool)(i5:al.length=y.ah.length) :
  fn gu d_ wI 30 [.tp (bQ y) 0,I to,LL Ah al]=some (LI (fU y.ah.length (JH y al to))):=by
 have Z_:=hg.1;have i6:=hg.2.1;obtain⟨n,en⟩:∃n,n=y.ah.length:=⟨_,rfl⟩;obtain⟨S,aO,k1,h3,s1⟩:=adx n (by omega) (by omega) 1;have o1:Own S 1 (.rs 1 0 n) (LI (List.replicate n (-1))) [1]:=by
  have:=Fh (d:=0) s1 (st:=1) (by simp)
  rwa [yM]at this
 have g1:=fun d=>o1.gather (d':=d+1) (by omega)
 have j1:∀σ,eG 1 σ S [1] 1=S 1:=fun σ=>oH (by omega) (by simp)
 rw[qB,qO [.tmp 6] [12] func30];have fin:∀(σ:Store) (out:Nat->Int) (d:Nat),σ 1=some ⟨(fU n out).flatMap cI,1,true⟩->strip σ (d+1) (.rs 1 0 n)=some (LI (fU n out),[1]):=fun σ out d h=>oQ h (oC n out) d
 rw[<- V5]at s1;have s2:∀σ,eG 1 σ S [1] 1=some ⟨(fU n (fun _=> -1)).flatMap cI,1,true⟩:=fun σ=>(j1 σ).trans s1
 rw[<- en];have no:(∀i,JH y al to i= -1)->some (LI (fU n (fun _=> -1)))=some (LI (fU n (JH y al to))):=fun h=>by rw[JI (f:=fun _=> -1) (g:=JH y al to) (fun i _=>(h i).symm)]
 by_cases c1:to<0
 .rw[<- no fun i=>V4 (fun h=>by omega) i]
  have f0:=fun σ d=>fin (eG 1 σ S [1]) (fun _=> -1) d (s2 σ)
  simp only[go_sem,<- en,k1,g1,s2,c1,f0]
 by_cases c2:(n:Int)<=to
 .rw[<- no fun i=>V4 (fun h=>by omega) i]
  have f0:=fun σ d=>fin (eG 1 σ S [1]) (fun _=> -1) d (s2 σ)
  simp only[go_sem,<- en,k1,g1,s2,c1,c2,f0]
 obtain⟨t,rfl⟩:∃t:Nat,to=(t:Int):=⟨to.toNat,by omega⟩;have ht:t<n:=by omega
 have d1:(t:Int)<(n:Int):=by omega
 have d2:=nP t;have a6:t<al.length:=by omega
 have d3:(al.flatMap Ah)[t]?=some (Bo (fH al t)):=by rw[uH a6];exact kF (fun b=>Bo b) al t a6
 have d4:=D_ al;have d5:=Y4 al t a6;have d6:(t:Int)<(al.length:Int):=by omega
 cases b4:fH al t with
 |false=>
  rw[b4]at d3;rw[<- no fun i=>V4 (fun h=>by rw[zM]at h;rw[b4]at h;cases h.2.2) i];have f0:=fun σ d=>fin (eG 1 σ S [1]) (fun _=> -1) d (s2 σ)
  simp only[go_sem,<- en,k1,g1,s2,c1,c2,d1,d2,d3,d4,d5,d6,a6,f0]
 |true=>
  rw[b4]at d3;have e1:=Hz (n:=n) (fun _=> -1) ht;have e2:=SB (n:=n) (fun _=> -1) t 0;have e3:((fU n fun _=>(-1:Int)).flatMap cI).length=n:=by rw[sS,oC]
  have nz:¬aO=1:=by omega
  have h4:¬1=aO:=by omega
  have nl:1<aO:=h3;simp only[go_sem,<- en,k1,g1,s2,c1,c2,d1,d2,d3,d4,d5,d6,a6,e1,e2,e3,ht,nz,h4,nl];generalize hL:aA _ _=w
  obtain⟨x,rfl,T,σ,nx,rfl,t7,out,hs,c9⟩:=nY hL (fun m st=>st.T 0= .tp (bQ y) 0/\st.T 2=LL Ah al/\st.T 7= .rs 1 0 n/\1<st.nx/\∃all p out,RU (fQ y) (fH al) t all p out/\p<=all.length/\m+p=n/\st.σ 1=some ⟨(fU n out).flatMap cI,1,true⟩ /\
    ((p=all.length/\st.T 8= .ts [] 0)\/(p<all.length/\dP st.T st.σ st.nx 8 1 (aV (all.drop p)))))
   (fun x=>∃T σ nx,x=(.exit 0,⟨T,σ,nx⟩)/\T 7= .rs 1 0 n/\∃out,σ 1=some ⟨(fU n out).flatMap cI,1,true⟩/\fU n out=fU n (JH y al (t:Int))) (by
    clear hL;rintro m ⟨T,σ,nx⟩ ⟨t0,t2,t7,Y,all,p,out,hB,hp,hm,hs,hq⟩;simp only at t0 t2 t7 Y hs hq;rcases hq with ⟨rfl,t8⟩|⟨hp,hq⟩
    .refine .inr ⟨_,by simp only[go_sem,t8];rfl,by simp,_,_,_,rfl,by simp only[go_sem,t7],out,hs,?_⟩
     rw[en];exact ady hB (zu _) (by omega)
    .have h5:=hB.bound (n:=n) fun i hi=>by have:=uG hi;omega
     obtain⟨h,eh⟩:∃h,h=all[p]:=⟨_,rfl⟩;have a7:=hq;rw[jD all hp,<- eh]at a7;obtain⟨b,off,cells,q1,q2,q3,q4,q5,q6⟩:=a7;have q7:=lV q4;have p1:((h:Int) :: aV (all.drop (p+1))).length=all.length-p:=by rw[zi,jC,zW];omega
     rw[p1]at q1;have p2:(0:Int)<((all.length-p:Nat):Int):=by omega
     refine ji ?_
     conv=>
      enter [1,r,1,1]
      simp only[go_sem,t0,t2,t7,q1,p2]
     generalize hL:aA _ _=w
     obtain⟨r,rfl,T1,σ',nx',rfl,t0,t2,t7,e0,E,b9,e4,e5,e6,e7,h6,c3⟩:=rP hL y.moves.length (fun j st=>st.T 0= .tp (bQ y) 0/\st.T 2=LL Ah al/\st.T 7= .rs 1 0 n/\st.T 47=LL fG y.moves/\st.T 48=I y.moves.length/\st.T 49=I j/\1<st.nx /\
       ∃all out,RU (fQ y) (fH al) t all p out/\∃hp:p<all.length,h=all[p]/\st.σ 1=some ⟨(fU n out).flatMap cI,1,true⟩/\dP st.T st.σ st.nx 8 1 (aV (all.drop p))/\∀i (hi:i<y.moves.length),i<j->∀a:Nat,y.moves[i]=⟨(a:Int),(h:Int)⟩->fH al a=true->a∈all)
      (fun r=>∃T σ nx,r=(.exit 2,⟨T,σ,nx⟩)/\T 0= .tp (bQ y) 0/\T 2=LL Ah al/\T 7= .rs 1 0 n/\1<nx /\
       ∃all out,RU (fQ y) (fH al) t all p out/\∃hp:p<all.length,h=all[p]/\σ 1=some ⟨(fU n out).flatMap cI,1,true⟩/\dP T σ nx 8 1 (aV (all.drop p))/\∀i (hi:i<y.moves.length),∀a:Nat,y.moves[i]=⟨(a:Int),(h:Int)⟩->fH al a=true->a∈all) (by
       clear hL;rintro j ⟨T,σ,nx⟩ hj ⟨t0,t2,t7,t47,t48,t49,Y,all,out,hB,hp,eh,hs,hq,hd⟩;simp only at t0 t2 t7 t47 t48 t49 Y hs hq;have h5:=hB.bound (n:=n) fun i hi=>by have:=uG hi;omega
       obtain⟨a,c,e,ha,hc⟩:=agt hg hj;rw[<- en]at ha hc;have a7:=hq;rw[jD all hp,<- eh]at a7;obtain⟨b,off,cells,q1,q2,q3,q4,q5,q6⟩:=a7;have q7:=lV q4;have p1:((h:Int) :: aV (all.drop (p+1))).length=all.length-p:=by rw[zi,jC,zW];omega
       rw[p1]at q1;have p2:(0:Int)<((all.length-p:Nat):Int):=by omega
       have p3:0<all.length-p:=by omega
       have p4:(0:Int)<=0:=by omega
       have p5:(0:Int).toNat=0:=rfl;have f1:(j:Int)<(y.moves.length:Int):=by omega
       have f2:=nP j;have f3:=iF (n:=(j:Int)+1);have f4:=aeU y.moves j hj;rw[e]at f4;have f5:=WJ y.moves;have f6:j*2+2<=y.moves.length*2:=by omega
       have f9:=aeV y.moves j hj;obtain⟨Cj,SE⟩:∃Cj,Cj=upd σ nx (some ⟨fG ⟨(a:Int),(c:Int)⟩,0,true⟩):=⟨_,rfl⟩;have b0:Cj nx=some ⟨fG ⟨(a:Int),(c:Int)⟩,0,true⟩:=by rw[SE,iW]
       have b1:Cj 1=some ⟨(fU n out).flatMap cI,1,true⟩:=by rw[SE,iZ];exact hs
       have b2:Cj b=some ⟨cells.flatMap cI,1,true⟩:=by rw[SE,iZ];exact q2
       have z1:b<nx+1:=by omega
       have z2:nx<nx+1:=by omega
       have z3:1<nx+1:=by omega
       have ic:(c:Int)<(n:Int):=by omega
       have c4:=nP c;have ia:(a:Int)<(n:Int):=by omega
       have c5:=nP a;have c6:(a:Int)<(al.length:Int):=by omega
       have a1:a<al.length:=by omega
       have la:=Hz out ha;have lc:=Hz out hc;have ll:((fU n out).flatMap cI).length=n:=by rw[sS,oC]
       have v3:(al.flatMap Ah)[a]?=some (Bo (fH al a)):=by rw[uH a1];exact kF (fun b=>Bo b) al a a1
       have v4:=D_ al;have v5:=Y4 al a a1;have b5:dP T Cj (nx+1) 8 1 (aV (all.drop p)):=by rw[SE];exact SC hq _
       by_cases b6:c=h
       .have c1:((c:Int)==(h:Int))=true:=by simp[b6]
        have ea:∀(a':Nat),y.moves[j]=⟨(a':Int),(h:Int)⟩->a'=a:=fun a' e'=>by
         rw[e]at e';simp only[TV.Move.mk.injEq]at e';omega
        cases b7:fH al a with
        |false=>
         rw[b7]at v3;refine .inl ⟨_,by simp only[go_sem,t0,t2,t7,t47,t48,t49,f1,f2,f3,f4,f5,f6,f9,<- SE,b0,b1,b2,q1,q7,z1,z2,z3,p2,p3,p4,p5,c1,ic,c4,ia,c5,c6,a1,ha,hc,v3,v4,v5,la,lc];rfl,?_⟩;simp only[go_sem,t0,t2,t7,t47,t48];refine⟨rfl,by omega,all,out,hB,hp,eh,b1,lW b5 (by simp only[go_sem]) (zu _),fun i hi c7 a' e' J=>?_⟩
         by_cases O:i=j
         .subst O
          rw[ea a' e',b7]at J;cases J
         .exact hd i hi (by omega) a' e' J
        |true=>
         rw[b7]at v3
         by_cases hm:a∈all
         .have o1:¬out a<0:=fun h7=>(hB.lo a).mp h7 hm
          refine .inl ⟨_,by simp only[go_sem,t0,t2,t7,t47,t48,t49,f1,f2,f3,f4,f5,f6,f9,<- SE,b0,b1,b2,q1,q7,z1,z2,z3,p2,p3,p4,p5,c1,ic,c4,ia,c5,c6,a1,ha,hc,v3,v4,v5,la,lc,o1];rfl,?_⟩;simp only[go_sem,t0,t2,t7,t47,t48];refine⟨rfl,by omega,all,out,hB,hp,eh,b1,lW b5 (by simp only[go_sem]) (zu _),fun i hi c7 a' e' J=>?_⟩
          by_cases O:i=j
          .subst O
           rw[ea a' e'];exact hm
          .exact hd i hi (by omega) a' e' J
         .have o1:out a<0:=(hB.lo a).mpr hm
          have h8:fQ y a all[p]=true:=by
           rw[<- eh];exact(XB y a h).mpr ⟨j,hj,by rw[e,b6]⟩
          have a8:=hB.add hp hm b7 h8;rw[<- eh,<- b6]at a8;have oc:0<=out c/\out c<10:=by
           have e8:c∈all:=by rw[b6,eh];exact zq hp
           obtain⟨kk,i7,_⟩:=hB.way c e8;have:=hB.bnd c e8;omega
          have w4:=iF (n:=out c+1);have st:=SB (n:=n) out a (out c+1);obtain⟨σ2,Am⟩:∃σ2,σ2=upd Cj 1 (some ⟨(fU n (put out a (out c+1))).flatMap cI,1,true⟩):=⟨_,rfl⟩;have b8:dP T σ2 (nx+1) 8 1 (aV (all.drop p)):=by rw[Am];exact MF b5 _
          have b3:σ2 nx=some ⟨fG ⟨(a:Int),(c:Int)⟩,0,true⟩:=by rw[Am,iZ];exact b0
          obtain⟨i9,c8,h9,i0⟩:=OO b8 (by omega) (a:Int) (by rw[jC,zW];omega);rw[jC,zW]at c8;rw[q1]at c8;refine .inl ⟨_,by simp only[go_sem,t0,t2,t7,t47,t48,t49,f1,f2,f3,f4,f5,f6,f9,<- SE,b0,b1,b2,q1,q7,z1,z2,z3,p2,p3,p4,p5,c1,ic,c4,ia,c5,c6,a1,ha,hc,v3,v4,v5,la,lc,ll,o1,w4,st,<- Am,b3,c8];rfl,?_⟩;simp only[go_sem,t0,t2,t7,t47,t48];have i1:p<(all++[a]).length:=by rw[zo];omega
          refine⟨rfl,by omega,all++[a],_,a8,i1,by rw[yH hp];exact eh,?_,?_,fun i hi c7 a' e' J=>?_⟩
          .rw[i0,Am,iW]
          .have ed:aV ((all++[a]).drop p)=aV (all.drop p)++[(a:Int)]:=by
            rw[wo (by omega)];simp[aV]
           rw[ed];refine lT (b:=nx+1+1) ?_ h9 (by omega) (by omega);rw[zo,jC,zW];simp only[go_sem]
          .by_cases O:i=j
           .subst O
            rw[ea a' e'];simp
           .exact zD _ (hd i hi (by omega) a' e' J)
       .have c1:((c:Int)==(h:Int))=false:=by rw[uZ];omega
        refine .inl ⟨_,by simp only[go_sem,t0,t2,t7,t47,t48,t49,f1,f2,f3,f4,f5,f6,f9,<- SE,b0,b1,b2,q1,q7,z1,z2,z3,p2,p3,p4,p5,c1];rfl,?_⟩;simp only[go_sem,t0,t2,t7,t47,t48];refine⟨rfl,by omega,all,out,hB,hp,eh,b1,lW b5 (by simp only[go_sem]) (zu _),fun i hi c7 a' e' J=>?_⟩
        by_cases O:i=j
        .subst O
         rw[e]at e';simp only[TV.Move.mk.injEq]at e';omega
        .exact hd i hi (by omega) a' e' J) (by
       clear hL;rintro ⟨T,σ,nx⟩ ⟨t0,t2,t7,t47,t48,t49,Y,all,out,hB,hp,eh,hs,hq,hd⟩;simp only at t0 t2 t7 t47 t48 t49 Y hs hq;refine⟨_,by simp only[go_sem,t48,t49,zX];rfl,by simp,_,_,_,rfl,by simp only[go_sem,t0],by simp only[go_sem,t2],by simp only[go_sem,t7],Y,all,out,hB,hp,eh,hs,lW hq (by simp only[go_sem]) (zu _),fun i hi=>hd i hi hi⟩) (by
       simp only[go_sem,t0,t2,t7];exact⟨Y,all,out,hB,hp,eh,hs,lW hq (by simp only[go_sem]) (zu _),fun i hi h0=>absurd h0 (zK _)⟩)
     have a8:=e4.next e5 fun i hi i2=>by
      obtain⟨j,hj,ej⟩:=(XB y i E[p]).mp i2;exact c3 j hj i (by rw[ej,e6]) hi
     have j0:=e4.bound (n:=n) fun i hi=>by have:=uG hi;omega
     have b8:=h6;rw[jD E e5,<- e6]at b8;obtain⟨b',c0,G,r1,r2,r3,r4,r5,r6⟩:=b8;have i3:((h:Int) :: aV (E.drop (p+1))).length=E.length-p:=by rw[zi,jC,zW];omega
     rw[i3]at r1 r3;have r7:((G.flatMap cI)).length=G.length:=sS _;have r8:c0+(E.length-p)<=G.length:=by omega
     have r9:1<=E.length-p:=by omega
     have e9:¬(1:Nat)=0:=by decide
     have h1:(0:Int)<=1:=by decide
     have h2:(1:Int).toNat=1:=rfl
     by_cases hl:E.length-p=1
     .rw[hl]at r1 r8
      refine⟨_,by simp only[go_sem,r1,r2,r7,r8,e9,h1,h2,zu];rfl,.inl ⟨_,rfl,m-1,by omega,?_⟩⟩;simp only[go_sem,t0,t2,t7];exact⟨e0,E,p+1,b9,a8,by omega,by omega,e7,.inl (by omega)⟩
     .have J:¬1=E.length-p:=fun e=>hl e.symm
      refine⟨_,by simp only[go_sem,r1,r2,r7,r8,r9,e9,h1,h2,J];rfl,.inl ⟨_,rfl,m-1,by omega,?_⟩⟩;simp only[go_sem,t0,t2,t7];refine⟨e0,E,p+1,b9,a8,by omega,by omega,e7,.inr ⟨by omega,b',c0+1,G,?_,r2,?_,JG r4,r5,r6⟩⟩
      .simp only[go_sem]
       rw[jC,zW];congr 1
      .rw[jC,zW];omega) n (by
    simp only[go_sem];refine⟨by omega,[t],0,_,Zz b4,by simp,by omega,?_,.inr ⟨by simp,?_⟩⟩
    .rw[iZ,iW]
    .refine lT (b:=aO) (by simp only[go_sem];rfl) ?_ (by omega) (by omega)
     simp only[go_sem];rfl)
  have f0:=fun d=>fin σ out d hs
  simp only[go_sem,t7,f0,c9]
def del(s:Structure)(k:Nat):Structure:=⟨s.au,s.members.eraseIdx k⟩
theorem qw{α:Type}(l:List α)(k:Nat):(l.eraseIdx k).length<=l.length:=List.length_eraseIdx_le l k
theorem ajo{s:Structure}(h:dZ s)(k:Nat):dZ (del s k) :=
 ⟨h.1,zL (qw _ _) h.2.1,h.2.2.1,fun m hm=>h.2.2.2 m (wE hm)⟩
theorem agu{s:Structure}(h:bJ s)(k:Nat):bJ (del s k) :=
 ⟨h.1,fun m hm=>h.2.1 m (wE hm),zL (yc _ (qw _ _)) h.2.2.1,zL (qw _ _) h.2.2.2⟩
theorem ZM{n k:Nat}{w:List Int}(h:gK n w)(E:k<n):gK (n-1) (w.eraseIdx k) :=
 ⟨by rw[yY (by rw[h.1];exact E),h.1],fun x G=>h.2 x (wE G)⟩
def Bj(ms:List Member)(k j:Nat):List Member:=(ms.take j).eraseIdx k
theorem adz{ms:List Member}{k j:Nat}(E:j<ms.length)(h:j≠k):Bj ms k (j+1)=Bj ms k j++[ms[j]]:=by
 unfold Bj;rw[jK E];have G:(ms.take j).length=j:=by rw[zY];omega
 by_cases J:k<j
 .rw[List.eraseIdx_append_of_lt_length (by omega)]
 .have O:[ms[j]].eraseIdx (k - (ms.take j).length)=[ms[j]]:=List.eraseIdx_of_length_le (by rw[G,yT];omega)
  have S:(ms.take j).eraseIdx k=ms.take j:=List.eraseIdx_of_length_le (by omega);rw[List.eraseIdx_append_of_length_le (by omega),O,S]
theorem agv{ms:List Member}{k:Nat}(E:k<ms.length):Bj ms k (k+1)=Bj ms k k:=by
 unfold Bj;have G:(ms.take k).length=k:=by rw[zY];omega
 have J:(ms.take k).eraseIdx k=ms.take k:=List.eraseIdx_of_length_le (by omega);rw[jK E,List.eraseIdx_append_of_length_le (by omega),G,yh,J];simp
theorem adA(ms:List Member)(k j:Nat):(Bj ms k j).length<=j:=by
 unfold Bj;have:=qw (ms.take j) k;rw[zY]at this;omega
theorem SH(σ:Store)(d:Nat):∀ {cells:List V},(cells.all aeN)=true->Ag (own σ d) cells=some (cells,[])
 |[],_=>rfl
 |v :: cells,h=>by
  rw[xH,zV]at h;unfold Ag;rw[SH σ d h.2];cases v<;>first|(cases d<;>rfl)|cases h.1
theorem ZN(js:List fM):((js.flatMap aX).all aeN)=true:=by
 induction js with
 |nil=>rfl
 |cons j js E=>exact E
theorem SI(js:List fM):((js.flatMap aX).all aJ)=true:=by
 induction js with
 |nil=>rfl
 |cons j js E=>exact E
theorem agw(js:List fM)(h:js.length<=1000000)(nx:Nat):∃v E G ids,Dp 4 [LL aX js] aG nx=some (v,E,G)/\nx<=G/\Own E 1 v (LL aX js) ids/\∀b∈ids,nx<=b/\b<G:=by
 have J:=II js;have e:Dp 4 [LL aX js] aG nx=if js.length=0 then some (.nil,aG,nx)else some (.rs nx 0 js.length,bG aG nx (js.flatMap aX) 4,nx+1):=by
  show(if(js.flatMap aX).length=js.length*4/\js.length<=1000000/\_ then _ else _)=_;rw[uf ⟨J,h,SI js⟩]
 rw[e]
 by_cases O:js.length=0
 .have:js=[]:=zN O
  subst this;exact⟨.nil,aG,nx,[],rfl,zu _,mX _ _,by simp⟩
 .rw[ug O]
  refine⟨_,_,_,[nx],rfl,by omega,⟨?_,by simp⟩,by simp⟩;have S:=SH (bG aG nx (js.flatMap aX) 4) 0 (ZN js);simp only[own,bG,iW]at S⊢;rw[uf ⟨trivial,trivial,J.symm⟩,S]
theorem SK{σ:Store}{d:Nat}{α:Type}{c:α->List V}{v:V}{xs:List α}{ids:List Nat}(h:Own σ (d+1) v (LL c xs) ids):aJ v=true:=by
 obtain⟨h,_⟩:=h;cases v<;>simp only[own]at h<;>first|rfl|(cases h;done)|(split at h<;>simp at h)
theorem ZO(s:Structure)(hj:s.au.length<=1000000)(hm:s.members.length<=1000)(k:Nat)(hk:k<s.members.length)(E:Nat):∃v w σ' nx' a8,ev gu d_ wI 62 [.agg (aC s),.ts [I k] 1] aG E=some (.agg [v,w],σ',nx')/\E<=nx'/\Own σ' 2 (.agg [v,w]) (.agg (aC (del s k))) a8/\∀b∈a8,E<=b/\b<nx':=by
 obtain⟨v,b4,G,ids,k1,c6,o1,J⟩:=agw s.au hj (E+1+1);have g1:=fun d=>o1.gather (d':=d+1) (by omega)
 have c1:=SK o1;have c2:=rY c1;obtain⟨O1,ea⟩:∃O1,O1=eG (E+1+1) (upd (upd aG E (some ⟨aC s,0,true⟩)) (E+1) (some ⟨[.nil,.nil],0,true⟩)) b4 ids:=⟨_,rfl⟩;have oa:Own O1 1 v (LL aX s.au) ids:=by rw[ea];exact o1.join fun b hb=>(J b hb).1
 have a0:O1 E=some ⟨aC s,0,true⟩:=by rw[ea,oG (by omega),iZ,iW]
 have a1:O1 (E+1)=some ⟨[.nil,.nil],0,true⟩:=by rw[ea,oG (by omega),iW]
 rw[qO [.cell 4 41] [] func62];have n0:¬G=E:=by omega
 have b5:¬E=G:=by omega
 have n2:¬G=E+1:=by omega
 have b2:¬E+1=G:=by omega
 have nb:¬E=E+1:=by omega
 have b6:¬E+1=E:=by omega
 simp only[go_sem,k1,g1,c1,c2,<- ea,a0,a1,n0,b5,n2,b2,nb,b6];generalize hL:aA _ _=y;obtain⟨x,rfl,T,σ,nx,rfl,c7,t4,t5,w,h1,O,o2,Y,hw⟩:=rP hL s.members.length (fun j st=>st.T 1= .ts [I k] 1/\st.T 4= .rp (E+1) 0/\st.T 5= .rp G 0/\st.T 13=LL bg s.members/\st.T 14=I s.members.length/\st.T 15=I j/\G<st.nx/\∃w,st.σ (E+1)=some ⟨[.nil,.nil],0,true⟩/\st.σ G=some ⟨[v,w],0,true⟩/\Own st.σ 1 v (LL aX s.au) ids/\gG bg 3 (fun _=>w) st.σ st.nx 0 (Bj s.members k j)/\∀b o l,w= .rs b o l->G<b)
  (fun x=>∃T σ nx,x=(.exit 0,⟨T,σ,nx⟩)/\G<nx/\T 4= .rp (E+1) 0/\T 5= .rp G 0/\∃w,σ (E+1)=some ⟨[.nil,.nil],0,true⟩/\σ G=some ⟨[v,w],0,true⟩/\Own σ 1 v (LL aX s.au) ids/\gG bg 3 (fun _=>w) σ nx 0 (Bj s.members k s.members.length)/\∀b o l,w= .rs b o l->G<b) (by
   clear hL;rintro j ⟨T,σ,nx⟩ hj ⟨t1,t4,t5,t13,t14,t15,S,w,h1,O,o2,Y,hw⟩;simp only at t1 t4 t5 t13 t14 t15 S h1 O o2 Y;have f1:(j:Int)<(s.members.length:Int):=by omega
   have f2:=nP j;have f3:=iF (n:=(j:Int)+1);have f4:=abv s.members j hj;have f5:=QH s.members;have f6:j*3+3<=s.members.length*3:=by omega
   have f9:=abw s.members j hj;have k2:=aiC [(k:Int)] (j:Int) (by simp);have hle:=adA s.members k j;have z1:¬G=nx:=by omega
   have z2:¬nx=G:=by omega
   have z3:¬E+1=nx:=by omega
   have o3:=fun x=>(Own.upd (σ:=σ) (d:=1) (v:=v) (t:=LL aX s.au) (ids:=ids) (c:=nx) (x:=x) (fun hb=>by have:=(J nx hb).2;omega)).symm ▸ o2
   obtain⟨m1,em⟩:∃m1,m1=s.members[j]:=⟨_,rfl⟩;rw[<- em]at f4
   by_cases a6:j=k
   .have km:decide ((j:Int)∈[(k:Int)])=true:=by rw[a6];simp
    rw[km]at k2;have a7:fn gu conv ext 102 [.ts [I k] 1,I j]=some (Bo true):=k2
    refine .inl ⟨_,by simp only[go_sem,t1,t4,t5,t13,t14,t15,f1,f2,f3,f4,f5,f6,f9,hj,a7];rfl,?_⟩;simp only[go_sem,t1,t4,t5,t13,t14,z1,z2,z3,h1,O];have ek:Bj s.members k (j+1)=Bj s.members k j:=by subst a6;exact agv hj
    rw[ek];exact⟨rfl,by omega,w,rfl,o3 _,pJ Y _,hw⟩
   .have km:decide ((j:Int)∈[(k:Int)])=false:=by simp;omega
    rw[km]at k2;have a7:fn gu conv ext 102 [.ts [I k] 1,I j]=some (Bo false):=k2
    have b7:=pJ Y (some ⟨bg m1,0,true⟩);obtain⟨σ',ha,hs,b8⟩:=pG (c:=bg) (s:=3) (bytes:=24) (fun _=>rfl) (fun _=>rfl) (by decide) b7 m1 (by omega) (by decide);have y1:∀q,q<nx->(∀b o l,w= .rs b o l->q≠b)->σ' q=σ q:=fun q hq b9=>by
     rw[b8 q (by omega) (fun b o l h=>b9 b o l h),iZ]
    have y2:σ' G=some ⟨[v,w],0,true⟩:=by rw[y1 G S (fun b o l h e=>by have:=hw b o l h;omega)];exact O
    have y3:σ' (E+1)=some ⟨[.nil,.nil],0,true⟩:=by rw[y1 (E+1) (by omega) (fun b o l h e=>by have:=hw b o l h;omega)];exact h1
    have o4:Own σ' 1 v (LL aX s.au) ids:=o2.frame fun q hq=>y1 q (by have:=(J q hq).2;omega) (fun b o l h e=>by have:=hw b o l h;have:=(J q hq).2;omega)
    refine .inl ⟨_,by simp only[go_sem,t1,t4,t5,t13,t14,t15,f1,f2,f3,f4,f5,f6,f9,hj,a7,z1,z2,z3,O,ha,y2];rfl,?_⟩;simp only[go_sem,t1,t4,t5,t13,t14];rw[adz hj a6,<- em];refine⟨rfl,by omega,_,?_,rfl,?_,?_,?_⟩
    .rw[iZ];exact y3
    .exact(Own.upd (fun hb=>by have:=(J G hb).2;omega)).symm ▸ o4
    .refine .inr ⟨nx+1+1,by rw[zo];rfl,by simp,?_,by omega⟩
     rw[iZ];exact hs
    .intro b o l hb
     cases hb;omega) (by
   clear hL;rintro ⟨T,σ,nx⟩ ⟨t1,t4,t5,t13,t14,t15,S,w,h1,O,o2,Y,hw⟩;simp only at t1 t4 t5 t13 t14 t15 S h1 O o2 Y;exact⟨_,by simp only[go_sem,t14,t15,zX];rfl,by simp,_,_,_,rfl,S,by simp only[go_sem,t4],by simp only[go_sem,t5],w,h1,O,o2,Y,hw⟩) (by
   simp only[go_sem,n2,b2,a1];exact⟨by omega,_,rfl,(Own.upd (c:=G) (fun hb=>by have:=(J _ hb).2;omega)).symm ▸ oa,.inl ⟨rfl,rfl⟩,fun b o l h=>by cases h⟩)
 have ek:Bj s.members k s.members.length=(del s k).members:=by
  unfold Bj del;rw[yV]
 rw[ek]at Y;have z3:¬E+1=G:=by omega
 have cw:aJ w=true:=by
  rcases Y with ⟨a,_⟩|⟨b,a,_⟩
  .have a:w= .nil:=a
   rw[a];rfl
  .have a:w= .rs b 0 _:=a
   rw[a];rfl
 have ow:∃is,Ag (own (upd σ (E+1) (some ⟨[v,w],0,true⟩)) 1) [w]=some ([LL bg (del s k).members],is)/\is.Nodup/\∀q∈is,G<q/\q<nx:=by
  rcases Y with ⟨a,b⟩|⟨b,a1,a2,a3,a4⟩
  .have a:w= .nil:=a
   rw[a,b];exact⟨[],rfl,by simp,by simp⟩
  .have a1:w= .rs b 0 _:=a1
   have hb:=hw _ _ _ a1;subst a1;have h2:=abT (d:=0) (σ:=upd σ (E+1) (some ⟨[v,.rs b 0 (del s k).members.length],0,true⟩)) (b:=b) (s:=3) (c:=bg) (xs:=(del s k).members) (by rw[iZ];exact a3) (fun _=>rfl) Y3;exact⟨[b],by simp only[Ag,h2];rfl,by simp,fun q hq=>by rw[List.mem_singleton.mp hq];exact⟨hb,a4⟩⟩
 obtain⟨is,c0,c3,b3⟩:=ow;have c4:own (upd σ (E+1) (some ⟨[v,w],0,true⟩)) 1 v=some (LL aX s.au,ids):=by
  have:=((Own.upd (σ:=σ) (d:=1) (v:=v) (t:=LL aX s.au) (ids:=ids) (c:=E+1) (x:=some ⟨[v,w],0,true⟩) (fun hb=>by have:=(J (E+1) hb).1;omega)).symm ▸ o2);exact this.1
 have hO:Own (upd σ (E+1) (some ⟨[v,w],0,true⟩)) 2 (.agg [v,w]) (.agg (aC (del s k))) (ids++is):=by
  refine⟨?_,?_⟩
  .unfold own
   have c5:Ag (own (upd σ (E+1) (some ⟨[v,w],0,true⟩)) 1) [v,w]=some ([LL aX s.au,LL bg (del s k).members],ids++is):=by
    unfold Ag;rw[c4,c0]
   simp only[c5];rfl
  .rw[List.nodup_append]
   exact⟨o2.2,c3,fun a ha b hb e=>by have h1:=(J a ha).2;have h2:=(b3 b hb).1;omega⟩
 simp only[go_sem,t4,t5,h1,O,z3,c1,cw];exact⟨v,w,_,nx,ids++is,rfl,by omega,hO,fun q hq=>by
  rcases List.mem_append.mp hq with h|h
  .have:=J q h;omega
  .have:=b3 q h;omega⟩
theorem FQ(xs:List Int):xs.flatMap cI=xs.map I:=by
 induction xs with
 |nil=>rfl
 |cons x xs E=>show I x :: xs.flatMap cI=_;rw[E];rfl
theorem SL(xs:List Int)(k:Nat):(xs.flatMap cI).eraseIdx k=(xs.eraseIdx k).flatMap cI:=by rw[FQ,FQ,nV]
theorem MG{σ:Store}{b:Nat}{xs:List Int}{ex:List V}{n:Nat}(h:σ b=some ⟨xs.flatMap cI++ex,1,true⟩)(hn:xs.length=n)(d:Nat):strip σ (d+1) (.rs b 0 n)=some (LI xs,[b]):=by
 rw[jR,h];simp only[zl,yj,yu,yX];rw[uf (by rw[zo,sS];omega),xZ (by rw[sS,hn]),gJ];show some (V.ts _ n,[b])=_;rw[<- hn]
theorem SN{P:Program}{σ:Store}{t:TypeId}{b off len:Nat}{lo hi E:V}(h:(aN P t).slice=true)(G:(aN P t).PK=true):bK P t (.rs b off len) (some lo) (some hi) (some E) σ=(bnd (some lo) 0).bind fun l=>(bnd (some hi) 0).bind fun h=>(bnd (some E) 0).bind fun m=>if l<=h/\h<=m/\m<=len then some .junk else none:=by
 obtain⟨e,Y,z,J,O,h3,h4,S,h6,h7⟩:=ig h G;unfold bK;simp only[J,O,S];cases bnd (some lo) 0<;>cases bnd (some hi) 0<;>cases bnd (some E) 0<;>rfl
attribute [go_sem] SN
theorem agx{σ:Store}{nx b:Nat}{w:List Int}{n k:Nat}(hb:σ b=some ⟨w.flatMap cI,1,true⟩)(J:b<nx)(hw:w.length=n)(hn:n<=1000)(hk:k<n) :
  ∃σ',ev gu d_ wI 63 [.rs b 0 n,I k,I ((k:Int)+1)] σ nx=some (.rs b 0 (n-1),σ',nx)/\(∃ex,σ' b=some ⟨(w.eraseIdx k).flatMap cI++ex,1,true⟩)/\∀c,c≠b->σ' c=σ c:=by
 have G:(w.flatMap cI).length=n:=by rw[sS,hw]
 have e1:((k:Int)==(k:Int)+1)=false:=by rw[uZ];omega
 have i0:=nP k;have i1:(0:Int)<=(k:Int)+1:=by omega
 have i2:((k:Int)+1).toNat=k+1:=by omega
 have i3:k<=k+1:=by omega
 have i4:k+1<=n:=hk;have i5:¬k+1=0:=by omega
 have i6:k<=n:=by omega
 have i7:=nP n;rw[qO [.tmp 6] [5] func63];have O:¬n=0:=by omega
 have z1:∀(c:Nat) (x:Option BZ),c≠b->upd σ b x c=σ c:=fun c x h=>iY _ _ h
 by_cases E:k+1=n
 .have m1:n-1=k:=by omega
  have m3:n-k=1:=by omega
  have a1:¬k=n:=by omega
  have ha:=acI (restrict σ [b]) nx 1 8 b 0 k [] (B:=⟨w.flatMap cI,1,true⟩) (by rw[lC];exact hb);have le:∃ex,patch (w.flatMap cI) k [I 0]=(w.eraseIdx k).flatMap cI++ex:=by
   rw[mQ _ _ _ (by rw[G];simp;omega),<- SL,uz,yD (l:=w.flatMap cI) (i:=k+1) (by omega),zA,zF];exact⟨_,rfl⟩
  by_cases S:k=0
  .have a6:(k=0)=True:=eq_true S
   have hr:rep n [I 0]=[I 0]:=by
    have:n=1:=by omega
    rw[this];rfl
   have a8:0+n<=n:=by omega
   simp only[go_sem,hb,G,J,e1,i0,i1,i2,i3,i4,i5,i6,i7,E,a1,ha,O,a6,zM,zu,BM,m1,hr,a8];exact⟨_,rfl,by rw[iW];obtain⟨ex,e⟩:=le;exact⟨ex,by rw[<- e,S,EY]⟩,fun c hc=>iY _ _ hc⟩
  .simp only[go_sem,hb,G,J,e1,i0,i1,i2,i3,i4,i5,i6,i7,E,a1,ha,O,S,m3,zM,zu,BM,m1]
   exact⟨_,rfl,by rw[iW];obtain⟨ex,e⟩:=le;exact⟨ex,by rw[<- e];rfl⟩,fun c hc=>iY _ _ hc⟩
 .have m1:¬n - (k+1)=0:=by omega
  have m2:((w.flatMap cI).drop (k+1)).take (n - (k+1))=(w.flatMap cI).drop (k+1):=zk (by rw[zW,G];omega);have i8:k+1+(n - (k+1))<=n:=by omega
  have rl:((w.flatMap cI).drop (k+1)).length=n - (k+1):=by rw[zW,G]
  have Y:((w.flatMap cI).drop (k+1)).all aJ=true:=by
   rw[FQ,<- List.map_drop,<- FQ];exact sW _
  obtain⟨Pc,hP⟩:∃Pc,Pc=patch (w.flatMap cI) k ((w.flatMap cI).drop (k+1)):=⟨_,rfl⟩;have a7:Pc.length=n:=by
   rw[hP,mQ _ _ _ (by rw[rl,G];omega)];simp only[zo,zY,zW,G];omega
  obtain⟨b4,b2⟩:∃ex,Pc=(w.eraseIdx k).flatMap cI++ex:=by
   obtain⟨ex,e⟩:=mP (w.flatMap cI) [] (i:=k) (m:=n) G hk m1;rw[zA]at e;exact⟨ex,by rw[hP,e,SL]⟩
  have ha:=aiG (σ:=restrict σ [b,b]) (nx:=nx) (bytes:=8) (b:=b) (len:=k) (m:=n - (k+1)) (row:=(w.flatMap cI).drop (k+1)) (cells:=w.flatMap cI) (by rw[ku];exact hb) m1 (by rw[G];omega) Y;rw[<- hP]at ha;have m5:k+(n - (k+1))=n-1:=by omega
  rw[m5]at ha;have j1:((n-1:Nat):Int).toNat=n-1:=zM _;have j2:(0:Int)<=((n-1:Nat):Int):=by omega
  have j3:n-1<=n:=by omega
  have j4:¬n-1=0:=by omega
  have j5:¬n-1=n:=by omega
  have j6:n - (n-1)=1:=by omega
  have j7:n-1+1<=n:=by omega
  have le:∃ex,patch Pc (n-1) [I 0]=(w.eraseIdx k).flatMap cI++ex:=by
   have b3:((w.eraseIdx k).flatMap cI).length=n-1:=by rw[sS,yY (by omega),hw]
   rw[mQ _ _ _ (by rw[a7];simp;omega),b2,xZ b3,zF];exact⟨_,rfl⟩
  simp only[go_sem,hb,G,J,e1,i0,i1,i2,i3,i4,i5,i6,i7,i8,E,m1,m2,ha,O,zM,zu,j1,j2,j3,j4,j5,j6,j7,a7,BM];exact⟨_,rfl,by rw[iW];obtain⟨ex,e⟩:=le;exact⟨ex,by rw[<- e];rfl⟩,fun c hc=>iY _ _ hc⟩
def CS(s:Structure)(l w:List Int):Prop:=fn gu aY bY 37 [.agg (aC s),LI l,LI w]=some (Bo true)
theorem JJ{s:Structure}(h:dZ s)(E:bJ s){l w:List Int}(G:dN s.au.length l)(hw:gK s.members.length w) :
  fn gu aY bY 37 [.agg (aC s),LI l,LI w]=some (Bo (pb (CS s l w))):=by
 obtain⟨b,r,k,_⟩:=agn h E G hw;rw[k];cases b with
 |true=>
  have:CS s l w:=k;rw[mJ this]
 |false=>
  have:¬CS s l w:=fun e=>by unfold CS at e;rw[k]at e;cases e
  rw[mM this]
noncomputable def upto(s:Structure)(l w:List Int)(n:Nat):Bool:=(List.range n).all fun k=>pb (CS (del s k) l (w.eraseIdx k))
theorem upto_succ(s:Structure)(l w:List Int)(n:Nat):upto s l w (n+1)=(upto s l w n && pb (CS (del s n) l (w.eraseIdx n))):=by simp[upto,vS]
theorem V6{s:Structure}{l w:List Int}{k n:Nat}(E:k<n)(h:pb (CS (del s k) l (w.eraseIdx k))=false):upto s l w n=false:=by
 unfold upto;rw[List.all_eq_false];exact⟨k,by simpa using E,by rw[h];simp⟩
noncomputable def OQ(s:Structure)(l w:List Int):Bool:=pb (CS s l w) && upto s l w s.members.length
theorem agy(w:List Int)(hw:w.length<=1000)(E:w.length≠0)(nx:Nat):Bz [LI w] aG nx=some (.rs nx 0 w.length,bG aG nx (w.flatMap cI) 1,nx+1):=by
 show(if(w.flatMap cI).length=w.length/\w.length<=17592186044000/\(w.flatMap cI).all aJ=true then _ else none)=_;rw[uf ⟨sS w,by omega,sW w⟩,ug E]
theorem SQ{s:Structure}(h:dZ s)(ho:bJ s){l w:List Int}(hl:dN s.au.length l)(hw:gK s.members.length w) :
  fn gu d_ wI 36 [.agg (aC s),LI l,LI w]=some (Bo (OQ s l w)):=by
 have k1:=JJ h ho hl hw;have c0:=h.2.1;have c2:=h.1;have O:=hw.1;unfold OQ;rw[qB,qO [.tmp 6] [] func36];cases hs:pb (CS s l w)with
 |false=>
  rw[hs]at k1;simp only[go_sem,k1]
 |true=>
  rw[hs]at k1;simp only[go_sem,k1];generalize hL:aA _ _=y;obtain⟨x,rfl,hx⟩:=rP hL s.members.length (fun j st=>st.T 1=LI l/\st.T 2=LI w/\st.T 3= .rp 0 0/\st.T 15=I s.members.length/\st.T 16=I j/\0<st.nx/\st.σ 0=some ⟨aC s,0,true⟩/\upto s l w j=true)
   (fun x=>∃T σ nx,(x=(.exit 0,⟨T,σ,nx⟩)/\upto s l w s.members.length=true)\/(x=(.ret,⟨T,σ,nx⟩)/\T 6=Bo false/\upto s l w s.members.length=false)) (by
    clear hL;rintro j ⟨T,σ,nx⟩ hj ⟨t1,t2,t3,t15,t16,a6,E,hu⟩;simp only at t1 t2 t3 t15 t16 a6 E;have f1:(j:Int)<(s.members.length:Int):=by omega
    have f2:=nP j;have f3:=iF (n:=(j:Int)+1);obtain⟨v,v2,b7,G,Y,k2,c3,hO,a7⟩:=ZO s (by omega) (by omega) j hj (nx+1);have k3:=agy w (by omega) (by omega) G;rw[O]at k3;obtain⟨S,eS⟩:∃S,S=del s j:=⟨_,rfl⟩;rw[<- eS]at hO;have gO:=fun d=>hO.gather (d':=d+2) (by omega)
    have hlen:(w.eraseIdx j).length=s.members.length-1:=by rw[yY (by omega),O]
    have b8:S.au=s.au:=by rw[eS];rfl
    have b9:S.members.length=s.members.length-1:=by
     rw[eS];unfold del;exact yY hj
    have k5:=JJ (s:=S) (l:=l) (w:=w.eraseIdx j) (by rw[eS];exact ajo h j) (by rw[eS];exact agu ho j) (by rw[b8];exact hl) (by rw[b9];exact ZM hw hj);have oc:Own (bG aG G (w.flatMap cI) 1) 1 (.rs G 0 s.members.length) (LI w) [G]:=by
     have:=Fh (σ:=bG aG G (w.flatMap cI) 1) (d:=0) (b:=G) (st:=1) (xs:=w) (by unfold bG;rw[iW]) (by omega)
     rwa [O]at this
    have gc:=fun d=>oc.gather (d':=d+1) (by omega)
    unfold bG at k3 gc;obtain⟨J,e1⟩:∃J,J=eG (nx+1) (upd σ nx (some ⟨[I j],1,true⟩)) b7 Y:=⟨_,rfl⟩;have b1:J 0=some ⟨aC s,0,true⟩:=by rw[e1,oG (by omega),iZ];exact E
    have o1:Own J 2 (.agg [v,v2]) (.agg (aC S)) Y:=hO.frame fun q hq=>by
     have:=a7 q hq;rw[e1,oH (by omega) hq]
    obtain⟨σ2,e2⟩:∃σ2,σ2=eG G J (upd aG G (some ⟨w.flatMap cI,1,true⟩)) [G]:=⟨_,rfl⟩;have b2:σ2 0=some ⟨aC s,0,true⟩:=by rw[e2,oG (by omega)];exact b1
    have b3:σ2 G=some ⟨w.flatMap cI,1,true⟩:=by rw[e2,oH (by omega) (by simp),iW]
    have o2:Own σ2 2 (.agg [v,v2]) (.agg (aC S)) Y:=o1.frame fun q hq=>by
     have:=a7 q hq;rw[e2,oG (by omega)]
    obtain⟨a8,k4,⟨ex,b4⟩,b5⟩:=agx (nx:=G+1) (k:=j) b3 (by omega) O (by omega) hj;have b6:a8 0=some ⟨aC s,0,true⟩:=by rw[b5 0 (by omega)];exact b2
    have st:=fun d=>MG b4 hlen d
    have o3:Own a8 2 (.agg [v,v2]) (.agg (aC S)) Y:=o2.frame fun q hq=>by
     have:=a7 q hq;rw[b5 q (by omega)]
    have so:=fun d=>o3.strip (d':=d+2) (by omega)
    have f4:=iF (n:=(j:Int)+1);have us:=upto_succ s l w j;rw[<- eS]at us;cases a1:pb (CS S l (w.eraseIdx j))with
    |true=>
     rw[a1]at k5 us;refine .inl ⟨_,by simp only[go_sem,sG,t1,t2,t3,t15,t16,E,f1,f2,f3,k2,gO,<- e1,k3,gc,<- e2,k4,st,so,k5,b6];rfl,?_⟩;simp only[go_sem,t1,t2,t3,t15,b6];exact⟨rfl,by omega,by rw[us,hu];rfl⟩
    |false=>
     rw[a1]at k5;refine .inr ⟨_,by simp only[go_sem,sG,t1,t2,t3,t15,t16,E,f1,f2,f3,k2,gO,<- e1,k3,gc,<- e2,k4,st,so,k5,b6];rfl,by simp,_,_,_,.inr ⟨rfl,by simp only[go_sem],?_⟩⟩;rw[eS]at a1;exact V6 hj a1) (by
    rintro ⟨T,σ,nx⟩ ⟨t1,t2,t3,t15,t16,a6,E,hu⟩;simp only at t1 t2 t3 t15 t16 a6 E;exact⟨_,by simp only[go_sem,t15,t16,zX];rfl,by simp,_,_,_,.inl ⟨rfl,hu⟩⟩) (by
    simp only[go_sem];rfl)
  obtain⟨T,σ,nx,⟨rfl,hu⟩|⟨rfl,t6,hu⟩⟩:=hx
  .rw[hu]
   simp only[go_sem]
  .rw[hu]
   simp only[go_sem,t6]
noncomputable def JK(t:fV)(strict:Bool):Bool:=fO t && (if strict=true then OQ t.st t.load t.limits else pb (CS t.st t.load t.limits))
theorem OT{t:fV}(h:fO t=true):dZ t.st/\dN t.st.au.length t.load/\gK t.st.members.length t.limits:=by
 unfold fO at h;simp only[zV]at h;exact⟨nK h.2.1.1,nK h.2.1.2,nK h.2.2⟩
theorem Gw(t:fV)(G:DT t)(strict:Bool):fn gu d_ wI 14 [.agg (bZ t),Bo strict]=some (Bo (JK t strict)):=by
 have E:=K_ t G;unfold JK;rw[qB,qO [.tmp 4] [] func14];cases hs:fO t with
 |false=>
  rw[hs]at E;simp only[go_sem,E]
 |true=>
  rw[hs]at E;obtain⟨J,O,S⟩:=OT hs;have Y:=SQ J G.2.1 O S;have k3:=JJ J G.2.1 O S;cases strict with
  |true=>simp only[go_sem,E,Y]
  |false=>simp only[go_sem,E,k3]
theorem agz{α:Type}{xs:List α}{n k:Nat}(d:α)(E:k<xs.length)(hn:xs.length=n):(xs.take k++List.replicate (n-k) d).set k xs[k]=xs.take (k+1)++List.replicate (n - (k+1)) d:=by
 have G:(xs.take k).length=k:=by rw[zY];omega
 rw[yA _ _ (by omega),G,yh,show n-k=n - (k+1)+1 by omega,yL,vV,jK E,zF];rfl
theorem MH(n:Nat):rep n [Bo false]=(List.replicate n false).flatMap Ah:=LC n
noncomputable def aT(y:bP):List Bool:=y.ah.map fun t=>JK t y.strict
theorem kM(y:bP):(aT y).length=y.ah.length:=by simp[aT]
theorem SS{σ:Store}{b:Nat}{xs:List Bool}(h:σ b=some ⟨xs.flatMap Ah,1,true⟩){n:Nat}(hn:xs.length=n)(d:Nat):strip σ (d+1) (.rs b 0 n)=some (LL Ah xs,[b]):=by
 have E:(xs.flatMap Ah).length=xs.length:=by rw[D_,yj]
 rw[jR,h];simp only[zl,yj,yu,yX,E];rw[uf (by omega),zk (by omega),jW (fun x=>by rw[jd,jQ,jX];rfl)];show some (V.ts _ n,[b])=_;rw[<- hn]
theorem XC(y:bP)(ho:qI y)(Z_:y.ah.length<=6):fn gu d_ wI 31 [.tp (bQ y) 0]=some (LL Ah (aT y)):=by
 obtain⟨n,en⟩:∃n,n=y.ah.length:=⟨_,rfl⟩;have e1:1*(n:Int)<=281474976710656:=by omega
 have e2:(n:Int)<=9223372036854775807:=by omega
 have e3:=nP n;have a8:=kM y;rw[qB,qO [.tmp 2] [5] func31];simp only[go_sem,<- en,e1,e2,e3,xg];generalize hL:aA _ _=z;obtain⟨r,rfl,T',σ',nx',rfl,O,hs⟩:=rP hL n (fun k s=>1<=s.nx/\s.T 0= .tp (bQ y) 0/\s.T 3= .rs 0 0 n/\s.T 15=LL bZ y.ah/\s.T 16=I n/\s.T 17=I k/\s.σ 0=some ⟨((aT y).take k++List.replicate (n-k) false).flatMap Ah,1,true⟩)
  (fun r=>∃T σ nx',r=(.exit 0,⟨T,σ,nx'⟩)/\T 3= .rs 0 0 n/\σ 0=some ⟨(aT y).flatMap Ah,1,true⟩) (by
   clear hL;rintro k ⟨T,σ,m⟩ hk ⟨hm,Y,O,G,E,J,hs⟩;simp only at hm Y O G E J hs;have S:k<y.ah.length:=by omega
   have a1:k<(aT y).length:=by omega
   have f1:(k:Int)<(n:Int):=by omega
   have f2:=nP k;have f3:=iF (n:=(k:Int)+1);have f4:=abr y.ah k S;have f5:=QF y.ah;rw[<- en]at f5;have f6:k*5+5<=n*5:=by omega
   have f9:=abt y.ah k S;have f7:(((aT y).take k++List.replicate (n-k) false).flatMap Ah).length=n:=by
    rw[D_,yj,zo,zY,yM];omega
   have k1:=Gw y.ah[k] (ho.1.1 _ (zq S)) y.strict;have es:(aT y)[k]=JK y.ah[k] y.strict:=by simp[aT]
   have f8:=NU ((aT y).take k++List.replicate (n-k) false) k (aT y)[k];rw[agz false a1 (by omega),es]at f8;have nz:¬0=m:=by omega
   have a6:¬m=0:=by omega
   have f10:k<n:=hk;have f11:0<m+1:=by omega
   have f12:m<m+1:=by omega
   obtain⟨t,et⟩:∃t,t=y.ah[k]:=⟨_,rfl⟩;rw[<- et]at f4 k1 f8;obtain⟨sb,eb⟩:∃sb,sb=JK t y.strict:=⟨_,rfl⟩;rw[<- eb]at k1 f8;refine .inl ⟨_,by simp only[go_sem,<- en,Y,O,G,E,J,hs,f1,f2,f3,f4,f5,f6,f7,f8,f9,f10,f11,f12,k1,nz,a6];rfl,?_⟩;simp only[go_sem,Y,O,G,E];rfl) (by
   clear hL;rintro ⟨T,σ,m⟩ ⟨hm,Y,O,G,E,J,hs⟩;simp only at hm Y O G E J hs;rw[zk (by omega),yh,List.replicate_zero,zA]at hs;exact⟨_,by simp only[go_sem,E,J,zX];rfl,by simp,_,_,_,rfl,by simp only[go_sem,O],hs⟩) (by
   simp only[go_sem];rw[<- MH])
 have a7:=fun d=>SS hs (n:=n) (by omega) d
 simp only[go_sem,O,a7]
theorem adB(y:bP)(E:aW y)(i:Int):fn gu d_ wI 32 [.tp (bQ y) 0,I i]=some (LI (BF (gU y.moves i) y.ah.length)):=by
 obtain⟨v,G,O,ids,k,_,J,_⟩:=LD y E i 0;rw[ai7,qB,k];simp only[go_sem,J.strip (d':=7) (by omega)]
def nexts(y:bP)(a:Nat):List Nat:=(List.range y.ah.length).filter (fQ y a)
theorem MI(y:bP)(a:Nat):BF (gU y.moves (a:Int)) y.ah.length=aV (nexts y a):=rfl
theorem V7(l:List Nat){j:Nat}(h:j<l.length):(aV l)[j]'(by rw[jC];exact h)=(l[j]:Int):=by simp[aV]
theorem MJ(l:List Nat){j:Nat}(h:j<l.length):((aV l).flatMap cI)[j]?=some (I (l[j]:Int)):=by
 rw[idx (xs:=aV l) (k:=j) (by rw[jC];exact h),V7 l h]
theorem XD{α:Type}{p:α->Bool}:∀ {l:List α} {j:Nat} (h:j<l.length),(∀i (hi:i<l.length),i<j->p l[i]=false)->p l[j]=true->l.find? p=some l[j]
 |[],_,h,_,_=>absurd h (zK _)
 |x :: l,0,_,_,h=>by
  have h:p x=true:=h;simp[List.find?_cons,h]
 |x :: l,j+1,hj,hlo,h=>by
  have E:p x=false:=hlo 0 (by simp) (by omega);have:=XD (l:=l) (j:=j) (by rw[zi]at hj;omega) (fun i hi G=>hlo (i+1) (by rw[zi];omega) (by omega)) h;simp only[List.find?_cons,E];exact this
theorem ajq{y:bP}{out:Nat->Int}{a j:Nat}(h:j<(nexts y a).length)(E:∀i (hi:i<(nexts y a).length),i<j->(out (nexts y a)[i]==out a-1)=false)(G:(out (nexts y a)[j]==out a-1)=true):EH (fQ y) out y.ah.length a=(nexts y a)[j]:=by
 have J:=XD (p:=fun i=>out i==out a-1) h E G;unfold EH;have O:(List.range y.ah.length).find? (fun i=>fQ y a i && (out i==out a-1))=(nexts y a).find? (fun i=>out i==out a-1):=by
  unfold nexts;rw[List.find?_filter];congr 1;funext i;generalize fQ y a i=b1;generalize (out i==out a-1)=b2;cases b1<;>cases b2<;>rfl
 rw[O,J];rfl
theorem SV{y:bP}{a j:Nat}(h:j<(nexts y a).length):(nexts y a)[j]<y.ah.length:=by
 have:=zq h;exact List.mem_range.mp (List.mem_filter.mp this).1
theorem SX(y:bP)(a:Nat):(nexts y a).length<=y.ah.length:=by
 unfold nexts;exact zL (List.length_filter_le _ _) (by simp)
theorem V8{y:bP}{al:List Bool}(G:al.length=y.ah.length){to a:Nat}(h:0<dst (fQ y) (fH al) to a):∃j,∃E:j<(nexts y a).length,(dst (fQ y) (fH al) to (nexts y a)[j]==dst (fQ y) (fH al) to a-1)=true:=by
 obtain⟨J,O,S⟩:=OC (mv:=fQ y) (al:=fH al) (n:=y.ah.length) (to:=to) (a:=a) (fun i hi=>by have:=uG hi;omega) h;have hm:EH (fQ y) (dst (fQ y) (fH al) to) y.ah.length a∈nexts y a:=by
  unfold nexts;rw[List.mem_filter];exact⟨by simpa using J,O⟩
 obtain⟨j,E,e⟩:=yK hm;exact⟨j,E,by rw[e,S];simp⟩
noncomputable def b_(y:bP)(fr to:Int):Bool:=pb (aW y) && (decide (0<=fr) && decide (fr<(y.ah.length:Int)) && decide (0<=JH y (aT y) to fr.toNat))
noncomputable def dA(y:bP)(fr to:Int):List Int:=if b_ y fr to=true then aV (plan (fQ y) (JH y (aT y) to) y.ah.length fr.toNat)else []
theorem OU{y:bP}{al:List Bool}{to:Int}{i:Nat}(h:0<=JH y al to i):(0<=to/\to<(y.ah.length:Int))/\JH y al to=dst (fQ y) (fH al) to.toNat:=by
 by_cases c:0<=to/\to<(y.ah.length:Int)
 .exact⟨c,funext fun i=>by unfold JH;rw[uf c]⟩
 .unfold JH at h
  rw[ug c]at h;omega
theorem MK{σ:Store}{b:Nat}{cells:List V}{st:Nat}{wr:Bool}(h:σ b=some ⟨cells,st,wr⟩)(t:V):behind σ [b] t=upd σ b (some ⟨cells,st,wr && flat depth t⟩):=by
 unfold behind;cases E:flat depth t with
 |true=>
  simp only[Bool.and_true,List.isEmpty_cons,Bool.false_or,if_true];funext i
  by_cases e:i=b
  .subst e;rw[iW,h]
  .rw[iY _ _ e]
 |false=>
  simp only[List.isEmpty_cons,Bool.or_self,yR,if_false,xA];unfold Aw Aw;rw[h];rfl
theorem V9{T:Nat->V}{σ σ':Store}{nx t:Nat}{acc:List Int}(E:Grow T σ nx t acc)(h:∀b o l,T t= .rs b o l->σ' b=σ b):Grow T σ' nx t acc:=by
 rcases E with ⟨g1,g2⟩|⟨b,g1,g2,g3,g4⟩
 .exact .inl ⟨g1,g2⟩
 .exact .inr ⟨b,g1,g2,by rw[h _ _ _ g1];exact g3,g4⟩
def Bl(y:bP)(out:Nat->Int)(a k:Nat):List Int:=aV ((List.range (k+1)).map (O4 (fQ y) out y.ah.length a))
theorem ZP(y:bP)(out:Nat->Int)(a k:Nat):(Bl y out a k).length=k+1:=by simp[Bl,aV]
theorem V_(y:bP)(out:Nat->Int)(a k:Nat):Bl y out a (k+1)=Bl y out a k++[((O4 (fQ y) out y.ah.length a (k+1):Nat):Int)]:=by
 unfold Bl aV;rw[vS];simp
theorem ML(y:bP)(ho:qI y)(fr to:Int)(nx:Nat):∃v b5 aO ids,ev gu d_ wI 8 [.agg (bQ y),I fr,I to] aG nx=some (.dF [v,Bo (b_ y fr to)],b5,aO)/\nx<=aO/\Own b5 1 v (LI (dA y fr to)) ids/\∀b∈ids,nx<=b/\b<aO:=by
 obtain⟨n,en⟩:∃n,n=y.ah.length:=⟨_,rfl⟩;have k1:=oW y ho;have Y:∀ok,ok=b_ y fr to->ok=false->dA y fr to=[]:=fun ok e h=>by unfold dA;rw[<- e,h,ug (by simp)]
 rw[qO [.tmp 6,.tmp 7] [] func8];cases hg:pb (aW y)with
 |false=>
  have e:b_ y fr to=false:=by unfold b_;rw[hg,vk]
  rw[hg]at k1;rw[e,Y _ e.symm rfl];simp only[go_sem,k1];exact⟨_,_,_,[],rfl,by omega,mX _ _,by simp⟩
 |true=>
  rw[hg]at k1;have hG:=nK hg
  by_cases c1:fr<0
  .have e:b_ y fr to=false:=by unfold b_;rw[hg,uX (p:=0<=fr) (by omega)];rfl
   rw[e,Y _ e.symm rfl];simp only[go_sem,k1,c1];exact⟨_,_,_,[],rfl,by omega,mX _ _,by simp⟩
  by_cases c2:(y.ah.length:Int)<=fr
  .have e:b_ y fr to=false:=by unfold b_;rw[hg,uX (p:=fr<_) (by omega),xA];rfl
   rw[e,Y _ e.symm rfl];simp only[go_sem,k1,c1,c2];exact⟨_,_,_,[],rfl,by omega,mX _ _,by simp⟩
  obtain⟨a0,rfl⟩:∃a:Nat,fr=(a:Int):=⟨fr.toNat,by omega⟩;have c4:a0<y.ah.length:=by omega
  have Z_:=hG.1;have k2:=XC y ho Z_;have k3:=ajl y hG (by omega) to (aT y) (kM y);obtain⟨out,eo⟩:∃out,out=JH y (aT y) to:=⟨_,rfl⟩;rw[<- eo]at k3;have f1:(a0:Int)<(y.ah.length:Int):=by omega
  have f2:=nP a0;have la:=fun {a:Nat} (h:a<y.ah.length)=>Hz (n:=y.ah.length) out h
  have b6:=la c4;have ll:=oC y.ah.length out;have O:(fU y.ah.length out).flatMap cI≠[]:=fun e=>by
   have h:=sS (fU y.ah.length out);rw[e,ll]at h;have h:0=y.ah.length:=h;omega
  by_cases c3:out a0<0
  .have e:b_ y a0 to=false:=by
    unfold b_;rw[<- eo,zM,uX (p:=0<=out a0) (by omega),xA,xA]
   rw[e,Y _ e.symm rfl];simp only[go_sem,k1,c1,c2,k2,k3,ll,O,b6,f1,f2,c3];exact⟨_,_,_,[],rfl,by omega,mX _ _,by simp⟩
  have e:b_ y a0 to=true:=by
   unfold b_;rw[<- eo,hg,zM,uY (p:=0<=out a0) (by omega),uY f2,uY (p:=(a0:Int)<_) (by omega)];rfl
  obtain⟨⟨t0,t1⟩,es⟩:=OU (y:=y) (al:=aT y) (to:=to) (i:=a0) (by rw[<- eo];omega);rw[<- eo]at es;have c5:dA y a0 to=Bl y out a0 (out a0).toNat:=by
   unfold dA;rw[uf e,<- eo,zM];rfl
  rw[e,c5];obtain⟨d,hd⟩:∃d:Nat,out a0=(d:Int):=⟨(out a0).toNat,by omega⟩;have a8:∀i,fH (aT y) i=true->i<y.ah.length:=fun i hi=>by have:=uG hi;rw[kM]at this;exact this
  have b2:∀k:Nat,k<=d->out (O4 (fQ y) out y.ah.length a0 k)=(d:Int) - k:=fun k hk=>by
   have:=oM a8 (mv:=fQ y) (to:=to.toNat) (a:=a0) k (by rw[<- es,hd];omega);rw[<- es,hd]at this;exact this
  have b7:∀k:Nat,k<=d->O4 (fQ y) out y.ah.length a0 k<y.ah.length:=fun k hk=>by
   have h1:=b2 k hk;have h2:=Js (mv:=fQ y) (al:=fH (aT y)) (to:=to.toNat) (i:=O4 (fQ y) out y.ah.length a0 k) (by rw[<- es];omega);exact a8 _ h2.1
  have e8:d<=6:=by
   have:=ac7 a8 (mv:=fQ y) (to:=to.toNat) (a:=a0) (by rw[<- es,hd];omega);rw[<- es,hd]at this;omega
  obtain⟨at_,a1⟩:∃at_,at_=O4 (fQ y) out y.ah.length a0:=⟨_,rfl⟩;rw[<- a1]at b2 b7;have c6:∀k,Bl y out a0 (k+1)=Bl y out a0 k++[((at_ (k+1):Nat):Int)]:=fun k=>by rw[a1];exact V_ y out a0 k
  have w0:Bl y out a0 0=[(a0:Int)]:=rfl;have wl:=ZP y out a0;have c7:(out a0).toNat=d:=by omega
  rw[c7];simp only[go_sem,k1,c1,c2,k2,k3,ll,O,b6,f1,f2,c3];generalize hL:aA _ _=z;obtain⟨x,rfl,T,σ,nx',rfl,E,c8,c9⟩:=nY hL (fun m st=>∃k,k+m=d/\st.T 3= .rp nx 0/\st.T 8=LI (fU y.ah.length out)/\st.T 10=I (at_ k)/\nx+1<st.nx/\(∃wr,st.σ nx=some ⟨bQ y,0,wr⟩)/\Grow st.T st.σ st.nx 9 (Bl y out a0 k)/\∀b o l,st.T 9= .rs b o l->nx+1<=b)
   (fun x=>∃T σ nx',x=(.exit 0,⟨T,σ,nx'⟩)/\nx+1<nx'/\Grow T σ nx' 9 (Bl y out a0 d)/\∀b o l,T 9= .rs b o l->nx+1<=b) (by
    clear hL;rintro m ⟨T,σ,BH⟩ ⟨k,hk,t3,t8,t10,E,⟨wr,G⟩,J,S⟩;simp only at t3 t8 t10 E G J S;have ha:=b7 k (by omega);have ho:=b2 k (by omega);have a6:=la ha;have g1:(at_ k:Int)<(y.ah.length:Int):=by omega
    have g2:(0:Int)<=(at_ k:Int):=by omega
    by_cases hm:m=0
    .subst hm
     have e0:k=d:=by omega
     have g3:¬0<out (at_ k):=by omega
     refine .inr ⟨_,by simp only[go_sem,t8,t10,ll,O,a6,g1,g2,ha,g3];rfl,by simp,_,_,_,rfl,E,?_,by simpa only[go_sem]using S⟩;rw[<- e0];exact ou (by simp only[go_sem]) J
    .have g3:0<out (at_ k):=by omega
     have k4:=adB y hG (at_ k:Int);rw[MI]at k4;have e9:=SX y (at_ k);have b3:=MK G (LI (aV (nexts y (at_ k))));obtain⟨JQ,b8⟩:∃JQ,JQ=behind σ [nx] (LI (aV (nexts y (at_ k)))):=⟨_,rfl⟩;rw[<- b8]at b3;have e1:∃wr,JQ nx=some ⟨bQ y,0,wr⟩:=⟨_,by rw[b3,iW]⟩;have e2:Grow T JQ BH 9 (Bl y out a0 k):=V9 J fun b o l h=>by rw[b3,iY _ _ (by have:=S b o l h;omega)]
     have w4:=iF (n:=out (at_ k) - 1);have b9:at_ (k+1)=EH (fQ y) out y.ah.length (at_ k):=by rw[a1];rfl
     refine ji ?_
     conv=>
      enter [1,r,1,1]
      simp only[go_sem,t3,t8,t10,G,ll,O,a6,g1,g2,ha,g3,k4,jC,<- b8]
     generalize hL:aA _ _=w;obtain⟨r,rfl,T',σ',GV,rfl,t3,t8,t10,E,⟨e3,G⟩,J,S⟩:=rP hL (nexts y (at_ k)).length (fun j st=>st.T 3= .rp nx 0/\st.T 8=LI (fU y.ah.length out)/\st.T 10=I (at_ k)/\st.T 44=LI (aV (nexts y (at_ k)))/\st.T 45=I (nexts y (at_ k)).length/\st.T 46=I j/\nx+1<st.nx/\(∃wr,st.σ nx=some ⟨bQ y,0,wr⟩)/\Grow st.T st.σ st.nx 9 (Bl y out a0 k)/\(∀b o l,st.T 9= .rs b o l->nx+1<=b)/\∀i (hi:i<(nexts y (at_ k)).length),i<j->(out (nexts y (at_ k))[i]==out (at_ k) - 1)=false)
      (fun r=>∃T σ GV,r=(.exit 2,⟨T,σ,GV⟩)/\T 3= .rp nx 0/\T 8=LI (fU y.ah.length out)/\T 10=I (at_ (k+1))/\nx+1<GV/\(∃wr,σ nx=some ⟨bQ y,0,wr⟩)/\Grow T σ GV 9 (Bl y out a0 k)/\∀b o l,T 9= .rs b o l->nx+1<=b) (by
       clear hL;rintro j ⟨T,σ,BH⟩ hj ⟨t3,t8,t10,t44,t45,t46,E,G,J,S,a7⟩;simp only at t3 t8 t10 t44 t45 t46 E G J S;have f1:(j:Int)<((nexts y (at_ k)).length:Int):=by omega
       have f2:=nP j;have f3:=iF (n:=(j:Int)+1);have f4:=MJ (nexts y (at_ k)) hj;have f5:=jC (nexts y (at_ k));have f6:(aV (nexts y (at_ k))).flatMap cI≠[]:=fun e=>by
        have h:=sS (aV (nexts y (at_ k)));rw[e,f5]at h;have h:0=(nexts y (at_ k)).length:=h;omega
       have hc:=SV hj;have b4:=la hc;obtain⟨c,ec⟩:∃c,c=(nexts y (at_ k))[j]:=⟨_,rfl⟩;rw[<- ec]at f4 hc b4;have i1:(c:Int)<(y.ah.length:Int):=by omega
       have i2:=nP c;cases hq:(out c==out (at_ k) - 1)with
       |true=>
        have hn:=ajq hj a7 (by rw[<- ec];exact hq);refine .inr ⟨_,by simp only[go_sem,t3,t8,t10,t44,t45,t46,ll,O,a6,b4,g1,g2,ha,f1,f2,f3,f4,f5,f6,hj,hc,i1,i2,w4,hq];rfl,by simp,_,_,_,rfl,?_⟩;simp only[go_sem,t3,t8];rw[b9,hn,<- ec];exact⟨rfl,E,G,ou (by simp only[go_sem]) J,S⟩
       |false=>
        refine .inl ⟨_,by simp only[go_sem,t3,t8,t10,t44,t45,t46,ll,O,a6,b4,g1,g2,ha,f1,f2,f3,f4,f5,f6,hj,hc,i1,i2,w4,hq];rfl,?_⟩;simp only[go_sem,t3,t8,t10,t44,t45];refine⟨rfl,E,G,ou (by simp only[go_sem]) J,S,fun i hi h3=>?_⟩
        by_cases e:i=j
        .subst e;rw[<- ec];exact hq
        .exact a7 i hi (by omega)) (by
       clear hL;rintro ⟨T,σ,BH⟩ ⟨t3,t8,t10,t44,t45,t46,E,G,J,S,a7⟩;exfalso;obtain⟨j,hj,hq⟩:=V8 (y:=y) (al:=aT y) (kM y) (to:=to.toNat) (a:=at_ k) (by rw[<- es];exact g3);rw[<- es,a7 j hj hj]at hq;cases hq) (by
       simp only[go_sem,t3,t8,t10];exact⟨E,e1,ou (by simp only[go_sem]) e2,S,fun i hi h0=>absurd h0 (zK _)⟩)
     obtain⟨A_,c0,e4,e5⟩:=NV J (at_ (k+1):Int) (by rw[wl];omega);rw[wl]at c0;refine⟨_,by simp only[go_sem,t10,c0];rfl,.inl ⟨_,rfl,m-1,by omega,k+1,by omega,?_⟩⟩;simp only[go_sem,t3,t8,t10];refine⟨by omega,?_,?_,fun b o l hb=>?_⟩
     .exact⟨e3,by rw[e5 nx (by omega) (fun b o l hb=>by have:=S b o l hb;omega)];exact G⟩
     .rw[c6]
      exact oh e4 (by simp only[go_sem,zo,wl]) (by simp)
     .cases hb;omega) d (by
    simp only[go_sem];refine⟨0,by omega,by rw[a1];rfl,by omega,⟨_,by rw[iZ,iW]⟩,.inr ⟨nx+1,?_,by rw[w0];simp,?_,by omega⟩,fun b o l hb=>by cases hb;omega⟩
    .simp only[go_sem]
     rfl
    .rw[iW];rfl)
  obtain⟨ids,e6,e7⟩:=QT c8 c9;simp only[go_sem];exact⟨_,_,_,ids,rfl,by omega,e6,fun b hb=>by have:=e7 b hb;omega⟩
theorem MN(y:bP)(fr to:Int):(dA y fr to).length<=1000000:=by
 unfold dA
 split
 .rename_i h
  unfold b_ at h;simp only[zV,decide_eq_true_eq]at h;obtain⟨G,⟨J,O⟩,E⟩:=h;obtain⟨_,es⟩:=OU E;have:=ac7 (mv:=fQ y) (al:=fH (aT y)) (n:=y.ah.length) (to:=to.toNat) (a:=fr.toNat) (fun i hi=>by have:=uG hi;rw[kM]at this;exact this) (by rw[<- es];exact E);rw[jC,ac8,es];have:=(nK G).1;omega
 .exact wM _
theorem KC(y:bP)(E:qI y)(fr to:Int):fn gu d_ wI 12 [.agg (bQ y),I fr,I to]=some (I (dA y fr to).length):=by
 obtain⟨v,G,J,ids,k,hn,o1,hi⟩:=ML y E fr to 1;have g1:=fun d=>o1.gather (d':=d+1) (by omega)
 rw[qB,qO [.tmp 6] [] func12];rcases D7 o1 with ⟨rfl,e,_⟩|⟨b,st,rfl,_⟩
 .rw[e]
  simp only[go_sem,k,g1]
 .simp only[go_sem,k,g1]
theorem agA(xs:List Int)(m:Int)(h:xs.length<=1000000):fn gu conv ext 11 [LI xs,I m]=some (Bo (decide (m∈xs))):=by
 rw[qB,qO [.tmp 4] [] func11];simp only[go_sem];generalize J:aA _ _=y;obtain⟨x,rfl,S⟩:=rP J xs.length (fun k st=>st.T 1=I m/\st.T 7=LI xs/\st.T 8=I xs.length/\st.T 9=I k/\∀i (h:i<xs.length),i<k->xs[i]≠m)
  (fun x=>∃T σ nx,(x=(.exit 0,⟨T,σ,nx⟩)/\m∉xs)\/(x=(.ret,⟨T,σ,nx⟩)/\T 4=Bo true/\m∈xs)) (by
   clear J;rintro k ⟨T,σ,nx⟩ G ⟨t1,t7,t8,t9,E⟩;simp only at t1 t7 t8 t9;have f1:(k:Int)<(xs.length:Int):=by omega
   have f2:=nP k;have f3:=iF (n:=(k:Int)+1);have f4:=idx (xs:=xs) (k:=k) G;have f5:=iI xs k G
   by_cases e:xs[k]=m
   .have O:(xs[k]==m)=true:=by simpa using e
    refine .inr ⟨_,by simp only[go_sem,t1,t7,t8,t9,f1,f2,f4,f5,G,O];rfl,by simp,_,_,_,.inr ⟨rfl,by simp only[go_sem],?_⟩⟩;rw[<- e];exact zq G
   .have O:(xs[k]==m)=false:=by simpa using e
    refine .inl ⟨_,by simp only[go_sem,t1,t7,t8,t9,f1,f2,f3,f4,f5,G,O];rfl,?_⟩;simp only[go_sem,t1,t7,t8];refine⟨rfl,fun i hi Y=>?_⟩
    by_cases h':i=k
    .subst h';exact e
    .exact E i hi (by omega)) (by
   clear J;rintro ⟨T,σ,nx⟩ ⟨t1,t7,t8,t9,E⟩;simp only at t1 t7 t8 t9;refine⟨_,by simp only[go_sem,t8,t9,zX];rfl,by simp,_,_,_,.inl ⟨rfl,fun hm=>?_⟩⟩;obtain⟨i,hi,e⟩:=yK hm;exact E i hi hi e) (by
   simp only[go_sem];exact fun i _ h=>absurd h (zK _))
 obtain⟨T,σ,nx,⟨rfl,hm⟩|⟨rfl,t4,hm⟩⟩:=S
 .rw[uX hm]
  simp only[go_sem]
 .rw[uY hm]
  simp only[go_sem,t4]
theorem KD(y:bP)(h:qI y)(i:Int):fn gu d_ wI 16 [.agg (bQ y),I i]=some (LI (nextL y i)):=by
 obtain⟨v,E,J,ids,k,_,G,_⟩:=NW y h i 0;rw[ai8,qB,k];simp only[go_sem,G.strip (d':=7) (by omega)]
noncomputable def Gx(y:bP):List Int:=if pb (aW y)=true then BF (fH (aT y)) y.ah.length else []
theorem KE(y:bP)(Y:qI y)(nx:Nat):∃v E G ids,ev gu d_ wI 15 [.agg (bQ y)] aG nx=some (v,E,G)/\nx<=G/\Own E 1 v (LI (Gx y)) ids/\∀b∈ids,nx<=b/\b<G:=by
 have O:=oW y Y;unfold Gx;rw[qO [.tmp 2] [] func15];cases S:pb (aW y)with
 |false=>
  rw[S]at O;rw[ug (by simp)];simp only[go_sem,O];exact⟨_,_,_,[],rfl,by omega,mX _ _,by simp⟩
 |true=>
  rw[S]at O;rw[uf rfl];have hG:=nK S;have k2:=XC y Y hG.1;obtain⟨v,E,G,ids,k3,hn,o1,hi⟩:=NT (aT y) (by rw[kM];have:=hG.1;omega) (nx+1);have g1:=fun d=>o1.gather (d':=d+1) (by omega)
  rw[kM]at o1;have e:BF (fun i=>(aT y)[i]?==some true) y.ah.length=BF (fH (aT y)) y.ah.length:=Fj fun i hi=>by
   have J:i<(aT y).length:=by rw[kM];exact hi
   rw[uH J,zy J];cases (aT y)[i]<;>rfl
  rw[e]at o1;simp only[go_sem,O,k2,k3,g1];exact⟨v,_,G,ids,rfl,by omega,o1.join fun b hb=>(hi b hb).1,fun b hb=>by have:=hi b hb;omega⟩
theorem HY(p:Nat->Bool)(n:Nat)(a:Nat):(a:Int)∈BF p n↔a<n/\p a=true:=by
 unfold BF;rw[List.mem_map];constructor
 .rintro ⟨i,hi,e⟩
  rw[List.mem_filter,vG]at hi;have:i=a:=by omega
  subst this;exact hi
 .intro h
  exact⟨a,by rw[List.mem_filter,vG];exact h,rfl⟩
noncomputable def blk(y:bP)(fr to:Int)(i:Nat):Bool:=!((i:Int)==fr) && (!((i:Int)==to) && (fH (aT y) i && decide (JH y ((aT y).set i false) to fr.toNat<0)))
end Go.Proofs.YtjknobpihkmilaaGreat
namespace Go.Proofs.YtjknobpihkmilaaGreat
open Go Go.TV Go.Lp
section
variable {α:Type} {W L:List α} {c:Nat}
end
section
variable {D:TQ} {N k i:Nat} {r:Int}
end
theorem ZQ(a b:Rat):patch (cQ a) 0 (cQ b)=cQ b:=rfl
attribute [go_sem] ZQ
attribute [-go_sem] u_
def qs(z:List Int):List Rat:=z.map fun(x:Int)=>(x:Rat)
end Go.Proofs.YtjknobpihkmilaaGreat
namespace Go.Proofs.YtjknobpihkmilaaGreat
open Go Go.TV Go.Lp
section
variable {A b c:List Int} {m n n':Nat} {C:Nat->Rat} {T:Tab} {D:TQ} {ι:List Nat}
end
section
variable {A b c:List Int} {m n:Nat}
end
attribute [-go_sem] u_
section
variable {A b c:List Int} {m n:Nat}
def Q1(A b c:List Int)(m n:Nat)(D:TQ):Prop:=∃T,Vq (g_ A b c m n) (n+m) (g_ A b c m n).c1 T D (List.range m)/\(g_ A b c m n).Good T
def Q2(A b c:List Int)(m n:Nat)(D:TQ):Prop:=∃T,Vq (g_ A b c m n) (n+m) (g_ A b c m n).c1 T D (List.range m)/\(g_ A b c m n).Good T/\Zero (g_ A b c m n) T
theorem Wh(a b c d e:V)(v:Rat):patch [a,b,c,d,e] 2 (cQ v)=a :: b :: cQ v:=rfl
theorem Wi(a b c d e x y:V)(v:Rat):patch [a,b,c,d,e] 0 (x :: y :: cQ v)=x :: y :: cQ v:=rfl
theorem agB(a b:V)(v:Rat):(a :: b :: cQ v).length=5:=rfl
theorem agC(a b:V)(v:Rat):(a :: b :: cQ v).all aJ=(aJ a && (aJ b && true)):=rfl
theorem agD(x:Value):aJ (.sc x)=true:=rfl
theorem adD:aJ .nil=true:=rfl
theorem agE(b o l:Nat):aJ (.rs b o l)=true:=rfl
theorem adE(a b:V)(v:Rat):(a :: b :: cQ v)[1]?=some b:=rfl
theorem adF(a b w:V)(v:Rat):(a :: b :: cQ v).set 1 w=a :: w :: cQ v:=rfl
theorem adG(a b:V)(v:Rat):(a :: b :: cQ v).take 5=a :: b :: cQ v:=rfl
attribute [go_sem] Wh Wi agB agC agD adD agE adE adF adG
end
end Go.Proofs.YtjknobpihkmilaaGreat
namespace Go.Proofs.YtjknobpihkmilaaGreat
open Go Go.TV Go.Lp
attribute [-go_sem] u_
section
variable {K:List (Int×Int)} {X:List Rat} {nm:Nat}
end
def badR:List V:=[Bo false,.ts [] 0,.ts [] 0]
def cR(a:Option Rat):List V:=match a with
 |none=>badR
 |some q=>cQ q
theorem ajt(a:Option Rat):(cR a).length=3:=by cases a<;>rfl
theorem adH(a:Option Rat):(cR a).all aJ=true:=by cases a<;>rfl
theorem agF(a:Option Rat):(cR a).take 3=cR a:=by cases a<;>rfl
theorem ZR(x y z:V)(a:Option Rat):patch [x,y,z] 0 (cR a)=cR a:=by cases a<;>rfl
attribute [go_sem] ajt adH agF ZR
end Go.Proofs.YtjknobpihkmilaaGreat
