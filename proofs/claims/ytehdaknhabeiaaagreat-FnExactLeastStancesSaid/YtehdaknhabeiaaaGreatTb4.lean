import Derived.Test.YtehdaknhabeiaaaGreatTb3
set_option linter.unusedSimpArgs false
set_option linter.unusedVariables false
set_option linter.unusedSectionVars false
set_option linter.defProp false
set_option maxRecDepth 10000
set_option maxHeartbeats 4000000
open Bool renaming and_eq_true->yh,not_false->xJ
open Classical renaming byContradiction->zf
open Int renaming lt_irrefl->zl,mul_le_mul_of_nonneg_right->zS,mul_le_mul_of_nonneg_left->zC,toNat_natCast->yw,natCast_mul->yj,tdiv_eq_ediv_of_nonneg->yJ,le_refl->yE,mul_add->xZ,tmod_eq_emod_of_nonneg->xG,le_of_lt->xE,natAbs_natCast->wz,natAbs_neg->wG
open List renaming getElem?_eq_getElem->zy,getD_eq_getElem?_getD->zx,getElem_mem->zu,length_append->zo,take_of_length_le->zk,length_take->zh,eq_nil_of_length_eq_zero->zZ,mem_cons_of_mem->zY,mem_cons->zX,getElem?_append_left->zV,flatMap_cons->zU,flatMap_append->zT,getElem?_append_right->zQ,length_map->zO,mem_cons_self->zN,append_nil->zM,not_mem_nil->zK,length_drop->zH,mem_append_left->zF,length_cons->zD,append_assoc->zB,mem_append_right->zA,length_replicate->z_,take_length->yg,getElem?_eq_none->yc,drop_zero->yZ,getElem?_map->yX,getElem_of_mem->yV,drop_eq_getElem_cons->yU,cons_append->yT,length_eraseIdx_of_lt->yS,ext_getElem->yR,take_add_one->yO,length_singleton->yL,nil_append->yK,length_set->yG,set_append_right->yD,drop_of_length_le->xw,getElem_append_left->xu,getElem_map->xq,nodup_cons->xg,getElem?_drop->xY,replicate_succ->xW,map_congr_left->xP,take_left'->xO,getElem?_take->xC,length_nil->wu,range_succ->wZ,map_append->wY,mem_of_mem_take->wV,mem_append->wS,flatMap_nil->wR,getElem_append_right->wQ,take_append_drop->wP,mem_singleton->wM,getElem_set->wJ,replicate_append_replicate->wH
open Nat renaming le_refl->zq,not_lt_zero->zW,le_trans->zL,mul_le_mul_right->zG,zero_add->yY,sub_self->yQ,mul_one->yN,mul_le_mul->yF,min_eq_left->yC,succ_mul->yA,lt_of_lt_of_le->xK,div_le_self->xH,div_one->x9,mod_eq_of_lt->wL
open Ne renaming symm->yu
open Option renaming bind_some->zi,map_some->zJ,getD_some->xM
open Option.some renaming injEq->wC
open Prod.mk renaming injEq->wB
namespace Go.Proofs.YtehdaknhabeiaaaGreat
open Go Go.TV
theorem rO {xs:List Int} {n:Nat}(h:Dg xs)(G:vl xs=n):(xs.flatMap cI).take (ln n)=(dg n).flatMap cI/\ln n<=xs.length:=by
 obtain⟨r,E⟩:=Dc xs;rw[jD h G]at E;have J:(dg n).length=ln n:=rfl;refine⟨?_,?_⟩
 .rw[pI]
  conv=>lhs;rw[E]
  rw[<- J,xO];rfl
 .rw[E,zo];omega
theorem af' {n:Nat}(J:2<=ln n):∃(b1 s:Nat) (h:ln n-1<(dg n).length),(dg n)[ln n-1]=(b1:Int)/\0<b1/\b1<1000000000/\s=1000000000 / (b1+1)/\1<=s/\s<1000000000/\ln (n*s)=ln n/\bp (ln n-1)*500000000<=(n*s:Nat):=by
 have hl:(dg n).length=ln n:=rfl;have h:ln n-1<(dg n).length:=by omega
 have hd:=(kE n).get h;obtain⟨b1,E⟩:∃b1:Nat,(dg n)[ln n-1]=(b1:Int):=⟨((dg n)[ln n-1]).toNat,by omega⟩;have a0:n≠0:=fun e=>by rw[e,Ec]at J;omega
 have G:(n:Int)=vl ((dg n).take (ln n-1))+bp (ln n-1)*b1:=by
  have:=bg h;rw[show ln n-1+1=(dg n).length by omega,yg,kF,E]at this;exact this
 have O:=BH ((kE n).take (ln n-1));rw[zh,yC (by omega)]at O;have Y:=gQ ((kE n).take (ln n-1));have hP:=nN (ln n-1);have S:0<b1:=by
  rcases Nat.eq_zero_or_pos b1 with e|e
  .subst e
   rw[show((0:Nat):Int)=0 from rfl,Int.mul_zero]at G;have:=(cu (n:=n) (k:=ln n-1)).mpr (by omega);omega
  .exact e
 rw[E]at hd;obtain⟨k1,k2,k3,k4⟩:=af6 (b1:=b1) (by omega) (by omega);have hs:((1000000000 / (b1+1):Nat):Int)=1000000000 / ((b1:Int)+1):=by simp
 rw[<- hs]at k1 k2 k3 k4;refine⟨b1,1000000000 / (b1+1),h,E,S,by omega,rfl,by omega,by omega,?_,?_⟩
 .refine Nat.le_antisymm (cu.mpr ?_) ?_
  .have e:bp (ln n)=bp (ln n-1)*1000000000:=by
    have:=fE (ln n-1);rw[show ln n-1+1=ln n by omega]at this;rw[this,Int.mul_comm]
   have h1:(n:Int)<bp (ln n-1)*(b1+1):=by rw[xZ];omega
   rw[yj,e];generalize ((1000000000 / (b1+1):Nat):Int)=s at *;have J:(n:Int)*s<bp (ln n-1)*(b1+1)*s:=Int.mul_lt_mul_of_pos_right h1 (by omega);have h3:bp (ln n-1)*((b1+1)*s)<=bp (ln n-1)*1000000000:=zC (by rw[Int.mul_comm];exact k2) (by omega);rw[<- Int.mul_assoc]at h3;omega
  .exact fQ (Nat.le_mul_of_pos_right _ (by omega))
 .rw[yj]
  generalize ((1000000000 / (b1+1):Nat):Int)=s at *;have h1:bp (ln n-1)*b1*s<=(n:Int)*s:=zS (by omega) (by omega);have J:bp (ln n-1)*500000000<=bp (ln n-1)*(b1*s):=zC k3 (by omega);rw[<- Int.mul_assoc]at J;omega
theorem arD {σ:Store} {nx b:Nat} {P:List Int} {N:Nat}(hb:σ b=some ⟨P.flatMap cI,1,true⟩)(S:b<nx)(hd:Dg P)(hv:vl P=N)(hN:N≠0)(hl:P.length<=1000000+1000000)(hp:P.length<=ln N+1) :
  ∃G σ' nx',bT σ nx 1 8 (.rs b 0 (ln N)) [I 0] 1=some (.rs G 0 (ln N+1),σ',nx')/\σ' G=some ⟨(dg N++[0]).flatMap cI,1,true⟩/\nx<=nx'/\(G=b\/G=nx)/\G<nx'/\∀c,c<nx->¬c=b->σ' c=σ c:=by
 obtain⟨r,O⟩:=Dc P;rw[jD hd hv]at O;have J:(dg N).length=ln N:=rfl;have hle:P.length=ln N+r.length:=by rw[O,zo,J]
 have cell:∀xs:List Int,(xs.flatMap cI).length=xs.length:=aS;unfold bT;simp only[hb];rw[if_neg (by decide)]
 by_cases h:r=[]
 .subst h
  have hP:P=dg N:=by rw[O];simp
  have a0:P.length=ln N:=by rw[hle];rfl
  rw[if_neg (by rw[cell];omega),if_pos (by
   refine⟨by rw[cell];omega,by simp,by unfold maxLen;omega,by omega,by simp[aT]⟩)]
  refine⟨nx,_,nx+1,rfl,?_,by omega,.inr rfl,by omega,fun c hc E=>?_⟩
  .rw[upd_same,hP,zT];rfl
  .rw[ay,upd_ne _ _ E]
 .have Y:r.length=1:=by
   have:=List.length_pos_iff.mpr h;omega
  rw[if_pos (by rw[cell];omega),if_pos ⟨by simp,by simp,by simp[aT]⟩];refine⟨b,_,nx,rfl,?_,zq _,.inl rfl,S,fun c _ E=>upd_ne _ _ E⟩;rw[upd_same];congr 2;show(P.flatMap cI).set (0+ln N*1) (I 0)=_;rw[yY,yN,jV];congr 1;obtain⟨x,hx⟩:∃x,r=[x]:=List.length_eq_one_iff.mp Y;subst hx
  conv=>lhs;rw[O]
  rw[<- J,yD _ _ (zq _),yQ];rfl
theorem window {U W:List Int} {j e:Nat} {V:Int}(E:Dg U)(hW:W.length=e+2)(G:Dg W)(S:vl W=V)(Y:j+(e+2)<U.length)(a0:vl (U.drop (j+1))<V) :
  vl (U.drop j)=vl ((U.drop j).take (e+2))+bp (e+2)*U[j+(e+2)]/\vl (U.drop j)<V*1000000000 /\
  (∃Ur,0<=Ur/\Ur<bp e/\vl (U.drop j)=((U[j+(e+2)]*1000000000+U[j+e+1])*1000000000+U[j+e])*bp e+Ur) /\
  (∃Vr,0<=Vr/\Vr<bp e/\V=(W[e+1]*1000000000+W[e])*bp e+Vr)/\U[j+(e+2)]<=W[e+1]/\vl (U.drop (j+(e+2)+1))=0:=by
 have a1:V<bp (e+2):=by rw[<- S,<- hW];exact BH G
 have d1:=aaB (xs:=U) (k:=j) (by omega);have u0:=E.get (k:=j) (by omega);have X2:vl (U.drop j)<V*1000000000:=by omega
 have hl:(U.drop j).length=U.length-j:=zH;have s1:=AV (U.drop j) (k:=e+2) (by omega);rw[List.drop_drop]at s1;have s2:=aaB (xs:=U) (k:=j+(e+2)) Y;have un:=E.get Y;have lo0:=gQ ((E.drop j).take (e+2));have hi0:=gQ (E.drop (j+(e+2)+1));have hi:vl (U.drop (j+(e+2)+1))=0:=by
  rcases Int.lt_trichotomy (vl (U.drop (j+(e+2)+1))) 0 with h|h|h
  .omega
  .exact h
  .exfalso
   have h1:bp (e+2)*1000000000<=bp (e+2)*vl (U.drop (j+(e+2))):=zC (by omega) (xE (nN _));have h2:V*1000000000<=bp (e+2)*1000000000:=zS (by omega) (by decide);omega
 rw[hi]at s2;have s3:vl (U.drop j)=vl ((U.drop j).take (e+2))+bp (e+2)*U[j+(e+2)]:=by rw[s1,s2];simp
 have g:∀ {xs:List Int} (h:e+1<xs.length),vl (xs.take (e+2))=vl (xs.take e)+bp e*xs[e]+bp e*1000000000*xs[e+1]:=fun {xs} h=>by
  rw[bg (k:=e+1) h,bg (k:=e) (by omega),fE];grind
 have J:=g (xs:=U.drop j) (by omega);simp only[List.getElem_drop]at J;have e1:U[j+(e+1)]=U[j+e+1]:=rfl;rw[e1]at J;have O:=g (xs:=W) (by omega);rw[zk (by omega),S]at O;have b2:bp (e+2)=bp e*1000000000*1000000000:=by rw[fE,fE];grind
 have rU:=BH ((E.drop j).take e);rw[zh,hl,yC (by omega)]at rU;have rV:=BH (G.take e);rw[zh,yC (by omega)]at rV;refine⟨s3,X2,⟨_,gQ ((E.drop j).take e),rU,?_⟩,⟨_,gQ (G.take e),rV,?_⟩,?_,hi⟩
 .rw[s3,J,b2];grind
 .rw[O];grind
 .have w1:=G.get (k:=e) (by omega)
  have w2:=G.get (k:=e+1) (by omega);refine Int.not_lt.mp fun h=>?_
  have h1:bp (e+2)*(W[e+1]+1)<=bp (e+2)*U[j+(e+2)]:=zC (by omega) (xE (nN _));have h2:bp e*W[e]<=bp e*999999999:=zC (by omega) (xE (nN _));have h3:V<bp e*1000000000*(W[e+1]+1):=by rw[O,xZ];omega
  have h4:V*1000000000<bp (e+2)*(W[e+1]+1):=by
   rw[b2];have:=Int.mul_lt_mul_of_pos_right h3 (show(0:Int)<1000000000 by decide);have e:bp e*1000000000*(W[e+1]+1)*1000000000=bp e*1000000000*1000000000*(W[e+1]+1):=by grind
   omega
  omega
theorem ajP {U a b:List Int} {j:Nat}(h:a.length=b.length)(G:j+a.length<=U.length):lay (lay U j a) j b=lay U j b:=by
 unfold lay;have E:(U.take j).length=j:=by rw[zh];omega
 rw[xO E];congr 2;rw[<- zB,List.drop_left' (by rw[zo,E,h]),h]
theorem VU {U a:List Int} {j:Nat}(E:j+a.length<=U.length):(lay U j a).drop j=a++U.drop (j+a.length):=by
 unfold lay;exact List.drop_left' (by rw[zh];omega)
theorem VW {U a:List Int} {j:Nat}(E:j+a.length<=U.length):(lay U j a).take j=U.take j:=by
 unfold lay;exact xO (by rw[zh];omega)
theorem amV {U a:List Int} {j:Nat}(h:Dg U)(E:Dg a):Dg (lay U j a):=(h.take _).app (E.app (h.drop _))
theorem aga {U:List Int} {j n:Nat} {L Q:List Int} {q V N:Int}(hj:j+(n+1)<=U.length)(O:L.length=n)(E:vl (U.drop (j+n+1))=0)(S:vl L=vl (U.drop j) - q*V)(Y:vl U+V*(bp (j+1)*vl Q)=N) :
  vl ((lay U j (L++[0])).drop j)=vl L/\vl (lay U j (L++[0]))+V*(bp j*vl (q :: Q))=N:=by
 have hl:(L++[0]).length=n+1:=by simp[O]
 have G:vl ((lay U j (L++[0])).drop j)=vl L:=by
  rw[VU (by omega),Y8,gG,hl,show j+(n+1)=j+n+1 by omega,E];simp
 refine⟨G,?_⟩;have J:=AV (lay U j (L++[0])) (k:=j) (by rw[jm (by omega)];omega);rw[VW (by omega),G]at J;have h3:=AV U (k:=j) (by omega);rw[J,S,<- Y,h3,fE];show _+bp j*_+V*(bp j*(q+1000000000*vl Q))=_;grind
theorem adi(f:V->Option (List Nat))(h:∀x,f (I x)=some [])(xs:List Int):dY f (xs.flatMap cI)=some []:=by
 induction xs with
 |nil=>rfl
 |cons x xs E=>
  show dY f (I x :: xs.flatMap cI)=_;rw[GK,h,E];rfl
theorem Bg {σ:Store} {b off len:Nat} {xs:List Int}(d:Nat)(h:σ b=some ⟨xs.flatMap cI,1,true⟩):gather σ (d+1) (.rs b off len)=some [b]:=by
 have e:gather σ (d+1) (.rs b off len)=match σ b with
   |some B=>match dY (gather σ d) B.cells with
    |some ids=>some (b :: ids)
    |none=>none
   |none=>none:=rfl
 rw[e,h];simp only;rw[adi _ (fun x=>O9 σ d _)]
theorem ajQ {σ:Store} {b E j:Nat} {xs:List Int}(h:σ b=some ⟨xs.flatMap cI,1,true⟩)(J:xs.length=E)(O:j<E) :
  ((σ b).bind fun B=>if j<=E/\B.st=1/\E<=B.cells.length then if j=0 then some (V.rs b 0 E)else if j=E then some (V.ts [] 0)else some (V.rs b j (E-j))else none)=some (.rs b j (E-j)):=by
 rw[h];simp only[zi,aS,J];rw[if_pos ⟨by omega,trivial,zq _⟩]
 by_cases G:j=0
 .subst G;rw[if_pos rfl];rfl
 .rw[if_neg G,if_neg (by omega)]
theorem ajR {b E j l:Nat}(J:l=E)(O:j<E) :
  (if j<=E/\E<=l then if j=0 then some (V.rs b 0 E)else if j=E then some (V.ts [] 0)else some (V.rs b j (E-j))else none)=some (.rs b j (E-j)):=by
 subst J;rw[if_pos ⟨by omega,zq _⟩]
 by_cases G:j=0
 .subst G;rw[if_pos rfl];rfl
 .rw[if_neg G,if_neg (by omega)]
theorem after_take {U lo:List Int} {j e:Nat} {X g tt G:Int}(a1:lo.length=e+2)(Oi:Dg lo)(E:vl lo+bp (e+2)*tt=X-g*G)(gh:X<(g+1)*G)(gl:(g-1)*G<=X)(dV:G<bp (e+2))(V0:0<G)(g0:0<=g)(X0:0<=X) :
  (tt=0/\vl lo=X-g*G/\vl lo<G)\/(tt= -1/\0<=g-1/\∀(J:List Int) (cc:Int),J.length=e+2->Dg J->vl J+bp (e+2)*cc=vl lo+G->cc=1/\vl J=X - (g-1)*G/\vl J<G):=by
 have O:=BH Oi;rw[a1]at O;have S:=gQ Oi;rcases af4 gh gl with ⟨z1,z2⟩|⟨z1,z2,z3⟩
 .have a0:tt=0:=VQ S O z1 (by omega) E.symm
  subst a0;rw[Int.mul_zero,Int.add_zero]at E;exact .inl ⟨rfl,E,by omega⟩
 .have e1:(g-1)*G=g*G-G:=by rw[Int.sub_mul,Int.one_mul]
  rw[e1]at z2 z3⊢;have a0:tt= -1:=ajL S O (by omega) z1 E.symm;subst a0;have g1:0<=g-1:=by
   refine Int.not_lt.mp fun h=>?_
   have:g=0:=by omega
   subst this;omega
  refine .inr ⟨rfl,g1,fun J cc h1 h2 h3=>?_⟩;have Y:=BH h2;rw[h1]at Y;have e2:bp (e+2)*(cc-1)=bp (e+2)*cc-bp (e+2):=by rw[Int.mul_sub,Int.mul_one]
  have e3:bp (e+2)* -1= -bp (e+2):=by rw[Int.mul_neg,Int.mul_one]
  rw[e3]at E;have a2:cc-1=0:=VQ (X:=X - (g*G-G)) (gQ h2) Y z2 (by omega) (by rw[e2];omega);have:cc=1:=by omega
  subst this;rw[Int.mul_one]at h3;exact⟨rfl,by omega,by omega⟩
theorem ajS {U lo:List Int} {j e lu:Nat}(dU:Dg U)(lU:U.length=lu)(a2:j+(e+2)<U.length)(G:lo.length=e+2)(Oi:Dg lo) :
  ∃E,lay U j (lo++[-1])=E/\E.length=lu/\(∃h:j+(e+2)<E.length,E[j+(e+2)]= -1)/\(∀k (h:k<E.length),k<j+(e+2)->0<=E[k]/\E[k]<1000000000)/\(E.drop j).take (e+2)=lo /\
   ∀Y:List Int,Y.length=e+2->lay E j (Y++[0])=lay U j (Y++[0]):=by
 have O:(lo++[-1]).length=e+3:=by simp[G]
 have J:(lay U j (lo++[-1])).drop j=lo++[-1]++U.drop (j+(e+3)):=by rw[VU (by omega),O]
 have a0:(lay U j (lo++[-1])).take j=U.take j:=by rw[VW (by omega)]
 have a1:(lay U j (lo++[-1])).length=lu:=by rw[jm (by omega)];exact lU
 refine⟨_,rfl,a1,⟨by omega,?_⟩,fun k hk a3=>?_,by rw[J,zB,xO G],fun Y h=>?_⟩
 .have:((lay U j (lo++[-1])).drop j)[e+2]?=some (-1):=by
   rw[J,zB,zQ (by omega),G,yQ];rfl
  rw[xY,zy (by omega)]at this;exact Option.some.inj this
 .by_cases S:k<j
  .have:((lay U j (lo++[-1])).take j)[k]?=some (lay U j (lo++[-1]))[k]:=by rw[List.getElem?_take_of_lt S,zy hk]
   rw[a0,List.getElem?_take_of_lt S,zy (by omega)]at this;rw[<- Option.some.inj this];exact dU.get (by omega)
  .have:((lay U j (lo++[-1])).drop j)[k-j]?=some (lay U j (lo++[-1]))[k]:=by
    rw[xY];have e2:j+(k-j)=k:=by omega
    rw[e2,zy hk]
   rw[J,zB,zV (by omega),zy (by omega)]at this;rw[<- Option.some.inj this];exact Oi.get (by omega)
 .exact ajP (by rw[O];simp[h]) (by omega)
theorem VX {U Q E:List Int} {j e S:Nat} {q X G N:Int}(dU:Dg U)(dQ:Dg Q)(lU:U.length=S)(a1:j+(e+2)<U.length)(lQ:Q.length+(j+1)=S - (e+2))(a0:vl (U.drop (j+(e+2)+1))=0)(eX:X=vl (U.drop j))(J:vl U+G*(bp (j+1)*vl Q)=N)
  (h1:E.length=e+2) (h2:Dg E) (h3:0<=q) (h4:q<1000000000) (h5:vl E=X-q*G) (h6:vl E<G) :
  ∃O Y,(lay U j (E++[0]))=O/\I q :: Q.flatMap cI=Y.flatMap cI/\Dg O/\Dg Y/\O.length=S/\Y.length+j=S - (e+2)/\vl (O.drop j)<G/\vl O+G*(bp j*vl Y)=N:=by
 rw[eX]at h5;obtain⟨y1,y2⟩:=aga (U:=U) (j:=j) (n:=e+2) (L:=E) (Q:=Q) (q:=q) (by omega) h1 a0 h5 J;have hl:(E++[0]).length=e+3:=by simp[h1]
 refine⟨_,q :: Q,rfl,rfl,amV dU (h2.snoc (by decide) (by decide)),fun x hx=>?_,by rw[jm (by omega)];exact lU,by simp;omega,by rw[y1];exact h6,y2⟩;rcases List.mem_cons.mp hx with rfl|hx
 .exact⟨h3,h4⟩
 .exact dQ x hx
theorem RH(n k:Nat):Dg (pad n k):=fun x E=>by
 unfold pad at E;obtain⟨i,_,rfl⟩:=List.mem_map.mp E;omega
theorem agb(n k:Nat)(h:n<1000000000^k):vl (pad n k)=n:=by
 have E:=GH k n h;rw[aaA (RH n k)]at E;have G:=congrArg vl E;rw[kF,kF,Int.toNat_of_nonneg (gQ (RH n k))]at G;exact G
theorem Pq {s:Nat}(E:1<=s)(h:s<1000000000):LI (dg s)= .ts [I s] 1:=by rw[oP (by omega) h];rfl
theorem arE(m n:Nat)(hm:ln m<=1000000)(h2:2<=ln n)(hle:n<=m):fn Tryz.prog oK G6 222 [LI (dg m),LI (dg n)]=some (.dS [LI (dg (m / n)),LI (dg (m%n))]):=by
 obtain⟨b1,s,hb,j9,p6,p7,hs,k0,f1,f2,f5⟩:=af' h2;have q5:(dg n).length=ln n:=rfl;have q6:(dg m).length=ln m:=rfl;have k4:ln n<=ln m:=fQ hle;have k5:m≠0:=fun e=>by rw[e,Ec]at k4;omega
 have q7:n≠0:=fun e=>by rw[e,Ec]at h2;omega
 have k1:=mY m n (by omega) (by omega);have hc:¬fJ m n<0:=by unfold fJ;rw[if_neg (by omega)];split<;>decide
 have c1:(((dg n).length:Int)==1)=false:=by rw[w_];omega
 have r4:ln s=1:=by
  have:=lS f1;have:=C9 (n:=s) (by omega);omega
 obtain⟨k6,P1,t1,f8,r5,k7,k8⟩:=af9 m s hm (by omega) k5 (by omega) 1;rw[Pq k0 f1]at t1;have r6:m*s≠0:=Nat.mul_ne_zero k5 (by omega);have r7:ln m<=ln (m*s):=fQ (Nat.le_mul_of_pos_right _ (by omega));have r8:ln (m*s)<=ln m+1:=by have:=qL m s;omega
 obtain⟨d9,ea⟩:∃d9,d9=upd (jZ 1 (upd aK 0 (some ⟨[I s],1,true⟩)) k6 [1]) 2 (some ⟨[I 0],1,true⟩):=⟨_,rfl⟩;have k9:d9 1=some ⟨P1.flatMap cI,1,true⟩:=by
  rw[ea,upd_ne _ _ (by decide),A8 (by decide) (by simp)];exact f8
 have l5:d9 0=some ⟨[I s],1,true⟩:=by
  rw[ea,upd_ne _ _ (by decide),uI (by decide)];exact upd_same _ _ _
 obtain⟨bu,f9,nb,ga,gb,gn,z6,r9,l6⟩:=arD (nx:=3) k9 (by decide) k7 k8 r6 (by omega) (by omega);have g3:f9 0=some ⟨[I s],1,true⟩:=by rw[l6 0 (by decide) (by decide)];exact l5
 obtain⟨σ2,P2,t2,g4,s1,l7,l8⟩:=af9 n s (by omega) (by omega) q7 (by omega) nb;rw[Pq k0 f1,f2]at t2;obtain⟨e,he⟩:∃e,ln n=e+2:=⟨ln n-2,by omega⟩;obtain⟨O,s2⟩:∃O,O=ln (m*s)+1:=⟨_,rfl⟩;obtain⟨d5,ec⟩:∃d5,d5=jZ nb f9 σ2 [nb]:=⟨_,rfl⟩;have l9:d5 nb=some ⟨P2.flatMap cI,1,true⟩:=by rw[ec,A8 (by omega) (by simp)];exact g4
 have m2:d5 0=some ⟨[I s],1,true⟩:=by rw[ec,uI (by omega)];exact g3
 have m3:d5 bu=some ⟨(dg (m*s)++[0]).flatMap cI,1,true⟩:=by rw[ec,uI r9];exact gb
 obtain⟨W,eW⟩:∃W,W=dg (n*s):=⟨_,rfl⟩;have f3:W.length=e+2:=by rw[eW];show ln (n*s)=_;rw[f2,he]
 have dW:Dg W:=by rw[eW];exact kE _
 have vW:vl W=(n*s:Nat):=by rw[eW];exact kF _
 have f4:∀k (h:k<W.length),(P2.flatMap cI)[k]?=some (I W[k]):=fun k h=>by
  obtain⟨p1,p2⟩:=rO l7 l8;have:((P2.flatMap cI).take (ln (n*s)))[k]?=some (I W[k]):=by rw[p1,<- eW];exact idx h
  rw[List.getElem?_take_of_lt (by rw[f2];omega)]at this;exact this
 have big:bp (e+1)*500000000<=(n*s:Nat):=by
  have h:=f5;rw[he]at h;exact h
 have hP:=nN e;obtain⟨Vn,eV⟩:∃Vn:Int,Vn=(n*s:Nat):=⟨_,rfl⟩;rw[<- eV]at big vW;have s3:0<Vn:=by have:=nN (e+1);omega
 have dV:=BH dW;rw[f3,vW]at dV;have s4:500000000<=W[e+1]:=by
  have g1:=bg (xs:=W) (k:=e+1) (by omega);rw[zk (by omega),vW]at g1;have g2:=BH (dW.take (e+1));rw[zh,yC (by omega)]at g2;refine Int.not_lt.mp fun h=>?_
  have:bp (e+1)*(W[e+1]+1)<=bp (e+1)*500000000:=zC (by omega) (xE (nN _));rw[xZ]at this;omega
 have s5:=dW.get (k:=e+1) (by omega);have e6:=dW.get (k:=e) (by omega);obtain⟨v1,m4⟩:∃v1,v1=W[e+1]:=⟨_,rfl⟩;obtain⟨v2,m5⟩:∃v2,v2=W[e]:=⟨_,rfl⟩;have d6:=f4 (e+1) (by omega);have e0:=f4 e (by omega);rw[<- m4]at s4 s5 d6;rw[<- m5]at e6 e0;have i0:(0:Int)<=((dg n).length:Int) - 1:=by omega
 have i1:=ah (n:=((ln n-1:Nat):Int));have i2:((dg n).length:Int) - 1=((ln n-1:Nat):Int):=by omega
 have i3:((ln n-1:Nat):Int)<((dg n).length:Int):=by omega
 have m6:(0:Int)<=((ln n-1:Nat):Int):=by omega
 have i4:=fB (dg n) (ln n-1) hb;have i5:=idx hb;rw[j9]at i5;have i6:=ah (n:=(b1:Int)+1);have i7:¬((b1:Int)+1)=0:=by omega
 have i8:(1000000000:Int).tdiv ((b1:Int)+1)=(s:Int):=by
  rw[yJ (by decide),hs];simp
 have i9:=ah (n:=(s:Int));have j1:¬(((O:Nat):Int)<=((dg m).length:Int)):=by omega
 have j2:((O:Nat):Int) - ((e+2:Nat):Int)=((O - (e+2):Nat):Int):=by omega
 have j3:=ah (n:=((O - (e+2):Nat):Int)) (by omega) (by omega);obtain⟨j4,j5,j6⟩:=AX (k:=O - (e+2)) (by omega);have j7:=ah (n:=((O - (e+2):Nat):Int) - 1) (by omega) (by omega);have m7:bT d9 3 1 8 (.rs 1 0 (ln (m*s))) [I 0] 1=some (.rs bu 0 O,f9,nb):=by rw[ga,s2]
 have gg:=Bg (σ:=k6) (b:=1) (off:=0) (len:=ln (m*s)) 6 f8;have m8:=Bg (σ:=σ2) (b:=nb) (off:=0) (len:=e+2) 6 g4;rw[he]at t2;have j8:(dg n).length=e+2:=by omega
 have Aa:((d9 2).bind fun B=>if 1<=B.cells.length then some (List.take 1 B.cells,1)else none)=some ([I 0],1):=by
  rw[ea,upd_same];rfl
 rw[aH,ak [.tmp 4,.tmp 5] [15,16,17,25] Tryz.func222];simp only[go_sem,k1,hc,c1,i0,i1,i2,i3,m6,i4,i5,i6,i7,i8,i9,t1,gg,<- ea,Aa,m7,g3,t2,m8,<- ec];generalize hL:aF _ _=y;obtain⟨r,rfl,T1,rfl,q0,q8,q9,g5⟩:=bJ hL (fun _ st=>st.T 0=LI (dg m)/\st.T 8= .rs 0 0 1/\st.T 9= .rs bu 0 O/\st.T 10= .rs nb 0 (e+2)/\st.σ=d5/\st.nx=nb+1)
  (fun r=>∃T,r=(.exit 0,⟨T,d5,nb+1⟩)/\T 0=LI (dg m)/\T 8= .rs 0 0 1/\T 9= .rs bu 0 O/\T 10= .rs nb 0 (e+2)) (by
   clear hL;rintro k ⟨T,σ,nx⟩ ⟨h0,h8,h9,m9,e7,d4⟩;simp only at h0 h8 h9 m9 e7 d4;subst e7 d4;refine .inr ⟨_,by simp only[go_sem,h0,h9,j1];rfl,by simp,_,rfl,?_⟩;simp only[go_sem,h0,h8,h9,m9]) 0 (by simp only[go_sem])
 simp only[go_sem,q0,q8,q9,g5,j2,j3,j4,j5,j6,j7];obtain⟨S,s6⟩:∃S,S=nb+1:=⟨_,rfl⟩;have z7:O<=1000002:=by omega
 generalize hL:aF _ _=y
 obtain⟨r,rfl,T1,e1,U,Q,rfl,p8,p9,E,Y,sU,s0,sq,dU,dQ,lU,lQ,c9,d3⟩:=bJ hL (fun mm st=>st.T 8= .rs 0 0 1/\st.T 9= .rs bu 0 O/\st.T 10= .rs nb 0 (e+2)/\st.T 11=I ((e+2:Nat):Int)/\st.T 12= .rs S 0 (O - (e+2))/\st.T 13=I ((mm:Int) - 1)/\st.nx=S+1/\mm<=O - (e+2) /\
   ∃U Q,st.σ bu=some ⟨U.flatMap cI,1,true⟩/\st.σ nb=some ⟨P2.flatMap cI,1,true⟩/\st.σ 0=some ⟨[I s],1,true⟩/\st.σ S=some ⟨rep mm [I 0]++Q.flatMap cI,1,true⟩/\Dg U/\Dg Q/\U.length=O/\Q.length+mm=O - (e+2)/\vl (U.drop mm)<Vn/\vl U+Vn*(bp mm*vl Q)=(m*s:Nat))
  (fun r=>∃T σ U Q,r=(.exit 2,⟨T,σ,S+1⟩)/\T 8= .rs 0 0 1/\T 9= .rs bu 0 O/\T 10= .rs nb 0 (e+2)/\T 12= .rs S 0 (O - (e+2))/\σ bu=some ⟨U.flatMap cI,1,true⟩/\σ 0=some ⟨[I s],1,true⟩/\σ S=some ⟨Q.flatMap cI,1,true⟩/\Dg U/\Dg Q/\U.length=O/\Q.length=O - (e+2)/\vl U<Vn/\vl U+Vn*vl Q=(m*s:Nat)) (by
   clear hL;clear i0 i1 i2 i3 m6 i4 i5 i6 i7 i8 i9 j1 j2 j3 j4 j5 j6 j7 j8 gg m8 Aa ga m7 l6 f8 r5 k7 k8 t1 t2 g4 s1 l7 l8 l5 k9 ea g3 m2 m3 l9 ec r7 r8 r4 c1 hc k1 f5 hs p7 p6 j9 q6 q5 k4 q0 q8 q9 g5 big eW;rintro mm ⟨T,σ,nx⟩ ⟨p8,p9,E,G,Y,J,d4,y9,U,Q,sU,sV,s0,sq,dU,dQ,lU,lQ,c9,d3⟩;simp only at p8 p9 E G Y J d4 sU sV s0 sq;subst d4;cases mm with
   |zero=>
    have f0:¬(0:Int)<=((0:Nat):Int) - 1:=by omega
    refine .inr ⟨_,by simp only[go_sem,J,f0];rfl,by simp,_,σ,U,Q,rfl,?_⟩;simp only[go_sem,p8,p9,E,Y];refine⟨sU,s0,?_,dU,dQ,lU,by omega,by rw[yZ]at c9;exact c9,by rw[<- d3,Q7,Int.one_mul]⟩;rw[sq];rfl
   |succ j=>
    have e5:((j+1:Nat):Int) - 1=(j:Int):=by omega
    rw[e5]at J;have d7:j+(e+2)<U.length:=by omega
    obtain⟨x1,x2,⟨Ur,n0,s7,xU⟩,⟨Vr,n1,n2,xV⟩,x5,x6⟩:=window (W:=W) (V:=Vn) dU f3 dW vW d7 c9;have r1:=dU.get d7;have r2:=dU.get (k:=j+e+1) (by omega);have r3:=dU.get (k:=j+e) (by omega);have n3:=idx d7;have n4:=idx (xs:=U) (k:=j+e+1) (by omega);have e2:=idx (xs:=U) (k:=j+e) (by omega);obtain⟨un,n5⟩:∃un,un=U[j+(e+2)]:=⟨_,rfl⟩;obtain⟨u1,s8⟩:∃u1,u1=U[j+e+1]:=⟨_,rfl⟩;obtain⟨u2,s9⟩:∃u2,u2=U[j+e]:=⟨_,rfl⟩;rw[<- n5]at x1 xU x5 r1 n3;rw[<- s8]at xU r2 n4;rw[<- s9]at xU r3 e2;rw[<- m4]at xV x5;rw[<- m5]at xV;obtain⟨top,n6⟩:∃top,top=un*1000000000+u1:=⟨_,rfl⟩;rw[<- n6]at xU;have tb:top<=v1*1000000000+999999999:=by
     have:=zS x5 (show(0:Int)<=1000000000 by decide);omega
    have t0:0<=top:=by omega
    obtain⟨X,eX⟩:∃X,X=vl (U.drop j):=⟨_,rfl⟩;rw[<- eX]at x1 x2 xU;have P0:0<=bp e:=xE (nN e);have d1:bu<S+1:=by omega
    have d2:nb<S+1:=by omega
    have a0:(j:Int)+((e+2:Nat):Int)=((j+(e+2):Nat):Int):=by omega
    have a1:=ah (n:=((j+(e+2):Nat):Int)) (by omega) (by omega);have a2:(0:Int)<=((j+(e+2):Nat):Int):=by omega
    have a3:((j+(e+2):Nat):Int)<(O:Int):=by omega
    have a4:((j+(e+2):Nat):Int) - 1=((j+e+1:Nat):Int):=by omega
    have a5:=ah (n:=((j+e+1:Nat):Int));have a6:(0:Int)<=((j+e+1:Nat):Int):=by omega
    have a7:((j+e+1:Nat):Int)<(O:Int):=by omega
    have a8:=ah (n:=un*1000000000);have a9:=ah (n:=top);have b0:=aI j;have e3:((e+2:Nat):Int) - 1=((e+1:Nat):Int):=by omega
    have b2:=ah (n:=((e+1:Nat):Int));have b3:(0:Int)<=((e+1:Nat):Int):=by omega
    have b4:((e+1:Nat):Int)<((e+2:Nat):Int):=by omega
    have b5:¬v1=0:=by omega
    have b6:top.tdiv v1=top / v1:=yJ t0;have b7:top.tmod v1=top%v1:=xG t0;have t4:0<=top / v1:=Int.ediv_nonneg t0 (by omega);have t5:top / v1<=1000000001:=by
     refine Int.le_of_lt_add_one (Int.ediv_lt_of_lt_mul (by omega) ?_);have:1000000002*v1=v1*1000000000+2*v1:=by omega
     show top<1000000002*v1;omega
    have b8:=ah (n:=top / v1);have m0:=Int.emod_nonneg top (show v1≠0 by omega);have m1:=Int.emod_lt_of_pos top (show 0<v1 by omega);have b9:=ah (n:=top%v1);have t6:top%v1=top-top / v1*v1:=by have:=Int.emod_def top v1;rw[Int.mul_comm]at this;exact this
    have hi0:X<(top / v1+1)*Vn:=by
     refine arv (v1:=v1) (top:=top) (P:=bp e*1000000000) (Vr:=v2*bp e+Vr) (Ur:=u2*bp e+Ur) t4 (by omega) ?_ ?_ ?_ ?_ ?_
     .rw[xV];grind
     .have:=Int.mul_nonneg e6.1 P0;omega
     .rw[xU];grind
     .have:u2*bp e<=999999999*bp e:=zS (by omega) P0
      omega
     .rw[Int.add_mul];omega
    have c0:((j+(e+2):Nat):Int) - 2=((j+e:Nat):Int):=by omega
    have e8:=ah (n:=((j+e:Nat):Int));have c2:(0:Int)<=((j+e:Nat):Int):=by omega
    have c3:((j+e:Nat):Int)<(O:Int):=by omega
    have c4:((e+2:Nat):Int) - 2=(e:Int):=by omega
    have c5:=ah (n:=(e:Int));have c6:=aI e;have c7:(e:Int)<((e+2:Nat):Int):=by omega
    refine fD ?_
    conv=>
     enter [1,r,1,1]
     simp only[go_sem,p8,p9,E,G,Y,J,sU,sV,d1,d2,n3,n4,d6,a0,a1,a2,a3,a4,a5,a6,a7,a8,a9,b0,e3,b2,b3,b4,b5,b6,b7,b8,b9,<- n6]
    generalize hL:aF _ _=z
    obtain⟨r,rfl,T1,g,rfl,p8,p9,E,G,Y,J,c8,g0,gB,gh,gl⟩:=bJ hL (fun k st=>st.T 8= .rs 0 0 1/\st.T 9= .rs bu 0 O/\st.T 10= .rs nb 0 (e+2)/\st.T 11=I ((e+2:Nat):Int)/\st.T 12= .rs S 0 (O - (e+2))/\st.T 13=I j/\st.σ=σ/\st.nx=S+1 /\
      ∃g rest,st.T 15=I g/\st.T 16=I rest/\g=(k:Int)/\g<=1000000001/\X<(g+1)*Vn/\rest=top-g*v1/\0<=rest/\rest<1000000000)
     (fun r=>∃T g,r=(.exit 4,⟨T,σ,S+1⟩)/\T 8= .rs 0 0 1/\T 9= .rs bu 0 O/\T 10= .rs nb 0 (e+2)/\T 11=I ((e+2:Nat):Int)/\T 12= .rs S 0 (O - (e+2))/\T 13=I j/\T 15=I g/\0<=g/\g<1000000000/\X<(g+1)*Vn/\(g-1)*Vn<=X) (by
      clear hL;rintro k ⟨T,σ',nx⟩ ⟨p8,p9,E,G,Y,J,e7,d4,g,rest,c8,e4,z8,t7,gh,hr,r0,rB⟩;simp only at p8 p9 E G Y J c8 e4 e7 d4;subst e7 d4;have gm:g*v2<=1000000001*999999999/\0<=g*v2:=by
       refine⟨Int.le_trans (zS t7 e6.1) (zC (by omega) (by decide)),Int.mul_nonneg (by omega) e6.1⟩
      have z1:=ah (n:=g*v2);have z2:=ah (n:=rest*1000000000);have z3:=ah (n:=rest*1000000000+u2);have z4:=ah (n:=g-1);have z5:=ah (n:=rest+v1);have go:(1000000000<=g\/rest*1000000000+u2<g*v2)->X<g*Vn/\1<=g:=by
       rintro (h|h)
       .exact⟨ajK (by omega) x2 h,by omega⟩
       .refine⟨amS (by omega) P0 xV n1 xU s7 hr h,?_⟩
        refine Int.not_lt.mp fun z9=>?_
        have:g=0:=by omega
        subst this;omega
      have fin:X<g*Vn->1<=g->rest+v1=top - (g-1)*v1/\X<(g-1+1)*Vn:=fun h _=>by
       refine⟨by rw[Int.sub_mul];omega,by rw[Int.sub_add_cancel];exact h⟩
      have cut:X<g*Vn->1<=g->1000000000<=rest+v1->g-1<1000000000/\(g-1-1)*Vn<=X:=fun h h1 t8=>by
       obtain⟨q1,q2⟩:=fin h h1;have q3:g-1<1000000000:=by
        refine Int.not_le.mp fun hn=>?_
        have:1000000000*v1<=(g-1)*v1:=zS hn (by omega);omega
       have q4:=amT (g:=g-1) (by omega) (xE q3) (by decide) P0 (by omega) xV (xE n2) xU n0 (by omega) q1 t8;refine⟨q3,?_⟩;rw[Int.sub_mul (g-1),Int.one_mul];omega
      by_cases hB:1000000000<=g
      .obtain⟨y1,y2⟩:=go (.inl hB)
       obtain⟨y3,y4⟩:=fin y1 y2
       by_cases hE:1000000000<=rest+v1
       .obtain⟨y5,y6⟩:=cut y1 y2 hE
        refine .inr ⟨_,by simp only[go_sem,p9,E,G,J,c8,e4,sU,sV,d1,d2,e2,d6,e0,a0,a1,a2,b0,e3,b2,b3,b4,c0,e8,c2,c3,c4,c5,c6,c7,z1,z2,z3,z4,z5,hB,hE];rfl,by simp,_,g-1,rfl,?_⟩;simp only[go_sem,p8,p9,E,G,Y,J];exact⟨by omega,y5,y4,y6⟩
       .refine .inl ⟨_,by simp only[go_sem,p9,E,G,J,c8,e4,sU,sV,d1,d2,e2,d6,e0,a0,a1,a2,b0,e3,b2,b3,b4,c0,e8,c2,c3,c4,c5,c6,c7,z1,z2,z3,z4,z5,hB,hE];rfl,k-1,by omega,?_⟩
        simp only[go_sem,p8,p9,E,G,Y,J];exact⟨_,_,rfl,rfl,by omega,by omega,y4,y3,by omega,by omega⟩
      .by_cases hC:rest*1000000000+u2<g*v2
       .obtain⟨y1,y2⟩:=go (.inr hC)
        obtain⟨y3,y4⟩:=fin y1 y2
        by_cases hE:1000000000<=rest+v1
        .obtain⟨y5,y6⟩:=cut y1 y2 hE
         refine .inr ⟨_,by simp only[go_sem,p9,E,G,J,c8,e4,sU,sV,d1,d2,e2,d6,e0,a0,a1,a2,b0,e3,b2,b3,b4,c0,e8,c2,c3,c4,c5,c6,c7,z1,z2,z3,z4,z5,hB,hC,hE];rfl,by simp,_,g-1,rfl,?_⟩;simp only[go_sem,p8,p9,E,G,Y,J];exact⟨by omega,y5,y4,y6⟩
        .refine .inl ⟨_,by simp only[go_sem,p9,E,G,J,c8,e4,sU,sV,d1,d2,e2,d6,e0,a0,a1,a2,b0,e3,b2,b3,b4,c0,e8,c2,c3,c4,c5,c6,c7,z1,z2,z3,z4,z5,hB,hC,hE];rfl,k-1,by omega,?_⟩
         simp only[go_sem,p8,p9,E,G,Y,J];exact⟨_,_,rfl,rfl,by omega,by omega,y4,y3,by omega,by omega⟩
       .refine .inr ⟨_,by simp only[go_sem,p9,E,G,J,c8,e4,sU,sV,d1,d2,e2,d6,e0,a0,a1,a2,b0,e3,b2,b3,b4,c0,e8,c2,c3,c4,c5,c6,c7,z1,z2,z3,z4,z5,hB,hC];rfl,by simp,_,g,rfl,?_⟩
        simp only[go_sem,p8,p9,E,G,Y,J,c8];refine⟨by omega,by omega,gh,?_⟩;exact arx (by omega) (by omega) (by decide) P0 (by omega) e6.1 xV n1 (xE n2) xU n0 hr (by omega)) (top / v1).toNat (by
      simp only[go_sem,p8,p9,E,G,Y,J];exact⟨_,_,rfl,rfl,by omega,t5,hi0,t6,m0,by omega⟩)
    have g6:bu≠nb:=by omega
    have f6:¬S=bu:=by omega
    obtain⟨lo,tt,k2,g7,Oi,f7,A0,A1⟩:=arA (nx:=S+1) (L:=O-j) (n:=e+2) (g:=g) (by omega) sU sV g6 f4 f3 d7 (by omega) dU dW ⟨g0,gB⟩;rw[<- n5,vW,<- x1]at f7;have X0:0<=X:=by rw[eX];exact gQ (dU.drop j)
    have n7:=ajQ sU lU (show j<O by omega);have n8:∀x,upd σ bu x S=some ⟨rep (j+1) [I 0]++Q.flatMap cI,1,true⟩:=fun x=>by rw[upd_ne _ _ f6];exact sq
    have n9:∀x,upd σ bu x nb=some ⟨P2.flatMap cI,1,true⟩:=fun x=>by rw[upd_ne _ _ (yu g6)];exact sV
    have o0:∀x y,upd (upd σ bu x) S y bu=x:=fun x y=>by rw[upd_ne _ _ (yu f6),upd_same]
    have o2:∀x y,upd (upd σ bu x) S y nb=some ⟨P2.flatMap cI,1,true⟩:=fun x y=>by rw[ay];exact n9 x
    have o3:∀x y,upd (upd σ bu x) S y 0=some ⟨[I s],1,true⟩:=fun x y=>by rw[ay,ay];exact s0
    have l1:(j:Int)<((O - (e+2):Nat):Int):=by omega
    have l2:j<(rep (j+1) [I 0]++Q.flatMap cI).length:=by rw[zo,jv];simp;omega
    have l3:=ah (n:=(j:Int) - 1);have w0:=ah (n:=g-1);have t9:g-1<1000000000:=by omega
    have jl:j<O - (e+2):=by omega
    have o4:j<=O - (e+2):=by omega
    have o5:j<j+1:=by omega
    have u0:e+2<O-j:=by omega
    rcases after_take (U:=U) (j:=j) g7 Oi f7 gh gl dV s3 g0 X0 with ⟨g8,z1,z2⟩|⟨g8,g1,z3⟩
    .subst g8
     have dc:decide ((0:Int)<0)=false:=by decide
     rw[dc]at k2;have l4:=J9 j (I 0) (I g) (Q.flatMap cI);obtain⟨U',Q',g9,h4,w1,w2,w3,w4,w5,w6⟩:=VX dU dQ lU d7 lQ x6 eX d3 g7 Oi g0 gB z1 z2;rw[g9]at k2;rw[h4]at l4;refine⟨_,by simp only[go_sem,n7,bM,p8,p9,E,G,Y,J,c8,k2,b0,l1,l2,l3,l4,n8];rfl,.inl ⟨_,rfl,j,o5,?_⟩⟩;simp only[go_sem,p8,p9,E,G,Y];exact⟨o4,U',Q',o0 _ _,o2 _ _,o3 _ _,rfl,w1,w2,w3,w4,w5,w6⟩
    .subst g8
     have dc:decide ((-1:Int)<0)=true:=by decide
     rw[dc]at k2;obtain⟨U1,u5,u6,⟨u7,u9⟩,v0,v3,ll⟩:=ajS dU lU d7 g7 Oi;rw[u5]at k2;obtain⟨o6,cc,k3,h5,o7,e9,_,_⟩:=arC (σ:=upd σ bu (some ⟨U1.flatMap cI,1,true⟩)) (nx:=S+1) (L:=O-j) (n:=e+2) (t:=-1) u0 (upd_same _ _ _) (n9 _) g6 f4 f3 u7 (by omega) v0 u9 (by decide) dW;rw[v3,vW]at e9;obtain⟨v4,z4,z5⟩:=z3 o6 cc h5 o7 e9;subst v4;have v5:(-1:Int)+1=0:=by decide
     rw[v5,ll o6 h5,jf]at k3;have v6:=ajR (b:=bu) u6 (show j<O by omega);have l4:=J9 j (I 0) (I (g-1)) (Q.flatMap cI);obtain⟨U',Q',g9,h4,w1,w2,w3,w4,w5,w6⟩:=VX dU dQ lU d7 lQ x6 eX d3 h5 o7 g1 t9 z4 z5;rw[g9]at k3;rw[h4]at l4;refine⟨_,by simp only[go_sem,n7,v6,bM,p8,p9,E,G,Y,J,c8,k2,k3,w0,b0,l1,l2,l3,l4,n8];rfl,.inl ⟨_,rfl,j,o5,?_⟩⟩;simp only[go_sem,p8,p9,E,G,Y];exact⟨o4,U',Q',o0 _ _,o2 _ _,o3 _ _,rfl,w1,w2,w3,w4,w5,w6⟩) (O - (e+2)) (by
    clear hL;simp only[go_sem,q8,q9,g5];rw[<- s6];have v7:¬bu=S:=by omega
    have v8:¬nb=S:=by omega
    refine⟨rfl,rfl,dg (m*s)++[0],[],?_,?_,?_,by rw[upd_same];simp,(kE _).snoc (by decide) (by decide),Dg.nil,by rw[zo];show ln (m*s)+1=O;omega,by simp,?_,?_⟩
    .rw[upd_ne _ _ v7];exact m3
    .rw[upd_ne _ _ v8];exact l9
    .exact m2
    .have A2:(dg (m*s)).length=ln (m*s):=rfl
     rw[List.drop_append_of_le_length (by omega),gG,Int.mul_zero,Int.add_zero];have:=BH ((kE (m*s)).drop (O - (e+2)));rw[zH,show(dg (m*s)).length - (O - (e+2))=e+1 by omega]at this;have h3:=nN (e+1);omega
    .rw[gG,kF];simp[vl])
 obtain⟨R,eR⟩:∃R:Nat,(R:Int)=vl U:=⟨(vl U).toNat,Int.toNat_of_nonneg (gQ dU)⟩;obtain⟨Qn,eQ⟩:∃Qn:Nat,(Qn:Int)=vl Q:=⟨(vl Q).toNat,Int.toNat_of_nonneg (gQ dQ)⟩;rw[<- eR,<- eQ,eV]at d3;rw[<- eR,eV]at c9;have o9:n*s*Qn+R=m*s:=by
  have h:((R+n*s*Qn:Nat):Int)=((m*s:Nat):Int):=by
   rw[Int.natCast_add,yj (n*s) Qn];exact d3
  have:=Int.ofNat_inj.mp h;omega
 have h6:R<n*s:=Int.ofNat_lt.mp c9;have h7:0<s:=by omega
 have hq:Qn=m / n:=by
  rw[<- Nat.mul_div_mul_right m n h7,<- o9,Nat.mul_add_div (Nat.mul_pos (by omega) h7),Nat.div_eq_of_lt h6];rfl
 have hr:R=m%n*s:=by
  rw[<- Nat.mul_mod_mul_right,<- o9,Nat.mul_add_mod_self_left,wL h6]
 have v9:R / s=m%n:=by rw[hr,Nat.mul_div_cancel _ h7]
 have lR:ln R<=1000002:=zL (rO dU eR.symm).2 (by omega);have A3:n*s<=m*s:=zG _ hle;have A4:ln R<=1000000:=by
  have h1:=fQ (Nat.le_of_lt h6);rw[f2]at h1;omega
 obtain⟨w7,t3,p0⟩:=af_ R s (by show ln R<=_;omega) (by omega) f1 (S+1);have w8:=Bg (off:=0) (len:=ln (R / s)) 5 p0;have p3:=aaS (σ:=restrict e1 [bu]) (nx:=S+1) (b:=bu) (xs:=U) (by rw[jU];exact sU) (by unfold Short;omega);rw[jD (n:=R) dU eR.symm,lU,show(dg R).length=ln R from rfl]at p3;have pr:aY [bu] (S+1) (S+1) e1 (restrict e1 [bu])=e1:=by
  funext i;unfold aY restrict
  by_cases h:i=bu
  .subst h;simp
  .rw[if_neg (by simp only[wM,h,false_or];omega)]
 obtain⟨w9,x0⟩:=rO dU eR.symm;have d1:bu<S+1:=by omega
 have d0:0<S+1:=by omega
 have st1:strip e1 (6+1) (.rs bu 0 (ln R))=some (LI (dg R),[bu]):=by
  rw[d_,sU];simp only[zi,yN,yY,yZ,aS];rw[if_pos x0,w9,kG];rfl
 obtain⟨d8,j0⟩:∃d8,d8=LQ (S+1) (S+1+1) e1 w7 [S+1]:=⟨_,rfl⟩;have p4:d8 S=some ⟨Q.flatMap cI,1,true⟩:=by rw[j0,aq5 (by omega)];exact sq
 have x3:d8 (S+1)=some ⟨(pad (R / s) (dg R).length).flatMap cI,1,true⟩:=by rw[j0,aq4 (by omega) (by omega) (by simp)];exact p0
 have p5:=aaS (σ:=d8) (nx:=S+1+1) (b:=S) (xs:=Q) p4 (by unfold Short;omega);rw[jD (n:=Qn) dQ eQ.symm,lQ,show(dg Qn).length=ln Qn from rfl]at p5;obtain⟨x4,x7⟩:=rO dQ eQ.symm;have x8:strip d8 (5+1) (.rs S 0 (ln Qn))=some (LI (dg Qn),[S]):=by
  rw[d_,p4];simp only[zi,yN,yY,yZ,aS];rw[if_pos x7,x4,kG];rfl
 have x9:strip d8 (5+1) (.rs (S+1) 0 (ln (R / s)))=some (LI (dg (R / s)),[S+1]):=by
  obtain⟨y0,y7⟩:=rO (xs:=pad (R / s) (dg R).length) (n:=R / s) (RH _ _) (agb _ _ (Nat.lt_of_le_of_lt (xH _ _) aft));rw[d_,x3];simp only[zi,yN,yY,yZ,aS];rw[if_pos y7,y0,kG];rfl
 have z0:(0:Int)<=0:=by decide
 have z1:(0:Int)<1:=by decide
 have z3:(0:Int).toNat=0:=id rfl;have y8:(bu==0)=false:=by rw[w_];omega
 rw[<- hq,<- v9];simp only[go_sem,bM,p8,p9,E,Y,sU,s0,p3,pr,d1,d0,st1,t3,w8,<- j0,p5,x8,x9,z0,z1,z3,y8]
theorem agc(m:Nat)(h:ln m<=1000000):fn Tryz.prog conv ext 81 [LI (dg m)]=some (LI (dg m)):=YW (dg m) (by show ln m<=_;omega)
theorem agd(m n:Nat)(hm:ln m<=1000000)(S:n≠0)(hn:ln n<=1000000):fn Tryz.prog oK G6 222 [LI (dg m),LI (dg n)]=some (.dS [LI (dg (m / n)),LI (dg (m%n))]):=by
 by_cases E:m<n
 .have G:=mY m n hm hn
  have k2:=agc m hm;have hc:fJ m n= -1:=by unfold fJ;rw[if_pos E]
  have m1:(-1:Int)<0:=by decide
  rw[hc]at G;rw[Nat.div_eq_of_lt E,wL E,bH];rw[aH,ak [.tmp 4,.tmp 5] [15,16,17,25] Tryz.func222]
  (simp only[go_sem,G,k2,m1])<;>rfl
 by_cases h2:2<=ln n
 .exact arE m n hm h2 (by omega)
 have hp:=C9 S;have J:n<1000000000:=by
  have:=(cu (n:=n) (k:=1)).mp (by omega);have e:bp 1=1000000000:=by decide
  rw[e]at this;omega
 have G:=mY m n hm hn;have hc:¬fJ m n<0:=by unfold fJ;rw[if_neg E];split<;>decide
 obtain⟨Y,t3,O⟩:=af_ m n hm S J 0;have a0:=Bg (off:=0) (len:=ln (m / n)) 5 O;have hr:m%n<n:=Nat.mod_lt _ (by omega);have k4:=amw (m%n) (by omega);have w1:=wrap_u64 (n:=((m%n:Nat):Int)) (by omega) (by omega);have z1:(0:Int)<1:=by decide
 have z2:(0:Int)<=0:=by decide
 have z3:(0:Int).toNat=0:=id rfl;obtain⟨a1,a2⟩:=rO (xs:=pad (m / n) (dg m).length) (n:=m / n) (RH _ _) (agb _ _ (Nat.lt_of_le_of_lt (xH _ _) aft));have st:strip (jZ 0 aK Y [0]) (5+1) (.rs 0 0 (ln (m / n)))=some (LI (dg (m / n)),[0]):=by
  rw[d_,A8 (by decide) (by simp),O];simp only[zi,yN,yY,yZ,aS];rw[if_pos a2,a1,kG];rfl
 rw[oP S J]at G⊢;have a3:fn Tryz.prog conv ext 221 [LI (dg m),.ts [I n] 1]=some (I (fJ m n)):=G
 rw[aH,ak [.tmp 4,.tmp 5] [15,16,17,25] Tryz.func222];simp only[go_sem,a3,hc,z1,z2,z3,t3,a0,w1,k4,st]
abbrev am1:List Nat:=[3,4,5,6,7,8,9,11,13,16,19,22,23,27,28,29,30,31,32,33,34,38,39,42,43,48,54,73,82,97,110,111,119,121,133,136,139,140,142,151,161,163,167,175,177,181,186,187,188,189,190,192,195,196,216,219,220,229,230,238,245,248]
def aU:FuncId->Conv:=fun f=>if f∈([]:List Nat)then .own else if f∈([186,187,216,219,139,140,142,175,177,151,181]:List Nat)then .inl else .Ii
noncomputable def bU:Ext:=fun f=>if f=222 then some (fun args σ nx=>ev Tryz.prog oK G6 222 args σ nx)else if f∈am1 then none else some fun args σ nx=>ev Tryz.prog conv ext f args σ nx
theorem am2:Jm Tryz.prog bU:=fun f g h args σ nx v σ' nx' E=>by
 unfold bU at h
 split at h
 .rename_i G
  subst G;cases h;exact sF (by kernel_rfl) amU 222 args σ nx v σ' nx' E
 .split at h
  .cases h
  .cases h
   exact sF (by kernel_rfl) afe f args σ nx v σ' nx' E
theorem fnL {f:FuncId}(h:(f==222||List.contains am1 f)=false)(ts:List V):fn Tryz.prog aU bU f ts=fn Tryz.prog conv ext f ts:=by
 rw[Bool.or_eq_false_iff]at h;have E:¬f=222:=fun e=>by subst e;simp at h
 have G:¬f∈am1:=fun e=>by rw[List.contains_iff_mem.mpr e]at h;cases h.2
 rw[aH,aH,iG (g:=fun args σ nx=>ev Tryz.prog conv ext f args σ nx) (by unfold bU;rw[if_neg E,if_neg G])]
theorem Dp(ts:List V):fn Tryz.prog aU bU 222 ts=fn Tryz.prog oK G6 222 ts:=by
 rw[aH,aH,iG (g:=fun args σ nx=>ev Tryz.prog oK G6 222 args σ nx) (by unfold bU;rw[if_pos rfl])]
abbrev aJ(n:Nat):Prop:=∀ts:List V,fn Tryz.prog aU bU n ts=fn Tryz.prog conv ext n ts
theorem am3:aJ 10/\aJ 12/\aJ 14/\aJ 15/\aJ 17/\aJ 18/\aJ 20/\aJ 21/\aJ 24/\aJ 25/\aJ 26/\aJ 35/\aJ 36/\aJ 37/\aJ 40/\aJ 41/\aJ 44/\aJ 45/\aJ 46/\aJ 47/\aJ 49/\aJ 50/\aJ 51/\aJ 52:=by and_intros<;>exact fnL rfl
theorem am4:aJ 53/\aJ 55/\aJ 56/\aJ 57/\aJ 58/\aJ 59/\aJ 60/\aJ 61/\aJ 62/\aJ 63/\aJ 64/\aJ 65/\aJ 66/\aJ 67/\aJ 68/\aJ 69/\aJ 70/\aJ 71/\aJ 72/\aJ 74/\aJ 75/\aJ 76/\aJ 77/\aJ 78:=by and_intros<;>exact fnL rfl
theorem am5:aJ 79/\aJ 80/\aJ 81/\aJ 83/\aJ 84/\aJ 85/\aJ 86/\aJ 87/\aJ 88/\aJ 89/\aJ 90/\aJ 91/\aJ 92/\aJ 93/\aJ 94/\aJ 95/\aJ 96/\aJ 98/\aJ 99/\aJ 100/\aJ 101/\aJ 102/\aJ 103/\aJ 104:=by and_intros<;>exact fnL rfl
theorem am6:aJ 105/\aJ 106/\aJ 107/\aJ 108/\aJ 109/\aJ 112/\aJ 113/\aJ 114/\aJ 115/\aJ 116/\aJ 117/\aJ 118/\aJ 120/\aJ 122/\aJ 123/\aJ 124/\aJ 125/\aJ 126/\aJ 127/\aJ 128/\aJ 129/\aJ 130/\aJ 131/\aJ 132:=by and_intros<;>exact fnL rfl
theorem am7:aJ 134/\aJ 135/\aJ 138/\aJ 141/\aJ 143/\aJ 144/\aJ 145/\aJ 146/\aJ 147/\aJ 148/\aJ 149/\aJ 150/\aJ 152/\aJ 153/\aJ 154/\aJ 155/\aJ 156/\aJ 157/\aJ 158/\aJ 159/\aJ 160/\aJ 162/\aJ 164/\aJ 165:=by and_intros<;>exact fnL rfl
theorem am8:aJ 166/\aJ 168/\aJ 169/\aJ 170/\aJ 171/\aJ 172/\aJ 173/\aJ 174/\aJ 176/\aJ 178/\aJ 179/\aJ 180/\aJ 182/\aJ 183/\aJ 184/\aJ 185/\aJ 191/\aJ 193/\aJ 194/\aJ 197/\aJ 198/\aJ 199/\aJ 200/\aJ 201:=by and_intros<;>exact fnL rfl
theorem am9:aJ 202/\aJ 203/\aJ 204/\aJ 205/\aJ 206/\aJ 207/\aJ 208/\aJ 209/\aJ 210/\aJ 211/\aJ 212/\aJ 213/\aJ 214/\aJ 215/\aJ 217/\aJ 218/\aJ 221/\aJ 223/\aJ 224/\aJ 225/\aJ 226/\aJ 227/\aJ 228/\aJ 231:=by and_intros<;>exact fnL rfl
theorem am_:aJ 232/\aJ 233/\aJ 234/\aJ 235/\aJ 236/\aJ 237/\aJ 239/\aJ 240/\aJ 241/\aJ 242/\aJ 243/\aJ 244/\aJ 246/\aJ 247/\aJ 249/\aJ 250/\aJ 251:=by and_intros<;>exact fnL rfl
abbrev au(n:Nat):Prop:=aU n= .Ii
abbrev nV(n:Nat):Prop:=aU n= .inl
theorem am':au 3/\au 4/\au 5/\au 7/\au 10/\au 11/\au 12/\au 13/\au 14/\au 15/\au 16/\au 17/\au 18/\au 19/\au 20/\au 21/\au 22/\au 23/\au 24/\au 25/\au 26/\au 29/\au 30/\au 31:=by and_intros<;>exact rfl
theorem ana:au 32/\au 35/\au 36/\au 37/\au 38/\au 39/\au 40/\au 41/\au 42/\au 43/\au 44/\au 45/\au 46/\au 47/\au 48/\au 49/\au 50/\au 51/\au 52/\au 53/\au 54/\au 55/\au 56/\au 57:=by and_intros<;>exact rfl
theorem anb:au 58/\au 59/\au 60/\au 61/\au 62/\au 63/\au 64/\au 65/\au 66/\au 67/\au 68/\au 69/\au 70/\au 71/\au 72/\au 73/\au 74/\au 75/\au 76/\au 77/\au 78/\au 79/\au 80/\au 81:=by and_intros<;>exact rfl
theorem anc:au 82/\au 83/\au 84/\au 85/\au 86/\au 87/\au 88/\au 89/\au 90/\au 91/\au 92/\au 93/\au 94/\au 95/\au 96/\au 97/\au 98/\au 99/\au 100/\au 101/\au 102/\au 103/\au 104/\au 105:=by and_intros<;>exact rfl
theorem ane:au 106/\au 107/\au 108/\au 109/\au 110/\au 111/\au 112/\au 113/\au 114/\au 115/\au 116/\au 117/\au 118/\au 119/\au 120/\au 121/\au 122/\au 123/\au 124/\au 125/\au 126/\au 127/\au 128/\au 129:=by and_intros<;>exact rfl
theorem anf:au 130/\au 131/\au 132/\au 133/\au 134/\au 135/\au 136/\au 138/\nV 139/\nV 140/\au 141/\nV 142/\au 143/\au 144/\au 145/\au 146/\au 147/\au 148/\au 149/\au 150/\nV 151/\au 152/\au 153/\au 154:=by and_intros<;>exact rfl
theorem ang:au 155/\au 156/\au 157/\au 158/\au 159/\au 160/\au 161/\au 162/\au 163/\au 164/\au 165/\au 166/\au 167/\au 168/\au 169/\au 170/\au 171/\au 172/\au 173/\au 174/\nV 175/\au 176/\nV 177/\au 178:=by and_intros<;>exact rfl
theorem anh:au 179/\au 180/\nV 181/\au 182/\au 183/\au 184/\au 185/\nV 186/\nV 187/\au 188/\au 189/\au 190/\au 191/\au 192/\au 193/\au 194/\au 195/\au 196/\au 197/\au 198/\au 199/\au 200/\au 201/\au 202:=by and_intros<;>exact rfl
theorem ani:au 203/\au 204/\au 205/\au 206/\au 207/\au 208/\au 209/\au 210/\au 211/\au 212/\au 213/\au 214/\au 215/\nV 216/\au 217/\au 218/\nV 219/\au 220/\au 221/\au 222/\au 223/\au 224/\au 225/\au 226:=by and_intros<;>exact rfl
theorem anj:au 227/\au 228/\au 229/\au 230/\au 231/\au 232/\au 233/\au 234/\au 235/\au 236/\au 237/\au 238/\au 239/\au 240/\au 241/\au 242/\au 243/\au 244/\au 245/\au 246/\au 247/\au 248/\au 249/\au 250:=by and_intros<;>exact rfl
theorem ank:au 251:=id rfl
attribute [go_sem] Dp am3 am4 am5 am6 am7 am8 am9 am_
attribute [go_sem] am' ana anb anc ane anf ang anh ani anj ank
theorem agf(m n:Nat):ln (m / n)<=ln m:=fQ (xH _ _)
theorem aaU(m n:Nat)(hm:ln m<=1000000)(E:n≠0)(hn:ln n<=1000000):fn Tryz.prog aU bU 222 [LI (dg m),LI (dg n)]=some (.dS [LI (dg (m / n)),LI (dg (m%n))]):=by
 rw[Dp,agd m n hm E hn]
theorem VY(m n:Nat)(hm:ln m<=1000000)(hn:ln n<=1000000):fn Tryz.prog aU bU 220 [LI (dg m),LI (dg n)]=some (LI (dg (Nat.gcd m n))):=by
 have ho:=aaU;rw[aH,ak [.tmp 4] [] Tryz.func220];simp only[go_sem];generalize hL:aF _ _=y;obtain⟨r,rfl,T',rfl,E⟩:=bJ hL (fun b st=>st.nx=0/\st.σ=aK/\ln b<=1000000/\∃a:Nat,ln a<=1000000/\st.T 0=LI (dg a)/\st.T 1=LI (dg b)/\Nat.gcd a b=Nat.gcd m n)
  (fun r=>∃T,r=(.exit 0,⟨T,aK,0⟩)/\T 0=LI (dg (Nat.gcd m n))) (by
   clear hL;rintro b ⟨T,σ,nx⟩ ⟨G,J,hb,a,ha,E,S,Y⟩;simp only at G J E S;subst G J
   by_cases hz:b=0
   .subst hz
    rw[bH]at S;have a0:T 1= .ts [] 0:=S;have f0:¬(0:Int)<0:=by decide
    rw[Nat.gcd_zero_right]at Y;exact .inr ⟨_,by simp only[go_sem,a0,f0];rfl,by simp,_,rfl,by simp only[go_sem,E,Y]⟩
   .have f0:(0:Int)<((dg b).length:Int):=by have:=List.length_pos_iff.mpr (iH hz);omega
    have k1:=ho a b ha hz hb;rw[Dp]at k1;have O:a%b<b:=Nat.mod_lt _ (by omega);refine .inl ⟨_,by simp only[go_sem,E,S,f0,k1];rfl,a%b,O,?_⟩;simp only[go_sem];refine⟨zL (fQ (Nat.le_of_lt O)) hb,b,hb,rfl,?_⟩;rw[<- Y,Nat.gcd_comm a b,Nat.gcd_rec b a,Nat.gcd_comm]) n ⟨rfl,rfl,hn,m,hm,by simp only[go_sem],by simp only[go_sem],rfl⟩
 simp only[go_sem,E]
theorem agh(x y:Int):dP (decide (x<0) !=decide (y<0)) (x.natAbs / y.natAbs)=x.tdiv y:=by
 obtain⟨a,ha|ha⟩:=Int.eq_nat_or_neg x<;>obtain⟨b,hb|hb⟩:=Int.eq_nat_or_neg y<;>subst ha hb
 .have E:decide ((a:Int)<0)=false:=by simp
  have G:decide ((b:Int)<0)=false:=by simp
  rw[E,G,wz,wz];unfold dP;simp[Int.ofNat_tdiv]
 .by_cases h:b=0
  .subst h;simp[dP]
  .have E:decide ((a:Int)<0)=false:=by simp
   have G:decide (-(b:Int)<0)=true:=by simp;omega
   rw[E,G,wz,wG,wz,Int.tdiv_neg];unfold dP;simp[Int.ofNat_tdiv]
 .by_cases h:a=0
  .subst h;simp[dP]
  .have E:decide (-(a:Int)<0)=true:=by simp;omega
   have G:decide ((b:Int)<0)=false:=by simp
   rw[E,G,wz,wG,wz,Int.neg_tdiv];unfold dP;simp[Int.ofNat_tdiv]
 .by_cases h:a=0
  .subst h;simp[dP]
  .by_cases hb:b=0
   .subst hb;simp[dP]
   .have E:decide (-(a:Int)<0)=true:=by simp;omega
    have G:decide (-(b:Int)<0)=true:=by simp;omega
    rw[E,G,wG,wG,wz,wz,Int.neg_tdiv,Int.tdiv_neg,Int.neg_neg];unfold dP;simp[Int.ofNat_tdiv]
theorem MH(x y:Int)(J:ln x.natAbs<=1000000)(O:ln y.natAbs<=1000000)(S:y≠0):fn Tryz.prog aU bU 238 [.agg (cZ x),.agg (cZ y)]=some (.agg (cZ (x.tdiv y))):=by
 have E:=aaU x.natAbs y.natAbs J (by omega) O;rw[Dp]at E;have G:=sQ (decide (x<0) !=decide (y<0)) (x.natAbs / y.natAbs);rw[agh]at G;have e:∀a b:Bool,(!a==b)=(a !=b):=by decide
 unfold cZ at *;rw[aH,ak [.cell 4 145] [] Tryz.func238];simp only[go_sem,E,G,e]
theorem ajU(n:Nat)(hn:ln n<=1000000):fn Tryz.prog conv ext 221 [LI (dg n),.ts [I 1] 1]=some (I (fJ n 1)):=by
 have:=mY n 1 hn (by show ln 1<=_;rw[show ln 1=1 by unfold ln;rw[oP (d:=1) (by decide) (by decide)];rfl];decide);rw[oP (d:=1) (by decide) (by decide)]at this;exact this
theorem ajV(neg:Bool)(m n:Nat)(hm:ln m<=1000000)(h0:n≠0)(hn:ln n<=1000000) :
  fn Tryz.prog aU bU 188 [.agg [Bo (neg && decide (0<(dg m).length)),LI (dg m)],LI (dg n)]=some (.tp (acW neg m n) 0):=by
 have J:Nat.gcd m n≠0:=fun e=>h0 (Nat.eq_zero_of_gcd_eq_zero_right e)
 have S:Nat.gcd m n<=n:=Nat.gcd_le_right _ (by omega);have E:ln (Nat.gcd m n)<=1000000:=zL (fQ S) hn;have Y:=VY m n hm hn;have k2:=ajU (Nat.gcd m n) E;have k3:=aaU m (Nat.gcd m n) hm J E;have k4:=aaU n (Nat.gcd m n) hn J E;rw[Dp]at k3 k4;have k5:=fun b=>aay b (dg (m / Nat.gcd m n))
 have hc:=ai9 (n:=Nat.gcd m n);unfold acW;rw[aH,ak [.tmp 4] [] Tryz.func188]
 by_cases O:m=0
 .subst O
  rw[Nat.gcd_zero_left,Nat.zero_div,Nat.div_self (by omega),bH,oP (d:=1) (by decide) (by decide)]
  (simp only[go_sem])<;>rfl
 .have lz:(((dg m).length:Int)==0)=false:=by rw[w_];have:=jh (iH O);omega
  have lp:0<(dg m).length:=List.length_pos_iff.mpr (iH O);have a0:m / Nat.gcd m n≠0:=by
   have:=Nat.div_pos (Nat.gcd_le_left n (Nat.pos_of_ne_zero O)) (by omega);omega
  have lq:0<(dg (m / Nat.gcd m n)).length:=List.length_pos_iff.mpr (iH a0)
  by_cases G:Nat.gcd m n=1
  .rw[vw G]at hc
   simp only[G,x9]at Y k2 hc⊢
   (simp only[go_sem,lz,lp,Y,k2,hc])<;>rfl
  .rw[vk G]at hc
   (simp only[go_sem,lz,lp,lq,Y,k2,hc,k3,k4,k5])<;>rfl
theorem MI(z:Int)(d:Nat)(G:ln z.natAbs<=1000000)(E:d≠0)(J:ln d<=1000000):fn Tryz.prog aU bU 188 [.agg (cZ z),LI (dg d)]=some (.tp (cQ (mkRat z d)) 0):=by
 have k:=ajV (decide (z<0)) z.natAbs d G E J;rw[<- Za,uH,<- afx z E]at k;exact k
def Ln(k:Nat)(q:Rat):Prop:=ln q.num.natAbs<=k/\ln q.den<=k
theorem Ln.mono {k l:Nat} {q:Rat}(h:Ln k q)(E:k<=l):Ln l q:=⟨zL h.1 E,zL h.2 E⟩
theorem ET {x y:Rat} {k l:Nat}(h:Ln k x)(E:Ln l y):ln (x.num*y.den).natAbs<=k+l:=by
 rw[Int.natAbs_mul,wz];have:=qL x.num.natAbs y.den;have:=h.1;have:=E.2;omega
theorem MJ {x y:Rat} {k l:Nat}(h:Ln k x)(E:Ln l y):ln (x.den*y.den)<=k+l:=by
 have:=qL x.den y.den;have:=h.2;have:=E.2;omega
theorem G7(x y:Int):ln (x+y).natAbs<=max (ln x.natAbs) (ln y.natAbs)+1 :=
 zL (fQ (Int.natAbs_add_le x y)) (amC _ _)
theorem aaV(x y:Int):ln (x-y).natAbs<=max (ln x.natAbs) (ln y.natAbs)+1:=by
 have:=G7 x (-y);rw[wG,<- Int.sub_eq_add_neg]at this;exact this
theorem agi(x y:Rat)(E:Ln 1000 x)(G:Ln 1000 y):fn Tryz.prog aU bU 189 [.tp (cQ x) 0,.tp (cQ y) 0]=some (.tp (cQ (x+y)) 0):=by
 have n1:=ET E G;have n2:=ET G E;have n3:=G7 (x.num*y.den) (y.num*x.den);have O:=GI x y.den (by have:=E.1;omega) (by have:=G.2;omega);have S:=GI y x.den (by have:=G.1;omega) (by have:=E.2;omega);have Y:=afw (x.num*y.den) (y.num*x.den) (by omega) (by omega);have k4:=J_ x.den y.den (by have:=E.2;omega) (by have:=G.2;omega);have J:=MI (x.num*y.den+y.num*x.den) (x.den*y.den) (by omega) (dd0 x y) (by have:=MJ E G;omega);rw[<- Rat.add_def']at J;unfold cQ at *;unfold cZ at *;rw[aH,ak [.tmp 4] [] Tryz.func189];simp only[go_sem,O,S,Y,k4,J]
theorem aaW(x y:Rat):x*y=mkRat (dP (decide (x.num<0) !=decide (y.num<0)) (x.num.natAbs*y.num.natAbs)) (x.den*y.den):=by
 have e:dP (decide (x.num<0) !=decide (y.num<0)) (x.num.natAbs*y.num.natAbs)=x.num*y.num:=by
  have J:=uH x.num;have O:=uH y.num
  conv=>rhs;rw[<- J,<- O]
  unfold dP
  by_cases E:x.num<0<;>by_cases G:y.num<0
  .rw[vw E,vw G,if_neg (by decide),if_pos rfl,if_pos rfl,Int.neg_mul_neg,yj]
  .rw[vw E,vk G,if_pos (by decide),if_pos rfl,if_neg (by decide),Int.neg_mul,yj]
  .rw[vk E,vw G,if_pos (by decide),if_neg (by decide),if_pos rfl,Int.mul_neg,yj]
  .rw[vk E,vk G,if_neg (by decide),if_neg (by decide),if_neg (by decide),yj]
 rw[e,Rat.mul_def']
theorem aaX(x y:Rat)(E:Ln 1000 x)(G:Ln 1000 y):fn Tryz.prog aU bU 190 [.tp (cQ x) 0,.tp (cQ y) 0]=some (.tp (cQ (x*y)) 0):=by
 have Y:ln (x.num*y.num).natAbs<=2000:=by
  rw[Int.natAbs_mul];have:=qL x.num.natAbs y.num.natAbs;have:=E.1;have:=G.1;omega
 have O:=AZ x.num y.num (by have:=E.1;omega) (by have:=G.1;omega);have S:=J_ x.den y.den (by have:=E.2;omega) (by have:=G.2;omega);have J:=MI (x.num*y.num) (x.den*y.den) (by omega) (dd0 x y) (by have:=MJ E G;omega);rw[<- Rat.mul_def']at J;unfold cQ at *;unfold cZ at *;rw[aH,ak [.tmp 4] [] Tryz.func190];simp only[go_sem,O,S,J]
def Ac(q:Rat):Option Rat:=if ln q.num.natAbs<=24/\ln q.den<=24 then some q else none
theorem adk {q:Rat}(h:Ln 24 q):Ac q=some q:=if_pos h
theorem arK(q:Rat)(h:Ln 100000 q):fn Tryz.prog conv ext 228 [.tp (cQ q) 0]=some (pQ (Ac q)):=by
 have hb:((dg q.num.natAbs).length:Int)<=100000:=Int.ofNat_le.mpr h.1;have O:((dg q.den).length:Int)<=100000:=Int.ofNat_le.mpr h.2;unfold Ac;rw[aH,ak [.tmp 2] [] Tryz.func228]
 by_cases E:ln q.num.natAbs<=24
 .have c1:¬(24:Int)<((dg q.num.natAbs).length:Int):=by unfold ln at E;omega
  by_cases G:ln q.den<=24
  .have J:¬(24:Int)<((dg q.den).length:Int):=by unfold ln at G;omega
   rw[if_pos ⟨E,G⟩];unfold cQ pQ
   (simp only[go_sem,c1,J])<;>rfl
  .have J:(24:Int)<((dg q.den).length:Int):=by unfold ln at G;omega
   rw[if_neg fun h=>G h.2];unfold cQ pQ
   (simp only[go_sem,c1,J])<;>rfl
 .have c1:(24:Int)<((dg q.num.natAbs).length:Int):=by unfold ln at E;omega
  rw[if_neg fun h=>E h.1];unfold cQ pQ
  (simp only[go_sem,c1])<;>rfl
open Go.Lp
abbrev FV(b:Bool):List V:=[Bo b]
def Zt(x:List Int):List V:=[LL cZ x]
def iT(B:List Nat):List Int:=B.map fun(n:Nat)=>(n:Int)
def VZ(D:TZ)(N:Nat):List V:=[LL Zt D.R,Bo (decide (D.fM<0)),LI (dg D.fM.natAbs),LI (iT D.B),I N,LL FV D.fr]
def agj(D:TZ)(N:Nat):V:=.tp (VZ D N) 0
structure V6 (D:TZ) (N:Nat):Prop where
 row:∀x∈D.R,x.length=N+1
 fV:D.B.length=D.R.length
 BO:D.R.length<=1000
 V7:D.fr.length=N
 sz:N<=1000
 big:∀i j,i<D.R.length->j<=N->ln (en D.R i j).natAbs<=50
 fM:ln D.fM.natAbs<=50
 inB:∀i,i<D.R.length->D.B.getD i 0<N
theorem fZ(B:List Nat):(iT B).length=B.length:=by simp[iT]
theorem kN {B:List Nat} {i:Nat}(h:i<B.length):(iT B)[i]'(by rw[fZ];exact h)=((B.getD i 0:Nat):Int):=by
 simp only[iT,xq];rw[zx,zy h];rfl
theorem MK(o:Nat->Int)(k:Nat)(x:List Int)(b:Nat):∀(R:List (List Int)) (B:List Nat),R.length=B.length->oJ o k (R++[x]) (B++[b])=oJ o k R B-x.getD k 0*o b
 |[],[],_=>by show(0:Int) - _=0 - _;rfl
 |[],_ :: _,h=>by simp at h
 |_ :: _,[],h=>by simp at h
 |y :: R,c :: B,h=>by
  show oJ o k (R++[x]) (B++[b]) - _=oJ o k R B - _ - _;rw[MK o k x b R B (by simpa using h)];omega
theorem Zu(o:Nat->Int)(k:Nat) {R:List (List Int)} {B:List Nat} {i:Nat}(h:i<R.length)(E:B.length=R.length) :
  oJ o k (R.take (i+1)) (B.take (i+1))=oJ o k (R.take i) (B.take i) - en R i k*o (B.getD i 0):=by
 rw[yO,yO,zy h,zy (by omega)];simp only[Option.toList];rw[MK _ _ _ _ _ _ (by rw[zh,zh,E])];congr 1;have G:R[i].getD k 0=en R i k:=by unfold en;rw[kJ h]
 have J:B[i]'(by omega)=B.getD i 0:=by rw[zx,zy (by omega)];rfl
 rw[G,J]
theorem Bh(x y:Int):ln (x*y).natAbs<=ln x.natAbs+ln y.natAbs:=by rw[Int.natAbs_mul];exact qL _ _
theorem ML(z:Int):(dB z 0==0)=decide (z=0):=by
 unfold dB
 by_cases h:z<0
 .rw[if_pos h,vk (by omega)];rfl
 .rw[if_neg h]
  by_cases E:z=0
  .rw[if_pos E,vw E];rfl
  .rw[if_neg E,vk E];rfl
theorem RI(z:Int):(dB z 0 !=0)= !decide (z=0):=by rw[<- ML];rfl
theorem Em(z:Int):dB z 0<=0↔¬0<z:=by
 unfold dB
 by_cases h:z<0
 .rw[if_pos h];constructor
  .intro _;omega
  .intro _;decide
 .rw[if_neg h]
  by_cases E:z=0
  .rw[if_pos E];constructor
   .intro _;omega
   .intro _;decide
  .rw[if_neg E];constructor
   .intro h;exact absurd h (by decide)
   .intro _;omega
theorem cmp_neg(z:Int):dB z 0<0↔z<0:=by
 unfold dB
 by_cases h:z<0
 .rw[if_pos h];constructor
  .intro _;exact h
  .intro _;decide
 .rw[if_neg h]
  by_cases E:z=0
  .rw[if_pos E];constructor
   .intro h;exact absurd h (by decide)
   .intro _;omega
  .rw[if_neg E];constructor
   .intro h;exact absurd h (by decide)
   .intro _;omega
theorem vH(z:Int):(cZ z).length=2:=rfl
theorem RJ(z:Int):(cZ z).take 2=cZ z:=rfl
theorem V8(z:Int):(cZ z).all aT=true:=rfl
theorem V9(a b:Int):patch (cZ a) 0 (cZ b)=cZ b:=rfl
theorem V_(σ:Store)(d:Nat)(z:Int):stripL (strip σ d) (cZ z)=some (cZ z,[]):=by
 unfold cZ;rw[aO,cO,aO,qh,bQ];rfl
theorem nX(σ:Store)(d:Nat)(q:Rat):stripL (strip σ d) (cQ q)=some (cQ q,[]):=by
 unfold cQ;rw[aO,cO,aO,qh,aO,qh,bQ];rfl
attribute [go_sem] V_ nX
theorem MN {R:List (List Int)} {i:Nat}(h:i<R.length):(R.flatMap Zt)[i]?=some (LL cZ (nS R i)):=by
 have:=mX (fun x=>LL cZ x) R i h;rw[kJ h];exact this
theorem Ad {R:List (List Int)} {i j n:Nat}(hn:∀x∈R,x.length=n)(h:i<R.length)(E:j<n):(((nS R i).flatMap cZ).drop (j*2)).take 2=cZ (en R i j):=by
 have G:(nS R i).length=n:=by rw[kJ h];exact hn _ (zu h)
 rw[slot vH (nS R i) j (by omega)];unfold en;rw[zx,zy (by omega)];rfl
theorem alo(D:TZ)(N:Nat)(h:V6 D N)(o:List Int)(ho:o.length=N)(a7:∀x∈o,-1000000<=x/\x<=1000000)(k:Nat)(hk:k<N) :
  fn Tryz.prog conv ext 217 [agj D N,LI o,I k]=some (I (dB (gV D (fun j=>o.getD j 0) k) 0)):=by
 have hN:=h.sz;have a6:∀j (hj:j<o.length),o[j]=o.getD j 0:=fun j hj=>by rw[zx,zy hj];rfl
 have ob:∀j,j<N->-1000000<=o.getD j 0/\o.getD j 0<=1000000:=fun j hj=>by rw[<- a6 j (by omega)];exact a7 _ (zu (by omega))
 have a0:∀j,j<N->ln (o.getD j 0).natAbs<=1:=fun j hj=>lS (by have:=ob j hj;omega)
 have a1:=aI k;have a2:(k:Int)<(o.length:Int):=by omega
 have a3:=fB o k (by omega);have a4:=idx (xs:=o) (k:=k) (by omega);rw[a6 k (by omega)]at a4;have b2:=ob k hk;have k1:=oS (o.getD k 0) (by omega) (by omega);have k2:=AZ D.fM (o.getD k 0) (by have:=h.fM;omega) (by have:=a0 k hk;omega);have tl:(iT D.B).length=D.R.length:=by rw[fZ];exact h.fV
 unfold agj VZ;rw[aH,ak [.tmp 6] [1,6] Tryz.func217];unfold cZ at k1 k2;simp only[go_sem,a1,a2,a3,a4,k1,k2];generalize hL:aF _ _=y
 obtain⟨r,rfl,T',σ',nx',b,rfl,Y,E⟩:=aB hL D.R.length (fun i st=>st.T 0= .tp (VZ D N) 0/\st.T 1=LI o/\st.T 2=I k/\st.T 23=LI (iT D.B)/\st.T 24=I D.R.length/\st.T 25=I i/\st.T 7= .rp 0 0/\0<st.nx /\
   ∃g,st.σ 0=some ⟨cZ g,0,true⟩/\g=D.fM*o.getD k 0+oJ (fun j=>o.getD j 0) k (D.R.take i) (D.B.take i)/\ln g.natAbs<=60+i)
  (fun r=>∃T σ nx b,r=(.exit 0,⟨T,σ,nx⟩)/\T 7= .rp b 0/\σ b=some ⟨cZ (gV D (fun j=>o.getD j 0) k),0,true⟩) (by
   clear hL;rintro i ⟨T,σ,nx⟩ hi ⟨h0,h1,h2,J,G,O,Y,S,g,E,hg,a8⟩;simp only at h0 h1 h2 J G O Y S E;have hb:=h.inB i hi;have f1:(i:Int)<(D.R.length:Int):=by omega
   have f2:=aI i;have f3:=ah (n:=(i:Int)+1) (by have:=h.BO;omega) (by have:=h.BO;omega);have f5:=fB (iT D.B) i (by omega);have f6:=idx (xs:=iT D.B) (k:=i) (by omega);rw[kN (by have:=h.fV;omega)]at f6;obtain⟨b,eb⟩:∃b,b=D.B.getD i 0:=⟨_,rfl⟩;rw[<- eb]at f6 hb;have f7:=aI b;have f8:(b:Int)<(o.length:Int):=by omega
   have f9:=idx (xs:=o) (k:=b) (by omega);rw[a6 b (by omega)]at f9;have b3:=ob b hb;have r1:=MN hi;have r2:=slot_ne (c:=Zt) (s:=1) (fun _=>rfl) (by omega) D.R i hi;have r3:(nS D.R i).length=N+1:=by rw[kJ hi];exact h.row _ (zu hi)
   have r4:(k:Int)<((N+1:Nat):Int):=by omega
   have r5:=Ad h.row hi (show k<N+1 by omega);have r6:=slot_ne (c:=cZ) (s:=2) vH (by omega) (nS D.R i) k (by omega);have r7:=aN (c:=cZ) (s:=2) vH (nS D.R i);rw[r3]at r7;have r8:k*2+2<=(N+1)*2:=by omega
   have s1:=C_ (en D.R i k);have a5:=Zu (fun j=>o.getD j 0) k hi h.fV;rw[<- eb]at a5
   by_cases z1:o.getD b 0=0
   .have c1:(o.getD b 0 !=(0:Int))=false:=by rw[z1];rfl
    refine .inl ⟨_,by simp only[go_sem,h0,h1,h2,J,G,O,Y,E,f1,f2,f3,f5,f6,f7,f8,f9,a3,c1,tl];rfl,?_⟩;simp only[go_sem,h0,h1,h2,J,G,Y,tl];refine⟨rfl,S,g,E,?_,by omega⟩;rw[hg,a5,z1];simp
   .have c1:(o.getD b 0 !=(0:Int))=true:=bne_iff_ne.mpr z1
    have c2:=RI (en D.R i k);have a9:=h.big i k hi (by omega);unfold VZ at h0
    by_cases z2:en D.R i k=0
    .rw[vw z2,Bool.not_true]at c2
     refine .inl ⟨_,by simp only[go_sem,h0,h1,h2,J,G,O,Y,E,f1,f2,f3,f5,f6,f7,f8,f9,a1,a3,c1,c2,tl,r1,r2,r3,r4,r5,r6,r7,r8,s1];rfl,?_⟩;simp only[go_sem,h0,h1,h2,J,G,Y,tl];refine⟨rfl,rfl,S,g,E,?_,by omega⟩;rw[hg,a5,z2];simp
    .rw[vk z2,xJ]at c2
     have k3:=oS (o.getD b 0) (by omega) (by omega);have k4:=AZ (en D.R i k) (o.getD b 0) (by omega) (by have:=a0 b hb;omega);have hm:=Bh (en D.R i k) (o.getD b 0);have hs:=aaV g (en D.R i k*o.getD b 0);have b4:=h.BO;have b5:=a0 b hb;have k5:=aaC g (en D.R i k*o.getD b 0) (by omega) (by omega);have e1:=V8 (g-en D.R i k*o.getD b 0);refine .inl ⟨_,by simp only[go_sem,h0,h1,h2,J,G,O,Y,E,f1,f2,f3,f5,f6,f7,f8,f9,a1,a3,c1,c2,tl,r1,r2,r3,r4,r5,r6,r7,r8,s1,k3,k4,k5,S,vH,e1,RJ,V9];rfl,?_⟩;simp only[go_sem,h0,h1,h2,J,G,Y,tl];refine⟨rfl,rfl,S,_,rfl,?_,by omega⟩;rw[hg,a5];omega) (by
   clear hL;rintro ⟨T,σ,nx⟩ ⟨h0,h1,h2,J,G,O,Y,S,g,E,hg,a8⟩;simp only at h0 h1 h2 J G O Y S E;rw[zk (zq _),zk (Nat.le_of_eq h.fV)]at hg;refine⟨_,by simp only[go_sem,G,O,zl];rfl,by simp,_,_,_,0,rfl,?_,?_⟩
   .simp only[go_sem,Y]
   .rw[E,hg];rfl) (by
   simp only[go_sem,tl];refine⟨rfl,_,rfl,by simp[oJ],?_⟩;have:=Bh D.fM (o.getD k 0);have:=a0 k hk;have:=h.fM;omega)
 have k9:=C_ (gV D (fun j=>o.getD j 0) k);simp only[go_sem,Y,E,vH,RJ,zq,k9]
theorem Wh {S E O G Y J:Int}(hr:0<G)(hi:0<E)(hj:0<J)(h1:S*G<O*E)(h2:O*J<=Y*G):S*J<Y*E:=by
 have e1:S*G*J<O*E*J:=Int.mul_lt_mul_of_pos_right h1 hj;have e2:O*J*E<=Y*G*E:=zS h2 (xE hi);refine Int.lt_of_mul_lt_mul_right (a:=G) ?_ (xE hr);have e3:S*J*G=S*G*J:=by grind
 have e4:Y*E*G=Y*G*E:=by grind
 have e5:O*E*J=O*J*E:=by grind
 omega
theorem Wi {Y E O J S G:Int}(hr:0<J)(hi:0<E)(hj:0<G)(h1:Y*J=O*E)(h2:O*G<=S*J):Y*G<=S*E/\(Y*G=S*E->O*G=S*J):=by
 have e3:Y*G*J=Y*J*G:=by grind
 have e4:S*E*J=S*J*E:=by grind
 have e5:O*E*G=O*G*E:=by grind
 have e6:Y*J*G=O*E*G:=by rw[h1]
 refine⟨?_,fun h=>?_⟩
 .refine Int.le_of_mul_le_mul_right (a:=J) ?_ hr
  have e2:O*G*E<=S*J*E:=zS h2 (xE hi);omega
 .have:O*G*E=S*J*E:=by rw[<- e4,<- h,e3,e6,e5]
  exact Int.eq_of_mul_eq_mul_right (by omega) this
def ng(D:TZ)(N k i:Nat)(r:Int):Prop :=
 (r= -1/\∀j,j<i->¬0<en D.R j k)\/∃r':Nat,r=r'/\r'<i/\0<en D.R r' k/\(∀j,j<i->0<en D.R j k->en D.R r' N*en D.R j k<=en D.R j N*en D.R r' k) /\
  ∀j,j<i->0<en D.R j k->en D.R r' N*en D.R j k=en D.R j N*en D.R r' k->D.B.getD r' 0<=D.B.getD j 0
theorem ng.skip {D:TZ} {N k i:Nat} {r:Int}(h:ng D N k i r)(hn:¬0<en D.R i k):ng D N k (i+1) r:=by
 rcases h with ⟨rfl,h⟩|⟨r',rfl,S,G,J,O⟩
 .exact .inl ⟨rfl,fun j E=>by
   by_cases e:j=i
   .subst e;exact hn
   .exact h j (by omega)⟩
 .exact .inr ⟨r',rfl,by omega,G,fun j E hp=>J j (by
   by_cases e:j=i
   .subst e;exact absurd hp hn
   .omega) hp,fun j E hp=>O j (by
   by_cases e:j=i
   .subst e;exact absurd hp hn
   .omega) hp⟩
theorem ng.first {D:TZ} {N k i:Nat}(h:ng D N k i (-1))(hp:0<en D.R i k):ng D N k (i+1) i:=by
 rcases h with ⟨_,h⟩|⟨r',e,_⟩
 .exact .inr ⟨i,rfl,by omega,hp,fun j G E=>by
   by_cases e:j=i
   .subst e;exact yE _
   .exact absurd E (h j (by omega)),fun j G E _=>by
   by_cases e:j=i
   .subst e;exact zq _
   .exact absurd E (h j (by omega))⟩
 .omega
theorem ng.less {D:TZ} {N k i r:Nat}(h:ng D N k i r)(hp:0<en D.R i k)(hc:en D.R i N*en D.R r k<en D.R r N*en D.R i k):ng D N k (i+1) i:=by
 rcases h with ⟨e,_⟩|⟨r',e,S,G,J,Y⟩
 .omega
 .have:r=r':=by omega
  subst this;refine .inr ⟨i,rfl,by omega,hp,fun j O E=>?_,fun j O E he=>?_⟩
  .by_cases e:j=i
   .subst e;exact yE _
   .exact xE (Wh G hp E hc (J j (by omega) E))
  .by_cases e:j=i
   .subst e;exact zq _
   .have:=Wh G hp E hc (J j (by omega) E)
    omega
theorem ng.same {D:TZ} {N k i r:Nat}(h:ng D N k i r)(hp:0<en D.R i k)(hc:en D.R i N*en D.R r k=en D.R r N*en D.R i k)(hB:D.B.getD i 0<D.B.getD r 0):ng D N k (i+1) i:=by
 rcases h with ⟨e,_⟩|⟨r',e,h1,G,J,O⟩
 .omega
 .have:r=r':=by omega
  subst this;refine .inr ⟨i,rfl,by omega,hp,fun j S E=>?_,fun j S E Y=>?_⟩
  .by_cases e:j=i
   .subst e;exact yE _
   .exact(Wi G hp E hc (J j (by omega) E)).1
  .by_cases e:j=i
   .subst e;exact zq _
   .have:=O j (by omega) E ((Wi G hp E hc (J j (by omega) E)).2 Y)
    omega
theorem ng.keep {D:TZ} {N k i r:Nat}(h:ng D N k i r)(hc:en D.R r N*en D.R i k<=en D.R i N*en D.R r k)(J:en D.R r N*en D.R i k=en D.R i N*en D.R r k->D.B.getD r 0<=D.B.getD i 0):ng D N k (i+1) r:=by
 rcases h with ⟨e,_⟩|⟨r',e,h1,O,S,Y⟩
 .omega
 .have:r=r':=by omega
  subst this;refine .inr ⟨r,rfl,by omega,O,fun j hj E=>?_,fun j hj E G=>?_⟩
  .by_cases e:j=i
   .subst e;exact hc
   .exact S j (by omega) E
  .by_cases e:j=i
   .subst e;exact J G
   .exact Y j (by omega) E G
theorem Zv(x y:Int):(x<y/\dB x y= -1)\/(x=y/\dB x y=0)\/(y<x/\dB x y=1):=by
 unfold dB
 by_cases h:x<y
 .exact .inl ⟨h,if_pos h⟩
 .rw[if_neg h]
  by_cases E:x=y
  .exact .inr (.inl ⟨E,if_pos E⟩)
  .exact .inr (.inr ⟨by omega,if_neg E⟩)
theorem agk(D:TZ)(N:Nat)(h:V6 D N)(k:Nat)(hk:k<N) :
  ∃r,fn Tryz.prog conv ext 218 [agj D N,I k]=some (I r)/\ng D N k D.R.length r:=by
 have hN:=h.sz;have hR:=h.BO;have a1:=aI k;have tl:(iT D.B).length=D.R.length:=by rw[fZ];exact h.fV
 have a2:∀i,i<D.R.length->(nS D.R i).length=N+1:=fun i hi=>by rw[kJ hi];exact h.row _ (zu hi)
 have r4:(k:Int)<((N+1:Nat):Int):=by omega
 have r8:k*2+2<=(N+1)*2:=by omega
 have n4:(N:Int)<((N+1:Nat):Int):=by omega
 have n8:N*2+2<=(N+1)*2:=by omega
 have n0:=aI N;have m1:(-1:Int)<0:=by decide
 have m2:¬(1:Int)<0:=by decide
 have m3:¬(0:Int)<0:=by decide
 have m4:((0:Int)==0)=true:=by decide
 have m5:((1:Int)==0)=false:=by decide
 unfold agj VZ;rw[aH,ak [.tmp 4] [8,9] Tryz.func218];simp only[go_sem];generalize hL:aF _ _=y;obtain⟨x,rfl,T',σ',nx',r,rfl,O,hb⟩:=aB hL D.R.length (fun i st=>st.T 0= .tp (VZ D N) 0/\st.T 1=I k/\st.T 12=LL Zt D.R/\st.T 13=I D.R.length/\st.T 14=I i/\∃r,st.T 5=I r/\ng D N k i r)
  (fun x=>∃T σ nx r,x=(.exit 0,⟨T,σ,nx⟩)/\T 5=I r/\ng D N k D.R.length r) (by
   clear hL;rintro i ⟨T,σ,nx⟩ hi ⟨J,S,G,E,vM,r,O,hb⟩;simp only at J S G E vM O;have f1:(i:Int)<(D.R.length:Int):=by omega
   have f2:=aI i;have f3:=ah (n:=(i:Int)+1);have r1:=MN hi;have r2:=slot_ne (c:=Zt) (s:=1) (fun _=>rfl) (by omega) D.R i hi;have r3:=a2 i hi;have r5:=Ad h.row hi (show k<N+1 by omega);have r6:=slot_ne (c:=cZ) (s:=2) vH (by omega) (nS D.R i) k (by omega);have r7:=aN (c:=cZ) (s:=2) vH (nS D.R i);rw[r3]at r7;have s1:=C_ (en D.R i k)
   by_cases hp:0<en D.R i k
   .have c1:¬dB (en D.R i k) 0<=0:=fun e=>(Em _).mp e hp
    rcases hb with ⟨rfl,hb⟩|⟨r',rfl,a4,a5,a6,a7⟩
    .refine .inl ⟨_,by simp only[go_sem,J,S,G,E,vM,O,f1,f2,f3,r1,r2,r3,r4,r5,r6,r7,r8,s1,a1,c1,m1];rfl,?_⟩
     simp only[go_sem,J,S,G,E];exact⟨rfl,i,rfl,ng.first (.inl ⟨rfl,hb⟩) hp⟩
    .have a0:ng D N k i r':=.inr ⟨r',rfl,a4,a5,a6,a7⟩
     have Y:r'<D.R.length:=by omega
     have q0:¬(r':Int)<0:=by omega
     have q1:(r':Int)<(D.R.length:Int):=by omega
     have q2:(0:Int)<=(r':Int):=by omega
     have q3:=MN Y;have q4:=a2 r' Y;have q5:=Ad h.row Y (show k<N+1 by omega);have q6:=slot_ne (c:=cZ) (s:=2) vH (by omega) (nS D.R r') k (by omega);have q7:=aN (c:=cZ) (s:=2) vH (nS D.R r');rw[q4]at q7;have q8:=Ad h.row hi (show N<N+1 by omega);have q9:=Ad h.row Y (show N<N+1 by omega);have b1:=h.big i N hi (zq _);have b2:=h.big r' k Y (by omega);have b3:=h.big r' N Y (zq _);have b4:=h.big i k hi (by omega);have k1:=AZ (en D.R i N) (en D.R r' k) (by omega) (by omega);have k2:=AZ (en D.R r' N) (en D.R i k) (by omega) (by omega);have l1:=Bh (en D.R i N) (en D.R r' k);have l2:=Bh (en D.R r' N) (en D.R i k);have k3:=O6 (en D.R i N*en D.R r' k) (en D.R r' N*en D.R i k) (by omega) (by omega);have t1:=fB (iT D.B) i (by omega);have t2:=idx (xs:=iT D.B) (k:=i) (by omega);rw[kN (by have:=h.fV;omega)]at t2;have t3:=idx (xs:=iT D.B) (k:=r') (by omega);rw[kN (by have:=h.fV;omega)]at t3;unfold VZ at J;rcases Zv (en D.R i N*en D.R r' k) (en D.R r' N*en D.R i k)with ⟨hc,e⟩|⟨hc,e⟩|⟨hc,e⟩
     .rw[e]at k3
      refine .inl ⟨_,by simp only[go_sem,J,S,G,E,vM,O,f1,f2,f3,r1,r2,r3,r4,r5,r6,r7,r8,s1,a1,c1,q0,q1,q2,q3,q4,q5,q6,q7,q8,q9,n0,n4,n8,k1,k2,k3,m1];rfl,?_⟩;simp only[go_sem,J,S,G,E];exact⟨rfl,rfl,i,rfl,a0.less hp hc⟩
     .rw[e]at k3
      by_cases hB:D.B.getD i 0<D.B.getD r' 0
      .have a3:((D.B.getD i 0:Nat):Int)<((D.B.getD r' 0:Nat):Int):=by omega
       refine .inl ⟨_,by simp only[go_sem,J,S,G,E,vM,O,f1,f2,f3,r1,r2,r3,r4,r5,r6,r7,r8,s1,a1,c1,q0,q1,q2,q3,q4,q5,q6,q7,q8,q9,n0,n4,n8,k1,k2,k3,m3,m4,t1,t2,t3,tl,a3];rfl,?_⟩;simp only[go_sem,J,S,G,E];exact⟨rfl,rfl,i,rfl,a0.same hp hc hB⟩
      .have a3:¬((D.B.getD i 0:Nat):Int)<((D.B.getD r' 0:Nat):Int):=by omega
       refine .inl ⟨_,by simp only[go_sem,J,S,G,E,vM,O,f1,f2,f3,r1,r2,r3,r4,r5,r6,r7,r8,s1,a1,c1,q0,q1,q2,q3,q4,q5,q6,q7,q8,q9,n0,n4,n8,k1,k2,k3,m3,m4,t1,t2,t3,tl,a3];rfl,?_⟩;simp only[go_sem,J,S,G,E,O];exact⟨rfl,rfl,r',rfl,a0.keep (by omega) fun _=>by omega⟩
     .rw[e]at k3
      refine .inl ⟨_,by simp only[go_sem,J,S,G,E,vM,O,f1,f2,f3,r1,r2,r3,r4,r5,r6,r7,r8,s1,a1,c1,q0,q1,q2,q3,q4,q5,q6,q7,q8,q9,n0,n4,n8,k1,k2,k3,m2,m5];rfl,?_⟩;simp only[go_sem,J,S,G,E,O];exact⟨rfl,rfl,r',rfl,a0.keep (by omega) fun e=>by omega⟩
   .have c1:dB (en D.R i k) 0<=0:=(Em _).mpr hp
    refine .inl ⟨_,by simp only[go_sem,J,S,G,E,vM,O,f1,f2,f3,r1,r2,r3,r4,r5,r6,r7,r8,s1,a1,c1];rfl,?_⟩;simp only[go_sem,J,S,G,E,O];exact⟨rfl,r,rfl,hb.skip hp⟩) (by
   clear hL;rintro ⟨T,σ,nx⟩ ⟨J,S,G,E,vM,r,O,hb⟩;simp only at J S G E vM O;refine⟨_,by simp only[go_sem,E,vM,zl];rfl,by simp,_,_,_,r,rfl,?_,hb⟩;simp only[go_sem,O]) (by
   simp only[go_sem];exact⟨rfl,-1,rfl,.inl ⟨rfl,fun j hj=>by omega⟩⟩)
 exact⟨r,by simp only[go_sem,O],hb⟩
def zc(p:Int×Bool):List V:=[Bo (decide (p.1<0)),if p.2=true then .nil else LI (dg p.1.natAbs)]
theorem iq(p:Int×Bool):(zc p).length=2:=rfl
theorem aaY(z:Int):zc (z,false)=cZ z:=rfl
theorem nY(σ:Store)(d:Nat) {p:Int×Bool}(h:p.2=true->p.1=0):stripL (strip σ d) (zc p)=some (cZ p.1,[]):=by
 obtain⟨z,b⟩:=p;cases b with
 |false=>exact V_ σ d z
 |true=>
  have:z=0:=h rfl;subst this;unfold zc;rw[aO,cO,if_pos rfl,aO,strip_nil,bQ];show some ([Bo (decide ((0:Int)<0)),V.ts [] 0],[]++([]++[]))=_;unfold cZ;rw[Int.natAbs_zero,bH];rfl
theorem agl(p:Int×Bool):(zc p).all aT=true:=by
 unfold zc;cases p.2<;>rfl
theorem agm(a b:V)(p:Int×Bool):patch [a,b] 0 (zc p)=zc p:=rfl
theorem ajW(p:Int×Bool):(zc p).take 2=zc p:=rfl
theorem adl(a b:V)(z:Int):patch [a,b] 0 (cZ z)=cZ z:=rfl
attribute [go_sem] iq agl agm ajW vH V8 RJ V9 adl
def qA(σ:Store)(b:Nat)(E:List Int):Prop:=∃L:List (Int×Bool),σ b=some ⟨L.flatMap zc,2,true⟩/\L.map (·.1)=E/\∀p∈L,p.2=true->p.1=0
theorem qA.congr {σ σ':Store} {b:Nat} {E:List Int}(h:qA σ b E)(e:σ' b=σ b):qA σ' b E:=by
 obtain⟨L,G,J⟩:=h;exact⟨L,by rw[e];exact G,J⟩
theorem iU {α:Type} {c:α->List V} {s:Nat}(hc:∀x,(c x).length=s)(xs:List α)(k:Nat)(h:k<xs.length)(y:α):patch (xs.flatMap c) (k*s) (c y)=(xs.set k y).flatMap c:=by
 have E:=aN hc xs;have hle:(k+1)*s<=xs.length*s:=zG _ h;rw[yA]at hle;rw[iO _ _ _ (by rw[E,hc];exact hle),hc];have G:(xs.flatMap c).take (k*s)=(xs.take k).flatMap c:=by
  have:=wP k xs
  conv=>lhs;rw[<- this]
  rw[zT,xO];rw[aN hc,zh,yC (by omega)]
 have J:(xs.flatMap c).drop (k*s+s)=(xs.drop (k+1)).flatMap c:=by rw[<- yA];exact OO hc xs (k+1)
 rw[G,J,List.set_eq_take_append_cons_drop,if_pos h,zT,zU,zB]
def newR(W:List Int)(L:List (Int×Bool))(c:Nat):List (Int×Bool):=(W.take c).map (fun z=>(z,false))++L.drop c
theorem IZ(W:List Int)(L:List (Int×Bool)):newR W L 0=L:=by simp[newR]
theorem nZ {W:List Int} {L:List (Int×Bool)}(h:W.length=L.length) {c:Nat}(hc:c<=L.length):(newR W L c).length=L.length:=by
 unfold newR;simp;omega
theorem Wj {W:List Int} {L:List (Int×Bool)}(h:W.length=L.length) {c:Nat}(hc:c<L.length):(newR W L c)[c]'(by rw[nZ h (by omega)];exact hc)=L[c]:=by
 have:(newR W L c)[c]?=L[c]?:=by
  unfold newR;rw[zQ (by simp;omega),xY];congr 1;simp;omega
 rw[zy (by rw[nZ h (by omega)];exact hc),zy hc]at this;exact Option.some.inj this
theorem MO {W:List Int} {L:List (Int×Bool)}(h:W.length=L.length) {c:Nat}(hc:c<L.length):(newR W L c).set c (W[c],false)=newR W L (c+1):=by
 unfold newR;have E:((W.take c).map fun z=>(z,false)).length=c:=by simp;omega
 rw[yD _ _ (by omega),E,yQ,yU hc,List.set_cons_zero,yO,zy (by omega),wY,zB];rfl
theorem Pv {W:List Int} {L:List (Int×Bool)}(h:W.length=L.length):newR W L L.length=W.map fun z=>(z,false):=by
 unfold newR;rw[zk (by omega),xw (zq _),zM]
theorem Wn {σ:Store} {b:Nat} {W:List Int} {L:List (Int×Bool)}(h:W.length=L.length)(hb:σ b=some ⟨(newR W L L.length).flatMap zc,2,true⟩):qA σ b W:=by
 refine⟨_,hb,?_,?_⟩
 .rw[Pv h,List.map_map]
  exact List.map_id'' (fun _=>rfl) W
 .rw[Pv h]
  intro p hp;obtain⟨z,_,rfl⟩:=List.mem_map.mp hp;intro e;cases e
structure lD (σ:Store) (bt br bb bf:Nat) (rb:List Nat) (D:TZ) (N:Nat):Prop where
 t:σ bt=some ⟨[.rs br 0 D.R.length,Bo (decide (D.fM<0)),LI (dg D.fM.natAbs),.rs bb 0 D.R.length,I N,.rs bf 0 N],0,true⟩
 r:∃ex,σ br=some ⟨rb.map (fun b=>V.rs b 0 (N+1))++ex,1,true⟩
 row:∀i (h:i<rb.length),qA σ rb[i] (nS D.R i)
 b:∃ex,σ bb=some ⟨(iT D.B).flatMap cI++ex,1,true⟩
 f:σ bf=some ⟨D.fr.flatMap FV,1,true⟩
 len:rb.length=D.R.length
 nd:(bt :: br :: bb :: bf :: rb).Nodup
theorem aaZ {R:List (List Int)} {r k j:Nat} {b:Int}(h:j<R.length):nS (gX R r k b) j=if j=r then nS R j else sZ (en R r k) (en R j k) b (nS R j) (nS R r):=by
 show(gX R r k b).getD j []=_;unfold gX;rw[zx,List.getElem?_mapIdx,zy h];simp only[zJ,xM];rw[kJ h]
 split
 .rfl
 .unfold en;rw[kJ h]
theorem Zw(p f b:Int) {x y:List Int}(h:x.length=y.length):(sZ p f b x y).length=x.length:=by unfold sZ;rw[List.length_zipWith,h,Nat.min_self]
theorem Zx(p f b:Int) {x y:List Int} {c:Nat}(h:c<x.length)(E:c<y.length):(sZ p f b x y)[c]'(by unfold sZ;rw[List.length_zipWith];omega)=(x[c]*p-f*y[c]).tdiv b:=by
 unfold sZ;rw[List.getElem_zipWith]
theorem Px {L:List (Int×Bool)} {E:List Int}(h:L.map (·.1)=E) {c:Nat}(hc:c<E.length):∃G:c<L.length,(L[c]'G).1=E[c]:=by
 subst h;exact⟨by simpa using hc,by simp⟩
theorem nd4 {bt br bb bf:Nat} {rb:List Nat}(h:(bt :: br :: bb :: bf :: rb).Nodup):bt≠br/\bt≠bb/\bt≠bf/\br≠bb/\br≠bf/\bb≠bf/\(∀b∈rb,b≠bt/\b≠br/\b≠bb/\b≠bf)/\rb.Nodup:=by
 simp only[xg,zX,not_or]at h;obtain⟨⟨J,O,S,Y⟩,⟨h5,h6,h7⟩,⟨h8,h9⟩,E,G⟩:=h;refine⟨J,O,S,h5,h6,h8,fun b hb=>⟨fun e=>Y (e ▸ hb),fun e=>h7 (e ▸ hb),fun e=>h9 (e ▸ hb),fun e=>E (e ▸ hb)⟩,G⟩
theorem En {rb:List Nat} {ex:List V} {n i:Nat}(h:i<rb.length):(rb.map (fun b=>V.rs b 0 n)++ex)[i]?=some (.rs rb[i] 0 n):=by
 rw[zV (by simpa using h),yX,zy h];rfl
def Bj(R:List (List Int))(P:List (List Int))(i j:Nat):List Int:=if j<i then nS P j else nS R j
theorem agn {u p f v:Int}(hu:ln u.natAbs<=50)(hp:ln p.natAbs<=50)(E:ln f.natAbs<=50)(G:ln v.natAbs<=50) :
  ln (u*p).natAbs<=1000000/\ln (f*v).natAbs<=1000000/\ln (u*p-f*v).natAbs<=1000000:=by
 have J:=Bh u p;have O:=Bh f v;have S:=aaV (u*p) (f*v);omega
theorem agp {σ:Store} {nx bt br bb bf:Nat} {rb:List Nat} {D:TZ} {N:Nat}(h:lD σ bt br bb bf rb D N)(hs:V6 D N)(e6:∀b∈bt :: br :: bb :: bf :: rb,b<nx) {r k:Nat}(hr:r<D.R.length)(hk:k<N)(hp:en D.R r k≠0)(h6:D.fM≠0) :
  ∃σ' nx',ev Tryz.prog aU bU 219 [.rp bt 0,I r,I k] σ nx=some (.dS [],σ',nx')/\lD σ' bt br bb bf rb (Bf D r k) N/\nx<=nx'/\∀b,b<nx->b≠bt->b≠bb->b∉rb->σ' b=σ b:=by
 obtain⟨n1,n2,n3,n4,n5,n6,n7,n8⟩:=nd4 h.nd;have hN:=hs.sz;have hR:=hs.BO;obtain⟨Oj,f6⟩:=h.r;obtain⟨Ky,k7⟩:=h.b;have f7:=h.t;have hlen:=h.len;have RN:=e6 bt (by simp);have RP:=e6 br (by simp);have k8:=e6 bb (by simp);have k9:=e6 bf (by simp);have tC:∀j (J:j<rb.length),rb[j]<nx:=fun j J=>e6 _ (by simp[zu J])
 have f8:r<rb.length:=by omega
 obtain⟨bR,XD⟩:∃bR,bR=rb[r]:=⟨_,rfl⟩;have l2:bR<nx:=by rw[XD];exact tC r f8
 have nR:=n7 bR (by rw[XD];exact zu f8);obtain⟨Lr,h7,i9,m5⟩:=h.row r f8;rw[<- XD]at h7;have a0:∀j,j<D.R.length->(nS D.R j).length=N+1:=fun j J=>by rw[kJ J];exact hs.row _ (zu J)
 have m6:Lr.length=N+1:=by have:=congrArg List.length i9;rw[zO,a0 r hr]at this;exact this
 have ent:∀j c (J:j<D.R.length) (hc:c<N+1),(nS D.R j)[c]'(by rw[a0 j J];exact hc)=en D.R j c:=fun j c J hc=>by
  unfold en;rw[zx,zy];rfl
 have e7:∀c (hc:c<N+1),(Lr[c]'(by omega)).1=en D.R r c:=fun c hc=>by
  obtain⟨_,e⟩:=Px i9 (c:=c) (by rw[a0 r hr];exact hc);rw[e,ent r c hr hc]
 have lz:∀c (hc:c<Lr.length),(Lr[c]).2=true->(Lr[c]).1=0:=fun c hc=>m5 _ (zu hc)
 have a1:=aI r;have a2:(r:Int)<(D.R.length:Int):=by omega
 have a3:=aI k;have a4:(k:Int)<((N+1:Nat):Int):=by omega
 have a5:=En (ex:=Oj) (n:=N+1) f8;rw[<- XD]at a5;have a6:=slot (c:=zc) (s:=2) iq Lr k (by omega);have a7:=aN (c:=zc) (s:=2) iq Lr;rw[m6]at a7;have a8:k*2+2<=(N+1)*2:=by omega
 obtain⟨sp,f9⟩:∃sp,sp=upd σ nx (some ⟨zc Lr[k],0,true⟩):=⟨_,rfl⟩;have c9:∀b,b<nx->sp b=σ b:=fun b hb=>by rw[f9,ay]
 have j0:sp nx=some ⟨zc Lr[k],0,true⟩:=by rw[f9,upd_same]
 have j1:=(c9 bt RN).trans f7;have j2:=(c9 br RP).trans f6;rw[ak [] [10,12,13] Tryz.func219];simp only[go_sem,f7,f6,h7,a1,a2,a3,a4,a5,a6,a7,a8,iq,jf,<- f9,j1,j2];generalize hL:aF _ _=y;have P0:=nT D.R r k D.fM
 obtain⟨x,rfl,T1,c5,aP,rfl,t0,E,G,t7,o5,d0,j3,I4⟩:=aB hL D.R.length (fun i st=>st.T 0= .rp bt 0/\st.T 1=I r/\st.T 2=I k/\st.T 6= .rs bR 0 (N+1)/\st.T 7= .rp nx 0/\st.T 30= .rs br 0 D.R.length/\st.T 31=I D.R.length/\st.T 32=I i/\nx<st.nx/\st.σ nx=some ⟨zc Lr[k],0,true⟩/\st.σ bR=some ⟨Lr.flatMap zc,2,true⟩ /\
   (∀j (J:j<rb.length),qA st.σ rb[j] (Bj D.R (gX D.R r k D.fM) i j))/\∀b,b<nx->b∉rb->st.σ b=σ b)
  (fun x=>∃T σ' nx',x=(.exit 0,⟨T,σ',nx'⟩)/\T 0= .rp bt 0/\T 1=I r/\T 2=I k/\T 7= .rp nx 0/\nx<nx'/\σ' nx=some ⟨zc Lr[k],0,true⟩/\(∀j (J:j<rb.length),qA σ' rb[j] (nS (gX D.R r k D.fM) j))/\∀b,b<nx->b∉rb->σ' b=σ b) (by
   clear hL;rintro i ⟨T,σ',nx'⟩ hi ⟨t0,E,G,t6,t7,S,O,Y,b3,sn,sR,rows,frame⟩;simp only at t0 E G t6 t7 S O Y b3 sn;have f1:(i:Int)<(D.R.length:Int):=by omega
   have f2:=aI i;have f3:=ah (n:=(i:Int)+1);have b4:i<rb.length:=by omega
   obtain⟨bi,uN⟩:∃bi,bi=rb[i]:=⟨_,rfl⟩;have o6:bi<nx:=by rw[uN];exact tC i b4
   have ni:=n7 bi (by rw[uN];exact zu b4);have f5:=En (ex:=Oj) (n:=N+1) b4;rw[<- uN]at f5;have g0:σ' br=_:=(frame br RP fun e=>(n7 br e).2.1 rfl).trans f6
   by_cases XA:i=r
   .have c1:((i:Int)==(r:Int))=true:=by rw[XA];simp
    refine .inl ⟨_,by simp only[go_sem,t0,E,G,t6,t7,S,O,Y,g0,f1,f2,f3,f5,c1];rfl,?_⟩;simp only[go_sem,t0,E,G,t6,t7,S,O];refine⟨rfl,b3,sn,sR,fun j J=>?_,frame⟩;have b9:=rows j J;unfold Bj at b9⊢
    by_cases c3:j<i
    .rw[if_pos c3]at b9
     rw[if_pos (by omega)];exact b9
    .rw[if_neg c3]at b9
     by_cases o7:j=i
     .rw[if_pos (by omega),aaZ (by omega),if_pos (by omega)]
      exact b9
     .rw[if_neg (by omega)]
      exact b9
   .have c1:((i:Int)==(r:Int))=false:=by rw[w_];omega
    have j4:bi≠bR:=fun e=>XA (by rw[uN,XD]at e;exact(List.getElem_inj n8).mp e)
    obtain⟨Li,RQ,EC,RS⟩:=rows i b4;have g8:σ' bi=some ⟨Li.flatMap zc,2,true⟩:=by rw[uN];exact RQ
    have e8:Bj D.R (gX D.R r k D.fM) i i=nS D.R i:=by unfold Bj;rw[if_neg (by omega)]
    rw[e8]at EC;have JX:Li.length=N+1:=by have:=congrArg List.length EC;rw[zO,a0 i hi]at this;exact this
    have h4:∀c (hc:c<N+1),(Li[c]'(by omega)).1=en D.R i c:=fun c hc=>by
     obtain⟨_,e⟩:=Px EC (c:=c) (by rw[a0 i hi];exact hc);rw[e,ent i c hi hc]
    have iz:∀c (hc:c<Li.length),(Li[c]).2=true->(Li[c]).1=0:=fun c hc=>RS _ (zu hc)
    have b6:=slot (c:=zc) (s:=2) iq Li k (by omega);have b7:=aN (c:=zc) (s:=2) iq Li;rw[JX]at b7;obtain⟨s6,h8⟩:∃s6,s6=upd σ' nx' (some ⟨zc Li[k],0,true⟩):=⟨_,rfl⟩;have c4:∀b,b<nx'->s6 b=σ' b:=fun b hb=>by rw[h8,ay]
    have m7:s6 nx'=some ⟨zc Li[k],0,true⟩:=by rw[h8,upd_same]
    obtain⟨W,eW⟩:∃W,W=sZ (en D.R r k) (en D.R i k) D.fM (nS D.R i) (nS D.R r):=⟨_,rfl⟩;have m8:W.length=N+1:=by rw[eW,Zw _ _ _ (by rw[a0 i hi,a0 r hr]),a0 i hi]
    have b2:W.length=Li.length:=by omega
    have h9:∀c (hc:c<N+1),W[c]'(by omega)=(en D.R i c*en D.R r k-en D.R i k*en D.R r c).tdiv D.fM:=fun c hc=>by
     subst eW;rw[Zx _ _ _ (by rw[a0 i hi];exact hc) (by rw[a0 r hr];exact hc),ent i c hi hc,ent r c hr hc]
    refine fD ?_
    conv=>
     enter [1,r,1,1]
     simp only[go_sem,t0,E,G,t6,t7,S,O,Y,g0,f1,f2,f5,c1,g8,a3,a4,a8,b6,b7,jf,<- h8]
    generalize hL:aF _ _=z
    obtain⟨x,rfl,T1,σ2,jo,rfl,t0,E,G,t6,t7,S,O,Y,o9,Ae,Aa⟩:=aB hL (N+1) (fun c st=>st.T 0= .rp bt 0/\st.T 1=I r/\st.T 2=I k/\st.T 6= .rs bR 0 (N+1)/\st.T 7= .rp nx 0/\st.T 30= .rs br 0 D.R.length/\st.T 31=I D.R.length/\st.T 32=I i/\st.T 9= .rs bi 0 (N+1)/\st.T 10= .rp nx' 0/\st.T 45=I ((N+1:Nat):Int)/\st.T 46=I c/\nx'<st.nx /\
      (∀b,b<=nx'->b≠bi->st.σ b=s6 b)/\st.σ bi=some ⟨(newR W Li c).flatMap zc,2,true⟩)
     (fun x=>∃T Ol j5,x=(.exit 2,⟨T,Ol,j5⟩)/\T 0= .rp bt 0/\T 1=I r/\T 2=I k/\T 6= .rs bR 0 (N+1)/\T 7= .rp nx 0/\T 30= .rs br 0 D.R.length/\T 31=I D.R.length/\T 32=I i/\nx'<j5/\(∀b,b<=nx'->b≠bi->Ol b=s6 b)/\qA Ol bi W) (by
      clear hL;rintro c ⟨T,σ2,m0⟩ hc ⟨t0,E,G,t6,t7,S,O,Y,t9,c0,b5,c7,b8,Ae,Aa⟩;simp only at t0 E G t6 t7 S O Y t9 c0 b5 c7 b8 Aa;have g1:(c:Int)<((N+1:Nat):Int):=by omega
      have g2:=aI c;have g3:=ah (n:=(c:Int)+1);have g4:=slot (c:=zc) (s:=2) iq (newR W Li c) c (by rw[nZ b2 (by omega)];omega);rw[Wj b2 (by omega)]at g4;have g5:=aN (c:=zc) (s:=2) iq (newR W Li c);rw[nZ b2 (by omega),JX]at g5;have g6:c*2+2<=(N+1)*2:=by omega
      have g7:=slot (c:=zc) (s:=2) iq Lr c (by omega);have z1:∀σ d,stripL (strip σ d) (zc Li[c])=some (cZ (en D.R i c),[]):=fun σ d=>by rw[nY σ d (iz c (by omega)),h4 c (by omega)]
      have z2:∀σ d,stripL (strip σ d) (zc Lr[k])=some (cZ (en D.R r k),[]):=fun σ d=>by rw[nY σ d (lz k (by omega)),e7 k (by omega)]
      have z3:∀σ d,stripL (strip σ d) (zc Li[k])=some (cZ (en D.R i k),[]):=fun σ d=>by rw[nY σ d (iz k (by omega)),h4 k (by omega)]
      have z4:∀σ d,stripL (strip σ d) (zc Lr[c])=some (cZ (en D.R r c),[]):=fun σ d=>by rw[nY σ d (lz c (by omega)),e7 c (by omega)]
      have e1:σ2 bt=_:=(Ae bt (by omega) (yu ni.1)).trans ((c4 bt (by omega)).trans ((frame bt RN fun e=>(n7 bt e).1 rfl).trans f7));have e3:σ2 nx=_:=(Ae nx (by omega) (by omega)).trans ((c4 nx (by omega)).trans sn);have e4:σ2 nx'=_:=(Ae nx' (zq _) (by omega)).trans m7;have e5:σ2 bR=_:=(Ae bR (by omega) (yu j4)).trans ((c4 bR (by omega)).trans sR);have d1:¬bt=m0:=by omega
      have d3:¬nx=m0:=by omega
      have d4:¬nx'=m0:=by omega
      have d5:¬bR=m0:=by omega
      have d6:¬bi=m0:=by omega
      have l1:bt<m0+1:=by omega
      have l3:nx<m0+1:=by omega
      have l4:nx'<m0+1:=by omega
      have l5:bR<m0+1:=by omega
      have l6:bi<m0+1:=by omega
      have l7:m0<m0+1:=by omega
      have l8:bi<m0:=by omega
      have l9:nx<m0:=by omega
      have i0:nx'<m0:=by omega
      have i1:bR<m0:=by omega
      have i2:bt<m0:=by omega
      have u1:=hs.big i c (by omega) (by omega);have u2:=hs.big r k hr (by omega);have u3:=hs.big i k (by omega) (by omega);have u4:=hs.big r c hr (by omega);obtain⟨v1,v2,v3⟩:=agn (u:=en D.R i c) (p:=en D.R r k) (f:=en D.R i k) (v:=en D.R r c) u1 u2 u3 u4;have k1:=AZ (en D.R i c) (en D.R r k) (by omega) (by omega);have k2:=C_ (en D.R i k);have k3:=C_ (en D.R r c);have k4:=AZ (en D.R i k) (en D.R r c) (by omega) (by omega);have k5:=aaC (en D.R i c*en D.R r k) (en D.R i k*en D.R r c) v1 v2;have s2:=RI (en D.R i k);have s3:=RI (en D.R r c);have p0:=hs.fM;have fin:∀y:Int,y=W[c]'(by omega)->patch ((newR W Li c).flatMap zc) (c*2) (cZ y)=(newR W Li (c+1)).flatMap zc:=fun y hy=>by
       rw[<- aaY,iU iq _ _ (by rw[nZ b2 (by omega)];omega),hy,MO b2 (by omega)]
      have wv:=h9 c hc
      by_cases i3:en D.R i k=0
      .rw[vw i3,Bool.not_true]at s2
       have k6:fn Tryz.prog aU bU 238 [.agg (cZ (en D.R i c*en D.R r k)),.agg [Bo (decide (D.fM<0)),LI (dg D.fM.natAbs)]]=_:=MH (en D.R i c*en D.R r k) D.fM v1 (by omega) h6;have c6:=fin ((en D.R i c*en D.R r k).tdiv D.fM) (by rw[wv,i3,Int.zero_mul,Int.sub_zero]);refine .inl ⟨_,by simp only[go_sem,t0,E,G,t6,t7,t9,c0,b5,c7,Aa,e1,e3,e4,e5,a3,a4,a8,g1,g2,g3,g4,g5,g6,g7,z1,z2,z3,z4,d1,d3,d4,d5,d6,l1,l3,l4,l5,l6,l7,l8,l9,i0,i1,i2,k1,k2,s2,k6,c6,jf];rfl,?_⟩;simp only[go_sem,t0,E,G,t6,t7,S,O,Y,t9,c0,b5];refine⟨rfl,by omega,fun b hb a9=>?_⟩;rw[upd_ne _ _ a9,ay];exact Ae b hb a9
      .rw[vk i3,xJ]at s2
       by_cases i4:en D.R r c=0
       .rw[vw i4,Bool.not_true]at s3
        have k6:fn Tryz.prog aU bU 238 [.agg (cZ (en D.R i c*en D.R r k)),.agg [Bo (decide (D.fM<0)),LI (dg D.fM.natAbs)]]=_:=MH (en D.R i c*en D.R r k) D.fM v1 (by omega) h6;have c6:=fin ((en D.R i c*en D.R r k).tdiv D.fM) (by rw[wv,i4,Int.mul_zero,Int.sub_zero]);refine .inl ⟨_,by simp only[go_sem,t0,E,G,t6,t7,t9,c0,b5,c7,Aa,e1,e3,e4,e5,a3,a4,a7,a8,g1,g2,g3,g4,g5,g6,g7,z1,z2,z3,z4,d1,d3,d4,d5,d6,l1,l3,l4,l5,l6,l7,l8,l9,i0,i1,i2,k1,k2,s2,k3,s3,k6,c6,jf];rfl,?_⟩;simp only[go_sem,t0,E,G,t6,t7,S,O,Y,t9,c0,b5];refine⟨rfl,by omega,fun b hb a9=>?_⟩;rw[upd_ne _ _ a9,ay];exact Ae b hb a9
       .rw[vk i4,xJ]at s3
        have k6:fn Tryz.prog aU bU 238 [.agg (cZ (en D.R i c*en D.R r k-en D.R i k*en D.R r c)),.agg [Bo (decide (D.fM<0)),LI (dg D.fM.natAbs)]]=_:=MH (en D.R i c*en D.R r k-en D.R i k*en D.R r c) D.fM v3 (by omega) h6;have c6:=fin ((en D.R i c*en D.R r k-en D.R i k*en D.R r c).tdiv D.fM) wv.symm;refine .inl ⟨_,by simp only[go_sem,t0,E,G,t6,t7,t9,c0,b5,c7,Aa,e1,e3,e4,e5,a3,a4,a7,a8,g1,g2,g3,g4,g5,g6,g7,z1,z2,z3,z4,d1,d3,d4,d5,d6,l1,l3,l4,l5,l6,l7,l8,l9,i0,i1,i2,k1,k2,s2,k3,s3,k4,k5,k6,c6,jf];rfl,?_⟩;simp only[go_sem,t0,E,G,t6,t7,S,O,Y,t9,c0,b5];refine⟨rfl,by omega,fun b hb a9=>?_⟩;rw[upd_ne _ _ a9,ay];exact Ae b hb a9) (by
      clear hL;rintro ⟨T,σ2,m0⟩ ⟨t0,E,G,t6,t7,S,O,Y,t9,c0,b5,c7,b8,Ae,Aa⟩;simp only at t0 E G t6 t7 S O Y t9 c0 b5 c7 b8 Aa;refine⟨_,by simp only[go_sem,b5,c7,zl];rfl,by simp,_,_,_,rfl,?_⟩;simp only[go_sem,t0,E,G,t6,t7,S,O,Y];exact⟨b8,Ae,Wn b2 (by rw[JX];exact Aa)⟩) (by
      simp only[go_sem,t0,E,G,t6,t7,S,O,Y];refine⟨by omega,fun _ _ _=>trivial,?_⟩;rw[IZ,c4 bi (by omega)];exact g8)
    refine⟨_,by simp only[go_sem,Y,f3];rfl,.inl ⟨_,rfl,?_⟩⟩;simp only[go_sem,t0,E,G,t6,t7,S,O];refine⟨rfl,by omega,?_,?_,fun j J=>?_,fun b hb hn=>?_⟩
    .exact(Ae nx (by omega) (by omega)).trans ((c4 nx (by omega)).trans sn)
    .exact(Ae bR (by omega) (yu j4)).trans ((c4 bR (by omega)).trans sR)
    .by_cases c3:j=i
     .subst c3
      rw[<- uN];unfold Bj;rw[if_pos (by omega),aaZ (by omega),if_neg XA,<- eW];exact Aa
     .have a9:rb[j]≠bi:=fun e=>c3 (by rw[uN]at e;exact(List.getElem_inj n8).mp e)
      have:=tC j J;have e2:Bj D.R (gX D.R r k D.fM) (i+1) j=Bj D.R (gX D.R r k D.fM) i j:=by
       unfold Bj
       by_cases hq:j<i
       .rw[if_pos hq,if_pos (by omega)]
       .rw[if_neg hq,if_neg (by omega)]
      rw[e2];exact(rows j J).congr ((Ae _ (by omega) a9).trans (c4 _ (by omega)))
    .exact(Ae b (by omega) fun e=>hn (by rw[e,uN];exact zu b4)).trans ((c4 b (by omega)).trans (frame b hb hn))) (by
   clear hL;rintro ⟨T,σ',nx'⟩ ⟨t0,E,G,t6,t7,S,O,Y,b3,sn,sR,rows,frame⟩;simp only at t0 E G t6 t7 S O Y b3 sn;refine⟨_,by simp only[go_sem,O,Y,zl];rfl,by simp,_,_,_,rfl,?_⟩;simp only[go_sem,t0,E,G,t7];refine⟨b3,sn,fun j J=>?_,frame⟩;have:=rows j J;unfold Bj at this;rw[if_pos (by omega)]at this;exact this) (by
   simp only[go_sem];refine⟨by omega,j0,(c9 bR l2).trans h7,fun j J=>?_,fun b hb _=>c9 b hb⟩;unfold Bj;rw[if_neg (by omega)];exact(h.row j J).congr (c9 _ (tC j J)))
 have m9:zc Lr[k]=cZ (en D.R r k):=by
  have e1:=e7 k (by omega);have e2:=lz k (by omega);generalize Lr[k]=q at e1 e2;obtain⟨z,b⟩:=q;simp only at e1 e2;subst e1;cases b with
  |false=>rfl
  |true=>exact absurd (e2 rfl) hp
 rw[m9]at d0;obtain⟨p,ep⟩:∃p,p=en D.R r k:=⟨_,rfl⟩;rw[<- ep]at d0 hp;have e1:c5 bt=_:=(I4 bt RN fun e=>(n7 bt e).1 rfl).trans f7;have e2:c5 bb=_:=(I4 bb k8 fun e=>(n7 bb e).2.2.1 rfl).trans k7;have e3:c5 br=_:=(I4 br RP fun e=>(n7 br e).2.1 rfl).trans f6;have e4:c5 bf=_:=(I4 bf k9 fun e=>(n7 bf e).2.2.2 rfl).trans h.f;have hB:(iT D.B).length=D.R.length:=by rw[fZ];exact hs.fV
 have m1:r<((iT D.B).flatMap cI++Ky).length:=by rw[zo,aS];omega
 have m2:((iT D.B).flatMap cI++Ky).set r (I k)=(iT (D.B.set r k)).flatMap cI++Ky:=by
  rw[List.set_append_left _ _ (by rw[aS];omega),jV];unfold iT;rw[List.map_set]
 have m3:∀a b c d e f:V,patch [a,b,c,d,e,f] 1 (cZ p)=[a,Bo (decide (p<0)),LI (dg p.natAbs),d,e,f]:=fun _ _ _ _ _ _=>rfl
 have m4:∀a b c d e f:V,patch [a,b,c,d,e,f] 1 (cZ (-p))=[a,Bo (decide (-p<0)),LI (dg (-p).natAbs),d,e,f]:=fun _ _ _ _ _ _=>rfl
 have d1:¬bt=nx:=by omega
 have d2:¬bb=nx:=by omega
 have d3:¬nx=bt:=by omega
 have d4:¬nx=bb:=by omega
 have d5:¬bb=bt:=fun e=>n2 e.symm
 have d6:¬bt=bb:=n2;have d7:¬br=bt:=fun e=>n1 e.symm
 have d8:¬br=bb:=n4;have k1:=C_ p;obtain⟨s1,d9⟩:∃s1,s1=upd (upd c5 bt (some ⟨[.rs br 0 D.R.length,Bo (decide (p<0)),LI (dg p.natAbs),.rs bb 0 D.R.length,I N,.rs bf 0 N],0,true⟩)) bb (some ⟨(iT (D.B.set r k)).flatMap cI++Ky,1,true⟩):=⟨_,rfl⟩;have j6:s1 bt=some ⟨[.rs br 0 D.R.length,Bo (decide (p<0)),LI (dg p.natAbs),.rs bb 0 D.R.length,I N,.rs bf 0 N],0,true⟩:=by rw[d9,upd_ne _ _ d6,upd_same]
 have c8:∀b,b≠bt->b≠bb->s1 b=c5 b:=fun b h1 h2=>by rw[d9,upd_ne _ _ h2,upd_ne _ _ h1]
 have j7:s1 bb=some ⟨(iT (D.B.set r k)).flatMap cI++Ky,1,true⟩:=by rw[d9,upd_same]
 have i5:s1 nx=some ⟨cZ p,0,true⟩:=(c8 nx d3 d4).trans d0;have j8:s1 br=_:=(c8 br d7 d8).trans e3;have j9:∀j (J:j<rb.length),s1 rb[j]=c5 rb[j]:=fun j J=>by
  have:=n7 rb[j] (zu J);exact c8 _ this.1 this.2.2.1
 have pz:Bf D r k=if 0<p then ⟨gX D.R r k D.fM,p,D.B.set r k,D.fr⟩else ⟨negR (gX D.R r k D.fM),-p,D.B.set r k,D.fr⟩:=by unfold Bf;rw[ep]
 by_cases h5:0<p
 .have c1:dB p 0=1:=by unfold dB;rw[if_neg (by omega),if_neg (by omega)]
  rw[c1]at k1;have c2:(0:Int)<1:=by decide
  refine⟨s1,aP,by simp only[go_sem,t0,E,G,t7,e1,e2,d0,a1,a2,m1,m2,m3,d1,d2,d3,d4,d5,d6,k1,c2,<- d9,i5],?_,by omega,fun b hb h1 h2 h3=>by rw[c8 b h1 h2];exact I4 b hb h3⟩;rw[pz,if_pos h5];have pl:(gX D.R r k D.fM).length=D.R.length:=P0;refine⟨by show s1 bt=some ⟨[.rs br 0 (gX D.R r k D.fM).length,_,_,.rs bb 0 (gX D.R r k D.fM).length,_,_],0,true⟩;rw[pl];exact j6,⟨Oj,j8⟩,fun j J=>(j3 j J).congr (j9 j J),⟨Ky,j7⟩,?_,by show rb.length=(gX D.R r k D.fM).length;omega,h.nd⟩;rw[c8 bf (yu n3) (yu n6)];exact e4
 .have c1:dB p 0= -1:=by unfold dB;rw[if_pos (by omega)]
  rw[c1]at k1;have c2:¬(0:Int)< -1:=by decide
  have k2:=AY p;obtain⟨s2,g9⟩:∃s2,s2=upd s1 bt (some ⟨[.rs br 0 D.R.length,Bo (decide (-p<0)),LI (dg (-p).natAbs),.rs bb 0 D.R.length,I N,.rs bf 0 N],0,true⟩):=⟨_,rfl⟩;have k0:s2 bt=some ⟨[.rs br 0 D.R.length,Bo (decide (-p<0)),LI (dg (-p).natAbs),.rs bb 0 D.R.length,I N,.rs bf 0 N],0,true⟩:=by rw[g9,upd_same]
  have e9:∀b,b≠bt->s2 b=s1 b:=fun b h1=>by rw[g9,upd_ne _ _ h1]
  have i6:s2 br=_:=(e9 br d7).trans j8;have pl:(gX D.R r k D.fM).length=D.R.length:=P0;have n0:∀x∈gX D.R r k D.fM,x.length=N+1:=Mc hs.row hr _;have nl:(negR (gX D.R r k D.fM)).length=D.R.length:=by rw[L9,pl]
  have i7:∀j,j<D.R.length->(nS (gX D.R r k D.fM) j).length=N+1:=fun j J=>by rw[kJ (by omega)];exact n0 _ (zu (by omega))
  have n9:∀j,j<D.R.length->nS (negR (gX D.R r k D.fM)) j=(nS (gX D.R r k D.fM) j).map fun z=> -z:=fun j J=>by
   rw[kJ (by omega),kJ (by omega)];unfold negR;rw[xq]
  have o0:∀b,b<nx->b≠bt->b≠bb->b∉rb->s2 b=σ b:=fun b h0 h1 h2 h3=>by rw[e9 b h1,c8 b h1 h2];exact I4 b h0 h3
  rw[<- and_true (∃σ' nx',_)];refine⟨?_,trivial⟩;simp only[go_sem,t0,E,G,t7,e1,e2,d0,a1,a2,m1,m2,m3,d1,d2,d3,d4,d5,d6,k1,c2,<- d9,i5,j6,k2,m4,<- g9,k0,i6];clear k1 k2 m3 m4 d9 g9 d0 e1 e2 e3 i5 j0 c9 f9 t0 E G t7 j1 j2 a5 a6 a7;generalize hL:aF _ _=y;obtain⟨x,rfl,T2,σ2,rfl,qV,MP⟩:=aB hL D.R.length (fun i st=>st.T 107= .rs br 0 D.R.length/\st.T 108=I D.R.length/\st.T 109=I i/\st.nx=aP/\(∀j (J:j<rb.length),qA st.σ rb[j] (Bj (gX D.R r k D.fM) (negR (gX D.R r k D.fM)) i j))/\∀b,b∉rb->st.σ b=s2 b)
   (fun x=>∃T σ',x=(.exit 4,⟨T,σ',aP⟩)/\(∀j (J:j<rb.length),qA σ' rb[j] (nS (negR (gX D.R r k D.fM)) j))/\∀b,b∉rb->σ' b=s2 b) (by
    clear hL;rintro i ⟨T,σ',nx'⟩ hi ⟨t0,E,G,b3,rows,frame⟩;simp only at t0 E G b3;subst b3;have f1:(i:Int)<(D.R.length:Int):=by omega
    have f2:=aI i;have f3:=ah (n:=(i:Int)+1);have b4:i<rb.length:=by omega
    obtain⟨bi,uN⟩:∃bi,bi=rb[i]:=⟨_,rfl⟩;have ni:=n7 bi (by rw[uN];exact zu b4);have f5:=En (ex:=Oj) (n:=N+1) b4;rw[<- uN]at f5;have g0:σ' br=_:=(frame br fun e=>(n7 br e).2.1 rfl).trans i6;obtain⟨Li,RQ,EC,RS⟩:=rows i b4;have g8:σ' bi=some ⟨Li.flatMap zc,2,true⟩:=by rw[uN];exact RQ
    have e8:Bj (gX D.R r k D.fM) (negR (gX D.R r k D.fM)) i i=nS (gX D.R r k D.fM) i:=by unfold Bj;rw[if_neg (by omega)]
    rw[e8]at EC;have JX:Li.length=N+1:=by have:=congrArg List.length EC;rw[zO,i7 i hi]at this;exact this
    have iz:∀c (hc:c<Li.length),(Li[c]).2=true->(Li[c]).1=0:=fun c hc=>RS _ (zu hc)
    obtain⟨W,eW⟩:∃W,W=(nS (gX D.R r k D.fM) i).map fun z=> -z:=⟨_,rfl⟩
    have m8:W.length=N+1:=by rw[eW,zO,i7 i hi]
    have b2:W.length=Li.length:=by omega
    have h9:∀c (hc:c<N+1),W[c]'(by omega)= -(Li[c]'(by omega)).1:=fun c hc=>by
     subst eW;obtain⟨_,e⟩:=Px EC (c:=c) (by rw[i7 i hi];exact hc);rw[xq,e]
    refine fD ?_
    conv=>
     enter [1,r,1,1]
     simp only[go_sem,t0,E,G,g0,f1,f2,f5]
    generalize hL:aF _ _=z
    obtain⟨x,rfl,T1,σ2,rfl,t0,E,G,Ae,Aa⟩:=aB hL (N+1) (fun c st=>st.T 107= .rs br 0 D.R.length/\st.T 108=I D.R.length/\st.T 109=I i/\st.T 14= .rs bi 0 (N+1)/\st.T 114=I ((N+1:Nat):Int)/\st.T 115=I c/\st.nx=nx' /\
      (∀b,b≠bi->st.σ b=σ' b)/\st.σ bi=some ⟨(newR W Li c).flatMap zc,2,true⟩)
     (fun x=>∃T Ol,x=(.exit 6,⟨T,Ol,nx'⟩)/\T 107= .rs br 0 D.R.length/\T 108=I D.R.length/\T 109=I i/\(∀b,b≠bi->Ol b=σ' b)/\qA Ol bi W) (by
      clear hL;rintro c ⟨T,σ2,m0⟩ hc ⟨t0,E,G,f0,e0,f4,b8,Ae,Aa⟩;simp only at t0 E G f0 e0 f4 b8 Aa;subst b8;have g1:(c:Int)<((N+1:Nat):Int):=by omega
      have g2:=aI c;have g3:=ah (n:=(c:Int)+1);have g4:=slot (c:=zc) (s:=2) iq (newR W Li c) c (by rw[nZ b2 (by omega)];omega);rw[Wj b2 (by omega)]at g4;have g5:=aN (c:=zc) (s:=2) iq (newR W Li c);rw[nZ b2 (by omega),JX]at g5;have g6:c*2+2<=(N+1)*2:=by omega
      have z1:∀σ d,stripL (strip σ d) (zc Li[c])=some (cZ (Li[c]).1,[]):=fun σ d=>nY σ d (iz c (by omega))
      have k1:=AY (Li[c]).1;have c6:patch ((newR W Li c).flatMap zc) (c*2) (cZ (-(Li[c]).1))=(newR W Li (c+1)).flatMap zc:=by
       rw[<- aaY,iU iq _ _ (by rw[nZ b2 (by omega)];omega),<- h9 c hc,MO b2 (by omega)]
      refine .inl ⟨_,by simp only[go_sem,t0,E,G,f0,e0,f4,Aa,g1,g2,g3,g4,g5,g6,z1,k1,c6];rfl,?_⟩;simp only[go_sem,t0,E,G,f0,e0];refine⟨rfl,fun b a9=>?_⟩;rw[upd_ne _ _ a9];exact Ae b a9) (by
      clear hL;rintro ⟨T,σ2,m0⟩ ⟨t0,E,G,f0,e0,f4,b8,Ae,Aa⟩;simp only at t0 E G f0 e0 f4 b8 Aa;subst b8;refine⟨_,by simp only[go_sem,e0,f4,zl];rfl,by simp,_,_,rfl,?_⟩;simp only[go_sem,t0,E,G];exact⟨Ae,Wn b2 (by rw[JX];exact Aa)⟩) (by
      simp only[go_sem,t0,E,G];refine⟨fun _ _=>trivial,?_⟩;rw[IZ];exact g8)
    refine⟨_,by simp only[go_sem,G,f3];rfl,.inl ⟨_,rfl,?_⟩⟩;simp only[go_sem,t0,E];refine⟨rfl,fun j J=>?_,fun b hn=>?_⟩
    .by_cases c3:j=i
     .subst c3
      rw[<- uN];unfold Bj;rw[if_pos (by omega),n9 j (by omega),<- eW];exact Aa
     .have a9:rb[j]≠bi:=fun e=>c3 (by rw[uN]at e;exact(List.getElem_inj n8).mp e)
      have e2:Bj (gX D.R r k D.fM) (negR (gX D.R r k D.fM)) (i+1) j=Bj (gX D.R r k D.fM) (negR (gX D.R r k D.fM)) i j:=by
       unfold Bj
       by_cases hq:j<i
       .rw[if_pos hq,if_pos (by omega)]
       .rw[if_neg hq,if_neg (by omega)]
      rw[e2];exact(rows j J).congr (Ae _ a9)
    .exact(Ae b fun e=>hn (by rw[e,uN];exact zu b4)).trans (frame b hn)) (by
    clear hL;rintro ⟨T,σ',nx'⟩ ⟨t0,E,G,b3,rows,frame⟩;simp only at t0 E G b3;subst b3;refine⟨_,by simp only[go_sem,E,G,zl];rfl,by simp,_,_,rfl,fun j J=>?_,frame⟩;have:=rows j J;unfold Bj at this;rw[if_pos (by omega)]at this;exact this) (by
    simp only[go_sem];refine⟨fun j J=>?_,fun _ _=>trivial⟩;unfold Bj;rw[if_neg (by omega)];exact(j3 j J).congr ((e9 _ (n7 _ (zu J)).1).trans (j9 j J)))
  refine⟨σ2,aP,by simp only[go_sem],?_,by omega,fun b hb h1 h2 h3=>by rw[MP b h3];exact o0 b hb h1 h2 h3⟩;rw[pz,if_neg h5];have o1:bt∉rb:=fun e=>(n7 bt e).1 rfl
  have o2:br∉rb:=fun e=>(n7 br e).2.1 rfl
  have o3:bb∉rb:=fun e=>(n7 bb e).2.2.1 rfl
  have o4:bf∉rb:=fun e=>(n7 bf e).2.2.2 rfl
  refine⟨by show σ2 bt=some ⟨[.rs br 0 (negR (gX D.R r k D.fM)).length,_,_,.rs bb 0 (negR (gX D.R r k D.fM)).length,_,_],0,true⟩;rw[nl,MP bt o1];exact k0,⟨Oj,by rw[MP br o2];exact i6⟩,qV,⟨Ky,by rw[MP bb o3,e9 bb d5];exact j7⟩,?_,by show rb.length=(negR (gX D.R r k D.fM)).length;omega,h.nd⟩;rw[MP bf o4,e9 bf (yu n3),c8 bf (yu n3) (yu n6)];exact e4
theorem EU {f:V->Option (V×List Nat)}:∀ {a b E b':List V} {i j:List Nat},stripL f a=some (E,i)->stripL f b=some (b',j)->stripL f (a++b)=some (E++b',i++j)
 |[],b,E,b',i,j,h,h'=>by
  rw[bQ]at h;simp only[wC,wB]at h;obtain⟨rfl,rfl⟩:=h;exact h'
 |v :: a,b,E,b',i,j,h,h'=>by
  rw[aO]at h;cases G:f v with
  |none=>rw[G]at h;cases h
  |some p=>
   cases ha:stripL f a with
   |none=>rw[G,ha]at h;cases h
   |some q=>
    rw[G,ha]at h;simp only[zi,zJ,wC,wB]at h;obtain⟨rfl,rfl⟩:=h;rw[yT,aO,G,EU ha h'];simp
theorem Wp(σ:Store)(d:Nat):∀L:List (Int×Bool),(∀p∈L,p.2=true->p.1=0)->stripL (strip σ d) (L.flatMap zc)=some ((L.map (·.1)).flatMap cZ,[])
 |[],_=>rfl
 |p :: L,h=>by
  rw[zU,List.map_cons,zU];have:=EU (nY σ d (h p zN)) (Wp σ d L fun q E=>h q (zY _ E));exact this
theorem adp {σ:Store} {b n:Nat} {G:List Int}(h:qA σ b G)(J:G.length=n)(d:Nat):strip σ (d+1) (.rs b 0 n)=some (LL cZ G,[b]):=by
 obtain⟨L,Y,O,h3⟩:=h;have S:L.length=n:=by rw[<- J,<- O,zO]
 have E:=aN (c:=zc) (s:=2) iq L;rw[d_,Y];simp only[zi,yY,yZ];rw[if_pos (by rw[E,S];exact zq _),zk (by rw[E,S];exact zq _),Wp σ d L h3,O];show some (V.ts _ n,[b])=_;rw[<- J]
theorem MQ {σ:Store} {n d:Nat}:∀ {rb:List Nat} {R:List (List Int)},rb.length=R.length->(∀i (h:i<rb.length),qA σ rb[i] (nS R i))->(∀x∈R,x.length=n)->∃ids,stripL (strip σ (d+1)) (rb.map fun b=>V.rs b 0 n)=some (R.flatMap Zt,ids)
 |[],[],_,_,_=>⟨[],rfl⟩
 |[],_ :: _,h,_,_=>by simp at h
 |_ :: _,[],h,_,_=>by simp at h
 |b :: rb,x :: R,h,hr,hn=>by
  obtain⟨ids,hi⟩:=MQ (rb:=rb) (R:=R) (d:=d) (by simpa using h) (fun i hi=>by
   have:=hr (i+1) (by simpa using hi);exact this) fun y E=>hn y (zY _ E)
  have G:qA σ b x:=hr 0 (by simp);refine⟨[b]++ids,?_⟩;rw[List.map_cons,aO,adp G (hn x zN) d];simp only[zi];rw[hi];rfl
theorem ags(σ:Store)(d:Nat)(E:List Bool):stripL (strip σ d) (E.flatMap FV)=some (E.flatMap FV,[]) :=
 iJ (fun b=>by rw[aO,cO,bQ];rfl) E
def aa0:=aN (c:=FV) (s:=1) (fun _=>rfl)
theorem Py {σ:Store} {bt br bb bf:Nat} {rb:List Nat} {D:TZ} {N:Nat}(h:lD σ bt br bb bf rb D N)(hs:V6 D N):∃ids,strip σ 7 (.rp bt 0)=some (agj D N,ids):=by
 obtain⟨Oj,G⟩:=h.r;obtain⟨Ky,J⟩:=h.b;obtain⟨ids,E⟩:=MQ (d:=4) h.len h.row hs.row;have O:(iT D.B).length=D.R.length:=by rw[fZ];exact hs.fV
 have Y:strip σ 6 (.rs br 0 D.R.length)=some (LL Zt D.R,br :: ids):=by
  rw[d_,G];simp only[zi,yN,yY,yZ];rw[if_pos (by rw[zo,zO,h.len];omega),xO (by rw[zO,h.len]),E];rfl
 have s2:strip σ 6 (.rs bb 0 D.R.length)=some (LI (iT D.B),[bb]):=by
  rw[d_,J];simp only[zi,yN,yY,yZ];rw[if_pos (by rw[zo,aS,O];omega),xO (by rw[aS,O]),kG,<- O];rfl
 have S:(D.fr.flatMap FV).length=N:=by rw[aa0,yN,hs.V7]
 have s3:strip σ 6 (.rs bf 0 N)=some (LL FV D.fr,[bf]):=by
  rw[d_,h.f];simp only[zi,yN,yY,yZ];rw[if_pos (by rw[S];exact zq _),zk (by rw[S];exact zq _),ags];show some (V.ts _ N,[bf])=_;rw[<- hs.V7]
 have key:stripL (strip σ 6) [.rs br 0 D.R.length,Bo (decide (D.fM<0)),LI (dg D.fM.natAbs),.rs bb 0 D.R.length,I N,.rs bf 0 N]=some (VZ D N,(br :: ids)++([]++([]++([bb]++([]++([bf]++[])))))):=by
  simp only[aO,Y,s2,s3,cO,qh,bQ,zJ,zi];rfl
 exact⟨_,by rw[Lc,h.t,zi,key];rfl⟩
theorem Jz {σ:Store} {bt br bb bf:Nat} {rb:List Nat} {D:TZ} {N:Nat}(h:lD σ bt br bb bf rb D N)(hs:V6 D N)(d:Nat):strip σ (d+1) (.rs bb 0 D.R.length)=some (LI (iT D.B),[bb]):=by
 obtain⟨J,E⟩:=h.b;have G:(iT D.B).length=D.R.length:=by rw[fZ];exact hs.fV
 rw[d_,E];simp only[zi,yN,yY,yZ];rw[if_pos (by rw[zo,aS,G];omega),xO (by rw[aS,G]),kG,<- G];rfl
theorem axb(xs:List Int)(m:Int)(h:xs.length<=1000000):fn Tryz.prog conv ext 132 [LI xs,I m]=some (I (ix (fun x=>m==x) xs)):=by
 rw[aH,ak [.tmp 4] [] Tryz.func132];simp only[go_sem];generalize Y:aF _ _=y;obtain⟨r,rfl,hr⟩:=aB Y xs.length (fun k st=>st.T 0=LI xs/\st.T 1=I m/\st.T 7=I xs.length/\st.T 8=I k/\∀i (h:i<xs.length),i<k->(m==xs[i])=false)
  (fun r=>(∃T σ nx,r=(.exit 0,⟨T,σ,nx⟩)/\ix (fun x=>m==x) xs= -1)\/(∃T σ nx,r=(.ret,⟨T,σ,nx⟩)/\T 4=I (ix (fun x=>m==x) xs))) (by
   clear Y;rintro k ⟨T,σ,nx⟩ E ⟨O,S,G,J,hi⟩;simp only at O S G J;have f1:(k:Int)<(xs.length:Int):=by omega
   have f2:=aI k;have f3:=ah (n:=(k:Int)+1);have f5:=fB xs k E;have f6:=idx E;cases hp:(m==xs[k])with
   |true=>
    refine .inr ⟨_,by simp only[go_sem,O,S,G,J,f1,f2,f5,f6,hp];rfl,by simp,.inr ⟨_,_,_,rfl,?_⟩⟩;simp only[go_sem];rw[Gy E hi hp]
   |false=>
    refine .inl ⟨_,by simp only[go_sem,O,S,G,J,f1,f2,f3,f5,f6,hp];rfl,?_⟩;simp only[go_sem,O,S,G];exact⟨rfl,uD E hi hp⟩) (by
   clear Y;rintro ⟨T,σ,nx⟩ ⟨O,S,G,J,hi⟩;simp only at G J;exact⟨_,by simp only[go_sem,G,J,zl];rfl,by simp,.inl ⟨_,_,_,rfl,uz fun i h=>hi i h h⟩⟩) (by
   simp only[go_sem];exact fun i _ h=>absurd h (zW _))
 rcases hr with ⟨T,σ,nx,rfl,hx⟩|⟨T,σ,nx,rfl,hx⟩
 .simp only[go_sem,hx]
 .simp only[go_sem,hx]
theorem anv(xs:List Int)(m:Int)(h:xs.length<=1000000):fn Tryz.prog conv ext 109 [LI xs,I m]=some (Bo (decide (m∈xs))):=by
 have E:=axb xs m h;have e:decide (0<=ix (fun x=>m==x) xs)=decide (m∈xs):=by
  rw[decide_eq_decide];constructor
  .intro J
   refine zf fun hn=>?_
   have:=(Jt (fun x=>m==x) xs).mpr fun x G=>by
    rw[w_];intro e;subst e;exact hn G
   omega
  .intro hm
   refine Int.not_lt.mp fun hn=>?_
   have:=(Jt (fun x=>m==x) xs).mp hn m hm;simp at this
 rw[aH,ak [.tmp 4] [] Tryz.func109]
 by_cases hc:0<=ix (fun x=>m==x) xs
 .rw[vw hc]at e
  simp only[go_sem,E,hc,<- e]
 .rw[vk hc]at e
  simp only[go_sem,E,hc,<- e]
theorem Kz {B:List Nat} {k:Nat}:(k:Int)∈iT B↔k∈B:=by
 unfold iT;rw[List.mem_map];constructor
 .rintro ⟨j,E,e⟩
  have:j=k:=by omega
  subst this;exact E
 .intro h;exact⟨k,h,rfl⟩
def qM(D:TZ)(o:Nat->Int)(j:Nat):Bool:=D.fr.getD j false && !(!decide (j∈D.B) && decide (gV D o j<0))
def Om(D:TZ)(o:Nat->Int)(k:Nat):List Bool:=(List.range D.fr.length).map fun j=>if j<k then qM D o j else D.fr.getD j false
theorem uO(D:TZ)(o:Nat->Int)(k:Nat):(Om D o k).length=D.fr.length:=by simp[Om]
theorem Eo(D:TZ)(o:Nat->Int) {k j:Nat}(h:j<D.fr.length):(Om D o k)[j]'(by rw[uO];exact h)=if j<k then qM D o j else D.fr.getD j false:=by
 simp[Om]
theorem agt(D:TZ)(o:Nat->Int):Om D o 0=D.fr:=by
 apply yR
 .rw[uO]
 .intro i G E
  rw[Eo D o E,if_neg (by omega),zx,zy E];rfl
theorem aa1(D:TZ)(o:Nat->Int) {k:Nat}(h:k<D.fr.length):(Om D o k).set k (qM D o k)=Om D o (k+1):=by
 apply yR
 .rw[yG,uO,uO]
 .intro i J E
  rw[uO]at E;rw[wJ,Eo D o E,Eo D o E]
  by_cases e:k=i
  .subst e;rw[if_pos rfl,if_pos (by omega)]
  .rw[if_neg e]
   by_cases G:i<k
   .rw[if_pos G,if_pos (by omega)]
   .rw[if_neg G,if_neg (by omega)]
theorem agu(D:TZ)(o:Nat->Int) {k:Nat}(h:k<D.fr.length)(hb:qM D o k=D.fr.getD k false):Om D o k=Om D o (k+1):=by
 rw[<- aa1 D o h,hb];apply yR
 .rw[yG]
 .intro i E G
  rw[wJ]
  split
  .rename_i e;subst e;rw[Eo D o h,if_neg (by omega)]
  .rfl
theorem arO(D:TZ)(o:Nat->Int) {N:Nat}(h:D.fr.length=N):frZ N o D (Om D o N):=by
 refine⟨uO D o N,fun j E=>?_⟩;have e:(Om D o N).getD j false=qM D o j:=by
  rw[zx,zy (by rw[uO];omega),xM,Eo D o (by omega),if_pos E]
 rw[e];unfold qM;cases D.fr.getD j false with
 |false=>simp
 |true=>
  by_cases hb:j∈D.B<;>by_cases G:gV D o j<0<;>simp[hb,G]
theorem RU(xs:List Bool)(k:Nat)(b:Bool):(xs.flatMap FV).set k (Bo b)=(xs.set k b).flatMap FV:=by
 induction xs generalizing k with
 |nil=>rfl
 |cons x xs E=>
  cases k with
  |zero=>rfl
  |succ k=>
   show Bo x :: (xs.flatMap FV).set k (Bo b)=Bo x :: (xs.set k b).flatMap FV;rw[E]
theorem V6.free {D:TZ} {N:Nat}(h:V6 D N) {fr:List Bool}(E:fr.length=N):V6 { D with fr:=fr } N:=⟨h.row,h.fV,h.BO,E,h.sz,h.big,h.fM,h.inB⟩
theorem lD.free {σ σ':Store} {bt br bb bf:Nat} {rb:List Nat} {D:TZ} {N:Nat}(h:lD σ bt br bb bf rb D N) {fr:List Bool}(O:σ' bf=some ⟨fr.flatMap FV,1,true⟩)(E:∀b,b≠bf->σ' b=σ b):lD σ' bt br bb bf rb { D with fr:=fr } N:=by
 obtain⟨n1,n2,S,n4,Y,n6,n7,n8⟩:=nd4 h.nd;obtain⟨Oj,G⟩:=h.r;obtain⟨Ky,J⟩:=h.b;exact⟨(E bt S).trans h.t,⟨Oj,(E br Y).trans G⟩,fun i hi=>(h.row i hi).congr (E _ (n7 _ (zu hi)).2.2.2),⟨Ky,(E bb n6).trans J⟩,O,h.len,h.nd⟩
theorem dO {σ:Store} {b:Nat} {xs:List Int}(h:σ b=some ⟨xs.flatMap cI,1,true⟩) {n:Nat}(hn:xs.length=n)(d:Nat):strip σ (d+1) (.rs b 0 n)=some (LI xs,[b]):=by
 rw[d_,h];simp only[zi,yN,yY,yZ,aS];rw[if_pos (by omega),zk (by rw[aS];omega),kG];show some (V.ts _ n,[b])=_;rw[<- hn]
def Obj(o:List Int)(N:Nat):Prop:=o.length=N/\∀x∈o,-1000000<=x/\x<=1000000
abbrev oF(o:List Int)(j:Nat):Int:=o.getD j 0
theorem arP(Qp:TZ->Prop) {N:Nat} {o:List Int}(hI:∀D,Qp D->V6 D N/\0<D.fM)(c3:∀D D',Qp D->tq N (oF o) D D'->Qp D')(ho:Obj o N)
  {σ:Store} {nx bt br bb bf bo:Nat} {rb:List Nat} {D:TZ} {n:Nat} (d8:Qp D) (hn:GY N (oF o) n D) (h:lD σ bt br bb bf rb D N) (d9:∀b∈bt :: br :: bb :: bf :: rb,b<nx) (d1:σ bo=some ⟨o.flatMap cI,1,true⟩) (d2:bo<nx) (e0:bo∉bt :: br :: bb :: bf :: rb) :
  ∃σ' nx' d3 D',ev Tryz.prog aU bU 187 [.rp bt 0,.rs bo 0 N] σ nx=some (Bo d3,σ',nx')/\Rz N (oF o) D d3 D'/\lD σ' bt br bb bf rb D' N/\nx<=nx'/\∀b,b<nx->b∉bt :: bb :: bf :: rb->σ' b=σ b:=by
 have c0:=ho.1;have c4:bo∉bt :: bb :: bf :: rb:=fun e=>e0 (by
  simp only[zX]at e⊢;rcases e with e|e|e|e<;>simp[e])
 rw[ak [.tmp 4] [] Tryz.func187];simp only[go_sem];generalize hL:aF _ _=y
 obtain⟨x,rfl,hx⟩:=bJ hL (fun m st=>st.T 0= .rp bt 0/\st.T 1= .rs bo 0 N/\nx<=st.nx/\(∀b,b<nx->b∉bt :: bb :: bf :: rb->st.σ b=σ b)/\∃D1,tu N (oF o) D D1/\Qp D1/\lD st.σ bt br bb bf rb D1 N /\
   ((st.T 5=Bo true/\∃m',m=m'+1/\GY N (oF o) m' D1)\/(st.T 5=Bo false/\∀j,j<N->D1.fr.getD j false=true->j∉D1.B->¬0<gV D1 (oF o) j)))
  (fun x=>∃T σ' nx',nx<=nx'/\(∀b,b<nx->b∉bt :: bb :: bf :: rb->σ' b=σ b)/\∃D1,tu N (oF o) D D1/\Qp D1/\lD σ' bt br bb bf rb D1 N /\
   ((x=(.ret,⟨T,σ',nx'⟩)/\T 4=Bo false/\∃s,GX N D1 (oF o) s/\∀i,i<D1.R.length->¬0<en D1.R i s)\/(x=(.exit 0,⟨T,σ',nx'⟩)/\T 0= .rp bt 0/\T 1= .rs bo 0 N/\∀j,j<N->D1.fr.getD j false=true->j∉D1.B->¬0<gV D1 (oF o) j))) (by
   clear hL;rintro m ⟨T,a0,aP⟩ ⟨t0,G,a1,fr,D1,hr,a8,hT,h5⟩;simp only at t0 G a1 hT h5;obtain⟨hS,d4⟩:=hI D1 a8;have a6:=hT.t;rcases h5 with ⟨t5,m',rfl,d5⟩|⟨t5,b6⟩
   .have hlen:=hT.len
    obtain⟨n1,n2,n3,n4,n5,n6,n7,n8⟩:=nd4 hT.nd;have e1:=hS.sz;have c5:a0 bo=_:=(fr bo d2 c4).trans d1;obtain⟨ids,b3⟩:=Py hT hS;have a4:=Jz hT hS 6;have b4:=dO c5 c0 6;have XE:=hT.f;refine fD ?_
    conv=>
     enter [1,r,1,1]
     simp only[go_sem,t0,G,t5,a6]
    generalize hL:aF _ _=z;obtain⟨x,rfl,T1,σ2,jo,E,hx⟩:=aB hL N (fun k st=>st.T 0= .rp bt 0/\st.T 1= .rs bo 0 N/\st.T 5=Bo false/\st.T 13=I N/\st.T 14=I k/\st.σ=a0/\st.nx=aP/\∀j,j<k->D1.fr.getD j false=true->j∉D1.B->¬0<gV D1 (oF o) j)
     (fun x=>∃T σ2 jo,aP<=jo/\((x=(.exit 2,⟨T,σ2,jo⟩)/\T 0= .rp bt 0/\T 1= .rs bo 0 N/\T 5=Bo false/\σ2=a0/\∀j,j<N->D1.fr.getD j false=true->j∉D1.B->¬0<gV D1 (oF o) j) \/
      (x=(.exit 2,⟨T,σ2,jo⟩)/\T 0= .rp bt 0/\T 1= .rs bo 0 N/\T 5=Bo true/\∃D2,tq N (oF o) D1 D2/\lD σ2 bt br bb bf rb D2 N/\∀b,b<aP->b∉bt :: bb :: bf :: rb->σ2 b=a0 b) \/
      (x=(.ret,⟨T,σ2,jo⟩)/\T 4=Bo false/\σ2=a0/\∃s,GX N D1 (oF o) s/\∀i,i<D1.R.length->¬0<en D1.R i s))) (by
      clear hL;rintro k ⟨T,σ2,jo⟩ hk ⟨t0,G,t5,J,a5,b7,E,a3⟩;simp only at t0 G t5 J a5 b7 E;subst b7 E;have f1:(k:Int)<(N:Int):=by omega
      have f2:=aI k;have f3:=ah (n:=(k:Int)+1);have b5:k<D1.fr.length:=by rw[hS.V7];exact hk
      have f4:=mX Bo D1.fr k b5;have a9:(D1.fr.flatMap FV)[k]?=some (Bo (D1.fr.getD k false)):=by
       rw[zx,zy b5];exact f4
      have k1:=anv (iT D1.B) k (by rw[fZ,hS.fV];have:=hS.BO;omega);have k2:=alo D1 N hS o c0 ho.2 k hk;have step:∀(b8:¬(D1.fr.getD k false=true/\k∉D1.B/\0<gV D1 (oF o) k)),∀j,j<k+1->D1.fr.getD j false=true->j∉D1.B->¬0<gV D1 (oF o) j:=fun b8 j hj h1 h2 h3=>by
       by_cases e:j=k
       .subst e;exact b8 ⟨h1,h2,h3⟩
       .exact a3 j (by omega) h1 h2 h3
      cases S:D1.fr.getD k false with
      |false=>
       rw[S]at a9;refine .inl ⟨_,by simp only[go_sem,t0,G,t5,J,a5,a6,XE,f1,f2,f3,a9];rfl,?_⟩;simp only[go_sem,t0,G,t5,J];exact⟨rfl,step fun h=>by rw[S]at h;cases h.1⟩
      |true=>
       rw[S]at a9
       by_cases hm:k∈D1.B
       .rw[vw (Kz.mpr hm)]at k1
        refine .inl ⟨_,by simp only[go_sem,t0,G,t5,J,a5,a6,XE,f1,f2,f3,a9,a4,k1];rfl,?_⟩;simp only[go_sem,t0,G,t5,J];exact⟨rfl,step fun h=>h.2.1 hm⟩
       .rw[vk (mt Kz.mp hm)]at k1
        by_cases hg:0<gV D1 (oF o) k
        .have c1:¬dB (gV D1 (oF o) k) 0<=0:=fun e=>(Em _).mp e hg
         have b2:GX N D1 (oF o) k:=⟨hk,S,hm,hg,fun j hj=>a3 j hj⟩;obtain⟨r,k3,hb⟩:=agk D1 N hS k hk;rcases hb with ⟨rfl,hb⟩|⟨r',rfl,d6,e2,e3,e4⟩
         .have c2:(-1:Int)<0:=by decide
          refine .inr ⟨_,by simp only[go_sem,t0,G,t5,J,a5,a6,XE,f1,f2,f3,a9,a4,k1,b3,b4,k2,c1,k3,c2];rfl,by simp,_,_,_,zq _,.inr (.inr ⟨rfl,?_⟩)⟩;simp only[go_sem];exact⟨k,b2,hb⟩
         .have c2:¬(r':Int)<0:=by omega
          obtain⟨e8,dI,k4,MR,e5,e6⟩:=agp hT hS (fun b hb=>xK (d9 b hb) a1) d6 hk (by omega) (by omega);refine .inr ⟨_,by simp only[go_sem,bM,t0,G,t5,J,a5,a6,XE,f1,f2,f3,a9,a4,k1,b3,b4,k2,c1,k3,c2,k4];rfl,by simp,_,_,_,e5,.inr (.inl ⟨rfl,?_⟩)⟩;simp only[go_sem,t0,G];refine⟨_,⟨k,r',b2,⟨d6,e2,fun i hi hp=>e3 i hi hp,fun i hi hp he=>e4 i hi hp he⟩,rfl⟩,MR,fun b hb a2=>?_⟩;simp only[zX,not_or]at a2;exact e6 b hb a2.1 a2.2.1 a2.2.2.2
        .have c1:dB (gV D1 (oF o) k) 0<=0:=(Em _).mpr hg
         refine .inl ⟨_,by simp only[go_sem,t0,G,t5,J,a5,a6,XE,f1,f2,f3,a9,a4,k1,b3,b4,k2,c1];rfl,?_⟩;simp only[go_sem,t0,G,t5,J];exact⟨rfl,step fun h=>hg h.2.2⟩) (by
      clear hL;rintro ⟨T,σ2,jo⟩ ⟨t0,G,t5,J,a5,b7,E,a3⟩;simp only at t0 G t5 J a5 b7 E;subst b7 E;refine⟨_,by simp only[go_sem,J,a5,zl];rfl,by simp,_,_,_,zq _,.inl ⟨rfl,?_⟩⟩;simp only[go_sem,t0,G,t5];exact a3) (by
      simp only[go_sem,t0,G];exact fun j hj=>absurd hj (zW j))
    rcases hx with ⟨rfl,t0,G,t5,rfl,a3⟩|⟨rfl,t0,G,t5,D2,c8,b9,c9⟩|⟨rfl,t4,rfl,BL⟩
    .refine⟨_,by simp only[go_sem],.inl ⟨⟨T1,_,jo⟩,rfl,m',by omega,t0,G,zL a1 E,fr,D1,hr,a8,hT,.inr ⟨t5,a3⟩⟩⟩
    .cases m' with
     |zero=>exact absurd d5 id
     |succ d7=>
      refine⟨_,by simp only[go_sem],.inl ⟨⟨T1,_,jo⟩,rfl,d7+1,by omega,t0,G,zL a1 E,fun b hb a2=>?_,D2,hr.tail c8,c3 _ _ a8 c8,b9,.inl ⟨t5,d7,rfl,d5 D2 c8⟩⟩⟩;exact(c9 b (xK hb a1) a2).trans (fr b hb a2)
    .refine⟨_,by simp only[go_sem],.inr ⟨by simp,_,_,jo,zL a1 E,fr,D1,hr,a8,hT,.inl ⟨rfl,t4,BL⟩⟩⟩
   .refine .inr ⟨_,by simp only[go_sem,t5];rfl,by simp,_,a0,aP,a1,fr,D1,hr,a8,hT,.inr ⟨rfl,?_⟩⟩
    simp only[go_sem,t0,G];exact b6) (n+1) (by
   simp only[go_sem];exact⟨fun _ _ _=>trivial,D,tu.refl D,d8,h,.inl ⟨n,rfl,hn⟩⟩)
 obtain⟨T1,a0,aP,a1,fr,D1,hr,a8,hT,hx⟩:=hx;obtain⟨hS,d4⟩:=hI D1 a8;rcases hx with ⟨rfl,t4,s,b2,BL⟩|⟨rfl,t0,G,b6⟩
 .exact⟨a0,aP,false,D1,by simp only[go_sem,t4],⟨D1,hr,.inr ⟨rfl,rfl,s,b2,BL⟩⟩,hT,a1,fr⟩
 .have a6:=hT.t
  have hlen:=hT.len;obtain⟨n1,n2,n3,n4,n5,n6,n7,n8⟩:=nd4 hT.nd;have e1:=hS.sz;simp only[go_sem,t0,a6];generalize hL:aF _ _=z;obtain⟨x,rfl,T2,σ2,rfl,c9,Y⟩:=aB hL N (fun k st=>st.T 0= .rp bt 0/\st.T 1= .rs bo 0 N/\st.T 53=I N/\st.T 54=I k/\st.nx=aP/\st.σ bf=some ⟨(Om D1 (oF o) k).flatMap FV,1,true⟩/\∀b,b≠bf->st.σ b=a0 b)
   (fun x=>∃T σ2,x=(.exit 4,⟨T,σ2,aP⟩)/\σ2 bf=some ⟨(Om D1 (oF o) N).flatMap FV,1,true⟩/\∀b,b≠bf->σ2 b=a0 b) (by
    clear hL;rintro k ⟨T,σ2,jo⟩ hk ⟨t0,G,O,a7,E,XE,Y⟩;simp only at t0 G O a7 E XE;subst E;have hl:(Om D1 (oF o) k).length=N:=by rw[uO];exact hS.V7
    have b9:=hT.free XE Y;have d0:=hS.free hl;have MS:=b9.t;obtain⟨ids,b3⟩:=Py b9 d0;have a4:=Jz b9 d0 6;have c5:σ2 bo=_:=(Y bo fun e=>c4 (by simp[e])).trans ((fr bo d2 c4).trans d1);have b4:=dO c5 c0 6;have f1:(k:Int)<(N:Int):=by omega
    have f2:=aI k;have f3:=ah (n:=(k:Int)+1);have b5:k<D1.fr.length:=by rw[hS.V7];exact hk
    have f4:((Om D1 (oF o) k).flatMap FV)[k]?=some (Bo (D1.fr.getD k false)):=by
     rw[mX Bo (Om D1 (oF o) k) k (by omega),Eo _ _ b5,if_neg (by omega)]
    have f5:k<((Om D1 (oF o) k).flatMap FV).length:=by rw[aa0,hl];omega
    have k1:=anv (iT D1.B) k (by rw[fZ,hS.fV];have:=hS.BO;omega);have k2:=alo _ N d0 o c0 ho.2 k hk;have eg:gV { D1 with fr:=Om D1 (oF o) k } (fun j=>o.getD j 0) k=gV D1 (oF o) k:=rfl;rw[eg]at k2;simp only at MS a4;have keep:qM D1 (oF o) k=D1.fr.getD k false->σ2 bf=some ⟨(Om D1 (oF o) (k+1)).flatMap FV,1,true⟩:=fun h=>by rw[<- agu _ _ b5 h];exact XE
    cases S:D1.fr.getD k false with
    |false=>
     rw[S]at f4;refine .inl ⟨_,by simp only[go_sem,t0,G,O,a7,MS,XE,f1,f2,f3,f4];rfl,?_⟩;simp only[go_sem,t0,G,O];exact⟨rfl,keep (by unfold qM;rw[S];rfl),Y⟩
    |true=>
     rw[S]at f4
     by_cases hm:k∈D1.B
     .rw[vw (Kz.mpr hm)]at k1
      refine .inl ⟨_,by simp only[go_sem,t0,G,O,a7,MS,XE,f1,f2,f3,f4,a4,k1];rfl,?_⟩;simp only[go_sem,t0,G,O];exact⟨rfl,keep (by unfold qM;rw[S,vw hm];rfl),Y⟩
     .rw[vk (mt Kz.mp hm)]at k1
      by_cases hg:gV D1 (oF o) k<0
      .have c1:dB (gV D1 (oF o) k) 0<0:=(cmp_neg _).mpr hg
       have c6:=RU (Om D1 (oF o) k) k false;have c7:=aa1 D1 (oF o) b5;have e7:qM D1 (oF o) k=false:=by unfold qM;rw[S,vk hm,vw hg];rfl
       rw[e7]at c7;rw[c7]at c6;refine .inl ⟨_,by simp only[go_sem,t0,G,O,a7,MS,XE,f1,f2,f3,f4,f5,a4,k1,b3,b4,k2,c1,c6];rfl,?_⟩;simp only[go_sem,t0,G,O];refine⟨rfl,fun b hb=>?_⟩;rw[upd_ne _ _ hb];exact Y b hb
      .have c1:¬dB (gV D1 (oF o) k) 0<0:=fun e=>hg ((cmp_neg _).mp e)
       refine .inl ⟨_,by simp only[go_sem,t0,G,O,a7,MS,XE,f1,f2,f3,f4,a4,k1,b3,b4,k2,c1];rfl,?_⟩;simp only[go_sem,t0,G,O];exact⟨rfl,keep (by unfold qM;rw[S,vk hm,vk hg];rfl),Y⟩) (by
    clear hL;rintro ⟨T,σ2,jo⟩ ⟨t0,G,O,a7,E,XE,Y⟩;simp only at t0 G O a7 E XE;subst E;exact⟨_,by simp only[go_sem,O,a7,zl];rfl,by simp,_,_,rfl,XE,Y⟩) (by
    simp only[go_sem,t0,G];refine⟨?_,fun _ _=>trivial⟩;rw[agt];exact hT.f)
  refine⟨σ2,aP,true,_,by simp only[go_sem],⟨D1,hr,.inl ⟨rfl,b6,Om D1 (oF o) N,arO _ _ hS.V7,rfl⟩⟩,hT.free c9 Y,a1,fun b hb a2=>?_⟩;rw[Y b fun e=>a2 (by simp[e])];exact fr b hb a2
section
variable {P:Program} {conv:FuncId->Conv} {call:TV.Call} (d:Option Tmp) (ty:TypeId) (ps:String) (af:Array Edge) (gd:Option (Nat×Bool)) (T:Nat->V) (σ:Store) (nx:Nat)
theorem Zy(t:TypeId)(x:Operand)(lo hi E:Option Operand):bC conv T σ ⟨d,.slice t x lo hi E,ty,ps,af,gd⟩=aW (val T x):=rfl
theorem aj0(t:TypeId)(x:Operand)(lo hi E:Option Operand):writer conv ⟨d,.slice t x lo hi E,ty,ps,af,gd⟩=false:=rfl
theorem CW(s x:Operand)(ts:Array TypeId):bC conv T σ ⟨d,.call ⟨.builtin .append,#[s,x],ts⟩,ty,ps,af,gd⟩=aW (val T s)++aW (val T x):=by
 show([val T s,val T x].flatMap aW)=_;simp only[zU,wR,zM]
theorem Ls(s x:Operand)(ts:Array TypeId):writer conv ⟨d,.call ⟨.builtin .append,#[s,x],ts⟩,ty,ps,af,gd⟩=true:=rfl
def RV(P:Program)(σ:Store)(nx:Nat)(t:TypeId)(lo hi E:Option V):V->Option V
 | .rs b off len=>if b<nx then dX P t (.rs b off len) lo hi E σ else none
 |v=>if((aW v).all fun b=>decide (b<nx))=true then dX P t v lo hi E (restrict σ (aW v))else none
theorem adq(t:TypeId)(x:Operand)(lo hi E:Option Operand):bY P conv call ⟨d,.slice t x lo hi E,ty,ps,af,gd⟩ T σ nx=(RV P σ nx t (lo.map (val T)) (hi.map (val T)) (E.map (val T)) (val T x)).map (·,σ,nx):=by
 rw[lM (F:=aW (val T x)) T σ nx rfl (fun _=>rfl)];show(if((aW (val T x)).all fun b=>decide (b<nx))=true then match(dX P t (val T x) (lo.map (val T)) (hi.map (val T)) (E.map (val T)) (restrict σ (aW (val T x)))).map (·,restrict σ (aW (val T x)),nx)with|some (v,σ1,aP)=>some (v,aY (aW (val T x)) nx aP σ σ1,aP)|none=>none else none)=_;generalize val T x=v;have gen:(if((aW v).all fun b=>decide (b<nx))=true then match(dX P t v (lo.map (val T)) (hi.map (val T)) (E.map (val T)) (restrict σ (aW v))).map (·,restrict σ (aW v),nx)with|some (w,σ1,aP)=>some (w,aY (aW v) nx aP σ σ1,aP)|none=>none else none)=(if((aW v).all fun b=>decide (b<nx))=true then dX P t v (lo.map (val T)) (hi.map (val T)) (E.map (val T)) (restrict σ (aW v))else none).map (·,σ,nx):=by
  split
  .cases dX P t v (lo.map (val T)) (hi.map (val T)) (E.map (val T)) (restrict σ (aW v))with
   |none=>rfl
   |some w=>simp only[zJ,rZ]
  .rfl
 rw[gen];cases v with
 |rs b off len=>
  have key:dX P t (.rs b off len) (lo.map (val T)) (hi.map (val T)) (E.map (val T)) (restrict σ [b])=dX P t (.rs b off len) (lo.map (val T)) (hi.map (val T)) (E.map (val T)) σ:=by
   unfold dX restrict;simp
  simp only[aW,List.all_cons,List.all_nil,Bool.and_true,decide_eq_true_eq,RV,key]
 |_=>rfl
theorem adr(t:TypeId)(lo hi E:Option V)(b off len:Nat):RV P σ nx t lo hi E (.rs b off len)=if b<nx then dX P t (.rs b off len) lo hi E σ else none:=rfl
def anA(F:List Nat)(σ:Store)(nx:Nat):Jg->Jg
 |some (v,σ1,aP)=>some (v,aY F nx aP σ σ1,aP)
 |none=>none
theorem ads(F:List Nat)(v:V)(E:Store)(G:Nat):anA F σ nx (some (v,E,G))=some (v,aY F nx G σ E,G):=rfl
theorem Fz(s x:Operand)(t u:TypeId):bY P conv call ⟨d,.call ⟨.builtin .append,#[s,x],#[t,u]⟩,ty,ps,af,gd⟩ T σ nx=
  if((aW (val T s)++aW (val T x)).all fun b=>decide (b<nx))=true then anA (aW (val T s)++aW (val T x)) σ nx (lJ P #[t,u] (val T s) (val T x) (restrict σ (aW (val T s)++aW (val T x))) nx)else none:=by
 rw[lM (F:=aW (val T s)++aW (val T x)) T σ nx (by
  show some ([val T s,val T x].flatMap aW)=_;simp only[zU,wR,zM]) (fun _=>rfl)]
 rfl
end
attribute [go_sem] Zy aj0 CW Ls adq adr Fz ads Nat.zero_le
theorem rD(σ:Store)(b:Nat):restrict σ [b,b] b=σ b:=by unfold restrict;simp
theorem Oo(σ:Store)(b nx:Nat)(x:Option Aw):aY [b,b] nx nx σ (upd (restrict σ [b,b]) b x)=upd σ b x:=by
 funext i;unfold aY upd restrict
 by_cases h:i=b
 .simp[h]
 .rw[if_neg (by simp only[zX,zK,or_false,or_self,h,false_or];omega),if_neg h]
theorem jU(σ:Store)(b:Nat):restrict σ [b] b=σ b:=by unfold restrict;simp
theorem bK(σ:Store)(nx size bytes b off len:Nat)(row:List V)(m:Nat):bT σ nx size bytes (.rs b off len) row m=(σ b).bind fun B=>if m=0 then some (.rs b off len,σ,nx)else
      if off+(len+m)*size<=B.cells.length then
    if B.wr=true/\B.st=size/\row.all aT=true then some (.rs b off (len+m),upd σ b (some { B with cells:=patch B.cells (off+len*size) row }),nx)else none
      else if off+len*size=B.cells.length/\B.st=size/\len+m<=maxLen/\(len+m)*bytes<=140737488355328/\row.all aT=true then
    some (.rs nx 0 (len+m),upd (upd σ b none) nx (some ⟨B.cells.drop off++row,size,B.wr⟩),nx+1)
      else none:=by
 cases h:σ b with
 |none=>simp only[bT,h];rfl
 |some B=>simp only[bT,h];rfl
theorem Zz(σ:Store)(b nx:Nat):aY [b] nx nx σ (restrict σ [b])=σ:=by
 funext i;unfold aY restrict
 by_cases h:i=b
 .simp[h]
 .rw[if_neg (by simp only[wM,h,false_or];omega)]
theorem Wq(σ:Store)(nx size bytes b off len:Nat)(row:List V) {B:Aw}(h:σ b=some B):bT σ nx size bytes (.rs b off len) row 0=some (.rs b off len,σ,nx):=by
 unfold bT;simp only[h,if_true]
theorem anB {σ:Store} {nx bytes b len m:Nat} {row cells:List V}(h:σ b=some ⟨cells,1,true⟩)(hm:m≠0)(G:len+m<=cells.length)(E:row.all aT=true) :
  bT σ nx 1 bytes (.rs b 0 len) row m=some (.rs b 0 (len+m),upd σ b (some ⟨patch cells len row,1,true⟩),nx):=by
 unfold bT;simp only[h];rw[if_neg hm,if_pos (by omega),if_pos ⟨by trivial,by trivial,E⟩];simp
attribute [go_sem] rD jU bK Oo Zz
theorem Dt(L ex:List V) {i m:Nat}(hm:L.length=m)(hi:i<m)(J:m - (i+1)≠0):∃E,patch (L++ex) i (L.drop (i+1))=L.eraseIdx i++E:=by
 have G:(L.drop (i+1)).length=m - (i+1):=by rw[zH,hm]
 rw[iO _ _ _ (by rw[G,zo,hm];omega)];refine⟨(L++ex).drop (i+(m - (i+1))),?_⟩;rw[G,List.take_append_of_le_length (by omega),List.eraseIdx_eq_take_drop_succ]
theorem MV(L ex:List V) {i:Nat}(h:i+1=L.length):∃E,L++ex=L.eraseIdx i++E:=by
 refine⟨L.drop i++ex,?_⟩;rw[List.eraseIdx_eq_take_drop_succ,xw (l:=L) (i:=i+1) (by omega),zM,<- zB,wP]
theorem Ep {α β:Type}(f:α->β)(l:List α)(i:Nat):(l.map f).eraseIdx i=(l.eraseIdx i).map f:=by
 induction l generalizing i with
 |nil=>rfl
 |cons a l E=>cases i with
  |zero=>rfl
  |succ i=>show f a :: (l.map f).eraseIdx i=_;rw[E];rfl
def Pz(D:TZ)(i:Nat):TZ:={ D with R:=D.R.eraseIdx i,B:=D.B.eraseIdx i }
theorem lD.dropped {σ σ':Store} {bt br bb bf:Nat} {rb:List Nat} {D:TZ} {N i:Nat}(h:lD σ bt br bb bf rb D N)(hi:i<D.R.length)(a0:D.B.length=D.R.length)
  (ht:σ' bt=some ⟨[.rs br 0 (D.R.length-1),Bo (decide (D.fM<0)),LI (dg D.fM.natAbs),.rs bb 0 (D.R.length-1),I N,.rs bf 0 N],0,true⟩)
  (E:∃ex,σ' br=some ⟨(rb.map (fun b=>V.rs b 0 (N+1))).eraseIdx i++ex,1,true⟩) (hb:∃ex,σ' bb=some ⟨((iT D.B).flatMap cI).eraseIdx i++ex,1,true⟩) (Y:∀b,b≠bt->b≠br->b≠bb->σ' b=σ b) :
  lD σ' bt br bb bf (rb.eraseIdx i) (Pz D i) N:=by
 obtain⟨n1,n2,n3,n4,n5,n6,n7,n8⟩:=nd4 h.nd;have hl:(D.R.eraseIdx i).length=D.R.length-1:=yS hi;have hlen:=h.len;obtain⟨G,E⟩:=E;obtain⟨J,hb⟩:=hb;refine⟨?_,⟨G,?_⟩,fun j O=>?_,⟨J,?_⟩,?_,?_,?_⟩
 .show σ' bt=some ⟨[.rs br 0 (D.R.eraseIdx i).length,_,_,.rs bb 0 (D.R.eraseIdx i).length,_,_],0,true⟩
  rw[hl];exact ht
 .rw[E,Ep]
 .have a1:j<rb.length-1:=by rw[yS (by omega)]at O;exact O
  have e:nS (D.R.eraseIdx i) j=nS D.R (if j<i then j else j+1):=by
   unfold nS;rw[getD_erase]
  show qA σ' (rb.eraseIdx i)[j] (nS (D.R.eraseIdx i) j);have S:(if j<i then j else j+1)<rb.length:=by split<;>omega
  have e2:(rb.eraseIdx i)[j]=rb[if j<i then j else j+1]:=by
   have:(rb.eraseIdx i)[j]?=rb[if j<i then j else j+1]?:=by
    rw[List.getElem?_eraseIdx];split<;>rfl
   rw[zy O,zy S]at this;exact Option.some.inj this
  rw[e,e2];have hn:=n7 _ (zu S);exact(h.row _ S).congr (Y _ hn.1 hn.2.1 hn.2.2.1)
 .rw[hb]
  have:((iT D.B).flatMap cI).eraseIdx i=(iT (D.B.eraseIdx i)).flatMap cI:=by
   have e1:∀xs:List Int,xs.flatMap cI=xs.map I:=fun xs=>by
    induction xs with
    |nil=>rfl
    |cons x xs ih=>rw[zU,ih];rfl
   rw[e1,e1,Ep];unfold iT;rw[Ep]
  rw[this];rfl
 .rw[Y bf (yu n3) (yu n5) (yu n6)];exact h.f
 .show(rb.eraseIdx i).length=(D.R.eraseIdx i).length
  rw[hl,yS (by omega),hlen]
 .exact h.nd.sublist ((((List.eraseIdx_sublist rb i).cons_cons bf).cons_cons bb).cons_cons br|>.cons_cons bt)
theorem anC(Qp:TZ->Prop) {N n:Nat}(hQ:∀D,Qp D->V6 D N/\0<D.fM)(d6:n<=N)(h1:∀D i k,Qp D->i<D.R.length->n<=D.B.getD i 0->k<n->en D.R i k≠0->Qp (Bf D i k))
  (h2:∀D i,Qp D->i<D.R.length->n<=D.B.getD i 0->(∀k,k<n->en D.R i k=0)->Qp (Pz D i))
  {σ:Store} {nx bt br bb bf:Nat} {rb:List Nat} {D:TZ} (hD:Qp D) (h:lD σ bt br bb bf rb D N) (c5:∀b∈bt :: br :: bb :: bf :: rb,b<nx) :
  ∃σ' nx' FW D',ev Tryz.prog aU bU 216 [.rp bt 0,I n] σ nx=some (.dS [],σ',nx')/\lD σ' bt br bb bf FW D' N/\nx<=nx'/\Qp D'/\(∀i,i<D'.R.length->D'.B.getD i 0<n)/\FW.Sublist rb/\∀b,b<nx->b∉bt :: br :: bb :: rb->σ' b=σ b:=by
 rw[ak [] [10,11] Tryz.func216];simp only[go_sem];generalize hL:aF _ _=y;obtain⟨x,rfl,T',σ',nx',FW,D',rfl,hT,a0,c6,b4,G,a3⟩:=bJ hL (fun m st=>st.T 0= .rp bt 0/\st.T 1=I n/\nx<=st.nx/\∃i FW D',st.T 4=I ((i:Nat):Int)/\m+i=D'.R.length/\lD st.σ bt br bb bf FW D' N/\Qp D'/\(∀j,j<i->D'.B.getD j 0<n)/\FW.Sublist rb/\∀b,b<nx->b∉bt :: br :: bb :: rb->st.σ b=σ b)
  (fun x=>∃T σ' nx' FW D',x=(.exit 0,⟨T,σ',nx'⟩)/\lD σ' bt br bb bf FW D' N/\nx<=nx'/\Qp D'/\(∀i,i<D'.R.length->D'.B.getD i 0<n)/\FW.Sublist rb/\∀b,b<nx->b∉bt :: br :: bb :: rb->σ' b=σ b) (by
   clear hL;rintro m ⟨T,a1,aP⟩ ⟨t0,O,a0,i,S,D1,Y,d7,hT,TF,a2,G,a3⟩;simp only at t0 O Y a0 hT;obtain⟨hS,d5⟩:=hQ D1 TF;have a4:=hT.t;have hR:=hS.BO;have hlen:=hT.len;obtain⟨Oj,a6⟩:=hT.r;obtain⟨Ky,a7⟩:=hT.b;have hB:(iT D1.B).length=D1.R.length:=by rw[fZ];exact hS.fV
   have a5:∀b∈bt :: br :: bb :: bf :: S,b<aP:=fun b hb=>by
    refine xK (c5 b ?_) a0;simp only[zX]at hb⊢;rcases hb with h|h|h|h|h
    .exact .inl h
    .exact .inr (.inl h)
    .exact .inr (.inr (.inl h))
    .exact .inr (.inr (.inr (.inl h)))
    .exact .inr (.inr (.inr (.inr (G.subset h))))
   obtain⟨n1,n2,n3,n4,n5,n6,n7,n8⟩:=nd4 hT.nd
   by_cases hi:i<D1.R.length
   .have f1:(i:Int)<(D1.R.length:Int):=by omega
    have f2:=aI i;have f3:=ah (n:=(i:Int)+1);have f4:((iT D1.B).flatMap cI++Ky)[i]?=some (I ((D1.B.getD i 0:Nat):Int)):=by
     rw[zV (by rw[aS];omega),idx (by omega),kN (by have:=hS.fV;omega)]
    by_cases hb:D1.B.getD i 0<n
    .have f5:((D1.B.getD i 0:Nat):Int)<(n:Int):=by omega
     refine .inl ⟨_,by simp only[go_sem,t0,O,Y,a4,a7,f1,f2,f3,f4,f5];rfl,m-1,by omega,?_⟩;simp only[go_sem,t0,O];refine⟨a0,i+1,S,D1,rfl,by omega,hT,TF,fun j hj=>?_,G,a3⟩
     by_cases e:j=i
     .subst e;exact hb
     .exact a2 j (by omega)
    .have f5:¬((D1.B.getD i 0:Nat):Int)<(n:Int):=by omega
     have b5:i<S.length:=by omega
     have f6:=En (ex:=Oj) (n:=N+1) b5;obtain⟨bi,uN⟩:∃bi,bi=S[i]:=⟨_,rfl⟩;rw[<- uN]at f6;obtain⟨Li,RQ,EC,RS⟩:=hT.row i b5;have b6:a1 bi=some ⟨Li.flatMap zc,2,true⟩:=by rw[uN];exact RQ
     have rl:(nS D1.R i).length=N+1:=by rw[kJ hi];exact hS.row _ (zu hi)
     have JX:Li.length=N+1:=by have:=congrArg List.length EC;rw[zO,rl]at this;exact this
     have b7:=aN (c:=zc) (s:=2) iq Li;rw[JX]at b7;refine fD ?_
     conv=>
      enter [1,r,1,1]
      simp only[go_sem,t0,O,Y,a4,a7,f1,f2,f4,f5]
     generalize hL:aF _ _=z;obtain⟨x,rfl,T1,k,rfl,t0,O,Y,t5,d8,hz,b8⟩:=bJ hL (fun q st=>st.T 0= .rp bt 0/\st.T 1=I n/\st.T 4=I i/\st.σ=a1/\st.nx=aP/\∃k,st.T 5=I ((k:Nat):Int)/\q+k=n/\∀j,j<k->en D1.R i j=0)
      (fun x=>∃T k,x=(.exit 2,⟨T,a1,aP⟩)/\T 0= .rp bt 0/\T 1=I n/\T 4=I i/\T 5=I ((k:Nat):Int)/\k<=n/\(∀j,j<k->en D1.R i j=0)/\(k<n->en D1.R i k≠0)) (by
       clear hL;rintro q ⟨T,σ2,jo⟩ ⟨t0,O,Y,b9,c0,k,t5,d9,hz⟩;simp only at t0 O Y t5 b9 c0;subst b9 c0
       by_cases hk:k<n
       .have g1:(k:Int)<(n:Int):=by omega
        have g2:=aI k;have e0:=hS.sz;have g3:=ah (n:=(k:Int)+1);have g4:=slot (c:=zc) (s:=2) iq Li k (by omega);have g5:k*2+2<=(N+1)*2:=by omega
        have g6:(k:Int)<((N+1:Nat):Int):=by omega
        obtain⟨hq,e⟩:=Px EC (c:=k) (by rw[rl];omega);have e2:(nS D1.R i)[k]'(by rw[rl];omega)=en D1.R i k:=by
         unfold en;rw[zx,zy];rfl
        have z1:∀σ d,stripL (strip σ d) (zc Li[k])=some (cZ (en D1.R i k),[]):=fun σ d=>by
         rw[nY σ d (RS _ (zu hq)),e,e2]
        have k1:=C_ (en D1.R i k);have c1:=ML (en D1.R i k)
        by_cases a9:en D1.R i k=0
        .rw[vw a9]at c1
         refine .inl ⟨_,by simp only[go_sem,t0,O,Y,t5,a4,a6,b6,f1,f2,f6,g1,g2,g3,g4,g5,g6,b7,z1,k1,c1];rfl,q-1,by omega,?_⟩;simp only[go_sem,t0,O,Y];refine⟨k+1,rfl,by omega,fun j hj=>?_⟩
         by_cases e:j=k
         .subst e;exact a9
         .exact hz j (by omega)
        .rw[vk a9]at c1
         refine .inr ⟨_,by simp only[go_sem,t0,O,Y,t5,a4,a6,b6,f1,f2,f6,g1,g2,g3,g4,g5,g6,b7,z1,k1,c1];rfl,by simp,_,k,rfl,?_⟩;simp only[go_sem,t0,O,Y,t5];exact⟨by omega,hz,fun _=>a9⟩
       .have g1:¬(k:Int)<(n:Int):=by omega
        refine .inr ⟨_,by simp only[go_sem,O,t5,g1];rfl,by simp,_,k,rfl,?_⟩;simp only[go_sem,t0,O,Y,t5];exact⟨by omega,hz,fun h=>absurd h hk⟩) n (by
       simp only[go_sem,t0,O,Y];exact⟨0,rfl,by omega,fun j hj=>absurd hj (zW j)⟩)
     by_cases hk:k<n
     .have g1:(k:Int)<(n:Int):=by omega
      obtain⟨e3,dI,k4,MR,e4,c7⟩:=agp hT hS a5 hi (by omega) (b8 hk) (by omega);have b2:=h1 D1 i k TF hi (by omega) hk (b8 hk);have b3:(Bf D1 i k).R.length=D1.R.length:=by
       unfold Bf
       split
       .exact nT ..
       .show(negR _).length=_;rw[L9,nT]
      have c8:(Bf D1 i k).B=D1.B.set i k:=by unfold Bf;split<;>rfl
      refine⟨_,by simp only[go_sem,bM,t0,O,Y,t5,g1,f3,k4];rfl,.inl ⟨_,rfl,m-1,by omega,?_⟩⟩;simp only[go_sem,t0,O];refine⟨by omega,i+1,S,_,rfl,by omega,MR,b2,fun j hj=>?_,G,fun b a8 E=>?_⟩
      .rw[c8,yI (by have:=hS.fV;omega)]
       by_cases e:j=i
       .rw[if_pos e];exact hk
       .rw[if_neg e];exact a2 j (by omega)
      .simp only[zX,not_or]at E
       exact(c7 b (by omega) E.1 E.2.2.1 fun e=>E.2.2.2 (G.subset e)).trans (a3 b a8 (by simp only[zX,not_or];exact E))
     .have g1:¬(k:Int)<(n:Int):=by omega
      have hzero:∀j,j<n->en D1.R i j=0:=fun j hj=>hz j (by omega)
      have b2:=h2 D1 i TF hi (by omega) hzero;have g2:(0:Int)<=(i:Int)+1:=by omega
      have c4:D1.B.length=D1.R.length:=hS.fV;have h3:restrict a1 [br,br] br=_:=(rD a1 br).trans a6;have h4:restrict a1 [bb,bb] bb=_:=(rD a1 bb).trans a7;have p1:bt<aP:=a5 bt (by simp);have p2:br<aP:=a5 br (by simp);have p3:bb<aP:=a5 bb (by simp);have p4:(i:Int)+1<=(D1.R.length:Int):=by omega
      have p5:(i:Int)<=(D1.R.length:Int):=by omega
      have q0:(S.map (fun b=>V.rs b 0 (N+1))).length=D1.R.length:=by rw[zO,hlen]
      have q1:i<=(S.map (fun b=>V.rs b 0 (N+1))++Oj).length:=by rw[zo,q0];omega
      have q2:D1.R.length<=(S.map (fun b=>V.rs b 0 (N+1))++Oj).length:=by rw[zo,q0];omega
      have q3:i<=((iT D1.B).flatMap cI++Ky).length:=by rw[zo,aS];omega
      have q4:D1.R.length<=((iT D1.B).flatMap cI++Ky).length:=by rw[zo,aS];omega
      have q5:((i:Int)+1).toNat=i+1:=by omega
      have b3:(Pz D1 i).R.length=D1.R.length-1:=yS hi;have w1:(bt==br)=false:=beq_eq_false_iff_ne.mpr n1;have w2:(br==bt)=false:=beq_eq_false_iff_ne.mpr (yu n1);have w3:(bt==bb)=false:=beq_eq_false_iff_ne.mpr n2;have w4:(bb==bt)=false:=beq_eq_false_iff_ne.mpr (yu n2);have v1:¬bb=bt:=yu n2;have v2:¬bb=br:=yu n4;have v3:¬br=bt:=yu n1
      by_cases J:i+1=D1.R.length
      .have q6:i+1<=D1.R.length:=by omega
       have q7:¬D1.R.length=0:=by omega
       refine⟨_,by simp only[go_sem,t0,O,Y,t5,g1,g2,f1,f2,f3,a4,a6,a7,h3,h4,q1,q2,q3,q4,q5,q6,q7,J,v1,v2,v3,w1,w2,w3,w4,p1,p2,p3,p4,p5,n1,n2,n3,n4,n5,n6];rfl,.inl ⟨_,rfl,m-1,by omega,?_⟩⟩;simp only[go_sem,t0,O,Y];refine⟨a0,i,S.eraseIdx i,Pz D1 i,rfl,by rw[b3];omega,?_,b2,fun j hj=>?_,(List.eraseIdx_sublist S i).trans G,fun b a8 E=>?_⟩
       .refine lD.dropped hT hi c4 (by rw[upd_same,<- J];rfl)
         (by
          obtain⟨e1,he⟩:=MV (S.map (fun b=>V.rs b 0 (N+1))) Oj (i:=i) (by rw[q0];exact J);exact⟨e1,by rw[upd_ne _ _ v3,a6,he]⟩)
         (by
          obtain⟨e1,he⟩:=MV ((iT D1.B).flatMap cI) Ky (i:=i) (by rw[aS,hB];exact J);exact⟨e1,by rw[upd_ne _ _ v1,a7,he]⟩) fun b c1 c2 c3=>upd_ne _ _ c1
       .show(D1.B.eraseIdx i).getD j 0<n
        rw[getD_erase,if_pos hj];exact a2 j hj
       .simp only[zX,not_or]at E
        rw[upd_ne _ _ E.1];exact a3 b a8 (by simp only[zX,not_or];exact E)
      .have q6:i+1<=D1.R.length:=by omega
       have q7:¬D1.R.length - (i+1)=0:=by omega
       have q8:i+(D1.R.length - (i+1))<=(S.map (fun b=>V.rs b 0 (N+1))++Oj).length:=by rw[zo,q0];omega
       have q9:i+(D1.R.length - (i+1))<=((iT D1.B).flatMap cI++Ky).length:=by rw[zo,aS];omega
       have c9:i+1+(D1.R.length - (i+1))<=(S.map (fun b=>V.rs b 0 (N+1))++Oj).length:=by rw[zo,q0];omega
       have d0:i+1+(D1.R.length - (i+1))<=((iT D1.B).flatMap cI++Ky).length:=by rw[zo,aS];omega
       have d1:((S.map (fun b=>V.rs b 0 (N+1))++Oj).drop (i+1)).take (D1.R.length - (i+1))=(S.map (fun b=>V.rs b 0 (N+1))).drop (i+1):=by
        rw[List.drop_append_of_le_length (by rw[q0];omega),List.take_append_of_le_length (by rw[zH,q0];omega),zk (by rw[zH,q0];omega)]
       have d2:(((iT D1.B).flatMap cI++Ky).drop (i+1)).take (D1.R.length - (i+1))=((iT D1.B).flatMap cI).drop (i+1):=by
        rw[List.drop_append_of_le_length (by rw[aS];omega),List.take_append_of_le_length (by rw[zH,aS];omega),zk (by rw[zH,aS];omega)]
       have d3:((S.map (fun b=>V.rs b 0 (N+1))).drop (i+1)).all aT=true:=by
        rw[List.all_eq_true];intro v hv;obtain⟨b,-,rfl⟩:=List.mem_map.mp (List.mem_of_mem_drop hv);rfl
       have d4:(((iT D1.B).flatMap cI).drop (i+1)).all aT=true:=by
        rw[List.all_eq_true];intro v hv;obtain⟨b,-,hv⟩:=List.mem_flatMap.mp (List.mem_of_mem_drop hv);rw[List.mem_singleton.mp hv];rfl
       refine⟨_,by simp only[go_sem,t0,O,Y,t5,g1,g2,f1,f2,f3,a4,a6,a7,h3,h4,q1,q2,q3,q4,q5,q6,q7,q8,q9,c9,d0,d1,d2,d3,d4,J,v1,v2,v3,w1,w2,w3,w4,p1,p2,p3,p4,p5,n1,n2,n3,n4,n5,n6];rfl,.inl ⟨_,rfl,m-1,by omega,?_⟩⟩;simp only[go_sem,t0,O,Y];refine⟨a0,i,S.eraseIdx i,Pz D1 i,rfl,by rw[b3];omega,?_,b2,fun j hj=>?_,(List.eraseIdx_sublist S i).trans G,fun b a8 E=>?_⟩
       .refine lD.dropped hT hi c4 ?_ ?_ ?_ fun b c1 c2 c3=>by rw[upd_ne _ _ c1,upd_ne _ _ c3,upd_ne _ _ c1,upd_ne _ _ c2]
        .rw[upd_same,show i+(D1.R.length - (i+1))=D1.R.length-1 by omega]
        .obtain⟨e1,he⟩:=Dt (S.map (fun b=>V.rs b 0 (N+1))) Oj (i:=i) q0 hi q7
         exact⟨e1,by rw[upd_ne _ _ v3,upd_ne _ _ n4,upd_ne _ _ v3,upd_same,he]⟩
        .obtain⟨e1,he⟩:=Dt ((iT D1.B).flatMap cI) Ky (i:=i) (by rw[aS,hB]) hi q7
         exact⟨e1,by rw[upd_ne _ _ v1,upd_same,he]⟩
       .show(D1.B.eraseIdx i).getD j 0<n
        rw[getD_erase,if_pos hj];exact a2 j hj
       .simp only[zX,not_or]at E
        rw[upd_ne _ _ E.1,upd_ne _ _ E.2.2.1,upd_ne _ _ E.1,upd_ne _ _ E.2.1];exact a3 b a8 (by simp only[zX,not_or];exact E)
   .have f1:¬(i:Int)<(D1.R.length:Int):=by omega
    refine .inr ⟨_,by simp only[go_sem,t0,Y,a4,f1];rfl,by simp,_,a1,aP,S,D1,rfl,hT,a0,TF,fun j hj=>a2 j (by omega),G,a3⟩) D.R.length (by
   simp only[go_sem];exact⟨0,rb,D,rfl,by omega,h,hD,fun j hj=>absurd hj (zW j),List.Sublist.refl _,fun _ _ _=>trivial⟩)
 exact⟨σ',nx',FW,D',by simp only[go_sem],hT,a0,c6,b4,G,a3⟩
section
variable {P:Program} {conv:FuncId->Conv} {call:TV.Call} (d:Option Tmp) (ty:TypeId) (ps:String) (af:Array Edge) (gd:Option (Nat×Bool)) (T:Nat->V) (σ:Store) (nx:Nat)
theorem MW(t:TypeId)(l c:Operand):bC conv T σ ⟨d,.makeSlice t l c,ty,ps,af,gd⟩=[]:=rfl
theorem Ws(t:TypeId)(l c:Operand):writer conv ⟨d,.makeSlice t l c,ty,ps,af,gd⟩=false:=rfl
theorem Oq(t:TypeId)(l c:Operand):bY P conv call ⟨d,.makeSlice t l c,ty,ps,af,gd⟩ T σ nx=rQ P t (val T l) (val T c) σ nx:=by
 generalize E:rQ P t (val T l) (val T c) (fun _=>none) nx=r;have key:∀σ,rQ P t (val T l) (val T c) σ nx=(r.map fun p=>((p.2.1 nx).elim ([],0,p.1) fun B=>(B.cells,B.st,p.1))).map fun p=>(p.2.2,dA σ nx p.1 p.2.1,nx+1):=fun σ=>by
  rw[<- E];unfold rQ
  split
  .split
   .split
    .split
     .simp only[zJ,dA,upd_same];rfl
     .rfl
    .rfl
   .rfl
  .rfl
 have:=Gu (P:=P) (conv:=conv) (call:=call) (o:=⟨d,.makeSlice t l c,ty,ps,af,gd⟩) T σ nx rfl fun σ=>(Gs d ty ps af gd T σ nx t l c).trans (key σ)
 exact this.trans (key σ).symm
theorem JY(t:TypeId)(x:Operand)(h:(bF P t).slice=true)(E:(bF P t).Qw=true)(hs:(bF P t).DU=1)(G:(bF P t).oI.length=1)(hc:aT (val T x)=true) :
  bY P conv call ⟨d,.buildSlice t 1 #[(0,x)],ty,ps,af,gd⟩ T σ nx=some (.rs nx 0 1,upd σ nx (some ⟨[val T x],1,true⟩),nx+1):=by
 have:=Gu (P:=P) (conv:=conv) (call:=call) (o:=⟨d,.buildSlice t 1 #[(0,x)],ty,ps,af,gd⟩) (m:=some ([val T x],1,V.rs nx 0 1)) T σ nx rfl fun σ=>CV d ty ps af gd T σ nx t x h E hs G hc
 exact this
theorem adt(t:TypeId)(lo hi E:Option V)(row:List V)(len:Nat):RV P σ nx t lo hi E (.ts row len)=dX P t (.ts row len) lo hi E σ:=by
 show(if(([]:List Nat).all fun b=>decide (b<nx))=true then dX P t (.ts row len) lo hi E (restrict σ [])else none)=_;rw[List.all_nil,if_pos rfl];unfold dX;rfl
end
attribute [go_sem] adt MW Ws Oq JY
theorem Wu(xs:List Int):∀k,(xs.flatMap cI).drop k=(xs.drop k).flatMap cI:=by
 induction xs with
 |nil=>intro k;simp
 |cons x xs E=>intro k;cases k with
  |zero=>rfl
  |succ k=>exact E k
def jL(m n:Nat)(A b c:List Int):List V:=[I m,I n,LI A,LI b,LI c]
theorem arQ {m n:Nat} {A b c:List Int}(hA:A.length=m*n)(hm:m<=1000)(hn:n<=1000) {i:Nat}(hi:i<m) :
  fn Tryz.prog conv ext 214 [.tp (jL m n A b c) 0,I i]=some (.ts (((A.drop (i*n)).take n).flatMap cI) n):=by
 have h1:i*n<=m*n:=zG _ (by omega);have h2:(i+1)*n<=m*n:=zG _ (by omega);have h3:m*n<=1000*1000:=yF hm hn;have E:(i:Int)*(n:Int)=((i*n:Nat):Int):=by push_cast;rfl
 have G:((i:Int)+1)*(n:Int)=(((i+1)*n:Nat):Int):=by push_cast;rfl
 have J:=ah (n:=((i*n:Nat):Int));have O:=ah (n:=(((i+1)*n:Nat):Int)) (by omega) (by omega);have S:=ah (n:=(i:Int)+1);have Y:i*n<=(i+1)*n:=zG _ (by omega);have f5:(i+1)*n<=A.length:=by omega
 have f6:(0:Int)<=((i*n:Nat):Int):=by omega
 have f7:(0:Int)<=(((i+1)*n:Nat):Int):=by omega
 have f8:(i+1)*n-i*n=n:=by rw[yA];omega
 unfold jL;rw[aH,ak [.tmp 4] [] Tryz.func214];simp only[go_sem,E,G,J,O,S,Y,f5,f6,f7,f8];rw[Wu,pI]
theorem fF(σ:Store)(b x:Nat):restrict σ [b,x] b=σ b:=by unfold restrict;simp
theorem G8(σ:Store)(b x:Nat):restrict σ [b,x] x=σ x:=by unfold restrict;simp
theorem adu(σ:Store)(b x nx:Nat)(v:Option Aw):aY [b,x] nx (nx+1) σ (upd (upd (restrict σ [b,x]) b none) nx v)=upd (upd σ b none) nx v:=by
 funext i;unfold aY upd restrict
 by_cases h:i=nx
 .subst h;simp
 .by_cases E:i=b
  .subst E;simp[h]
  .by_cases G:i=x
   .subst G;simp[h,E]
   .rw[if_neg (by simp only[zX,zK,or_false];omega),if_neg h,if_neg E]
theorem ZA(σ:Store)(x nx:Nat)(v:Option Aw):aY [x] nx (nx+1) σ (upd (restrict σ [x]) nx v)=upd σ nx v:=by
 funext i;unfold aY upd restrict
 by_cases h:i=nx
 .subst h;simp
 .by_cases E:i=x
  .subst E;simp[h]
  .rw[if_neg (by simp only[zX,zK,or_false];omega),if_neg h]
attribute [go_sem] fF G8 adu ZA
def pm {α:Type}(f g:Nat->α)(k N:Nat):List α:=(List.range N).map fun j=>if j<k then f j else g j
theorem qN {α:Type}(f g:Nat->α)(k N:Nat):(pm f g k N).length=N:=by simp[pm]
theorem RX {α:Type}(f g:Nat->α) {k N j:Nat}(h:j<N):(pm f g k N)[j]'(by rw[qN];exact h)=if j<k then f j else g j:=by simp[pm]
theorem MX {α:Type}(f g:Nat->α) {k N:Nat}(h:k<N):(pm f g k N).set k (f k)=pm f g (k+1) N:=by
 apply yR
 .rw[yG,qN,qN]
 .intro j J E
  rw[qN]at E;rw[wJ,RX _ _ E,RX _ _ E]
  by_cases e:k=j
  .subst e;rw[if_pos rfl,if_pos (by omega)]
  .rw[if_neg e]
   by_cases G:j<k
   .rw[if_pos G,if_pos (by omega)]
   .rw[if_neg G,if_neg (by omega)]
theorem RY {α:Type}(f g:Nat->α) {k N:Nat}(h:f k=g k):pm f g k N=pm f g (k+1) N:=by
 apply yR
 .rw[qN,qN]
 .intro j J E
  rw[qN]at E;rw[RX _ _ E,RX _ _ E]
  by_cases G:j<k
  .rw[if_pos G,if_pos (by omega)]
  .rw[if_neg G]
   by_cases e:j=k
   .subst e;rw[if_pos (by omega),h]
   .rw[if_neg (by omega)]
theorem G9 {α:Type}(f g:Nat->α)(N:Nat):pm f g 0 N=(List.range N).map g:=by simp[pm]
theorem RZ {α:Type}(f g:Nat->α)(N:Nat):pm f g N N=(List.range N).map f:=by
 unfold pm;apply xP;intro j E;rw[if_pos (List.mem_range.mp E)]
theorem ZC(l:List Bool) {N:Nat}(h:l.length=N):((List.range N).map fun j=>l.getD j false)=l:=by
 apply yR
 .simp[h]
 .intro j G E
  simp[zx,zy E]
theorem Du {α:Type}(a:α)(N:Nat):((List.range N).map fun _=>a)=List.replicate N a:=by
 rw[List.map_const',List.length_range]
theorem lT(N:Nat)(x:Int):rep N [I x]=(List.replicate N x).flatMap cI:=by
 induction N with
 |zero=>rfl
 |succ N E=>rw[rep_succ,E,xW];rfl
theorem agv(N:Nat)(x:Bool):rep N [Bo x]=(List.replicate N x).flatMap FV:=by
 induction N with
 |zero=>rfl
 |succ N E=>rw[rep_succ,E,xW];rfl
def sg(b:List Int)(i:Nat):Int:=if b.getD i 0<0 then -1 else 1
def cell0(A b:List Int)(m n i j:Nat):Int:=if j<n then sg b i*A.getD (i*n+j) 0 else if j<n+m then(if j=n+i then 1 else 0)else sg b i*b.getD i 0
def row0(A b:List Int)(m n i:Nat):List Int:=(List.range (n+m+1)).map fun j=>cell0 A b m n i j
def qB(A b:List Int)(m n k:Nat):List (List Int):=(List.range k).map fun i=>row0 A b m n i
def ZE(m n:Nat):List Bool:=(List.range (n+m)).map fun j=>decide (j<n)
def D0(A b:List Int)(m n k:Nat):TZ:={ R:=qB A b m n k,fM:=1,B:=(List.range k).map fun i=>n+i,fr:=ZE m n }
theorem jI(A b:List Int)(m n i:Nat):(row0 A b m n i).length=n+m+1:=by simp[row0]
theorem Af(A b:List Int)(m n i:Nat) {j:Nat}(h:j<n+m+1):(row0 A b m n i)[j]'(by rw[jI];exact h)=cell0 A b m n i j:=by simp[row0]
def Bl(A b:List Int)(m n i k:Nat):List (Int×Bool):=newR (row0 A b m n i) (List.replicate (n+m+1) (0,true)) k
theorem adv(A b:List Int)(m n i:Nat):(Bl A b m n i 0).flatMap zc=rep (n+m+1) [Bo false,.nil]:=by
 unfold Bl;rw[IZ];generalize n+m+1=q
 induction q with
 |zero=>rfl
 |succ q E=>rw[xW,rep_succ,zU,E];rfl
theorem Ag(A b:List Int)(m n i:Nat) {k:Nat}(E:k<=n+m+1):(Bl A b m n i k).length=n+m+1:=by
 unfold Bl;rw[nZ (by rw[jI,z_]) (by rw[z_];exact E),z_]
theorem agw(A b:List Int)(m n i:Nat) {k:Nat}(E:k<n+m+1):(Bl A b m n i k).set k (cell0 A b m n i k,false)=Bl A b m n i (k+1):=by
 unfold Bl;rw[<- MO (by rw[jI,z_]) (c:=k) (by rw[z_];exact E),Af _ _ _ _ _ E]
theorem PE(A b:List Int) {m n i:Nat}(hi:i<m):let L:=((Bl A b m n i n).set (n+i) (1,false)).set (n+m) (sg b i*b.getD i 0,false)
  L.map (·.1)=row0 A b m n i/\∀p∈L,p.2=true->p.1=0:=by
 intro L;have hl:L.length=n+m+1:=by simp only[L,yG];exact Ag _ _ _ _ _ (by omega)
 have hg:∀j (h:j<n+m+1),L[j]'(by rw[hl];exact h)=if j<n then(cell0 A b m n i j,false)else if j=n+m then(sg b i*b.getD i 0,false)else if j=n+i then(1,false)else(0,true):=fun j h=>by
  have e:(Bl A b m n i n)[j]'(by rw[Ag _ _ _ _ _ (by omega)];exact h)=if j<n then(cell0 A b m n i j,false)else(0,true):=by
   have:(Bl A b m n i n)[j]?=some (if j<n then(cell0 A b m n i j,false)else(0,true)):=by
    unfold Bl newR;have J:(((row0 A b m n i).take n).map fun z=>(z,false)).length=n:=by rw[zO,zh,jI];omega
    by_cases O:j<n
    .rw[zV (by rw[J];exact O),if_pos O,yX,xC,if_pos O,zy (by rw[jI];omega),Af _ _ _ _ _ (by omega)]
     rfl
    .rw[zQ (by rw[J];omega),J,xY,if_neg O,List.getElem?_replicate,if_pos (by omega)]
   rw[zy (by rw[Ag _ _ _ _ _ (by omega)];exact h)]at this;exact Option.some.inj this
  simp only[L,wJ,e]
  by_cases E:j<n
  .rw[if_neg (by omega),if_neg (by omega),if_pos E,if_pos E]
  .by_cases Y:j=n+m
   .rw[if_pos Y.symm,if_neg E,if_pos Y]
   .rw[if_neg (yu Y),if_neg E,if_neg Y]
    by_cases h3:j=n+i
    .rw[if_pos h3.symm,if_neg E,if_pos h3]
    .rw[if_neg (yu h3),if_neg E,if_neg h3]
 refine⟨yR (by rw[zO,hl,jI]) fun j E Y=>?_,fun p hp G=>?_⟩
 .rw[zO,hl]at E
  rw[xq,hg j E,Af _ _ _ _ _ E]
  by_cases c1:j<n
  .rw[if_pos c1]
  .rw[if_neg c1]
   unfold cell0;rw[if_neg c1]
   by_cases c2:j=n+m
   .rw[if_pos c2,if_neg (by omega)]
   .rw[if_neg c2,if_pos (show j<n+m by omega)]
    by_cases S:j=n+i
    .rw[if_pos S,if_pos S]
    .rw[if_neg S,if_neg S]
 .obtain⟨j,O,rfl⟩:=yV hp
  rw[hl]at O;rw[hg j O]at G⊢
  by_cases c1:j<n
  .rw[if_pos c1]at G;cases G
  .rw[if_neg c1]at G⊢
   by_cases c2:j=n+m
   .rw[if_pos c2]at G;cases G
   .rw[if_neg c2]at G⊢
    by_cases S:j=n+i
    .rw[if_pos S]at G;cases G
    .rw[if_neg S]
def Made(A b:List Int)(m n:Nat)(Ce:Nat)(σ:Store)(nx bt bf k:Nat):Prop :=
 ∃E G br bb rb,σ bt=some ⟨[E,Bo false,LI (dg 1),G,I ((n+m:Nat):Int),.rs bf 0 (n+m)],0,true⟩ /\
  ((k=0/\E= .nil/\G= .nil/\rb=[])\/(0<k/\E= .rs br 0 k/\G= .rs bb 0 k/\σ br=some ⟨rb.map fun b=>V.rs b 0 (n+m+1),1,true⟩/\σ bb=some ⟨(iT ((List.range k).map fun i=>n+i)).flatMap cI,1,true⟩/\br≠bb/\br∉bt :: bf :: rb/\bb∉bt :: bf :: rb/\Ce<=br/\br<nx/\Ce<=bb/\bb<nx)) /\
  rb.length=k/\(∀i (h:i<rb.length),qA σ rb[i] (row0 A b m n i))/\(bt :: bf :: rb).Nodup/\(∀x∈bt :: bf :: rb,Ce<=x/\x<nx)/\σ bf=some ⟨(List.replicate (n+m) false).flatMap FV,1,true⟩
theorem PG {A b:List Int} {m n nx:Nat} {S σ':Store} {E i:Nat} {rb:List Nat} {L:List (Int×Bool)}(hi:i<m)(Y:rb.length=i)(a0:∀j (h:j<rb.length),qA S rb[j] (row0 A b m n j))(G:((nx+1) :: nx :: rb).Nodup)(O:∀x∈(nx+1) :: nx :: rb,nx<=x/\x<E)
  (a2:S nx=some ⟨(List.replicate (n+m) false).flatMap FV,1,true⟩) (hL:L.map (·.1)=row0 A b m n i/\∀p∈L,p.2=true->p.1=0)
  (ht:σ' (nx+1)=some ⟨[.rs (E+1+1) 0 (i+1),Bo false,LI (dg 1),.rs (E+1+1+1+1) 0 (i+1),I ((n+m:Nat):Int),.rs nx 0 (n+m)],0,true⟩)
  (hr:σ' (E+1+1)=some ⟨rb.map (fun b=>V.rs b 0 (n+m+1))++[.rs E 0 (n+m+1)],1,true⟩)
  (hb:σ' (E+1+1+1+1)=some ⟨(iT ((List.range i).map fun i=>n+i)).flatMap cI++[I ((n+i:Nat):Int)],1,true⟩)
  (J:σ' E=some ⟨L.flatMap zc,2,true⟩) (ho:∀x∈nx :: rb,σ' x=S x):Made A b m n nx σ' (E+1+1+1+1+1) (nx+1) nx (i+1):=by
 have a1:∀x∈rb,x≠nx+1/\x≠nx/\nx<=x/\x<E:=fun x J=>by
  have h:=O x (by simp[J]);refine⟨fun e=>?_,fun e=>?_,h.1,h.2⟩
  .subst e;simp at G;exact G.1 J
  .subst e;simp at G;exact G.2.1 J
 have a3:=O (nx+1) (by simp);refine⟨_,_,E+1+1,E+1+1+1+1,rb++[E],ht,.inr ⟨by omega,rfl,rfl,?_,?_,by omega,?_,?_,by omega,by omega,by omega,by omega⟩,by simp[Y],fun j hj=>?_,?_,fun x J=>?_,?_⟩
 .rw[hr,wY];rfl
 .rw[hb,wZ,wY]
  unfold iT;rw[wY,zT];rfl
 .simp only[zX,wS,zK,or_false,not_or]
  exact⟨by omega,by omega,fun h=>by have:=a1 _ h;omega,by omega⟩
 .simp only[zX,wS,zK,or_false,not_or]
  exact⟨by omega,by omega,fun h=>by have:=a1 _ h;omega,by omega⟩
 .by_cases h:j<rb.length
  .rw[xu h]
   exact(a0 j h).congr (ho _ (zY _ (zu h)))
  .have:j=i:=by rw[zo,yL]at hj;omega
   subst this;rw[wQ (by omega)];simp only[Y,yQ,List.getElem_cons_zero];exact⟨L,J,hL.1,hL.2⟩
 .rw[<- yT,<- yT]
  rw[List.nodup_append];refine⟨G,by simp,fun x J y hy=>?_⟩;rw[List.mem_singleton.mp hy];have:=O x J;omega
 .rw[<- yT,<- yT,wS]at J
  rcases J with h|h
  .have:=O x h;omega
  .rw[List.mem_singleton.mp h];omega
 .rw[ho nx (by simp)];exact a2
def o1L(m n:Nat):List Int:=(List.range (n+m)).map fun j=>if j<n then 0 else -1
theorem aj2(m n:Nat):Obj (o1L m n) (n+m):=⟨by simp[o1L],fun x E=>by
 obtain⟨j,-,rfl⟩:=List.mem_map.mp E
 split<;>omega⟩
theorem aa2 {N:Nat} {o:Nat->Int} {Q:TZ->Prop}(h:∀D E,Q D->tq N o D E->Q E) {D E:TZ}(G:tu N o D E):Q D->Q E:=by
 induction G with
 |refl=>exact id
 |tail Y J O=>exact fun S=>h _ _ (O S) J
theorem alr {N:Nat} {o:Nat->Int} {Q:TZ->Prop}(h:∀D E,Q D->tq N o D E->Q E) {D E:TZ} {G:Bool}(hm:Rz N o D G E)(O:Q D):∃D1 fr,Q D1/\E={ D1 with fr:=fr }/\fr.length=D1.fr.length:=by
 obtain⟨D1,S,J|J⟩:=hm
 .obtain⟨-,-,fr,Y,rfl⟩:=J
  exact⟨D1,fr,aa2 h S O,rfl,Y.1⟩
 .obtain⟨-,rfl,-⟩:=J
  exact⟨E,E.fr,aa2 h S O,rfl,rfl⟩
def aj3(Q2:TZ->Prop)(A b:List Int)(m n:Nat)(σ:Store)(nx:Nat)(r:V×Store×Nat):Prop :=
 ∃σ' nx',nx<=nx'/\(∀x,x<nx->σ' x=σ x)/\∃D1 E,Rz (n+m) (oF (o1L m n)) (D0 A b m n m) E D1 /\
  ((r=(.dS [.sc (.pointer none),Bo false],σ',nx')/\∃i,i<D1.R.length/\n<=D1.B.getD i 0/\0<en D1.R i (n+m)) \/
   (∃bt br bb bf rb D2,r=(.dS [.rp bt 0,Bo true],σ',nx')/\(∀i,i<D1.R.length->n<=D1.B.getD i 0->¬0<en D1.R i (n+m))/\lD σ' bt br bb bf rb D2 (n+m)/\Q2 D2/\(∀i,i<D2.R.length->D2.B.getD i 0<n)/\∀x∈bt :: br :: bb :: bf :: rb,nx<=x/\x<nx'))
theorem anD(Q1 Q2:TZ->Prop) {A b c:List Int} {m n:Nat}(hA:A.length=m*n)(hb:b.length=m)(O:0<m)(hm:m<=400)(hn:n<=400)(o0:∀x∈A,-1000000<=x/\x<=1000000)(o2:∀x∈b,-1000000<=x/\x<=1000000)
  (TF:∀D,Q1 D->V6 D (n+m)/\0<D.fM) (f7:∀D D',Q1 D->tq (n+m) (oF (o1L m n)) D D'->Q1 D') (i6:Q1 (D0 A b m n m)) {K:Nat} (o3:GY (n+m) (oF (o1L m n)) K (D0 A b m n m))
  (o4:∀D,Q2 D->V6 D (n+m)/\0<D.fM) (h1:∀D i k,Q2 D->i<D.R.length->n<=D.B.getD i 0->k<n->en D.R i k≠0->Q2 (Bf D i k))
  (o5:∀D i,Q2 D->i<D.R.length->n<=D.B.getD i 0->(∀k,k<n->en D.R i k=0)->Q2 (Pz D i))
  (j8:∀D1 f8,Rz (n+m) (oF (o1L m n)) (D0 A b m n m) f8 D1->(∀i,i<D1.R.length->n<=D1.B.getD i 0->¬0<en D1.R i (n+m))->Q2 { D1 with fr:=ZE m n })
  (σ:Store) (nx:Nat):∃r,ev Tryz.prog aU bU 186 [.tp (jL m n A b c) 0] σ nx=some r/\aj3 Q2 A b m n σ nx r:=by
 obtain⟨N,hN⟩:∃N,N=n+m:=⟨_,rfl⟩;have f1:(n:Int)+(m:Int)=(N:Int):=by omega
 have f2:=ah (n:=(N:Int));have f3:=aI N;have f4:1*(N:Int)<=281474976710656:=by omega
 have f5:(N:Int)<=9223372036854775807:=by omega
 have k1:fn Tryz.prog conv ext 199 [I 1]=some (.agg [Bo false,LI (dg 1)]):=oS 1 (by decide) (by decide)
 unfold jL;rw[ak [.tmp 2,.tmp 3] [15,18,24,38] Tryz.func186];simp only[go_sem,f1,f2,f3,f4,f5,k1];generalize hL:aF _ _=y;obtain⟨x,rfl,T1,c3,E,rfl,t0,J,G,s7,o6,hM⟩:=aB hL m (fun i st=>st.T 0= .tp (jL m n A b c) 0/\st.T 4=I N/\st.T 5= .rp (nx+1) 0/\st.T 34=I m/\st.T 35=I i/\nx<=st.nx/\(∀x,x<nx->st.σ x=σ x)/\Made A b m n nx st.σ st.nx (nx+1) nx i)
  (fun x=>∃T c3 E,x=(.exit 0,⟨T,c3,E⟩)/\T 0= .tp (jL m n A b c) 0/\T 4=I N/\T 5= .rp (nx+1) 0/\nx<=E/\(∀x,x<nx->c3 x=σ x)/\Made A b m n nx c3 E (nx+1) nx m) (by
   clear hL;rintro i ⟨T,c3,E⟩ hi ⟨t0,J,G,S,Y,h3,e4,hM⟩;simp only at t0 J G S Y h3 e4 hM;have g1:(i:Int)<(m:Int):=by omega
   have g2:=aI i;have g3:=ah (n:=(i:Int)+1);unfold jL at t0;have g4:=ah (n:=(N:Int)+1);have g5:(0:Int)<=(N:Int)+1:=by omega
   have g6:32*((N:Int)+1)<=281474976710656:=by omega
   have g7:(N:Int)+1<=9223372036854775807:=by omega
   have g8:((N:Int)+1).toNat=N+1:=by omega
   have g9:(i:Int)<(b.length:Int):=by omega
   have i7:(b.flatMap cI)[i]?=some (I (b.getD i 0)):=by
    rw[idx (by omega),zx,zy (by omega)];rfl
   have i9:=fB b i (by omega);have bl:(b.flatMap cI).length=b.length:=aS b;have s9:-1000000<=b.getD i 0/\b.getD i 0<=1000000:=by
    rw[zx,zy (by omega)];exact o2 _ (zu (by omega))
   have k2:=arQ (b:=b) (c:=c) hA (by omega) (by omega) hi;unfold jL at k2;obtain⟨Rw,j0⟩:∃Rw,Rw=(A.drop (i*n)).take n:=⟨_,rfl⟩;rw[<- j0]at k2;have h1:(i+1)*n<=m*n:=zG _ (by omega);rw[yA]at h1;have h5:Rw.length=n:=by rw[j0,zh,zH];omega
   have o7:∀j (h:j<n),Rw[j]'(by omega)=A.getD (i*n+j) 0:=fun j h=>by
    subst j0;rw[List.getElem_take,List.getElem_drop,zx,zy (by omega)];rfl
   have o9:∀j (h:j<n),-1000000<=A.getD (i*n+j) 0/\A.getD (i*n+j) 0<=1000000:=fun j h=>by
    rw[zx,zy (by omega)];exact o0 _ (zu (by omega))
   obtain⟨s,hs,j9⟩:∃s,s=sg b i/\((b.getD i 0<0/\s= -1)\/(¬b.getD i 0<0/\s=1)):=by
    refine⟨_,rfl,?_⟩;unfold sg
    by_cases h:b.getD i 0<0
    .exact .inl ⟨h,if_pos h⟩
    .exact .inr ⟨h,if_neg h⟩
   have k0:s=1\/s= -1:=by rcases j9 with ⟨_,h⟩|⟨_,h⟩<;>simp[h]
   refine fD ?_;rcases j9 with ⟨h8,k3⟩|⟨h8,k3⟩
   all_goals
    conv=>
     enter [1,r,1,1]
     simp only[go_sem,t0,J,G,S,Y,g1,g2,g3,g4,g5,g6,g7,g8,g9,i7,i9,bl,h8,k2]
    generalize hL:aF _ _=z;obtain⟨x,rfl,T1,rfl,t0,J,G,t6,t7,t8,S,Y⟩:=aB hL n (fun j st=>st.T 0= .tp (jL m n A b c) 0/\st.T 4=I N/\st.T 5= .rp (nx+1) 0/\st.T 6=I i/\st.T 7= .rs E 0 (N+1)/\st.T 8=I s/\st.T 34=I m/\st.T 35=I i/\st.T 51= .ts (Rw.flatMap cI) n/\st.T 52=I n/\st.T 53=I j/\st.nx=E+1/\st.σ=upd c3 E (some ⟨(Bl A b m n i j).flatMap zc,2,true⟩))
     (fun x=>∃T,x=(.exit 2,⟨T,upd c3 E (some ⟨(Bl A b m n i n).flatMap zc,2,true⟩),E+1⟩)/\T 0= .tp (jL m n A b c) 0/\T 4=I N/\T 5= .rp (nx+1) 0/\T 6=I i/\T 7= .rs E 0 (N+1)/\T 8=I s/\T 34=I m/\T 35=I i) (by
      clear hL;rintro j ⟨T,σ2,m0⟩ hj ⟨t0,J,G,t6,t7,t8,S,Y,f9,e5,e6,O,c4⟩;simp only at t0 J G t6 t7 t8 S Y f9 e5 e6 O c4;subst O c4;have a1:(j:Int)<(n:Int):=by omega
      have a2:=aI j;have a3:=ah (n:=(j:Int)+1);have a4:(Rw.flatMap cI)[j]?=some (I (A.getD (i*n+j) 0)):=by rw[idx (by omega),o7 j hj]
      have h6:=fB Rw j (by omega);have a5:(Rw.flatMap cI).length=n:=by rw[aS,h5]
      have hx:=o9 j hj;obtain⟨x,ex⟩:∃x,x=A.getD (i*n+j) 0:=⟨_,rfl⟩;rw[<- ex]at a4 hx;have p0:-1000000<=s*x/\s*x<=1000000:=by rcases k0 with h|h<;>rw[h]<;>omega
      have a6:=ah (n:=s*x);have a7:=oS (s*x) (by omega) (by omega);have a8:=aN (c:=zc) (s:=2) iq (Bl A b m n i j);rw[Ag _ _ _ _ _ (by omega),<- hN]at a8;have a9:(j:Int)<((N+1:Nat):Int):=by omega
      have h7:j*2+2<=(N+1)*2:=by omega
      have h9:patch ((Bl A b m n i j).flatMap zc) (j*2) (cZ (s*x))=(Bl A b m n i (j+1)).flatMap zc:=by
       rw[<- aaY,iU iq _ _ (by rw[Ag _ _ _ _ _ (by omega)];omega),<- agw _ _ _ _ _ (by omega)];congr 3;unfold cell0;rw[if_pos hj,<- ex,hs]
      refine .inl ⟨_,by simp only[go_sem,t0,J,G,t6,t7,t8,S,Y,f9,e5,e6,a1,a2,a3,a4,a5,a6,a7,a8,a9,h7,h9,h6];rfl,?_⟩;simp only[go_sem,t0,J,G,t6,t7,t8,S,Y,f9,e5,e6];rfl) (by
      rintro ⟨T,σ2,m0⟩ ⟨t0,J,G,t6,t7,t8,S,Y,f9,e5,e6,O,c4⟩;simp only at t0 J G t6 t7 t8 S Y f9 e5 e6 O c4;subst O c4;have a1:¬(n:Int)<(n:Int):=by omega
      refine⟨_,by simp only[go_sem,e5,e6,a1];rfl,by simp,_,rfl,?_⟩;simp only[go_sem,t0,J,G,t6,t7,t8,S,Y]) (by
      simp only[go_sem,adv,<- hN,k3,jL,t0,J,G,S,Y])
    clear hL;obtain⟨L2,i0⟩:∃L2,L2=(Bl A b m n i n).set (n+i) (1,false):=⟨_,rfl⟩;obtain⟨L3,i1⟩:∃L3,L3=L2.set (n+m) (s*b.getD i 0,false):=⟨_,rfl⟩;have j1:=Ag A b m n i (k:=n) (by omega);have j2:L2.length=n+m+1:=by rw[i0,yG];exact j1
    have t1:L3.length=n+m+1:=by rw[i1,yG];exact j2
    have d1:patch ((Bl A b m n i n).flatMap zc) ((n+i)*2) [Bo false,LI (dg 1)]=L2.flatMap zc:=by
     rw[i0,<- iU iq _ _ (by rw[j1];omega)];rfl
    have d2:patch (L2.flatMap zc) (N*2) (cZ (s*b.getD i 0))=L3.flatMap zc:=by
     rw[i1,hN,<- iU iq _ _ (by rw[j2];omega),<- aaY]
    have d3:=aN (c:=zc) (s:=2) iq (Bl A b m n i n);rw[j1,<- hN]at d3;have d4:=aN (c:=zc) (s:=2) iq L2;rw[j2,<- hN]at d4;have p0:-1000000<=s*b.getD i 0/\s*b.getD i 0<=1000000:=by rcases k0 with h|h<;>rw[h]<;>omega
    have a1:=ah (n:=s*b.getD i 0);have a2:=oS (s*b.getD i 0) (by omega) (by omega);have a3:(n:Int)+(i:Int)=((n+i:Nat):Int):=by omega
    have a4:=ah (n:=((n+i:Nat):Int));have a5:((n+i:Nat):Int)<((N+1:Nat):Int):=by omega
    have a6:(0:Int)<=((n+i:Nat):Int):=by omega
    have a7:(N:Int)<((N+1:Nat):Int):=by omega
    have a8:(n+i)*2+2<=(N+1)*2:=by omega
    have a9:N*2+2<=(N+1)*2:=by omega
    have h7:E<E+1:=by omega
    obtain⟨rV,bV,br,bb,rb,e7,d5,g0,d9,c8,c9,i2⟩:=hM;have t9:nx+1<E:=(c9 _ (by simp)).2;have h9:¬nx+1=E:=by omega
    have h6:¬nx+1=E+1:=by omega
    have k4:¬nx+1=E+1+1:=by omega
    have k5:¬nx+1=E+1+1+1:=by omega
    have k6:¬nx+1=E+1+1+1+1:=by omega
    have k7:nx+1<E+1+1:=by omega
    have k8:nx+1<E+1+1+1:=by omega
    have k9:nx+1<E+1+1+1+1:=by omega
    have l1:1<=maxLen:=by decide
    have l2:nx+1<E+1+1+1+1+1:=by omega
    have l3:E+1+1+1<E+1+1+1+1:=by omega
    have l4:E+1+1<E+1+1+1:=by omega
    have l5:E+1<E+1+1:=by omega
    have l6:¬E+1=nx+1:=by omega
    have e8:¬E+1+1=nx+1:=by omega
    have l7:¬E+1+1+1=nx+1:=by omega
    have i3:¬E+1+1+1+1=nx+1:=by omega
    unfold jL at t0;rcases d5 with ⟨hi0,rfl,rfl,rfl⟩|⟨hk,rfl,rfl,j3,j4,a0,R_,Si,l8,j5,l9,j6⟩
    .refine⟨_,by simp only[go_sem,t0,J,G,t6,t7,t8,S,Y,e7,k1,f3,g1,g2,g3,g9,i7,i9,bl,d1,d2,d3,d4,a1,a2,a3,a4,a5,a6,a7,a8,a9,h7,h9,h6,k4,k5,k6,k7,k8,k9,l1,l6,e8,l7,i3,l2,l3,l4,l5];rfl,.inl ⟨_,rfl,?_⟩⟩
     simp only[go_sem,t0,J,G,S,Y];refine⟨rfl,rfl,by omega,fun x hx=>?_,PG (L:=L3) hi g0 d9 c8 c9 i2 (by rw[i1,i0,hs];exact PE A b hi) ?_ ?_ ?_ ?_ fun x hx=>?_⟩
     .rw[ay,ay,ay,ay,ay,ay,ay]
      exact e4 x hx
     .rw[upd_same,hi0]
     .rw[upd_ne _ _ e8,ay,ay,upd_ne _ _ e8,upd_same,hN];rfl
     .rw[upd_ne _ _ i3,upd_same,hi0];rfl
     .rw[ay,ay,ay,ay,ay,ay,upd_same]
     .rw[List.mem_singleton.mp hx]
      rw[ay,ay,ay,ay,ay,ay,ay]
    .have b1:(rb.map fun b=>V.rs b 0 (n+m+1)).length=i:=by rw[zO,g0]
     have b2:((iT ((List.range i).map fun i=>n+i)).flatMap cI).length=i:=by rw[aS,fZ];simp
     have b3:¬i+1<=i:=by omega
     have b4:i+1<=maxLen:=by unfold maxLen;omega
     have b5:(i+1)*24<=140737488355328:=by omega
     have b6:(i+1)*8<=140737488355328:=by omega
     have b7:¬br=E:=by omega
     have b8:¬br=E+1:=by omega
     have b9:¬bb=E:=by omega
     have p1:¬bb=E+1:=by omega
     have p2:¬bb=E+1+1:=by omega
     have p3:¬bb=E+1+1+1:=by omega
     have m1:¬bb=nx+1:=fun e=>Si (by simp[e])
     have m2:¬br=nx+1:=fun e=>R_ (by simp[e])
     have p4:¬bb=br:=yu a0;have p5:¬nx+1=br:=yu m2;have p6:¬nx+1=bb:=yu m1;have p7:bb<E+1+1+1:=by omega
     have p8:bb<E+1+1+1+1:=by omega
     refine⟨_,by simp only[go_sem,t0,J,G,t6,t7,t8,S,Y,e7,k1,f3,g1,g2,g3,g9,i7,i9,bl,d1,d2,d3,d4,a1,a2,a3,a4,a5,a6,a7,a8,a9,h7,h9,h6,k4,k5,k6,k7,k8,k9,l1,l6,e8,l7,i3,l2,l3,l4,l5,j3,j4,b1,b2,b3,b4,b5,b6,b7,b8,b9,p1,p2,p3,m1,m2,p4,p5,p6,p7,p8];rfl,.inl ⟨_,rfl,?_⟩⟩;simp only[go_sem,t0,J,G,S,Y];refine⟨rfl,rfl,by omega,fun x hx=>?_,PG (L:=L3) hi g0 d9 c8 c9 i2 (by rw[i1,i0,hs];exact PE A b hi) ?_ ?_ ?_ ?_ fun x hx=>?_⟩
     .repeat rw[ay]
      exact e4 x hx
     .rw[upd_same]
     .rw[upd_ne _ _ e8,ay,ay,ay,upd_ne _ _ e8,upd_same,hN]
     .rw[upd_ne _ _ i3,upd_same]
     .repeat rw[ay]
      rw[upd_same]
     .have u0:=c9 x (zY _ hx)
      have e1:x≠nx+1:=fun e=>by subst e;exact(List.nodup_cons.mp c8).1 hx
      have e2:x≠br:=fun e=>by subst e;exact R_ (zY _ hx)
      have e3:x≠bb:=fun e=>by subst e;exact Si (zY _ hx)
      repeat rw[ay]) (by
   rintro ⟨T,c3,E⟩ ⟨t0,J,G,S,Y,h3,e4,hM⟩;simp only at t0 J G S Y h3 e4 hM;have g1:¬(m:Int)<(m:Int):=by omega
   refine⟨_,by simp only[go_sem,S,Y,g1];rfl,by simp,_,_,_,rfl,?_⟩;exact⟨t0,J,G,h3,e4,hM⟩) (by
   simp only[go_sem];refine⟨rfl,by omega,fun x hx=>?_,?_⟩
   .rw[ay,ay]
   .refine⟨.nil,.nil,0,0,[],?_,.inl ⟨rfl,rfl,rfl,rfl⟩,rfl,fun i h=>absurd h (zW _),by simp,by simp;omega,?_⟩
    .rw[upd_same,hN]
    .rw[ay,upd_same,<- hN,<- agv])
 clear hL;obtain⟨rV,bV,br,bb,rb,e7,d5,g0,d9,c8,c9,i2⟩:=hM;obtain⟨-,rfl,rfl,j3,j4,a0,R_,Si,l8,j5,l9,j6⟩:0<m/\rV= .rs br 0 m/\bV= .rs bb 0 m/\c3 br=some ⟨rb.map fun b=>V.rs b 0 (n+m+1),1,true⟩/\c3 bb=some ⟨(iT ((List.range m).map fun i=>n+i)).flatMap cI,1,true⟩/\br≠bb/\br∉(nx+1) :: nx :: rb/\bb∉(nx+1) :: nx :: rb/\nx<=br/\br<E/\nx<=bb/\bb<E:=by
  rcases d5 with ⟨h,_⟩|h
  .omega
  .exact h
 have u1:nx+1<E:=(c9 _ (by simp)).2;have c1:8*(N:Int)<=281474976710656:=by omega
 unfold jL at t0;rw[<- hN]at e7;simp only[go_sem,t0,J,G,f2,f3,c1,f5];generalize hL:aF _ _=z
 obtain⟨x,rfl,T2,σ2,rfl,t0,J,G,c5,p9,q0,h2⟩:=aB hL N (fun k st=>st.T 0= .tp (jL m n A b c) 0/\st.T 4=I N/\st.T 5= .rp (nx+1) 0/\st.T 11= .rs E 0 N/\st.T 117=I N/\st.T 118=I k/\st.nx=E+1 /\
   st.σ nx=some ⟨(pm (fun j=>decide (j<n)) (fun _=>false) k N).flatMap FV,1,true⟩/\st.σ E=some ⟨(pm (fun j=>if j<n then(0:Int)else -1) (fun _=>0) k N).flatMap cI,1,true⟩/\∀x,x<E->x≠nx->st.σ x=c3 x)
  (fun x=>∃T σ2,x=(.exit 4,⟨T,σ2,E+1⟩)/\T 0= .tp (jL m n A b c) 0/\T 4=I N/\T 5= .rp (nx+1) 0/\T 11= .rs E 0 N /\
   σ2 nx=some ⟨(ZE m n).flatMap FV,1,true⟩/\σ2 E=some ⟨(o1L m n).flatMap cI,1,true⟩/\∀x,x<E->x≠nx->σ2 x=c3 x) (by
   clear hL;rintro k ⟨T,σ2,m0⟩ hk ⟨t0,J,G,c5,c0,e9,O,hf,ho,hs⟩;simp only at t0 J G c5 c0 e9 O hf ho hs;subst O;have g1:(k:Int)<(N:Int):=by omega
   have g2:=aI k;have g3:=ah (n:=(k:Int)+1);have MS:=(hs (nx+1) (by omega) (by omega)).trans e7;have q1:nx+1<E+1:=by omega
   have q2:nx<E+1:=by omega
   have q3:¬nx+1=nx:=by omega
   have q4:¬nx=nx+1:=by omega
   have q5:¬E=nx:=by omega
   have q6:((pm (fun j=>decide (j<n)) (fun _=>false) k N).flatMap FV).length=N:=by rw[aa0,qN,yN]
   have q7:((pm (fun j=>if j<n then(0:Int)else -1) (fun _=>0) k N).flatMap cI).length=N:=by rw[aS,qN]
   have q8:k+1<=N:=hk;unfold jL at t0;have e1:∀bb,bb=decide (k<n)->((pm (fun j=>decide (j<n)) (fun _=>false) k N).flatMap FV).set k (Bo bb)=(pm (fun j=>decide (j<n)) (fun _=>false) (k+1) N).flatMap FV:=fun bb h=>by
    rw[RU,h,MX (fun j=>decide (j<n)) (fun _=>false) hk]
   by_cases d6:k<n
   .have g4:(k:Int)<(n:Int):=by omega
    have g5:¬(n:Int)<=(k:Int):=by omega
    have e2:=e1 true (by rw[vw d6]);have e3:=RY (fun j=>if j<n then(0:Int)else -1) (fun _=>0) (k:=k) (N:=N) (by simp only[if_pos d6]);refine .inl ⟨_,by simp only[go_sem,t0,J,G,c5,c0,e9,MS,hf,ho,hk,g1,g2,g3,g4,g5,q1,q2,q3,q4,q5,q6,q7,q8,e2];rfl,?_⟩;simp only[go_sem,t0,J,G,c5,c0,q5];exact⟨rfl,rfl,by rw[ho,e3],fun x hx a0=>by rw[upd_ne _ _ a0];exact hs x hx a0⟩
   .have g4:¬(k:Int)<(n:Int):=by omega
    have g5:(n:Int)<=(k:Int):=by omega
    have e2:=e1 false (by rw[vk d6]);have e3:((pm (fun j=>if j<n then(0:Int)else -1) (fun _=>0) k N).flatMap cI).set k (I (-1))=(pm (fun j=>if j<n then(0:Int)else -1) (fun _=>0) (k+1) N).flatMap cI:=by
     rw[jV,<- MX (fun j=>if j<n then(0:Int)else -1) (fun _=>0) hk];simp only[if_neg d6]
    refine .inl ⟨_,by simp only[go_sem,t0,J,G,c5,c0,e9,MS,hf,ho,hk,g1,g2,g3,g4,g5,q1,q2,q3,q4,q5,q6,q7,q8,e2,e3];rfl,?_⟩;simp only[go_sem,t0,J,G,c5,c0,q5];refine⟨rfl,rfl,?_,fun x hx a0=>?_⟩
    .rw[ay,upd_same]
    .rw[ay,upd_ne _ _ a0];exact hs x hx a0) (by
   rintro ⟨T,σ2,m0⟩ ⟨t0,J,G,c5,c0,e9,O,hf,ho,hs⟩;simp only at t0 J G c5 c0 e9 O hf ho hs;subst O;have g1:¬(N:Int)<(N:Int):=by omega
   refine⟨_,by simp only[go_sem,c0,e9,g1];rfl,by simp,_,_,rfl,?_⟩;simp only[go_sem,t0,J,G,c5];rw[RZ]at hf ho;unfold ZE o1L;rw[<- hN];exact⟨hf,ho,hs⟩) (by
   simp only[go_sem,t0,J,G];refine⟨rfl,?_,?_,fun x hx _=>?_⟩
   .rw[ay,G9,Du,hN];exact i2
   .rw[G9,Du,<- lT]
   .rw[ay])
 clear hL;have d7:∀x∈(nx+1) :: br :: bb :: nx :: rb,nx<=x/\x<E:=fun x hx=>by
  simp only[zX]at hx;rcases hx with h|h|h|h|h
  .exact c9 x (by simp[h])
  .subst h;exact⟨l8,j5⟩
  .subst h;exact⟨l9,j6⟩
  .exact c9 x (by simp[h])
  .exact c9 x (by simp[h])
 have m3:((nx+1) :: br :: bb :: nx :: rb).Nodup:=by
  simp only[xg,zX,not_or]at c8 R_ Si⊢;exact⟨⟨fun e=>R_.1 e.symm,fun e=>Si.1 e.symm,c8.1.1,c8.1.2⟩,⟨a0,R_.2.1,R_.2.2⟩,⟨Si.2.1,Si.2.2⟩,c8.2.1,c8.2.2⟩
 have hT:lD σ2 (nx+1) br bb nx rb (D0 A b m n m) (n+m):=by
  obtain⟨n1,n2,n3,n4,n5,n6,n7,n8⟩:=nd4 m3;have h5:(D0 A b m n m).R.length=m:=by simp[D0,qB]
  refine⟨?_,⟨[],?_⟩,fun i hi=>?_,⟨[],?_⟩,p9,by rw[h5,g0],m3⟩
  .rw[h2 (nx+1) (by omega) (by omega),e7,h5,hN];rfl
  .rw[h2 br j5 n5,j3,zM]
  .have r0:=zu hi
   have:=d7 rb[i] (by simp);have e:nS (D0 A b m n m).R i=row0 A b m n i:=by
    unfold D0 qB nS;rw[zx,yX,List.getElem?_range (by omega)];rfl
   rw[e];exact(d9 i hi).congr (h2 _ this.2 (n7 _ r0).2.2.2)
  .rw[h2 bb j6 n6,j4,zM];rfl
 obtain⟨u2,u5⟩:=TF _ i6;obtain⟨d8,dI,f8,D1,ke,d0,MR,s8,r1⟩:=arP Q1 TF f7 (aj2 m n) i6 o3 hT (nx:=E+1) (fun x hx=>by have:=d7 x hx;omega) q0 (by omega) (fun hx=>by have:=d7 E hx;omega);rw[<- hN]at ke;obtain⟨r2,m4,m5,rfl,r3⟩:=alr f7 d0 i6;have f0:=(TF _ m5).1.free (fr:=m4) (by rw[r3];exact(TF _ m5).1.V7);obtain⟨D1,r4⟩:∃D1:TZ,D1={ r2 with fr:=m4 }:=⟨_,rfl⟩;rw[<- r4]at MR d0 f0;have JZ:=MR.t;have i4:nx+1<dI:=by omega
 simp only[go_sem,bM,t0,J,G,c5,ke,JZ,i4];generalize hL:aF _ _=z;obtain⟨n1,n2,n3,n4,n5,n6,n7,n8⟩:=nd4 MR.nd;have u6:=f0.BO;have r5:=MR.len;obtain⟨Oj,m6⟩:=MR.r;obtain⟨Ky,j7⟩:=MR.b;have u7:(iT D1.B).length=D1.R.length:=by rw[fZ];exact f0.fV
 obtain⟨x,rfl,hx⟩:=aB hL D1.R.length (fun i st=>st.T 0= .tp (jL m n A b c) 0/\st.T 4=I N/\st.T 5= .rp (nx+1) 0/\st.T 149= .rs bb 0 D1.R.length/\st.T 150=I D1.R.length/\st.T 151=I i/\st.σ=d8/\st.nx=dI/\∀j,j<i->n<=D1.B.getD j 0->¬0<en D1.R j (n+m))
  (fun x=>∃T,(x=(.exit 6,⟨T,d8,dI⟩)/\T 0= .tp (jL m n A b c) 0/\T 5= .rp (nx+1) 0/\∀j,j<D1.R.length->n<=D1.B.getD j 0->¬0<en D1.R j (n+m)) \/
   (x=(.ret,⟨T,d8,dI⟩)/\T 2= .sc (.pointer none)/\T 3=Bo false/\∃i,i<D1.R.length/\n<=D1.B.getD i 0/\0<en D1.R i (n+m))) (by
   clear hL;rintro i ⟨T,kP,uP⟩ hi ⟨t0,J,G,Wv,Sj,ZF,c4,h0,c6⟩;simp only at t0 J G Wv Sj ZF c4 h0;subst c4 h0;have g1:(i:Int)<(D1.R.length:Int):=by omega
   have g2:=aI i;have g3:=ah (n:=(i:Int)+1);have g4:((iT D1.B).flatMap cI++Ky)[i]?=some (I ((D1.B.getD i 0:Nat):Int)):=by
    rw[zV (by rw[aS];omega),idx (by omega),kN (by have:=f0.fV;omega)]
   unfold jL at t0;have next:∀(hn:n<=D1.B.getD i 0->¬0<en D1.R i (n+m)),∀j,j<i+1->n<=D1.B.getD j 0->¬0<en D1.R j (n+m):=fun hn j hj h=>by
    by_cases e:j=i
    .subst e;exact hn h
    .exact c6 j (by omega) h
   by_cases m7:n<=D1.B.getD i 0
   .have g5:(n:Int)<=((D1.B.getD i 0:Nat):Int):=by omega
    have m8:i<rb.length:=by omega
    have f6:=En (ex:=Oj) (n:=n+m+1) m8;obtain⟨bi,uN⟩:∃bi,bi=rb[i]:=⟨_,rfl⟩;rw[<- uN]at f6;obtain⟨Li,RQ,EC,RS⟩:=MR.row i m8;have m9:kP bi=some ⟨Li.flatMap zc,2,true⟩:=by rw[uN];exact RQ
    have rl:(nS D1.R i).length=n+m+1:=by rw[kJ hi];exact f0.row _ (zu hi)
    have JX:Li.length=n+m+1:=by have:=congrArg List.length EC;rw[zO,rl]at this;exact this
    have b7:=aN (c:=zc) (s:=2) iq Li;rw[JX]at b7;have g6:=slot (c:=zc) (s:=2) iq Li N (by omega);have g7:N*2+2<=(n+m+1)*2:=by omega
    have g8:(N:Int)<((n+m+1:Nat):Int):=by omega
    obtain⟨hq,e⟩:=Px EC (c:=N) (by rw[rl];omega);have e2:(nS D1.R i)[N]'(by rw[rl];omega)=en D1.R i (n+m):=by
     unfold en;rw[zx,zy (by rw[rl];omega)];simp only[hN];rfl
    have z1:∀σ d,stripL (strip σ d) (zc Li[N])=some (cZ (en D1.R i (n+m)),[]):=fun σ d=>by
     rw[nY σ d (RS _ (zu hq)),e,e2]
    have k1:=C_ (en D1.R i (n+m));have c1:=Em (en D1.R i (n+m))
    by_cases e0:0<en D1.R i (n+m)
    .have c2:0<dB (en D1.R i (n+m)) 0:=by
      have:=mt c1.mp (fun h=>h e0);omega
     refine .inr ⟨_,by simp only[go_sem,t0,J,G,Wv,Sj,ZF,JZ,j7,m6,m9,f3,f6,g1,g2,g3,g4,g5,g6,g7,g8,b7,z1,k1,c2];rfl,by simp,_,.inr ⟨rfl,?_⟩⟩;simp only[go_sem];exact⟨i,hi,m7,e0⟩
    .have c2:¬0<dB (en D1.R i (n+m)) 0:=by
      have:=c1.mpr e0;omega
     refine .inl ⟨_,by simp only[go_sem,t0,J,G,Wv,Sj,ZF,JZ,j7,m6,m9,f3,f6,g1,g2,g3,g4,g5,g6,g7,g8,b7,z1,k1,c2];rfl,?_⟩;simp only[go_sem,t0,J,G,Wv,Sj];exact⟨rfl,rfl,next fun _=>e0⟩
   .have g5:¬(n:Int)<=((D1.B.getD i 0:Nat):Int):=by omega
    refine .inl ⟨_,by simp only[go_sem,t0,J,G,Wv,Sj,ZF,j7,g1,g2,g3,g4,g5];rfl,?_⟩;simp only[go_sem,t0,J,G,Wv,Sj];exact⟨rfl,rfl,next fun h=>absurd h m7⟩) (by
   rintro ⟨T,kP,uP⟩ ⟨t0,J,G,Wv,Sj,ZF,c4,h0,c6⟩;simp only at t0 J G Wv Sj ZF c4 h0;subst c4 h0;have g1:¬(D1.R.length:Int)<(D1.R.length:Int):=by omega
   refine⟨_,by simp only[go_sem,Sj,ZF,g1];rfl,by simp,_,.inl ⟨rfl,?_⟩⟩;simp only[go_sem,t0,G];exact c6) (by
   simp only[go_sem,t0,J,G];exact fun j hj=>absurd hj (zW j))
 clear hL;have i5:∀x,x<nx->d8 x=σ x:=fun x hx=>by
  have e1:=r1 x (by omega) (fun h=>by
   have:=d7 x (by simp only[zX]at h⊢;rcases h with h|h|h|h<;>simp[h]);omega)
  rw[e1,h2 x (by omega) (by omega),o6 x hx]
 rcases hx with ⟨T3,⟨rfl,t0,G,c6⟩|⟨rfl,t2,t3,hi⟩⟩
 .unfold jL at t0
  have r6:=MR.f;have r7:D1.fr.length=N:=by rw[f0.V7,hN]
  have n0:nx<dI:=by omega
  simp only[go_sem,t0,G,JZ,i4];generalize hL:aF _ _=z
  obtain⟨x,rfl,T4,kP,rfl,t0,G,r8,h4⟩:=aB hL N (fun k st=>st.T 0= .tp (jL m n A b c) 0/\st.T 5= .rp (nx+1) 0/\st.T 181=I N/\st.T 182=I k/\st.nx=dI /\
    st.σ nx=some ⟨(pm (fun j=>decide (j<n)) (fun j=>D1.fr.getD j false) k N).flatMap FV,1,true⟩/\∀x,x≠nx->st.σ x=d8 x)
   (fun x=>∃T kP,x=(.exit 8,⟨T,kP,dI⟩)/\T 0= .tp (jL m n A b c) 0/\T 5= .rp (nx+1) 0/\kP nx=some ⟨(ZE m n).flatMap FV,1,true⟩/\∀x,x≠nx->kP x=d8 x) (by
    clear hL;rintro k ⟨T,kP,m0⟩ hk ⟨t0,G,Wx,c7,O,hf,hs⟩;simp only at t0 G Wx c7 O hf hs;subst O;have g1:(k:Int)<(N:Int):=by omega
    have g2:=aI k;have g3:=ah (n:=(k:Int)+1);have n9:=(hs (nx+1) (by omega)).trans JZ;have q3:¬nx+1=nx:=by omega
    have q4:¬nx=nx+1:=by omega
    have q6:((pm (fun j=>decide (j<n)) (fun j=>D1.fr.getD j false) k N).flatMap FV).length=N:=by rw[aa0,qN,yN]
    have q8:k+1<=N:=hk;have q9:(k:Int)<((n+m:Nat):Int):=by omega
    unfold jL at t0;have e1:∀bb,bb=decide (k<n)->((pm (fun j=>decide (j<n)) (fun j=>D1.fr.getD j false) k N).flatMap FV).set k (Bo bb)=(pm (fun j=>decide (j<n)) (fun j=>D1.fr.getD j false) (k+1) N).flatMap FV:=fun bb h=>by
     rw[RU,h,MX (fun j=>decide (j<n)) (fun j=>D1.fr.getD j false) hk]
    by_cases d6:k<n
    .have g4:(k:Int)<(n:Int):=by omega
     have e2:=e1 true (by rw[vw d6]);refine .inl ⟨_,by simp only[go_sem,t0,G,Wx,c7,n9,hf,hk,g1,g2,g3,g4,i4,n0,q3,q4,q6,q8,q9,e2];rfl,?_⟩;simp only[go_sem,t0,G,Wx];exact⟨rfl,rfl,fun x a0=>by rw[upd_ne _ _ a0];exact hs x a0⟩
    .have g4:¬(k:Int)<(n:Int):=by omega
     have e2:=e1 false (by rw[vk d6]);refine .inl ⟨_,by simp only[go_sem,t0,G,Wx,c7,n9,hf,hk,g1,g2,g3,g4,i4,n0,q3,q4,q6,q8,q9,e2];rfl,?_⟩;simp only[go_sem,t0,G,Wx];exact⟨rfl,rfl,fun x a0=>by rw[upd_ne _ _ a0];exact hs x a0⟩) (by
    rintro ⟨T,kP,m0⟩ ⟨t0,G,Wx,c7,O,hf,hs⟩;simp only at t0 G Wx c7 O hf hs;subst O;have g1:¬(N:Int)<(N:Int):=by omega
    refine⟨_,by simp only[go_sem,Wx,c7,g1];rfl,by simp,_,_,rfl,?_⟩;simp only[go_sem,t0,G];rw[RZ]at hf;unfold ZE;rw[<- hN];exact⟨hf,hs⟩) (by
    simp only[go_sem,t0,G,<- hN];refine⟨rfl,?_⟩;rw[G9,ZC _ r7];exact⟨r6,fun _ _=>trivial⟩)
  clear hL;have r9:=MR.free (fr:=ZE m n) (σ':=kP) r8 h4;obtain⟨jY,aQ,s1,D5,s2,BP,u9,s3,s4,s5,s6⟩:=anC Q2 o4 (Nat.le_add_right n m) h1 o5 (j8 D1 f8 d0 c6) r9 (nx:=dI) (fun x hx=>by have:=d7 x hx;omega);unfold jL at t0;refine⟨_,by simp only[go_sem,bM,t0,G,s2];rfl,?_⟩;refine⟨jY,aQ,by omega,fun x hx=>?_,D1,f8,d0,.inr ⟨nx+1,br,bb,nx,s1,D5,rfl,c6,BP,s3,s4,fun x hx=>?_⟩⟩
  .rw[s6 x (by omega) (fun h=>by
    have:=d7 x (by simp only[zX]at h⊢;rcases h with h|h|h|h<;>simp[h]);omega),h4 x (by omega),i5 x hx]
  .have:=d7 x (by
    simp only[zX]at hx⊢;rcases hx with h|h|h|h|h
    .exact .inl h
    .exact .inr (.inl h)
    .exact .inr (.inr (.inl h))
    .exact .inr (.inr (.inr (.inl h)))
    .exact .inr (.inr (.inr (.inr (s5.subset h)))))
   omega
 .refine⟨_,by simp only[go_sem,t2,t3],d8,dI,by omega,i5,D1,f8,d0,.inl ⟨rfl,hi⟩⟩
def dR(A b c:List Int)(m n:Nat):Prog:=⟨m,n,fun j k=>((sg b k*A.getD (k*n+j) 0:Int):Rat),fun k=>((sg b k*b.getD k 0:Int):Rat),fun j=>((c.getD j 0:Int):Rat)⟩
structure J3 (A b c:List Int) (m n:Nat):Prop where
 hA:A.length=m*n
 hb:b.length=m
 hc:c.length=n
 m0:0<m
 hm:m<=12
 hn:n<=16
 bA:∀x∈A,-1000<=x/\x<=1000
 bb:∀x∈b,-1000<=x/\x<=1000
 bc:∀x∈c,-1000<=x/\x<=1000
theorem n_ {l:List Int}(h:∀x∈l,-1000<=x/\x<=1000)(i:Nat):-1000<=l.getD i 0/\l.getD i 0<=1000:=by
 rw[zx]
 by_cases hi:i<l.length
 .rw[zy hi];exact h _ (zu hi)
 .rw[yc (by omega)];simp
theorem Wy(b:List Int)(i:Nat):sg b i=1\/sg b i= -1:=by
 unfold sg;split<;>simp
theorem PI {b:List Int} {i:Nat} {x:Int}(h:-1000<=x/\x<=1000):(sg b i*x).natAbs<=1000:=by
 rcases Wy b i with e|e<;>rw[e]<;>omega
theorem adx(b:List Int)(i:Nat):0<=sg b i*b.getD i 0:=by
 unfold sg
 split<;>omega
section
variable {A b c:List Int} {m n:Nat}
theorem oV(h:J3 A b c m n):Whole (dR A b c m n) 1000 :=
 ⟨by decide,fun j k _ _=>⟨_,rfl,PI (n_ h.bA _)⟩,fun k _=>⟨_,rfl,PI (n_ h.bb _)⟩⟩
theorem tH:(dR A b c m n).Good (dR A b c m n).T0:=Prog.ari fun k _=>by
 show(0:Rat)<=((sg b k*b.getD k 0:Int):Rat)
 exact_mod_cast adx b k
theorem Sl:∀m,m<=12->ln (fact 1000 m)<=m+1
 |0,_=>by show ln 1<=1;exact lS (by decide)
 |m+1,h=>by
  show ln ((m+1)*(1000*fact 1000 m))<=_;rw[<- Nat.mul_assoc];have E:=qL ((m+1)*1000) (fact 1000 m);have G:=Sl m (by omega);have J:ln ((m+1)*1000)<=1:=lS (by omega);omega
theorem WA {i j k:Nat}(hi:i<k)(E:j<n+m+1):en (qB A b m n k) i j=cell0 A b m n i j:=by
 have e:nS (qB A b m n k) i=row0 A b m n i:=by
  unfold qB nS;rw[zx,yX,List.getElem?_range hi];rfl
 unfold en;rw[e,zx,zy (by rw[jI];exact E),Af _ _ _ _ _ E];rfl
theorem mM {k i:Nat}(h:i<k):(List.range k).getD i 0=i:=by
 rw[zx,List.getElem?_range h];rfl
theorem view0:Vw (dR A b c m n) (dR A b c m n).T0 (D0 A b m n m) (List.range m):=by
 have E:(D0 A b m n m).R.length=m:=by simp[D0,qB]
 have Y:∀i,i<m->(D0 A b m n m).B.getD i 0=n+i:=fun i hi=>by
  unfold D0;rw[zx,yX,List.getElem?_range hi];rfl
 refine⟨by rw[E];simp,by rw[E];simp[D0],fun x hx=>?_,fun r J=>List.mem_range.mp J,List.nodup_range,fun i j hi hj=>?_,fun i hi=>?_,fun i hi=>?_,Int.zero_lt_one,.inl ?_,fun r J hn=>absurd (List.mem_range.mpr J) hn⟩
 .obtain⟨i,-,rfl⟩:=List.mem_map.mp hx
  rw[jI];rfl
 .rw[E]at hi
  have O:j<n+m:=hj;rw[mM hi];show((en (qB A b m n m) i j:Int):Rat)=((1:Int):Rat)*(dR A b c m n).A j i;rw[WA hi (by omega)];unfold cell0 Prog.A;show _=((1:Int):Rat)*(if j<n then _ else if i+n=j then 1 else 0)
  by_cases G:j<n
  .rw[if_pos G,if_pos G]
   show((sg b i*A.getD (i*n+j) 0:Int):Rat)=((1:Int):Rat)*((sg b i*A.getD (i*n+j) 0:Int):Rat);generalize ((sg b i*A.getD (i*n+j) 0:Int):Rat)=q;have:((1:Int):Rat)=1:=rfl;rw[this];grind
  .rw[if_neg G,if_neg G,if_pos O]
   by_cases S:j=n+i
   .rw[if_pos S,if_pos (by omega)];decide+kernel
   .rw[if_neg S,if_neg (by omega)];decide+kernel
 .rw[E]at hi
  rw[mM hi];show((en (qB A b m n m) i (n+m):Int):Rat)=((1:Int):Rat)*((sg b i*b.getD i 0:Int):Rat);rw[WA hi (by omega)];unfold cell0;rw[if_neg (by omega),if_neg (by omega)];generalize ((sg b i*b.getD i 0:Int):Rat)=q;have:((1:Int):Rat)=1:=rfl;rw[this];grind
 .rw[E]at hi
  rw[mM hi,Y i hi];show n+i=i+n;omega
 .show((1:Int):Rat)=Lp.jF m fun q=>(dR A b c m n).A (q+n)
  have:=Rx m;rw[<- show Lp.jF m (fun i k=>if i=k then(1:Rat)else 0)=Lp.jF m fun q=>(dR A b c m n).A (q+n)from rM fun i k _ _=>by
   have e:=Prog.Bc (p:=dR A b c m n) (i:=i) (k:=k);rw[show(dR A b c m n).A (i+n) k=(dR A b c m n).A (i+(dR A b c m n).n) k from rfl,e]
   by_cases h:i=k
   .rw[if_pos h,if_pos h.symm]
   .rw[if_neg h,if_neg (yu h)],this]
  rfl
theorem agz {p:Prog} {T:Tab} {D:TZ} {ι:List Nat}(h:Vw p T D ι):D.R.length<=p.m:=by
 rw[<- h.len];have G:ι ⊆ List.range p.m:=fun r J=>List.mem_range.mpr (h.lt r J)
 have E:=h.nd.length_le_of_subset G;rw[List.length_range]at E;exact E
theorem aj8(hp:J3 A b c m n) {T:Tab} {D:TZ} {ι:List Nat}(h:Vw (dR A b c m n) T D ι)(E:(dR A b c m n).Good T):(∀i j,i<D.R.length->j<=n+m->ln (en D.R i j).natAbs<=13)/\ln D.fM.natAbs<=13:=by
 obtain⟨G,J⟩:=h.bound E (oV hp);have hm:=hp.hm;have O:=Sl m hm;have e:fact 1000 (dR A b c m n).m=fact 1000 m:=rfl;refine⟨fun i j hi S=>?_,?_⟩
 .have:=fQ (G i j hi S)
  rw[e]at this;omega
 .have:=fQ J
  rw[e]at this;omega
theorem G_(hp:J3 A b c m n) {T:Tab} {D:TZ} {ι:List Nat}(h:Vw (dR A b c m n) T D ι)(E:(dR A b c m n).Good T)(G:D.fr.length=n+m):V6 D (n+m)/\0<D.fM:=by
 obtain⟨J,O⟩:=h.bound E (oV hp);have S:=agz h;have hm:=hp.hm;have hn:=hp.hn;have Y:D.R.length<=m:=S;have a0:=Sl m hm;refine⟨⟨h.row,h.fV,by omega,G,by omega,fun i j hi hj=>?_,?_,fun i hi=>?_⟩,h.pos⟩
 .have:=fQ (J i j hi hj)
  have e:fact 1000 (dR A b c m n).m=fact 1000 m:=rfl;rw[e]at this;omega
 .have:=fQ O
  have e:fact 1000 (dR A b c m n).m=fact 1000 m:=rfl;rw[e]at this;omega
 .rw[h.gU i hi]
  exact E.ok.bn _ (h.io hi)
end
theorem JA {o E:Nat->Int}(k:Nat):∀(R:List (List Int)) (B:List Nat),(∀x∈B,o x=E x)->oJ o k R B=oJ E k R B
 |[],_,_=>by simp[oJ]
 |_ :: _,[],_=>by simp[oJ]
 |x :: R,y :: B,h=>by
  unfold oJ;rw[JA k R B fun z G=>h z (zY _ G),h y (by simp)]
theorem nk {o E:Nat->Int} {D:TZ} {N k:Nat}(h:∀j,j<N->o j=E j)(G:k<N)(J:∀x∈D.B,x<N):gV D o k=gV D E k:=by
 unfold gV;rw[h k G,JA k D.R D.B fun x O=>h x (J x O)]
theorem FX {o G:Nat->Int} {N:Nat}(h:∀j,j<N->o j=G j) {D J:TZ}(O:∀x∈D.B,x<N)(hs:tq N o D J):tq N G D J:=by
 obtain⟨s,r,E,S,Y⟩:=hs;refine⟨s,r,⟨E.lt,E.fr,E.non,?_,fun j hj hf hm=>?_⟩,S,Y⟩
 .rw[<- nk h E.lt O];exact E.pos
 .rw[<- nk h (by have:=E.lt;omega) O];exact E.low j hj hf hm
theorem MZ {o J:Nat->Int} {N:Nat}(h:∀j,j<N->J j=o j) {Q:TZ->Prop}(O:∀D,Q D->∀x∈D.B,x<N)(E:∀D G,Q D->tq N J D G->Q G):∀ {k:Nat} {D:TZ},Q D->GY N o k D->GY N J k D
 |0,_,_,hn=>hn
 |k+1,D,hq,hn=>fun G hs=>MZ h O E (E D G hq hs) (hn G (FX h (O D hq) hs))
theorem ady {o o':Nat->Int} {N:Nat}(h:∀j,j<N->o j=o' j) {Q:TZ->Prop}(hQ:∀D,Q D->∀x∈D.B,x<N)(a0:∀D G,Q D->tq N o D G->Q G) {D G:TZ} {J:Bool}(hq:Q D)(hm:Rz N o D J G):Rz N o' D J G:=by
 obtain⟨D1,hr,O⟩:=hm;have S:tu N o' D D1/\Q D1:=by
  clear O
  induction hr with
  |refl=>exact⟨.refl _,hq⟩
  |tail O Y ih=>exact⟨.tail ih.1 (FX h (hQ _ ih.2) Y),a0 _ _ ih.2 Y⟩
 have hB:=hQ _ S.2;refine⟨D1,S.1,?_⟩;rcases O with ⟨e,O,fr,⟨a1,a2⟩,h3⟩|⟨e,Y,s,h3,h4⟩
 .refine .inl ⟨e,fun j E hf hm=>?_,fr,⟨a1,fun j E=>?_⟩,h3⟩
  .rw[<- nk h E hB];exact O j E hf hm
  .rw[<- nk h E hB];exact a2 j E
 .refine .inr ⟨e,Y,s,⟨h3.lt,h3.fr,h3.non,?_,fun j E hf hm=>?_⟩,h4⟩
  .rw[<- nk h h3.lt hB];exact h3.pos
  .rw[<- nk h (by have:=h3.lt;omega) hB];exact h3.low j E hf hm
theorem M_ {D:TZ} {N:Nat}(h:V6 D N):∀x∈D.B,x<N:=fun x E=>by
 obtain⟨i,hi,e⟩:=gJ E;rw[<- e];exact h.inB i (by rw[<- h.fV];exact hi)
def KA(m n:Nat)(c:List Int)(q:Nat):List Int:=(List.range (n+m)).map (oq n (fun j=>c.getD j 0) q)
theorem WB(f:Nat->Int) {N:Nat} {j:Nat}(E:j<N):oF ((List.range N).map f) j=f j:=by
 unfold oF;rw[zx,yX,List.getElem?_range E];rfl
theorem arY(m n:Nat)(c:List Int)(q:Nat):oF (KA m n c q)=oq n (fun j=>c.getD j 0) q:=by
 funext j
 by_cases E:j<n+m
 .exact WB _ E
 .unfold oF KA oq
  rw[zx,yc (by simp;omega)]
  split
  .rw[if_neg (by omega)];rfl
  .rw[if_neg (by omega)];rfl
theorem Sm {m n:Nat} {c:List Int}(h:∀x∈c,-1000<=x/\x<=1000)(q:Nat):Obj (KA m n c q) (n+m):=⟨by simp[KA],fun x E=>by
 obtain⟨j,-,rfl⟩:=List.mem_map.mp E;have:=n_ h j;unfold oq;simp only
 split
 .split<;>omega
 .split<;>omega⟩
section
variable {A b c:List Int} {m n:Nat}
def QA(A b c:List Int)(m n:Nat)(D:TZ):Prop:=D.fr=ZE m n/\∃T,Vw (dR A b c m n) T D (List.range m)/\(dR A b c m n).Good T
def QB(A b c:List Int)(m n:Nat)(D:TZ):Prop:=D.fr=ZE m n/\∃T ι,Vw (dR A b c m n) T D ι/\(dR A b c m n).Good T/\Zero (dR A b c m n) T
theorem Sr(m n:Nat):(ZE m n).length=n+m:=by simp[ZE]
theorem aa3(m n j:Nat):(ZE m n).getD j false=true↔j<n:=by
 unfold ZE;rw[zx,yX]
 by_cases h:j<n+m
 .rw[List.getElem?_range h];simp
 .rw[yc (by simp;omega)];simp;omega
theorem Na(m n:Nat):∀j,j<n+m->oF (o1L m n) j=o1 n j:=fun j E=>WB _ E
theorem arZ {T:Tab}(o:Nat->Int)(fr:List Bool):Fit (dR A b c m n) T (List.range m) o fr:=⟨fun r E hn=>absurd (List.mem_range.mpr E) hn,fun _ _=> .inr fun r E=>List.mem_range.mpr E⟩
theorem Sv(hp:J3 A b c m n) {D:TZ}(h:QA A b c m n D):V6 D (n+m)/\0<D.fM:=by
 obtain⟨E,T,G,J⟩:=h;exact G_ hp G J (by rw[E];exact Sr m n)
theorem anH(hp:J3 A b c m n) {D:TZ}(h:QB A b c m n D):V6 D (n+m)/\0<D.fM:=by
 obtain⟨E,T,ι,G,J,_⟩:=h;exact G_ hp G J (by rw[E];exact Sr m n)
theorem agA(hp:J3 A b c m n) {D E:TZ}(h:QA A b c m n D)(hs:tq (n+m) (o1 n) D E):QA A b c m n E:=by
 obtain⟨J,T,O,G⟩:=h;obtain⟨T',S,Y,g3⟩:=O.step G (oV hp) (arZ (o1 n) D.fr) hs;exact⟨g3.trans J,T',Y,G.step S⟩
theorem Sz(hp:J3 A b c m n) {D E:TZ}(h:QA A b c m n D)(hs:tq (n+m) (oF (o1L m n)) D E):QA A b c m n E :=
 agA hp h (FX (Na m n) (M_ (Sv hp h).1) hs)
theorem SA:QA A b c m n (D0 A b m n m):=⟨rfl,_,view0,tH⟩
theorem aj9(hp:J3 A b c m n):∃K,GY (n+m) (oF (o1L m n)) K (D0 A b m n m) :=
 ⟨_,MZ (Na m n) (fun D h=>M_ (Sv hp h).1) (fun D E h hs=>Sz hp h hs) SA
  (Vw.Zm (o:=o1 n) (oV hp) view0 tH (arZ (o1 n) _) (aaJ tH.ok))⟩
def axj(A b c:List Int)(m n:Nat)(σ:Store)(nx:Nat)(r:V×Store×Nat):Prop :=
 ∃σ' nx',nx<=nx'/\(∀x,x<nx->σ' x=σ x) /\
  ((r=(.dS [.sc (.pointer none),Bo false],σ',nx')/\(dR A b c m n).None) \/
   (∃bt br bb bf rb D T ι,r=(.dS [.rp bt 0,Bo true],σ',nx')/\lD σ' bt br bb bf rb D (n+m)/\D.fr=ZE m n/\Vw (dR A b c m n) T D ι/\(dR A b c m n).Good T/\(dR A b c m n).Out T/\(∀x∈D.B,x<n)/\∀x∈bt :: br :: bb :: bf :: rb,nx<=x/\x<nx'))
theorem aj_(hp:J3 A b c m n)(σ:Store)(nx:Nat):∃r,ev Tryz.prog aU bU 186 [.tp (jL m n A b c) 0] σ nx=some r/\axj A b c m n σ nx r:=by
 obtain⟨K,hK⟩:=aj9 hp;have hN:(dR A b c m n).N=n+m:=rfl;have first:∀D1 E,Rz (n+m) (oF (o1L m n)) (D0 A b m n m) E D1->∃T,Vw (dR A b c m n) T D1 (List.range m)/\(dR A b c m n).Good T/\((∀i,i<D1.R.length->n<=D1.B.getD i 0->¬0<en D1.R i (n+m))->Zero (dR A b c m n) T)/\((∃i,i<D1.R.length/\n<=D1.B.getD i 0/\0<en D1.R i (n+m))->(dR A b c m n).None):=fun D1 E hm=>
  ac9 (p:=dR A b c m n) (oV hp) (ady (Na m n) (fun D h=>M_ (Sv hp h).1) (fun D D' h hs=>Sz hp h hs) SA hm) view0 tH (fun r hr=>List.mem_range.mpr hr) (aa3 m n)
 obtain⟨r,h1,σ',nx',h2,h3,D1,E,h4,h5⟩:=anD (QA A b c m n) (QB A b c m n) (c:=c) hp.hA hp.hb hp.m0 (by have:=hp.hm;omega) (by have:=hp.hn;omega) (fun x O=>by have:=hp.bA x O;omega) (fun x O=>by have:=hp.bb x O;omega)
  (fun D h=>Sv hp h) (fun D D' h hs=>Sz hp h hs) SA hK (fun D h=>anH hp h)
  (fun D i k h hi hB hk a0=>by
   obtain⟨S,T,ι,v1,J,G⟩:=h;obtain⟨g1,g2,g3⟩:=ac_ (oV hp) v1 J G hi hB hk a0;refine⟨?_,_,_,g1,g2,g3⟩;rw[<- S];unfold Bf;split<;>rfl)
  (fun D i h hi hB hz=>by
   obtain⟨S,T,ι,v1,J,G⟩:=h;exact⟨S,T,_,Zn v1 G hi hB hz,J,G⟩)
  (fun D1 E hm Y=>by
   obtain⟨T,v1,J,G,_⟩:=first D1 E hm
   exact⟨rfl,T,_,v1.frame _,J,G Y⟩) σ nx
 refine⟨r,h1,σ',nx',h2,h3,?_⟩;obtain⟨T,v1,J,G,v4⟩:=first D1 E h4
 rcases h5 with ⟨rfl,h5⟩|⟨bt,br,bb,bf,rb,D2,rfl,h5,h6,⟨S,T2,a1,w1,w2,w3⟩,h8,h9⟩
 .exact .inl ⟨rfl,v4 h5⟩
 .exact .inr ⟨bt,br,bb,bf,rb,D2,T2,a1,rfl,h6,S,w1,w2,ac' w1 h8,fun x O=>by
   obtain⟨i,hi,e⟩:=gJ O;rw[<- e];exact h8 i (by rw[<- w1.fV];exact hi),h9⟩
end
theorem Ry {p:Prog} {T:Tab}(h:p.Good T)(ho:p.Out T) {q s:Nat}(J:q≠0)(hs:s<p.n)(O:¬basic p.m T s)(hg:0<gm p.m T (p.C q) s)(BL:∀i,i<p.m->T.e i s<=0):False:=by
 obtain⟨E,e⟩:∃E:Prog,E={ p with c:=p.C q }:=⟨_,rfl⟩;have hC:E.C 0=p.C q:=by
  subst e;funext j;unfold Prog.C;rw[if_pos rfl,if_neg J];show(if j<p.n then(if q=0 then _ else if j+1=q/\j<p.n then(-1:Rat)else 0)else 0)=_;rw[if_neg J]
  by_cases G:j<p.n
  .rw[if_pos G]
  .rw[if_neg G,if_neg (fun h=>G h.2)]
 have S:E.Good T:=by
  subst e;exact⟨h.ok,h.ed,h.sol⟩
 have Y:E.Out T:=by
  subst e;exact⟨ho.z⟩
 have a0:E.Open:=Prog.L8 (p:=E) S Y (s:=s) (by subst e;exact hs) (by subst e;exact O) (by rw[hC];subst e;exact hg) (by subst e;exact BL);obtain⟨x,hx,h1⟩:=a0 1;have a1:∀j,j<p.n->0<=x j:=by subst e;exact hx.2
 have hle:ob p.n (p.C q) x<=0:=by
  unfold ob;have:=m_ (f:=fun j=> -(p.C q j*x j)) (n:=p.n) fun j G=>by
   have:=a1 j G;unfold Prog.C;rw[if_neg J]
   split<;>grind
  have e2:=iR (-1) (fun j=>p.C q j*x j) p.n;have e3:sm (fun j=> -(p.C q j*x j)) p.n=sm (fun j=> -1*(p.C q j*x j)) p.n:=bG fun j _=>by grind
  rw[e3,e2]at this;grind
 have:ob E.n E.c x=ob p.n (p.C q) x:=by subst e;rfl
 rw[this]at h1;grind
section
variable {A b c:List Int} {m n:Nat}
def QC(A b c:List Int)(m n:Nat)(ι:List Nat)(fr:List Bool)(D:TZ):Prop:=D.fr=fr/\∃T,Vw (dR A b c m n) T D ι/\(dR A b c m n).Good T
theorem als(hp:J3 A b c m n) {q:Nat} {v:Nat->Rat} {σ:Store} {nx bt br bb bf bo:Nat} {rb ι:List Nat} {D:TZ} {T:Tab}(h:lD σ bt br bb bf rb D (n+m))(hv:Vw (dR A b c m n) T D ι)(hg:(dR A b c m n).Good T)(ho:(dR A b c m n).Out T)
  (a0:(dR A b c m n).qy q v (fun j=>D.fr.getD j false=true) T) (O:D.fr.length=n+m) (a1:∀x∈D.B,x<n) (a2:∀b∈bt :: br :: bb :: bf :: rb,b<nx) (a3:σ bo=some ⟨(KA m n c q).flatMap cI,1,true⟩) (a4:bo<nx) (a5:bo∉bt :: br :: bb :: bf :: rb) :
  ∃σ' nx' E J T',ev Tryz.prog aU bU 187 [.rp bt 0,.rs bo 0 (n+m)] σ nx=some (Bo E,σ',nx')/\lD σ' bt br bb bf rb J (n+m)/\nx<=nx'/\(∀b,b<nx->b∉bt :: bb :: bf :: rb->σ' b=σ b) /\
   Vw (dR A b c m n) T' J ι/\(dR A b c m n).Good T'/\(dR A b c m n).Out T'/\J.fr.length=n+m/\(∀x∈J.B,x<n)/\((E=true/\∃v',(dR A b c m n).qy (q+1) v' (fun j=>J.fr.getD j false=true) T')\/(E=false/\q=0/\(dR A b c m n).Open)):=by
 have hw:=oV hp;have S:∀j,D.fr.getD j false=true->j<n:=fun j hj=>a0.inn j hj
 have sh:∀D1,QC A b c m n ι D.fr D1->V6 D1 (n+m)/\0<D1.fM:=fun D1 ⟨e,T1,h1,h2⟩=>G_ hp h1 h2 (by rw[e];exact O)
 have oe:=arY m n c q;have Y:∀D1 D2,QC A b c m n ι D.fr D1->tq (n+m) (oF (KA m n c q)) D1 D2->QC A b c m n ι D.fr D2:=fun D1 D2 ⟨e,T1,h1,h2⟩ hs=>by
  rw[oe]at hs;obtain⟨T2,g1,g2,g3⟩:=h1.step h2 hw (amK (c:=fun j=>c.getD j 0) (q:=q) h1 (by rw[e];exact S)) hs;exact⟨g3.trans e,T2,g2,h2.step g1⟩
 have a6:GY (n+m) (oF (KA m n c q)) (2^(n+m)) D:=by
  rw[oe];exact Vw.Zm (o:=oq n (fun j=>c.getD j 0) q) hw hv hg (amK hv S) (aaJ hg.ok)
 obtain⟨σ',nx',E,J,ke,G,hT,hn,hf⟩:=arP (QC A b c m n ι D.fr) sh Y (Sm hp.bc q) ⟨rfl,T,hv,hg⟩ a6 h a2 a3 a4 a5;rw[oe]at G;obtain⟨T',v1,v2,v3,v4,v5⟩:=ada (p:=dR A b c m n) hw (c:=fun j=>c.getD j 0) (fun j _=>rfl) G hv hg ho a0 (by rw[O];exact zq _);have a7:∀x∈J.B,x<n:=by
  obtain⟨D1,fr,⟨_,h1⟩,rfl,-⟩:=alr (Q:=fun D1=>D1.fr=D.fr/\∀x∈D1.B,x<n) (fun D1 D2 ⟨e,hB⟩ hs=>by
   obtain⟨s,r,g1,g2,rfl⟩:=hs;have e1:(Bf D1 r s).fr=D1.fr:=by unfold Bf;split<;>rfl
   have e2:(Bf D1 r s).B=D1.B.set r s:=by unfold Bf;split<;>rfl
   refine⟨e1.trans e,fun x hx=>?_⟩;rw[e2]at hx;rcases List.mem_or_eq_of_mem_set hx with h|h
   .exact hB x h
   .subst h;exact S _ (by rw[<- e];exact g1.fr)) G ⟨rfl,a1⟩
  exact h1
 refine⟨σ',nx',E,J,T',ke,hT,hn,hf,v1,v2,v3,v4.trans O,a7,?_⟩;rcases v5 with ⟨e,v5⟩|⟨e,s,s1,s2,s3,s4⟩
 .exact .inl ⟨e,_,v5⟩
 .by_cases hq:q=0
  .subst hq
   exact .inr ⟨e,rfl,Prog.L8 v2 v3 s1 s2 s3 s4⟩
  .exact(Ry v2 v3 hq s1 s2 s3 s4).elim
end
theorem lD.congr {σ σ':Store} {bt br bb bf:Nat} {rb:List Nat} {D:TZ} {N:Nat}(h:lD σ bt br bb bf rb D N)(e:∀x∈bt :: br :: bb :: bf :: rb,σ' x=σ x):lD σ' bt br bb bf rb D N:=by
 refine⟨?_,?_,fun i hi=>(h.row i hi).congr (e _ ?_),?_,?_,h.len,h.nd⟩
 .rw[e bt (by simp)];exact h.t
 .rw[e br (by simp)];exact h.r
 .have:=zu hi
  simp[this]
 .rw[e bb (by simp)];exact h.b
 .rw[e bf (by simp)];exact h.f
section
variable {A b c:List Int} {m n:Nat}
theorem agB(hc:c.length=n):KA m n c 0=c++List.replicate m 0:=by
 apply yR
 .simp[KA,hc]
 .intro j E G
  have J:j<n+m:=by simpa[KA]using E
  have e:(KA m n c 0)[j]=if j<n then c.getD j 0 else 0:=by simp[KA,oq]
  rw[e,List.getElem_append]
  by_cases h:j<n
  .rw[if_pos h,dif_pos (by omega),zx,zy (by omega)];rfl
  .rw[if_neg h,dif_neg (by omega),List.getElem_replicate]
theorem agC(k:Nat)(G:k<n):KA m n c (k+1)=(List.replicate (n+m) 0).set k (-1):=by
 apply yR
 .simp[KA]
 .intro j E J
  have O:j<n+m:=by simpa[KA]using E
  have e:(KA m n c (k+1))[j]=if j=k/\j<n then -1 else 0:=by simp[KA,oq]
  rw[e,wJ]
  by_cases h:k=j
  .rw[if_pos h,if_pos ⟨h.symm,by omega⟩]
  .rw[if_neg h,if_neg (fun g=>h g.1.symm),List.getElem_replicate]
theorem anI(hc:c.length=n)(σ:Store)(nx b:Nat):Fp (upd σ b (some ⟨rep (n+m) [I 0],1,true⟩)) nx (c.flatMap cI) c.length (.rs b 0 (n+m))=some (I ((n:Nat):Int),upd σ b (some ⟨(KA m n c 0).flatMap cI,1,true⟩),nx):=by
 unfold Fp;have e:min c.length (n+m)=n:=by omega
 have E:(c.flatMap cI).length=n:=by rw[aS,hc]
 have G:(KA m n c 0).flatMap cI=c.flatMap cI++rep m [I 0]:=by rw[agB hc,zT,lT]
 simp only[e,upd_same,zi,jf];rw[G]
 by_cases hn:n=0
 .rw[if_pos hn]
  have:c=[]:=zZ (by omega);subst hn this;simp
 .rw[if_neg hn,if_pos ⟨trivial,by rw[jv];simp,by
   rw[List.all_eq_true];intro v J;obtain⟨x,-,O⟩:=List.mem_flatMap.mp (wV J);rw[List.mem_singleton.mp O];rfl⟩]
  rw[zk (by omega),iO _ _ _ (by rw[E,jv];simp),E];congr 4;rw[List.take_zero,yK,yY];congr 1;have:rep (n+m) [I 0]=rep n [I 0]++rep m [I 0]:=by rw[lT,lT,lT,<- zT,wH]
  rw[this,List.drop_left' (by rw[jv];simp)]
theorem aj' {L:List Int} {N:Nat}(S:L.length=N)(σ:Store)(nx b:Nat)(hb:σ b=some ⟨L.flatMap cI,1,true⟩)(G:N≠0):AQ σ nx [I 0] (.rs b 0 N)=some (.dS [],upd σ b (some ⟨(List.replicate N 0).flatMap cI,1,true⟩),nx):=by
 unfold AQ;simp only;rw[if_neg G,hb];have E:(rep N [I 0]).length=N:=by rw[jv];simp
 simp only[zi];rw[if_pos ⟨trivial,by rw[aS];omega,by
  rw[lT,List.all_eq_true];intro v J;obtain⟨x,-,O⟩:=List.mem_flatMap.mp J;rw[List.mem_singleton.mp O];rfl⟩]
 rw[iO _ _ _ (by rw[E,aS];omega),E,List.take_zero,yK,yY,xw (by rw[aS];omega),zM,lT]
def cF(q:Rat):List V:=[.tp (cQ q) 0]
def ar0(p:Prog)(r:V):Prop:=(r= .dS [I 2,.ts [] 0,.sc (.pointer none)]/\p.None)\/(r= .dS [I 3,.ts [] 0,.sc (.pointer none)]/\p.Open) \/
 ∃x:Nat->Rat,p.Best x/\(∀j,j<p.n->Ln 24 (x j))/\r= .dS [I 0,LL cF ((List.range p.n).map x),.tp (cQ (ob p.n p.c x)) 0]
theorem aa4 {a:Int} {d k:Nat}(ha:ln a.natAbs<=k)(E:ln d<=k)(G:1<=k):Ln k (mkRat a d):=by
 constructor
 .rw[Rat.num_mkRat]
  split
  .show ln 0<=k;rw[Ec];omega
  .exact zL (fQ (Int.natAbs_ediv_le_natAbs _ _)) ha
 .rw[Rat.den_mkRat]
  split
  .exact zL (lS (by decide)) G
  .exact zL (fQ (xH _ _)) E
theorem ZG {x y:Rat} {k l:Nat}(h:Ln k x)(E:Ln l y)(G:1<=k+l):Ln (k+l) (x*y):=by
 rw[Rat.mul_def'];refine aa4 ?_ (MJ h E) G;have:=Bh x.num y.num;have:=h.1;have:=E.1;omega
theorem ZH {x y:Rat} {k l:Nat}(h:Ln k x)(E:Ln l y):Ln (k+l+1) (x+y):=by
 rw[Rat.add_def'];refine aa4 ?_ (zL (MJ h E) (by omega)) (by omega);have G:=ET h E;have J:=ET E h;have:=G7 (x.num*y.den) (y.num*x.den);omega
theorem mO {z:Int}(h:-1000000<=z/\z<=1000000):Ln 1 (z:Rat):=⟨lS (by show z.natAbs<_;omega),lS (by show 1<_;decide)⟩
theorem anJ(X:List Rat):∀(k:Nat) (q:Rat),(X.flatMap cF).set k (.tp (cQ q) 0)=(X.set k q).flatMap cF:=by
 induction X with
 |nil=>intro k q;rfl
 |cons a X E=>intro k q;cases k with
  |zero=>rfl
  |succ k=>show V.tp (cQ a) 0 :: ((X.flatMap cF).set k (.tp (cQ q) 0))=_;rw[E];rfl
theorem iV(X:List Rat):(X.flatMap cF).length=X.length:=by
 induction X with
 |nil=>rfl
 |cons a X E=>rw[zU,zo,E,zD];show 1+_=_;omega
theorem I5(X:List Rat) {k:Nat}(h:k<X.length):(X.flatMap cF)[k]?=some (.tp (cQ X[k]) 0):=by
 induction X generalizing k with
 |nil=>exact absurd h (zW k)
 |cons a X E=>cases k with
  |zero=>rfl
  |succ k=>exact E (k:=k) (by simpa using h)
theorem agD(k N:Nat)(h:k<N):((List.replicate k (0:Rat)).flatMap cF++rep (N-k) [.sc (.pointer none)]).set k (.tp (cQ 0) 0)=(List.replicate (k+1) (0:Rat)).flatMap cF++rep (N - (k+1)) [.sc (.pointer none)]:=by
 rw[yD _ _ (by rw[iV,z_];exact zq _),iV,z_,yQ,show N-k=N - (k+1)+1 by omega,rep_succ,List.replicate_succ',zT,zB];rfl
theorem He(σ:Store)(d:Nat):∀X:List Rat,stripL (strip σ (d+1)) (X.flatMap cF)=some (X.flatMap cF,[])
 |[]=>by rw[wR,bQ]
 |q :: X=>by
  rw[zU,show cF q++X.flatMap cF=V.tp (cQ q) 0 :: X.flatMap cF from rfl,aO,CG,He σ d X];rfl
def xB(B:List Nat)(f:Nat->Rat)(i n:Nat):List Rat:=(List.range n).map fun j=>if j∈B.take i then f j else 0
theorem FY(B:List Nat)(f:Nat->Rat)(i n:Nat):(xB B f i n).length=n:=by simp[xB]
theorem aa5(B:List Nat)(f:Nat->Rat)(n:Nat):xB B f 0 n=List.replicate n 0:=by simp[xB,List.map_const']
theorem agE {B:List Nat}(f:Nat->Rat) {i n:Nat}(hi:i<B.length):(xB B f i n).set (B.getD i 0) (f (B.getD i 0))=xB B f (i+1) n:=by
 have hb:B[i]=B.getD i 0:=by rw[zx,zy hi];rfl
 apply yR
 .rw[yG,FY,FY]
 .intro j O G
  have J:j<n:=by rw[FY]at G;exact G
  have e:∀i,(xB B f i n)[j]'(by rw[FY];exact J)=if j∈B.take i then f j else 0:=fun i=>by simp[xB]
  rw[wJ,e,e,yO,zy hi,hb]
  by_cases h:B.getD i 0=j
  .rw[if_pos h,h,if_pos (by simp)]
  .rw[if_neg h]
   by_cases E:j∈B.take i
   .rw[if_pos E,if_pos (by simp[E])]
   .rw[if_neg E,if_neg (by simp[E];exact fun e=>h e.symm)]
theorem anK(hp:J3 A b c m n):∃r,fn Tryz.prog aU bU 161 [.tp (jL m n A b c) 0]=some r/\ar0 (dR A b c m n) r:=by
 have O:=hp.m0;have hm:=hp.hm;have hn:=hp.hn;have hc:=hp.hc;obtain⟨r0,kb,d6,aP,l7,-,hr⟩:=aj_ hp aK 0;obtain⟨N,hN⟩:∃N,N=n+m:=⟨_,rfl⟩;rw[aH,ak [.tmp 2,.tmp 3,.tmp 4] [24] Tryz.func161];unfold jL at kb⊢;rcases hr with ⟨rfl,d1⟩|⟨bt,br,bb,bf,rb,D,T,ι,rfl,hT,d7,hv,hg,ho,f7,a1⟩
 .simp only[go_sem,bM,kb]
  exact⟨_,rfl,.inl ⟨rfl,d1⟩⟩
 .have d2:=hT.t
  have f1:bt<aP:=(a1 bt (by simp)).2;rw[<- hN]at d2;have f2:=aI N;have f3:8*(N:Int)<=281474976710656:=by omega
  have f4:(N:Int)<=9223372036854775807:=by omega
  have kc:=anI (m:=m) hc d6 (aP+1) aP;rw[<- hN]at kc;obtain⟨σ2,qI⟩:∃σ2,σ2=upd d6 aP (some ⟨(KA m n c 0).flatMap cI,1,true⟩):=⟨_,rfl⟩;rw[<- qI]at kc;have f8:lD σ2 bt br bb bf rb D (n+m):=hT.congr fun x G=>by rw[qI,upd_ne _ _ (by have:=a1 x G;omega)]
  obtain⟨l8,dI,f9,D3,T3,km,MR,l9,g0,h0,h4,h5,h6,h7,d8⟩:=als hp (q:=0) (v:=fun _=>0) (bo:=aP) (nx:=aP+1) f8 hv hg ho (by
   rw[d7];have:(fun j=>(ZE m n).getD j false=true)=fun j=>j<(dR A b c m n).n:=by funext j;exact propext (aa3 m n j)
   rw[this];exact Prog.stage0) (by rw[d7];exact Sr m n) f7 (fun x G=>by have:=a1 x G;omega) (by rw[qI,upd_same]) (by omega) (fun G=>by have:=a1 aP G;omega)
  rw[<- hN]at km;rcases d8 with ⟨rfl,v1,h8⟩|⟨rfl,-,h9⟩
  .simp only[go_sem,bM,kb,d2,f1,f2,f3,f4,kc,km]
   generalize hL:aF _ _=y
   obtain⟨x,rfl,T4,kP,J,rfl,t0,Y,E,U4,v4,a5,a2,a4,b3,b4⟩:=aB hL n (fun k st=>st.T 0= .tp (jL m n A b c) 0/\st.T 5= .rp bt 0/\st.T 7= .rs aP 0 N/\st.T 41=I n/\st.T 42=I k/\aP<st.nx/\(∃L:List Int,L.length=N/\st.σ aP=some ⟨L.flatMap cI,1,true⟩) /\
     ∃D U v,lD st.σ bt br bb bf rb D (n+m)/\Vw (dR A b c m n) U D ι/\(dR A b c m n).Good U/\(dR A b c m n).Out U/\D.fr.length=n+m/\(∀x∈D.B,x<n)/\(dR A b c m n).qy (k+1) v (fun j=>D.fr.getD j false=true) U)
    (fun x=>∃T kP J,x=(.exit 0,⟨T,kP,J⟩)/\T 0= .tp (jL m n A b c) 0/\T 5= .rp bt 0/\∃D U v,lD kP bt br bb bf rb D (n+m)/\Vw (dR A b c m n) U D ι/\(dR A b c m n).Good U/\(dR A b c m n).Out U/\D.fr.length=n+m/\(∀x∈D.B,x<n)/\(∀x∈bt :: br :: bb :: bf :: rb,x<J)/\(dR A b c m n).qy (n+1) v (fun j=>D.fr.getD j false=true) U) (by
     clear hL;rintro k ⟨T,kP,J⟩ hk ⟨t0,Y,t7,a7,b5,b6,⟨L,hL,c6⟩,E,U,v,a5,a2,a4,b3,b8,b9,b4⟩;simp only at t0 Y t7 a7 b5 b6 c6 a5;have g1:(k:Int)<(n:Int):=by omega
     have g2:=aI k;have g3:=ah (n:=(k:Int)+1);have g4:=aj' hL kP J aP c6 (by omega);obtain⟨jY,c7⟩:∃jY,jY=upd kP aP (some ⟨(KA m n c (k+1)).flatMap cI,1,true⟩):=⟨_,rfl⟩;have g5:((List.replicate N (0:Int)).flatMap cI).set k (I (-1))=(KA m n c (k+1)).flatMap cI:=by rw[jV,agC k hk,hN]
     have g6:((List.replicate N (0:Int)).flatMap cI).length=N:=by rw[aS];simp
     have g7:(k:Int)<(N:Int):=by omega
     have g8:k<N:=by omega
     have g9:k+1<=N:=by omega
     have BP:lD jY bt br bb bf rb E (n+m):=a5.congr fun x G=>by rw[c7,upd_ne _ _ (by have:=a1 x G;omega)]
     obtain⟨kU,gi,f9,D6,U6,d9,i0,Ia,i1,i2,i3,i4,e0,i5,i6⟩:=als hp (q:=k+1) (bo:=aP) (nx:=J) BP a2 a4 b3 b4 b8 b9 (fun x G=>by have:=a1 x G;omega) (by rw[c7,upd_same]) b6 (fun G=>by have:=a1 aP G;omega);rw[<- hN]at d9;unfold jL at t0;rcases i6 with ⟨rfl,v6,i7⟩|⟨_,h,_⟩
     .refine .inl ⟨_,by simp only[go_sem,bM,t0,Y,t7,a7,b5,g1,g2,g3,g4,g5,g6,g7,g8,g9,<- c7,d9];rfl,?_⟩
      simp only[go_sem,t0,Y,t7,a7];refine⟨rfl,rfl,by omega,⟨KA m n c (k+1),by rw[(Sm hp.bc _).1,hN],?_⟩,D6,U6,v6,i0,i2,i3,i4,e0,i5,i7⟩;rw[i1 aP b6 (fun G=>by
       have:=a1 aP (by simp only[zX]at G⊢;rcases G with h|h|h|h<;>simp[h]);omega),c7,upd_same]
     .omega) (by
     rintro ⟨T,kP,J⟩ ⟨t0,Y,t7,a7,b5,b6,c6,E,U,v,a5,a2,a4,b3,b8,b9,b4⟩;simp only at t0 Y t7 a7 b5 b6 c6 a5;have g1:¬(n:Int)<(n:Int):=by omega
     refine⟨_,by simp only[go_sem,a7,b5,g1];rfl,by simp,_,_,_,rfl,?_⟩;simp only[go_sem,t0,Y];exact⟨E,U,v,a5,a2,a4,b3,b8,b9,fun x G=>by have:=a1 x G;omega,b4⟩) (by
     simp only[go_sem,jL];refine⟨by omega,⟨KA m n c 0,by rw[(Sm hp.bc _).1,hN],?_⟩,D3,T3,v1,MR,h0,h4,h5,h6,h7,h8⟩;rw[g0 aP (by omega) (fun G=>by
      have:=a1 aP (by simp only[zX]at G⊢;rcases G with h|h|h|h<;>simp[h]);omega),qI,upd_same])
   clear hL;obtain⟨b8,b9,a3,e1⟩:=b4;have i9:=G_ hp a2 a4 b8;have j0:=e1.best a4 b3;have h1:=aI n;have h2:8*(n:Int)<=281474976710656:=by omega
   have h3:(n:Int)<=9223372036854775807:=by omega
   unfold jL at t0;simp only[go_sem,t0,Y,h1,h2,h3];generalize hL:aF _ _=y;obtain⟨x,rfl,T5,jY,rfl,t0,Y,S,j1,j2⟩:=aB hL n (fun k st=>st.T 0= .tp (jL m n A b c) 0/\st.T 5= .rp bt 0/\st.T 9= .rs J 0 n/\st.T 59=I n/\st.T 60=I k/\st.nx=J+1/\st.σ J=some ⟨(List.replicate k (0:Rat)).flatMap cF++rep (n-k) [.sc (.pointer none)],1,true⟩/\∀x,x<J->st.σ x=kP x)
    (fun x=>∃T jY,x=(.exit 2,⟨T,jY,J+1⟩)/\T 0= .tp (jL m n A b c) 0/\T 5= .rp bt 0/\T 9= .rs J 0 n/\jY J=some ⟨(List.replicate n (0:Rat)).flatMap cF,1,true⟩/\∀x,x<J->jY x=kP x) (by
     clear hL;rintro k ⟨T,jY,m0⟩ hk ⟨t0,Y,S,a8,c0,O,G,hs⟩;simp only at t0 Y S a8 c0 O G hs;subst O;have g1:(k:Int)<(n:Int):=by omega
     have g2:=aI k;have g3:=ah (n:=(k:Int)+1);have g4:fn Tryz.prog conv ext 169 [I 0]=some (.tp (cQ 0) 0):=Ed 0 (by decide) (by decide)
     have g5:=agD k n hk;have g6:((List.replicate k (0:Rat)).flatMap cF++rep (n-k) [.sc (.pointer none)]).length=n:=by rw[zo,iV,jv];simp;omega
     have g7:k+1<=n:=hk;refine .inl ⟨_,by simp only[go_sem,t0,Y,S,a8,c0,G,hk,g1,g2,g3,g4,g5,g6,g7];rfl,?_⟩;simp only[go_sem,t0,Y,S,a8];exact⟨rfl,fun x G=>by rw[ay];exact hs x G⟩) (by
     rintro ⟨T,jY,m0⟩ ⟨t0,Y,S,a8,c0,O,G,hs⟩;simp only at t0 Y S a8 c0 O G hs;subst O;have g1:¬(n:Int)<(n:Int):=by omega
     refine⟨_,by simp only[go_sem,a8,c0,g1];rfl,by simp,_,_,rfl,?_⟩;simp only[go_sem,t0,Y,S];rw[yQ]at G;have:rep 0 [V.sc (.pointer none)]=[]:=rfl;rw[this,zM]at G;exact⟨G,hs⟩) (by
     simp only[go_sem,t0,Y,jL];exact⟨rfl,fun x G=>by rw[ay]⟩)
   clear hL;have BP:lD jY bt br bb bf rb E (n+m):=a5.congr fun x G=>j2 x (a3 x G)
   obtain⟨hS,l6⟩:=i9;have e3:=BP.t;have j3:bt<J:=a3 bt (by simp);unfold jL at t0;obtain⟨n1,n2,n3,n4,n5,n6,n7,n8⟩:=nd4 BP.nd;have m1:=hS.BO;have j4:=BP.len;obtain⟨Oj,j5⟩:=BP.r;obtain⟨Ky,j6⟩:=BP.b;have m2:(iT E.B).length=E.R.length:=by rw[fZ];exact hS.fV
   have j7:E.B.length=E.R.length:=hS.fV;have e4:bt<J+1:=by omega
   have e0:∀x,x∈bt :: br :: bb :: bf :: rb->x<J:=a3;simp only[go_sem,t0,Y,e3,e4];generalize hL:aF _ _=y;obtain⟨x,rfl,T6,kU,rfl,t0,S,c8⟩:=aB hL E.R.length (fun i st=>st.T 0= .tp (jL m n A b c) 0/\st.T 5= .rp bt 0/\st.T 9= .rs J 0 n/\st.T 71= .rs bb 0 E.R.length/\st.T 72=I E.R.length/\st.T 73=I i/\st.nx=J+1/\st.σ J=some ⟨(xB E.B (gU m U4) i n).flatMap cF,1,true⟩/\∀x,x<J->st.σ x=jY x)
    (fun x=>∃T kU,x=(.exit 4,⟨T,kU,J+1⟩)/\T 0= .tp (jL m n A b c) 0/\T 9= .rs J 0 n/\kU J=some ⟨(xB E.B (gU m U4) E.R.length n).flatMap cF,1,true⟩) (by
     clear hL;rintro i ⟨T,kU,m0⟩ hi ⟨t0,Y,S,c2,a9,c3,O,G,hs⟩;simp only at t0 Y S c2 a9 c3 O G hs;subst O;have g1:(i:Int)<(E.R.length:Int):=by omega
     have g2:=aI i;have g3:=ah (n:=(i:Int)+1);have g4:((iT E.B).flatMap cI++Ky)[i]?=some (I ((E.B.getD i 0:Nat):Int)):=by
      rw[zV (by rw[aS];omega),idx (by omega),kN (by omega)]
     have e6:E.B.getD i 0<n:=b9 _ (getD_mem (by omega));have a0:=read a2 a4 hi;have d0:=agE (B:=E.B) (gU m U4) (i:=i) (n:=n) (by omega);obtain⟨bi,uN⟩:∃bi,bi=E.B.getD i 0:=⟨_,rfl⟩;rw[<- uN]at g4 e6 a0 d0;have e7:i<rb.length:=by omega
     have f6:=En (ex:=Oj) (n:=n+m+1) e7;obtain⟨ri,d3⟩:∃ri,ri=rb[i]:=⟨_,rfl⟩;rw[<- d3]at f6;obtain⟨Li,RQ,EC,RS⟩:=BP.row i e7;have XA:ri<J:=a3 ri (by rw[d3];simp[zu]);have j8:kU ri=some ⟨Li.flatMap zc,2,true⟩:=by rw[hs ri XA,d3];exact RQ
     have rl:(nS E.R i).length=n+m+1:=by rw[kJ hi];exact hS.row _ (zu hi)
     have JX:Li.length=n+m+1:=by have:=congrArg List.length EC;rw[zO,rl]at this;exact this
     have b7:=aN (c:=zc) (s:=2) iq Li;rw[JX]at b7;have g6:=slot (c:=zc) (s:=2) iq Li (n+m) (by omega);have g7:(n+m)*2+2<=(n+m+1)*2:=by omega
     have g8:((n+m:Nat):Int)<((n+m+1:Nat):Int):=by omega
     have g9:(0:Int)<=((n+m:Nat):Int):=by omega
     obtain⟨hq,e⟩:=Px EC (c:=n+m) (by rw[rl];omega);have e2:(nS E.R i)[n+m]'(by rw[rl];omega)=en E.R i (n+m):=by
      unfold en;rw[zx,zy (by rw[rl];omega)];rfl
     have z1:∀σ d,stripL (strip σ d) (zc Li[n+m])=some (cZ (en E.R i (n+m)),[]):=fun σ d=>by
      rw[nY σ d (RS _ (zu hq)),e,e2]
     have k1:fn Tryz.prog aU bU 188 [.agg (cZ (en E.R i (n+m))),LI (dg E.fM.natAbs)]=some (.tp (cQ (gU m U4 bi)) 0):=by
      rw[MI _ _ (by have:=hS.big i (n+m) hi (zq _);omega) (by omega) (by have:=hS.fM;omega)];have:mkRat (en E.R i (n+m)) E.fM.natAbs=gU m U4 bi:=by
       rw[<- show((en E.R i (n+m):Int):Rat) / E.fM=gU m U4 bi from a0,Rat.mkRat_eq_div];congr 1;have:((E.fM.natAbs:Nat):Int)=E.fM:=by omega
       rw[<- Rat.intCast_natCast,this]
      rw[this]
     have j9:(bi:Int)<(n:Int):=by omega
     have k0:=aI bi;have k4:bi+1<=n:=by omega
     have q1:=anJ (xB E.B (gU m U4) i n) bi (gU m U4 bi);rw[d0]at q1;have q2:((xB E.B (gU m U4) i n).flatMap cF).length=n:=by rw[iV,FY]
     have q3:bb<J:=a3 bb (by simp);have q4:br<J:=a3 br (by simp);have k5:=(hs bb q3).trans j6;have k6:=(hs br q4).trans j5;have k7:=(hs bt j3).trans e3;have q5:bb<J+1:=by omega
     have q6:br<J+1:=by omega
     have q7:ri<J+1:=by omega
     have q8:J<J+1:=by omega
     unfold jL at t0;refine .inl ⟨_,by simp only[go_sem,t0,Y,S,c2,a9,c3,G,k5,k6,k7,j8,f6,g1,g2,g3,g4,g6,g7,g8,g9,j9,k0,k4,e4,b7,z1,k1,e6,q1,q2,q5,q6,q7,q8];rfl,?_⟩;simp only[go_sem,t0,Y,S,c2,a9];exact⟨rfl,rfl,fun x G=>by rw[ay];exact hs x G⟩) (by
     rintro ⟨T,kU,m0⟩ ⟨t0,Y,S,c2,a9,c3,O,G,hs⟩;simp only at t0 Y S c2 a9 c3 O G hs;subst O;have g1:¬(E.R.length:Int)<(E.R.length:Int):=by omega
     refine⟨_,by simp only[go_sem,a9,c3,g1];rfl,by simp,_,_,rfl,?_⟩;simp only[go_sem,t0,S];exact G) (by
     simp only[go_sem,t0,Y,S,jL,aa5];exact⟨j1,fun _ _=>trivial⟩)
   clear hL;have k8:xB E.B (gU m U4) E.R.length n=(List.range n).map (gU m U4):=by
    unfold xB;rw[<- j7,yg];apply xP;intro j hj
    by_cases h:j∈E.B
    .rw[if_pos h]
    .rw[if_neg h];exact(VK a2 (List.mem_range.mp hj) h).symm
   rw[k8]at c8;have e8:=aj8 hp a2 a4;have e9:∀j,j<n->Ln 24 (gU m U4 j):=fun j hj=>by
    by_cases h:j∈E.B
    .obtain⟨i,hi,e⟩:=gJ h
     have f0:i<E.R.length:=by omega
     have a0:=read a2 a4 f0;rw[e]at a0;have:mkRat (en E.R i (n+m)) E.fM.natAbs=gU m U4 j:=by
      rw[<- show((en E.R i (n+m):Int):Rat) / E.fM=gU m U4 j from a0,Rat.mkRat_eq_div];congr 1;have:((E.fM.natAbs:Nat):Int)=E.fM:=by omega
      rw[<- Rat.intCast_natCast,this]
     rw[<- this];exact aa4 (zL (e8.1 i (n+m) f0 (zq _)) (by decide)) (zL e8.2 (by decide)) (by decide)
    .rw[show gU m U4 j=0 from VK a2 hj h]
     exact(mO (z:=0) (by decide)).mono (by decide)
   obtain⟨X,hX⟩:∃X:List Rat,X=(List.range n).map (gU m U4):=⟨_,rfl⟩;have c9:X.length=n:=by rw[hX];simp
   have k9:∀j (h:j<n),X[j]'(by omega)=gU m U4 j:=fun j h=>by subst hX;simp
   rw[<- hX]at c8;have g4:fn Tryz.prog conv ext 169 [I 0]=some (.tp (cQ 0) 0):=Ed 0 (by decide) (by decide)
   unfold jL at t0;simp only[go_sem,t0,S,g4];generalize hL:aF _ _=y;obtain⟨x,rfl,T7,rfl,S,a6⟩:=aB hL n (fun k st=>st.T 0= .tp (jL m n A b c) 0/\st.T 9= .rs J 0 n/\st.T 102= .rs J 0 n/\st.T 103=I n/\st.T 104=I k/\st.nx=J+1/\st.σ=kU/\∃s,st.T 13= .tp (cQ s) 0/\s=sm (fun j=>((c.getD j 0:Int):Rat)*gU m U4 j) k/\Ln (1+52*k) s)
    (fun x=>∃T,x=(.exit 6,⟨T,kU,J+1⟩)/\T 9= .rs J 0 n/\T 13= .tp (cQ (sm (fun j=>((c.getD j 0:Int):Rat)*gU m U4 j) n)) 0) (by
     clear hL;rintro k ⟨T,vI,m0⟩ hk ⟨t0,S,c4,b2,c5,O,hs,s,a6,d4,d5⟩;simp only at t0 S c4 b2 c5 O hs a6;subst O hs;have g1:(k:Int)<(n:Int):=by omega
     have g2:=aI k;have g3:=ah (n:=(k:Int)+1);have g4:=I5 X (k:=k) (by omega);rw[k9 k hk]at g4;have l5:=n_ hp.bc k;have g5:=idx (xs:=c) (k:=k) (by omega);have e5:c[k]'(by omega)=c.getD k 0:=by rw[zx,zy (by omega)];rfl
     rw[e5]at g5;have g6:=fB c k (by omega);have g7:(k:Int)<(c.length:Int):=by omega
     have g8:(c.flatMap cI).length=c.length:=aS c;have g9:(X.flatMap cF).length=n:=by rw[iV,c9]
     obtain⟨ck,f5⟩:∃ck,ck=c.getD k 0:=⟨_,rfl⟩;rw[<- f5]at g5 l5;have k1:=Ed ck (by omega) (by omega);have l1:=mO (z:=ck) (by omega);have l2:=(e9 k hk).mono (show 24<=50 by decide);have k2:=aaX (gU m U4 k) (ck:Rat) (l2.mono (by decide)) (l1.mono (by decide));have l3:=ZG l2 l1 (by decide);have k3:=agi s (gU m U4 k*(ck:Rat)) (d5.mono (by omega)) (l3.mono (by decide));have l4:=ZH d5 l3;unfold jL at t0;refine .inl ⟨_,by simp only[go_sem,t0,S,c4,b2,c5,a6,c8,g1,g2,g3,g4,g5,g6,g7,g8,g9,k1,k2,k3];rfl,?_⟩;simp only[go_sem,t0,S,c4,b2];refine⟨rfl,rfl,_,rfl,?_,l4.mono (by omega)⟩;show _=sm _ k+((c.getD k 0:Int):Rat)*gU m U4 k;rw[d4,<- f5,Rat.mul_comm]) (by
     rintro ⟨T,vI,m0⟩ ⟨t0,S,c4,b2,c5,O,hs,s,a6,d4,d5⟩;simp only at t0 S c4 b2 c5 O hs a6;subst O hs;have g1:¬(n:Int)<(n:Int):=by omega
     refine⟨_,by simp only[go_sem,b2,c5,g1];rfl,by simp,_,rfl,?_⟩;simp only[go_sem,S,a6,d4]) (by
     simp only[go_sem,t0,S,jL];exact⟨0,rfl,rfl,mO (z:=0) (by decide)⟩)
   clear hL;have z1:n<=(X.flatMap cF).length:=by rw[iV,c9];exact zq _
   have z2:(X.flatMap cF).take n=X.flatMap cF:=zk (by rw[iV,c9];exact zq _);have z3:=He kU 4 X;simp only[go_sem,S,a6,c8,z1,z2,z3];refine⟨_,rfl,.inr (.inr ⟨gU m U4,j0,e9,?_⟩)⟩;rw[show(dR A b c m n).n=n from rfl,<- hX];show V.dS [I 0,V.ts (X.flatMap cF) n,_]=V.dS [I 0,V.ts (X.flatMap cF) X.length,_];rw[c9];rfl
  .simp only[go_sem,bM,kb,d2,f1,f2,f3,f4,kc,km]
   exact⟨_,rfl,.inr (.inl ⟨rfl,h9⟩)⟩
end
theorem loop_exit {body:St->Option (Ex×St)} {st E:St} {y:Option (Ex×St)} {e:Ex}(G:aF body st=y)(h:body st=some (e,E))(J:e≠ .norm):y=some (e,E):=by
 obtain⟨r,rfl,O⟩:=bJ G (fun _ s=>s=st) (fun r=>r=(e,E)) (fun n s hs=>by subst hs;exact .inr ⟨_,h,fun s h=>J (congrArg Prod.fst h),rfl⟩) 0 rfl;rw[O]
theorem adA {body:St->Option (Ex×St)} {st st1 E:St} {y:Option (Ex×St)} {e:Ex}(G:aF body st=y)(J:body st=some (.norm,st1))(h:body st1=some (e,E))(O:e≠ .norm):y=some (e,E):=by
 obtain⟨r,rfl,S⟩:=bJ G (fun n s=>(n=1/\s=st)\/(n=0/\s=st1)) (fun r=>r=(e,E)) (fun n s hs=>by
  rcases hs with ⟨rfl,rfl⟩|⟨rfl,rfl⟩
  .exact .inl ⟨_,J,0,by omega,.inr ⟨rfl,rfl⟩⟩
  .exact .inr ⟨_,h,fun s h=>O (congrArg Prod.fst h),rfl⟩) 1 (.inl ⟨rfl,rfl⟩)
 rw[S]
theorem alu {σ:Store} {nx bt bf bo:Nat}(E:σ bt=some ⟨[.nil,Bo false,LI (dg 1),.nil,I 0,.rs bf 0 0],0,true⟩)(G:bt<nx) :
  ev Tryz.prog aU bU 187 [.rp bt 0,.rs bo 0 0] σ nx=some (Bo true,σ,nx):=by
 rw[ak [.tmp 4] [] Tryz.func187];simp only[go_sem];generalize J:aF _ _=y;have S:¬(0:Int)<0:=by decide
 obtain rfl:=adA J (by
  simp only[go_sem,E,G];generalize O:aF _ _=Y;obtain rfl:=loop_exit O (by simp only[go_sem];rfl) (by simp);simp only[go_sem];rfl) (by simp only[go_sem];rfl) (by simp)
 clear J;simp only[go_sem,E,G];generalize J:aF _ _=y;obtain rfl:=loop_exit J (by simp only[go_sem];rfl) (by simp);simp only[go_sem]
theorem ake {σ:Store} {nx bt bf:Nat}(E:σ bt=some ⟨[.nil,Bo false,LI (dg 1),.nil,I 0,.rs bf 0 0],0,true⟩)(G:bt<nx) :
  ev Tryz.prog aU bU 216 [.rp bt 0,I 0] σ nx=some (.dS [],σ,nx):=by
 rw[ak [] [10,11] Tryz.func216];simp only[go_sem];generalize J:aF _ _=y;obtain rfl:=loop_exit J (by simp only[go_sem,E,G];rfl) (by simp);simp only[go_sem]
theorem akf(σ:Store):∃r,ev Tryz.prog aU bU 186 [.tp (jL 0 0 [] [] []) 0] σ 0=some r/\∃σ' nx' bt bf,r=(.dS [.rp bt 0,Bo true],σ',nx')/\bt<nx'/\σ' bt=some ⟨[.nil,Bo false,LI (dg 1),.nil,I 0,.rs bf 0 0],0,true⟩:=by
 have k1:fn Tryz.prog conv ext 199 [I 1]=some (.agg [Bo false,LI (dg 1)]):=oS 1 (by decide) (by decide)
 have z2:IntKind.i64.wrap (0+0)=0:=by decide
 have z3:(1:Int)*0<=281474976710656:=by decide
 have O:(0:Int)<=9223372036854775807:=by decide
 have S:Int.toNat 0=0:=rfl;have z6:(8:Int)*0<=281474976710656:=by decide
 unfold jL;rw[ak [.tmp 2,.tmp 3] [15,18,24,38] Tryz.func186];simp only[go_sem,k1,z2,z3,O,S];generalize E:aF _ _=y;obtain rfl:=loop_exit E (by simp only[go_sem];rfl) (by simp);clear E;simp only[go_sem,O,S,z6];generalize E:aF _ _=y;obtain rfl:=loop_exit E (by simp only[go_sem];rfl) (by simp);clear E;obtain⟨σ2,Y⟩:∃σ2,σ2=upd (upd (upd σ 0 (some ⟨rep 0 [V.sc (Value.bool false)],1,true⟩)) 1 (some ⟨[.nil,Bo false,LI (dg 1),.nil,I 0,.rs 0 0 0],0,true⟩)) 2 (some ⟨rep 0 [I 0],1,true⟩):=⟨_,rfl⟩;have G:σ2 1=some ⟨[.nil,Bo false,LI (dg 1),.nil,I 0,.rs 0 0 0],0,true⟩:=by rw[Y];rfl
 have hm:=alu (nx:=3) (bo:=2) G (by decide);have hl:=ake (nx:=3) G (by decide);have J:1<3:=by decide
 simp only[go_sem,bM,<- Y,hm,G,J];generalize E:aF _ _=y;obtain rfl:=loop_exit E (by simp only[go_sem];rfl) (by simp);clear E;simp only[go_sem,G,J];generalize E:aF _ _=y;obtain rfl:=loop_exit E (by simp only[go_sem];rfl) (by simp);clear E;simp only[go_sem,bM,hl];exact⟨_,rfl,σ2,3,1,0,rfl,J,G⟩
theorem akg:fn Tryz.prog aU bU 161 [.tp (jL 0 0 [] [] []) 0]=some (.dS [I 0,.ts [] 0,.tp (cQ 0) 0]):=by
 obtain⟨r0,kb,S,E,bt,bf,rfl,a2,Y⟩:=akf aK;have z3:(8:Int)*0<=281474976710656:=by decide
 have z4:(0:Int)<=9223372036854775807:=by decide
 have z5:Int.toNat 0=0:=rfl;obtain⟨σ2,qI⟩:∃σ2,σ2=upd S E (some ⟨rep 0 [I 0],1,true⟩):=⟨_,rfl⟩;have MS:σ2 bt=some ⟨[.nil,Bo false,LI (dg 1),.nil,I 0,.rs bf 0 0],0,true⟩:=by rw[qI,ay];exact Y
 have a0:bt<E+1:=by omega
 have km:=alu (nx:=E+1) (bo:=E) MS a0;have kc:Fp σ2 (E+1) [] 0 (.rs E 0 0)=some (I 0,σ2,E+1):=rfl;have g4:fn Tryz.prog conv ext 169 [I 0]=some (.tp (cQ 0) 0):=Ed 0 (by decide) (by decide)
 rw[aH,ak [.tmp 2,.tmp 3,.tmp 4] [24] Tryz.func161];have kb:ev Tryz.prog aU bU 186 [.tp [I 0,I 0,LI [],LI [],LI []] 0] aK 0=some (.dS [.rp bt 0,Bo true],S,E):=kb;unfold jL;have kl:List.flatMap cI []=[]:=rfl;simp only[go_sem,bM,kb,Y,a2,z3,z4,z5,<- qI,kc,km,kl];generalize G:aF _ _=y;obtain rfl:=loop_exit G (by simp only[go_sem];rfl) (by simp);clear G;simp only[go_sem,z3,z4,z5];generalize G:aF _ _=y;obtain rfl:=loop_exit G (by simp only[go_sem];rfl) (by simp);clear G;obtain⟨J,O⟩:∃J,J=upd σ2 (E+1) (some ⟨rep 0 [V.sc (.pointer none)],1,true⟩):=⟨_,rfl⟩;have JZ:J bt=some ⟨[.nil,Bo false,LI (dg 1),.nil,I 0,.rs bf 0 0],0,true⟩:=by rw[O,ay];exact MS
 have a1:bt<E+1+1:=by omega
 simp only[go_sem,<- O,JZ,a1];generalize G:aF _ _=y;obtain rfl:=loop_exit G (by simp only[go_sem];rfl) (by simp);clear G;simp only[go_sem,g4];generalize G:aF _ _=y;obtain rfl:=loop_exit G (by simp only[go_sem];rfl) (by simp);clear G;have hx:J (E+1)=some ⟨[],1,true⟩:=by rw[O,upd_same];rfl
 simp only[go_sem,hx]
structure SG (s:Structure):Prop where
 nj:s.joints.length<=6
 nm:s.members.length<=8
 pl:∀i (h:i<s.joints.length),-50<=s.joints[i].x/\s.joints[i].x<=50/\-50<=s.joints[i].y/\s.joints[i].y<=50
 mr:∀k (h:k<s.members.length),CY s.joints.length s.members[k]
theorem dF.sg {s:Structure}(h:dF s):SG s:=by
 obtain⟨O,S,Y,h4⟩:=h;refine⟨O,S,fun i hi=>?_,fun k hk=>?_⟩
 .have E:=(Y i hi).1
  unfold qK at E;rw[yh,yh]at E;have G:=jg E.2.1;have J:=jg E.2.2;exact⟨G.1,G.2,J.1,J.2⟩
 .have E:=h4 _ (zu hk)
  refine zf fun hn=>?_
  rw[nJ hn]at E;cases E
def mem(s:Structure)(k:Nat):Member:=(s.members[k]?).getD ⟨0,0,0⟩
def WC(s:Structure)(i:Int):Joint:=(s.joints[i.toNat]?).getD ⟨ByteArray.empty,0,0,false⟩
def vx(s:Structure)(k:Nat):Int:=(WC s (mem s k).b).x - (WC s (mem s k).a).x
def vy(s:Structure)(k:Nat):Int:=(WC s (mem s k).b).y - (WC s (mem s k).a).y
theorem pU {s:Structure} {k:Nat}(h:k<s.members.length):s.members[k]=mem s k:=by unfold mem;rw[zy h];rfl
theorem agN {s:Structure}(h:SG s)(i:Int):-50<=(WC s i).x/\(WC s i).x<=50/\-50<=(WC s i).y/\(WC s i).y<=50:=by
 unfold WC
 by_cases hi:i.toNat<s.joints.length
 .rw[zy hi];exact h.pl _ hi
 .rw[yc (by omega)];simp
theorem Dv {s:Structure}(h:SG s)(k:Nat):-100<=vx s k/\vx s k<=100/\-100<=vy s k/\vy s k<=100:=by
 have E:=agN h (mem s k).a;have G:=agN h (mem s k).b;unfold vx vy;omega
theorem Es {α:Type} {c:α->List V} {s:Nat}(hc:∀x,(c x).length=s)(xs:List α)(k:Nat)(h:k<xs.length) {j:Nat}(E:j<s):(xs.flatMap c)[k*s+j]?=(c xs[k])[j]?:=by
 rw[<- slot hc xs k h,xC,if_pos E,xY]
theorem aa6 {s:Structure}(h:SG s) {k:Nat}(G:k<s.members.length):fn Tryz.prog conv ext 193 [.tp (cStructure s) 0,I k]=some (.dS [I (vx s k),I (vy s k)]):=by
 have J:=h.mr k G;rw[pU G]at J;have hb:=Dv h k;have a0:=h.nm;have XF:=h.nj;have O:=JO s.members k G;rw[pU G]at O;have f1:(k:Int)<(s.members.length:Int):=by omega
 have f2:=aI k;have f4:=BG s.members;have f5:k*3+3<=s.members.length*3:=by omega
 have f6:=JQ s.members k G;unfold vx vy at hb⊢;generalize mem s k=mm at *;obtain⟨S,Y,mk⟩:=mm;obtain⟨r1,r2,r3,r4,r5,r6⟩:=J;simp only at *;obtain⟨a,rfl⟩:∃a:Nat,S=(a:Int):=⟨S.toNat,by omega⟩;obtain⟨b,rfl⟩:∃b:Nat,Y=(b:Int):=⟨Y.toNat,by omega⟩;have ha:a<s.joints.length:=by omega
 have E:b<s.joints.length:=by omega
 have ea:WC s (a:Int)=s.joints[a]:=by unfold WC;rw[yw,zy ha];rfl
 have eb:WC s (b:Int)=s.joints[b]:=by unfold WC;rw[yw,zy E];rfl
 rw[ea,eb]at hb⊢;have g4:=sJ s.joints;have g6:=IC s.joints a ha;have p1:(s.joints.flatMap cJoint)[a*4+1]?=some (I s.joints[a].x):=Es (c:=cJoint) (fun _=>rfl) s.joints a ha (j:=1) (by decide);have p2:(s.joints.flatMap cJoint)[a*4+2]?=some (I s.joints[a].y):=Es (c:=cJoint) (fun _=>rfl) s.joints a ha (j:=2) (by decide);have p3:(s.joints.flatMap cJoint)[b*4+1]?=some (I s.joints[b].x):=Es (c:=cJoint) (fun _=>rfl) s.joints b E (j:=1) (by decide);have p4:(s.joints.flatMap cJoint)[b*4+2]?=some (I s.joints[b].y):=Es (c:=cJoint) (fun _=>rfl) s.joints b E (j:=2) (by decide);have w1:=ah (n:=s.joints[b].x-s.joints[a].x);have w2:=ah (n:=s.joints[b].y-s.joints[a].y);rw[aH,ak [.tmp 4,.tmp 5] [2] Tryz.func193];simp only[go_sem,O,f1,f2,f4,f5,f6,r1,r2,r3,r4,g4,g6,p1,p2,p3,p4,w1,w2]
def kK(s:Structure)(i:Nat):Bool:=(s.joints[i]?).elim false fun j=> !j.fixed
def free(s:Structure):List Int:=pO (kK s) s.joints.length
theorem Bq {T:Nat->V} {σ:Store} {nx t:Nat} {acc:List Int}(J:Grow T σ nx t acc)(x:Option Aw):Grow T (upd σ nx x) (nx+1) t acc:=by
 rcases J with ⟨E,G⟩|⟨b,E,G,O,S⟩
 .exact .inl ⟨E,G⟩
 .exact .inr ⟨b,E,G,by rw[ay];exact O,by omega⟩
theorem JB {s:Structure}(h:SG s):fn Tryz.prog conv ext 165 [.tp (cStructure s) 0]=some (LI (free s)):=by
 have XF:=h.nj;unfold free;rw[aH,ak [.tmp 2] [] Tryz.func165];simp only[go_sem];generalize hL:aF _ _=y;obtain⟨r,rfl,T',σ',nx',rfl,h2⟩:=aB hL s.joints.length (fun k st=>st.T 9=LL cJoint s.joints/\st.T 10=I s.joints.length/\st.T 11=I k/\Grow st.T st.σ st.nx 3 (pO (kK s) k))
  (fun r=>∃T σ nx',r=(.exit 0,⟨T,σ,nx'⟩)/\Grow T σ nx' 3 (pO (kK s) s.joints.length)) (by
   clear hL;rintro k ⟨T,σ,nx⟩ G ⟨O,E,J,S⟩;simp only at O E J S;have f1:(k:Int)<(s.joints.length:Int):=by omega
   have f2:=aI k;have f3:=ah (n:=(k:Int)+1);have f4:=FC s.joints k G;have f5:=sJ s.joints;have f6:k*4+4<=s.joints.length*4:=by omega
   have f9:=IC s.joints k G;have hle:=ru (kK s) k;have Y:=fun x=>Bq S x
   cases hp:s.joints[k].fixed with
   |false=>
    have hq:kK s k=true:=by simp[kK,zy G,hp]
    obtain⟨σ',ha,hs⟩:=fG (Y (some ⟨[Sg s.joints[k].name,I s.joints[k].x,I s.joints[k].y,Bo false],0,true⟩)) (k:Int) (by omega);refine .inl ⟨_,by simp only[go_sem,O,E,J,f1,f2,f3,f4,f5,f6,f9,hp,G,ha];rfl,?_⟩;simp only[go_sem,O,E];rw[A_ hq];exact⟨rfl,fH hs (by simp[go_sem]) (by simp)⟩
   |true=>
    have hq:kK s k=false:=by simp[kK,zy G,hp]
    refine .inl ⟨_,by simp only[go_sem,O,E,J,f1,f2,f3,f4,f5,f6,f9,hp,G];rfl,?_⟩;simp only[go_sem,O,E];rw[FP hq];exact⟨rfl,dM (T:=T) (by simp only[go_sem]) (Y _)⟩) (by
   rintro ⟨T,σ,nx⟩ ⟨O,E,J,S⟩;simp only at O E J S;exact⟨_,by simp only[go_sem,E,J,zl];rfl,by simp,_,_,_,rfl,dM (by simp only[go_sem]) S⟩) (by
   simp only[go_sem];exact .inl ⟨by simp only[go_sem],rfl⟩)
 obtain⟨ids,hs⟩:=iP h2 6;simp only[go_sem,hs]
end Go.Proofs.YtehdaknhabeiaaaGreat
namespace Go.Plan
inductive Way (mv:Nat->Nat->Bool) (al:Nat->Bool):Nat->Nat->Nat->Prop
 |nil {a:Nat} (h:al a=true):Way mv al 0 a a
 |cons {k a b c:Nat} (h:al a=true) (hm:mv a b=true) (hw:Way mv al k b c):Way mv al (k+1) a c
section
variable {mv:Nat->Nat->Bool} {al:Nat->Bool}
theorem Way.fst {k a b:Nat}(h:Way mv al k a b):al a=true:=by cases h<;>assumption
theorem Way.lst {k a b:Nat}(h:Way mv al k a b):al b=true:=by induction h<;>assumption
theorem Way.snoc {k a b c:Nat}(h:Way mv al k a b)(hm:mv b c=true)(hc:al c=true):Way mv al (k+1) a c:=by
 induction h with
 |nil h=>exact .cons h hm (.nil hc)
 |cons h E _ G=>exact .cons h E (G hm)
theorem Way.zero {a b:Nat}(h:Way mv al 0 a b):a=b/\al a=true:=by
 cases h with
 |nil h=>exact⟨rfl,h⟩
theorem Way.succ {k a c:Nat}(h:Way mv al (k+1) a c):al a=true/\∃b,mv a b=true/\Way mv al k b c:=by
 cases h with
 |cons h hm hw=>exact⟨h,_,hm,hw⟩
theorem least {p:Nat->Prop}(h:∃k,p k):∃k,p k/\∀j,p j->k<=j:=by
 obtain⟨k,E⟩:=h
 induction k using Nat.strongRecOn with
 |_ k G=>
  by_cases h:∃j,j<k/\p j
  .obtain⟨j,J,hp⟩:=h;exact G j J hp
  .exact⟨k,E,fun j hp=>zf fun O=>h ⟨j,by omega,hp⟩⟩
def I7(mv:Nat->Nat->Bool)(al:Nat->Bool)(to i:Nat)(d:Int):Prop:=(d= -1/\∀k,¬Way mv al k i to)\/∃k:Nat,d=(k:Int)/\Way mv al k i to/\∀j,Way mv al j i to->k<=j
theorem aa7(mv:Nat->Nat->Bool)(al:Nat->Bool)(to i:Nat):∃d,I7 mv al to i d:=by
 by_cases h:∃k,Way mv al k i to
 .obtain⟨k,E,G⟩:=least h
  exact⟨k,.inr ⟨k,rfl,E,G⟩⟩
 .exact⟨-1,.inl ⟨rfl,fun k J=>h ⟨k,J⟩⟩⟩
noncomputable def dst(mv:Nat->Nat->Bool)(al:Nat->Bool)(to i:Nat):Int:=Classical.choose (aa7 mv al to i)
theorem SB(mv:Nat->Nat->Bool)(al:Nat->Bool)(to i:Nat):I7 mv al to i (dst mv al to i):=Classical.choose_spec (aa7 mv al to i)
theorem I7.uniq {to i:Nat} {d e:Int}(E:I7 mv al to i d)(G:I7 mv al to i e):d=e:=by
 rcases E with ⟨rfl,E⟩|⟨k,rfl,E,J⟩<;>rcases G with ⟨rfl,G⟩|⟨j,rfl,G,O⟩
 .rfl
 .exact absurd G (E _)
 .exact absurd E (G _)
 .have:=J _ G;have:=O _ E;omega
theorem agO {to i:Nat} {d:Int}(h:I7 mv al to i d):dst mv al to i=d:=(SB mv al to i).uniq h
theorem anL(to i:Nat):-1<=dst mv al to i:=by
 rcases SB mv al to i with ⟨h,_⟩|⟨k,h,_⟩<;>omega
theorem Hf {to i:Nat}(h:0<=dst mv al to i):∃k:Nat,dst mv al to i=k/\Way mv al k i to/\∀j,Way mv al j i to->k<=j:=by
 rcases SB mv al to i with ⟨E,_⟩|E
 .omega
 .exact E
theorem SC {to i k:Nat}(h:Way mv al k i to):0<=dst mv al to i/\dst mv al to i<=k:=by
 rcases SB mv al to i with ⟨_,E⟩|⟨j,E,J,G⟩
 .exact absurd h (E _)
 .have:=G _ h;omega
theorem WE {to i:Nat}(h:∀k,¬Way mv al k i to):dst mv al to i= -1:=agO (.inl ⟨rfl,h⟩)
theorem Nc {to:Nat}(h:al to=true):dst mv al to to=0:=by
 have:=SC (Way.nil (mv:=mv) h);omega
theorem WG {to i:Nat}(h:dst mv al to i=0):i=to/\al to=true:=by
 obtain⟨k,J,E,_⟩:=Hf (mv:=mv) (al:=al) (to:=to) (i:=i) (by omega);have:k=0:=by omega
 subst this;obtain⟨rfl,G⟩:=E.zero;exact⟨rfl,G⟩
theorem Nh {to i:Nat}(h:0<=dst mv al to i):al i=true/\al to=true:=by
 obtain⟨k,_,E,_⟩:=Hf h;exact⟨E.fst,E.lst⟩
theorem WH {to i m:Nat}(hi:al i=true)(hm:mv i m=true)(h:0<=dst mv al to m):0<=dst mv al to i/\dst mv al to i<=dst mv al to m+1:=by
 obtain⟨k,G,E,_⟩:=Hf h;have:=SC (Way.cons hi hm E);omega
theorem WI {to i:Nat}(h:0<dst mv al to i):al i=true/\∃m,mv i m=true/\al m=true/\dst mv al to m=dst mv al to i-1:=by
 obtain⟨k,Y,O,h3⟩:=Hf (mv:=mv) (al:=al) (to:=to) (i:=i) (by omega);cases k with
 |zero=>omega
 |succ k=>
  obtain⟨E,b,G,J⟩:=O.succ;have S:=SC J;have h8:=WH E G S.1;exact⟨E,b,G,J.fst,by omega⟩
theorem Et:∀ {n:Nat} {l:List Nat},l.Nodup->(∀x∈l,x<n)->l.length<=n
 |0,[],_,_=>zq 0
 |0,x :: _,_,h=>absurd (h x zN) (zW _)
 |n+1,l,hn,h=>by
  have G:=Et (n:=n) (l:=l.erase n) (hn.sublist List.erase_sublist) fun x J=>by
   have E:=(List.Nodup.mem_erase_iff hn).mp J;have:=h x E.2;have:=E.1;omega
  by_cases hm:n∈l
  .have:=List.length_erase_of_mem hm
   omega
  .rw[List.erase_of_not_mem hm]at G
   omega
structure WJ (mv:Nat->Nat->Bool) (al:Nat->Bool) (to:Nat) (all:List Nat) (p:Nat) (out:Nat->Int):Prop where
 nd:all.Nodup
 lab:∀i,i∉all->out i= -1
 way:∀i,i∈all->∃k:Nat,out i=k/\Way mv al k i to
 t0:to∈all/\out to=0
 srt:∀a b (ha:a<all.length) (hb:b<all.length),a<=b->out all[a]<=out all[b]
 don:∀a (ha:a<all.length),a<p->∀i,al i=true->mv i all[a]=true->i∈all/\out i<=out all[a]+1
 one:∀(hp:p<all.length),∀i∈all,out i<=out all[p]+1
 bnd:∀i,i∈all->out i<all.length
def put(out:Nat->Int)(x:Nat)(v:Int):Nat->Int:=fun i=>if i=x then v else out i
theorem jG(out:Nat->Int)(x:Nat)(v:Int):put out x v x=v:=if_pos rfl
theorem Dw {out:Nat->Int} {x i:Nat} {v:Int}(h:i≠x):put out x v i=out i:=if_neg h
theorem adB {to:Nat}(h:al to=true):WJ mv al to [to] 0 (put (fun _=> -1) to 0):=by
 refine⟨by simp,fun i hi=>?_,fun i hi=>?_,⟨by simp,jG _ _ _⟩,fun a b ha hb _=>?_,fun a ha E=>absurd E (zW _),fun hp i hi=>?_,fun i hi=>?_⟩
 .exact Dw (by simpa using hi)
 .have:i=to:=by simpa using hi
  subst this;exact⟨0,jG _ _ _,.nil h⟩
 .have G:a=0:=by simpa using ha
  have J:b=0:=by simpa using hb
  subst G J;exact yE _
 .have:i=to:=by simpa using hi
  subst this;show put _ _ _ _<=put _ _ _ i+1;omega
 .have:i=to:=by simpa using hi
  subst this;rw[jG];simp
theorem WJ.lo {to:Nat} {all:List Nat} {p:Nat} {out:Nat->Int}(h:WJ mv al to all p out)(i:Nat):(out i<0↔i∉all):=by
 constructor
 .intro E G
  obtain⟨k,J,_⟩:=h.way i G;omega
 .intro E
  rw[h.lab i E];omega
theorem WJ.add {to:Nat} {all:List Nat} {p:Nat} {out:Nat->Int}(h:WJ mv al to all p out)(hp:p<all.length) {x:Nat}(hx:x∉all)(Y:al x=true)(a0:mv x all[p]=true):WJ mv al to (all++[x]) p (put out x (out all[p]+1)):=by
 have ne:∀ {i:Nat},i∈all->put out x (out all[p]+1) i=out i:=fun {i} hi=>Dw fun e=>hx (e ▸ hi)
 obtain⟨kp,a4,a1⟩:=h.way all[p] (zu hp);have G:∀i∈all++[x],put out x (out all[p]+1) i<=out all[p]+1:=fun i hi=>by
  rcases List.mem_append.mp hi with hi|hi
  .rw[ne hi];exact h.one hp i hi
  .have:i=x:=by simpa using hi
   subst this;rw[jG];exact yE _
 have gl:∀ {a:Nat} (ha:a<(all++[x]).length),(∃h':a<all.length,(all++[x])[a]=all[a])\/(a=all.length/\(all++[x])[a]=x):=fun {a} ha=>by
  by_cases h':a<all.length
  .exact .inl ⟨h',xu h'⟩
  .have:a=all.length:=by simp at ha;omega
   subst this;exact .inr ⟨rfl,by simp⟩
 refine⟨?_,fun i hi=>?_,fun i hi=>?_,⟨zF _ h.t0.1,?_⟩,fun a b ha hb a2=>?_,fun a ha a3 i hi hm=>?_,fun a5 i hi=>?_,fun i hi=>?_⟩
 .rw[List.nodup_append]
  exact⟨h.nd,by simp,fun a ha b hb=>by have:b=x:=by simpa using hb
                                       subst this;exact fun e=>hx (e ▸ ha)⟩
 .have h1:i∉all:=fun e=>hi (zF _ e)
  have h2:i≠x:=fun e=>hi (zA _ (by simp[e]))
  rw[Dw h2];exact h.lab i h1
 .rcases List.mem_append.mp hi with hi|hi
  .rw[ne hi];exact h.way i hi
  .have:i=x:=by simpa using hi
   subst this;exact⟨kp+1,by rw[jG];omega,.cons Y a0 a1⟩
 .rw[ne h.t0.1];exact h.t0.2
 .rcases gl ha with ⟨E,J⟩|⟨ra,J⟩<;>rcases gl hb with ⟨O,S⟩|⟨rb,S⟩
  .rw[J,S,ne (zu E),ne (zu O)]
   exact h.srt a b E O a2
  .rw[J,S,jG,ne (zu E)]
   exact h.one hp _ (zu E)
  .omega
  .rw[J,S];exact yE _
 .rcases gl ha with ⟨E,J⟩|⟨ra,J⟩
  .rw[J]at hm⊢
   have:=h.don a E a3 i hi hm;rw[ne this.1,ne (zu E)];exact⟨zF _ this.1,this.2⟩
  .omega
 .have e:(all++[x])[p]=all[p]:=xu hp
  rw[e,ne (zu hp)];exact G i hi
 .have h1:=G i hi
  have h2:=h.bnd all[p] (zu hp);rw[zo,yL];omega
theorem WJ.next {to:Nat} {all:List Nat} {p:Nat} {out:Nat->Int}(h:WJ mv al to all p out)(hp:p<all.length)(G:∀i,al i=true->mv i all[p]=true->i∈all):WJ mv al to all (p+1) out:=by
 refine⟨h.nd,h.lab,h.way,h.t0,h.srt,fun a ha J i hi hm=>?_,fun E i hi=>?_,h.bnd⟩
 .by_cases e:a=p
  .subst e
   exact⟨G i hi hm,h.one hp i (G i hi hm)⟩
  .exact h.don a ha (by omega) i hi hm
 .have O:=h.one hp i hi
  have S:=h.srt p (p+1) hp E (by omega);omega
theorem WJ.fin {to:Nat} {all:List Nat} {p:Nat} {out:Nat->Int}(h:WJ mv al to all p out)(hp:all.length<=p)(i:Nat):dst mv al to i=out i:=by
 have key:∀k i,Way mv al k i to->i∈all/\out i<=k:=by
  intro k
  induction k with
  |zero=>
   intro i hw;obtain⟨rfl,_⟩:=hw.zero;exact⟨h.t0.1,by rw[h.t0.2];omega⟩
  |succ k J=>
   intro i hw;obtain⟨E,b,G,O⟩:=hw.succ;obtain⟨S,h5⟩:=J b O;obtain⟨a,ha,rfl⟩:=yV S;obtain⟨Y,h7⟩:=h.don a ha (by omega) i E G;exact⟨Y,by omega⟩
 apply agO
 by_cases hm:i∈all
 .obtain⟨k,E,G⟩:=h.way i hm
  exact .inr ⟨k,E,G,fun j hj=>by have:=(key j i hj).2;omega⟩
 .exact .inl ⟨h.lab i hm,fun k hk=>hm (key k i hk).1⟩
theorem WJ.bound {to:Nat} {all:List Nat} {p n:Nat} {out:Nat->Int}(h:WJ mv al to all p out)(hn:∀i,al i=true->i<n):all.length<=n :=
 Et h.nd fun i hi=>by obtain⟨k,_,hw⟩:=h.way i hi;exact hn i hw.fst
structure Fwd (mv:Nat->Nat->Bool) (al:Nat->Bool) (fr:Nat) (all:List Nat) (p:Nat):Prop where
 nd:all.Nodup
 way:∀i,i∈all->∃k:Nat,Way mv al k fr i
 t0:fr∈all
 don:∀a (ha:a<all.length),a<p->∀i,al i=true->mv all[a] i=true->i∈all
theorem Fwd.add {fr:Nat} {all:List Nat} {p:Nat}(h:Fwd mv al fr all p)(hp:p<all.length) {x:Nat}(Y:x∉all)(G:al x=true)(J:mv all[p] x=true):Fwd mv al fr (all++[x]) p:=by
 obtain⟨kp,O⟩:=h.way all[p] (zu hp);refine⟨?_,fun i hi=>?_,zF _ h.t0,fun a ha S i hi hm=>?_⟩
 .rw[List.nodup_append]
  exact⟨h.nd,by simp,fun a ha b hb=>by have:b=x:=by simpa using hb
                                       subst this;exact fun e=>Y (e ▸ ha)⟩
 .rcases List.mem_append.mp hi with hi|hi
  .exact h.way i hi
  .have:i=x:=by simpa using hi
   subst this;exact⟨kp+1,O.snoc J G⟩
 .have E:a<all.length:=by omega
  have e:(all++[x])[a]=all[a]:=xu E;rw[e]at hm;exact zF _ (h.don a E S i hi hm)
theorem Fwd.next {fr:Nat} {all:List Nat} {p:Nat}(h:Fwd mv al fr all p)(hp:p<all.length)(E:∀i,al i=true->mv all[p] i=true->i∈all):Fwd mv al fr all (p+1) :=
 ⟨h.nd,h.way,h.t0,fun a ha G i hi hm=>by
  by_cases e:a=p
  .subst e;exact E i hi hm
  .exact h.don a ha (by omega) i hi hm⟩
theorem Fwd.fin {fr:Nat} {all:List Nat} {p:Nat}(h:Fwd mv al fr all p)(hp:all.length<=p)(i:Nat):i∈all↔0<=dst mv al i fr:=by
 have key:∀k a,Way mv al k a i->a∈all->i∈all:=by
  intro k a hw
  induction hw with
  |nil _=>exact id
  |cons h1 hm E O=>
   intro ha;obtain⟨S,G,rfl⟩:=yV ha;exact O (h.don S G (by omega) _ E.fst hm)
 constructor
 .intro hi
  obtain⟨k,J⟩:=h.way i hi;exact(SC J).1
 .intro Y
  obtain⟨k,_,J,_⟩:=Hf Y;exact key k fr J h.t0
theorem Fwd.bound {fr:Nat} {all:List Nat} {p n:Nat}(h:Fwd mv al fr all p)(hn:∀i,al i=true->i<n):all.length<=n :=
 Et h.nd fun i hi=>by obtain⟨k,hw⟩:=h.way i hi;exact hn i hw.lst
def Ie(mv:Nat->Nat->Bool)(out:Nat->Int)(n a:Nat):Nat:=((List.range n).find? fun i=>mv a i && (out i==out a-1)).getD a
def WL(mv:Nat->Nat->Bool)(out:Nat->Int)(n a:Nat):Nat->Nat
 |0=>a
 |k+1=>Ie mv out n (WL mv out n a k)
theorem agP {n to:Nat}(hn:∀i,al i=true->i<n) {a:Nat}(h:0<dst mv al to a):Ie mv (dst mv al to) n a<n/\mv a (Ie mv (dst mv al to) n a)=true/\dst mv al to (Ie mv (dst mv al to) n a)=dst mv al to a-1:=by
 obtain⟨_,m,J,O,S⟩:=WI h;unfold Ie;cases E:(List.range n).find? fun i=>mv a i && (dst mv al to i==dst mv al to a-1)with
 |none=>
  rw[List.find?_eq_none]at E;have:=E m (by simpa using hn m O);simp[J,S]at this
 |some i=>
  have G:=List.find?_some E;have Y:=List.mem_of_find?_eq_some E;rw[yh,beq_iff_eq]at G;exact⟨by simpa using Y,G.1,G.2⟩
theorem I8 {n to:Nat}(hn:∀i,al i=true->i<n) {a:Nat}:∀k:Nat,(k:Int)<=dst mv al to a->dst mv al to (WL mv (dst mv al to) n a k)=dst mv al to a-k
 |0,_=>by unfold WL;omega
 |k+1,h=>by
  have E:=I8 hn (to:=to) (a:=a) k (by omega);have G:=agP hn (mv:=mv) (to:=to) (a:=WL mv (dst mv al to) n a k) (by omega);unfold WL;omega
theorem ZI {n to:Nat}(hn:∀i,al i=true->i<n) {a:Nat}(h:0<=dst mv al to a):dst mv al to a<n:=by
 obtain⟨d,hd⟩:∃d:Nat,dst mv al to a=d:=⟨(dst mv al to a).toNat,by omega⟩;have G:((List.range (d+1)).map (WL mv (dst mv al to) n a)).Nodup:=by
  unfold List.Nodup;rw[List.pairwise_map];refine List.Pairwise.imp_of_mem ?_ (List.pairwise_lt_range (n:=d+1));intro i j hi J O e;rw[List.mem_range]at hi J;have E:=I8 hn (mv:=mv) (to:=to) (a:=a) i (by omega);have S:=I8 hn (mv:=mv) (to:=to) (a:=a) j (by omega);rw[e,S]at E;omega
 have Y:=Et (n:=n) G fun x hx=>by
  obtain⟨i,hi,rfl⟩:=List.mem_map.mp hx;rw[List.mem_range]at hi;have E:=I8 hn (mv:=mv) (to:=to) (a:=a) i (by omega);exact hn _ (Nh (mv:=mv) (to:=to) (by omega)).1
 simp at Y;omega
def plan(mv:Nat->Nat->Bool)(out:Nat->Int)(n a:Nat):List Nat:=(List.range ((out a).toNat+1)).map (WL mv out n a)
end
end Go.Plan
namespace Go.Plan
section
variable {mv:Nat->Nat->Bool} {al:Nat->Bool}
noncomputable def lst(mv:Nat->Nat->Bool)(al:Nat->Bool)(to a:Nat):Int:=if 0<=dst mv al to a then dst mv al to a+1 else 0
def ar7(f:Int->Int)(b:Int)(k:Int):Int:=if 0<f k/\(b=0\/f k<b)then f k else b
def best(f:Int->Int)(l:List Int):Int:=l.foldl (ar7 f) 0
end
end Go.Plan
namespace Go.Plan
section
variable {mv:Nat->Nat->Bool} {al:Nat->Bool}
structure Ot (mv:Nat->Nat->Bool) (al:Nat->Bool) (to n:Nat) (D:Nat->Prop) (out:Nat->Int):Prop where
 lo:∀i,dst mv al to i<=(n:Int)->out i=dst mv al to i
 hi:∀i,(n:Int)<dst mv al to i->out i= -1\/(out i=(n:Int)+1/\dst mv al to i=(n:Int)+1)
 dn:∀i,D i->dst mv al to i=(n:Int)+1->out i=(n:Int)+1
theorem adC {to:Nat}(h:al to=true):Ot mv al to 0 (fun _=>False) (put (fun _=> -1) to 0) where
 lo i hi:=by
  by_cases e:i=to
  .subst e;rw[jG,Nc h]
  .rw[Dw e]
   have G:=anL (mv:=mv) (al:=al) to i
   by_cases E:dst mv al to i=0
   .exact absurd (WG E).1 e
   .omega
 hi i hi:=by
  by_cases e:i=to
  .subst e;rw[Nc h]at hi;omega
  .rw[Dw e];exact .inl rfl
 dn i h0:=absurd h0 id
theorem Ot.at {to n:Nat} {D:Nat->Prop} {out:Nat->Int}(h:Ot mv al to n D out) {b:Nat}(hb:out b=(n:Int)):dst mv al to b=n:=by
 by_cases c:dst mv al to b<=(n:Int)
 .rw[<- h.lo b c];exact hb
 .rcases h.hi b (by omega)with e|⟨e,_⟩<;>omega
theorem Ot.yes {to n:Nat} {D:Nat->Prop} {out:Nat->Int}(h:Ot mv al to n D out) {a b:Nat}(hm:mv a b=true)(hb:out b=(n:Int))(ha:out a<0)(E:al a=true):Ot mv al to n (fun i=>D i\/i=a) (put out a ((n:Int)+1)):=by
 have G:=h.at hb;obtain⟨S,Y⟩:=WH E hm (by rw[G];omega);have J:dst mv al to a=(n:Int)+1:=by
  refine zf fun hn=>?_
  have:=h.lo a (by omega);omega
 refine⟨fun i hi=>?_,fun i hi=>?_,fun i O hi=>?_⟩
 .have:i≠a:=fun e=>by subst e;omega
  rw[Dw this];exact h.lo i hi
 .by_cases e:i=a
  .subst e;rw[jG];exact .inr ⟨rfl,J⟩
  .rw[Dw e];exact h.hi i hi
 .by_cases e:i=a
  .subst e;rw[jG]
  .rw[Dw e];exact h.dn i (O.resolve_right e) hi
theorem Ot.no {to n:Nat} {D:Nat->Prop} {out:Nat->Int}(h:Ot mv al to n D out) {a b:Nat}(hn:¬(out b=(n:Int)/\out a<0/\al a=true)):Ot mv al to n (fun i=>D i\/(i=a/\dst mv al to b=(n:Int))) out:=by
 refine⟨h.lo,h.hi,fun i E hi=>?_⟩;rcases E with E|⟨rfl,hb⟩
 .exact h.dn i E hi
 .rcases h.hi i (by omega)with e|⟨e,_⟩
  .exact absurd ⟨by rw[h.lo b (by omega)];exact hb,by omega,(Nh (mv:=mv) (al:=al) (to:=to) (i:=i) (by omega)).1⟩ hn
  .exact e
theorem Ot.weak {to n:Nat} {D E:Nat->Prop} {out:Nat->Int}(h:Ot mv al to n D out)(J:∀i,dst mv al to i=(n:Int)+1->E i->D i):Ot mv al to n E out :=
 ⟨h.lo,h.hi,fun i O G=>h.dn i (J i G O) G⟩
theorem Ot.next {to n:Nat} {D:Nat->Prop} {out:Nat->Int}(h:Ot mv al to n D out)(E:∀i b,mv i b=true->dst mv al to b=(n:Int)->D i):Ot mv al to (n+1) (fun _=>False) out:=by
 have key:∀i,dst mv al to i=(n:Int)+1->out i=(n:Int)+1:=fun i hi=>by
  obtain⟨_,m,hm,_,J⟩:=WI (mv:=mv) (al:=al) (to:=to) (i:=i) (by omega);exact h.dn i (E i m hm (by omega)) hi
 refine⟨fun i hi=>?_,fun i hi=>?_,fun i G=>absurd G id⟩
 .by_cases c:dst mv al to i<=(n:Int)
  .exact h.lo i c
  .have e:dst mv al to i=(n:Int)+1:=by omega
   rw[key i e,e]
 .rcases h.hi i (by omega)with e|⟨e,O⟩
  .exact .inl e
  .omega
theorem Ot.fin {to n:Nat} {D:Nat->Prop} {out:Nat->Int}(h:Ot mv al to n D out)(hn:∀i,al i=true->i<n)(i:Nat):out i=dst mv al to i:=by
 refine h.lo i ?_
 by_cases c:0<=dst mv al to i
 .have:=ZI hn c;omega
 .omega
end
end Go.Plan
namespace Go.Proofs.YtehdaknhabeiaaaGreat
open Go Go.TV
def qO(s:Nat):List V->Store->Nat->Option (V×Store×Nat)
 |[.ts row len],σ,nx=>if row.length=len*s/\len<=1000000/\row.all aT=true then(if len=0 then some (.nil,σ,nx)else some (.rs nx 0 len,dA σ nx row s,nx+1))else none
 |_,_,_=>none
theorem SE(args:List V)(σ:Store)(nx:Nat)(v:V)(σ':Store)(nx':Nat)(h:qO 1 args σ nx=some (v,σ',nx')):o8 Tryz.prog 66 args σ nx v σ' nx':=by
 unfold qO at h
 split at h
 .rename_i row len
  split at h
  .rename_i hc
   obtain⟨O,hs,G⟩:=hc;refine Fq (call:=fun _ _ _ _=>none) (conv:=fun _=> .Ii) (fun _ _ _ _ _ _ _ h=>by cases h) (by kernel_rfl) Tryz.func66 rfl Tryz.underlying74 (n:=0) (by kernel_rfl) (st1:=⟨upd (jM [.ts row len]) 2 .nil,σ,nx⟩) (T2:=upd (upd (jM [.ts row len]) 2 .nil) 3 (.ts row len)) (v1:=.ts row len) (row:=row) (len:=len) (vs:=[v]) ?_ rfl ?_ rfl ?_ ?_
   .rfl
   .rfl
   .rfl
   .intro b hb
    cases b with
    |true=>
     have J:=hb rfl;subst J;have E:len=0:=by
      have S:0=len*1:=O;omega
     subst E;simp only[if_true,wC,wB]at h;obtain⟨rfl,rfl,rfl⟩:=h;exact⟨.ret,_,rfl,.inr rfl,rfl,rfl,rfl⟩
    |false=>
     by_cases E:len=0
     .subst E
      have J:row=[]:=zZ (by omega);subst J;simp only[if_true,wC,wB]at h;obtain⟨rfl,rfl,rfl⟩:=h;refine⟨.ret,?_,?_,.inr rfl,?_,?_,?_⟩
      .exact⟨upd (upd (upd (upd (upd (upd (upd (upd (jM [.ts [] 0]) 2 .nil) 3 (.ts [] 0)) 4 (.sc (.bool false))) 5 .nil) 6 (.ts [] 0)) 7 .nil) 2 .nil) 2 .nil,σ,nx⟩
      .simp only[aX,go_sem]
      .rfl
      .rfl
      .rfl
     .rw[if_neg E]at h
      simp only[wC,wB]at h;obtain⟨rfl,rfl,rfl⟩:=h;have q0:len<=maxLen:=by unfold maxLen;omega
      have Y:len<=maxLen/\len*1<=140737488355328:=by unfold maxLen;omega
      have q2:len<=maxLen/\len*40<=140737488355328:=by unfold maxLen;omega
      have q3:len<=maxLen/\len<=140737488355328:=by unfold maxLen;omega
      refine⟨.ret,?_,?_,.inr rfl,?_,?_,?_⟩
      .exact⟨upd (upd (upd (upd (upd (upd (upd (jM [.ts row len]) 2 .nil) 3 (.ts row len)) 4 (.sc (.bool false))) 5 .nil) 6 (.ts row len)) 7 (.rs nx 0 len)) 2 (.rs nx 0 len),dA σ nx row 1,nx+1⟩
      .simp only[aX,go_sem,O,E,Y,q2,q3]
      .rfl
      .rfl
      .rfl
  .cases h
 .cases h
theorem SH(args:List V)(σ:Store)(nx:Nat)(v:V)(σ':Store)(nx':Nat)(h:qO 4 args σ nx=some (v,σ',nx')):o8 Tryz.prog 108 args σ nx v σ' nx':=by
 unfold qO at h
 split at h
 .rename_i row len
  split at h
  .rename_i hc
   obtain⟨O,hs,G⟩:=hc;refine Fq (call:=fun _ _ _ _=>none) (conv:=fun _=> .Ii) (fun _ _ _ _ _ _ _ h=>by cases h) (by kernel_rfl) Tryz.func108 rfl Tryz.underlying31 (n:=0) (by kernel_rfl) (st1:=⟨upd (jM [.ts row len]) 2 .nil,σ,nx⟩) (T2:=upd (upd (jM [.ts row len]) 2 .nil) 3 (.ts row len)) (v1:=.ts row len) (row:=row) (len:=len) (vs:=[v]) ?_ rfl ?_ rfl ?_ ?_
   .rfl
   .rfl
   .rfl
   .intro b hb
    cases b with
    |true=>
     have J:=hb rfl;subst J;have E:len=0:=by
      have S:0=len*4:=O;omega
     subst E;simp only[if_true,wC,wB]at h;obtain⟨rfl,rfl,rfl⟩:=h;exact⟨.ret,_,rfl,.inr rfl,rfl,rfl,rfl⟩
    |false=>
     by_cases E:len=0
     .subst E
      have J:row=[]:=zZ (by omega);subst J;simp only[if_true,wC,wB]at h;obtain⟨rfl,rfl,rfl⟩:=h;refine⟨.ret,?_,?_,.inr rfl,?_,?_,?_⟩
      .exact⟨upd (upd (upd (upd (upd (upd (upd (upd (jM [.ts [] 0]) 2 .nil) 3 (.ts [] 0)) 4 (.sc (.bool false))) 5 .nil) 6 (.ts [] 0)) 7 .nil) 2 .nil) 2 .nil,σ,nx⟩
      .simp only[aX,go_sem]
      .rfl
      .rfl
      .rfl
     .rw[if_neg E]at h
      simp only[wC,wB]at h;obtain⟨rfl,rfl,rfl⟩:=h;have q0:len<=maxLen:=by unfold maxLen;omega
      have Y:len<=maxLen/\len*1<=140737488355328:=by unfold maxLen;omega
      have q2:len<=maxLen/\len*40<=140737488355328:=by unfold maxLen;omega
      have q3:len<=maxLen/\len<=140737488355328:=by unfold maxLen;omega
      refine⟨.ret,?_,?_,.inr rfl,?_,?_,?_⟩
      .exact⟨upd (upd (upd (upd (upd (upd (upd (jM [.ts row len]) 2 .nil) 3 (.ts row len)) 4 (.sc (.bool false))) 5 .nil) 6 (.ts row len)) 7 (.rs nx 0 len)) 2 (.rs nx 0 len),dA σ nx row 4,nx+1⟩
      .simp only[aX,go_sem,O,E,Y,q2,q3]
      .rfl
      .rfl
      .rfl
  .cases h
 .cases h
section
variable {P:Program} {conv:FuncId->Conv} {call:TV.Call} (d:Option Tmp) (ty:TypeId) (ps:String) (af:Array Edge) (gd:Option (Nat×Bool)) (T:Nat->V) (σ:Store) (nx:Nat)
theorem Nj(t:TypeId)(len:Nat)(parts:Array (Nat×Operand))(E:(decide (len=0) && !parts.isEmpty)=false)(G:¬len=0)(h:(bF P t).slice=true)(J:(bF P t).Qw=true) :
  bY P conv call ⟨d,.buildSlice t len parts,ty,ps,af,gd⟩ T σ nx=iI P t len (parts.toList.map fun p=>(p.1,val T p.2)) σ nx:=by
 have key:∀σ,iI P t len (parts.toList.map fun p=>(p.1,val T p.2)) σ nx=(if 0<(bF P t).DU/\len*(bF P t).DU<=1000 then(jA (fun j=>some (j*(bF P t).DU,(bF P t).DU)) (rep len (bF P t).oI) (parts.toList.map fun p=>(p.1,val T p.2))).map fun cells=>(cells,(bF P t).DU,V.rs nx 0 len)else none).map fun p=>(p.2.2,dA σ nx p.1 p.2.1,nx+1):=fun σ=>by
  rw[kC h J,if_neg G]
  split
  .cases jA (fun j=>some (j*(bF P t).DU,(bF P t).DU)) (rep len (bF P t).oI) (parts.toList.map fun p=>(p.1,val T p.2))<;>rfl
  .rfl
 have:=Gu (P:=P) (conv:=conv) (call:=call) (o:=⟨d,.buildSlice t len parts,ty,ps,af,gd⟩) T σ nx rfl fun σ=>(lK d ty ps af gd T σ nx t len parts E).trans (key σ)
 exact this.trans (key σ).symm
end
attribute [go_sem] Nj
def Bd(L:List Int):Prop:=∀x∈L,-100<=x/\x<=100
open Go.Lp
attribute [-go_sem] bK
def iZ {α:Type}(c:α->List V)(s:Nat)(T:Nat->V)(σ:Store)(nx t:Nat)(acc:List α):Prop:=(T t= .nil/\acc=[])\/∃b,T t= .rs b 0 acc.length/\acc≠[]/\σ b=some ⟨acc.flatMap c,s,true⟩/\b<nx
section
variable {α:Type} {c:α->List V} {s:Nat} {T:Nat->V} {σ:Store} {nx t:Nat} {acc:List α}
theorem ny(J:iZ c s T σ nx t acc)(x:Option Aw):iZ c s T (upd σ nx x) (nx+1) t acc:=by
 rcases J with ⟨E,G⟩|⟨b,E,G,O,S⟩
 .exact .inl ⟨E,G⟩
 .exact .inr ⟨b,E,G,by rw[ay];exact O,by omega⟩
theorem WM {T':Nat->V} {E:Nat}(h:T' E=T t)(G:iZ c s T σ nx t acc):iZ c s T' σ nx E acc:=by
 unfold iZ at *;rw[h];exact G
theorem gY(hc:∀x,(c x).length=s)(E:∀x,(c x).all aT=true)(hs:0<s) {bytes:Nat}(S:iZ c s T σ nx t acc)(x:α)(hl:acc.length<100000)(hb:bytes<=1000) :
  ∃σ',bT (upd σ nx (some ⟨c x,s,true⟩)) (nx+1) s bytes (T t) (c x) 1=some (.rs (nx+1) 0 (acc.length+1),σ',nx+1+1)/\σ' (nx+1)=some ⟨(acc++[x]).flatMap c,s,true⟩/\∀y,y<nx->(∀b o l,T t= .rs b o l->y≠b)->σ' y=σ y:=by
 have hm:acc.length+1<=maxLen:=by unfold maxLen;omega
 have hmul:(acc.length+1)*bytes<=100000*1000:=yF (by omega) hb;rcases S with ⟨J,rfl⟩|⟨b,J,G,O,Y⟩
 .refine⟨_,by rw[J,D7,if_neg (by decide),if_pos ⟨by decide,by omega⟩];rfl,?_⟩
  refine⟨by simp[dA,upd],fun y hy _=>?_⟩;unfold dA;rw[ay,ay]
 .have hlen:(acc.flatMap c).length=acc.length*s:=aN hc acc
  refine⟨upd (upd (upd σ nx (some ⟨c x,s,true⟩)) b none) (nx+1) (some ⟨acc.flatMap c++c x,s,true⟩),?_,?_,fun y hy G=>?_⟩
  .rw[J,bK,ay,O]
   simp only[zi];rw[if_neg (by decide),if_neg (by rw[hlen,Nat.add_mul];omega),if_pos ⟨by rw[hlen];omega,trivial,hm,by omega,E x⟩];rfl
  .rw[upd_same,zT];simp
  .have:=G _ _ _ J
   rw[ay,upd_ne _ _ this,ay]
theorem Dx(G:iZ c s T σ nx t acc) {b o l:Nat}(h:T t= .rs b o l):b<nx:=by
 rcases G with ⟨E,_⟩|⟨b',E,_,_,J⟩
 .rw[E]at h;cases h
 .rw[E]at h;cases h;exact J
theorem Ah {σ':Store}(h:σ' (nx+1)=some ⟨acc.flatMap c,s,true⟩)(G:T t= .rs (nx+1) 0 acc.length)(E:acc≠[]):iZ c s T σ' (nx+1+1) t acc:=.inr ⟨nx+1,G,E,h,by omega⟩
theorem qC(hc:∀x,(c x).length=s)(d:Nat)(E:∀x,stripL (strip σ d) (c x)=some (c x,[]))(J:iZ c s T σ nx t acc):∃ids,strip σ (d+1) (T t)=some (LL c acc,ids):=by
 rcases J with ⟨G,rfl⟩|⟨b,G,O,hb,S⟩
 .exact⟨[],by rw[G,strip_nil];rfl⟩
 .refine⟨[b],?_⟩
  rw[G,d_,hb];have Y:=aN hc acc;simp only[zi,yY,yZ,Y,zq,if_true];rw[zk (by omega),iJ E];rfl
end
theorem akh(z:List V):rep 1 z=z:=by simp[rep]
theorem IB(a b c d:V):patch [a,b] 0 [c,d]=[c,d]:=rfl
attribute [go_sem] akh IB
abbrev tJ(p:Int×Int):List V:=[I p.1,I p.2]
def vJ(m:Member)(k:Nat):List (Int×Int):=(if m.kind=2 then []else [((k:Int),1)])++(if m.kind=1 then []else [((k:Int),-1)])
def cols(s:Structure)(n:Nat):List (Int×Int):=(List.range n).flatMap fun k=>vJ (mem s k) k
theorem Eu(s:Structure)(n:Nat):cols s (n+1)=cols s n++vJ (mem s n) n:=by simp[cols,wZ]
theorem ZJ(m:Member)(k:Nat):(vJ m k).length<=2:=by
 unfold vJ
 split<;>split<;>simp
theorem lV(s:Structure):∀n,(cols s n).length<=2*n
 |0=>by simp[cols]
 |n+1=>by
  rw[Eu,zo];have:=lV s n;have:=ZJ (mem s n) n;omega
theorem Nk {s:Structure}(h:SG s):fn Tryz.prog conv ext 162 [.tp (cStructure s) 0]=some (LL tJ (cols s s.members.length)):=by
 have a5:=h.nm;rw[aH,ak [.tmp 2] [] Tryz.func162];simp only[go_sem];generalize hL:aF _ _=y;obtain⟨r,rfl,T',σ',nx',rfl,h2⟩:=aB hL s.members.length (fun k st=>st.T 9=LL cMember s.members/\st.T 10=I s.members.length/\st.T 11=I k/\iZ tJ 2 st.T st.σ st.nx 3 (cols s k))
  (fun r=>∃T σ nx',r=(.exit 0,⟨T,σ,nx'⟩)/\iZ tJ 2 T σ nx' 3 (cols s s.members.length)) (by
   clear hL;rintro k ⟨T,σ,nx⟩ O ⟨S,E,G,hg⟩;simp only at S E G hg;have f1:(k:Int)<(s.members.length:Int):=by omega
   have f2:=aI k;have f3:=ah (n:=(k:Int)+1);have f4:=JO s.members k O;have f5:=BG s.members;have f6:k*3+3<=s.members.length*3:=by omega
   have f9:=JQ s.members k O;have hr:=h.mr k O;rw[pU O]at f4 hr;have hle:=lV s k;rw[Eu];obtain⟨J,e1⟩:∃J,J=mem s k:=⟨_,rfl⟩;rw[<- e1]at f4 hr⊢;have a0:=fun x=>ny hg x
   unfold vJ
   by_cases k2:J.kind=2
   .have g1:(J.kind !=2)=false:=by simpa using k2
    have g2:(J.kind !=1)=true:=by simp[k2]
    obtain⟨σ',ha,hs,Y⟩:=gY (c:=tJ) (s:=2) (bytes:=16) (fun _=>rfl) (fun _=>rfl) (by decide) (a0 (some ⟨cMember J,0,true⟩)) ((k:Int),-1) (by omega) (by decide);refine .inl ⟨_,by simp only[go_sem,S,E,G,f1,f2,f3,f4,f5,f6,f9,g1,g2,ha];rfl,?_⟩;simp only[go_sem,S,E];rw[if_pos k2,if_neg (by omega),yK];exact⟨rfl,Ah hs (by simp[go_sem]) (by simp)⟩
   .by_cases k1:J.kind=1
    .have g1:(J.kind !=2)=true:=by simpa using k2
     have g2:(J.kind !=1)=false:=by simpa using k1
     obtain⟨σ',ha,hs,Y⟩:=gY (c:=tJ) (s:=2) (bytes:=16) (fun _=>rfl) (fun _=>rfl) (by decide) (a0 (some ⟨cMember J,0,true⟩)) ((k:Int),1) (by omega) (by decide);have a1:σ' nx=some ⟨cMember J,0,true⟩:=by
      rw[Y nx (by omega) (fun b o l h=>by have:=Dx hg h;omega),upd_same]
     refine .inl ⟨_,by simp only[go_sem,S,E,G,f1,f2,f3,f4,f5,f6,f9,g1,g2,ha,a1];rfl,?_⟩;simp only[go_sem,S,E];rw[if_neg k2,if_pos k1,zM];exact⟨rfl,Ah hs (by simp[go_sem]) (by simp)⟩
    .have g1:(J.kind !=2)=true:=by simpa using k2
     have g2:(J.kind !=1)=true:=by simpa using k1
     obtain⟨σ',ha,hs,Y⟩:=gY (c:=tJ) (s:=2) (bytes:=16) (fun _=>rfl) (fun _=>rfl) (by decide) (a0 (some ⟨cMember J,0,true⟩)) ((k:Int),1) (by omega) (by decide);have a1:σ' nx=some ⟨cMember J,0,true⟩:=by
      rw[Y nx (by omega) (fun b o l h=>by have:=Dx hg h;omega),upd_same]
     have a3:iZ tJ 2 (upd T 3 (.rs (nx+1+1) 0 ((cols s k).length+1))) σ' (nx+1+1+1) 3 (cols s k++[((k:Int),1)]):=Ah hs (by simp[go_sem]) (by simp);obtain⟨σ2,a2,a4,_⟩:=gY (c:=tJ) (s:=2) (bytes:=16) (fun _=>rfl) (fun _=>rfl) (by decide) a3 ((k:Int),-1) (by simp;omega) (by decide);rw[upd_same]at a2;refine .inl ⟨_,by simp only[go_sem,S,E,G,f1,f2,f3,f4,f5,f6,f9,g1,g2,ha,a2,a1];rfl,?_⟩;simp only[go_sem,S,E];rw[if_neg k2,if_neg k1,<- zB];exact⟨rfl,Ah a4 (by simp[go_sem]) (by simp)⟩) (by
   rintro ⟨T,σ,nx⟩ ⟨S,E,G,hg⟩;simp only at S E G hg;exact⟨_,by simp only[go_sem,E,G,zl];rfl,by simp,_,_,_,rfl,WM (by simp only[go_sem]) hg⟩) (by
   simp only[go_sem];exact .inl ⟨by simp only[go_sem],rfl⟩)
 obtain⟨ids,hs⟩:=qC (c:=tJ) (s:=2) (fun _=>rfl) 6 (fun x=>by rw[aO,cO,aO,cO,bQ];rfl) h2;simp only[go_sem,hs]
theorem Ou {α:Type} {c:α->List V} {s:Nat} {T:Nat->V} {σ:Store} {nx t:Nat} {acc:List α}(hc:∀x,(c x).length=s)(E:∀x,(c x).all aT=true)(hs:0<s) {bytes:Nat}(hg:iZ c s T σ nx t acc)(xs:List α)(hx:xs≠[])(hl:acc.length+xs.length<100000)(hb:bytes<=1000) :
  ∃σ',bT (upd σ nx (some ⟨xs.flatMap c,s,true⟩)) (nx+1) s bytes (T t) (xs.flatMap c) xs.length=some (.rs (nx+1) 0 (acc.length+xs.length),σ',nx+1+1)/\σ' (nx+1)=some ⟨(acc++xs).flatMap c,s,true⟩/\∀y,y<nx->(∀b o l,T t= .rs b o l->y≠b)->σ' y=σ y:=by
 have hm:acc.length+xs.length<=maxLen:=by unfold maxLen;omega
 have G:xs.length≠0:=fun e=>hx (zZ e)
 have hmul:(acc.length+xs.length)*bytes<=100000*1000:=yF (by omega) hb;have a0:xs.length*bytes<=100000*1000:=yF (by omega) hb;have J:(xs.flatMap c).all aT=true:=by
  rw[List.all_eq_true];intro v hv;obtain⟨x,-,h⟩:=List.mem_flatMap.mp hv;exact List.all_eq_true.mp (E x) v h
 rcases hg with ⟨S,rfl⟩|⟨b,S,O,Y,a1⟩
 .refine⟨_,by rw[S,D7,if_neg G,if_pos ⟨by unfold maxLen;omega,by omega⟩];simp only[wu,yY];rfl,?_⟩
  refine⟨by simp[dA,upd],fun y hy _=>?_⟩;unfold dA;rw[ay,ay]
 .have hlen:(acc.flatMap c).length=acc.length*s:=aN hc acc
  have hp:0<xs.length*s:=Nat.mul_pos (by omega) hs;refine⟨upd (upd (upd σ nx (some ⟨xs.flatMap c,s,true⟩)) b none) (nx+1) (some ⟨acc.flatMap c++xs.flatMap c,s,true⟩),?_,?_,fun y hy O=>?_⟩
  .rw[S,bK,ay,Y]
   simp only[zi];rw[if_neg G,if_neg (by rw[hlen,Nat.add_mul];omega),if_pos ⟨by rw[hlen];omega,trivial,hm,by omega,J⟩];rfl
  .rw[upd_same,zT]
  .have:=O _ _ _ S
   rw[ay,upd_ne _ _ this,ay]
def eX(s:Structure)(j:Int)(k:Nat):Int:=if j=(mem s k).a then vx s k else if j=(mem s k).b then -vx s k else 0
def eY(s:Structure)(j:Int)(k:Nat):Int:=if j=(mem s k).a then vy s k else if j=(mem s k).b then -vy s k else 0
def qV(s:Structure)(j:Int):List (List Int):=[(List.range s.members.length).map (eX s j),(List.range s.members.length).map (eY s j)]
def jO(s:Structure)(n:Nat):List (List Int):=((free s).take n).flatMap (qV s)
abbrev cRw(r:List Int):List V:=[LI r]
abbrev cRf(n:Nat)(b:Nat):List V:=[.rs b 0 n]
def I9(σ:Store)(nx t n:Nat)(T:Nat->V)(rb:List Nat)(R:List (List Int)):Prop :=
 iZ (cRf n) 1 T σ nx t rb/\rb.length=R.length/\(∀j (h:j<rb.length) (E:j<R.length),σ rb[j]=some ⟨R[j].flatMap cI,1,true⟩)/\(∀r∈R,r.length=n)/\∀b∈rb,b<nx/\∀c o l,T t= .rs c o l->b≠c
theorem SI {σ:Store} {nx t n:Nat} {T:Nat->V} {rb:List Nat} {R:List (List Int)}(h:I9 σ nx t n T rb R)(d:Nat):∃ids,strip σ (d+1+1) (T t)=some (LL cRw R,ids):=by
 obtain⟨Y,G,hr,hn,-⟩:=h;have key:∀ {rb:List Nat} {R:List (List Int)},rb.length=R.length->(∀j (h:j<rb.length) (J:j<R.length),σ rb[j]=some ⟨R[j].flatMap cI,1,true⟩)->(∀r∈R,r.length=n)->∃ids,stripL (strip σ (d+1)) (rb.flatMap (cRf n))=some (R.flatMap cRw,ids):=by
  intro rb
  induction rb with
  |nil=>intro R E _ _;cases R with
   |nil=>exact⟨[],rfl⟩
   |cons=>cases E
  |cons b rb ih=>intro R E O S;cases R with
   |nil=>cases E
   |cons r R=>
    obtain⟨ids,e⟩:=ih (R:=R) (by simpa using E) (fun j h J=>O (j+1) (by simpa using h) (by simpa using J)) (fun x hx=>S x (by simp[hx]));have e1:=dO (O 0 (by simp) (by simp)) (S _ (by simp)) d;refine⟨b :: ids,?_⟩;rw[zU,zU,show cRf n b++rb.flatMap (cRf n)=V.rs b 0 n :: rb.flatMap (cRf n)from rfl,aO,show strip σ (d+1) (V.rs b 0 n)=some (LI r,[b])from e1,e];rfl
 rcases Y with ⟨E,rfl⟩|⟨b,E,a0,hb,a1⟩
 .have:R=[]:=zZ (by simpa using G.symm)
  subst this;exact⟨[],by rw[E,strip_nil];rfl⟩
 .obtain⟨ids,e⟩:=key G hr hn
  refine⟨b :: ids,?_⟩;rw[E,d_,hb];have hlen:=aN (c:=cRf n) (s:=1) (fun _=>rfl) rb;simp only[zi,yY,yZ,hlen,zq,if_true];rw[zk (by omega),e];simp only[zJ];rw[G]
theorem PK {σ σ':Store} {nx nx' t n:Nat} {T T':Nat->V} {rb:List Nat} {R:List (List Int)}(h:I9 σ nx t n T rb R)(E:T' t=T t)(hn:nx<=nx')(e:∀b,b<nx->σ' b=σ b):I9 σ' nx' t n T' rb R:=by
 obtain⟨S,Y,hr,G,hb⟩:=h;refine⟨?_,Y,fun j h h'=>?_,G,fun b h=>?_⟩
 .rcases S with ⟨J,O⟩|⟨b,J,O,g3,g4⟩
  .exact .inl ⟨E.trans J,O⟩
  .exact .inr ⟨b,E.trans J,O,by rw[e b g4];exact g3,by omega⟩
 .rw[e _ (hb _ (zu h)).1];exact hr j h h'
 .obtain⟨h1,h2⟩:=hb b h
  exact⟨by omega,fun c o l hc=>h2 c o l (E ▸ hc)⟩
theorem alv {s:Structure}(h:SG s)(j:Int)(k:Nat):-100<=eX s j k/\eX s j k<=100/\-100<=eY s j k/\eY s j k<=100:=by
 have:=Dv h k;unfold eX eY
 split
 .omega
 .split<;>omega
theorem agR(z:V):rep 2 [z]=[z,z]:=rfl
theorem aki(x y a b:V):([x,y].set 0 a).set 1 b=[a,b]:=rfl
attribute [go_sem] agR aki
theorem ZK(s:Structure) {i:Nat}(h:i<(free s).length):jO s (i+1)=jO s i++qV s (free s)[i]:=by
 unfold jO;rw[yO,zy h,zT];simp
theorem agS {R:List (List Int)} {j:Nat}(a b:List Int)(h:j<(R++[a,b]).length):(R++[a,b])[j]=if E:j<R.length then R[j]else if j=R.length then a else b:=by
 by_cases E:j<R.length
 .rw[xu E,dif_pos E]
 .rw[dif_neg E,wQ (by omega)]
  rw[zo]at h;simp only[zD,wu]at h
  by_cases G:j=R.length
  .rw[if_pos G];simp[G]
  .rw[if_neg G]
   have:j-R.length=1:=by omega
   simp[this]
theorem qE(s:Structure):(free s).length<=s.joints.length:=ru _ _
theorem SK {s:Structure}(h:SG s):fn Tryz.prog conv ext 164 [.tp (cStructure s) 0]=some (LL cRw (jO s (free s).length)):=by
 have b5:=h.nm;have b6:=qE s;have XF:=h.nj;have k1:=JB h;obtain⟨nm,hm⟩:∃nm,nm=s.members.length:=⟨_,rfl⟩;rw[aH,ak [.tmp 2] [] Tryz.func164];simp only[go_sem,k1];generalize hL:aF _ _=y;obtain⟨r,rfl,T',σ',nx',rb,rfl,h2⟩:=aB hL (free s).length (fun i st=>st.T 0= .tp (cStructure s) 0/\st.T 13=LI (free s)/\st.T 14=I (free s).length/\st.T 15=I i/\∃rb,I9 st.σ st.nx 3 nm st.T rb (jO s i))
  (fun r=>∃T σ nx' rb,r=(.exit 0,⟨T,σ,nx'⟩)/\I9 σ nx' 3 nm T rb (jO s (free s).length)) (by
   clear hL;rintro i ⟨T,σ,nx⟩ a6 ⟨h0,a3,vM,a2,rb,hR⟩;simp only at h0 a3 vM a2 hR;have f1:(i:Int)<((free s).length:Int):=by omega
   have f2:=aI i;have f3:=ah (n:=(i:Int)+1);have f4:=idx (xs:=free s) (k:=i) a6;have f5:=fB (free s) i a6;obtain⟨j,hj⟩:∃j,j=(free s)[i]:=⟨_,rfl⟩;rw[<- hj]at f4;have m1:(0:Int)<=(s.members.length:Int):=by omega
   have m2:8*(s.members.length:Int)<=281474976710656:=by omega
   have m3:(s.members.length:Int)<=9223372036854775807:=by omega
   refine fD ?_
   conv=>
    enter [1,r,1,1]
    simp only[go_sem,h0,a3,vM,a2,f1,f2,f4,f5,m1,m2,m3]
   generalize hL:aF _ _=z
   obtain⟨x,rfl,T1,O,aP,rfl,t0,t6,t7,E,G,J,hx,hy,a4,a5⟩:=aB hL s.members.length (fun k st=>st.T 0= .tp (cStructure s) 0/\st.T 5=I j/\st.T 6= .rs nx 0 s.members.length/\st.T 7= .rs (nx+1) 0 s.members.length/\st.T 13=LI (free s)/\st.T 14=I (free s).length/\st.T 15=I i/\st.T 34=LL cMember s.members/\st.T 35=I s.members.length/\st.T 36=I k /\
     st.σ nx=some ⟨(pm (eX s j) (fun _=>0) k s.members.length).flatMap cI,1,true⟩/\st.σ (nx+1)=some ⟨(pm (eY s j) (fun _=>0) k s.members.length).flatMap cI,1,true⟩/\nx+1<st.nx/\st.T 3=T 3/\∀b,b<nx->st.σ b=σ b)
    (fun x=>∃T1 O aP,x=(.exit 2,⟨T1,O,aP⟩)/\T1 0= .tp (cStructure s) 0/\T1 6= .rs nx 0 s.members.length/\T1 7= .rs (nx+1) 0 s.members.length/\T1 13=LI (free s)/\T1 14=I (free s).length/\T1 15=I i/\O nx=some ⟨(pm (eX s j) (fun _=>0) s.members.length s.members.length).flatMap cI,1,true⟩/\O (nx+1)=some ⟨(pm (eY s j) (fun _=>0) s.members.length s.members.length).flatMap cI,1,true⟩/\nx+1<aP/\T1 3=T 3/\∀b,b<nx->O b=σ b) (by
     clear hL;rintro k ⟨T1,O,aP⟩ hk ⟨t0,t5,t6,t7,E,G,J,Y,S,a0,hx,hy,a4,t3,hs⟩;simp only at t0 t5 t6 t7 E G J Y S a0 hx hy a4 t3 hs;have g1:(k:Int)<(s.members.length:Int):=by omega
     have g2:=aI k;have g3:=ah (n:=(k:Int)+1);have g4:=JO s.members k hk;rw[pU hk]at g4;have g5:=BG s.members;have g6:k*3+3<=s.members.length*3:=by omega
     have g9:=JQ s.members k hk;have k2:=aa6 h hk;have hb:=Dv h k;have q1:((pm (eX s j) (fun _=>0) k s.members.length).flatMap cI).length=s.members.length:=by rw[aS,qN]
     have q2:((pm (eY s j) (fun _=>0) k s.members.length).flatMap cI).length=s.members.length:=by rw[aS,qN]
     have q3:=MX (eX s j) (fun _=>0) hk;have q4:=MX (eY s j) (fun _=>0) hk;have d1:¬nx=aP:=by omega
     have d2:¬nx+1=aP:=by omega
     have d3:¬nx+1=nx:=by omega
     have d4:¬nx=nx+1:=by omega
     have d5:¬aP=nx:=by omega
     have d6:¬aP=nx+1:=by omega
     have g7:k+1<=s.members.length:=hk;have w1:=ah (n:=-vx s k);have w2:=ah (n:=-vy s k);have w3:IntKind.i64.wrap (0-vx s k)= -vx s k:=by rw[ah];omega
     have w4:IntKind.i64.wrap (0-vy s k)= -vy s k:=by rw[ah];omega
     by_cases c1:j=(mem s k).a
     .have e1:(j==(mem s k).a)=true:=by simpa using c1
      have e2:((pm (eX s j) (fun _=>0) k s.members.length).flatMap cI).set k (I (vx s k))=(pm (eX s j) (fun _=>0) (k+1) s.members.length).flatMap cI:=by
       rw[jV,<- q3];unfold eX;rw[if_pos c1]
      have e3:((pm (eY s j) (fun _=>0) k s.members.length).flatMap cI).set k (I (vy s k))=(pm (eY s j) (fun _=>0) (k+1) s.members.length).flatMap cI:=by
       rw[jV,<- q4];unfold eY;rw[if_pos c1]
      refine .inl ⟨_,by simp only[go_sem,t0,t5,t6,t7,E,G,J,Y,S,a0,hx,hy,g1,g2,g3,g4,g5,g6,g7,g9,k2,q1,q2,hk,d1,d2,d3,d4,d5,d6,e1,e2,e3];rfl,?_⟩;simp only[go_sem,t0,t5,t6,t7,E,G,J,Y,S,d1,d2,d3,d4];exact⟨rfl,by omega,t3,fun b hb=>by rw[ay,ay,ay];exact hs b hb⟩
     .have e1:(j==(mem s k).a)=false:=by simpa using c1
      by_cases c2:j=(mem s k).b
      .have e4:(j==(mem s k).b)=true:=by simpa using c2
       have e2:((pm (eX s j) (fun _=>0) k s.members.length).flatMap cI).set k (I (-vx s k))=(pm (eX s j) (fun _=>0) (k+1) s.members.length).flatMap cI:=by
        rw[jV,<- q3];unfold eX;rw[if_neg c1,if_pos c2]
       have e3:((pm (eY s j) (fun _=>0) k s.members.length).flatMap cI).set k (I (-vy s k))=(pm (eY s j) (fun _=>0) (k+1) s.members.length).flatMap cI:=by
        rw[jV,<- q4];unfold eY;rw[if_neg c1,if_pos c2]
       refine .inl ⟨_,by simp only[go_sem,t0,t5,t6,t7,E,G,J,Y,S,a0,hx,hy,g1,g2,g3,g4,g5,g6,g7,g9,k2,q1,q2,hk,d1,d2,d3,d4,d5,d6,e1,e4,e2,e3,w1,w2,w3,w4];rfl,?_⟩;simp only[go_sem,t0,t5,t6,t7,E,G,J,Y,S,d1,d2,d3,d4];exact⟨rfl,by omega,t3,fun b hb=>by rw[ay,ay,ay];exact hs b hb⟩
      .have e4:(j==(mem s k).b)=false:=by simpa using c2
       have e2:=RY (eX s j) (fun _=>0) (k:=k) (N:=s.members.length) (by unfold eX;rw[if_neg c1,if_neg c2]);have e3:=RY (eY s j) (fun _=>0) (k:=k) (N:=s.members.length) (by unfold eY;rw[if_neg c1,if_neg c2]);refine .inl ⟨_,by simp only[go_sem,t0,t5,t6,t7,E,G,J,Y,S,a0,hx,hy,g1,g2,g3,g4,g5,g6,g7,g9,k2,q1,q2,hk,d1,d2,d3,d4,d5,d6,e1,e4];rfl,?_⟩;simp only[go_sem,t0,t5,t6,t7,E,G,J,Y,S,d1,d2,d3,d4];refine⟨rfl,by rw[hx,e2],by rw[hy,e3],by omega,t3,fun b hb=>by rw[ay];exact hs b hb⟩) (by
     rintro ⟨T1,O,aP⟩ ⟨t0,t5,t6,t7,E,G,J,Y,S,a0,hx,hy,a4,t3,hs⟩;simp only at t0 t5 t6 t7 E G J Y S a0 hx hy a4 t3 hs;have g1:¬(s.members.length:Int)<(s.members.length:Int):=by omega
     refine⟨_,by simp only[go_sem,S,a0,g1];rfl,by simp,_,_,_,rfl,?_⟩;simp only[go_sem,t0,t6,t7,E,G,J];exact⟨hx,hy,a4,t3,hs⟩) (by
     simp only[go_sem,h0,a3,vM,a2];rw[G9,G9,Du,<- lT,ay,upd_same];exact⟨rfl,rfl,by omega,fun b hb=>by rw[ay,ay]⟩)
   rw[RZ]at hx hy;have a8:=a5.1;have a5:I9 O aP 3 nm T1 rb (jO s i):=PK hR a5.1 (by omega) a5.2;obtain⟨hg,hl,hr,a9,a7⟩:=a5;have b7:rb.length<=2*i:=by
    rw[hl];unfold jO;have:=List.length_take_le i (free s);have e:∀l:List Int,(l.flatMap (qV s)).length=2*l.length:=fun l=>by
     induction l with
     |nil=>rfl
     |cons a l ih=>rw[zU,zo,ih,zD];simp only[qV,zD,wu];omega
    rw[e];omega
   obtain⟨σ2,ha,b2,b3⟩:=Ou (c:=cRf nm) (s:=1) (bytes:=24) (fun _=>rfl) (fun _=>rfl) (by decide) hg [nx,nx+1] (by simp) (by simp only[zD,wu];omega) (by decide);have ha:bT (upd O aP (some ⟨[V.rs nx 0 s.members.length,V.rs (nx+1) 0 s.members.length],1,true⟩)) (aP+1) 1 24 (T1 3) [V.rs nx 0 s.members.length,V.rs (nx+1) 0 s.members.length] 2=some (.rs (aP+1) 0 (rb.length+2),σ2,aP+1+1):=by rw[<- hm];exact ha
   refine⟨_,by simp only[go_sem,t0,t6,t7,E,G,J,f3,ha];rfl,.inl ⟨_,rfl,?_⟩⟩;simp only[go_sem,t0,E,G];have a1:∀b,b<aP->(b∈rb\/b=nx\/b=nx+1)->σ2 b=O b:=fun b hb hc=>by
    refine b3 b hb fun c o l h=>?_
    rcases hc with hc|hc|hc
    .exact(a7 b hc).2 c o l h
    .have:=Dx hR.1 (a8 ▸ h);omega
    .have:=Dx hR.1 (a8 ▸ h);omega
   refine⟨rfl,rb++[nx,nx+1],?_⟩;rw[ZK s a6,<- hj];refine⟨.inr ⟨aP+1,by simp[go_sem],by simp,b2,by omega⟩,by simp[hl,qV],fun q h1 h2=>?_,fun r b4=>?_,fun b hb=>?_⟩
   .have hq:(jO s i++qV s j)[q]=if h1:q<(jO s i).length then(jO s i)[q]else if q=(jO s i).length then(List.range s.members.length).map (eX s j)else(List.range s.members.length).map (eY s j):=agS _ _ h2
    rw[hq]
    by_cases c1:q<rb.length
    .rw[dif_pos (by omega),xu c1,a1 _ (a7 _ (zu c1)).1 (.inl (zu c1))]
     exact hr q c1 (by omega)
    .rw[dif_neg (by omega),wQ (by omega)]
     rw[zo]at h1;simp only[zD,wu]at h1
     by_cases c2:q=(jO s i).length
     .rw[if_pos c2]
      have:q-rb.length=0:=by omega
      simp only[this,List.getElem_cons_zero];rw[a1 nx (by omega) (.inr (.inl rfl))];exact hx
     .rw[if_neg c2]
      have:q-rb.length=1:=by omega
      simp only[this,List.getElem_cons_succ,List.getElem_cons_zero];rw[a1 (nx+1) (by omega) (.inr (.inr rfl))];exact hy
   .rcases List.mem_append.mp b4 with h|h
    .exact a9 r h
    .simp only[qV,zX,zK,or_false]at h
     rcases h with h|h<;>rw[h]<;>simp[hm]
   .have b8:b<aP:=by
     rcases List.mem_append.mp hb with h|h
     .exact(a7 b h).1
     .simp only[zX,zK,or_false]at h;omega
    refine⟨by omega,fun c o l h=>?_⟩;simp only[go_sem,V.rs.injEq]at h;omega) (by
   rintro ⟨T,σ,nx⟩ ⟨h0,a3,vM,a2,rb,hR⟩;simp only at h0 a3 vM a2 hR;exact⟨_,by simp only[go_sem,vM,a2,zl];rfl,by simp,_,_,_,rb,rfl,PK hR (by simp only[go_sem]) (zq _) fun _ _=>rfl⟩) (by
   simp only[go_sem];refine⟨[],.inl ⟨by simp only[go_sem],rfl⟩,by simp[jO],?_,?_,?_⟩
   .intro j h;cases h
   .intro r hr;simp[jO]at hr
   .intro b hb;cases hb)
 obtain⟨ids,hs⟩:=SI h2 5;simp only[go_sem,hs]
def tK(X:List Int)(k:Nat):List Int:=X.take k++List.replicate (X.length-k) 0
theorem Nl(X:List Int) {k:Nat}(h:k<=X.length):(tK X k).length=X.length:=by unfold tK;rw[zo,zh,z_];omega
theorem PL(X:List Int):tK X 0=List.replicate X.length 0:=by simp[tK]
theorem PN(X:List Int):tK X X.length=X:=by simp[tK]
theorem Np(X:List Int) {k:Nat}(h:k<X.length):(tK X k).set k X[k]=tK X (k+1):=by
 unfold tK;have E:(X.take k).length=k:=by rw[zh];omega
 rw[yD _ _ (by omega),E,yQ,show X.length-k=X.length - (k+1)+1 by omega,xW,List.set_cons_zero,take_snoc h,zB];rfl
def TG(s:Structure):List Int:=(jO s (free s).length).flatMap fun r=>(cols s s.members.length).map fun p=>p.2*r.getD p.1.toNat 0
def JC(s:Structure)(l:List Int):List Int:=(free s).flatMap fun j=>[-l.getD (2*j.toNat) 0,-l.getD (2*j.toNat+1) 0]
theorem Nq {α:Type}(f:α->List Int) {C:Nat}(E:∀x,(f x).length=C):∀xs:List α,(xs.flatMap f).length=xs.length*C
 |[]=>by simp
 |x :: xs=>by rw[zU,zo,Nq f E xs,E,zD,yA];omega
theorem flat_get {α:Type}(f:α->List Int) {C:Nat}(E:∀x,(f x).length=C):∀(xs:List α) {i c:Nat} (hi:i<xs.length) (hc:c<C),(xs.flatMap f)[i*C+c]?=(f xs[i])[c]?
 |x :: xs,0,c,_,hc=>by rw[zU,Nat.zero_mul,yY,zV (by rw[E];exact hc)];rfl
 |x :: xs,i+1,c,hi,hc=>by
  rw[zU,zQ (by rw[E,yA];omega),E,show(i+1)*C+c-C=i*C+c by rw[yA];omega,flat_get f E xs (by simpa using hi) hc];rfl
theorem I_(s:Structure):(jO s (free s).length).length=2*(free s).length:=by
 unfold jO;rw[yg]
 induction free s with
 |nil=>rfl
 |cons a l E=>rw[zU,zo,E,zD];simp only[qV,zD,wu];omega
theorem PO {s:Structure} {r:List Int}(h:r∈jO s (free s).length):r.length=s.members.length:=by
 unfold jO at h;obtain⟨j,-,h⟩:=List.mem_flatMap.mp h;simp only[qV,zX,zK,or_false]at h;rcases h with h|h<;>rw[h]<;>simp
theorem WO {s:Structure}(hs:SG s) {r:List Int}(h:r∈jO s (free s).length):∀x∈r,-100<=x/\x<=100:=by
 unfold jO at h;obtain⟨j,-,h⟩:=List.mem_flatMap.mp h;simp only[qV,zX,zK,or_false]at h;intro x E;rcases h with h|h<;>rw[h]at E<;>obtain⟨k,-,rfl⟩:=List.mem_map.mp E
 .have:=alv hs j k;omega
 .have:=alv hs j k;omega
theorem Ai {s:Structure}:∀ {n:Nat} {p:Int×Int},p∈cols s n->(∃k:Nat,p.1=(k:Int)/\k<n)/\(p.2=1\/p.2= -1):=fun {n p} h=>by
 unfold cols at h;obtain⟨k,G,h⟩:=List.mem_flatMap.mp h;have E:=List.mem_range.mp G;unfold vJ at h;rcases List.mem_append.mp h with h|h
 .split at h
  .cases h
  .rw[List.mem_singleton.mp h];exact⟨⟨k,rfl,E⟩,.inl rfl⟩
 .split at h
  .cases h
  .rw[List.mem_singleton.mp h];exact⟨⟨k,rfl,E⟩,.inr rfl⟩
theorem KC(s:Structure):(TG s).length=2*(free s).length*(cols s s.members.length).length:=by
 unfold TG;rw[Nq _ (fun _=>zO _),I_]
theorem SL(s:Structure)(l:List Int):(JC s l).length=2*(free s).length:=by
 unfold JC;rw[Nq _ (C:=2) (fun _=>rfl)];omega
def KD(s:Structure):Nat:=2*(free s).length
def lW(s:Structure):Nat:=(cols s s.members.length).length
theorem Ov {s:Structure}(h:SG s) {l:List Int}(hl:l.length=2*s.joints.length)(hb:∀x∈l,-100<=x/\x<=100):fn Tryz.prog conv ext 134 [.tp (cStructure s) 0,LI l,I 0,I 0]=some (.agg (jL (KD s) (lW s) (TG s) (JC s l) (List.replicate (lW s) 0))):=by
 have k0:=h.nm;have k4:=qE s;have XF:=h.nj;have k5:=lV s s.members.length;have k1:=SK h;have k2:=Nk h;have k3:=JB h;have h9:=I_ s;obtain⟨E,hE⟩:∃E,E=jO s (free s).length:=⟨_,rfl⟩;obtain⟨K,hK⟩:∃K,K=cols s s.members.length:=⟨_,rfl⟩;have hR:E.length=KD s:=by rw[hE];exact h9
 have hC:K.length=lW s:=by rw[hK];rfl
 have h0:KD s<=12:=by unfold KD;omega
 have h1:lW s<=16:=by rw[<- hC,hK];omega
 have b3:(TG s).length=KD s*lW s:=KC s;have h2:KD s*lW s<=12*16:=yF h0 h1;rw[<- hE]at k1;rw[<- hK]at k2;have k1:fn Tryz.prog conv ext 164 [.tp (cStructure s) 0]=some (.ts (E.flatMap cRw) (KD s)):=by rw[<- hR];exact k1
 have k2:fn Tryz.prog conv ext 162 [.tp (cStructure s) 0]=some (.ts (K.flatMap tJ) (lW s)):=by rw[<- hC];exact k2
 obtain⟨R,eR⟩:∃R,R=KD s:=⟨_,rfl⟩;obtain⟨C,eC⟩:∃C,C=lW s:=⟨_,rfl⟩;rw[<- eR]at k1 hR h0 b3 h2⊢;rw[<- eC]at k2 hC h1 b3 h2⊢;have f1:=ah (n:=(R:Int));have f2:=ah (n:=(C:Int));have e3:(R:Int)*(C:Int)=((R*C:Nat):Int):=by push_cast;rfl
 have f3:=ah (n:=((R*C:Nat):Int));have f4:(0:Int)<=((R*C:Nat):Int):=by omega
 have f5:8*((R*C:Nat):Int)<=281474976710656:=by omega
 have f6:((R*C:Nat):Int)<=9223372036854775807:=by omega
 have f7:=aI R;have f8:8*(R:Int)<=281474976710656:=by omega
 have f9:(R:Int)<=9223372036854775807:=by omega
 have i0:=aI C;have i1:8*(C:Int)<=281474976710656:=by omega
 have i2:(C:Int)<=9223372036854775807:=by omega
 have i3:(R:Int)+0=R:=by omega
 have i4:(C:Int)+0=C:=by omega
 rw[aH,ak [.cell 8 152] [3,10,16] Tryz.func134];unfold jL;simp only[go_sem,k1,k2,f1,f2,e3,f3,f4,f5,f6,f7,f8,f9,i0,i1,i2,i3,i4];generalize hL:aF _ _=y;have k6:=b3;obtain⟨FA,h3⟩:∃FA,FA=TG s:=⟨_,rfl⟩;have i5:∀i c (hi:i<R) (hc:c<C) (hq:i*C+c<FA.length),FA[i*C+c]=(K[c]'(by omega)).2*(E[i]'(by omega)).getD (K[c]'(by omega)).1.toNat 0:=fun i c hi hc hq=>by
  have:=flat_get (fun r:List Int=>K.map fun p=>p.2*r.getD p.1.toNat 0) (C:=C) (fun _=>by rw[zO];exact hC) E (i:=i) (c:=c) (by omega) hc;rw[yX,zy (l:=K) (i:=c) (by omega)]at this;have e2:FA=E.flatMap fun r=>K.map fun p=>p.2*r.getD p.1.toNat 0:=by rw[h3,hE,hK];rfl
  rw[<- e2,zy hq]at this;exact Option.some.inj this
 rw[<- h3]at b3⊢
 obtain⟨x,rfl,T1,b4,aP,rfl,t0,t1,t8,G,i6,s0,s1,s2,s3,s4⟩:=aB hL R (fun i st=>st.T 0= .tp (cStructure s) 0/\st.T 1=LI l/\st.T 8= .rp 0 0/\st.T 11= .rp 1 0/\st.T 10= .ts (K.flatMap tJ) C/\st.T 46= .ts (E.flatMap cRw) R/\st.T 47=I R/\st.T 48=I i/\4<st.nx /\
   st.σ 0=some ⟨[I 0,I 0,.nil,.nil,.nil],0,true⟩/\st.σ 1=some ⟨[I R,I C,.rs 2 0 (R*C),.rs 3 0 R,.rs 4 0 C],0,true⟩/\st.σ 2=some ⟨(tK FA (i*C)).flatMap cI,1,true⟩/\st.σ 3=some ⟨(List.replicate R 0).flatMap cI,1,true⟩/\st.σ 4=some ⟨(List.replicate C 0).flatMap cI,1,true⟩)
  (fun x=>∃T1 b4 aP,x=(.exit 0,⟨T1,b4,aP⟩)/\T1 0= .tp (cStructure s) 0/\T1 1=LI l/\T1 8= .rp 0 0/\T1 11= .rp 1 0/\4<aP/\b4 0=some ⟨[I 0,I 0,.nil,.nil,.nil],0,true⟩/\b4 1=some ⟨[I R,I C,.rs 2 0 (R*C),.rs 3 0 R,.rs 4 0 C],0,true⟩/\b4 2=some ⟨FA.flatMap cI,1,true⟩/\b4 3=some ⟨(List.replicate R 0).flatMap cI,1,true⟩/\b4 4=some ⟨(List.replicate C 0).flatMap cI,1,true⟩) (by
   clear hL;rintro i ⟨T,σ,nx⟩ hi ⟨t0,t1,t8,G,S,Y,O,a0,J,s0,s1,s2,s3,s4⟩;simp only at t0 t1 t8 G S Y O a0 J s0 s1 s2 s3 s4;have g1:(i:Int)<(R:Int):=by omega
   have g2:=aI i;have g3:=ah (n:=(i:Int)+1);have g4:(E.flatMap cRw)[i]?=some (LI (E[i]'(by omega))):=mX (fun r=>LI r) E i (by omega);have g5:=slot_ne (c:=cRw) (s:=1) (fun _=>rfl) (by omega) E i (by omega);have g6:(E.flatMap cRw).length=R:=by rw[aN (c:=cRw) (s:=1) (fun _=>rfl),hR,yN]
   have h4:(E[i]'(by omega)).length=s.members.length:=by subst hE;exact PO (zu _)
   have h5:∀x∈(E[i]'(by omega)),-100<=x/\x<=100:=by subst hE;exact WO h (zu _)
   obtain⟨r,er⟩:∃r,r=E[i]'(by omega):=⟨_,rfl⟩;have i7:=i5 i;rw[<- er]at g4 h4 h5;refine fD ?_
   conv=>
    enter [1,q,1,1]
    simp only[go_sem,t0,t1,t8,G,S,Y,O,a0,g1,g2,g4,g5,g6]
   generalize hL:aF _ _=z;have i9:(i+1)*C<=R*C:=zG _ hi;rw[yA]at i9
   obtain⟨x,rfl,T2,σ2,jo,rfl,t0,t1,t8,G,S,Y,O,a0,J,s0,s1,s2,s3,s4⟩:=aB hL C (fun c st=>st.T 0= .tp (cStructure s) 0/\st.T 1=LI l/\st.T 8= .rp 0 0/\st.T 11= .rp 1 0/\st.T 10= .ts (K.flatMap tJ) C/\st.T 46= .ts (E.flatMap cRw) R/\st.T 47=I R/\st.T 48=I i/\st.T 12=I i/\st.T 13=LI r/\st.T 53= .ts (K.flatMap tJ) C/\st.T 54=I C/\st.T 55=I c/\4<st.nx /\
     st.σ 0=some ⟨[I 0,I 0,.nil,.nil,.nil],0,true⟩/\st.σ 1=some ⟨[I R,I C,.rs 2 0 (R*C),.rs 3 0 R,.rs 4 0 C],0,true⟩/\st.σ 2=some ⟨(tK FA (i*C+c)).flatMap cI,1,true⟩/\st.σ 3=some ⟨(List.replicate R 0).flatMap cI,1,true⟩/\st.σ 4=some ⟨(List.replicate C 0).flatMap cI,1,true⟩)
    (fun x=>∃T2 σ2 jo,x=(.exit 2,⟨T2,σ2,jo⟩)/\T2 0= .tp (cStructure s) 0/\T2 1=LI l/\T2 8= .rp 0 0/\T2 11= .rp 1 0/\T2 10= .ts (K.flatMap tJ) C/\T2 46= .ts (E.flatMap cRw) R/\T2 47=I R/\T2 48=I i/\4<jo /\
     σ2 0=some ⟨[I 0,I 0,.nil,.nil,.nil],0,true⟩/\σ2 1=some ⟨[I R,I C,.rs 2 0 (R*C),.rs 3 0 R,.rs 4 0 C],0,true⟩/\σ2 2=some ⟨(tK FA (i*C+C)).flatMap cI,1,true⟩/\σ2 3=some ⟨(List.replicate R 0).flatMap cI,1,true⟩/\σ2 4=some ⟨(List.replicate C 0).flatMap cI,1,true⟩) (by
     clear hL;rintro c ⟨T2,σ2,jo⟩ hc ⟨t0,t1,t8,G,S,Y,O,a0,c0,c2,c3,b7,c4,J,s0,s1,s2,s3,s4⟩;simp only at t0 t1 t8 G S Y O a0 c0 c2 c3 b7 c4 J s0 s1 s2 s3 s4;have a1:(c:Int)<(C:Int):=by omega
     have a2:=aI c;have a3:=ah (n:=(c:Int)+1);have c8:c<K.length:=by omega
     have a4:=slot (c:=tJ) (s:=2) (fun _=>rfl) K c c8;have a5:=slot_ne (c:=tJ) (s:=2) (fun _=>rfl) (by omega) K c c8;have a6:(K.flatMap tJ).length=C*2:=by rw[aN (c:=tJ) (s:=2) (fun _=>rfl),hC]
     have a7:c*2+2<=C*2:=by omega
     have b6:K[c]∈cols s s.members.length:=by rw[<- hK];exact zu c8
     obtain⟨⟨k,hk,k7⟩,c9⟩:=Ai b6;have hq:i*C+c<FA.length:=by omega
     have b2:=i7 c hi hc hq;rw[<- er]at b2;obtain⟨kp,j0⟩:∃kp,kp=K[c]:=⟨_,rfl⟩;rw[<- j0]at a4 hk c9 b2;obtain⟨k8,c7⟩:=kp;simp only at hk c9 b2 a4;subst hk;rw[yw]at b2;have a8:=idx (xs:=r) (k:=k) (by omega);have e8:r[k]'(by omega)=r.getD k 0:=by rw[zx,zy (by omega)];rfl
     have j1:=h5 _ (zu (l:=r) (n:=k) (by omega));rw[e8]at a8 j1;have a9:=fB r k (by omega);have e0:(k:Int)<(r.length:Int):=by omega
     have e1:=aI k;have k9:-100<=c7*r.getD k 0/\c7*r.getD k 0<=100:=by rcases c9 with e|e<;>rw[e]<;>omega
     have e4:=ah (n:=c7*r.getD k 0);have e5:(i:Int)*(C:Int)=((i*C:Nat):Int):=by push_cast;rfl
     have e6:=ah (n:=((i*C:Nat):Int));have e7:((i*C:Nat):Int)+(c:Int)=((i*C+c:Nat):Int):=by omega
     have e9:=ah (n:=((i*C+c:Nat):Int));have f0:((i*C+c:Nat):Int)<((R*C:Nat):Int):=by omega
     have g7:(0:Int)<=((i*C+c:Nat):Int):=by omega
     have g8:i*C+c<R*C:=by omega
     have j2:i*C+c+1<=R*C:=by omega
     have j3:((tK FA (i*C+c)).flatMap cI).length=R*C:=by rw[aS,Nl _ (by omega),b3]
     have j4:((tK FA (i*C+c)).flatMap cI).set (i*C+c) (I (c7*r.getD k 0))=(tK FA (i*C+c+1)).flatMap cI:=by
      rw[jV,<- Np FA hq,b2]
     have j5:(r.flatMap cI).length=r.length:=aS r;have d0:¬0=jo:=by omega
     have d1:¬1=jo:=by omega
     have d2:¬2=jo:=by omega
     have d3:¬3=jo:=by omega
     have d4:¬4=jo:=by omega
     have d5:¬jo=2:=by omega
     have d6:1<jo+1:=by omega
     have d7:2<jo+1:=by omega
     have d8:jo<jo+1:=by omega
     have d9:¬jo=1:=by omega
     refine .inl ⟨_,by simp only[go_sem,t0,t1,t8,G,S,Y,O,a0,c0,c2,c3,b7,c4,s1,s2,a1,a2,a3,a4,a5,a6,a7,a8,a9,e0,e1,e4,e5,e6,e7,e9,f0,g7,g8,j2,j3,j4,j5,d0,d1,d2,d3,d4,d5,d6,d7,d8,d9];rfl,?_⟩;simp only[go_sem,t0,t1,t8,G,S,Y,O,a0,c0,c2,c3,b7];refine⟨rfl,by omega,?_,?_,rfl,?_,?_⟩
     .rw[upd_ne _ _ d0];exact s0
     .rw[upd_ne _ _ d1];exact s1
     .rw[upd_ne _ _ d3];exact s3
     .rw[upd_ne _ _ d4];exact s4) (by
     rintro ⟨T2,σ2,jo⟩ ⟨t0,t1,t8,G,S,Y,O,a0,c0,c2,c3,b7,c4,J,s0,s1,s2,s3,s4⟩;simp only at t0 t1 t8 G S Y O a0 c0 c2 c3 b7 c4 J s0 s1 s2 s3 s4;have a1:¬(C:Int)<(C:Int):=by omega
     refine⟨_,by simp only[go_sem,b7,c4,a1];rfl,by simp,_,_,_,rfl,?_⟩;simp only[go_sem,t0,t1,t8,G,S,Y,O,a0];exact⟨J,s0,s1,s2,s3,s4⟩) (by
     simp only[go_sem,t0,t1,t8,G,S,Y,O,a0];exact⟨J,s0,s1,s2,s3,s4⟩)
   refine⟨_,by simp only[go_sem,t0,t1,t8,G,S,Y,O,a0,g3];rfl,.inl ⟨_,rfl,?_⟩⟩;simp only[go_sem,t0,t1,t8,G,S,Y,O];refine⟨rfl,J,s0,s1,?_,s3,s4⟩;rw[yA];exact s2) (by
   rintro ⟨T,σ,nx⟩ ⟨t0,t1,t8,G,S,Y,O,a0,J,s0,s1,s2,s3,s4⟩;simp only at t0 t1 t8 G S Y O a0 J s0 s1 s2 s3 s4;have g1:¬(R:Int)<(R:Int):=by omega
   refine⟨_,by simp only[go_sem,O,a0,g1];rfl,by simp,_,_,_,rfl,?_⟩;simp only[go_sem,t0,t1,t8,G];rw[<- b3,PN]at s2;exact⟨J,s0,s1,s2,s3,s4⟩) (by
   simp only[go_sem,PL,b3,<- lT])
 clear hL;simp only[go_sem,t0,k3];generalize hL:aF _ _=y;obtain⟨F,eF⟩:∃F,F=free s:=⟨_,rfl⟩;have j6:R=2*F.length:=by rw[eR,eF];rfl
 have g9:=SL s l;obtain⟨FB,h6⟩:∃FB,FB=JC s l:=⟨_,rfl⟩;rw[<- h6]at g9⊢;rw[<- eF]at g9;have j7:∀i (hi:i<F.length),∃j:Nat,F[i]=(j:Int)/\j<s.joints.length/\FB[2*i]'(by omega)= -l.getD (2*j) 0/\FB[2*i+1]'(by omega)= -l.getD (2*j+1) 0:=fun i hi=>by
  have b6:F[i]∈pO (kK s) s.joints.length:=by subst eF;exact zu hi
  unfold pO at b6;obtain⟨j,hj,e⟩:=List.mem_map.mp b6;have j8:=List.mem_range.mp (List.mem_filter.mp hj).1;have e2:FB=F.flatMap fun j=>[-l.getD (2*j.toNat) 0,-l.getD (2*j.toNat+1) 0]:=by rw[h6,eF];rfl
  have g0:=flat_get (fun j:Int=>[-l.getD (2*j.toNat) 0,-l.getD (2*j.toNat+1) 0]) (C:=2) (fun _=>rfl) F (i:=i) (c:=0) hi (by decide);have g1:=flat_get (fun j:Int=>[-l.getD (2*j.toNat) 0,-l.getD (2*j.toNat+1) 0]) (C:=2) (fun _=>rfl) F (i:=i) (c:=1) hi (by decide);rw[<- e2,<- e,yw]at g0 g1;refine⟨j,e.symm,j8,?_,?_⟩
  .rw[show i*2+0=2*i by omega,zy (by omega)]at g0
   exact Option.some.inj g0
  .rw[show i*2+1=2*i+1 by omega,zy (by omega)]at g1
   exact Option.some.inj g1
 have l1:F.length<=6:=by rw[eF];omega
 obtain⟨x,rfl,T3,b5,dI,rfl,t8,G,s0,s1,s2,s3,s4⟩:=aB hL F.length (fun i st=>st.T 1=LI l/\st.T 8= .rp 0 0/\st.T 11= .rp 1 0/\st.T 80=LI F/\st.T 81=I F.length/\st.T 82=I i/\4<st.nx /\
   st.σ 0=some ⟨[I 0,I 0,.nil,.nil,.nil],0,true⟩/\st.σ 1=some ⟨[I R,I C,.rs 2 0 (R*C),.rs 3 0 R,.rs 4 0 C],0,true⟩/\st.σ 2=some ⟨FA.flatMap cI,1,true⟩/\st.σ 3=some ⟨(tK FB (2*i)).flatMap cI,1,true⟩/\st.σ 4=some ⟨(List.replicate C 0).flatMap cI,1,true⟩)
  (fun x=>∃T3 b5 dI,x=(.exit 4,⟨T3,b5,dI⟩)/\T3 8= .rp 0 0/\T3 11= .rp 1 0/\b5 0=some ⟨[I 0,I 0,.nil,.nil,.nil],0,true⟩/\b5 1=some ⟨[I R,I C,.rs 2 0 (R*C),.rs 3 0 R,.rs 4 0 C],0,true⟩/\b5 2=some ⟨FA.flatMap cI,1,true⟩/\b5 3=some ⟨FB.flatMap cI,1,true⟩/\b5 4=some ⟨(List.replicate C 0).flatMap cI,1,true⟩) (by
   clear hL;rintro i ⟨T,σ,nx⟩ hi ⟨t1,t8,G,c5,b8,c6,J,s0,s1,s2,s3,s4⟩;simp only at t1 t8 G c5 b8 c6 J s0 s1 s2 s3 s4;obtain⟨j,hj,l2,hx,hy⟩:=j7 i hi;have g1:(i:Int)<(F.length:Int):=by omega
   have g2:=aI i;have g3:=ah (n:=(i:Int)+1);have g4:=idx (xs:=F) (k:=i) hi;rw[hj]at g4;have g5:=fB F i hi;have a1:(2:Int)*(i:Int)=((2*i:Nat):Int):=by push_cast;rfl
   have a2:=ah (n:=((2*i:Nat):Int));have a3:((2*i:Nat):Int)+1=((2*i+1:Nat):Int):=by omega
   have a4:=ah (n:=((2*i+1:Nat):Int));have a5:(2:Int)*(j:Int)=((2*j:Nat):Int):=by push_cast;rfl
   have a6:=ah (n:=((2*j:Nat):Int));have a7:((2*j:Nat):Int)+1=((2*j+1:Nat):Int):=by omega
   have a8:=ah (n:=((2*j+1:Nat):Int));have h7:∀q (h:q<l.length),(l.flatMap cI)[q]?=some (I (l.getD q 0)):=fun q h=>by
    rw[idx h,zx,zy h];rfl
   have h8:∀q (h:q<l.length),-100<=l.getD q 0/\l.getD q 0<=100:=fun q h=>by
    rw[zx,zy h];exact hb _ (zu h)
   have a9:=h7 (2*j) (by omega);have e0:=h7 (2*j+1) (by omega);have b9:=h8 (2*j) (by omega);have l3:=h8 (2*j+1) (by omega);have e1:=fB l (2*j) (by omega);have e4:((2*j:Nat):Int)<(l.length:Int):=by omega
   have e5:((2*j+1:Nat):Int)<(l.length:Int):=by omega
   have e6:(0:Int)<=((2*j:Nat):Int):=by omega
   have e7:(0:Int)<=((2*j+1:Nat):Int):=by omega
   have e9:((2*i:Nat):Int)<(R:Int):=by omega
   have f0:((2*i+1:Nat):Int)<(R:Int):=by omega
   have g7:(0:Int)<=((2*i:Nat):Int):=by omega
   have g8:(0:Int)<=((2*i+1:Nat):Int):=by omega
   have w1:=ah (n:=-l.getD (2*j) 0);have w2:=ah (n:=-l.getD (2*j+1) 0);have w3:IntKind.i64.wrap (0-l.getD (2*j) 0)= -l.getD (2*j) 0:=by rw[ah];omega
   have w4:IntKind.i64.wrap (0-l.getD (2*j+1) 0)= -l.getD (2*j+1) 0:=by rw[ah];omega
   have p1:((tK FB (2*i)).flatMap cI).length=R:=by rw[aS,Nl _ (by omega)];omega
   have p2:((tK FB (2*i+1)).flatMap cI).length=R:=by rw[aS,Nl _ (by omega)];omega
   have p3:((tK FB (2*i)).flatMap cI).set (2*i) (I (-l.getD (2*j) 0))=(tK FB (2*i+1)).flatMap cI:=by
    rw[jV,<- Np FB (k:=2*i) (by omega),hx]
   have p4:((tK FB (2*i+1)).flatMap cI).set (2*i+1) (I (-l.getD (2*j+1) 0))=(tK FB (2*i+1+1)).flatMap cI:=by
    rw[jV,<- Np FB (k:=2*i+1) (by omega),hy]
   have p5:2*i<R:=by omega
   have p6:2*i+1<R:=by omega
   have p7:2*i+1<=R:=by omega
   have p8:2*i+1+1<=R:=by omega
   have p9:3<nx:=by omega
   have j9:1<nx:=by omega
   refine .inl ⟨_,by simp only[go_sem,t1,t8,G,c5,b8,c6,s1,s3,g1,g2,g3,g4,g5,a1,a2,a3,a4,a5,a6,a7,a8,a9,e0,e1,e4,e5,e6,e7,e9,f0,g7,g8,w1,w2,w3,w4,p1,p2,p3,p4,p5,p6,p7,p8,p9,j9];rfl,?_⟩;simp only[go_sem,t1,t8,G,c5,b8];exact⟨rfl,J,s0,s1,s2,by rw[show 2*(i+1)=2*i+1+1 by omega],s4⟩) (by
   rintro ⟨T,σ,nx⟩ ⟨t1,t8,G,c5,b8,c6,J,s0,s1,s2,s3,s4⟩;simp only at t1 t8 G c5 b8 c6 J s0 s1 s2 s3 s4;have g1:¬(F.length:Int)<(F.length:Int):=by omega
   refine⟨_,by simp only[go_sem,b8,c6,g1];rfl,by simp,_,_,_,rfl,?_⟩;simp only[go_sem,t8,G];have:tK FB (2*F.length)=FB:=by rw[show 2*F.length=FB.length by omega,PN]
   rw[this]at s3;exact⟨s0,s1,s2,s3,s4⟩) (by
   simp only[go_sem,t1,t8,G,Nat.mul_zero,PL,<- eF];rw[g9,<- j6];exact⟨i6,s0,s1,s2,s3,s4⟩)
 clear hL;have u1:R*C<=FA.length:=by omega
 have u2:R<=FB.length:=by omega
 have u3:C<=(List.replicate C (0:Int)).length:=by simp
 have v1:(FA.flatMap cI).take (R*C)=FA.flatMap cI:=zk (by rw[aS];omega);have v2:(FB.flatMap cI).take R=FB.flatMap cI:=zk (by rw[aS];omega);have v3:((List.replicate C (0:Int)).flatMap cI).take C=(List.replicate C (0:Int)).flatMap cI:=zk (by rw[aS];simp);simp only[go_sem,t8,G,s0,s1,s2,s3,s4,u1,u2,u3,v1,v2,v3];have w1:FA.length=R*C:=by omega
 have w2:FB.length=R:=by omega
 have w3:(List.replicate C (0:Int)).length=C:=by simp
 show some (V.agg [I R,I C,V.ts (FA.flatMap cI) (R*C),V.ts (FB.flatMap cI) R,V.ts ((List.replicate C (0:Int)).flatMap cI) C])=some (V.agg [I R,I C,V.ts (FA.flatMap cI) FA.length,V.ts (FB.flatMap cI) FB.length,V.ts ((List.replicate C (0:Int)).flatMap cI) (List.replicate C (0:Int)).length]);rw[w1,w2,w3]
theorem akj {P:Program} {t e:TypeId} {x y:Operand}(h:P.underlying t=some (.pointer e)):dK P .eql t x y (.sc (.pointer none)) (.sc (.pointer none))=some (Bo true):=by
 have key:aV P ((Op.equal t (.pointer none) (.pointer none)).bind fun r=>pure (Value.bool r))=some (.bool true):=by
  show aV P ((Op.equalIn (9999+1) t _ _).bind fun r=>pure (Value.bool r))=_;unfold Op.equalIn underlying;show aV P (.program fun p=>_)=_;simp only[aV];have pb:∀ {β E:Type} (a:β) (f:β->Sem E),(Sem.pure a).bind f=f a:=fun _ _=>rfl
  have G:∀ {β E:Type} (a:β) (f:β->Sem E),(pure a:Sem β).bind f=f a:=fun _ _=>rfl
  simp only[h,pb,G];rfl
 simp only[dK,toVal,eqGuard_at_pointer,pure_bind,binOp];erw[key];rfl
theorem anO(x y:Operand):dK Tryz.prog .eql 194 x y (.sc (.pointer none)) (.sc (.pointer none))=some (Bo true):=akj Tryz.underlying194
attribute [go_sem] anO
def axw:Option Rat->Option Rat->Option Rat
 |some x,some y=>Ac (x+y)
 |_,_=>none
def FZ:Option Rat->Option Rat->Option Rat
 |some x,some y=>Ac (x*y)
 |_,_=>none
def LnO(k:Nat)(a:Option Rat):Prop:=∀x,a=some x->Ln k x
theorem axx(a:Option Rat):fn Tryz.prog conv ext 191 [pQ a]=some (pQ (a.map fun x=> -x)):=by
 cases a with
 |none=>
  show fn Tryz.prog conv ext 191 [.sc (.pointer none)]=some (.sc (.pointer none))
  rw[aH,ak [.tmp 2] [] Tryz.func191];simp only[go_sem]
 |some x=>
  have k:=AY x.num;have E:(-x).num= -x.num:=rfl;have G:(-x).den=x.den:=rfl;show fn Tryz.prog conv ext 191 [.tp (cQ x) 0]=some (.tp (cQ (-x)) 0)
  rw[aH,ak [.tmp 2] [] Tryz.func191];unfold cQ;rw[E,G];unfold cZ at k;simp only[go_sem,k]
theorem Nr(σ:Store)(a:Option Rat):Option.map (fun x=>x.1) (strip σ 7 (pQ a))=some (pQ a):=by
 cases a with
 |none=>rfl
 |some q=>unfold pQ;rw[CG];rfl
theorem ar_ {a b:Option Rat}(ha:LnO 100 a)(hb:LnO 100 b):fn Tryz.prog aU bU 192 [pQ a,pQ b]=some (pQ (axw a b)):=by
 cases a with
 |none=>
  show fn Tryz.prog aU bU 192 [.sc (.pointer none),pQ b]=some (.sc (.pointer none));rw[aH,ak [.tmp 4] [] Tryz.func192];simp only[go_sem]
 |some x=>cases b with
  |none=>
   show fn Tryz.prog aU bU 192 [.tp (cQ x) 0,.sc (.pointer none)]=some (.sc (.pointer none));rw[aH,ak [.tmp 4] [] Tryz.func192];simp only[go_sem]
  |some y=>
   have E:=agi x y ((ha x rfl).mono (by decide)) ((hb y rfl).mono (by decide));have G:=arK (x+y) (Ln.mono (ZH (ha x rfl) (hb y rfl) ) (by decide));show fn Tryz.prog aU bU 192 [.tp (cQ x) 0,.tp (cQ y) 0]=some (pQ (Ac (x+y)));rw[aH,ak [.tmp 4] [] Tryz.func192];simp only[go_sem,E,G];exact Nr _ _
theorem ar' {a b:Option Rat}(ha:LnO 100 a)(hb:LnO 100 b):fn Tryz.prog aU bU 230 [pQ a,pQ b]=some (pQ (FZ a b)):=by
 cases a with
 |none=>
  show fn Tryz.prog aU bU 230 [.sc (.pointer none),pQ b]=some (.sc (.pointer none));rw[aH,ak [.tmp 4] [] Tryz.func230];simp only[go_sem]
 |some x=>cases b with
  |none=>
   show fn Tryz.prog aU bU 230 [.tp (cQ x) 0,.sc (.pointer none)]=some (.sc (.pointer none));rw[aH,ak [.tmp 4] [] Tryz.func230];simp only[go_sem]
  |some y=>
   have E:=aaX x y ((ha x rfl).mono (by decide)) ((hb y rfl).mono (by decide));have G:=arK (x*y) (Ln.mono (ZG (ha x rfl) (hb y rfl) (by decide)) (by decide));show fn Tryz.prog aU bU 230 [.tp (cQ x) 0,.tp (cQ y) 0]=some (pQ (Ac (x*y)));rw[aH,ak [.tmp 4] [] Tryz.func230];simp only[go_sem,E,G];exact Nr _ _
end Go.Proofs.YtehdaknhabeiaaaGreat
