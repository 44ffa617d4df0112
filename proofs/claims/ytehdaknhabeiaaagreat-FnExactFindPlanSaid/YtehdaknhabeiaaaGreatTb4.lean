import Derived.Test.YtehdaknhabeiaaaGreatTb3
set_option linter.unusedSimpArgs false
set_option linter.unusedVariables false
set_option linter.unusedSectionVars false
set_option linter.defProp false
set_option maxRecDepth 10000
set_option maxHeartbeats 4000000
open Go.Proofs.Tryz renaming prog->ZH
open Go.Proofs.Tryz
open Bool renaming and_eq_true->zB,not_false->wu,not_true->vH,or_eq_false_iff->uM
open Classical renaming byContradiction->zf
open Int renaming lt_irrefl->zl,mul_le_mul_of_nonneg_right->zS,toNat_natCast->zF,mul_le_mul_of_nonneg_left->zA,natCast_mul->yh,tdiv_eq_ediv_of_nonneg->yH,le_refl->yD,mul_add->xY,tmod_eq_emod_of_nonneg->xH,le_of_lt->xG,natAbs_natCast->wz,natAbs_neg->wC,mul_zero->vZ,mul_nonneg->vV,mul_sub->uw,toNat_of_nonneg->uY,natAbs_mul->uX,add_zero->uS,sub_mul->uH,mul_lt_mul_of_pos_right->t_
open List renaming getElem?_eq_getElem->zy,getD_eq_getElem?_getD->zx,getElem_mem->zu,length_append->zo,take_of_length_le->zk,length_take->zh,eq_nil_of_length_eq_zero->zZ,mem_cons_of_mem->zY,mem_cons->zX,getElem?_append_left->zV,flatMap_append->zU,flatMap_cons->zT,getElem?_append_right->zQ,length_map->zO,length_drop->zN,mem_cons_self->zM,append_nil->zK,length_cons->zJ,not_mem_nil->zH,mem_append_left->zD,append_assoc->z_,mem_append_right->yw,length_replicate->yj,take_length->yg,getElem?_map->yc,getElem?_eq_none->yZ,drop_zero->yY,getElem_of_mem->yV,drop_eq_getElem_cons->yU,cons_append->yT,ext_getElem->yS,length_eraseIdx_of_lt->yR,take_add_one->yN,length_singleton->yM,nil_append->yK,length_set->yJ,getElem_append_left->yG,set_append_right->yC,getElem_map->yB,drop_of_length_le->xk,nodup_cons->xZ,getElem?_drop->xX,replicate_succ->xR,map_congr_left->xO,take_left'->xM,getElem?_take->xE,mem_singleton->xC,length_nil->wZ,range_succ->wY,map_append->wX,mem_append->wW,mem_of_mem_take->wS,flatMap_nil->wQ,getElem_set->wP,getElem_append_right->wO,take_append_drop->wM,replicate_append_replicate->wF,getElem?_range->w_,drop_append_of_le_length->vk,set_cons_zero->vg,all_nil->vN,map_cons->vK,mem_or_eq_of_mem_set->vB,eraseIdx_eq_take_drop_succ->uz,replicate_succ'->uo,getElem_take->uh,take_append_of_le_length->uf,getElem?_replicate->uZ,getElem_inj->uV,all_eq_true->uU,all_cons->uO,length_range->uN,getElem?_mapIdx->uK,set_eq_take_append_cons_drop->uJ,getElem?_take_of_lt->uD,length_zipWith->tq,eraseIdx_sublist->tC
open Nat renaming le_refl->zq,not_lt_zero->zW,le_trans->zL,mul_le_mul_right->zC,zero_add->yX,mul_one->yQ,sub_self->yP,mul_le_mul->yE,min_eq_left->yA,succ_mul->xq,lt_of_lt_of_le->xP,div_le_self->xJ,div_one->x9,zero_le->wK,mod_eq_of_lt->wJ,mod_lt->vX,add_mul->vO,mul_assoc->vG,div_eq_of_lt->vF,zero_mul->uq,eq_zero_of_gcd_eq_zero_right->u_
open Ne renaming symm->yu
open Option renaming bind_some->zi,map_some->zG,getD_some->xK
open Option.some renaming injEq->su
open Prod.mk renaming injEq->sZ
namespace Go.Proofs.YtehdaknhabeiaaaGreat
open Go Go.TV
theorem alQ{U a b:List Int}{j:Nat}(h:a.length=b.length)(G:j+a.length<=U.length):lay (lay U j a) j b=lay U j b:=by
 unfold lay;have E:(U.take j).length=j:=by rw[zh];omega
 rw[xM E];congr 2;rw[<- z_,List.drop_left' (by rw[zo,E,h]),h]
theorem Xq{U a:List Int}{j:Nat}(E:j+a.length<=U.length):(lay U j a).drop j=a++U.drop (j+a.length):=by
 unfold lay;exact List.drop_left' (by rw[zh];omega)
theorem Xr{U a:List Int}{j:Nat}(E:j+a.length<=U.length):(lay U j a).take j=U.take j:=by
 unfold lay;exact xM (by rw[zh];omega)
theorem aoU{U a:List Int}{j:Nat}(h:Dg U)(E:Dg a):Dg (lay U j a):=(h.take _).app (E.app (h.drop _))
theorem ah1{U:List Int}{j n:Nat}{L Q:List Int}{q V N:Int}(hj:j+(n+1)<=U.length)(O:L.length=n)(E:vl (U.drop (j+n+1))=0)(S:vl L=vl (U.drop j) - q*V)(Y:vl U+V*(bp (j+1)*vl Q)=N) :
  vl ((lay U j (L++[0])).drop j)=vl L/\vl (lay U j (L++[0]))+V*(bp j*vl (q :: Q))=N:=by
 have hl:(L++[0]).length=n+1:=by simp[O]
 have G:vl ((lay U j (L++[0])).drop j)=vl L:=by
  rw[Xq (by omega),aaV,ZY,hl,show j+(n+1)=j+n+1 by omega,E];simp
 refine⟨G,?_⟩;have J:=ZX (lay U j (L++[0])) (k:=j) (by rw[jm (by omega)];omega);rw[Xr (by omega),G]at J;have h3:=ZX U (k:=j) (by omega);rw[J,S,<- Y,h3,qZ];show _+bp j*_+V*(bp j*(q+1000000000*vl Q))=_;grind
theorem ae9(f:V->Option (List Nat))(h:∀x,f (I x)=some [])(xs:List Int):AU f (xs.flatMap cI)=some []:=by
 induction xs with
 |nil=>rfl
 |cons x xs E=>
  show AU f (I x :: xs.flatMap cI)=_;rw[Iw,h,E];rfl
theorem lM{σ:Store}{b off len:Nat}{xs:List Int}(d:Nat)(h:σ b=some ⟨xs.flatMap cI,1,true⟩):gather σ (d+1) (.rs b off len)=some [b]:=by
 have e:gather σ (d+1) (.rs b off len)=match σ b with
   |some B=>match AU (gather σ d) B.cells with
    |some ids=>some (b :: ids)
    |none=>none
   |none=>none:=rfl
 rw[e,h];simp only;rw[ae9 _ (fun x=>QI σ d _)]
theorem alR{σ:Store}{b E j:Nat}{xs:List Int}(h:σ b=some ⟨xs.flatMap cI,1,true⟩)(J:xs.length=E)(O:j<E) :
  ((σ b).bind fun B=>if j<=E/\B.st=1/\E<=B.cells.length then if j=0 then some (V.rs b 0 E)else if j=E then some (V.ts [] 0)else some (V.rs b j (E-j))else none)=some (.rs b j (E-j)):=by
 rw[h];simp only[zi,qR,J];rw[sS ⟨by omega,trivial,zq _⟩]
 by_cases G:j=0
 .subst G;rw[sS rfl];rfl
 .rw[sW G,sW (by omega)]
theorem alS{b E j l:Nat}(J:l=E)(O:j<E) :
  (if j<=E/\E<=l then if j=0 then some (V.rs b 0 E)else if j=E then some (V.ts [] 0)else some (V.rs b j (E-j))else none)=some (.rs b j (E-j)):=by
 subst J;rw[sS ⟨by omega,zq _⟩]
 by_cases G:j=0
 .subst G;rw[sS rfl];rfl
 .rw[sW G,sW (by omega)]
theorem after_take{U lo:List Int}{j e:Nat}{X g tt G:Int}(a1:lo.length=e+2)(PV:Dg lo)(E:vl lo+bp (e+2)*tt=X-g*G)(gh:X<(g+1)*G)(gl:(g-1)*G<=X)(dV:G<bp (e+2))(V0:0<G)(g0:0<=g)(X0:0<=X) :
  (tt=0/\vl lo=X-g*G/\vl lo<G)\/(tt= -1/\0<=g-1/\∀(J:List Int) (cc:Int),J.length=e+2->Dg J->vl J+bp (e+2)*cc=vl lo+G->cc=1/\vl J=X - (g-1)*G/\vl J<G):=by
 have O:=Zb PV;rw[a1]at O;have S:=Za PV;rcases ahT gh gl with ⟨z1,z2⟩|⟨z1,z2,z3⟩
 .have a0:tt=0:=Xo S O z1 (by omega) E.symm
  subst a0;rw[vZ,uS]at E;exact .inl ⟨rfl,E,by omega⟩
 .have e1:(g-1)*G=g*G-G:=by rw[uH,Int.one_mul]
  rw[e1]at z2 z3⊢;have a0:tt= -1:=alM S O (by omega) z1 E.symm;subst a0;have g1:0<=g-1:=by
   refine Int.not_lt.mp fun h=>?_
   have:g=0:=by omega
   subst this;omega
  refine .inr ⟨rfl,g1,fun J cc h1 h2 h3=>?_⟩;have Y:=Zb h2;rw[h1]at Y;have e2:bp (e+2)*(cc-1)=bp (e+2)*cc-bp (e+2):=by rw[uw,Int.mul_one]
  have e3:bp (e+2)* -1= -bp (e+2):=by rw[Int.mul_neg,Int.mul_one]
  rw[e3]at E;have a2:cc-1=0:=Xo (X:=X - (g*G-G)) (Za h2) Y z2 (by omega) (by rw[e2];omega);have:cc=1:=by omega
  subst this;rw[Int.mul_one]at h3;exact⟨rfl,by omega,by omega⟩
theorem alT{U lo:List Int}{j e lu:Nat}(dU:Dg U)(lU:U.length=lu)(a2:j+(e+2)<U.length)(G:lo.length=e+2)(PV:Dg lo) :
  ∃E,lay U j (lo++[-1])=E/\E.length=lu/\(∃h:j+(e+2)<E.length,E[j+(e+2)]= -1)/\(∀k (h:k<E.length),k<j+(e+2)->0<=E[k]/\E[k]<1000000000)/\(E.drop j).take (e+2)=lo /\
   ∀Y:List Int,Y.length=e+2->lay E j (Y++[0])=lay U j (Y++[0]):=by
 have O:(lo++[-1]).length=e+3:=by simp[G]
 have J:(lay U j (lo++[-1])).drop j=lo++[-1]++U.drop (j+(e+3)):=by rw[Xq (by omega),O]
 have a0:(lay U j (lo++[-1])).take j=U.take j:=by rw[Xr (by omega)]
 have a1:(lay U j (lo++[-1])).length=lu:=by rw[jm (by omega)];exact lU
 refine⟨_,rfl,a1,⟨by omega,?_⟩,fun k hk a3=>?_,by rw[J,z_,xM G],fun Y h=>?_⟩
 .have:((lay U j (lo++[-1])).drop j)[e+2]?=some (-1):=by
   rw[J,z_,zQ (by omega),G,yP];rfl
  rw[xX,zy (by omega)]at this;exact Option.some.inj this
 .by_cases S:k<j
  .have:((lay U j (lo++[-1])).take j)[k]?=some (lay U j (lo++[-1]))[k]:=by rw[uD S,zy hk]
   rw[a0,uD S,zy (by omega)]at this;rw[<- Option.some.inj this];exact dU.get (by omega)
  .have:((lay U j (lo++[-1])).drop j)[k-j]?=some (lay U j (lo++[-1]))[k]:=by
    rw[xX];have e2:j+(k-j)=k:=by omega
    rw[e2,zy hk]
   rw[J,z_,zV (by omega),zy (by omega)]at this;rw[<- Option.some.inj this];exact PV.get (by omega)
 .exact alQ (by rw[O];simp[h]) (by omega)
theorem Xt{U Q E:List Int}{j e S:Nat}{q X G N:Int}(dU:Dg U)(dQ:Dg Q)(lU:U.length=S)(a1:j+(e+2)<U.length)(lQ:Q.length+(j+1)=S - (e+2))(a0:vl (U.drop (j+(e+2)+1))=0)(eX:X=vl (U.drop j))(J:vl U+G*(bp (j+1)*vl Q)=N)
  (h1:E.length=e+2) (h2:Dg E) (h3:0<=q) (h4:q<1000000000) (h5:vl E=X-q*G) (h6:vl E<G) :
  ∃O Y,(lay U j (E++[0]))=O/\I q :: Q.flatMap cI=Y.flatMap cI/\Dg O/\Dg Y/\O.length=S/\Y.length+j=S - (e+2)/\vl (O.drop j)<G/\vl O+G*(bp j*vl Y)=N:=by
 rw[eX]at h5;obtain⟨y1,y2⟩:=ah1 (U:=U) (j:=j) (n:=e+2) (L:=E) (Q:=Q) (q:=q) (by omega) h1 a0 h5 J;have hl:(E++[0]).length=e+3:=by simp[h1]
 refine⟨_,q :: Q,rfl,rfl,aoU dU (h2.snoc (by decide) (by decide)),fun x hx=>?_,by rw[jm (by omega)];exact lU,by simp;omega,by rw[y1];exact h6,y2⟩;rcases List.mem_cons.mp hx with rfl|hx
 .exact⟨h3,h4⟩
 .exact dQ x hx
theorem TX(n k:Nat):Dg (pad n k):=fun x E=>by
 unfold pad at E;obtain⟨i,_,rfl⟩:=List.mem_map.mp E;omega
theorem ah2(n k:Nat)(h:n<1000000000^k):vl (pad n k)=n:=by
 have E:=Ir k n h;rw[aco (TX n k)]at E;have G:=congrArg vl E;rw[Zc,Zc,uY (Za (TX n k))]at G;exact G
theorem QV{s:Nat}(E:1<=s)(h:s<1000000000):LI (dg s)= .ts [I s] 1:=by rw[oU (by omega) h];rfl
theorem atA(m n:Nat)(hm:ln m<=1000000)(h2:2<=ln n)(hle:n<=m):fn ZH Ef IL 222 [LI (dg m),LI (dg n)]=some (.AP [LI (dg (m / n)),LI (dg (m%n))]):=by
 obtain⟨b1,s,hb,h7,p4,p5,hs,j0,e9,f1,f4⟩:=ah0 h2;have p6:(dg n).length=ln n:=rfl;have p7:(dg m).length=ln m:=rfl;have j9:ln n<=ln m:=jf hle;have k0:m≠0:=fun e=>by rw[e,jX]at j9;omega
 have q5:n≠0:=fun e=>by rw[e,jX]at h2;omega
 have k1:=kN m n (by omega) (by omega);have hc:¬A_ m n<0:=by unfold A_;rw[sW (by omega)];split<;>decide
 have c1:(((dg n).length:Int)==1)=false:=by rw[sQ];omega
 have q6:ln s=1:=by
  have:=jY e9;have:=jZ (n:=s) (by omega);omega
 obtain⟨k4,P1,t1,f7,q7,k5,k6⟩:=ahY m s hm (by omega) k0 (by omega) 1;rw[QV j0 e9]at t1;have r4:m*s≠0:=Nat.mul_ne_zero k0 (by omega);have r5:ln m<=ln (m*s):=jf (Nat.le_mul_of_pos_right _ (by omega));have r6:ln (m*s)<=ln m+1:=by have:=je m s;omega
 obtain⟨Xu,ea⟩:∃Xu,Xu=upd (Cb 1 (upd lI 0 (some ⟨[I s],1,true⟩)) k4 [1]) 2 (some ⟨[I 0],1,true⟩):=⟨_,rfl⟩;have k7:Xu 1=some ⟨P1.flatMap cI,1,true⟩:=by
  rw[ea,Zj _ _ (by decide),jy (by decide) (by simp)];exact f7
 have k8:Xu 0=some ⟨[I s],1,true⟩:=by
  rw[ea,Zj _ _ (by decide),jw (by decide)];exact Zi _ _ _
 obtain⟨bu,Xv,nb,ga,gb,gn,y8,r7,k9⟩:=atz (nx:=3) k7 (by decide) k5 k6 r4 (by omega) (by omega);have f8:Xv 0=some ⟨[I s],1,true⟩:=by rw[k9 0 (by decide) (by decide)];exact k8
 obtain⟨σ2,P2,t2,f9,r8,l5,l6⟩:=ahY n s (by omega) (by omega) q5 (by omega) nb;rw[QV j0 e9,f1]at t2;obtain⟨e,he⟩:∃e,ln n=e+2:=⟨ln n-2,by omega⟩;obtain⟨O,r9⟩:∃O,O=ln (m*s)+1:=⟨_,rfl⟩;obtain⟨d5,ec⟩:∃d5,d5=Cb nb Xv σ2 [nb]:=⟨_,rfl⟩;have l7:d5 nb=some ⟨P2.flatMap cI,1,true⟩:=by rw[ec,jy (by omega) (by simp)];exact f9
 have l8:d5 0=some ⟨[I s],1,true⟩:=by rw[ec,jw (by omega)];exact f8
 have l9:d5 bu=some ⟨(dg (m*s)++[0]).flatMap cI,1,true⟩:=by rw[ec,jw r7];exact gb
 obtain⟨W,eW⟩:∃W,W=dg (n*s):=⟨_,rfl⟩;have f2:W.length=e+2:=by rw[eW];show ln (n*s)=_;rw[f1,he]
 have dW:Dg W:=by rw[eW];exact oh _
 have vW:vl W=(n*s:Nat):=by rw[eW];exact Zc _
 have f3:∀k (h:k<W.length),(P2.flatMap cI)[k]?=some (I W[k]):=fun k h=>by
  obtain⟨p1,p2⟩:=gi l5 l6;have:((P2.flatMap cI).take (ln (n*s)))[k]?=some (I W[k]):=by rw[p1,<- eW];exact idx h
  rw[uD (by rw[f1];omega)]at this;exact this
 have big:bp (e+1)*500000000<=(n*s:Nat):=by
  have h:=f4;rw[he]at h;exact h
 have hP:=qg e;obtain⟨Vn,eV⟩:∃Vn:Int,Vn=(n*s:Nat):=⟨_,rfl⟩;rw[<- eV]at big vW;have s1:0<Vn:=by have:=qg (e+1);omega
 have dV:=Zb dW;rw[f2,vW]at dV;have s2:500000000<=W[e+1]:=by
  have g1:=ZW (xs:=W) (k:=e+1) (by omega);rw[zk (by omega),vW]at g1;have g2:=Zb (dW.take (e+1));rw[zh,yA (by omega)]at g2;refine Int.not_lt.mp fun h=>?_
  have:bp (e+1)*(W[e+1]+1)<=bp (e+1)*500000000:=zA (by omega) (xG (qg _));rw[xY]at this;omega
 have s3:=dW.get (k:=e+1) (by omega);have e4:=dW.get (k:=e) (by omega);obtain⟨v1,m2⟩:∃v1,v1=W[e+1]:=⟨_,rfl⟩;obtain⟨v2,m3⟩:∃v2,v2=W[e]:=⟨_,rfl⟩;have d6:=f3 (e+1) (by omega);have d9:=f3 e (by omega);rw[<- m2]at s2 s3 d6;rw[<- m3]at e4 d9;have i0:(0:Int)<=((dg n).length:Int) - 1:=by omega
 have i1:=ZQ (n:=((ln n-1:Nat):Int));have i2:((dg n).length:Int) - 1=((ln n-1:Nat):Int):=by omega
 have i3:((ln n-1:Nat):Int)<((dg n).length:Int):=by omega
 have m4:(0:Int)<=((ln n-1:Nat):Int):=by omega
 have i4:=AZ (dg n) (ln n-1) hb;have i5:=idx hb;rw[h7]at i5;have i6:=ZQ (n:=(b1:Int)+1);have i7:¬((b1:Int)+1)=0:=by omega
 have i8:(1000000000:Int).tdiv ((b1:Int)+1)=(s:Int):=by
  rw[yH (by decide),hs];simp
 have i9:=ZQ (n:=(s:Int));have j1:¬(((O:Nat):Int)<=((dg m).length:Int)):=by omega
 have j2:((O:Nat):Int) - ((e+2:Nat):Int)=((O - (e+2):Nat):Int):=by omega
 have j3:=ZQ (n:=((O - (e+2):Nat):Int)) (by omega) (by omega);obtain⟨j4,j5,j6⟩:=jT (k:=O - (e+2)) (by omega);have j7:=ZQ (n:=((O - (e+2):Nat):Int) - 1) (by omega) (by omega);have m5:Ad Xu 3 1 8 (.rs 1 0 (ln (m*s))) [I 0] 1=some (.rs bu 0 O,Xv,nb):=by rw[ga,r9]
 have gg:=lM (σ:=k4) (b:=1) (off:=0) (len:=ln (m*s)) 6 f7;have m6:=lM (σ:=σ2) (b:=nb) (off:=0) (len:=e+2) 6 f9;rw[he]at t2;have j8:(dg n).length=e+2:=by omega
 have FK:((Xu 2).bind fun B=>if 1<=B.cells.length then some (List.take 1 B.cells,1)else none)=some ([I 0],1):=by
  rw[ea,Zi];rfl
 rw[mM,nG [.tmp 4,.tmp 5] [15,16,17,25] func222];simp only[go_sem,k1,hc,c1,i0,i1,i2,i3,m4,i4,i5,i6,i7,i8,i9,t1,gg,<- ea,FK,m5,f8,t2,m6,<- ec];generalize hL:dI _ _=y;obtain⟨r,rfl,T1,rfl,q0,q8,q9,g3⟩:=jV hL (fun _ st=>st.T 0=LI (dg m)/\st.T 8= .rs 0 0 1/\st.T 9= .rs bu 0 O/\st.T 10= .rs nb 0 (e+2)/\st.σ=d5/\st.nx=nb+1)
  (fun r=>∃T,r=(.exit 0,⟨T,d5,nb+1⟩)/\T 0=LI (dg m)/\T 8= .rs 0 0 1/\T 9= .rs bu 0 O/\T 10= .rs nb 0 (e+2)) (by
   clear hL;rintro k ⟨T,σ,nx⟩ ⟨h0,h8,h9,m7,e6,d4⟩;simp only at h0 h8 h9 m7 e6 d4;subst e6 d4;refine .inr ⟨_,by simp only[go_sem,h0,h9,j1];rfl,by simp,_,rfl,?_⟩;simp only[go_sem,h0,h8,h9,m7]) 0 (by simp only[go_sem])
 simp only[go_sem,q0,q8,q9,g3,j2,j3,j4,j5,j6,j7];obtain⟨S,s4⟩:∃S,S=nb+1:=⟨_,rfl⟩;have y9:O<=1000002:=by omega
 generalize hL:dI _ _=y
 obtain⟨r,rfl,T1,e0,U,Q,rfl,p8,p9,E,Y,sU,s0,sq,dU,dQ,lU,lQ,c9,d3⟩:=jV hL (fun mm st=>st.T 8= .rs 0 0 1/\st.T 9= .rs bu 0 O/\st.T 10= .rs nb 0 (e+2)/\st.T 11=I ((e+2:Nat):Int)/\st.T 12= .rs S 0 (O - (e+2))/\st.T 13=I ((mm:Int) - 1)/\st.nx=S+1/\mm<=O - (e+2) /\
   ∃U Q,st.σ bu=some ⟨U.flatMap cI,1,true⟩/\st.σ nb=some ⟨P2.flatMap cI,1,true⟩/\st.σ 0=some ⟨[I s],1,true⟩/\st.σ S=some ⟨rep mm [I 0]++Q.flatMap cI,1,true⟩/\Dg U/\Dg Q/\U.length=O/\Q.length+mm=O - (e+2)/\vl (U.drop mm)<Vn/\vl U+Vn*(bp mm*vl Q)=(m*s:Nat))
  (fun r=>∃T σ U Q,r=(.exit 2,⟨T,σ,S+1⟩)/\T 8= .rs 0 0 1/\T 9= .rs bu 0 O/\T 10= .rs nb 0 (e+2)/\T 12= .rs S 0 (O - (e+2))/\σ bu=some ⟨U.flatMap cI,1,true⟩/\σ 0=some ⟨[I s],1,true⟩/\σ S=some ⟨Q.flatMap cI,1,true⟩/\Dg U/\Dg Q/\U.length=O/\Q.length=O - (e+2)/\vl U<Vn/\vl U+Vn*vl Q=(m*s:Nat)) (by
   clear hL;clear i0 i1 i2 i3 m4 i4 i5 i6 i7 i8 i9 j1 j2 j3 j4 j5 j6 j7 j8 gg m6 FK ga m5 k9 f7 q7 k5 k6 t1 t2 f9 r8 l5 l6 k8 k7 ea f8 l8 l9 l7 ec r5 r6 q6 c1 hc k1 f4 hs p5 p4 h7 p7 p6 j9 q0 q8 q9 g3 big eW;rintro mm ⟨T,σ,nx⟩ ⟨p8,p9,E,G,Y,J,d4,y7,U,Q,sU,sV,s0,sq,dU,dQ,lU,lQ,c9,d3⟩;simp only at p8 p9 E G Y J d4 sU sV s0 sq;subst d4;cases mm with
   |zero=>
    have f0:¬(0:Int)<=((0:Nat):Int) - 1:=by omega
    refine .inr ⟨_,by simp only[go_sem,J,f0];rfl,by simp,_,σ,U,Q,rfl,?_⟩;simp only[go_sem,p8,p9,E,Y];refine⟨sU,s0,?_,dU,dQ,lU,by omega,by rw[yY]at c9;exact c9,by rw[<- d3,Tt,Int.one_mul]⟩;rw[sq];rfl
   |succ j=>
    have e5:((j+1:Nat):Int) - 1=(j:Int):=by omega
    rw[e5]at J;have d7:j+(e+2)<U.length:=by omega
    obtain⟨x1,x2,⟨Ur,m8,s5,xU⟩,⟨Vr,m9,n0,xV⟩,x5,x6⟩:=window (W:=W) (V:=Vn) dU f2 dW vW d7 c9;have r1:=dU.get d7;have r2:=dU.get (k:=j+e+1) (by omega);have r3:=dU.get (k:=j+e) (by omega);have n1:=idx d7;have n2:=idx (xs:=U) (k:=j+e+1) (by omega);have e1:=idx (xs:=U) (k:=j+e) (by omega);obtain⟨un,n3⟩:∃un,un=U[j+(e+2)]:=⟨_,rfl⟩;obtain⟨u1,s6⟩:∃u1,u1=U[j+e+1]:=⟨_,rfl⟩;obtain⟨u2,s7⟩:∃u2,u2=U[j+e]:=⟨_,rfl⟩;rw[<- n3]at x1 xU x5 r1 n1;rw[<- s6]at xU r2 n2;rw[<- s7]at xU r3 e1;rw[<- m2]at xV x5;rw[<- m3]at xV;obtain⟨top,n4⟩:∃top,top=un*1000000000+u1:=⟨_,rfl⟩;rw[<- n4]at xU;have tb:top<=v1*1000000000+999999999:=by
     have:=zS x5 (show(0:Int)<=1000000000 by decide);omega
    have t0:0<=top:=by omega
    obtain⟨X,eX⟩:∃X,X=vl (U.drop j):=⟨_,rfl⟩;rw[<- eX]at x1 x2 xU;have P0:0<=bp e:=xG (qg e);have d1:bu<S+1:=by omega
    have d2:nb<S+1:=by omega
    have a0:(j:Int)+((e+2:Nat):Int)=((j+(e+2):Nat):Int):=by omega
    have a1:=ZQ (n:=((j+(e+2):Nat):Int)) (by omega) (by omega);have a2:(0:Int)<=((j+(e+2):Nat):Int):=by omega
    have a3:((j+(e+2):Nat):Int)<(O:Int):=by omega
    have a4:((j+(e+2):Nat):Int) - 1=((j+e+1:Nat):Int):=by omega
    have a5:=ZQ (n:=((j+e+1:Nat):Int));have a6:(0:Int)<=((j+e+1:Nat):Int):=by omega
    have a7:((j+e+1:Nat):Int)<(O:Int):=by omega
    have a8:=ZQ (n:=un*1000000000);have a9:=ZQ (n:=top);have b0:=jD j;have e2:((e+2:Nat):Int) - 1=((e+1:Nat):Int):=by omega
    have b2:=ZQ (n:=((e+1:Nat):Int));have b3:(0:Int)<=((e+1:Nat):Int):=by omega
    have b4:((e+1:Nat):Int)<((e+2:Nat):Int):=by omega
    have b5:¬v1=0:=by omega
    have b6:top.tdiv v1=top / v1:=yH t0;have b7:top.tmod v1=top%v1:=xH t0;have s8:0<=top / v1:=Int.ediv_nonneg t0 (by omega);have s9:top / v1<=1000000001:=by
     refine Int.le_of_lt_add_one (Int.ediv_lt_of_lt_mul (by omega) ?_);have:1000000002*v1=v1*1000000000+2*v1:=by omega
     show top<1000000002*v1;omega
    have b8:=ZQ (n:=top / v1);have m0:=Int.emod_nonneg top (show v1≠0 by omega);have m1:=Int.emod_lt_of_pos top (show 0<v1 by omega);have b9:=ZQ (n:=top%v1);have t4:top%v1=top-top / v1*v1:=by have:=Int.emod_def top v1;rw[Int.mul_comm]at this;exact this
    have hi0:X<(top / v1+1)*Vn:=by
     refine atr (v1:=v1) (top:=top) (P:=bp e*1000000000) (Vr:=v2*bp e+Vr) (Ur:=u2*bp e+Ur) s8 (by omega) ?_ ?_ ?_ ?_ ?_
     .rw[xV];grind
     .have:=vV e4.1 P0;omega
     .rw[xU];grind
     .have:u2*bp e<=999999999*bp e:=zS (by omega) P0
      omega
     .rw[Int.add_mul];omega
    have c0:((j+(e+2):Nat):Int) - 2=((j+e:Nat):Int):=by omega
    have e7:=ZQ (n:=((j+e:Nat):Int));have c2:(0:Int)<=((j+e:Nat):Int):=by omega
    have c3:((j+e:Nat):Int)<(O:Int):=by omega
    have c4:((e+2:Nat):Int) - 2=(e:Int):=by omega
    have c5:=ZQ (n:=(e:Int));have c6:=jD e;have c7:(e:Int)<((e+2:Nat):Int):=by omega
    refine bF ?_
    conv=>
     enter [1,r,1,1]
     simp only[go_sem,p8,p9,E,G,Y,J,sU,sV,d1,d2,n1,n2,d6,a0,a1,a2,a3,a4,a5,a6,a7,a8,a9,b0,e2,b2,b3,b4,b5,b6,b7,b8,b9,<- n4]
    generalize hL:dI _ _=z
    obtain⟨r,rfl,T1,g,rfl,p8,p9,E,G,Y,J,c8,g0,gB,gh,gl⟩:=jV hL (fun k st=>st.T 8= .rs 0 0 1/\st.T 9= .rs bu 0 O/\st.T 10= .rs nb 0 (e+2)/\st.T 11=I ((e+2:Nat):Int)/\st.T 12= .rs S 0 (O - (e+2))/\st.T 13=I j/\st.σ=σ/\st.nx=S+1 /\
      ∃g rest,st.T 15=I g/\st.T 16=I rest/\g=(k:Int)/\g<=1000000001/\X<(g+1)*Vn/\rest=top-g*v1/\0<=rest/\rest<1000000000)
     (fun r=>∃T g,r=(.exit 4,⟨T,σ,S+1⟩)/\T 8= .rs 0 0 1/\T 9= .rs bu 0 O/\T 10= .rs nb 0 (e+2)/\T 11=I ((e+2:Nat):Int)/\T 12= .rs S 0 (O - (e+2))/\T 13=I j/\T 15=I g/\0<=g/\g<1000000000/\X<(g+1)*Vn/\(g-1)*Vn<=X) (by
      clear hL;rintro k ⟨T,σ',nx⟩ ⟨p8,p9,E,G,Y,J,e6,d4,g,rest,c8,e3,z6,t5,gh,hr,r0,rB⟩;simp only at p8 p9 E G Y J c8 e3 e6 d4;subst e6 d4;have gm:g*v2<=1000000001*999999999/\0<=g*v2:=by
       refine⟨Int.le_trans (zS t5 e4.1) (zA (by omega) (by decide)),vV (by omega) e4.1⟩
      have z1:=ZQ (n:=g*v2);have z2:=ZQ (n:=rest*1000000000);have z3:=ZQ (n:=rest*1000000000+u2);have z4:=ZQ (n:=g-1);have z5:=ZQ (n:=rest+v1);have go:(1000000000<=g\/rest*1000000000+u2<g*v2)->X<g*Vn/\1<=g:=by
       rintro (h|h)
       .exact⟨alL (by omega) x2 h,by omega⟩
       .refine⟨aoR (by omega) P0 xV m9 xU s5 hr h,?_⟩
        refine Int.not_lt.mp fun z7=>?_
        have:g=0:=by omega
        subst this;omega
      have fin:X<g*Vn->1<=g->rest+v1=top - (g-1)*v1/\X<(g-1+1)*Vn:=fun h _=>by
       refine⟨by rw[uH];omega,by rw[Int.sub_add_cancel];exact h⟩
      have cut:X<g*Vn->1<=g->1000000000<=rest+v1->g-1<1000000000/\(g-1-1)*Vn<=X:=fun h h1 t6=>by
       obtain⟨q1,q2⟩:=fin h h1;have q3:g-1<1000000000:=by
        refine Int.not_le.mp fun hn=>?_
        have:1000000000*v1<=(g-1)*v1:=zS hn (by omega);omega
       have q4:=aoS (g:=g-1) (by omega) (xG q3) (by decide) P0 (by omega) xV (xG n0) xU m8 (by omega) q1 t6;refine⟨q3,?_⟩;rw[uH (g-1),Int.one_mul];omega
      by_cases hB:1000000000<=g
      .obtain⟨y1,y2⟩:=go (.inl hB)
       obtain⟨y3,y4⟩:=fin y1 y2
       by_cases hE:1000000000<=rest+v1
       .obtain⟨y5,y6⟩:=cut y1 y2 hE
        refine .inr ⟨_,by simp only[go_sem,p9,E,G,J,c8,e3,sU,sV,d1,d2,e1,d6,d9,a0,a1,a2,b0,e2,b2,b3,b4,c0,e7,c2,c3,c4,c5,c6,c7,z1,z2,z3,z4,z5,hB,hE];rfl,by simp,_,g-1,rfl,?_⟩;simp only[go_sem,p8,p9,E,G,Y,J];exact⟨by omega,y5,y4,y6⟩
       .refine .inl ⟨_,by simp only[go_sem,p9,E,G,J,c8,e3,sU,sV,d1,d2,e1,d6,d9,a0,a1,a2,b0,e2,b2,b3,b4,c0,e7,c2,c3,c4,c5,c6,c7,z1,z2,z3,z4,z5,hB,hE];rfl,k-1,by omega,?_⟩
        simp only[go_sem,p8,p9,E,G,Y,J];exact⟨_,_,rfl,rfl,by omega,by omega,y4,y3,by omega,by omega⟩
      .by_cases hC:rest*1000000000+u2<g*v2
       .obtain⟨y1,y2⟩:=go (.inr hC)
        obtain⟨y3,y4⟩:=fin y1 y2
        by_cases hE:1000000000<=rest+v1
        .obtain⟨y5,y6⟩:=cut y1 y2 hE
         refine .inr ⟨_,by simp only[go_sem,p9,E,G,J,c8,e3,sU,sV,d1,d2,e1,d6,d9,a0,a1,a2,b0,e2,b2,b3,b4,c0,e7,c2,c3,c4,c5,c6,c7,z1,z2,z3,z4,z5,hB,hC,hE];rfl,by simp,_,g-1,rfl,?_⟩;simp only[go_sem,p8,p9,E,G,Y,J];exact⟨by omega,y5,y4,y6⟩
        .refine .inl ⟨_,by simp only[go_sem,p9,E,G,J,c8,e3,sU,sV,d1,d2,e1,d6,d9,a0,a1,a2,b0,e2,b2,b3,b4,c0,e7,c2,c3,c4,c5,c6,c7,z1,z2,z3,z4,z5,hB,hC,hE];rfl,k-1,by omega,?_⟩
         simp only[go_sem,p8,p9,E,G,Y,J];exact⟨_,_,rfl,rfl,by omega,by omega,y4,y3,by omega,by omega⟩
       .refine .inr ⟨_,by simp only[go_sem,p9,E,G,J,c8,e3,sU,sV,d1,d2,e1,d6,d9,a0,a1,a2,b0,e2,b2,b3,b4,c0,e7,c2,c3,c4,c5,c6,c7,z1,z2,z3,z4,z5,hB,hC];rfl,by simp,_,g,rfl,?_⟩
        simp only[go_sem,p8,p9,E,G,Y,J,c8];refine⟨by omega,by omega,gh,?_⟩;exact atu (by omega) (by omega) (by decide) P0 (by omega) e4.1 xV m9 (xG n0) xU m8 hr (by omega)) (top / v1).toNat (by
      simp only[go_sem,p8,p9,E,G,Y,J];exact⟨_,_,rfl,rfl,by omega,s9,hi0,t4,m0,by omega⟩)
    have g4:bu≠nb:=by omega
    have f5:¬S=bu:=by omega
    obtain⟨lo,tt,k2,g5,PV,f6,z8,z9⟩:=atw (nx:=S+1) (L:=O-j) (n:=e+2) (g:=g) (by omega) sU sV g4 f3 f2 d7 (by omega) dU dW ⟨g0,gB⟩;rw[<- n3,vW,<- x1]at f6;have X0:0<=X:=by rw[eX];exact Za (dU.drop j)
    have n5:=alR sU lU (show j<O by omega);have n6:∀x,upd σ bu x S=some ⟨rep (j+1) [I 0]++Q.flatMap cI,1,true⟩:=fun x=>by rw[Zj _ _ f5];exact sq
    have n7:∀x,upd σ bu x nb=some ⟨P2.flatMap cI,1,true⟩:=fun x=>by rw[Zj _ _ (yu g4)];exact sV
    have n8:∀x y,upd (upd σ bu x) S y bu=x:=fun x y=>by rw[Zj _ _ (yu f5),Zi]
    have n9:∀x y,upd (upd σ bu x) S y nb=some ⟨P2.flatMap cI,1,true⟩:=fun x y=>by rw[Zk];exact n7 x
    have o0:∀x y,upd (upd σ bu x) S y 0=some ⟨[I s],1,true⟩:=fun x y=>by rw[Zk,Zk];exact s0
    have l1:(j:Int)<((O - (e+2):Nat):Int):=by omega
    have l2:j<(rep (j+1) [I 0]++Q.flatMap cI).length:=by rw[zo,fM];simp;omega
    have l3:=ZQ (n:=(j:Int) - 1);have w0:=ZQ (n:=g-1);have t7:g-1<1000000000:=by omega
    have jl:j<O - (e+2):=by omega
    have o2:j<=O - (e+2):=by omega
    have o3:j<j+1:=by omega
    have t8:e+2<O-j:=by omega
    rcases after_take (U:=U) (j:=j) g5 PV f6 gh gl dV s1 g0 X0 with ⟨g6,z1,z2⟩|⟨g6,g1,z3⟩
    .subst g6
     have dc:decide ((0:Int)<0)=false:=by decide
     rw[dc]at k2;have l4:=LQ j (I 0) (I g) (Q.flatMap cI);obtain⟨U',Q',g7,g8,w1,w2,w3,w4,w5,w6⟩:=Xt dU dQ lU d7 lQ x6 eX d3 g5 PV g0 gB z1 z2;rw[g7]at k2;rw[g8]at l4;refine⟨_,by simp only[go_sem,n5,qJ,p8,p9,E,G,Y,J,c8,k2,b0,l1,l2,l3,l4,n6];rfl,.inl ⟨_,rfl,j,o3,?_⟩⟩;simp only[go_sem,p8,p9,E,G,Y];exact⟨o2,U',Q',n8 _ _,n9 _ _,o0 _ _,rfl,w1,w2,w3,w4,w5,w6⟩
    .subst g6
     have dc:decide ((-1:Int)<0)=true:=by decide
     rw[dc]at k2;obtain⟨U1,t9,u0,⟨u5,u6⟩,u7,u9,ll⟩:=alT dU lU d7 g5 PV;rw[t9]at k2;obtain⟨o4,cc,k3,g9,o5,e8,_,_⟩:=aty (σ:=upd σ bu (some ⟨U1.flatMap cI,1,true⟩)) (nx:=S+1) (L:=O-j) (n:=e+2) (t:=-1) t8 (Zi _ _ _) (n7 _) g4 f3 f2 u5 (by omega) u7 u6 (by decide) dW;rw[u9,vW]at e8;obtain⟨v0,z4,z5⟩:=z3 o4 cc g9 o5 e8;subst v0;have v3:(-1:Int)+1=0:=by decide
     rw[v3,ll o4 g9,Zh]at k3;have v4:=alS (b:=bu) u0 (show j<O by omega);have l4:=LQ j (I 0) (I (g-1)) (Q.flatMap cI);obtain⟨U',Q',g7,g8,w1,w2,w3,w4,w5,w6⟩:=Xt dU dQ lU d7 lQ x6 eX d3 g9 o5 g1 t7 z4 z5;rw[g7]at k3;rw[g8]at l4;refine⟨_,by simp only[go_sem,n5,v4,qJ,p8,p9,E,G,Y,J,c8,k2,k3,w0,b0,l1,l2,l3,l4,n6];rfl,.inl ⟨_,rfl,j,o3,?_⟩⟩;simp only[go_sem,p8,p9,E,G,Y];exact⟨o2,U',Q',n8 _ _,n9 _ _,o0 _ _,rfl,w1,w2,w3,w4,w5,w6⟩) (O - (e+2)) (by
    clear hL;simp only[go_sem,q8,q9,g3];rw[<- s4];have v5:¬bu=S:=by omega
    have v6:¬nb=S:=by omega
    refine⟨rfl,rfl,dg (m*s)++[0],[],?_,?_,?_,by rw[Zi];simp,(oh _).snoc (by decide) (by decide),Dg.nil,by rw[zo];show ln (m*s)+1=O;omega,by simp,?_,?_⟩
    .rw[Zj _ _ v5];exact l9
    .rw[Zj _ _ v6];exact l7
    .exact l8
    .have A0:(dg (m*s)).length=ln (m*s):=rfl
     rw[vk (by omega),ZY,vZ,uS];have:=Zb ((oh (m*s)).drop (O - (e+2)));rw[zN,show(dg (m*s)).length - (O - (e+2))=e+1 by omega]at this;have h3:=qg (e+1);omega
    .rw[ZY,Zc];simp[vl])
 obtain⟨R,eR⟩:∃R:Nat,(R:Int)=vl U:=⟨(vl U).toNat,uY (Za dU)⟩;obtain⟨Qn,eQ⟩:∃Qn:Nat,(Qn:Int)=vl Q:=⟨(vl Q).toNat,uY (Za dQ)⟩;rw[<- eR,<- eQ,eV]at d3;rw[<- eR,eV]at c9;have o6:n*s*Qn+R=m*s:=by
  have h:((R+n*s*Qn:Nat):Int)=((m*s:Nat):Int):=by
   rw[Int.natCast_add,yh (n*s) Qn];exact d3
  have:=Int.ofNat_inj.mp h;omega
 have h4:R<n*s:=Int.ofNat_lt.mp c9;have h5:0<s:=by omega
 have hq:Qn=m / n:=by
  rw[<- Nat.mul_div_mul_right m n h5,<- o6,Nat.mul_add_div (Nat.mul_pos (by omega) h5),vF h4];rfl
 have hr:R=m%n*s:=by
  rw[<- Nat.mul_mod_mul_right,<- o6,Nat.mul_add_mod_self_left,wJ h4]
 have v7:R / s=m%n:=by rw[hr,Nat.mul_div_cancel _ h5]
 have lR:ln R<=1000002:=zL (gi dU eR.symm).2 (by omega);have A1:n*s<=m*s:=zC _ hle;have A2:ln R<=1000000:=by
  have h1:=jf (Nat.le_of_lt h4);rw[f1]at h1;omega
 obtain⟨v8,t3,o7⟩:=ahZ R s (by show ln R<=_;omega) (by omega) e9 (S+1);have v9:=lM (off:=0) (len:=ln (R / s)) 5 o7;have o9:=acJ (σ:=restrict e0 [bu]) (nx:=S+1) (b:=bu) (xs:=U) (by rw[fH];exact sU) (by unfold Short;omega);rw[CV (n:=R) dU eR.symm,lU,show(dg R).length=ln R from rfl]at o9;have pr:wI [bu] (S+1) (S+1) e0 (restrict e0 [bu])=e0:=by
  funext i;unfold wI restrict
  by_cases h:i=bu
  .subst h;simp
  .rw[sW (by simp only[xC,h,false_or];omega)]
 obtain⟨w7,w8⟩:=gi dU eR.symm;have d1:bu<S+1:=by omega
 have d0:0<S+1:=by omega
 have st1:strip e0 (6+1) (.rs bu 0 (ln R))=some (LI (dg R),[bu]):=by
  rw[aS,sU];simp only[zi,yQ,yX,yY,qR];rw[sS w8,w7,Dp];rfl
 obtain⟨d8,h6⟩:∃d8,d8=KG (S+1) (S+1+1) e0 v8 [S+1]:=⟨_,rfl⟩;have p0:d8 S=some ⟨Q.flatMap cI,1,true⟩:=by rw[h6,as5 (by omega)];exact sq
 have w9:d8 (S+1)=some ⟨(pad (R / s) (dg R).length).flatMap cI,1,true⟩:=by rw[h6,anj (by omega) (by omega) (by simp)];exact o7
 have p3:=acJ (σ:=d8) (nx:=S+1+1) (b:=S) (xs:=Q) p0 (by unfold Short;omega);rw[CV (n:=Qn) dQ eQ.symm,lQ,show(dg Qn).length=ln Qn from rfl]at p3;obtain⟨x0,x3⟩:=gi dQ eQ.symm;have x4:strip d8 (5+1) (.rs S 0 (ln Qn))=some (LI (dg Qn),[S]):=by
  rw[aS,p0];simp only[zi,yQ,yX,yY,qR];rw[sS x3,x0,Dp];rfl
 have x7:strip d8 (5+1) (.rs (S+1) 0 (ln (R / s)))=some (LI (dg (R / s)),[S+1]):=by
  obtain⟨x8,x9⟩:=gi (xs:=pad (R / s) (dg R).length) (n:=R / s) (TX _ _) (ah2 _ _ (Nat.lt_of_le_of_lt (xJ _ _) ahl));rw[aS,w9];simp only[zi,yQ,yX,yY,qR];rw[sS x9,x8,Dp];rfl
 have z0:(0:Int)<=0:=by decide
 have z1:(0:Int)<1:=by decide
 have z3:(0:Int).toNat=0:=id rfl;have y0:(bu==0)=false:=by rw[sQ];omega
 rw[<- hq,<- v7];simp only[go_sem,qJ,p8,p9,E,Y,sU,s0,o9,pr,d1,d0,st1,t3,v9,<- h6,p3,x4,x7,z0,z1,z3,y0]
theorem ah3(m:Nat)(h:ln m<=1000000):fn ZH conv ext 81 [LI (dg m)]=some (LI (dg m)):=aaL (dg m) (by show ln m<=_;omega)
theorem ah4(m n:Nat)(hm:ln m<=1000000)(S:n≠0)(hn:ln n<=1000000):fn ZH Ef IL 222 [LI (dg m),LI (dg n)]=some (.AP [LI (dg (m / n)),LI (dg (m%n))]):=by
 by_cases E:m<n
 .have G:=kN m n hm hn
  have k2:=ah3 m hm;have hc:A_ m n= -1:=by unfold A_;rw[sS E]
  have m1:(-1:Int)<0:=by decide
  rw[hc]at G;rw[vF E,wJ E,oO];rw[mM,nG [.tmp 4,.tmp 5] [15,16,17,25] func222]
  (simp only[go_sem,G,k2,m1])<;>rfl
 by_cases h2:2<=ln n
 .exact atA m n hm h2 (by omega)
 have hp:=jZ S;have J:n<1000000000:=by
  have:=(jg (n:=n) (k:=1)).mp (by omega);have e:bp 1=1000000000:=by decide
  rw[e]at this;omega
 have G:=kN m n hm hn;have hc:¬A_ m n<0:=by unfold A_;rw[sW E];split<;>decide
 obtain⟨Y,t3,O⟩:=ahZ m n hm S J 0;have a0:=lM (off:=0) (len:=ln (m / n)) 5 O;have hr:m%n<n:=vX _ (by omega);have k4:=aow (m%n) (by omega);have w1:=ZP (n:=((m%n:Nat):Int)) (by omega) (by omega);have z1:(0:Int)<1:=by decide
 have z2:(0:Int)<=0:=by decide
 have z3:(0:Int).toNat=0:=id rfl;obtain⟨a1,a2⟩:=gi (xs:=pad (m / n) (dg m).length) (n:=m / n) (TX _ _) (ah2 _ _ (Nat.lt_of_le_of_lt (xJ _ _) ahl));have st:strip (Cb 0 lI Y [0]) (5+1) (.rs 0 0 (ln (m / n)))=some (LI (dg (m / n)),[0]):=by
  rw[aS,jy (by decide) (by simp),O];simp only[zi,yQ,yX,yY,qR];rw[sS a2,a1,Dp];rfl
 rw[oU S J]at G⊢;have a3:fn ZH conv ext 221 [LI (dg m),.ts [I n] 1]=some (I (A_ m n)):=G
 rw[mM,nG [.tmp 4,.tmp 5] [15,16,17,25] func222];simp only[go_sem,a3,hc,z1,z2,z3,t3,a0,w1,k4,st]
abbrev ao0:List Nat:=[3,4,5,6,7,8,9,11,13,16,19,22,23,27,28,29,30,31,32,33,34,38,39,42,43,48,54,73,82,97,110,111,119,121,133,136,139,140,142,151,161,163,167,175,177,181,186,187,188,189,190,192,195,196,216,219,220,229,230,238,245,248]
def qI:FuncId->Conv:=fun f=>if f∈([]:List Nat)then .own else if f∈([186,187,216,219,139,140,142,175,177,151,181]:List Nat)then .inl else .Jo
noncomputable def Af:Ext:=fun f=>if f=222 then some (fun args σ nx=>ev ZH Ef IL 222 args σ nx)else if f∈ao0 then none else some fun args σ nx=>ev ZH conv ext f args σ nx
theorem ao1:Ky ZH Af:=fun f g h args σ nx v σ' nx' E=>by
 unfold Af at h
 split at h
 .rename_i G
  subst G;cases h;exact nC (by kernel_rfl) aoT 222 args σ nx v σ' nx' E
 .split at h
  .cases h
  .cases h
   exact nC (by kernel_rfl) ag6 f args σ nx v σ' nx' E
theorem fnL{f:FuncId}(h:(f==222||List.contains ao0 f)=false)(ts:List V):fn ZH qI Af f ts=fn ZH conv ext f ts:=by
 rw[uM]at h;have E:¬f=222:=fun e=>by subst e;simp at h
 have G:¬f∈ao0:=fun e=>by rw[List.contains_iff_mem.mpr e]at h;cases h.2
 rw[mM,mM,nD (g:=fun args σ nx=>ev ZH conv ext f args σ nx) (by unfold Af;rw[sW E,sW G])]
theorem mO(ts:List V):fn ZH qI Af 222 ts=fn ZH Ef IL 222 ts:=by
 rw[mM,mM,nD (g:=fun args σ nx=>ev ZH Ef IL 222 args σ nx) (by unfold Af;rw[sS rfl])]
abbrev jI(n:Nat):Prop:=∀ts:List V,fn ZH qI Af n ts=fn ZH conv ext n ts
theorem ao2:jI 10/\jI 12/\jI 14/\jI 15/\jI 17/\jI 18/\jI 20/\jI 21/\jI 24/\jI 25/\jI 26/\jI 35/\jI 36/\jI 37/\jI 40/\jI 41/\jI 44/\jI 45/\jI 46/\jI 47/\jI 49/\jI 51/\jI 52/\jI 53:=by and_intros<;>exact fnL rfl
theorem ao3:jI 56/\jI 57/\jI 58/\jI 59/\jI 60/\jI 61/\jI 62/\jI 63/\jI 64/\jI 65/\jI 66/\jI 67/\jI 68/\jI 69/\jI 70/\jI 71/\jI 72/\jI 74/\jI 75/\jI 76/\jI 77/\jI 78/\jI 79/\jI 80:=by and_intros<;>exact fnL rfl
theorem ao4:jI 81/\jI 83/\jI 84/\jI 85/\jI 86/\jI 87/\jI 88/\jI 89/\jI 90/\jI 91/\jI 92/\jI 93/\jI 94/\jI 95/\jI 96/\jI 98/\jI 99/\jI 100/\jI 101/\jI 102/\jI 103/\jI 104/\jI 105/\jI 106:=by and_intros<;>exact fnL rfl
theorem ao5:jI 107/\jI 108/\jI 109/\jI 112/\jI 113/\jI 114/\jI 115/\jI 116/\jI 117/\jI 118/\jI 120/\jI 122/\jI 123/\jI 124/\jI 125/\jI 126/\jI 127/\jI 128/\jI 129/\jI 130/\jI 131/\jI 132/\jI 134/\jI 135:=by and_intros<;>exact fnL rfl
theorem ao6:jI 138/\jI 141/\jI 143/\jI 144/\jI 145/\jI 146/\jI 147/\jI 148/\jI 149/\jI 150/\jI 152/\jI 153/\jI 154/\jI 155/\jI 156/\jI 157/\jI 158/\jI 159/\jI 160/\jI 162/\jI 164/\jI 165/\jI 166/\jI 168:=by and_intros<;>exact fnL rfl
theorem ao7:jI 169/\jI 170/\jI 171/\jI 172/\jI 173/\jI 174/\jI 176/\jI 178/\jI 179/\jI 180/\jI 182/\jI 183/\jI 184/\jI 185/\jI 191/\jI 193/\jI 194/\jI 197/\jI 198/\jI 199/\jI 200/\jI 201/\jI 202/\jI 203:=by and_intros<;>exact fnL rfl
theorem ao8:jI 204/\jI 205/\jI 206/\jI 207/\jI 208/\jI 209/\jI 210/\jI 211/\jI 212/\jI 213/\jI 214/\jI 215/\jI 217/\jI 218/\jI 221/\jI 223/\jI 224/\jI 225/\jI 226/\jI 227/\jI 228/\jI 231/\jI 232/\jI 233:=by and_intros<;>exact fnL rfl
theorem ao9:jI 234/\jI 235/\jI 236/\jI 237/\jI 239/\jI 240/\jI 241/\jI 242/\jI 243/\jI 244/\jI 246/\jI 247/\jI 249/\jI 250/\jI 251:=by and_intros<;>exact fnL rfl
abbrev aI(n:Nat):Prop:=qI n= .Jo
abbrev D8(n:Nat):Prop:=qI n= .inl
theorem ao_:aI 6/\aI 8/\aI 9/\aI 10/\aI 11/\aI 12/\aI 13/\aI 14/\aI 15/\aI 17/\aI 18/\aI 20/\aI 21/\aI 24/\aI 25/\aI 26/\aI 27/\aI 28/\aI 31/\aI 32/\aI 33/\aI 34/\aI 35/\aI 36:=by and_intros<;>exact rfl
theorem apa:aI 37/\aI 38/\aI 39/\aI 40/\aI 41/\aI 42/\aI 43/\aI 44/\aI 45/\aI 46/\aI 47/\aI 48/\aI 49/\aI 51/\aI 52/\aI 53/\aI 54/\aI 56/\aI 57/\aI 58/\aI 59/\aI 60/\aI 61/\aI 62:=by and_intros<;>exact rfl
theorem apb:aI 63/\aI 64/\aI 65/\aI 66/\aI 67/\aI 68/\aI 69/\aI 70/\aI 71/\aI 72/\aI 73/\aI 74/\aI 75/\aI 76/\aI 77/\aI 78/\aI 79/\aI 80/\aI 81/\aI 82/\aI 83/\aI 84/\aI 85/\aI 86:=by and_intros<;>exact rfl
theorem apc:aI 87/\aI 88/\aI 89/\aI 90/\aI 91/\aI 92/\aI 93/\aI 94/\aI 95/\aI 96/\aI 97/\aI 98/\aI 99/\aI 100/\aI 101/\aI 102/\aI 103/\aI 104/\aI 105/\aI 106/\aI 107/\aI 108/\aI 109/\aI 110:=by and_intros<;>exact rfl
theorem apd:aI 111/\aI 112/\aI 113/\aI 114/\aI 115/\aI 116/\aI 117/\aI 118/\aI 119/\aI 120/\aI 121/\aI 122/\aI 123/\aI 124/\aI 125/\aI 126/\aI 127/\aI 128/\aI 129/\aI 130/\aI 131/\aI 132/\aI 133/\aI 134:=by and_intros<;>exact rfl
theorem ape:aI 135/\aI 136/\aI 138/\D8 139/\D8 140/\aI 141/\D8 142/\aI 143/\aI 144/\aI 145/\aI 146/\aI 147/\aI 148/\aI 149/\aI 150/\D8 151/\aI 152/\aI 153/\aI 154/\aI 155/\aI 156/\aI 157/\aI 158/\aI 159:=by and_intros<;>exact rfl
theorem apf:aI 160/\aI 161/\aI 162/\aI 163/\aI 164/\aI 165/\aI 166/\aI 167/\aI 168/\aI 169/\aI 170/\aI 171/\aI 172/\aI 173/\aI 174/\D8 175/\aI 176/\D8 177/\aI 178/\aI 179/\aI 180/\D8 181/\aI 182/\aI 183:=by and_intros<;>exact rfl
theorem apg:aI 184/\aI 185/\D8 186/\D8 187/\aI 188/\aI 189/\aI 190/\aI 191/\aI 192/\aI 193/\aI 194/\aI 195/\aI 196/\aI 197/\aI 198/\aI 199/\aI 200/\aI 201/\aI 202/\aI 203/\aI 204/\aI 205/\aI 206/\aI 207:=by and_intros<;>exact rfl
theorem aph:aI 208/\aI 209/\aI 210/\aI 211/\aI 212/\aI 213/\aI 214/\aI 215/\D8 216/\aI 217/\aI 218/\D8 219/\aI 220/\aI 221/\aI 222/\aI 223/\aI 224/\aI 225/\aI 226/\aI 227/\aI 228/\aI 229/\aI 230/\aI 231:=by and_intros<;>exact rfl
theorem apj:aI 232/\aI 233/\aI 234/\aI 235/\aI 236/\aI 237/\aI 238/\aI 239/\aI 240/\aI 241/\aI 242/\aI 243/\aI 244/\aI 245/\aI 246/\aI 247/\aI 248/\aI 249/\aI 250/\aI 251:=by and_intros<;>exact rfl
attribute [go_sem] mO ao2 ao3 ao4 ao5 ao6 ao7 ao8 ao9
attribute [go_sem] ao_ apa apb apc apd ape apf apg aph apj
theorem ah5(m n:Nat):ln (m / n)<=ln m:=jf (xJ _ _)
theorem acL(m n:Nat)(hm:ln m<=1000000)(E:n≠0)(hn:ln n<=1000000):fn ZH qI Af 222 [LI (dg m),LI (dg n)]=some (.AP [LI (dg (m / n)),LI (dg (m%n))]):=by
 rw[mO,ah4 m n hm E hn]
theorem Xw(m n:Nat)(hm:ln m<=1000000)(hn:ln n<=1000000):fn ZH qI Af 220 [LI (dg m),LI (dg n)]=some (LI (dg (Nat.gcd m n))):=by
 have ho:=acL;rw[mM,nG [.tmp 4] [] func220];simp only[go_sem];generalize hL:dI _ _=y;obtain⟨r,rfl,T',rfl,E⟩:=jV hL (fun b st=>st.nx=0/\st.σ=lI/\ln b<=1000000/\∃a:Nat,ln a<=1000000/\st.T 0=LI (dg a)/\st.T 1=LI (dg b)/\Nat.gcd a b=Nat.gcd m n)
  (fun r=>∃T,r=(.exit 0,⟨T,lI,0⟩)/\T 0=LI (dg (Nat.gcd m n))) (by
   clear hL;rintro b ⟨T,σ,nx⟩ ⟨G,J,hb,a,ha,E,S,Y⟩;simp only at G J E S;subst G J
   by_cases hz:b=0
   .subst hz
    rw[oO]at S;have a0:T 1= .ts [] 0:=S;have f0:¬(0:Int)<0:=by decide
    rw[Nat.gcd_zero_right]at Y;exact .inr ⟨_,by simp only[go_sem,a0,f0];rfl,by simp,_,rfl,by simp only[go_sem,E,Y]⟩
   .have f0:(0:Int)<((dg b).length:Int):=by have:=List.length_pos_iff.mpr (oV hz);omega
    have k1:=ho a b ha hz hb;rw[mO]at k1;have O:a%b<b:=vX _ (by omega);refine .inl ⟨_,by simp only[go_sem,E,S,f0,k1];rfl,a%b,O,?_⟩;simp only[go_sem];refine⟨zL (jf (Nat.le_of_lt O)) hb,b,hb,rfl,?_⟩;rw[<- Y,Nat.gcd_comm a b,Nat.gcd_rec b a,Nat.gcd_comm]) n ⟨rfl,rfl,hn,m,hm,by simp only[go_sem],by simp only[go_sem],rfl⟩
 simp only[go_sem,E]
theorem ah6(x y:Int):AL (decide (x<0) !=decide (y<0)) (x.natAbs / y.natAbs)=x.tdiv y:=by
 obtain⟨a,ha|ha⟩:=Int.eq_nat_or_neg x<;>obtain⟨b,hb|hb⟩:=Int.eq_nat_or_neg y<;>subst ha hb
 .have E:decide ((a:Int)<0)=false:=by simp
  have G:decide ((b:Int)<0)=false:=by simp
  rw[E,G,wz,wz];unfold AL;simp[Int.ofNat_tdiv]
 .by_cases h:b=0
  .subst h;simp[AL]
  .have E:decide ((a:Int)<0)=false:=by simp
   have G:decide (-(b:Int)<0)=true:=by simp;omega
   rw[E,G,wz,wC,wz,Int.tdiv_neg];unfold AL;simp[Int.ofNat_tdiv]
 .by_cases h:a=0
  .subst h;simp[AL]
  .have E:decide (-(a:Int)<0)=true:=by simp;omega
   have G:decide ((b:Int)<0)=false:=by simp
   rw[E,G,wz,wC,wz,Int.neg_tdiv];unfold AL;simp[Int.ofNat_tdiv]
 .by_cases h:a=0
  .subst h;simp[AL]
  .by_cases hb:b=0
   .subst hb;simp[AL]
   .have E:decide (-(a:Int)<0)=true:=by simp;omega
    have G:decide (-(b:Int)<0)=true:=by simp;omega
    rw[E,G,wC,wC,wz,wz,Int.neg_tdiv,Int.tdiv_neg,Int.neg_neg];unfold AL;simp[Int.ofNat_tdiv]
theorem N7(x y:Int)(J:ln x.natAbs<=1000000)(O:ln y.natAbs<=1000000)(S:y≠0):fn ZH qI Af 238 [.agg (cZ x),.agg (cZ y)]=some (.agg (cZ (x.tdiv y))):=by
 have E:=acL x.natAbs y.natAbs J (by omega) O;rw[mO]at E;have G:=kF (decide (x<0) !=decide (y<0)) (x.natAbs / y.natAbs);rw[ah6]at G;have e:∀a b:Bool,(!a==b)=(a !=b):=by decide
 unfold cZ at *;rw[mM,nG [.cell 4 145] [] func238];simp only[go_sem,E,G,e]
theorem alV(n:Nat)(hn:ln n<=1000000):fn ZH conv ext 221 [LI (dg n),.ts [I 1] 1]=some (I (A_ n 1)):=by
 have:=kN n 1 hn (by show ln 1<=_;rw[show ln 1=1 by unfold ln;rw[oU (d:=1) (by decide) (by decide)];rfl];decide);rw[oU (d:=1) (by decide) (by decide)]at this;exact this
theorem alX(neg:Bool)(m n:Nat)(hm:ln m<=1000000)(h0:n≠0)(hn:ln n<=1000000) :
  fn ZH qI Af 188 [.agg [Bo (neg && decide (0<(dg m).length)),LI (dg m)],LI (dg n)]=some (.tp (aeM neg m n) 0):=by
 have J:Nat.gcd m n≠0:=fun e=>h0 (u_ e)
 have S:Nat.gcd m n<=n:=Nat.gcd_le_right _ (by omega);have E:ln (Nat.gcd m n)<=1000000:=zL (jf S) hn;have Y:=Xw m n hm hn;have k2:=alV (Nat.gcd m n) E;have k3:=acL m (Nat.gcd m n) hm J E;have k4:=acL n (Nat.gcd m n) hn J E;rw[mO]at k3 k4;have k5:=fun b=>acj b (dg (m / Nat.gcd m n))
 have hc:=ak7 (n:=Nat.gcd m n);unfold aeM;rw[mM,nG [.tmp 4] [] func188]
 by_cases O:m=0
 .subst O
  rw[Nat.gcd_zero_left,Nat.zero_div,Nat.div_self (by omega),oO,oU (d:=1) (by decide) (by decide)]
  (simp only[go_sem])<;>rfl
 .have lz:(((dg m).length:Int)==0)=false:=by rw[sQ];have:=rF (oV O);omega
  have lp:0<(dg m).length:=List.length_pos_iff.mpr (oV O);have a0:m / Nat.gcd m n≠0:=by
   have:=Nat.div_pos (Nat.gcd_le_left n (Nat.pos_of_ne_zero O)) (by omega);omega
  have lq:0<(dg (m / Nat.gcd m n)).length:=List.length_pos_iff.mpr (oV a0)
  by_cases G:Nat.gcd m n=1
  .rw[sO G]at hc
   simp only[G,x9]at Y k2 hc⊢
   (simp only[go_sem,lz,lp,Y,k2,hc])<;>rfl
  .rw[sN G]at hc
   (simp only[go_sem,lz,lp,lq,Y,k2,hc,k3,k4,k5])<;>rfl
theorem N8(z:Int)(d:Nat)(G:ln z.natAbs<=1000000)(E:d≠0)(J:ln d<=1000000):fn ZH qI Af 188 [.agg (cZ z),LI (dg d)]=some (.tp (cQ (mkRat z d)) 0):=by
 have k:=alX (decide (z<0)) z.natAbs d G E J;rw[<- aaY,dB,<- ahp z E]at k;exact k
def Ln(k:Nat)(q:Rat):Prop:=ln q.num.natAbs<=k/\ln q.den<=k
theorem Ln.mono{k l:Nat}{q:Rat}(h:Ln k q)(E:k<=l):Ln l q:=⟨zL h.1 E,zL h.2 E⟩
theorem jc{x y:Rat}{k l:Nat}(h:Ln k x)(E:Ln l y):ln (x.num*y.den).natAbs<=k+l:=by
 rw[uX,wz];have:=je x.num.natAbs y.den;have:=h.1;have:=E.2;omega
theorem N9{x y:Rat}{k l:Nat}(h:Ln k x)(E:Ln l y):ln (x.den*y.den)<=k+l:=by
 have:=je x.den y.den;have:=h.2;have:=E.2;omega
theorem IQ(x y:Int):ln (x+y).natAbs<=max (ln x.natAbs) (ln y.natAbs)+1 :=
 zL (jf (Int.natAbs_add_le x y)) (aoB _ _)
theorem acM(x y:Int):ln (x-y).natAbs<=max (ln x.natAbs) (ln y.natAbs)+1:=by
 have:=IQ x (-y);rw[wC,<- Int.sub_eq_add_neg]at this;exact this
theorem ah7(x y:Rat)(E:Ln 1000 x)(G:Ln 1000 y):fn ZH qI Af 189 [.tp (cQ x) 0,.tp (cQ y) 0]=some (.tp (cQ (x+y)) 0):=by
 have n1:=jc E G;have n2:=jc G E;have n3:=IQ (x.num*y.den) (y.num*x.den);have O:=Iu x y.den (by have:=E.1;omega) (by have:=G.2;omega);have S:=Iu y x.den (by have:=G.1;omega) (by have:=E.2;omega);have Y:=aho (x.num*y.den) (y.num*x.den) (by omega) (by omega);have k4:=LU x.den y.den (by have:=E.2;omega) (by have:=G.2;omega);have J:=N8 (x.num*y.den+y.num*x.den) (x.den*y.den) (by omega) (dd0 x y) (by have:=N9 E G;omega);rw[<- Rat.add_def']at J;unfold cQ at *;unfold cZ at *;rw[mM,nG [.tmp 4] [] func189];simp only[go_sem,O,S,Y,k4,J]
theorem acN(x y:Rat):x*y=mkRat (AL (decide (x.num<0) !=decide (y.num<0)) (x.num.natAbs*y.num.natAbs)) (x.den*y.den):=by
 have e:AL (decide (x.num<0) !=decide (y.num<0)) (x.num.natAbs*y.num.natAbs)=x.num*y.num:=by
  have J:=dB x.num;have O:=dB y.num
  conv=>rhs;rw[<- J,<- O]
  unfold AL
  by_cases E:x.num<0<;>by_cases G:y.num<0
  .rw[sO E,sO G,sW (by decide),sS rfl,sS rfl,Int.neg_mul_neg,yh]
  .rw[sO E,sN G,sS (by decide),sS rfl,sW (by decide),Int.neg_mul,yh]
  .rw[sN E,sO G,sS (by decide),sW (by decide),sS rfl,Int.mul_neg,yh]
  .rw[sN E,sN G,sW (by decide),sW (by decide),sW (by decide),yh]
 rw[e,Rat.mul_def']
theorem acO(x y:Rat)(E:Ln 1000 x)(G:Ln 1000 y):fn ZH qI Af 190 [.tp (cQ x) 0,.tp (cQ y) 0]=some (.tp (cQ (x*y)) 0):=by
 have Y:ln (x.num*y.num).natAbs<=2000:=by
  rw[uX];have:=je x.num.natAbs y.num.natAbs;have:=E.1;have:=G.1;omega
 have O:=kP x.num y.num (by have:=E.1;omega) (by have:=G.1;omega);have S:=LU x.den y.den (by have:=E.2;omega) (by have:=G.2;omega);have J:=N8 (x.num*y.num) (x.den*y.den) (by omega) (dd0 x y) (by have:=N9 E G;omega);rw[<- Rat.mul_def']at J;unfold cQ at *;unfold cZ at *;rw[mM,nG [.tmp 4] [] func190];simp only[go_sem,O,S,J]
def FM(q:Rat):Option Rat:=if ln q.num.natAbs<=24/\ln q.den<=24 then some q else none
theorem ae_{q:Rat}(h:Ln 24 q):FM q=some q:=sS h
theorem atG(q:Rat)(h:Ln 100000 q):fn ZH conv ext 228 [.tp (cQ q) 0]=some (pQ (FM q)):=by
 have hb:((dg q.num.natAbs).length:Int)<=100000:=Int.ofNat_le.mpr h.1;have O:((dg q.den).length:Int)<=100000:=Int.ofNat_le.mpr h.2;unfold FM;rw[mM,nG [.tmp 2] [] func228]
 by_cases E:ln q.num.natAbs<=24
 .have c1:¬(24:Int)<((dg q.num.natAbs).length:Int):=by unfold ln at E;omega
  by_cases G:ln q.den<=24
  .have J:¬(24:Int)<((dg q.den).length:Int):=by unfold ln at G;omega
   rw[sS ⟨E,G⟩];unfold cQ pQ
   (simp only[go_sem,c1,J])<;>rfl
  .have J:(24:Int)<((dg q.den).length:Int):=by unfold ln at G;omega
   rw[sW fun h=>G h.2];unfold cQ pQ
   (simp only[go_sem,c1,J])<;>rfl
 .have c1:(24:Int)<((dg q.num.natAbs).length:Int):=by unfold ln at E;omega
  rw[sW fun h=>E h.1];unfold cQ pQ
  (simp only[go_sem,c1])<;>rfl
open Go.Lp
abbrev Ht(b:Bool):List V:=[Bo b]
def abe(x:List Int):List V:=[LL cZ x]
def Ce(B:List Nat):List Int:=B.map fun(n:Nat)=>(n:Int)
def Xx(D:TZ)(N:Nat):List V:=[LL abe D.R,Bo (decide (D.Ba<0)),LI (dg D.Ba.natAbs),LI (Ce D.B),I N,LL Ht D.fr]
def ah8(D:TZ)(N:Nat):V:=.tp (Xx D N) 0
structure Xy (D:TZ) (N:Nat):Prop where
 row:∀x∈D.R,x.length=N+1
 Bg:D.B.length=D.R.length
 Gn:D.R.length<=1000
 Xz:D.fr.length=N
 sz:N<=1000
 big:∀i j,i<D.R.length->j<=N->ln (en D.R i j).natAbs<=50
 Ba:ln D.Ba.natAbs<=50
 inB:∀i,i<D.R.length->D.B.getD i 0<N
theorem aB(B:List Nat):(Ce B).length=B.length:=by simp[Ce]
theorem aC{B:List Nat}{i:Nat}(h:i<B.length):(Ce B)[i]'(by rw[aB];exact h)=((B.getD i 0:Nat):Int):=by
 simp only[Ce,yB];rw[zx,zy h];rfl
theorem N_(o:Nat->Int)(k:Nat)(x:List Int)(b:Nat):∀(R:List (List Int)) (B:List Nat),R.length=B.length->Ee o k (R++[x]) (B++[b])=Ee o k R B-x.getD k 0*o b
 |[],[],_=>by show(0:Int) - _=0 - _;rfl
 |[],_ :: _,h=>by simp at h
 |_ :: _,[],h=>by simp at h
 |y :: R,c :: B,h=>by
  show Ee o k (R++[x]) (B++[b]) - _=Ee o k R B - _ - _;rw[N_ o k x b R B (by simpa using h)];omega
theorem abf(o:Nat->Int)(k:Nat){R:List (List Int)}{B:List Nat}{i:Nat}(h:i<R.length)(E:B.length=R.length) :
  Ee o k (R.take (i+1)) (B.take (i+1))=Ee o k (R.take i) (B.take i) - en R i k*o (B.getD i 0):=by
 rw[yN,yN,zy h,zy (by omega)];simp only[Option.toList];rw[N_ _ _ _ _ _ _ (by rw[zh,zh,E])];congr 1;have G:R[i].getD k 0=en R i k:=by unfold en;rw[dS h]
 have J:B[i]'(by omega)=B.getD i 0:=by rw[zx,zy (by omega)];rfl
 rw[G,J]
theorem jd(x y:Int):ln (x*y).natAbs<=ln x.natAbs+ln y.natAbs:=by rw[uX];exact je _ _
theorem Oa(z:Int):(Ak z 0==0)=decide (z=0):=by
 unfold Ak
 by_cases h:z<0
 .rw[sS h,sN (by omega)];rfl
 .rw[sW h]
  by_cases E:z=0
  .rw[sS E,sO E];rfl
  .rw[sW E,sN E];rfl
theorem TY(z:Int):(Ak z 0 !=0)= !decide (z=0):=by rw[<- Oa];rfl
theorem pV(z:Int):Ak z 0<=0↔¬0<z:=by
 unfold Ak
 by_cases h:z<0
 .rw[sS h];constructor
  .intro _;omega
  .intro _;decide
 .rw[sW h]
  by_cases E:z=0
  .rw[sS E];constructor
   .intro _;omega
   .intro _;decide
  .rw[sW E];constructor
   .intro h;exact absurd h (by decide)
   .intro _;omega
theorem cmp_neg(z:Int):Ak z 0<0↔z<0:=by
 unfold Ak
 by_cases h:z<0
 .rw[sS h];constructor
  .intro _;exact h
  .intro _;decide
 .rw[sW h]
  by_cases E:z=0
  .rw[sS E];constructor
   .intro h;exact absurd h (by decide)
   .intro _;omega
  .rw[sW E];constructor
   .intro h;exact absurd h (by decide)
   .intro _;omega
theorem qL(z:Int):(cZ z).length=2:=rfl
theorem T_(z:Int):(cZ z).take 2=cZ z:=rfl
theorem XA(z:Int):(cZ z).all pI=true:=rfl
theorem XB(a b:Int):patch (cZ a) 0 (cZ b)=cZ b:=rfl
theorem XC(σ:Store)(d:Nat)(z:Int):stripL (strip σ d) (cZ z)=some (cZ z,[]):=by
 unfold cZ;rw[au,aQ,au,aN,aZ];rfl
theorem qM(σ:Store)(d:Nat)(q:Rat):stripL (strip σ d) (cQ q)=some (cQ q,[]):=by
 unfold cQ;rw[au,aQ,au,aN,au,aN,aZ];rfl
attribute [go_sem] XC qM
theorem Ob{R:List (List Int)}{i:Nat}(h:i<R.length):(R.flatMap abe)[i]?=some (LL cZ (DZ R i)):=by
 have:=cu (fun x=>LL cZ x) R i h;rw[dS h];exact this
theorem qF{R:List (List Int)}{i j n:Nat}(hn:∀x∈R,x.length=n)(h:i<R.length)(E:j<n):(((DZ R i).flatMap cZ).drop (j*2)).take 2=cZ (en R i j):=by
 have G:(DZ R i).length=n:=by rw[dS h];exact hn _ (zu h)
 rw[d_ qL (DZ R i) j (by omega)];unfold en;rw[zx,zy (by omega)];rfl
theorem anr(D:TZ)(N:Nat)(h:Xy D N)(o:List Int)(ho:o.length=N)(a7:∀x∈o,-1000000<=x/\x<=1000000)(k:Nat)(hk:k<N) :
  fn ZH conv ext 217 [ah8 D N,LI o,I k]=some (I (Ak (BF D (fun j=>o.getD j 0) k) 0)):=by
 have hN:=h.sz;have a6:∀j (hj:j<o.length),o[j]=o.getD j 0:=fun j hj=>by rw[zx,zy hj];rfl
 have ob:∀j,j<N->-1000000<=o.getD j 0/\o.getD j 0<=1000000:=fun j hj=>by rw[<- a6 j (by omega)];exact a7 _ (zu (by omega))
 have a0:∀j,j<N->ln (o.getD j 0).natAbs<=1:=fun j hj=>jY (by have:=ob j hj;omega)
 have a1:=jD k;have a2:(k:Int)<(o.length:Int):=by omega
 have a3:=AZ o k (by omega);have a4:=idx (xs:=o) (k:=k) (by omega);rw[a6 k (by omega)]at a4;have b2:=ob k hk;have k1:=kM (o.getD k 0) (by omega) (by omega);have k2:=kP D.Ba (o.getD k 0) (by have:=h.Ba;omega) (by have:=a0 k hk;omega);have tl:(Ce D.B).length=D.R.length:=by rw[aB];exact h.Bg
 unfold ah8 Xx;rw[mM,nG [.tmp 6] [1,6] func217];unfold cZ at k1 k2;simp only[go_sem,a1,a2,a3,a4,k1,k2];generalize hL:dI _ _=y
 obtain⟨r,rfl,T',σ',nx',b,rfl,Y,E⟩:=pF hL D.R.length (fun i st=>st.T 0= .tp (Xx D N) 0/\st.T 1=LI o/\st.T 2=I k/\st.T 23=LI (Ce D.B)/\st.T 24=I D.R.length/\st.T 25=I i/\st.T 7= .rp 0 0/\0<st.nx /\
   ∃g,st.σ 0=some ⟨cZ g,0,true⟩/\g=D.Ba*o.getD k 0+Ee (fun j=>o.getD j 0) k (D.R.take i) (D.B.take i)/\ln g.natAbs<=60+i)
  (fun r=>∃T σ nx b,r=(.exit 0,⟨T,σ,nx⟩)/\T 7= .rp b 0/\σ b=some ⟨cZ (BF D (fun j=>o.getD j 0) k),0,true⟩) (by
   clear hL;rintro i ⟨T,σ,nx⟩ hi ⟨h0,h1,h2,J,G,O,Y,S,g,E,hg,a8⟩;simp only at h0 h1 h2 J G O Y S E;have hb:=h.inB i hi;have f1:(i:Int)<(D.R.length:Int):=by omega
   have f2:=jD i;have f3:=ZQ (n:=(i:Int)+1) (by have:=h.Gn;omega) (by have:=h.Gn;omega);have f5:=AZ (Ce D.B) i (by omega);have f6:=idx (xs:=Ce D.B) (k:=i) (by omega);rw[aC (by have:=h.Bg;omega)]at f6;obtain⟨b,eb⟩:∃b,b=D.B.getD i 0:=⟨_,rfl⟩;rw[<- eb]at f6 hb;have f7:=jD b;have f8:(b:Int)<(o.length:Int):=by omega
   have f9:=idx (xs:=o) (k:=b) (by omega);rw[a6 b (by omega)]at f9;have b3:=ob b hb;have r1:=Ob hi;have r2:=bg (c:=abe) (s:=1) (fun _=>rfl) (by omega) D.R i hi;have r3:(DZ D.R i).length=N+1:=by rw[dS hi];exact h.row _ (zu hi)
   have r4:(k:Int)<((N+1:Nat):Int):=by omega
   have r5:=qF h.row hi (show k<N+1 by omega);have r6:=bg (c:=cZ) (s:=2) qL (by omega) (DZ D.R i) k (by omega);have r7:=bZ (c:=cZ) (s:=2) qL (DZ D.R i);rw[r3]at r7;have r8:k*2+2<=(N+1)*2:=by omega
   have s1:=kG (en D.R i k);have a5:=abf (fun j=>o.getD j 0) k hi h.Bg;rw[<- eb]at a5
   by_cases z1:o.getD b 0=0
   .have c1:(o.getD b 0 !=(0:Int))=false:=by rw[z1];rfl
    refine .inl ⟨_,by simp only[go_sem,h0,h1,h2,J,G,O,Y,E,f1,f2,f3,f5,f6,f7,f8,f9,a3,c1,tl];rfl,?_⟩;simp only[go_sem,h0,h1,h2,J,G,Y,tl];refine⟨rfl,S,g,E,?_,by omega⟩;rw[hg,a5,z1];simp
   .have c1:(o.getD b 0 !=(0:Int))=true:=bne_iff_ne.mpr z1
    have c2:=TY (en D.R i k);have a9:=h.big i k hi (by omega);unfold Xx at h0
    by_cases z2:en D.R i k=0
    .rw[sO z2,vH]at c2
     refine .inl ⟨_,by simp only[go_sem,h0,h1,h2,J,G,O,Y,E,f1,f2,f3,f5,f6,f7,f8,f9,a1,a3,c1,c2,tl,r1,r2,r3,r4,r5,r6,r7,r8,s1];rfl,?_⟩;simp only[go_sem,h0,h1,h2,J,G,Y,tl];refine⟨rfl,rfl,S,g,E,?_,by omega⟩;rw[hg,a5,z2];simp
    .rw[sN z2,wu]at c2
     have k3:=kM (o.getD b 0) (by omega) (by omega);have k4:=kP (en D.R i k) (o.getD b 0) (by omega) (by have:=a0 b hb;omega);have hm:=jd (en D.R i k) (o.getD b 0);have hs:=acM g (en D.R i k*o.getD b 0);have b4:=h.Gn;have b5:=a0 b hb;have k5:=acr g (en D.R i k*o.getD b 0) (by omega) (by omega);have e1:=XA (g-en D.R i k*o.getD b 0);refine .inl ⟨_,by simp only[go_sem,h0,h1,h2,J,G,O,Y,E,f1,f2,f3,f5,f6,f7,f8,f9,a1,a3,c1,c2,tl,r1,r2,r3,r4,r5,r6,r7,r8,s1,k3,k4,k5,S,qL,e1,T_,XB];rfl,?_⟩;simp only[go_sem,h0,h1,h2,J,G,Y,tl];refine⟨rfl,rfl,S,_,rfl,?_,by omega⟩;rw[hg,a5];omega) (by
   clear hL;rintro ⟨T,σ,nx⟩ ⟨h0,h1,h2,J,G,O,Y,S,g,E,hg,a8⟩;simp only at h0 h1 h2 J G O Y S E;rw[zk (zq _),zk (Nat.le_of_eq h.Bg)]at hg;refine⟨_,by simp only[go_sem,G,O,zl];rfl,by simp,_,_,_,0,rfl,?_,?_⟩
   .simp only[go_sem,Y]
   .rw[E,hg];rfl) (by
   simp only[go_sem,tl];refine⟨rfl,_,rfl,by simp[Ee],?_⟩;have:=jd D.Ba (o.getD k 0);have:=a0 k hk;have:=h.Ba;omega)
 have k9:=kG (BF D (fun j=>o.getD j 0) k);simp only[go_sem,Y,E,qL,T_,zq,k9]
theorem XD{S E O G Y J:Int}(hr:0<G)(hi:0<E)(hj:0<J)(h1:S*G<O*E)(h2:O*J<=Y*G):S*J<Y*E:=by
 have e1:S*G*J<O*E*J:=t_ h1 hj;have e2:O*J*E<=Y*G*E:=zS h2 (xG hi);refine Int.lt_of_mul_lt_mul_right (a:=G) ?_ (xG hr);have e3:S*J*G=S*G*J:=by grind
 have e4:Y*E*G=Y*G*E:=by grind
 have e5:O*E*J=O*J*E:=by grind
 omega
theorem XE{Y E O J S G:Int}(hr:0<J)(hi:0<E)(hj:0<G)(h1:Y*J=O*E)(h2:O*G<=S*J):Y*G<=S*E/\(Y*G=S*E->O*G=S*J):=by
 have e3:Y*G*J=Y*J*G:=by grind
 have e4:S*E*J=S*J*E:=by grind
 have e5:O*E*G=O*G*E:=by grind
 have e6:Y*J*G=O*E*G:=by rw[h1]
 refine⟨?_,fun h=>?_⟩
 .refine Int.le_of_mul_le_mul_right (a:=J) ?_ hr
  have e2:O*G*E<=S*J*E:=zS h2 (xG hi);omega
 .have:O*G*E=S*J*E:=by rw[<- e4,<- h,e3,e6,e5]
  exact Int.eq_of_mul_eq_mul_right (by omega) this
def DU(D:TZ)(N k i:Nat)(r:Int):Prop :=
 (r= -1/\∀j,j<i->¬0<en D.R j k)\/∃r':Nat,r=r'/\r'<i/\0<en D.R r' k/\(∀j,j<i->0<en D.R j k->en D.R r' N*en D.R j k<=en D.R j N*en D.R r' k) /\
  ∀j,j<i->0<en D.R j k->en D.R r' N*en D.R j k=en D.R j N*en D.R r' k->D.B.getD r' 0<=D.B.getD j 0
theorem DU.skip{D:TZ}{N k i:Nat}{r:Int}(h:DU D N k i r)(hn:¬0<en D.R i k):DU D N k (i+1) r:=by
 rcases h with ⟨rfl,h⟩|⟨r',rfl,S,G,J,O⟩
 .exact .inl ⟨rfl,fun j E=>by
   by_cases e:j=i
   .subst e;exact hn
   .exact h j (by omega)⟩
 .exact .inr ⟨r',rfl,by omega,G,fun j E hp=>J j (by
   by_cases e:j=i
   .subst e;exact absurd hp hn
   .omega) hp,fun j E hp=>O j (by
   by_cases e:j=i
   .subst e;exact absurd hp hn
   .omega) hp⟩
theorem DU.first{D:TZ}{N k i:Nat}(h:DU D N k i (-1))(hp:0<en D.R i k):DU D N k (i+1) i:=by
 rcases h with ⟨_,h⟩|⟨r',e,_⟩
 .exact .inr ⟨i,rfl,by omega,hp,fun j G E=>by
   by_cases e:j=i
   .subst e;exact yD _
   .exact absurd E (h j (by omega)),fun j G E _=>by
   by_cases e:j=i
   .subst e;exact zq _
   .exact absurd E (h j (by omega))⟩
 .omega
theorem DU.less{D:TZ}{N k i r:Nat}(h:DU D N k i r)(hp:0<en D.R i k)(hc:en D.R i N*en D.R r k<en D.R r N*en D.R i k):DU D N k (i+1) i:=by
 rcases h with ⟨e,_⟩|⟨r',e,S,G,J,Y⟩
 .omega
 .have:r=r':=by omega
  subst this;refine .inr ⟨i,rfl,by omega,hp,fun j O E=>?_,fun j O E he=>?_⟩
  .by_cases e:j=i
   .subst e;exact yD _
   .exact xG (XD G hp E hc (J j (by omega) E))
  .by_cases e:j=i
   .subst e;exact zq _
   .have:=XD G hp E hc (J j (by omega) E)
    omega
theorem DU.same{D:TZ}{N k i r:Nat}(h:DU D N k i r)(hp:0<en D.R i k)(hc:en D.R i N*en D.R r k=en D.R r N*en D.R i k)(hB:D.B.getD i 0<D.B.getD r 0):DU D N k (i+1) i:=by
 rcases h with ⟨e,_⟩|⟨r',e,h1,G,J,O⟩
 .omega
 .have:r=r':=by omega
  subst this;refine .inr ⟨i,rfl,by omega,hp,fun j S E=>?_,fun j S E Y=>?_⟩
  .by_cases e:j=i
   .subst e;exact yD _
   .exact(XE G hp E hc (J j (by omega) E)).1
  .by_cases e:j=i
   .subst e;exact zq _
   .have:=O j (by omega) E ((XE G hp E hc (J j (by omega) E)).2 Y)
    omega
theorem DU.keep{D:TZ}{N k i r:Nat}(h:DU D N k i r)(hc:en D.R r N*en D.R i k<=en D.R i N*en D.R r k)(J:en D.R r N*en D.R i k=en D.R i N*en D.R r k->D.B.getD r 0<=D.B.getD i 0):DU D N k (i+1) r:=by
 rcases h with ⟨e,_⟩|⟨r',e,h1,O,S,Y⟩
 .omega
 .have:r=r':=by omega
  subst this;refine .inr ⟨r,rfl,by omega,O,fun j hj E=>?_,fun j hj E G=>?_⟩
  .by_cases e:j=i
   .subst e;exact hc
   .exact S j (by omega) E
  .by_cases e:j=i
   .subst e;exact J G
   .exact Y j (by omega) E G
theorem abg(x y:Int):(x<y/\Ak x y= -1)\/(x=y/\Ak x y=0)\/(y<x/\Ak x y=1):=by
 unfold Ak
 by_cases h:x<y
 .exact .inl ⟨h,sS h⟩
 .rw[sW h]
  by_cases E:x=y
  .exact .inr (.inl ⟨E,sS E⟩)
  .exact .inr (.inr ⟨by omega,sW E⟩)
theorem ah9(D:TZ)(N:Nat)(h:Xy D N)(k:Nat)(hk:k<N) :
  ∃r,fn ZH conv ext 218 [ah8 D N,I k]=some (I r)/\DU D N k D.R.length r:=by
 have hN:=h.sz;have hR:=h.Gn;have a1:=jD k;have tl:(Ce D.B).length=D.R.length:=by rw[aB];exact h.Bg
 have a2:∀i,i<D.R.length->(DZ D.R i).length=N+1:=fun i hi=>by rw[dS hi];exact h.row _ (zu hi)
 have r4:(k:Int)<((N+1:Nat):Int):=by omega
 have r8:k*2+2<=(N+1)*2:=by omega
 have n4:(N:Int)<((N+1:Nat):Int):=by omega
 have n8:N*2+2<=(N+1)*2:=by omega
 have n0:=jD N;have m1:(-1:Int)<0:=by decide
 have m2:¬(1:Int)<0:=by decide
 have m3:¬(0:Int)<0:=by decide
 have m4:((0:Int)==0)=true:=by decide
 have m5:((1:Int)==0)=false:=by decide
 unfold ah8 Xx;rw[mM,nG [.tmp 4] [8,9] func218];simp only[go_sem];generalize hL:dI _ _=y;obtain⟨x,rfl,T',σ',nx',r,rfl,O,hb⟩:=pF hL D.R.length (fun i st=>st.T 0= .tp (Xx D N) 0/\st.T 1=I k/\st.T 12=LL abe D.R/\st.T 13=I D.R.length/\st.T 14=I i/\∃r,st.T 5=I r/\DU D N k i r)
  (fun x=>∃T σ nx r,x=(.exit 0,⟨T,σ,nx⟩)/\T 5=I r/\DU D N k D.R.length r) (by
   clear hL;rintro i ⟨T,σ,nx⟩ hi ⟨J,S,G,E,FH,r,O,hb⟩;simp only at J S G E FH O;have f1:(i:Int)<(D.R.length:Int):=by omega
   have f2:=jD i;have f3:=ZQ (n:=(i:Int)+1);have r1:=Ob hi;have r2:=bg (c:=abe) (s:=1) (fun _=>rfl) (by omega) D.R i hi;have r3:=a2 i hi;have r5:=qF h.row hi (show k<N+1 by omega);have r6:=bg (c:=cZ) (s:=2) qL (by omega) (DZ D.R i) k (by omega);have r7:=bZ (c:=cZ) (s:=2) qL (DZ D.R i);rw[r3]at r7;have s1:=kG (en D.R i k)
   by_cases hp:0<en D.R i k
   .have c1:¬Ak (en D.R i k) 0<=0:=fun e=>(pV _).mp e hp
    rcases hb with ⟨rfl,hb⟩|⟨r',rfl,a4,a5,a6,a7⟩
    .refine .inl ⟨_,by simp only[go_sem,J,S,G,E,FH,O,f1,f2,f3,r1,r2,r3,r4,r5,r6,r7,r8,s1,a1,c1,m1];rfl,?_⟩
     simp only[go_sem,J,S,G,E];exact⟨rfl,i,rfl,DU.first (.inl ⟨rfl,hb⟩) hp⟩
    .have a0:DU D N k i r':=.inr ⟨r',rfl,a4,a5,a6,a7⟩
     have Y:r'<D.R.length:=by omega
     have q0:¬(r':Int)<0:=by omega
     have q1:(r':Int)<(D.R.length:Int):=by omega
     have q2:(0:Int)<=(r':Int):=by omega
     have q3:=Ob Y;have q4:=a2 r' Y;have q5:=qF h.row Y (show k<N+1 by omega);have q6:=bg (c:=cZ) (s:=2) qL (by omega) (DZ D.R r') k (by omega);have q7:=bZ (c:=cZ) (s:=2) qL (DZ D.R r');rw[q4]at q7;have q8:=qF h.row hi (show N<N+1 by omega);have q9:=qF h.row Y (show N<N+1 by omega);have b1:=h.big i N hi (zq _);have b2:=h.big r' k Y (by omega);have b3:=h.big r' N Y (zq _);have b4:=h.big i k hi (by omega);have k1:=kP (en D.R i N) (en D.R r' k) (by omega) (by omega);have k2:=kP (en D.R r' N) (en D.R i k) (by omega) (by omega);have l1:=jd (en D.R i N) (en D.R r' k);have l2:=jd (en D.R r' N) (en D.R i k);have k3:=QF (en D.R i N*en D.R r' k) (en D.R r' N*en D.R i k) (by omega) (by omega);have t1:=AZ (Ce D.B) i (by omega);have t2:=idx (xs:=Ce D.B) (k:=i) (by omega);rw[aC (by have:=h.Bg;omega)]at t2;have t3:=idx (xs:=Ce D.B) (k:=r') (by omega);rw[aC (by have:=h.Bg;omega)]at t3;unfold Xx at J;rcases abg (en D.R i N*en D.R r' k) (en D.R r' N*en D.R i k)with ⟨hc,e⟩|⟨hc,e⟩|⟨hc,e⟩
     .rw[e]at k3
      refine .inl ⟨_,by simp only[go_sem,J,S,G,E,FH,O,f1,f2,f3,r1,r2,r3,r4,r5,r6,r7,r8,s1,a1,c1,q0,q1,q2,q3,q4,q5,q6,q7,q8,q9,n0,n4,n8,k1,k2,k3,m1];rfl,?_⟩;simp only[go_sem,J,S,G,E];exact⟨rfl,rfl,i,rfl,a0.less hp hc⟩
     .rw[e]at k3
      by_cases hB:D.B.getD i 0<D.B.getD r' 0
      .have a3:((D.B.getD i 0:Nat):Int)<((D.B.getD r' 0:Nat):Int):=by omega
       refine .inl ⟨_,by simp only[go_sem,J,S,G,E,FH,O,f1,f2,f3,r1,r2,r3,r4,r5,r6,r7,r8,s1,a1,c1,q0,q1,q2,q3,q4,q5,q6,q7,q8,q9,n0,n4,n8,k1,k2,k3,m3,m4,t1,t2,t3,tl,a3];rfl,?_⟩;simp only[go_sem,J,S,G,E];exact⟨rfl,rfl,i,rfl,a0.same hp hc hB⟩
      .have a3:¬((D.B.getD i 0:Nat):Int)<((D.B.getD r' 0:Nat):Int):=by omega
       refine .inl ⟨_,by simp only[go_sem,J,S,G,E,FH,O,f1,f2,f3,r1,r2,r3,r4,r5,r6,r7,r8,s1,a1,c1,q0,q1,q2,q3,q4,q5,q6,q7,q8,q9,n0,n4,n8,k1,k2,k3,m3,m4,t1,t2,t3,tl,a3];rfl,?_⟩;simp only[go_sem,J,S,G,E,O];exact⟨rfl,rfl,r',rfl,a0.keep (by omega) fun _=>by omega⟩
     .rw[e]at k3
      refine .inl ⟨_,by simp only[go_sem,J,S,G,E,FH,O,f1,f2,f3,r1,r2,r3,r4,r5,r6,r7,r8,s1,a1,c1,q0,q1,q2,q3,q4,q5,q6,q7,q8,q9,n0,n4,n8,k1,k2,k3,m2,m5];rfl,?_⟩;simp only[go_sem,J,S,G,E,O];exact⟨rfl,rfl,r',rfl,a0.keep (by omega) fun e=>by omega⟩
   .have c1:Ak (en D.R i k) 0<=0:=(pV _).mpr hp
    refine .inl ⟨_,by simp only[go_sem,J,S,G,E,FH,O,f1,f2,f3,r1,r2,r3,r4,r5,r6,r7,r8,s1,a1,c1];rfl,?_⟩;simp only[go_sem,J,S,G,E,O];exact⟨rfl,r,rfl,hb.skip hp⟩) (by
   clear hL;rintro ⟨T,σ,nx⟩ ⟨J,S,G,E,FH,r,O,hb⟩;simp only at J S G E FH O;refine⟨_,by simp only[go_sem,E,FH,zl];rfl,by simp,_,_,_,r,rfl,?_,hb⟩;simp only[go_sem,O]) (by
   simp only[go_sem];exact⟨rfl,-1,rfl,.inl ⟨rfl,fun j hj=>by omega⟩⟩)
 exact⟨r,by simp only[go_sem,O],hb⟩
def zc(p:Int×Bool):List V:=[Bo (decide (p.1<0)),if p.2=true then .nil else LI (dg p.1.natAbs)]
theorem ZL(p:Int×Bool):(zc p).length=2:=rfl
theorem acP(z:Int):zc (z,false)=cZ z:=rfl
theorem ZK(σ:Store)(d:Nat){p:Int×Bool}(h:p.2=true->p.1=0):stripL (strip σ d) (zc p)=some (cZ p.1,[]):=by
 obtain⟨z,b⟩:=p;cases b with
 |false=>exact XC σ d z
 |true=>
  have:z=0:=h rfl;subst this;unfold zc;rw[au,aQ,sS rfl,au,aT,aZ];show some ([Bo (decide ((0:Int)<0)),V.ts [] 0],[]++([]++[]))=_;unfold cZ;rw[Int.natAbs_zero,oO];rfl
theorem ah_(p:Int×Bool):(zc p).all pI=true:=by
 unfold zc;cases p.2<;>rfl
theorem ah'(a b:V)(p:Int×Bool):patch [a,b] 0 (zc p)=zc p:=rfl
theorem alY(p:Int×Bool):(zc p).take 2=zc p:=rfl
theorem ae'(a b:V)(z:Int):patch [a,b] 0 (cZ z)=cZ z:=rfl
attribute [go_sem] ZL ah_ ah' alY qL XA T_ XB ae'
def Es(σ:Store)(b:Nat)(E:List Int):Prop:=∃L:List (Int×Bool),σ b=some ⟨L.flatMap zc,2,true⟩/\L.map (·.1)=E/\∀p∈L,p.2=true->p.1=0
theorem Es.congr{σ σ':Store}{b:Nat}{E:List Int}(h:Es σ b E)(e:σ' b=σ b):Es σ' b E:=by
 obtain⟨L,G,J⟩:=h;exact⟨L,by rw[e];exact G,J⟩
theorem iD{α:Type}{c:α->List V}{s:Nat}(hc:∀x,(c x).length=s)(xs:List α)(k:Nat)(h:k<xs.length)(y:α):patch (xs.flatMap c) (k*s) (c y)=(xs.set k y).flatMap c:=by
 have E:=bZ hc xs;have hle:(k+1)*s<=xs.length*s:=zC _ h;rw[xq]at hle;rw[iG _ _ _ (by rw[E,hc];exact hle),hc];have G:(xs.flatMap c).take (k*s)=(xs.take k).flatMap c:=by
  have:=wM k xs
  conv=>lhs;rw[<- this]
  rw[zU,xM];rw[bZ hc,zh,yA (by omega)]
 have J:(xs.flatMap c).drop (k*s+s)=(xs.drop (k+1)).flatMap c:=by rw[<- xq];exact Qo hc xs (k+1)
 rw[G,J,uJ,sS h,zU,zT,z_]
def newR(W:List Int)(L:List (Int×Bool))(c:Nat):List (Int×Bool):=(W.take c).map (fun z=>(z,false))++L.drop c
theorem JU(W:List Int)(L:List (Int×Bool)):newR W L 0=L:=by simp[newR]
theorem jC{W:List Int}{L:List (Int×Bool)}(h:W.length=L.length){c:Nat}(hc:c<=L.length):(newR W L c).length=L.length:=by
 unfold newR;simp;omega
theorem XF{W:List Int}{L:List (Int×Bool)}(h:W.length=L.length){c:Nat}(hc:c<L.length):(newR W L c)[c]'(by rw[jC h (by omega)];exact hc)=L[c]:=by
 have:(newR W L c)[c]?=L[c]?:=by
  unfold newR;rw[zQ (by simp;omega),xX];congr 1;simp;omega
 rw[zy (by rw[jC h (by omega)];exact hc),zy hc]at this;exact Option.some.inj this
theorem Oc{W:List Int}{L:List (Int×Bool)}(h:W.length=L.length){c:Nat}(hc:c<L.length):(newR W L c).set c (W[c],false)=newR W L (c+1):=by
 unfold newR;have E:((W.take c).map fun z=>(z,false)).length=c:=by simp;omega
 rw[yC _ _ (by omega),E,yP,yU hc,vg,yN,zy (by omega),wX,z_];rfl
theorem QW{W:List Int}{L:List (Int×Bool)}(h:W.length=L.length):newR W L L.length=W.map fun z=>(z,false):=by
 unfold newR;rw[zk (by omega),xk (zq _),zK]
theorem XG{σ:Store}{b:Nat}{W:List Int}{L:List (Int×Bool)}(h:W.length=L.length)(hb:σ b=some ⟨(newR W L L.length).flatMap zc,2,true⟩):Es σ b W:=by
 refine⟨_,hb,?_,?_⟩
 .rw[QW h,List.map_map]
  exact List.map_id'' (fun _=>rfl) W
 .rw[QW h]
  intro p hp;obtain⟨z,_,rfl⟩:=List.mem_map.mp hp;intro e;cases e
structure DF (σ:Store) (bt br bb bf:Nat) (rb:List Nat) (D:TZ) (N:Nat):Prop where
 t:σ bt=some ⟨[.rs br 0 D.R.length,Bo (decide (D.Ba<0)),LI (dg D.Ba.natAbs),.rs bb 0 D.R.length,I N,.rs bf 0 N],0,true⟩
 r:∃ex,σ br=some ⟨rb.map (fun b=>V.rs b 0 (N+1))++ex,1,true⟩
 row:∀i (h:i<rb.length),Es σ rb[i] (DZ D.R i)
 b:∃ex,σ bb=some ⟨(Ce D.B).flatMap cI++ex,1,true⟩
 f:σ bf=some ⟨D.fr.flatMap Ht,1,true⟩
 len:rb.length=D.R.length
 nd:(bt :: br :: bb :: bf :: rb).Nodup
theorem acQ{R:List (List Int)}{r k j:Nat}{b:Int}(h:j<R.length):DZ (BG R r k b) j=if j=r then DZ R j else ER (en R r k) (en R j k) b (DZ R j) (DZ R r):=by
 show(BG R r k b).getD j []=_;unfold BG;rw[zx,uK,zy h];simp only[zG,xK];rw[dS h]
 split
 .rfl
 .unfold en;rw[dS h]
theorem abh(p f b:Int){x y:List Int}(h:x.length=y.length):(ER p f b x y).length=x.length:=by unfold ER;rw[tq,h,Nat.min_self]
theorem abj(p f b:Int){x y:List Int}{c:Nat}(h:c<x.length)(E:c<y.length):(ER p f b x y)[c]'(by unfold ER;rw[tq];omega)=(x[c]*p-f*y[c]).tdiv b:=by
 unfold ER;rw[List.getElem_zipWith]
theorem QX{L:List (Int×Bool)}{E:List Int}(h:L.map (·.1)=E){c:Nat}(hc:c<E.length):∃G:c<L.length,(L[c]'G).1=E[c]:=by
 subst h;exact⟨by simpa using hc,by simp⟩
theorem nd4{bt br bb bf:Nat}{rb:List Nat}(h:(bt :: br :: bb :: bf :: rb).Nodup):bt≠br/\bt≠bb/\bt≠bf/\br≠bb/\br≠bf/\bb≠bf/\(∀b∈rb,b≠bt/\b≠br/\b≠bb/\b≠bf)/\rb.Nodup:=by
 simp only[xZ,zX,not_or]at h;obtain⟨⟨J,O,S,Y⟩,⟨h5,h6,h7⟩,⟨h8,h9⟩,E,G⟩:=h;refine⟨J,O,S,h5,h6,h8,fun b hb=>⟨fun e=>Y (e ▸ hb),fun e=>h7 (e ▸ hb),fun e=>h9 (e ▸ hb),fun e=>E (e ▸ hb)⟩,G⟩
theorem fU{rb:List Nat}{ex:List V}{n i:Nat}(h:i<rb.length):(rb.map (fun b=>V.rs b 0 n)++ex)[i]?=some (.rs rb[i] 0 n):=by
 rw[zV (by simpa using h),yc,zy h];rfl
def F7(R:List (List Int))(P:List (List Int))(i j:Nat):List Int:=if j<i then DZ P j else DZ R j
theorem aia{u p f v:Int}(hu:ln u.natAbs<=50)(hp:ln p.natAbs<=50)(E:ln f.natAbs<=50)(G:ln v.natAbs<=50) :
  ln (u*p).natAbs<=1000000/\ln (f*v).natAbs<=1000000/\ln (u*p-f*v).natAbs<=1000000:=by
 have J:=jd u p;have O:=jd f v;have S:=acM (u*p) (f*v);omega
theorem aib{σ:Store}{nx bt br bb bf:Nat}{rb:List Nat}{D:TZ}{N:Nat}(h:DF σ bt br bb bf rb D N)(hs:Xy D N)(e6:∀b∈bt :: br :: bb :: bf :: rb,b<nx){r k:Nat}(hr:r<D.R.length)(hk:k<N)(hp:en D.R r k≠0)(h6:D.Ba≠0) :
  ∃σ' nx',ev ZH qI Af 219 [.rp bt 0,I r,I k] σ nx=some (.AP [],σ',nx')/\DF σ' bt br bb bf rb (F6 D r k) N/\nx<=nx'/\∀b,b<nx->b≠bt->b≠bb->b∉rb->σ' b=σ b:=by
 obtain⟨n1,n2,n3,n4,n5,n6,n7,n8⟩:=nd4 h.nd;have hN:=hs.sz;have hR:=hs.Gn;obtain⟨PW,f6⟩:=h.r;obtain⟨L_,k7⟩:=h.b;have f7:=h.t;have hlen:=h.len;have Ua:=e6 bt (by simp);have Ub:=e6 br (by simp);have k8:=e6 bb (by simp);have k9:=e6 bf (by simp);have EU:∀j (J:j<rb.length),rb[j]<nx:=fun j J=>e6 _ (by simp[zu J])
 have f8:r<rb.length:=by omega
 obtain⟨bR,YI⟩:∃bR,bR=rb[r]:=⟨_,rfl⟩;have l2:bR<nx:=by rw[YI];exact EU r f8
 have nR:=n7 bR (by rw[YI];exact zu f8);obtain⟨Lr,h7,i9,m5⟩:=h.row r f8;rw[<- YI]at h7;have a0:∀j,j<D.R.length->(DZ D.R j).length=N+1:=fun j J=>by rw[dS J];exact hs.row _ (zu J)
 have m6:Lr.length=N+1:=by have:=congrArg List.length i9;rw[zO,a0 r hr]at this;exact this
 have ent:∀j c (J:j<D.R.length) (hc:c<N+1),(DZ D.R j)[c]'(by rw[a0 j J];exact hc)=en D.R j c:=fun j c J hc=>by
  unfold en;rw[zx,zy];rfl
 have e7:∀c (hc:c<N+1),(Lr[c]'(by omega)).1=en D.R r c:=fun c hc=>by
  obtain⟨_,e⟩:=QX i9 (c:=c) (by rw[a0 r hr];exact hc);rw[e,ent r c hr hc]
 have lz:∀c (hc:c<Lr.length),(Lr[c]).2=true->(Lr[c]).1=0:=fun c hc=>m5 _ (zu hc)
 have a1:=jD r;have a2:(r:Int)<(D.R.length:Int):=by omega
 have a3:=jD k;have a4:(k:Int)<((N+1:Nat):Int):=by omega
 have a5:=fU (ex:=PW) (n:=N+1) f8;rw[<- YI]at a5;have a6:=d_ (c:=zc) (s:=2) ZL Lr k (by omega);have a7:=bZ (c:=zc) (s:=2) ZL Lr;rw[m6]at a7;have a8:k*2+2<=(N+1)*2:=by omega
 obtain⟨sp,f9⟩:∃sp,sp=upd σ nx (some ⟨zc Lr[k],0,true⟩):=⟨_,rfl⟩;have c9:∀b,b<nx->sp b=σ b:=fun b hb=>by rw[f9,Zk]
 have j0:sp nx=some ⟨zc Lr[k],0,true⟩:=by rw[f9,Zi]
 have j1:=(c9 bt Ua).trans f7;have j2:=(c9 br Ub).trans f6;rw[nG [] [10,12,13] func219];simp only[go_sem,f7,f6,h7,a1,a2,a3,a4,a5,a6,a7,a8,ZL,Zh,<- f9,j1,j2];generalize hL:dI _ _=y;have P0:=gu D.R r k D.Ba
 obtain⟨x,rfl,T1,c5,nI,rfl,t0,E,G,t7,o5,d0,j3,JV⟩:=pF hL D.R.length (fun i st=>st.T 0= .rp bt 0/\st.T 1=I r/\st.T 2=I k/\st.T 6= .rs bR 0 (N+1)/\st.T 7= .rp nx 0/\st.T 30= .rs br 0 D.R.length/\st.T 31=I D.R.length/\st.T 32=I i/\nx<st.nx/\st.σ nx=some ⟨zc Lr[k],0,true⟩/\st.σ bR=some ⟨Lr.flatMap zc,2,true⟩ /\
   (∀j (J:j<rb.length),Es st.σ rb[j] (F7 D.R (BG D.R r k D.Ba) i j))/\∀b,b<nx->b∉rb->st.σ b=σ b)
  (fun x=>∃T σ' nx',x=(.exit 0,⟨T,σ',nx'⟩)/\T 0= .rp bt 0/\T 1=I r/\T 2=I k/\T 7= .rp nx 0/\nx<nx'/\σ' nx=some ⟨zc Lr[k],0,true⟩/\(∀j (J:j<rb.length),Es σ' rb[j] (DZ (BG D.R r k D.Ba) j))/\∀b,b<nx->b∉rb->σ' b=σ b) (by
   clear hL;rintro i ⟨T,σ',nx'⟩ hi ⟨t0,E,G,t6,t7,S,O,Y,b3,sn,sR,rows,frame⟩;simp only at t0 E G t6 t7 S O Y b3 sn;have f1:(i:Int)<(D.R.length:Int):=by omega
   have f2:=jD i;have f3:=ZQ (n:=(i:Int)+1);have b4:i<rb.length:=by omega
   obtain⟨bi,Fg⟩:∃bi,bi=rb[i]:=⟨_,rfl⟩;have o6:bi<nx:=by rw[Fg];exact EU i b4
   have ni:=n7 bi (by rw[Fg];exact zu b4);have f5:=fU (ex:=PW) (n:=N+1) b4;rw[<- Fg]at f5;have g0:σ' br=_:=(frame br Ub fun e=>(n7 br e).2.1 rfl).trans f6
   by_cases YG:i=r
   .have c1:((i:Int)==(r:Int))=true:=by rw[YG];simp
    refine .inl ⟨_,by simp only[go_sem,t0,E,G,t6,t7,S,O,Y,g0,f1,f2,f3,f5,c1];rfl,?_⟩;simp only[go_sem,t0,E,G,t6,t7,S,O];refine⟨rfl,b3,sn,sR,fun j J=>?_,frame⟩;have b9:=rows j J;unfold F7 at b9⊢
    by_cases c3:j<i
    .rw[sS c3]at b9
     rw[sS (by omega)];exact b9
    .rw[sW c3]at b9
     by_cases o7:j=i
     .rw[sS (by omega),acQ (by omega),sS (by omega)]
      exact b9
     .rw[sW (by omega)]
      exact b9
   .have c1:((i:Int)==(r:Int))=false:=by rw[sQ];omega
    have j4:bi≠bR:=fun e=>YG (by rw[Fg,YI]at e;exact(uV n8).mp e)
    obtain⟨Li,Uc,GZ,Ud⟩:=rows i b4;have g8:σ' bi=some ⟨Li.flatMap zc,2,true⟩:=by rw[Fg];exact Uc
    have e8:F7 D.R (BG D.R r k D.Ba) i i=DZ D.R i:=by unfold F7;rw[sW (by omega)]
    rw[e8]at GZ;have Lu:Li.length=N+1:=by have:=congrArg List.length GZ;rw[zO,a0 i hi]at this;exact this
    have h4:∀c (hc:c<N+1),(Li[c]'(by omega)).1=en D.R i c:=fun c hc=>by
     obtain⟨_,e⟩:=QX GZ (c:=c) (by rw[a0 i hi];exact hc);rw[e,ent i c hi hc]
    have iz:∀c (hc:c<Li.length),(Li[c]).2=true->(Li[c]).1=0:=fun c hc=>Ud _ (zu hc)
    have b6:=d_ (c:=zc) (s:=2) ZL Li k (by omega);have b7:=bZ (c:=zc) (s:=2) ZL Li;rw[Lu]at b7;obtain⟨s6,h8⟩:∃s6,s6=upd σ' nx' (some ⟨zc Li[k],0,true⟩):=⟨_,rfl⟩;have c4:∀b,b<nx'->s6 b=σ' b:=fun b hb=>by rw[h8,Zk]
    have m7:s6 nx'=some ⟨zc Li[k],0,true⟩:=by rw[h8,Zi]
    obtain⟨W,eW⟩:∃W,W=ER (en D.R r k) (en D.R i k) D.Ba (DZ D.R i) (DZ D.R r):=⟨_,rfl⟩;have m8:W.length=N+1:=by rw[eW,abh _ _ _ (by rw[a0 i hi,a0 r hr]),a0 i hi]
    have b2:W.length=Li.length:=by omega
    have h9:∀c (hc:c<N+1),W[c]'(by omega)=(en D.R i c*en D.R r k-en D.R i k*en D.R r c).tdiv D.Ba:=fun c hc=>by
     subst eW;rw[abj _ _ _ (by rw[a0 i hi];exact hc) (by rw[a0 r hr];exact hc),ent i c hi hc,ent r c hr hc]
    refine bF ?_
    conv=>
     enter [1,r,1,1]
     simp only[go_sem,t0,E,G,t6,t7,S,O,Y,g0,f1,f2,f5,c1,g8,a3,a4,a8,b6,b7,Zh,<- h8]
    generalize hL:dI _ _=z
    obtain⟨x,rfl,T1,σ2,Ci,rfl,t0,E,G,t6,t7,S,O,Y,o9,FN,FK⟩:=pF hL (N+1) (fun c st=>st.T 0= .rp bt 0/\st.T 1=I r/\st.T 2=I k/\st.T 6= .rs bR 0 (N+1)/\st.T 7= .rp nx 0/\st.T 30= .rs br 0 D.R.length/\st.T 31=I D.R.length/\st.T 32=I i/\st.T 9= .rs bi 0 (N+1)/\st.T 10= .rp nx' 0/\st.T 45=I ((N+1:Nat):Int)/\st.T 46=I c/\nx'<st.nx /\
      (∀b,b<=nx'->b≠bi->st.σ b=s6 b)/\st.σ bi=some ⟨(newR W Li c).flatMap zc,2,true⟩)
     (fun x=>∃T PX j5,x=(.exit 2,⟨T,PX,j5⟩)/\T 0= .rp bt 0/\T 1=I r/\T 2=I k/\T 6= .rs bR 0 (N+1)/\T 7= .rp nx 0/\T 30= .rs br 0 D.R.length/\T 31=I D.R.length/\T 32=I i/\nx'<j5/\(∀b,b<=nx'->b≠bi->PX b=s6 b)/\Es PX bi W) (by
      clear hL;rintro c ⟨T,σ2,m0⟩ hc ⟨t0,E,G,t6,t7,S,O,Y,t9,c0,b5,c7,b8,FN,FK⟩;simp only at t0 E G t6 t7 S O Y t9 c0 b5 c7 b8 FK;have g1:(c:Int)<((N+1:Nat):Int):=by omega
      have g2:=jD c;have g3:=ZQ (n:=(c:Int)+1);have g4:=d_ (c:=zc) (s:=2) ZL (newR W Li c) c (by rw[jC b2 (by omega)];omega);rw[XF b2 (by omega)]at g4;have g5:=bZ (c:=zc) (s:=2) ZL (newR W Li c);rw[jC b2 (by omega),Lu]at g5;have g6:c*2+2<=(N+1)*2:=by omega
      have g7:=d_ (c:=zc) (s:=2) ZL Lr c (by omega);have z1:∀σ d,stripL (strip σ d) (zc Li[c])=some (cZ (en D.R i c),[]):=fun σ d=>by rw[ZK σ d (iz c (by omega)),h4 c (by omega)]
      have z2:∀σ d,stripL (strip σ d) (zc Lr[k])=some (cZ (en D.R r k),[]):=fun σ d=>by rw[ZK σ d (lz k (by omega)),e7 k (by omega)]
      have z3:∀σ d,stripL (strip σ d) (zc Li[k])=some (cZ (en D.R i k),[]):=fun σ d=>by rw[ZK σ d (iz k (by omega)),h4 k (by omega)]
      have z4:∀σ d,stripL (strip σ d) (zc Lr[c])=some (cZ (en D.R r c),[]):=fun σ d=>by rw[ZK σ d (lz c (by omega)),e7 c (by omega)]
      have e1:σ2 bt=_:=(FN bt (by omega) (yu ni.1)).trans ((c4 bt (by omega)).trans ((frame bt Ua fun e=>(n7 bt e).1 rfl).trans f7));have e3:σ2 nx=_:=(FN nx (by omega) (by omega)).trans ((c4 nx (by omega)).trans sn);have e4:σ2 nx'=_:=(FN nx' (zq _) (by omega)).trans m7;have e5:σ2 bR=_:=(FN bR (by omega) (yu j4)).trans ((c4 bR (by omega)).trans sR);have d1:¬bt=m0:=by omega
      have d3:¬nx=m0:=by omega
      have d4:¬nx'=m0:=by omega
      have d5:¬bR=m0:=by omega
      have d6:¬bi=m0:=by omega
      have l1:bt<m0+1:=by omega
      have l3:nx<m0+1:=by omega
      have l4:nx'<m0+1:=by omega
      have l5:bR<m0+1:=by omega
      have l6:bi<m0+1:=by omega
      have l7:m0<m0+1:=by omega
      have l8:bi<m0:=by omega
      have l9:nx<m0:=by omega
      have i0:nx'<m0:=by omega
      have i1:bR<m0:=by omega
      have i2:bt<m0:=by omega
      have u1:=hs.big i c (by omega) (by omega);have u2:=hs.big r k hr (by omega);have u3:=hs.big i k (by omega) (by omega);have u4:=hs.big r c hr (by omega);obtain⟨v1,v2,v3⟩:=aia (u:=en D.R i c) (p:=en D.R r k) (f:=en D.R i k) (v:=en D.R r c) u1 u2 u3 u4;have k1:=kP (en D.R i c) (en D.R r k) (by omega) (by omega);have k2:=kG (en D.R i k);have k3:=kG (en D.R r c);have k4:=kP (en D.R i k) (en D.R r c) (by omega) (by omega);have k5:=acr (en D.R i c*en D.R r k) (en D.R i k*en D.R r c) v1 v2;have s2:=TY (en D.R i k);have s3:=TY (en D.R r c);have p0:=hs.Ba;have fin:∀y:Int,y=W[c]'(by omega)->patch ((newR W Li c).flatMap zc) (c*2) (cZ y)=(newR W Li (c+1)).flatMap zc:=fun y hy=>by
       rw[<- acP,iD ZL _ _ (by rw[jC b2 (by omega)];omega),hy,Oc b2 (by omega)]
      have wv:=h9 c hc
      by_cases i3:en D.R i k=0
      .rw[sO i3,vH]at s2
       have k6:fn ZH qI Af 238 [.agg (cZ (en D.R i c*en D.R r k)),.agg [Bo (decide (D.Ba<0)),LI (dg D.Ba.natAbs)]]=_:=N7 (en D.R i c*en D.R r k) D.Ba v1 (by omega) h6;have c6:=fin ((en D.R i c*en D.R r k).tdiv D.Ba) (by rw[wv,i3,Int.zero_mul,Int.sub_zero]);refine .inl ⟨_,by simp only[go_sem,t0,E,G,t6,t7,t9,c0,b5,c7,FK,e1,e3,e4,e5,a3,a4,a8,g1,g2,g3,g4,g5,g6,g7,z1,z2,z3,z4,d1,d3,d4,d5,d6,l1,l3,l4,l5,l6,l7,l8,l9,i0,i1,i2,k1,k2,s2,k6,c6,Zh];rfl,?_⟩;simp only[go_sem,t0,E,G,t6,t7,S,O,Y,t9,c0,b5];refine⟨rfl,by omega,fun b hb a9=>?_⟩;rw[Zj _ _ a9,Zk];exact FN b hb a9
      .rw[sN i3,wu]at s2
       by_cases i4:en D.R r c=0
       .rw[sO i4,vH]at s3
        have k6:fn ZH qI Af 238 [.agg (cZ (en D.R i c*en D.R r k)),.agg [Bo (decide (D.Ba<0)),LI (dg D.Ba.natAbs)]]=_:=N7 (en D.R i c*en D.R r k) D.Ba v1 (by omega) h6;have c6:=fin ((en D.R i c*en D.R r k).tdiv D.Ba) (by rw[wv,i4,vZ,Int.sub_zero]);refine .inl ⟨_,by simp only[go_sem,t0,E,G,t6,t7,t9,c0,b5,c7,FK,e1,e3,e4,e5,a3,a4,a7,a8,g1,g2,g3,g4,g5,g6,g7,z1,z2,z3,z4,d1,d3,d4,d5,d6,l1,l3,l4,l5,l6,l7,l8,l9,i0,i1,i2,k1,k2,s2,k3,s3,k6,c6,Zh];rfl,?_⟩;simp only[go_sem,t0,E,G,t6,t7,S,O,Y,t9,c0,b5];refine⟨rfl,by omega,fun b hb a9=>?_⟩;rw[Zj _ _ a9,Zk];exact FN b hb a9
       .rw[sN i4,wu]at s3
        have k6:fn ZH qI Af 238 [.agg (cZ (en D.R i c*en D.R r k-en D.R i k*en D.R r c)),.agg [Bo (decide (D.Ba<0)),LI (dg D.Ba.natAbs)]]=_:=N7 (en D.R i c*en D.R r k-en D.R i k*en D.R r c) D.Ba v3 (by omega) h6;have c6:=fin ((en D.R i c*en D.R r k-en D.R i k*en D.R r c).tdiv D.Ba) wv.symm;refine .inl ⟨_,by simp only[go_sem,t0,E,G,t6,t7,t9,c0,b5,c7,FK,e1,e3,e4,e5,a3,a4,a7,a8,g1,g2,g3,g4,g5,g6,g7,z1,z2,z3,z4,d1,d3,d4,d5,d6,l1,l3,l4,l5,l6,l7,l8,l9,i0,i1,i2,k1,k2,s2,k3,s3,k4,k5,k6,c6,Zh];rfl,?_⟩;simp only[go_sem,t0,E,G,t6,t7,S,O,Y,t9,c0,b5];refine⟨rfl,by omega,fun b hb a9=>?_⟩;rw[Zj _ _ a9,Zk];exact FN b hb a9) (by
      clear hL;rintro ⟨T,σ2,m0⟩ ⟨t0,E,G,t6,t7,S,O,Y,t9,c0,b5,c7,b8,FN,FK⟩;simp only at t0 E G t6 t7 S O Y t9 c0 b5 c7 b8 FK;refine⟨_,by simp only[go_sem,b5,c7,zl];rfl,by simp,_,_,_,rfl,?_⟩;simp only[go_sem,t0,E,G,t6,t7,S,O,Y];exact⟨b8,FN,XG b2 (by rw[Lu];exact FK)⟩) (by
      simp only[go_sem,t0,E,G,t6,t7,S,O,Y];refine⟨by omega,fun _ _ _=>trivial,?_⟩;rw[JU,c4 bi (by omega)];exact g8)
    refine⟨_,by simp only[go_sem,Y,f3];rfl,.inl ⟨_,rfl,?_⟩⟩;simp only[go_sem,t0,E,G,t6,t7,S,O];refine⟨rfl,by omega,?_,?_,fun j J=>?_,fun b hb hn=>?_⟩
    .exact(FN nx (by omega) (by omega)).trans ((c4 nx (by omega)).trans sn)
    .exact(FN bR (by omega) (yu j4)).trans ((c4 bR (by omega)).trans sR)
    .by_cases c3:j=i
     .subst c3
      rw[<- Fg];unfold F7;rw[sS (by omega),acQ (by omega),sW YG,<- eW];exact FK
     .have a9:rb[j]≠bi:=fun e=>c3 (by rw[Fg]at e;exact(uV n8).mp e)
      have:=EU j J;have e2:F7 D.R (BG D.R r k D.Ba) (i+1) j=F7 D.R (BG D.R r k D.Ba) i j:=by
       unfold F7
       by_cases hq:j<i
       .rw[sS hq,sS (by omega)]
       .rw[sW hq,sW (by omega)]
      rw[e2];exact(rows j J).congr ((FN _ (by omega) a9).trans (c4 _ (by omega)))
    .exact(FN b (by omega) fun e=>hn (by rw[e,Fg];exact zu b4)).trans ((c4 b (by omega)).trans (frame b hb hn))) (by
   clear hL;rintro ⟨T,σ',nx'⟩ ⟨t0,E,G,t6,t7,S,O,Y,b3,sn,sR,rows,frame⟩;simp only at t0 E G t6 t7 S O Y b3 sn;refine⟨_,by simp only[go_sem,O,Y,zl];rfl,by simp,_,_,_,rfl,?_⟩;simp only[go_sem,t0,E,G,t7];refine⟨b3,sn,fun j J=>?_,frame⟩;have:=rows j J;unfold F7 at this;rw[sS (by omega)]at this;exact this) (by
   simp only[go_sem];refine⟨by omega,j0,(c9 bR l2).trans h7,fun j J=>?_,fun b hb _=>c9 b hb⟩;unfold F7;rw[sW (by omega)];exact(h.row j J).congr (c9 _ (EU j J)))
 have m9:zc Lr[k]=cZ (en D.R r k):=by
  have e1:=e7 k (by omega);have e2:=lz k (by omega);generalize Lr[k]=q at e1 e2;obtain⟨z,b⟩:=q;simp only at e1 e2;subst e1;cases b with
  |false=>rfl
  |true=>exact absurd (e2 rfl) hp
 rw[m9]at d0;obtain⟨p,ep⟩:∃p,p=en D.R r k:=⟨_,rfl⟩;rw[<- ep]at d0 hp;have e1:c5 bt=_:=(JV bt Ua fun e=>(n7 bt e).1 rfl).trans f7;have e2:c5 bb=_:=(JV bb k8 fun e=>(n7 bb e).2.2.1 rfl).trans k7;have e3:c5 br=_:=(JV br Ub fun e=>(n7 br e).2.1 rfl).trans f6;have e4:c5 bf=_:=(JV bf k9 fun e=>(n7 bf e).2.2.2 rfl).trans h.f;have hB:(Ce D.B).length=D.R.length:=by rw[aB];exact hs.Bg
 have m1:r<((Ce D.B).flatMap cI++L_).length:=by rw[zo,qR];omega
 have m2:((Ce D.B).flatMap cI++L_).set r (I k)=(Ce (D.B.set r k)).flatMap cI++L_:=by
  rw[List.set_append_left _ _ (by rw[qR];omega),qQ];unfold Ce;rw[List.map_set]
 have m3:∀a b c d e f:V,patch [a,b,c,d,e,f] 1 (cZ p)=[a,Bo (decide (p<0)),LI (dg p.natAbs),d,e,f]:=fun _ _ _ _ _ _=>rfl
 have m4:∀a b c d e f:V,patch [a,b,c,d,e,f] 1 (cZ (-p))=[a,Bo (decide (-p<0)),LI (dg (-p).natAbs),d,e,f]:=fun _ _ _ _ _ _=>rfl
 have d1:¬bt=nx:=by omega
 have d2:¬bb=nx:=by omega
 have d3:¬nx=bt:=by omega
 have d4:¬nx=bb:=by omega
 have d5:¬bb=bt:=fun e=>n2 e.symm
 have d6:¬bt=bb:=n2;have d7:¬br=bt:=fun e=>n1 e.symm
 have d8:¬br=bb:=n4;have k1:=kG p;obtain⟨s1,d9⟩:∃s1,s1=upd (upd c5 bt (some ⟨[.rs br 0 D.R.length,Bo (decide (p<0)),LI (dg p.natAbs),.rs bb 0 D.R.length,I N,.rs bf 0 N],0,true⟩)) bb (some ⟨(Ce (D.B.set r k)).flatMap cI++L_,1,true⟩):=⟨_,rfl⟩;have j6:s1 bt=some ⟨[.rs br 0 D.R.length,Bo (decide (p<0)),LI (dg p.natAbs),.rs bb 0 D.R.length,I N,.rs bf 0 N],0,true⟩:=by rw[d9,Zj _ _ d6,Zi]
 have c8:∀b,b≠bt->b≠bb->s1 b=c5 b:=fun b h1 h2=>by rw[d9,Zj _ _ h2,Zj _ _ h1]
 have j7:s1 bb=some ⟨(Ce (D.B.set r k)).flatMap cI++L_,1,true⟩:=by rw[d9,Zi]
 have i5:s1 nx=some ⟨cZ p,0,true⟩:=(c8 nx d3 d4).trans d0;have j8:s1 br=_:=(c8 br d7 d8).trans e3;have j9:∀j (J:j<rb.length),s1 rb[j]=c5 rb[j]:=fun j J=>by
  have:=n7 rb[j] (zu J);exact c8 _ this.1 this.2.2.1
 have pz:F6 D r k=if 0<p then ⟨BG D.R r k D.Ba,p,D.B.set r k,D.fr⟩else ⟨negR (BG D.R r k D.Ba),-p,D.B.set r k,D.fr⟩:=by unfold F6;rw[ep]
 by_cases h5:0<p
 .have c1:Ak p 0=1:=by unfold Ak;rw[sW (by omega),sW (by omega)]
  rw[c1]at k1;have c2:(0:Int)<1:=by decide
  refine⟨s1,nI,by simp only[go_sem,t0,E,G,t7,e1,e2,d0,a1,a2,m1,m2,m3,d1,d2,d3,d4,d5,d6,k1,c2,<- d9,i5],?_,by omega,fun b hb h1 h2 h3=>by rw[c8 b h1 h2];exact JV b hb h3⟩;rw[pz,sS h5];have pl:(BG D.R r k D.Ba).length=D.R.length:=P0;refine⟨by show s1 bt=some ⟨[.rs br 0 (BG D.R r k D.Ba).length,_,_,.rs bb 0 (BG D.R r k D.Ba).length,_,_],0,true⟩;rw[pl];exact j6,⟨PW,j8⟩,fun j J=>(j3 j J).congr (j9 j J),⟨L_,j7⟩,?_,by show rb.length=(BG D.R r k D.Ba).length;omega,h.nd⟩;rw[c8 bf (yu n3) (yu n6)];exact e4
 .have c1:Ak p 0= -1:=by unfold Ak;rw[sS (by omega)]
  rw[c1]at k1;have c2:¬(0:Int)< -1:=by decide
  have k2:=kH p;obtain⟨s2,g9⟩:∃s2,s2=upd s1 bt (some ⟨[.rs br 0 D.R.length,Bo (decide (-p<0)),LI (dg (-p).natAbs),.rs bb 0 D.R.length,I N,.rs bf 0 N],0,true⟩):=⟨_,rfl⟩;have k0:s2 bt=some ⟨[.rs br 0 D.R.length,Bo (decide (-p<0)),LI (dg (-p).natAbs),.rs bb 0 D.R.length,I N,.rs bf 0 N],0,true⟩:=by rw[g9,Zi]
  have e9:∀b,b≠bt->s2 b=s1 b:=fun b h1=>by rw[g9,Zj _ _ h1]
  have i6:s2 br=_:=(e9 br d7).trans j8;have pl:(BG D.R r k D.Ba).length=D.R.length:=P0;have n0:∀x∈BG D.R r k D.Ba,x.length=N+1:=NS hs.row hr _;have nl:(negR (BG D.R r k D.Ba)).length=D.R.length:=by rw[NQ,pl]
  have i7:∀j,j<D.R.length->(DZ (BG D.R r k D.Ba) j).length=N+1:=fun j J=>by rw[dS (by omega)];exact n0 _ (zu (by omega))
  have n9:∀j,j<D.R.length->DZ (negR (BG D.R r k D.Ba)) j=(DZ (BG D.R r k D.Ba) j).map fun z=> -z:=fun j J=>by
   rw[dS (by omega),dS (by omega)];unfold negR;rw[yB]
  have o0:∀b,b<nx->b≠bt->b≠bb->b∉rb->s2 b=σ b:=fun b h0 h1 h2 h3=>by rw[e9 b h1,c8 b h1 h2];exact JV b h0 h3
  rw[<- and_true (∃σ' nx',_)];refine⟨?_,trivial⟩;simp only[go_sem,t0,E,G,t7,e1,e2,d0,a1,a2,m1,m2,m3,d1,d2,d3,d4,d5,d6,k1,c2,<- d9,i5,j6,k2,m4,<- g9,k0,i6];clear k1 k2 m3 m4 d9 g9 d0 e1 e2 e3 i5 j0 c9 f9 t0 E G t7 j1 j2 a5 a6 a7;generalize hL:dI _ _=y;obtain⟨x,rfl,T2,σ2,rfl,EF,Oe⟩:=pF hL D.R.length (fun i st=>st.T 107= .rs br 0 D.R.length/\st.T 108=I D.R.length/\st.T 109=I i/\st.nx=nI/\(∀j (J:j<rb.length),Es st.σ rb[j] (F7 (BG D.R r k D.Ba) (negR (BG D.R r k D.Ba)) i j))/\∀b,b∉rb->st.σ b=s2 b)
   (fun x=>∃T σ',x=(.exit 4,⟨T,σ',nI⟩)/\(∀j (J:j<rb.length),Es σ' rb[j] (DZ (negR (BG D.R r k D.Ba)) j))/\∀b,b∉rb->σ' b=s2 b) (by
    clear hL;rintro i ⟨T,σ',nx'⟩ hi ⟨t0,E,G,b3,rows,frame⟩;simp only at t0 E G b3;subst b3;have f1:(i:Int)<(D.R.length:Int):=by omega
    have f2:=jD i;have f3:=ZQ (n:=(i:Int)+1);have b4:i<rb.length:=by omega
    obtain⟨bi,Fg⟩:∃bi,bi=rb[i]:=⟨_,rfl⟩;have ni:=n7 bi (by rw[Fg];exact zu b4);have f5:=fU (ex:=PW) (n:=N+1) b4;rw[<- Fg]at f5;have g0:σ' br=_:=(frame br fun e=>(n7 br e).2.1 rfl).trans i6;obtain⟨Li,Uc,GZ,Ud⟩:=rows i b4;have g8:σ' bi=some ⟨Li.flatMap zc,2,true⟩:=by rw[Fg];exact Uc
    have e8:F7 (BG D.R r k D.Ba) (negR (BG D.R r k D.Ba)) i i=DZ (BG D.R r k D.Ba) i:=by unfold F7;rw[sW (by omega)]
    rw[e8]at GZ;have Lu:Li.length=N+1:=by have:=congrArg List.length GZ;rw[zO,i7 i hi]at this;exact this
    have iz:∀c (hc:c<Li.length),(Li[c]).2=true->(Li[c]).1=0:=fun c hc=>Ud _ (zu hc)
    obtain⟨W,eW⟩:∃W,W=(DZ (BG D.R r k D.Ba) i).map fun z=> -z:=⟨_,rfl⟩
    have m8:W.length=N+1:=by rw[eW,zO,i7 i hi]
    have b2:W.length=Li.length:=by omega
    have h9:∀c (hc:c<N+1),W[c]'(by omega)= -(Li[c]'(by omega)).1:=fun c hc=>by
     subst eW;obtain⟨_,e⟩:=QX GZ (c:=c) (by rw[i7 i hi];exact hc);rw[yB,e]
    refine bF ?_
    conv=>
     enter [1,r,1,1]
     simp only[go_sem,t0,E,G,g0,f1,f2,f5]
    generalize hL:dI _ _=z
    obtain⟨x,rfl,T1,σ2,rfl,t0,E,G,FN,FK⟩:=pF hL (N+1) (fun c st=>st.T 107= .rs br 0 D.R.length/\st.T 108=I D.R.length/\st.T 109=I i/\st.T 14= .rs bi 0 (N+1)/\st.T 114=I ((N+1:Nat):Int)/\st.T 115=I c/\st.nx=nx' /\
      (∀b,b≠bi->st.σ b=σ' b)/\st.σ bi=some ⟨(newR W Li c).flatMap zc,2,true⟩)
     (fun x=>∃T PX,x=(.exit 6,⟨T,PX,nx'⟩)/\T 107= .rs br 0 D.R.length/\T 108=I D.R.length/\T 109=I i/\(∀b,b≠bi->PX b=σ' b)/\Es PX bi W) (by
      clear hL;rintro c ⟨T,σ2,m0⟩ hc ⟨t0,E,G,f0,e0,f4,b8,FN,FK⟩;simp only at t0 E G f0 e0 f4 b8 FK;subst b8;have g1:(c:Int)<((N+1:Nat):Int):=by omega
      have g2:=jD c;have g3:=ZQ (n:=(c:Int)+1);have g4:=d_ (c:=zc) (s:=2) ZL (newR W Li c) c (by rw[jC b2 (by omega)];omega);rw[XF b2 (by omega)]at g4;have g5:=bZ (c:=zc) (s:=2) ZL (newR W Li c);rw[jC b2 (by omega),Lu]at g5;have g6:c*2+2<=(N+1)*2:=by omega
      have z1:∀σ d,stripL (strip σ d) (zc Li[c])=some (cZ (Li[c]).1,[]):=fun σ d=>ZK σ d (iz c (by omega))
      have k1:=kH (Li[c]).1;have c6:patch ((newR W Li c).flatMap zc) (c*2) (cZ (-(Li[c]).1))=(newR W Li (c+1)).flatMap zc:=by
       rw[<- acP,iD ZL _ _ (by rw[jC b2 (by omega)];omega),<- h9 c hc,Oc b2 (by omega)]
      refine .inl ⟨_,by simp only[go_sem,t0,E,G,f0,e0,f4,FK,g1,g2,g3,g4,g5,g6,z1,k1,c6];rfl,?_⟩;simp only[go_sem,t0,E,G,f0,e0];refine⟨rfl,fun b a9=>?_⟩;rw[Zj _ _ a9];exact FN b a9) (by
      clear hL;rintro ⟨T,σ2,m0⟩ ⟨t0,E,G,f0,e0,f4,b8,FN,FK⟩;simp only at t0 E G f0 e0 f4 b8 FK;subst b8;refine⟨_,by simp only[go_sem,e0,f4,zl];rfl,by simp,_,_,rfl,?_⟩;simp only[go_sem,t0,E,G];exact⟨FN,XG b2 (by rw[Lu];exact FK)⟩) (by
      simp only[go_sem,t0,E,G];refine⟨fun _ _=>trivial,?_⟩;rw[JU];exact g8)
    refine⟨_,by simp only[go_sem,G,f3];rfl,.inl ⟨_,rfl,?_⟩⟩;simp only[go_sem,t0,E];refine⟨rfl,fun j J=>?_,fun b hn=>?_⟩
    .by_cases c3:j=i
     .subst c3
      rw[<- Fg];unfold F7;rw[sS (by omega),n9 j (by omega),<- eW];exact FK
     .have a9:rb[j]≠bi:=fun e=>c3 (by rw[Fg]at e;exact(uV n8).mp e)
      have e2:F7 (BG D.R r k D.Ba) (negR (BG D.R r k D.Ba)) (i+1) j=F7 (BG D.R r k D.Ba) (negR (BG D.R r k D.Ba)) i j:=by
       unfold F7
       by_cases hq:j<i
       .rw[sS hq,sS (by omega)]
       .rw[sW hq,sW (by omega)]
      rw[e2];exact(rows j J).congr (FN _ a9)
    .exact(FN b fun e=>hn (by rw[e,Fg];exact zu b4)).trans (frame b hn)) (by
    clear hL;rintro ⟨T,σ',nx'⟩ ⟨t0,E,G,b3,rows,frame⟩;simp only at t0 E G b3;subst b3;refine⟨_,by simp only[go_sem,E,G,zl];rfl,by simp,_,_,rfl,fun j J=>?_,frame⟩;have:=rows j J;unfold F7 at this;rw[sS (by omega)]at this;exact this) (by
    simp only[go_sem];refine⟨fun j J=>?_,fun _ _=>trivial⟩;unfold F7;rw[sW (by omega)];exact(j3 j J).congr ((e9 _ (n7 _ (zu J)).1).trans (j9 j J)))
  refine⟨σ2,nI,by simp only[go_sem],?_,by omega,fun b hb h1 h2 h3=>by rw[Oe b h3];exact o0 b hb h1 h2 h3⟩;rw[pz,sW h5];have o1:bt∉rb:=fun e=>(n7 bt e).1 rfl
  have o2:br∉rb:=fun e=>(n7 br e).2.1 rfl
  have o3:bb∉rb:=fun e=>(n7 bb e).2.2.1 rfl
  have o4:bf∉rb:=fun e=>(n7 bf e).2.2.2 rfl
  refine⟨by show σ2 bt=some ⟨[.rs br 0 (negR (BG D.R r k D.Ba)).length,_,_,.rs bb 0 (negR (BG D.R r k D.Ba)).length,_,_],0,true⟩;rw[nl,Oe bt o1];exact k0,⟨PW,by rw[Oe br o2];exact i6⟩,EF,⟨L_,by rw[Oe bb o3,e9 bb d5];exact j7⟩,?_,by show rb.length=(negR (BG D.R r k D.Ba)).length;omega,h.nd⟩;rw[Oe bf o4,e9 bf (yu n3),c8 bf (yu n3) (yu n6)];exact e4
theorem b_{f:V->Option (V×List Nat)}:∀ {a b E b':List V} {i j:List Nat},stripL f a=some (E,i)->stripL f b=some (b',j)->stripL f (a++b)=some (E++b',i++j)
 |[],b,E,b',i,j,h,h'=>by
  rw[aZ]at h;simp only[su,sZ]at h;obtain⟨rfl,rfl⟩:=h;exact h'
 |v :: a,b,E,b',i,j,h,h'=>by
  rw[au]at h;cases G:f v with
  |none=>rw[G]at h;cases h
  |some p=>
   cases ha:stripL f a with
   |none=>rw[G,ha]at h;cases h
   |some q=>
    rw[G,ha]at h;simp only[zi,zG,su,sZ]at h;obtain⟨rfl,rfl⟩:=h;rw[yT,au,G,b_ ha h'];simp
theorem XH(σ:Store)(d:Nat):∀L:List (Int×Bool),(∀p∈L,p.2=true->p.1=0)->stripL (strip σ d) (L.flatMap zc)=some ((L.map (·.1)).flatMap cZ,[])
 |[],_=>rfl
 |p :: L,h=>by
  rw[zT,vK,zT];have:=b_ (ZK σ d (h p zM)) (XH σ d L fun q E=>h q (zY _ E));exact this
theorem afc{σ:Store}{b n:Nat}{G:List Int}(h:Es σ b G)(J:G.length=n)(d:Nat):strip σ (d+1) (.rs b 0 n)=some (LL cZ G,[b]):=by
 obtain⟨L,Y,O,h3⟩:=h;have S:L.length=n:=by rw[<- J,<- O,zO]
 have E:=bZ (c:=zc) (s:=2) ZL L;rw[aS,Y];simp only[zi,yX,yY];rw[sS (by rw[E,S];exact zq _),zk (by rw[E,S];exact zq _),XH σ d L h3,O];show some (V.ts _ n,[b])=_;rw[<- J]
theorem Og{σ:Store}{n d:Nat}:∀ {rb:List Nat} {R:List (List Int)},rb.length=R.length->(∀i (h:i<rb.length),Es σ rb[i] (DZ R i))->(∀x∈R,x.length=n)->∃ids,stripL (strip σ (d+1)) (rb.map fun b=>V.rs b 0 n)=some (R.flatMap abe,ids)
 |[],[],_,_,_=>⟨[],rfl⟩
 |[],_ :: _,h,_,_=>by simp at h
 |_ :: _,[],h,_,_=>by simp at h
 |b :: rb,x :: R,h,hr,hn=>by
  obtain⟨ids,hi⟩:=Og (rb:=rb) (R:=R) (d:=d) (by simpa using h) (fun i hi=>by
   have:=hr (i+1) (by simpa using hi);exact this) fun y E=>hn y (zY _ E)
  have G:Es σ b x:=hr 0 (by simp);refine⟨[b]++ids,?_⟩;rw[vK,au,afc G (hn x zM) d];simp only[zi];rw[hi];rfl
theorem aif(σ:Store)(d:Nat)(E:List Bool):stripL (strip σ d) (E.flatMap Ht)=some (E.flatMap Ht,[]) :=
 aY (fun b=>by rw[au,aQ,aZ];rfl) E
def acR:=bZ (c:=Ht) (s:=1) (fun _=>rfl)
theorem QY{σ:Store}{bt br bb bf:Nat}{rb:List Nat}{D:TZ}{N:Nat}(h:DF σ bt br bb bf rb D N)(hs:Xy D N):∃ids,strip σ 7 (.rp bt 0)=some (ah8 D N,ids):=by
 obtain⟨PW,G⟩:=h.r;obtain⟨L_,J⟩:=h.b;obtain⟨ids,E⟩:=Og (d:=4) h.len h.row hs.row;have O:(Ce D.B).length=D.R.length:=by rw[aB];exact hs.Bg
 have Y:strip σ 6 (.rs br 0 D.R.length)=some (LL abe D.R,br :: ids):=by
  rw[aS,G];simp only[zi,yQ,yX,yY];rw[sS (by rw[zo,zO,h.len];omega),xM (by rw[zO,h.len]),E];rfl
 have s2:strip σ 6 (.rs bb 0 D.R.length)=some (LI (Ce D.B),[bb]):=by
  rw[aS,J];simp only[zi,yQ,yX,yY];rw[sS (by rw[zo,qR,O];omega),xM (by rw[qR,O]),Dp,<- O];rfl
 have S:(D.fr.flatMap Ht).length=N:=by rw[acR,yQ,hs.Xz]
 have s3:strip σ 6 (.rs bf 0 N)=some (LL Ht D.fr,[bf]):=by
  rw[aS,h.f];simp only[zi,yQ,yX,yY];rw[sS (by rw[S];exact zq _),zk (by rw[S];exact zq _),aif];show some (V.ts _ N,[bf])=_;rw[<- hs.Xz]
 have key:stripL (strip σ 6) [.rs br 0 D.R.length,Bo (decide (D.Ba<0)),LI (dg D.Ba.natAbs),.rs bb 0 D.R.length,I N,.rs bf 0 N]=some (Xx D N,(br :: ids)++([]++([]++([bb]++([]++([bf]++[])))))):=by
  simp only[au,Y,s2,s3,aQ,aN,aZ,zG,zi];rfl
 exact⟨_,by rw[Nc,h.t,zi,key];rfl⟩
theorem KL{σ:Store}{bt br bb bf:Nat}{rb:List Nat}{D:TZ}{N:Nat}(h:DF σ bt br bb bf rb D N)(hs:Xy D N)(d:Nat):strip σ (d+1) (.rs bb 0 D.R.length)=some (LI (Ce D.B),[bb]):=by
 obtain⟨J,E⟩:=h.b;have G:(Ce D.B).length=D.R.length:=by rw[aB];exact hs.Bg
 rw[aS,E];simp only[zi,yQ,yX,yY];rw[sS (by rw[zo,qR,G];omega),xM (by rw[qR,G]),Dp,<- G];rfl
theorem ay8(xs:List Int)(m:Int)(h:xs.length<=1000000):fn ZH conv ext 132 [LI xs,I m]=some (I (ix (fun x=>m==x) xs)):=by
 rw[mM,nG [.tmp 4] [] func132];simp only[go_sem];generalize Y:dI _ _=y;obtain⟨r,rfl,hr⟩:=pF Y xs.length (fun k st=>st.T 0=LI xs/\st.T 1=I m/\st.T 7=I xs.length/\st.T 8=I k/\∀i (h:i<xs.length),i<k->(m==xs[i])=false)
  (fun r=>(∃T σ nx,r=(.exit 0,⟨T,σ,nx⟩)/\ix (fun x=>m==x) xs= -1)\/(∃T σ nx,r=(.ret,⟨T,σ,nx⟩)/\T 4=I (ix (fun x=>m==x) xs))) (by
   clear Y;rintro k ⟨T,σ,nx⟩ E ⟨O,S,G,J,hi⟩;simp only at O S G J;have f1:(k:Int)<(xs.length:Int):=by omega
   have f2:=jD k;have f3:=ZQ (n:=(k:Int)+1);have f5:=AZ xs k E;have f6:=idx E;cases hp:(m==xs[k])with
   |true=>
    refine .inr ⟨_,by simp only[go_sem,O,S,G,J,f1,f2,f5,f6,hp];rfl,by simp,.inr ⟨_,_,_,rfl,?_⟩⟩;simp only[go_sem];rw[Io E hi hp]
   |false=>
    refine .inl ⟨_,by simp only[go_sem,O,S,G,J,f1,f2,f3,f5,f6,hp];rfl,?_⟩;simp only[go_sem,O,S,G];exact⟨rfl,kC E hi hp⟩) (by
   clear Y;rintro ⟨T,σ,nx⟩ ⟨O,S,G,J,hi⟩;simp only at G J;exact⟨_,by simp only[go_sem,G,J,zl];rfl,by simp,.inl ⟨_,_,_,rfl,kD fun i h=>hi i h h⟩⟩) (by
   simp only[go_sem];exact fun i _ h=>absurd h (zW _))
 rcases hr with ⟨T,σ,nx,rfl,hx⟩|⟨T,σ,nx,rfl,hx⟩
 .simp only[go_sem,hx]
 .simp only[go_sem,hx]
theorem apt(xs:List Int)(m:Int)(h:xs.length<=1000000):fn ZH conv ext 109 [LI xs,I m]=some (Bo (decide (m∈xs))):=by
 have E:=ay8 xs m h;have e:decide (0<=ix (fun x=>m==x) xs)=decide (m∈xs):=by
  rw[decide_eq_decide];constructor
  .intro J
   refine zf fun hn=>?_
   have:=(Qq (fun x=>m==x) xs).mpr fun x G=>by
    rw[sQ];intro e;subst e;exact hn G
   omega
  .intro hm
   refine Int.not_lt.mp fun hn=>?_
   have:=(Qq (fun x=>m==x) xs).mp hn m hm;simp at this
 rw[mM,nG [.tmp 4] [] func109]
 by_cases hc:0<=ix (fun x=>m==x) xs
 .rw[sO hc]at e
  simp only[go_sem,E,hc,<- e]
 .rw[sN hc]at e
  simp only[go_sem,E,hc,<- e]
theorem Mc{B:List Nat}{k:Nat}:(k:Int)∈Ce B↔k∈B:=by
 unfold Ce;rw[List.mem_map];constructor
 .rintro ⟨j,E,e⟩
  have:j=k:=by omega
  subst this;exact E
 .intro h;exact⟨k,h,rfl⟩
def EC(D:TZ)(o:Nat->Int)(j:Nat):Bool:=D.fr.getD j false && !(!decide (j∈D.B) && decide (BF D o j<0))
def PY(D:TZ)(o:Nat->Int)(k:Nat):List Bool:=(List.range D.fr.length).map fun j=>if j<k then EC D o j else D.fr.getD j false
theorem m_(D:TZ)(o:Nat->Int)(k:Nat):(PY D o k).length=D.fr.length:=by simp[PY]
theorem mD(D:TZ)(o:Nat->Int){k j:Nat}(h:j<D.fr.length):(PY D o k)[j]'(by rw[m_];exact h)=if j<k then EC D o j else D.fr.getD j false:=by
 simp[PY]
theorem aii(D:TZ)(o:Nat->Int):PY D o 0=D.fr:=by
 apply yS
 .rw[m_]
 .intro i G E
  rw[mD D o E,sW (by omega),zx,zy E];rfl
theorem acS(D:TZ)(o:Nat->Int){k:Nat}(h:k<D.fr.length):(PY D o k).set k (EC D o k)=PY D o (k+1):=by
 apply yS
 .rw[yJ,m_,m_]
 .intro i J E
  rw[m_]at E;rw[wP,mD D o E,mD D o E]
  by_cases e:k=i
  .subst e;rw[sS rfl,sS (by omega)]
  .rw[sW e]
   by_cases G:i<k
   .rw[sS G,sS (by omega)]
   .rw[sW G,sW (by omega)]
theorem aij(D:TZ)(o:Nat->Int){k:Nat}(h:k<D.fr.length)(hb:EC D o k=D.fr.getD k false):PY D o k=PY D o (k+1):=by
 rw[<- acS D o h,hb];apply yS
 .rw[yJ]
 .intro i E G
  rw[wP]
  split
  .rename_i e;subst e;rw[mD D o h,sW (by omega)]
  .rfl
theorem atK(D:TZ)(o:Nat->Int){N:Nat}(h:D.fr.length=N):frZ N o D (PY D o N):=by
 refine⟨m_ D o N,fun j E=>?_⟩;have e:(PY D o N).getD j false=EC D o j:=by
  rw[zx,zy (by rw[m_];omega),xK,mD D o (by omega),sS E]
 rw[e];unfold EC;cases D.fr.getD j false with
 |false=>simp
 |true=>
  by_cases hb:j∈D.B<;>by_cases G:BF D o j<0<;>simp[hb,G]
theorem Ue(xs:List Bool)(k:Nat)(b:Bool):(xs.flatMap Ht).set k (Bo b)=(xs.set k b).flatMap Ht:=by
 induction xs generalizing k with
 |nil=>rfl
 |cons x xs E=>
  cases k with
  |zero=>rfl
  |succ k=>
   show Bo x :: (xs.flatMap Ht).set k (Bo b)=Bo x :: (xs.set k b).flatMap Ht;rw[E]
theorem Xy.free{D:TZ}{N:Nat}(h:Xy D N){fr:List Bool}(E:fr.length=N):Xy { D with fr:=fr } N:=⟨h.row,h.Bg,h.Gn,E,h.sz,h.big,h.Ba,h.inB⟩
theorem DF.free{σ σ':Store}{bt br bb bf:Nat}{rb:List Nat}{D:TZ}{N:Nat}(h:DF σ bt br bb bf rb D N){fr:List Bool}(O:σ' bf=some ⟨fr.flatMap Ht,1,true⟩)(E:∀b,b≠bf->σ' b=σ b):DF σ' bt br bb bf rb { D with fr:=fr } N:=by
 obtain⟨n1,n2,S,n4,Y,n6,n7,n8⟩:=nd4 h.nd;obtain⟨PW,G⟩:=h.r;obtain⟨L_,J⟩:=h.b;exact⟨(E bt S).trans h.t,⟨PW,(E br Y).trans G⟩,fun i hi=>(h.row i hi).congr (E _ (n7 _ (zu hi)).2.2.2),⟨L_,(E bb n6).trans J⟩,O,h.len,h.nd⟩
theorem kJ{σ:Store}{b:Nat}{xs:List Int}(h:σ b=some ⟨xs.flatMap cI,1,true⟩){n:Nat}(hn:xs.length=n)(d:Nat):strip σ (d+1) (.rs b 0 n)=some (LI xs,[b]):=by
 rw[aS,h];simp only[zi,yQ,yX,yY,qR];rw[sS (by omega),zk (by rw[qR];omega),Dp];show some (V.ts _ n,[b])=_;rw[<- hn]
def Obj(o:List Int)(N:Nat):Prop:=o.length=N/\∀x∈o,-1000000<=x/\x<=1000000
abbrev oF(o:List Int)(j:Nat):Int:=o.getD j 0
theorem atL(Qp:TZ->Prop){N:Nat}{o:List Int}(hI:∀D,Qp D->Xy D N/\0<D.Ba)(c3:∀D D',Qp D->ES N (oF o) D D'->Qp D')(ho:Obj o N)
  {σ:Store} {nx bt br bb bf bo:Nat} {rb:List Nat} {D:TZ} {n:Nat} (d8:Qp D) (hn:II N (oF o) n D) (h:DF σ bt br bb bf rb D N) (d9:∀b∈bt :: br :: bb :: bf :: rb,b<nx) (d1:σ bo=some ⟨o.flatMap cI,1,true⟩) (d2:bo<nx) (e0:bo∉bt :: br :: bb :: bf :: rb) :
  ∃σ' nx' d3 D',ev ZH qI Af 187 [.rp bt 0,.rs bo 0 N] σ nx=some (Bo d3,σ',nx')/\TT N (oF o) D d3 D'/\DF σ' bt br bb bf rb D' N/\nx<=nx'/\∀b,b<nx->b∉bt :: bb :: bf :: rb->σ' b=σ b:=by
 have c0:=ho.1;have c4:bo∉bt :: bb :: bf :: rb:=fun e=>e0 (by
  simp only[zX]at e⊢;rcases e with e|e|e|e<;>simp[e])
 rw[nG [.tmp 4] [] func187];simp only[go_sem];generalize hL:dI _ _=y
 obtain⟨x,rfl,hx⟩:=jV hL (fun m st=>st.T 0= .rp bt 0/\st.T 1= .rs bo 0 N/\nx<=st.nx/\(∀b,b<nx->b∉bt :: bb :: bf :: rb->st.σ b=σ b)/\∃D1,ET N (oF o) D D1/\Qp D1/\DF st.σ bt br bb bf rb D1 N /\
   ((st.T 5=Bo true/\∃m',m=m'+1/\II N (oF o) m' D1)\/(st.T 5=Bo false/\∀j,j<N->D1.fr.getD j false=true->j∉D1.B->¬0<BF D1 (oF o) j)))
  (fun x=>∃T σ' nx',nx<=nx'/\(∀b,b<nx->b∉bt :: bb :: bf :: rb->σ' b=σ b)/\∃D1,ET N (oF o) D D1/\Qp D1/\DF σ' bt br bb bf rb D1 N /\
   ((x=(.ret,⟨T,σ',nx'⟩)/\T 4=Bo false/\∃s,IG N D1 (oF o) s/\∀i,i<D1.R.length->¬0<en D1.R i s)\/(x=(.exit 0,⟨T,σ',nx'⟩)/\T 0= .rp bt 0/\T 1= .rs bo 0 N/\∀j,j<N->D1.fr.getD j false=true->j∉D1.B->¬0<BF D1 (oF o) j))) (by
   clear hL;rintro m ⟨T,a0,nI⟩ ⟨t0,G,a1,fr,D1,hr,a8,hT,h5⟩;simp only at t0 G a1 hT h5;obtain⟨hS,d4⟩:=hI D1 a8;have a6:=hT.t;rcases h5 with ⟨t5,m',rfl,d5⟩|⟨t5,b6⟩
   .have hlen:=hT.len
    obtain⟨n1,n2,n3,n4,n5,n6,n7,n8⟩:=nd4 hT.nd;have e1:=hS.sz;have c5:a0 bo=_:=(fr bo d2 c4).trans d1;obtain⟨ids,b3⟩:=QY hT hS;have a4:=KL hT hS 6;have b4:=kJ c5 c0 6;have YJ:=hT.f;refine bF ?_
    conv=>
     enter [1,r,1,1]
     simp only[go_sem,t0,G,t5,a6]
    generalize hL:dI _ _=z;obtain⟨x,rfl,T1,σ2,Ci,E,hx⟩:=pF hL N (fun k st=>st.T 0= .rp bt 0/\st.T 1= .rs bo 0 N/\st.T 5=Bo false/\st.T 13=I N/\st.T 14=I k/\st.σ=a0/\st.nx=nI/\∀j,j<k->D1.fr.getD j false=true->j∉D1.B->¬0<BF D1 (oF o) j)
     (fun x=>∃T σ2 Ci,nI<=Ci/\((x=(.exit 2,⟨T,σ2,Ci⟩)/\T 0= .rp bt 0/\T 1= .rs bo 0 N/\T 5=Bo false/\σ2=a0/\∀j,j<N->D1.fr.getD j false=true->j∉D1.B->¬0<BF D1 (oF o) j) \/
      (x=(.exit 2,⟨T,σ2,Ci⟩)/\T 0= .rp bt 0/\T 1= .rs bo 0 N/\T 5=Bo true/\∃D2,ES N (oF o) D1 D2/\DF σ2 bt br bb bf rb D2 N/\∀b,b<nI->b∉bt :: bb :: bf :: rb->σ2 b=a0 b) \/
      (x=(.ret,⟨T,σ2,Ci⟩)/\T 4=Bo false/\σ2=a0/\∃s,IG N D1 (oF o) s/\∀i,i<D1.R.length->¬0<en D1.R i s))) (by
      clear hL;rintro k ⟨T,σ2,Ci⟩ hk ⟨t0,G,t5,J,a5,b7,E,a3⟩;simp only at t0 G t5 J a5 b7 E;subst b7 E;have f1:(k:Int)<(N:Int):=by omega
      have f2:=jD k;have f3:=ZQ (n:=(k:Int)+1);have b5:k<D1.fr.length:=by rw[hS.Xz];exact hk
      have f4:=cu Bo D1.fr k b5;have a9:(D1.fr.flatMap Ht)[k]?=some (Bo (D1.fr.getD k false)):=by
       rw[zx,zy b5];exact f4
      have k1:=apt (Ce D1.B) k (by rw[aB,hS.Bg];have:=hS.Gn;omega);have k2:=anr D1 N hS o c0 ho.2 k hk;have step:∀(b8:¬(D1.fr.getD k false=true/\k∉D1.B/\0<BF D1 (oF o) k)),∀j,j<k+1->D1.fr.getD j false=true->j∉D1.B->¬0<BF D1 (oF o) j:=fun b8 j hj h1 h2 h3=>by
       by_cases e:j=k
       .subst e;exact b8 ⟨h1,h2,h3⟩
       .exact a3 j (by omega) h1 h2 h3
      cases S:D1.fr.getD k false with
      |false=>
       rw[S]at a9;refine .inl ⟨_,by simp only[go_sem,t0,G,t5,J,a5,a6,YJ,f1,f2,f3,a9];rfl,?_⟩;simp only[go_sem,t0,G,t5,J];exact⟨rfl,step fun h=>by rw[S]at h;cases h.1⟩
      |true=>
       rw[S]at a9
       by_cases hm:k∈D1.B
       .rw[sO (Mc.mpr hm)]at k1
        refine .inl ⟨_,by simp only[go_sem,t0,G,t5,J,a5,a6,YJ,f1,f2,f3,a9,a4,k1];rfl,?_⟩;simp only[go_sem,t0,G,t5,J];exact⟨rfl,step fun h=>h.2.1 hm⟩
       .rw[sN (mt Mc.mp hm)]at k1
        by_cases hg:0<BF D1 (oF o) k
        .have c1:¬Ak (BF D1 (oF o) k) 0<=0:=fun e=>(pV _).mp e hg
         have b2:IG N D1 (oF o) k:=⟨hk,S,hm,hg,fun j hj=>a3 j hj⟩;obtain⟨r,k3,hb⟩:=ah9 D1 N hS k hk;rcases hb with ⟨rfl,hb⟩|⟨r',rfl,d6,e2,e3,e4⟩
         .have c2:(-1:Int)<0:=by decide
          refine .inr ⟨_,by simp only[go_sem,t0,G,t5,J,a5,a6,YJ,f1,f2,f3,a9,a4,k1,b3,b4,k2,c1,k3,c2];rfl,by simp,_,_,_,zq _,.inr (.inr ⟨rfl,?_⟩)⟩;simp only[go_sem];exact⟨k,b2,hb⟩
         .have c2:¬(r':Int)<0:=by omega
          obtain⟨e8,Aq,k4,Oh,e5,e6⟩:=aib hT hS (fun b hb=>xP (d9 b hb) a1) d6 hk (by omega) (by omega);refine .inr ⟨_,by simp only[go_sem,qJ,t0,G,t5,J,a5,a6,YJ,f1,f2,f3,a9,a4,k1,b3,b4,k2,c1,k3,c2,k4];rfl,by simp,_,_,_,e5,.inr (.inl ⟨rfl,?_⟩)⟩;simp only[go_sem,t0,G];refine⟨_,⟨k,r',b2,⟨d6,e2,fun i hi hp=>e3 i hi hp,fun i hi hp he=>e4 i hi hp he⟩,rfl⟩,Oh,fun b hb a2=>?_⟩;simp only[zX,not_or]at a2;exact e6 b hb a2.1 a2.2.1 a2.2.2.2
        .have c1:Ak (BF D1 (oF o) k) 0<=0:=(pV _).mpr hg
         refine .inl ⟨_,by simp only[go_sem,t0,G,t5,J,a5,a6,YJ,f1,f2,f3,a9,a4,k1,b3,b4,k2,c1];rfl,?_⟩;simp only[go_sem,t0,G,t5,J];exact⟨rfl,step fun h=>hg h.2.2⟩) (by
      clear hL;rintro ⟨T,σ2,Ci⟩ ⟨t0,G,t5,J,a5,b7,E,a3⟩;simp only at t0 G t5 J a5 b7 E;subst b7 E;refine⟨_,by simp only[go_sem,J,a5,zl];rfl,by simp,_,_,_,zq _,.inl ⟨rfl,?_⟩⟩;simp only[go_sem,t0,G,t5];exact a3) (by
      simp only[go_sem,t0,G];exact fun j hj=>absurd hj (zW j))
    rcases hx with ⟨rfl,t0,G,t5,rfl,a3⟩|⟨rfl,t0,G,t5,D2,c8,b9,c9⟩|⟨rfl,t4,rfl,Gl⟩
    .refine⟨_,by simp only[go_sem],.inl ⟨⟨T1,_,Ci⟩,rfl,m',by omega,t0,G,zL a1 E,fr,D1,hr,a8,hT,.inr ⟨t5,a3⟩⟩⟩
    .cases m' with
     |zero=>exact absurd d5 id
     |succ d7=>
      refine⟨_,by simp only[go_sem],.inl ⟨⟨T1,_,Ci⟩,rfl,d7+1,by omega,t0,G,zL a1 E,fun b hb a2=>?_,D2,hr.tail c8,c3 _ _ a8 c8,b9,.inl ⟨t5,d7,rfl,d5 D2 c8⟩⟩⟩;exact(c9 b (xP hb a1) a2).trans (fr b hb a2)
    .refine⟨_,by simp only[go_sem],.inr ⟨by simp,_,_,Ci,zL a1 E,fr,D1,hr,a8,hT,.inl ⟨rfl,t4,Gl⟩⟩⟩
   .refine .inr ⟨_,by simp only[go_sem,t5];rfl,by simp,_,a0,nI,a1,fr,D1,hr,a8,hT,.inr ⟨rfl,?_⟩⟩
    simp only[go_sem,t0,G];exact b6) (n+1) (by
   simp only[go_sem];exact⟨fun _ _ _=>trivial,D,ET.refl D,d8,h,.inl ⟨n,rfl,hn⟩⟩)
 obtain⟨T1,a0,nI,a1,fr,D1,hr,a8,hT,hx⟩:=hx;obtain⟨hS,d4⟩:=hI D1 a8;rcases hx with ⟨rfl,t4,s,b2,Gl⟩|⟨rfl,t0,G,b6⟩
 .exact⟨a0,nI,false,D1,by simp only[go_sem,t4],⟨D1,hr,.inr ⟨rfl,rfl,s,b2,Gl⟩⟩,hT,a1,fr⟩
 .have a6:=hT.t
  have hlen:=hT.len;obtain⟨n1,n2,n3,n4,n5,n6,n7,n8⟩:=nd4 hT.nd;have e1:=hS.sz;simp only[go_sem,t0,a6];generalize hL:dI _ _=z;obtain⟨x,rfl,T2,σ2,rfl,c9,Y⟩:=pF hL N (fun k st=>st.T 0= .rp bt 0/\st.T 1= .rs bo 0 N/\st.T 53=I N/\st.T 54=I k/\st.nx=nI/\st.σ bf=some ⟨(PY D1 (oF o) k).flatMap Ht,1,true⟩/\∀b,b≠bf->st.σ b=a0 b)
   (fun x=>∃T σ2,x=(.exit 4,⟨T,σ2,nI⟩)/\σ2 bf=some ⟨(PY D1 (oF o) N).flatMap Ht,1,true⟩/\∀b,b≠bf->σ2 b=a0 b) (by
    clear hL;rintro k ⟨T,σ2,Ci⟩ hk ⟨t0,G,O,a7,E,YJ,Y⟩;simp only at t0 G O a7 E YJ;subst E;have hl:(PY D1 (oF o) k).length=N:=by rw[m_];exact hS.Xz
    have b9:=hT.free YJ Y;have d0:=hS.free hl;have Oi:=b9.t;obtain⟨ids,b3⟩:=QY b9 d0;have a4:=KL b9 d0 6;have c5:σ2 bo=_:=(Y bo fun e=>c4 (by simp[e])).trans ((fr bo d2 c4).trans d1);have b4:=kJ c5 c0 6;have f1:(k:Int)<(N:Int):=by omega
    have f2:=jD k;have f3:=ZQ (n:=(k:Int)+1);have b5:k<D1.fr.length:=by rw[hS.Xz];exact hk
    have f4:((PY D1 (oF o) k).flatMap Ht)[k]?=some (Bo (D1.fr.getD k false)):=by
     rw[cu Bo (PY D1 (oF o) k) k (by omega),mD _ _ b5,sW (by omega)]
    have f5:k<((PY D1 (oF o) k).flatMap Ht).length:=by rw[acR,hl];omega
    have k1:=apt (Ce D1.B) k (by rw[aB,hS.Bg];have:=hS.Gn;omega);have k2:=anr _ N d0 o c0 ho.2 k hk;have eg:BF { D1 with fr:=PY D1 (oF o) k } (fun j=>o.getD j 0) k=BF D1 (oF o) k:=rfl;rw[eg]at k2;simp only at Oi a4;have keep:EC D1 (oF o) k=D1.fr.getD k false->σ2 bf=some ⟨(PY D1 (oF o) (k+1)).flatMap Ht,1,true⟩:=fun h=>by rw[<- aij _ _ b5 h];exact YJ
    cases S:D1.fr.getD k false with
    |false=>
     rw[S]at f4;refine .inl ⟨_,by simp only[go_sem,t0,G,O,a7,Oi,YJ,f1,f2,f3,f4];rfl,?_⟩;simp only[go_sem,t0,G,O];exact⟨rfl,keep (by unfold EC;rw[S];rfl),Y⟩
    |true=>
     rw[S]at f4
     by_cases hm:k∈D1.B
     .rw[sO (Mc.mpr hm)]at k1
      refine .inl ⟨_,by simp only[go_sem,t0,G,O,a7,Oi,YJ,f1,f2,f3,f4,a4,k1];rfl,?_⟩;simp only[go_sem,t0,G,O];exact⟨rfl,keep (by unfold EC;rw[S,sO hm];rfl),Y⟩
     .rw[sN (mt Mc.mp hm)]at k1
      by_cases hg:BF D1 (oF o) k<0
      .have c1:Ak (BF D1 (oF o) k) 0<0:=(cmp_neg _).mpr hg
       have c6:=Ue (PY D1 (oF o) k) k false;have c7:=acS D1 (oF o) b5;have e7:EC D1 (oF o) k=false:=by unfold EC;rw[S,sN hm,sO hg];rfl
       rw[e7]at c7;rw[c7]at c6;refine .inl ⟨_,by simp only[go_sem,t0,G,O,a7,Oi,YJ,f1,f2,f3,f4,f5,a4,k1,b3,b4,k2,c1,c6];rfl,?_⟩;simp only[go_sem,t0,G,O];refine⟨rfl,fun b hb=>?_⟩;rw[Zj _ _ hb];exact Y b hb
      .have c1:¬Ak (BF D1 (oF o) k) 0<0:=fun e=>hg ((cmp_neg _).mp e)
       refine .inl ⟨_,by simp only[go_sem,t0,G,O,a7,Oi,YJ,f1,f2,f3,f4,a4,k1,b3,b4,k2,c1];rfl,?_⟩;simp only[go_sem,t0,G,O];exact⟨rfl,keep (by unfold EC;rw[S,sN hm,sN hg];rfl),Y⟩) (by
    clear hL;rintro ⟨T,σ2,Ci⟩ ⟨t0,G,O,a7,E,YJ,Y⟩;simp only at t0 G O a7 E YJ;subst E;exact⟨_,by simp only[go_sem,O,a7,zl];rfl,by simp,_,_,rfl,YJ,Y⟩) (by
    simp only[go_sem,t0,G];refine⟨?_,fun _ _=>trivial⟩;rw[aii];exact hT.f)
  refine⟨σ2,nI,true,_,by simp only[go_sem],⟨D1,hr,.inl ⟨rfl,b6,PY D1 (oF o) N,atK _ _ hS.Xz,rfl⟩⟩,hT.free c9 Y,a1,fun b hb a2=>?_⟩;rw[Y b fun e=>a2 (by simp[e])];exact fr b hb a2
section
variable {P:Program} {conv:FuncId->Conv} {call:TV.Call} (d:Option Tmp) (ty:TypeId) (ps:String) (af:Array Edge) (gd:Option (Nat×Bool)) (T:Nat->V) (σ:Store) (nx:Nat)
theorem abk(t:TypeId)(x:Operand)(lo hi E:Option Operand):Aa conv T σ ⟨d,.slice t x lo hi E,ty,ps,af,gd⟩=vI (val T x):=rfl
theorem al2(t:TypeId)(x:Operand)(lo hi E:Option Operand):writer conv ⟨d,.slice t x lo hi E,ty,ps,af,gd⟩=false:=rfl
theorem mJ(s x:Operand)(ts:Array TypeId):Aa conv T σ ⟨d,.call ⟨.builtin .append,#[s,x],ts⟩,ty,ps,af,gd⟩=vI (val T s)++vI (val T x):=by
 show([val T s,val T x].flatMap vI)=_;simp only[zT,wQ,zK]
theorem Np(s x:Operand)(ts:Array TypeId):writer conv ⟨d,.call ⟨.builtin .append,#[s,x],ts⟩,ty,ps,af,gd⟩=true:=rfl
def Uf(P:Program)(σ:Store)(nx:Nat)(t:TypeId)(lo hi E:Option V):V->Option V
 | .rs b off len=>if b<nx then AQ P t (.rs b off len) lo hi E σ else none
 |v=>if((vI v).all fun b=>decide (b<nx))=true then AQ P t v lo hi E (restrict σ (vI v))else none
theorem afd(t:TypeId)(x:Operand)(lo hi E:Option Operand):Ag P conv call ⟨d,.slice t x lo hi E,ty,ps,af,gd⟩ T σ nx=(Uf P σ nx t (lo.map (val T)) (hi.map (val T)) (E.map (val T)) (val T x)).map (·,σ,nx):=by
 rw[nT (F:=vI (val T x)) T σ nx rfl (fun _=>rfl)];show(if((vI (val T x)).all fun b=>decide (b<nx))=true then match(AQ P t (val T x) (lo.map (val T)) (hi.map (val T)) (E.map (val T)) (restrict σ (vI (val T x)))).map (·,restrict σ (vI (val T x)),nx)with|some (v,σ1,nI)=>some (v,wI (vI (val T x)) nx nI σ σ1,nI)|none=>none else none)=_;generalize val T x=v;have gen:(if((vI v).all fun b=>decide (b<nx))=true then match(AQ P t v (lo.map (val T)) (hi.map (val T)) (E.map (val T)) (restrict σ (vI v))).map (·,restrict σ (vI v),nx)with|some (w,σ1,nI)=>some (w,wI (vI v) nx nI σ σ1,nI)|none=>none else none)=(if((vI v).all fun b=>decide (b<nx))=true then AQ P t v (lo.map (val T)) (hi.map (val T)) (E.map (val T)) (restrict σ (vI v))else none).map (·,σ,nx):=by
  split
  .cases AQ P t v (lo.map (val T)) (hi.map (val T)) (E.map (val T)) (restrict σ (vI v))with
   |none=>rfl
   |some w=>simp only[zG,iJ]
  .rfl
 rw[gen];cases v with
 |rs b off len=>
  have key:AQ P t (.rs b off len) (lo.map (val T)) (hi.map (val T)) (E.map (val T)) (restrict σ [b])=AQ P t (.rs b off len) (lo.map (val T)) (hi.map (val T)) (E.map (val T)) σ:=by
   unfold AQ restrict;simp
  simp only[vI,uO,vN,Bool.and_true,decide_eq_true_eq,Uf,key]
 |_=>rfl
theorem afe(t:TypeId)(lo hi E:Option V)(b off len:Nat):Uf P σ nx t lo hi E (.rs b off len)=if b<nx then AQ P t (.rs b off len) lo hi E σ else none:=rfl
def apx(F:List Nat)(σ:Store)(nx:Nat):Kq->Kq
 |some (v,σ1,nI)=>some (v,wI F nx nI σ σ1,nI)
 |none=>none
theorem aff(F:List Nat)(v:V)(E:Store)(G:Nat):apx F σ nx (some (v,E,G))=some (v,wI F nx G σ E,G):=rfl
theorem ig(s x:Operand)(t u:TypeId):Ag P conv call ⟨d,.call ⟨.builtin .append,#[s,x],#[t,u]⟩,ty,ps,af,gd⟩ T σ nx=
  if((vI (val T s)++vI (val T x)).all fun b=>decide (b<nx))=true then apx (vI (val T s)++vI (val T x)) σ nx (DL P #[t,u] (val T s) (val T x) (restrict σ (vI (val T s)++vI (val T x))) nx)else none:=by
 rw[nT (F:=vI (val T s)++vI (val T x)) T σ nx (by
  show some ([val T s,val T x].flatMap vI)=_;simp only[zT,wQ,zK]) (fun _=>rfl)]
 rfl
end
attribute [go_sem] abk al2 mJ Np afd afe ig aff wK
theorem fG(σ:Store)(b:Nat):restrict σ [b,b] b=σ b:=by unfold restrict;simp
theorem PZ(σ:Store)(b nx:Nat)(x:Option E_):wI [b,b] nx nx σ (upd (restrict σ [b,b]) b x)=upd σ b x:=by
 funext i;unfold wI upd restrict
 by_cases h:i=b
 .simp[h]
 .rw[sW (by simp only[zX,zH,or_false,or_self,h,false_or];omega),sW h]
theorem fH(σ:Store)(b:Nat):restrict σ [b] b=σ b:=by unfold restrict;simp
theorem rD(σ:Store)(nx size bytes b off len:Nat)(row:List V)(m:Nat):Ad σ nx size bytes (.rs b off len) row m=(σ b).bind fun B=>if m=0 then some (.rs b off len,σ,nx)else
      if off+(len+m)*size<=B.cells.length then
    if B.wr=true/\B.st=size/\row.all pI=true then some (.rs b off (len+m),upd σ b (some { B with cells:=patch B.cells (off+len*size) row }),nx)else none
      else if off+len*size=B.cells.length/\B.st=size/\len+m<=maxLen/\(len+m)*bytes<=140737488355328/\row.all pI=true then
    some (.rs nx 0 (len+m),upd (upd σ b none) nx (some ⟨B.cells.drop off++row,size,B.wr⟩),nx+1)
      else none:=by
 cases h:σ b with
 |none=>simp only[Ad,h];rfl
 |some B=>simp only[Ad,h];rfl
theorem abl(σ:Store)(b nx:Nat):wI [b] nx nx σ (restrict σ [b])=σ:=by
 funext i;unfold wI restrict
 by_cases h:i=b
 .simp[h]
 .rw[sW (by simp only[xC,h,false_or];omega)]
theorem XI(σ:Store)(nx size bytes b off len:Nat)(row:List V){B:E_}(h:σ b=some B):Ad σ nx size bytes (.rs b off len) row 0=some (.rs b off len,σ,nx):=by
 unfold Ad;simp only[h,if_true]
theorem apy{σ:Store}{nx bytes b len m:Nat}{row cells:List V}(h:σ b=some ⟨cells,1,true⟩)(hm:m≠0)(G:len+m<=cells.length)(E:row.all pI=true) :
  Ad σ nx 1 bytes (.rs b 0 len) row m=some (.rs b 0 (len+m),upd σ b (some ⟨patch cells len row,1,true⟩),nx):=by
 unfold Ad;simp only[h];rw[sW hm,sS (by omega),sS ⟨by trivial,by trivial,E⟩];simp
attribute [go_sem] fG fH rD PZ abl
theorem iF(L ex:List V){i m:Nat}(hm:L.length=m)(hi:i<m)(J:m - (i+1)≠0):∃E,patch (L++ex) i (L.drop (i+1))=L.eraseIdx i++E:=by
 have G:(L.drop (i+1)).length=m - (i+1):=by rw[zN,hm]
 rw[iG _ _ _ (by rw[G,zo,hm];omega)];refine⟨(L++ex).drop (i+(m - (i+1))),?_⟩;rw[G,uf (by omega),uz]
theorem Oj(L ex:List V){i:Nat}(h:i+1=L.length):∃E,L++ex=L.eraseIdx i++E:=by
 refine⟨L.drop i++ex,?_⟩;rw[uz,xk (l:=L) (i:=i+1) (by omega),zK,<- z_,wM]
theorem jR{α β:Type}(f:α->β)(l:List α)(i:Nat):(l.map f).eraseIdx i=(l.eraseIdx i).map f:=by
 induction l generalizing i with
 |nil=>rfl
 |cons a l E=>cases i with
  |zero=>rfl
  |succ i=>show f a :: (l.map f).eraseIdx i=_;rw[E];rfl
def QZ(D:TZ)(i:Nat):TZ:={ D with R:=D.R.eraseIdx i,B:=D.B.eraseIdx i }
theorem DF.dropped{σ σ':Store}{bt br bb bf:Nat}{rb:List Nat}{D:TZ}{N i:Nat}(h:DF σ bt br bb bf rb D N)(hi:i<D.R.length)(a0:D.B.length=D.R.length)
  (ht:σ' bt=some ⟨[.rs br 0 (D.R.length-1),Bo (decide (D.Ba<0)),LI (dg D.Ba.natAbs),.rs bb 0 (D.R.length-1),I N,.rs bf 0 N],0,true⟩)
  (E:∃ex,σ' br=some ⟨(rb.map (fun b=>V.rs b 0 (N+1))).eraseIdx i++ex,1,true⟩) (hb:∃ex,σ' bb=some ⟨((Ce D.B).flatMap cI).eraseIdx i++ex,1,true⟩) (Y:∀b,b≠bt->b≠br->b≠bb->σ' b=σ b) :
  DF σ' bt br bb bf (rb.eraseIdx i) (QZ D i) N:=by
 obtain⟨n1,n2,n3,n4,n5,n6,n7,n8⟩:=nd4 h.nd;have hl:(D.R.eraseIdx i).length=D.R.length-1:=yR hi;have hlen:=h.len;obtain⟨G,E⟩:=E;obtain⟨J,hb⟩:=hb;refine⟨?_,⟨G,?_⟩,fun j O=>?_,⟨J,?_⟩,?_,?_,?_⟩
 .show σ' bt=some ⟨[.rs br 0 (D.R.eraseIdx i).length,_,_,.rs bb 0 (D.R.eraseIdx i).length,_,_],0,true⟩
  rw[hl];exact ht
 .rw[E,jR]
 .have a1:j<rb.length-1:=by rw[yR (by omega)]at O;exact O
  have e:DZ (D.R.eraseIdx i) j=DZ D.R (if j<i then j else j+1):=by
   unfold DZ;rw[lH]
  show Es σ' (rb.eraseIdx i)[j] (DZ (D.R.eraseIdx i) j);have S:(if j<i then j else j+1)<rb.length:=by split<;>omega
  have e2:(rb.eraseIdx i)[j]=rb[if j<i then j else j+1]:=by
   have:(rb.eraseIdx i)[j]?=rb[if j<i then j else j+1]?:=by
    rw[List.getElem?_eraseIdx];split<;>rfl
   rw[zy O,zy S]at this;exact Option.some.inj this
  rw[e,e2];have hn:=n7 _ (zu S);exact(h.row _ S).congr (Y _ hn.1 hn.2.1 hn.2.2.1)
 .rw[hb]
  have:((Ce D.B).flatMap cI).eraseIdx i=(Ce (D.B.eraseIdx i)).flatMap cI:=by
   have e1:∀xs:List Int,xs.flatMap cI=xs.map I:=fun xs=>by
    induction xs with
    |nil=>rfl
    |cons x xs ih=>rw[zT,ih];rfl
   rw[e1,e1,jR];unfold Ce;rw[jR]
  rw[this];rfl
 .rw[Y bf (yu n3) (yu n5) (yu n6)];exact h.f
 .show(rb.eraseIdx i).length=(D.R.eraseIdx i).length
  rw[hl,yR (by omega),hlen]
 .exact h.nd.sublist ((((tC rb i).cons_cons bf).cons_cons bb).cons_cons br|>.cons_cons bt)
theorem apz(Qp:TZ->Prop){N n:Nat}(hQ:∀D,Qp D->Xy D N/\0<D.Ba)(d6:n<=N)(h1:∀D i k,Qp D->i<D.R.length->n<=D.B.getD i 0->k<n->en D.R i k≠0->Qp (F6 D i k))
  (h2:∀D i,Qp D->i<D.R.length->n<=D.B.getD i 0->(∀k,k<n->en D.R i k=0)->Qp (QZ D i))
  {σ:Store} {nx bt br bb bf:Nat} {rb:List Nat} {D:TZ} (hD:Qp D) (h:DF σ bt br bb bf rb D N) (c5:∀b∈bt :: br :: bb :: bf :: rb,b<nx) :
  ∃σ' nx' Hu D',ev ZH qI Af 216 [.rp bt 0,I n] σ nx=some (.AP [],σ',nx')/\DF σ' bt br bb bf Hu D' N/\nx<=nx'/\Qp D'/\(∀i,i<D'.R.length->D'.B.getD i 0<n)/\Hu.Sublist rb/\∀b,b<nx->b∉bt :: br :: bb :: rb->σ' b=σ b:=by
 rw[nG [] [10,11] func216];simp only[go_sem];generalize hL:dI _ _=y;obtain⟨x,rfl,T',σ',nx',Hu,D',rfl,hT,a0,c6,b4,G,a3⟩:=jV hL (fun m st=>st.T 0= .rp bt 0/\st.T 1=I n/\nx<=st.nx/\∃i Hu D',st.T 4=I ((i:Nat):Int)/\m+i=D'.R.length/\DF st.σ bt br bb bf Hu D' N/\Qp D'/\(∀j,j<i->D'.B.getD j 0<n)/\Hu.Sublist rb/\∀b,b<nx->b∉bt :: br :: bb :: rb->st.σ b=σ b)
  (fun x=>∃T σ' nx' Hu D',x=(.exit 0,⟨T,σ',nx'⟩)/\DF σ' bt br bb bf Hu D' N/\nx<=nx'/\Qp D'/\(∀i,i<D'.R.length->D'.B.getD i 0<n)/\Hu.Sublist rb/\∀b,b<nx->b∉bt :: br :: bb :: rb->σ' b=σ b) (by
   clear hL;rintro m ⟨T,a1,nI⟩ ⟨t0,O,a0,i,S,D1,Y,d7,hT,Va,a2,G,a3⟩;simp only at t0 O Y a0 hT;obtain⟨hS,d5⟩:=hQ D1 Va;have a4:=hT.t;have hR:=hS.Gn;have hlen:=hT.len;obtain⟨PW,a6⟩:=hT.r;obtain⟨L_,a7⟩:=hT.b;have hB:(Ce D1.B).length=D1.R.length:=by rw[aB];exact hS.Bg
   have a5:∀b∈bt :: br :: bb :: bf :: S,b<nI:=fun b hb=>by
    refine xP (c5 b ?_) a0;simp only[zX]at hb⊢;rcases hb with h|h|h|h|h
    .exact .inl h
    .exact .inr (.inl h)
    .exact .inr (.inr (.inl h))
    .exact .inr (.inr (.inr (.inl h)))
    .exact .inr (.inr (.inr (.inr (G.subset h))))
   obtain⟨n1,n2,n3,n4,n5,n6,n7,n8⟩:=nd4 hT.nd
   by_cases hi:i<D1.R.length
   .have f1:(i:Int)<(D1.R.length:Int):=by omega
    have f2:=jD i;have f3:=ZQ (n:=(i:Int)+1);have f4:((Ce D1.B).flatMap cI++L_)[i]?=some (I ((D1.B.getD i 0:Nat):Int)):=by
     rw[zV (by rw[qR];omega),idx (by omega),aC (by have:=hS.Bg;omega)]
    by_cases hb:D1.B.getD i 0<n
    .have f5:((D1.B.getD i 0:Nat):Int)<(n:Int):=by omega
     refine .inl ⟨_,by simp only[go_sem,t0,O,Y,a4,a7,f1,f2,f3,f4,f5];rfl,m-1,by omega,?_⟩;simp only[go_sem,t0,O];refine⟨a0,i+1,S,D1,rfl,by omega,hT,Va,fun j hj=>?_,G,a3⟩
     by_cases e:j=i
     .subst e;exact hb
     .exact a2 j (by omega)
    .have f5:¬((D1.B.getD i 0:Nat):Int)<(n:Int):=by omega
     have b5:i<S.length:=by omega
     have f6:=fU (ex:=PW) (n:=N+1) b5;obtain⟨bi,Fg⟩:∃bi,bi=S[i]:=⟨_,rfl⟩;rw[<- Fg]at f6;obtain⟨Li,Uc,GZ,Ud⟩:=hT.row i b5;have b6:a1 bi=some ⟨Li.flatMap zc,2,true⟩:=by rw[Fg];exact Uc
     have rl:(DZ D1.R i).length=N+1:=by rw[dS hi];exact hS.row _ (zu hi)
     have Lu:Li.length=N+1:=by have:=congrArg List.length GZ;rw[zO,rl]at this;exact this
     have b7:=bZ (c:=zc) (s:=2) ZL Li;rw[Lu]at b7;refine bF ?_
     conv=>
      enter [1,r,1,1]
      simp only[go_sem,t0,O,Y,a4,a7,f1,f2,f4,f5]
     generalize hL:dI _ _=z;obtain⟨x,rfl,T1,k,rfl,t0,O,Y,t5,d8,hz,b8⟩:=jV hL (fun q st=>st.T 0= .rp bt 0/\st.T 1=I n/\st.T 4=I i/\st.σ=a1/\st.nx=nI/\∃k,st.T 5=I ((k:Nat):Int)/\q+k=n/\∀j,j<k->en D1.R i j=0)
      (fun x=>∃T k,x=(.exit 2,⟨T,a1,nI⟩)/\T 0= .rp bt 0/\T 1=I n/\T 4=I i/\T 5=I ((k:Nat):Int)/\k<=n/\(∀j,j<k->en D1.R i j=0)/\(k<n->en D1.R i k≠0)) (by
       clear hL;rintro q ⟨T,σ2,Ci⟩ ⟨t0,O,Y,b9,c0,k,t5,d9,hz⟩;simp only at t0 O Y t5 b9 c0;subst b9 c0
       by_cases hk:k<n
       .have g1:(k:Int)<(n:Int):=by omega
        have g2:=jD k;have e0:=hS.sz;have g3:=ZQ (n:=(k:Int)+1);have g4:=d_ (c:=zc) (s:=2) ZL Li k (by omega);have g5:k*2+2<=(N+1)*2:=by omega
        have g6:(k:Int)<((N+1:Nat):Int):=by omega
        obtain⟨hq,e⟩:=QX GZ (c:=k) (by rw[rl];omega);have e2:(DZ D1.R i)[k]'(by rw[rl];omega)=en D1.R i k:=by
         unfold en;rw[zx,zy];rfl
        have z1:∀σ d,stripL (strip σ d) (zc Li[k])=some (cZ (en D1.R i k),[]):=fun σ d=>by
         rw[ZK σ d (Ud _ (zu hq)),e,e2]
        have k1:=kG (en D1.R i k);have c1:=Oa (en D1.R i k)
        by_cases a9:en D1.R i k=0
        .rw[sO a9]at c1
         refine .inl ⟨_,by simp only[go_sem,t0,O,Y,t5,a4,a6,b6,f1,f2,f6,g1,g2,g3,g4,g5,g6,b7,z1,k1,c1];rfl,q-1,by omega,?_⟩;simp only[go_sem,t0,O,Y];refine⟨k+1,rfl,by omega,fun j hj=>?_⟩
         by_cases e:j=k
         .subst e;exact a9
         .exact hz j (by omega)
        .rw[sN a9]at c1
         refine .inr ⟨_,by simp only[go_sem,t0,O,Y,t5,a4,a6,b6,f1,f2,f6,g1,g2,g3,g4,g5,g6,b7,z1,k1,c1];rfl,by simp,_,k,rfl,?_⟩;simp only[go_sem,t0,O,Y,t5];exact⟨by omega,hz,fun _=>a9⟩
       .have g1:¬(k:Int)<(n:Int):=by omega
        refine .inr ⟨_,by simp only[go_sem,O,t5,g1];rfl,by simp,_,k,rfl,?_⟩;simp only[go_sem,t0,O,Y,t5];exact⟨by omega,hz,fun h=>absurd h hk⟩) n (by
       simp only[go_sem,t0,O,Y];exact⟨0,rfl,by omega,fun j hj=>absurd hj (zW j)⟩)
     by_cases hk:k<n
     .have g1:(k:Int)<(n:Int):=by omega
      obtain⟨e3,Aq,k4,Oh,e4,c7⟩:=aib hT hS a5 hi (by omega) (b8 hk) (by omega);have b2:=h1 D1 i k Va hi (by omega) hk (b8 hk);have b3:(F6 D1 i k).R.length=D1.R.length:=by
       unfold F6
       split
       .exact gu ..
       .show(negR _).length=_;rw[NQ,gu]
      have c8:(F6 D1 i k).B=D1.B.set i k:=by unfold F6;split<;>rfl
      refine⟨_,by simp only[go_sem,qJ,t0,O,Y,t5,g1,f3,k4];rfl,.inl ⟨_,rfl,m-1,by omega,?_⟩⟩;simp only[go_sem,t0,O];refine⟨by omega,i+1,S,_,rfl,by omega,Oh,b2,fun j hj=>?_,G,fun b a8 E=>?_⟩
      .rw[c8,lD (by have:=hS.Bg;omega)]
       by_cases e:j=i
       .rw[sS e];exact hk
       .rw[sW e];exact a2 j (by omega)
      .simp only[zX,not_or]at E
       exact(c7 b (by omega) E.1 E.2.2.1 fun e=>E.2.2.2 (G.subset e)).trans (a3 b a8 (by simp only[zX,not_or];exact E))
     .have g1:¬(k:Int)<(n:Int):=by omega
      have hzero:∀j,j<n->en D1.R i j=0:=fun j hj=>hz j (by omega)
      have b2:=h2 D1 i Va hi (by omega) hzero;have g2:(0:Int)<=(i:Int)+1:=by omega
      have c4:D1.B.length=D1.R.length:=hS.Bg;have h3:restrict a1 [br,br] br=_:=(fG a1 br).trans a6;have h4:restrict a1 [bb,bb] bb=_:=(fG a1 bb).trans a7;have p1:bt<nI:=a5 bt (by simp);have p2:br<nI:=a5 br (by simp);have p3:bb<nI:=a5 bb (by simp);have p4:(i:Int)+1<=(D1.R.length:Int):=by omega
      have p5:(i:Int)<=(D1.R.length:Int):=by omega
      have q0:(S.map (fun b=>V.rs b 0 (N+1))).length=D1.R.length:=by rw[zO,hlen]
      have q1:i<=(S.map (fun b=>V.rs b 0 (N+1))++PW).length:=by rw[zo,q0];omega
      have q2:D1.R.length<=(S.map (fun b=>V.rs b 0 (N+1))++PW).length:=by rw[zo,q0];omega
      have q3:i<=((Ce D1.B).flatMap cI++L_).length:=by rw[zo,qR];omega
      have q4:D1.R.length<=((Ce D1.B).flatMap cI++L_).length:=by rw[zo,qR];omega
      have q5:((i:Int)+1).toNat=i+1:=by omega
      have b3:(QZ D1 i).R.length=D1.R.length-1:=yR hi;have w1:(bt==br)=false:=beq_eq_false_iff_ne.mpr n1;have w2:(br==bt)=false:=beq_eq_false_iff_ne.mpr (yu n1);have w3:(bt==bb)=false:=beq_eq_false_iff_ne.mpr n2;have w4:(bb==bt)=false:=beq_eq_false_iff_ne.mpr (yu n2);have v1:¬bb=bt:=yu n2;have v2:¬bb=br:=yu n4;have v3:¬br=bt:=yu n1
      by_cases J:i+1=D1.R.length
      .have q6:i+1<=D1.R.length:=by omega
       have q7:¬D1.R.length=0:=by omega
       refine⟨_,by simp only[go_sem,t0,O,Y,t5,g1,g2,f1,f2,f3,a4,a6,a7,h3,h4,q1,q2,q3,q4,q5,q6,q7,J,v1,v2,v3,w1,w2,w3,w4,p1,p2,p3,p4,p5,n1,n2,n3,n4,n5,n6];rfl,.inl ⟨_,rfl,m-1,by omega,?_⟩⟩;simp only[go_sem,t0,O,Y];refine⟨a0,i,S.eraseIdx i,QZ D1 i,rfl,by rw[b3];omega,?_,b2,fun j hj=>?_,(tC S i).trans G,fun b a8 E=>?_⟩
       .refine DF.dropped hT hi c4 (by rw[Zi,<- J];rfl)
         (by
          obtain⟨e1,he⟩:=Oj (S.map (fun b=>V.rs b 0 (N+1))) PW (i:=i) (by rw[q0];exact J);exact⟨e1,by rw[Zj _ _ v3,a6,he]⟩)
         (by
          obtain⟨e1,he⟩:=Oj ((Ce D1.B).flatMap cI) L_ (i:=i) (by rw[qR,hB];exact J);exact⟨e1,by rw[Zj _ _ v1,a7,he]⟩) fun b c1 c2 c3=>Zj _ _ c1
       .show(D1.B.eraseIdx i).getD j 0<n
        rw[lH,sS hj];exact a2 j hj
       .simp only[zX,not_or]at E
        rw[Zj _ _ E.1];exact a3 b a8 (by simp only[zX,not_or];exact E)
      .have q6:i+1<=D1.R.length:=by omega
       have q7:¬D1.R.length - (i+1)=0:=by omega
       have q8:i+(D1.R.length - (i+1))<=(S.map (fun b=>V.rs b 0 (N+1))++PW).length:=by rw[zo,q0];omega
       have q9:i+(D1.R.length - (i+1))<=((Ce D1.B).flatMap cI++L_).length:=by rw[zo,qR];omega
       have c9:i+1+(D1.R.length - (i+1))<=(S.map (fun b=>V.rs b 0 (N+1))++PW).length:=by rw[zo,q0];omega
       have d0:i+1+(D1.R.length - (i+1))<=((Ce D1.B).flatMap cI++L_).length:=by rw[zo,qR];omega
       have d1:((S.map (fun b=>V.rs b 0 (N+1))++PW).drop (i+1)).take (D1.R.length - (i+1))=(S.map (fun b=>V.rs b 0 (N+1))).drop (i+1):=by
        rw[vk (by rw[q0];omega),uf (by rw[zN,q0];omega),zk (by rw[zN,q0];omega)]
       have d2:(((Ce D1.B).flatMap cI++L_).drop (i+1)).take (D1.R.length - (i+1))=((Ce D1.B).flatMap cI).drop (i+1):=by
        rw[vk (by rw[qR];omega),uf (by rw[zN,qR];omega),zk (by rw[zN,qR];omega)]
       have d3:((S.map (fun b=>V.rs b 0 (N+1))).drop (i+1)).all pI=true:=by
        rw[uU];intro v hv;obtain⟨b,-,rfl⟩:=List.mem_map.mp (List.mem_of_mem_drop hv);rfl
       have d4:(((Ce D1.B).flatMap cI).drop (i+1)).all pI=true:=by
        rw[uU];intro v hv;obtain⟨b,-,hv⟩:=List.mem_flatMap.mp (List.mem_of_mem_drop hv);rw[List.mem_singleton.mp hv];rfl
       refine⟨_,by simp only[go_sem,t0,O,Y,t5,g1,g2,f1,f2,f3,a4,a6,a7,h3,h4,q1,q2,q3,q4,q5,q6,q7,q8,q9,c9,d0,d1,d2,d3,d4,J,v1,v2,v3,w1,w2,w3,w4,p1,p2,p3,p4,p5,n1,n2,n3,n4,n5,n6];rfl,.inl ⟨_,rfl,m-1,by omega,?_⟩⟩;simp only[go_sem,t0,O,Y];refine⟨a0,i,S.eraseIdx i,QZ D1 i,rfl,by rw[b3];omega,?_,b2,fun j hj=>?_,(tC S i).trans G,fun b a8 E=>?_⟩
       .refine DF.dropped hT hi c4 ?_ ?_ ?_ fun b c1 c2 c3=>by rw[Zj _ _ c1,Zj _ _ c3,Zj _ _ c1,Zj _ _ c2]
        .rw[Zi,show i+(D1.R.length - (i+1))=D1.R.length-1 by omega]
        .obtain⟨e1,he⟩:=iF (S.map (fun b=>V.rs b 0 (N+1))) PW (i:=i) q0 hi q7
         exact⟨e1,by rw[Zj _ _ v3,Zj _ _ n4,Zj _ _ v3,Zi,he]⟩
        .obtain⟨e1,he⟩:=iF ((Ce D1.B).flatMap cI) L_ (i:=i) (by rw[qR,hB]) hi q7
         exact⟨e1,by rw[Zj _ _ v1,Zi,he]⟩
       .show(D1.B.eraseIdx i).getD j 0<n
        rw[lH,sS hj];exact a2 j hj
       .simp only[zX,not_or]at E
        rw[Zj _ _ E.1,Zj _ _ E.2.2.1,Zj _ _ E.1,Zj _ _ E.2.1];exact a3 b a8 (by simp only[zX,not_or];exact E)
   .have f1:¬(i:Int)<(D1.R.length:Int):=by omega
    refine .inr ⟨_,by simp only[go_sem,t0,Y,a4,f1];rfl,by simp,_,a1,nI,S,D1,rfl,hT,a0,Va,fun j hj=>a2 j (by omega),G,a3⟩) D.R.length (by
   simp only[go_sem];exact⟨0,rb,D,rfl,by omega,h,hD,fun j hj=>absurd hj (zW j),List.Sublist.refl _,fun _ _ _=>trivial⟩)
 exact⟨σ',nx',Hu,D',by simp only[go_sem],hT,a0,c6,b4,G,a3⟩
section
variable {P:Program} {conv:FuncId->Conv} {call:TV.Call} (d:Option Tmp) (ty:TypeId) (ps:String) (af:Array Edge) (gd:Option (Nat×Bool)) (T:Nat->V) (σ:Store) (nx:Nat)
theorem Ol(t:TypeId)(l c:Operand):Aa conv T σ ⟨d,.makeSlice t l c,ty,ps,af,gd⟩=[]:=rfl
theorem XJ(t:TypeId)(l c:Operand):writer conv ⟨d,.makeSlice t l c,ty,ps,af,gd⟩=false:=rfl
theorem P5(t:TypeId)(l c:Operand):Ag P conv call ⟨d,.makeSlice t l c,ty,ps,af,gd⟩ T σ nx=EL P t (val T l) (val T c) σ nx:=by
 generalize E:EL P t (val T l) (val T c) (fun _=>none) nx=r;have key:∀σ,EL P t (val T l) (val T c) σ nx=(r.map fun p=>((p.2.1 nx).elim ([],0,p.1) fun B=>(B.cells,B.st,p.1))).map fun p=>(p.2.2,Ai σ nx p.1 p.2.1,nx+1):=fun σ=>by
  rw[<- E];unfold EL
  split
  .split
   .split
    .split
     .simp only[zG,Ai,Zi];rfl
     .rfl
    .rfl
   .rfl
  .rfl
 have:=Ih (P:=P) (conv:=conv) (call:=call) (o:=⟨d,.makeSlice t l c,ty,ps,af,gd⟩) T σ nx rfl fun σ=>(Ie d ty ps af gd T σ nx t l c).trans (key σ)
 exact this.trans (key σ).symm
theorem LC(t:TypeId)(x:Operand)(h:(yI P t).slice=true)(E:(yI P t).Pj=true)(hs:(yI P t).GY=1)(G:(yI P t).Ed.length=1)(hc:pI (val T x)=true) :
  Ag P conv call ⟨d,.buildSlice t 1 #[(0,x)],ty,ps,af,gd⟩ T σ nx=some (.rs nx 0 1,upd σ nx (some ⟨[val T x],1,true⟩),nx+1):=by
 have:=Ih (P:=P) (conv:=conv) (call:=call) (o:=⟨d,.buildSlice t 1 #[(0,x)],ty,ps,af,gd⟩) (m:=some ([val T x],1,V.rs nx 0 1)) T σ nx rfl fun σ=>iV d ty ps af gd T σ nx t x h E hs G hc
 exact this
theorem afg(t:TypeId)(lo hi E:Option V)(row:List V)(len:Nat):Uf P σ nx t lo hi E (.ts row len)=AQ P t (.ts row len) lo hi E σ:=by
 show(if(([]:List Nat).all fun b=>decide (b<nx))=true then AQ P t (.ts row len) lo hi E (restrict σ [])else none)=_;rw[vN,sS rfl];unfold AQ;rfl
end
attribute [go_sem] afg Ol XJ P5 LC
theorem XK(xs:List Int):∀k,(xs.flatMap cI).drop k=(xs.drop k).flatMap cI:=by
 induction xs with
 |nil=>intro k;simp
 |cons x xs E=>intro k;cases k with
  |zero=>rfl
  |succ k=>exact E k
def CZ(m n:Nat)(A b c:List Int):List V:=[I m,I n,LI A,LI b,LI c]
theorem atM{m n:Nat}{A b c:List Int}(hA:A.length=m*n)(hm:m<=1000)(hn:n<=1000){i:Nat}(hi:i<m) :
  fn ZH conv ext 214 [.tp (CZ m n A b c) 0,I i]=some (.ts (((A.drop (i*n)).take n).flatMap cI) n):=by
 have h1:i*n<=m*n:=zC _ (by omega);have h2:(i+1)*n<=m*n:=zC _ (by omega);have h3:m*n<=1000*1000:=yE hm hn;have E:(i:Int)*(n:Int)=((i*n:Nat):Int):=by push_cast;rfl
 have G:((i:Int)+1)*(n:Int)=(((i+1)*n:Nat):Int):=by push_cast;rfl
 have J:=ZQ (n:=((i*n:Nat):Int));have O:=ZQ (n:=(((i+1)*n:Nat):Int)) (by omega) (by omega);have S:=ZQ (n:=(i:Int)+1);have Y:i*n<=(i+1)*n:=zC _ (by omega);have f5:(i+1)*n<=A.length:=by omega
 have f6:(0:Int)<=((i*n:Nat):Int):=by omega
 have f7:(0:Int)<=(((i+1)*n:Nat):Int):=by omega
 have f8:(i+1)*n-i*n=n:=by rw[xq];omega
 unfold CZ;rw[mM,nG [.tmp 4] [] func214];simp only[go_sem,E,G,J,O,S,Y,f5,f6,f7,f8];rw[XK,qP]
theorem fJ(σ:Store)(b x:Nat):restrict σ [b,x] b=σ b:=by unfold restrict;simp
theorem IU(σ:Store)(b x:Nat):restrict σ [b,x] x=σ x:=by unfold restrict;simp
theorem afh(σ:Store)(b x nx:Nat)(v:Option E_):wI [b,x] nx (nx+1) σ (upd (upd (restrict σ [b,x]) b none) nx v)=upd (upd σ b none) nx v:=by
 funext i;unfold wI upd restrict
 by_cases h:i=nx
 .subst h;simp
 .by_cases E:i=b
  .subst E;simp[h]
  .by_cases G:i=x
   .subst G;simp[h,E]
   .rw[sW (by simp only[zX,zH,or_false];omega),sW h,sW E]
theorem abm(σ:Store)(x nx:Nat)(v:Option E_):wI [x] nx (nx+1) σ (upd (restrict σ [x]) nx v)=upd σ nx v:=by
 funext i;unfold wI upd restrict
 by_cases h:i=nx
 .subst h;simp
 .by_cases E:i=x
  .subst E;simp[h]
  .rw[sW (by simp only[zX,zH,or_false];omega),sW h]
attribute [go_sem] fJ IU afh abm
def pm{α:Type}(f g:Nat->α)(k N:Nat):List α:=(List.range N).map fun j=>if j<k then f j else g j
theorem gq{α:Type}(f g:Nat->α)(k N:Nat):(pm f g k N).length=N:=by simp[pm]
theorem Ug{α:Type}(f g:Nat->α){k N j:Nat}(h:j<N):(pm f g k N)[j]'(by rw[gq];exact h)=if j<k then f j else g j:=by simp[pm]
theorem Om{α:Type}(f g:Nat->α){k N:Nat}(h:k<N):(pm f g k N).set k (f k)=pm f g (k+1) N:=by
 apply yS
 .rw[yJ,gq,gq]
 .intro j J E
  rw[gq]at E;rw[wP,Ug _ _ E,Ug _ _ E]
  by_cases e:k=j
  .subst e;rw[sS rfl,sS (by omega)]
  .rw[sW e]
   by_cases G:j<k
   .rw[sS G,sS (by omega)]
   .rw[sW G,sW (by omega)]
theorem Uh{α:Type}(f g:Nat->α){k N:Nat}(h:f k=g k):pm f g k N=pm f g (k+1) N:=by
 apply yS
 .rw[gq,gq]
 .intro j J E
  rw[gq]at E;rw[Ug _ _ E,Ug _ _ E]
  by_cases G:j<k
  .rw[sS G,sS (by omega)]
  .rw[sW G]
   by_cases e:j=k
   .subst e;rw[sS (by omega),h]
   .rw[sW (by omega)]
theorem IV{α:Type}(f g:Nat->α)(N:Nat):pm f g 0 N=(List.range N).map g:=by simp[pm]
theorem Ui{α:Type}(f g:Nat->α)(N:Nat):pm f g N N=(List.range N).map f:=by
 unfold pm;apply xO;intro j E;rw[sS (List.mem_range.mp E)]
theorem abn(l:List Bool){N:Nat}(h:l.length=N):((List.range N).map fun j=>l.getD j false)=l:=by
 apply yS
 .simp[h]
 .intro j G E
  simp[zx,zy E]
theorem fZ{α:Type}(a:α)(N:Nat):((List.range N).map fun _=>a)=List.replicate N a:=by
 rw[List.map_const',uN]
theorem fO(N:Nat)(x:Int):rep N [I x]=(List.replicate N x).flatMap cI:=by
 induction N with
 |zero=>rfl
 |succ N E=>rw[fK,E,xR];rfl
theorem aik(N:Nat)(x:Bool):rep N [Bo x]=(List.replicate N x).flatMap Ht:=by
 induction N with
 |zero=>rfl
 |succ N E=>rw[fK,E,xR];rfl
def sg(b:List Int)(i:Nat):Int:=if b.getD i 0<0 then -1 else 1
def cell0(A b:List Int)(m n i j:Nat):Int:=if j<n then sg b i*A.getD (i*n+j) 0 else if j<n+m then(if j=n+i then 1 else 0)else sg b i*b.getD i 0
def row0(A b:List Int)(m n i:Nat):List Int:=(List.range (n+m+1)).map fun j=>cell0 A b m n i j
def Et(A b:List Int)(m n k:Nat):List (List Int):=(List.range k).map fun i=>row0 A b m n i
def fr0(m n:Nat):List Bool:=(List.range (n+m)).map fun j=>decide (j<n)
def D0(A b:List Int)(m n k:Nat):TZ:={ R:=Et A b m n k,Ba:=1,B:=(List.range k).map fun i=>n+i,fr:=fr0 m n }
theorem fD(A b:List Int)(m n i:Nat):(row0 A b m n i).length=n+m+1:=by simp[row0]
theorem fE(A b:List Int)(m n i:Nat){j:Nat}(h:j<n+m+1):(row0 A b m n i)[j]'(by rw[fD];exact h)=cell0 A b m n i j:=by simp[row0]
def F8(A b:List Int)(m n i k:Nat):List (Int×Bool):=newR (row0 A b m n i) (List.replicate (n+m+1) (0,true)) k
theorem afi(A b:List Int)(m n i:Nat):(F8 A b m n i 0).flatMap zc=rep (n+m+1) [Bo false,.nil]:=by
 unfold F8;rw[JU];generalize n+m+1=q
 induction q with
 |zero=>rfl
 |succ q E=>rw[xR,fK,zT,E];rfl
theorem qX(A b:List Int)(m n i:Nat){k:Nat}(E:k<=n+m+1):(F8 A b m n i k).length=n+m+1:=by
 unfold F8;rw[jC (by rw[fD,yj]) (by rw[yj];exact E),yj]
theorem ail(A b:List Int)(m n i:Nat){k:Nat}(E:k<n+m+1):(F8 A b m n i k).set k (cell0 A b m n i k,false)=F8 A b m n i (k+1):=by
 unfold F8;rw[<- Oc (by rw[fD,yj]) (c:=k) (by rw[yj];exact E),fE _ _ _ _ _ E]
theorem Q7(A b:List Int){m n i:Nat}(hi:i<m):let L:=((F8 A b m n i n).set (n+i) (1,false)).set (n+m) (sg b i*b.getD i 0,false)
  L.map (·.1)=row0 A b m n i/\∀p∈L,p.2=true->p.1=0:=by
 intro L;have hl:L.length=n+m+1:=by simp only[L,yJ];exact qX _ _ _ _ _ (by omega)
 have hg:∀j (h:j<n+m+1),L[j]'(by rw[hl];exact h)=if j<n then(cell0 A b m n i j,false)else if j=n+m then(sg b i*b.getD i 0,false)else if j=n+i then(1,false)else(0,true):=fun j h=>by
  have e:(F8 A b m n i n)[j]'(by rw[qX _ _ _ _ _ (by omega)];exact h)=if j<n then(cell0 A b m n i j,false)else(0,true):=by
   have:(F8 A b m n i n)[j]?=some (if j<n then(cell0 A b m n i j,false)else(0,true)):=by
    unfold F8 newR;have J:(((row0 A b m n i).take n).map fun z=>(z,false)).length=n:=by rw[zO,zh,fD];omega
    by_cases O:j<n
    .rw[zV (by rw[J];exact O),sS O,yc,xE,sS O,zy (by rw[fD];omega),fE _ _ _ _ _ (by omega)]
     rfl
    .rw[zQ (by rw[J];omega),J,xX,sW O,uZ,sS (by omega)]
   rw[zy (by rw[qX _ _ _ _ _ (by omega)];exact h)]at this;exact Option.some.inj this
  simp only[L,wP,e]
  by_cases E:j<n
  .rw[sW (by omega),sW (by omega),sS E,sS E]
  .by_cases Y:j=n+m
   .rw[sS Y.symm,sW E,sS Y]
   .rw[sW (yu Y),sW E,sW Y]
    by_cases h3:j=n+i
    .rw[sS h3.symm,sW E,sS h3]
    .rw[sW (yu h3),sW E,sW h3]
 refine⟨yS (by rw[zO,hl,fD]) fun j E Y=>?_,fun p hp G=>?_⟩
 .rw[zO,hl]at E
  rw[yB,hg j E,fE _ _ _ _ _ E]
  by_cases c1:j<n
  .rw[sS c1]
  .rw[sW c1]
   unfold cell0;rw[sW c1]
   by_cases c2:j=n+m
   .rw[sS c2,sW (by omega)]
   .rw[sW c2,sS (show j<n+m by omega)]
    by_cases S:j=n+i
    .rw[sS S,sS S]
    .rw[sW S,sW S]
 .obtain⟨j,O,rfl⟩:=yV hp
  rw[hl]at O;rw[hg j O]at G⊢
  by_cases c1:j<n
  .rw[sS c1]at G;cases G
  .rw[sW c1]at G⊢
   by_cases c2:j=n+m
   .rw[sS c2]at G;cases G
   .rw[sW c2]at G⊢
    by_cases S:j=n+i
    .rw[sS S]at G;cases G
    .rw[sW S]
def Made(A b:List Int)(m n:Nat)(Gw:Nat)(σ:Store)(nx bt bf k:Nat):Prop :=
 ∃E G br bb rb,σ bt=some ⟨[E,Bo false,LI (dg 1),G,I ((n+m:Nat):Int),.rs bf 0 (n+m)],0,true⟩ /\
  ((k=0/\E= .nil/\G= .nil/\rb=[])\/(0<k/\E= .rs br 0 k/\G= .rs bb 0 k/\σ br=some ⟨rb.map fun b=>V.rs b 0 (n+m+1),1,true⟩/\σ bb=some ⟨(Ce ((List.range k).map fun i=>n+i)).flatMap cI,1,true⟩/\br≠bb/\br∉bt :: bf :: rb/\bb∉bt :: bf :: rb/\Gw<=br/\br<nx/\Gw<=bb/\bb<nx)) /\
  rb.length=k/\(∀i (h:i<rb.length),Es σ rb[i] (row0 A b m n i))/\(bt :: bf :: rb).Nodup/\(∀x∈bt :: bf :: rb,Gw<=x/\x<nx)/\σ bf=some ⟨(List.replicate (n+m) false).flatMap Ht,1,true⟩
theorem Q8{A b:List Int}{m n nx:Nat}{S σ':Store}{E i:Nat}{rb:List Nat}{L:List (Int×Bool)}(hi:i<m)(Y:rb.length=i)(a0:∀j (h:j<rb.length),Es S rb[j] (row0 A b m n j))(G:((nx+1) :: nx :: rb).Nodup)(O:∀x∈(nx+1) :: nx :: rb,nx<=x/\x<E)
  (a2:S nx=some ⟨(List.replicate (n+m) false).flatMap Ht,1,true⟩) (hL:L.map (·.1)=row0 A b m n i/\∀p∈L,p.2=true->p.1=0)
  (ht:σ' (nx+1)=some ⟨[.rs (E+1+1) 0 (i+1),Bo false,LI (dg 1),.rs (E+1+1+1+1) 0 (i+1),I ((n+m:Nat):Int),.rs nx 0 (n+m)],0,true⟩)
  (hr:σ' (E+1+1)=some ⟨rb.map (fun b=>V.rs b 0 (n+m+1))++[.rs E 0 (n+m+1)],1,true⟩)
  (hb:σ' (E+1+1+1+1)=some ⟨(Ce ((List.range i).map fun i=>n+i)).flatMap cI++[I ((n+i:Nat):Int)],1,true⟩)
  (J:σ' E=some ⟨L.flatMap zc,2,true⟩) (ho:∀x∈nx :: rb,σ' x=S x):Made A b m n nx σ' (E+1+1+1+1+1) (nx+1) nx (i+1):=by
 have a1:∀x∈rb,x≠nx+1/\x≠nx/\nx<=x/\x<E:=fun x J=>by
  have h:=O x (by simp[J]);refine⟨fun e=>?_,fun e=>?_,h.1,h.2⟩
  .subst e;simp at G;exact G.1 J
  .subst e;simp at G;exact G.2.1 J
 have a3:=O (nx+1) (by simp);refine⟨_,_,E+1+1,E+1+1+1+1,rb++[E],ht,.inr ⟨by omega,rfl,rfl,?_,?_,by omega,?_,?_,by omega,by omega,by omega,by omega⟩,by simp[Y],fun j hj=>?_,?_,fun x J=>?_,?_⟩
 .rw[hr,wX];rfl
 .rw[hb,wY,wX]
  unfold Ce;rw[wX,zU];rfl
 .simp only[zX,wW,zH,or_false,not_or]
  exact⟨by omega,by omega,fun h=>by have:=a1 _ h;omega,by omega⟩
 .simp only[zX,wW,zH,or_false,not_or]
  exact⟨by omega,by omega,fun h=>by have:=a1 _ h;omega,by omega⟩
 .by_cases h:j<rb.length
  .rw[yG h]
   exact(a0 j h).congr (ho _ (zY _ (zu h)))
  .have:j=i:=by rw[zo,yM]at hj;omega
   subst this;rw[wO (by omega)];simp only[Y,yP,List.getElem_cons_zero];exact⟨L,J,hL.1,hL.2⟩
 .rw[<- yT,<- yT]
  rw[List.nodup_append];refine⟨G,by simp,fun x J y hy=>?_⟩;rw[List.mem_singleton.mp hy];have:=O x J;omega
 .rw[<- yT,<- yT,wW]at J
  rcases J with h|h
  .have:=O x h;omega
  .rw[List.mem_singleton.mp h];omega
 .rw[ho nx (by simp)];exact a2
def o1L(m n:Nat):List Int:=(List.range (n+m)).map fun j=>if j<n then 0 else -1
theorem al4(m n:Nat):Obj (o1L m n) (n+m):=⟨by simp[o1L],fun x E=>by
 obtain⟨j,-,rfl⟩:=List.mem_map.mp E
 split<;>omega⟩
theorem acT{N:Nat}{o:Nat->Int}{Q:TZ->Prop}(h:∀D E,Q D->ES N o D E->Q E){D E:TZ}(G:ET N o D E):Q D->Q E:=by
 induction G with
 |refl=>exact id
 |tail Y J O=>exact fun S=>h _ _ (O S) J
theorem anv{N:Nat}{o:Nat->Int}{Q:TZ->Prop}(h:∀D E,Q D->ES N o D E->Q E){D E:TZ}{G:Bool}(hm:TT N o D G E)(O:Q D):∃D1 fr,Q D1/\E={ D1 with fr:=fr }/\fr.length=D1.fr.length:=by
 obtain⟨D1,S,J|J⟩:=hm
 .obtain⟨-,-,fr,Y,rfl⟩:=J
  exact⟨D1,fr,acT h S O,rfl,Y.1⟩
 .obtain⟨-,rfl,-⟩:=J
  exact⟨E,E.fr,acT h S O,rfl,rfl⟩
def al5(Q2:TZ->Prop)(A b:List Int)(m n:Nat)(σ:Store)(nx:Nat)(r:V×Store×Nat):Prop :=
 ∃σ' nx',nx<=nx'/\(∀x,x<nx->σ' x=σ x)/\∃D1 E,TT (n+m) (oF (o1L m n)) (D0 A b m n m) E D1 /\
  ((r=(.AP [.sc (.pointer none),Bo false],σ',nx')/\∃i,i<D1.R.length/\n<=D1.B.getD i 0/\0<en D1.R i (n+m)) \/
   (∃bt br bb bf rb D2,r=(.AP [.rp bt 0,Bo true],σ',nx')/\(∀i,i<D1.R.length->n<=D1.B.getD i 0->¬0<en D1.R i (n+m))/\DF σ' bt br bb bf rb D2 (n+m)/\Q2 D2/\(∀i,i<D2.R.length->D2.B.getD i 0<n)/\∀x∈bt :: br :: bb :: bf :: rb,nx<=x/\x<nx'))
theorem apA(Q1 Q2:TZ->Prop){A b c:List Int}{m n:Nat}(hA:A.length=m*n)(hb:b.length=m)(O:0<m)(hm:m<=400)(hn:n<=400)(o2:∀x∈A,-1000000<=x/\x<=1000000)(o3:∀x∈b,-1000000<=x/\x<=1000000)
  (Va:∀D,Q1 D->Xy D (n+m)/\0<D.Ba) (f8:∀D D',Q1 D->ES (n+m) (oF (o1L m n)) D D'->Q1 D') (i7:Q1 (D0 A b m n m)) {K:Nat} (o4:II (n+m) (oF (o1L m n)) K (D0 A b m n m))
  (o5:∀D,Q2 D->Xy D (n+m)/\0<D.Ba) (h1:∀D i k,Q2 D->i<D.R.length->n<=D.B.getD i 0->k<n->en D.R i k≠0->Q2 (F6 D i k))
  (o6:∀D i,Q2 D->i<D.R.length->n<=D.B.getD i 0->(∀k,k<n->en D.R i k=0)->Q2 (QZ D i))
  (j9:∀D1 f9,TT (n+m) (oF (o1L m n)) (D0 A b m n m) f9 D1->(∀i,i<D1.R.length->n<=D1.B.getD i 0->¬0<en D1.R i (n+m))->Q2 { D1 with fr:=fr0 m n })
  (σ:Store) (nx:Nat):∃r,ev ZH qI Af 186 [.tp (CZ m n A b c) 0] σ nx=some r/\al5 Q2 A b m n σ nx r:=by
 obtain⟨N,hN⟩:∃N,N=n+m:=⟨_,rfl⟩;have f1:(n:Int)+(m:Int)=(N:Int):=by omega
 have f2:=ZQ (n:=(N:Int));have f3:=jD N;have f4:1*(N:Int)<=281474976710656:=by omega
 have f5:(N:Int)<=9223372036854775807:=by omega
 have k1:fn ZH conv ext 199 [I 1]=some (.agg [Bo false,LI (dg 1)]):=kM 1 (by decide) (by decide)
 unfold CZ;rw[nG [.tmp 2,.tmp 3] [15,18,24,38] func186];simp only[go_sem,f1,f2,f3,f4,f5,k1];generalize hL:dI _ _=y;obtain⟨x,rfl,T1,c3,E,rfl,t0,J,G,s8,o7,hM⟩:=pF hL m (fun i st=>st.T 0= .tp (CZ m n A b c) 0/\st.T 4=I N/\st.T 5= .rp (nx+1) 0/\st.T 34=I m/\st.T 35=I i/\nx<=st.nx/\(∀x,x<nx->st.σ x=σ x)/\Made A b m n nx st.σ st.nx (nx+1) nx i)
  (fun x=>∃T c3 E,x=(.exit 0,⟨T,c3,E⟩)/\T 0= .tp (CZ m n A b c) 0/\T 4=I N/\T 5= .rp (nx+1) 0/\nx<=E/\(∀x,x<nx->c3 x=σ x)/\Made A b m n nx c3 E (nx+1) nx m) (by
   clear hL;rintro i ⟨T,c3,E⟩ hi ⟨t0,J,G,S,Y,h5,e5,hM⟩;simp only at t0 J G S Y h5 e5 hM;have g1:(i:Int)<(m:Int):=by omega
   have g2:=jD i;have g3:=ZQ (n:=(i:Int)+1);unfold CZ at t0;have g4:=ZQ (n:=(N:Int)+1);have g5:(0:Int)<=(N:Int)+1:=by omega
   have g6:32*((N:Int)+1)<=281474976710656:=by omega
   have g7:(N:Int)+1<=9223372036854775807:=by omega
   have g8:((N:Int)+1).toNat=N+1:=by omega
   have g9:(i:Int)<(b.length:Int):=by omega
   have i9:(b.flatMap cI)[i]?=some (I (b.getD i 0)):=by
    rw[idx (by omega),zx,zy (by omega)];rfl
   have j0:=AZ b i (by omega);have bl:(b.flatMap cI).length=b.length:=qR b;have t1:-1000000<=b.getD i 0/\b.getD i 0<=1000000:=by
    rw[zx,zy (by omega)];exact o3 _ (zu (by omega))
   have k2:=atM (b:=b) (c:=c) hA (by omega) (by omega) hi;unfold CZ at k2;obtain⟨Rw,j1⟩:∃Rw,Rw=(A.drop (i*n)).take n:=⟨_,rfl⟩;rw[<- j1]at k2;have h1:(i+1)*n<=m*n:=zC _ (by omega);rw[xq]at h1;have h6:Rw.length=n:=by rw[j1,zh,zN];omega
   have o9:∀j (h:j<n),Rw[j]'(by omega)=A.getD (i*n+j) 0:=fun j h=>by
    subst j1;rw[uh,List.getElem_drop,zx,zy (by omega)];rfl
   have p0:∀j (h:j<n),-1000000<=A.getD (i*n+j) 0/\A.getD (i*n+j) 0<=1000000:=fun j h=>by
    rw[zx,zy (by omega)];exact o2 _ (zu (by omega))
   obtain⟨s,hs,k0⟩:∃s,s=sg b i/\((b.getD i 0<0/\s= -1)\/(¬b.getD i 0<0/\s=1)):=by
    refine⟨_,rfl,?_⟩;unfold sg
    by_cases h:b.getD i 0<0
    .exact .inl ⟨h,sS h⟩
    .exact .inr ⟨h,sW h⟩
   have k3:s=1\/s= -1:=by rcases k0 with ⟨_,h⟩|⟨_,h⟩<;>simp[h]
   refine bF ?_;rcases k0 with ⟨h8,k4⟩|⟨h8,k4⟩
   all_goals
    conv=>
     enter [1,r,1,1]
     simp only[go_sem,t0,J,G,S,Y,g1,g2,g3,g4,g5,g6,g7,g8,g9,i9,j0,bl,h8,k2]
    generalize hL:dI _ _=z;obtain⟨x,rfl,T1,rfl,t0,J,G,t6,t7,t8,S,Y⟩:=pF hL n (fun j st=>st.T 0= .tp (CZ m n A b c) 0/\st.T 4=I N/\st.T 5= .rp (nx+1) 0/\st.T 6=I i/\st.T 7= .rs E 0 (N+1)/\st.T 8=I s/\st.T 34=I m/\st.T 35=I i/\st.T 51= .ts (Rw.flatMap cI) n/\st.T 52=I n/\st.T 53=I j/\st.nx=E+1/\st.σ=upd c3 E (some ⟨(F8 A b m n i j).flatMap zc,2,true⟩))
     (fun x=>∃T,x=(.exit 2,⟨T,upd c3 E (some ⟨(F8 A b m n i n).flatMap zc,2,true⟩),E+1⟩)/\T 0= .tp (CZ m n A b c) 0/\T 4=I N/\T 5= .rp (nx+1) 0/\T 6=I i/\T 7= .rs E 0 (N+1)/\T 8=I s/\T 34=I m/\T 35=I i) (by
      clear hL;rintro j ⟨T,σ2,m0⟩ hj ⟨t0,J,G,t6,t7,t8,S,Y,g0,e6,e7,O,c4⟩;simp only at t0 J G t6 t7 t8 S Y g0 e6 e7 O c4;subst O c4;have a1:(j:Int)<(n:Int):=by omega
      have a2:=jD j;have a3:=ZQ (n:=(j:Int)+1);have a4:(Rw.flatMap cI)[j]?=some (I (A.getD (i*n+j) 0)):=by rw[idx (by omega),o9 j hj]
      have h7:=AZ Rw j (by omega);have a5:(Rw.flatMap cI).length=n:=by rw[qR,h6]
      have hx:=p0 j hj;obtain⟨x,ex⟩:∃x,x=A.getD (i*n+j) 0:=⟨_,rfl⟩;rw[<- ex]at a4 hx;have p1:-1000000<=s*x/\s*x<=1000000:=by rcases k3 with h|h<;>rw[h]<;>omega
      have a6:=ZQ (n:=s*x);have a7:=kM (s*x) (by omega) (by omega);have a8:=bZ (c:=zc) (s:=2) ZL (F8 A b m n i j);rw[qX _ _ _ _ _ (by omega),<- hN]at a8;have a9:(j:Int)<((N+1:Nat):Int):=by omega
      have h9:j*2+2<=(N+1)*2:=by omega
      have i0:patch ((F8 A b m n i j).flatMap zc) (j*2) (cZ (s*x))=(F8 A b m n i (j+1)).flatMap zc:=by
       rw[<- acP,iD ZL _ _ (by rw[qX _ _ _ _ _ (by omega)];omega),<- ail _ _ _ _ _ (by omega)];congr 3;unfold cell0;rw[sS hj,<- ex,hs]
      refine .inl ⟨_,by simp only[go_sem,t0,J,G,t6,t7,t8,S,Y,g0,e6,e7,a1,a2,a3,a4,a5,a6,a7,a8,a9,h9,i0,h7];rfl,?_⟩;simp only[go_sem,t0,J,G,t6,t7,t8,S,Y,g0,e6,e7];rfl) (by
      rintro ⟨T,σ2,m0⟩ ⟨t0,J,G,t6,t7,t8,S,Y,g0,e6,e7,O,c4⟩;simp only at t0 J G t6 t7 t8 S Y g0 e6 e7 O c4;subst O c4;have a1:¬(n:Int)<(n:Int):=by omega
      refine⟨_,by simp only[go_sem,e6,e7,a1];rfl,by simp,_,rfl,?_⟩;simp only[go_sem,t0,J,G,t6,t7,t8,S,Y]) (by
      simp only[go_sem,afi,<- hN,k4,CZ,t0,J,G,S,Y])
    clear hL;obtain⟨L2,i1⟩:∃L2,L2=(F8 A b m n i n).set (n+i) (1,false):=⟨_,rfl⟩;obtain⟨L3,i2⟩:∃L3,L3=L2.set (n+m) (s*b.getD i 0,false):=⟨_,rfl⟩;have j2:=qX A b m n i (k:=n) (by omega);have j3:L2.length=n+m+1:=by rw[i1,yJ];exact j2
    have t9:L3.length=n+m+1:=by rw[i2,yJ];exact j3
    have d1:patch ((F8 A b m n i n).flatMap zc) ((n+i)*2) [Bo false,LI (dg 1)]=L2.flatMap zc:=by
     rw[i1,<- iD ZL _ _ (by rw[j2];omega)];rfl
    have d2:patch (L2.flatMap zc) (N*2) (cZ (s*b.getD i 0))=L3.flatMap zc:=by
     rw[i2,hN,<- iD ZL _ _ (by rw[j3];omega),<- acP]
    have d3:=bZ (c:=zc) (s:=2) ZL (F8 A b m n i n);rw[j2,<- hN]at d3;have d4:=bZ (c:=zc) (s:=2) ZL L2;rw[j3,<- hN]at d4;have p1:-1000000<=s*b.getD i 0/\s*b.getD i 0<=1000000:=by rcases k3 with h|h<;>rw[h]<;>omega
    have a1:=ZQ (n:=s*b.getD i 0);have a2:=kM (s*b.getD i 0) (by omega) (by omega);have a3:(n:Int)+(i:Int)=((n+i:Nat):Int):=by omega
    have a4:=ZQ (n:=((n+i:Nat):Int));have a5:((n+i:Nat):Int)<((N+1:Nat):Int):=by omega
    have a6:(0:Int)<=((n+i:Nat):Int):=by omega
    have a7:(N:Int)<((N+1:Nat):Int):=by omega
    have a8:(n+i)*2+2<=(N+1)*2:=by omega
    have a9:N*2+2<=(N+1)*2:=by omega
    have h9:E<E+1:=by omega
    obtain⟨rV,bV,br,bb,rb,e8,d5,h0,e0,c8,c9,i3⟩:=hM;have u0:nx+1<E:=(c9 _ (by simp)).2;have i0:¬nx+1=E:=by omega
    have h7:¬nx+1=E+1:=by omega
    have k5:¬nx+1=E+1+1:=by omega
    have k6:¬nx+1=E+1+1+1:=by omega
    have k7:¬nx+1=E+1+1+1+1:=by omega
    have k8:nx+1<E+1+1:=by omega
    have k9:nx+1<E+1+1+1:=by omega
    have l1:nx+1<E+1+1+1+1:=by omega
    have l2:1<=maxLen:=by decide
    have l3:nx+1<E+1+1+1+1+1:=by omega
    have l4:E+1+1+1<E+1+1+1+1:=by omega
    have l5:E+1+1<E+1+1+1:=by omega
    have l6:E+1<E+1+1:=by omega
    have l7:¬E+1=nx+1:=by omega
    have e9:¬E+1+1=nx+1:=by omega
    have l8:¬E+1+1+1=nx+1:=by omega
    have i4:¬E+1+1+1+1=nx+1:=by omega
    unfold CZ at t0;rcases d5 with ⟨hi0,rfl,rfl,rfl⟩|⟨hk,rfl,rfl,j4,j5,a0,Uj,Uk,l9,j6,m1,j7⟩
    .refine⟨_,by simp only[go_sem,t0,J,G,t6,t7,t8,S,Y,e8,k1,f3,g1,g2,g3,g9,i9,j0,bl,d1,d2,d3,d4,a1,a2,a3,a4,a5,a6,a7,a8,a9,h9,i0,h7,k5,k6,k7,k8,k9,l1,l2,l7,e9,l8,i4,l3,l4,l5,l6];rfl,.inl ⟨_,rfl,?_⟩⟩
     simp only[go_sem,t0,J,G,S,Y];refine⟨rfl,rfl,by omega,fun x hx=>?_,Q8 (L:=L3) hi h0 e0 c8 c9 i3 (by rw[i2,i1,hs];exact Q7 A b hi) ?_ ?_ ?_ ?_ fun x hx=>?_⟩
     .rw[Zk,Zk,Zk,Zk,Zk,Zk,Zk]
      exact e5 x hx
     .rw[Zi,hi0]
     .rw[Zj _ _ e9,Zk,Zk,Zj _ _ e9,Zi,hN];rfl
     .rw[Zj _ _ i4,Zi,hi0];rfl
     .rw[Zk,Zk,Zk,Zk,Zk,Zk,Zi]
     .rw[List.mem_singleton.mp hx]
      rw[Zk,Zk,Zk,Zk,Zk,Zk,Zk]
    .have b1:(rb.map fun b=>V.rs b 0 (n+m+1)).length=i:=by rw[zO,h0]
     have b2:((Ce ((List.range i).map fun i=>n+i)).flatMap cI).length=i:=by rw[qR,aB];simp
     have b3:¬i+1<=i:=by omega
     have b4:i+1<=maxLen:=by unfold maxLen;omega
     have b5:(i+1)*24<=140737488355328:=by omega
     have b6:(i+1)*8<=140737488355328:=by omega
     have b7:¬br=E:=by omega
     have b8:¬br=E+1:=by omega
     have b9:¬bb=E:=by omega
     have p2:¬bb=E+1:=by omega
     have p3:¬bb=E+1+1:=by omega
     have p4:¬bb=E+1+1+1:=by omega
     have m2:¬bb=nx+1:=fun e=>Uk (by simp[e])
     have m3:¬br=nx+1:=fun e=>Uj (by simp[e])
     have p5:¬bb=br:=yu a0;have p6:¬nx+1=br:=yu m3;have p7:¬nx+1=bb:=yu m2;have p8:bb<E+1+1+1:=by omega
     have p9:bb<E+1+1+1+1:=by omega
     refine⟨_,by simp only[go_sem,t0,J,G,t6,t7,t8,S,Y,e8,k1,f3,g1,g2,g3,g9,i9,j0,bl,d1,d2,d3,d4,a1,a2,a3,a4,a5,a6,a7,a8,a9,h9,i0,h7,k5,k6,k7,k8,k9,l1,l2,l7,e9,l8,i4,l3,l4,l5,l6,j4,j5,b1,b2,b3,b4,b5,b6,b7,b8,b9,p2,p3,p4,m2,m3,p5,p6,p7,p8,p9];rfl,.inl ⟨_,rfl,?_⟩⟩;simp only[go_sem,t0,J,G,S,Y];refine⟨rfl,rfl,by omega,fun x hx=>?_,Q8 (L:=L3) hi h0 e0 c8 c9 i3 (by rw[i2,i1,hs];exact Q7 A b hi) ?_ ?_ ?_ ?_ fun x hx=>?_⟩
     .repeat rw[Zk]
      exact e5 x hx
     .rw[Zi]
     .rw[Zj _ _ e9,Zk,Zk,Zk,Zj _ _ e9,Zi,hN]
     .rw[Zj _ _ i4,Zi]
     .repeat rw[Zk]
      rw[Zi]
     .have u1:=c9 x (zY _ hx)
      have e1:x≠nx+1:=fun e=>by subst e;exact(List.nodup_cons.mp c8).1 hx
      have e2:x≠br:=fun e=>by subst e;exact Uj (zY _ hx)
      have e3:x≠bb:=fun e=>by subst e;exact Uk (zY _ hx)
      repeat rw[Zk]) (by
   rintro ⟨T,c3,E⟩ ⟨t0,J,G,S,Y,h5,e5,hM⟩;simp only at t0 J G S Y h5 e5 hM;have g1:¬(m:Int)<(m:Int):=by omega
   refine⟨_,by simp only[go_sem,S,Y,g1];rfl,by simp,_,_,_,rfl,?_⟩;exact⟨t0,J,G,h5,e5,hM⟩) (by
   simp only[go_sem];refine⟨rfl,by omega,fun x hx=>?_,?_⟩
   .rw[Zk,Zk]
   .refine⟨.nil,.nil,0,0,[],?_,.inl ⟨rfl,rfl,rfl,rfl⟩,rfl,fun i h=>absurd h (zW _),by simp,by simp;omega,?_⟩
    .rw[Zi,hN]
    .rw[Zk,Zi,<- hN,<- aik])
 clear hL;obtain⟨rV,bV,br,bb,rb,e8,d5,h0,e0,c8,c9,i3⟩:=hM;obtain⟨-,rfl,rfl,j4,j5,a0,Uj,Uk,l9,j6,m1,j7⟩:0<m/\rV= .rs br 0 m/\bV= .rs bb 0 m/\c3 br=some ⟨rb.map fun b=>V.rs b 0 (n+m+1),1,true⟩/\c3 bb=some ⟨(Ce ((List.range m).map fun i=>n+i)).flatMap cI,1,true⟩/\br≠bb/\br∉(nx+1) :: nx :: rb/\bb∉(nx+1) :: nx :: rb/\nx<=br/\br<E/\nx<=bb/\bb<E:=by
  rcases d5 with ⟨h,_⟩|h
  .omega
  .exact h
 have u2:nx+1<E:=(c9 _ (by simp)).2;have c1:8*(N:Int)<=281474976710656:=by omega
 unfold CZ at t0;rw[<- hN]at e8;simp only[go_sem,t0,J,G,f2,f3,c1,f5];generalize hL:dI _ _=z
 obtain⟨x,rfl,T2,σ2,rfl,t0,J,G,c5,q0,r0,h2⟩:=pF hL N (fun k st=>st.T 0= .tp (CZ m n A b c) 0/\st.T 4=I N/\st.T 5= .rp (nx+1) 0/\st.T 11= .rs E 0 N/\st.T 117=I N/\st.T 118=I k/\st.nx=E+1 /\
   st.σ nx=some ⟨(pm (fun j=>decide (j<n)) (fun _=>false) k N).flatMap Ht,1,true⟩/\st.σ E=some ⟨(pm (fun j=>if j<n then(0:Int)else -1) (fun _=>0) k N).flatMap cI,1,true⟩/\∀x,x<E->x≠nx->st.σ x=c3 x)
  (fun x=>∃T σ2,x=(.exit 4,⟨T,σ2,E+1⟩)/\T 0= .tp (CZ m n A b c) 0/\T 4=I N/\T 5= .rp (nx+1) 0/\T 11= .rs E 0 N /\
   σ2 nx=some ⟨(fr0 m n).flatMap Ht,1,true⟩/\σ2 E=some ⟨(o1L m n).flatMap cI,1,true⟩/\∀x,x<E->x≠nx->σ2 x=c3 x) (by
   clear hL;rintro k ⟨T,σ2,m0⟩ hk ⟨t0,J,G,c5,c0,f0,O,hf,ho,hs⟩;simp only at t0 J G c5 c0 f0 O hf ho hs;subst O;have g1:(k:Int)<(N:Int):=by omega
   have g2:=jD k;have g3:=ZQ (n:=(k:Int)+1);have Oi:=(hs (nx+1) (by omega) (by omega)).trans e8;have q1:nx+1<E+1:=by omega
   have q2:nx<E+1:=by omega
   have q3:¬nx+1=nx:=by omega
   have q4:¬nx=nx+1:=by omega
   have q5:¬E=nx:=by omega
   have q6:((pm (fun j=>decide (j<n)) (fun _=>false) k N).flatMap Ht).length=N:=by rw[acR,gq,yQ]
   have q7:((pm (fun j=>if j<n then(0:Int)else -1) (fun _=>0) k N).flatMap cI).length=N:=by rw[qR,gq]
   have q8:k+1<=N:=hk;unfold CZ at t0;have e1:∀bb,bb=decide (k<n)->((pm (fun j=>decide (j<n)) (fun _=>false) k N).flatMap Ht).set k (Bo bb)=(pm (fun j=>decide (j<n)) (fun _=>false) (k+1) N).flatMap Ht:=fun bb h=>by
    rw[Ue,h,Om (fun j=>decide (j<n)) (fun _=>false) hk]
   by_cases d6:k<n
   .have g4:(k:Int)<(n:Int):=by omega
    have g5:¬(n:Int)<=(k:Int):=by omega
    have e2:=e1 true (by rw[sO d6]);have e3:=Uh (fun j=>if j<n then(0:Int)else -1) (fun _=>0) (k:=k) (N:=N) (by simp only[sS d6]);refine .inl ⟨_,by simp only[go_sem,t0,J,G,c5,c0,f0,Oi,hf,ho,hk,g1,g2,g3,g4,g5,q1,q2,q3,q4,q5,q6,q7,q8,e2];rfl,?_⟩;simp only[go_sem,t0,J,G,c5,c0,q5];exact⟨rfl,rfl,by rw[ho,e3],fun x hx a0=>by rw[Zj _ _ a0];exact hs x hx a0⟩
   .have g4:¬(k:Int)<(n:Int):=by omega
    have g5:(n:Int)<=(k:Int):=by omega
    have e2:=e1 false (by rw[sN d6]);have e3:((pm (fun j=>if j<n then(0:Int)else -1) (fun _=>0) k N).flatMap cI).set k (I (-1))=(pm (fun j=>if j<n then(0:Int)else -1) (fun _=>0) (k+1) N).flatMap cI:=by
     rw[qQ,<- Om (fun j=>if j<n then(0:Int)else -1) (fun _=>0) hk];simp only[sW d6]
    refine .inl ⟨_,by simp only[go_sem,t0,J,G,c5,c0,f0,Oi,hf,ho,hk,g1,g2,g3,g4,g5,q1,q2,q3,q4,q5,q6,q7,q8,e2,e3];rfl,?_⟩;simp only[go_sem,t0,J,G,c5,c0,q5];refine⟨rfl,rfl,?_,fun x hx a0=>?_⟩
    .rw[Zk,Zi]
    .rw[Zk,Zj _ _ a0];exact hs x hx a0) (by
   rintro ⟨T,σ2,m0⟩ ⟨t0,J,G,c5,c0,f0,O,hf,ho,hs⟩;simp only at t0 J G c5 c0 f0 O hf ho hs;subst O;have g1:¬(N:Int)<(N:Int):=by omega
   refine⟨_,by simp only[go_sem,c0,f0,g1];rfl,by simp,_,_,rfl,?_⟩;simp only[go_sem,t0,J,G,c5];rw[Ui]at hf ho;unfold fr0 o1L;rw[<- hN];exact⟨hf,ho,hs⟩) (by
   simp only[go_sem,t0,J,G];refine⟨rfl,?_,?_,fun x hx _=>?_⟩
   .rw[Zk,IV,fZ,hN];exact i3
   .rw[IV,fZ,<- fO]
   .rw[Zk])
 clear hL;have d7:∀x∈(nx+1) :: br :: bb :: nx :: rb,nx<=x/\x<E:=fun x hx=>by
  simp only[zX]at hx;rcases hx with h|h|h|h|h
  .exact c9 x (by simp[h])
  .subst h;exact⟨l9,j6⟩
  .subst h;exact⟨m1,j7⟩
  .exact c9 x (by simp[h])
  .exact c9 x (by simp[h])
 have m4:((nx+1) :: br :: bb :: nx :: rb).Nodup:=by
  simp only[xZ,zX,not_or]at c8 Uj Uk⊢;exact⟨⟨fun e=>Uj.1 e.symm,fun e=>Uk.1 e.symm,c8.1.1,c8.1.2⟩,⟨a0,Uj.2.1,Uj.2.2⟩,⟨Uk.2.1,Uk.2.2⟩,c8.2.1,c8.2.2⟩
 have hT:DF σ2 (nx+1) br bb nx rb (D0 A b m n m) (n+m):=by
  obtain⟨n1,n2,n3,n4,n5,n6,n7,n8⟩:=nd4 m4;have h6:(D0 A b m n m).R.length=m:=by simp[D0,Et]
  refine⟨?_,⟨[],?_⟩,fun i hi=>?_,⟨[],?_⟩,q0,by rw[h6,h0],m4⟩
  .rw[h2 (nx+1) (by omega) (by omega),e8,h6,hN];rfl
  .rw[h2 br j6 n5,j4,zK]
  .have r1:=zu hi
   have:=d7 rb[i] (by simp);have e:DZ (D0 A b m n m).R i=row0 A b m n i:=by
    unfold D0 Et DZ;rw[zx,yc,w_ (by omega)];rfl
   rw[e];exact(e0 i hi).congr (h2 _ this.2 (n7 _ r1).2.2.2)
  .rw[h2 bb j7 n6,j5,zK];rfl
 obtain⟨u5,u6⟩:=Va _ i7;obtain⟨d8,Aq,f9,D1,ke,d0,Oh,s9,r2⟩:=atL Q1 Va f8 (al4 m n) i7 o4 hT (nx:=E+1) (fun x hx=>by have:=d7 x hx;omega) r0 (by omega) (fun hx=>by have:=d7 E hx;omega);rw[<- hN]at ke;obtain⟨r3,m5,m6,rfl,r4⟩:=anv f8 d0 i7;have f7:=(Va _ m6).1.free (fr:=m5) (by rw[r4];exact(Va _ m6).1.Xz);obtain⟨D1,r5⟩:∃D1:TZ,D1={ r3 with fr:=m5 }:=⟨_,rfl⟩;rw[<- r5]at Oh d0 f7;have LD:=Oh.t;have i5:nx+1<Aq:=by omega
 simp only[go_sem,qJ,t0,J,G,c5,ke,LD,i5];generalize hL:dI _ _=z;obtain⟨n1,n2,n3,n4,n5,n6,n7,n8⟩:=nd4 Oh.nd;have u7:=f7.Gn;have r6:=Oh.len;obtain⟨PW,m7⟩:=Oh.r;obtain⟨L_,j8⟩:=Oh.b;have u9:(Ce D1.B).length=D1.R.length:=by rw[aB];exact f7.Bg
 obtain⟨x,rfl,hx⟩:=pF hL D1.R.length (fun i st=>st.T 0= .tp (CZ m n A b c) 0/\st.T 4=I N/\st.T 5= .rp (nx+1) 0/\st.T 149= .rs bb 0 D1.R.length/\st.T 150=I D1.R.length/\st.T 151=I i/\st.σ=d8/\st.nx=Aq/\∀j,j<i->n<=D1.B.getD j 0->¬0<en D1.R j (n+m))
  (fun x=>∃T,(x=(.exit 6,⟨T,d8,Aq⟩)/\T 0= .tp (CZ m n A b c) 0/\T 5= .rp (nx+1) 0/\∀j,j<D1.R.length->n<=D1.B.getD j 0->¬0<en D1.R j (n+m)) \/
   (x=(.ret,⟨T,d8,Aq⟩)/\T 2= .sc (.pointer none)/\T 3=Bo false/\∃i,i<D1.R.length/\n<=D1.B.getD i 0/\0<en D1.R i (n+m))) (by
   clear hL;rintro i ⟨T,CB,Fh⟩ hi ⟨t0,J,G,XL,Ul,d9,c4,h3,c6⟩;simp only at t0 J G XL Ul d9 c4 h3;subst c4 h3;have g1:(i:Int)<(D1.R.length:Int):=by omega
   have g2:=jD i;have g3:=ZQ (n:=(i:Int)+1);have g4:((Ce D1.B).flatMap cI++L_)[i]?=some (I ((D1.B.getD i 0:Nat):Int)):=by
    rw[zV (by rw[qR];omega),idx (by omega),aC (by have:=f7.Bg;omega)]
   unfold CZ at t0;have next:∀(hn:n<=D1.B.getD i 0->¬0<en D1.R i (n+m)),∀j,j<i+1->n<=D1.B.getD j 0->¬0<en D1.R j (n+m):=fun hn j hj h=>by
    by_cases e:j=i
    .subst e;exact hn h
    .exact c6 j (by omega) h
   by_cases m8:n<=D1.B.getD i 0
   .have g5:(n:Int)<=((D1.B.getD i 0:Nat):Int):=by omega
    have m9:i<rb.length:=by omega
    have f6:=fU (ex:=PW) (n:=n+m+1) m9;obtain⟨bi,Fg⟩:∃bi,bi=rb[i]:=⟨_,rfl⟩;rw[<- Fg]at f6;obtain⟨Li,Uc,GZ,Ud⟩:=Oh.row i m9;have n0:CB bi=some ⟨Li.flatMap zc,2,true⟩:=by rw[Fg];exact Uc
    have rl:(DZ D1.R i).length=n+m+1:=by rw[dS hi];exact f7.row _ (zu hi)
    have Lu:Li.length=n+m+1:=by have:=congrArg List.length GZ;rw[zO,rl]at this;exact this
    have b7:=bZ (c:=zc) (s:=2) ZL Li;rw[Lu]at b7;have g6:=d_ (c:=zc) (s:=2) ZL Li N (by omega);have g7:N*2+2<=(n+m+1)*2:=by omega
    have g8:(N:Int)<((n+m+1:Nat):Int):=by omega
    obtain⟨hq,e⟩:=QX GZ (c:=N) (by rw[rl];omega);have e2:(DZ D1.R i)[N]'(by rw[rl];omega)=en D1.R i (n+m):=by
     unfold en;rw[zx,zy (by rw[rl];omega)];simp only[hN];rfl
    have z1:∀σ d,stripL (strip σ d) (zc Li[N])=some (cZ (en D1.R i (n+m)),[]):=fun σ d=>by
     rw[ZK σ d (Ud _ (zu hq)),e,e2]
    have k1:=kG (en D1.R i (n+m));have c1:=pV (en D1.R i (n+m))
    by_cases e4:0<en D1.R i (n+m)
    .have c2:0<Ak (en D1.R i (n+m)) 0:=by
      have:=mt c1.mp (fun h=>h e4);omega
     refine .inr ⟨_,by simp only[go_sem,t0,J,G,XL,Ul,d9,LD,j8,m7,n0,f3,f6,g1,g2,g3,g4,g5,g6,g7,g8,b7,z1,k1,c2];rfl,by simp,_,.inr ⟨rfl,?_⟩⟩;simp only[go_sem];exact⟨i,hi,m8,e4⟩
    .have c2:¬0<Ak (en D1.R i (n+m)) 0:=by
      have:=c1.mpr e4;omega
     refine .inl ⟨_,by simp only[go_sem,t0,J,G,XL,Ul,d9,LD,j8,m7,n0,f3,f6,g1,g2,g3,g4,g5,g6,g7,g8,b7,z1,k1,c2];rfl,?_⟩;simp only[go_sem,t0,J,G,XL,Ul];exact⟨rfl,rfl,next fun _=>e4⟩
   .have g5:¬(n:Int)<=((D1.B.getD i 0:Nat):Int):=by omega
    refine .inl ⟨_,by simp only[go_sem,t0,J,G,XL,Ul,d9,j8,g1,g2,g3,g4,g5];rfl,?_⟩;simp only[go_sem,t0,J,G,XL,Ul];exact⟨rfl,rfl,next fun h=>absurd h m8⟩) (by
   rintro ⟨T,CB,Fh⟩ ⟨t0,J,G,XL,Ul,d9,c4,h3,c6⟩;simp only at t0 J G XL Ul d9 c4 h3;subst c4 h3;have g1:¬(D1.R.length:Int)<(D1.R.length:Int):=by omega
   refine⟨_,by simp only[go_sem,Ul,d9,g1];rfl,by simp,_,.inl ⟨rfl,?_⟩⟩;simp only[go_sem,t0,G];exact c6) (by
   simp only[go_sem,t0,J,G];exact fun j hj=>absurd hj (zW j))
 clear hL;have i6:∀x,x<nx->d8 x=σ x:=fun x hx=>by
  have e1:=r2 x (by omega) (fun h=>by
   have:=d7 x (by simp only[zX]at h⊢;rcases h with h|h|h|h<;>simp[h]);omega)
  rw[e1,h2 x (by omega) (by omega),o7 x hx]
 rcases hx with ⟨T3,⟨rfl,t0,G,c6⟩|⟨rfl,t2,t3,hi⟩⟩
 .unfold CZ at t0
  have r7:=Oh.f;have r8:D1.fr.length=N:=by rw[f7.Xz,hN]
  have n9:nx<Aq:=by omega
  simp only[go_sem,t0,G,LD,i5];generalize hL:dI _ _=z
  obtain⟨x,rfl,T4,CB,rfl,t0,G,r9,h4⟩:=pF hL N (fun k st=>st.T 0= .tp (CZ m n A b c) 0/\st.T 5= .rp (nx+1) 0/\st.T 181=I N/\st.T 182=I k/\st.nx=Aq /\
    st.σ nx=some ⟨(pm (fun j=>decide (j<n)) (fun j=>D1.fr.getD j false) k N).flatMap Ht,1,true⟩/\∀x,x≠nx->st.σ x=d8 x)
   (fun x=>∃T CB,x=(.exit 8,⟨T,CB,Aq⟩)/\T 0= .tp (CZ m n A b c) 0/\T 5= .rp (nx+1) 0/\CB nx=some ⟨(fr0 m n).flatMap Ht,1,true⟩/\∀x,x≠nx->CB x=d8 x) (by
    clear hL;rintro k ⟨T,CB,m0⟩ hk ⟨t0,G,XM,c7,O,hf,hs⟩;simp only at t0 G XM c7 O hf hs;subst O;have g1:(k:Int)<(N:Int):=by omega
    have g2:=jD k;have g3:=ZQ (n:=(k:Int)+1);have o0:=(hs (nx+1) (by omega)).trans LD;have q3:¬nx+1=nx:=by omega
    have q4:¬nx=nx+1:=by omega
    have q6:((pm (fun j=>decide (j<n)) (fun j=>D1.fr.getD j false) k N).flatMap Ht).length=N:=by rw[acR,gq,yQ]
    have q8:k+1<=N:=hk;have q9:(k:Int)<((n+m:Nat):Int):=by omega
    unfold CZ at t0;have e1:∀bb,bb=decide (k<n)->((pm (fun j=>decide (j<n)) (fun j=>D1.fr.getD j false) k N).flatMap Ht).set k (Bo bb)=(pm (fun j=>decide (j<n)) (fun j=>D1.fr.getD j false) (k+1) N).flatMap Ht:=fun bb h=>by
     rw[Ue,h,Om (fun j=>decide (j<n)) (fun j=>D1.fr.getD j false) hk]
    by_cases d6:k<n
    .have g4:(k:Int)<(n:Int):=by omega
     have e2:=e1 true (by rw[sO d6]);refine .inl ⟨_,by simp only[go_sem,t0,G,XM,c7,o0,hf,hk,g1,g2,g3,g4,i5,n9,q3,q4,q6,q8,q9,e2];rfl,?_⟩;simp only[go_sem,t0,G,XM];exact⟨rfl,rfl,fun x a0=>by rw[Zj _ _ a0];exact hs x a0⟩
    .have g4:¬(k:Int)<(n:Int):=by omega
     have e2:=e1 false (by rw[sN d6]);refine .inl ⟨_,by simp only[go_sem,t0,G,XM,c7,o0,hf,hk,g1,g2,g3,g4,i5,n9,q3,q4,q6,q8,q9,e2];rfl,?_⟩;simp only[go_sem,t0,G,XM];exact⟨rfl,rfl,fun x a0=>by rw[Zj _ _ a0];exact hs x a0⟩) (by
    rintro ⟨T,CB,m0⟩ ⟨t0,G,XM,c7,O,hf,hs⟩;simp only at t0 G XM c7 O hf hs;subst O;have g1:¬(N:Int)<(N:Int):=by omega
    refine⟨_,by simp only[go_sem,XM,c7,g1];rfl,by simp,_,_,rfl,?_⟩;simp only[go_sem,t0,G];rw[Ui]at hf;unfold fr0;rw[<- hN];exact⟨hf,hs⟩) (by
    simp only[go_sem,t0,G,<- hN];refine⟨rfl,?_⟩;rw[IV,abn _ r8];exact⟨r7,fun _ _=>trivial⟩)
  clear hL;have s1:=Oh.free (fr:=fr0 m n) (σ':=CB) r9 h4;obtain⟨CY,oI,s2,D5,s3,Gp,v0,s4,s5,s6,s7⟩:=apz Q2 o5 (Nat.le_add_right n m) h1 o6 (j9 D1 f9 d0 c6) s1 (nx:=Aq) (fun x hx=>by have:=d7 x hx;omega);unfold CZ at t0;refine⟨_,by simp only[go_sem,qJ,t0,G,s3];rfl,?_⟩;refine⟨CY,oI,by omega,fun x hx=>?_,D1,f9,d0,.inr ⟨nx+1,br,bb,nx,s2,D5,rfl,c6,Gp,s4,s5,fun x hx=>?_⟩⟩
  .rw[s7 x (by omega) (fun h=>by
    have:=d7 x (by simp only[zX]at h⊢;rcases h with h|h|h|h<;>simp[h]);omega),h4 x (by omega),i6 x hx]
  .have:=d7 x (by
    simp only[zX]at hx⊢;rcases hx with h|h|h|h|h
    .exact .inl h
    .exact .inr (.inl h)
    .exact .inr (.inr (.inl h))
    .exact .inr (.inr (.inr (.inl h)))
    .exact .inr (.inr (.inr (.inr (s6.subset h)))))
   omega
 .refine⟨_,by simp only[go_sem,t2,t3],d8,Aq,by omega,i6,D1,f9,d0,.inl ⟨rfl,hi⟩⟩
def AO(A b c:List Int)(m n:Nat):Prog:=⟨m,n,fun j k=>((sg b k*A.getD (k*n+j) 0:Int):Rat),fun k=>((sg b k*b.getD k 0:Int):Rat),fun j=>((c.getD j 0:Int):Rat)⟩
structure LG (A b c:List Int) (m n:Nat):Prop where
 hA:A.length=m*n
 hb:b.length=m
 hc:c.length=n
 m0:0<m
 hm:m<=12
 hn:n<=16
 bA:∀x∈A,-1000<=x/\x<=1000
 bb:∀x∈b,-1000<=x/\x<=1000
 bc:∀x∈c,-1000<=x/\x<=1000
theorem lJ{l:List Int}(h:∀x∈l,-1000<=x/\x<=1000)(i:Nat):-1000<=l.getD i 0/\l.getD i 0<=1000:=by
 rw[zx]
 by_cases hi:i<l.length
 .rw[zy hi];exact h _ (zu hi)
 .rw[yZ (by omega)];simp
theorem XO(b:List Int)(i:Nat):sg b i=1\/sg b i= -1:=by
 unfold sg;split<;>simp
theorem Q9{b:List Int}{i:Nat}{x:Int}(h:-1000<=x/\x<=1000):(sg b i*x).natAbs<=1000:=by
 rcases XO b i with e|e<;>rw[e]<;>omega
theorem afk(b:List Int)(i:Nat):0<=sg b i*b.getD i 0:=by
 unfold sg
 split<;>omega
section
variable {A b c:List Int} {m n:Nat}
theorem gY(h:LG A b c m n):Whole (AO A b c m n) 1000 :=
 ⟨by decide,fun j k _ _=>⟨_,rfl,Q9 (lJ h.bA _)⟩,fun k _=>⟨_,rfl,Q9 (lJ h.bb _)⟩⟩
theorem gZ:(AO A b c m n).Good (AO A b c m n).T0:=Prog.atg fun k _=>by
 show(0:Rat)<=((sg b k*b.getD k 0:Int):Rat)
 exact_mod_cast afk b k
theorem Um:∀m,m<=12->ln (fact 1000 m)<=m+1
 |0,_=>by show ln 1<=1;exact jY (by decide)
 |m+1,h=>by
  show ln ((m+1)*(1000*fact 1000 m))<=_;rw[<- vG];have E:=je ((m+1)*1000) (fact 1000 m);have G:=Um m (by omega);have J:ln ((m+1)*1000)<=1:=jY (by omega);omega
theorem XP{i j k:Nat}(hi:i<k)(E:j<n+m+1):en (Et A b m n k) i j=cell0 A b m n i j:=by
 have e:DZ (Et A b m n k) i=row0 A b m n i:=by
  unfold Et DZ;rw[zx,yc,w_ hi];rfl
 unfold en;rw[e,zx,zy (by rw[fD];exact E),fE _ _ _ _ _ E];rfl
theorem fV{k i:Nat}(h:i<k):(List.range k).getD i 0=i:=by
 rw[zx,w_ h];rfl
theorem view0:Vw (AO A b c m n) (AO A b c m n).T0 (D0 A b m n m) (List.range m):=by
 have E:(D0 A b m n m).R.length=m:=by simp[D0,Et]
 have Y:∀i,i<m->(D0 A b m n m).B.getD i 0=n+i:=fun i hi=>by
  unfold D0;rw[zx,yc,w_ hi];rfl
 refine⟨by rw[E];simp,by rw[E];simp[D0],fun x hx=>?_,fun r J=>List.mem_range.mp J,List.nodup_range,fun i j hi hj=>?_,fun i hi=>?_,fun i hi=>?_,Int.zero_lt_one,.inl ?_,fun r J hn=>absurd (List.mem_range.mpr J) hn⟩
 .obtain⟨i,-,rfl⟩:=List.mem_map.mp hx
  rw[fD];rfl
 .rw[E]at hi
  have O:j<n+m:=hj;rw[fV hi];show((en (Et A b m n m) i j:Int):Rat)=((1:Int):Rat)*(AO A b c m n).A j i;rw[XP hi (by omega)];unfold cell0 Prog.A;show _=((1:Int):Rat)*(if j<n then _ else if i+n=j then 1 else 0)
  by_cases G:j<n
  .rw[sS G,sS G]
   show((sg b i*A.getD (i*n+j) 0:Int):Rat)=((1:Int):Rat)*((sg b i*A.getD (i*n+j) 0:Int):Rat);generalize ((sg b i*A.getD (i*n+j) 0:Int):Rat)=q;have:((1:Int):Rat)=1:=rfl;rw[this];grind
  .rw[sW G,sW G,sS O]
   by_cases S:j=n+i
   .rw[sS S,sS (by omega)];decide+kernel
   .rw[sW S,sW (by omega)];decide+kernel
 .rw[E]at hi
  rw[fV hi];show((en (Et A b m n m) i (n+m):Int):Rat)=((1:Int):Rat)*((sg b i*b.getD i 0:Int):Rat);rw[XP hi (by omega)];unfold cell0;rw[sW (by omega),sW (by omega)];generalize ((sg b i*b.getD i 0:Int):Rat)=q;have:((1:Int):Rat)=1:=rfl;rw[this];grind
 .rw[E]at hi
  rw[fV hi,Y i hi];show n+i=i+n;omega
 .show((1:Int):Rat)=Lp.CW m fun q=>(AO A b c m n).A (q+n)
  have:=TP m;rw[<- show Lp.CW m (fun i k=>if i=k then(1:Rat)else 0)=Lp.CW m fun q=>(AO A b c m n).A (q+n)from ou fun i k _ _=>by
   have e:=Prog.F5 (p:=AO A b c m n) (i:=i) (k:=k);rw[show(AO A b c m n).A (i+n) k=(AO A b c m n).A (i+(AO A b c m n).n) k from rfl,e]
   by_cases h:i=k
   .rw[sS h,sS h.symm]
   .rw[sW h,sW (yu h)],this]
  rfl
theorem aip{p:Prog}{T:Tab}{D:TZ}{ι:List Nat}(h:Vw p T D ι):D.R.length<=p.m:=by
 rw[<- h.len];have G:ι ⊆ List.range p.m:=fun r J=>List.mem_range.mpr (h.lt r J)
 have E:=h.nd.length_le_of_subset G;rw[uN]at E;exact E
theorem al8(hp:LG A b c m n){T:Tab}{D:TZ}{ι:List Nat}(h:Vw (AO A b c m n) T D ι)(E:(AO A b c m n).Good T):(∀i j,i<D.R.length->j<=n+m->ln (en D.R i j).natAbs<=13)/\ln D.Ba.natAbs<=13:=by
 obtain⟨G,J⟩:=h.bound E (gY hp);have hm:=hp.hm;have O:=Um m hm;have e:fact 1000 (AO A b c m n).m=fact 1000 m:=rfl;refine⟨fun i j hi S=>?_,?_⟩
 .have:=jf (G i j hi S)
  rw[e]at this;omega
 .have:=jf J
  rw[e]at this;omega
theorem IW(hp:LG A b c m n){T:Tab}{D:TZ}{ι:List Nat}(h:Vw (AO A b c m n) T D ι)(E:(AO A b c m n).Good T)(G:D.fr.length=n+m):Xy D (n+m)/\0<D.Ba:=by
 obtain⟨J,O⟩:=h.bound E (gY hp);have S:=aip h;have hm:=hp.hm;have hn:=hp.hn;have Y:D.R.length<=m:=S;have a0:=Um m hm;refine⟨⟨h.row,h.Bg,by omega,G,by omega,fun i j hi hj=>?_,?_,fun i hi=>?_⟩,h.pos⟩
 .have:=jf (J i j hi hj)
  have e:fact 1000 (AO A b c m n).m=fact 1000 m:=rfl;rw[e]at this;omega
 .have:=jf O
  have e:fact 1000 (AO A b c m n).m=fact 1000 m:=rfl;rw[e]at this;omega
 .rw[h.BD i hi]
  exact E.ok.bn _ (h.io hi)
end
theorem KN{o E:Nat->Int}(k:Nat):∀(R:List (List Int)) (B:List Nat),(∀x∈B,o x=E x)->Ee o k R B=Ee E k R B
 |[],_,_=>by simp[Ee]
 |_ :: _,[],_=>by simp[Ee]
 |x :: R,y :: B,h=>by
  unfold Ee;rw[KN k R B fun z G=>h z (zY _ G),h y (by simp)]
theorem lV{o E:Nat->Int}{D:TZ}{N k:Nat}(h:∀j,j<N->o j=E j)(G:k<N)(J:∀x∈D.B,x<N):BF D o k=BF D E k:=by
 unfold BF;rw[h k G,KN k D.R D.B fun x O=>h x (J x O)]
theorem bG{o G:Nat->Int}{N:Nat}(h:∀j,j<N->o j=G j){D J:TZ}(O:∀x∈D.B,x<N)(hs:ES N o D J):ES N G D J:=by
 obtain⟨s,r,E,S,Y⟩:=hs;refine⟨s,r,⟨E.lt,E.fr,E.non,?_,fun j hj hf hm=>?_⟩,S,Y⟩
 .rw[<- lV h E.lt O];exact E.pos
 .rw[<- lV h (by have:=E.lt;omega) O];exact E.low j hj hf hm
theorem Oo{o J:Nat->Int}{N:Nat}(h:∀j,j<N->J j=o j){Q:TZ->Prop}(O:∀D,Q D->∀x∈D.B,x<N)(E:∀D G,Q D->ES N J D G->Q G):∀ {k:Nat} {D:TZ},Q D->II N o k D->II N J k D
 |0,_,_,hn=>hn
 |k+1,D,hq,hn=>fun G hs=>Oo h O E (E D G hq hs) (hn G (bG h (O D hq) hs))
theorem afl{o o':Nat->Int}{N:Nat}(h:∀j,j<N->o j=o' j){Q:TZ->Prop}(hQ:∀D,Q D->∀x∈D.B,x<N)(a0:∀D G,Q D->ES N o D G->Q G){D G:TZ}{J:Bool}(hq:Q D)(hm:TT N o D J G):TT N o' D J G:=by
 obtain⟨D1,hr,O⟩:=hm;have S:ET N o' D D1/\Q D1:=by
  clear O
  induction hr with
  |refl=>exact⟨.refl _,hq⟩
  |tail O Y ih=>exact⟨.tail ih.1 (bG h (hQ _ ih.2) Y),a0 _ _ ih.2 Y⟩
 have hB:=hQ _ S.2;refine⟨D1,S.1,?_⟩;rcases O with ⟨e,O,fr,⟨a1,a2⟩,h3⟩|⟨e,Y,s,h3,h4⟩
 .refine .inl ⟨e,fun j E hf hm=>?_,fr,⟨a1,fun j E=>?_⟩,h3⟩
  .rw[<- lV h E hB];exact O j E hf hm
  .rw[<- lV h E hB];exact a2 j E
 .refine .inr ⟨e,Y,s,⟨h3.lt,h3.fr,h3.non,?_,fun j E hf hm=>?_⟩,h4⟩
  .rw[<- lV h h3.lt hB];exact h3.pos
  .rw[<- lV h (by have:=h3.lt;omega) hB];exact h3.low j E hf hm
theorem Oq{D:TZ}{N:Nat}(h:Xy D N):∀x∈D.B,x<N:=fun x E=>by
 obtain⟨i,hi,e⟩:=jM E;rw[<- e];exact h.inB i (by rw[<- h.Bg];exact hi)
def Md(m n:Nat)(c:List Int)(q:Nat):List Int:=(List.range (n+m)).map (oq n (fun j=>c.getD j 0) q)
theorem XQ(f:Nat->Int){N:Nat}{j:Nat}(E:j<N):oF ((List.range N).map f) j=f j:=by
 unfold oF;rw[zx,yc,w_ E];rfl
theorem atV(m n:Nat)(c:List Int)(q:Nat):oF (Md m n c q)=oq n (fun j=>c.getD j 0) q:=by
 funext j
 by_cases E:j<n+m
 .exact XQ _ E
 .unfold oF Md oq
  rw[zx,yZ (by simp;omega)]
  split
  .rw[sW (by omega)];rfl
  .rw[sW (by omega)];rfl
theorem Un{m n:Nat}{c:List Int}(h:∀x∈c,-1000<=x/\x<=1000)(q:Nat):Obj (Md m n c q) (n+m):=⟨by simp[Md],fun x E=>by
 obtain⟨j,-,rfl⟩:=List.mem_map.mp E;have:=lJ h j;unfold oq;simp only
 split
 .split<;>omega
 .split<;>omega⟩
section
variable {A b c:List Int} {m n:Nat}
def QA(A b c:List Int)(m n:Nat)(D:TZ):Prop:=D.fr=fr0 m n/\∃T,Vw (AO A b c m n) T D (List.range m)/\(AO A b c m n).Good T
def QB(A b c:List Int)(m n:Nat)(D:TZ):Prop:=D.fr=fr0 m n/\∃T ι,Vw (AO A b c m n) T D ι/\(AO A b c m n).Good T/\Zero (AO A b c m n) T
theorem Uo(m n:Nat):(fr0 m n).length=n+m:=by simp[fr0]
theorem acU(m n j:Nat):(fr0 m n).getD j false=true↔j<n:=by
 unfold fr0;rw[zx,yc]
 by_cases h:j<n+m
 .rw[w_ h];simp
 .rw[yZ (by simp;omega)];simp;omega
theorem Ot(m n:Nat):∀j,j<n+m->oF (o1L m n) j=o1 n j:=fun j E=>XQ _ E
theorem atW{T:Tab}(o:Nat->Int)(fr:List Bool):Fit (AO A b c m n) T (List.range m) o fr:=⟨fun r E hn=>absurd (List.mem_range.mpr E) hn,fun _ _=> .inr fun r E=>List.mem_range.mpr E⟩
theorem Us(hp:LG A b c m n){D:TZ}(h:QA A b c m n D):Xy D (n+m)/\0<D.Ba:=by
 obtain⟨E,T,G,J⟩:=h;exact IW hp G J (by rw[E];exact Uo m n)
theorem apE(hp:LG A b c m n){D:TZ}(h:QB A b c m n D):Xy D (n+m)/\0<D.Ba:=by
 obtain⟨E,T,ι,G,J,_⟩:=h;exact IW hp G J (by rw[E];exact Uo m n)
theorem aiq(hp:LG A b c m n){D E:TZ}(h:QA A b c m n D)(hs:ES (n+m) (o1 n) D E):QA A b c m n E:=by
 obtain⟨J,T,O,G⟩:=h;obtain⟨T',S,Y,g3⟩:=O.step G (gY hp) (atW (o1 n) D.fr) hs;exact⟨g3.trans J,T',Y,G.step S⟩
theorem Ut(hp:LG A b c m n){D E:TZ}(h:QA A b c m n D)(hs:ES (n+m) (oF (o1L m n)) D E):QA A b c m n E :=
 aiq hp h (bG (Ot m n) (Oq (Us hp h).1) hs)
theorem Uu:QA A b c m n (D0 A b m n m):=⟨rfl,_,view0,gZ⟩
theorem al9(hp:LG A b c m n):∃K,II (n+m) (oF (o1L m n)) K (D0 A b m n m) :=
 ⟨_,Oo (Ot m n) (fun D h=>Oq (Us hp h).1) (fun D E h hs=>Ut hp h hs) Uu
  (Vw.aa9 (o:=o1 n) (gY hp) view0 gZ (atW (o1 n) _) (acA gZ.ok))⟩
def aze(A b c:List Int)(m n:Nat)(σ:Store)(nx:Nat)(r:V×Store×Nat):Prop :=
 ∃σ' nx',nx<=nx'/\(∀x,x<nx->σ' x=σ x) /\
  ((r=(.AP [.sc (.pointer none),Bo false],σ',nx')/\(AO A b c m n).None) \/
   (∃bt br bb bf rb D T ι,r=(.AP [.rp bt 0,Bo true],σ',nx')/\DF σ' bt br bb bf rb D (n+m)/\D.fr=fr0 m n/\Vw (AO A b c m n) T D ι/\(AO A b c m n).Good T/\(AO A b c m n).Out T/\(∀x∈D.B,x<n)/\∀x∈bt :: br :: bb :: bf :: rb,nx<=x/\x<nx'))
theorem al_(hp:LG A b c m n)(σ:Store)(nx:Nat):∃r,ev ZH qI Af 186 [.tp (CZ m n A b c) 0] σ nx=some r/\aze A b c m n σ nx r:=by
 obtain⟨K,hK⟩:=al9 hp;have hN:(AO A b c m n).N=n+m:=rfl;have first:∀D1 E,TT (n+m) (oF (o1L m n)) (D0 A b m n m) E D1->∃T,Vw (AO A b c m n) T D1 (List.range m)/\(AO A b c m n).Good T/\((∀i,i<D1.R.length->n<=D1.B.getD i 0->¬0<en D1.R i (n+m))->Zero (AO A b c m n) T)/\((∃i,i<D1.R.length/\n<=D1.B.getD i 0/\0<en D1.R i (n+m))->(AO A b c m n).None):=fun D1 E hm=>
  ae0 (p:=AO A b c m n) (gY hp) (afl (Ot m n) (fun D h=>Oq (Us hp h).1) (fun D D' h hs=>Ut hp h hs) Uu hm) view0 gZ (fun r hr=>List.mem_range.mpr hr) (acU m n)
 obtain⟨r,h1,σ',nx',h2,h3,D1,E,h4,h5⟩:=apA (QA A b c m n) (QB A b c m n) (c:=c) hp.hA hp.hb hp.m0 (by have:=hp.hm;omega) (by have:=hp.hn;omega) (fun x O=>by have:=hp.bA x O;omega) (fun x O=>by have:=hp.bb x O;omega)
  (fun D h=>Us hp h) (fun D D' h hs=>Ut hp h hs) Uu hK (fun D h=>apE hp h)
  (fun D i k h hi hB hk a0=>by
   obtain⟨S,T,ι,v1,J,G⟩:=h;obtain⟨g1,g2,g3⟩:=ae1 (gY hp) v1 J G hi hB hk a0;refine⟨?_,_,_,g1,g2,g3⟩;rw[<- S];unfold F6;split<;>rfl)
  (fun D i h hi hB hz=>by
   obtain⟨S,T,ι,v1,J,G⟩:=h;exact⟨S,T,_,aa_ v1 G hi hB hz,J,G⟩)
  (fun D1 E hm Y=>by
   obtain⟨T,v1,J,G,_⟩:=first D1 E hm
   exact⟨rfl,T,_,v1.frame _,J,G Y⟩) σ nx
 refine⟨r,h1,σ',nx',h2,h3,?_⟩;obtain⟨T,v1,J,G,v4⟩:=first D1 E h4
 rcases h5 with ⟨rfl,h5⟩|⟨bt,br,bb,bf,rb,D2,rfl,h5,h6,⟨S,T2,a1,w1,w2,w3⟩,h8,h9⟩
 .exact .inl ⟨rfl,v4 h5⟩
 .exact .inr ⟨bt,br,bb,bf,rb,D2,T2,a1,rfl,h6,S,w1,w2,ae2 w1 h8,fun x O=>by
   obtain⟨i,hi,e⟩:=jM O;rw[<- e];exact h8 i (by rw[<- w1.Bg];exact hi),h9⟩
end
theorem TS{p:Prog}{T:Tab}(h:p.Good T)(ho:p.Out T){q s:Nat}(J:q≠0)(hs:s<p.n)(O:¬basic p.m T s)(hg:0<gm p.m T (p.C q) s)(Gl:∀i,i<p.m->T.e i s<=0):False:=by
 obtain⟨E,e⟩:∃E:Prog,E={ p with c:=p.C q }:=⟨_,rfl⟩;have hC:E.C 0=p.C q:=by
  subst e;funext j;unfold Prog.C;rw[sS rfl,sW J];show(if j<p.n then(if q=0 then _ else if j+1=q/\j<p.n then(-1:Rat)else 0)else 0)=_;rw[sW J]
  by_cases G:j<p.n
  .rw[sS G]
  .rw[sW G,sW (fun h=>G h.2)]
 have S:E.Good T:=by
  subst e;exact⟨h.ok,h.ed,h.sol⟩
 have Y:E.Out T:=by
  subst e;exact⟨ho.z⟩
 have a0:E.Open:=Prog.NP (p:=E) S Y (s:=s) (by subst e;exact hs) (by subst e;exact O) (by rw[hC];subst e;exact hg) (by subst e;exact Gl);obtain⟨x,hx,h1⟩:=a0 1;have a1:∀j,j<p.n->0<=x j:=by subst e;exact hx.2
 have hle:ob p.n (p.C q) x<=0:=by
  unfold ob;have:=bQ (f:=fun j=> -(p.C q j*x j)) (n:=p.n) fun j G=>by
   have:=a1 j G;unfold Prog.C;rw[sW J]
   split<;>grind
  have e2:=bT (-1) (fun j=>p.C q j*x j) p.n;have e3:sm (fun j=> -(p.C q j*x j)) p.n=sm (fun j=> -1*(p.C q j*x j)) p.n:=bU fun j _=>by grind
  rw[e3,e2]at this;grind
 have:ob E.n E.c x=ob p.n (p.C q) x:=by subst e;rfl
 rw[this]at h1;grind
section
variable {A b c:List Int} {m n:Nat}
def QC(A b c:List Int)(m n:Nat)(ι:List Nat)(fr:List Bool)(D:TZ):Prop:=D.fr=fr/\∃T,Vw (AO A b c m n) T D ι/\(AO A b c m n).Good T
theorem anw(hp:LG A b c m n){q:Nat}{v:Nat->Rat}{σ:Store}{nx bt br bb bf bo:Nat}{rb ι:List Nat}{D:TZ}{T:Tab}(h:DF σ bt br bb bf rb D (n+m))(hv:Vw (AO A b c m n) T D ι)(hg:(AO A b c m n).Good T)(ho:(AO A b c m n).Out T)
  (a0:(AO A b c m n).Ep q v (fun j=>D.fr.getD j false=true) T) (O:D.fr.length=n+m) (a1:∀x∈D.B,x<n) (a2:∀b∈bt :: br :: bb :: bf :: rb,b<nx) (a3:σ bo=some ⟨(Md m n c q).flatMap cI,1,true⟩) (a4:bo<nx) (a5:bo∉bt :: br :: bb :: bf :: rb) :
  ∃σ' nx' E J T',ev ZH qI Af 187 [.rp bt 0,.rs bo 0 (n+m)] σ nx=some (Bo E,σ',nx')/\DF σ' bt br bb bf rb J (n+m)/\nx<=nx'/\(∀b,b<nx->b∉bt :: bb :: bf :: rb->σ' b=σ b) /\
   Vw (AO A b c m n) T' J ι/\(AO A b c m n).Good T'/\(AO A b c m n).Out T'/\J.fr.length=n+m/\(∀x∈J.B,x<n)/\((E=true/\∃v',(AO A b c m n).Ep (q+1) v' (fun j=>J.fr.getD j false=true) T')\/(E=false/\q=0/\(AO A b c m n).Open)):=by
 have hw:=gY hp;have S:∀j,D.fr.getD j false=true->j<n:=fun j hj=>a0.inn j hj
 have sh:∀D1,QC A b c m n ι D.fr D1->Xy D1 (n+m)/\0<D1.Ba:=fun D1 ⟨e,T1,h1,h2⟩=>IW hp h1 h2 (by rw[e];exact O)
 have oe:=atV m n c q;have Y:∀D1 D2,QC A b c m n ι D.fr D1->ES (n+m) (oF (Md m n c q)) D1 D2->QC A b c m n ι D.fr D2:=fun D1 D2 ⟨e,T1,h1,h2⟩ hs=>by
  rw[oe]at hs;obtain⟨T2,g1,g2,g3⟩:=h1.step h2 hw (aoJ (c:=fun j=>c.getD j 0) (q:=q) h1 (by rw[e];exact S)) hs;exact⟨g3.trans e,T2,g2,h2.step g1⟩
 have a6:II (n+m) (oF (Md m n c q)) (2^(n+m)) D:=by
  rw[oe];exact Vw.aa9 (o:=oq n (fun j=>c.getD j 0) q) hw hv hg (aoJ hv S) (acA hg.ok)
 obtain⟨σ',nx',E,J,ke,G,hT,hn,hf⟩:=atL (QC A b c m n ι D.fr) sh Y (Un hp.bc q) ⟨rfl,T,hv,hg⟩ a6 h a2 a3 a4 a5;rw[oe]at G;obtain⟨T',v1,v2,v3,v4,v5⟩:=ae3 (p:=AO A b c m n) hw (c:=fun j=>c.getD j 0) (fun j _=>rfl) G hv hg ho a0 (by rw[O];exact zq _);have a7:∀x∈J.B,x<n:=by
  obtain⟨D1,fr,⟨_,h1⟩,rfl,-⟩:=anv (Q:=fun D1=>D1.fr=D.fr/\∀x∈D1.B,x<n) (fun D1 D2 ⟨e,hB⟩ hs=>by
   obtain⟨s,r,g1,g2,rfl⟩:=hs;have e1:(F6 D1 r s).fr=D1.fr:=by unfold F6;split<;>rfl
   have e2:(F6 D1 r s).B=D1.B.set r s:=by unfold F6;split<;>rfl
   refine⟨e1.trans e,fun x hx=>?_⟩;rw[e2]at hx;rcases vB hx with h|h
   .exact hB x h
   .subst h;exact S _ (by rw[<- e];exact g1.fr)) G ⟨rfl,a1⟩
  exact h1
 refine⟨σ',nx',E,J,T',ke,hT,hn,hf,v1,v2,v3,v4.trans O,a7,?_⟩;rcases v5 with ⟨e,v5⟩|⟨e,s,s1,s2,s3,s4⟩
 .exact .inl ⟨e,_,v5⟩
 .by_cases hq:q=0
  .subst hq
   exact .inr ⟨e,rfl,Prog.NP v2 v3 s1 s2 s3 s4⟩
  .exact(TS v2 v3 hq s1 s2 s3 s4).elim
end
theorem DF.congr{σ σ':Store}{bt br bb bf:Nat}{rb:List Nat}{D:TZ}{N:Nat}(h:DF σ bt br bb bf rb D N)(e:∀x∈bt :: br :: bb :: bf :: rb,σ' x=σ x):DF σ' bt br bb bf rb D N:=by
 refine⟨?_,?_,fun i hi=>(h.row i hi).congr (e _ ?_),?_,?_,h.len,h.nd⟩
 .rw[e bt (by simp)];exact h.t
 .rw[e br (by simp)];exact h.r
 .have:=zu hi
  simp[this]
 .rw[e bb (by simp)];exact h.b
 .rw[e bf (by simp)];exact h.f
section
variable {A b c:List Int} {m n:Nat}
theorem air(hc:c.length=n):Md m n c 0=c++List.replicate m 0:=by
 apply yS
 .simp[Md,hc]
 .intro j E G
  have J:j<n+m:=by simpa[Md]using E
  have e:(Md m n c 0)[j]=if j<n then c.getD j 0 else 0:=by simp[Md,oq]
  rw[e,List.getElem_append]
  by_cases h:j<n
  .rw[sS h,dif_pos (by omega),zx,zy (by omega)];rfl
  .rw[sW h,dif_neg (by omega),List.getElem_replicate]
theorem ais(k:Nat)(G:k<n):Md m n c (k+1)=(List.replicate (n+m) 0).set k (-1):=by
 apply yS
 .simp[Md]
 .intro j E J
  have O:j<n+m:=by simpa[Md]using E
  have e:(Md m n c (k+1))[j]=if j=k/\j<n then -1 else 0:=by simp[Md,oq]
  rw[e,wP]
  by_cases h:k=j
  .rw[sS h,sS ⟨h.symm,by omega⟩]
  .rw[sW h,sW (fun g=>h g.1.symm),List.getElem_replicate]
theorem apF(hc:c.length=n)(σ:Store)(nx b:Nat):Hq (upd σ b (some ⟨rep (n+m) [I 0],1,true⟩)) nx (c.flatMap cI) c.length (.rs b 0 (n+m))=some (I ((n:Nat):Int),upd σ b (some ⟨(Md m n c 0).flatMap cI,1,true⟩),nx):=by
 unfold Hq;have e:min c.length (n+m)=n:=by omega
 have E:(c.flatMap cI).length=n:=by rw[qR,hc]
 have G:(Md m n c 0).flatMap cI=c.flatMap cI++rep m [I 0]:=by rw[air hc,zU,fO]
 simp only[e,Zi,zi,Zh];rw[G]
 by_cases hn:n=0
 .rw[sS hn]
  have:c=[]:=zZ (by omega);subst hn this;simp
 .rw[sW hn,sS ⟨trivial,by rw[fM];simp,by
   rw[uU];intro v J;obtain⟨x,-,O⟩:=List.mem_flatMap.mp (wS J);rw[List.mem_singleton.mp O];rfl⟩]
  rw[zk (by omega),iG _ _ _ (by rw[E,fM];simp),E];congr 4;rw[List.take_zero,yK,yX];congr 1;have:rep (n+m) [I 0]=rep n [I 0]++rep m [I 0]:=by rw[fO,fO,fO,<- zU,wF]
  rw[this,List.drop_left' (by rw[fM];simp)]
theorem ama{L:List Int}{N:Nat}(S:L.length=N)(σ:Store)(nx b:Nat)(hb:σ b=some ⟨L.flatMap cI,1,true⟩)(G:N≠0):FX σ nx [I 0] (.rs b 0 N)=some (.AP [],upd σ b (some ⟨(List.replicate N 0).flatMap cI,1,true⟩),nx):=by
 unfold FX;simp only;rw[sW G,hb];have E:(rep N [I 0]).length=N:=by rw[fM];simp
 simp only[zi];rw[sS ⟨trivial,by rw[qR];omega,by
  rw[fO,uU];intro v J;obtain⟨x,-,O⟩:=List.mem_flatMap.mp J;rw[List.mem_singleton.mp O];rfl⟩]
 rw[iG _ _ _ (by rw[E,qR];omega),E,List.take_zero,yK,yX,xk (by rw[qR];omega),zK,fO]
def cF(q:Rat):List V:=[.tp (cQ q) 0]
def atX(p:Prog)(r:V):Prop:=(r= .AP [I 2,.ts [] 0,.sc (.pointer none)]/\p.None)\/(r= .AP [I 3,.ts [] 0,.sc (.pointer none)]/\p.Open) \/
 ∃x:Nat->Rat,p.Best x/\(∀j,j<p.n->Ln 24 (x j))/\r= .AP [I 0,LL cF ((List.range p.n).map x),.tp (cQ (ob p.n p.c x)) 0]
theorem acV{a:Int}{d k:Nat}(ha:ln a.natAbs<=k)(E:ln d<=k)(G:1<=k):Ln k (mkRat a d):=by
 constructor
 .rw[Rat.num_mkRat]
  split
  .show ln 0<=k;rw[jX];omega
  .exact zL (jf (Int.natAbs_ediv_le_natAbs _ _)) ha
 .rw[Rat.den_mkRat]
  split
  .exact zL (jY (by decide)) G
  .exact zL (jf (xJ _ _)) E
theorem abq{x y:Rat}{k l:Nat}(h:Ln k x)(E:Ln l y)(G:1<=k+l):Ln (k+l) (x*y):=by
 rw[Rat.mul_def'];refine acV ?_ (N9 h E) G;have:=jd x.num y.num;have:=h.1;have:=E.1;omega
theorem abr{x y:Rat}{k l:Nat}(h:Ln k x)(E:Ln l y):Ln (k+l+1) (x+y):=by
 rw[Rat.add_def'];refine acV ?_ (zL (N9 h E) (by omega)) (by omega);have G:=jc h E;have J:=jc E h;have:=IQ (x.num*y.den) (y.num*x.den);omega
theorem sJ{z:Int}(h:-1000000<=z/\z<=1000000):Ln 1 (z:Rat):=⟨jY (by show z.natAbs<_;omega),jY (by show 1<_;decide)⟩
theorem apG(X:List Rat):∀(k:Nat) (q:Rat),(X.flatMap cF).set k (.tp (cQ q) 0)=(X.set k q).flatMap cF:=by
 induction X with
 |nil=>intro k q;rfl
 |cons a X E=>intro k q;cases k with
  |zero=>rfl
  |succ k=>show V.tp (cQ a) 0 :: ((X.flatMap cF).set k (.tp (cQ q) 0))=_;rw[E];rfl
theorem qV(X:List Rat):(X.flatMap cF).length=X.length:=by
 induction X with
 |nil=>rfl
 |cons a X E=>rw[zT,zo,E,zJ];show 1+_=_;omega
theorem JW(X:List Rat){k:Nat}(h:k<X.length):(X.flatMap cF)[k]?=some (.tp (cQ X[k]) 0):=by
 induction X generalizing k with
 |nil=>exact absurd h (zW k)
 |cons a X E=>cases k with
  |zero=>rfl
  |succ k=>exact E (k:=k) (by simpa using h)
theorem ait(k N:Nat)(h:k<N):((List.replicate k (0:Rat)).flatMap cF++rep (N-k) [.sc (.pointer none)]).set k (.tp (cQ 0) 0)=(List.replicate (k+1) (0:Rat)).flatMap cF++rep (N - (k+1)) [.sc (.pointer none)]:=by
 rw[yC _ _ (by rw[qV,yj];exact zq _),qV,yj,yP,show N-k=N - (k+1)+1 by omega,fK,uo,zU,z_];rfl
theorem IX(σ:Store)(d:Nat):∀X:List Rat,stripL (strip σ (d+1)) (X.flatMap cF)=some (X.flatMap cF,[])
 |[]=>by rw[wQ,aZ]
 |q :: X=>by
  rw[zT,show cF q++X.flatMap cF=V.tp (cQ q) 0 :: X.flatMap cF from rfl,au,aO,IX σ d X];rfl
def xB(B:List Nat)(f:Nat->Rat)(i n:Nat):List Rat:=(List.range n).map fun j=>if j∈B.take i then f j else 0
theorem ZN(B:List Nat)(f:Nat->Rat)(i n:Nat):(xB B f i n).length=n:=by simp[xB]
theorem acW(B:List Nat)(f:Nat->Rat)(n:Nat):xB B f 0 n=List.replicate n 0:=by simp[xB,List.map_const']
theorem aiu{B:List Nat}(f:Nat->Rat){i n:Nat}(hi:i<B.length):(xB B f i n).set (B.getD i 0) (f (B.getD i 0))=xB B f (i+1) n:=by
 have hb:B[i]=B.getD i 0:=by rw[zx,zy hi];rfl
 apply yS
 .rw[yJ,ZN,ZN]
 .intro j O G
  have J:j<n:=by rw[ZN]at G;exact G
  have e:∀i,(xB B f i n)[j]'(by rw[ZN];exact J)=if j∈B.take i then f j else 0:=fun i=>by simp[xB]
  rw[wP,e,e,yN,zy hi,hb]
  by_cases h:B.getD i 0=j
  .rw[sS h,h,sS (by simp)]
  .rw[sW h]
   by_cases E:j∈B.take i
   .rw[sS E,sS (by simp[E])]
   .rw[sW E,sW (by simp[E];exact fun e=>h e.symm)]
theorem apH(hp:LG A b c m n):∃r,fn ZH qI Af 161 [.tp (CZ m n A b c) 0]=some r/\atX (AO A b c m n) r:=by
 have O:=hp.m0;have hm:=hp.hm;have hn:=hp.hn;have hc:=hp.hc;obtain⟨r0,kb,d6,nI,l7,-,hr⟩:=al_ hp lI 0;obtain⟨N,hN⟩:∃N,N=n+m:=⟨_,rfl⟩;rw[mM,nG [.tmp 2,.tmp 3,.tmp 4] [24] func161];unfold CZ at kb⊢;rcases hr with ⟨rfl,d1⟩|⟨bt,br,bb,bf,rb,D,T,ι,rfl,hT,d7,hv,hg,ho,f7,a1⟩
 .simp only[go_sem,qJ,kb]
  exact⟨_,rfl,.inl ⟨rfl,d1⟩⟩
 .have d2:=hT.t
  have f1:bt<nI:=(a1 bt (by simp)).2;rw[<- hN]at d2;have f2:=jD N;have f3:8*(N:Int)<=281474976710656:=by omega
  have f4:(N:Int)<=9223372036854775807:=by omega
  have kc:=apF (m:=m) hc d6 (nI+1) nI;rw[<- hN]at kc;obtain⟨σ2,DX⟩:∃σ2,σ2=upd d6 nI (some ⟨(Md m n c 0).flatMap cI,1,true⟩):=⟨_,rfl⟩;rw[<- DX]at kc;have f8:DF σ2 bt br bb bf rb D (n+m):=hT.congr fun x G=>by rw[DX,Zj _ _ (by have:=a1 x G;omega)]
  obtain⟨l8,Aq,f9,D3,T3,km,Oh,l9,g0,h0,h4,h5,h6,h7,d8⟩:=anw hp (q:=0) (v:=fun _=>0) (bo:=nI) (nx:=nI+1) f8 hv hg ho (by
   rw[d7];have:(fun j=>(fr0 m n).getD j false=true)=fun j=>j<(AO A b c m n).n:=by funext j;exact propext (acU m n j)
   rw[this];exact Prog.stage0) (by rw[d7];exact Uo m n) f7 (fun x G=>by have:=a1 x G;omega) (by rw[DX,Zi]) (by omega) (fun G=>by have:=a1 nI G;omega)
  rw[<- hN]at km;rcases d8 with ⟨rfl,v1,h8⟩|⟨rfl,-,h9⟩
  .simp only[go_sem,qJ,kb,d2,f1,f2,f3,f4,kc,km]
   generalize hL:dI _ _=y
   obtain⟨x,rfl,T4,CB,J,rfl,t0,Y,E,U4,v4,a5,a2,a4,b3,b4⟩:=pF hL n (fun k st=>st.T 0= .tp (CZ m n A b c) 0/\st.T 5= .rp bt 0/\st.T 7= .rs nI 0 N/\st.T 41=I n/\st.T 42=I k/\nI<st.nx/\(∃L:List Int,L.length=N/\st.σ nI=some ⟨L.flatMap cI,1,true⟩) /\
     ∃D U v,DF st.σ bt br bb bf rb D (n+m)/\Vw (AO A b c m n) U D ι/\(AO A b c m n).Good U/\(AO A b c m n).Out U/\D.fr.length=n+m/\(∀x∈D.B,x<n)/\(AO A b c m n).Ep (k+1) v (fun j=>D.fr.getD j false=true) U)
    (fun x=>∃T CB J,x=(.exit 0,⟨T,CB,J⟩)/\T 0= .tp (CZ m n A b c) 0/\T 5= .rp bt 0/\∃D U v,DF CB bt br bb bf rb D (n+m)/\Vw (AO A b c m n) U D ι/\(AO A b c m n).Good U/\(AO A b c m n).Out U/\D.fr.length=n+m/\(∀x∈D.B,x<n)/\(∀x∈bt :: br :: bb :: bf :: rb,x<J)/\(AO A b c m n).Ep (n+1) v (fun j=>D.fr.getD j false=true) U) (by
     clear hL;rintro k ⟨T,CB,J⟩ hk ⟨t0,Y,t7,a7,b5,b6,⟨L,hL,c6⟩,E,U,v,a5,a2,a4,b3,b8,b9,b4⟩;simp only at t0 Y t7 a7 b5 b6 c6 a5;have g1:(k:Int)<(n:Int):=by omega
     have g2:=jD k;have g3:=ZQ (n:=(k:Int)+1);have g4:=ama hL CB J nI c6 (by omega);obtain⟨CY,c7⟩:∃CY,CY=upd CB nI (some ⟨(Md m n c (k+1)).flatMap cI,1,true⟩):=⟨_,rfl⟩;have g5:((List.replicate N (0:Int)).flatMap cI).set k (I (-1))=(Md m n c (k+1)).flatMap cI:=by rw[qQ,ais k hk,hN]
     have g6:((List.replicate N (0:Int)).flatMap cI).length=N:=by rw[qR];simp
     have g7:(k:Int)<(N:Int):=by omega
     have g8:k<N:=by omega
     have g9:k+1<=N:=by omega
     have Gp:DF CY bt br bb bf rb E (n+m):=a5.congr fun x G=>by rw[c7,Zj _ _ (by have:=a1 x G;omega)]
     obtain⟨Dy,Bq,f9,D6,U6,d9,i0,G5,i1,i2,i3,i4,e0,i5,i6⟩:=anw hp (q:=k+1) (bo:=nI) (nx:=J) Gp a2 a4 b3 b4 b8 b9 (fun x G=>by have:=a1 x G;omega) (by rw[c7,Zi]) b6 (fun G=>by have:=a1 nI G;omega);rw[<- hN]at d9;unfold CZ at t0;rcases i6 with ⟨rfl,v6,i7⟩|⟨_,h,_⟩
     .refine .inl ⟨_,by simp only[go_sem,qJ,t0,Y,t7,a7,b5,g1,g2,g3,g4,g5,g6,g7,g8,g9,<- c7,d9];rfl,?_⟩
      simp only[go_sem,t0,Y,t7,a7];refine⟨rfl,rfl,by omega,⟨Md m n c (k+1),by rw[(Un hp.bc _).1,hN],?_⟩,D6,U6,v6,i0,i2,i3,i4,e0,i5,i7⟩;rw[i1 nI b6 (fun G=>by
       have:=a1 nI (by simp only[zX]at G⊢;rcases G with h|h|h|h<;>simp[h]);omega),c7,Zi]
     .omega) (by
     rintro ⟨T,CB,J⟩ ⟨t0,Y,t7,a7,b5,b6,c6,E,U,v,a5,a2,a4,b3,b8,b9,b4⟩;simp only at t0 Y t7 a7 b5 b6 c6 a5;have g1:¬(n:Int)<(n:Int):=by omega
     refine⟨_,by simp only[go_sem,a7,b5,g1];rfl,by simp,_,_,_,rfl,?_⟩;simp only[go_sem,t0,Y];exact⟨E,U,v,a5,a2,a4,b3,b8,b9,fun x G=>by have:=a1 x G;omega,b4⟩) (by
     simp only[go_sem,CZ];refine⟨by omega,⟨Md m n c 0,by rw[(Un hp.bc _).1,hN],?_⟩,D3,T3,v1,Oh,h0,h4,h5,h6,h7,h8⟩;rw[g0 nI (by omega) (fun G=>by
      have:=a1 nI (by simp only[zX]at G⊢;rcases G with h|h|h|h<;>simp[h]);omega),DX,Zi])
   clear hL;obtain⟨b8,b9,a3,e1⟩:=b4;have i9:=IW hp a2 a4 b8;have j0:=e1.best a4 b3;have h1:=jD n;have h2:8*(n:Int)<=281474976710656:=by omega
   have h3:(n:Int)<=9223372036854775807:=by omega
   unfold CZ at t0;simp only[go_sem,t0,Y,h1,h2,h3];generalize hL:dI _ _=y;obtain⟨x,rfl,T5,CY,rfl,t0,Y,S,j1,j2⟩:=pF hL n (fun k st=>st.T 0= .tp (CZ m n A b c) 0/\st.T 5= .rp bt 0/\st.T 9= .rs J 0 n/\st.T 59=I n/\st.T 60=I k/\st.nx=J+1/\st.σ J=some ⟨(List.replicate k (0:Rat)).flatMap cF++rep (n-k) [.sc (.pointer none)],1,true⟩/\∀x,x<J->st.σ x=CB x)
    (fun x=>∃T CY,x=(.exit 2,⟨T,CY,J+1⟩)/\T 0= .tp (CZ m n A b c) 0/\T 5= .rp bt 0/\T 9= .rs J 0 n/\CY J=some ⟨(List.replicate n (0:Rat)).flatMap cF,1,true⟩/\∀x,x<J->CY x=CB x) (by
     clear hL;rintro k ⟨T,CY,m0⟩ hk ⟨t0,Y,S,a8,c0,O,G,hs⟩;simp only at t0 Y S a8 c0 O G hs;subst O;have g1:(k:Int)<(n:Int):=by omega
     have g2:=jD k;have g3:=ZQ (n:=(k:Int)+1);have g4:fn ZH conv ext 169 [I 0]=some (.tp (cQ 0) 0):=kE 0 (by decide) (by decide)
     have g5:=ait k n hk;have g6:((List.replicate k (0:Rat)).flatMap cF++rep (n-k) [.sc (.pointer none)]).length=n:=by rw[zo,qV,fM];simp;omega
     have g7:k+1<=n:=hk;refine .inl ⟨_,by simp only[go_sem,t0,Y,S,a8,c0,G,hk,g1,g2,g3,g4,g5,g6,g7];rfl,?_⟩;simp only[go_sem,t0,Y,S,a8];exact⟨rfl,fun x G=>by rw[Zk];exact hs x G⟩) (by
     rintro ⟨T,CY,m0⟩ ⟨t0,Y,S,a8,c0,O,G,hs⟩;simp only at t0 Y S a8 c0 O G hs;subst O;have g1:¬(n:Int)<(n:Int):=by omega
     refine⟨_,by simp only[go_sem,a8,c0,g1];rfl,by simp,_,_,rfl,?_⟩;simp only[go_sem,t0,Y,S];rw[yP]at G;have:rep 0 [V.sc (.pointer none)]=[]:=rfl;rw[this,zK]at G;exact⟨G,hs⟩) (by
     simp only[go_sem,t0,Y,CZ];exact⟨rfl,fun x G=>by rw[Zk]⟩)
   clear hL;have Gp:DF CY bt br bb bf rb E (n+m):=a5.congr fun x G=>j2 x (a3 x G)
   obtain⟨hS,l6⟩:=i9;have e3:=Gp.t;have j3:bt<J:=a3 bt (by simp);unfold CZ at t0;obtain⟨n1,n2,n3,n4,n5,n6,n7,n8⟩:=nd4 Gp.nd;have m1:=hS.Gn;have j4:=Gp.len;obtain⟨PW,j5⟩:=Gp.r;obtain⟨L_,j6⟩:=Gp.b;have m2:(Ce E.B).length=E.R.length:=by rw[aB];exact hS.Bg
   have j7:E.B.length=E.R.length:=hS.Bg;have e4:bt<J+1:=by omega
   have e0:∀x,x∈bt :: br :: bb :: bf :: rb->x<J:=a3;simp only[go_sem,t0,Y,e3,e4];generalize hL:dI _ _=y;obtain⟨x,rfl,T6,Dy,rfl,t0,S,c8⟩:=pF hL E.R.length (fun i st=>st.T 0= .tp (CZ m n A b c) 0/\st.T 5= .rp bt 0/\st.T 9= .rs J 0 n/\st.T 71= .rs bb 0 E.R.length/\st.T 72=I E.R.length/\st.T 73=I i/\st.nx=J+1/\st.σ J=some ⟨(xB E.B (BD m U4) i n).flatMap cF,1,true⟩/\∀x,x<J->st.σ x=CY x)
    (fun x=>∃T Dy,x=(.exit 4,⟨T,Dy,J+1⟩)/\T 0= .tp (CZ m n A b c) 0/\T 9= .rs J 0 n/\Dy J=some ⟨(xB E.B (BD m U4) E.R.length n).flatMap cF,1,true⟩) (by
     clear hL;rintro i ⟨T,Dy,m0⟩ hi ⟨t0,Y,S,c2,a9,c3,O,G,hs⟩;simp only at t0 Y S c2 a9 c3 O G hs;subst O;have g1:(i:Int)<(E.R.length:Int):=by omega
     have g2:=jD i;have g3:=ZQ (n:=(i:Int)+1);have g4:((Ce E.B).flatMap cI++L_)[i]?=some (I ((E.B.getD i 0:Nat):Int)):=by
      rw[zV (by rw[qR];omega),idx (by omega),aC (by omega)]
     have e6:E.B.getD i 0<n:=b9 _ (lF (by omega));have a0:=read a2 a4 hi;have d0:=aiu (B:=E.B) (BD m U4) (i:=i) (n:=n) (by omega);obtain⟨bi,Fg⟩:∃bi,bi=E.B.getD i 0:=⟨_,rfl⟩;rw[<- Fg]at g4 e6 a0 d0;have e7:i<rb.length:=by omega
     have f6:=fU (ex:=PW) (n:=n+m+1) e7;obtain⟨ri,d3⟩:∃ri,ri=rb[i]:=⟨_,rfl⟩;rw[<- d3]at f6;obtain⟨Li,Uc,GZ,Ud⟩:=Gp.row i e7;have YG:ri<J:=a3 ri (by rw[d3];simp[zu]);have j8:Dy ri=some ⟨Li.flatMap zc,2,true⟩:=by rw[hs ri YG,d3];exact Uc
     have rl:(DZ E.R i).length=n+m+1:=by rw[dS hi];exact hS.row _ (zu hi)
     have Lu:Li.length=n+m+1:=by have:=congrArg List.length GZ;rw[zO,rl]at this;exact this
     have b7:=bZ (c:=zc) (s:=2) ZL Li;rw[Lu]at b7;have g6:=d_ (c:=zc) (s:=2) ZL Li (n+m) (by omega);have g7:(n+m)*2+2<=(n+m+1)*2:=by omega
     have g8:((n+m:Nat):Int)<((n+m+1:Nat):Int):=by omega
     have g9:(0:Int)<=((n+m:Nat):Int):=by omega
     obtain⟨hq,e⟩:=QX GZ (c:=n+m) (by rw[rl];omega);have e2:(DZ E.R i)[n+m]'(by rw[rl];omega)=en E.R i (n+m):=by
      unfold en;rw[zx,zy (by rw[rl];omega)];rfl
     have z1:∀σ d,stripL (strip σ d) (zc Li[n+m])=some (cZ (en E.R i (n+m)),[]):=fun σ d=>by
      rw[ZK σ d (Ud _ (zu hq)),e,e2]
     have k1:fn ZH qI Af 188 [.agg (cZ (en E.R i (n+m))),LI (dg E.Ba.natAbs)]=some (.tp (cQ (BD m U4 bi)) 0):=by
      rw[N8 _ _ (by have:=hS.big i (n+m) hi (zq _);omega) (by omega) (by have:=hS.Ba;omega)];have:mkRat (en E.R i (n+m)) E.Ba.natAbs=BD m U4 bi:=by
       rw[<- show((en E.R i (n+m):Int):Rat) / E.Ba=BD m U4 bi from a0,Rat.mkRat_eq_div];congr 1;have:((E.Ba.natAbs:Nat):Int)=E.Ba:=by omega
       rw[<- Rat.intCast_natCast,this]
      rw[this]
     have j9:(bi:Int)<(n:Int):=by omega
     have k0:=jD bi;have k4:bi+1<=n:=by omega
     have q1:=apG (xB E.B (BD m U4) i n) bi (BD m U4 bi);rw[d0]at q1;have q2:((xB E.B (BD m U4) i n).flatMap cF).length=n:=by rw[qV,ZN]
     have q3:bb<J:=a3 bb (by simp);have q4:br<J:=a3 br (by simp);have k5:=(hs bb q3).trans j6;have k6:=(hs br q4).trans j5;have k7:=(hs bt j3).trans e3;have q5:bb<J+1:=by omega
     have q6:br<J+1:=by omega
     have q7:ri<J+1:=by omega
     have q8:J<J+1:=by omega
     unfold CZ at t0;refine .inl ⟨_,by simp only[go_sem,t0,Y,S,c2,a9,c3,G,k5,k6,k7,j8,f6,g1,g2,g3,g4,g6,g7,g8,g9,j9,k0,k4,e4,b7,z1,k1,e6,q1,q2,q5,q6,q7,q8];rfl,?_⟩;simp only[go_sem,t0,Y,S,c2,a9];exact⟨rfl,rfl,fun x G=>by rw[Zk];exact hs x G⟩) (by
     rintro ⟨T,Dy,m0⟩ ⟨t0,Y,S,c2,a9,c3,O,G,hs⟩;simp only at t0 Y S c2 a9 c3 O G hs;subst O;have g1:¬(E.R.length:Int)<(E.R.length:Int):=by omega
     refine⟨_,by simp only[go_sem,a9,c3,g1];rfl,by simp,_,_,rfl,?_⟩;simp only[go_sem,t0,S];exact G) (by
     simp only[go_sem,t0,Y,S,CZ,acW];exact⟨j1,fun _ _=>trivial⟩)
   clear hL;have k8:xB E.B (BD m U4) E.R.length n=(List.range n).map (BD m U4):=by
    unfold xB;rw[<- j7,yg];apply xO;intro j hj
    by_cases h:j∈E.B
    .rw[sS h]
    .rw[sW h];exact(Xj a2 (List.mem_range.mp hj) h).symm
   rw[k8]at c8;have e8:=al8 hp a2 a4;have e9:∀j,j<n->Ln 24 (BD m U4 j):=fun j hj=>by
    by_cases h:j∈E.B
    .obtain⟨i,hi,e⟩:=jM h
     have f0:i<E.R.length:=by omega
     have a0:=read a2 a4 f0;rw[e]at a0;have:mkRat (en E.R i (n+m)) E.Ba.natAbs=BD m U4 j:=by
      rw[<- show((en E.R i (n+m):Int):Rat) / E.Ba=BD m U4 j from a0,Rat.mkRat_eq_div];congr 1;have:((E.Ba.natAbs:Nat):Int)=E.Ba:=by omega
      rw[<- Rat.intCast_natCast,this]
     rw[<- this];exact acV (zL (e8.1 i (n+m) f0 (zq _)) (by decide)) (zL e8.2 (by decide)) (by decide)
    .rw[show BD m U4 j=0 from Xj a2 hj h]
     exact(sJ (z:=0) (by decide)).mono (by decide)
   obtain⟨X,hX⟩:∃X:List Rat,X=(List.range n).map (BD m U4):=⟨_,rfl⟩;have c9:X.length=n:=by rw[hX];simp
   have k9:∀j (h:j<n),X[j]'(by omega)=BD m U4 j:=fun j h=>by subst hX;simp
   rw[<- hX]at c8;have g4:fn ZH conv ext 169 [I 0]=some (.tp (cQ 0) 0):=kE 0 (by decide) (by decide)
   unfold CZ at t0;simp only[go_sem,t0,S,g4];generalize hL:dI _ _=y;obtain⟨x,rfl,T7,rfl,S,a6⟩:=pF hL n (fun k st=>st.T 0= .tp (CZ m n A b c) 0/\st.T 9= .rs J 0 n/\st.T 102= .rs J 0 n/\st.T 103=I n/\st.T 104=I k/\st.nx=J+1/\st.σ=Dy/\∃s,st.T 13= .tp (cQ s) 0/\s=sm (fun j=>((c.getD j 0:Int):Rat)*BD m U4 j) k/\Ln (1+52*k) s)
    (fun x=>∃T,x=(.exit 6,⟨T,Dy,J+1⟩)/\T 9= .rs J 0 n/\T 13= .tp (cQ (sm (fun j=>((c.getD j 0:Int):Rat)*BD m U4 j) n)) 0) (by
     clear hL;rintro k ⟨T,EJ,m0⟩ hk ⟨t0,S,c4,b2,c5,O,hs,s,a6,d4,d5⟩;simp only at t0 S c4 b2 c5 O hs a6;subst O hs;have g1:(k:Int)<(n:Int):=by omega
     have g2:=jD k;have g3:=ZQ (n:=(k:Int)+1);have g4:=JW X (k:=k) (by omega);rw[k9 k hk]at g4;have l5:=lJ hp.bc k;have g5:=idx (xs:=c) (k:=k) (by omega);have e5:c[k]'(by omega)=c.getD k 0:=by rw[zx,zy (by omega)];rfl
     rw[e5]at g5;have g6:=AZ c k (by omega);have g7:(k:Int)<(c.length:Int):=by omega
     have g8:(c.flatMap cI).length=c.length:=qR c;have g9:(X.flatMap cF).length=n:=by rw[qV,c9]
     obtain⟨ck,f5⟩:∃ck,ck=c.getD k 0:=⟨_,rfl⟩;rw[<- f5]at g5 l5;have k1:=kE ck (by omega) (by omega);have l1:=sJ (z:=ck) (by omega);have l2:=(e9 k hk).mono (show 24<=50 by decide);have k2:=acO (BD m U4 k) (ck:Rat) (l2.mono (by decide)) (l1.mono (by decide));have l3:=abq l2 l1 (by decide);have k3:=ah7 s (BD m U4 k*(ck:Rat)) (d5.mono (by omega)) (l3.mono (by decide));have l4:=abr d5 l3;unfold CZ at t0;refine .inl ⟨_,by simp only[go_sem,t0,S,c4,b2,c5,a6,c8,g1,g2,g3,g4,g5,g6,g7,g8,g9,k1,k2,k3];rfl,?_⟩;simp only[go_sem,t0,S,c4,b2];refine⟨rfl,rfl,_,rfl,?_,l4.mono (by omega)⟩;show _=sm _ k+((c.getD k 0:Int):Rat)*BD m U4 k;rw[d4,<- f5,Rat.mul_comm]) (by
     rintro ⟨T,EJ,m0⟩ ⟨t0,S,c4,b2,c5,O,hs,s,a6,d4,d5⟩;simp only at t0 S c4 b2 c5 O hs a6;subst O hs;have g1:¬(n:Int)<(n:Int):=by omega
     refine⟨_,by simp only[go_sem,b2,c5,g1];rfl,by simp,_,rfl,?_⟩;simp only[go_sem,S,a6,d4]) (by
     simp only[go_sem,t0,S,CZ];exact⟨0,rfl,rfl,sJ (z:=0) (by decide)⟩)
   clear hL;have z1:n<=(X.flatMap cF).length:=by rw[qV,c9];exact zq _
   have z2:(X.flatMap cF).take n=X.flatMap cF:=zk (by rw[qV,c9];exact zq _);have z3:=IX Dy 4 X;simp only[go_sem,S,a6,c8,z1,z2,z3];refine⟨_,rfl,.inr (.inr ⟨BD m U4,j0,e9,?_⟩)⟩;rw[show(AO A b c m n).n=n from rfl,<- hX];show V.AP [I 0,V.ts (X.flatMap cF) n,_]=V.AP [I 0,V.ts (X.flatMap cF) X.length,_];rw[c9];rfl
  .simp only[go_sem,qJ,kb,d2,f1,f2,f3,f4,kc,km]
   exact⟨_,rfl,.inr (.inl ⟨rfl,h9⟩)⟩
end
theorem jW{body:St->Option (Ex×St)}{st E:St}{y:Option (Ex×St)}{e:Ex}(G:dI body st=y)(h:body st=some (e,E))(J:e≠ .norm):y=some (e,E):=by
 obtain⟨r,rfl,O⟩:=jV G (fun _ s=>s=st) (fun r=>r=(e,E)) (fun n s hs=>by subst hs;exact .inr ⟨_,h,fun s h=>J (congrArg Prod.fst h),rfl⟩) 0 rfl;rw[O]
theorem afn{body:St->Option (Ex×St)}{st st1 E:St}{y:Option (Ex×St)}{e:Ex}(G:dI body st=y)(J:body st=some (.norm,st1))(h:body st1=some (e,E))(O:e≠ .norm):y=some (e,E):=by
 obtain⟨r,rfl,S⟩:=jV G (fun n s=>(n=1/\s=st)\/(n=0/\s=st1)) (fun r=>r=(e,E)) (fun n s hs=>by
  rcases hs with ⟨rfl,rfl⟩|⟨rfl,rfl⟩
  .exact .inl ⟨_,J,0,by omega,.inr ⟨rfl,rfl⟩⟩
  .exact .inr ⟨_,h,fun s h=>O (congrArg Prod.fst h),rfl⟩) 1 (.inl ⟨rfl,rfl⟩)
 rw[S]
theorem anx{σ:Store}{nx bt bf bo:Nat}(E:σ bt=some ⟨[.nil,Bo false,LI (dg 1),.nil,I 0,.rs bf 0 0],0,true⟩)(G:bt<nx) :
  ev ZH qI Af 187 [.rp bt 0,.rs bo 0 0] σ nx=some (Bo true,σ,nx):=by
 rw[nG [.tmp 4] [] func187];simp only[go_sem];generalize J:dI _ _=y;have S:¬(0:Int)<0:=by decide
 obtain rfl:=afn J (by
  simp only[go_sem,E,G];generalize O:dI _ _=Y;obtain rfl:=jW O (by simp only[go_sem];rfl) (by simp);simp only[go_sem];rfl) (by simp only[go_sem];rfl) (by simp)
 clear J;simp only[go_sem,E,G];generalize J:dI _ _=y;obtain rfl:=jW J (by simp only[go_sem];rfl) (by simp);simp only[go_sem]
theorem ame{σ:Store}{nx bt bf:Nat}(E:σ bt=some ⟨[.nil,Bo false,LI (dg 1),.nil,I 0,.rs bf 0 0],0,true⟩)(G:bt<nx) :
  ev ZH qI Af 216 [.rp bt 0,I 0] σ nx=some (.AP [],σ,nx):=by
 rw[nG [] [10,11] func216];simp only[go_sem];generalize J:dI _ _=y;obtain rfl:=jW J (by simp only[go_sem,E,G];rfl) (by simp);simp only[go_sem]
theorem amf(σ:Store):∃r,ev ZH qI Af 186 [.tp (CZ 0 0 [] [] []) 0] σ 0=some r/\∃σ' nx' bt bf,r=(.AP [.rp bt 0,Bo true],σ',nx')/\bt<nx'/\σ' bt=some ⟨[.nil,Bo false,LI (dg 1),.nil,I 0,.rs bf 0 0],0,true⟩:=by
 have k1:fn ZH conv ext 199 [I 1]=some (.agg [Bo false,LI (dg 1)]):=kM 1 (by decide) (by decide)
 have z2:IntKind.i64.wrap (0+0)=0:=by decide
 have z3:(1:Int)*0<=281474976710656:=by decide
 have O:(0:Int)<=9223372036854775807:=by decide
 have S:Int.toNat 0=0:=rfl;have z6:(8:Int)*0<=281474976710656:=by decide
 unfold CZ;rw[nG [.tmp 2,.tmp 3] [15,18,24,38] func186];simp only[go_sem,k1,z2,z3,O,S];generalize E:dI _ _=y;obtain rfl:=jW E (by simp only[go_sem];rfl) (by simp);clear E;simp only[go_sem,O,S,z6];generalize E:dI _ _=y;obtain rfl:=jW E (by simp only[go_sem];rfl) (by simp);clear E;obtain⟨σ2,Y⟩:∃σ2,σ2=upd (upd (upd σ 0 (some ⟨rep 0 [V.sc (Value.bool false)],1,true⟩)) 1 (some ⟨[.nil,Bo false,LI (dg 1),.nil,I 0,.rs 0 0 0],0,true⟩)) 2 (some ⟨rep 0 [I 0],1,true⟩):=⟨_,rfl⟩;have G:σ2 1=some ⟨[.nil,Bo false,LI (dg 1),.nil,I 0,.rs 0 0 0],0,true⟩:=by rw[Y];rfl
 have hm:=anx (nx:=3) (bo:=2) G (by decide);have hl:=ame (nx:=3) G (by decide);have J:1<3:=by decide
 simp only[go_sem,qJ,<- Y,hm,G,J];generalize E:dI _ _=y;obtain rfl:=jW E (by simp only[go_sem];rfl) (by simp);clear E;simp only[go_sem,G,J];generalize E:dI _ _=y;obtain rfl:=jW E (by simp only[go_sem];rfl) (by simp);clear E;simp only[go_sem,qJ,hl];exact⟨_,rfl,σ2,3,1,0,rfl,J,G⟩
theorem amg:fn ZH qI Af 161 [.tp (CZ 0 0 [] [] []) 0]=some (.AP [I 0,.ts [] 0,.tp (cQ 0) 0]):=by
 obtain⟨r0,kb,S,E,bt,bf,rfl,a2,Y⟩:=amf lI;have z3:(8:Int)*0<=281474976710656:=by decide
 have z4:(0:Int)<=9223372036854775807:=by decide
 have z5:Int.toNat 0=0:=rfl;obtain⟨σ2,DX⟩:∃σ2,σ2=upd S E (some ⟨rep 0 [I 0],1,true⟩):=⟨_,rfl⟩;have Oi:σ2 bt=some ⟨[.nil,Bo false,LI (dg 1),.nil,I 0,.rs bf 0 0],0,true⟩:=by rw[DX,Zk];exact Y
 have a0:bt<E+1:=by omega
 have km:=anx (nx:=E+1) (bo:=E) Oi a0;have kc:Hq σ2 (E+1) [] 0 (.rs E 0 0)=some (I 0,σ2,E+1):=rfl;have g4:fn ZH conv ext 169 [I 0]=some (.tp (cQ 0) 0):=kE 0 (by decide) (by decide)
 rw[mM,nG [.tmp 2,.tmp 3,.tmp 4] [24] func161];have kb:ev ZH qI Af 186 [.tp [I 0,I 0,LI [],LI [],LI []] 0] lI 0=some (.AP [.rp bt 0,Bo true],S,E):=kb;unfold CZ;have kl:List.flatMap cI []=[]:=rfl;simp only[go_sem,qJ,kb,Y,a2,z3,z4,z5,<- DX,kc,km,kl];generalize G:dI _ _=y;obtain rfl:=jW G (by simp only[go_sem];rfl) (by simp);clear G;simp only[go_sem,z3,z4,z5];generalize G:dI _ _=y;obtain rfl:=jW G (by simp only[go_sem];rfl) (by simp);clear G;obtain⟨J,O⟩:∃J,J=upd σ2 (E+1) (some ⟨rep 0 [V.sc (.pointer none)],1,true⟩):=⟨_,rfl⟩;have LD:J bt=some ⟨[.nil,Bo false,LI (dg 1),.nil,I 0,.rs bf 0 0],0,true⟩:=by rw[O,Zk];exact Oi
 have a1:bt<E+1+1:=by omega
 simp only[go_sem,<- O,LD,a1];generalize G:dI _ _=y;obtain rfl:=jW G (by simp only[go_sem];rfl) (by simp);clear G;simp only[go_sem,g4];generalize G:dI _ _=y;obtain rfl:=jW G (by simp only[go_sem];rfl) (by simp);clear G;have hx:J (E+1)=some ⟨[],1,true⟩:=by rw[O,Zi];rfl
 simp only[go_sem,hx]
structure SG (s:Structure):Prop where
 nj:s.joints.length<=6
 nm:s.members.length<=8
 pl:∀i (h:i<s.joints.length),-50<=s.joints[i].x/\s.joints[i].x<=50/\-50<=s.joints[i].y/\s.joints[i].y<=50
 mr:∀k (h:k<s.members.length),Gy s.joints.length s.members[k]
theorem Ar.sg{s:Structure}(h:Ar s):SG s:=by
 obtain⟨O,S,Y,h4⟩:=h;refine⟨O,S,fun i hi=>?_,fun k hk=>?_⟩
 .have E:=(Y i hi).1
  unfold Ez at E;rw[zB,zB]at E;have G:=kK E.2.1;have J:=kK E.2.2;exact⟨G.1,G.2,J.1,J.2⟩
 .have E:=h4 _ (zu hk)
  refine zf fun hn=>?_
  rw[jP hn]at E;cases E
def mem(s:Structure)(k:Nat):Member:=(s.members[k]?).getD ⟨0,0,0⟩
def XR(s:Structure)(i:Int):Joint:=(s.joints[i.toNat]?).getD ⟨ByteArray.empty,0,0,false⟩
def vx(s:Structure)(k:Nat):Int:=(XR s (mem s k).b).x - (XR s (mem s k).a).x
def vy(s:Structure)(k:Nat):Int:=(XR s (mem s k).b).y - (XR s (mem s k).a).y
theorem jO{s:Structure}{k:Nat}(h:k<s.members.length):s.members[k]=mem s k:=by unfold mem;rw[zy h];rfl
theorem aiD{s:Structure}(h:SG s)(i:Int):-50<=(XR s i).x/\(XR s i).x<=50/\-50<=(XR s i).y/\(XR s i).y<=50:=by
 unfold XR
 by_cases hi:i.toNat<s.joints.length
 .rw[zy hi];exact h.pl _ hi
 .rw[yZ (by omega)];simp
theorem Zd{s:Structure}(h:SG s)(k:Nat):-100<=vx s k/\vx s k<=100/\-100<=vy s k/\vy s k<=100:=by
 have E:=aiD h (mem s k).a;have G:=aiD h (mem s k).b;unfold vx vy;omega
theorem cO{α:Type}{c:α->List V}{s:Nat}(hc:∀x,(c x).length=s)(xs:List α)(k:Nat)(h:k<xs.length){j:Nat}(E:j<s):(xs.flatMap c)[k*s+j]?=(c xs[k])[j]?:=by
 rw[<- d_ hc xs k h,xE,sS E,xX]
theorem acX{s:Structure}(h:SG s){k:Nat}(G:k<s.members.length):fn ZH conv ext 193 [.tp (cStructure s) 0,I k]=some (.AP [I (vx s k),I (vy s k)]):=by
 have J:=h.mr k G;rw[jO G]at J;have hb:=Zd h k;have a0:=h.nm;have YK:=h.nj;have O:=Lc s.members k G;rw[jO G]at O;have f1:(k:Int)<(s.members.length:Int):=by omega
 have f2:=jD k;have f4:=Gg s.members;have f5:k*3+3<=s.members.length*3:=by omega
 have f6:=Lh s.members k G;unfold vx vy at hb⊢;generalize mem s k=mm at *;obtain⟨S,Y,mk⟩:=mm;obtain⟨r1,r2,r3,r4,r5,r6⟩:=J;simp only at *;obtain⟨a,rfl⟩:∃a:Nat,S=(a:Int):=⟨S.toNat,by omega⟩;obtain⟨b,rfl⟩:∃b:Nat,Y=(b:Int):=⟨Y.toNat,by omega⟩;have ha:a<s.joints.length:=by omega
 have E:b<s.joints.length:=by omega
 have ea:XR s (a:Int)=s.joints[a]:=by unfold XR;rw[zF,zy ha];rfl
 have eb:XR s (b:Int)=s.joints[b]:=by unfold XR;rw[zF,zy E];rfl
 rw[ea,eb]at hb⊢;have g4:=EN s.joints;have g6:=JD s.joints a ha;have p1:(s.joints.flatMap cJoint)[a*4+1]?=some (I s.joints[a].x):=cO (c:=cJoint) (fun _=>rfl) s.joints a ha (j:=1) (by decide);have p2:(s.joints.flatMap cJoint)[a*4+2]?=some (I s.joints[a].y):=cO (c:=cJoint) (fun _=>rfl) s.joints a ha (j:=2) (by decide);have p3:(s.joints.flatMap cJoint)[b*4+1]?=some (I s.joints[b].x):=cO (c:=cJoint) (fun _=>rfl) s.joints b E (j:=1) (by decide);have p4:(s.joints.flatMap cJoint)[b*4+2]?=some (I s.joints[b].y):=cO (c:=cJoint) (fun _=>rfl) s.joints b E (j:=2) (by decide);have w1:=ZQ (n:=s.joints[b].x-s.joints[a].x);have w2:=ZQ (n:=s.joints[b].y-s.joints[a].y);rw[mM,nG [.tmp 4,.tmp 5] [2] func193];simp only[go_sem,O,f1,f2,f4,f5,f6,r1,r2,r3,r4,g4,g6,p1,p2,p3,p4,w1,w2]
def Dv(s:Structure)(i:Nat):Bool:=(s.joints[i]?).elim false fun j=> !j.fixed
def free(s:Structure):List Int:=DT (Dv s) s.joints.length
theorem kW{T:Nat->V}{σ:Store}{nx t:Nat}{acc:List Int}(J:Grow T σ nx t acc)(x:Option E_):Grow T (upd σ nx x) (nx+1) t acc:=by
 rcases J with ⟨E,G⟩|⟨b,E,G,O,S⟩
 .exact .inl ⟨E,G⟩
 .exact .inr ⟨b,E,G,by rw[Zk];exact O,by omega⟩
theorem KO{s:Structure}(h:SG s):fn ZH conv ext 165 [.tp (cStructure s) 0]=some (LI (free s)):=by
 have YK:=h.nj;unfold free;rw[mM,nG [.tmp 2] [] func165];simp only[go_sem];generalize hL:dI _ _=y;obtain⟨r,rfl,T',σ',nx',rfl,h2⟩:=pF hL s.joints.length (fun k st=>st.T 9=LL cJoint s.joints/\st.T 10=I s.joints.length/\st.T 11=I k/\Grow st.T st.σ st.nx 3 (DT (Dv s) k))
  (fun r=>∃T σ nx',r=(.exit 0,⟨T,σ,nx'⟩)/\Grow T σ nx' 3 (DT (Dv s) s.joints.length)) (by
   clear hL;rintro k ⟨T,σ,nx⟩ G ⟨O,E,J,S⟩;simp only at O E J S;have f1:(k:Int)<(s.joints.length:Int):=by omega
   have f2:=jD k;have f3:=ZQ (n:=(k:Int)+1);have f4:=Hr s.joints k G;have f5:=EN s.joints;have f6:k*4+4<=s.joints.length*4:=by omega
   have f9:=JD s.joints k G;have hle:=Zp (Dv s) k;have Y:=fun x=>kW S x
   cases hp:s.joints[k].fixed with
   |false=>
    have hq:Dv s k=true:=by simp[Dv,zy G,hp]
    obtain⟨σ',ha,hs⟩:=kU (Y (some ⟨[Sg s.joints[k].name,I s.joints[k].x,I s.joints[k].y,Bo false],0,true⟩)) (k:Int) (by omega);refine .inl ⟨_,by simp only[go_sem,O,E,J,f1,f2,f3,f4,f5,f6,f9,hp,G,ha];rfl,?_⟩;simp only[go_sem,O,E];rw[Zn hq];exact⟨rfl,kR hs (by simp[go_sem]) (by simp)⟩
   |true=>
    have hq:Dv s k=false:=by simp[Dv,zy G,hp]
    refine .inl ⟨_,by simp only[go_sem,O,E,J,f1,f2,f3,f4,f5,f6,f9,hp,G];rfl,?_⟩;simp only[go_sem,O,E];rw[Zo hq];exact⟨rfl,kS (T:=T) (by simp only[go_sem]) (Y _)⟩) (by
   rintro ⟨T,σ,nx⟩ ⟨O,E,J,S⟩;simp only at O E J S;exact⟨_,by simp only[go_sem,E,J,zl];rfl,by simp,_,_,_,rfl,kS (by simp only[go_sem]) S⟩) (by
   simp only[go_sem];exact .inl ⟨by simp only[go_sem],rfl⟩)
 obtain⟨ids,hs⟩:=kQ h2 6;simp only[go_sem,hs]
end Go.Proofs.YtehdaknhabeiaaaGreat
namespace Go.Plan
inductive Way (mv:Nat->Nat->Bool) (al:Nat->Bool):Nat->Nat->Nat->Prop
 |nil {a:Nat} (h:al a=true):Way mv al 0 a a
 |cons {k a b c:Nat} (h:al a=true) (hm:mv a b=true) (hw:Way mv al k b c):Way mv al (k+1) a c
section
variable {mv:Nat->Nat->Bool} {al:Nat->Bool}
theorem Way.fst{k a b:Nat}(h:Way mv al k a b):al a=true:=by cases h<;>assumption
theorem Way.lst{k a b:Nat}(h:Way mv al k a b):al b=true:=by induction h<;>assumption
theorem Way.snoc{k a b c:Nat}(h:Way mv al k a b)(hm:mv b c=true)(hc:al c=true):Way mv al (k+1) a c:=by
 induction h with
 |nil h=>exact .cons h hm (.nil hc)
 |cons h E _ G=>exact .cons h E (G hm)
theorem Way.zero{a b:Nat}(h:Way mv al 0 a b):a=b/\al a=true:=by
 cases h with
 |nil h=>exact⟨rfl,h⟩
theorem Way.succ{k a c:Nat}(h:Way mv al (k+1) a c):al a=true/\∃b,mv a b=true/\Way mv al k b c:=by
 cases h with
 |cons h hm hw=>exact⟨h,_,hm,hw⟩
theorem least{p:Nat->Prop}(h:∃k,p k):∃k,p k/\∀j,p j->k<=j:=by
 obtain⟨k,E⟩:=h
 induction k using Nat.strongRecOn with
 |_ k G=>
  by_cases h:∃j,j<k/\p j
  .obtain⟨j,J,hp⟩:=h;exact G j J hp
  .exact⟨k,E,fun j hp=>zf fun O=>h ⟨j,by omega,hp⟩⟩
def JX(mv:Nat->Nat->Bool)(al:Nat->Bool)(to i:Nat)(d:Int):Prop:=(d= -1/\∀k,¬Way mv al k i to)\/∃k:Nat,d=(k:Int)/\Way mv al k i to/\∀j,Way mv al j i to->k<=j
theorem acY(mv:Nat->Nat->Bool)(al:Nat->Bool)(to i:Nat):∃d,JX mv al to i d:=by
 by_cases h:∃k,Way mv al k i to
 .obtain⟨k,E,G⟩:=least h
  exact⟨k,.inr ⟨k,rfl,E,G⟩⟩
 .exact⟨-1,.inl ⟨rfl,fun k J=>h ⟨k,J⟩⟩⟩
noncomputable def dst(mv:Nat->Nat->Bool)(al:Nat->Bool)(to i:Nat):Int:=Classical.choose (acY mv al to i)
theorem Uw(mv:Nat->Nat->Bool)(al:Nat->Bool)(to i:Nat):JX mv al to i (dst mv al to i):=Classical.choose_spec (acY mv al to i)
theorem JX.uniq{to i:Nat}{d e:Int}(E:JX mv al to i d)(G:JX mv al to i e):d=e:=by
 rcases E with ⟨rfl,E⟩|⟨k,rfl,E,J⟩<;>rcases G with ⟨rfl,G⟩|⟨j,rfl,G,O⟩
 .rfl
 .exact absurd G (E _)
 .exact absurd E (G _)
 .have:=J _ G;have:=O _ E;omega
theorem aiE{to i:Nat}{d:Int}(h:JX mv al to i d):dst mv al to i=d:=(Uw mv al to i).uniq h
theorem apI(to i:Nat):-1<=dst mv al to i:=by
 rcases Uw mv al to i with ⟨h,_⟩|⟨k,h,_⟩<;>omega
theorem IY{to i:Nat}(h:0<=dst mv al to i):∃k:Nat,dst mv al to i=k/\Way mv al k i to/\∀j,Way mv al j i to->k<=j:=by
 rcases Uw mv al to i with ⟨E,_⟩|E
 .omega
 .exact E
theorem Ux{to i k:Nat}(h:Way mv al k i to):0<=dst mv al to i/\dst mv al to i<=k:=by
 rcases Uw mv al to i with ⟨_,E⟩|⟨j,E,J,G⟩
 .exact absurd h (E _)
 .have:=G _ h;omega
theorem XT{to i:Nat}(h:∀k,¬Way mv al k i to):dst mv al to i= -1:=aiE (.inl ⟨rfl,h⟩)
theorem Ov{to:Nat}(h:al to=true):dst mv al to to=0:=by
 have:=Ux (Way.nil (mv:=mv) h);omega
theorem XU{to i:Nat}(h:dst mv al to i=0):i=to/\al to=true:=by
 obtain⟨k,J,E,_⟩:=IY (mv:=mv) (al:=al) (to:=to) (i:=i) (by omega);have:k=0:=by omega
 subst this;obtain⟨rfl,G⟩:=E.zero;exact⟨rfl,G⟩
theorem Ox{to i:Nat}(h:0<=dst mv al to i):al i=true/\al to=true:=by
 obtain⟨k,_,E,_⟩:=IY h;exact⟨E.fst,E.lst⟩
theorem XV{to i m:Nat}(hi:al i=true)(hm:mv i m=true)(h:0<=dst mv al to m):0<=dst mv al to i/\dst mv al to i<=dst mv al to m+1:=by
 obtain⟨k,G,E,_⟩:=IY h;have:=Ux (Way.cons hi hm E);omega
theorem XW{to i:Nat}(h:0<dst mv al to i):al i=true/\∃m,mv i m=true/\al m=true/\dst mv al to m=dst mv al to i-1:=by
 obtain⟨k,Y,O,h3⟩:=IY (mv:=mv) (al:=al) (to:=to) (i:=i) (by omega);cases k with
 |zero=>omega
 |succ k=>
  obtain⟨E,b,G,J⟩:=O.succ;have S:=Ux J;have h8:=XV E G S.1;exact⟨E,b,G,J.fst,by omega⟩
theorem jB:∀ {n:Nat} {l:List Nat},l.Nodup->(∀x∈l,x<n)->l.length<=n
 |0,[],_,_=>zq 0
 |0,x :: _,_,h=>absurd (h x zM) (zW _)
 |n+1,l,hn,h=>by
  have G:=jB (n:=n) (l:=l.erase n) (hn.sublist List.erase_sublist) fun x J=>by
   have E:=(List.Nodup.mem_erase_iff hn).mp J;have:=h x E.2;have:=E.1;omega
  by_cases hm:n∈l
  .have:=List.length_erase_of_mem hm
   omega
  .rw[List.erase_of_not_mem hm]at G
   omega
structure XY (mv:Nat->Nat->Bool) (al:Nat->Bool) (to:Nat) (all:List Nat) (p:Nat) (out:Nat->Int):Prop where
 nd:all.Nodup
 lab:∀i,i∉all->out i= -1
 way:∀i,i∈all->∃k:Nat,out i=k/\Way mv al k i to
 t0:to∈all/\out to=0
 srt:∀a b (ha:a<all.length) (hb:b<all.length),a<=b->out all[a]<=out all[b]
 don:∀a (ha:a<all.length),a<p->∀i,al i=true->mv i all[a]=true->i∈all/\out i<=out all[a]+1
 one:∀(hp:p<all.length),∀i∈all,out i<=out all[p]+1
 bnd:∀i,i∈all->out i<all.length
def put(out:Nat->Int)(x:Nat)(v:Int):Nat->Int:=fun i=>if i=x then v else out i
theorem gQ(out:Nat->Int)(x:Nat)(v:Int):put out x v x=v:=sS rfl
theorem gU{out:Nat->Int}{x i:Nat}{v:Int}(h:i≠x):put out x v i=out i:=sW h
theorem afo{to:Nat}(h:al to=true):XY mv al to [to] 0 (put (fun _=> -1) to 0):=by
 refine⟨by simp,fun i hi=>?_,fun i hi=>?_,⟨by simp,gQ _ _ _⟩,fun a b ha hb _=>?_,fun a ha E=>absurd E (zW _),fun hp i hi=>?_,fun i hi=>?_⟩
 .exact gU (by simpa using hi)
 .have:i=to:=by simpa using hi
  subst this;exact⟨0,gQ _ _ _,.nil h⟩
 .have G:a=0:=by simpa using ha
  have J:b=0:=by simpa using hb
  subst G J;exact yD _
 .have:i=to:=by simpa using hi
  subst this;show put _ _ _ _<=put _ _ _ i+1;omega
 .have:i=to:=by simpa using hi
  subst this;rw[gQ];simp
theorem XY.lo{to:Nat}{all:List Nat}{p:Nat}{out:Nat->Int}(h:XY mv al to all p out)(i:Nat):(out i<0↔i∉all):=by
 constructor
 .intro E G
  obtain⟨k,J,_⟩:=h.way i G;omega
 .intro E
  rw[h.lab i E];omega
theorem XY.add{to:Nat}{all:List Nat}{p:Nat}{out:Nat->Int}(h:XY mv al to all p out)(hp:p<all.length){x:Nat}(hx:x∉all)(Y:al x=true)(a0:mv x all[p]=true):XY mv al to (all++[x]) p (put out x (out all[p]+1)):=by
 have ne:∀ {i:Nat},i∈all->put out x (out all[p]+1) i=out i:=fun {i} hi=>gU fun e=>hx (e ▸ hi)
 obtain⟨kp,a4,a1⟩:=h.way all[p] (zu hp);have G:∀i∈all++[x],put out x (out all[p]+1) i<=out all[p]+1:=fun i hi=>by
  rcases List.mem_append.mp hi with hi|hi
  .rw[ne hi];exact h.one hp i hi
  .have:i=x:=by simpa using hi
   subst this;rw[gQ];exact yD _
 have gl:∀ {a:Nat} (ha:a<(all++[x]).length),(∃h':a<all.length,(all++[x])[a]=all[a])\/(a=all.length/\(all++[x])[a]=x):=fun {a} ha=>by
  by_cases h':a<all.length
  .exact .inl ⟨h',yG h'⟩
  .have:a=all.length:=by simp at ha;omega
   subst this;exact .inr ⟨rfl,by simp⟩
 refine⟨?_,fun i hi=>?_,fun i hi=>?_,⟨zD _ h.t0.1,?_⟩,fun a b ha hb a2=>?_,fun a ha a3 i hi hm=>?_,fun a5 i hi=>?_,fun i hi=>?_⟩
 .rw[List.nodup_append]
  exact⟨h.nd,by simp,fun a ha b hb=>by have:b=x:=by simpa using hb
                                       subst this;exact fun e=>hx (e ▸ ha)⟩
 .have h1:i∉all:=fun e=>hi (zD _ e)
  have h2:i≠x:=fun e=>hi (yw _ (by simp[e]))
  rw[gU h2];exact h.lab i h1
 .rcases List.mem_append.mp hi with hi|hi
  .rw[ne hi];exact h.way i hi
  .have:i=x:=by simpa using hi
   subst this;exact⟨kp+1,by rw[gQ];omega,.cons Y a0 a1⟩
 .rw[ne h.t0.1];exact h.t0.2
 .rcases gl ha with ⟨E,J⟩|⟨ra,J⟩<;>rcases gl hb with ⟨O,S⟩|⟨rb,S⟩
  .rw[J,S,ne (zu E),ne (zu O)]
   exact h.srt a b E O a2
  .rw[J,S,gQ,ne (zu E)]
   exact h.one hp _ (zu E)
  .omega
  .rw[J,S];exact yD _
 .rcases gl ha with ⟨E,J⟩|⟨ra,J⟩
  .rw[J]at hm⊢
   have:=h.don a E a3 i hi hm;rw[ne this.1,ne (zu E)];exact⟨zD _ this.1,this.2⟩
  .omega
 .have e:(all++[x])[p]=all[p]:=yG hp
  rw[e,ne (zu hp)];exact G i hi
 .have h1:=G i hi
  have h2:=h.bnd all[p] (zu hp);rw[zo,yM];omega
theorem XY.next{to:Nat}{all:List Nat}{p:Nat}{out:Nat->Int}(h:XY mv al to all p out)(hp:p<all.length)(G:∀i,al i=true->mv i all[p]=true->i∈all):XY mv al to all (p+1) out:=by
 refine⟨h.nd,h.lab,h.way,h.t0,h.srt,fun a ha J i hi hm=>?_,fun E i hi=>?_,h.bnd⟩
 .by_cases e:a=p
  .subst e
   exact⟨G i hi hm,h.one hp i (G i hi hm)⟩
  .exact h.don a ha (by omega) i hi hm
 .have O:=h.one hp i hi
  have S:=h.srt p (p+1) hp E (by omega);omega
theorem XY.fin{to:Nat}{all:List Nat}{p:Nat}{out:Nat->Int}(h:XY mv al to all p out)(hp:all.length<=p)(i:Nat):dst mv al to i=out i:=by
 have key:∀k i,Way mv al k i to->i∈all/\out i<=k:=by
  intro k
  induction k with
  |zero=>
   intro i hw;obtain⟨rfl,_⟩:=hw.zero;exact⟨h.t0.1,by rw[h.t0.2];omega⟩
  |succ k J=>
   intro i hw;obtain⟨E,b,G,O⟩:=hw.succ;obtain⟨S,h5⟩:=J b O;obtain⟨a,ha,rfl⟩:=yV S;obtain⟨Y,h7⟩:=h.don a ha (by omega) i E G;exact⟨Y,by omega⟩
 apply aiE
 by_cases hm:i∈all
 .obtain⟨k,E,G⟩:=h.way i hm
  exact .inr ⟨k,E,G,fun j hj=>by have:=(key j i hj).2;omega⟩
 .exact .inl ⟨h.lab i hm,fun k hk=>hm (key k i hk).1⟩
theorem XY.bound{to:Nat}{all:List Nat}{p n:Nat}{out:Nat->Int}(h:XY mv al to all p out)(hn:∀i,al i=true->i<n):all.length<=n :=
 jB h.nd fun i hi=>by obtain⟨k,_,hw⟩:=h.way i hi;exact hn i hw.fst
structure Fwd (mv:Nat->Nat->Bool) (al:Nat->Bool) (fr:Nat) (all:List Nat) (p:Nat):Prop where
 nd:all.Nodup
 way:∀i,i∈all->∃k:Nat,Way mv al k fr i
 t0:fr∈all
 don:∀a (ha:a<all.length),a<p->∀i,al i=true->mv all[a] i=true->i∈all
theorem afp{fr:Nat}(h:al fr=true):Fwd mv al fr [fr] 0 :=
 ⟨by simp,fun i hi=>by have:i=fr:=by simpa using hi
                       subst this;exact⟨0,.nil h⟩,by simp,fun a ha E=>absurd E (zW _)⟩
theorem Fwd.add{fr:Nat}{all:List Nat}{p:Nat}(h:Fwd mv al fr all p)(hp:p<all.length){x:Nat}(Y:x∉all)(G:al x=true)(J:mv all[p] x=true):Fwd mv al fr (all++[x]) p:=by
 obtain⟨kp,O⟩:=h.way all[p] (zu hp);refine⟨?_,fun i hi=>?_,zD _ h.t0,fun a ha S i hi hm=>?_⟩
 .rw[List.nodup_append]
  exact⟨h.nd,by simp,fun a ha b hb=>by have:b=x:=by simpa using hb
                                       subst this;exact fun e=>Y (e ▸ ha)⟩
 .rcases List.mem_append.mp hi with hi|hi
  .exact h.way i hi
  .have:i=x:=by simpa using hi
   subst this;exact⟨kp+1,O.snoc J G⟩
 .have E:a<all.length:=by omega
  have e:(all++[x])[a]=all[a]:=yG E;rw[e]at hm;exact zD _ (h.don a E S i hi hm)
theorem Fwd.next{fr:Nat}{all:List Nat}{p:Nat}(h:Fwd mv al fr all p)(hp:p<all.length)(E:∀i,al i=true->mv all[p] i=true->i∈all):Fwd mv al fr all (p+1) :=
 ⟨h.nd,h.way,h.t0,fun a ha G i hi hm=>by
  by_cases e:a=p
  .subst e;exact E i hi hm
  .exact h.don a ha (by omega) i hi hm⟩
theorem Fwd.fin{fr:Nat}{all:List Nat}{p:Nat}(h:Fwd mv al fr all p)(hp:all.length<=p)(i:Nat):i∈all↔0<=dst mv al i fr:=by
 have key:∀k a,Way mv al k a i->a∈all->i∈all:=by
  intro k a hw
  induction hw with
  |nil _=>exact id
  |cons h1 hm E O=>
   intro ha;obtain⟨S,G,rfl⟩:=yV ha;exact O (h.don S G (by omega) _ E.fst hm)
 constructor
 .intro hi
  obtain⟨k,J⟩:=h.way i hi;exact(Ux J).1
 .intro Y
  obtain⟨k,_,J,_⟩:=IY Y;exact key k fr J h.t0
theorem Fwd.bound{fr:Nat}{all:List Nat}{p n:Nat}(h:Fwd mv al fr all p)(hn:∀i,al i=true->i<n):all.length<=n :=
 jB h.nd fun i hi=>by obtain⟨k,hw⟩:=h.way i hi;exact hn i hw.lst
def Jk(mv:Nat->Nat->Bool)(out:Nat->Int)(n a:Nat):Nat:=((List.range n).find? fun i=>mv a i && (out i==out a-1)).getD a
def XZ(mv:Nat->Nat->Bool)(out:Nat->Int)(n a:Nat):Nat->Nat
 |0=>a
 |k+1=>Jk mv out n (XZ mv out n a k)
theorem aiF{n to:Nat}(hn:∀i,al i=true->i<n){a:Nat}(h:0<dst mv al to a):Jk mv (dst mv al to) n a<n/\mv a (Jk mv (dst mv al to) n a)=true/\dst mv al to (Jk mv (dst mv al to) n a)=dst mv al to a-1:=by
 obtain⟨_,m,J,O,S⟩:=XW h;unfold Jk;cases E:(List.range n).find? fun i=>mv a i && (dst mv al to i==dst mv al to a-1)with
 |none=>
  rw[List.find?_eq_none]at E;have:=E m (by simpa using hn m O);simp[J,S]at this
 |some i=>
  have G:=List.find?_some E;have Y:=List.mem_of_find?_eq_some E;rw[zB,beq_iff_eq]at G;exact⟨by simpa using Y,G.1,G.2⟩
theorem JY{n to:Nat}(hn:∀i,al i=true->i<n){a:Nat}:∀k:Nat,(k:Int)<=dst mv al to a->dst mv al to (XZ mv (dst mv al to) n a k)=dst mv al to a-k
 |0,_=>by unfold XZ;omega
 |k+1,h=>by
  have E:=JY hn (to:=to) (a:=a) k (by omega);have G:=aiF hn (mv:=mv) (to:=to) (a:=XZ mv (dst mv al to) n a k) (by omega);unfold XZ;omega
theorem Uy{n to:Nat}(hn:∀i,al i=true->i<n){a:Nat}(h:0<=dst mv al to a):dst mv al to a<n:=by
 obtain⟨d,hd⟩:∃d:Nat,dst mv al to a=d:=⟨(dst mv al to a).toNat,by omega⟩;have G:((List.range (d+1)).map (XZ mv (dst mv al to) n a)).Nodup:=by
  unfold List.Nodup;rw[List.pairwise_map];refine List.Pairwise.imp_of_mem ?_ (List.pairwise_lt_range (n:=d+1));intro i j hi J O e;rw[List.mem_range]at hi J;have E:=JY hn (mv:=mv) (to:=to) (a:=a) i (by omega);have S:=JY hn (mv:=mv) (to:=to) (a:=a) j (by omega);rw[e,S]at E;omega
 have Y:=jB (n:=n) G fun x hx=>by
  obtain⟨i,hi,rfl⟩:=List.mem_map.mp hx;rw[List.mem_range]at hi;have E:=JY hn (mv:=mv) (to:=to) (a:=a) i (by omega);exact hn _ (Ox (mv:=mv) (to:=to) (by omega)).1
 simp at Y;omega
def plan(mv:Nat->Nat->Bool)(out:Nat->Int)(n a:Nat):List Nat:=(List.range ((out a).toNat+1)).map (XZ mv out n a)
theorem aiG(out:Nat->Int)(n a:Nat):(plan mv out n a).length=(out a).toNat+1:=by simp[plan]
end
end Go.Plan
namespace Go.Plan
section
variable {mv:Nat->Nat->Bool} {al:Nat->Bool}
noncomputable def lst(mv:Nat->Nat->Bool)(al:Nat->Bool)(to a:Nat):Int:=if 0<=dst mv al to a then dst mv al to a+1 else 0
def aua(f:Int->Int)(b:Int)(k:Int):Int:=if 0<f k/\(b=0\/f k<b)then f k else b
def best(f:Int->Int)(l:List Int):Int:=l.foldl (aua f) 0
end
end Go.Plan
namespace Go.Plan
section
variable {mv:Nat->Nat->Bool} {al:Nat->Bool}
structure P6 (mv:Nat->Nat->Bool) (al:Nat->Bool) (to n:Nat) (D:Nat->Prop) (out:Nat->Int):Prop where
 lo:∀i,dst mv al to i<=(n:Int)->out i=dst mv al to i
 hi:∀i,(n:Int)<dst mv al to i->out i= -1\/(out i=(n:Int)+1/\dst mv al to i=(n:Int)+1)
 dn:∀i,D i->dst mv al to i=(n:Int)+1->out i=(n:Int)+1
theorem afq{to:Nat}(h:al to=true):P6 mv al to 0 (fun _=>False) (put (fun _=> -1) to 0) where
 lo i hi:=by
  by_cases e:i=to
  .subst e;rw[gQ,Ov h]
  .rw[gU e]
   have G:=apI (mv:=mv) (al:=al) to i
   by_cases E:dst mv al to i=0
   .exact absurd (XU E).1 e
   .omega
 hi i hi:=by
  by_cases e:i=to
  .subst e;rw[Ov h]at hi;omega
  .rw[gU e];exact .inl rfl
 dn i h0:=absurd h0 id
theorem P6.at{to n:Nat}{D:Nat->Prop}{out:Nat->Int}(h:P6 mv al to n D out){b:Nat}(hb:out b=(n:Int)):dst mv al to b=n:=by
 by_cases c:dst mv al to b<=(n:Int)
 .rw[<- h.lo b c];exact hb
 .rcases h.hi b (by omega)with e|⟨e,_⟩<;>omega
theorem P6.yes{to n:Nat}{D:Nat->Prop}{out:Nat->Int}(h:P6 mv al to n D out){a b:Nat}(hm:mv a b=true)(hb:out b=(n:Int))(ha:out a<0)(E:al a=true):P6 mv al to n (fun i=>D i\/i=a) (put out a ((n:Int)+1)):=by
 have G:=h.at hb;obtain⟨S,Y⟩:=XV E hm (by rw[G];omega);have J:dst mv al to a=(n:Int)+1:=by
  refine zf fun hn=>?_
  have:=h.lo a (by omega);omega
 refine⟨fun i hi=>?_,fun i hi=>?_,fun i O hi=>?_⟩
 .have:i≠a:=fun e=>by subst e;omega
  rw[gU this];exact h.lo i hi
 .by_cases e:i=a
  .subst e;rw[gQ];exact .inr ⟨rfl,J⟩
  .rw[gU e];exact h.hi i hi
 .by_cases e:i=a
  .subst e;rw[gQ]
  .rw[gU e];exact h.dn i (O.resolve_right e) hi
theorem P6.no{to n:Nat}{D:Nat->Prop}{out:Nat->Int}(h:P6 mv al to n D out){a b:Nat}(hn:¬(out b=(n:Int)/\out a<0/\al a=true)):P6 mv al to n (fun i=>D i\/(i=a/\dst mv al to b=(n:Int))) out:=by
 refine⟨h.lo,h.hi,fun i E hi=>?_⟩;rcases E with E|⟨rfl,hb⟩
 .exact h.dn i E hi
 .rcases h.hi i (by omega)with e|⟨e,_⟩
  .exact absurd ⟨by rw[h.lo b (by omega)];exact hb,by omega,(Ox (mv:=mv) (al:=al) (to:=to) (i:=i) (by omega)).1⟩ hn
  .exact e
theorem P6.weak{to n:Nat}{D E:Nat->Prop}{out:Nat->Int}(h:P6 mv al to n D out)(J:∀i,dst mv al to i=(n:Int)+1->E i->D i):P6 mv al to n E out :=
 ⟨h.lo,h.hi,fun i O G=>h.dn i (J i G O) G⟩
theorem P6.next{to n:Nat}{D:Nat->Prop}{out:Nat->Int}(h:P6 mv al to n D out)(E:∀i b,mv i b=true->dst mv al to b=(n:Int)->D i):P6 mv al to (n+1) (fun _=>False) out:=by
 have key:∀i,dst mv al to i=(n:Int)+1->out i=(n:Int)+1:=fun i hi=>by
  obtain⟨_,m,hm,_,J⟩:=XW (mv:=mv) (al:=al) (to:=to) (i:=i) (by omega);exact h.dn i (E i m hm (by omega)) hi
 refine⟨fun i hi=>?_,fun i hi=>?_,fun i G=>absurd G id⟩
 .by_cases c:dst mv al to i<=(n:Int)
  .exact h.lo i c
  .have e:dst mv al to i=(n:Int)+1:=by omega
   rw[key i e,e]
 .rcases h.hi i (by omega)with e|⟨e,O⟩
  .exact .inl e
  .omega
theorem P6.fin{to n:Nat}{D:Nat->Prop}{out:Nat->Int}(h:P6 mv al to n D out)(hn:∀i,al i=true->i<n)(i:Nat):out i=dst mv al to i:=by
 refine h.lo i ?_
 by_cases c:0<=dst mv al to i
 .have:=Uy hn c;omega
 .omega
end
end Go.Plan
namespace Go.Proofs.YtehdaknhabeiaaaGreat
open Go Go.TV
def D9(s:Nat):List V->Store->Nat->Option (V×Store×Nat)
 |[.ts row len],σ,nx=>if row.length=len*s/\len<=1000000/\row.all pI=true then(if len=0 then some (.nil,σ,nx)else some (.rs nx 0 len,Ai σ nx row s,nx+1))else none
 |_,_,_=>none
theorem Uz(args:List V)(σ:Store)(nx:Nat)(v:V)(σ':Store)(nx':Nat)(h:D9 1 args σ nx=some (v,σ',nx')):Ei ZH 66 args σ nx v σ' nx':=by
 unfold D9 at h
 split at h
 .rename_i row len
  split at h
  .rename_i hc
   obtain⟨O,hs,G⟩:=hc;refine mF (call:=fun _ _ _ _=>none) (conv:=fun _=> .Jo) (fun _ _ _ _ _ _ _ h=>by cases h) (by kernel_rfl) func66 rfl Tryz.underlying74 (n:=0) (by kernel_rfl) (st1:=⟨upd (C9 [.ts row len]) 2 .nil,σ,nx⟩) (T2:=upd (upd (C9 [.ts row len]) 2 .nil) 3 (.ts row len)) (v1:=.ts row len) (row:=row) (len:=len) (vs:=[v]) ?_ rfl ?_ rfl ?_ ?_
   .rfl
   .rfl
   .rfl
   .intro b hb
    cases b with
    |true=>
     have J:=hb rfl;subst J;have E:len=0:=by
      have S:0=len*1:=O;omega
     subst E;simp only[if_true,su,sZ]at h;obtain⟨rfl,rfl,rfl⟩:=h;exact⟨.ret,_,rfl,.inr rfl,rfl,rfl,rfl⟩
    |false=>
     by_cases E:len=0
     .subst E
      have J:row=[]:=zZ (by omega);subst J;simp only[if_true,su,sZ]at h;obtain⟨rfl,rfl,rfl⟩:=h;refine⟨.ret,?_,?_,.inr rfl,?_,?_,?_⟩
      .exact⟨upd (upd (upd (upd (upd (upd (upd (upd (C9 [.ts [] 0]) 2 .nil) 3 (.ts [] 0)) 4 (.sc (.bool false))) 5 .nil) 6 (.ts [] 0)) 7 .nil) 2 .nil) 2 .nil,σ,nx⟩
      .simp only[xI,go_sem]
      .rfl
      .rfl
      .rfl
     .rw[sW E]at h
      simp only[su,sZ]at h;obtain⟨rfl,rfl,rfl⟩:=h;have q0:len<=maxLen:=by unfold maxLen;omega
      have Y:len<=maxLen/\len*1<=140737488355328:=by unfold maxLen;omega
      have q2:len<=maxLen/\len*40<=140737488355328:=by unfold maxLen;omega
      have q3:len<=maxLen/\len<=140737488355328:=by unfold maxLen;omega
      refine⟨.ret,?_,?_,.inr rfl,?_,?_,?_⟩
      .exact⟨upd (upd (upd (upd (upd (upd (upd (C9 [.ts row len]) 2 .nil) 3 (.ts row len)) 4 (.sc (.bool false))) 5 .nil) 6 (.ts row len)) 7 (.rs nx 0 len)) 2 (.rs nx 0 len),Ai σ nx row 1,nx+1⟩
      .simp only[xI,go_sem,O,E,Y,q2,q3]
      .rfl
      .rfl
      .rfl
  .cases h
 .cases h
theorem UA(args:List V)(σ:Store)(nx:Nat)(v:V)(σ':Store)(nx':Nat)(h:D9 4 args σ nx=some (v,σ',nx')):Ei ZH 108 args σ nx v σ' nx':=by
 unfold D9 at h
 split at h
 .rename_i row len
  split at h
  .rename_i hc
   obtain⟨O,hs,G⟩:=hc;refine mF (call:=fun _ _ _ _=>none) (conv:=fun _=> .Jo) (fun _ _ _ _ _ _ _ h=>by cases h) (by kernel_rfl) func108 rfl Tryz.underlying31 (n:=0) (by kernel_rfl) (st1:=⟨upd (C9 [.ts row len]) 2 .nil,σ,nx⟩) (T2:=upd (upd (C9 [.ts row len]) 2 .nil) 3 (.ts row len)) (v1:=.ts row len) (row:=row) (len:=len) (vs:=[v]) ?_ rfl ?_ rfl ?_ ?_
   .rfl
   .rfl
   .rfl
   .intro b hb
    cases b with
    |true=>
     have J:=hb rfl;subst J;have E:len=0:=by
      have S:0=len*4:=O;omega
     subst E;simp only[if_true,su,sZ]at h;obtain⟨rfl,rfl,rfl⟩:=h;exact⟨.ret,_,rfl,.inr rfl,rfl,rfl,rfl⟩
    |false=>
     by_cases E:len=0
     .subst E
      have J:row=[]:=zZ (by omega);subst J;simp only[if_true,su,sZ]at h;obtain⟨rfl,rfl,rfl⟩:=h;refine⟨.ret,?_,?_,.inr rfl,?_,?_,?_⟩
      .exact⟨upd (upd (upd (upd (upd (upd (upd (upd (C9 [.ts [] 0]) 2 .nil) 3 (.ts [] 0)) 4 (.sc (.bool false))) 5 .nil) 6 (.ts [] 0)) 7 .nil) 2 .nil) 2 .nil,σ,nx⟩
      .simp only[xI,go_sem]
      .rfl
      .rfl
      .rfl
     .rw[sW E]at h
      simp only[su,sZ]at h;obtain⟨rfl,rfl,rfl⟩:=h;have q0:len<=maxLen:=by unfold maxLen;omega
      have Y:len<=maxLen/\len*1<=140737488355328:=by unfold maxLen;omega
      have q2:len<=maxLen/\len*40<=140737488355328:=by unfold maxLen;omega
      have q3:len<=maxLen/\len<=140737488355328:=by unfold maxLen;omega
      refine⟨.ret,?_,?_,.inr rfl,?_,?_,?_⟩
      .exact⟨upd (upd (upd (upd (upd (upd (upd (C9 [.ts row len]) 2 .nil) 3 (.ts row len)) 4 (.sc (.bool false))) 5 .nil) 6 (.ts row len)) 7 (.rs nx 0 len)) 2 (.rs nx 0 len),Ai σ nx row 4,nx+1⟩
      .simp only[xI,go_sem,O,E,Y,q2,q3]
      .rfl
      .rfl
      .rfl
  .cases h
 .cases h
section
variable {P:Program} {conv:FuncId->Conv} {call:TV.Call} (d:Option Tmp) (ty:TypeId) (ps:String) (af:Array Edge) (gd:Option (Nat×Bool)) (T:Nat->V) (σ:Store) (nx:Nat)
theorem Oy(t:TypeId)(len:Nat)(parts:Array (Nat×Operand))(E:(decide (len=0) && !parts.isEmpty)=false)(G:¬len=0)(h:(yI P t).slice=true)(J:(yI P t).Pj=true) :
  Ag P conv call ⟨d,.buildSlice t len parts,ty,ps,af,gd⟩ T σ nx=BQ P t len (parts.toList.map fun p=>(p.1,val T p.2)) σ nx:=by
 have key:∀σ,BQ P t len (parts.toList.map fun p=>(p.1,val T p.2)) σ nx=(if 0<(yI P t).GY/\len*(yI P t).GY<=1000 then(CS (fun j=>some (j*(yI P t).GY,(yI P t).GY)) (rep len (yI P t).Ed) (parts.toList.map fun p=>(p.1,val T p.2))).map fun cells=>(cells,(yI P t).GY,V.rs nx 0 len)else none).map fun p=>(p.2.2,Ai σ nx p.1 p.2.1,nx+1):=fun σ=>by
  rw[oC h J,sW G]
  split
  .cases CS (fun j=>some (j*(yI P t).GY,(yI P t).GY)) (rep len (yI P t).Ed) (parts.toList.map fun p=>(p.1,val T p.2))<;>rfl
  .rfl
 have:=Ih (P:=P) (conv:=conv) (call:=call) (o:=⟨d,.buildSlice t len parts,ty,ps,af,gd⟩) T σ nx rfl fun σ=>(iY d ty ps af gd T σ nx t len parts E).trans (key σ)
 exact this.trans (key σ).symm
end
theorem P7(σ:Store)(c b nx:Nat)(x:Option E_):wI [c,b] nx nx σ (upd (restrict σ [c,b]) c x)=upd σ c x:=by
 funext i;unfold wI upd restrict
 by_cases E:i=c
 .simp[E]
 .by_cases G:i=b
  .simp[G]
  .rw[sW (by simp only[zX,zH,or_false,E,G,false_or];omega),sW E]
attribute [go_sem] Oy P7
def aub(i:Nat):ByteArray:=⟨#[116,(48+i).toUInt8]⟩
def auc(s:Structure):Prop:=∃E G J O S Y k:Int,((-4<=E/\E<= -1)/\(0<=G/\G<=2)/\(3<=J/\J<=6)/\(0<=O/\O<=2)/\(-1<=S/\S<=2)/\(-4<=Y/\Y<= -1)/\(k=1\/k=3)) /\
 (s=⟨[⟨⟨#[97]⟩,E,G,true⟩,⟨⟨#[98]⟩,J,O,true⟩,⟨⟨#[99]⟩,S,Y,false⟩],[⟨0,2,1⟩,⟨1,2,k⟩]⟩ \/
  ∃x4 k3:Int,(-1<=x4/\x4<=3)/\(k3=1\/k3=2\/k3=3)/\s=⟨[⟨⟨#[97]⟩,E,G,true⟩,⟨⟨#[98]⟩,J,O,true⟩,⟨⟨#[99]⟩,S,Y,false⟩,⟨⟨#[100]⟩,x4,-7,true⟩],[⟨0,2,1⟩,⟨1,2,k⟩,⟨3,2,k3⟩]⟩)
def aiH(σ:Store)(c:Nat)(xs:List Int):Prop:=∃i h,σ c=some (Cur xs i h 0)/\0<=i/\i<=xs.length
theorem aiH.upd{σ:Store}{c b:Nat}{xs:List Int}{x:Option E_}(h:aiH σ c xs)(hb:c≠b):aiH (upd σ b x) c xs:=by
 obtain⟨i,g,E,G⟩:=h;exact⟨i,g,by rw[Zj _ _ hb];exact E,G⟩
def Bd(L:List Int):Prop:=∀x∈L,-100<=x/\x<=100
theorem Bd.set{L:List Int}(h:Bd L){k:Nat}{v:Int}(G:-100<=v/\v<=100):Bd (L.set k v):=fun x E=>by
 rcases vB E with E|rfl
 .exact h x E
 .exact G
open Go.Lp
attribute [-go_sem] rD
def Cj{α:Type}(c:α->List V)(s:Nat)(T:Nat->V)(σ:Store)(nx t:Nat)(acc:List α):Prop:=(T t= .nil/\acc=[])\/∃b,T t= .rs b 0 acc.length/\acc≠[]/\σ b=some ⟨acc.flatMap c,s,true⟩/\b<nx
section
variable {α:Type} {c:α->List V} {s:Nat} {T:Nat->V} {σ:Store} {nx t:Nat} {acc:List α}
theorem lC(J:Cj c s T σ nx t acc)(x:Option E_):Cj c s T (upd σ nx x) (nx+1) t acc:=by
 rcases J with ⟨E,G⟩|⟨b,E,G,O,S⟩
 .exact .inl ⟨E,G⟩
 .exact .inr ⟨b,E,G,by rw[Zk];exact O,by omega⟩
theorem X3{T':Nat->V}{E:Nat}(h:T' E=T t)(G:Cj c s T σ nx t acc):Cj c s T' σ nx E acc:=by
 unfold Cj at *;rw[h];exact G
theorem ku(hc:∀x,(c x).length=s)(E:∀x,(c x).all pI=true)(hs:0<s){bytes:Nat}(S:Cj c s T σ nx t acc)(x:α)(hl:acc.length<100000)(hb:bytes<=1000) :
  ∃σ',Ad (upd σ nx (some ⟨c x,s,true⟩)) (nx+1) s bytes (T t) (c x) 1=some (.rs (nx+1) 0 (acc.length+1),σ',nx+1+1)/\σ' (nx+1)=some ⟨(acc++[x]).flatMap c,s,true⟩/\∀y,y<nx->(∀b o l,T t= .rs b o l->y≠b)->σ' y=σ y:=by
 have hm:acc.length+1<=maxLen:=by unfold maxLen;omega
 have hmul:(acc.length+1)*bytes<=100000*1000:=yE (by omega) hb;rcases S with ⟨J,rfl⟩|⟨b,J,G,O,Y⟩
 .refine⟨_,by rw[J,rE,sW (by decide),sS ⟨by decide,by omega⟩];rfl,?_⟩
  refine⟨by simp[Ai,upd],fun y hy _=>?_⟩;unfold Ai;rw[Zk,Zk]
 .have hlen:(acc.flatMap c).length=acc.length*s:=bZ hc acc
  refine⟨upd (upd (upd σ nx (some ⟨c x,s,true⟩)) b none) (nx+1) (some ⟨acc.flatMap c++c x,s,true⟩),?_,?_,fun y hy G=>?_⟩
  .rw[J,rD,Zk,O]
   simp only[zi];rw[sW (by decide),sW (by rw[hlen,vO];omega),sS ⟨by rw[hlen];omega,trivial,hm,by omega,E x⟩];rfl
  .rw[Zi,zU];simp
  .have:=G _ _ _ J
   rw[Zk,Zj _ _ this,Zk]
theorem kZ(G:Cj c s T σ nx t acc){b o l:Nat}(h:T t= .rs b o l):b<nx:=by
 rcases G with ⟨E,_⟩|⟨b',E,_,_,J⟩
 .rw[E]at h;cases h
 .rw[E]at h;cases h;exact J
theorem kY{σ':Store}(h:σ' (nx+1)=some ⟨acc.flatMap c,s,true⟩)(G:T t= .rs (nx+1) 0 acc.length)(E:acc≠[]):Cj c s T σ' (nx+1+1) t acc:=.inr ⟨nx+1,G,E,h,by omega⟩
theorem kX(hc:∀x,(c x).length=s)(d:Nat)(E:∀x,stripL (strip σ d) (c x)=some (c x,[]))(J:Cj c s T σ nx t acc):∃ids,strip σ (d+1) (T t)=some (LL c acc,ids):=by
 rcases J with ⟨G,rfl⟩|⟨b,G,O,hb,S⟩
 .exact⟨[],by rw[G,aT];rfl⟩
 .refine⟨[b],?_⟩
  rw[G,aS,hb];have Y:=bZ hc acc;simp only[zi,yX,yY,Y,zq,if_true];rw[zk (by omega),aY E];rfl
end
theorem amh(z:List V):rep 1 z=z:=by simp[rep]
theorem JB(a b c d:V):patch [a,b] 0 [c,d]=[c,d]:=rfl
attribute [go_sem] amh JB
abbrev EW(p:Int×Int):List V:=[I p.1,I p.2]
def FC(m:Member)(k:Nat):List (Int×Int):=(if m.kind=2 then []else [((k:Int),1)])++(if m.kind=1 then []else [((k:Int),-1)])
def cols(s:Structure)(n:Nat):List (Int×Int):=(List.range n).flatMap fun k=>FC (mem s k) k
theorem pJ(s:Structure)(n:Nat):cols s (n+1)=cols s n++FC (mem s n) n:=by simp[cols,wY]
theorem abt(m:Member)(k:Nat):(FC m k).length<=2:=by
 unfold FC
 split<;>split<;>simp
theorem pO(s:Structure):∀n,(cols s n).length<=2*n
 |0=>by simp[cols]
 |n+1=>by
  rw[pJ,zo];have:=pO s n;have:=abt (mem s n) n;omega
theorem Oz{s:Structure}(h:SG s):fn ZH conv ext 162 [.tp (cStructure s) 0]=some (LL EW (cols s s.members.length)):=by
 have a5:=h.nm;rw[mM,nG [.tmp 2] [] func162];simp only[go_sem];generalize hL:dI _ _=y;obtain⟨r,rfl,T',σ',nx',rfl,h2⟩:=pF hL s.members.length (fun k st=>st.T 9=LL cMember s.members/\st.T 10=I s.members.length/\st.T 11=I k/\Cj EW 2 st.T st.σ st.nx 3 (cols s k))
  (fun r=>∃T σ nx',r=(.exit 0,⟨T,σ,nx'⟩)/\Cj EW 2 T σ nx' 3 (cols s s.members.length)) (by
   clear hL;rintro k ⟨T,σ,nx⟩ O ⟨S,E,G,hg⟩;simp only at S E G hg;have f1:(k:Int)<(s.members.length:Int):=by omega
   have f2:=jD k;have f3:=ZQ (n:=(k:Int)+1);have f4:=Lc s.members k O;have f5:=Gg s.members;have f6:k*3+3<=s.members.length*3:=by omega
   have f9:=Lh s.members k O;have hr:=h.mr k O;rw[jO O]at f4 hr;have hle:=pO s k;rw[pJ];obtain⟨J,e1⟩:∃J,J=mem s k:=⟨_,rfl⟩;rw[<- e1]at f4 hr⊢;have a0:=fun x=>lC hg x
   unfold FC
   by_cases k2:J.kind=2
   .have g1:(J.kind !=2)=false:=by simpa using k2
    have g2:(J.kind !=1)=true:=by simp[k2]
    obtain⟨σ',ha,hs,Y⟩:=ku (c:=EW) (s:=2) (bytes:=16) (fun _=>rfl) (fun _=>rfl) (by decide) (a0 (some ⟨cMember J,0,true⟩)) ((k:Int),-1) (by omega) (by decide);refine .inl ⟨_,by simp only[go_sem,S,E,G,f1,f2,f3,f4,f5,f6,f9,g1,g2,ha];rfl,?_⟩;simp only[go_sem,S,E];rw[sS k2,sW (by omega),yK];exact⟨rfl,kY hs (by simp[go_sem]) (by simp)⟩
   .by_cases k1:J.kind=1
    .have g1:(J.kind !=2)=true:=by simpa using k2
     have g2:(J.kind !=1)=false:=by simpa using k1
     obtain⟨σ',ha,hs,Y⟩:=ku (c:=EW) (s:=2) (bytes:=16) (fun _=>rfl) (fun _=>rfl) (by decide) (a0 (some ⟨cMember J,0,true⟩)) ((k:Int),1) (by omega) (by decide);have a1:σ' nx=some ⟨cMember J,0,true⟩:=by
      rw[Y nx (by omega) (fun b o l h=>by have:=kZ hg h;omega),Zi]
     refine .inl ⟨_,by simp only[go_sem,S,E,G,f1,f2,f3,f4,f5,f6,f9,g1,g2,ha,a1];rfl,?_⟩;simp only[go_sem,S,E];rw[sW k2,sS k1,zK];exact⟨rfl,kY hs (by simp[go_sem]) (by simp)⟩
    .have g1:(J.kind !=2)=true:=by simpa using k2
     have g2:(J.kind !=1)=true:=by simpa using k1
     obtain⟨σ',ha,hs,Y⟩:=ku (c:=EW) (s:=2) (bytes:=16) (fun _=>rfl) (fun _=>rfl) (by decide) (a0 (some ⟨cMember J,0,true⟩)) ((k:Int),1) (by omega) (by decide);have a1:σ' nx=some ⟨cMember J,0,true⟩:=by
      rw[Y nx (by omega) (fun b o l h=>by have:=kZ hg h;omega),Zi]
     have a3:Cj EW 2 (upd T 3 (.rs (nx+1+1) 0 ((cols s k).length+1))) σ' (nx+1+1+1) 3 (cols s k++[((k:Int),1)]):=kY hs (by simp[go_sem]) (by simp);obtain⟨σ2,a2,a4,_⟩:=ku (c:=EW) (s:=2) (bytes:=16) (fun _=>rfl) (fun _=>rfl) (by decide) a3 ((k:Int),-1) (by simp;omega) (by decide);rw[Zi]at a2;refine .inl ⟨_,by simp only[go_sem,S,E,G,f1,f2,f3,f4,f5,f6,f9,g1,g2,ha,a2,a1];rfl,?_⟩;simp only[go_sem,S,E];rw[sW k2,sW k1,<- z_];exact⟨rfl,kY a4 (by simp[go_sem]) (by simp)⟩) (by
   rintro ⟨T,σ,nx⟩ ⟨S,E,G,hg⟩;simp only at S E G hg;exact⟨_,by simp only[go_sem,E,G,zl];rfl,by simp,_,_,_,rfl,X3 (by simp only[go_sem]) hg⟩) (by
   simp only[go_sem];exact .inl ⟨by simp only[go_sem],rfl⟩)
 obtain⟨ids,hs⟩:=kX (c:=EW) (s:=2) (fun _=>rfl) 6 (fun x=>by rw[au,aQ,au,aQ,aZ];rfl) h2;simp only[go_sem,hs]
theorem P8{α:Type}{c:α->List V}{s:Nat}{T:Nat->V}{σ:Store}{nx t:Nat}{acc:List α}(hc:∀x,(c x).length=s)(E:∀x,(c x).all pI=true)(hs:0<s){bytes:Nat}(hg:Cj c s T σ nx t acc)(xs:List α)(hx:xs≠[])(hl:acc.length+xs.length<100000)(hb:bytes<=1000) :
  ∃σ',Ad (upd σ nx (some ⟨xs.flatMap c,s,true⟩)) (nx+1) s bytes (T t) (xs.flatMap c) xs.length=some (.rs (nx+1) 0 (acc.length+xs.length),σ',nx+1+1)/\σ' (nx+1)=some ⟨(acc++xs).flatMap c,s,true⟩/\∀y,y<nx->(∀b o l,T t= .rs b o l->y≠b)->σ' y=σ y:=by
 have hm:acc.length+xs.length<=maxLen:=by unfold maxLen;omega
 have G:xs.length≠0:=fun e=>hx (zZ e)
 have hmul:(acc.length+xs.length)*bytes<=100000*1000:=yE (by omega) hb;have a0:xs.length*bytes<=100000*1000:=yE (by omega) hb;have J:(xs.flatMap c).all pI=true:=by
  rw[uU];intro v hv;obtain⟨x,-,h⟩:=List.mem_flatMap.mp hv;exact List.all_eq_true.mp (E x) v h
 rcases hg with ⟨S,rfl⟩|⟨b,S,O,Y,a1⟩
 .refine⟨_,by rw[S,rE,sW G,sS ⟨by unfold maxLen;omega,by omega⟩];simp only[wZ,yX];rfl,?_⟩
  refine⟨by simp[Ai,upd],fun y hy _=>?_⟩;unfold Ai;rw[Zk,Zk]
 .have hlen:(acc.flatMap c).length=acc.length*s:=bZ hc acc
  have hp:0<xs.length*s:=Nat.mul_pos (by omega) hs;refine⟨upd (upd (upd σ nx (some ⟨xs.flatMap c,s,true⟩)) b none) (nx+1) (some ⟨acc.flatMap c++xs.flatMap c,s,true⟩),?_,?_,fun y hy O=>?_⟩
  .rw[S,rD,Zk,Y]
   simp only[zi];rw[sW G,sW (by rw[hlen,vO];omega),sS ⟨by rw[hlen];omega,trivial,hm,by omega,J⟩];rfl
  .rw[Zi,zU]
  .have:=O _ _ _ S
   rw[Zk,Zj _ _ this,Zk]
def eX(s:Structure)(j:Int)(k:Nat):Int:=if j=(mem s k).a then vx s k else if j=(mem s k).b then -vx s k else 0
def eY(s:Structure)(j:Int)(k:Nat):Int:=if j=(mem s k).a then vy s k else if j=(mem s k).b then -vy s k else 0
def EF(s:Structure)(j:Int):List (List Int):=[(List.range s.members.length).map (eX s j),(List.range s.members.length).map (eY s j)]
def C_(s:Structure)(n:Nat):List (List Int):=((free s).take n).flatMap (EF s)
abbrev cRw(r:List Int):List V:=[LI r]
abbrev cRf(n:Nat)(b:Nat):List V:=[.rs b 0 n]
def JZ(σ:Store)(nx t n:Nat)(T:Nat->V)(rb:List Nat)(R:List (List Int)):Prop :=
 Cj (cRf n) 1 T σ nx t rb/\rb.length=R.length/\(∀j (h:j<rb.length) (E:j<R.length),σ rb[j]=some ⟨R[j].flatMap cI,1,true⟩)/\(∀r∈R,r.length=n)/\∀b∈rb,b<nx/\∀c o l,T t= .rs c o l->b≠c
theorem UC{σ:Store}{nx t n:Nat}{T:Nat->V}{rb:List Nat}{R:List (List Int)}(h:JZ σ nx t n T rb R)(d:Nat):∃ids,strip σ (d+1+1) (T t)=some (LL cRw R,ids):=by
 obtain⟨Y,G,hr,hn,-⟩:=h;have key:∀ {rb:List Nat} {R:List (List Int)},rb.length=R.length->(∀j (h:j<rb.length) (J:j<R.length),σ rb[j]=some ⟨R[j].flatMap cI,1,true⟩)->(∀r∈R,r.length=n)->∃ids,stripL (strip σ (d+1)) (rb.flatMap (cRf n))=some (R.flatMap cRw,ids):=by
  intro rb
  induction rb with
  |nil=>intro R E _ _;cases R with
   |nil=>exact⟨[],rfl⟩
   |cons=>cases E
  |cons b rb ih=>intro R E O S;cases R with
   |nil=>cases E
   |cons r R=>
    obtain⟨ids,e⟩:=ih (R:=R) (by simpa using E) (fun j h J=>O (j+1) (by simpa using h) (by simpa using J)) (fun x hx=>S x (by simp[hx]));have e1:=kJ (O 0 (by simp) (by simp)) (S _ (by simp)) d;refine⟨b :: ids,?_⟩;rw[zT,zT,show cRf n b++rb.flatMap (cRf n)=V.rs b 0 n :: rb.flatMap (cRf n)from rfl,au,show strip σ (d+1) (V.rs b 0 n)=some (LI r,[b])from e1,e];rfl
 rcases Y with ⟨E,rfl⟩|⟨b,E,a0,hb,a1⟩
 .have:R=[]:=zZ (by simpa using G.symm)
  subst this;exact⟨[],by rw[E,aT];rfl⟩
 .obtain⟨ids,e⟩:=key G hr hn
  refine⟨b :: ids,?_⟩;rw[E,aS,hb];have hlen:=bZ (c:=cRf n) (s:=1) (fun _=>rfl) rb;simp only[zi,yX,yY,hlen,zq,if_true];rw[zk (by omega),e];simp only[zG];rw[G]
theorem Q_{σ σ':Store}{nx nx' t n:Nat}{T T':Nat->V}{rb:List Nat}{R:List (List Int)}(h:JZ σ nx t n T rb R)(E:T' t=T t)(hn:nx<=nx')(e:∀b,b<nx->σ' b=σ b):JZ σ' nx' t n T' rb R:=by
 obtain⟨S,Y,hr,G,hb⟩:=h;refine⟨?_,Y,fun j h h'=>?_,G,fun b h=>?_⟩
 .rcases S with ⟨J,O⟩|⟨b,J,O,g3,g4⟩
  .exact .inl ⟨E.trans J,O⟩
  .exact .inr ⟨b,E.trans J,O,by rw[e b g4];exact g3,by omega⟩
 .rw[e _ (hb _ (zu h)).1];exact hr j h h'
 .obtain⟨h1,h2⟩:=hb b h
  exact⟨by omega,fun c o l hc=>h2 c o l (E ▸ hc)⟩
theorem anz{s:Structure}(h:SG s)(j:Int)(k:Nat):-100<=eX s j k/\eX s j k<=100/\-100<=eY s j k/\eY s j k<=100:=by
 have:=Zd h k;unfold eX eY
 split
 .omega
 .split<;>omega
theorem aiJ(z:V):rep 2 [z]=[z,z]:=rfl
theorem ami(x y a b:V):([x,y].set 0 a).set 1 b=[a,b]:=rfl
attribute [go_sem] aiJ ami
theorem abu(s:Structure){i:Nat}(h:i<(free s).length):C_ s (i+1)=C_ s i++EF s (free s)[i]:=by
 unfold C_;rw[yN,zy h,zU];simp
theorem aiK{R:List (List Int)}{j:Nat}(a b:List Int)(h:j<(R++[a,b]).length):(R++[a,b])[j]=if E:j<R.length then R[j]else if j=R.length then a else b:=by
 by_cases E:j<R.length
 .rw[yG E,dif_pos E]
 .rw[dif_neg E,wO (by omega)]
  rw[zo]at h;simp only[zJ,wZ]at h
  by_cases G:j=R.length
  .rw[sS G];simp[G]
  .rw[sW G]
   have:j-R.length=1:=by omega
   simp[this]
theorem lZ(s:Structure):(free s).length<=s.joints.length:=Zp _ _
theorem UD{s:Structure}(h:SG s):fn ZH conv ext 164 [.tp (cStructure s) 0]=some (LL cRw (C_ s (free s).length)):=by
 have b5:=h.nm;have b6:=lZ s;have YK:=h.nj;have k1:=KO h;obtain⟨nm,hm⟩:∃nm,nm=s.members.length:=⟨_,rfl⟩;rw[mM,nG [.tmp 2] [] func164];simp only[go_sem,k1];generalize hL:dI _ _=y;obtain⟨r,rfl,T',σ',nx',rb,rfl,h2⟩:=pF hL (free s).length (fun i st=>st.T 0= .tp (cStructure s) 0/\st.T 13=LI (free s)/\st.T 14=I (free s).length/\st.T 15=I i/\∃rb,JZ st.σ st.nx 3 nm st.T rb (C_ s i))
  (fun r=>∃T σ nx' rb,r=(.exit 0,⟨T,σ,nx'⟩)/\JZ σ nx' 3 nm T rb (C_ s (free s).length)) (by
   clear hL;rintro i ⟨T,σ,nx⟩ a6 ⟨h0,a3,FH,a2,rb,hR⟩;simp only at h0 a3 FH a2 hR;have f1:(i:Int)<((free s).length:Int):=by omega
   have f2:=jD i;have f3:=ZQ (n:=(i:Int)+1);have f4:=idx (xs:=free s) (k:=i) a6;have f5:=AZ (free s) i a6;obtain⟨j,hj⟩:∃j,j=(free s)[i]:=⟨_,rfl⟩;rw[<- hj]at f4;have m1:(0:Int)<=(s.members.length:Int):=by omega
   have m2:8*(s.members.length:Int)<=281474976710656:=by omega
   have m3:(s.members.length:Int)<=9223372036854775807:=by omega
   refine bF ?_
   conv=>
    enter [1,r,1,1]
    simp only[go_sem,h0,a3,FH,a2,f1,f2,f4,f5,m1,m2,m3]
   generalize hL:dI _ _=z
   obtain⟨x,rfl,T1,O,nI,rfl,t0,t6,t7,E,G,J,hx,hy,a4,a5⟩:=pF hL s.members.length (fun k st=>st.T 0= .tp (cStructure s) 0/\st.T 5=I j/\st.T 6= .rs nx 0 s.members.length/\st.T 7= .rs (nx+1) 0 s.members.length/\st.T 13=LI (free s)/\st.T 14=I (free s).length/\st.T 15=I i/\st.T 34=LL cMember s.members/\st.T 35=I s.members.length/\st.T 36=I k /\
     st.σ nx=some ⟨(pm (eX s j) (fun _=>0) k s.members.length).flatMap cI,1,true⟩/\st.σ (nx+1)=some ⟨(pm (eY s j) (fun _=>0) k s.members.length).flatMap cI,1,true⟩/\nx+1<st.nx/\st.T 3=T 3/\∀b,b<nx->st.σ b=σ b)
    (fun x=>∃T1 O nI,x=(.exit 2,⟨T1,O,nI⟩)/\T1 0= .tp (cStructure s) 0/\T1 6= .rs nx 0 s.members.length/\T1 7= .rs (nx+1) 0 s.members.length/\T1 13=LI (free s)/\T1 14=I (free s).length/\T1 15=I i/\O nx=some ⟨(pm (eX s j) (fun _=>0) s.members.length s.members.length).flatMap cI,1,true⟩/\O (nx+1)=some ⟨(pm (eY s j) (fun _=>0) s.members.length s.members.length).flatMap cI,1,true⟩/\nx+1<nI/\T1 3=T 3/\∀b,b<nx->O b=σ b) (by
     clear hL;rintro k ⟨T1,O,nI⟩ hk ⟨t0,t5,t6,t7,E,G,J,Y,S,a0,hx,hy,a4,t3,hs⟩;simp only at t0 t5 t6 t7 E G J Y S a0 hx hy a4 t3 hs;have g1:(k:Int)<(s.members.length:Int):=by omega
     have g2:=jD k;have g3:=ZQ (n:=(k:Int)+1);have g4:=Lc s.members k hk;rw[jO hk]at g4;have g5:=Gg s.members;have g6:k*3+3<=s.members.length*3:=by omega
     have g9:=Lh s.members k hk;have k2:=acX h hk;have hb:=Zd h k;have q1:((pm (eX s j) (fun _=>0) k s.members.length).flatMap cI).length=s.members.length:=by rw[qR,gq]
     have q2:((pm (eY s j) (fun _=>0) k s.members.length).flatMap cI).length=s.members.length:=by rw[qR,gq]
     have q3:=Om (eX s j) (fun _=>0) hk;have q4:=Om (eY s j) (fun _=>0) hk;have d1:¬nx=nI:=by omega
     have d2:¬nx+1=nI:=by omega
     have d3:¬nx+1=nx:=by omega
     have d4:¬nx=nx+1:=by omega
     have d5:¬nI=nx:=by omega
     have d6:¬nI=nx+1:=by omega
     have g7:k+1<=s.members.length:=hk;have w1:=ZQ (n:=-vx s k);have w2:=ZQ (n:=-vy s k);have w3:IntKind.i64.wrap (0-vx s k)= -vx s k:=by rw[ZQ];omega
     have w4:IntKind.i64.wrap (0-vy s k)= -vy s k:=by rw[ZQ];omega
     by_cases c1:j=(mem s k).a
     .have e1:(j==(mem s k).a)=true:=by simpa using c1
      have e2:((pm (eX s j) (fun _=>0) k s.members.length).flatMap cI).set k (I (vx s k))=(pm (eX s j) (fun _=>0) (k+1) s.members.length).flatMap cI:=by
       rw[qQ,<- q3];unfold eX;rw[sS c1]
      have e3:((pm (eY s j) (fun _=>0) k s.members.length).flatMap cI).set k (I (vy s k))=(pm (eY s j) (fun _=>0) (k+1) s.members.length).flatMap cI:=by
       rw[qQ,<- q4];unfold eY;rw[sS c1]
      refine .inl ⟨_,by simp only[go_sem,t0,t5,t6,t7,E,G,J,Y,S,a0,hx,hy,g1,g2,g3,g4,g5,g6,g7,g9,k2,q1,q2,hk,d1,d2,d3,d4,d5,d6,e1,e2,e3];rfl,?_⟩;simp only[go_sem,t0,t5,t6,t7,E,G,J,Y,S,d1,d2,d3,d4];exact⟨rfl,by omega,t3,fun b hb=>by rw[Zk,Zk,Zk];exact hs b hb⟩
     .have e1:(j==(mem s k).a)=false:=by simpa using c1
      by_cases c2:j=(mem s k).b
      .have e4:(j==(mem s k).b)=true:=by simpa using c2
       have e2:((pm (eX s j) (fun _=>0) k s.members.length).flatMap cI).set k (I (-vx s k))=(pm (eX s j) (fun _=>0) (k+1) s.members.length).flatMap cI:=by
        rw[qQ,<- q3];unfold eX;rw[sW c1,sS c2]
       have e3:((pm (eY s j) (fun _=>0) k s.members.length).flatMap cI).set k (I (-vy s k))=(pm (eY s j) (fun _=>0) (k+1) s.members.length).flatMap cI:=by
        rw[qQ,<- q4];unfold eY;rw[sW c1,sS c2]
       refine .inl ⟨_,by simp only[go_sem,t0,t5,t6,t7,E,G,J,Y,S,a0,hx,hy,g1,g2,g3,g4,g5,g6,g7,g9,k2,q1,q2,hk,d1,d2,d3,d4,d5,d6,e1,e4,e2,e3,w1,w2,w3,w4];rfl,?_⟩;simp only[go_sem,t0,t5,t6,t7,E,G,J,Y,S,d1,d2,d3,d4];exact⟨rfl,by omega,t3,fun b hb=>by rw[Zk,Zk,Zk];exact hs b hb⟩
      .have e4:(j==(mem s k).b)=false:=by simpa using c2
       have e2:=Uh (eX s j) (fun _=>0) (k:=k) (N:=s.members.length) (by unfold eX;rw[sW c1,sW c2]);have e3:=Uh (eY s j) (fun _=>0) (k:=k) (N:=s.members.length) (by unfold eY;rw[sW c1,sW c2]);refine .inl ⟨_,by simp only[go_sem,t0,t5,t6,t7,E,G,J,Y,S,a0,hx,hy,g1,g2,g3,g4,g5,g6,g7,g9,k2,q1,q2,hk,d1,d2,d3,d4,d5,d6,e1,e4];rfl,?_⟩;simp only[go_sem,t0,t5,t6,t7,E,G,J,Y,S,d1,d2,d3,d4];refine⟨rfl,by rw[hx,e2],by rw[hy,e3],by omega,t3,fun b hb=>by rw[Zk];exact hs b hb⟩) (by
     rintro ⟨T1,O,nI⟩ ⟨t0,t5,t6,t7,E,G,J,Y,S,a0,hx,hy,a4,t3,hs⟩;simp only at t0 t5 t6 t7 E G J Y S a0 hx hy a4 t3 hs;have g1:¬(s.members.length:Int)<(s.members.length:Int):=by omega
     refine⟨_,by simp only[go_sem,S,a0,g1];rfl,by simp,_,_,_,rfl,?_⟩;simp only[go_sem,t0,t6,t7,E,G,J];exact⟨hx,hy,a4,t3,hs⟩) (by
     simp only[go_sem,h0,a3,FH,a2];rw[IV,IV,fZ,<- fO,Zk,Zi];exact⟨rfl,rfl,by omega,fun b hb=>by rw[Zk,Zk]⟩)
   rw[Ui]at hx hy;have a8:=a5.1;have a5:JZ O nI 3 nm T1 rb (C_ s i):=Q_ hR a5.1 (by omega) a5.2;obtain⟨hg,hl,hr,a9,a7⟩:=a5;have b7:rb.length<=2*i:=by
    rw[hl];unfold C_;have:=List.length_take_le i (free s);have e:∀l:List Int,(l.flatMap (EF s)).length=2*l.length:=fun l=>by
     induction l with
     |nil=>rfl
     |cons a l ih=>rw[zT,zo,ih,zJ];simp only[EF,zJ,wZ];omega
    rw[e];omega
   obtain⟨σ2,ha,b2,b3⟩:=P8 (c:=cRf nm) (s:=1) (bytes:=24) (fun _=>rfl) (fun _=>rfl) (by decide) hg [nx,nx+1] (by simp) (by simp only[zJ,wZ];omega) (by decide);have ha:Ad (upd O nI (some ⟨[V.rs nx 0 s.members.length,V.rs (nx+1) 0 s.members.length],1,true⟩)) (nI+1) 1 24 (T1 3) [V.rs nx 0 s.members.length,V.rs (nx+1) 0 s.members.length] 2=some (.rs (nI+1) 0 (rb.length+2),σ2,nI+1+1):=by rw[<- hm];exact ha
   refine⟨_,by simp only[go_sem,t0,t6,t7,E,G,J,f3,ha];rfl,.inl ⟨_,rfl,?_⟩⟩;simp only[go_sem,t0,E,G];have a1:∀b,b<nI->(b∈rb\/b=nx\/b=nx+1)->σ2 b=O b:=fun b hb hc=>by
    refine b3 b hb fun c o l h=>?_
    rcases hc with hc|hc|hc
    .exact(a7 b hc).2 c o l h
    .have:=kZ hR.1 (a8 ▸ h);omega
    .have:=kZ hR.1 (a8 ▸ h);omega
   refine⟨rfl,rb++[nx,nx+1],?_⟩;rw[abu s a6,<- hj];refine⟨.inr ⟨nI+1,by simp[go_sem],by simp,b2,by omega⟩,by simp[hl,EF],fun q h1 h2=>?_,fun r b4=>?_,fun b hb=>?_⟩
   .have hq:(C_ s i++EF s j)[q]=if h1:q<(C_ s i).length then(C_ s i)[q]else if q=(C_ s i).length then(List.range s.members.length).map (eX s j)else(List.range s.members.length).map (eY s j):=aiK _ _ h2
    rw[hq]
    by_cases c1:q<rb.length
    .rw[dif_pos (by omega),yG c1,a1 _ (a7 _ (zu c1)).1 (.inl (zu c1))]
     exact hr q c1 (by omega)
    .rw[dif_neg (by omega),wO (by omega)]
     rw[zo]at h1;simp only[zJ,wZ]at h1
     by_cases c2:q=(C_ s i).length
     .rw[sS c2]
      have:q-rb.length=0:=by omega
      simp only[this,List.getElem_cons_zero];rw[a1 nx (by omega) (.inr (.inl rfl))];exact hx
     .rw[sW c2]
      have:q-rb.length=1:=by omega
      simp only[this,List.getElem_cons_succ,List.getElem_cons_zero];rw[a1 (nx+1) (by omega) (.inr (.inr rfl))];exact hy
   .rcases List.mem_append.mp b4 with h|h
    .exact a9 r h
    .simp only[EF,zX,zH,or_false]at h
     rcases h with h|h<;>rw[h]<;>simp[hm]
   .have b8:b<nI:=by
     rcases List.mem_append.mp hb with h|h
     .exact(a7 b h).1
     .simp only[zX,zH,or_false]at h;omega
    refine⟨by omega,fun c o l h=>?_⟩;simp only[go_sem,V.rs.injEq]at h;omega) (by
   rintro ⟨T,σ,nx⟩ ⟨h0,a3,FH,a2,rb,hR⟩;simp only at h0 a3 FH a2 hR;exact⟨_,by simp only[go_sem,FH,a2,zl];rfl,by simp,_,_,_,rb,rfl,Q_ hR (by simp only[go_sem]) (zq _) fun _ _=>rfl⟩) (by
   simp only[go_sem];refine⟨[],.inl ⟨by simp only[go_sem],rfl⟩,by simp[C_],?_,?_,?_⟩
   .intro j h;cases h
   .intro r hr;simp[C_]at hr
   .intro b hb;cases hb)
 obtain⟨ids,hs⟩:=UC h2 5;simp only[go_sem,hs]
def EX(X:List Int)(k:Nat):List Int:=X.take k++List.replicate (X.length-k) 0
theorem OA(X:List Int){k:Nat}(h:k<=X.length):(EX X k).length=X.length:=by unfold EX;rw[zo,zh,yj];omega
theorem Rf(X:List Int):EX X 0=List.replicate X.length 0:=by simp[EX]
theorem Ri(X:List Int):EX X X.length=X:=by simp[EX]
theorem OB(X:List Int){k:Nat}(h:k<X.length):(EX X k).set k X[k]=EX X (k+1):=by
 unfold EX;have E:(X.take k).length=k:=by rw[zh];omega
 rw[yC _ _ (by omega),E,yP,show X.length-k=X.length - (k+1)+1 by omega,xR,vg,aJ h,z_];rfl
def Vb(s:Structure):List Int:=(C_ s (free s).length).flatMap fun r=>(cols s s.members.length).map fun p=>p.2*r.getD p.1.toNat 0
def KP(s:Structure)(l:List Int):List Int:=(free s).flatMap fun j=>[-l.getD (2*j.toNat) 0,-l.getD (2*j.toNat+1) 0]
theorem OC{α:Type}(f:α->List Int){C:Nat}(E:∀x,(f x).length=C):∀xs:List α,(xs.flatMap f).length=xs.length*C
 |[]=>by simp
 |x :: xs=>by rw[zT,zo,OC f E xs,E,zJ,xq];omega
theorem mQ{α:Type}(f:α->List Int){C:Nat}(E:∀x,(f x).length=C):∀(xs:List α) {i c:Nat} (hi:i<xs.length) (hc:c<C),(xs.flatMap f)[i*C+c]?=(f xs[i])[c]?
 |x :: xs,0,c,_,hc=>by rw[zT,uq,yX,zV (by rw[E];exact hc)];rfl
 |x :: xs,i+1,c,hi,hc=>by
  rw[zT,zQ (by rw[E,xq];omega),E,show(i+1)*C+c-C=i*C+c by rw[xq];omega,mQ f E xs (by simpa using hi) hc];rfl
theorem J3(s:Structure):(C_ s (free s).length).length=2*(free s).length:=by
 unfold C_;rw[yg]
 induction free s with
 |nil=>rfl
 |cons a l E=>rw[zT,zo,E,zJ];simp only[EF,zJ,wZ];omega
theorem Rj{s:Structure}{r:List Int}(h:r∈C_ s (free s).length):r.length=s.members.length:=by
 unfold C_ at h;obtain⟨j,-,h⟩:=List.mem_flatMap.mp h;simp only[EF,zX,zH,or_false]at h;rcases h with h|h<;>rw[h]<;>simp
theorem X4{s:Structure}(hs:SG s){r:List Int}(h:r∈C_ s (free s).length):∀x∈r,-100<=x/\x<=100:=by
 unfold C_ at h;obtain⟨j,-,h⟩:=List.mem_flatMap.mp h;simp only[EF,zX,zH,or_false]at h;intro x E;rcases h with h|h<;>rw[h]at E<;>obtain⟨k,-,rfl⟩:=List.mem_map.mp E
 .have:=anz hs j k;omega
 .have:=anz hs j k;omega
theorem pK{s:Structure}:∀ {n:Nat} {p:Int×Int},p∈cols s n->(∃k:Nat,p.1=(k:Int)/\k<n)/\(p.2=1\/p.2= -1):=fun {n p} h=>by
 unfold cols at h;obtain⟨k,G,h⟩:=List.mem_flatMap.mp h;have E:=List.mem_range.mp G;unfold FC at h;rcases List.mem_append.mp h with h|h
 .split at h
  .cases h
  .rw[List.mem_singleton.mp h];exact⟨⟨k,rfl,E⟩,.inl rfl⟩
 .split at h
  .cases h
  .rw[List.mem_singleton.mp h];exact⟨⟨k,rfl,E⟩,.inr rfl⟩
theorem Me(s:Structure):(Vb s).length=2*(free s).length*(cols s s.members.length).length:=by
 unfold Vb;rw[OC _ (fun _=>zO _),J3]
theorem UE(s:Structure)(l:List Int):(KP s l).length=2*(free s).length:=by
 unfold KP;rw[OC _ (C:=2) (fun _=>rfl)];omega
def MB(s:Structure):Nat:=2*(free s).length
def DN(s:Structure):Nat:=(cols s s.members.length).length
theorem P9{s:Structure}(h:SG s){l:List Int}(hl:l.length=2*s.joints.length)(hb:∀x∈l,-100<=x/\x<=100):fn ZH conv ext 134 [.tp (cStructure s) 0,LI l,I 0,I 0]=some (.agg (CZ (MB s) (DN s) (Vb s) (KP s l) (List.replicate (DN s) 0))):=by
 have k0:=h.nm;have k4:=lZ s;have YK:=h.nj;have k5:=pO s s.members.length;have k1:=UD h;have k2:=Oz h;have k3:=KO h;have h9:=J3 s;obtain⟨E,hE⟩:∃E,E=C_ s (free s).length:=⟨_,rfl⟩;obtain⟨K,hK⟩:∃K,K=cols s s.members.length:=⟨_,rfl⟩;have hR:E.length=MB s:=by rw[hE];exact h9
 have hC:K.length=DN s:=by rw[hK];rfl
 have h0:MB s<=12:=by unfold MB;omega
 have h1:DN s<=16:=by rw[<- hC,hK];omega
 have b3:(Vb s).length=MB s*DN s:=Me s;have h2:MB s*DN s<=12*16:=yE h0 h1;rw[<- hE]at k1;rw[<- hK]at k2;have k1:fn ZH conv ext 164 [.tp (cStructure s) 0]=some (.ts (E.flatMap cRw) (MB s)):=by rw[<- hR];exact k1
 have k2:fn ZH conv ext 162 [.tp (cStructure s) 0]=some (.ts (K.flatMap EW) (DN s)):=by rw[<- hC];exact k2
 obtain⟨R,eR⟩:∃R,R=MB s:=⟨_,rfl⟩;obtain⟨C,eC⟩:∃C,C=DN s:=⟨_,rfl⟩;rw[<- eR]at k1 hR h0 b3 h2⊢;rw[<- eC]at k2 hC h1 b3 h2⊢;have f1:=ZQ (n:=(R:Int));have f2:=ZQ (n:=(C:Int));have e3:(R:Int)*(C:Int)=((R*C:Nat):Int):=by push_cast;rfl
 have f3:=ZQ (n:=((R*C:Nat):Int));have f4:(0:Int)<=((R*C:Nat):Int):=by omega
 have f5:8*((R*C:Nat):Int)<=281474976710656:=by omega
 have f6:((R*C:Nat):Int)<=9223372036854775807:=by omega
 have f7:=jD R;have f8:8*(R:Int)<=281474976710656:=by omega
 have f9:(R:Int)<=9223372036854775807:=by omega
 have i0:=jD C;have i1:8*(C:Int)<=281474976710656:=by omega
 have i2:(C:Int)<=9223372036854775807:=by omega
 have i3:(R:Int)+0=R:=by omega
 have i4:(C:Int)+0=C:=by omega
 rw[mM,nG [.cell 8 152] [3,10,16] func134];unfold CZ;simp only[go_sem,k1,k2,f1,f2,e3,f3,f4,f5,f6,f7,f8,f9,i0,i1,i2,i3,i4];generalize hL:dI _ _=y;have k6:=b3;obtain⟨FA,h3⟩:∃FA,FA=Vb s:=⟨_,rfl⟩;have i5:∀i c (hi:i<R) (hc:c<C) (hq:i*C+c<FA.length),FA[i*C+c]=(K[c]'(by omega)).2*(E[i]'(by omega)).getD (K[c]'(by omega)).1.toNat 0:=fun i c hi hc hq=>by
  have:=mQ (fun r:List Int=>K.map fun p=>p.2*r.getD p.1.toNat 0) (C:=C) (fun _=>by rw[zO];exact hC) E (i:=i) (c:=c) (by omega) hc;rw[yc,zy (l:=K) (i:=c) (by omega)]at this;have e2:FA=E.flatMap fun r=>K.map fun p=>p.2*r.getD p.1.toNat 0:=by rw[h3,hE,hK];rfl
  rw[<- e2,zy hq]at this;exact Option.some.inj this
 rw[<- h3]at b3⊢
 obtain⟨x,rfl,T1,b4,nI,rfl,t0,t1,t8,G,i6,s0,s1,s2,s3,s4⟩:=pF hL R (fun i st=>st.T 0= .tp (cStructure s) 0/\st.T 1=LI l/\st.T 8= .rp 0 0/\st.T 11= .rp 1 0/\st.T 10= .ts (K.flatMap EW) C/\st.T 46= .ts (E.flatMap cRw) R/\st.T 47=I R/\st.T 48=I i/\4<st.nx /\
   st.σ 0=some ⟨[I 0,I 0,.nil,.nil,.nil],0,true⟩/\st.σ 1=some ⟨[I R,I C,.rs 2 0 (R*C),.rs 3 0 R,.rs 4 0 C],0,true⟩/\st.σ 2=some ⟨(EX FA (i*C)).flatMap cI,1,true⟩/\st.σ 3=some ⟨(List.replicate R 0).flatMap cI,1,true⟩/\st.σ 4=some ⟨(List.replicate C 0).flatMap cI,1,true⟩)
  (fun x=>∃T1 b4 nI,x=(.exit 0,⟨T1,b4,nI⟩)/\T1 0= .tp (cStructure s) 0/\T1 1=LI l/\T1 8= .rp 0 0/\T1 11= .rp 1 0/\4<nI/\b4 0=some ⟨[I 0,I 0,.nil,.nil,.nil],0,true⟩/\b4 1=some ⟨[I R,I C,.rs 2 0 (R*C),.rs 3 0 R,.rs 4 0 C],0,true⟩/\b4 2=some ⟨FA.flatMap cI,1,true⟩/\b4 3=some ⟨(List.replicate R 0).flatMap cI,1,true⟩/\b4 4=some ⟨(List.replicate C 0).flatMap cI,1,true⟩) (by
   clear hL;rintro i ⟨T,σ,nx⟩ hi ⟨t0,t1,t8,G,S,Y,O,a0,J,s0,s1,s2,s3,s4⟩;simp only at t0 t1 t8 G S Y O a0 J s0 s1 s2 s3 s4;have g1:(i:Int)<(R:Int):=by omega
   have g2:=jD i;have g3:=ZQ (n:=(i:Int)+1);have g4:(E.flatMap cRw)[i]?=some (LI (E[i]'(by omega))):=cu (fun r=>LI r) E i (by omega);have g5:=bg (c:=cRw) (s:=1) (fun _=>rfl) (by omega) E i (by omega);have g6:(E.flatMap cRw).length=R:=by rw[bZ (c:=cRw) (s:=1) (fun _=>rfl),hR,yQ]
   have h4:(E[i]'(by omega)).length=s.members.length:=by subst hE;exact Rj (zu _)
   have h5:∀x∈(E[i]'(by omega)),-100<=x/\x<=100:=by subst hE;exact X4 h (zu _)
   obtain⟨r,er⟩:∃r,r=E[i]'(by omega):=⟨_,rfl⟩;have i7:=i5 i;rw[<- er]at g4 h4 h5;refine bF ?_
   conv=>
    enter [1,q,1,1]
    simp only[go_sem,t0,t1,t8,G,S,Y,O,a0,g1,g2,g4,g5,g6]
   generalize hL:dI _ _=z;have i9:(i+1)*C<=R*C:=zC _ hi;rw[xq]at i9
   obtain⟨x,rfl,T2,σ2,Ci,rfl,t0,t1,t8,G,S,Y,O,a0,J,s0,s1,s2,s3,s4⟩:=pF hL C (fun c st=>st.T 0= .tp (cStructure s) 0/\st.T 1=LI l/\st.T 8= .rp 0 0/\st.T 11= .rp 1 0/\st.T 10= .ts (K.flatMap EW) C/\st.T 46= .ts (E.flatMap cRw) R/\st.T 47=I R/\st.T 48=I i/\st.T 12=I i/\st.T 13=LI r/\st.T 53= .ts (K.flatMap EW) C/\st.T 54=I C/\st.T 55=I c/\4<st.nx /\
     st.σ 0=some ⟨[I 0,I 0,.nil,.nil,.nil],0,true⟩/\st.σ 1=some ⟨[I R,I C,.rs 2 0 (R*C),.rs 3 0 R,.rs 4 0 C],0,true⟩/\st.σ 2=some ⟨(EX FA (i*C+c)).flatMap cI,1,true⟩/\st.σ 3=some ⟨(List.replicate R 0).flatMap cI,1,true⟩/\st.σ 4=some ⟨(List.replicate C 0).flatMap cI,1,true⟩)
    (fun x=>∃T2 σ2 Ci,x=(.exit 2,⟨T2,σ2,Ci⟩)/\T2 0= .tp (cStructure s) 0/\T2 1=LI l/\T2 8= .rp 0 0/\T2 11= .rp 1 0/\T2 10= .ts (K.flatMap EW) C/\T2 46= .ts (E.flatMap cRw) R/\T2 47=I R/\T2 48=I i/\4<Ci /\
     σ2 0=some ⟨[I 0,I 0,.nil,.nil,.nil],0,true⟩/\σ2 1=some ⟨[I R,I C,.rs 2 0 (R*C),.rs 3 0 R,.rs 4 0 C],0,true⟩/\σ2 2=some ⟨(EX FA (i*C+C)).flatMap cI,1,true⟩/\σ2 3=some ⟨(List.replicate R 0).flatMap cI,1,true⟩/\σ2 4=some ⟨(List.replicate C 0).flatMap cI,1,true⟩) (by
     clear hL;rintro c ⟨T2,σ2,Ci⟩ hc ⟨t0,t1,t8,G,S,Y,O,a0,c0,c2,c3,b7,c4,J,s0,s1,s2,s3,s4⟩;simp only at t0 t1 t8 G S Y O a0 c0 c2 c3 b7 c4 J s0 s1 s2 s3 s4;have a1:(c:Int)<(C:Int):=by omega
     have a2:=jD c;have a3:=ZQ (n:=(c:Int)+1);have c8:c<K.length:=by omega
     have a4:=d_ (c:=EW) (s:=2) (fun _=>rfl) K c c8;have a5:=bg (c:=EW) (s:=2) (fun _=>rfl) (by omega) K c c8;have a6:(K.flatMap EW).length=C*2:=by rw[bZ (c:=EW) (s:=2) (fun _=>rfl),hC]
     have a7:c*2+2<=C*2:=by omega
     have b6:K[c]∈cols s s.members.length:=by rw[<- hK];exact zu c8
     obtain⟨⟨k,hk,k7⟩,c9⟩:=pK b6;have hq:i*C+c<FA.length:=by omega
     have b2:=i7 c hi hc hq;rw[<- er]at b2;obtain⟨kp,j0⟩:∃kp,kp=K[c]:=⟨_,rfl⟩;rw[<- j0]at a4 hk c9 b2;obtain⟨k8,c7⟩:=kp;simp only at hk c9 b2 a4;subst hk;rw[zF]at b2;have a8:=idx (xs:=r) (k:=k) (by omega);have e8:r[k]'(by omega)=r.getD k 0:=by rw[zx,zy (by omega)];rfl
     have j1:=h5 _ (zu (l:=r) (n:=k) (by omega));rw[e8]at a8 j1;have a9:=AZ r k (by omega);have e0:(k:Int)<(r.length:Int):=by omega
     have e1:=jD k;have k9:-100<=c7*r.getD k 0/\c7*r.getD k 0<=100:=by rcases c9 with e|e<;>rw[e]<;>omega
     have e4:=ZQ (n:=c7*r.getD k 0);have e5:(i:Int)*(C:Int)=((i*C:Nat):Int):=by push_cast;rfl
     have e6:=ZQ (n:=((i*C:Nat):Int));have e7:((i*C:Nat):Int)+(c:Int)=((i*C+c:Nat):Int):=by omega
     have e9:=ZQ (n:=((i*C+c:Nat):Int));have f0:((i*C+c:Nat):Int)<((R*C:Nat):Int):=by omega
     have g7:(0:Int)<=((i*C+c:Nat):Int):=by omega
     have g8:i*C+c<R*C:=by omega
     have j2:i*C+c+1<=R*C:=by omega
     have j3:((EX FA (i*C+c)).flatMap cI).length=R*C:=by rw[qR,OA _ (by omega),b3]
     have j4:((EX FA (i*C+c)).flatMap cI).set (i*C+c) (I (c7*r.getD k 0))=(EX FA (i*C+c+1)).flatMap cI:=by
      rw[qQ,<- OB FA hq,b2]
     have j5:(r.flatMap cI).length=r.length:=qR r;have d0:¬0=Ci:=by omega
     have d1:¬1=Ci:=by omega
     have d2:¬2=Ci:=by omega
     have d3:¬3=Ci:=by omega
     have d4:¬4=Ci:=by omega
     have d5:¬Ci=2:=by omega
     have d6:1<Ci+1:=by omega
     have d7:2<Ci+1:=by omega
     have d8:Ci<Ci+1:=by omega
     have d9:¬Ci=1:=by omega
     refine .inl ⟨_,by simp only[go_sem,t0,t1,t8,G,S,Y,O,a0,c0,c2,c3,b7,c4,s1,s2,a1,a2,a3,a4,a5,a6,a7,a8,a9,e0,e1,e4,e5,e6,e7,e9,f0,g7,g8,j2,j3,j4,j5,d0,d1,d2,d3,d4,d5,d6,d7,d8,d9];rfl,?_⟩;simp only[go_sem,t0,t1,t8,G,S,Y,O,a0,c0,c2,c3,b7];refine⟨rfl,by omega,?_,?_,rfl,?_,?_⟩
     .rw[Zj _ _ d0];exact s0
     .rw[Zj _ _ d1];exact s1
     .rw[Zj _ _ d3];exact s3
     .rw[Zj _ _ d4];exact s4) (by
     rintro ⟨T2,σ2,Ci⟩ ⟨t0,t1,t8,G,S,Y,O,a0,c0,c2,c3,b7,c4,J,s0,s1,s2,s3,s4⟩;simp only at t0 t1 t8 G S Y O a0 c0 c2 c3 b7 c4 J s0 s1 s2 s3 s4;have a1:¬(C:Int)<(C:Int):=by omega
     refine⟨_,by simp only[go_sem,b7,c4,a1];rfl,by simp,_,_,_,rfl,?_⟩;simp only[go_sem,t0,t1,t8,G,S,Y,O,a0];exact⟨J,s0,s1,s2,s3,s4⟩) (by
     simp only[go_sem,t0,t1,t8,G,S,Y,O,a0];exact⟨J,s0,s1,s2,s3,s4⟩)
   refine⟨_,by simp only[go_sem,t0,t1,t8,G,S,Y,O,a0,g3];rfl,.inl ⟨_,rfl,?_⟩⟩;simp only[go_sem,t0,t1,t8,G,S,Y,O];refine⟨rfl,J,s0,s1,?_,s3,s4⟩;rw[xq];exact s2) (by
   rintro ⟨T,σ,nx⟩ ⟨t0,t1,t8,G,S,Y,O,a0,J,s0,s1,s2,s3,s4⟩;simp only at t0 t1 t8 G S Y O a0 J s0 s1 s2 s3 s4;have g1:¬(R:Int)<(R:Int):=by omega
   refine⟨_,by simp only[go_sem,O,a0,g1];rfl,by simp,_,_,_,rfl,?_⟩;simp only[go_sem,t0,t1,t8,G];rw[<- b3,Ri]at s2;exact⟨J,s0,s1,s2,s3,s4⟩) (by
   simp only[go_sem,Rf,b3,<- fO])
 clear hL;simp only[go_sem,t0,k3];generalize hL:dI _ _=y;obtain⟨F,eF⟩:∃F,F=free s:=⟨_,rfl⟩;have j6:R=2*F.length:=by rw[eR,eF];rfl
 have g9:=UE s l;obtain⟨FB,h6⟩:∃FB,FB=KP s l:=⟨_,rfl⟩;rw[<- h6]at g9⊢;rw[<- eF]at g9;have j7:∀i (hi:i<F.length),∃j:Nat,F[i]=(j:Int)/\j<s.joints.length/\FB[2*i]'(by omega)= -l.getD (2*j) 0/\FB[2*i+1]'(by omega)= -l.getD (2*j+1) 0:=fun i hi=>by
  have b6:F[i]∈DT (Dv s) s.joints.length:=by subst eF;exact zu hi
  unfold DT at b6;obtain⟨j,hj,e⟩:=List.mem_map.mp b6;have j8:=List.mem_range.mp (List.mem_filter.mp hj).1;have e2:FB=F.flatMap fun j=>[-l.getD (2*j.toNat) 0,-l.getD (2*j.toNat+1) 0]:=by rw[h6,eF];rfl
  have g0:=mQ (fun j:Int=>[-l.getD (2*j.toNat) 0,-l.getD (2*j.toNat+1) 0]) (C:=2) (fun _=>rfl) F (i:=i) (c:=0) hi (by decide);have g1:=mQ (fun j:Int=>[-l.getD (2*j.toNat) 0,-l.getD (2*j.toNat+1) 0]) (C:=2) (fun _=>rfl) F (i:=i) (c:=1) hi (by decide);rw[<- e2,<- e,zF]at g0 g1;refine⟨j,e.symm,j8,?_,?_⟩
  .rw[show i*2+0=2*i by omega,zy (by omega)]at g0
   exact Option.some.inj g0
  .rw[show i*2+1=2*i+1 by omega,zy (by omega)]at g1
   exact Option.some.inj g1
 have l1:F.length<=6:=by rw[eF];omega
 obtain⟨x,rfl,T3,b5,Aq,rfl,t8,G,s0,s1,s2,s3,s4⟩:=pF hL F.length (fun i st=>st.T 1=LI l/\st.T 8= .rp 0 0/\st.T 11= .rp 1 0/\st.T 80=LI F/\st.T 81=I F.length/\st.T 82=I i/\4<st.nx /\
   st.σ 0=some ⟨[I 0,I 0,.nil,.nil,.nil],0,true⟩/\st.σ 1=some ⟨[I R,I C,.rs 2 0 (R*C),.rs 3 0 R,.rs 4 0 C],0,true⟩/\st.σ 2=some ⟨FA.flatMap cI,1,true⟩/\st.σ 3=some ⟨(EX FB (2*i)).flatMap cI,1,true⟩/\st.σ 4=some ⟨(List.replicate C 0).flatMap cI,1,true⟩)
  (fun x=>∃T3 b5 Aq,x=(.exit 4,⟨T3,b5,Aq⟩)/\T3 8= .rp 0 0/\T3 11= .rp 1 0/\b5 0=some ⟨[I 0,I 0,.nil,.nil,.nil],0,true⟩/\b5 1=some ⟨[I R,I C,.rs 2 0 (R*C),.rs 3 0 R,.rs 4 0 C],0,true⟩/\b5 2=some ⟨FA.flatMap cI,1,true⟩/\b5 3=some ⟨FB.flatMap cI,1,true⟩/\b5 4=some ⟨(List.replicate C 0).flatMap cI,1,true⟩) (by
   clear hL;rintro i ⟨T,σ,nx⟩ hi ⟨t1,t8,G,c5,b8,c6,J,s0,s1,s2,s3,s4⟩;simp only at t1 t8 G c5 b8 c6 J s0 s1 s2 s3 s4;obtain⟨j,hj,l2,hx,hy⟩:=j7 i hi;have g1:(i:Int)<(F.length:Int):=by omega
   have g2:=jD i;have g3:=ZQ (n:=(i:Int)+1);have g4:=idx (xs:=F) (k:=i) hi;rw[hj]at g4;have g5:=AZ F i hi;have a1:(2:Int)*(i:Int)=((2*i:Nat):Int):=by push_cast;rfl
   have a2:=ZQ (n:=((2*i:Nat):Int));have a3:((2*i:Nat):Int)+1=((2*i+1:Nat):Int):=by omega
   have a4:=ZQ (n:=((2*i+1:Nat):Int));have a5:(2:Int)*(j:Int)=((2*j:Nat):Int):=by push_cast;rfl
   have a6:=ZQ (n:=((2*j:Nat):Int));have a7:((2*j:Nat):Int)+1=((2*j+1:Nat):Int):=by omega
   have a8:=ZQ (n:=((2*j+1:Nat):Int));have h7:∀q (h:q<l.length),(l.flatMap cI)[q]?=some (I (l.getD q 0)):=fun q h=>by
    rw[idx h,zx,zy h];rfl
   have h8:∀q (h:q<l.length),-100<=l.getD q 0/\l.getD q 0<=100:=fun q h=>by
    rw[zx,zy h];exact hb _ (zu h)
   have a9:=h7 (2*j) (by omega);have e0:=h7 (2*j+1) (by omega);have b9:=h8 (2*j) (by omega);have l3:=h8 (2*j+1) (by omega);have e1:=AZ l (2*j) (by omega);have e4:((2*j:Nat):Int)<(l.length:Int):=by omega
   have e5:((2*j+1:Nat):Int)<(l.length:Int):=by omega
   have e6:(0:Int)<=((2*j:Nat):Int):=by omega
   have e7:(0:Int)<=((2*j+1:Nat):Int):=by omega
   have e9:((2*i:Nat):Int)<(R:Int):=by omega
   have f0:((2*i+1:Nat):Int)<(R:Int):=by omega
   have g7:(0:Int)<=((2*i:Nat):Int):=by omega
   have g8:(0:Int)<=((2*i+1:Nat):Int):=by omega
   have w1:=ZQ (n:=-l.getD (2*j) 0);have w2:=ZQ (n:=-l.getD (2*j+1) 0);have w3:IntKind.i64.wrap (0-l.getD (2*j) 0)= -l.getD (2*j) 0:=by rw[ZQ];omega
   have w4:IntKind.i64.wrap (0-l.getD (2*j+1) 0)= -l.getD (2*j+1) 0:=by rw[ZQ];omega
   have p1:((EX FB (2*i)).flatMap cI).length=R:=by rw[qR,OA _ (by omega)];omega
   have p2:((EX FB (2*i+1)).flatMap cI).length=R:=by rw[qR,OA _ (by omega)];omega
   have p3:((EX FB (2*i)).flatMap cI).set (2*i) (I (-l.getD (2*j) 0))=(EX FB (2*i+1)).flatMap cI:=by
    rw[qQ,<- OB FB (k:=2*i) (by omega),hx]
   have p4:((EX FB (2*i+1)).flatMap cI).set (2*i+1) (I (-l.getD (2*j+1) 0))=(EX FB (2*i+1+1)).flatMap cI:=by
    rw[qQ,<- OB FB (k:=2*i+1) (by omega),hy]
   have p5:2*i<R:=by omega
   have p6:2*i+1<R:=by omega
   have p7:2*i+1<=R:=by omega
   have p8:2*i+1+1<=R:=by omega
   have p9:3<nx:=by omega
   have j9:1<nx:=by omega
   refine .inl ⟨_,by simp only[go_sem,t1,t8,G,c5,b8,c6,s1,s3,g1,g2,g3,g4,g5,a1,a2,a3,a4,a5,a6,a7,a8,a9,e0,e1,e4,e5,e6,e7,e9,f0,g7,g8,w1,w2,w3,w4,p1,p2,p3,p4,p5,p6,p7,p8,p9,j9];rfl,?_⟩;simp only[go_sem,t1,t8,G,c5,b8];exact⟨rfl,J,s0,s1,s2,by rw[show 2*(i+1)=2*i+1+1 by omega],s4⟩) (by
   rintro ⟨T,σ,nx⟩ ⟨t1,t8,G,c5,b8,c6,J,s0,s1,s2,s3,s4⟩;simp only at t1 t8 G c5 b8 c6 J s0 s1 s2 s3 s4;have g1:¬(F.length:Int)<(F.length:Int):=by omega
   refine⟨_,by simp only[go_sem,b8,c6,g1];rfl,by simp,_,_,_,rfl,?_⟩;simp only[go_sem,t8,G];have:EX FB (2*F.length)=FB:=by rw[show 2*F.length=FB.length by omega,Ri]
   rw[this]at s3;exact⟨s0,s1,s2,s3,s4⟩) (by
   simp only[go_sem,t1,t8,G,Nat.mul_zero,Rf,<- eF];rw[g9,<- j6];exact⟨i6,s0,s1,s2,s3,s4⟩)
 clear hL;have u1:R*C<=FA.length:=by omega
 have u2:R<=FB.length:=by omega
 have u3:C<=(List.replicate C (0:Int)).length:=by simp
 have v1:(FA.flatMap cI).take (R*C)=FA.flatMap cI:=zk (by rw[qR];omega);have v2:(FB.flatMap cI).take R=FB.flatMap cI:=zk (by rw[qR];omega);have v3:((List.replicate C (0:Int)).flatMap cI).take C=(List.replicate C (0:Int)).flatMap cI:=zk (by rw[qR];simp);simp only[go_sem,t8,G,s0,s1,s2,s3,s4,u1,u2,u3,v1,v2,v3];have w1:FA.length=R*C:=by omega
 have w2:FB.length=R:=by omega
 have w3:(List.replicate C (0:Int)).length=C:=by simp
 show some (V.agg [I R,I C,V.ts (FA.flatMap cI) (R*C),V.ts (FB.flatMap cI) R,V.ts ((List.replicate C (0:Int)).flatMap cI) C])=some (V.agg [I R,I C,V.ts (FA.flatMap cI) FA.length,V.ts (FB.flatMap cI) FB.length,V.ts ((List.replicate C (0:Int)).flatMap cI) (List.replicate C (0:Int)).length]);rw[w1,w2,w3]
theorem amj{P:Program}{t e:TypeId}{x y:Operand}(h:P.underlying t=some (.pointer e)):Aj P .eql t x y (.sc (.pointer none)) (.sc (.pointer none))=some (Bo true):=by
 have key:uI P ((Op.equal t (.pointer none) (.pointer none)).bind fun r=>pure (Value.bool r))=some (.bool true):=by
  show uI P ((Op.equalIn (9999+1) t _ _).bind fun r=>pure (Value.bool r))=_;unfold Op.equalIn underlying;show uI P (.program fun p=>_)=_;simp only[uI];have pb:∀ {β E:Type} (a:β) (f:β->Sem E),(Sem.pure a).bind f=f a:=fun _ _=>rfl
  have G:∀ {β E:Type} (a:β) (f:β->Sem E),(pure a:Sem β).bind f=f a:=fun _ _=>rfl
  simp only[h,pb,G];rfl
 simp only[Aj,toVal,eqGuard_at_pointer,pure_bind,binOp];erw[key];rfl
theorem apL(x y:Operand):Aj ZH .eql 194 x y (.sc (.pointer none)) (.sc (.pointer none))=some (Bo true):=amj Tryz.underlying194
attribute [go_sem] apL
def azp:Option Rat->Option Rat->Option Rat
 |some x,some y=>FM (x+y)
 |_,_=>none
def Hw:Option Rat->Option Rat->Option Rat
 |some x,some y=>FM (x*y)
 |_,_=>none
def LnO(k:Nat)(a:Option Rat):Prop:=∀x,a=some x->Ln k x
theorem azq(a:Option Rat):fn ZH conv ext 191 [pQ a]=some (pQ (a.map fun x=> -x)):=by
 cases a with
 |none=>
  show fn ZH conv ext 191 [.sc (.pointer none)]=some (.sc (.pointer none))
  rw[mM,nG [.tmp 2] [] func191];simp only[go_sem]
 |some x=>
  have k:=kH x.num;have E:(-x).num= -x.num:=rfl;have G:(-x).den=x.den:=rfl;show fn ZH conv ext 191 [.tp (cQ x) 0]=some (.tp (cQ (-x)) 0)
  rw[mM,nG [.tmp 2] [] func191];unfold cQ;rw[E,G];unfold cZ at k;simp only[go_sem,k]
theorem OD(σ:Store)(a:Option Rat):Option.map (fun x=>x.1) (strip σ 7 (pQ a))=some (pQ a):=by
 cases a with
 |none=>rfl
 |some q=>unfold pQ;rw[aO];rfl
theorem auf{a b:Option Rat}(ha:LnO 100 a)(hb:LnO 100 b):fn ZH qI Af 192 [pQ a,pQ b]=some (pQ (azp a b)):=by
 cases a with
 |none=>
  show fn ZH qI Af 192 [.sc (.pointer none),pQ b]=some (.sc (.pointer none));rw[mM,nG [.tmp 4] [] func192];simp only[go_sem]
 |some x=>cases b with
  |none=>
   show fn ZH qI Af 192 [.tp (cQ x) 0,.sc (.pointer none)]=some (.sc (.pointer none));rw[mM,nG [.tmp 4] [] func192];simp only[go_sem]
  |some y=>
   have E:=ah7 x y ((ha x rfl).mono (by decide)) ((hb y rfl).mono (by decide));have G:=atG (x+y) (Ln.mono (abr (ha x rfl) (hb y rfl) ) (by decide));show fn ZH qI Af 192 [.tp (cQ x) 0,.tp (cQ y) 0]=some (pQ (FM (x+y)));rw[mM,nG [.tmp 4] [] func192];simp only[go_sem,E,G];exact OD _ _
theorem aug{a b:Option Rat}(ha:LnO 100 a)(hb:LnO 100 b):fn ZH qI Af 230 [pQ a,pQ b]=some (pQ (Hw a b)):=by
 cases a with
 |none=>
  show fn ZH qI Af 230 [.sc (.pointer none),pQ b]=some (.sc (.pointer none));rw[mM,nG [.tmp 4] [] func230];simp only[go_sem]
 |some x=>cases b with
  |none=>
   show fn ZH qI Af 230 [.tp (cQ x) 0,.sc (.pointer none)]=some (.sc (.pointer none));rw[mM,nG [.tmp 4] [] func230];simp only[go_sem]
  |some y=>
   have E:=acO x y ((ha x rfl).mono (by decide)) ((hb y rfl).mono (by decide));have G:=atG (x*y) (Ln.mono (abq (ha x rfl) (hb y rfl) (by decide)) (by decide));show fn ZH qI Af 230 [.tp (cQ x) 0,.tp (cQ y) 0]=some (pQ (FM (x*y)));rw[mM,nG [.tmp 4] [] func230];simp only[go_sem,E,G];exact OD _ _
abbrev Gq(a:Option Rat):List V:=[pQ a]
def amk(o:Option Rat)(v:Rat):Option Rat:=match o with
 |none=>some v
 |some y=>FM (y+v)
def sgQ(s:Int)(x:Rat):Rat:=if s<0 then -x else x
def Gi(K:List (Int×Int))(X:List Rat)(nm:Nat):Nat->List (Option Rat)
 |0=>List.replicate nm none
 |c+1=>(Gi K X nm c).set (K.getD c (0,0)).1.toNat (amk ((Gi K X nm c).getD (K.getD c (0,0)).1.toNat none) (sgQ (K.getD c (0,0)).2 (X.getD c 0)))
theorem lg(K:List (Int×Int))(X:List Rat)(nm:Nat):∀c,(Gi K X nm c).length=nm
 |0=>by simp[Gi]
 |c+1=>by rw[Gi,yJ];exact lg K X nm c
theorem ac1{q y:Rat}(h:FM q=some y):Ln 24 y:=by
 unfold FM at h
 split at h
 .cases h;assumption
 .cases h
theorem UF{K:List (Int×Int)}{X:List Rat}{nm:Nat}(O:∀x∈X,Ln 24 x):∀c,∀o∈Gi K X nm c,LnO 24 o
 |0=>fun o G y E=>by
  have:=(List.mem_replicate.mp G).2;rw[this]at E;cases E
 |c+1=>fun o G y E=>by
  rw[Gi]at G;rcases vB G with h|h
  .exact UF O c o h y E
  .subst h
   unfold amk at E
   split at E
   .cases E
    have J:Ln 24 (X.getD c 0):=by
     rw[zx]
     by_cases hc:c<X.length
     .rw[zy hc];exact O _ (zu hc)
     .rw[yZ (by omega)];exact(sJ (z:=0) (by decide)).mono (by decide)
    unfold sgQ
    split
    .have S:(-(X.getD c 0)).num= -(X.getD c 0).num:=rfl
     have Y:(-(X.getD c 0)).den=(X.getD c 0).den:=rfl;exact⟨by rw[S,wC];exact J.1,by rw[Y];exact J.2⟩
    .exact J
   .exact(ac1 E).mono (by decide)
theorem aml(X:List (Option Rat)):∀(k:Nat) (q:Option Rat),(X.flatMap Gq).set k (pQ q)=(X.set k q).flatMap Gq:=by
 induction X with
 |nil=>intro k q;rfl
 |cons a X E=>intro k q;cases k with
  |zero=>rfl
  |succ k=>show pQ a :: ((X.flatMap Gq).set k (pQ q))=_;rw[E];rfl
theorem aiL(N:Nat):rep N [V.sc (.pointer none)]=(List.replicate N (none:Option Rat)).flatMap Gq:=by
 induction N with
 |zero=>rfl
 |succ N E=>rw[fK,E,xR];rfl
theorem aiM(a:Option Rat):cellsOfV (pQ a)=some [pQ a]:=by cases a<;>rfl
theorem amm(a:Option Rat):pI (pQ a)=true:=by cases a<;>rfl
theorem J4(σ:Store)(d:Nat):∀X:List (Option Rat),stripL (strip σ d) (X.flatMap Gq)=some (X.flatMap Gq,[])
 |[]=>by rw[wQ,aZ]
 |a :: X=>by
  rw[zT,show Gq a++X.flatMap Gq=pQ a :: X.flatMap Gq from rfl,au,J4 σ d X];cases a with
  |none=>unfold pQ;rw[aQ];rfl
  |some q=>unfold pQ;rw[aO];rfl
attribute [go_sem] aiM amm
def ac2:=bZ (c:=Gq) (s:=1) (fun _=>rfl)
theorem auh{s:Structure}(h:SG s){X:List Rat}(hX:X.length=(cols s s.members.length).length)(hL:∀x∈X,Ln 24 x) :
  fn ZH qI Af 163 [.tp (cStructure s) 0,LL cF X]=some (LL Gq (Gi (cols s s.members.length) X s.members.length (cols s s.members.length).length)):=by
 have d4:=h.nm;have d5:=pO s s.members.length;have k2:=Oz h;have m1:(0:Int)<=(s.members.length:Int):=by omega
 have m2:8*(s.members.length:Int)<=281474976710656:=by omega
 have m3:(s.members.length:Int)<=9223372036854775807:=by omega
 obtain⟨K,hK⟩:∃K,K=cols s s.members.length:=⟨_,rfl⟩;have c5:∀c (hc:c<K.length),(∃k:Nat,K[c].1=(k:Int)/\k<s.members.length)/\(K[c].2=1\/K[c].2= -1):=fun c hc=>by subst hK;exact pK (zu hc)
 rw[<- hK]at k2 hX d5⊢;rw[mM,nG [.tmp 4] [10] func163];simp only[go_sem,k2,m1,m2,m3];generalize c6:dI _ _=y;obtain⟨nm,c7⟩:∃nm,nm=s.members.length:=⟨_,rfl⟩;rw[<- c7]at c5 d4 m1 m2 m3⊢;obtain⟨x,rfl,T1,a1,nI,rfl,S,s0⟩:=pF c6 K.length (fun c st=>st.T 1=LL cF X/\st.T 5= .rs 0 0 nm/\st.T 16=LL EW K/\st.T 17=I K.length/\st.T 18=I c/\0<st.nx/\st.σ 0=some ⟨(Gi K X nm c).flatMap Gq,1,true⟩)
  (fun x=>∃T1 a1 nI,x=(.exit 0,⟨T1,a1,nI⟩)/\T1 5= .rs 0 0 nm/\a1 0=some ⟨(Gi K X nm K.length).flatMap Gq,1,true⟩) (by
   clear c6;rintro c ⟨T,σ,nx⟩ hc ⟨t1,S,G,E,GN,c0,s0⟩;simp only at t1 S G E GN c0 s0;have g1:(c:Int)<(K.length:Int):=by omega
   have g2:=jD c;have g3:=ZQ (n:=(c:Int)+1);have a4:=d_ (c:=EW) (s:=2) (fun _=>rfl) K c hc;have a5:=bg (c:=EW) (s:=2) (fun _=>rfl) (by omega) K c hc;have a6:=bZ (c:=EW) (s:=2) (fun _=>rfl) K;have a7:c*2+2<=K.length*2:=by omega
   have a8:=JW X (k:=c) (by omega);have a9:(X.flatMap cF).length=X.length:=qV X;have a2:(c:Int)<(X.length:Int):=by omega
   have a3:X.flatMap cF≠[]:=fun e=>by rw[e]at a9;have:X.length=0:=a9.symm;omega
   obtain⟨⟨k,hk,a0⟩,c2⟩:=c5 c hc;have Y:Gi K X nm (c+1)=(Gi K X nm c).set K[c].1.toNat (amk ((Gi K X nm c).getD K[c].1.toNat none) (sgQ K[c].2 X[c])):=by
    rw[Gi];have e1:K.getD c (0,0)=K[c]:=by rw[zx,zy hc];rfl
    have e2:X.getD c 0=X[c]'(by omega):=by rw[zx,zy (by omega)];rfl
    rw[e1,e2]
   have b7:=hL _ (zu (l:=X) (n:=c) (by omega));obtain⟨kp,d6⟩:∃kp,kp=K[c]:=⟨_,rfl⟩;rw[<- d6]at a4 hk c2 Y;obtain⟨k1,c8⟩:=kp;simp only at hk c2 Y;subst hk;rw[zF]at Y;obtain⟨J,d7⟩:∃J,J=X[c]'(by omega):=⟨_,rfl⟩;rw[<- d7]at a8 Y b7;have hlen:=lg K X nm c;have c9:=UF (K:=K) (nm:=nm) hL c;obtain⟨O,eO⟩:∃O,O=Gi K X nm c:=⟨_,rfl⟩;rw[<- eO]at s0 Y hlen c9;have b1:=cu (fun a=>pQ a) O k (by omega);have b1:(O.flatMap Gq)[k]?=some (pQ (O.getD k none)):=by
    rw[b1,zx,zy (by omega)];rfl
   have c3:LnO 24 (O.getD k none):=by
    rw[zx,zy (by omega)];exact c9 _ (zu _)
   have b2:(O.flatMap Gq).length=nm:=by rw[ac2,hlen,yQ]
   have b3:(k:Int)<(nm:Int):=by omega
   have b4:=jD k;have b5:k+1<=nm:=a0;have b8:Ln 24 (sgQ c8 J):=by
    unfold sgQ
    split
    .exact⟨by show ln (-J.num).natAbs<=24;rw[wC];exact b7.1,b7.2⟩
    .exact b7
   have b6:=aml O k (amk (O.getD k none) (sgQ c8 J));rw[<- Y]at b6;obtain⟨o,eo⟩:∃o,o=O.getD k none:=⟨_,rfl⟩;rw[<- eo]at b1 b6 c3;have b9:fn ZH conv ext 191 [.tp (cQ J) 0]=some (.tp (cQ (-J)) 0):=azq (some J)
   have d0:¬nx=0:=by omega
   have d1:¬0=nx:=by omega
   have d2:0<nx+1:=by omega
   have d3:nx<nx+1:=by omega
   refine bF ?_;have n1:¬(1:Int)<0:=by decide
   have n2:(-1:Int)<0:=by decide
   rcases c2 with rfl|rfl
   .have sv:sgQ 1 J=J:=rfl
    rw[sv]at b6 b8;rcases o with _|y
    .have e6:(O.flatMap Gq).set k (.tp (cQ (J)) 0)=(Gi K X nm (c+1)).flatMap Gq:=b6
     have e1:(O.flatMap Gq)[k]?=some (.sc (.pointer none)):=b1;refine⟨_,by simp only[go_sem,t1,S,G,E,GN,s0,g1,g2,g3,a4,a5,a6,a7,a8,a9,a2,a3,b2,b3,b4,b5,a0,e1,e6,b9,n1,n2,d0,d1,d2,d3];rfl,.inl ⟨_,rfl,?_⟩⟩;simp only[go_sem,t1,S,G,E,d0,d1,d2]
     first|rfl|exact⟨rfl,rfl⟩|trace_state
    .have e6:(O.flatMap Gq).set k (pQ (FM (y+J)))=(Gi K X nm (c+1)).flatMap Gq:=b6
     have e1:(O.flatMap Gq)[k]?=some (.tp (cQ y) 0):=b1;have c4:fn ZH qI Af 192 [.tp (cQ y) 0,.tp (cQ (J)) 0]=some (pQ (FM (y+J))):=auf (a:=some y) (b:=some (J)) (fun z hz=>(c3 z hz).mono (by decide)) (fun z hz=>by cases hz;exact b8.mono (by decide));refine⟨_,by simp only[go_sem,t1,S,G,E,GN,s0,g1,g2,g3,a4,a5,a6,a7,a8,a9,a2,a3,b2,b3,b4,b5,a0,e1,e6,b9,c4,n1,n2,d0,d1,d2,d3];rfl,.inl ⟨_,rfl,?_⟩⟩;simp only[go_sem,t1,S,G,E,d0,d1,d2]
     first|rfl|exact⟨rfl,rfl⟩|trace_state
   .have sv:sgQ (-1) J= -J:=rfl
    rw[sv]at b6 b8;rcases o with _|y
    .have e6:(O.flatMap Gq).set k (.tp (cQ (-J)) 0)=(Gi K X nm (c+1)).flatMap Gq:=b6
     have e1:(O.flatMap Gq)[k]?=some (.sc (.pointer none)):=b1;refine⟨_,by simp only[go_sem,t1,S,G,E,GN,s0,g1,g2,g3,a4,a5,a6,a7,a8,a9,a2,a3,b2,b3,b4,b5,a0,e1,e6,b9,n1,n2,d0,d1,d2,d3];rfl,.inl ⟨_,rfl,?_⟩⟩;simp only[go_sem,t1,S,G,E,d0,d1,d2]
     first|rfl|exact⟨rfl,rfl⟩|trace_state
    .have e6:(O.flatMap Gq).set k (pQ (FM (y+ -J)))=(Gi K X nm (c+1)).flatMap Gq:=b6
     have e1:(O.flatMap Gq)[k]?=some (.tp (cQ y) 0):=b1;have c4:fn ZH qI Af 192 [.tp (cQ y) 0,.tp (cQ (-J)) 0]=some (pQ (FM (y+ -J))):=auf (a:=some y) (b:=some (-J)) (fun z hz=>(c3 z hz).mono (by decide)) (fun z hz=>by cases hz;exact b8.mono (by decide));refine⟨_,by simp only[go_sem,t1,S,G,E,GN,s0,g1,g2,g3,a4,a5,a6,a7,a8,a9,a2,a3,b2,b3,b4,b5,a0,e1,e6,b9,c4,n1,n2,d0,d1,d2,d3];rfl,.inl ⟨_,rfl,?_⟩⟩;simp only[go_sem,t1,S,G,E,d0,d1,d2]
     first|rfl|exact⟨rfl,rfl⟩|trace_state) (by
   rintro ⟨T,σ,nx⟩ ⟨t1,S,G,E,GN,c0,s0⟩;simp only at t1 S G E GN c0 s0;have g1:¬(K.length:Int)<(K.length:Int):=by omega
   refine⟨_,by simp only[go_sem,E,GN,g1];rfl,by simp,_,_,_,rfl,?_⟩;simp only[go_sem,S];exact s0) (by
   simp only[go_sem,<- c7];rw[Gi,<- aiL])
 have hlen:=lg K X nm K.length;have u1:nm<=((Gi K X nm K.length).flatMap Gq).length:=by rw[ac2,hlen];omega
 have u2:((Gi K X nm K.length).flatMap Gq).take nm=(Gi K X nm K.length).flatMap Gq:=zk (by rw[ac2,hlen];omega);have u3:=J4 a1 6 (Gi K X nm K.length);simp only[go_sem,S,s0,u1,u2,u3];show some (V.ts _ nm)=some (V.ts _ (Gi K X nm K.length).length);rw[hlen]
def Ji(s:Structure)(l:List Int):Prog:=AO (Vb s) (KP s l) (List.replicate (DN s) 0) (MB s) (DN s)
theorem abv{s:Structure}(h:SG s):∀x∈Vb s,-1000<=x/\x<=1000:=fun x E=>by
 unfold Vb at E;obtain⟨r,G,E⟩:=List.mem_flatMap.mp E;obtain⟨p,hp,rfl⟩:=List.mem_map.mp E;have hb:-100<=r.getD p.1.toNat 0/\r.getD p.1.toNat 0<=100:=by
  rw[zx]
  by_cases hi:p.1.toNat<r.length
  .rw[zy hi];exact X4 h G _ (zu hi)
  .rw[yZ (by omega)];simp
 rcases (pK hp).2 with e|e<;>rw[e]<;>omega
theorem aiN{s:Structure}{l:List Int}(hb:∀x∈l,-100<=x/\x<=100):∀x∈KP s l,-1000<=x/\x<=1000:=fun x E=>by
 unfold KP at E;obtain⟨j,-,E⟩:=List.mem_flatMap.mp E;have key:∀q,-100<=l.getD q 0/\l.getD q 0<=100:=fun q=>by
  rw[zx]
  by_cases hi:q<l.length
  .rw[zy hi];exact hb _ (zu hi)
  .rw[yZ (by omega)];simp
 simp only[zX,zH,or_false]at E;rcases E with rfl|rfl
 .have:=key (2*j.toNat);omega
 .have:=key (2*j.toNat+1);omega
theorem auj{s:Structure}(h:SG s){l:List Int}(hb:∀x∈l,-100<=x/\x<=100)(E:0<MB s):LG (Vb s) (KP s l) (List.replicate (DN s) 0) (MB s) (DN s):=by
 have J:=lZ s;have O:=h.nj;have S:=pO s s.members.length;have Y:=h.nm;refine⟨Me s,UE s l,by simp,E,by unfold MB;omega,by unfold DN;omega,abv h,aiN hb,fun x G=>?_⟩;rw[(List.mem_replicate.mp G).2];omega
theorem afr{s:Structure}(h:Ar s)(J:free s=[]):s.members=[]:=by
 refine zf fun hn=>?_
 obtain⟨m,ms,e⟩:=List.exists_cons_of_ne_nil hn;have hm:m∈s.members:=by rw[e];simp
 have E:=h.2.2.2 m hm;have G:Gy s.joints.length m:=zf fun G=>by rw[jP G]at E;cases E
 obtain⟨O,S,Y,r4,r5,r6⟩:=G;have ha:m.a.toNat<s.joints.length:=by omega
 have hb:m.b.toNat<s.joints.length:=by omega
 rw[JF ⟨O,S,Y,r4,r5,r6⟩ (zy ha) (zy hb)]at E;have fixed:∀i (hi:i<s.joints.length),s.joints[i].fixed=true:=fun i hi=>by
  cases hf:s.joints[i].fixed with
  |true=>rfl
  |false=>
   have hq:Dv s i=true:=by simp[Dv,zy hi,hf]
   have:(i:Int)∈free s:=by
    unfold free DT;exact List.mem_map.mpr ⟨i,List.mem_filter.mpr ⟨List.mem_range.mpr hi,hq⟩,rfl⟩
   rw[J]at this;cases this
 unfold WQ at E;rw[fixed _ ha,fixed _ hb]at E;simp at E
theorem amq{s:Structure}(h:Ar s){l:List Int}(hb:∀x∈l,-100<=x/\x<=100):∃r,fn ZH qI Af 161 [.tp (CZ (MB s) (DN s) (Vb s) (KP s l) (List.replicate (DN s) 0)) 0]=some r/\atX (Ji s l) r:=by
 by_cases Y:0<MB s
 .exact apH (auj h.sg hb Y)
 .have E:free s=[]:=zZ (by unfold MB at Y;omega)
  have e1:=afr h E;have G:MB s=0:=by omega
  have J:DN s=0:=by unfold DN;rw[e1];rfl
  have O:Vb s=[]:=by unfold Vb C_;rw[E];rfl
  have S:KP s l=[]:=by unfold KP;rw[E];rfl
  refine⟨_,by rw[G,J,O,S];exact amg,.inr (.inr ⟨fun _=>0,?_,fun j hj=>?_,?_⟩)⟩
  .unfold Ji
   rw[G,J,O,S];refine⟨⟨fun k hk=>absurd hk (zW k),fun j hj=>absurd hj (zW j)⟩,fun y hy=>?_⟩;refine .inr fun q _=>?_
   show(0:Rat) - 0=0;grind
  .exact(sJ (z:=0) (by decide)).mono (by decide)
  .unfold Ji
   rw[G,J,O,S];rfl
def auk(s:Structure)(l:List Int)(r:V):Prop:=(r= .AP [.ts [] 0,.ts [] 0,Bo false]/\((Ji s l).None\/(Ji s l).Open)) \/
 ∃x:Nat->Rat,(Ji s l).Best x/\(∀j,j<DN s->Ln 24 (x j))/\r= .AP [LL Gq (Gi (cols s s.members.length) ((List.range (DN s)).map x) s.members.length (DN s)),.ts [] 0,Bo true]
theorem amr{s:Structure}(h:Ar s){l:List Int}(hb:∀x∈l,-100<=x/\x<=100):∃r,fn ZH qI Af 133 [.tp (cStructure s) 0,.agg (CZ (MB s) (DN s) (Vb s) (KP s l) (List.replicate (DN s) 0))]=some r/\auk s l r:=by
 obtain⟨r0,E,hr⟩:=amq h hb;have k2:=Oz h.sg;have hC:(cols s s.members.length).length=DN s:=rfl;obtain⟨C,eC⟩:∃C,C=DN s:=⟨_,rfl⟩;have hn:(Ji s l).n=DN s:=rfl;have a0:DN s<=16:=by have:=pO s s.members.length;have:=h.sg.nm;omega
 rw[mM,nG [.tmp 4,.tmp 5,.tmp 6] [] func133];unfold CZ at E⊢;rcases hr with ⟨rfl,G⟩|⟨rfl,G⟩|⟨x,G,S,rfl⟩
 .refine⟨_,by simp only[go_sem,E];rfl,.inl ⟨rfl,.inl G⟩⟩
 .refine⟨_,by simp only[go_sem,E];rfl,.inl ⟨rfl,.inr G⟩⟩
 .rw[hn]at E S
  obtain⟨X,O⟩:∃X:List Rat,X=(List.range (DN s)).map x:=⟨_,rfl⟩;have J:X.length=DN s:=by rw[O];simp
  have kf:=auh h.sg (X:=X) (by rw[J];rfl) (fun y hy=>by
   rw[O]at hy;obtain⟨j,hj,rfl⟩:=List.mem_map.mp hy;exact S j (List.mem_range.mp hj))
  rw[<- O]at E;have Y:fn ZH conv ext 162 [.tp (cStructure s) 0]=some (.ts ((cols s s.members.length).flatMap EW) X.length):=by rw[J];exact k2
  have z1:(X.flatMap cF).take X.length=X.flatMap cF:=zk (by rw[qV];exact zq _);have z2:(X.flatMap cF).drop X.length=[]:=xk (by rw[qV];exact zq _);have z0:(0:Int)<=(X.length:Int):=by omega
  refine⟨_,by simp only[go_sem,E,Y,z0,z1,z2,kf,yP,List.take_nil,J4];rfl,.inr ⟨x,G,S,?_⟩⟩;rw[<- O];rfl
end Go.Proofs.YtehdaknhabeiaaaGreat
