import Derived.Test.YtkpdoehbhmipcaaGreatTb3
set_option linter.unusedSimpArgs false
set_option linter.unusedVariables false
set_option linter.unusedSectionVars false
set_option linter.defProp false
set_option maxRecDepth 10000
set_option maxHeartbeats 4000000
open Go.Proofs.Tryz renaming prog->Ze
open Go.Proofs.Tryz
open Bool renaming and_eq_true->yc,not_false->wY,not_true->vN
open Classical renaming byContradiction->zf
open Int renaming lt_irrefl->zk,mul_le_mul_of_nonneg_right->zS,mul_le_mul_of_nonneg_left->zG,natCast_mul->zC,toNat_natCast->yS,tdiv_eq_ediv_of_nonneg->yQ,mul_add->xu,le_refl->xW,tmod_eq_emod_of_nonneg->xM,le_of_lt->xJ,natAbs_natCast->xA,natAbs_neg->wH,mul_zero->wB,mul_nonneg->vg,mul_sub->vF,natAbs_mul->uh,add_zero->uX,sub_mul->uM,mul_lt_mul_of_pos_right->tH
open List renaming getElem?_eq_getElem->zy,getD_eq_getElem?_getD->zx,getElem_mem->zu,take_of_length_le->zo,length_append->zl,length_take->zh,eq_nil_of_length_eq_zero->zZ,mem_cons_of_mem->zY,mem_cons->zX,getElem?_append_left->zW,length_map->zV,flatMap_append->zT,mem_cons_self->zQ,flatMap_cons->zO,getElem?_append_right->zN,append_nil->zM,not_mem_nil->zJ,append_assoc->zF,length_cons->zB,getElem?_map->z_,drop_zero->yw,length_drop->yj,getElem?_eq_none->yg,take_length->yZ,cons_append->yY,getElem_of_mem->yV,drop_eq_getElem_cons->yU,length_eraseIdx_of_lt->yT,length_replicate->yR,take_add_one->yN,nil_append->yL,length_set->yK,length_singleton->yH,set_append_right->yF,ext_getElem->yE,nodup_cons->xw,getElem?_drop->xq,replicate_succ->xg,drop_of_length_le->xZ,map_append->xQ,map_congr_left->xO,getElem_map->xK,mem_of_mem_take->xH,getElem?_take->xG,map_cons->x9,length_nil->wz,take_left'->wu,range_succ->wX,mem_append->wU,getElem_append_right->wS,take_append_drop->wQ,getElem_append_left->wP,all_eq_true->wL,mem_singleton->wF,flatMap_nil->wE,set_cons_zero->wC,getElem?_range->vU,all_nil->vP,getElem_set->vJ,replicate_append_replicate->vH,eraseIdx_eq_take_drop_succ->vG,getElem_take->uw,take_append_of_le_length->uo,getElem?_replicate->um,getElem_inj->ug,all_cons->uT,length_range->uS,replicate_succ'->uQ,mem_or_eq_of_mem_set->uP,getElem?_mapIdx->uO,set_eq_take_append_cons_drop->uN,getElem?_take_of_lt->uH,length_zipWith->uD,drop_append_of_le_length->tK,eraseIdx_sublist->tJ
open Nat renaming le_refl->zq,not_lt_zero->zU,le_trans->zL,mul_le_mul_right->zK,zero_add->yu,sub_self->yP,mul_one->yO,mul_le_mul->yM,succ_mul->yG,min_eq_left->xY,lt_of_lt_of_le->xR,div_le_self->xP,div_one->xC,mod_eq_of_lt->wO,mod_lt->vk,add_mul->vT,zero_le->vS,mul_assoc->vM,div_eq_of_lt->vK,zero_mul->vC,eq_zero_of_gcd_eq_zero_right->uG
open Ne renaming symm->zD
open Option renaming bind_some->zi,map_some->zH,getD_some->yB
open Option.some renaming injEq->tC
open Prod.mk renaming injEq->t_
namespace Go.Proofs.YtkpdoehbhmipcaaGreat
open Go Go.TV
theorem akt{U a b:List Int}{j:Nat}(h:a.length=b.length)(G:j+a.length<=U.length):lay (lay U j a) j b=lay U j b:=by
 unfold lay;have E:(U.take j).length=j:=by rw[zh];omega
 rw[wu E];congr 2;rw[<- zF,List.drop_left' (by rw[zl,E,h]),h]
theorem WC{U a:List Int}{j:Nat}(E:j+a.length<=U.length):(lay U j a).drop j=a++U.drop (j+a.length):=by
 unfold lay;exact List.drop_left' (by rw[zh];omega)
theorem WE{U a:List Int}{j:Nat}(E:j+a.length<=U.length):(lay U j a).take j=U.take j:=by
 unfold lay;exact wu (by rw[zh];omega)
theorem anA{U a:List Int}{j:Nat}(h:Dg U)(E:Dg a):Dg (lay U j a):=(h.take _).app (E.app (h.drop _))
theorem agP{U:List Int}{j n:Nat}{L Q:List Int}{q V N:Int}(hj:j+(n+1)<=U.length)(O:L.length=n)(E:vl (U.drop (j+n+1))=0)(S:vl L=vl (U.drop j) - q*V)(Y:vl U+V*(bp (j+1)*vl Q)=N) :
  vl ((lay U j (L++[0])).drop j)=vl L/\vl (lay U j (L++[0]))+V*(bp j*vl (q :: Q))=N:=by
 have hl:(L++[0]).length=n+1:=by simp[O]
 have G:vl ((lay U j (L++[0])).drop j)=vl L:=by
  rw[WC (by omega),ZY,Zu,hl,show j+(n+1)=j+n+1 by omega,E];simp
 refine⟨G,?_⟩;have J:=Zt (lay U j (L++[0])) (k:=j) (by rw[kD (by omega)];omega);rw[WE (by omega),G]at J;have h3:=Zt U (k:=j) (by omega);rw[J,S,<- Y,h3,ql];show _+bp j*_+V*(bp j*(q+1000000000*vl Q))=_;grind
theorem adW(f:V->Option (List Nat))(h:∀x,f (I x)=some [])(xs:List Int):AO f (xs.flatMap cI)=some []:=by
 induction xs with
 |nil=>rfl
 |cons x xs E=>
  show AO f (I x :: xs.flatMap cI)=_;rw[Ib,h,E];rfl
theorem lZ{σ:Store}{b off len:Nat}{xs:List Int}(d:Nat)(h:σ b=some ⟨xs.flatMap cI,1,true⟩):gather σ (d+1) (.rs b off len)=some [b]:=by
 have e:gather σ (d+1) (.rs b off len)=match σ b with
   |some B=>match AO (gather σ d) B.cells with
    |some ids=>some (b :: ids)
    |none=>none
   |none=>none:=rfl
 rw[e,h];simp only;rw[adW _ (fun x=>PK σ d _)]
theorem aku{σ:Store}{b E j:Nat}{xs:List Int}(h:σ b=some ⟨xs.flatMap cI,1,true⟩)(J:xs.length=E)(O:j<E) :
  ((σ b).bind fun B=>if j<=E/\B.st=1/\E<=B.cells.length then if j=0 then some (V.rs b 0 E)else if j=E then some (V.ts [] 0)else some (V.rs b j (E-j))else none)=some (.rs b j (E-j)):=by
 rw[h];simp only[zi,qW,J];rw[sZ ⟨by omega,trivial,zq _⟩]
 by_cases G:j=0
 .subst G;rw[sZ rfl];rfl
 .rw[su G,su (by omega)]
theorem akv{b E j l:Nat}(J:l=E)(O:j<E) :
  (if j<=E/\E<=l then if j=0 then some (V.rs b 0 E)else if j=E then some (V.ts [] 0)else some (V.rs b j (E-j))else none)=some (.rs b j (E-j)):=by
 subst J;rw[sZ ⟨by omega,zq _⟩]
 by_cases G:j=0
 .subst G;rw[sZ rfl];rfl
 .rw[su G,su (by omega)]
theorem after_take{U lo:List Int}{j e:Nat}{X g tt G:Int}(a6:lo.length=e+2)(OT:Dg lo)(E:vl lo+bp (e+2)*tt=X-g*G)(gh:X<(g+1)*G)(gl:(g-1)*G<=X)(dV:G<bp (e+2))(V0:0<G)(g0:0<=g)(X0:0<=X) :
  (tt=0/\vl lo=X-g*G/\vl lo<G)\/(tt= -1/\0<=g-1/\∀(J:List Int) (cc:Int),J.length=e+2->Dg J->vl J+bp (e+2)*cc=vl lo+G->cc=1/\vl J=X - (g-1)*G/\vl J<G):=by
 have O:=Zw OT;rw[a6]at O;have S:=Zv OT;rcases agH gh gl with ⟨z1,z2⟩|⟨z1,z2,z3⟩
 .have a1:tt=0:=WA S O z1 (by omega) E.symm
  subst a1;rw[wB,uX]at E;exact .inl ⟨rfl,E,by omega⟩
 .have e1:(g-1)*G=g*G-G:=by rw[uM,Int.one_mul]
  rw[e1]at z2 z3⊢;have a1:tt= -1:=akp S O (by omega) z1 E.symm;subst a1;have g1:0<=g-1:=by
   refine Int.not_lt.mp fun h=>?_
   have:g=0:=by omega
   subst this;omega
  refine .inr ⟨rfl,g1,fun J cc h1 h2 h3=>?_⟩;have Y:=Zw h2;rw[h1]at Y;have e2:bp (e+2)*(cc-1)=bp (e+2)*cc-bp (e+2):=by rw[vF,Int.mul_one]
  have e3:bp (e+2)* -1= -bp (e+2):=by rw[Int.mul_neg,Int.mul_one]
  rw[e3]at E;have a7:cc-1=0:=WA (X:=X - (g*G-G)) (Zv h2) Y z2 (by omega) (by rw[e2];omega);have:cc=1:=by omega
  subst this;rw[Int.mul_one]at h3;exact⟨rfl,by omega,by omega⟩
theorem akw{U lo:List Int}{j e lu:Nat}(dU:Dg U)(lU:U.length=lu)(a7:j+(e+2)<U.length)(G:lo.length=e+2)(OT:Dg lo) :
  ∃E,lay U j (lo++[-1])=E/\E.length=lu/\(∃h:j+(e+2)<E.length,E[j+(e+2)]= -1)/\(∀k (h:k<E.length),k<j+(e+2)->0<=E[k]/\E[k]<1000000000)/\(E.drop j).take (e+2)=lo /\
   ∀Y:List Int,Y.length=e+2->lay E j (Y++[0])=lay U j (Y++[0]):=by
 have O:(lo++[-1]).length=e+3:=by simp[G]
 have J:(lay U j (lo++[-1])).drop j=lo++[-1]++U.drop (j+(e+3)):=by rw[WC (by omega),O]
 have a1:(lay U j (lo++[-1])).take j=U.take j:=by rw[WE (by omega)]
 have a6:(lay U j (lo++[-1])).length=lu:=by rw[kD (by omega)];exact lU
 refine⟨_,rfl,a6,⟨by omega,?_⟩,fun k hk a8=>?_,by rw[J,zF,wu G],fun Y h=>?_⟩
 .have:((lay U j (lo++[-1])).drop j)[e+2]?=some (-1):=by
   rw[J,zF,zN (by omega),G,yP];rfl
  rw[xq,zy (by omega)]at this;exact Option.some.inj this
 .by_cases S:k<j
  .have:((lay U j (lo++[-1])).take j)[k]?=some (lay U j (lo++[-1]))[k]:=by rw[uH S,zy hk]
   rw[a1,uH S,zy (by omega)]at this;rw[<- Option.some.inj this];exact dU.get (by omega)
  .have:((lay U j (lo++[-1])).drop j)[k-j]?=some (lay U j (lo++[-1]))[k]:=by
    rw[xq];have e2:j+(k-j)=k:=by omega
    rw[e2,zy hk]
   rw[J,zF,zW (by omega),zy (by omega)]at this;rw[<- Option.some.inj this];exact OT.get (by omega)
 .exact akt (by rw[O];simp[h]) (by omega)
theorem WG{U Q E:List Int}{j e S:Nat}{q X G N:Int}(dU:Dg U)(dQ:Dg Q)(lU:U.length=S)(a6:j+(e+2)<U.length)(lQ:Q.length+(j+1)=S - (e+2))(a1:vl (U.drop (j+(e+2)+1))=0)(eX:X=vl (U.drop j))(J:vl U+G*(bp (j+1)*vl Q)=N)
  (h1:E.length=e+2) (h2:Dg E) (h3:0<=q) (h4:q<1000000000) (h5:vl E=X-q*G) (h6:vl E<G) :
  ∃O Y,(lay U j (E++[0]))=O/\I q :: Q.flatMap cI=Y.flatMap cI/\Dg O/\Dg Y/\O.length=S/\Y.length+j=S - (e+2)/\vl (O.drop j)<G/\vl O+G*(bp j*vl Y)=N:=by
 rw[eX]at h5;obtain⟨y1,y2⟩:=agP (U:=U) (j:=j) (n:=e+2) (L:=E) (Q:=Q) (q:=q) (by omega) h1 a1 h5 J;have hl:(E++[0]).length=e+3:=by simp[h1]
 refine⟨_,q :: Q,rfl,rfl,anA dU (h2.snoc (by decide) (by decide)),fun x hx=>?_,by rw[kD (by omega)];exact lU,by simp;omega,by rw[y1];exact h6,y2⟩;rcases List.mem_cons.mp hx with rfl|hx
 .exact⟨h3,h4⟩
 .exact dQ x hx
theorem SB(n k:Nat):Dg (pad n k):=fun x E=>by
 unfold pad at E;obtain⟨i,_,rfl⟩:=List.mem_map.mp E;omega
theorem agQ(n k:Nat)(h:n<1000000000^k):vl (pad n k)=n:=by
 have E:=H_ k n h;rw[abe (SB n k)]at E;have G:=congrArg vl E;rw[Zx,Zx,Int.toNat_of_nonneg (Zv (SB n k))]at G;exact G
theorem PY{s:Nat}(E:1<=s)(h:s<1000000000):LI (dg s)= .ts [I s] 1:=by rw[oW (by omega) h];rfl
theorem arX(m n:Nat)(hm:ln m<=1000000)(h2:2<=ln n)(hle:n<=m):fn Ze D7 Iq 266 [LI (dg m),LI (dg n)]=some (.Au [LI (dg (m / n)),LI (dg (m%n))]):=by
 obtain⟨b1,s,hb,n1,u6,u7,hs,n2,k0,k4,k7⟩:=agO h2;have u9:(dg n).length=ln n:=rfl;have v6:(dg m).length=ln m:=rfl;have n3:ln n<=ln m:=jq hle;have n4:m≠0:=fun e=>by rw[e,jg]at n3;omega
 have v7:n≠0:=fun e=>by rw[e,jg]at h2;omega
 have k1:=kW m n (by omega) (by omega);have hc:¬AU m n<0:=by unfold AU;rw[su (by omega)];split<;>decide
 have c1:(((dg n).length:Int)==1)=false:=by rw[sW];omega
 have v8:ln s=1:=by
  have:=jh k0;have:=ji (n:=s) (by omega);omega
 obtain⟨n5,P1,t1,l5,w7,n6,n7⟩:=agM m s hm (by omega) n4 (by omega) 1;rw[PY n2 k0]at t1;have w8:m*s≠0:=Nat.mul_ne_zero n4 (by omega);have w9:ln m<=ln (m*s):=jq (Nat.le_mul_of_pos_right _ (by omega));have x0:ln (m*s)<=ln m+1:=by have:=jo m s;omega
 obtain⟨X6,ea⟩:∃X6,X6=upd (CV 1 (upd lI 0 (some ⟨[I s],1,true⟩)) n5 [1]) 2 (some ⟨[I 0],1,true⟩):=⟨_,rfl⟩;have n8:X6 1=some ⟨P1.flatMap cI,1,true⟩:=by
  rw[ea,aG _ _ (by decide),kG (by decide) (by simp)];exact l5
 have n9:X6 0=some ⟨[I s],1,true⟩:=by
  rw[ea,aG _ _ (by decide),kF (by decide)];exact aF _ _ _
 obtain⟨bu,l6,nb,ga,gb,gn,D6,x3,o0⟩:=arW (nx:=3) n8 (by decide) n6 n7 w8 (by omega) (by omega);have l7:l6 0=some ⟨[I s],1,true⟩:=by rw[o0 0 (by decide) (by decide)];exact n9
 obtain⟨σ2,P2,t2,l8,x4,o2,o3⟩:=agM n s (by omega) (by omega) v7 (by omega) nb;rw[PY n2 k0,k4]at t2;obtain⟨e,he⟩:∃e,ln n=e+2:=⟨ln n-2,by omega⟩;obtain⟨O,x7⟩:∃O,O=ln (m*s)+1:=⟨_,rfl⟩;obtain⟨e2,ec⟩:∃e2,e2=CV nb l6 σ2 [nb]:=⟨_,rfl⟩;have o4:e2 nb=some ⟨P2.flatMap cI,1,true⟩:=by rw[ec,kG (by omega) (by simp)];exact l8
 have o5:e2 0=some ⟨[I s],1,true⟩:=by rw[ec,kF (by omega)];exact l7
 have o6:e2 bu=some ⟨(dg (m*s)++[0]).flatMap cI,1,true⟩:=by rw[ec,kF x3];exact gb
 obtain⟨W,eW⟩:∃W,W=dg (n*s):=⟨_,rfl⟩;have k5:W.length=e+2:=by rw[eW];show ln (n*s)=_;rw[k4,he]
 have dW:Dg W:=by rw[eW];exact oz _
 have vW:vl W=(n*s:Nat):=by rw[eW];exact Zx _
 have k6:∀k (h:k<W.length),(P2.flatMap cI)[k]?=some (I W[k]):=fun k h=>by
  obtain⟨p1,p2⟩:=iG o2 o3;have:((P2.flatMap cI).take (ln (n*s)))[k]?=some (I W[k]):=by rw[p1,<- eW];exact idx h
  rw[uH (by rw[k4];omega)]at this;exact this
 have big:bp (e+1)*500000000<=(n*s:Nat):=by
  have h:=k7;rw[he]at h;exact h
 have hP:=qm e;obtain⟨Vn,eV⟩:∃Vn:Int,Vn=(n*s:Nat):=⟨_,rfl⟩;rw[<- eV]at big vW;have x8:0<Vn:=by have:=qm (e+1);omega
 have dV:=Zw dW;rw[k5,vW]at dV;have x9:500000000<=W[e+1]:=by
  have g1:=Zq (xs:=W) (k:=e+1) (by omega);rw[zo (by omega),vW]at g1;have g2:=Zw (dW.take (e+1));rw[zh,xY (by omega)]at g2;refine Int.not_lt.mp fun h=>?_
  have:bp (e+1)*(W[e+1]+1)<=bp (e+1)*500000000:=zG (by omega) (xJ (qm _));rw[xu]at this;omega
 have y0:=dW.get (k:=e+1) (by omega);have h6:=dW.get (k:=e) (by omega);obtain⟨v1,o7⟩:∃v1,v1=W[e+1]:=⟨_,rfl⟩;obtain⟨v2,o9⟩:∃v2,v2=W[e]:=⟨_,rfl⟩;have e3:=k6 (e+1) (by omega);have e7:=k6 e (by omega);rw[<- o7]at x9 y0 e3;rw[<- o9]at h6 e7;have i0:(0:Int)<=((dg n).length:Int) - 1:=by omega
 have i1:=Zl (n:=((ln n-1:Nat):Int));have i2:((dg n).length:Int) - 1=((ln n-1:Nat):Int):=by omega
 have i3:((ln n-1:Nat):Int)<((dg n).length:Int):=by omega
 have p0:(0:Int)<=((ln n-1:Nat):Int):=by omega
 have i4:=Aw (dg n) (ln n-1) hb;have i5:=idx hb;rw[n1]at i5;have i6:=Zl (n:=(b1:Int)+1);have i7:¬((b1:Int)+1)=0:=by omega
 have i8:(1000000000:Int).tdiv ((b1:Int)+1)=(s:Int):=by
  rw[yQ (by decide),hs];simp
 have i9:=Zl (n:=(s:Int));have j1:¬(((O:Nat):Int)<=((dg m).length:Int)):=by omega
 have j2:((O:Nat):Int) - ((e+2:Nat):Int)=((O - (e+2):Nat):Int):=by omega
 have j3:=Zl (n:=((O - (e+2):Nat):Int)) (by omega) (by omega);obtain⟨j4,j5,j6⟩:=jc (k:=O - (e+2)) (by omega);have j7:=Zl (n:=((O - (e+2):Nat):Int) - 1) (by omega) (by omega);have p3:Ae X6 3 1 8 (.rs 1 0 (ln (m*s))) [I 0] 1=some (.rs bu 0 O,l6,nb):=by rw[ga,x7]
 have gg:=lZ (σ:=n5) (b:=1) (off:=0) (len:=ln (m*s)) 6 l5;have p4:=lZ (σ:=σ2) (b:=nb) (off:=0) (len:=e+2) 6 l8;rw[he]at t2;have j8:(dg n).length=e+2:=by omega
 have Fp:((X6 2).bind fun B=>if 1<=B.cells.length then some (List.take 1 B.cells,1)else none)=some ([I 0],1):=by
  rw[ea,aF];rfl
 rw[mW,nK [.tmp 4,.tmp 5] [15,16,17,25] func266];simp only[go_sem,k1,hc,c1,i0,i1,i2,i3,p0,i4,i5,i6,i7,i8,i9,t1,gg,<- ea,Fp,p3,l7,t2,p4,<- ec];generalize hL:gI _ _=y;obtain⟨r,rfl,T1,rfl,q0,q8,q9,l9⟩:=je hL (fun _ st=>st.T 0=LI (dg m)/\st.T 8= .rs 0 0 1/\st.T 9= .rs bu 0 O/\st.T 10= .rs nb 0 (e+2)/\st.σ=e2/\st.nx=nb+1)
  (fun r=>∃T,r=(.exit 0,⟨T,e2,nb+1⟩)/\T 0=LI (dg m)/\T 8= .rs 0 0 1/\T 9= .rs bu 0 O/\T 10= .rs nb 0 (e+2)) (by
   clear hL;rintro k ⟨T,σ,nx⟩ ⟨h0,h8,h9,p5,h7,e1⟩;simp only at h0 h8 h9 p5 h7 e1;subst h7 e1;refine .inr ⟨_,by simp only[go_sem,h0,h9,j1];rfl,by simp,_,rfl,?_⟩;simp only[go_sem,h0,h8,h9,p5]) 0 (by simp only[go_sem])
 simp only[go_sem,q0,q8,q9,l9,j2,j3,j4,j5,j6,j7];obtain⟨S,y7⟩:∃S,S=nb+1:=⟨_,rfl⟩;have E0:O<=1000002:=by omega
 generalize hL:gI _ _=y
 obtain⟨r,rfl,T1,e8,U,Q,rfl,p8,p9,E,Y,sU,s0,sq,dU,dQ,lU,lQ,c9,e0⟩:=je hL (fun mm st=>st.T 8= .rs 0 0 1/\st.T 9= .rs bu 0 O/\st.T 10= .rs nb 0 (e+2)/\st.T 11=I ((e+2:Nat):Int)/\st.T 12= .rs S 0 (O - (e+2))/\st.T 13=I ((mm:Int) - 1)/\st.nx=S+1/\mm<=O - (e+2) /\
   ∃U Q,st.σ bu=some ⟨U.flatMap cI,1,true⟩/\st.σ nb=some ⟨P2.flatMap cI,1,true⟩/\st.σ 0=some ⟨[I s],1,true⟩/\st.σ S=some ⟨rep mm [I 0]++Q.flatMap cI,1,true⟩/\Dg U/\Dg Q/\U.length=O/\Q.length+mm=O - (e+2)/\vl (U.drop mm)<Vn/\vl U+Vn*(bp mm*vl Q)=(m*s:Nat))
  (fun r=>∃T σ U Q,r=(.exit 2,⟨T,σ,S+1⟩)/\T 8= .rs 0 0 1/\T 9= .rs bu 0 O/\T 10= .rs nb 0 (e+2)/\T 12= .rs S 0 (O - (e+2))/\σ bu=some ⟨U.flatMap cI,1,true⟩/\σ 0=some ⟨[I s],1,true⟩/\σ S=some ⟨Q.flatMap cI,1,true⟩/\Dg U/\Dg Q/\U.length=O/\Q.length=O - (e+2)/\vl U<Vn/\vl U+Vn*vl Q=(m*s:Nat)) (by
   clear hL;clear i0 i1 i2 i3 p0 i4 i5 i6 i7 i8 i9 j1 j2 j3 j4 j5 j6 j7 j8 gg p4 Fp ga p3 o0 l5 w7 n6 n7 t1 t2 l8 x4 o2 o3 n9 n8 ea l7 o5 o6 o4 ec w9 x0 v8 c1 hc k1 k7 hs u7 u6 n1 v6 u9 n3 q0 q8 q9 l9 big eW;rintro mm ⟨T,σ,nx⟩ ⟨p8,p9,E,G,Y,J,e1,D5,U,Q,sU,sV,s0,sq,dU,dQ,lU,lQ,c9,e0⟩;simp only at p8 p9 E G Y J e1 sU sV s0 sq;subst e1;cases mm with
   |zero=>
    have f0:¬(0:Int)<=((0:Nat):Int) - 1:=by omega
    refine .inr ⟨_,by simp only[go_sem,J,f0];rfl,by simp,_,σ,U,Q,rfl,?_⟩;simp only[go_sem,p8,p9,E,Y];refine⟨sU,s0,?_,dU,dQ,lU,by omega,by rw[yw]at c9;exact c9,by rw[<- e0,RH,Int.one_mul]⟩;rw[sq];rfl
   |succ j=>
    have e5:((j+1:Nat):Int) - 1=(j:Int):=by omega
    rw[e5]at J;have e4:j+(e+2)<U.length:=by omega
    obtain⟨x1,x2,⟨Ur,p6,y8,xU⟩,⟨Vr,p7,q5,xV⟩,x5,x6⟩:=window (W:=W) (V:=Vn) dU k5 dW vW e4 c9;have r1:=dU.get e4;have r2:=dU.get (k:=j+e+1) (by omega);have r3:=dU.get (k:=j+e) (by omega);have q6:=idx e4;have q7:=idx (xs:=U) (k:=j+e+1) (by omega);have e9:=idx (xs:=U) (k:=j+e) (by omega);obtain⟨un,r4⟩:∃un,un=U[j+(e+2)]:=⟨_,rfl⟩;obtain⟨u1,y9⟩:∃u1,u1=U[j+e+1]:=⟨_,rfl⟩;obtain⟨u2,z6⟩:∃u2,u2=U[j+e]:=⟨_,rfl⟩;rw[<- r4]at x1 xU x5 r1 q6;rw[<- y9]at xU r2 q7;rw[<- z6]at xU r3 e9;rw[<- o7]at xV x5;rw[<- o9]at xV;obtain⟨top,r5⟩:∃top,top=un*1000000000+u1:=⟨_,rfl⟩;rw[<- r5]at xU;have tb:top<=v1*1000000000+999999999:=by
     have:=zS x5 (show(0:Int)<=1000000000 by decide);omega
    have t0:0<=top:=by omega
    obtain⟨X,eX⟩:∃X,X=vl (U.drop j):=⟨_,rfl⟩;rw[<- eX]at x1 x2 xU;have P0:0<=bp e:=xJ (qm e);have d1:bu<S+1:=by omega
    have d2:nb<S+1:=by omega
    have a0:(j:Int)+((e+2:Nat):Int)=((j+(e+2):Nat):Int):=by omega
    have a1:=Zl (n:=((j+(e+2):Nat):Int)) (by omega) (by omega);have a2:(0:Int)<=((j+(e+2):Nat):Int):=by omega
    have a3:((j+(e+2):Nat):Int)<(O:Int):=by omega
    have a4:((j+(e+2):Nat):Int) - 1=((j+e+1:Nat):Int):=by omega
    have a5:=Zl (n:=((j+e+1:Nat):Int));have a6:(0:Int)<=((j+e+1:Nat):Int):=by omega
    have a7:((j+e+1:Nat):Int)<(O:Int):=by omega
    have a8:=Zl (n:=un*1000000000);have a9:=Zl (n:=top);have b0:=jL j;have h4:((e+2:Nat):Int) - 1=((e+1:Nat):Int):=by omega
    have b2:=Zl (n:=((e+1:Nat):Int));have b3:(0:Int)<=((e+1:Nat):Int):=by omega
    have b4:((e+1:Nat):Int)<((e+2:Nat):Int):=by omega
    have b5:¬v1=0:=by omega
    have b6:top.tdiv v1=top / v1:=yQ t0;have b7:top.tmod v1=top%v1:=xM t0;have z7:0<=top / v1:=Int.ediv_nonneg t0 (by omega);have z8:top / v1<=1000000001:=by
     refine Int.le_of_lt_add_one (Int.ediv_lt_of_lt_mul (by omega) ?_);have:1000000002*v1=v1*1000000000+2*v1:=by omega
     show top<1000000002*v1;omega
    have b8:=Zl (n:=top / v1);have m0:=Int.emod_nonneg top (show v1≠0 by omega);have m1:=Int.emod_lt_of_pos top (show 0<v1 by omega);have b9:=Zl (n:=top%v1);have A0:top%v1=top-top / v1*v1:=by have:=Int.emod_def top v1;rw[Int.mul_comm]at this;exact this
    have hi0:X<(top / v1+1)*Vn:=by
     refine arP (v1:=v1) (top:=top) (P:=bp e*1000000000) (Vr:=v2*bp e+Vr) (Ur:=u2*bp e+Ur) z7 (by omega) ?_ ?_ ?_ ?_ ?_
     .rw[xV];grind
     .have:=vg h6.1 P0;omega
     .rw[xU];grind
     .have:u2*bp e<=999999999*bp e:=zS (by omega) P0
      omega
     .rw[Int.add_mul];omega
    have c0:((j+(e+2):Nat):Int) - 2=((j+e:Nat):Int):=by omega
    have j0:=Zl (n:=((j+e:Nat):Int));have c2:(0:Int)<=((j+e:Nat):Int):=by omega
    have c3:((j+e:Nat):Int)<(O:Int):=by omega
    have c4:((e+2:Nat):Int) - 2=(e:Int):=by omega
    have c5:=Zl (n:=(e:Int));have c6:=jL e;have c7:(e:Int)<((e+2:Nat):Int):=by omega
    refine cu ?_
    conv=>
     enter [1,r,1,1]
     simp only[go_sem,p8,p9,E,G,Y,J,sU,sV,d1,d2,q6,q7,e3,a0,a1,a2,a3,a4,a5,a6,a7,a8,a9,b0,h4,b2,b3,b4,b5,b6,b7,b8,b9,<- r5]
    generalize hL:gI _ _=z
    obtain⟨r,rfl,T1,g,rfl,p8,p9,E,G,Y,J,c8,g0,gB,gh,gl⟩:=je hL (fun k st=>st.T 8= .rs 0 0 1/\st.T 9= .rs bu 0 O/\st.T 10= .rs nb 0 (e+2)/\st.T 11=I ((e+2:Nat):Int)/\st.T 12= .rs S 0 (O - (e+2))/\st.T 13=I j/\st.σ=σ/\st.nx=S+1 /\
      ∃g rest,st.T 15=I g/\st.T 16=I rest/\g=(k:Int)/\g<=1000000001/\X<(g+1)*Vn/\rest=top-g*v1/\0<=rest/\rest<1000000000)
     (fun r=>∃T g,r=(.exit 4,⟨T,σ,S+1⟩)/\T 8= .rs 0 0 1/\T 9= .rs bu 0 O/\T 10= .rs nb 0 (e+2)/\T 11=I ((e+2:Nat):Int)/\T 12= .rs S 0 (O - (e+2))/\T 13=I j/\T 15=I g/\0<=g/\g<1000000000/\X<(g+1)*Vn/\(g-1)*Vn<=X) (by
      clear hL;rintro k ⟨T,σ',nx⟩ ⟨p8,p9,E,G,Y,J,h7,e1,g,rest,c8,h5,E1,A1,gh,hr,r0,rB⟩;simp only at p8 p9 E G Y J c8 h5 h7 e1;subst h7 e1;have gm:g*v2<=1000000001*999999999/\0<=g*v2:=by
       refine⟨Int.le_trans (zS A1 h6.1) (zG (by omega) (by decide)),vg (by omega) h6.1⟩
      have z1:=Zl (n:=g*v2);have z2:=Zl (n:=rest*1000000000);have z3:=Zl (n:=rest*1000000000+u2);have z4:=Zl (n:=g-1);have z5:=Zl (n:=rest+v1);have go:(1000000000<=g\/rest*1000000000+u2<g*v2)->X<g*Vn/\1<=g:=by
       rintro (h|h)
       .exact⟨ako (by omega) x2 h,by omega⟩
       .refine⟨anw (by omega) P0 xV p7 xU y8 hr h,?_⟩
        refine Int.not_lt.mp fun E2=>?_
        have:g=0:=by omega
        subst this;omega
      have fin:X<g*Vn->1<=g->rest+v1=top - (g-1)*v1/\X<(g-1+1)*Vn:=fun h _=>by
       refine⟨by rw[uM];omega,by rw[Int.sub_add_cancel];exact h⟩
      have cut:X<g*Vn->1<=g->1000000000<=rest+v1->g-1<1000000000/\(g-1-1)*Vn<=X:=fun h h1 A2=>by
       obtain⟨q1,q2⟩:=fin h h1;have q3:g-1<1000000000:=by
        refine Int.not_le.mp fun hn=>?_
        have:1000000000*v1<=(g-1)*v1:=zS hn (by omega);omega
       have q4:=anx (g:=g-1) (by omega) (xJ q3) (by decide) P0 (by omega) xV (xJ q5) xU p6 (by omega) q1 A2;refine⟨q3,?_⟩;rw[uM (g-1),Int.one_mul];omega
      by_cases hB:1000000000<=g
      .obtain⟨y1,y2⟩:=go (.inl hB)
       obtain⟨y3,y4⟩:=fin y1 y2
       by_cases hE:1000000000<=rest+v1
       .obtain⟨y5,y6⟩:=cut y1 y2 hE
        refine .inr ⟨_,by simp only[go_sem,p9,E,G,J,c8,h5,sU,sV,d1,d2,e9,e3,e7,a0,a1,a2,b0,h4,b2,b3,b4,c0,j0,c2,c3,c4,c5,c6,c7,z1,z2,z3,z4,z5,hB,hE];rfl,by simp,_,g-1,rfl,?_⟩;simp only[go_sem,p8,p9,E,G,Y,J];exact⟨by omega,y5,y4,y6⟩
       .refine .inl ⟨_,by simp only[go_sem,p9,E,G,J,c8,h5,sU,sV,d1,d2,e9,e3,e7,a0,a1,a2,b0,h4,b2,b3,b4,c0,j0,c2,c3,c4,c5,c6,c7,z1,z2,z3,z4,z5,hB,hE];rfl,k-1,by omega,?_⟩
        simp only[go_sem,p8,p9,E,G,Y,J];exact⟨_,_,rfl,rfl,by omega,by omega,y4,y3,by omega,by omega⟩
      .by_cases hC:rest*1000000000+u2<g*v2
       .obtain⟨y1,y2⟩:=go (.inr hC)
        obtain⟨y3,y4⟩:=fin y1 y2
        by_cases hE:1000000000<=rest+v1
        .obtain⟨y5,y6⟩:=cut y1 y2 hE
         refine .inr ⟨_,by simp only[go_sem,p9,E,G,J,c8,h5,sU,sV,d1,d2,e9,e3,e7,a0,a1,a2,b0,h4,b2,b3,b4,c0,j0,c2,c3,c4,c5,c6,c7,z1,z2,z3,z4,z5,hB,hC,hE];rfl,by simp,_,g-1,rfl,?_⟩;simp only[go_sem,p8,p9,E,G,Y,J];exact⟨by omega,y5,y4,y6⟩
        .refine .inl ⟨_,by simp only[go_sem,p9,E,G,J,c8,h5,sU,sV,d1,d2,e9,e3,e7,a0,a1,a2,b0,h4,b2,b3,b4,c0,j0,c2,c3,c4,c5,c6,c7,z1,z2,z3,z4,z5,hB,hC,hE];rfl,k-1,by omega,?_⟩
         simp only[go_sem,p8,p9,E,G,Y,J];exact⟨_,_,rfl,rfl,by omega,by omega,y4,y3,by omega,by omega⟩
       .refine .inr ⟨_,by simp only[go_sem,p9,E,G,J,c8,h5,sU,sV,d1,d2,e9,e3,e7,a0,a1,a2,b0,h4,b2,b3,b4,c0,j0,c2,c3,c4,c5,c6,c7,z1,z2,z3,z4,z5,hB,hC];rfl,by simp,_,g,rfl,?_⟩
        simp only[go_sem,p8,p9,E,G,Y,J,c8];refine⟨by omega,by omega,gh,?_⟩;exact arR (by omega) (by omega) (by decide) P0 (by omega) h6.1 xV p7 (xJ q5) xU p6 hr (by omega)) (top / v1).toNat (by
      simp only[go_sem,p8,p9,E,G,Y,J];exact⟨_,_,rfl,rfl,by omega,z8,hi0,A0,m0,by omega⟩)
    have m2:bu≠nb:=by omega
    have k8:¬S=bu:=by omega
    obtain⟨lo,tt,k2,m3,OT,k9,E3,E4⟩:=arT (nx:=S+1) (L:=O-j) (n:=e+2) (g:=g) (by omega) sU sV m2 k6 k5 e4 (by omega) dU dW ⟨g0,gB⟩;rw[<- r4,vW,<- x1]at k9;have X0:0<=X:=by rw[eX];exact Zv (dU.drop j)
    have r6:=aku sU lU (show j<O by omega);have r7:∀x,upd σ bu x S=some ⟨rep (j+1) [I 0]++Q.flatMap cI,1,true⟩:=fun x=>by rw[aG _ _ k8];exact sq
    have r8:∀x,upd σ bu x nb=some ⟨P2.flatMap cI,1,true⟩:=fun x=>by rw[aG _ _ (zD m2)];exact sV
    have r9:∀x y,upd (upd σ bu x) S y bu=x:=fun x y=>by rw[aG _ _ (zD k8),aF]
    have s1:∀x y,upd (upd σ bu x) S y nb=some ⟨P2.flatMap cI,1,true⟩:=fun x y=>by rw[aH];exact r8 x
    have s2:∀x y,upd (upd σ bu x) S y 0=some ⟨[I s],1,true⟩:=fun x y=>by rw[aH,aH];exact s0
    have l1:(j:Int)<((O - (e+2):Nat):Int):=by omega
    have l2:j<(rep (j+1) [I 0]++Q.flatMap cI).length:=by rw[zl,gW];simp;omega
    have l3:=Zl (n:=(j:Int) - 1);have w0:=Zl (n:=g-1);have A3:g-1<1000000000:=by omega
    have jl:j<O - (e+2):=by omega
    have s3:j<=O - (e+2):=by omega
    have s4:j<j+1:=by omega
    have A4:e+2<O-j:=by omega
    rcases after_take (U:=U) (j:=j) m3 OT k9 gh gl dV x8 g0 X0 with ⟨m4,z1,z2⟩|⟨m4,g1,z3⟩
    .subst m4
     have dc:decide ((0:Int)<0)=false:=by decide
     rw[dc]at k2;have l4:=KR j (I 0) (I g) (Q.flatMap cI);obtain⟨U',Q',m5,m6,w1,w2,w3,w4,w5,w6⟩:=WG dU dQ lU e4 lQ x6 eX e0 m3 OT g0 gB z1 z2;rw[m5]at k2;rw[m6]at l4;refine⟨_,by simp only[go_sem,r6,qM,p8,p9,E,G,Y,J,c8,k2,b0,l1,l2,l3,l4,r7];rfl,.inl ⟨_,rfl,j,s4,?_⟩⟩;simp only[go_sem,p8,p9,E,G,Y];exact⟨s3,U',Q',r9 _ _,s1 _ _,s2 _ _,rfl,w1,w2,w3,w4,w5,w6⟩
    .subst m4
     have dc:decide ((-1:Int)<0)=true:=by decide
     rw[dc]at k2;obtain⟨U1,A5,A6,⟨A7,A9⟩,B1,B2,ll⟩:=akw dU lU e4 m3 OT;rw[A5]at k2;obtain⟨s5,cc,k3,m7,s6,j9,_,_⟩:=arV (σ:=upd σ bu (some ⟨U1.flatMap cI,1,true⟩)) (nx:=S+1) (L:=O-j) (n:=e+2) (t:=-1) A4 (aF _ _ _) (r8 _) m2 k6 k5 A7 (by omega) B1 A9 (by decide) dW;rw[B2,vW]at j9;obtain⟨B3,z4,z5⟩:=z3 s5 cc m7 s6 j9;subst B3;have B4:(-1:Int)+1=0:=by decide
     rw[B4,ll s5 m7,aC]at k3;have B5:=akv (b:=bu) A6 (show j<O by omega);have l4:=KR j (I 0) (I (g-1)) (Q.flatMap cI);obtain⟨U',Q',m5,m6,w1,w2,w3,w4,w5,w6⟩:=WG dU dQ lU e4 lQ x6 eX e0 m7 s6 g1 A3 z4 z5;rw[m5]at k3;rw[m6]at l4;refine⟨_,by simp only[go_sem,r6,B5,qM,p8,p9,E,G,Y,J,c8,k2,k3,w0,b0,l1,l2,l3,l4,r7];rfl,.inl ⟨_,rfl,j,s4,?_⟩⟩;simp only[go_sem,p8,p9,E,G,Y];exact⟨s3,U',Q',r9 _ _,s1 _ _,s2 _ _,rfl,w1,w2,w3,w4,w5,w6⟩) (O - (e+2)) (by
    clear hL;simp only[go_sem,q8,q9,l9];rw[<- y7];have B6:¬bu=S:=by omega
    have B7:¬nb=S:=by omega
    refine⟨rfl,rfl,dg (m*s)++[0],[],?_,?_,?_,by rw[aF];simp,(oz _).snoc (by decide) (by decide),Dg.nil,by rw[zl];show ln (m*s)+1=O;omega,by simp,?_,?_⟩
    .rw[aG _ _ B6];exact o6
    .rw[aG _ _ B7];exact o4
    .exact o5
    .have E6:(dg (m*s)).length=ln (m*s):=rfl
     rw[tK (by omega),Zu,wB,uX];have:=Zw ((oz (m*s)).drop (O - (e+2)));rw[yj,show(dg (m*s)).length - (O - (e+2))=e+1 by omega]at this;have h3:=qm (e+1);omega
    .rw[Zu,Zx];simp[vl])
 obtain⟨R,eR⟩:∃R:Nat,(R:Int)=vl U:=⟨(vl U).toNat,Int.toNat_of_nonneg (Zv dU)⟩;obtain⟨Qn,eQ⟩:∃Qn:Nat,(Qn:Int)=vl Q:=⟨(vl Q).toNat,Int.toNat_of_nonneg (Zv dQ)⟩;rw[<- eR,<- eQ,eV]at e0;rw[<- eR,eV]at c9;have s7:n*s*Qn+R=m*s:=by
  have h:((R+n*s*Qn:Nat):Int)=((m*s:Nat):Int):=by
   rw[Int.natCast_add,zC (n*s) Qn];exact e0
  have:=Int.ofNat_inj.mp h;omega
 have m8:R<n*s:=Int.ofNat_lt.mp c9;have m9:0<s:=by omega
 have hq:Qn=m / n:=by
  rw[<- Nat.mul_div_mul_right m n m9,<- s7,Nat.mul_add_div (Nat.mul_pos (by omega) m9),vK m8];rfl
 have hr:R=m%n*s:=by
  rw[<- Nat.mul_mod_mul_right,<- s7,Nat.mul_add_mod_self_left,wO m8]
 have B8:R / s=m%n:=by rw[hr,Nat.mul_div_cancel _ m9]
 have lR:ln R<=1000002:=zL (iG dU eR.symm).2 (by omega);have E7:n*s<=m*s:=zK _ hle;have E9:ln R<=1000000:=by
  have h1:=jq (Nat.le_of_lt m8);rw[k4]at h1;omega
 obtain⟨B9,t3,s8⟩:=agN R s (by show ln R<=_;omega) (by omega) k0 (S+1);have C0:=lZ (off:=0) (len:=ln (R / s)) 5 s8;have s9:=abw (σ:=restrict e8 [bu]) (nx:=S+1) (b:=bu) (xs:=U) (by rw[gQ];exact sU) (by unfold Short;omega);rw[Cj (n:=R) dU eR.symm,lU,show(dg R).length=ln R from rfl]at s9;have pr:xI [bu] (S+1) (S+1) e8 (restrict e8 [bu])=e8:=by
  funext i;unfold xI restrict
  by_cases h:i=bu
  .subst h;simp
  .rw[su (by simp only[wF,h,false_or];omega)]
 obtain⟨C1,C2⟩:=iG dU eR.symm;have d1:bu<S+1:=by omega
 have d0:0<S+1:=by omega
 have st1:strip e8 (6+1) (.rs bu 0 (ln R))=some (LI (dg R),[bu]):=by
  rw[bD,sU];simp only[zi,yO,yu,yw,qW];rw[sZ C2,C1,CZ];rfl
 obtain⟨e6,n0⟩:∃e6,e6=MV (S+1) (S+1+1) e8 B9 [S+1]:=⟨_,rfl⟩;have u0:e6 S=some ⟨Q.flatMap cI,1,true⟩:=by rw[n0,arv (by omega)];exact sq
 have C3:e6 (S+1)=some ⟨(pad (R / s) (dg R).length).flatMap cI,1,true⟩:=by rw[n0,aru (by omega) (by omega) (by simp)];exact s8
 have u5:=abw (σ:=e6) (nx:=S+1+1) (b:=S) (xs:=Q) u0 (by unfold Short;omega);rw[Cj (n:=Qn) dQ eQ.symm,lQ,show(dg Qn).length=ln Qn from rfl]at u5;obtain⟨C4,C5⟩:=iG dQ eQ.symm;have C6:strip e6 (5+1) (.rs S 0 (ln Qn))=some (LI (dg Qn),[S]):=by
  rw[bD,u0];simp only[zi,yO,yu,yw,qW];rw[sZ C5,C4,CZ];rfl
 have C7:strip e6 (5+1) (.rs (S+1) 0 (ln (R / s)))=some (LI (dg (R / s)),[S+1]):=by
  obtain⟨C8,D3⟩:=iG (xs:=pad (R / s) (dg R).length) (n:=R / s) (SB _ _) (agQ _ _ (Nat.lt_of_le_of_lt (xP _ _) af8));rw[bD,C3];simp only[zi,yO,yu,yw,qW];rw[sZ D3,C8,CZ];rfl
 have z0:(0:Int)<=0:=by decide
 have z1:(0:Int)<1:=by decide
 have z3:(0:Int).toNat=0:=id rfl;have D4:(bu==0)=false:=by rw[sW];omega
 rw[<- hq,<- B8];simp only[go_sem,qM,p8,p9,E,Y,sU,s0,s9,pr,d1,d0,st1,t3,C0,<- n0,u5,C6,C7,z0,z1,z3,D4]
theorem agR(m:Nat)(h:ln m<=1000000):fn Ze conv ext 215 [LI (dg m)]=some (LI (dg m)):=ZN (dg m) (by show ln m<=_;omega)
theorem agS(m n:Nat)(hm:ln m<=1000000)(S:n≠0)(hn:ln n<=1000000):fn Ze D7 Iq 266 [LI (dg m),LI (dg n)]=some (.Au [LI (dg (m / n)),LI (dg (m%n))]):=by
 by_cases E:m<n
 .have G:=kW m n hm hn
  have k2:=agR m hm;have hc:AU m n= -1:=by unfold AU;rw[sZ E]
  have m1:(-1:Int)<0:=by decide
  rw[hc]at G;rw[vK E,wO E,oQ];rw[mW,nK [.tmp 4,.tmp 5] [15,16,17,25] func266]
  (simp only[go_sem,G,k2,m1])<;>rfl
 by_cases h2:2<=ln n
 .exact arX m n hm h2 (by omega)
 have hp:=ji S;have J:n<1000000000:=by
  have:=(jr (n:=n) (k:=1)).mp (by omega);have e:bp 1=1000000000:=by decide
  rw[e]at this;omega
 have G:=kW m n hm hn;have hc:¬AU m n<0:=by unfold AU;rw[su E];split<;>decide
 obtain⟨Y,t3,O⟩:=agN m n hm S J 0;have a1:=lZ (off:=0) (len:=ln (m / n)) 5 O;have hr:m%n<n:=vk _ (by omega);have k4:=am_ (m%n) (by omega);have w1:=Zk (n:=((m%n:Nat):Int)) (by omega) (by omega);have z1:(0:Int)<1:=by decide
 have z2:(0:Int)<=0:=by decide
 have z3:(0:Int).toNat=0:=id rfl;obtain⟨a6,a7⟩:=iG (xs:=pad (m / n) (dg m).length) (n:=m / n) (SB _ _) (agQ _ _ (Nat.lt_of_le_of_lt (xP _ _) af8));have st:strip (CV 0 lI Y [0]) (5+1) (.rs 0 0 (ln (m / n)))=some (LI (dg (m / n)),[0]):=by
  rw[bD,kG (by decide) (by simp),O];simp only[zi,yO,yu,yw,qW];rw[sZ a7,a6,CZ];rfl
 rw[oW S J]at G⊢;have a8:fn Ze conv ext 236 [LI (dg m),.ts [I n] 1]=some (I (AU m n)):=G
 rw[mW,nK [.tmp 4,.tmp 5] [15,16,17,25] func266];simp only[go_sem,a8,hc,z1,z2,z3,t3,a1,w1,k4,st]
abbrev anG:List Nat:=[3,4,5,6,9,11,12,13,14,15,17,18,21,24,28,30,36,38,52,56,58,59,60,63,76,79,101,102,103,106,109,111,118,128,130,157,158,159,160,162,165,169,171,178,184,185,186,192,217,218,219,220,221,224,243,244,245,261,264,265,269,284]
def pI:FuncId->Conv:=fun f=>if f∈([]:List Nat)then .own else if f∈([218,219,261,264,184,185,186,243,244,192,245]:List Nat)then .inl else .JJ
noncomputable def Ad:Ext:=fun f=>if f=266 then some (fun args σ nx=>ev Ze D7 Iq 266 args σ nx)else if f∈anG then none else some fun args σ nx=>ev Ze conv ext f args σ nx
theorem anH:Hw Ze Ad:=fun f g h args σ nx v σ' nx' E=>by
 unfold Ad at h
 split at h
 .rename_i G
  subst G;cases h;exact nH (by kernel_rfl) anz 266 args σ nx v σ' nx' E
 .split at h
  .cases h
  .cases h
   exact nH (by kernel_rfl) afR f args σ nx v σ' nx' E
theorem fnL{f:FuncId}(h:(f==266||List.contains anG f)=false)(ts:List V):fn Ze pI Ad f ts=fn Ze conv ext f ts:=by
 rw[Bool.or_eq_false_iff]at h;have E:¬f=266:=fun e=>by subst e;simp at h
 have G:¬f∈anG:=fun e=>by rw[List.contains_iff_mem.mpr e]at h;cases h.2
 rw[mW,mW,nJ (g:=fun args σ nx=>ev Ze conv ext f args σ nx) (by unfold Ad;rw[su E,su G])]
theorem mX(ts:List V):fn Ze pI Ad 266 ts=fn Ze D7 Iq 266 ts:=by
 rw[mW,mW,nJ (g:=fun args σ nx=>ev Ze D7 Iq 266 args σ nx) (by unfold Ad;rw[sZ rfl])]
abbrev jI(n:Nat):Prop:=∀ts:List V,fn Ze pI Ad n ts=fn Ze conv ext n ts
theorem anI:jI 7/\jI 8/\jI 19/\jI 20/\jI 22/\jI 23/\jI 25/\jI 26/\jI 27/\jI 29/\jI 31/\jI 32/\jI 33/\jI 34/\jI 45/\jI 46/\jI 47/\jI 48/\jI 49/\jI 50/\jI 55/\jI 57/\jI 64/\jI 65:=by and_intros<;>exact fnL rfl
theorem anJ:jI 66/\jI 67/\jI 68/\jI 69/\jI 70/\jI 71/\jI 72/\jI 73/\jI 74/\jI 75/\jI 77/\jI 78/\jI 80/\jI 81/\jI 82/\jI 83/\jI 91/\jI 92/\jI 93/\jI 94/\jI 95/\jI 96/\jI 97/\jI 98:=by and_intros<;>exact fnL rfl
theorem anK:jI 99/\jI 104/\jI 105/\jI 107/\jI 108/\jI 112/\jI 114/\jI 115/\jI 117/\jI 119/\jI 120/\jI 121/\jI 125/\jI 126/\jI 127/\jI 129/\jI 131/\jI 132/\jI 133/\jI 134/\jI 135/\jI 136/\jI 137/\jI 138:=by and_intros<;>exact fnL rfl
theorem anL:jI 139/\jI 140/\jI 141/\jI 144/\jI 149/\jI 150/\jI 151/\jI 152/\jI 153/\jI 154/\jI 155/\jI 161/\jI 163/\jI 164/\jI 166/\jI 167/\jI 168/\jI 170/\jI 172/\jI 173/\jI 174/\jI 176/\jI 177/\jI 179:=by and_intros<;>exact fnL rfl
theorem anM:jI 180/\jI 183/\jI 187/\jI 188/\jI 189/\jI 190/\jI 191/\jI 193/\jI 194/\jI 195/\jI 196/\jI 197/\jI 198/\jI 199/\jI 200/\jI 201/\jI 202/\jI 205/\jI 206/\jI 207/\jI 208/\jI 209/\jI 210/\jI 211:=by and_intros<;>exact fnL rfl
theorem anN:jI 214/\jI 215/\jI 216/\jI 222/\jI 223/\jI 225/\jI 226/\jI 227/\jI 228/\jI 229/\jI 230/\jI 231/\jI 232/\jI 233/\jI 234/\jI 235/\jI 236/\jI 239/\jI 240/\jI 241/\jI 242/\jI 246/\jI 247/\jI 248:=by and_intros<;>exact fnL rfl
theorem anO:jI 249/\jI 250/\jI 255/\jI 256/\jI 257/\jI 258/\jI 259/\jI 260/\jI 262/\jI 263/\jI 267/\jI 268/\jI 270/\jI 271/\jI 272/\jI 273/\jI 274/\jI 275/\jI 276/\jI 277/\jI 278/\jI 279/\jI 280/\jI 281:=by and_intros<;>exact fnL rfl
theorem anP:jI 282/\jI 283/\jI 285/\jI 286/\jI 287/\jI 288/\jI 289/\jI 290/\jI 291/\jI 292/\jI 293/\jI 294:=by and_intros<;>exact fnL rfl
abbrev aI(n:Nat):Prop:=pI n= .JJ
abbrev DN(n:Nat):Prop:=pI n= .inl
theorem anQ:aI 4/\aI 5/\aI 7/\aI 8/\aI 12/\aI 13/\aI 14/\aI 17/\aI 18/\aI 19/\aI 20/\aI 21/\aI 22/\aI 23/\aI 24/\aI 25/\aI 26/\aI 27/\aI 28/\aI 29/\aI 30/\aI 31/\aI 32/\aI 33:=by and_intros<;>exact rfl
theorem anR:aI 34/\aI 45/\aI 46/\aI 47/\aI 48/\aI 49/\aI 50/\aI 52/\aI 55/\aI 56/\aI 57/\aI 58/\aI 63/\aI 64/\aI 65/\aI 66/\aI 67/\aI 68/\aI 69/\aI 70/\aI 71/\aI 72/\aI 73/\aI 74:=by and_intros<;>exact rfl
theorem anS:aI 75/\aI 76/\aI 77/\aI 78/\aI 79/\aI 80/\aI 81/\aI 82/\aI 83/\aI 91/\aI 92/\aI 93/\aI 94/\aI 95/\aI 96/\aI 97/\aI 98/\aI 99/\aI 101/\aI 102/\aI 103/\aI 104/\aI 105/\aI 106:=by and_intros<;>exact rfl
theorem anT:aI 107/\aI 108/\aI 111/\aI 112/\aI 114/\aI 115/\aI 117/\aI 118/\aI 119/\aI 120/\aI 121/\aI 125/\aI 126/\aI 127/\aI 128/\aI 129/\aI 130/\aI 131/\aI 132/\aI 133/\aI 134/\aI 135/\aI 136/\aI 137:=by and_intros<;>exact rfl
theorem anU:aI 138/\aI 139/\aI 140/\aI 141/\aI 144/\aI 149/\aI 150/\aI 151/\aI 152/\aI 153/\aI 154/\aI 155/\aI 157/\aI 158/\aI 159/\aI 160/\aI 161/\aI 162/\aI 163/\aI 164/\aI 165/\aI 166/\aI 167/\aI 168:=by and_intros<;>exact rfl
theorem anV:aI 169/\aI 170/\aI 171/\aI 172/\aI 173/\aI 174/\aI 176/\aI 177/\aI 178/\aI 179/\aI 180/\aI 183/\DN 184/\DN 185/\DN 186/\aI 187/\aI 188/\aI 189/\aI 190/\aI 191/\DN 192/\aI 193/\aI 194/\aI 195:=by and_intros<;>exact rfl
theorem anW:aI 196/\aI 197/\aI 198/\aI 199/\aI 200/\aI 201/\aI 202/\aI 205/\aI 206/\aI 207/\aI 208/\aI 209/\aI 210/\aI 211/\aI 214/\aI 215/\aI 216/\aI 217/\DN 218/\DN 219/\aI 220/\aI 221/\aI 222/\aI 223:=by and_intros<;>exact rfl
theorem anX:aI 224/\aI 225/\aI 226/\aI 227/\aI 228/\aI 229/\aI 230/\aI 231/\aI 232/\aI 233/\aI 234/\aI 235/\aI 236/\aI 239/\aI 240/\aI 241/\aI 242/\DN 243/\DN 244/\DN 245/\aI 246/\aI 247/\aI 248/\aI 249:=by and_intros<;>exact rfl
theorem anY:aI 250/\aI 255/\aI 256/\aI 257/\aI 258/\aI 259/\aI 260/\DN 261/\aI 262/\aI 263/\DN 264/\aI 265/\aI 266/\aI 267/\aI 268/\aI 269/\aI 270/\aI 271/\aI 272/\aI 273/\aI 274/\aI 275/\aI 276/\aI 277:=by and_intros<;>exact rfl
theorem anZ:aI 278/\aI 279/\aI 280/\aI 281/\aI 282/\aI 283/\aI 284/\aI 285/\aI 286/\aI 287/\aI 288/\aI 289/\aI 290/\aI 291/\aI 292/\aI 293/\aI 294:=by and_intros<;>exact rfl
attribute [go_sem] mX anI anJ anK anL anM anN anO anP
attribute [go_sem] anQ anR anS anT anU anV anW anX anY anZ
theorem agT(m n:Nat):ln (m / n)<=ln m:=jq (xP _ _)
theorem aby(m n:Nat)(hm:ln m<=1000000)(E:n≠0)(hn:ln n<=1000000):fn Ze pI Ad 266 [LI (dg m),LI (dg n)]=some (.Au [LI (dg (m / n)),LI (dg (m%n))]):=by
 rw[mX,agS m n hm E hn]
theorem WH(m n:Nat)(hm:ln m<=1000000)(hn:ln n<=1000000):fn Ze pI Ad 265 [LI (dg m),LI (dg n)]=some (LI (dg (Nat.gcd m n))):=by
 have ho:=aby;rw[mW,nK [.tmp 4] [] func265];simp only[go_sem];generalize hL:gI _ _=y;obtain⟨r,rfl,T',rfl,E⟩:=je hL (fun b st=>st.nx=0/\st.σ=lI/\ln b<=1000000/\∃a:Nat,ln a<=1000000/\st.T 0=LI (dg a)/\st.T 1=LI (dg b)/\Nat.gcd a b=Nat.gcd m n)
  (fun r=>∃T,r=(.exit 0,⟨T,lI,0⟩)/\T 0=LI (dg (Nat.gcd m n))) (by
   clear hL;rintro b ⟨T,σ,nx⟩ ⟨G,J,hb,a,ha,E,S,Y⟩;simp only at G J E S;subst G J
   by_cases hz:b=0
   .subst hz
    rw[oQ]at S;have a1:T 1= .ts [] 0:=S;have f0:¬(0:Int)<0:=by decide
    rw[Nat.gcd_zero_right]at Y;exact .inr ⟨_,by simp only[go_sem,a1,f0];rfl,by simp,_,rfl,by simp only[go_sem,E,Y]⟩
   .have f0:(0:Int)<((dg b).length:Int):=by have:=List.length_pos_iff.mpr (oZ hz);omega
    have k1:=ho a b ha hz hb;rw[mX]at k1;have O:a%b<b:=vk _ (by omega);refine .inl ⟨_,by simp only[go_sem,E,S,f0,k1];rfl,a%b,O,?_⟩;simp only[go_sem];refine⟨zL (jq (Nat.le_of_lt O)) hb,b,hb,rfl,?_⟩;rw[<- Y,Nat.gcd_comm a b,Nat.gcd_rec b a,Nat.gcd_comm]) n ⟨rfl,rfl,hn,m,hm,by simp only[go_sem],by simp only[go_sem],rfl⟩
 simp only[go_sem,E]
theorem agU(x y:Int):Az (decide (x<0) !=decide (y<0)) (x.natAbs / y.natAbs)=x.tdiv y:=by
 obtain⟨a,J|J⟩:=Int.eq_nat_or_neg x<;>obtain⟨b,hb|hb⟩:=Int.eq_nat_or_neg y<;>subst J hb
 .have E:decide ((a:Int)<0)=false:=by simp
  have G:decide ((b:Int)<0)=false:=by simp
  rw[E,G,xA,xA];unfold Az;simp[Int.ofNat_tdiv]
 .by_cases h:b=0
  .subst h;simp[Az]
  .have E:decide ((a:Int)<0)=false:=by simp
   have G:decide (-(b:Int)<0)=true:=by simp;omega
   rw[E,G,xA,wH,xA,Int.tdiv_neg];unfold Az;simp[Int.ofNat_tdiv]
 .by_cases h:a=0
  .subst h;simp[Az]
  .have E:decide (-(a:Int)<0)=true:=by simp;omega
   have G:decide ((b:Int)<0)=false:=by simp
   rw[E,G,xA,wH,xA,Int.neg_tdiv];unfold Az;simp[Int.ofNat_tdiv]
 .by_cases h:a=0
  .subst h;simp[Az]
  .by_cases hb:b=0
   .subst hb;simp[Az]
   .have E:decide (-(a:Int)<0)=true:=by simp;omega
    have G:decide (-(b:Int)<0)=true:=by simp;omega
    rw[E,G,wH,wH,xA,xA,Int.neg_tdiv,Int.tdiv_neg,Int.neg_neg];unfold Az;simp[Int.ofNat_tdiv]
theorem Nv(x y:Int)(J:ln x.natAbs<=1000000)(O:ln y.natAbs<=1000000)(S:y≠0):fn Ze pI Ad 284 [.agg (cZ x),.agg (cZ y)]=some (.agg (cZ (x.tdiv y))):=by
 have E:=aby x.natAbs y.natAbs J (by omega) O;rw[mX]at E;have G:=kN (decide (x<0) !=decide (y<0)) (x.natAbs / y.natAbs);rw[agU]at G;have e:∀a b:Bool,(!a==b)=(a !=b):=by decide
 unfold cZ at *;rw[mW,nK [.cell 4 159] [] func284];simp only[go_sem,E,G,e]
theorem aky(n:Nat)(hn:ln n<=1000000):fn Ze conv ext 236 [LI (dg n),.ts [I 1] 1]=some (I (AU n 1)):=by
 have:=kW n 1 hn (by show ln 1<=_;rw[show ln 1=1 by unfold ln;rw[oW (d:=1) (by decide) (by decide)];rfl];decide);rw[oW (d:=1) (by decide) (by decide)]at this;exact this
theorem akz(neg:Bool)(m n:Nat)(hm:ln m<=1000000)(h0:n≠0)(hn:ln n<=1000000) :
  fn Ze pI Ad 220 [.agg [Bo (neg && decide (0<(dg m).length)),LI (dg m)],LI (dg n)]=some (.tp (adE neg m n) 0):=by
 have J:Nat.gcd m n≠0:=fun e=>h0 (uG e)
 have S:Nat.gcd m n<=n:=Nat.gcd_le_right _ (by omega);have E:ln (Nat.gcd m n)<=1000000:=zL (jq S) hn;have Y:=WH m n hm hn;have k2:=aky (Nat.gcd m n) E;have k3:=aby m (Nat.gcd m n) hm J E;have k4:=aby n (Nat.gcd m n) hn J E;rw[mX]at k3 k4;have k5:=fun b=>abb b (dg (m / Nat.gcd m n))
 have hc:=ajJ (n:=Nat.gcd m n);unfold adE;rw[mW,nK [.tmp 4] [] func220]
 by_cases O:m=0
 .subst O
  rw[Nat.gcd_zero_left,Nat.zero_div,Nat.div_self (by omega),oQ,oW (d:=1) (by decide) (by decide)]
  (simp only[go_sem])<;>rfl
 .have lz:(((dg m).length:Int)==0)=false:=by rw[sW];have:=rM (oZ O);omega
  have lp:0<(dg m).length:=List.length_pos_iff.mpr (oZ O);have a1:m / Nat.gcd m n≠0:=by
   have:=Nat.div_pos (Nat.gcd_le_left n (Nat.pos_of_ne_zero O)) (by omega);omega
  have lq:0<(dg (m / Nat.gcd m n)).length:=List.length_pos_iff.mpr (oZ a1)
  by_cases G:Nat.gcd m n=1
  .rw[sS G]at hc
   simp only[G,xC]at Y k2 hc⊢
   (simp only[go_sem,lz,lp,Y,k2,hc])<;>rfl
  .rw[sQ G]at hc
   (simp only[go_sem,lz,lp,lq,Y,k2,hc,k3,k4,k5])<;>rfl
theorem Nw(z:Int)(d:Nat)(G:ln z.natAbs<=1000000)(E:d≠0)(J:ln d<=1000000):fn Ze pI Ad 220 [.agg (cZ z),LI (dg d)]=some (.tp (cQ (mkRat z d)) 0):=by
 have k:=akz (decide (z<0)) z.natAbs d G E J;rw[<- Z7,dY,<- aga z E]at k;exact k
def Ln(k:Nat)(q:Rat):Prop:=ln q.num.natAbs<=k/\ln q.den<=k
theorem Ln.mono{k l:Nat}{q:Rat}(h:Ln k q)(E:k<=l):Ln l q:=⟨zL h.1 E,zL h.2 E⟩
theorem jk{x y:Rat}{k l:Nat}(h:Ln k x)(E:Ln l y):ln (x.num*y.den).natAbs<=k+l:=by
 rw[uh,xA];have:=jo x.num.natAbs y.den;have:=h.1;have:=E.2;omega
theorem Ny{x y:Rat}{k l:Nat}(h:Ln k x)(E:Ln l y):ln (x.den*y.den)<=k+l:=by
 have:=jo x.den y.den;have:=h.2;have:=E.2;omega
theorem Ir(x y:Int):ln (x+y).natAbs<=max (ln x.natAbs) (ln y.natAbs)+1 :=
 zL (jq (Int.natAbs_add_le x y)) (ane _ _)
theorem abz(x y:Int):ln (x-y).natAbs<=max (ln x.natAbs) (ln y.natAbs)+1:=by
 have:=Ir x (-y);rw[wH,<- Int.sub_eq_add_neg]at this;exact this
theorem agV(x y:Rat)(E:Ln 1000 x)(G:Ln 1000 y):fn Ze pI Ad 171 [.tp (cQ x) 0,.tp (cQ y) 0]=some (.tp (cQ (x+y)) 0):=by
 have n1:=jk E G;have n2:=jk G E;have n3:=Ir (x.num*y.den) (y.num*x.den);have O:=Ia x y.den (by have:=E.1;omega) (by have:=G.2;omega);have S:=Ia y x.den (by have:=G.1;omega) (by have:=E.2;omega);have Y:=af' (x.num*y.den) (y.num*x.den) (by omega) (by omega);have k4:=KT x.den y.den (by have:=E.2;omega) (by have:=G.2;omega);have J:=Nw (x.num*y.den+y.num*x.den) (x.den*y.den) (by omega) (dd0 x y) (by have:=Ny E G;omega);rw[<- Rat.add_def']at J;unfold cQ at *;unfold cZ at *;rw[mW,nK [.tmp 4] [] func171];simp only[go_sem,O,S,Y,k4,J]
theorem abA(x y:Rat):x*y=mkRat (Az (decide (x.num<0) !=decide (y.num<0)) (x.num.natAbs*y.num.natAbs)) (x.den*y.den):=by
 have e:Az (decide (x.num<0) !=decide (y.num<0)) (x.num.natAbs*y.num.natAbs)=x.num*y.num:=by
  have J:=dY x.num;have O:=dY y.num
  conv=>rhs;rw[<- J,<- O]
  unfold Az
  by_cases E:x.num<0<;>by_cases G:y.num<0
  .rw[sS E,sS G,su (by decide),sZ rfl,sZ rfl,Int.neg_mul_neg,zC]
  .rw[sS E,sQ G,sZ (by decide),sZ rfl,su (by decide),Int.neg_mul,zC]
  .rw[sQ E,sS G,sZ (by decide),su (by decide),sZ rfl,Int.mul_neg,zC]
  .rw[sQ E,sQ G,su (by decide),su (by decide),su (by decide),zC]
 rw[e,Rat.mul_def']
theorem abB(x y:Rat)(E:Ln 1000 x)(G:Ln 1000 y):fn Ze pI Ad 221 [.tp (cQ x) 0,.tp (cQ y) 0]=some (.tp (cQ (x*y)) 0):=by
 have Y:ln (x.num*y.num).natAbs<=2000:=by
  rw[uh];have:=jo x.num.natAbs y.num.natAbs;have:=E.1;have:=G.1;omega
 have O:=kX x.num y.num (by have:=E.1;omega) (by have:=G.1;omega);have S:=KT x.den y.den (by have:=E.2;omega) (by have:=G.2;omega);have J:=Nw (x.num*y.num) (x.den*y.den) (by omega) (dd0 x y) (by have:=Ny E G;omega);rw[<- Rat.mul_def']at J;unfold cQ at *;unfold cZ at *;rw[mW,nK [.tmp 4] [] func221];simp only[go_sem,O,S,J]
def Fq(q:Rat):Option Rat:=if ln q.num.natAbs<=24/\ln q.den<=24 then some q else none
theorem adX{q:Rat}(h:Ln 24 q):Fq q=some q:=sZ h
theorem ar4(q:Rat)(h:Ln 100000 q):fn Ze conv ext 170 [.tp (cQ q) 0]=some (pQ (Fq q)):=by
 have hb:((dg q.num.natAbs).length:Int)<=100000:=Int.ofNat_le.mpr h.1;have O:((dg q.den).length:Int)<=100000:=Int.ofNat_le.mpr h.2;unfold Fq;rw[mW,nK [.tmp 2] [] func170]
 by_cases E:ln q.num.natAbs<=24
 .have c1:¬(24:Int)<((dg q.num.natAbs).length:Int):=by unfold ln at E;omega
  by_cases G:ln q.den<=24
  .have J:¬(24:Int)<((dg q.den).length:Int):=by unfold ln at G;omega
   rw[sZ ⟨E,G⟩];unfold cQ pQ
   (simp only[go_sem,c1,J])<;>rfl
  .have J:(24:Int)<((dg q.den).length:Int):=by unfold ln at G;omega
   rw[su fun h=>G h.2];unfold cQ pQ
   (simp only[go_sem,c1,J])<;>rfl
 .have c1:(24:Int)<((dg q.num.natAbs).length:Int):=by unfold ln at E;omega
  rw[su fun h=>E h.1];unfold cQ pQ
  (simp only[go_sem,c1])<;>rfl
open Go.Lp
abbrev GZ(b:Bool):List V:=[Bo b]
def aao(x:List Int):List V:=[LL cZ x]
def BP(B:List Nat):List Int:=B.map fun(n:Nat)=>(n:Int)
def WI(D:TZ)(N:Nat):List V:=[LL aao D.R,Bo (decide (D.AV<0)),LI (dg D.AV.natAbs),LI (BP D.B),I N,LL GZ D.fr]
def agW(D:TZ)(N:Nat):V:=.tp (WI D N) 0
structure WJ (D:TZ) (N:Nat):Prop where
 row:∀x∈D.R,x.length=N+1
 A8:D.B.length=D.R.length
 F6:D.R.length<=1000
 WL:D.fr.length=N
 sz:N<=1000
 big:∀i j,i<D.R.length->j<=N->ln (en D.R i j).natAbs<=50
 AV:ln D.AV.natAbs<=50
 inB:∀i,i<D.R.length->D.B.getD i 0<N
theorem aV(B:List Nat):(BP B).length=B.length:=by simp[BP]
theorem aW{B:List Nat}{i:Nat}(h:i<B.length):(BP B)[i]'(by rw[aV];exact h)=((B.getD i 0:Nat):Int):=by
 simp only[BP,xK];rw[zx,zy h];rfl
theorem Nz(o:Nat->Int)(k:Nat)(x:List Int)(b:Nat):∀(R:List (List Int)) (B:List Nat),R.length=B.length->DZ o k (R++[x]) (B++[b])=DZ o k R B-x.getD k 0*o b
 |[],[],_=>by show(0:Int) - _=0 - _;rfl
 |[],_ :: _,h=>by simp at h
 |_ :: _,[],h=>by simp at h
 |y :: R,c :: B,h=>by
  show DZ o k (R++[x]) (B++[b]) - _=DZ o k R B - _ - _;rw[Nz o k x b R B (by simpa using h)];omega
theorem aap(o:Nat->Int)(k:Nat){R:List (List Int)}{B:List Nat}{i:Nat}(h:i<R.length)(E:B.length=R.length) :
  DZ o k (R.take (i+1)) (B.take (i+1))=DZ o k (R.take i) (B.take i) - en R i k*o (B.getD i 0):=by
 rw[yN,yN,zy h,zy (by omega)];simp only[Option.toList];rw[Nz _ _ _ _ _ _ (by rw[zh,zh,E])];congr 1;have G:R[i].getD k 0=en R i k:=by unfold en;rw[fG h]
 have J:B[i]'(by omega)=B.getD i 0:=by rw[zx,zy (by omega)];rfl
 rw[G,J]
theorem jm(x y:Int):ln (x*y).natAbs<=ln x.natAbs+ln y.natAbs:=by rw[uh];exact jo _ _
theorem NC(z:Int):(Ah z 0==0)=decide (z=0):=by
 unfold Ah
 by_cases h:z<0
 .rw[sZ h,sQ (by omega)];rfl
 .rw[su h]
  by_cases E:z=0
  .rw[sZ E,sS E];rfl
  .rw[su E,sQ E];rfl
theorem SC(z:Int):(Ah z 0 !=0)= !decide (z=0):=by rw[<- NC];rfl
theorem pX(z:Int):Ah z 0<=0↔¬0<z:=by
 unfold Ah
 by_cases h:z<0
 .rw[sZ h];constructor
  .intro _;omega
  .intro _;decide
 .rw[su h]
  by_cases E:z=0
  .rw[sZ E];constructor
   .intro _;omega
   .intro _;decide
  .rw[su E];constructor
   .intro h;exact absurd h (by decide)
   .intro _;omega
theorem cmp_neg(z:Int):Ah z 0<0↔z<0:=by
 unfold Ah
 by_cases h:z<0
 .rw[sZ h];constructor
  .intro _;exact h
  .intro _;decide
 .rw[su h]
  by_cases E:z=0
  .rw[sZ E];constructor
   .intro h;exact absurd h (by decide)
   .intro _;omega
  .rw[su E];constructor
   .intro h;exact absurd h (by decide)
   .intro _;omega
theorem qO(z:Int):(cZ z).length=2:=rfl
theorem SE(z:Int):(cZ z).take 2=cZ z:=rfl
theorem WM(z:Int):(cZ z).all qI=true:=rfl
theorem WO(a b:Int):patch (cZ a) 0 (cZ b)=cZ b:=rfl
theorem WQ(σ:Store)(d:Nat)(z:Int):stripL (strip σ d) (cZ z)=some (cZ z,[]):=by
 unfold cZ;rw[bU,bC,bU,au,bP];rfl
theorem qP(σ:Store)(d:Nat)(q:Rat):stripL (strip σ d) (cQ q)=some (cQ q,[]):=by
 unfold cQ;rw[bU,bC,bU,au,bU,au,bP];rfl
attribute [go_sem] WQ qP
theorem ND{R:List (List Int)}{i:Nat}(h:i<R.length):(R.flatMap aao)[i]?=some (LL cZ (DK R i)):=by
 have:=dR (fun x=>LL cZ x) R i h;rw[fG h];exact this
theorem qJ{R:List (List Int)}{i j n:Nat}(hn:∀x∈R,x.length=n)(h:i<R.length)(E:j<n):(((DK R i).flatMap cZ).drop (j*2)).take 2=cZ (en R i j):=by
 have G:(DK R i).length=n:=by rw[fG h];exact hn _ (zu h)
 rw[dS qO (DK R i) j (by omega)];unfold en;rw[zx,zy (by omega)];rfl
theorem al5(D:TZ)(N:Nat)(h:WJ D N)(o:List Int)(ho:o.length=N)(b2:∀x∈o,-1000000<=x/\x<=1000000)(k:Nat)(hk:k<N) :
  fn Ze conv ext 262 [agW D N,LI o,I k]=some (I (Ah (Bj D (fun j=>o.getD j 0) k) 0)):=by
 have hN:=h.sz;have a8:∀j (hj:j<o.length),o[j]=o.getD j 0:=fun j hj=>by rw[zx,zy hj];rfl
 have ob:∀j,j<N->-1000000<=o.getD j 0/\o.getD j 0<=1000000:=fun j hj=>by rw[<- a8 j (by omega)];exact b2 _ (zu (by omega))
 have a6:∀j,j<N->ln (o.getD j 0).natAbs<=1:=fun j hj=>jh (by have:=ob j hj;omega)
 have a1:=jL k;have a2:(k:Int)<(o.length:Int):=by omega
 have a3:=Aw o k (by omega);have a4:=idx (xs:=o) (k:=k) (by omega);rw[a8 k (by omega)]at a4;have b5:=ob k hk;have k1:=kU (o.getD k 0) (by omega) (by omega);have k2:=kX D.AV (o.getD k 0) (by have:=h.AV;omega) (by have:=a6 k hk;omega);have tl:(BP D.B).length=D.R.length:=by rw[aV];exact h.A8
 unfold agW WI;rw[mW,nK [.tmp 6] [1,6] func262];unfold cZ at k1 k2;simp only[go_sem,a1,a2,a3,a4,k1,k2];generalize hL:gI _ _=y
 obtain⟨r,rfl,T',σ',nx',b,rfl,Y,E⟩:=pJ hL D.R.length (fun i st=>st.T 0= .tp (WI D N) 0/\st.T 1=LI o/\st.T 2=I k/\st.T 23=LI (BP D.B)/\st.T 24=I D.R.length/\st.T 25=I i/\st.T 7= .rp 0 0/\0<st.nx /\
   ∃g,st.σ 0=some ⟨cZ g,0,true⟩/\g=D.AV*o.getD k 0+DZ (fun j=>o.getD j 0) k (D.R.take i) (D.B.take i)/\ln g.natAbs<=60+i)
  (fun r=>∃T σ nx b,r=(.exit 0,⟨T,σ,nx⟩)/\T 7= .rp b 0/\σ b=some ⟨cZ (Bj D (fun j=>o.getD j 0) k),0,true⟩) (by
   clear hL;rintro i ⟨T,σ,nx⟩ hi ⟨h0,h1,h2,J,G,O,Y,S,g,E,hg,b3⟩;simp only at h0 h1 h2 J G O Y S E;have hb:=h.inB i hi;have f1:(i:Int)<(D.R.length:Int):=by omega
   have f2:=jL i;have f3:=Zl (n:=(i:Int)+1) (by have:=h.F6;omega) (by have:=h.F6;omega);have f5:=Aw (BP D.B) i (by omega);have f6:=idx (xs:=BP D.B) (k:=i) (by omega);rw[aW (by have:=h.A8;omega)]at f6;obtain⟨b,eb⟩:∃b,b=D.B.getD i 0:=⟨_,rfl⟩;rw[<- eb]at f6 hb;have f7:=jL b;have f8:(b:Int)<(o.length:Int):=by omega
   have f9:=idx (xs:=o) (k:=b) (by omega);rw[a8 b (by omega)]at f9;have b6:=ob b hb;have r1:=ND hi;have r2:=dO (c:=aao) (s:=1) (fun _=>rfl) (by omega) D.R i hi;have r3:(DK D.R i).length=N+1:=by rw[fG hi];exact h.row _ (zu hi)
   have r4:(k:Int)<((N+1:Nat):Int):=by omega
   have r5:=qJ h.row hi (show k<N+1 by omega);have r6:=dO (c:=cZ) (s:=2) qO (by omega) (DK D.R i) k (by omega);have r7:=dN (c:=cZ) (s:=2) qO (DK D.R i);rw[r3]at r7;have r8:k*2+2<=(N+1)*2:=by omega
   have s1:=kP (en D.R i k);have a7:=aap (fun j=>o.getD j 0) k hi h.A8;rw[<- eb]at a7
   by_cases z1:o.getD b 0=0
   .have c1:(o.getD b 0 !=(0:Int))=false:=by rw[z1];rfl
    refine .inl ⟨_,by simp only[go_sem,h0,h1,h2,J,G,O,Y,E,f1,f2,f3,f5,f6,f7,f8,f9,a3,c1,tl];rfl,?_⟩;simp only[go_sem,h0,h1,h2,J,G,Y,tl];refine⟨rfl,S,g,E,?_,by omega⟩;rw[hg,a7,z1];simp
   .have c1:(o.getD b 0 !=(0:Int))=true:=bne_iff_ne.mpr z1
    have c2:=SC (en D.R i k);have b4:=h.big i k hi (by omega);unfold WI at h0
    by_cases z2:en D.R i k=0
    .rw[sS z2,vN]at c2
     refine .inl ⟨_,by simp only[go_sem,h0,h1,h2,J,G,O,Y,E,f1,f2,f3,f5,f6,f7,f8,f9,a1,a3,c1,c2,tl,r1,r2,r3,r4,r5,r6,r7,r8,s1];rfl,?_⟩;simp only[go_sem,h0,h1,h2,J,G,Y,tl];refine⟨rfl,rfl,S,g,E,?_,by omega⟩;rw[hg,a7,z2];simp
    .rw[sQ z2,wY]at c2
     have k3:=kU (o.getD b 0) (by omega) (by omega);have k4:=kX (en D.R i k) (o.getD b 0) (by omega) (by have:=a6 b hb;omega);have hm:=jm (en D.R i k) (o.getD b 0);have hs:=abz g (en D.R i k*o.getD b 0);have b7:=h.F6;have b8:=a6 b hb;have k5:=abg g (en D.R i k*o.getD b 0) (by omega) (by omega);have e1:=WM (g-en D.R i k*o.getD b 0);refine .inl ⟨_,by simp only[go_sem,h0,h1,h2,J,G,O,Y,E,f1,f2,f3,f5,f6,f7,f8,f9,a1,a3,c1,c2,tl,r1,r2,r3,r4,r5,r6,r7,r8,s1,k3,k4,k5,S,qO,e1,SE,WO];rfl,?_⟩;simp only[go_sem,h0,h1,h2,J,G,Y,tl];refine⟨rfl,rfl,S,_,rfl,?_,by omega⟩;rw[hg,a7];omega) (by
   clear hL;rintro ⟨T,σ,nx⟩ ⟨h0,h1,h2,J,G,O,Y,S,g,E,hg,b3⟩;simp only at h0 h1 h2 J G O Y S E;rw[zo (zq _),zo (Nat.le_of_eq h.A8)]at hg;refine⟨_,by simp only[go_sem,G,O,zk];rfl,by simp,_,_,_,0,rfl,?_,?_⟩
   .simp only[go_sem,Y]
   .rw[E,hg];rfl) (by
   simp only[go_sem,tl];refine⟨rfl,_,rfl,by simp[DZ],?_⟩;have:=jm D.AV (o.getD k 0);have:=a6 k hk;have:=h.AV;omega)
 have k9:=kP (Bj D (fun j=>o.getD j 0) k);simp only[go_sem,Y,E,qO,SE,zq,k9]
theorem WR{S E O G Y J:Int}(hr:0<G)(hi:0<E)(hj:0<J)(h1:S*G<O*E)(h2:O*J<=Y*G):S*J<Y*E:=by
 have e1:S*G*J<O*E*J:=tH h1 hj;have e2:O*J*E<=Y*G*E:=zS h2 (xJ hi);refine Int.lt_of_mul_lt_mul_right (a:=G) ?_ (xJ hr);have e3:S*J*G=S*G*J:=by grind
 have e4:Y*E*G=Y*G*E:=by grind
 have e5:O*E*J=O*J*E:=by grind
 omega
theorem WS{Y E O J S G:Int}(hr:0<J)(hi:0<E)(hj:0<G)(h1:Y*J=O*E)(h2:O*G<=S*J):Y*G<=S*E/\(Y*G=S*E->O*G=S*J):=by
 have e3:Y*G*J=Y*J*G:=by grind
 have e4:S*E*J=S*J*E:=by grind
 have e5:O*E*G=O*G*E:=by grind
 have e6:Y*J*G=O*E*G:=by rw[h1]
 refine⟨?_,fun h=>?_⟩
 .refine Int.le_of_mul_le_mul_right (a:=J) ?_ hr
  have e2:O*G*E<=S*J*E:=zS h2 (xJ hi);omega
 .have:O*G*E=S*J*E:=by rw[<- e4,<- h,e3,e6,e5]
  exact Int.eq_of_mul_eq_mul_right (by omega) this
def Dx(D:TZ)(N k i:Nat)(r:Int):Prop :=
 (r= -1/\∀j,j<i->¬0<en D.R j k)\/∃r':Nat,r=r'/\r'<i/\0<en D.R r' k/\(∀j,j<i->0<en D.R j k->en D.R r' N*en D.R j k<=en D.R j N*en D.R r' k) /\
  ∀j,j<i->0<en D.R j k->en D.R r' N*en D.R j k=en D.R j N*en D.R r' k->D.B.getD r' 0<=D.B.getD j 0
theorem Dx.skip{D:TZ}{N k i:Nat}{r:Int}(h:Dx D N k i r)(hn:¬0<en D.R i k):Dx D N k (i+1) r:=by
 rcases h with ⟨rfl,h⟩|⟨r',rfl,Y,J,O,S⟩
 .exact .inl ⟨rfl,fun j G=>by
   by_cases e:j=i
   .subst e;exact hn
   .exact h j (by omega)⟩
 .exact .inr ⟨r',rfl,by omega,J,fun j G E=>O j (by
   by_cases e:j=i
   .subst e;exact absurd E hn
   .omega) E,fun j G E=>S j (by
   by_cases e:j=i
   .subst e;exact absurd E hn
   .omega) E⟩
theorem Dx.first{D:TZ}{N k i:Nat}(h:Dx D N k i (-1))(G:0<en D.R i k):Dx D N k (i+1) i:=by
 rcases h with ⟨_,h⟩|⟨r',e,_⟩
 .exact .inr ⟨i,rfl,by omega,G,fun j J E=>by
   by_cases e:j=i
   .subst e;exact xW _
   .exact absurd E (h j (by omega)),fun j J E _=>by
   by_cases e:j=i
   .subst e;exact zq _
   .exact absurd E (h j (by omega))⟩
 .omega
theorem Dx.less{D:TZ}{N k i r:Nat}(h:Dx D N k i r)(G:0<en D.R i k)(hc:en D.R i N*en D.R r k<en D.R r N*en D.R i k):Dx D N k (i+1) i:=by
 rcases h with ⟨e,_⟩|⟨r',e,Y,J,O,h4⟩
 .omega
 .have:r=r':=by omega
  subst this;refine .inr ⟨i,rfl,by omega,G,fun j S E=>?_,fun j S E he=>?_⟩
  .by_cases e:j=i
   .subst e;exact xW _
   .exact xJ (WR J G E hc (O j (by omega) E))
  .by_cases e:j=i
   .subst e;exact zq _
   .have:=WR J G E hc (O j (by omega) E)
    omega
theorem Dx.same{D:TZ}{N k i r:Nat}(h:Dx D N k i r)(G:0<en D.R i k)(hc:en D.R i N*en D.R r k=en D.R r N*en D.R i k)(hB:D.B.getD i 0<D.B.getD r 0):Dx D N k (i+1) i:=by
 rcases h with ⟨e,_⟩|⟨r',e,h1,J,O,S⟩
 .omega
 .have:r=r':=by omega
  subst this;refine .inr ⟨i,rfl,by omega,G,fun j Y E=>?_,fun j Y E he=>?_⟩
  .by_cases e:j=i
   .subst e;exact xW _
   .exact(WS J G E hc (O j (by omega) E)).1
  .by_cases e:j=i
   .subst e;exact zq _
   .have:=S j (by omega) E ((WS J G E hc (O j (by omega) E)).2 he)
    omega
theorem Dx.keep{D:TZ}{N k i r:Nat}(h:Dx D N k i r)(hc:en D.R r N*en D.R i k<=en D.R i N*en D.R r k)(J:en D.R r N*en D.R i k=en D.R i N*en D.R r k->D.B.getD r 0<=D.B.getD i 0):Dx D N k (i+1) r:=by
 rcases h with ⟨e,_⟩|⟨r',e,h1,O,S,Y⟩
 .omega
 .have:r=r':=by omega
  subst this;refine .inr ⟨r,rfl,by omega,O,fun j hj E=>?_,fun j hj E G=>?_⟩
  .by_cases e:j=i
   .subst e;exact hc
   .exact S j (by omega) E
  .by_cases e:j=i
   .subst e;exact J G
   .exact Y j (by omega) E G
theorem pY(x y:Int):(x<y/\Ah x y= -1)\/(x=y/\Ah x y=0)\/(y<x/\Ah x y=1):=by
 unfold Ah
 by_cases h:x<y
 .exact .inl ⟨h,sZ h⟩
 .rw[su h]
  by_cases E:x=y
  .exact .inr (.inl ⟨E,sZ E⟩)
  .exact .inr (.inr ⟨by omega,su E⟩)
theorem agX(D:TZ)(N:Nat)(h:WJ D N)(k:Nat)(hk:k<N) :
  ∃r,fn Ze conv ext 263 [agW D N,I k]=some (I r)/\Dx D N k D.R.length r:=by
 have hN:=h.sz;have hR:=h.F6;have a1:=jL k;have tl:(BP D.B).length=D.R.length:=by rw[aV];exact h.A8
 have a7:∀i,i<D.R.length->(DK D.R i).length=N+1:=fun i hi=>by rw[fG hi];exact h.row _ (zu hi)
 have r4:(k:Int)<((N+1:Nat):Int):=by omega
 have r8:k*2+2<=(N+1)*2:=by omega
 have n4:(N:Int)<((N+1:Nat):Int):=by omega
 have n8:N*2+2<=(N+1)*2:=by omega
 have n0:=jL N;have m1:(-1:Int)<0:=by decide
 have m2:¬(1:Int)<0:=by decide
 have m3:¬(0:Int)<0:=by decide
 have m4:((0:Int)==0)=true:=by decide
 have m5:((1:Int)==0)=false:=by decide
 unfold agW WI;rw[mW,nK [.tmp 4] [8,9] func263];simp only[go_sem];generalize hL:gI _ _=y;obtain⟨x,rfl,T',σ',nx',r,rfl,O,hb⟩:=pJ hL D.R.length (fun i st=>st.T 0= .tp (WI D N) 0/\st.T 1=I k/\st.T 12=LL aao D.R/\st.T 13=I D.R.length/\st.T 14=I i/\∃r,st.T 5=I r/\Dx D N k i r)
  (fun x=>∃T σ nx r,x=(.exit 0,⟨T,σ,nx⟩)/\T 5=I r/\Dx D N k D.R.length r) (by
   clear hL;rintro i ⟨T,σ,nx⟩ hi ⟨J,S,G,E,Fh,r,O,hb⟩;simp only at J S G E Fh O;have f1:(i:Int)<(D.R.length:Int):=by omega
   have f2:=jL i;have f3:=Zl (n:=(i:Int)+1);have r1:=ND hi;have r2:=dO (c:=aao) (s:=1) (fun _=>rfl) (by omega) D.R i hi;have r3:=a7 i hi;have r5:=qJ h.row hi (show k<N+1 by omega);have r6:=dO (c:=cZ) (s:=2) qO (by omega) (DK D.R i) k (by omega);have r7:=dN (c:=cZ) (s:=2) qO (DK D.R i);rw[r3]at r7;have s1:=kP (en D.R i k)
   by_cases hp:0<en D.R i k
   .have c1:¬Ah (en D.R i k) 0<=0:=fun e=>(pX _).mp e hp
    rcases hb with ⟨rfl,hb⟩|⟨r',rfl,b5,b6,b7,b8⟩
    .refine .inl ⟨_,by simp only[go_sem,J,S,G,E,Fh,O,f1,f2,f3,r1,r2,r3,r4,r5,r6,r7,r8,s1,a1,c1,m1];rfl,?_⟩
     simp only[go_sem,J,S,G,E];exact⟨rfl,i,rfl,Dx.first (.inl ⟨rfl,hb⟩) hp⟩
    .have a6:Dx D N k i r':=.inr ⟨r',rfl,b5,b6,b7,b8⟩
     have Y:r'<D.R.length:=by omega
     have q0:¬(r':Int)<0:=by omega
     have q1:(r':Int)<(D.R.length:Int):=by omega
     have q2:(0:Int)<=(r':Int):=by omega
     have q3:=ND Y;have q4:=a7 r' Y;have q5:=qJ h.row Y (show k<N+1 by omega);have q6:=dO (c:=cZ) (s:=2) qO (by omega) (DK D.R r') k (by omega);have q7:=dN (c:=cZ) (s:=2) qO (DK D.R r');rw[q4]at q7;have q8:=qJ h.row hi (show N<N+1 by omega);have q9:=qJ h.row Y (show N<N+1 by omega);have b1:=h.big i N hi (zq _);have b2:=h.big r' k Y (by omega);have b3:=h.big r' N Y (zq _);have b4:=h.big i k hi (by omega);have k1:=kX (en D.R i N) (en D.R r' k) (by omega) (by omega);have k2:=kX (en D.R r' N) (en D.R i k) (by omega) (by omega);have l1:=jm (en D.R i N) (en D.R r' k);have l2:=jm (en D.R r' N) (en D.R i k);have k3:=PE (en D.R i N*en D.R r' k) (en D.R r' N*en D.R i k) (by omega) (by omega);have t1:=Aw (BP D.B) i (by omega);have t2:=idx (xs:=BP D.B) (k:=i) (by omega);rw[aW (by have:=h.A8;omega)]at t2;have t3:=idx (xs:=BP D.B) (k:=r') (by omega);rw[aW (by have:=h.A8;omega)]at t3;unfold WI at J;rcases pY (en D.R i N*en D.R r' k) (en D.R r' N*en D.R i k)with ⟨hc,e⟩|⟨hc,e⟩|⟨hc,e⟩
     .rw[e]at k3
      refine .inl ⟨_,by simp only[go_sem,J,S,G,E,Fh,O,f1,f2,f3,r1,r2,r3,r4,r5,r6,r7,r8,s1,a1,c1,q0,q1,q2,q3,q4,q5,q6,q7,q8,q9,n0,n4,n8,k1,k2,k3,m1];rfl,?_⟩;simp only[go_sem,J,S,G,E];exact⟨rfl,rfl,i,rfl,a6.less hp hc⟩
     .rw[e]at k3
      by_cases hB:D.B.getD i 0<D.B.getD r' 0
      .have a8:((D.B.getD i 0:Nat):Int)<((D.B.getD r' 0:Nat):Int):=by omega
       refine .inl ⟨_,by simp only[go_sem,J,S,G,E,Fh,O,f1,f2,f3,r1,r2,r3,r4,r5,r6,r7,r8,s1,a1,c1,q0,q1,q2,q3,q4,q5,q6,q7,q8,q9,n0,n4,n8,k1,k2,k3,m3,m4,t1,t2,t3,tl,a8];rfl,?_⟩;simp only[go_sem,J,S,G,E];exact⟨rfl,rfl,i,rfl,a6.same hp hc hB⟩
      .have a8:¬((D.B.getD i 0:Nat):Int)<((D.B.getD r' 0:Nat):Int):=by omega
       refine .inl ⟨_,by simp only[go_sem,J,S,G,E,Fh,O,f1,f2,f3,r1,r2,r3,r4,r5,r6,r7,r8,s1,a1,c1,q0,q1,q2,q3,q4,q5,q6,q7,q8,q9,n0,n4,n8,k1,k2,k3,m3,m4,t1,t2,t3,tl,a8];rfl,?_⟩;simp only[go_sem,J,S,G,E,O];exact⟨rfl,rfl,r',rfl,a6.keep (by omega) fun _=>by omega⟩
     .rw[e]at k3
      refine .inl ⟨_,by simp only[go_sem,J,S,G,E,Fh,O,f1,f2,f3,r1,r2,r3,r4,r5,r6,r7,r8,s1,a1,c1,q0,q1,q2,q3,q4,q5,q6,q7,q8,q9,n0,n4,n8,k1,k2,k3,m2,m5];rfl,?_⟩;simp only[go_sem,J,S,G,E,O];exact⟨rfl,rfl,r',rfl,a6.keep (by omega) fun e=>by omega⟩
   .have c1:Ah (en D.R i k) 0<=0:=(pX _).mpr hp
    refine .inl ⟨_,by simp only[go_sem,J,S,G,E,Fh,O,f1,f2,f3,r1,r2,r3,r4,r5,r6,r7,r8,s1,a1,c1];rfl,?_⟩;simp only[go_sem,J,S,G,E,O];exact⟨rfl,r,rfl,hb.skip hp⟩) (by
   clear hL;rintro ⟨T,σ,nx⟩ ⟨J,S,G,E,Fh,r,O,hb⟩;simp only at J S G E Fh O;refine⟨_,by simp only[go_sem,E,Fh,zk];rfl,by simp,_,_,_,r,rfl,?_,hb⟩;simp only[go_sem,O]) (by
   simp only[go_sem];exact⟨rfl,-1,rfl,.inl ⟨rfl,fun j hj=>by omega⟩⟩)
 exact⟨r,by simp only[go_sem,O],hb⟩
def zc(p:Int×Bool):List V:=[Bo (decide (p.1<0)),if p.2=true then .nil else LI (dg p.1.natAbs)]
theorem Zh(p:Int×Bool):(zc p).length=2:=rfl
theorem abC(z:Int):zc (z,false)=cZ z:=rfl
theorem Zg(σ:Store)(d:Nat){p:Int×Bool}(h:p.2=true->p.1=0):stripL (strip σ d) (zc p)=some (cZ p.1,[]):=by
 obtain⟨z,b⟩:=p;cases b with
 |false=>exact WQ σ d z
 |true=>
  have:z=0:=h rfl;subst this;unfold zc;rw[bU,bC,sZ rfl,bU,bF,bP];show some ([Bo (decide ((0:Int)<0)),V.ts [] 0],[]++([]++[]))=_;unfold cZ;rw[Int.natAbs_zero,oQ];rfl
theorem agY(p:Int×Bool):(zc p).all qI=true:=by
 unfold zc;cases p.2<;>rfl
theorem agZ(a b:V)(p:Int×Bool):patch [a,b] 0 (zc p)=zc p:=rfl
theorem akA(p:Int×Bool):(zc p).take 2=zc p:=rfl
theorem adY(a b:V)(z:Int):patch [a,b] 0 (cZ z)=cZ z:=rfl
attribute [go_sem] Zh agY agZ akA qO WM SE WO adY
def Ee(σ:Store)(b:Nat)(E:List Int):Prop:=∃L:List (Int×Bool),σ b=some ⟨L.flatMap zc,2,true⟩/\L.map (·.1)=E/\∀p∈L,p.2=true->p.1=0
theorem Ee.congr{σ σ':Store}{b:Nat}{E:List Int}(h:Ee σ b E)(e:σ' b=σ b):Ee σ' b E:=by
 obtain⟨L,G,J⟩:=h;exact⟨L,by rw[e];exact G,J⟩
theorem iO{α:Type}{c:α->List V}{s:Nat}(hc:∀x,(c x).length=s)(xs:List α)(k:Nat)(h:k<xs.length)(y:α):patch (xs.flatMap c) (k*s) (c y)=(xs.set k y).flatMap c:=by
 have E:=dN hc xs;have hle:(k+1)*s<=xs.length*s:=zK _ h;rw[yG]at hle;rw[iR _ _ _ (by rw[E,hc];exact hle),hc];have G:(xs.flatMap c).take (k*s)=(xs.take k).flatMap c:=by
  have:=wQ k xs
  conv=>lhs;rw[<- this]
  rw[zT,wu];rw[dN hc,zh,xY (by omega)]
 have J:(xs.flatMap c).drop (k*s+s)=(xs.drop (k+1)).flatMap c:=by rw[<- yG];exact Pm hc xs (k+1)
 rw[G,J,uN,sZ h,zT,zO,zF]
def newR(W:List Int)(L:List (Int×Bool))(c:Nat):List (Int×Bool):=(W.take c).map (fun z=>(z,false))++L.drop c
theorem Jy(W:List Int)(L:List (Int×Bool)):newR W L 0=L:=by simp[newR]
theorem jK{W:List Int}{L:List (Int×Bool)}(h:W.length=L.length){c:Nat}(hc:c<=L.length):(newR W L c).length=L.length:=by
 unfold newR;simp;omega
theorem WT{W:List Int}{L:List (Int×Bool)}(h:W.length=L.length){c:Nat}(hc:c<L.length):(newR W L c)[c]'(by rw[jK h (by omega)];exact hc)=L[c]:=by
 have:(newR W L c)[c]?=L[c]?:=by
  unfold newR;rw[zN (by simp;omega),xq];congr 1;simp;omega
 rw[zy (by rw[jK h (by omega)];exact hc),zy hc]at this;exact Option.some.inj this
theorem NG{W:List Int}{L:List (Int×Bool)}(h:W.length=L.length){c:Nat}(hc:c<L.length):(newR W L c).set c (W[c],false)=newR W L (c+1):=by
 unfold newR;have E:((W.take c).map fun z=>(z,false)).length=c:=by simp;omega
 rw[yF _ _ (by omega),E,yP,yU hc,wC,yN,zy (by omega),xQ,zF];rfl
theorem PZ{W:List Int}{L:List (Int×Bool)}(h:W.length=L.length):newR W L L.length=W.map fun z=>(z,false):=by
 unfold newR;rw[zo (by omega),xZ (zq _),zM]
theorem WU{σ:Store}{b:Nat}{W:List Int}{L:List (Int×Bool)}(h:W.length=L.length)(hb:σ b=some ⟨(newR W L L.length).flatMap zc,2,true⟩):Ee σ b W:=by
 refine⟨_,hb,?_,?_⟩
 .rw[PZ h,List.map_map]
  exact List.map_id'' (fun _=>rfl) W
 .rw[PZ h]
  intro p E;obtain⟨z,_,rfl⟩:=List.mem_map.mp E;intro e;cases e
structure Dk (σ:Store) (bt br bb bf:Nat) (rb:List Nat) (D:TZ) (N:Nat):Prop where
 t:σ bt=some ⟨[.rs br 0 D.R.length,Bo (decide (D.AV<0)),LI (dg D.AV.natAbs),.rs bb 0 D.R.length,I N,.rs bf 0 N],0,true⟩
 r:∃ex,σ br=some ⟨rb.map (fun b=>V.rs b 0 (N+1))++ex,1,true⟩
 row:∀i (h:i<rb.length),Ee σ rb[i] (DK D.R i)
 b:∃ex,σ bb=some ⟨(BP D.B).flatMap cI++ex,1,true⟩
 f:σ bf=some ⟨D.fr.flatMap GZ,1,true⟩
 len:rb.length=D.R.length
 nd:(bt :: br :: bb :: bf :: rb).Nodup
theorem abD{R:List (List Int)}{r k j:Nat}{b:Int}(h:j<R.length):DK (Bl R r k b) j=if j=r then DK R j else EH (en R r k) (en R j k) b (DK R j) (DK R r):=by
 show(Bl R r k b).getD j []=_;unfold Bl;rw[zx,uO,zy h];simp only[zH,yB];rw[fG h]
 split
 .rfl
 .unfold en;rw[fG h]
theorem aaq(p f b:Int){x y:List Int}(h:x.length=y.length):(EH p f b x y).length=x.length:=by unfold EH;rw[uD,h,Nat.min_self]
theorem aar(p f b:Int){x y:List Int}{c:Nat}(h:c<x.length)(E:c<y.length):(EH p f b x y)[c]'(by unfold EH;rw[uD];omega)=(x[c]*p-f*y[c]).tdiv b:=by
 unfold EH;rw[List.getElem_zipWith]
theorem P5{L:List (Int×Bool)}{E:List Int}(h:L.map (·.1)=E){c:Nat}(hc:c<E.length):∃G:c<L.length,(L[c]'G).1=E[c]:=by
 subst h;exact⟨by simpa using hc,by simp⟩
theorem nd4{bt br bb bf:Nat}{rb:List Nat}(h:(bt :: br :: bb :: bf :: rb).Nodup):bt≠br/\bt≠bb/\bt≠bf/\br≠bb/\br≠bf/\bb≠bf/\(∀b∈rb,b≠bt/\b≠br/\b≠bb/\b≠bf)/\rb.Nodup:=by
 simp only[xw,zX,not_or]at h;obtain⟨⟨J,O,S,Y⟩,⟨h5,h6,h7⟩,⟨h8,h9⟩,E,G⟩:=h;refine⟨J,O,S,h5,h6,h8,fun b hb=>⟨fun e=>Y (e ▸ hb),fun e=>h7 (e ▸ hb),fun e=>h9 (e ▸ hb),fun e=>E (e ▸ hb)⟩,G⟩
theorem gi{rb:List Nat}{ex:List V}{n i:Nat}(h:i<rb.length):(rb.map (fun b=>V.rs b 0 n)++ex)[i]?=some (.rs rb[i] 0 n):=by
 rw[zW (by simpa using h),z_,zy h];rfl
def FN(R:List (List Int))(P:List (List Int))(i j:Nat):List Int:=if j<i then DK P j else DK R j
theorem ag0{u p f v:Int}(hu:ln u.natAbs<=50)(E:ln p.natAbs<=50)(G:ln f.natAbs<=50)(J:ln v.natAbs<=50) :
  ln (u*p).natAbs<=1000000/\ln (f*v).natAbs<=1000000/\ln (u*p-f*v).natAbs<=1000000:=by
 have O:=jm u p;have S:=jm f v;have Y:=abz (u*p) (f*v);omega
theorem ag1{σ:Store}{nx bt br bb bf:Nat}{rb:List Nat}{D:TZ}{N:Nat}(h:Dk σ bt br bb bf rb D N)(hs:WJ D N)(c8:∀b∈bt :: br :: bb :: bf :: rb,b<nx){r k:Nat}(hr:r<D.R.length)(hk:k<N)(hp:en D.R r k≠0)(i1:D.AV≠0) :
  ∃σ' nx',ev Ze pI Ad 264 [.rp bt 0,I r,I k] σ nx=some (.Au [],σ',nx')/\Dk σ' bt br bb bf rb (FM D r k) N/\nx<=nx'/\∀b,b<nx->b≠bt->b≠bb->b∉rb->σ' b=σ b:=by
 obtain⟨n1,n2,n3,n4,n5,n6,n7,n8⟩:=nd4 h.nd;have hN:=hs.sz;have hR:=hs.F6;obtain⟨OU,e8⟩:=h.r;obtain⟨Lh,m6⟩:=h.b;have e9:=h.t;have hlen:=h.len;have SH:=c8 bt (by simp);have SI:=c8 br (by simp);have m7:=c8 bb (by simp);have m8:=c8 bf (by simp);have EK:∀j (E:j<rb.length),rb[j]<nx:=fun j E=>c8 _ (by simp[zu E])
 have h4:r<rb.length:=by omega
 obtain⟨bR,X7⟩:∃bR,bR=rb[r]:=⟨_,rfl⟩;have m9:bR<nx:=by rw[X7];exact EK r h4
 have nR:=n7 bR (by rw[X7];exact zu h4);obtain⟨Lr,i2,j4,n0⟩:=h.row r h4;rw[<- X7]at i2;have J:∀j,j<D.R.length->(DK D.R j).length=N+1:=fun j E=>by rw[fG E];exact hs.row _ (zu E)
 have n9:Lr.length=N+1:=by have:=congrArg List.length j4;rw[zV,J r hr]at this;exact this
 have ent:∀j c (E:j<D.R.length) (hc:c<N+1),(DK D.R j)[c]'(by rw[J j E];exact hc)=en D.R j c:=fun j c E hc=>by
  unfold en;rw[zx,zy];rfl
 have c9:∀c (hc:c<N+1),(Lr[c]'(by omega)).1=en D.R r c:=fun c hc=>by
  obtain⟨_,e⟩:=P5 j4 (c:=c) (by rw[J r hr];exact hc);rw[e,ent r c hr hc]
 have lz:∀c (hc:c<Lr.length),(Lr[c]).2=true->(Lr[c]).1=0:=fun c hc=>n0 _ (zu hc)
 have a1:=jL r;have a2:(r:Int)<(D.R.length:Int):=by omega
 have a3:=jL k;have a4:(k:Int)<((N+1:Nat):Int):=by omega
 have a5:=gi (ex:=OU) (n:=N+1) h4;rw[<- X7]at a5;have a6:=dS (c:=zc) (s:=2) Zh Lr k (by omega);have a7:=dN (c:=zc) (s:=2) Zh Lr;rw[n9]at a7;have a8:k*2+2<=(N+1)*2:=by omega
 obtain⟨sp,h5⟩:∃sp,sp=upd σ nx (some ⟨zc Lr[k],0,true⟩):=⟨_,rfl⟩;have c3:∀b,b<nx->sp b=σ b:=fun b hb=>by rw[h5,aH]
 have j5:sp nx=some ⟨zc Lr[k],0,true⟩:=by rw[h5,aF]
 have j6:=(c3 bt SH).trans e9;have j7:=(c3 br SI).trans e8;rw[nK [] [10,12,13] func264];simp only[go_sem,e9,e8,i2,a1,a2,a3,a4,a5,a6,a7,a8,Zh,aC,<- h5,j6,j7];generalize hL:gI _ _=y;have P0:=iJ D.R r k D.AV
 obtain⟨x,rfl,T1,b9,oI,rfl,t0,t1,t2,t7,p1,c4,j8,Jz⟩:=pJ hL D.R.length (fun i st=>st.T 0= .rp bt 0/\st.T 1=I r/\st.T 2=I k/\st.T 6= .rs bR 0 (N+1)/\st.T 7= .rp nx 0/\st.T 30= .rs br 0 D.R.length/\st.T 31=I D.R.length/\st.T 32=I i/\nx<st.nx/\st.σ nx=some ⟨zc Lr[k],0,true⟩/\st.σ bR=some ⟨Lr.flatMap zc,2,true⟩ /\
   (∀j (E:j<rb.length),Ee st.σ rb[j] (FN D.R (Bl D.R r k D.AV) i j))/\∀b,b<nx->b∉rb->st.σ b=σ b)
  (fun x=>∃T σ' nx',x=(.exit 0,⟨T,σ',nx'⟩)/\T 0= .rp bt 0/\T 1=I r/\T 2=I k/\T 7= .rp nx 0/\nx<nx'/\σ' nx=some ⟨zc Lr[k],0,true⟩/\(∀j (E:j<rb.length),Ee σ' rb[j] (DK (Bl D.R r k D.AV) j))/\∀b,b<nx->b∉rb->σ' b=σ b) (by
   clear hL;rintro i ⟨T,σ',nx'⟩ hi ⟨t0,t1,t2,t6,t7,t30,t31,t32,Y,sn,sR,rows,frame⟩;simp only at t0 t1 t2 t6 t7 t30 t31 t32 Y sn;have f1:(i:Int)<(D.R.length:Int):=by omega
   have f2:=jL i;have f3:=Zl (n:=(i:Int)+1);have b2:i<rb.length:=by omega
   obtain⟨bi,EX⟩:∃bi,bi=rb[i]:=⟨_,rfl⟩;have p2:bi<nx:=by rw[EX];exact EK i b2
   have ni:=n7 bi (by rw[EX];exact zu b2);have f5:=gi (ex:=OU) (n:=N+1) b2;rw[<- EX]at f5;have h6:σ' br=_:=(frame br SI fun e=>(n7 br e).2.1 rfl).trans e8
   by_cases X3:i=r
   .have c1:((i:Int)==(r:Int))=true:=by rw[X3];simp
    refine .inl ⟨_,by simp only[go_sem,t0,t1,t2,t6,t7,t30,t31,t32,h6,f1,f2,f3,f5,c1];rfl,?_⟩;simp only[go_sem,t0,t1,t2,t6,t7,t30,t31];refine⟨rfl,Y,sn,sR,fun j E=>?_,frame⟩;have b4:=rows j E;unfold FN at b4⊢
    by_cases b5:j<i
    .rw[sZ b5]at b4
     rw[sZ (by omega)];exact b4
    .rw[su b5]at b4
     by_cases p3:j=i
     .rw[sZ (by omega),abD (by omega),sZ (by omega)]
      exact b4
     .rw[su (by omega)]
      exact b4
   .have c1:((i:Int)==(r:Int))=false:=by rw[sW];omega
    have j9:bi≠bR:=fun e=>X3 (by rw[EX,X7]at e;exact(ug n8).mp e)
    obtain⟨G,SK,Gv,SL⟩:=rows i b2;have h7:σ' bi=some ⟨G.flatMap zc,2,true⟩:=by rw[EX];exact SK
    have e0:FN D.R (Bl D.R r k D.AV) i i=DK D.R i:=by unfold FN;rw[su (by omega)]
    rw[e0]at Gv;have KG:G.length=N+1:=by have:=congrArg List.length Gv;rw[zV,J i hi]at this;exact this
    have h9:∀c (hc:c<N+1),(G[c]'(by omega)).1=en D.R i c:=fun c hc=>by
     obtain⟨_,e⟩:=P5 Gv (c:=c) (by rw[J i hi];exact hc);rw[e,ent i c hi hc]
    have iz:∀c (hc:c<G.length),(G[c]).2=true->(G[c]).1=0:=fun c hc=>SL _ (zu hc)
    have b6:=dS (c:=zc) (s:=2) Zh G k (by omega);have b7:=dN (c:=zc) (s:=2) Zh G;rw[KG]at b7;obtain⟨s6,i3⟩:∃s6,s6=upd σ' nx' (some ⟨zc G[k],0,true⟩):=⟨_,rfl⟩;have b8:∀b,b<nx'->s6 b=σ' b:=fun b hb=>by rw[i3,aH]
    have o0:s6 nx'=some ⟨zc G[k],0,true⟩:=by rw[i3,aF]
    obtain⟨W,eW⟩:∃W,W=EH (en D.R r k) (en D.R i k) D.AV (DK D.R i) (DK D.R r):=⟨_,rfl⟩;have o5:W.length=N+1:=by rw[eW,aaq _ _ _ (by rw[J i hi,J r hr]),J i hi]
    have S:W.length=G.length:=by omega
    have i4:∀c (hc:c<N+1),W[c]'(by omega)=(en D.R i c*en D.R r k-en D.R i k*en D.R r c).tdiv D.AV:=fun c hc=>by
     subst eW;rw[aar _ _ _ (by rw[J i hi];exact hc) (by rw[J r hr];exact hc),ent i c hi hc,ent r c hr hc]
    refine cu ?_
    conv=>
     enter [1,r,1,1]
     simp only[go_sem,t0,t1,t2,t6,t7,t30,t31,t32,h6,f1,f2,f5,c1,h7,a3,a4,a8,b6,b7,aC,<- i3]
    generalize hL:gI _ _=z
    obtain⟨x,rfl,T1,σ2,CJ,rfl,t0,t1,t2,t6,t7,t30,t31,t32,p4,Fv,Fp⟩:=pJ hL (N+1) (fun c st=>st.T 0= .rp bt 0/\st.T 1=I r/\st.T 2=I k/\st.T 6= .rs bR 0 (N+1)/\st.T 7= .rp nx 0/\st.T 30= .rs br 0 D.R.length/\st.T 31=I D.R.length/\st.T 32=I i/\st.T 9= .rs bi 0 (N+1)/\st.T 10= .rp nx' 0/\st.T 45=I ((N+1:Nat):Int)/\st.T 46=I c/\nx'<st.nx /\
      (∀b,b<=nx'->b≠bi->st.σ b=s6 b)/\st.σ bi=some ⟨(newR W G c).flatMap zc,2,true⟩)
     (fun x=>∃T OV k0,x=(.exit 2,⟨T,OV,k0⟩)/\T 0= .rp bt 0/\T 1=I r/\T 2=I k/\T 6= .rs bR 0 (N+1)/\T 7= .rp nx 0/\T 30= .rs br 0 D.R.length/\T 31=I D.R.length/\T 32=I i/\nx'<k0/\(∀b,b<=nx'->b≠bi->OV b=s6 b)/\Ee OV bi W) (by
      clear hL;rintro c ⟨T,σ2,m0⟩ hc ⟨t0,t1,t2,t6,t7,t30,t31,t32,t9,t10,t45,t46,b3,Fv,Fp⟩;simp only at t0 t1 t2 t6 t7 t30 t31 t32 t9 t10 t45 t46 b3 Fp;have g1:(c:Int)<((N+1:Nat):Int):=by omega
      have g2:=jL c;have g3:=Zl (n:=(c:Int)+1);have g4:=dS (c:=zc) (s:=2) Zh (newR W G c) c (by rw[jK S (by omega)];omega);rw[WT S (by omega)]at g4;have g5:=dN (c:=zc) (s:=2) Zh (newR W G c);rw[jK S (by omega),KG]at g5;have g6:c*2+2<=(N+1)*2:=by omega
      have g7:=dS (c:=zc) (s:=2) Zh Lr c (by omega);have z1:∀σ d,stripL (strip σ d) (zc G[c])=some (cZ (en D.R i c),[]):=fun σ d=>by rw[Zg σ d (iz c (by omega)),h9 c (by omega)]
      have z2:∀σ d,stripL (strip σ d) (zc Lr[k])=some (cZ (en D.R r k),[]):=fun σ d=>by rw[Zg σ d (lz k (by omega)),c9 k (by omega)]
      have z3:∀σ d,stripL (strip σ d) (zc G[k])=some (cZ (en D.R i k),[]):=fun σ d=>by rw[Zg σ d (iz k (by omega)),h9 k (by omega)]
      have z4:∀σ d,stripL (strip σ d) (zc Lr[c])=some (cZ (en D.R r c),[]):=fun σ d=>by rw[Zg σ d (lz c (by omega)),c9 c (by omega)]
      have e1:σ2 bt=_:=(Fv bt (by omega) (zD ni.1)).trans ((b8 bt (by omega)).trans ((frame bt SH fun e=>(n7 bt e).1 rfl).trans e9));have e3:σ2 nx=_:=(Fv nx (by omega) (by omega)).trans ((b8 nx (by omega)).trans sn);have e4:σ2 nx'=_:=(Fv nx' (zq _) (by omega)).trans o0;have e5:σ2 bR=_:=(Fv bR (by omega) (zD j9)).trans ((b8 bR (by omega)).trans sR);have d1:¬bt=m0:=by omega
      have d3:¬nx=m0:=by omega
      have d4:¬nx'=m0:=by omega
      have d5:¬bR=m0:=by omega
      have d6:¬bi=m0:=by omega
      have l1:bt<m0+1:=by omega
      have l3:nx<m0+1:=by omega
      have l4:nx'<m0+1:=by omega
      have l5:bR<m0+1:=by omega
      have l6:bi<m0+1:=by omega
      have l7:m0<m0+1:=by omega
      have l8:bi<m0:=by omega
      have l9:nx<m0:=by omega
      have i5:nx'<m0:=by omega
      have i6:bR<m0:=by omega
      have i7:bt<m0:=by omega
      have u1:=hs.big i c (by omega) (by omega);have u2:=hs.big r k hr (by omega);have u3:=hs.big i k (by omega) (by omega);have u4:=hs.big r c hr (by omega);obtain⟨v1,v2,v3⟩:=ag0 (u:=en D.R i c) (p:=en D.R r k) (f:=en D.R i k) (v:=en D.R r c) u1 u2 u3 u4;have k1:=kX (en D.R i c) (en D.R r k) (by omega) (by omega);have k2:=kP (en D.R i k);have k3:=kP (en D.R r c);have k4:=kX (en D.R i k) (en D.R r c) (by omega) (by omega);have k5:=abg (en D.R i c*en D.R r k) (en D.R i k*en D.R r c) v1 v2;have s2:=SC (en D.R i k);have s3:=SC (en D.R r c);have p5:=hs.AV;have fin:∀y:Int,y=W[c]'(by omega)->patch ((newR W G c).flatMap zc) (c*2) (cZ y)=(newR W G (c+1)).flatMap zc:=fun y hy=>by
       rw[<- abC,iO Zh _ _ (by rw[jK S (by omega)];omega),hy,NG S (by omega)]
      have wv:=i4 c hc
      by_cases i9:en D.R i k=0
      .rw[sS i9,vN]at s2
       have k6:fn Ze pI Ad 284 [.agg (cZ (en D.R i c*en D.R r k)),.agg [Bo (decide (D.AV<0)),LI (dg D.AV.natAbs)]]=_:=Nv (en D.R i c*en D.R r k) D.AV v1 (by omega) i1;have c6:=fin ((en D.R i c*en D.R r k).tdiv D.AV) (by rw[wv,i9,Int.zero_mul,Int.sub_zero]);refine .inl ⟨_,by simp only[go_sem,t0,t1,t2,t6,t7,t9,t10,t45,t46,Fp,e1,e3,e4,e5,a3,a4,a8,g1,g2,g3,g4,g5,g6,g7,z1,z2,z3,z4,d1,d3,d4,d5,d6,l1,l3,l4,l5,l6,l7,l8,l9,i5,i6,i7,k1,k2,s2,k6,c6,aC];rfl,?_⟩;simp only[go_sem,t0,t1,t2,t6,t7,t30,t31,t32,t9,t10,t45];refine⟨rfl,by omega,fun b hb O=>?_⟩;rw[aG _ _ O,aH];exact Fv b hb O
      .rw[sQ i9,wY]at s2
       by_cases j0:en D.R r c=0
       .rw[sS j0,vN]at s3
        have k6:fn Ze pI Ad 284 [.agg (cZ (en D.R i c*en D.R r k)),.agg [Bo (decide (D.AV<0)),LI (dg D.AV.natAbs)]]=_:=Nv (en D.R i c*en D.R r k) D.AV v1 (by omega) i1;have c6:=fin ((en D.R i c*en D.R r k).tdiv D.AV) (by rw[wv,j0,wB,Int.sub_zero]);refine .inl ⟨_,by simp only[go_sem,t0,t1,t2,t6,t7,t9,t10,t45,t46,Fp,e1,e3,e4,e5,a3,a4,a7,a8,g1,g2,g3,g4,g5,g6,g7,z1,z2,z3,z4,d1,d3,d4,d5,d6,l1,l3,l4,l5,l6,l7,l8,l9,i5,i6,i7,k1,k2,s2,k3,s3,k6,c6,aC];rfl,?_⟩;simp only[go_sem,t0,t1,t2,t6,t7,t30,t31,t32,t9,t10,t45];refine⟨rfl,by omega,fun b hb O=>?_⟩;rw[aG _ _ O,aH];exact Fv b hb O
       .rw[sQ j0,wY]at s3
        have k6:fn Ze pI Ad 284 [.agg (cZ (en D.R i c*en D.R r k-en D.R i k*en D.R r c)),.agg [Bo (decide (D.AV<0)),LI (dg D.AV.natAbs)]]=_:=Nv (en D.R i c*en D.R r k-en D.R i k*en D.R r c) D.AV v3 (by omega) i1;have c6:=fin ((en D.R i c*en D.R r k-en D.R i k*en D.R r c).tdiv D.AV) wv.symm;refine .inl ⟨_,by simp only[go_sem,t0,t1,t2,t6,t7,t9,t10,t45,t46,Fp,e1,e3,e4,e5,a3,a4,a7,a8,g1,g2,g3,g4,g5,g6,g7,z1,z2,z3,z4,d1,d3,d4,d5,d6,l1,l3,l4,l5,l6,l7,l8,l9,i5,i6,i7,k1,k2,s2,k3,s3,k4,k5,k6,c6,aC];rfl,?_⟩;simp only[go_sem,t0,t1,t2,t6,t7,t30,t31,t32,t9,t10,t45];refine⟨rfl,by omega,fun b hb O=>?_⟩;rw[aG _ _ O,aH];exact Fv b hb O) (by
      clear hL;rintro ⟨T,σ2,m0⟩ ⟨t0,t1,t2,t6,t7,t30,t31,t32,t9,t10,t45,t46,b3,Fv,Fp⟩;simp only at t0 t1 t2 t6 t7 t30 t31 t32 t9 t10 t45 t46 b3 Fp;refine⟨_,by simp only[go_sem,t45,t46,zk];rfl,by simp,_,_,_,rfl,?_⟩;simp only[go_sem,t0,t1,t2,t6,t7,t30,t31,t32];exact⟨b3,Fv,WU S (by rw[KG];exact Fp)⟩) (by
      simp only[go_sem,t0,t1,t2,t6,t7,t30,t31,t32];refine⟨by omega,fun _ _ _=>trivial,?_⟩;rw[Jy,b8 bi (by omega)];exact h7)
    refine⟨_,by simp only[go_sem,t32,f3];rfl,.inl ⟨_,rfl,?_⟩⟩;simp only[go_sem,t0,t1,t2,t6,t7,t30,t31];refine⟨rfl,by omega,?_,?_,fun j E=>?_,fun b hb hn=>?_⟩
    .exact(Fv nx (by omega) (by omega)).trans ((b8 nx (by omega)).trans sn)
    .exact(Fv bR (by omega) (zD j9)).trans ((b8 bR (by omega)).trans sR)
    .by_cases b5:j=i
     .subst b5
      rw[<- EX];unfold FN;rw[sZ (by omega),abD (by omega),su X3,<- eW];exact Fp
     .have O:rb[j]≠bi:=fun e=>b5 (by rw[EX]at e;exact(ug n8).mp e)
      have:=EK j E;have e2:FN D.R (Bl D.R r k D.AV) (i+1) j=FN D.R (Bl D.R r k D.AV) i j:=by
       unfold FN
       by_cases hq:j<i
       .rw[sZ hq,sZ (by omega)]
       .rw[su hq,su (by omega)]
      rw[e2];exact(rows j E).congr ((Fv _ (by omega) O).trans (b8 _ (by omega)))
    .exact(Fv b (by omega) fun e=>hn (by rw[e,EX];exact zu b2)).trans ((b8 b (by omega)).trans (frame b hb hn))) (by
   clear hL;rintro ⟨T,σ',nx'⟩ ⟨t0,t1,t2,t6,t7,t30,t31,t32,Y,sn,sR,rows,frame⟩;simp only at t0 t1 t2 t6 t7 t30 t31 t32 Y sn;refine⟨_,by simp only[go_sem,t31,t32,zk];rfl,by simp,_,_,_,rfl,?_⟩;simp only[go_sem,t0,t1,t2,t7];refine⟨Y,sn,fun j E=>?_,frame⟩;have:=rows j E;unfold FN at this;rw[sZ (by omega)]at this;exact this) (by
   simp only[go_sem];refine⟨by omega,j5,(c3 bR m9).trans i2,fun j E=>?_,fun b hb _=>c3 b hb⟩;unfold FN;rw[su (by omega)];exact(h.row j E).congr (c3 _ (EK j E)))
 have o6:zc Lr[k]=cZ (en D.R r k):=by
  have e1:=c9 k (by omega);have e2:=lz k (by omega);generalize Lr[k]=q at e1 e2;obtain⟨z,b⟩:=q;simp only at e1 e2;subst e1;cases b with
  |false=>rfl
  |true=>exact absurd (e2 rfl) hp
 rw[o6]at c4;obtain⟨p,ep⟩:∃p,p=en D.R r k:=⟨_,rfl⟩;rw[<- ep]at c4 hp;have e1:b9 bt=_:=(Jz bt SH fun e=>(n7 bt e).1 rfl).trans e9;have e2:b9 bb=_:=(Jz bb m7 fun e=>(n7 bb e).2.2.1 rfl).trans m6;have e3:b9 br=_:=(Jz br SI fun e=>(n7 br e).2.1 rfl).trans e8;have e4:b9 bf=_:=(Jz bf m8 fun e=>(n7 bf e).2.2.2 rfl).trans h.f;have hB:(BP D.B).length=D.R.length:=by rw[aV];exact hs.A8
 have m1:r<((BP D.B).flatMap cI++Lh).length:=by rw[zl,qW];omega
 have m2:((BP D.B).flatMap cI++Lh).set r (I k)=(BP (D.B.set r k)).flatMap cI++Lh:=by
  rw[List.set_append_left _ _ (by rw[qW];omega),qV];unfold BP;rw[List.map_set]
 have m3:∀a b c d e f:V,patch [a,b,c,d,e,f] 1 (cZ p)=[a,Bo (decide (p<0)),LI (dg p.natAbs),d,e,f]:=fun _ _ _ _ _ _=>rfl
 have m4:∀a b c d e f:V,patch [a,b,c,d,e,f] 1 (cZ (-p))=[a,Bo (decide (-p<0)),LI (dg (-p).natAbs),d,e,f]:=fun _ _ _ _ _ _=>rfl
 have d1:¬bt=nx:=by omega
 have d2:¬bb=nx:=by omega
 have d3:¬nx=bt:=by omega
 have d4:¬nx=bb:=by omega
 have d5:¬bb=bt:=fun e=>n2 e.symm
 have d6:¬bt=bb:=n2;have d7:¬br=bt:=fun e=>n1 e.symm
 have d8:¬br=bb:=n4;have k1:=kP p;obtain⟨s1,c5⟩:∃s1,s1=upd (upd b9 bt (some ⟨[.rs br 0 D.R.length,Bo (decide (p<0)),LI (dg p.natAbs),.rs bb 0 D.R.length,I N,.rs bf 0 N],0,true⟩)) bb (some ⟨(BP (D.B.set r k)).flatMap cI++Lh,1,true⟩):=⟨_,rfl⟩;have k7:s1 bt=some ⟨[.rs br 0 D.R.length,Bo (decide (p<0)),LI (dg p.natAbs),.rs bb 0 D.R.length,I N,.rs bf 0 N],0,true⟩:=by rw[c5,aG _ _ d6,aF]
 have c0:∀b,b≠bt->b≠bb->s1 b=b9 b:=fun b h1 h2=>by rw[c5,aG _ _ h2,aG _ _ h1]
 have k8:s1 bb=some ⟨(BP (D.B.set r k)).flatMap cI++Lh,1,true⟩:=by rw[c5,aF]
 have j1:s1 nx=some ⟨cZ p,0,true⟩:=(c0 nx d3 d4).trans c4;have k9:s1 br=_:=(c0 br d7 d8).trans e3;have l2:∀j (E:j<rb.length),s1 rb[j]=b9 rb[j]:=fun j E=>by
  have:=n7 rb[j] (zu E);exact c0 _ this.1 this.2.2.1
 have pz:FM D r k=if 0<p then ⟨Bl D.R r k D.AV,p,D.B.set r k,D.fr⟩else ⟨negR (Bl D.R r k D.AV),-p,D.B.set r k,D.fr⟩:=by unfold FM;rw[ep]
 by_cases i0:0<p
 .have c1:Ah p 0=1:=by unfold Ah;rw[su (by omega),su (by omega)]
  rw[c1]at k1;have c2:(0:Int)<1:=by decide
  refine⟨s1,oI,by simp only[go_sem,t0,t1,t2,t7,e1,e2,c4,a1,a2,m1,m2,m3,d1,d2,d3,d4,d5,d6,k1,c2,<- c5,j1],?_,by omega,fun b hb h1 h2 h3=>by rw[c0 b h1 h2];exact Jz b hb h3⟩;rw[pz,sZ i0];have pl:(Bl D.R r k D.AV).length=D.R.length:=P0;refine⟨by show s1 bt=some ⟨[.rs br 0 (Bl D.R r k D.AV).length,_,_,.rs bb 0 (Bl D.R r k D.AV).length,_,_],0,true⟩;rw[pl];exact k7,⟨OU,k9⟩,fun j E=>(j8 j E).congr (l2 j E),⟨Lh,k8⟩,?_,by show rb.length=(Bl D.R r k D.AV).length;omega,h.nd⟩;rw[c0 bf (zD n3) (zD n6)];exact e4
 .have c1:Ah p 0= -1:=by unfold Ah;rw[sZ (by omega)]
  rw[c1]at k1;have c2:¬(0:Int)< -1:=by decide
  have k2:=kQ p;obtain⟨s2,h8⟩:∃s2,s2=upd s1 bt (some ⟨[.rs br 0 D.R.length,Bo (decide (-p<0)),LI (dg (-p).natAbs),.rs bb 0 D.R.length,I N,.rs bf 0 N],0,true⟩):=⟨_,rfl⟩;have m5:s2 bt=some ⟨[.rs br 0 D.R.length,Bo (decide (-p<0)),LI (dg (-p).natAbs),.rs bb 0 D.R.length,I N,.rs bf 0 N],0,true⟩:=by rw[h8,aF]
  have e6:∀b,b≠bt->s2 b=s1 b:=fun b h1=>by rw[h8,aG _ _ h1]
  have j2:s2 br=_:=(e6 br d7).trans k9;have pl:(Bl D.R r k D.AV).length=D.R.length:=P0;have o7:∀x∈Bl D.R r k D.AV,x.length=N+1:=Nk hs.row hr _;have nl:(negR (Bl D.R r k D.AV)).length=D.R.length:=by rw[Nh,pl]
  have j3:∀j,j<D.R.length->(DK (Bl D.R r k D.AV) j).length=N+1:=fun j E=>by rw[fG (by omega)];exact o7 _ (zu (by omega))
  have o9:∀j,j<D.R.length->DK (negR (Bl D.R r k D.AV)) j=(DK (Bl D.R r k D.AV) j).map fun z=> -z:=fun j E=>by
   rw[fG (by omega),fG (by omega)];unfold negR;rw[xK]
  have p0:∀b,b<nx->b≠bt->b≠bb->b∉rb->s2 b=σ b:=fun b h0 h1 h2 h3=>by rw[e6 b h1,c0 b h1 h2];exact Jz b h0 h3
  rw[<- and_true (∃σ' nx',_)];refine⟨?_,trivial⟩;simp only[go_sem,t0,t1,t2,t7,e1,e2,c4,a1,a2,m1,m2,m3,d1,d2,d3,d4,d5,d6,k1,c2,<- c5,j1,k7,k2,m4,<- h8,m5,j2];clear k1 k2 m3 m4 c5 h8 c4 e1 e2 e3 j1 j5 c3 h5 t0 t1 t2 t7 j6 j7 a5 a6 a7;generalize hL:gI _ _=y;obtain⟨x,rfl,T2,σ2,rfl,Ep,NH⟩:=pJ hL D.R.length (fun i st=>st.T 107= .rs br 0 D.R.length/\st.T 108=I D.R.length/\st.T 109=I i/\st.nx=oI/\(∀j (E:j<rb.length),Ee st.σ rb[j] (FN (Bl D.R r k D.AV) (negR (Bl D.R r k D.AV)) i j))/\∀b,b∉rb->st.σ b=s2 b)
   (fun x=>∃T σ',x=(.exit 4,⟨T,σ',oI⟩)/\(∀j (E:j<rb.length),Ee σ' rb[j] (DK (negR (Bl D.R r k D.AV)) j))/\∀b,b∉rb->σ' b=s2 b) (by
    clear hL;rintro i ⟨T,σ',nx'⟩ hi ⟨t0,t1,t2,Y,rows,frame⟩;simp only at t0 t1 t2 Y;subst Y;have f1:(i:Int)<(D.R.length:Int):=by omega
    have f2:=jL i;have f3:=Zl (n:=(i:Int)+1);have b2:i<rb.length:=by omega
    obtain⟨bi,EX⟩:∃bi,bi=rb[i]:=⟨_,rfl⟩;have ni:=n7 bi (by rw[EX];exact zu b2);have f5:=gi (ex:=OU) (n:=N+1) b2;rw[<- EX]at f5;have h6:σ' br=_:=(frame br fun e=>(n7 br e).2.1 rfl).trans j2;obtain⟨G,SK,Gv,SL⟩:=rows i b2;have h7:σ' bi=some ⟨G.flatMap zc,2,true⟩:=by rw[EX];exact SK
    have e0:FN (Bl D.R r k D.AV) (negR (Bl D.R r k D.AV)) i i=DK (Bl D.R r k D.AV) i:=by unfold FN;rw[su (by omega)]
    rw[e0]at Gv;have KG:G.length=N+1:=by have:=congrArg List.length Gv;rw[zV,j3 i hi]at this;exact this
    have iz:∀c (hc:c<G.length),(G[c]).2=true->(G[c]).1=0:=fun c hc=>SL _ (zu hc)
    obtain⟨W,eW⟩:∃W,W=(DK (Bl D.R r k D.AV) i).map fun z=> -z:=⟨_,rfl⟩
    have o5:W.length=N+1:=by rw[eW,zV,j3 i hi]
    have S:W.length=G.length:=by omega
    have i4:∀c (hc:c<N+1),W[c]'(by omega)= -(G[c]'(by omega)).1:=fun c hc=>by
     subst eW;obtain⟨_,e⟩:=P5 Gv (c:=c) (by rw[j3 i hi];exact hc);rw[xK,e]
    refine cu ?_
    conv=>
     enter [1,r,1,1]
     simp only[go_sem,t0,t1,t2,h6,f1,f2,f5]
    generalize hL:gI _ _=z
    obtain⟨x,rfl,T1,σ2,rfl,t0,t1,t2,Fv,Fp⟩:=pJ hL (N+1) (fun c st=>st.T 107= .rs br 0 D.R.length/\st.T 108=I D.R.length/\st.T 109=I i/\st.T 14= .rs bi 0 (N+1)/\st.T 114=I ((N+1:Nat):Int)/\st.T 115=I c/\st.nx=nx' /\
      (∀b,b≠bi->st.σ b=σ' b)/\st.σ bi=some ⟨(newR W G c).flatMap zc,2,true⟩)
     (fun x=>∃T OV,x=(.exit 6,⟨T,OV,nx'⟩)/\T 107= .rs br 0 D.R.length/\T 108=I D.R.length/\T 109=I i/\(∀b,b≠bi->OV b=σ' b)/\Ee OV bi W) (by
      clear hL;rintro c ⟨T,σ2,m0⟩ hc ⟨t0,t1,t2,t14,c7,e7,b3,Fv,Fp⟩;simp only at t0 t1 t2 t14 c7 e7 b3 Fp;subst b3;have g1:(c:Int)<((N+1:Nat):Int):=by omega
      have g2:=jL c;have g3:=Zl (n:=(c:Int)+1);have g4:=dS (c:=zc) (s:=2) Zh (newR W G c) c (by rw[jK S (by omega)];omega);rw[WT S (by omega)]at g4;have g5:=dN (c:=zc) (s:=2) Zh (newR W G c);rw[jK S (by omega),KG]at g5;have g6:c*2+2<=(N+1)*2:=by omega
      have z1:∀σ d,stripL (strip σ d) (zc G[c])=some (cZ (G[c]).1,[]):=fun σ d=>Zg σ d (iz c (by omega))
      have k1:=kQ (G[c]).1;have c6:patch ((newR W G c).flatMap zc) (c*2) (cZ (-(G[c]).1))=(newR W G (c+1)).flatMap zc:=by
       rw[<- abC,iO Zh _ _ (by rw[jK S (by omega)];omega),<- i4 c hc,NG S (by omega)]
      refine .inl ⟨_,by simp only[go_sem,t0,t1,t2,t14,c7,e7,Fp,g1,g2,g3,g4,g5,g6,z1,k1,c6];rfl,?_⟩;simp only[go_sem,t0,t1,t2,t14,c7];refine⟨rfl,fun b O=>?_⟩;rw[aG _ _ O];exact Fv b O) (by
      clear hL;rintro ⟨T,σ2,m0⟩ ⟨t0,t1,t2,t14,c7,e7,b3,Fv,Fp⟩;simp only at t0 t1 t2 t14 c7 e7 b3 Fp;subst b3;refine⟨_,by simp only[go_sem,c7,e7,zk];rfl,by simp,_,_,rfl,?_⟩;simp only[go_sem,t0,t1,t2];exact⟨Fv,WU S (by rw[KG];exact Fp)⟩) (by
      simp only[go_sem,t0,t1,t2];refine⟨fun _ _=>trivial,?_⟩;rw[Jy];exact h7)
    refine⟨_,by simp only[go_sem,t2,f3];rfl,.inl ⟨_,rfl,?_⟩⟩;simp only[go_sem,t0,t1];refine⟨rfl,fun j E=>?_,fun b hn=>?_⟩
    .by_cases b5:j=i
     .subst b5
      rw[<- EX];unfold FN;rw[sZ (by omega),o9 j (by omega),<- eW];exact Fp
     .have O:rb[j]≠bi:=fun e=>b5 (by rw[EX]at e;exact(ug n8).mp e)
      have e2:FN (Bl D.R r k D.AV) (negR (Bl D.R r k D.AV)) (i+1) j=FN (Bl D.R r k D.AV) (negR (Bl D.R r k D.AV)) i j:=by
       unfold FN
       by_cases hq:j<i
       .rw[sZ hq,sZ (by omega)]
       .rw[su hq,su (by omega)]
      rw[e2];exact(rows j E).congr (Fv _ O)
    .exact(Fv b fun e=>hn (by rw[e,EX];exact zu b2)).trans (frame b hn)) (by
    clear hL;rintro ⟨T,σ',nx'⟩ ⟨t0,t1,t2,Y,rows,frame⟩;simp only at t0 t1 t2 Y;subst Y;refine⟨_,by simp only[go_sem,t1,t2,zk];rfl,by simp,_,_,rfl,fun j E=>?_,frame⟩;have:=rows j E;unfold FN at this;rw[sZ (by omega)]at this;exact this) (by
    simp only[go_sem];refine⟨fun j E=>?_,fun _ _=>trivial⟩;unfold FN;rw[su (by omega)];exact(j8 j E).congr ((e6 _ (n7 _ (zu E)).1).trans (l2 j E)))
  refine⟨σ2,oI,by simp only[go_sem],?_,by omega,fun b hb h1 h2 h3=>by rw[NH b h3];exact p0 b hb h1 h2 h3⟩;rw[pz,su i0];have o1:bt∉rb:=fun e=>(n7 bt e).1 rfl
  have o2:br∉rb:=fun e=>(n7 br e).2.1 rfl
  have o3:bb∉rb:=fun e=>(n7 bb e).2.2.1 rfl
  have o4:bf∉rb:=fun e=>(n7 bf e).2.2.2 rfl
  refine⟨by show σ2 bt=some ⟨[.rs br 0 (negR (Bl D.R r k D.AV)).length,_,_,.rs bb 0 (negR (Bl D.R r k D.AV)).length,_,_],0,true⟩;rw[nl,NH bt o1];exact m5,⟨OU,by rw[NH br o2];exact j2⟩,Ep,⟨Lh,by rw[NH bb o3,e6 bb d5];exact k8⟩,?_,by show rb.length=(negR (Bl D.R r k D.AV)).length;omega,h.nd⟩;rw[NH bf o4,e6 bf (zD n3),c0 bf (zD n3) (zD n6)];exact e4
theorem bZ{f:V->Option (V×List Nat)}:∀ {a b E b':List V} {i j:List Nat},stripL f a=some (E,i)->stripL f b=some (b',j)->stripL f (a++b)=some (E++b',i++j)
 |[],b,E,b',i,j,h,h'=>by
  rw[bP]at h;simp only[tC,t_]at h;obtain⟨rfl,rfl⟩:=h;exact h'
 |v :: a,b,E,b',i,j,h,h'=>by
  rw[bU]at h;cases G:f v with
  |none=>rw[G]at h;cases h
  |some p=>
   cases J:stripL f a with
   |none=>rw[G,J]at h;cases h
   |some q=>
    rw[G,J]at h;simp only[zi,zH,tC,t_]at h;obtain⟨rfl,rfl⟩:=h;rw[yY,bU,G,bZ J h'];simp
theorem WV(σ:Store)(d:Nat):∀L:List (Int×Bool),(∀p∈L,p.2=true->p.1=0)->stripL (strip σ d) (L.flatMap zc)=some ((L.map (·.1)).flatMap cZ,[])
 |[],_=>rfl
 |p :: L,h=>by
  rw[zO,x9,zO];have:=bZ (Zg σ d (h p zQ)) (WV σ d L fun q E=>h q (zY _ E));exact this
theorem ad2{σ:Store}{b n:Nat}{G:List Int}(h:Ee σ b G)(J:G.length=n)(d:Nat):strip σ (d+1) (.rs b 0 n)=some (LL cZ G,[b]):=by
 obtain⟨L,Y,O,h3⟩:=h;have S:L.length=n:=by rw[<- J,<- O,zV]
 have E:=dN (c:=zc) (s:=2) Zh L;rw[bD,Y];simp only[zi,yu,yw];rw[sZ (by rw[E,S];exact zq _),zo (by rw[E,S];exact zq _),WV σ d L h3,O];show some (V.ts _ n,[b])=_;rw[<- J]
theorem NI{σ:Store}{n d:Nat}:∀ {rb:List Nat} {R:List (List Int)},rb.length=R.length->(∀i (h:i<rb.length),Ee σ rb[i] (DK R i))->(∀x∈R,x.length=n)->∃ids,stripL (strip σ (d+1)) (rb.map fun b=>V.rs b 0 n)=some (R.flatMap aao,ids)
 |[],[],_,_,_=>⟨[],rfl⟩
 |[],_ :: _,h,_,_=>by simp at h
 |_ :: _,[],h,_,_=>by simp at h
 |b :: rb,x :: R,h,hr,hn=>by
  obtain⟨ids,hi⟩:=NI (rb:=rb) (R:=R) (d:=d) (by simpa using h) (fun i hi=>by
   have:=hr (i+1) (by simpa using hi);exact this) fun y E=>hn y (zY _ E)
  have G:Ee σ b x:=hr 0 (by simp);refine⟨[b]++ids,?_⟩;rw[x9,bU,ad2 G (hn x zQ) d];simp only[zi];rw[hi];rfl
theorem ag4(σ:Store)(d:Nat)(E:List Bool):stripL (strip σ d) (E.flatMap GZ)=some (E.flatMap GZ,[]) :=
 bM (fun b=>by rw[bU,bC,bP];rfl) E
def akE:=dN (c:=GZ) (s:=1) (fun _=>rfl)
theorem P6{σ:Store}{bt br bb bf:Nat}{rb:List Nat}{D:TZ}{N:Nat}(h:Dk σ bt br bb bf rb D N)(hs:WJ D N):∃ids,strip σ 7 (.rp bt 0)=some (agW D N,ids):=by
 obtain⟨OU,G⟩:=h.r;obtain⟨Lh,J⟩:=h.b;obtain⟨ids,E⟩:=NI (d:=4) h.len h.row hs.row;have O:(BP D.B).length=D.R.length:=by rw[aV];exact hs.A8
 have Y:strip σ 6 (.rs br 0 D.R.length)=some (LL aao D.R,br :: ids):=by
  rw[bD,G];simp only[zi,yO,yu,yw];rw[sZ (by rw[zl,zV,h.len];omega),wu (by rw[zV,h.len]),E];rfl
 have s2:strip σ 6 (.rs bb 0 D.R.length)=some (LI (BP D.B),[bb]):=by
  rw[bD,J];simp only[zi,yO,yu,yw];rw[sZ (by rw[zl,qW,O];omega),wu (by rw[qW,O]),CZ,<- O];rfl
 have S:(D.fr.flatMap GZ).length=N:=by rw[akE,yO,hs.WL]
 have s3:strip σ 6 (.rs bf 0 N)=some (LL GZ D.fr,[bf]):=by
  rw[bD,h.f];simp only[zi,yO,yu,yw];rw[sZ (by rw[S];exact zq _),zo (by rw[S];exact zq _),ag4];show some (V.ts _ N,[bf])=_;rw[<- hs.WL]
 have key:stripL (strip σ 6) [.rs br 0 D.R.length,Bo (decide (D.AV<0)),LI (dg D.AV.natAbs),.rs bb 0 D.R.length,I N,.rs bf 0 N]=some (WI D N,(br :: ids)++([]++([]++([bb]++([]++([bf]++[])))))):=by
  simp only[bU,Y,s2,s3,bC,au,bP,zH,zi];rfl
 exact⟨_,by rw[Md,h.t,zi,key];rfl⟩
theorem J7{σ:Store}{bt br bb bf:Nat}{rb:List Nat}{D:TZ}{N:Nat}(h:Dk σ bt br bb bf rb D N)(hs:WJ D N)(d:Nat):strip σ (d+1) (.rs bb 0 D.R.length)=some (LI (BP D.B),[bb]):=by
 obtain⟨J,E⟩:=h.b;have G:(BP D.B).length=D.R.length:=by rw[aV];exact hs.A8
 rw[bD,E];simp only[zi,yO,yu,yw];rw[sZ (by rw[zl,qW,G];omega),wu (by rw[qW,G]),CZ,<- G];rfl
theorem axA(xs:List Int)(m:Int)(h:xs.length<=1000000):fn Ze conv ext 120 [LI xs,I m]=some (I (ix (fun x=>m==x) xs)):=by
 rw[mW,nK [.tmp 4] [] func120];simp only[go_sem];generalize hL:gI _ _=y;obtain⟨r,rfl,hr⟩:=pJ hL xs.length (fun k st=>st.T 0=LI xs/\st.T 1=I m/\st.T 7=I xs.length/\st.T 8=I k/\∀i (h:i<xs.length),i<k->(m==xs[i])=false)
  (fun r=>(∃T σ nx,r=(.exit 0,⟨T,σ,nx⟩)/\ix (fun x=>m==x) xs= -1)\/(∃T σ nx,r=(.ret,⟨T,σ,nx⟩)/\T 4=I (ix (fun x=>m==x) xs))) (by
   clear hL;rintro k ⟨T,σ,nx⟩ E ⟨O,S,G,J,hi⟩;simp only at O S G J;have f1:(k:Int)<(xs.length:Int):=by omega
   have f2:=jL k;have f3:=Zl (n:=(k:Int)+1);have f5:=Aw xs k E;have f6:=idx E;cases Y:(m==xs[k])with
   |true=>
    refine .inr ⟨_,by simp only[go_sem,O,S,G,J,f1,f2,f5,f6,Y];rfl,by simp,.inr ⟨_,_,_,rfl,?_⟩⟩;simp only[go_sem];rw[kL E hi Y]
   |false=>
    refine .inl ⟨_,by simp only[go_sem,O,S,G,J,f1,f2,f3,f5,f6,Y];rfl,?_⟩;simp only[go_sem,O,S,G];exact⟨rfl,kJ E hi Y⟩) (by
   clear hL;rintro ⟨T,σ,nx⟩ ⟨O,S,G,J,hi⟩;simp only at G J;exact⟨_,by simp only[go_sem,G,J,zk];rfl,by simp,.inl ⟨_,_,_,rfl,kK fun i h=>hi i h h⟩⟩) (by
   simp only[go_sem];exact fun i _ h=>absurd h (zU _))
 rcases hr with ⟨T,σ,nx,rfl,hx⟩|⟨T,σ,nx,rfl,hx⟩
 .simp only[go_sem,hx]
 .simp only[go_sem,hx]
theorem an8(xs:List Int)(m:Int)(h:xs.length<=1000000):fn Ze conv ext 65 [LI xs,I m]=some (Bo (decide (m∈xs))):=by
 have E:=axA xs m h;have e:decide (0<=ix (fun x=>m==x) xs)=decide (m∈xs):=by
  rw[decide_eq_decide];constructor
  .intro J
   refine zf fun hn=>?_
   have:=(JY (fun x=>m==x) xs).mpr fun x G=>by
    rw[sW];intro e;subst e;exact hn G
   omega
  .intro hm
   refine Int.not_lt.mp fun hn=>?_
   have:=(JY (fun x=>m==x) xs).mp hn m hm;simp at this
 rw[mW,nK [.tmp 4] [] func65]
 by_cases hc:0<=ix (fun x=>m==x) xs
 .rw[sS hc]at e
  simp only[go_sem,E,hc,<- e]
 .rw[sQ hc]at e
  simp only[go_sem,E,hc,<- e]
theorem Lj{B:List Nat}{k:Nat}:(k:Int)∈BP B↔k∈B:=by
 unfold BP;rw[List.mem_map];constructor
 .rintro ⟨j,E,e⟩
  have:j=k:=by omega
  subst this;exact E
 .intro h;exact⟨k,h,rfl⟩
def Em(D:TZ)(o:Nat->Int)(j:Nat):Bool:=D.fr.getD j false && !(!decide (j∈D.B) && decide (Bj D o j<0))
def OW(D:TZ)(o:Nat->Int)(k:Nat):List Bool:=(List.range D.fr.length).map fun j=>if j<k then Em D o j else D.fr.getD j false
theorem mO(D:TZ)(o:Nat->Int)(k:Nat):(OW D o k).length=D.fr.length:=by simp[OW]
theorem mP(D:TZ)(o:Nat->Int){k j:Nat}(h:j<D.fr.length):(OW D o k)[j]'(by rw[mO];exact h)=if j<k then Em D o j else D.fr.getD j false:=by
 simp[OW]
theorem ag5(D:TZ)(o:Nat->Int):OW D o 0=D.fr:=by
 apply yE
 .rw[mO]
 .intro i G E
  rw[mP D o E,su (by omega),zx,zy E];rfl
theorem abE(D:TZ)(o:Nat->Int){k:Nat}(h:k<D.fr.length):(OW D o k).set k (Em D o k)=OW D o (k+1):=by
 apply yE
 .rw[yK,mO,mO]
 .intro i J E
  rw[mO]at E;rw[vJ,mP D o E,mP D o E]
  by_cases e:k=i
  .subst e;rw[sZ rfl,sZ (by omega)]
  .rw[su e]
   by_cases G:i<k
   .rw[sZ G,sZ (by omega)]
   .rw[su G,su (by omega)]
theorem ag6(D:TZ)(o:Nat->Int){k:Nat}(h:k<D.fr.length)(hb:Em D o k=D.fr.getD k false):OW D o k=OW D o (k+1):=by
 rw[<- abE D o h,hb];apply yE
 .rw[yK]
 .intro i E G
  rw[vJ]
  split
  .rename_i e;subst e;rw[mP D o h,su (by omega)]
  .rfl
theorem ar8(D:TZ)(o:Nat->Int){N:Nat}(h:D.fr.length=N):frZ N o D (OW D o N):=by
 refine⟨mO D o N,fun j E=>?_⟩;have e:(OW D o N).getD j false=Em D o j:=by
  rw[zx,zy (by rw[mO];omega),yB,mP D o (by omega),sZ E]
 rw[e];unfold Em;cases D.fr.getD j false with
 |false=>simp
 |true=>
  by_cases hb:j∈D.B<;>by_cases G:Bj D o j<0<;>simp[hb,G]
theorem SN(xs:List Bool)(k:Nat)(b:Bool):(xs.flatMap GZ).set k (Bo b)=(xs.set k b).flatMap GZ:=by
 induction xs generalizing k with
 |nil=>rfl
 |cons x xs E=>
  cases k with
  |zero=>rfl
  |succ k=>
   show Bo x :: (xs.flatMap GZ).set k (Bo b)=Bo x :: (xs.set k b).flatMap GZ;rw[E]
theorem WJ.free{D:TZ}{N:Nat}(h:WJ D N){fr:List Bool}(E:fr.length=N):WJ { D with fr:=fr } N:=⟨h.row,h.A8,h.F6,E,h.sz,h.big,h.AV,h.inB⟩
theorem Dk.free{σ σ':Store}{bt br bb bf:Nat}{rb:List Nat}{D:TZ}{N:Nat}(h:Dk σ bt br bb bf rb D N){fr:List Bool}(O:σ' bf=some ⟨fr.flatMap GZ,1,true⟩)(E:∀b,b≠bf->σ' b=σ b):Dk σ' bt br bb bf rb { D with fr:=fr } N:=by
 obtain⟨n1,n2,S,n4,Y,n6,n7,n8⟩:=nd4 h.nd;obtain⟨OU,G⟩:=h.r;obtain⟨Lh,J⟩:=h.b;exact⟨(E bt S).trans h.t,⟨OU,(E br Y).trans G⟩,fun i hi=>(h.row i hi).congr (E _ (n7 _ (zu hi)).2.2.2),⟨Lh,(E bb n6).trans J⟩,O,h.len,h.nd⟩
theorem kR{σ:Store}{b:Nat}{xs:List Int}(h:σ b=some ⟨xs.flatMap cI,1,true⟩){n:Nat}(hn:xs.length=n)(d:Nat):strip σ (d+1) (.rs b 0 n)=some (LI xs,[b]):=by
 rw[bD,h];simp only[zi,yO,yu,yw,qW];rw[sZ (by omega),zo (by rw[qW];omega),CZ];show some (V.ts _ n,[b])=_;rw[<- hn]
def Obj(o:List Int)(N:Nat):Prop:=o.length=N/\∀x∈o,-1000000<=x/\x<=1000000
abbrev oF(o:List Int)(j:Nat):Int:=o.getD j 0
theorem ar9(Qp:TZ->Prop){N:Nat}{o:List Int}(hI:∀D,Qp D->WJ D N/\0<D.AV)(c4:∀D D',Qp D->EI N (oF o) D D'->Qp D')(ho:Obj o N)
  {σ:Store} {nx bt br bb bf bo:Nat} {rb:List Nat} {D:TZ} {n:Nat} (e9:Qp D) (hn:Il N (oF o) n D) (h:Dk σ bt br bb bf rb D N) (h0:∀b∈bt :: br :: bb :: bf :: rb,b<nx) (e2:σ bo=some ⟨o.flatMap cI,1,true⟩) (e3:bo<nx) (h4:bo∉bt :: br :: bb :: bf :: rb) :
  ∃σ' nx' e4 D',ev Ze pI Ad 219 [.rp bt 0,.rs bo 0 N] σ nx=some (Bo e4,σ',nx')/\Sv N (oF o) D e4 D'/\Dk σ' bt br bb bf rb D' N/\nx<=nx'/\∀b,b<nx->b∉bt :: bb :: bf :: rb->σ' b=σ b:=by
 have c3:=ho.1;have c5:bo∉bt :: bb :: bf :: rb:=fun e=>h4 (by
  simp only[zX]at e⊢;rcases e with e|e|e|e<;>simp[e])
 rw[nK [.tmp 4] [] func219];simp only[go_sem];generalize hL:gI _ _=y
 obtain⟨x,rfl,hx⟩:=je hL (fun m st=>st.T 0= .rp bt 0/\st.T 1= .rs bo 0 N/\nx<=st.nx/\(∀b,b<nx->b∉bt :: bb :: bf :: rb->st.σ b=σ b)/\∃D1,EJ N (oF o) D D1/\Qp D1/\Dk st.σ bt br bb bf rb D1 N /\
   ((st.T 5=Bo true/\∃m',m=m'+1/\Il N (oF o) m' D1)\/(st.T 5=Bo false/\∀j,j<N->D1.fr.getD j false=true->j∉D1.B->¬0<Bj D1 (oF o) j)))
  (fun x=>∃T σ' nx',nx<=nx'/\(∀b,b<nx->b∉bt :: bb :: bf :: rb->σ' b=σ b)/\∃D1,EJ N (oF o) D D1/\Qp D1/\Dk σ' bt br bb bf rb D1 N /\
   ((x=(.ret,⟨T,σ',nx'⟩)/\T 4=Bo false/\∃s,Ik N D1 (oF o) s/\∀i,i<D1.R.length->¬0<en D1.R i s)\/(x=(.exit 0,⟨T,σ',nx'⟩)/\T 0= .rp bt 0/\T 1= .rs bo 0 N/\∀j,j<N->D1.fr.getD j false=true->j∉D1.B->¬0<Bj D1 (oF o) j))) (by
   clear hL;rintro m ⟨T,O,oI⟩ ⟨t0,t1,S,fr,D1,hr,a8,hT,h5⟩;simp only at t0 t1 S hT h5;obtain⟨hS,e5⟩:=hI D1 a8;have a7:=hT.t;rcases h5 with ⟨t5,m',rfl,e6⟩|⟨t5,b7⟩
   .have hlen:=hT.len
    obtain⟨n1,n2,n3,n4,n5,n6,n7,n8⟩:=nd4 hT.nd;have h6:=hS.sz;have c8:O bo=_:=(fr bo e3 c5).trans e2;obtain⟨ids,b4⟩:=P6 hT hS;have a6:=J7 hT hS 6;have b5:=kR c8 c3 6;have X8:=hT.f;refine cu ?_
    conv=>
     enter [1,r,1,1]
     simp only[go_sem,t0,t1,t5,a7]
    generalize hL:gI _ _=z;obtain⟨x,rfl,T1,σ2,CJ,E,hx⟩:=pJ hL N (fun k st=>st.T 0= .rp bt 0/\st.T 1= .rs bo 0 N/\st.T 5=Bo false/\st.T 13=I N/\st.T 14=I k/\st.σ=O/\st.nx=oI/\∀j,j<k->D1.fr.getD j false=true->j∉D1.B->¬0<Bj D1 (oF o) j)
     (fun x=>∃T σ2 CJ,oI<=CJ/\((x=(.exit 2,⟨T,σ2,CJ⟩)/\T 0= .rp bt 0/\T 1= .rs bo 0 N/\T 5=Bo false/\σ2=O/\∀j,j<N->D1.fr.getD j false=true->j∉D1.B->¬0<Bj D1 (oF o) j) \/
      (x=(.exit 2,⟨T,σ2,CJ⟩)/\T 0= .rp bt 0/\T 1= .rs bo 0 N/\T 5=Bo true/\∃D2,EI N (oF o) D1 D2/\Dk σ2 bt br bb bf rb D2 N/\∀b,b<oI->b∉bt :: bb :: bf :: rb->σ2 b=O b) \/
      (x=(.ret,⟨T,σ2,CJ⟩)/\T 4=Bo false/\σ2=O/\∃s,Ik N D1 (oF o) s/\∀i,i<D1.R.length->¬0<en D1.R i s))) (by
      clear hL;rintro k ⟨T,σ2,CJ⟩ hk ⟨t0,t1,t5,t13,t14,b8,E,a1⟩;simp only at t0 t1 t5 t13 t14 b8 E;subst b8 E;have f1:(k:Int)<(N:Int):=by omega
      have f2:=jL k;have f3:=Zl (n:=(k:Int)+1);have b6:k<D1.fr.length:=by rw[hS.WL];exact hk
      have f4:=dR Bo D1.fr k b6;have b2:(D1.fr.flatMap GZ)[k]?=some (Bo (D1.fr.getD k false)):=by
       rw[zx,zy b6];exact f4
      have k1:=an8 (BP D1.B) k (by rw[aV,hS.A8];have:=hS.F6;omega);have k2:=al5 D1 N hS o c3 ho.2 k hk;have step:∀(b9:¬(D1.fr.getD k false=true/\k∉D1.B/\0<Bj D1 (oF o) k)),∀j,j<k+1->D1.fr.getD j false=true->j∉D1.B->¬0<Bj D1 (oF o) j:=fun b9 j hj h1 h2 h3=>by
       by_cases e:j=k
       .subst e;exact b9 ⟨h1,h2,h3⟩
       .exact a1 j (by omega) h1 h2 h3
      cases G:D1.fr.getD k false with
      |false=>
       rw[G]at b2;refine .inl ⟨_,by simp only[go_sem,t0,t1,t5,t13,t14,a7,X8,f1,f2,f3,b2];rfl,?_⟩;simp only[go_sem,t0,t1,t5,t13];exact⟨rfl,step fun h=>by rw[G]at h;cases h.1⟩
      |true=>
       rw[G]at b2
       by_cases hm:k∈D1.B
       .rw[sS (Lj.mpr hm)]at k1
        refine .inl ⟨_,by simp only[go_sem,t0,t1,t5,t13,t14,a7,X8,f1,f2,f3,b2,a6,k1];rfl,?_⟩;simp only[go_sem,t0,t1,t5,t13];exact⟨rfl,step fun h=>h.2.1 hm⟩
       .rw[sQ (mt Lj.mp hm)]at k1
        by_cases hg:0<Bj D1 (oF o) k
        .have c1:¬Ah (Bj D1 (oF o) k) 0<=0:=fun e=>(pX _).mp e hg
         have b3:Ik N D1 (oF o) k:=⟨hk,G,hm,hg,fun j hj=>a1 j hj⟩;obtain⟨r,k3,hb⟩:=agX D1 N hS k hk;rcases hb with ⟨rfl,hb⟩|⟨r',rfl,e7,h7,h8,h9⟩
         .have c2:(-1:Int)<0:=by decide
          refine .inr ⟨_,by simp only[go_sem,t0,t1,t5,t13,t14,a7,X8,f1,f2,f3,b2,a6,k1,b4,b5,k2,c1,k3,c2];rfl,by simp,_,_,_,zq _,.inr (.inr ⟨rfl,?_⟩)⟩;simp only[go_sem];exact⟨k,b3,hb⟩
         .have c2:¬(r':Int)<0:=by omega
          obtain⟨i3,Ar,k4,NJ,i0,i1⟩:=ag1 hT hS (fun b hb=>xR (h0 b hb) S) e7 hk (by omega) (by omega);refine .inr ⟨_,by simp only[go_sem,qM,t0,t1,t5,t13,t14,a7,X8,f1,f2,f3,b2,a6,k1,b4,b5,k2,c1,k3,c2,k4];rfl,by simp,_,_,_,i0,.inr (.inl ⟨rfl,?_⟩)⟩;simp only[go_sem,t0,t1];refine⟨_,⟨k,r',b3,⟨e7,h7,fun i hi hp=>h8 i hi hp,fun i hi hp he=>h9 i hi hp he⟩,rfl⟩,NJ,fun b hb Y=>?_⟩;simp only[zX,not_or]at Y;exact i1 b hb Y.1 Y.2.1 Y.2.2.2
        .have c1:Ah (Bj D1 (oF o) k) 0<=0:=(pX _).mpr hg
         refine .inl ⟨_,by simp only[go_sem,t0,t1,t5,t13,t14,a7,X8,f1,f2,f3,b2,a6,k1,b4,b5,k2,c1];rfl,?_⟩;simp only[go_sem,t0,t1,t5,t13];exact⟨rfl,step fun h=>hg h.2.2⟩) (by
      clear hL;rintro ⟨T,σ2,CJ⟩ ⟨t0,t1,t5,t13,t14,b8,E,a1⟩;simp only at t0 t1 t5 t13 t14 b8 E;subst b8 E;refine⟨_,by simp only[go_sem,t13,t14,zk];rfl,by simp,_,_,_,zq _,.inl ⟨rfl,?_⟩⟩;simp only[go_sem,t0,t1,t5];exact a1) (by
      simp only[go_sem,t0,t1];exact fun j hj=>absurd hj (zU j))
    rcases hx with ⟨rfl,t0,t1,t5,rfl,a1⟩|⟨rfl,t0,t1,t5,D2,c9,c0,e0⟩|⟨rfl,t4,rfl,FZ⟩
    .refine⟨_,by simp only[go_sem],.inl ⟨⟨T1,_,CJ⟩,rfl,m',by omega,t0,t1,zL S E,fr,D1,hr,a8,hT,.inr ⟨t5,a1⟩⟩⟩
    .cases m' with
     |zero=>exact absurd e6 id
     |succ e8=>
      refine⟨_,by simp only[go_sem],.inl ⟨⟨T1,_,CJ⟩,rfl,e8+1,by omega,t0,t1,zL S E,fun b hb Y=>?_,D2,hr.tail c9,c4 _ _ a8 c9,c0,.inl ⟨t5,e8,rfl,e6 D2 c9⟩⟩⟩;exact(e0 b (xR hb S) Y).trans (fr b hb Y)
    .refine⟨_,by simp only[go_sem],.inr ⟨by simp,_,_,CJ,zL S E,fr,D1,hr,a8,hT,.inl ⟨rfl,t4,FZ⟩⟩⟩
   .refine .inr ⟨_,by simp only[go_sem,t5];rfl,by simp,_,O,oI,S,fr,D1,hr,a8,hT,.inr ⟨rfl,?_⟩⟩
    simp only[go_sem,t0,t1];exact b7) (n+1) (by
   simp only[go_sem];exact⟨fun _ _ _=>trivial,D,EJ.refl D,e9,h,.inl ⟨n,rfl,hn⟩⟩)
 obtain⟨T1,O,oI,S,fr,D1,hr,a8,hT,hx⟩:=hx;obtain⟨hS,e5⟩:=hI D1 a8;rcases hx with ⟨rfl,t4,s,b3,FZ⟩|⟨rfl,t0,t1,b7⟩
 .exact⟨O,oI,false,D1,by simp only[go_sem,t4],⟨D1,hr,.inr ⟨rfl,rfl,s,b3,FZ⟩⟩,hT,S,fr⟩
 .have a7:=hT.t
  have hlen:=hT.len;obtain⟨n1,n2,n3,n4,n5,n6,n7,n8⟩:=nd4 hT.nd;have h6:=hS.sz;simp only[go_sem,t0,a7];generalize hL:gI _ _=z;obtain⟨x,rfl,T2,σ2,rfl,e0,J⟩:=pJ hL N (fun k st=>st.T 0= .rp bt 0/\st.T 1= .rs bo 0 N/\st.T 53=I N/\st.T 54=I k/\st.nx=oI/\st.σ bf=some ⟨(OW D1 (oF o) k).flatMap GZ,1,true⟩/\∀b,b≠bf->st.σ b=O b)
   (fun x=>∃T σ2,x=(.exit 4,⟨T,σ2,oI⟩)/\σ2 bf=some ⟨(OW D1 (oF o) N).flatMap GZ,1,true⟩/\∀b,b≠bf->σ2 b=O b) (by
    clear hL;rintro k ⟨T,σ2,CJ⟩ hk ⟨t0,t1,t53,t54,E,X8,J⟩;simp only at t0 t1 t53 t54 E X8;subst E;have hl:(OW D1 (oF o) k).length=N:=by rw[mO];exact hS.WL
    have c0:=hT.free X8 J;have e1:=hS.free hl;have NK:=c0.t;obtain⟨ids,b4⟩:=P6 c0 e1;have a6:=J7 c0 e1 6;have c8:σ2 bo=_:=(J bo fun e=>c5 (by simp[e])).trans ((fr bo e3 c5).trans e2);have b5:=kR c8 c3 6;have f1:(k:Int)<(N:Int):=by omega
    have f2:=jL k;have f3:=Zl (n:=(k:Int)+1);have b6:k<D1.fr.length:=by rw[hS.WL];exact hk
    have f4:((OW D1 (oF o) k).flatMap GZ)[k]?=some (Bo (D1.fr.getD k false)):=by
     rw[dR Bo (OW D1 (oF o) k) k (by omega),mP _ _ b6,su (by omega)]
    have f5:k<((OW D1 (oF o) k).flatMap GZ).length:=by rw[akE,hl];omega
    have k1:=an8 (BP D1.B) k (by rw[aV,hS.A8];have:=hS.F6;omega);have k2:=al5 _ N e1 o c3 ho.2 k hk;have eg:Bj { D1 with fr:=OW D1 (oF o) k } (fun j=>o.getD j 0) k=Bj D1 (oF o) k:=rfl;rw[eg]at k2;simp only at NK a6;have keep:Em D1 (oF o) k=D1.fr.getD k false->σ2 bf=some ⟨(OW D1 (oF o) (k+1)).flatMap GZ,1,true⟩:=fun h=>by rw[<- ag6 _ _ b6 h];exact X8
    cases G:D1.fr.getD k false with
    |false=>
     rw[G]at f4;refine .inl ⟨_,by simp only[go_sem,t0,t1,t53,t54,NK,X8,f1,f2,f3,f4];rfl,?_⟩;simp only[go_sem,t0,t1,t53];exact⟨rfl,keep (by unfold Em;rw[G];rfl),J⟩
    |true=>
     rw[G]at f4
     by_cases hm:k∈D1.B
     .rw[sS (Lj.mpr hm)]at k1
      refine .inl ⟨_,by simp only[go_sem,t0,t1,t53,t54,NK,X8,f1,f2,f3,f4,a6,k1];rfl,?_⟩;simp only[go_sem,t0,t1,t53];exact⟨rfl,keep (by unfold Em;rw[G,sS hm];rfl),J⟩
     .rw[sQ (mt Lj.mp hm)]at k1
      by_cases hg:Bj D1 (oF o) k<0
      .have c1:Ah (Bj D1 (oF o) k) 0<0:=(cmp_neg _).mpr hg
       have c6:=SN (OW D1 (oF o) k) k false;have c7:=abE D1 (oF o) b6;have i2:Em D1 (oF o) k=false:=by unfold Em;rw[G,sQ hm,sS hg];rfl
       rw[i2]at c7;rw[c7]at c6;refine .inl ⟨_,by simp only[go_sem,t0,t1,t53,t54,NK,X8,f1,f2,f3,f4,f5,a6,k1,b4,b5,k2,c1,c6];rfl,?_⟩;simp only[go_sem,t0,t1,t53];refine⟨rfl,fun b hb=>?_⟩;rw[aG _ _ hb];exact J b hb
      .have c1:¬Ah (Bj D1 (oF o) k) 0<0:=fun e=>hg ((cmp_neg _).mp e)
       refine .inl ⟨_,by simp only[go_sem,t0,t1,t53,t54,NK,X8,f1,f2,f3,f4,a6,k1,b4,b5,k2,c1];rfl,?_⟩;simp only[go_sem,t0,t1,t53];exact⟨rfl,keep (by unfold Em;rw[G,sQ hm,sQ hg];rfl),J⟩) (by
    clear hL;rintro ⟨T,σ2,CJ⟩ ⟨t0,t1,t53,t54,E,X8,J⟩;simp only at t0 t1 t53 t54 E X8;subst E;exact⟨_,by simp only[go_sem,t53,t54,zk];rfl,by simp,_,_,rfl,X8,J⟩) (by
    simp only[go_sem,t0,t1];refine⟨?_,fun _ _=>trivial⟩;rw[ag5];exact hT.f)
  refine⟨σ2,oI,true,_,by simp only[go_sem],⟨D1,hr,.inl ⟨rfl,b7,OW D1 (oF o) N,ar8 _ _ hS.WL,rfl⟩⟩,hT.free e0 J,S,fun b hb Y=>?_⟩;rw[J b fun e=>Y (by simp[e])];exact fr b hb Y
section
variable {P:Program} {conv:FuncId->Conv} {call:TV.Call} (d:Option Tmp) (ty:TypeId) (ps:String) (af:Array Edge) (gd:Option (Nat×Bool)) (T:Nat->V) (σ:Store) (nx:Nat)
theorem aas(t:TypeId)(x:Operand)(lo hi E:Option Operand):yI conv T σ ⟨d,.slice t x lo hi E,ty,ps,af,gd⟩=zI (val T x):=rfl
theorem akF(t:TypeId)(x:Operand)(lo hi E:Option Operand):writer conv ⟨d,.slice t x lo hi E,ty,ps,af,gd⟩=false:=rfl
theorem mV(s x:Operand)(ts:Array TypeId):yI conv T σ ⟨d,.call ⟨.builtin .append,#[s,x],ts⟩,ty,ps,af,gd⟩=zI (val T s)++zI (val T x):=by
 show([val T s,val T x].flatMap zI)=_;simp only[zO,wE,zM]
theorem MI(s x:Operand)(ts:Array TypeId):writer conv ⟨d,.call ⟨.builtin .append,#[s,x],ts⟩,ty,ps,af,gd⟩=true:=rfl
def SQ(P:Program)(σ:Store)(nx:Nat)(t:TypeId)(lo hi E:Option V):V->Option V
 | .rs b off len=>if b<nx then AL P t (.rs b off len) lo hi E σ else none
 |v=>if((zI v).all fun b=>decide (b<nx))=true then AL P t v lo hi E (restrict σ (zI v))else none
theorem ad3(t:TypeId)(x:Operand)(lo hi E:Option Operand):Af P conv call ⟨d,.slice t x lo hi E,ty,ps,af,gd⟩ T σ nx=(SQ P σ nx t (lo.map (val T)) (hi.map (val T)) (E.map (val T)) (val T x)).map (·,σ,nx):=by
 rw[nX (F:=zI (val T x)) T σ nx rfl (fun _=>rfl)];show(if((zI (val T x)).all fun b=>decide (b<nx))=true then match(AL P t (val T x) (lo.map (val T)) (hi.map (val T)) (E.map (val T)) (restrict σ (zI (val T x)))).map (·,restrict σ (zI (val T x)),nx)with|some (v,σ1,oI)=>some (v,xI (zI (val T x)) nx oI σ σ1,oI)|none=>none else none)=_;generalize val T x=v;have gen:(if((zI v).all fun b=>decide (b<nx))=true then match(AL P t v (lo.map (val T)) (hi.map (val T)) (E.map (val T)) (restrict σ (zI v))).map (·,restrict σ (zI v),nx)with|some (w,σ1,oI)=>some (w,xI (zI v) nx oI σ σ1,oI)|none=>none else none)=(if((zI v).all fun b=>decide (b<nx))=true then AL P t v (lo.map (val T)) (hi.map (val T)) (E.map (val T)) (restrict σ (zI v))else none).map (·,σ,nx):=by
  split
  .cases AL P t v (lo.map (val T)) (hi.map (val T)) (E.map (val T)) (restrict σ (zI v))with
   |none=>rfl
   |some w=>simp only[zH,iU]
  .rfl
 rw[gen];cases v with
 |rs b off len=>
  have key:AL P t (.rs b off len) (lo.map (val T)) (hi.map (val T)) (E.map (val T)) (restrict σ [b])=AL P t (.rs b off len) (lo.map (val T)) (hi.map (val T)) (E.map (val T)) σ:=by
   unfold AL restrict;simp
  simp only[zI,uT,vP,Bool.and_true,decide_eq_true_eq,SQ,key]
 |_=>rfl
theorem ad4(t:TypeId)(lo hi E:Option V)(b off len:Nat):SQ P σ nx t lo hi E (.rs b off len)=if b<nx then AL P t (.rs b off len) lo hi E σ else none:=rfl
def ar_(F:List Nat)(σ:Store)(nx:Nat):JG->JG
 |some (v,σ1,oI)=>some (v,xI F nx oI σ σ1,oI)
 |none=>none
theorem ad5(F:List Nat)(v:V)(E:Store)(G:Nat):ar_ F σ nx (some (v,E,G))=some (v,xI F nx G σ E,G):=rfl
theorem jD(s x:Operand)(t u:TypeId):Af P conv call ⟨d,.call ⟨.builtin .append,#[s,x],#[t,u]⟩,ty,ps,af,gd⟩ T σ nx=
  if((zI (val T s)++zI (val T x)).all fun b=>decide (b<nx))=true then ar_ (zI (val T s)++zI (val T x)) σ nx (Dt P #[t,u] (val T s) (val T x) (restrict σ (zI (val T s)++zI (val T x))) nx)else none:=by
 rw[nX (F:=zI (val T s)++zI (val T x)) T σ nx (by
  show some ([val T s,val T x].flatMap zI)=_;simp only[zO,wE,zM]) (fun _=>rfl)]
 rfl
end
attribute [go_sem] aas akF mV MI ad3 ad4 jD ad5 vS
theorem gK(σ:Store)(b:Nat):restrict σ [b,b] b=σ b:=by unfold restrict;simp
theorem OX(σ:Store)(b nx:Nat)(x:Option FU):xI [b,b] nx nx σ (upd (restrict σ [b,b]) b x)=upd σ b x:=by
 funext i;unfold xI upd restrict
 by_cases h:i=b
 .simp[h]
 .rw[su (by simp only[zX,zJ,or_false,or_self,h,false_or];omega),su h]
theorem gQ(σ:Store)(b:Nat):restrict σ [b] b=σ b:=by unfold restrict;simp
theorem rH(σ:Store)(nx size bytes b off len:Nat)(row:List V)(m:Nat):Ae σ nx size bytes (.rs b off len) row m=(σ b).bind fun B=>if m=0 then some (.rs b off len,σ,nx)else
      if off+(len+m)*size<=B.cells.length then
    if B.wr=true/\B.st=size/\row.all qI=true then some (.rs b off (len+m),upd σ b (some { B with cells:=patch B.cells (off+len*size) row }),nx)else none
      else if off+len*size=B.cells.length/\B.st=size/\len+m<=maxLen/\(len+m)*bytes<=140737488355328/\row.all qI=true then
    some (.rs nx 0 (len+m),upd (upd σ b none) nx (some ⟨B.cells.drop off++row,size,B.wr⟩),nx+1)
      else none:=by
 cases h:σ b with
 |none=>simp only[Ae,h];rfl
 |some B=>simp only[Ae,h];rfl
theorem aat(σ:Store)(b nx:Nat):xI [b] nx nx σ (restrict σ [b])=σ:=by
 funext i;unfold xI restrict
 by_cases h:i=b
 .simp[h]
 .rw[su (by simp only[wF,h,false_or];omega)]
theorem WW(σ:Store)(nx size bytes b off len:Nat)(row:List V){B:FU}(h:σ b=some B):Ae σ nx size bytes (.rs b off len) row 0=some (.rs b off len,σ,nx):=by
 unfold Ae;simp only[h,if_true]
theorem aoa{σ:Store}{nx bytes b len m:Nat}{row cells:List V}(h:σ b=some ⟨cells,1,true⟩)(hm:m≠0)(G:len+m<=cells.length)(E:row.all qI=true) :
  Ae σ nx 1 bytes (.rs b 0 len) row m=some (.rs b 0 (len+m),upd σ b (some ⟨patch cells len row,1,true⟩),nx):=by
 unfold Ae;simp only[h];rw[su hm,sZ (by omega),sZ ⟨by trivial,by trivial,E⟩];simp
attribute [go_sem] gK gQ rH OX aat
theorem iQ(L ex:List V){i m:Nat}(hm:L.length=m)(hi:i<m)(J:m - (i+1)≠0):∃E,patch (L++ex) i (L.drop (i+1))=L.eraseIdx i++E:=by
 have G:(L.drop (i+1)).length=m - (i+1):=by rw[yj,hm]
 rw[iR _ _ _ (by rw[G,zl,hm];omega)];refine⟨(L++ex).drop (i+(m - (i+1))),?_⟩;rw[G,uo (by omega),vG]
theorem NM(L ex:List V){i:Nat}(h:i+1=L.length):∃E,L++ex=L.eraseIdx i++E:=by
 refine⟨L.drop i++ex,?_⟩;rw[vG,xZ (l:=L) (i:=i+1) (by omega),zM,<- zF,wQ]
theorem jY{α β:Type}(f:α->β)(l:List α)(i:Nat):(l.map f).eraseIdx i=(l.eraseIdx i).map f:=by
 induction l generalizing i with
 |nil=>rfl
 |cons a l E=>cases i with
  |zero=>rfl
  |succ i=>show f a :: (l.map f).eraseIdx i=_;rw[E];rfl
def P7(D:TZ)(i:Nat):TZ:={ D with R:=D.R.eraseIdx i,B:=D.B.eraseIdx i }
theorem Dk.dropped{σ σ':Store}{bt br bb bf:Nat}{rb:List Nat}{D:TZ}{N i:Nat}(h:Dk σ bt br bb bf rb D N)(hi:i<D.R.length)(a1:D.B.length=D.R.length)
  (ht:σ' bt=some ⟨[.rs br 0 (D.R.length-1),Bo (decide (D.AV<0)),LI (dg D.AV.natAbs),.rs bb 0 (D.R.length-1),I N,.rs bf 0 N],0,true⟩)
  (E:∃ex,σ' br=some ⟨(rb.map (fun b=>V.rs b 0 (N+1))).eraseIdx i++ex,1,true⟩) (hb:∃ex,σ' bb=some ⟨((BP D.B).flatMap cI).eraseIdx i++ex,1,true⟩) (Y:∀b,b≠bt->b≠br->b≠bb->σ' b=σ b) :
  Dk σ' bt br bb bf (rb.eraseIdx i) (P7 D i) N:=by
 obtain⟨n1,n2,n3,n4,n5,n6,n7,n8⟩:=nd4 h.nd;have hl:(D.R.eraseIdx i).length=D.R.length-1:=yT hi;have hlen:=h.len;obtain⟨G,E⟩:=E;obtain⟨J,hb⟩:=hb;refine⟨?_,⟨G,?_⟩,fun j O=>?_,⟨J,?_⟩,?_,?_,?_⟩
 .show σ' bt=some ⟨[.rs br 0 (D.R.eraseIdx i).length,_,_,.rs bb 0 (D.R.eraseIdx i).length,_,_],0,true⟩
  rw[hl];exact ht
 .rw[E,jY]
 .have a6:j<rb.length-1:=by rw[yT (by omega)]at O;exact O
  have e:DK (D.R.eraseIdx i) j=DK D.R (if j<i then j else j+1):=by
   unfold DK;rw[lT]
  show Ee σ' (rb.eraseIdx i)[j] (DK (D.R.eraseIdx i) j);have S:(if j<i then j else j+1)<rb.length:=by split<;>omega
  have e2:(rb.eraseIdx i)[j]=rb[if j<i then j else j+1]:=by
   have:(rb.eraseIdx i)[j]?=rb[if j<i then j else j+1]?:=by
    rw[List.getElem?_eraseIdx];split<;>rfl
   rw[zy O,zy S]at this;exact Option.some.inj this
  rw[e,e2];have hn:=n7 _ (zu S);exact(h.row _ S).congr (Y _ hn.1 hn.2.1 hn.2.2.1)
 .rw[hb]
  have:((BP D.B).flatMap cI).eraseIdx i=(BP (D.B.eraseIdx i)).flatMap cI:=by
   have e1:∀xs:List Int,xs.flatMap cI=xs.map I:=fun xs=>by
    induction xs with
    |nil=>rfl
    |cons x xs ih=>rw[zO,ih];rfl
   rw[e1,e1,jY];unfold BP;rw[jY]
  rw[this];rfl
 .rw[Y bf (zD n3) (zD n5) (zD n6)];exact h.f
 .show(rb.eraseIdx i).length=(D.R.eraseIdx i).length
  rw[hl,yT (by omega),hlen]
 .exact h.nd.sublist ((((tJ rb i).cons_cons bf).cons_cons bb).cons_cons br|>.cons_cons bt)
theorem aob(Qp:TZ->Prop){N n:Nat}(hQ:∀D,Qp D->WJ D N/\0<D.AV)(h6:n<=N)(h1:∀D i k,Qp D->i<D.R.length->n<=D.B.getD i 0->k<n->en D.R i k≠0->Qp (FM D i k))
  (h2:∀D i,Qp D->i<D.R.length->n<=D.B.getD i 0->(∀k,k<n->en D.R i k=0)->Qp (P7 D i))
  {σ:Store} {nx bt br bb bf:Nat} {rb:List Nat} {D:TZ} (hD:Qp D) (h:Dk σ bt br bb bf rb D N) (c9:∀b∈bt :: br :: bb :: bf :: rb,b<nx) :
  ∃σ' nx' G5 D',ev Ze pI Ad 261 [.rp bt 0,I n] σ nx=some (.Au [],σ',nx')/\Dk σ' bt br bb bf G5 D' N/\nx<=nx'/\Qp D'/\(∀i,i<D'.R.length->D'.B.getD i 0<n)/\G5.Sublist rb/\∀b,b<nx->b∉bt :: br :: bb :: rb->σ' b=σ b:=by
 rw[nK [] [10,11] func261];simp only[go_sem];generalize hL:gI _ _=y;obtain⟨x,rfl,T',σ',nx',G5,D',rfl,hT,S,e0,b9,G,a6⟩:=je hL (fun m st=>st.T 0= .rp bt 0/\st.T 1=I n/\nx<=st.nx/\∃i G5 D',st.T 4=I ((i:Nat):Int)/\m+i=D'.R.length/\Dk st.σ bt br bb bf G5 D' N/\Qp D'/\(∀j,j<i->D'.B.getD j 0<n)/\G5.Sublist rb/\∀b,b<nx->b∉bt :: br :: bb :: rb->st.σ b=σ b)
  (fun x=>∃T σ' nx' G5 D',x=(.exit 0,⟨T,σ',nx'⟩)/\Dk σ' bt br bb bf G5 D' N/\nx<=nx'/\Qp D'/\(∀i,i<D'.R.length->D'.B.getD i 0<n)/\G5.Sublist rb/\∀b,b<nx->b∉bt :: br :: bb :: rb->σ' b=σ b) (by
   clear hL;rintro m ⟨T,Y,oI⟩ ⟨t0,t1,S,i,O,D1,t4,h7,hT,Ue,a1,G,a6⟩;simp only at t0 t1 t4 S hT;obtain⟨hS,h5⟩:=hQ D1 Ue;have a7:=hT.t;have hR:=hS.F6;have hlen:=hT.len;obtain⟨OU,b2⟩:=hT.r;obtain⟨Lh,b3⟩:=hT.b;have hB:(BP D1.B).length=D1.R.length:=by rw[aV];exact hS.A8
   have a8:∀b∈bt :: br :: bb :: bf :: O,b<oI:=fun b hb=>by
    refine xR (c9 b ?_) S;simp only[zX]at hb⊢;rcases hb with h|h|h|h|h
    .exact .inl h
    .exact .inr (.inl h)
    .exact .inr (.inr (.inl h))
    .exact .inr (.inr (.inr (.inl h)))
    .exact .inr (.inr (.inr (.inr (G.subset h))))
   obtain⟨n1,n2,n3,n4,n5,n6,n7,n8⟩:=nd4 hT.nd
   by_cases hi:i<D1.R.length
   .have f1:(i:Int)<(D1.R.length:Int):=by omega
    have f2:=jL i;have f3:=Zl (n:=(i:Int)+1);have f4:((BP D1.B).flatMap cI++Lh)[i]?=some (I ((D1.B.getD i 0:Nat):Int)):=by
     rw[zW (by rw[qW];omega),idx (by omega),aW (by have:=hS.A8;omega)]
    by_cases hb:D1.B.getD i 0<n
    .have f5:((D1.B.getD i 0:Nat):Int)<(n:Int):=by omega
     refine .inl ⟨_,by simp only[go_sem,t0,t1,t4,a7,b3,f1,f2,f3,f4,f5];rfl,m-1,by omega,?_⟩;simp only[go_sem,t0,t1];refine⟨S,i+1,O,D1,rfl,by omega,hT,Ue,fun j hj=>?_,G,a6⟩
     by_cases e:j=i
     .subst e;exact hb
     .exact a1 j (by omega)
    .have f5:¬((D1.B.getD i 0:Nat):Int)<(n:Int):=by omega
     have c0:i<O.length:=by omega
     have f6:=gi (ex:=OU) (n:=N+1) c0;obtain⟨bi,EX⟩:∃bi,bi=O[i]:=⟨_,rfl⟩;rw[<- EX]at f6;obtain⟨Li,SK,Gv,SL⟩:=hT.row i c0;have c4:Y bi=some ⟨Li.flatMap zc,2,true⟩:=by rw[EX];exact SK
     have rl:(DK D1.R i).length=N+1:=by rw[fG hi];exact hS.row _ (zu hi)
     have KG:Li.length=N+1:=by have:=congrArg List.length Gv;rw[zV,rl]at this;exact this
     have b7:=dN (c:=zc) (s:=2) Zh Li;rw[KG]at b7;refine cu ?_
     conv=>
      enter [1,r,1,1]
      simp only[go_sem,t0,t1,t4,a7,b3,f1,f2,f4,f5]
     generalize hL:gI _ _=z;obtain⟨x,rfl,T1,k,rfl,t0,t1,t4,t5,h8,hz,c5⟩:=je hL (fun q st=>st.T 0= .rp bt 0/\st.T 1=I n/\st.T 4=I i/\st.σ=Y/\st.nx=oI/\∃k,st.T 5=I ((k:Nat):Int)/\q+k=n/\∀j,j<k->en D1.R i j=0)
      (fun x=>∃T k,x=(.exit 2,⟨T,Y,oI⟩)/\T 0= .rp bt 0/\T 1=I n/\T 4=I i/\T 5=I ((k:Nat):Int)/\k<=n/\(∀j,j<k->en D1.R i j=0)/\(k<n->en D1.R i k≠0)) (by
       clear hL;rintro q ⟨T,σ2,CJ⟩ ⟨t0,t1,t4,c6,c7,k,t5,h9,hz⟩;simp only at t0 t1 t4 t5 c6 c7;subst c6 c7
       by_cases hk:k<n
       .have g1:(k:Int)<(n:Int):=by omega
        have g2:=jL k;have i0:=hS.sz;have g3:=Zl (n:=(k:Int)+1);have g4:=dS (c:=zc) (s:=2) Zh Li k (by omega);have g5:k*2+2<=(N+1)*2:=by omega
        have g6:(k:Int)<((N+1:Nat):Int):=by omega
        obtain⟨hq,e⟩:=P5 Gv (c:=k) (by rw[rl];omega);have e2:(DK D1.R i)[k]'(by rw[rl];omega)=en D1.R i k:=by
         unfold en;rw[zx,zy];rfl
        have z1:∀σ d,stripL (strip σ d) (zc Li[k])=some (cZ (en D1.R i k),[]):=fun σ d=>by
         rw[Zg σ d (SL _ (zu hq)),e,e2]
        have k1:=kP (en D1.R i k);have c1:=NC (en D1.R i k)
        by_cases b5:en D1.R i k=0
        .rw[sS b5]at c1
         refine .inl ⟨_,by simp only[go_sem,t0,t1,t4,t5,a7,b2,c4,f1,f2,f6,g1,g2,g3,g4,g5,g6,b7,z1,k1,c1];rfl,q-1,by omega,?_⟩;simp only[go_sem,t0,t1,t4];refine⟨k+1,rfl,by omega,fun j hj=>?_⟩
         by_cases e:j=k
         .subst e;exact b5
         .exact hz j (by omega)
        .rw[sQ b5]at c1
         refine .inr ⟨_,by simp only[go_sem,t0,t1,t4,t5,a7,b2,c4,f1,f2,f6,g1,g2,g3,g4,g5,g6,b7,z1,k1,c1];rfl,by simp,_,k,rfl,?_⟩;simp only[go_sem,t0,t1,t4,t5];exact⟨by omega,hz,fun _=>b5⟩
       .have g1:¬(k:Int)<(n:Int):=by omega
        refine .inr ⟨_,by simp only[go_sem,t1,t5,g1];rfl,by simp,_,k,rfl,?_⟩;simp only[go_sem,t0,t1,t4,t5];exact⟨by omega,hz,fun h=>absurd h hk⟩) n (by
       simp only[go_sem,t0,t1,t4];exact⟨0,rfl,by omega,fun j hj=>absurd hj (zU j)⟩)
     by_cases hk:k<n
     .have g1:(k:Int)<(n:Int):=by omega
      obtain⟨i1,Ar,k4,NJ,i2,e3⟩:=ag1 hT hS a8 hi (by omega) (c5 hk) (by omega);have b6:=h1 D1 i k Ue hi (by omega) hk (c5 hk);have b8:(FM D1 i k).R.length=D1.R.length:=by
       unfold FM
       split
       .exact iJ ..
       .show(negR _).length=_;rw[Nh,iJ]
      have e4:(FM D1 i k).B=D1.B.set i k:=by unfold FM;split<;>rfl
      refine⟨_,by simp only[go_sem,qM,t0,t1,t4,t5,g1,f3,k4];rfl,.inl ⟨_,rfl,m-1,by omega,?_⟩⟩;simp only[go_sem,t0,t1];refine⟨by omega,i+1,O,_,rfl,by omega,NJ,b6,fun j hj=>?_,G,fun b b4 E=>?_⟩
      .rw[e4,lM (by have:=hS.A8;omega)]
       by_cases e:j=i
       .rw[sZ e];exact hk
       .rw[su e];exact a1 j (by omega)
      .simp only[zX,not_or]at E
       exact(e3 b (by omega) E.1 E.2.2.1 fun e=>E.2.2.2 (G.subset e)).trans (a6 b b4 (by simp only[zX,not_or];exact E))
     .have g1:¬(k:Int)<(n:Int):=by omega
      have hzero:∀j,j<n->en D1.R i j=0:=fun j hj=>hz j (by omega)
      have b6:=h2 D1 i Ue hi (by omega) hzero;have g2:(0:Int)<=(i:Int)+1:=by omega
      have c8:D1.B.length=D1.R.length:=hS.A8;have h3:restrict Y [br,br] br=_:=(gK Y br).trans b2;have h4:restrict Y [bb,bb] bb=_:=(gK Y bb).trans b3;have p1:bt<oI:=a8 bt (by simp);have p2:br<oI:=a8 br (by simp);have p3:bb<oI:=a8 bb (by simp);have p4:(i:Int)+1<=(D1.R.length:Int):=by omega
      have p5:(i:Int)<=(D1.R.length:Int):=by omega
      have q0:(O.map (fun b=>V.rs b 0 (N+1))).length=D1.R.length:=by rw[zV,hlen]
      have q1:i<=(O.map (fun b=>V.rs b 0 (N+1))++OU).length:=by rw[zl,q0];omega
      have q2:D1.R.length<=(O.map (fun b=>V.rs b 0 (N+1))++OU).length:=by rw[zl,q0];omega
      have q3:i<=((BP D1.B).flatMap cI++Lh).length:=by rw[zl,qW];omega
      have q4:D1.R.length<=((BP D1.B).flatMap cI++Lh).length:=by rw[zl,qW];omega
      have q5:((i:Int)+1).toNat=i+1:=by omega
      have b8:(P7 D1 i).R.length=D1.R.length-1:=yT hi;have w1:(bt==br)=false:=beq_eq_false_iff_ne.mpr n1;have w2:(br==bt)=false:=beq_eq_false_iff_ne.mpr (zD n1);have w3:(bt==bb)=false:=beq_eq_false_iff_ne.mpr n2;have w4:(bb==bt)=false:=beq_eq_false_iff_ne.mpr (zD n2);have v1:¬bb=bt:=zD n2;have v2:¬bb=br:=zD n4;have v3:¬br=bt:=zD n1
      by_cases J:i+1=D1.R.length
      .have q6:i+1<=D1.R.length:=by omega
       have q7:¬D1.R.length=0:=by omega
       refine⟨_,by simp only[go_sem,t0,t1,t4,t5,g1,g2,f1,f2,f3,a7,b2,b3,h3,h4,q1,q2,q3,q4,q5,q6,q7,J,v1,v2,v3,w1,w2,w3,w4,p1,p2,p3,p4,p5,n1,n2,n3,n4,n5,n6];rfl,.inl ⟨_,rfl,m-1,by omega,?_⟩⟩;simp only[go_sem,t0,t1,t4];refine⟨S,i,O.eraseIdx i,P7 D1 i,rfl,by rw[b8];omega,?_,b6,fun j hj=>?_,(tJ O i).trans G,fun b b4 E=>?_⟩
       .refine Dk.dropped hT hi c8 (by rw[aF,<- J];rfl)
         (by
          obtain⟨e1,he⟩:=NM (O.map (fun b=>V.rs b 0 (N+1))) OU (i:=i) (by rw[q0];exact J);exact⟨e1,by rw[aG _ _ v3,b2,he]⟩)
         (by
          obtain⟨e1,he⟩:=NM ((BP D1.B).flatMap cI) Lh (i:=i) (by rw[qW,hB];exact J);exact⟨e1,by rw[aG _ _ v1,b3,he]⟩) fun b c1 c2 c3=>aG _ _ c1
       .show(D1.B.eraseIdx i).getD j 0<n
        rw[lT,sZ hj];exact a1 j hj
       .simp only[zX,not_or]at E
        rw[aG _ _ E.1];exact a6 b b4 (by simp only[zX,not_or];exact E)
      .have q6:i+1<=D1.R.length:=by omega
       have q7:¬D1.R.length - (i+1)=0:=by omega
       have q8:i+(D1.R.length - (i+1))<=(O.map (fun b=>V.rs b 0 (N+1))++OU).length:=by rw[zl,q0];omega
       have q9:i+(D1.R.length - (i+1))<=((BP D1.B).flatMap cI++Lh).length:=by rw[zl,qW];omega
       have e5:i+1+(D1.R.length - (i+1))<=(O.map (fun b=>V.rs b 0 (N+1))++OU).length:=by rw[zl,q0];omega
       have e6:i+1+(D1.R.length - (i+1))<=((BP D1.B).flatMap cI++Lh).length:=by rw[zl,qW];omega
       have e7:((O.map (fun b=>V.rs b 0 (N+1))++OU).drop (i+1)).take (D1.R.length - (i+1))=(O.map (fun b=>V.rs b 0 (N+1))).drop (i+1):=by
        rw[tK (by rw[q0];omega),uo (by rw[yj,q0];omega),zo (by rw[yj,q0];omega)]
       have e8:(((BP D1.B).flatMap cI++Lh).drop (i+1)).take (D1.R.length - (i+1))=((BP D1.B).flatMap cI).drop (i+1):=by
        rw[tK (by rw[qW];omega),uo (by rw[yj,qW];omega),zo (by rw[yj,qW];omega)]
       have e9:((O.map (fun b=>V.rs b 0 (N+1))).drop (i+1)).all qI=true:=by
        rw[wL];intro v hv;obtain⟨b,-,rfl⟩:=List.mem_map.mp (List.mem_of_mem_drop hv);rfl
       have h0:(((BP D1.B).flatMap cI).drop (i+1)).all qI=true:=by
        rw[wL];intro v hv;obtain⟨b,-,hv⟩:=List.mem_flatMap.mp (List.mem_of_mem_drop hv);rw[List.mem_singleton.mp hv];rfl
       refine⟨_,by simp only[go_sem,t0,t1,t4,t5,g1,g2,f1,f2,f3,a7,b2,b3,h3,h4,q1,q2,q3,q4,q5,q6,q7,q8,q9,e5,e6,e7,e8,e9,h0,J,v1,v2,v3,w1,w2,w3,w4,p1,p2,p3,p4,p5,n1,n2,n3,n4,n5,n6];rfl,.inl ⟨_,rfl,m-1,by omega,?_⟩⟩;simp only[go_sem,t0,t1,t4];refine⟨S,i,O.eraseIdx i,P7 D1 i,rfl,by rw[b8];omega,?_,b6,fun j hj=>?_,(tJ O i).trans G,fun b b4 E=>?_⟩
       .refine Dk.dropped hT hi c8 ?_ ?_ ?_ fun b c1 c2 c3=>by rw[aG _ _ c1,aG _ _ c3,aG _ _ c1,aG _ _ c2]
        .rw[aF,show i+(D1.R.length - (i+1))=D1.R.length-1 by omega]
        .obtain⟨e1,he⟩:=iQ (O.map (fun b=>V.rs b 0 (N+1))) OU (i:=i) q0 hi q7
         exact⟨e1,by rw[aG _ _ v3,aG _ _ n4,aG _ _ v3,aF,he]⟩
        .obtain⟨e1,he⟩:=iQ ((BP D1.B).flatMap cI) Lh (i:=i) (by rw[qW,hB]) hi q7
         exact⟨e1,by rw[aG _ _ v1,aF,he]⟩
       .show(D1.B.eraseIdx i).getD j 0<n
        rw[lT,sZ hj];exact a1 j hj
       .simp only[zX,not_or]at E
        rw[aG _ _ E.1,aG _ _ E.2.2.1,aG _ _ E.1,aG _ _ E.2.1];exact a6 b b4 (by simp only[zX,not_or];exact E)
   .have f1:¬(i:Int)<(D1.R.length:Int):=by omega
    refine .inr ⟨_,by simp only[go_sem,t0,t4,a7,f1];rfl,by simp,_,Y,oI,O,D1,rfl,hT,S,Ue,fun j hj=>a1 j (by omega),G,a6⟩) D.R.length (by
   simp only[go_sem];exact⟨0,rb,D,rfl,by omega,h,hD,fun j hj=>absurd hj (zU j),List.Sublist.refl _,fun _ _ _=>trivial⟩)
 exact⟨σ',nx',G5,D',by simp only[go_sem],hT,S,e0,b9,G,a6⟩
section
variable {P:Program} {conv:FuncId->Conv} {call:TV.Call} (d:Option Tmp) (ty:TypeId) (ps:String) (af:Array Edge) (gd:Option (Nat×Bool)) (T:Nat->V) (σ:Store) (nx:Nat)
theorem NP(t:TypeId)(l c:Operand):yI conv T σ ⟨d,.makeSlice t l c,ty,ps,af,gd⟩=[]:=rfl
theorem WX(t:TypeId)(l c:Operand):writer conv ⟨d,.makeSlice t l c,ty,ps,af,gd⟩=false:=rfl
theorem OY(t:TypeId)(l c:Operand):Af P conv call ⟨d,.makeSlice t l c,ty,ps,af,gd⟩ T σ nx=Ez P t (val T l) (val T c) σ nx:=by
 generalize E:Ez P t (val T l) (val T c) (fun _=>none) nx=r;have key:∀σ,Ez P t (val T l) (val T c) σ nx=(r.map fun p=>((p.2.1 nx).elim ([],0,p.1) fun B=>(B.cells,B.st,p.1))).map fun p=>(p.2.2,Aj σ nx p.1 p.2.1,nx+1):=fun σ=>by
  rw[<- E];unfold Ez
  split
  .split
   .split
    .split
     .simp only[zH,Aj,aF];rfl
     .rfl
    .rfl
   .rfl
  .rfl
 have:=HY (P:=P) (conv:=conv) (call:=call) (o:=⟨d,.makeSlice t l c,ty,ps,af,gd⟩) T σ nx rfl fun σ=>(Hy d ty ps af gd T σ nx t l c).trans (key σ)
 exact this.trans (key σ).symm
theorem KH(t:TypeId)(x:Operand)(h:(vI P t).slice=true)(E:(vI P t).QV=true)(hs:(vI P t).Gu=1)(G:(vI P t).DY.length=1)(hc:qI (val T x)=true) :
  Af P conv call ⟨d,.buildSlice t 1 #[(0,x)],ty,ps,af,gd⟩ T σ nx=some (.rs nx 0 1,upd σ nx (some ⟨[val T x],1,true⟩),nx+1):=by
 have:=HY (P:=P) (conv:=conv) (call:=call) (o:=⟨d,.buildSlice t 1 #[(0,x)],ty,ps,af,gd⟩) (m:=some ([val T x],1,V.rs nx 0 1)) T σ nx rfl fun σ=>j_ d ty ps af gd T σ nx t x h E hs G hc
 exact this
theorem ad6(t:TypeId)(lo hi E:Option V)(row:List V)(len:Nat):SQ P σ nx t lo hi E (.ts row len)=AL P t (.ts row len) lo hi E σ:=by
 show(if(([]:List Nat).all fun b=>decide (b<nx))=true then AL P t (.ts row len) lo hi E (restrict σ [])else none)=_;rw[vP,sZ rfl];unfold AL;rfl
end
attribute [go_sem] ad6 NP WX OY KH
theorem WY(xs:List Int):∀k,(xs.flatMap cI).drop k=(xs.drop k).flatMap cI:=by
 induction xs with
 |nil=>intro k;simp
 |cons x xs E=>intro k;cases k with
  |zero=>rfl
  |succ k=>exact E k
def CG(m n:Nat)(A b c:List Int):List V:=[I m,I n,LI A,LI b,LI c]
theorem ar'{m n:Nat}{A b c:List Int}(hA:A.length=m*n)(hm:m<=1000)(hn:n<=1000){i:Nat}(hi:i<m) :
  fn Ze conv ext 260 [.tp (CG m n A b c) 0,I i]=some (.ts (((A.drop (i*n)).take n).flatMap cI) n):=by
 have J:i*n<=m*n:=zK _ (by omega);have O:(i+1)*n<=m*n:=zK _ (by omega);have S:m*n<=1000*1000:=yM hm hn;have E:(i:Int)*(n:Int)=((i*n:Nat):Int):=by push_cast;rfl
 have G:((i:Int)+1)*(n:Int)=(((i+1)*n:Nat):Int):=by push_cast;rfl
 have f1:=Zl (n:=((i*n:Nat):Int));have f2:=Zl (n:=(((i+1)*n:Nat):Int)) (by omega) (by omega);have f3:=Zl (n:=(i:Int)+1);have f4:i*n<=(i+1)*n:=zK _ (by omega);have f5:(i+1)*n<=A.length:=by omega
 have f6:(0:Int)<=((i*n:Nat):Int):=by omega
 have f7:(0:Int)<=(((i+1)*n:Nat):Int):=by omega
 have f8:(i+1)*n-i*n=n:=by rw[yG];omega
 unfold CG;rw[mW,nK [.tmp 4] [] func260];simp only[go_sem,E,G,f1,f2,f3,f4,f5,f6,f7,f8];rw[WY,qU]
theorem gU(σ:Store)(b x:Nat):restrict σ [b,x] b=σ b:=by unfold restrict;simp
theorem Iu(σ:Store)(b x:Nat):restrict σ [b,x] x=σ x:=by unfold restrict;simp
theorem ad7(σ:Store)(b x nx:Nat)(v:Option FU):xI [b,x] nx (nx+1) σ (upd (upd (restrict σ [b,x]) b none) nx v)=upd (upd σ b none) nx v:=by
 funext i;unfold xI upd restrict
 by_cases h:i=nx
 .subst h;simp
 .by_cases E:i=b
  .subst E;simp[h]
  .by_cases G:i=x
   .subst G;simp[h,E]
   .rw[su (by simp only[zX,zJ,or_false];omega),su h,su E]
theorem aau(σ:Store)(x nx:Nat)(v:Option FU):xI [x] nx (nx+1) σ (upd (restrict σ [x]) nx v)=upd σ nx v:=by
 funext i;unfold xI upd restrict
 by_cases h:i=nx
 .subst h;simp
 .by_cases E:i=x
  .subst E;simp[h]
  .rw[su (by simp only[zX,zJ,or_false];omega),su h]
attribute [go_sem] gU Iu ad7 aau
def pm{α:Type}(f g:Nat->α)(k N:Nat):List α:=(List.range N).map fun j=>if j<k then f j else g j
theorem iH{α:Type}(f g:Nat->α)(k N:Nat):(pm f g k N).length=N:=by simp[pm]
theorem SS{α:Type}(f g:Nat->α){k N j:Nat}(h:j<N):(pm f g k N)[j]'(by rw[iH];exact h)=if j<k then f j else g j:=by simp[pm]
theorem NQ{α:Type}(f g:Nat->α){k N:Nat}(h:k<N):(pm f g k N).set k (f k)=pm f g (k+1) N:=by
 apply yE
 .rw[yK,iH,iH]
 .intro j J E
  rw[iH]at E;rw[vJ,SS _ _ E,SS _ _ E]
  by_cases e:k=j
  .subst e;rw[sZ rfl,sZ (by omega)]
  .rw[su e]
   by_cases G:j<k
   .rw[sZ G,sZ (by omega)]
   .rw[su G,su (by omega)]
theorem SV{α:Type}(f g:Nat->α){k N:Nat}(h:f k=g k):pm f g k N=pm f g (k+1) N:=by
 apply yE
 .rw[iH,iH]
 .intro j J E
  rw[iH]at E;rw[SS _ _ E,SS _ _ E]
  by_cases G:j<k
  .rw[sZ G,sZ (by omega)]
  .rw[su G]
   by_cases e:j=k
   .subst e;rw[sZ (by omega),h]
   .rw[su (by omega)]
theorem Iw{α:Type}(f g:Nat->α)(N:Nat):pm f g 0 N=(List.range N).map g:=by simp[pm]
theorem SX{α:Type}(f g:Nat->α)(N:Nat):pm f g N N=(List.range N).map f:=by
 unfold pm;apply xO;intro j E;rw[sZ (List.mem_range.mp E)]
theorem aav(l:List Bool){N:Nat}(h:l.length=N):((List.range N).map fun j=>l.getD j false)=l:=by
 apply yE
 .simp[h]
 .intro j G E
  simp[zx,zy E]
theorem gu{α:Type}(a:α)(N:Nat):((List.range N).map fun _=>a)=List.replicate N a:=by
 rw[List.map_const',uS]
theorem gX(N:Nat)(x:Int):rep N [I x]=(List.replicate N x).flatMap cI:=by
 induction N with
 |zero=>rfl
 |succ N E=>rw[gV,E,xg];rfl
theorem ag7(N:Nat)(x:Bool):rep N [Bo x]=(List.replicate N x).flatMap GZ:=by
 induction N with
 |zero=>rfl
 |succ N E=>rw[gV,E,xg];rfl
def sg(b:List Int)(i:Nat):Int:=if b.getD i 0<0 then -1 else 1
def cell0(A b:List Int)(m n i j:Nat):Int:=if j<n then sg b i*A.getD (i*n+j) 0 else if j<n+m then(if j=n+i then 1 else 0)else sg b i*b.getD i 0
def row0(A b:List Int)(m n i:Nat):List Int:=(List.range (n+m+1)).map fun j=>cell0 A b m n i j
def Ef(A b:List Int)(m n k:Nat):List (List Int):=(List.range k).map fun i=>row0 A b m n i
def fr0(m n:Nat):List Bool:=(List.range (n+m)).map fun j=>decide (j<n)
def D0(A b:List Int)(m n k:Nat):TZ:={ R:=Ef A b m n k,AV:=1,B:=(List.range k).map fun i=>n+i,fr:=fr0 m n }
theorem g_(A b:List Int)(m n i:Nat):(row0 A b m n i).length=n+m+1:=by simp[row0]
theorem gG(A b:List Int)(m n i:Nat){j:Nat}(h:j<n+m+1):(row0 A b m n i)[j]'(by rw[g_];exact h)=cell0 A b m n i j:=by simp[row0]
def FP(A b:List Int)(m n i k:Nat):List (Int×Bool):=newR (row0 A b m n i) (List.replicate (n+m+1) (0,true)) k
theorem ad8(A b:List Int)(m n i:Nat):(FP A b m n i 0).flatMap zc=rep (n+m+1) [Bo false,.nil]:=by
 unfold FP;rw[Jy];generalize n+m+1=q
 induction q with
 |zero=>rfl
 |succ q E=>rw[xg,gV,zO,E];rfl
theorem qh(A b:List Int)(m n i:Nat){k:Nat}(E:k<=n+m+1):(FP A b m n i k).length=n+m+1:=by
 unfold FP;rw[jK (by rw[g_,yR]) (by rw[yR];exact E),yR]
theorem ag8(A b:List Int)(m n i:Nat){k:Nat}(E:k<n+m+1):(FP A b m n i k).set k (cell0 A b m n i k,false)=FP A b m n i (k+1):=by
 unfold FP;rw[<- NG (by rw[g_,yR]) (c:=k) (by rw[yR];exact E),gG _ _ _ _ _ E]
theorem P9(A b:List Int){m n i:Nat}(hi:i<m):let L:=((FP A b m n i n).set (n+i) (1,false)).set (n+m) (sg b i*b.getD i 0,false)
  L.map (·.1)=row0 A b m n i/\∀p∈L,p.2=true->p.1=0:=by
 intro L;have hl:L.length=n+m+1:=by simp only[L,yK];exact qh _ _ _ _ _ (by omega)
 have hg:∀j (h:j<n+m+1),L[j]'(by rw[hl];exact h)=if j<n then(cell0 A b m n i j,false)else if j=n+m then(sg b i*b.getD i 0,false)else if j=n+i then(1,false)else(0,true):=fun j h=>by
  have e:(FP A b m n i n)[j]'(by rw[qh _ _ _ _ _ (by omega)];exact h)=if j<n then(cell0 A b m n i j,false)else(0,true):=by
   have:(FP A b m n i n)[j]?=some (if j<n then(cell0 A b m n i j,false)else(0,true)):=by
    unfold FP newR;have J:(((row0 A b m n i).take n).map fun z=>(z,false)).length=n:=by rw[zV,zh,g_];omega
    by_cases O:j<n
    .rw[zW (by rw[J];exact O),sZ O,z_,xG,sZ O,zy (by rw[g_];omega),gG _ _ _ _ _ (by omega)]
     rfl
    .rw[zN (by rw[J];omega),J,xq,su O,um,sZ (by omega)]
   rw[zy (by rw[qh _ _ _ _ _ (by omega)];exact h)]at this;exact Option.some.inj this
  simp only[L,vJ,e]
  by_cases E:j<n
  .rw[su (by omega),su (by omega),sZ E,sZ E]
  .by_cases Y:j=n+m
   .rw[sZ Y.symm,su E,sZ Y]
   .rw[su (zD Y),su E,su Y]
    by_cases h3:j=n+i
    .rw[sZ h3.symm,su E,sZ h3]
    .rw[su (zD h3),su E,su h3]
 refine⟨yE (by rw[zV,hl,g_]) fun j E Y=>?_,fun p hp G=>?_⟩
 .rw[zV,hl]at E
  rw[xK,hg j E,gG _ _ _ _ _ E]
  by_cases c1:j<n
  .rw[sZ c1]
  .rw[su c1]
   unfold cell0;rw[su c1]
   by_cases c2:j=n+m
   .rw[sZ c2,su (by omega)]
   .rw[su c2,sZ (show j<n+m by omega)]
    by_cases S:j=n+i
    .rw[sZ S,sZ S]
    .rw[su S,su S]
 .obtain⟨j,O,rfl⟩:=yV hp
  rw[hl]at O;rw[hg j O]at G⊢
  by_cases c1:j<n
  .rw[sZ c1]at G;cases G
  .rw[su c1]at G⊢
   by_cases c2:j=n+m
   .rw[sZ c2]at G;cases G
   .rw[su c2]at G⊢
    by_cases S:j=n+i
    .rw[sZ S]at G;cases G
    .rw[su S]
def Made(A b:List Int)(m n:Nat)(Gh:Nat)(σ:Store)(nx bt bf k:Nat):Prop :=
 ∃E G br bb rb,σ bt=some ⟨[E,Bo false,LI (dg 1),G,I ((n+m:Nat):Int),.rs bf 0 (n+m)],0,true⟩ /\
  ((k=0/\E= .nil/\G= .nil/\rb=[])\/(0<k/\E= .rs br 0 k/\G= .rs bb 0 k/\σ br=some ⟨rb.map fun b=>V.rs b 0 (n+m+1),1,true⟩/\σ bb=some ⟨(BP ((List.range k).map fun i=>n+i)).flatMap cI,1,true⟩/\br≠bb/\br∉bt :: bf :: rb/\bb∉bt :: bf :: rb/\Gh<=br/\br<nx/\Gh<=bb/\bb<nx)) /\
  rb.length=k/\(∀i (h:i<rb.length),Ee σ rb[i] (row0 A b m n i))/\(bt :: bf :: rb).Nodup/\(∀x∈bt :: bf :: rb,Gh<=x/\x<nx)/\σ bf=some ⟨(List.replicate (n+m) false).flatMap GZ,1,true⟩
theorem P_{A b:List Int}{m n nx:Nat}{S σ':Store}{E i:Nat}{rb:List Nat}{L:List (Int×Bool)}(hi:i<m)(Y:rb.length=i)(a1:∀j (h:j<rb.length),Ee S rb[j] (row0 A b m n j))(G:((nx+1) :: nx :: rb).Nodup)(O:∀x∈(nx+1) :: nx :: rb,nx<=x/\x<E)
  (a7:S nx=some ⟨(List.replicate (n+m) false).flatMap GZ,1,true⟩) (hL:L.map (·.1)=row0 A b m n i/\∀p∈L,p.2=true->p.1=0)
  (ht:σ' (nx+1)=some ⟨[.rs (E+1+1) 0 (i+1),Bo false,LI (dg 1),.rs (E+1+1+1+1) 0 (i+1),I ((n+m:Nat):Int),.rs nx 0 (n+m)],0,true⟩)
  (hr:σ' (E+1+1)=some ⟨rb.map (fun b=>V.rs b 0 (n+m+1))++[.rs E 0 (n+m+1)],1,true⟩)
  (hb:σ' (E+1+1+1+1)=some ⟨(BP ((List.range i).map fun i=>n+i)).flatMap cI++[I ((n+i:Nat):Int)],1,true⟩)
  (J:σ' E=some ⟨L.flatMap zc,2,true⟩) (ho:∀x∈nx :: rb,σ' x=S x):Made A b m n nx σ' (E+1+1+1+1+1) (nx+1) nx (i+1):=by
 have a6:∀x∈rb,x≠nx+1/\x≠nx/\nx<=x/\x<E:=fun x J=>by
  have h:=O x (by simp[J]);refine⟨fun e=>?_,fun e=>?_,h.1,h.2⟩
  .subst e;simp at G;exact G.1 J
  .subst e;simp at G;exact G.2.1 J
 have a8:=O (nx+1) (by simp);refine⟨_,_,E+1+1,E+1+1+1+1,rb++[E],ht,.inr ⟨by omega,rfl,rfl,?_,?_,by omega,?_,?_,by omega,by omega,by omega,by omega⟩,by simp[Y],fun j hj=>?_,?_,fun x J=>?_,?_⟩
 .rw[hr,xQ];rfl
 .rw[hb,wX,xQ]
  unfold BP;rw[xQ,zT];rfl
 .simp only[zX,wU,zJ,or_false,not_or]
  exact⟨by omega,by omega,fun h=>by have:=a6 _ h;omega,by omega⟩
 .simp only[zX,wU,zJ,or_false,not_or]
  exact⟨by omega,by omega,fun h=>by have:=a6 _ h;omega,by omega⟩
 .by_cases h:j<rb.length
  .rw[wP h]
   exact(a1 j h).congr (ho _ (zY _ (zu h)))
  .have:j=i:=by rw[zl,yH]at hj;omega
   subst this;rw[wS (by omega)];simp only[Y,yP,List.getElem_cons_zero];exact⟨L,J,hL.1,hL.2⟩
 .rw[<- yY,<- yY]
  rw[List.nodup_append];refine⟨G,by simp,fun x J y hy=>?_⟩;rw[List.mem_singleton.mp hy];have:=O x J;omega
 .rw[<- yY,<- yY,wU]at J
  rcases J with h|h
  .have:=O x h;omega
  .rw[List.mem_singleton.mp h];omega
 .rw[ho nx (by simp)];exact a7
def o1L(m n:Nat):List Int:=(List.range (n+m)).map fun j=>if j<n then 0 else -1
theorem akH(m n:Nat):Obj (o1L m n) (n+m):=⟨by simp[o1L],fun x E=>by
 obtain⟨j,-,rfl⟩:=List.mem_map.mp E
 split<;>omega⟩
theorem abG{N:Nat}{o:Nat->Int}{Q:TZ->Prop}(h:∀D E,Q D->EI N o D E->Q E){D E:TZ}(G:EJ N o D E):Q D->Q E:=by
 induction G with
 |refl=>exact id
 |tail Y J O=>exact fun S=>h _ _ (O S) J
theorem al8{N:Nat}{o:Nat->Int}{Q:TZ->Prop}(h:∀D E,Q D->EI N o D E->Q E){D E:TZ}{G:Bool}(hm:Sv N o D G E)(O:Q D):∃D1 fr,Q D1/\E={ D1 with fr:=fr }/\fr.length=D1.fr.length:=by
 obtain⟨D1,S,J|J⟩:=hm
 .obtain⟨-,-,fr,Y,rfl⟩:=J
  exact⟨D1,fr,abG h S O,rfl,Y.1⟩
 .obtain⟨-,rfl,-⟩:=J
  exact⟨E,E.fr,abG h S O,rfl,rfl⟩
def akI(Q2:TZ->Prop)(A b:List Int)(m n:Nat)(σ:Store)(nx:Nat)(r:V×Store×Nat):Prop :=
 ∃σ' nx',nx<=nx'/\(∀x,x<nx->σ' x=σ x)/\∃D1 E,Sv (n+m) (oF (o1L m n)) (D0 A b m n m) E D1 /\
  ((r=(.Au [.sc (.pointer none),Bo false],σ',nx')/\∃i,i<D1.R.length/\n<=D1.B.getD i 0/\0<en D1.R i (n+m)) \/
   (∃bt br bb bf rb D2,r=(.Au [.rp bt 0,Bo true],σ',nx')/\(∀i,i<D1.R.length->n<=D1.B.getD i 0->¬0<en D1.R i (n+m))/\Dk σ' bt br bb bf rb D2 (n+m)/\Q2 D2/\(∀i,i<D2.R.length->D2.B.getD i 0<n)/\∀x∈bt :: br :: bb :: bf :: rb,nx<=x/\x<nx'))
theorem aoc(Q1 Q2:TZ->Prop){A b c:List Int}{m n:Nat}(hA:A.length=m*n)(hb:b.length=m)(G:0<m)(hm:m<=400)(hn:n<=400)(m8:∀x∈A,-1000000<=x/\x<=1000000)(m9:∀x∈b,-1000000<=x/\x<=1000000)
  (Ue:∀D,Q1 D->WJ D (n+m)/\0<D.AV) (h0:∀D D',Q1 D->EI (n+m) (oF (o1L m n)) D D'->Q1 D') (i7:Q1 (D0 A b m n m)) {K:Nat} (n0:Il (n+m) (oF (o1L m n)) K (D0 A b m n m))
  (n9:∀D,Q2 D->WJ D (n+m)/\0<D.AV) (h1:∀D i k,Q2 D->i<D.R.length->n<=D.B.getD i 0->k<n->en D.R i k≠0->Q2 (FM D i k))
  (o0:∀D i,Q2 D->i<D.R.length->n<=D.B.getD i 0->(∀k,k<n->en D.R i k=0)->Q2 (P7 D i))
  (j7:∀D1 h3,Sv (n+m) (oF (o1L m n)) (D0 A b m n m) h3 D1->(∀i,i<D1.R.length->n<=D1.B.getD i 0->¬0<en D1.R i (n+m))->Q2 { D1 with fr:=fr0 m n })
  (σ:Store) (nx:Nat):∃r,ev Ze pI Ad 218 [.tp (CG m n A b c) 0] σ nx=some r/\akI Q2 A b m n σ nx r:=by
 obtain⟨N,hN⟩:∃N,N=n+m:=⟨_,rfl⟩;have f1:(n:Int)+(m:Int)=(N:Int):=by omega
 have f2:=Zl (n:=(N:Int));have f3:=jL N;have f4:1*(N:Int)<=281474976710656:=by omega
 have f5:(N:Int)<=9223372036854775807:=by omega
 have k1:fn Ze conv ext 172 [I 1]=some (.agg [Bo false,LI (dg 1)]):=kU 1 (by decide) (by decide)
 unfold CG;rw[nK [.tmp 2,.tmp 3] [15,18,24,38] func218];simp only[go_sem,f1,f2,f3,f4,f5,k1];generalize hL:gI _ _=y;obtain⟨x,rfl,T1,S,E,rfl,t0,t4,t5,s3,o2,hM⟩:=pJ hL m (fun i st=>st.T 0= .tp (CG m n A b c) 0/\st.T 4=I N/\st.T 5= .rp (nx+1) 0/\st.T 34=I m/\st.T 35=I i/\nx<=st.nx/\(∀x,x<nx->st.σ x=σ x)/\Made A b m n nx st.σ st.nx (nx+1) nx i)
  (fun x=>∃T S E,x=(.exit 0,⟨T,S,E⟩)/\T 0= .tp (CG m n A b c) 0/\T 4=I N/\T 5= .rp (nx+1) 0/\nx<=E/\(∀x,x<nx->S x=σ x)/\Made A b m n nx S E (nx+1) nx m) (by
   clear hL;rintro i ⟨T,S,E⟩ hi ⟨t0,t4,t5,t34,t35,h7,e6,hM⟩;simp only at t0 t4 t5 t34 t35 h7 e6 hM;have g1:(i:Int)<(m:Int):=by omega
   have g2:=jL i;have g3:=Zl (n:=(i:Int)+1);unfold CG at t0;have g4:=Zl (n:=(N:Int)+1);have g5:(0:Int)<=(N:Int)+1:=by omega
   have g6:32*((N:Int)+1)<=281474976710656:=by omega
   have g7:(N:Int)+1<=9223372036854775807:=by omega
   have g8:((N:Int)+1).toNat=N+1:=by omega
   have g9:(i:Int)<(b.length:Int):=by omega
   have g10:(b.flatMap cI)[i]?=some (I (b.getD i 0)):=by
    rw[idx (by omega),zx,zy (by omega)];rfl
   have g11:=Aw b i (by omega);have bl:(b.flatMap cI).length=b.length:=qW b;have s5:-1000000<=b.getD i 0/\b.getD i 0<=1000000:=by
    rw[zx,zy (by omega)];exact m9 _ (zu (by omega))
   have k2:=ar' (b:=b) (c:=c) hA (by omega) (by omega) hi;unfold CG at k2;obtain⟨Rw,i9⟩:∃Rw,Rw=(A.drop (i*n)).take n:=⟨_,rfl⟩;rw[<- i9]at k2;have h1:(i+1)*n<=m*n:=zK _ (by omega);rw[yG]at h1;have h9:Rw.length=n:=by rw[i9,zh,yj];omega
   have o3:∀j (h:j<n),Rw[j]'(by omega)=A.getD (i*n+j) 0:=fun j h=>by
    subst i9;rw[uw,List.getElem_drop,zx,zy (by omega)];rfl
   have o4:∀j (h:j<n),-1000000<=A.getD (i*n+j) 0/\A.getD (i*n+j) 0<=1000000:=fun j h=>by
    rw[zx,zy (by omega)];exact m8 _ (zu (by omega))
   obtain⟨s,hs,j8⟩:∃s,s=sg b i/\((b.getD i 0<0/\s= -1)\/(¬b.getD i 0<0/\s=1)):=by
    refine⟨_,rfl,?_⟩;unfold sg
    by_cases h:b.getD i 0<0
    .exact .inl ⟨h,sZ h⟩
    .exact .inr ⟨h,su h⟩
   have j9:s=1\/s= -1:=by rcases j8 with ⟨_,h⟩|⟨_,h⟩<;>simp[h]
   refine cu ?_;rcases j8 with ⟨h8,k0⟩|⟨h8,k0⟩
   all_goals
    conv=>
     enter [1,r,1,1]
     simp only[go_sem,t0,t4,t5,t34,t35,g1,g2,g3,g4,g5,g6,g7,g8,g9,g10,g11,bl,h8,k2]
    generalize hL:gI _ _=z;obtain⟨x,rfl,T1,rfl,t0,t4,t5,t6,t7,t8,t34,t35⟩:=pJ hL n (fun j st=>st.T 0= .tp (CG m n A b c) 0/\st.T 4=I N/\st.T 5= .rp (nx+1) 0/\st.T 6=I i/\st.T 7= .rs E 0 (N+1)/\st.T 8=I s/\st.T 34=I m/\st.T 35=I i/\st.T 51= .ts (Rw.flatMap cI) n/\st.T 52=I n/\st.T 53=I j/\st.nx=E+1/\st.σ=upd S E (some ⟨(FP A b m n i j).flatMap zc,2,true⟩))
     (fun x=>∃T,x=(.exit 2,⟨T,upd S E (some ⟨(FP A b m n i n).flatMap zc,2,true⟩),E+1⟩)/\T 0= .tp (CG m n A b c) 0/\T 4=I N/\T 5= .rp (nx+1) 0/\T 6=I i/\T 7= .rs E 0 (N+1)/\T 8=I s/\T 34=I m/\T 35=I i) (by
      clear hL;rintro j ⟨T,σ2,m0⟩ hj ⟨t0,t4,t5,t6,t7,t8,t34,t35,t51,t52,t53,G,Y⟩;simp only at t0 t4 t5 t6 t7 t8 t34 t35 t51 t52 t53 G Y;subst G Y;have a1:(j:Int)<(n:Int):=by omega
      have a2:=jL j;have a3:=Zl (n:=(j:Int)+1);have a4:(Rw.flatMap cI)[j]?=some (I (A.getD (i*n+j) 0)):=by rw[idx (by omega),o3 j hj]
      have a12:=Aw Rw j (by omega);have a5:(Rw.flatMap cI).length=n:=by rw[qW,h9]
      have J:=o4 j hj;obtain⟨x,ex⟩:∃x,x=A.getD (i*n+j) 0:=⟨_,rfl⟩;rw[<- ex]at a4 J;have o5:-1000000<=s*x/\s*x<=1000000:=by rcases j9 with h|h<;>rw[h]<;>omega
      have a6:=Zl (n:=s*x);have a7:=kU (s*x) (by omega) (by omega);have a8:=dN (c:=zc) (s:=2) Zh (FP A b m n i j);rw[qh _ _ _ _ _ (by omega),<- hN]at a8;have a9:(j:Int)<((N+1:Nat):Int):=by omega
      have i0:j*2+2<=(N+1)*2:=by omega
      have i1:patch ((FP A b m n i j).flatMap zc) (j*2) (cZ (s*x))=(FP A b m n i (j+1)).flatMap zc:=by
       rw[<- abC,iO Zh _ _ (by rw[qh _ _ _ _ _ (by omega)];omega),<- ag8 _ _ _ _ _ (by omega)];congr 3;unfold cell0;rw[sZ hj,<- ex,hs]
      refine .inl ⟨_,by simp only[go_sem,t0,t4,t5,t6,t7,t8,t34,t35,t51,t52,t53,a1,a2,a3,a4,a5,a6,a7,a8,a9,i0,i1,a12];rfl,?_⟩;simp only[go_sem,t0,t4,t5,t6,t7,t8,t34,t35,t51,t52,t53];rfl) (by
      rintro ⟨T,σ2,m0⟩ ⟨t0,t4,t5,t6,t7,t8,t34,t35,t51,t52,t53,G,Y⟩;simp only at t0 t4 t5 t6 t7 t8 t34 t35 t51 t52 t53 G Y;subst G Y;have a1:¬(n:Int)<(n:Int):=by omega
      refine⟨_,by simp only[go_sem,t52,t53,a1];rfl,by simp,_,rfl,?_⟩;simp only[go_sem,t0,t4,t5,t6,t7,t8,t34,t35]) (by
      simp only[go_sem,ad8,<- hN,k0,CG,t0,t4,t5,t34,t35])
    clear hL;obtain⟨L2,i2⟩:∃L2,L2=(FP A b m n i n).set (n+i) (1,false):=⟨_,rfl⟩;obtain⟨L3,i3⟩:∃L3,L3=L2.set (n+m) (s*b.getD i 0,false):=⟨_,rfl⟩;have j0:=qh A b m n i (k:=n) (by omega);have j1:L2.length=n+m+1:=by rw[i2,yK];exact j0
    have s6:L3.length=n+m+1:=by rw[i3,yK];exact j1
    have d1:patch ((FP A b m n i n).flatMap zc) ((n+i)*2) [Bo false,LI (dg 1)]=L2.flatMap zc:=by
     rw[i2,<- iO Zh _ _ (by rw[j0];omega)];rfl
    have d2:patch (L2.flatMap zc) (N*2) (cZ (s*b.getD i 0))=L3.flatMap zc:=by
     rw[i3,hN,<- iO Zh _ _ (by rw[j1];omega),<- abC]
    have d3:=dN (c:=zc) (s:=2) Zh (FP A b m n i n);rw[j0,<- hN]at d3;have d4:=dN (c:=zc) (s:=2) Zh L2;rw[j1,<- hN]at d4;have o5:-1000000<=s*b.getD i 0/\s*b.getD i 0<=1000000:=by rcases j9 with h|h<;>rw[h]<;>omega
    have a1:=Zl (n:=s*b.getD i 0);have a2:=kU (s*b.getD i 0) (by omega) (by omega);have a3:(n:Int)+(i:Int)=((n+i:Nat):Int):=by omega
    have a4:=Zl (n:=((n+i:Nat):Int));have a5:((n+i:Nat):Int)<((N+1:Nat):Int):=by omega
    have a6:(0:Int)<=((n+i:Nat):Int):=by omega
    have a7:(N:Int)<((N+1:Nat):Int):=by omega
    have a8:(n+i)*2+2<=(N+1)*2:=by omega
    have a9:N*2+2<=(N+1)*2:=by omega
    have i0:E<E+1:=by omega
    obtain⟨rV,bV,br,bb,rb,e7,c6,h5,e4,c3,c4,i4⟩:=hM;have s7:nx+1<E:=(c4 _ (by simp)).2;have i1:¬nx+1=E:=by omega
    have a12:¬nx+1=E+1:=by omega
    have k3:¬nx+1=E+1+1:=by omega
    have k4:¬nx+1=E+1+1+1:=by omega
    have k5:¬nx+1=E+1+1+1+1:=by omega
    have k6:nx+1<E+1+1:=by omega
    have k7:nx+1<E+1+1+1:=by omega
    have k8:nx+1<E+1+1+1+1:=by omega
    have k9:1<=maxLen:=by decide
    have a24:nx+1<E+1+1+1+1+1:=by omega
    have l1:E+1+1+1<E+1+1+1+1:=by omega
    have l2:E+1+1<E+1+1+1:=by omega
    have l3:E+1<E+1+1:=by omega
    have a20:¬E+1=nx+1:=by omega
    have a21:¬E+1+1=nx+1:=by omega
    have l4:¬E+1+1+1=nx+1:=by omega
    have i5:¬E+1+1+1+1=nx+1:=by omega
    unfold CG at t0;rcases c6 with ⟨hi0,rfl,rfl,rfl⟩|⟨hk,rfl,rfl,j2,j3,O,SY,S9,l5,j4,l6,j5⟩
    .refine⟨_,by simp only[go_sem,t0,t4,t5,t6,t7,t8,t34,t35,e7,k1,f3,g1,g2,g3,g9,g10,g11,bl,d1,d2,d3,d4,a1,a2,a3,a4,a5,a6,a7,a8,a9,i0,i1,a12,k3,k4,k5,k6,k7,k8,k9,a20,a21,l4,i5,a24,l1,l2,l3];rfl,.inl ⟨_,rfl,?_⟩⟩
     simp only[go_sem,t0,t4,t5,t34,t35];refine⟨rfl,rfl,by omega,fun x J=>?_,P_ (L:=L3) hi h5 e4 c3 c4 i4 (by rw[i3,i2,hs];exact P9 A b hi) ?_ ?_ ?_ ?_ fun x J=>?_⟩
     .rw[aH,aH,aH,aH,aH,aH,aH]
      exact e6 x J
     .rw[aF,hi0]
     .rw[aG _ _ a21,aH,aH,aG _ _ a21,aF,hN];rfl
     .rw[aG _ _ i5,aF,hi0];rfl
     .rw[aH,aH,aH,aH,aH,aH,aF]
     .rw[List.mem_singleton.mp J]
      rw[aH,aH,aH,aH,aH,aH,aH]
    .have b1:(rb.map fun b=>V.rs b 0 (n+m+1)).length=i:=by rw[zV,h5]
     have b2:((BP ((List.range i).map fun i=>n+i)).flatMap cI).length=i:=by rw[qW,aV];simp
     have b3:¬i+1<=i:=by omega
     have b4:i+1<=maxLen:=by unfold maxLen;omega
     have b5:(i+1)*24<=140737488355328:=by omega
     have b6:(i+1)*8<=140737488355328:=by omega
     have b7:¬br=E:=by omega
     have b8:¬br=E+1:=by omega
     have b9:¬bb=E:=by omega
     have o6:¬bb=E+1:=by omega
     have o7:¬bb=E+1+1:=by omega
     have o9:¬bb=E+1+1+1:=by omega
     have l7:¬bb=nx+1:=fun e=>S9 (by simp[e])
     have l8:¬br=nx+1:=fun e=>SY (by simp[e])
     have p0:¬bb=br:=zD O;have p1:¬nx+1=br:=zD l8;have p2:¬nx+1=bb:=zD l7;have p3:bb<E+1+1+1:=by omega
     have p4:bb<E+1+1+1+1:=by omega
     refine⟨_,by simp only[go_sem,t0,t4,t5,t6,t7,t8,t34,t35,e7,k1,f3,g1,g2,g3,g9,g10,g11,bl,d1,d2,d3,d4,a1,a2,a3,a4,a5,a6,a7,a8,a9,i0,i1,a12,k3,k4,k5,k6,k7,k8,k9,a20,a21,l4,i5,a24,l1,l2,l3,j2,j3,b1,b2,b3,b4,b5,b6,b7,b8,b9,o6,o7,o9,l7,l8,p0,p1,p2,p3,p4];rfl,.inl ⟨_,rfl,?_⟩⟩;simp only[go_sem,t0,t4,t5,t34,t35];refine⟨rfl,rfl,by omega,fun x J=>?_,P_ (L:=L3) hi h5 e4 c3 c4 i4 (by rw[i3,i2,hs];exact P9 A b hi) ?_ ?_ ?_ ?_ fun x J=>?_⟩
     .repeat rw[aH]
      exact e6 x J
     .rw[aF]
     .rw[aG _ _ a21,aH,aH,aH,aG _ _ a21,aF,hN]
     .rw[aG _ _ i5,aF]
     .repeat rw[aH]
      rw[aF]
     .have s8:=c4 x (zY _ J)
      have e1:x≠nx+1:=fun e=>by subst e;exact(List.nodup_cons.mp c3).1 J
      have e2:x≠br:=fun e=>by subst e;exact SY (zY _ J)
      have e3:x≠bb:=fun e=>by subst e;exact S9 (zY _ J)
      repeat rw[aH]) (by
   rintro ⟨T,S,E⟩ ⟨t0,t4,t5,t34,t35,h7,e6,hM⟩;simp only at t0 t4 t5 t34 t35 h7 e6 hM;have g1:¬(m:Int)<(m:Int):=by omega
   refine⟨_,by simp only[go_sem,t34,t35,g1];rfl,by simp,_,_,_,rfl,?_⟩;exact⟨t0,t4,t5,h7,e6,hM⟩) (by
   simp only[go_sem];refine⟨rfl,by omega,fun x J=>?_,?_⟩
   .rw[aH,aH]
   .refine⟨.nil,.nil,0,0,[],?_,.inl ⟨rfl,rfl,rfl,rfl⟩,rfl,fun i h=>absurd h (zU _),by simp,by simp;omega,?_⟩
    .rw[aF,hN]
    .rw[aH,aF,<- hN,<- ag7])
 clear hL;obtain⟨rV,bV,br,bb,rb,e7,c6,h5,e4,c3,c4,i4⟩:=hM;obtain⟨-,rfl,rfl,j2,j3,O,SY,S9,l5,j4,l6,j5⟩:0<m/\rV= .rs br 0 m/\bV= .rs bb 0 m/\S br=some ⟨rb.map fun b=>V.rs b 0 (n+m+1),1,true⟩/\S bb=some ⟨(BP ((List.range m).map fun i=>n+i)).flatMap cI,1,true⟩/\br≠bb/\br∉(nx+1) :: nx :: rb/\bb∉(nx+1) :: nx :: rb/\nx<=br/\br<E/\nx<=bb/\bb<E:=by
  rcases c6 with ⟨h,_⟩|h
  .omega
  .exact h
 have s9:nx+1<E:=(c4 _ (by simp)).2;have c1:8*(N:Int)<=281474976710656:=by omega
 unfold CG at t0;rw[<- hN]at e7;simp only[go_sem,t0,t4,t5,f2,f3,c1,f5];generalize hL:gI _ _=z
 obtain⟨x,rfl,T2,σ2,rfl,t0,t4,t5,t11,p5,p6,h2⟩:=pJ hL N (fun k st=>st.T 0= .tp (CG m n A b c) 0/\st.T 4=I N/\st.T 5= .rp (nx+1) 0/\st.T 11= .rs E 0 N/\st.T 117=I N/\st.T 118=I k/\st.nx=E+1 /\
   st.σ nx=some ⟨(pm (fun j=>decide (j<n)) (fun _=>false) k N).flatMap GZ,1,true⟩/\st.σ E=some ⟨(pm (fun j=>if j<n then(0:Int)else -1) (fun _=>0) k N).flatMap cI,1,true⟩/\∀x,x<E->x≠nx->st.σ x=S x)
  (fun x=>∃T σ2,x=(.exit 4,⟨T,σ2,E+1⟩)/\T 0= .tp (CG m n A b c) 0/\T 4=I N/\T 5= .rp (nx+1) 0/\T 11= .rs E 0 N /\
   σ2 nx=some ⟨(fr0 m n).flatMap GZ,1,true⟩/\σ2 E=some ⟨(o1L m n).flatMap cI,1,true⟩/\∀x,x<E->x≠nx->σ2 x=S x) (by
   clear hL;rintro k ⟨T,σ2,m0⟩ hk ⟨t0,t4,t5,t11,t117,e8,G,hf,ho,hs⟩;simp only at t0 t4 t5 t11 t117 e8 G hf ho hs;subst G;have g1:(k:Int)<(N:Int):=by omega
   have g2:=jL k;have g3:=Zl (n:=(k:Int)+1);have NK:=(hs (nx+1) (by omega) (by omega)).trans e7;have q1:nx+1<E+1:=by omega
   have q2:nx<E+1:=by omega
   have q3:¬nx+1=nx:=by omega
   have q4:¬nx=nx+1:=by omega
   have q5:¬E=nx:=by omega
   have q6:((pm (fun j=>decide (j<n)) (fun _=>false) k N).flatMap GZ).length=N:=by rw[akE,iH,yO]
   have q7:((pm (fun j=>if j<n then(0:Int)else -1) (fun _=>0) k N).flatMap cI).length=N:=by rw[qW,iH]
   have q8:k+1<=N:=hk;unfold CG at t0;have e1:∀bb,bb=decide (k<n)->((pm (fun j=>decide (j<n)) (fun _=>false) k N).flatMap GZ).set k (Bo bb)=(pm (fun j=>decide (j<n)) (fun _=>false) (k+1) N).flatMap GZ:=fun bb h=>by
    rw[SN,h,NQ (fun j=>decide (j<n)) (fun _=>false) hk]
   by_cases c7:k<n
   .have g4:(k:Int)<(n:Int):=by omega
    have g5:¬(n:Int)<=(k:Int):=by omega
    have e2:=e1 true (by rw[sS c7]);have e3:=SV (fun j=>if j<n then(0:Int)else -1) (fun _=>0) (k:=k) (N:=N) (by simp only[sZ c7]);refine .inl ⟨_,by simp only[go_sem,t0,t4,t5,t11,t117,e8,NK,hf,ho,hk,g1,g2,g3,g4,g5,q1,q2,q3,q4,q5,q6,q7,q8,e2];rfl,?_⟩;simp only[go_sem,t0,t4,t5,t11,t117,q5];exact⟨rfl,rfl,by rw[ho,e3],fun x J O=>by rw[aG _ _ O];exact hs x J O⟩
   .have g4:¬(k:Int)<(n:Int):=by omega
    have g5:(n:Int)<=(k:Int):=by omega
    have e2:=e1 false (by rw[sQ c7]);have e3:((pm (fun j=>if j<n then(0:Int)else -1) (fun _=>0) k N).flatMap cI).set k (I (-1))=(pm (fun j=>if j<n then(0:Int)else -1) (fun _=>0) (k+1) N).flatMap cI:=by
     rw[qV,<- NQ (fun j=>if j<n then(0:Int)else -1) (fun _=>0) hk];simp only[su c7]
    refine .inl ⟨_,by simp only[go_sem,t0,t4,t5,t11,t117,e8,NK,hf,ho,hk,g1,g2,g3,g4,g5,q1,q2,q3,q4,q5,q6,q7,q8,e2,e3];rfl,?_⟩;simp only[go_sem,t0,t4,t5,t11,t117,q5];refine⟨rfl,rfl,?_,fun x J O=>?_⟩
    .rw[aH,aF]
    .rw[aH,aG _ _ O];exact hs x J O) (by
   rintro ⟨T,σ2,m0⟩ ⟨t0,t4,t5,t11,t117,e8,G,hf,ho,hs⟩;simp only at t0 t4 t5 t11 t117 e8 G hf ho hs;subst G;have g1:¬(N:Int)<(N:Int):=by omega
   refine⟨_,by simp only[go_sem,t117,e8,g1];rfl,by simp,_,_,rfl,?_⟩;simp only[go_sem,t0,t4,t5,t11];rw[SX]at hf ho;unfold fr0 o1L;rw[<- hN];exact⟨hf,ho,hs⟩) (by
   simp only[go_sem,t0,t4,t5];refine⟨rfl,?_,?_,fun x J _=>?_⟩
   .rw[aH,Iw,gu,hN];exact i4
   .rw[Iw,gu,<- gX]
   .rw[aH])
 clear hL;have c8:∀x∈(nx+1) :: br :: bb :: nx :: rb,nx<=x/\x<E:=fun x J=>by
  simp only[zX]at J;rcases J with h|h|h|h|h
  .exact c4 x (by simp[h])
  .subst h;exact⟨l5,j4⟩
  .subst h;exact⟨l6,j5⟩
  .exact c4 x (by simp[h])
  .exact c4 x (by simp[h])
 have l9:((nx+1) :: br :: bb :: nx :: rb).Nodup:=by
  simp only[xw,zX,not_or]at c3 SY S9⊢;exact⟨⟨fun e=>SY.1 e.symm,fun e=>S9.1 e.symm,c3.1.1,c3.1.2⟩,⟨O,SY.2.1,SY.2.2⟩,⟨S9.2.1,S9.2.2⟩,c3.2.1,c3.2.2⟩
 have hT:Dk σ2 (nx+1) br bb nx rb (D0 A b m n m) (n+m):=by
  obtain⟨n1,n2,n3,n4,n5,n6,n7,n8⟩:=nd4 l9;have h9:(D0 A b m n m).R.length=m:=by simp[D0,Ef]
  refine⟨?_,⟨[],?_⟩,fun i hi=>?_,⟨[],?_⟩,p5,by rw[h9,h5],l9⟩
  .rw[h2 (nx+1) (by omega) (by omega),e7,h9,hN];rfl
  .rw[h2 br j4 n5,j2,zM]
  .have p7:=zu hi
   have:=c8 rb[i] (by simp);have e:DK (D0 A b m n m).R i=row0 A b m n i:=by
    unfold D0 Ef DK;rw[zx,z_,vU (by omega)];rfl
   rw[e];exact(e4 i hi).congr (h2 _ this.2 (n7 _ p7).2.2.2)
  .rw[h2 bb j5 n6,j3,zM];rfl
 obtain⟨u0,u1⟩:=Ue _ i7;obtain⟨c9,Ar,h3,D1,ke,c5,NJ,s4,p8⟩:=ar9 Q1 Ue h0 (akH m n) i7 n0 hT (nx:=E+1) (fun x J=>by have:=c8 x J;omega) p6 (by omega) (fun J=>by have:=c8 E J;omega);rw[<- hN]at ke;obtain⟨p9,m1,m2,rfl,q0⟩:=al8 h0 c5 i7;have e9:=(Ue _ m2).1.free (fr:=m1) (by rw[q0];exact(Ue _ m2).1.WL);obtain⟨D1,r0⟩:∃D1:TZ,D1={ p9 with fr:=m1 }:=⟨_,rfl⟩;rw[<- r0]at NJ c5 e9;have KI:=NJ.t;have f13:nx+1<Ar:=by omega
 simp only[go_sem,qM,t0,t4,t5,t11,ke,KI,f13];generalize hL:gI _ _=z;obtain⟨n1,n2,n3,n4,n5,n6,n7,n8⟩:=nd4 NJ.nd;have u2:=e9.F6;have r1:=NJ.len;obtain⟨OU,m3⟩:=NJ.r;obtain⟨Lh,j6⟩:=NJ.b;have u5:(BP D1.B).length=D1.R.length:=by rw[aV];exact e9.A8
 obtain⟨x,rfl,J⟩:=pJ hL D1.R.length (fun i st=>st.T 0= .tp (CG m n A b c) 0/\st.T 4=I N/\st.T 5= .rp (nx+1) 0/\st.T 149= .rs bb 0 D1.R.length/\st.T 150=I D1.R.length/\st.T 151=I i/\st.σ=c9/\st.nx=Ar/\∀j,j<i->n<=D1.B.getD j 0->¬0<en D1.R j (n+m))
  (fun x=>∃T,(x=(.exit 6,⟨T,c9,Ar⟩)/\T 0= .tp (CG m n A b c) 0/\T 5= .rp (nx+1) 0/\∀j,j<D1.R.length->n<=D1.B.getD j 0->¬0<en D1.R j (n+m)) \/
   (x=(.ret,⟨T,c9,Ar⟩)/\T 2= .sc (.pointer none)/\T 3=Bo false/\∃i,i<D1.R.length/\n<=D1.B.getD i 0/\0<en D1.R i (n+m))) (by
   clear hL;rintro i ⟨T,Df,EY⟩ hi ⟨t0,t4,t5,WZ,S_,e0,Y,h6,c0⟩;simp only at t0 t4 t5 WZ S_ e0 Y h6;subst Y h6;have g1:(i:Int)<(D1.R.length:Int):=by omega
   have g2:=jL i;have g3:=Zl (n:=(i:Int)+1);have g4:((BP D1.B).flatMap cI++Lh)[i]?=some (I ((D1.B.getD i 0:Nat):Int)):=by
    rw[zW (by rw[qW];omega),idx (by omega),aW (by have:=e9.A8;omega)]
   unfold CG at t0;have next:∀(hn:n<=D1.B.getD i 0->¬0<en D1.R i (n+m)),∀j,j<i+1->n<=D1.B.getD j 0->¬0<en D1.R j (n+m):=fun hn j hj h=>by
    by_cases e:j=i
    .subst e;exact hn h
    .exact c0 j (by omega) h
   by_cases m4:n<=D1.B.getD i 0
   .have g5:(n:Int)<=((D1.B.getD i 0:Nat):Int):=by omega
    have m5:i<rb.length:=by omega
    have f6:=gi (ex:=OU) (n:=n+m+1) m5;obtain⟨bi,EX⟩:∃bi,bi=rb[i]:=⟨_,rfl⟩;rw[<- EX]at f6;obtain⟨Li,SK,Gv,SL⟩:=NJ.row i m5;have m6:Df bi=some ⟨Li.flatMap zc,2,true⟩:=by rw[EX];exact SK
    have rl:(DK D1.R i).length=n+m+1:=by rw[fG hi];exact e9.row _ (zu hi)
    have KG:Li.length=n+m+1:=by have:=congrArg List.length Gv;rw[zV,rl]at this;exact this
    have b7:=dN (c:=zc) (s:=2) Zh Li;rw[KG]at b7;have g6:=dS (c:=zc) (s:=2) Zh Li N (by omega);have g7:N*2+2<=(n+m+1)*2:=by omega
    have g8:(N:Int)<((n+m+1:Nat):Int):=by omega
    obtain⟨hq,e⟩:=P5 Gv (c:=N) (by rw[rl];omega);have e2:(DK D1.R i)[N]'(by rw[rl];omega)=en D1.R i (n+m):=by
     unfold en;rw[zx,zy (by rw[rl];omega)];simp only[hN];rfl
    have z1:∀σ d,stripL (strip σ d) (zc Li[N])=some (cZ (en D1.R i (n+m)),[]):=fun σ d=>by
     rw[Zg σ d (SL _ (zu hq)),e,e2]
    have k1:=kP (en D1.R i (n+m));have c1:=pX (en D1.R i (n+m))
    by_cases e5:0<en D1.R i (n+m)
    .have c2:0<Ah (en D1.R i (n+m)) 0:=by
      have:=mt c1.mp (fun h=>h e5);omega
     refine .inr ⟨_,by simp only[go_sem,t0,t4,t5,WZ,S_,e0,KI,j6,m3,m6,f3,f6,g1,g2,g3,g4,g5,g6,g7,g8,b7,z1,k1,c2];rfl,by simp,_,.inr ⟨rfl,?_⟩⟩;simp only[go_sem];exact⟨i,hi,m4,e5⟩
    .have c2:¬0<Ah (en D1.R i (n+m)) 0:=by
      have:=c1.mpr e5;omega
     refine .inl ⟨_,by simp only[go_sem,t0,t4,t5,WZ,S_,e0,KI,j6,m3,m6,f3,f6,g1,g2,g3,g4,g5,g6,g7,g8,b7,z1,k1,c2];rfl,?_⟩;simp only[go_sem,t0,t4,t5,WZ,S_];exact⟨rfl,rfl,next fun _=>e5⟩
   .have g5:¬(n:Int)<=((D1.B.getD i 0:Nat):Int):=by omega
    refine .inl ⟨_,by simp only[go_sem,t0,t4,t5,WZ,S_,e0,j6,g1,g2,g3,g4,g5];rfl,?_⟩;simp only[go_sem,t0,t4,t5,WZ,S_];exact⟨rfl,rfl,next fun h=>absurd h m4⟩) (by
   rintro ⟨T,Df,EY⟩ ⟨t0,t4,t5,WZ,S_,e0,Y,h6,c0⟩;simp only at t0 t4 t5 WZ S_ e0 Y h6;subst Y h6;have g1:¬(D1.R.length:Int)<(D1.R.length:Int):=by omega
   refine⟨_,by simp only[go_sem,S_,e0,g1];rfl,by simp,_,.inl ⟨rfl,?_⟩⟩;simp only[go_sem,t0,t5];exact c0) (by
   simp only[go_sem,t0,t4,t5];exact fun j hj=>absurd hj (zU j))
 clear hL;have i6:∀x,x<nx->c9 x=σ x:=fun x J=>by
  have e1:=p8 x (by omega) (fun h=>by
   have:=c8 x (by simp only[zX]at h⊢;rcases h with h|h|h|h<;>simp[h]);omega)
  rw[e1,h2 x (by omega) (by omega),o2 x J]
 rcases J with ⟨T3,⟨rfl,t0,t5,c0⟩|⟨rfl,t2,t3,hi⟩⟩
 .unfold CG at t0
  have r2:=NJ.f;have r3:D1.fr.length=N:=by rw[e9.WL,hN]
  have f14:nx<Ar:=by omega
  simp only[go_sem,t0,t5,KI,f13];generalize hL:gI _ _=z
  obtain⟨x,rfl,T4,Df,rfl,t0,t5,r4,h4⟩:=pJ hL N (fun k st=>st.T 0= .tp (CG m n A b c) 0/\st.T 5= .rp (nx+1) 0/\st.T 181=I N/\st.T 182=I k/\st.nx=Ar /\
    st.σ nx=some ⟨(pm (fun j=>decide (j<n)) (fun j=>D1.fr.getD j false) k N).flatMap GZ,1,true⟩/\∀x,x≠nx->st.σ x=c9 x)
   (fun x=>∃T Df,x=(.exit 8,⟨T,Df,Ar⟩)/\T 0= .tp (CG m n A b c) 0/\T 5= .rp (nx+1) 0/\Df nx=some ⟨(fr0 m n).flatMap GZ,1,true⟩/\∀x,x≠nx->Df x=c9 x) (by
    clear hL;rintro k ⟨T,Df,m0⟩ hk ⟨t0,t5,W9,t182,G,hf,hs⟩;simp only at t0 t5 W9 t182 G hf hs;subst G;have g1:(k:Int)<(N:Int):=by omega
    have g2:=jL k;have g3:=Zl (n:=(k:Int)+1);have m7:=(hs (nx+1) (by omega)).trans KI;have q3:¬nx+1=nx:=by omega
    have q4:¬nx=nx+1:=by omega
    have q6:((pm (fun j=>decide (j<n)) (fun j=>D1.fr.getD j false) k N).flatMap GZ).length=N:=by rw[akE,iH,yO]
    have q8:k+1<=N:=hk;have q9:(k:Int)<((n+m:Nat):Int):=by omega
    unfold CG at t0;have e1:∀bb,bb=decide (k<n)->((pm (fun j=>decide (j<n)) (fun j=>D1.fr.getD j false) k N).flatMap GZ).set k (Bo bb)=(pm (fun j=>decide (j<n)) (fun j=>D1.fr.getD j false) (k+1) N).flatMap GZ:=fun bb h=>by
     rw[SN,h,NQ (fun j=>decide (j<n)) (fun j=>D1.fr.getD j false) hk]
    by_cases c7:k<n
    .have g4:(k:Int)<(n:Int):=by omega
     have e2:=e1 true (by rw[sS c7]);refine .inl ⟨_,by simp only[go_sem,t0,t5,W9,t182,m7,hf,hk,g1,g2,g3,g4,f13,f14,q3,q4,q6,q8,q9,e2];rfl,?_⟩;simp only[go_sem,t0,t5,W9];exact⟨rfl,rfl,fun x O=>by rw[aG _ _ O];exact hs x O⟩
    .have g4:¬(k:Int)<(n:Int):=by omega
     have e2:=e1 false (by rw[sQ c7]);refine .inl ⟨_,by simp only[go_sem,t0,t5,W9,t182,m7,hf,hk,g1,g2,g3,g4,f13,f14,q3,q4,q6,q8,q9,e2];rfl,?_⟩;simp only[go_sem,t0,t5,W9];exact⟨rfl,rfl,fun x O=>by rw[aG _ _ O];exact hs x O⟩) (by
    rintro ⟨T,Df,m0⟩ ⟨t0,t5,W9,t182,G,hf,hs⟩;simp only at t0 t5 W9 t182 G hf hs;subst G;have g1:¬(N:Int)<(N:Int):=by omega
    refine⟨_,by simp only[go_sem,W9,t182,g1];rfl,by simp,_,_,rfl,?_⟩;simp only[go_sem,t0,t5];rw[SX]at hf;unfold fr0;rw[<- hN];exact⟨hf,hs⟩) (by
    simp only[go_sem,t0,t5,<- hN];refine⟨rfl,?_⟩;rw[Iw,aav _ r3];exact⟨r2,fun _ _=>trivial⟩)
  clear hL;have r5:=NJ.free (fr:=fr0 m n) (σ':=Df) r4 h4;obtain⟨Dn,nI,r6,D5,r7,F7,u6,r8,r9,s1,s2⟩:=aob Q2 n9 (Nat.le_add_right n m) h1 o0 (j7 D1 h3 c5 c0) r5 (nx:=Ar) (fun x J=>by have:=c8 x J;omega);unfold CG at t0;refine⟨_,by simp only[go_sem,qM,t0,t5,r7];rfl,?_⟩;refine⟨Dn,nI,by omega,fun x J=>?_,D1,h3,c5,.inr ⟨nx+1,br,bb,nx,r6,D5,rfl,c0,F7,r8,r9,fun x J=>?_⟩⟩
  .rw[s2 x (by omega) (fun h=>by
    have:=c8 x (by simp only[zX]at h⊢;rcases h with h|h|h|h<;>simp[h]);omega),h4 x (by omega),i6 x J]
  .have:=c8 x (by
    simp only[zX]at J⊢;rcases J with h|h|h|h|h
    .exact .inl h
    .exact .inr (.inl h)
    .exact .inr (.inr (.inl h))
    .exact .inr (.inr (.inr (.inl h)))
    .exact .inr (.inr (.inr (.inr (s1.subset h)))))
   omega
 .refine⟨_,by simp only[go_sem,t2,t3],c9,Ar,by omega,i6,D1,h3,c5,.inl ⟨rfl,hi⟩⟩
def AA(A b c:List Int)(m n:Nat):Prog:=⟨m,n,fun j k=>((sg b k*A.getD (k*n+j) 0:Int):Rat),fun k=>((sg b k*b.getD k 0:Int):Rat),fun j=>((c.getD j 0:Int):Rat)⟩
structure KJ (A b c:List Int) (m n:Nat):Prop where
 hA:A.length=m*n
 hb:b.length=m
 hc:c.length=n
 m0:0<m
 hm:m<=12
 hn:n<=16
 bA:∀x∈A,-1000<=x/\x<=1000
 bb:∀x∈b,-1000<=x/\x<=1000
 bc:∀x∈c,-1000<=x/\x<=1000
theorem lV{l:List Int}(h:∀x∈l,-1000<=x/\x<=1000)(i:Nat):-1000<=l.getD i 0/\l.getD i 0<=1000:=by
 rw[zx]
 by_cases hi:i<l.length
 .rw[zy hi];exact h _ (zu hi)
 .rw[yg (by omega)];simp
theorem W_(b:List Int)(i:Nat):sg b i=1\/sg b i= -1:=by
 unfold sg;split<;>simp
theorem Qa{b:List Int}{i:Nat}{x:Int}(h:-1000<=x/\x<=1000):(sg b i*x).natAbs<=1000:=by
 rcases W_ b i with e|e<;>rw[e]<;>omega
theorem ad_(b:List Int)(i:Nat):0<=sg b i*b.getD i 0:=by
 unfold sg
 split<;>omega
section
variable {A b c:List Int} {m n:Nat}
theorem iE(h:KJ A b c m n):Whole (AA A b c m n) 1000 :=
 ⟨by decide,fun j k _ _=>⟨_,rfl,Qa (lV h.bA _)⟩,fun k _=>⟨_,rfl,Qa (lV h.bb _)⟩⟩
theorem iF:(AA A b c m n).Good (AA A b c m n).T0:=Prog.arF fun k _=>by
 show(0:Rat)<=((sg b k*b.getD k 0:Int):Rat)
 exact_mod_cast ad_ b k
theorem Tc:∀m,m<=12->ln (fact 1000 m)<=m+1
 |0,_=>by show ln 1<=1;exact jh (by decide)
 |m+1,h=>by
  show ln ((m+1)*(1000*fact 1000 m))<=_;rw[<- vM];have E:=jo ((m+1)*1000) (fact 1000 m);have G:=Tc m (by omega);have J:ln ((m+1)*1000)<=1:=jh (by omega);omega
theorem Xa{i j k:Nat}(hi:i<k)(E:j<n+m+1):en (Ef A b m n k) i j=cell0 A b m n i j:=by
 have e:DK (Ef A b m n k) i=row0 A b m n i:=by
  unfold Ef DK;rw[zx,z_,vU hi];rfl
 unfold en;rw[e,zx,zy (by rw[g_];exact E),gG _ _ _ _ _ E];rfl
theorem gq{k i:Nat}(h:i<k):(List.range k).getD i 0=i:=by
 rw[zx,vU h];rfl
theorem view0:Vw (AA A b c m n) (AA A b c m n).T0 (D0 A b m n m) (List.range m):=by
 have E:(D0 A b m n m).R.length=m:=by simp[D0,Ef]
 have Y:∀i,i<m->(D0 A b m n m).B.getD i 0=n+i:=fun i hi=>by
  unfold D0;rw[zx,z_,vU hi];rfl
 refine⟨by rw[E];simp,by rw[E];simp[D0],fun x hx=>?_,fun r J=>List.mem_range.mp J,List.nodup_range,fun i j hi hj=>?_,fun i hi=>?_,fun i hi=>?_,Int.zero_lt_one,.inl ?_,fun r J hn=>absurd (List.mem_range.mpr J) hn⟩
 .obtain⟨i,-,rfl⟩:=List.mem_map.mp hx
  rw[g_];rfl
 .rw[E]at hi
  have O:j<n+m:=hj;rw[gq hi];show((en (Ef A b m n m) i j:Int):Rat)=((1:Int):Rat)*(AA A b c m n).A j i;rw[Xa hi (by omega)];unfold cell0 Prog.A;show _=((1:Int):Rat)*(if j<n then _ else if i+n=j then 1 else 0)
  by_cases G:j<n
  .rw[sZ G,sZ G]
   show((sg b i*A.getD (i*n+j) 0:Int):Rat)=((1:Int):Rat)*((sg b i*A.getD (i*n+j) 0:Int):Rat);generalize ((sg b i*A.getD (i*n+j) 0:Int):Rat)=q;have:((1:Int):Rat)=1:=rfl;rw[this];grind
  .rw[su G,su G,sZ O]
   by_cases S:j=n+i
   .rw[sZ S,sZ (by omega)];decide+kernel
   .rw[su S,su (by omega)];decide+kernel
 .rw[E]at hi
  rw[gq hi];show((en (Ef A b m n m) i (n+m):Int):Rat)=((1:Int):Rat)*((sg b i*b.getD i 0:Int):Rat);rw[Xa hi (by omega)];unfold cell0;rw[su (by omega),su (by omega)];generalize ((sg b i*b.getD i 0:Int):Rat)=q;have:((1:Int):Rat)=1:=rfl;rw[this];grind
 .rw[E]at hi
  rw[gq hi,Y i hi];show n+i=i+n;omega
 .show((1:Int):Rat)=Lp.Cm m fun q=>(AA A b c m n).A (q+n)
  have:=Sl m;rw[<- show Lp.Cm m (fun i k=>if i=k then(1:Rat)else 0)=Lp.Cm m fun q=>(AA A b c m n).A (q+n)from pF fun i k _ _=>by
   have e:=Prog.FK (p:=AA A b c m n) (i:=i) (k:=k);rw[show(AA A b c m n).A (i+n) k=(AA A b c m n).A (i+(AA A b c m n).n) k from rfl,e]
   by_cases h:i=k
   .rw[sZ h,sZ h.symm]
   .rw[su h,su (zD h)],this]
  rfl
theorem ag'{p:Prog}{T:Tab}{D:TZ}{ι:List Nat}(h:Vw p T D ι):D.R.length<=p.m:=by
 rw[<- h.len];have G:ι ⊆ List.range p.m:=fun r J=>List.mem_range.mpr (h.lt r J)
 have E:=h.nd.length_le_of_subset G;rw[uS]at E;exact E
theorem akL(E:KJ A b c m n){T:Tab}{D:TZ}{ι:List Nat}(h:Vw (AA A b c m n) T D ι)(G:(AA A b c m n).Good T):(∀i j,i<D.R.length->j<=n+m->ln (en D.R i j).natAbs<=13)/\ln D.AV.natAbs<=13:=by
 obtain⟨J,O⟩:=h.bound G (iE E);have hm:=E.hm;have S:=Tc m hm;have e:fact 1000 (AA A b c m n).m=fact 1000 m:=rfl;refine⟨fun i j hi Y=>?_,?_⟩
 .have:=jq (J i j hi Y)
  rw[e]at this;omega
 .have:=jq O
  rw[e]at this;omega
theorem Iy(E:KJ A b c m n){T:Tab}{D:TZ}{ι:List Nat}(h:Vw (AA A b c m n) T D ι)(G:(AA A b c m n).Good T)(J:D.fr.length=n+m):WJ D (n+m)/\0<D.AV:=by
 obtain⟨O,S⟩:=h.bound G (iE E);have Y:=ag' h;have hm:=E.hm;have hn:=E.hn;have a1:D.R.length<=m:=Y;have a6:=Tc m hm;refine⟨⟨h.row,h.A8,by omega,J,by omega,fun i j hi hj=>?_,?_,fun i hi=>?_⟩,h.pos⟩
 .have:=jq (O i j hi hj)
  have e:fact 1000 (AA A b c m n).m=fact 1000 m:=rfl;rw[e]at this;omega
 .have:=jq S
  have e:fact 1000 (AA A b c m n).m=fact 1000 m:=rfl;rw[e]at this;omega
 .rw[h.Bh i hi]
  exact G.ok.bn _ (h.io hi)
end
theorem J8{o E:Nat->Int}(k:Nat):∀(R:List (List Int)) (B:List Nat),(∀x∈B,o x=E x)->DZ o k R B=DZ E k R B
 |[],_,_=>by simp[DZ]
 |_ :: _,[],_=>by simp[DZ]
 |x :: R,y :: B,h=>by
  unfold DZ;rw[J8 k R B fun z G=>h z (zY _ G),h y (by simp)]
theorem mF{o E:Nat->Int}{D:TZ}{N k:Nat}(h:∀j,j<N->o j=E j)(G:k<N)(J:∀x∈D.B,x<N):Bj D o k=Bj D E k:=by
 unfold Bj;rw[h k G,J8 k D.R D.B fun x O=>h x (J x O)]
theorem d_{o G:Nat->Int}{N:Nat}(h:∀j,j<N->o j=G j){D J:TZ}(O:∀x∈D.B,x<N)(hs:EI N o D J):EI N G D J:=by
 obtain⟨s,r,E,S,Y⟩:=hs;refine⟨s,r,⟨E.lt,E.fr,E.non,?_,fun j hj hf hm=>?_⟩,S,Y⟩
 .rw[<- mF h E.lt O];exact E.pos
 .rw[<- mF h (by have:=E.lt;omega) O];exact E.low j hj hf hm
theorem NR{o J:Nat->Int}{N:Nat}(h:∀j,j<N->J j=o j){Q:TZ->Prop}(O:∀D,Q D->∀x∈D.B,x<N)(E:∀D G,Q D->EI N J D G->Q G):∀ {k:Nat} {D:TZ},Q D->Il N o k D->Il N J k D
 |0,_,_,hn=>hn
 |k+1,D,hq,hn=>fun G hs=>NR h O E (E D G hq hs) (hn G (d_ h (O D hq) hs))
theorem aea{o o':Nat->Int}{N:Nat}(h:∀j,j<N->o j=o' j){Q:TZ->Prop}(hQ:∀D,Q D->∀x∈D.B,x<N)(a1:∀D G,Q D->EI N o D G->Q G){D G:TZ}{J:Bool}(hq:Q D)(hm:Sv N o D J G):Sv N o' D J G:=by
 obtain⟨D1,hr,O⟩:=hm;have S:EJ N o' D D1/\Q D1:=by
  clear O
  induction hr with
  |refl=>exact⟨.refl _,hq⟩
  |tail O Y ih=>exact⟨.tail ih.1 (d_ h (hQ _ ih.2) Y),a1 _ _ ih.2 Y⟩
 have hB:=hQ _ S.2;refine⟨D1,S.1,?_⟩;rcases O with ⟨e,O,fr,⟨a6,a7⟩,h3⟩|⟨e,Y,s,h3,h4⟩
 .refine .inl ⟨e,fun j E hf hm=>?_,fr,⟨a6,fun j E=>?_⟩,h3⟩
  .rw[<- mF h E hB];exact O j E hf hm
  .rw[<- mF h E hB];exact a7 j E
 .refine .inr ⟨e,Y,s,⟨h3.lt,h3.fr,h3.non,?_,fun j E hf hm=>?_⟩,h4⟩
  .rw[<- mF h h3.lt hB];exact h3.pos
  .rw[<- mF h (by have:=h3.lt;omega) hB];exact h3.low j E hf hm
theorem NS{D:TZ}{N:Nat}(h:WJ D N):∀x∈D.B,x<N:=fun x E=>by
 obtain⟨i,hi,e⟩:=jU E;rw[<- e];exact h.inB i (by rw[<- h.A8];exact hi)
def Ll(m n:Nat)(c:List Int)(q:Nat):List Int:=(List.range (n+m)).map (oq n (fun j=>c.getD j 0) q)
theorem Xb(f:Nat->Int){N:Nat}{j:Nat}(E:j<N):oF ((List.range N).map f) j=f j:=by
 unfold oF;rw[zx,z_,vU E];rfl
theorem asj(m n:Nat)(c:List Int)(q:Nat):oF (Ll m n c q)=oq n (fun j=>c.getD j 0) q:=by
 funext j
 by_cases E:j<n+m
 .exact Xb _ E
 .unfold oF Ll oq
  rw[zx,yg (by simp;omega)]
  split
  .rw[su (by omega)];rfl
  .rw[su (by omega)];rfl
theorem Td{m n:Nat}{c:List Int}(h:∀x∈c,-1000<=x/\x<=1000)(q:Nat):Obj (Ll m n c q) (n+m):=⟨by simp[Ll],fun x E=>by
 obtain⟨j,-,rfl⟩:=List.mem_map.mp E;have:=lV h j;unfold oq;simp only
 split
 .split<;>omega
 .split<;>omega⟩
section
variable {A b c:List Int} {m n:Nat}
def QA(A b c:List Int)(m n:Nat)(D:TZ):Prop:=D.fr=fr0 m n/\∃T,Vw (AA A b c m n) T D (List.range m)/\(AA A b c m n).Good T
def QB(A b c:List Int)(m n:Nat)(D:TZ):Prop:=D.fr=fr0 m n/\∃T ι,Vw (AA A b c m n) T D ι/\(AA A b c m n).Good T/\Zero (AA A b c m n) T
theorem Tf(m n:Nat):(fr0 m n).length=n+m:=by simp[fr0]
theorem abH(m n j:Nat):(fr0 m n).getD j false=true↔j<n:=by
 unfold fr0;rw[zx,z_]
 by_cases h:j<n+m
 .rw[vU h];simp
 .rw[yg (by simp;omega)];simp;omega
theorem NT(m n:Nat):∀j,j<n+m->oF (o1L m n) j=o1 n j:=fun j E=>Xb _ E
theorem asl{T:Tab}(o:Nat->Int)(fr:List Bool):Fit (AA A b c m n) T (List.range m) o fr:=⟨fun r E hn=>absurd (List.mem_range.mpr E) hn,fun _ _=> .inr fun r E=>List.mem_range.mpr E⟩
theorem Ti(E:KJ A b c m n){D:TZ}(h:QA A b c m n D):WJ D (n+m)/\0<D.AV:=by
 obtain⟨G,T,J,O⟩:=h;exact Iy E J O (by rw[G];exact Tf m n)
theorem aog(E:KJ A b c m n){D:TZ}(h:QB A b c m n D):WJ D (n+m)/\0<D.AV:=by
 obtain⟨G,T,ι,J,O,_⟩:=h;exact Iy E J O (by rw[G];exact Tf m n)
theorem aha(J:KJ A b c m n){D E:TZ}(h:QA A b c m n D)(hs:EI (n+m) (o1 n) D E):QA A b c m n E:=by
 obtain⟨O,T,S,G⟩:=h;obtain⟨T',g1,g2,g3⟩:=S.step G (iE J) (asl (o1 n) D.fr) hs;exact⟨g3.trans O,T',g2,G.step g1⟩
theorem Tj(E:KJ A b c m n){D G:TZ}(h:QA A b c m n D)(hs:EI (n+m) (oF (o1L m n)) D G):QA A b c m n G :=
 aha E h (d_ (NT m n) (NS (Ti E h).1) hs)
theorem Tm:QA A b c m n (D0 A b m n m):=⟨rfl,_,view0,iF⟩
theorem akM(E:KJ A b c m n):∃K,Il (n+m) (oF (o1L m n)) K (D0 A b m n m) :=
 ⟨_,NR (NT m n) (fun D h=>NS (Ti E h).1) (fun D G h hs=>Tj E h hs) Tm
  (Vw.aaj (o:=o1 n) (iE E) view0 iF (asl (o1 n) _) (abm iF.ok))⟩
def axI(A b c:List Int)(m n:Nat)(σ:Store)(nx:Nat)(r:V×Store×Nat):Prop :=
 ∃σ' nx',nx<=nx'/\(∀x,x<nx->σ' x=σ x) /\
  ((r=(.Au [.sc (.pointer none),Bo false],σ',nx')/\(AA A b c m n).None) \/
   (∃bt br bb bf rb D T ι,r=(.Au [.rp bt 0,Bo true],σ',nx')/\Dk σ' bt br bb bf rb D (n+m)/\D.fr=fr0 m n/\Vw (AA A b c m n) T D ι/\(AA A b c m n).Good T/\(AA A b c m n).Out T/\(∀x∈D.B,x<n)/\∀x∈bt :: br :: bb :: bf :: rb,nx<=x/\x<nx'))
theorem akN(E:KJ A b c m n)(σ:Store)(nx:Nat):∃r,ev Ze pI Ad 218 [.tp (CG m n A b c) 0] σ nx=some r/\axI A b c m n σ nx r:=by
 obtain⟨K,hK⟩:=akM E;have hN:(AA A b c m n).N=n+m:=rfl;have first:∀D1 G,Sv (n+m) (oF (o1L m n)) (D0 A b m n m) G D1->∃T,Vw (AA A b c m n) T D1 (List.range m)/\(AA A b c m n).Good T/\((∀i,i<D1.R.length->n<=D1.B.getD i 0->¬0<en D1.R i (n+m))->Zero (AA A b c m n) T)/\((∃i,i<D1.R.length/\n<=D1.B.getD i 0/\0<en D1.R i (n+m))->(AA A b c m n).None):=fun D1 G hm=>
  adN (p:=AA A b c m n) (iE E) (aea (NT m n) (fun D h=>NS (Ti E h).1) (fun D D' h hs=>Tj E h hs) Tm hm) view0 iF (fun r hr=>List.mem_range.mpr hr) (abH m n)
 obtain⟨r,h1,σ',nx',h2,h3,D1,G,h4,Y⟩:=aoc (QA A b c m n) (QB A b c m n) (c:=c) E.hA E.hb E.m0 (by have:=E.hm;omega) (by have:=E.hn;omega) (fun x J=>by have:=E.bA x J;omega) (fun x J=>by have:=E.bb x J;omega)
  (fun D h=>Ti E h) (fun D D' h hs=>Tj E h hs) Tm hK (fun D h=>aog E h)
  (fun D i k h hi hB hk a1=>by
   obtain⟨O,T,ι,v1,v2,v3⟩:=h;obtain⟨g1,g2,g3⟩:=adO (iE E) v1 v2 v3 hi hB hk a1;refine⟨?_,_,_,g1,g2,g3⟩;rw[<- O];unfold FM;split<;>rfl)
  (fun D i h hi hB hz=>by
   obtain⟨O,T,ι,v1,v2,v3⟩:=h;exact⟨O,T,_,aak v1 v3 hi hB hz,v2,v3⟩)
  (fun D1 G hm S=>by
   obtain⟨T,v1,v2,v3,_⟩:=first D1 G hm
   exact⟨rfl,T,_,v1.frame _,v2,v3 S⟩) σ nx
 refine⟨r,h1,σ',nx',h2,h3,?_⟩;obtain⟨T,v1,v2,v3,v4⟩:=first D1 G h4
 rcases Y with ⟨rfl,Y⟩|⟨bt,br,bb,bf,rb,D2,rfl,Y,h6,⟨O,T2,a6,w1,w2,w3⟩,h8,h9⟩
 .exact .inl ⟨rfl,v4 Y⟩
 .exact .inr ⟨bt,br,bb,bf,rb,D2,T2,a6,rfl,h6,O,w1,w2,adP w1 h8,fun x J=>by
   obtain⟨i,hi,e⟩:=jU J;rw[<- e];exact h8 i (by rw[<- w1.A8];exact hi),h9⟩
end
theorem Sr{p:Prog}{T:Tab}(h:p.Good T)(ho:p.Out T){q s:Nat}(J:q≠0)(hs:s<p.n)(O:¬basic p.m T s)(hg:0<gm p.m T (p.C q) s)(FZ:∀i,i<p.m->T.e i s<=0):False:=by
 obtain⟨E,e⟩:∃E:Prog,E={ p with c:=p.C q }:=⟨_,rfl⟩;have hC:E.C 0=p.C q:=by
  subst e;funext j;unfold Prog.C;rw[sZ rfl,su J];show(if j<p.n then(if q=0 then _ else if j+1=q/\j<p.n then(-1:Rat)else 0)else 0)=_;rw[su J]
  by_cases G:j<p.n
  .rw[sZ G]
  .rw[su G,su (fun h=>G h.2)]
 have S:E.Good T:=by
  subst e;exact⟨h.ok,h.ed,h.sol⟩
 have Y:E.Out T:=by
  subst e;exact⟨ho.z⟩
 have a1:E.Open:=Prog.Nc (p:=E) S Y (s:=s) (by subst e;exact hs) (by subst e;exact O) (by rw[hC];subst e;exact hg) (by subst e;exact FZ);obtain⟨x,hx,h1⟩:=a1 1;have a6:∀j,j<p.n->0<=x j:=by subst e;exact hx.2
 have hle:ob p.n (p.C q) x<=0:=by
  unfold ob;have:=dJ (f:=fun j=> -(p.C q j*x j)) (n:=p.n) fun j G=>by
   have:=a6 j G;unfold Prog.C;rw[su J]
   split<;>grind
  have e2:=dK (-1) (fun j=>p.C q j*x j) p.n;have e3:sm (fun j=> -(p.C q j*x j)) p.n=sm (fun j=> -1*(p.C q j*x j)) p.n:=dL fun j _=>by grind
  rw[e3,e2]at this;grind
 have:ob E.n E.c x=ob p.n (p.C q) x:=by subst e;rfl
 rw[this]at h1;grind
section
variable {A b c:List Int} {m n:Nat}
def QC(A b c:List Int)(m n:Nat)(ι:List Nat)(fr:List Bool)(D:TZ):Prop:=D.fr=fr/\∃T,Vw (AA A b c m n) T D ι/\(AA A b c m n).Good T
theorem al9(hp:KJ A b c m n){q:Nat}{v:Nat->Rat}{σ:Store}{nx bt br bb bf bo:Nat}{rb ι:List Nat}{D:TZ}{T:Tab}(h:Dk σ bt br bb bf rb D (n+m))(hv:Vw (AA A b c m n) T D ι)(hg:(AA A b c m n).Good T)(ho:(AA A b c m n).Out T)
  (a1:(AA A b c m n).Ed q v (fun j=>D.fr.getD j false=true) T) (O:D.fr.length=n+m) (a6:∀x∈D.B,x<n) (a7:∀b∈bt :: br :: bb :: bf :: rb,b<nx) (a8:σ bo=some ⟨(Ll m n c q).flatMap cI,1,true⟩) (b2:bo<nx) (b3:bo∉bt :: br :: bb :: bf :: rb) :
  ∃σ' nx' E J T',ev Ze pI Ad 219 [.rp bt 0,.rs bo 0 (n+m)] σ nx=some (Bo E,σ',nx')/\Dk σ' bt br bb bf rb J (n+m)/\nx<=nx'/\(∀b,b<nx->b∉bt :: bb :: bf :: rb->σ' b=σ b) /\
   Vw (AA A b c m n) T' J ι/\(AA A b c m n).Good T'/\(AA A b c m n).Out T'/\J.fr.length=n+m/\(∀x∈J.B,x<n)/\((E=true/\∃v',(AA A b c m n).Ed (q+1) v' (fun j=>J.fr.getD j false=true) T')\/(E=false/\q=0/\(AA A b c m n).Open)):=by
 have hw:=iE hp;have S:∀j,D.fr.getD j false=true->j<n:=fun j hj=>a1.inn j hj
 have sh:∀D1,QC A b c m n ι D.fr D1->WJ D1 (n+m)/\0<D1.AV:=fun D1 ⟨e,T1,h1,h2⟩=>Iy hp h1 h2 (by rw[e];exact O)
 have oe:=asj m n c q;have Y:∀D1 D2,QC A b c m n ι D.fr D1->EI (n+m) (oF (Ll m n c q)) D1 D2->QC A b c m n ι D.fr D2:=fun D1 D2 ⟨e,T1,h1,h2⟩ hs=>by
  rw[oe]at hs;obtain⟨T2,g1,g2,g3⟩:=h1.step h2 hw (anm (c:=fun j=>c.getD j 0) (q:=q) h1 (by rw[e];exact S)) hs;exact⟨g3.trans e,T2,g2,h2.step g1⟩
 have b4:Il (n+m) (oF (Ll m n c q)) (2^(n+m)) D:=by
  rw[oe];exact Vw.aaj (o:=oq n (fun j=>c.getD j 0) q) hw hv hg (anm hv S) (abm hg.ok)
 obtain⟨σ',nx',E,J,ke,G,hT,hn,hf⟩:=ar9 (QC A b c m n ι D.fr) sh Y (Td hp.bc q) ⟨rfl,T,hv,hg⟩ b4 h a7 a8 b2 b3;rw[oe]at G;obtain⟨T',v1,v2,v3,v4,v5⟩:=adQ (p:=AA A b c m n) hw (c:=fun j=>c.getD j 0) (fun j _=>rfl) G hv hg ho a1 (by rw[O];exact zq _);have b5:∀x∈J.B,x<n:=by
  obtain⟨D1,fr,⟨_,h1⟩,rfl,-⟩:=al8 (Q:=fun D1=>D1.fr=D.fr/\∀x∈D1.B,x<n) (fun D1 D2 ⟨e,hB⟩ hs=>by
   obtain⟨s,r,g1,g2,rfl⟩:=hs;have e1:(FM D1 r s).fr=D1.fr:=by unfold FM;split<;>rfl
   have e2:(FM D1 r s).B=D1.B.set r s:=by unfold FM;split<;>rfl
   refine⟨e1.trans e,fun x hx=>?_⟩;rw[e2]at hx;rcases uP hx with h|h
   .exact hB x h
   .subst h;exact S _ (by rw[<- e];exact g1.fr)) G ⟨rfl,a6⟩
  exact h1
 refine⟨σ',nx',E,J,T',ke,hT,hn,hf,v1,v2,v3,v4.trans O,b5,?_⟩;rcases v5 with ⟨e,v5⟩|⟨e,s,s1,s2,s3,s4⟩
 .exact .inl ⟨e,_,v5⟩
 .by_cases hq:q=0
  .subst hq
   exact .inr ⟨e,rfl,Prog.Nc v2 v3 s1 s2 s3 s4⟩
  .exact(Sr v2 v3 hq s1 s2 s3 s4).elim
end
theorem Dk.congr{σ σ':Store}{bt br bb bf:Nat}{rb:List Nat}{D:TZ}{N:Nat}(h:Dk σ bt br bb bf rb D N)(e:∀x∈bt :: br :: bb :: bf :: rb,σ' x=σ x):Dk σ' bt br bb bf rb D N:=by
 refine⟨?_,?_,fun i hi=>(h.row i hi).congr (e _ ?_),?_,?_,h.len,h.nd⟩
 .rw[e bt (by simp)];exact h.t
 .rw[e br (by simp)];exact h.r
 .have:=zu hi
  simp[this]
 .rw[e bb (by simp)];exact h.b
 .rw[e bf (by simp)];exact h.f
section
variable {A b c:List Int} {m n:Nat}
theorem ahb(hc:c.length=n):Ll m n c 0=c++List.replicate m 0:=by
 apply yE
 .simp[Ll,hc]
 .intro j E G
  have J:j<n+m:=by simpa[Ll]using E
  have e:(Ll m n c 0)[j]=if j<n then c.getD j 0 else 0:=by simp[Ll,oq]
  rw[e,List.getElem_append]
  by_cases h:j<n
  .rw[sZ h,dif_pos (by omega),zx,zy (by omega)];rfl
  .rw[su h,dif_neg (by omega),List.getElem_replicate]
theorem ahc(k:Nat)(G:k<n):Ll m n c (k+1)=(List.replicate (n+m) 0).set k (-1):=by
 apply yE
 .simp[Ll]
 .intro j E J
  have O:j<n+m:=by simpa[Ll]using E
  have e:(Ll m n c (k+1))[j]=if j=k/\j<n then -1 else 0:=by simp[Ll,oq]
  rw[e,vJ]
  by_cases h:k=j
  .rw[sZ h,sZ ⟨h.symm,by omega⟩]
  .rw[su h,su (fun g=>h g.1.symm),List.getElem_replicate]
theorem aoh(hc:c.length=n)(σ:Store)(nx b:Nat):LY (upd σ b (some ⟨rep (n+m) [I 0],1,true⟩)) nx (c.flatMap cI) c.length (.rs b 0 (n+m))=some (I ((n:Nat):Int),upd σ b (some ⟨(Ll m n c 0).flatMap cI,1,true⟩),nx):=by
 unfold LY;have e:min c.length (n+m)=n:=by omega
 have E:(c.flatMap cI).length=n:=by rw[qW,hc]
 have G:(Ll m n c 0).flatMap cI=c.flatMap cI++rep m [I 0]:=by rw[ahb hc,zT,gX]
 simp only[e,aF,zi,aC];rw[G]
 by_cases hn:n=0
 .rw[sZ hn]
  have:c=[]:=zZ (by omega);subst hn this;simp
 .rw[su hn,sZ ⟨trivial,by rw[gW];simp,by
   rw[wL];intro v J;obtain⟨x,-,O⟩:=List.mem_flatMap.mp (xH J);rw[List.mem_singleton.mp O];rfl⟩]
  rw[zo (by omega),iR _ _ _ (by rw[E,gW];simp),E];congr 4;rw[List.take_zero,yL,yu];congr 1;have:rep (n+m) [I 0]=rep n [I 0]++rep m [I 0]:=by rw[gX,gX,gX,<- zT,vH]
  rw[this,List.drop_left' (by rw[gW];simp)]
theorem akO{L:List Int}{N:Nat}(S:L.length=N)(σ:Store)(nx b:Nat)(hb:σ b=some ⟨L.flatMap cI,1,true⟩)(G:N≠0):Ew σ nx [I 0] (.rs b 0 N)=some (.Au [],upd σ b (some ⟨(List.replicate N 0).flatMap cI,1,true⟩),nx):=by
 unfold Ew;simp only;rw[su G,hb];have E:(rep N [I 0]).length=N:=by rw[gW];simp
 simp only[zi];rw[sZ ⟨trivial,by rw[qW];omega,by
  rw[gX,wL];intro v J;obtain⟨x,-,O⟩:=List.mem_flatMap.mp J;rw[List.mem_singleton.mp O];rfl⟩]
 rw[iR _ _ _ (by rw[E,qW];omega),E,List.take_zero,yL,yu,xZ (by rw[qW];omega),zM,gX]
def cF(q:Rat):List V:=[.tp (cQ q) 0]
def asn(p:Prog)(r:V):Prop:=(r= .Au [I 2,.ts [] 0,.sc (.pointer none)]/\p.None)\/(r= .Au [I 3,.ts [] 0,.sc (.pointer none)]/\p.Open) \/
 ∃x:Nat->Rat,p.Best x/\(∀j,j<p.n->Ln 24 (x j))/\r= .Au [I 0,LL cF ((List.range p.n).map x),.tp (cQ (ob p.n p.c x)) 0]
theorem abI{a:Int}{d k:Nat}(E:ln a.natAbs<=k)(G:ln d<=k)(J:1<=k):Ln k (mkRat a d):=by
 constructor
 .rw[Rat.num_mkRat]
  split
  .show ln 0<=k;rw[jg];omega
  .exact zL (jq (Int.natAbs_ediv_le_natAbs _ _)) E
 .rw[Rat.den_mkRat]
  split
  .exact zL (jh (by decide)) J
  .exact zL (jq (xP _ _)) G
theorem aay{x y:Rat}{k l:Nat}(h:Ln k x)(E:Ln l y)(G:1<=k+l):Ln (k+l) (x*y):=by
 rw[Rat.mul_def'];refine abI ?_ (Ny h E) G;have:=jm x.num y.num;have:=h.1;have:=E.1;omega
theorem aaz{x y:Rat}{k l:Nat}(h:Ln k x)(E:Ln l y):Ln (k+l+1) (x+y):=by
 rw[Rat.add_def'];refine abI ?_ (zL (Ny h E) (by omega)) (by omega);have G:=jk h E;have J:=jk E h;have:=Ir (x.num*y.den) (y.num*x.den);omega
theorem sO{z:Int}(h:-1000000<=z/\z<=1000000):Ln 1 (z:Rat):=⟨jh (by show z.natAbs<_;omega),jh (by show 1<_;decide)⟩
theorem aoi(X:List Rat):∀(k:Nat) (q:Rat),(X.flatMap cF).set k (.tp (cQ q) 0)=(X.set k q).flatMap cF:=by
 induction X with
 |nil=>intro k q;rfl
 |cons a X E=>intro k q;cases k with
  |zero=>rfl
  |succ k=>show V.tp (cQ a) 0 :: ((X.flatMap cF).set k (.tp (cQ q) 0))=_;rw[E];rfl
theorem qY(X:List Rat):(X.flatMap cF).length=X.length:=by
 induction X with
 |nil=>rfl
 |cons a X E=>rw[zO,zl,E,zB];show 1+_=_;omega
theorem qZ(X:List Rat){k:Nat}(h:k<X.length):(X.flatMap cF)[k]?=some (.tp (cQ X[k]) 0):=by
 induction X generalizing k with
 |nil=>exact absurd h (zU k)
 |cons a X E=>cases k with
  |zero=>rfl
  |succ k=>exact E (k:=k) (by simpa using h)
theorem ahd(k N:Nat)(h:k<N):((List.replicate k (0:Rat)).flatMap cF++rep (N-k) [.sc (.pointer none)]).set k (.tp (cQ 0) 0)=(List.replicate (k+1) (0:Rat)).flatMap cF++rep (N - (k+1)) [.sc (.pointer none)]:=by
 rw[yF _ _ (by rw[qY,yR];exact zq _),qY,yR,yP,show N-k=N - (k+1)+1 by omega,gV,uQ,zT,zF];rfl
theorem Iz(σ:Store)(d:Nat):∀X:List Rat,stripL (strip σ (d+1)) (X.flatMap cF)=some (X.flatMap cF,[])
 |[]=>by rw[wE,bP]
 |q :: X=>by
  rw[zO,show cF q++X.flatMap cF=V.tp (cQ q) 0 :: X.flatMap cF from rfl,bU,ay,Iz σ d X];rfl
def xB(B:List Nat)(f:Nat->Rat)(i n:Nat):List Rat:=(List.range n).map fun j=>if j∈B.take i then f j else 0
theorem Zi(B:List Nat)(f:Nat->Rat)(i n:Nat):(xB B f i n).length=n:=by simp[xB]
theorem abJ(B:List Nat)(f:Nat->Rat)(n:Nat):xB B f 0 n=List.replicate n 0:=by simp[xB,List.map_const']
theorem ahe{B:List Nat}(f:Nat->Rat){i n:Nat}(hi:i<B.length):(xB B f i n).set (B.getD i 0) (f (B.getD i 0))=xB B f (i+1) n:=by
 have hb:B[i]=B.getD i 0:=by rw[zx,zy hi];rfl
 apply yE
 .rw[yK,Zi,Zi]
 .intro j O G
  have J:j<n:=by rw[Zi]at G;exact G
  have e:∀i,(xB B f i n)[j]'(by rw[Zi];exact J)=if j∈B.take i then f j else 0:=fun i=>by simp[xB]
  rw[vJ,e,e,yN,zy hi,hb]
  by_cases h:B.getD i 0=j
  .rw[sZ h,h,sZ (by simp)]
  .rw[su h]
   by_cases E:j∈B.take i
   .rw[sZ E,sZ (by simp[E])]
   .rw[su E,su (by simp[E];exact fun e=>h e.symm)]
theorem aoj(hp:KJ A b c m n):∃r,fn Ze pI Ad 160 [.tp (CG m n A b c) 0]=some r/\asn (AA A b c m n) r:=by
 have O:=hp.m0;have hm:=hp.hm;have hn:=hp.hn;have hc:=hp.hc;obtain⟨r0,kb,e4,oI,m7,-,hr⟩:=akN hp lI 0;obtain⟨N,hN⟩:∃N,N=n+m:=⟨_,rfl⟩;rw[mW,nK [.tmp 2,.tmp 3,.tmp 4] [24] func160];unfold CG at kb⊢;rcases hr with ⟨rfl,c8⟩|⟨bt,br,bb,bf,rb,D,T,ι,rfl,hT,e6,hv,hg,ho,i1,a1⟩
 .simp only[go_sem,qM,kb]
  exact⟨_,rfl,.inl ⟨rfl,c8⟩⟩
 .have c9:=hT.t
  have f1:bt<oI:=(a1 bt (by simp)).2;rw[<- hN]at c9;have f2:=jL N;have f3:8*(N:Int)<=281474976710656:=by omega
  have f4:(N:Int)<=9223372036854775807:=by omega
  have kc:=aoh (m:=m) hc e4 (oI+1) oI;rw[<- hN]at kc;obtain⟨σ2,GL⟩:∃σ2,σ2=upd e4 oI (some ⟨(Ll m n c 0).flatMap cI,1,true⟩):=⟨_,rfl⟩;rw[<- GL]at kc;have i2:Dk σ2 bt br bb bf rb D (n+m):=hT.congr fun x G=>by rw[GL,aG _ _ (by have:=a1 x G;omega)]
  obtain⟨m8,Ar,i3,D3,T3,km,NJ,m9,i4,i5,i6,i7,i9,j0,e7⟩:=al9 hp (q:=0) (v:=fun _=>0) (bo:=oI) (nx:=oI+1) i2 hv hg ho (by
   rw[e6];have:(fun j=>(fr0 m n).getD j false=true)=fun j=>j<(AA A b c m n).n:=by funext j;exact propext (abH m n j)
   rw[this];exact Prog.stage0) (by rw[e6];exact Tf m n) i1 (fun x G=>by have:=a1 x G;omega) (by rw[GL,aF]) (by omega) (fun G=>by have:=a1 oI G;omega)
  rw[<- hN]at km;rcases e7 with ⟨rfl,v1,j1⟩|⟨rfl,-,j2⟩
  .simp only[go_sem,qM,kb,c9,f1,f2,f3,f4,kc,km]
   generalize hL:gI _ _=y
   obtain⟨x,rfl,T4,Df,J,rfl,t0,t5,E,S,v4,b2,a6,a8,b4,b5⟩:=pJ hL n (fun k st=>st.T 0= .tp (CG m n A b c) 0/\st.T 5= .rp bt 0/\st.T 7= .rs oI 0 N/\st.T 41=I n/\st.T 42=I k/\oI<st.nx/\(∃L:List Int,L.length=N/\st.σ oI=some ⟨L.flatMap cI,1,true⟩) /\
     ∃D U v,Dk st.σ bt br bb bf rb D (n+m)/\Vw (AA A b c m n) U D ι/\(AA A b c m n).Good U/\(AA A b c m n).Out U/\D.fr.length=n+m/\(∀x∈D.B,x<n)/\(AA A b c m n).Ed (k+1) v (fun j=>D.fr.getD j false=true) U)
    (fun x=>∃T Df J,x=(.exit 0,⟨T,Df,J⟩)/\T 0= .tp (CG m n A b c) 0/\T 5= .rp bt 0/\∃D U v,Dk Df bt br bb bf rb D (n+m)/\Vw (AA A b c m n) U D ι/\(AA A b c m n).Good U/\(AA A b c m n).Out U/\D.fr.length=n+m/\(∀x∈D.B,x<n)/\(∀x∈bt :: br :: bb :: bf :: rb,x<J)/\(AA A b c m n).Ed (n+1) v (fun j=>D.fr.getD j false=true) U) (by
     clear hL;rintro k ⟨T,Df,J⟩ hk ⟨t0,t5,t7,t41,t42,b6,⟨L,hL,c3⟩,E,U,v,b2,a6,a8,b4,b8,b9,b5⟩;simp only at t0 t5 t7 t41 t42 b6 c3 b2;have g1:(k:Int)<(n:Int):=by omega
     have g2:=jL k;have g3:=Zl (n:=(k:Int)+1);have g4:=akO hL Df J oI c3 (by omega);obtain⟨Dn,c4⟩:∃Dn,Dn=upd Df oI (some ⟨(Ll m n c (k+1)).flatMap cI,1,true⟩):=⟨_,rfl⟩;have g5:((List.replicate N (0:Int)).flatMap cI).set k (I (-1))=(Ll m n c (k+1)).flatMap cI:=by rw[qV,ahc k hk,hN]
     have g6:((List.replicate N (0:Int)).flatMap cI).length=N:=by rw[qW];simp
     have g7:(k:Int)<(N:Int):=by omega
     have g8:k<N:=by omega
     have g9:k+1<=N:=by omega
     have F7:Dk Dn bt br bb bf rb E (n+m):=b2.congr fun x G=>by rw[c4,aG _ _ (by have:=a1 x G;omega)]
     obtain⟨Dh,A_,i3,D6,U6,e8,j3,Qb,j4,j5,j6,j7,e9,j8,j9⟩:=al9 hp (q:=k+1) (bo:=oI) (nx:=J) F7 a6 a8 b4 b5 b8 b9 (fun x G=>by have:=a1 x G;omega) (by rw[c4,aF]) b6 (fun G=>by have:=a1 oI G;omega);rw[<- hN]at e8;unfold CG at t0;rcases j9 with ⟨rfl,v6,k0⟩|⟨_,h,_⟩
     .refine .inl ⟨_,by simp only[go_sem,qM,t0,t5,t7,t41,t42,g1,g2,g3,g4,g5,g6,g7,g8,g9,<- c4,e8];rfl,?_⟩
      simp only[go_sem,t0,t5,t7,t41];refine⟨rfl,rfl,by omega,⟨Ll m n c (k+1),by rw[(Td hp.bc _).1,hN],?_⟩,D6,U6,v6,j3,j5,j6,j7,e9,j8,k0⟩;rw[j4 oI b6 (fun G=>by
       have:=a1 oI (by simp only[zX]at G⊢;rcases G with h|h|h|h<;>simp[h]);omega),c4,aF]
     .omega) (by
     rintro ⟨T,Df,J⟩ ⟨t0,t5,t7,t41,t42,b6,c3,E,U,v,b2,a6,a8,b4,b8,b9,b5⟩;simp only at t0 t5 t7 t41 t42 b6 c3 b2;have g1:¬(n:Int)<(n:Int):=by omega
     refine⟨_,by simp only[go_sem,t41,t42,g1];rfl,by simp,_,_,_,rfl,?_⟩;simp only[go_sem,t0,t5];exact⟨E,U,v,b2,a6,a8,b4,b8,b9,fun x G=>by have:=a1 x G;omega,b5⟩) (by
     simp only[go_sem,CG];refine⟨by omega,⟨Ll m n c 0,by rw[(Td hp.bc _).1,hN],?_⟩,D3,T3,v1,NJ,i5,i6,i7,i9,j0,j1⟩;rw[i4 oI (by omega) (fun G=>by
      have:=a1 oI (by simp only[zX]at G⊢;rcases G with h|h|h|h<;>simp[h]);omega),GL,aF])
   clear hL;obtain⟨b8,b9,a7,h0⟩:=b5;have k4:=Iy hp a6 a8 b8;have k5:=h0.best a8 b4;have h1:=jL n;have h2:8*(n:Int)<=281474976710656:=by omega
   have h3:(n:Int)<=9223372036854775807:=by omega
   unfold CG at t0;simp only[go_sem,t0,t5,h1,h2,h3];generalize hL:gI _ _=y;obtain⟨x,rfl,T5,Dn,rfl,t0,t5,t9,k6,k7⟩:=pJ hL n (fun k st=>st.T 0= .tp (CG m n A b c) 0/\st.T 5= .rp bt 0/\st.T 9= .rs J 0 n/\st.T 59=I n/\st.T 60=I k/\st.nx=J+1/\st.σ J=some ⟨(List.replicate k (0:Rat)).flatMap cF++rep (n-k) [.sc (.pointer none)],1,true⟩/\∀x,x<J->st.σ x=Df x)
    (fun x=>∃T Dn,x=(.exit 2,⟨T,Dn,J+1⟩)/\T 0= .tp (CG m n A b c) 0/\T 5= .rp bt 0/\T 9= .rs J 0 n/\Dn J=some ⟨(List.replicate n (0:Rat)).flatMap cF,1,true⟩/\∀x,x<J->Dn x=Df x) (by
     clear hL;rintro k ⟨T,Dn,m0⟩ hk ⟨t0,t5,t9,t59,t60,O,G,hs⟩;simp only at t0 t5 t9 t59 t60 O G hs;subst O;have g1:(k:Int)<(n:Int):=by omega
     have g2:=jL k;have g3:=Zl (n:=(k:Int)+1);have g4:fn Ze conv ext 112 [I 0]=some (.tp (cQ 0) 0):=kM 0 (by decide) (by decide)
     have g5:=ahd k n hk;have g6:((List.replicate k (0:Rat)).flatMap cF++rep (n-k) [.sc (.pointer none)]).length=n:=by rw[zl,qY,gW];simp;omega
     have g7:k+1<=n:=hk;refine .inl ⟨_,by simp only[go_sem,t0,t5,t9,t59,t60,G,hk,g1,g2,g3,g4,g5,g6,g7];rfl,?_⟩;simp only[go_sem,t0,t5,t9,t59];exact⟨rfl,fun x G=>by rw[aH];exact hs x G⟩) (by
     rintro ⟨T,Dn,m0⟩ ⟨t0,t5,t9,t59,t60,O,G,hs⟩;simp only at t0 t5 t9 t59 t60 O G hs;subst O;have g1:¬(n:Int)<(n:Int):=by omega
     refine⟨_,by simp only[go_sem,t59,t60,g1];rfl,by simp,_,_,rfl,?_⟩;simp only[go_sem,t0,t5,t9];rw[yP]at G;have:rep 0 [V.sc (.pointer none)]=[]:=rfl;rw[this,zM]at G;exact⟨G,hs⟩) (by
     simp only[go_sem,t0,t5,CG];exact⟨rfl,fun x G=>by rw[aH]⟩)
   clear hL;have F7:Dk Dn bt br bb bf rb E (n+m):=b2.congr fun x G=>k7 x (a7 x G)
   obtain⟨hS,m6⟩:=k4;have h4:=F7.t;have k8:bt<J:=a7 bt (by simp);unfold CG at t0;obtain⟨n1,n2,n3,n4,n5,n6,n7,n8⟩:=nd4 F7.nd;have n0:=hS.F6;have k9:=F7.len;obtain⟨OU,l5⟩:=F7.r;obtain⟨Lh,l6⟩:=F7.b;have n9:(BP E.B).length=E.R.length:=by rw[aV];exact hS.A8
   have l7:E.B.length=E.R.length:=hS.A8;have g13:bt<J+1:=by omega
   have e9:∀x,x∈bt :: br :: bb :: bf :: rb->x<J:=a7;simp only[go_sem,t0,t5,h4,g13];generalize hL:gI _ _=y;obtain⟨x,rfl,T6,Dh,rfl,t0,t9,c5⟩:=pJ hL E.R.length (fun i st=>st.T 0= .tp (CG m n A b c) 0/\st.T 5= .rp bt 0/\st.T 9= .rs J 0 n/\st.T 71= .rs bb 0 E.R.length/\st.T 72=I E.R.length/\st.T 73=I i/\st.nx=J+1/\st.σ J=some ⟨(xB E.B (Bh m S) i n).flatMap cF,1,true⟩/\∀x,x<J->st.σ x=Dn x)
    (fun x=>∃T Dh,x=(.exit 4,⟨T,Dh,J+1⟩)/\T 0= .tp (CG m n A b c) 0/\T 9= .rs J 0 n/\Dh J=some ⟨(xB E.B (Bh m S) E.R.length n).flatMap cF,1,true⟩) (by
     clear hL;rintro i ⟨T,Dh,m0⟩ hi ⟨t0,t5,t9,t71,t72,t73,O,G,hs⟩;simp only at t0 t5 t9 t71 t72 t73 O G hs;subst O;have g1:(i:Int)<(E.R.length:Int):=by omega
     have g2:=jL i;have g3:=Zl (n:=(i:Int)+1);have g4:((BP E.B).flatMap cI++Lh)[i]?=some (I ((E.B.getD i 0:Nat):Int)):=by
      rw[zW (by rw[qW];omega),idx (by omega),aW (by omega)]
     have h5:E.B.getD i 0<n:=b9 _ (lN (by omega));have Y:=read a6 a8 hi;have c7:=ahe (B:=E.B) (Bh m S) (i:=i) (n:=n) (by omega);obtain⟨bi,EX⟩:∃bi,bi=E.B.getD i 0:=⟨_,rfl⟩;rw[<- EX]at g4 h5 Y c7;have h6:i<rb.length:=by omega
     have f6:=gi (ex:=OU) (n:=n+m+1) h6;obtain⟨ri,e0⟩:∃ri,ri=rb[i]:=⟨_,rfl⟩;rw[<- e0]at f6;obtain⟨Li,SK,Gv,SL⟩:=F7.row i h6;have X3:ri<J:=a7 ri (by rw[e0];simp[zu]);have l8:Dh ri=some ⟨Li.flatMap zc,2,true⟩:=by rw[hs ri X3,e0];exact SK
     have rl:(DK E.R i).length=n+m+1:=by rw[fG hi];exact hS.row _ (zu hi)
     have KG:Li.length=n+m+1:=by have:=congrArg List.length Gv;rw[zV,rl]at this;exact this
     have b7:=dN (c:=zc) (s:=2) Zh Li;rw[KG]at b7;have g6:=dS (c:=zc) (s:=2) Zh Li (n+m) (by omega);have g7:(n+m)*2+2<=(n+m+1)*2:=by omega
     have g8:((n+m:Nat):Int)<((n+m+1:Nat):Int):=by omega
     have g9:(0:Int)<=((n+m:Nat):Int):=by omega
     obtain⟨hq,e⟩:=P5 Gv (c:=n+m) (by rw[rl];omega);have e2:(DK E.R i)[n+m]'(by rw[rl];omega)=en E.R i (n+m):=by
      unfold en;rw[zx,zy (by rw[rl];omega)];rfl
     have z1:∀σ d,stripL (strip σ d) (zc Li[n+m])=some (cZ (en E.R i (n+m)),[]):=fun σ d=>by
      rw[Zg σ d (SL _ (zu hq)),e,e2]
     have k1:fn Ze pI Ad 220 [.agg (cZ (en E.R i (n+m))),LI (dg E.AV.natAbs)]=some (.tp (cQ (Bh m S bi)) 0):=by
      rw[Nw _ _ (by have:=hS.big i (n+m) hi (zq _);omega) (by omega) (by have:=hS.AV;omega)];have:mkRat (en E.R i (n+m)) E.AV.natAbs=Bh m S bi:=by
       rw[<- show((en E.R i (n+m):Int):Rat) / E.AV=Bh m S bi from Y,Rat.mkRat_eq_div];congr 1;have:((E.AV.natAbs:Nat):Int)=E.AV:=by omega
       rw[<- Rat.intCast_natCast,this]
      rw[this]
     have g10:(bi:Int)<(n:Int):=by omega
     have g11:=jL bi;have g12:bi+1<=n:=by omega
     have q1:=aoi (xB E.B (Bh m S) i n) bi (Bh m S bi);rw[c7]at q1;have q2:((xB E.B (Bh m S) i n).flatMap cF).length=n:=by rw[qY,Zi]
     have q3:bb<J:=a7 bb (by simp);have q4:br<J:=a7 br (by simp);have l9:=(hs bb q3).trans l6;have m1:=(hs br q4).trans l5;have m2:=(hs bt k8).trans h4;have q5:bb<J+1:=by omega
     have q6:br<J+1:=by omega
     have q7:ri<J+1:=by omega
     have q8:J<J+1:=by omega
     unfold CG at t0;refine .inl ⟨_,by simp only[go_sem,t0,t5,t9,t71,t72,t73,G,l9,m1,m2,l8,f6,g1,g2,g3,g4,g6,g7,g8,g9,g10,g11,g12,g13,b7,z1,k1,h5,q1,q2,q5,q6,q7,q8];rfl,?_⟩;simp only[go_sem,t0,t5,t9,t71,t72];exact⟨rfl,rfl,fun x G=>by rw[aH];exact hs x G⟩) (by
     rintro ⟨T,Dh,m0⟩ ⟨t0,t5,t9,t71,t72,t73,O,G,hs⟩;simp only at t0 t5 t9 t71 t72 t73 O G hs;subst O;have g1:¬(E.R.length:Int)<(E.R.length:Int):=by omega
     refine⟨_,by simp only[go_sem,t72,t73,g1];rfl,by simp,_,_,rfl,?_⟩;simp only[go_sem,t0,t9];exact G) (by
     simp only[go_sem,t0,t5,t9,CG,abJ];exact⟨k6,fun _ _=>trivial⟩)
   clear hL;have m3:xB E.B (Bh m S) E.R.length n=(List.range n).map (Bh m S):=by
    unfold xB;rw[<- l7,yZ];apply xO;intro j hj
    by_cases h:j∈E.B
    .rw[sZ h]
    .rw[su h];exact(Ws a6 (List.mem_range.mp hj) h).symm
   rw[m3]at c5;have h7:=akL hp a6 a8;have h8:∀j,j<n->Ln 24 (Bh m S j):=fun j hj=>by
    by_cases h:j∈E.B
    .obtain⟨i,hi,e⟩:=jU h
     have h9:i<E.R.length:=by omega
     have Y:=read a6 a8 h9;rw[e]at Y;have:mkRat (en E.R i (n+m)) E.AV.natAbs=Bh m S j:=by
      rw[<- show((en E.R i (n+m):Int):Rat) / E.AV=Bh m S j from Y,Rat.mkRat_eq_div];congr 1;have:((E.AV.natAbs:Nat):Int)=E.AV:=by omega
      rw[<- Rat.intCast_natCast,this]
     rw[<- this];exact abI (zL (h7.1 i (n+m) h9 (zq _)) (by decide)) (zL h7.2 (by decide)) (by decide)
    .rw[show Bh m S j=0 from Ws a6 hj h]
     exact(sO (z:=0) (by decide)).mono (by decide)
   obtain⟨X,hX⟩:∃X:List Rat,X=(List.range n).map (Bh m S):=⟨_,rfl⟩;have c6:X.length=n:=by rw[hX];simp
   have m4:∀j (h:j<n),X[j]'(by omega)=Bh m S j:=fun j h=>by subst hX;simp
   rw[<- hX]at c5;have g4:fn Ze conv ext 112 [I 0]=some (.tp (cQ 0) 0):=kM 0 (by decide) (by decide)
   unfold CG at t0;simp only[go_sem,t0,t9,g4];generalize hL:gI _ _=y;obtain⟨x,rfl,T7,rfl,t9,t13⟩:=pJ hL n (fun k st=>st.T 0= .tp (CG m n A b c) 0/\st.T 9= .rs J 0 n/\st.T 102= .rs J 0 n/\st.T 103=I n/\st.T 104=I k/\st.nx=J+1/\st.σ=Dh/\∃s,st.T 13= .tp (cQ s) 0/\s=sm (fun j=>((c.getD j 0:Int):Rat)*Bh m S j) k/\Ln (1+52*k) s)
    (fun x=>∃T,x=(.exit 6,⟨T,Dh,J+1⟩)/\T 9= .rs J 0 n/\T 13= .tp (cQ (sm (fun j=>((c.getD j 0:Int):Rat)*Bh m S j) n)) 0) (by
     clear hL;rintro k ⟨T,Fa,m0⟩ hk ⟨t0,t9,c0,b3,c2,O,hs,s,t13,e1,e3⟩;simp only at t0 t9 c0 b3 c2 O hs t13;subst O hs;have g1:(k:Int)<(n:Int):=by omega
     have g2:=jL k;have g3:=Zl (n:=(k:Int)+1);have g4:=qZ X (k:=k) (by omega);rw[m4 k hk]at g4;have m5:=lV hp.bc k;have g5:=idx (xs:=c) (k:=k) (by omega);have e5:c[k]'(by omega)=c.getD k 0:=by rw[zx,zy (by omega)];rfl
     rw[e5]at g5;have g6:=Aw c k (by omega);have g7:(k:Int)<(c.length:Int):=by omega
     have g8:(c.flatMap cI).length=c.length:=qW c;have g9:(X.flatMap cF).length=n:=by rw[qY,c6]
     obtain⟨ck,i0⟩:∃ck,ck=c.getD k 0:=⟨_,rfl⟩;rw[<- i0]at g5 m5;have k1:=kM ck (by omega) (by omega);have l1:=sO (z:=ck) (by omega);have l2:=(h8 k hk).mono (show 24<=50 by decide);have k2:=abB (Bh m S k) (ck:Rat) (l2.mono (by decide)) (l1.mono (by decide));have l3:=aay l2 l1 (by decide);have k3:=agV s (Bh m S k*(ck:Rat)) (e3.mono (by omega)) (l3.mono (by decide));have l4:=aaz e3 l3;unfold CG at t0;refine .inl ⟨_,by simp only[go_sem,t0,t9,c0,b3,c2,t13,c5,g1,g2,g3,g4,g5,g6,g7,g8,g9,k1,k2,k3];rfl,?_⟩;simp only[go_sem,t0,t9,c0,b3];refine⟨rfl,rfl,_,rfl,?_,l4.mono (by omega)⟩;show _=sm _ k+((c.getD k 0:Int):Rat)*Bh m S k;rw[e1,<- i0,Rat.mul_comm]) (by
     rintro ⟨T,Fa,m0⟩ ⟨t0,t9,c0,b3,c2,O,hs,s,t13,e1,e3⟩;simp only at t0 t9 c0 b3 c2 O hs t13;subst O hs;have g1:¬(n:Int)<(n:Int):=by omega
     refine⟨_,by simp only[go_sem,b3,c2,g1];rfl,by simp,_,rfl,?_⟩;simp only[go_sem,t9,t13,e1]) (by
     simp only[go_sem,t0,t9,CG];exact⟨0,rfl,rfl,sO (z:=0) (by decide)⟩)
   clear hL;have z1:n<=(X.flatMap cF).length:=by rw[qY,c6];exact zq _
   have z2:(X.flatMap cF).take n=X.flatMap cF:=zo (by rw[qY,c6];exact zq _);have z3:=Iz Dh 4 X;simp only[go_sem,t9,t13,c5,z1,z2,z3];refine⟨_,rfl,.inr (.inr ⟨Bh m S,k5,h8,?_⟩)⟩;rw[show(AA A b c m n).n=n from rfl,<- hX];show V.Au [I 0,V.ts (X.flatMap cF) n,_]=V.Au [I 0,V.ts (X.flatMap cF) X.length,_];rw[c6];rfl
  .simp only[go_sem,qM,kb,c9,f1,f2,f3,f4,kc,km]
   exact⟨_,rfl,.inr (.inl ⟨rfl,j2⟩)⟩
end
theorem jf{body:St->Option (Ex×St)}{st E:St}{y:Option (Ex×St)}{e:Ex}(G:gI body st=y)(h:body st=some (e,E))(J:e≠ .norm):y=some (e,E):=by
 obtain⟨r,rfl,O⟩:=je G (fun _ s=>s=st) (fun r=>r=(e,E)) (fun n s hs=>by subst hs;exact .inr ⟨_,h,fun s h=>J (congrArg Prod.fst h),rfl⟩) 0 rfl;rw[O]
theorem aec{body:St->Option (Ex×St)}{st st1 E:St}{y:Option (Ex×St)}{e:Ex}(G:gI body st=y)(J:body st=some (.norm,st1))(h:body st1=some (e,E))(O:e≠ .norm):y=some (e,E):=by
 obtain⟨r,rfl,S⟩:=je G (fun n s=>(n=1/\s=st)\/(n=0/\s=st1)) (fun r=>r=(e,E)) (fun n s hs=>by
  rcases hs with ⟨rfl,rfl⟩|⟨rfl,rfl⟩
  .exact .inl ⟨_,J,0,by omega,.inr ⟨rfl,rfl⟩⟩
  .exact .inr ⟨_,h,fun s h=>O (congrArg Prod.fst h),rfl⟩) 1 (.inl ⟨rfl,rfl⟩)
 rw[S]
theorem al_{σ:Store}{nx bt bf bo:Nat}(E:σ bt=some ⟨[.nil,Bo false,LI (dg 1),.nil,I 0,.rs bf 0 0],0,true⟩)(G:bt<nx) :
  ev Ze pI Ad 219 [.rp bt 0,.rs bo 0 0] σ nx=some (Bo true,σ,nx):=by
 rw[nK [.tmp 4] [] func219];simp only[go_sem];generalize J:gI _ _=y;have S:¬(0:Int)<0:=by decide
 obtain rfl:=aec J (by
  simp only[go_sem,E,G];generalize O:gI _ _=Y;obtain rfl:=jf O (by simp only[go_sem];rfl) (by simp);simp only[go_sem];rfl) (by simp only[go_sem];rfl) (by simp)
 clear J;simp only[go_sem,E,G];generalize J:gI _ _=y;obtain rfl:=jf J (by simp only[go_sem];rfl) (by simp);simp only[go_sem]
theorem akS{σ:Store}{nx bt bf:Nat}(E:σ bt=some ⟨[.nil,Bo false,LI (dg 1),.nil,I 0,.rs bf 0 0],0,true⟩)(G:bt<nx) :
  ev Ze pI Ad 261 [.rp bt 0,I 0] σ nx=some (.Au [],σ,nx):=by
 rw[nK [] [10,11] func261];simp only[go_sem];generalize J:gI _ _=y;obtain rfl:=jf J (by simp only[go_sem,E,G];rfl) (by simp);simp only[go_sem]
theorem akT(σ:Store):∃r,ev Ze pI Ad 218 [.tp (CG 0 0 [] [] []) 0] σ 0=some r/\∃σ' nx' bt bf,r=(.Au [.rp bt 0,Bo true],σ',nx')/\bt<nx'/\σ' bt=some ⟨[.nil,Bo false,LI (dg 1),.nil,I 0,.rs bf 0 0],0,true⟩:=by
 have S:fn Ze conv ext 172 [I 1]=some (.agg [Bo false,LI (dg 1)]):=kU 1 (by decide) (by decide)
 have z2:IntKind.i64.wrap (0+0)=0:=by decide
 have z3:(1:Int)*0<=281474976710656:=by decide
 have z4:(0:Int)<=9223372036854775807:=by decide
 have z5:Int.toNat 0=0:=rfl;have Y:(8:Int)*0<=281474976710656:=by decide
 unfold CG;rw[nK [.tmp 2,.tmp 3] [15,18,24,38] func218];simp only[go_sem,S,z2,z3,z4,z5];generalize E:gI _ _=y;obtain rfl:=jf E (by simp only[go_sem];rfl) (by simp);clear E;simp only[go_sem,z4,z5,Y];generalize E:gI _ _=y;obtain rfl:=jf E (by simp only[go_sem];rfl) (by simp);clear E;obtain⟨σ2,O⟩:∃σ2,σ2=upd (upd (upd σ 0 (some ⟨rep 0 [V.sc (Value.bool false)],1,true⟩)) 1 (some ⟨[.nil,Bo false,LI (dg 1),.nil,I 0,.rs 0 0 0],0,true⟩)) 2 (some ⟨rep 0 [I 0],1,true⟩):=⟨_,rfl⟩;have G:σ2 1=some ⟨[.nil,Bo false,LI (dg 1),.nil,I 0,.rs 0 0 0],0,true⟩:=by rw[O];rfl
 have hm:=al_ (nx:=3) (bo:=2) G (by decide);have hl:=akS (nx:=3) G (by decide);have J:1<3:=by decide
 simp only[go_sem,qM,<- O,hm,G,J];generalize E:gI _ _=y;obtain rfl:=jf E (by simp only[go_sem];rfl) (by simp);clear E;simp only[go_sem,G,J];generalize E:gI _ _=y;obtain rfl:=jf E (by simp only[go_sem];rfl) (by simp);clear E;simp only[go_sem,qM,hl];exact⟨_,rfl,σ2,3,1,0,rfl,J,G⟩
theorem akU:fn Ze pI Ad 160 [.tp (CG 0 0 [] [] []) 0]=some (.Au [I 0,.ts [] 0,.tp (cQ 0) 0]):=by
 obtain⟨r0,kb,S,E,bt,bf,rfl,a7,Y⟩:=akT lI;have z3:(8:Int)*0<=281474976710656:=by decide
 have z4:(0:Int)<=9223372036854775807:=by decide
 have z5:Int.toNat 0=0:=rfl;obtain⟨σ2,GL⟩:∃σ2,σ2=upd S E (some ⟨rep 0 [I 0],1,true⟩):=⟨_,rfl⟩;have NK:σ2 bt=some ⟨[.nil,Bo false,LI (dg 1),.nil,I 0,.rs bf 0 0],0,true⟩:=by rw[GL,aH];exact Y
 have a1:bt<E+1:=by omega
 have km:=al_ (nx:=E+1) (bo:=E) NK a1;have kc:LY σ2 (E+1) [] 0 (.rs E 0 0)=some (I 0,σ2,E+1):=rfl;have g4:fn Ze conv ext 112 [I 0]=some (.tp (cQ 0) 0):=kM 0 (by decide) (by decide)
 rw[mW,nK [.tmp 2,.tmp 3,.tmp 4] [24] func160];have kb:ev Ze pI Ad 218 [.tp [I 0,I 0,LI [],LI [],LI []] 0] lI 0=some (.Au [.rp bt 0,Bo true],S,E):=kb;unfold CG;have kl:List.flatMap cI []=[]:=rfl;simp only[go_sem,qM,kb,Y,a7,z3,z4,z5,<- GL,kc,km,kl];generalize G:gI _ _=y;obtain rfl:=jf G (by simp only[go_sem];rfl) (by simp);clear G;simp only[go_sem,z3,z4,z5];generalize G:gI _ _=y;obtain rfl:=jf G (by simp only[go_sem];rfl) (by simp);clear G;obtain⟨J,O⟩:∃J,J=upd σ2 (E+1) (some ⟨rep 0 [V.sc (.pointer none)],1,true⟩):=⟨_,rfl⟩;have KI:J bt=some ⟨[.nil,Bo false,LI (dg 1),.nil,I 0,.rs bf 0 0],0,true⟩:=by rw[O,aH];exact NK
 have a6:bt<E+1+1:=by omega
 simp only[go_sem,<- O,KI,a6];generalize G:gI _ _=y;obtain rfl:=jf G (by simp only[go_sem];rfl) (by simp);clear G;simp only[go_sem,g4];generalize G:gI _ _=y;obtain rfl:=jf G (by simp only[go_sem];rfl) (by simp);clear G;have hx:J (E+1)=some ⟨[],1,true⟩:=by rw[O,aF];rfl
 simp only[go_sem,hx]
structure SG (s:Structure):Prop where
 nj:s.joints.length<=6
 nm:s.members.length<=8
 pl:∀i (h:i<s.joints.length),-50<=s.joints[i].x/\s.joints[i].x<=50/\-50<=s.joints[i].y/\s.joints[i].y<=50
 mr:∀k (h:k<s.members.length),Gj s.joints.length s.members[k]
theorem Ag.sg{s:Structure}(h:Ag s):SG s:=by
 obtain⟨O,S,Y,h4⟩:=h;refine⟨O,S,fun i hi=>?_,fun k hk=>?_⟩
 .have E:=(Y i hi).1
  unfold Ej at E;rw[yc,yc]at E;have G:=kS E.2.1;have J:=kS E.2.2;exact⟨G.1,G.2,J.1,J.2⟩
 .have E:=h4 _ (zu hk)
  refine zf fun hn=>?_
  rw[jW hn]at E;cases E
def mem(s:Structure)(k:Nat):Member:=(s.members[k]?).getD ⟨0,0,0⟩
def Xc(s:Structure)(i:Int):Joint:=(s.joints[i.toNat]?).getD ⟨ByteArray.empty,0,0,false⟩
def vx(s:Structure)(k:Nat):Int:=(Xc s (mem s k).b).x - (Xc s (mem s k).a).x
def vy(s:Structure)(k:Nat):Int:=(Xc s (mem s k).b).y - (Xc s (mem s k).a).y
theorem jV{s:Structure}{k:Nat}(h:k<s.members.length):s.members[k]=mem s k:=by unfold mem;rw[zy h];rfl
theorem ahn{s:Structure}(h:SG s)(i:Int):-50<=(Xc s i).x/\(Xc s i).x<=50/\-50<=(Xc s i).y/\(Xc s i).y<=50:=by
 unfold Xc
 by_cases hi:i.toNat<s.joints.length
 .rw[zy hi];exact h.pl _ hi
 .rw[yg (by omega)];simp
theorem Zy{s:Structure}(h:SG s)(k:Nat):-100<=vx s k/\vx s k<=100/\-100<=vy s k/\vy s k<=100:=by
 have E:=ahn h (mem s k).a;have G:=ahn h (mem s k).b;unfold vx vy;omega
theorem dP{α:Type}{c:α->List V}{s:Nat}(hc:∀x,(c x).length=s)(xs:List α)(k:Nat)(h:k<xs.length){j:Nat}(E:j<s):(xs.flatMap c)[k*s+j]?=(c xs[k])[j]?:=by
 rw[<- dS hc xs k h,xG,sZ E,xq]
theorem abK{s:Structure}(h:SG s){k:Nat}(G:k<s.members.length):fn Ze conv ext 168 [.tp (cStructure s) 0,I k]=some (.Au [I (vx s k),I (vy s k)]):=by
 have O:=h.mr k G;rw[jV G]at O;have hb:=Zy h k;have a1:=h.nm;have X9:=h.nj;have S:=KA s.members k G;rw[jV G]at S;have f1:(k:Int)<(s.members.length:Int):=by omega
 have f2:=jL k;have f4:=FV s.members;have f5:k*3+3<=s.members.length*3:=by omega
 have f6:=KC s.members k G;unfold vx vy at hb⊢;generalize mem s k=mm at *;obtain⟨Y,mb,mk⟩:=mm;obtain⟨r1,r2,r3,r4,r5,r6⟩:=O;simp only at *;obtain⟨a,rfl⟩:∃a:Nat,Y=(a:Int):=⟨Y.toNat,by omega⟩;obtain⟨b,rfl⟩:∃b:Nat,mb=(b:Int):=⟨mb.toNat,by omega⟩;have J:a<s.joints.length:=by omega
 have E:b<s.joints.length:=by omega
 have ea:Xc s (a:Int)=s.joints[a]:=by unfold Xc;rw[yS,zy J];rfl
 have eb:Xc s (b:Int)=s.joints[b]:=by unfold Xc;rw[yS,zy E];rfl
 rw[ea,eb]at hb⊢;have g4:=ED s.joints;have g6:=Jh s.joints a J;have p1:(s.joints.flatMap cJoint)[a*4+1]?=some (I s.joints[a].x):=dP (c:=cJoint) (fun _=>rfl) s.joints a J (j:=1) (by decide);have p2:(s.joints.flatMap cJoint)[a*4+2]?=some (I s.joints[a].y):=dP (c:=cJoint) (fun _=>rfl) s.joints a J (j:=2) (by decide);have p3:(s.joints.flatMap cJoint)[b*4+1]?=some (I s.joints[b].x):=dP (c:=cJoint) (fun _=>rfl) s.joints b E (j:=1) (by decide);have p4:(s.joints.flatMap cJoint)[b*4+2]?=some (I s.joints[b].y):=dP (c:=cJoint) (fun _=>rfl) s.joints b E (j:=2) (by decide);have w1:=Zl (n:=s.joints[b].x-s.joints[a].x);have w2:=Zl (n:=s.joints[b].y-s.joints[a].y);rw[mW,nK [.tmp 4,.tmp 5] [2] func168];simp only[go_sem,S,f1,f2,f4,f5,f6,r1,r2,r3,r4,g4,g6,p1,p2,p3,p4,w1,w2]
def C9(s:Structure)(i:Nat):Bool:=(s.joints[i]?).elim false fun j=> !j.fixed
def free(s:Structure):List Int:=G9 (C9 s) s.joints.length
theorem lD{T:Nat->V}{σ:Store}{nx t:Nat}{acc:List Int}(E:Grow T σ nx t acc)(x:Option FU):Grow T (upd σ nx x) (nx+1) t acc:=by
 rcases E with ⟨g1,g2⟩|⟨b,g1,g2,g3,g4⟩
 .exact .inl ⟨g1,g2⟩
 .exact .inr ⟨b,g1,g2,by rw[aH];exact g3,by omega⟩
theorem J9{s:Structure}(h:SG s):fn Ze conv ext 108 [.tp (cStructure s) 0]=some (LI (free s)):=by
 have X9:=h.nj;unfold free;rw[mW,nK [.tmp 2] [] func108];simp only[go_sem];generalize hL:gI _ _=y;obtain⟨r,rfl,T',σ',nx',rfl,h2⟩:=pJ hL s.joints.length (fun k st=>st.T 9=LL cJoint s.joints/\st.T 10=I s.joints.length/\st.T 11=I k/\Grow st.T st.σ st.nx 3 (G9 (C9 s) k))
  (fun r=>∃T σ nx',r=(.exit 0,⟨T,σ,nx'⟩)/\Grow T σ nx' 3 (G9 (C9 s) s.joints.length)) (by
   clear hL;rintro k ⟨T,σ,nx⟩ G ⟨O,E,J,S⟩;simp only at O E J S;have f1:(k:Int)<(s.joints.length:Int):=by omega
   have f2:=jL k;have f3:=Zl (n:=(k:Int)+1);have f4:=GX s.joints k G;have f5:=ED s.joints;have f6:k*4+4<=s.joints.length*4:=by omega
   have f9:=Jh s.joints k G;have hle:=Ie (C9 s) k;have Y:=fun x=>lD S x
   cases hp:s.joints[k].fixed with
   |false=>
    have hq:C9 s k=true:=by simp[C9,zy G,hp]
    obtain⟨σ',ha,hs⟩:=lC (Y (some ⟨[Sg s.joints[k].name,I s.joints[k].x,I s.joints[k].y,Bo false],0,true⟩)) (k:Int) (by omega);refine .inl ⟨_,by simp only[go_sem,O,E,J,f1,f2,f3,f4,f5,f6,f9,hp,G,ha];rfl,?_⟩;simp only[go_sem,O,E];rw[KU hq];exact⟨rfl,kZ hs (by simp[go_sem]) (by simp)⟩
   |true=>
    have hq:C9 s k=false:=by simp[C9,zy G,hp]
    refine .inl ⟨_,by simp only[go_sem,O,E,J,f1,f2,f3,f4,f5,f6,f9,hp,G];rfl,?_⟩;simp only[go_sem,O,E];rw[RY hq];exact⟨rfl,ku (T:=T) (by simp only[go_sem]) (Y _)⟩) (by
   rintro ⟨T,σ,nx⟩ ⟨O,E,J,S⟩;simp only at O E J S;exact⟨_,by simp only[go_sem,E,J,zk];rfl,by simp,_,_,_,rfl,ku (by simp only[go_sem]) S⟩) (by
   simp only[go_sem];exact .inl ⟨by simp only[go_sem],rfl⟩)
 obtain⟨ids,hs⟩:=kY h2 6;simp only[go_sem,hs]
end Go.Proofs.YtkpdoehbhmipcaaGreat
namespace Go.Plan
inductive Way (mv:Nat->Nat->Bool) (al:Nat->Bool):Nat->Nat->Nat->Prop
 |nil {a:Nat} (h:al a=true):Way mv al 0 a a
 |cons {k a b c:Nat} (h:al a=true) (hm:mv a b=true) (hw:Way mv al k b c):Way mv al (k+1) a c
section
variable {mv:Nat->Nat->Bool} {al:Nat->Bool}
theorem least{p:Nat->Prop}(h:∃k,p k):∃k,p k/\∀j,p j->k<=j:=by
 obtain⟨k,G⟩:=h
 induction k using Nat.strongRecOn with
 |_ k J=>
  by_cases h:∃j,j<k/\p j
  .obtain⟨j,O,E⟩:=h;exact J j O E
  .exact⟨k,G,fun j E=>zf fun S=>h ⟨j,by omega,E⟩⟩
def aok(mv:Nat->Nat->Bool)(al:Nat->Bool)(to i:Nat)(d:Int):Prop:=(d= -1/\∀k,¬Way mv al k i to)\/∃k:Nat,d=(k:Int)/\Way mv al k i to/\∀j,Way mv al j i to->k<=j
theorem akV(mv:Nat->Nat->Bool)(al:Nat->Bool)(to i:Nat):∃d,aok mv al to i d:=by
 by_cases h:∃k,Way mv al k i to
 .obtain⟨k,E,G⟩:=least h
  exact⟨k,.inr ⟨k,rfl,E,G⟩⟩
 .exact⟨-1,.inl ⟨rfl,fun k J=>h ⟨k,J⟩⟩⟩
noncomputable def dst(mv:Nat->Nat->Bool)(al:Nat->Bool)(to i:Nat):Int:=Classical.choose (akV mv al to i)
def put(out:Nat->Int)(x:Nat)(v:Int):Nat->Int:=fun i=>if i=x then v else out i
theorem Ii(out:Nat->Int)(x:Nat)(v:Int):put out x v x=v:=sZ rfl
def Uc(mv:Nat->Nat->Bool)(out:Nat->Int)(n a:Nat):Nat:=((List.range n).find? fun i=>mv a i && (out i==out a-1)).getD a
def itr(mv:Nat->Nat->Bool)(out:Nat->Int)(n a:Nat):Nat->Nat
 |0=>a
 |k+1=>Uc mv out n (itr mv out n a k)
def plan(mv:Nat->Nat->Bool)(out:Nat->Int)(n a:Nat):List Nat:=(List.range ((out a).toNat+1)).map (itr mv out n a)
end
end Go.Plan
namespace Go.Plan
section
variable {mv:Nat->Nat->Bool} {al:Nat->Bool}
def asw(f:Int->Int)(b:Int)(k:Int):Int:=if 0<f k/\(b=0\/f k<b)then f k else b
def best(f:Int->Int)(l:List Int):Int:=l.foldl (asw f) 0
end
end Go.Plan
namespace Go.Plan
section
variable {mv:Nat->Nat->Bool} {al:Nat->Bool}
end
end Go.Plan
namespace Go.Proofs.YtkpdoehbhmipcaaGreat
open Go Go.TV
def G6(s:Nat):List V->Store->Nat->Option (V×Store×Nat)
 |[.ts row len],σ,nx=>if row.length=len*s/\len<=1000000/\row.all qI=true then(if len=0 then some (.nil,σ,nx)else some (.rs nx 0 len,Aj σ nx row s,nx+1))else none
 |_,_,_=>none
theorem Tn(args:List V)(σ:Store)(nx:Nat)(v:V)(σ':Store)(nx':Nat)(h:G6 4 args σ nx=some (v,σ',nx')):D9 Ze 64 args σ nx v σ' nx':=by
 unfold G6 at h
 split at h
 .rename_i row len
  split at h
  .rename_i hc
   obtain⟨O,hs,G⟩:=hc;refine MB (call:=fun _ _ _ _=>none) (conv:=fun _=> .JJ) (fun _ _ _ _ _ _ _ h=>by cases h) (by kernel_rfl) func64 rfl Tryz.underlying33 (n:=0) (by kernel_rfl) (st1:=⟨upd (Dl [.ts row len]) 2 .nil,σ,nx⟩) (T2:=upd (upd (Dl [.ts row len]) 2 .nil) 3 (.ts row len)) (v1:=.ts row len) (row:=row) (len:=len) (vs:=[v]) ?_ rfl ?_ rfl ?_ ?_
   .rfl
   .rfl
   .rfl
   .intro b hb
    cases b with
    |true=>
     have J:=hb rfl;subst J;have E:len=0:=by
      have S:0=len*4:=O;omega
     subst E;simp only[if_true,tC,t_]at h;obtain⟨rfl,rfl,rfl⟩:=h;exact⟨.ret,_,rfl,.inr rfl,rfl,rfl,rfl⟩
    |false=>
     by_cases E:len=0
     .subst E
      have J:row=[]:=zZ (by omega);subst J;simp only[if_true,tC,t_]at h;obtain⟨rfl,rfl,rfl⟩:=h;refine⟨.ret,?_,?_,.inr rfl,?_,?_,?_⟩
      .exact⟨upd (upd (upd (upd (upd (upd (upd (upd (Dl [.ts [] 0]) 2 .nil) 3 (.ts [] 0)) 4 (.sc (.bool false))) 5 .nil) 6 (.ts [] 0)) 7 .nil) 2 .nil) 2 .nil,σ,nx⟩
      .simp only[wI,go_sem]
      .rfl
      .rfl
      .rfl
     .rw[su E]at h
      simp only[tC,t_]at h;obtain⟨rfl,rfl,rfl⟩:=h;have q0:len<=maxLen:=by unfold maxLen;omega
      have Y:len<=maxLen/\len*1<=140737488355328:=by unfold maxLen;omega
      have q2:len<=maxLen/\len*40<=140737488355328:=by unfold maxLen;omega
      have q3:len<=maxLen/\len<=140737488355328:=by unfold maxLen;omega
      refine⟨.ret,?_,?_,.inr rfl,?_,?_,?_⟩
      .exact⟨upd (upd (upd (upd (upd (upd (upd (Dl [.ts row len]) 2 .nil) 3 (.ts row len)) 4 (.sc (.bool false))) 5 .nil) 6 (.ts row len)) 7 (.rs nx 0 len)) 2 (.rs nx 0 len),Aj σ nx row 4,nx+1⟩
      .simp only[wI,go_sem,O,E,Y,q2,q3]
      .rfl
      .rfl
      .rfl
  .cases h
 .cases h
section
variable {P:Program} {conv:FuncId->Conv} {call:TV.Call} (d:Option Tmp) (ty:TypeId) (ps:String) (af:Array Edge) (gd:Option (Nat×Bool)) (T:Nat->V) (σ:Store) (nx:Nat)
theorem NV(t:TypeId)(len:Nat)(parts:Array (Nat×Operand))(E:(decide (len=0) && !parts.isEmpty)=false)(G:¬len=0)(h:(vI P t).slice=true)(J:(vI P t).QV=true) :
  Af P conv call ⟨d,.buildSlice t len parts,ty,ps,af,gd⟩ T σ nx=BJ P t len (parts.toList.map fun p=>(p.1,val T p.2)) σ nx:=by
 have key:∀σ,BJ P t len (parts.toList.map fun p=>(p.1,val T p.2)) σ nx=(if 0<(vI P t).Gu/\len*(vI P t).Gu<=1000 then(Ce (fun j=>some (j*(vI P t).Gu,(vI P t).Gu)) (rep len (vI P t).DY) (parts.toList.map fun p=>(p.1,val T p.2))).map fun cells=>(cells,(vI P t).Gu,V.rs nx 0 len)else none).map fun p=>(p.2.2,Aj σ nx p.1 p.2.1,nx+1):=fun σ=>by
  rw[oH h J,su G]
  split
  .cases Ce (fun j=>some (j*(vI P t).Gu,(vI P t).Gu)) (rep len (vI P t).DY) (parts.toList.map fun p=>(p.1,val T p.2))<;>rfl
  .rfl
 have:=HY (P:=P) (conv:=conv) (call:=call) (o:=⟨d,.buildSlice t len parts,ty,ps,af,gd⟩) T σ nx rfl fun σ=>(jB d ty ps af gd T σ nx t len parts E).trans (key σ)
 exact this.trans (key σ).symm
end
attribute [go_sem] NV
def Bd(L:List Int):Prop:=∀x∈L,-100<=x/\x<=100
open Go.Lp
attribute [-go_sem] rH
def BZ{α:Type}(c:α->List V)(s:Nat)(T:Nat->V)(σ:Store)(nx t:Nat)(acc:List α):Prop:=(T t= .nil/\acc=[])\/∃b,T t= .rs b 0 acc.length/\acc≠[]/\σ b=some ⟨acc.flatMap c,s,true⟩/\b<nx
section
variable {α:Type} {c:α->List V} {s:Nat} {T:Nat->V} {σ:Store} {nx t:Nat} {acc:List α}
theorem lK(E:BZ c s T σ nx t acc)(x:Option FU):BZ c s T (upd σ nx x) (nx+1) t acc:=by
 rcases E with ⟨g1,g2⟩|⟨b,g1,g2,g3,g4⟩
 .exact .inl ⟨g1,g2⟩
 .exact .inr ⟨b,g1,g2,by rw[aH];exact g3,by omega⟩
theorem Xd{T':Nat->V}{E:Nat}(h:T' E=T t)(G:BZ c s T σ nx t acc):BZ c s T' σ nx E acc:=by
 unfold BZ at *;rw[h];exact G
theorem lJ(hc:∀x,(c x).length=s)(E:∀x,(c x).all qI=true)(hs:0<s){bytes:Nat}(S:BZ c s T σ nx t acc)(x:α)(hl:acc.length<100000)(hb:bytes<=1000) :
  ∃σ',Ae (upd σ nx (some ⟨c x,s,true⟩)) (nx+1) s bytes (T t) (c x) 1=some (.rs (nx+1) 0 (acc.length+1),σ',nx+1+1)/\σ' (nx+1)=some ⟨(acc++[x]).flatMap c,s,true⟩/\∀y,y<nx->(∀b o l,T t= .rs b o l->y≠b)->σ' y=σ y:=by
 have hm:acc.length+1<=maxLen:=by unfold maxLen;omega
 have hmul:(acc.length+1)*bytes<=100000*1000:=yM (by omega) hb;rcases S with ⟨J,rfl⟩|⟨b,J,G,O,Y⟩
 .refine⟨_,by rw[J,rJ,su (by decide),sZ ⟨by decide,by omega⟩];rfl,?_⟩
  refine⟨by simp[Aj,upd],fun y hy _=>?_⟩;unfold Aj;rw[aH,aH]
 .have hlen:(acc.flatMap c).length=acc.length*s:=dN hc acc
  refine⟨upd (upd (upd σ nx (some ⟨c x,s,true⟩)) b none) (nx+1) (some ⟨acc.flatMap c++c x,s,true⟩),?_,?_,fun y hy G=>?_⟩
  .rw[J,rH,aH,O]
   simp only[zi];rw[su (by decide),su (by rw[hlen,vT];omega),sZ ⟨by rw[hlen];omega,trivial,hm,by omega,E x⟩];rfl
  .rw[aF,zT];simp
  .have:=G _ _ _ J
   rw[aH,aG _ _ this,aH]
theorem lH(G:BZ c s T σ nx t acc){b o l:Nat}(h:T t= .rs b o l):b<nx:=by
 rcases G with ⟨E,_⟩|⟨b',E,_,_,J⟩
 .rw[E]at h;cases h
 .rw[E]at h;cases h;exact J
theorem lG{σ':Store}(h:σ' (nx+1)=some ⟨acc.flatMap c,s,true⟩)(G:T t= .rs (nx+1) 0 acc.length)(E:acc≠[]):BZ c s T σ' (nx+1+1) t acc:=.inr ⟨nx+1,G,E,h,by omega⟩
theorem lF(hc:∀x,(c x).length=s)(d:Nat)(E:∀x,stripL (strip σ d) (c x)=some (c x,[]))(J:BZ c s T σ nx t acc):∃ids,strip σ (d+1) (T t)=some (LL c acc,ids):=by
 rcases J with ⟨G,rfl⟩|⟨b,G,O,hb,S⟩
 .exact⟨[],by rw[G,bF];rfl⟩
 .refine⟨[b],?_⟩
  rw[G,bD,hb];have Y:=dN hc acc;simp only[zi,yu,yw,Y,zq,if_true];rw[zo (by omega),bM E];rfl
end
theorem akW(z:List V):rep 1 z=z:=by simp[rep]
theorem Jg(a b c d:V):patch [a,b] 0 [c,d]=[c,d]:=rfl
attribute [go_sem] akW Jg
abbrev EL(p:Int×Int):List V:=[I p.1,I p.2]
def Fb(m:Member)(k:Nat):List (Int×Int):=(if m.kind=2 then []else [((k:Int),1)])++(if m.kind=1 then []else [((k:Int),-1)])
def cols(s:Structure)(n:Nat):List (Int×Int):=(List.range n).flatMap fun k=>Fb (mem s k) k
theorem pO(s:Structure)(n:Nat):cols s (n+1)=cols s n++Fb (mem s n) n:=by simp[cols,wX]
theorem aaA(m:Member)(k:Nat):(Fb m k).length<=2:=by
 unfold Fb
 split<;>split<;>simp
theorem pV(s:Structure):∀n,(cols s n).length<=2*n
 |0=>by simp[cols]
 |n+1=>by
  rw[pO,zl];have:=pV s n;have:=aaA (mem s n) n;omega
theorem NW{s:Structure}(h:SG s):fn Ze conv ext 161 [.tp (cStructure s) 0]=some (LL EL (cols s s.members.length)):=by
 have b3:=h.nm;rw[mW,nK [.tmp 2] [] func161];simp only[go_sem];generalize hL:gI _ _=y;obtain⟨r,rfl,T',σ',nx',rfl,h2⟩:=pJ hL s.members.length (fun k st=>st.T 9=LL cMember s.members/\st.T 10=I s.members.length/\st.T 11=I k/\BZ EL 2 st.T st.σ st.nx 3 (cols s k))
  (fun r=>∃T σ nx',r=(.exit 0,⟨T,σ,nx'⟩)/\BZ EL 2 T σ nx' 3 (cols s s.members.length)) (by
   clear hL;rintro k ⟨T,σ,nx⟩ O ⟨S,E,G,hg⟩;simp only at S E G hg;have f1:(k:Int)<(s.members.length:Int):=by omega
   have f2:=jL k;have f3:=Zl (n:=(k:Int)+1);have f4:=KA s.members k O;have f5:=FV s.members;have f6:k*3+3<=s.members.length*3:=by omega
   have f9:=KC s.members k O;have hr:=h.mr k O;rw[jV O]at f4 hr;have hle:=pV s k;rw[pO];obtain⟨J,e1⟩:∃J,J=mem s k:=⟨_,rfl⟩;rw[<- e1]at f4 hr⊢;have a1:=fun x=>lK hg x
   unfold Fb
   by_cases k2:J.kind=2
   .have g1:(J.kind !=2)=false:=by simpa using k2
    have g2:(J.kind !=1)=true:=by simp[k2]
    obtain⟨σ',ha,hs,Y⟩:=lJ (c:=EL) (s:=2) (bytes:=16) (fun _=>rfl) (fun _=>rfl) (by decide) (a1 (some ⟨cMember J,0,true⟩)) ((k:Int),-1) (by omega) (by decide);refine .inl ⟨_,by simp only[go_sem,S,E,G,f1,f2,f3,f4,f5,f6,f9,g1,g2,ha];rfl,?_⟩;simp only[go_sem,S,E];rw[sZ k2,su (by omega),yL];exact⟨rfl,lG hs (by simp[go_sem]) (by simp)⟩
   .by_cases k1:J.kind=1
    .have g1:(J.kind !=2)=true:=by simpa using k2
     have g2:(J.kind !=1)=false:=by simpa using k1
     obtain⟨σ',ha,hs,Y⟩:=lJ (c:=EL) (s:=2) (bytes:=16) (fun _=>rfl) (fun _=>rfl) (by decide) (a1 (some ⟨cMember J,0,true⟩)) ((k:Int),1) (by omega) (by decide);have a6:σ' nx=some ⟨cMember J,0,true⟩:=by
      rw[Y nx (by omega) (fun b o l h=>by have:=lH hg h;omega),aF]
     refine .inl ⟨_,by simp only[go_sem,S,E,G,f1,f2,f3,f4,f5,f6,f9,g1,g2,ha,a6];rfl,?_⟩;simp only[go_sem,S,E];rw[su k2,sZ k1,zM];exact⟨rfl,lG hs (by simp[go_sem]) (by simp)⟩
    .have g1:(J.kind !=2)=true:=by simpa using k2
     have g2:(J.kind !=1)=true:=by simpa using k1
     obtain⟨σ',ha,hs,Y⟩:=lJ (c:=EL) (s:=2) (bytes:=16) (fun _=>rfl) (fun _=>rfl) (by decide) (a1 (some ⟨cMember J,0,true⟩)) ((k:Int),1) (by omega) (by decide);have a6:σ' nx=some ⟨cMember J,0,true⟩:=by
      rw[Y nx (by omega) (fun b o l h=>by have:=lH hg h;omega),aF]
     have a8:BZ EL 2 (upd T 3 (.rs (nx+1+1) 0 ((cols s k).length+1))) σ' (nx+1+1+1) 3 (cols s k++[((k:Int),1)]):=lG hs (by simp[go_sem]) (by simp);obtain⟨σ2,a7,b2,_⟩:=lJ (c:=EL) (s:=2) (bytes:=16) (fun _=>rfl) (fun _=>rfl) (by decide) a8 ((k:Int),-1) (by simp;omega) (by decide);rw[aF]at a7;refine .inl ⟨_,by simp only[go_sem,S,E,G,f1,f2,f3,f4,f5,f6,f9,g1,g2,ha,a7,a6];rfl,?_⟩;simp only[go_sem,S,E];rw[su k2,su k1,<- zF];exact⟨rfl,lG b2 (by simp[go_sem]) (by simp)⟩) (by
   rintro ⟨T,σ,nx⟩ ⟨S,E,G,hg⟩;simp only at S E G hg;exact⟨_,by simp only[go_sem,E,G,zk];rfl,by simp,_,_,_,rfl,Xd (by simp only[go_sem]) hg⟩) (by
   simp only[go_sem];exact .inl ⟨by simp only[go_sem],rfl⟩)
 obtain⟨ids,hs⟩:=lF (c:=EL) (s:=2) (fun _=>rfl) 6 (fun x=>by rw[bU,bC,bU,bC,bP];rfl) h2;simp only[go_sem,hs]
theorem OZ{α:Type}{c:α->List V}{s:Nat}{T:Nat->V}{σ:Store}{nx t:Nat}{acc:List α}(hc:∀x,(c x).length=s)(E:∀x,(c x).all qI=true)(hs:0<s){bytes:Nat}(hg:BZ c s T σ nx t acc)(xs:List α)(hx:xs≠[])(hl:acc.length+xs.length<100000)(hb:bytes<=1000) :
  ∃σ',Ae (upd σ nx (some ⟨xs.flatMap c,s,true⟩)) (nx+1) s bytes (T t) (xs.flatMap c) xs.length=some (.rs (nx+1) 0 (acc.length+xs.length),σ',nx+1+1)/\σ' (nx+1)=some ⟨(acc++xs).flatMap c,s,true⟩/\∀y,y<nx->(∀b o l,T t= .rs b o l->y≠b)->σ' y=σ y:=by
 have hm:acc.length+xs.length<=maxLen:=by unfold maxLen;omega
 have G:xs.length≠0:=fun e=>hx (zZ e)
 have hmul:(acc.length+xs.length)*bytes<=100000*1000:=yM (by omega) hb;have a1:xs.length*bytes<=100000*1000:=yM (by omega) hb;have J:(xs.flatMap c).all qI=true:=by
  rw[wL];intro v hv;obtain⟨x,-,h⟩:=List.mem_flatMap.mp hv;exact List.all_eq_true.mp (E x) v h
 rcases hg with ⟨S,rfl⟩|⟨b,S,O,Y,a6⟩
 .refine⟨_,by rw[S,rJ,su G,sZ ⟨by unfold maxLen;omega,by omega⟩];simp only[wz,yu];rfl,?_⟩
  refine⟨by simp[Aj,upd],fun y hy _=>?_⟩;unfold Aj;rw[aH,aH]
 .have hlen:(acc.flatMap c).length=acc.length*s:=dN hc acc
  have hp:0<xs.length*s:=Nat.mul_pos (by omega) hs;refine⟨upd (upd (upd σ nx (some ⟨xs.flatMap c,s,true⟩)) b none) (nx+1) (some ⟨acc.flatMap c++xs.flatMap c,s,true⟩),?_,?_,fun y hy O=>?_⟩
  .rw[S,rH,aH,Y]
   simp only[zi];rw[su G,su (by rw[hlen,vT];omega),sZ ⟨by rw[hlen];omega,trivial,hm,by omega,J⟩];rfl
  .rw[aF,zT]
  .have:=O _ _ _ S
   rw[aH,aG _ _ this,aH]
def eX(s:Structure)(j:Int)(k:Nat):Int:=if j=(mem s k).a then vx s k else if j=(mem s k).b then -vx s k else 0
def eY(s:Structure)(j:Int)(k:Nat):Int:=if j=(mem s k).a then vy s k else if j=(mem s k).b then -vy s k else 0
def Ep(s:Structure)(j:Int):List (List Int):=[(List.range s.members.length).map (eX s j),(List.range s.members.length).map (eY s j)]
def CO(s:Structure)(n:Nat):List (List Int):=((free s).take n).flatMap (Ep s)
abbrev cRw(r:List Int):List V:=[LI r]
abbrev cRf(n:Nat)(b:Nat):List V:=[.rs b 0 n]
def JA(σ:Store)(nx t n:Nat)(T:Nat->V)(rb:List Nat)(R:List (List Int)):Prop :=
 BZ (cRf n) 1 T σ nx t rb/\rb.length=R.length/\(∀j (h:j<rb.length) (E:j<R.length),σ rb[j]=some ⟨R[j].flatMap cI,1,true⟩)/\(∀r∈R,r.length=n)/\∀b∈rb,b<nx/\∀c o l,T t= .rs c o l->b≠c
theorem Tq{σ:Store}{nx t n:Nat}{T:Nat->V}{rb:List Nat}{R:List (List Int)}(h:JA σ nx t n T rb R)(d:Nat):∃ids,strip σ (d+1+1) (T t)=some (LL cRw R,ids):=by
 obtain⟨Y,G,hr,hn,-⟩:=h;have key:∀ {rb:List Nat} {R:List (List Int)},rb.length=R.length->(∀j (h:j<rb.length) (J:j<R.length),σ rb[j]=some ⟨R[j].flatMap cI,1,true⟩)->(∀r∈R,r.length=n)->∃ids,stripL (strip σ (d+1)) (rb.flatMap (cRf n))=some (R.flatMap cRw,ids):=by
  intro rb
  induction rb with
  |nil=>intro R E _ _;cases R with
   |nil=>exact⟨[],rfl⟩
   |cons=>cases E
  |cons b rb ih=>intro R E O S;cases R with
   |nil=>cases E
   |cons r R=>
    obtain⟨ids,e⟩:=ih (R:=R) (by simpa using E) (fun j h J=>O (j+1) (by simpa using h) (by simpa using J)) (fun x hx=>S x (by simp[hx]));have e1:=kR (O 0 (by simp) (by simp)) (S _ (by simp)) d;refine⟨b :: ids,?_⟩;rw[zO,zO,show cRf n b++rb.flatMap (cRf n)=V.rs b 0 n :: rb.flatMap (cRf n)from rfl,bU,show strip σ (d+1) (V.rs b 0 n)=some (LI r,[b])from e1,e];rfl
 rcases Y with ⟨E,rfl⟩|⟨b,E,a1,hb,a6⟩
 .have:R=[]:=zZ (by simpa using G.symm)
  subst this;exact⟨[],by rw[E,bF];rfl⟩
 .obtain⟨ids,e⟩:=key G hr hn
  refine⟨b :: ids,?_⟩;rw[E,bD,hb];have hlen:=dN (c:=cRf n) (s:=1) (fun _=>rfl) rb;simp only[zi,yu,yw,hlen,zq,if_true];rw[zo (by omega),e];simp only[zH];rw[G]
theorem Qc{σ σ':Store}{nx nx' t n:Nat}{T T':Nat->V}{rb:List Nat}{R:List (List Int)}(h:JA σ nx t n T rb R)(E:T' t=T t)(hn:nx<=nx')(e:∀b,b<nx->σ' b=σ b):JA σ' nx' t n T' rb R:=by
 obtain⟨J,O,S,G,hb⟩:=h;refine⟨?_,O,fun j h Y=>?_,G,fun b h=>?_⟩
 .rcases J with ⟨g1,g2⟩|⟨b,g1,g2,g3,g4⟩
  .exact .inl ⟨E.trans g1,g2⟩
  .exact .inr ⟨b,E.trans g1,g2,by rw[e b g4];exact g3,by omega⟩
 .rw[e _ (hb _ (zu h)).1];exact S j h Y
 .obtain⟨h1,h2⟩:=hb b h
  exact⟨by omega,fun c o l hc=>h2 c o l (E ▸ hc)⟩
theorem ama{s:Structure}(h:SG s)(j:Int)(k:Nat):-100<=eX s j k/\eX s j k<=100/\-100<=eY s j k/\eY s j k<=100:=by
 have:=Zy h k;unfold eX eY
 split
 .omega
 .split<;>omega
theorem ahp(z:V):rep 2 [z]=[z,z]:=rfl
theorem akX(x y a b:V):([x,y].set 0 a).set 1 b=[a,b]:=rfl
attribute [go_sem] ahp akX
theorem aaB(s:Structure){i:Nat}(h:i<(free s).length):CO s (i+1)=CO s i++Ep s (free s)[i]:=by
 unfold CO;rw[yN,zy h,zT];simp
theorem ahq{R:List (List Int)}{j:Nat}(a b:List Int)(h:j<(R++[a,b]).length):(R++[a,b])[j]=if E:j<R.length then R[j]else if j=R.length then a else b:=by
 by_cases E:j<R.length
 .rw[wP E,dif_pos E]
 .rw[dif_neg E,wS (by omega)]
  rw[zl]at h;simp only[zB,wz]at h
  by_cases G:j=R.length
  .rw[sZ G];simp[G]
  .rw[su G]
   have:j-R.length=1:=by omega
   simp[this]
theorem mJ(s:Structure):(free s).length<=s.joints.length:=Ie _ _
theorem Tt{s:Structure}(h:SG s):fn Ze conv ext 163 [.tp (cStructure s) 0]=some (LL cRw (CO s (free s).length)):=by
 have b7:=h.nm;have b8:=mJ s;have X9:=h.nj;have k1:=J9 h;obtain⟨nm,hm⟩:∃nm,nm=s.members.length:=⟨_,rfl⟩;rw[mW,nK [.tmp 2] [] func163];simp only[go_sem,k1];generalize hL:gI _ _=y;obtain⟨r,rfl,T',σ',nx',rb,rfl,h2⟩:=pJ hL (free s).length (fun i st=>st.T 0= .tp (cStructure s) 0/\st.T 13=LI (free s)/\st.T 14=I (free s).length/\st.T 15=I i/\∃rb,JA st.σ st.nx 3 nm st.T rb (CO s i))
  (fun r=>∃T σ nx' rb,r=(.exit 0,⟨T,σ,nx'⟩)/\JA σ nx' 3 nm T rb (CO s (free s).length)) (by
   clear hL;rintro i ⟨T,σ,nx⟩ a7 ⟨h0,Y,Fh,O,rb,hR⟩;simp only at h0 Y Fh O hR;have f1:(i:Int)<((free s).length:Int):=by omega
   have f2:=jL i;have f3:=Zl (n:=(i:Int)+1);have f4:=idx (xs:=free s) (k:=i) a7;have f5:=Aw (free s) i a7;obtain⟨j,hj⟩:∃j,j=(free s)[i]:=⟨_,rfl⟩;rw[<- hj]at f4;have m1:(0:Int)<=(s.members.length:Int):=by omega
   have m2:8*(s.members.length:Int)<=281474976710656:=by omega
   have m3:(s.members.length:Int)<=9223372036854775807:=by omega
   refine cu ?_
   conv=>
    enter [1,r,1,1]
    simp only[go_sem,h0,Y,Fh,O,f1,f2,f4,f5,m1,m2,m3]
   generalize hL:gI _ _=z
   obtain⟨x,rfl,S,E,G,rfl,t0,t6,t7,t13,t14,t15,hx,hy,a1,a6⟩:=pJ hL s.members.length (fun k st=>st.T 0= .tp (cStructure s) 0/\st.T 5=I j/\st.T 6= .rs nx 0 s.members.length/\st.T 7= .rs (nx+1) 0 s.members.length/\st.T 13=LI (free s)/\st.T 14=I (free s).length/\st.T 15=I i/\st.T 34=LL cMember s.members/\st.T 35=I s.members.length/\st.T 36=I k /\
     st.σ nx=some ⟨(pm (eX s j) (fun _=>0) k s.members.length).flatMap cI,1,true⟩/\st.σ (nx+1)=some ⟨(pm (eY s j) (fun _=>0) k s.members.length).flatMap cI,1,true⟩/\nx+1<st.nx/\st.T 3=T 3/\∀b,b<nx->st.σ b=σ b)
    (fun x=>∃S E G,x=(.exit 2,⟨S,E,G⟩)/\S 0= .tp (cStructure s) 0/\S 6= .rs nx 0 s.members.length/\S 7= .rs (nx+1) 0 s.members.length/\S 13=LI (free s)/\S 14=I (free s).length/\S 15=I i/\E nx=some ⟨(pm (eX s j) (fun _=>0) s.members.length s.members.length).flatMap cI,1,true⟩/\E (nx+1)=some ⟨(pm (eY s j) (fun _=>0) s.members.length s.members.length).flatMap cI,1,true⟩/\nx+1<G/\S 3=T 3/\∀b,b<nx->E b=σ b) (by
     clear hL;rintro k ⟨S,E,G⟩ hk ⟨t0,t5,t6,t7,t13,t14,t15,t34,t35,t36,hx,hy,a1,t3,hs⟩;simp only at t0 t5 t6 t7 t13 t14 t15 t34 t35 t36 hx hy a1 t3 hs;have g1:(k:Int)<(s.members.length:Int):=by omega
     have g2:=jL k;have g3:=Zl (n:=(k:Int)+1);have g4:=KA s.members k hk;rw[jV hk]at g4;have g5:=FV s.members;have g6:k*3+3<=s.members.length*3:=by omega
     have g9:=KC s.members k hk;have k2:=abK h hk;have hb:=Zy h k;have q1:((pm (eX s j) (fun _=>0) k s.members.length).flatMap cI).length=s.members.length:=by rw[qW,iH]
     have q2:((pm (eY s j) (fun _=>0) k s.members.length).flatMap cI).length=s.members.length:=by rw[qW,iH]
     have q3:=NQ (eX s j) (fun _=>0) hk;have q4:=NQ (eY s j) (fun _=>0) hk;have d1:¬nx=G:=by omega
     have d2:¬nx+1=G:=by omega
     have d3:¬nx+1=nx:=by omega
     have d4:¬nx=nx+1:=by omega
     have d5:¬G=nx:=by omega
     have d6:¬G=nx+1:=by omega
     have g7:k+1<=s.members.length:=hk;have w1:=Zl (n:=-vx s k);have w2:=Zl (n:=-vy s k);have w3:IntKind.i64.wrap (0-vx s k)= -vx s k:=by rw[Zl];omega
     have w4:IntKind.i64.wrap (0-vy s k)= -vy s k:=by rw[Zl];omega
     by_cases c1:j=(mem s k).a
     .have e1:(j==(mem s k).a)=true:=by simpa using c1
      have e2:((pm (eX s j) (fun _=>0) k s.members.length).flatMap cI).set k (I (vx s k))=(pm (eX s j) (fun _=>0) (k+1) s.members.length).flatMap cI:=by
       rw[qV,<- q3];unfold eX;rw[sZ c1]
      have e3:((pm (eY s j) (fun _=>0) k s.members.length).flatMap cI).set k (I (vy s k))=(pm (eY s j) (fun _=>0) (k+1) s.members.length).flatMap cI:=by
       rw[qV,<- q4];unfold eY;rw[sZ c1]
      refine .inl ⟨_,by simp only[go_sem,t0,t5,t6,t7,t13,t14,t15,t34,t35,t36,hx,hy,g1,g2,g3,g4,g5,g6,g7,g9,k2,q1,q2,hk,d1,d2,d3,d4,d5,d6,e1,e2,e3];rfl,?_⟩;simp only[go_sem,t0,t5,t6,t7,t13,t14,t15,t34,t35,d1,d2,d3,d4];exact⟨rfl,by omega,t3,fun b hb=>by rw[aH,aH,aH];exact hs b hb⟩
     .have e1:(j==(mem s k).a)=false:=by simpa using c1
      by_cases c2:j=(mem s k).b
      .have e4:(j==(mem s k).b)=true:=by simpa using c2
       have e2:((pm (eX s j) (fun _=>0) k s.members.length).flatMap cI).set k (I (-vx s k))=(pm (eX s j) (fun _=>0) (k+1) s.members.length).flatMap cI:=by
        rw[qV,<- q3];unfold eX;rw[su c1,sZ c2]
       have e3:((pm (eY s j) (fun _=>0) k s.members.length).flatMap cI).set k (I (-vy s k))=(pm (eY s j) (fun _=>0) (k+1) s.members.length).flatMap cI:=by
        rw[qV,<- q4];unfold eY;rw[su c1,sZ c2]
       refine .inl ⟨_,by simp only[go_sem,t0,t5,t6,t7,t13,t14,t15,t34,t35,t36,hx,hy,g1,g2,g3,g4,g5,g6,g7,g9,k2,q1,q2,hk,d1,d2,d3,d4,d5,d6,e1,e4,e2,e3,w1,w2,w3,w4];rfl,?_⟩;simp only[go_sem,t0,t5,t6,t7,t13,t14,t15,t34,t35,d1,d2,d3,d4];exact⟨rfl,by omega,t3,fun b hb=>by rw[aH,aH,aH];exact hs b hb⟩
      .have e4:(j==(mem s k).b)=false:=by simpa using c2
       have e2:=SV (eX s j) (fun _=>0) (k:=k) (N:=s.members.length) (by unfold eX;rw[su c1,su c2]);have e3:=SV (eY s j) (fun _=>0) (k:=k) (N:=s.members.length) (by unfold eY;rw[su c1,su c2]);refine .inl ⟨_,by simp only[go_sem,t0,t5,t6,t7,t13,t14,t15,t34,t35,t36,hx,hy,g1,g2,g3,g4,g5,g6,g7,g9,k2,q1,q2,hk,d1,d2,d3,d4,d5,d6,e1,e4];rfl,?_⟩;simp only[go_sem,t0,t5,t6,t7,t13,t14,t15,t34,t35,d1,d2,d3,d4];refine⟨rfl,by rw[hx,e2],by rw[hy,e3],by omega,t3,fun b hb=>by rw[aH];exact hs b hb⟩) (by
     rintro ⟨S,E,G⟩ ⟨t0,t5,t6,t7,t13,t14,t15,t34,t35,t36,hx,hy,a1,t3,hs⟩;simp only at t0 t5 t6 t7 t13 t14 t15 t34 t35 t36 hx hy a1 t3 hs;have g1:¬(s.members.length:Int)<(s.members.length:Int):=by omega
     refine⟨_,by simp only[go_sem,t35,t36,g1];rfl,by simp,_,_,_,rfl,?_⟩;simp only[go_sem,t0,t6,t7,t13,t14,t15];exact⟨hx,hy,a1,t3,hs⟩) (by
     simp only[go_sem,h0,Y,Fh,O];rw[Iw,Iw,gu,<- gX,aH,aF];exact⟨rfl,rfl,by omega,fun b hb=>by rw[aH,aH]⟩)
   rw[SX]at hx hy;have b2:=a6.1;have a6:JA E G 3 nm S rb (CO s i):=Qc hR a6.1 (by omega) a6.2;obtain⟨hg,hl,hr,b3,a8⟩:=a6;have b9:rb.length<=2*i:=by
    rw[hl];unfold CO;have:=List.length_take_le i (free s);have e:∀l:List Int,(l.flatMap (Ep s)).length=2*l.length:=fun l=>by
     induction l with
     |nil=>rfl
     |cons a l ih=>rw[zO,zl,ih,zB];simp only[Ep,zB,wz];omega
    rw[e];omega
   obtain⟨σ2,ha,b4,b5⟩:=OZ (c:=cRf nm) (s:=1) (bytes:=24) (fun _=>rfl) (fun _=>rfl) (by decide) hg [nx,nx+1] (by simp) (by simp only[zB,wz];omega) (by decide);have ha:Ae (upd E G (some ⟨[V.rs nx 0 s.members.length,V.rs (nx+1) 0 s.members.length],1,true⟩)) (G+1) 1 24 (S 3) [V.rs nx 0 s.members.length,V.rs (nx+1) 0 s.members.length] 2=some (.rs (G+1) 0 (rb.length+2),σ2,G+1+1):=by rw[<- hm];exact ha
   refine⟨_,by simp only[go_sem,t0,t6,t7,t13,t14,t15,f3,ha];rfl,.inl ⟨_,rfl,?_⟩⟩;simp only[go_sem,t0,t13,t14];have J:∀b,b<G->(b∈rb\/b=nx\/b=nx+1)->σ2 b=E b:=fun b hb hc=>by
    refine b5 b hb fun c o l h=>?_
    rcases hc with hc|hc|hc
    .exact(a8 b hc).2 c o l h
    .have:=lH hR.1 (b2 ▸ h);omega
    .have:=lH hR.1 (b2 ▸ h);omega
   refine⟨rfl,rb++[nx,nx+1],?_⟩;rw[aaB s a7,<- hj];refine⟨.inr ⟨G+1,by simp[go_sem],by simp,b4,by omega⟩,by simp[hl,Ep],fun q h1 h2=>?_,fun r b6=>?_,fun b hb=>?_⟩
   .have hq:(CO s i++Ep s j)[q]=if h1:q<(CO s i).length then(CO s i)[q]else if q=(CO s i).length then(List.range s.members.length).map (eX s j)else(List.range s.members.length).map (eY s j):=ahq _ _ h2
    rw[hq]
    by_cases c1:q<rb.length
    .rw[dif_pos (by omega),wP c1,J _ (a8 _ (zu c1)).1 (.inl (zu c1))]
     exact hr q c1 (by omega)
    .rw[dif_neg (by omega),wS (by omega)]
     rw[zl]at h1;simp only[zB,wz]at h1
     by_cases c2:q=(CO s i).length
     .rw[sZ c2]
      have:q-rb.length=0:=by omega
      simp only[this,List.getElem_cons_zero];rw[J nx (by omega) (.inr (.inl rfl))];exact hx
     .rw[su c2]
      have:q-rb.length=1:=by omega
      simp only[this,List.getElem_cons_succ,List.getElem_cons_zero];rw[J (nx+1) (by omega) (.inr (.inr rfl))];exact hy
   .rcases List.mem_append.mp b6 with h|h
    .exact b3 r h
    .simp only[Ep,zX,zJ,or_false]at h
     rcases h with h|h<;>rw[h]<;>simp[hm]
   .have c0:b<G:=by
     rcases List.mem_append.mp hb with h|h
     .exact(a8 b h).1
     .simp only[zX,zJ,or_false]at h;omega
    refine⟨by omega,fun c o l h=>?_⟩;simp only[go_sem,V.rs.injEq]at h;omega) (by
   rintro ⟨T,σ,nx⟩ ⟨h0,Y,Fh,O,rb,hR⟩;simp only at h0 Y Fh O hR;exact⟨_,by simp only[go_sem,Fh,O,zk];rfl,by simp,_,_,_,rb,rfl,Qc hR (by simp only[go_sem]) (zq _) fun _ _=>rfl⟩) (by
   simp only[go_sem];refine⟨[],.inl ⟨by simp only[go_sem],rfl⟩,by simp[CO],?_,?_,?_⟩
   .intro j h;cases h
   .intro r hr;simp[CO]at hr
   .intro b hb;cases hb)
 obtain⟨ids,hs⟩:=Tq h2 5;simp only[go_sem,hs]
def EM(X:List Int)(k:Nat):List Int:=X.take k++List.replicate (X.length-k) 0
theorem NY(X:List Int){k:Nat}(h:k<=X.length):(EM X k).length=X.length:=by unfold EM;rw[zl,zh,yR];omega
theorem Qd(X:List Int):EM X 0=List.replicate X.length 0:=by simp[EM]
theorem Qe(X:List Int):EM X X.length=X:=by simp[EM]
theorem NZ(X:List Int){k:Nat}(h:k<X.length):(EM X k).set k X[k]=EM X (k+1):=by
 unfold EM;have E:(X.take k).length=k:=by rw[zh];omega
 rw[yF _ _ (by omega),E,yP,show X.length-k=X.length - (k+1)+1 by omega,xg,wC,ah h,zF];rfl
def Uf(s:Structure):List Int:=(CO s (free s).length).flatMap fun r=>(cols s s.members.length).map fun p=>p.2*r.getD p.1.toNat 0
def J_(s:Structure)(l:List Int):List Int:=(free s).flatMap fun j=>[-l.getD (2*j.toNat) 0,-l.getD (2*j.toNat+1) 0]
theorem N7{α:Type}(f:α->List Int){C:Nat}(E:∀x,(f x).length=C):∀xs:List α,(xs.flatMap f).length=xs.length*C
 |[]=>by simp
 |x :: xs=>by rw[zO,zl,N7 f E xs,E,zB,yG];omega
theorem mY{α:Type}(f:α->List Int){C:Nat}(E:∀x,(f x).length=C):∀(xs:List α) {i c:Nat} (hi:i<xs.length) (hc:c<C),(xs.flatMap f)[i*C+c]?=(f xs[i])[c]?
 |x :: xs,0,c,_,hc=>by rw[zO,vC,yu,zW (by rw[E];exact hc)];rfl
 |x :: xs,i+1,c,hi,hc=>by
  rw[zO,zN (by rw[E,yG];omega),E,show(i+1)*C+c-C=i*C+c by rw[yG];omega,mY f E xs (by simpa using hi) hc];rfl
theorem JB(s:Structure):(CO s (free s).length).length=2*(free s).length:=by
 unfold CO;rw[yZ]
 induction free s with
 |nil=>rfl
 |cons a l E=>rw[zO,zl,E,zB];simp only[Ep,zB,wz];omega
theorem Qg{s:Structure}{r:List Int}(h:r∈CO s (free s).length):r.length=s.members.length:=by
 unfold CO at h;obtain⟨j,-,h⟩:=List.mem_flatMap.mp h;simp only[Ep,zX,zJ,or_false]at h;rcases h with h|h<;>rw[h]<;>simp
theorem Xe{s:Structure}(hs:SG s){r:List Int}(h:r∈CO s (free s).length):∀x∈r,-100<=x/\x<=100:=by
 unfold CO at h;obtain⟨j,-,h⟩:=List.mem_flatMap.mp h;simp only[Ep,zX,zJ,or_false]at h;intro x E;rcases h with h|h<;>rw[h]at E<;>obtain⟨k,-,rfl⟩:=List.mem_map.mp E
 .have:=ama hs j k;omega
 .have:=ama hs j k;omega
theorem pU{s:Structure}:∀ {n:Nat} {p:Int×Int},p∈cols s n->(∃k:Nat,p.1=(k:Int)/\k<n)/\(p.2=1\/p.2= -1):=fun {n p} h=>by
 unfold cols at h;obtain⟨k,G,h⟩:=List.mem_flatMap.mp h;have E:=List.mem_range.mp G;unfold Fb at h;rcases List.mem_append.mp h with h|h
 .split at h
  .cases h
  .rw[List.mem_singleton.mp h];exact⟨⟨k,rfl,E⟩,.inl rfl⟩
 .split at h
  .cases h
  .rw[List.mem_singleton.mp h];exact⟨⟨k,rfl,E⟩,.inr rfl⟩
theorem Lm(s:Structure):(Uf s).length=2*(free s).length*(cols s s.members.length).length:=by
 unfold Uf;rw[N7 _ (fun _=>zV _),JB]
theorem Tv(s:Structure)(l:List Int):(J_ s l).length=2*(free s).length:=by
 unfold J_;rw[N7 _ (C:=2) (fun _=>rfl)];omega
def Ls(s:Structure):Nat:=2*(free s).length
def Du(s:Structure):Nat:=(cols s s.members.length).length
theorem O1{s:Structure}(h:SG s){l:List Int}(hl:l.length=2*s.joints.length)(hb:∀x∈l,-100<=x/\x<=100):fn Ze conv ext 104 [.tp (cStructure s) 0,LI l,I 0,I 0]=some (.agg (CG (Ls s) (Du s) (Uf s) (J_ s l) (List.replicate (Du s) 0))):=by
 have i7:=h.nm;have i9:=mJ s;have X9:=h.nj;have j0:=pV s s.members.length;have k1:=Tt h;have k2:=NW h;have k3:=J9 h;have h4:=JB s;obtain⟨E,hE⟩:∃E,E=CO s (free s).length:=⟨_,rfl⟩;obtain⟨K,hK⟩:∃K,K=cols s s.members.length:=⟨_,rfl⟩;have hR:E.length=Ls s:=by rw[hE];exact h4
 have hC:K.length=Du s:=by rw[hK];rfl
 have e4:Ls s<=12:=by unfold Ls;omega
 have e5:Du s<=16:=by rw[<- hC,hK];omega
 have b3:(Uf s).length=Ls s*Du s:=Lm s;have e6:Ls s*Du s<=12*16:=yM e4 e5;rw[<- hE]at k1;rw[<- hK]at k2;have k1:fn Ze conv ext 163 [.tp (cStructure s) 0]=some (.ts (E.flatMap cRw) (Ls s)):=by rw[<- hR];exact k1
 have k2:fn Ze conv ext 161 [.tp (cStructure s) 0]=some (.ts (K.flatMap EL) (Du s)):=by rw[<- hC];exact k2
 obtain⟨R,eR⟩:∃R,R=Ls s:=⟨_,rfl⟩;obtain⟨C,eC⟩:∃C,C=Du s:=⟨_,rfl⟩;rw[<- eR]at k1 hR e4 b3 e6⊢;rw[<- eC]at k2 hC e5 b3 e6⊢;have f1:=Zl (n:=(R:Int));have f2:=Zl (n:=(C:Int));have e3:(R:Int)*(C:Int)=((R*C:Nat):Int):=by push_cast;rfl
 have f3:=Zl (n:=((R*C:Nat):Int));have f4:(0:Int)<=((R*C:Nat):Int):=by omega
 have f5:8*((R*C:Nat):Int)<=281474976710656:=by omega
 have f6:((R*C:Nat):Int)<=9223372036854775807:=by omega
 have f7:=jL R;have f8:8*(R:Int)<=281474976710656:=by omega
 have f9:(R:Int)<=9223372036854775807:=by omega
 have f10:=jL C;have f11:8*(C:Int)<=281474976710656:=by omega
 have f12:(C:Int)<=9223372036854775807:=by omega
 have f13:(R:Int)+0=R:=by omega
 have f14:(C:Int)+0=C:=by omega
 rw[mW,nK [.cell 8 142] [3,10,16] func104];unfold CG;simp only[go_sem,k1,k2,f1,f2,e3,f3,f4,f5,f6,f7,f8,f9,f10,f11,f12,f13,f14];generalize hL:gI _ _=y;have j1:=b3;obtain⟨FA,e7⟩:∃FA,FA=Uf s:=⟨_,rfl⟩;have h5:∀i c (hi:i<R) (hc:c<C) (hq:i*C+c<FA.length),FA[i*C+c]=(K[c]'(by omega)).2*(E[i]'(by omega)).getD (K[c]'(by omega)).1.toNat 0:=fun i c hi hc hq=>by
  have:=mY (fun r:List Int=>K.map fun p=>p.2*r.getD p.1.toNat 0) (C:=C) (fun _=>by rw[zV];exact hC) E (i:=i) (c:=c) (by omega) hc;rw[z_,zy (l:=K) (i:=c) (by omega)]at this;have e2:FA=E.flatMap fun r=>K.map fun p=>p.2*r.getD p.1.toNat 0:=by rw[e7,hE,hK];rfl
  rw[<- e2,zy hq]at this;exact Option.some.inj this
 rw[<- e7]at b3⊢
 obtain⟨x,rfl,T1,b4,oI,rfl,t0,t1,t8,t11,h6,s0,J,S,Y,s4⟩:=pJ hL R (fun i st=>st.T 0= .tp (cStructure s) 0/\st.T 1=LI l/\st.T 8= .rp 0 0/\st.T 11= .rp 1 0/\st.T 10= .ts (K.flatMap EL) C/\st.T 46= .ts (E.flatMap cRw) R/\st.T 47=I R/\st.T 48=I i/\4<st.nx /\
   st.σ 0=some ⟨[I 0,I 0,.nil,.nil,.nil],0,true⟩/\st.σ 1=some ⟨[I R,I C,.rs 2 0 (R*C),.rs 3 0 R,.rs 4 0 C],0,true⟩/\st.σ 2=some ⟨(EM FA (i*C)).flatMap cI,1,true⟩/\st.σ 3=some ⟨(List.replicate R 0).flatMap cI,1,true⟩/\st.σ 4=some ⟨(List.replicate C 0).flatMap cI,1,true⟩)
  (fun x=>∃T1 b4 oI,x=(.exit 0,⟨T1,b4,oI⟩)/\T1 0= .tp (cStructure s) 0/\T1 1=LI l/\T1 8= .rp 0 0/\T1 11= .rp 1 0/\4<oI/\b4 0=some ⟨[I 0,I 0,.nil,.nil,.nil],0,true⟩/\b4 1=some ⟨[I R,I C,.rs 2 0 (R*C),.rs 3 0 R,.rs 4 0 C],0,true⟩/\b4 2=some ⟨FA.flatMap cI,1,true⟩/\b4 3=some ⟨(List.replicate R 0).flatMap cI,1,true⟩/\b4 4=some ⟨(List.replicate C 0).flatMap cI,1,true⟩) (by
   clear hL;rintro i ⟨T,σ,nx⟩ hi ⟨t0,t1,t8,t11,t10,t46,t47,t48,G,s0,J,S,Y,s4⟩;simp only at t0 t1 t8 t11 t10 t46 t47 t48 G s0 J S Y s4;have g1:(i:Int)<(R:Int):=by omega
   have g2:=jL i;have g3:=Zl (n:=(i:Int)+1);have g4:(E.flatMap cRw)[i]?=some (LI (E[i]'(by omega))):=dR (fun r=>LI r) E i (by omega);have g5:=dO (c:=cRw) (s:=1) (fun _=>rfl) (by omega) E i (by omega);have g6:(E.flatMap cRw).length=R:=by rw[dN (c:=cRw) (s:=1) (fun _=>rfl),hR,yO]
   have e9:(E[i]'(by omega)).length=s.members.length:=by subst hE;exact Qg (zu _)
   have h0:∀x∈(E[i]'(by omega)),-100<=x/\x<=100:=by subst hE;exact Xe h (zu _)
   obtain⟨r,er⟩:∃r,r=E[i]'(by omega):=⟨_,rfl⟩;have h7:=h5 i;rw[<- er]at g4 e9 h0;refine cu ?_
   conv=>
    enter [1,q,1,1]
    simp only[go_sem,t0,t1,t8,t11,t10,t46,t47,t48,g1,g2,g4,g5,g6]
   generalize hL:gI _ _=z;have h8:(i+1)*C<=R*C:=zK _ hi;rw[yG]at h8
   obtain⟨x,rfl,T2,σ2,CJ,rfl,t0,t1,t8,t11,t10,t46,t47,t48,G,s0,J,S,Y,s4⟩:=pJ hL C (fun c st=>st.T 0= .tp (cStructure s) 0/\st.T 1=LI l/\st.T 8= .rp 0 0/\st.T 11= .rp 1 0/\st.T 10= .ts (K.flatMap EL) C/\st.T 46= .ts (E.flatMap cRw) R/\st.T 47=I R/\st.T 48=I i/\st.T 12=I i/\st.T 13=LI r/\st.T 53= .ts (K.flatMap EL) C/\st.T 54=I C/\st.T 55=I c/\4<st.nx /\
     st.σ 0=some ⟨[I 0,I 0,.nil,.nil,.nil],0,true⟩/\st.σ 1=some ⟨[I R,I C,.rs 2 0 (R*C),.rs 3 0 R,.rs 4 0 C],0,true⟩/\st.σ 2=some ⟨(EM FA (i*C+c)).flatMap cI,1,true⟩/\st.σ 3=some ⟨(List.replicate R 0).flatMap cI,1,true⟩/\st.σ 4=some ⟨(List.replicate C 0).flatMap cI,1,true⟩)
    (fun x=>∃T2 σ2 CJ,x=(.exit 2,⟨T2,σ2,CJ⟩)/\T2 0= .tp (cStructure s) 0/\T2 1=LI l/\T2 8= .rp 0 0/\T2 11= .rp 1 0/\T2 10= .ts (K.flatMap EL) C/\T2 46= .ts (E.flatMap cRw) R/\T2 47=I R/\T2 48=I i/\4<CJ /\
     σ2 0=some ⟨[I 0,I 0,.nil,.nil,.nil],0,true⟩/\σ2 1=some ⟨[I R,I C,.rs 2 0 (R*C),.rs 3 0 R,.rs 4 0 C],0,true⟩/\σ2 2=some ⟨(EM FA (i*C+C)).flatMap cI,1,true⟩/\σ2 3=some ⟨(List.replicate R 0).flatMap cI,1,true⟩/\σ2 4=some ⟨(List.replicate C 0).flatMap cI,1,true⟩) (by
     clear hL;rintro c ⟨T2,σ2,CJ⟩ hc ⟨t0,t1,t8,t11,t10,t46,t47,t48,t12,t13,t53,t54,t55,G,s0,J,S,Y,s4⟩;simp only at t0 t1 t8 t11 t10 t46 t47 t48 t12 t13 t53 t54 t55 G s0 J S Y s4;have a1:(c:Int)<(C:Int):=by omega
     have a2:=jL c;have a3:=Zl (n:=(c:Int)+1);have b8:c<K.length:=by omega
     have a4:=dS (c:=EL) (s:=2) (fun _=>rfl) K c b8;have a5:=dO (c:=EL) (s:=2) (fun _=>rfl) (by omega) K c b8;have a6:(K.flatMap EL).length=C*2:=by rw[dN (c:=EL) (s:=2) (fun _=>rfl),hC]
     have a7:c*2+2<=C*2:=by omega
     have b6:K[c]∈cols s s.members.length:=by rw[<- hK];exact zu b8
     obtain⟨⟨k,hk,j2⟩,c0⟩:=pU b6;have hq:i*C+c<FA.length:=by omega
     have b2:=h7 c hi hc hq;rw[<- er]at b2;obtain⟨kp,h9⟩:∃kp,kp=K[c]:=⟨_,rfl⟩;rw[<- h9]at a4 hk c0 b2;obtain⟨j3,b7⟩:=kp;simp only at hk c0 b2 a4;subst hk;rw[yS]at b2;have a8:=idx (xs:=r) (k:=k) (by omega);have e8:r[k]'(by omega)=r.getD k 0:=by rw[zx,zy (by omega)];rfl
     have i0:=h0 _ (zu (l:=r) (n:=k) (by omega));rw[e8]at a8 i0;have a9:=Aw r k (by omega);have c2:(k:Int)<(r.length:Int):=by omega
     have c3:=jL k;have j4:-100<=b7*r.getD k 0/\b7*r.getD k 0<=100:=by rcases c0 with e|e<;>rw[e]<;>omega
     have a12:=Zl (n:=b7*r.getD k 0);have c4:(i:Int)*(C:Int)=((i*C:Nat):Int):=by push_cast;rfl
     have c5:=Zl (n:=((i*C:Nat):Int));have c6:((i*C:Nat):Int)+(c:Int)=((i*C+c:Nat):Int):=by omega
     have c7:=Zl (n:=((i*C+c:Nat):Int));have c8:((i*C+c:Nat):Int)<((R*C:Nat):Int):=by omega
     have c9:(0:Int)<=((i*C+c:Nat):Int):=by omega
     have e0:i*C+c<R*C:=by omega
     have a20:i*C+c+1<=R*C:=by omega
     have a21:((EM FA (i*C+c)).flatMap cI).length=R*C:=by rw[qW,NY _ (by omega),b3]
     have i1:((EM FA (i*C+c)).flatMap cI).set (i*C+c) (I (b7*r.getD k 0))=(EM FA (i*C+c+1)).flatMap cI:=by
      rw[qV,<- NZ FA hq,b2]
     have i2:(r.flatMap cI).length=r.length:=qW r;have d0:¬0=CJ:=by omega
     have d1:¬1=CJ:=by omega
     have d2:¬2=CJ:=by omega
     have d3:¬3=CJ:=by omega
     have d4:¬4=CJ:=by omega
     have d5:¬CJ=2:=by omega
     have d6:1<CJ+1:=by omega
     have d7:2<CJ+1:=by omega
     have d8:CJ<CJ+1:=by omega
     have d9:¬CJ=1:=by omega
     refine .inl ⟨_,by simp only[go_sem,t0,t1,t8,t11,t10,t46,t47,t48,t12,t13,t53,t54,t55,J,S,a1,a2,a3,a4,a5,a6,a7,a8,a9,c2,c3,a12,c4,c5,c6,c7,c8,c9,e0,a20,a21,i1,i2,d0,d1,d2,d3,d4,d5,d6,d7,d8,d9];rfl,?_⟩;simp only[go_sem,t0,t1,t8,t11,t10,t46,t47,t48,t12,t13,t53,t54];refine⟨rfl,by omega,?_,?_,rfl,?_,?_⟩
     .rw[aG _ _ d0];exact s0
     .rw[aG _ _ d1];exact J
     .rw[aG _ _ d3];exact Y
     .rw[aG _ _ d4];exact s4) (by
     rintro ⟨T2,σ2,CJ⟩ ⟨t0,t1,t8,t11,t10,t46,t47,t48,t12,t13,t53,t54,t55,G,s0,J,S,Y,s4⟩;simp only at t0 t1 t8 t11 t10 t46 t47 t48 t12 t13 t53 t54 t55 G s0 J S Y s4;have a1:¬(C:Int)<(C:Int):=by omega
     refine⟨_,by simp only[go_sem,t54,t55,a1];rfl,by simp,_,_,_,rfl,?_⟩;simp only[go_sem,t0,t1,t8,t11,t10,t46,t47,t48];exact⟨G,s0,J,S,Y,s4⟩) (by
     simp only[go_sem,t0,t1,t8,t11,t10,t46,t47,t48];exact⟨G,s0,J,S,Y,s4⟩)
   refine⟨_,by simp only[go_sem,t0,t1,t8,t11,t10,t46,t47,t48,g3];rfl,.inl ⟨_,rfl,?_⟩⟩;simp only[go_sem,t0,t1,t8,t11,t10,t46,t47];refine⟨rfl,G,s0,J,?_,Y,s4⟩;rw[yG];exact S) (by
   rintro ⟨T,σ,nx⟩ ⟨t0,t1,t8,t11,t10,t46,t47,t48,G,s0,J,S,Y,s4⟩;simp only at t0 t1 t8 t11 t10 t46 t47 t48 G s0 J S Y s4;have g1:¬(R:Int)<(R:Int):=by omega
   refine⟨_,by simp only[go_sem,t47,t48,g1];rfl,by simp,_,_,_,rfl,?_⟩;simp only[go_sem,t0,t1,t8,t11];rw[<- b3,Qe]at S;exact⟨G,s0,J,S,Y,s4⟩) (by
   simp only[go_sem,Qd,b3,<- gX])
 clear hL;simp only[go_sem,t0,k3];generalize hL:gI _ _=y;obtain⟨F,eF⟩:∃F,F=free s:=⟨_,rfl⟩;have i3:R=2*F.length:=by rw[eR,eF];rfl
 have e1:=Tv s l;obtain⟨O,h1⟩:∃O,O=J_ s l:=⟨_,rfl⟩;rw[<- h1]at e1⊢;rw[<- eF]at e1;have i4:∀i (hi:i<F.length),∃j:Nat,F[i]=(j:Int)/\j<s.joints.length/\O[2*i]'(by omega)= -l.getD (2*j) 0/\O[2*i+1]'(by omega)= -l.getD (2*j+1) 0:=fun i hi=>by
  have b6:F[i]∈G9 (C9 s) s.joints.length:=by subst eF;exact zu hi
  unfold G9 at b6;obtain⟨j,hj,e⟩:=List.mem_map.mp b6;have i5:=List.mem_range.mp (List.mem_filter.mp hj).1;have e2:O=F.flatMap fun j=>[-l.getD (2*j.toNat) 0,-l.getD (2*j.toNat+1) 0]:=by rw[h1,eF];rfl
  have g0:=mY (fun j:Int=>[-l.getD (2*j.toNat) 0,-l.getD (2*j.toNat+1) 0]) (C:=2) (fun _=>rfl) F (i:=i) (c:=0) hi (by decide);have g1:=mY (fun j:Int=>[-l.getD (2*j.toNat) 0,-l.getD (2*j.toNat+1) 0]) (C:=2) (fun _=>rfl) F (i:=i) (c:=1) hi (by decide);rw[<- e2,<- e,yS]at g0 g1;refine⟨j,e.symm,i5,?_,?_⟩
  .rw[show i*2+0=2*i by omega,zy (by omega)]at g0
   exact Option.some.inj g0
  .rw[show i*2+1=2*i+1 by omega,zy (by omega)]at g1
   exact Option.some.inj g1
 have j5:F.length<=6:=by rw[eF];omega
 obtain⟨x,rfl,T3,b5,Ar,rfl,t8,t11,s0,J,S,Y,s4⟩:=pJ hL F.length (fun i st=>st.T 1=LI l/\st.T 8= .rp 0 0/\st.T 11= .rp 1 0/\st.T 80=LI F/\st.T 81=I F.length/\st.T 82=I i/\4<st.nx /\
   st.σ 0=some ⟨[I 0,I 0,.nil,.nil,.nil],0,true⟩/\st.σ 1=some ⟨[I R,I C,.rs 2 0 (R*C),.rs 3 0 R,.rs 4 0 C],0,true⟩/\st.σ 2=some ⟨FA.flatMap cI,1,true⟩/\st.σ 3=some ⟨(EM O (2*i)).flatMap cI,1,true⟩/\st.σ 4=some ⟨(List.replicate C 0).flatMap cI,1,true⟩)
  (fun x=>∃T3 b5 Ar,x=(.exit 4,⟨T3,b5,Ar⟩)/\T3 8= .rp 0 0/\T3 11= .rp 1 0/\b5 0=some ⟨[I 0,I 0,.nil,.nil,.nil],0,true⟩/\b5 1=some ⟨[I R,I C,.rs 2 0 (R*C),.rs 3 0 R,.rs 4 0 C],0,true⟩/\b5 2=some ⟨FA.flatMap cI,1,true⟩/\b5 3=some ⟨O.flatMap cI,1,true⟩/\b5 4=some ⟨(List.replicate C 0).flatMap cI,1,true⟩) (by
   clear hL;rintro i ⟨T,σ,nx⟩ hi ⟨t1,t8,t11,t80,t81,t82,G,s0,J,S,Y,s4⟩;simp only at t1 t8 t11 t80 t81 t82 G s0 J S Y s4;obtain⟨j,hj,j6,hx,hy⟩:=i4 i hi;have g1:(i:Int)<(F.length:Int):=by omega
   have g2:=jL i;have g3:=Zl (n:=(i:Int)+1);have g4:=idx (xs:=F) (k:=i) hi;rw[hj]at g4;have g5:=Aw F i hi;have a1:(2:Int)*(i:Int)=((2*i:Nat):Int):=by push_cast;rfl
   have a2:=Zl (n:=((2*i:Nat):Int));have a3:((2*i:Nat):Int)+1=((2*i+1:Nat):Int):=by omega
   have a4:=Zl (n:=((2*i+1:Nat):Int));have a5:(2:Int)*(j:Int)=((2*j:Nat):Int):=by push_cast;rfl
   have a6:=Zl (n:=((2*j:Nat):Int));have a7:((2*j:Nat):Int)+1=((2*j+1:Nat):Int):=by omega
   have a8:=Zl (n:=((2*j+1:Nat):Int));have h2:∀q (h:q<l.length),(l.flatMap cI)[q]?=some (I (l.getD q 0)):=fun q h=>by
    rw[idx h,zx,zy h];rfl
   have h3:∀q (h:q<l.length),-100<=l.getD q 0/\l.getD q 0<=100:=fun q h=>by
    rw[zx,zy h];exact hb _ (zu h)
   have a9:=h2 (2*j) (by omega);have c2:=h2 (2*j+1) (by omega);have b9:=h3 (2*j) (by omega);have j7:=h3 (2*j+1) (by omega);have c3:=Aw l (2*j) (by omega);have a12:((2*j:Nat):Int)<(l.length:Int):=by omega
   have c4:((2*j+1:Nat):Int)<(l.length:Int):=by omega
   have c5:(0:Int)<=((2*j:Nat):Int):=by omega
   have c6:(0:Int)<=((2*j+1:Nat):Int):=by omega
   have c7:((2*i:Nat):Int)<(R:Int):=by omega
   have c8:((2*i+1:Nat):Int)<(R:Int):=by omega
   have c9:(0:Int)<=((2*i:Nat):Int):=by omega
   have e0:(0:Int)<=((2*i+1:Nat):Int):=by omega
   have w1:=Zl (n:=-l.getD (2*j) 0);have w2:=Zl (n:=-l.getD (2*j+1) 0);have w3:IntKind.i64.wrap (0-l.getD (2*j) 0)= -l.getD (2*j) 0:=by rw[Zl];omega
   have w4:IntKind.i64.wrap (0-l.getD (2*j+1) 0)= -l.getD (2*j+1) 0:=by rw[Zl];omega
   have p1:((EM O (2*i)).flatMap cI).length=R:=by rw[qW,NY _ (by omega)];omega
   have p2:((EM O (2*i+1)).flatMap cI).length=R:=by rw[qW,NY _ (by omega)];omega
   have p3:((EM O (2*i)).flatMap cI).set (2*i) (I (-l.getD (2*j) 0))=(EM O (2*i+1)).flatMap cI:=by
    rw[qV,<- NZ O (k:=2*i) (by omega),hx]
   have p4:((EM O (2*i+1)).flatMap cI).set (2*i+1) (I (-l.getD (2*j+1) 0))=(EM O (2*i+1+1)).flatMap cI:=by
    rw[qV,<- NZ O (k:=2*i+1) (by omega),hy]
   have p5:2*i<R:=by omega
   have p6:2*i+1<R:=by omega
   have p7:2*i+1<=R:=by omega
   have p8:2*i+1+1<=R:=by omega
   have p9:3<nx:=by omega
   have i6:1<nx:=by omega
   refine .inl ⟨_,by simp only[go_sem,t1,t8,t11,t80,t81,t82,J,Y,g1,g2,g3,g4,g5,a1,a2,a3,a4,a5,a6,a7,a8,a9,c2,c3,a12,c4,c5,c6,c7,c8,c9,e0,w1,w2,w3,w4,p1,p2,p3,p4,p5,p6,p7,p8,p9,i6];rfl,?_⟩;simp only[go_sem,t1,t8,t11,t80,t81];exact⟨rfl,G,s0,J,S,by rw[show 2*(i+1)=2*i+1+1 by omega],s4⟩) (by
   rintro ⟨T,σ,nx⟩ ⟨t1,t8,t11,t80,t81,t82,G,s0,J,S,Y,s4⟩;simp only at t1 t8 t11 t80 t81 t82 G s0 J S Y s4;have g1:¬(F.length:Int)<(F.length:Int):=by omega
   refine⟨_,by simp only[go_sem,t81,t82,g1];rfl,by simp,_,_,_,rfl,?_⟩;simp only[go_sem,t8,t11];have:EM O (2*F.length)=O:=by rw[show 2*F.length=O.length by omega,Qe]
   rw[this]at Y;exact⟨s0,J,S,Y,s4⟩) (by
   simp only[go_sem,t1,t8,t11,Nat.mul_zero,Qd,<- eF];rw[e1,<- i3];exact⟨h6,s0,J,S,Y,s4⟩)
 clear hL;have u1:R*C<=FA.length:=by omega
 have u2:R<=O.length:=by omega
 have u3:C<=(List.replicate C (0:Int)).length:=by simp
 have v1:(FA.flatMap cI).take (R*C)=FA.flatMap cI:=zo (by rw[qW];omega);have v2:(O.flatMap cI).take R=O.flatMap cI:=zo (by rw[qW];omega);have v3:((List.replicate C (0:Int)).flatMap cI).take C=(List.replicate C (0:Int)).flatMap cI:=zo (by rw[qW];simp);simp only[go_sem,t8,t11,s0,J,S,Y,s4,u1,u2,u3,v1,v2,v3];have w1:FA.length=R*C:=by omega
 have w2:O.length=R:=by omega
 have w3:(List.replicate C (0:Int)).length=C:=by simp
 show some (V.agg [I R,I C,V.ts (FA.flatMap cI) (R*C),V.ts (O.flatMap cI) R,V.ts ((List.replicate C (0:Int)).flatMap cI) C])=some (V.agg [I R,I C,V.ts (FA.flatMap cI) FA.length,V.ts (O.flatMap cI) O.length,V.ts ((List.replicate C (0:Int)).flatMap cI) (List.replicate C (0:Int)).length]);rw[w1,w2,w3]
theorem akY{P:Program}{t e:TypeId}{x y:Operand}(h:P.underlying t=some (.pointer e)):AB P .eql t x y (.sc (.pointer none)) (.sc (.pointer none))=some (Bo true):=by
 have key:uI P ((Op.equal t (.pointer none) (.pointer none)).bind fun r=>pure (Value.bool r))=some (.bool true):=by
  show uI P ((Op.equalIn (9999+1) t _ _).bind fun r=>pure (Value.bool r))=_;unfold Op.equalIn underlying;show uI P (.program fun p=>_)=_;simp only[uI];have pb:∀ {β E:Type} (a:β) (f:β->Sem E),(Sem.pure a).bind f=f a:=fun _ _=>rfl
  have G:∀ {β E:Type} (a:β) (f:β->Sem E),(pure a:Sem β).bind f=f a:=fun _ _=>rfl
  simp only[h,pb,G];rfl
 simp only[AB,toVal,eqGuard_at_pointer,pure_bind,binOp];erw[key];rfl
theorem aon(x y:Operand):AB Ze .eql 148 x y (.sc (.pointer none)) (.sc (.pointer none))=some (Bo true):=akY Tryz.underlying148
attribute [go_sem] aon
def axS:Option Rat->Option Rat->Option Rat
 |some x,some y=>Fq (x+y)
 |_,_=>none
def G7:Option Rat->Option Rat->Option Rat
 |some x,some y=>Fq (x*y)
 |_,_=>none
def LnO(k:Nat)(a:Option Rat):Prop:=∀x,a=some x->Ln k x
theorem axT(a:Option Rat):fn Ze conv ext 222 [pQ a]=some (pQ (a.map fun x=> -x)):=by
 cases a with
 |none=>
  show fn Ze conv ext 222 [.sc (.pointer none)]=some (.sc (.pointer none))
  rw[mW,nK [.tmp 2] [] func222];simp only[go_sem]
 |some x=>
  have k:=kQ x.num;have E:(-x).num= -x.num:=rfl;have G:(-x).den=x.den:=rfl;show fn Ze conv ext 222 [.tp (cQ x) 0]=some (.tp (cQ (-x)) 0)
  rw[mW,nK [.tmp 2] [] func222];unfold cQ;rw[E,G];unfold cZ at k;simp only[go_sem,k]
theorem N8(σ:Store)(a:Option Rat):Option.map (fun x=>x.1) (strip σ 7 (pQ a))=some (pQ a):=by
 cases a with
 |none=>rfl
 |some q=>unfold pQ;rw[ay];rfl
theorem asz{a b:Option Rat}(E:LnO 100 a)(hb:LnO 100 b):fn Ze pI Ad 111 [pQ a,pQ b]=some (pQ (axS a b)):=by
 cases a with
 |none=>
  show fn Ze pI Ad 111 [.sc (.pointer none),pQ b]=some (.sc (.pointer none));rw[mW,nK [.tmp 4] [] func111];simp only[go_sem]
 |some x=>cases b with
  |none=>
   show fn Ze pI Ad 111 [.tp (cQ x) 0,.sc (.pointer none)]=some (.sc (.pointer none));rw[mW,nK [.tmp 4] [] func111];simp only[go_sem]
  |some y=>
   have G:=agV x y ((E x rfl).mono (by decide)) ((hb y rfl).mono (by decide));have J:=ar4 (x+y) (Ln.mono (aaz (E x rfl) (hb y rfl) ) (by decide));show fn Ze pI Ad 111 [.tp (cQ x) 0,.tp (cQ y) 0]=some (pQ (Fq (x+y)));rw[mW,nK [.tmp 4] [] func111];simp only[go_sem,G,J];exact N8 _ _
theorem asA{a b:Option Rat}(E:LnO 100 a)(hb:LnO 100 b):fn Ze pI Ad 169 [pQ a,pQ b]=some (pQ (G7 a b)):=by
 cases a with
 |none=>
  show fn Ze pI Ad 169 [.sc (.pointer none),pQ b]=some (.sc (.pointer none));rw[mW,nK [.tmp 4] [] func169];simp only[go_sem]
 |some x=>cases b with
  |none=>
   show fn Ze pI Ad 169 [.tp (cQ x) 0,.sc (.pointer none)]=some (.sc (.pointer none));rw[mW,nK [.tmp 4] [] func169];simp only[go_sem]
  |some y=>
   have G:=abB x y ((E x rfl).mono (by decide)) ((hb y rfl).mono (by decide));have J:=ar4 (x*y) (Ln.mono (aay (E x rfl) (hb y rfl) (by decide)) (by decide));show fn Ze pI Ad 169 [.tp (cQ x) 0,.tp (cQ y) 0]=some (pQ (Fq (x*y)));rw[mW,nK [.tmp 4] [] func169];simp only[go_sem,G,J];exact N8 _ _
abbrev F8(a:Option Rat):List V:=[pQ a]
def akZ(o:Option Rat)(v:Rat):Option Rat:=match o with
 |none=>some v
 |some y=>Fq (y+v)
def sgQ(s:Int)(x:Rat):Rat:=if s<0 then -x else x
def FW(K:List (Int×Int))(X:List Rat)(nm:Nat):Nat->List (Option Rat)
 |0=>List.replicate nm none
 |c+1=>(FW K X nm c).set (K.getD c (0,0)).1.toNat (akZ ((FW K X nm c).getD (K.getD c (0,0)).1.toNat none) (sgQ (K.getD c (0,0)).2 (X.getD c 0)))
theorem mM(K:List (Int×Int))(X:List Rat)(nm:Nat):∀c,(FW K X nm c).length=nm
 |0=>by simp[FW]
 |c+1=>by rw[FW,yK];exact mM K X nm c
theorem abM{q y:Rat}(h:Fq q=some y):Ln 24 y:=by
 unfold Fq at h
 split at h
 .cases h;assumption
 .cases h
theorem Tz{K:List (Int×Int)}{X:List Rat}{nm:Nat}(O:∀x∈X,Ln 24 x):∀c,∀o∈FW K X nm c,LnO 24 o
 |0=>fun o G y E=>by
  have:=(List.mem_replicate.mp G).2;rw[this]at E;cases E
 |c+1=>fun o G y E=>by
  rw[FW]at G;rcases uP G with h|h
  .exact Tz O c o h y E
  .subst h
   unfold akZ at E
   split at E
   .cases E
    have J:Ln 24 (X.getD c 0):=by
     rw[zx]
     by_cases hc:c<X.length
     .rw[zy hc];exact O _ (zu hc)
     .rw[yg (by omega)];exact(sO (z:=0) (by decide)).mono (by decide)
    unfold sgQ
    split
    .have S:(-(X.getD c 0)).num= -(X.getD c 0).num:=rfl
     have Y:(-(X.getD c 0)).den=(X.getD c 0).den:=rfl;exact⟨by rw[S,wH];exact J.1,by rw[Y];exact J.2⟩
    .exact J
   .exact(abM E).mono (by decide)
theorem ak0(X:List (Option Rat)):∀(k:Nat) (q:Option Rat),(X.flatMap F8).set k (pQ q)=(X.set k q).flatMap F8:=by
 induction X with
 |nil=>intro k q;rfl
 |cons a X E=>intro k q;cases k with
  |zero=>rfl
  |succ k=>show pQ a :: ((X.flatMap F8).set k (pQ q))=_;rw[E];rfl
theorem ahr(N:Nat):rep N [V.sc (.pointer none)]=(List.replicate N (none:Option Rat)).flatMap F8:=by
 induction N with
 |zero=>rfl
 |succ N E=>rw[gV,E,xg];rfl
theorem ahs(a:Option Rat):cellsOfV (pQ a)=some [pQ a]:=by cases a<;>rfl
theorem ak1(a:Option Rat):qI (pQ a)=true:=by cases a<;>rfl
theorem JC(σ:Store)(d:Nat):∀X:List (Option Rat),stripL (strip σ d) (X.flatMap F8)=some (X.flatMap F8,[])
 |[]=>by rw[wE,bP]
 |a :: X=>by
  rw[zO,show F8 a++X.flatMap F8=pQ a :: X.flatMap F8 from rfl,bU,JC σ d X];cases a with
  |none=>unfold pQ;rw[bC];rfl
  |some q=>unfold pQ;rw[ay];rfl
attribute [go_sem] ahs ak1
def abN:=dN (c:=F8) (s:=1) (fun _=>rfl)
theorem asB{s:Structure}(h:SG s){X:List Rat}(hX:X.length=(cols s s.members.length).length)(hL:∀x∈X,Ln 24 x) :
  fn Ze pI Ad 162 [.tp (cStructure s) 0,LL cF X]=some (LL F8 (FW (cols s s.members.length) X s.members.length (cols s s.members.length).length)):=by
 have e0:=h.nm;have e3:=pV s s.members.length;have k2:=NW h;have m1:(0:Int)<=(s.members.length:Int):=by omega
 have m2:8*(s.members.length:Int)<=281474976710656:=by omega
 have m3:(s.members.length:Int)<=9223372036854775807:=by omega
 obtain⟨K,hK⟩:∃K,K=cols s s.members.length:=⟨_,rfl⟩;have c5:∀c (hc:c<K.length),(∃k:Nat,K[c].1=(k:Int)/\k<s.members.length)/\(K[c].2=1\/K[c].2= -1):=fun c hc=>by subst hK;exact pU (zu hc)
 rw[<- hK]at k2 hX e3⊢;rw[mW,nK [.tmp 4] [10] func162];simp only[go_sem,k2,m1,m2,m3];generalize c6:gI _ _=y;obtain⟨nm,c7⟩:∃nm,nm=s.members.length:=⟨_,rfl⟩;rw[<- c7]at c5 e0 m1 m2 m3⊢;obtain⟨x,rfl,T1,S,oI,rfl,t5,s0⟩:=pJ c6 K.length (fun c st=>st.T 1=LL cF X/\st.T 5= .rs 0 0 nm/\st.T 16=LL EL K/\st.T 17=I K.length/\st.T 18=I c/\0<st.nx/\st.σ 0=some ⟨(FW K X nm c).flatMap F8,1,true⟩)
  (fun x=>∃T1 S oI,x=(.exit 0,⟨T1,S,oI⟩)/\T1 5= .rs 0 0 nm/\S 0=some ⟨(FW K X nm K.length).flatMap F8,1,true⟩) (by
   clear c6;rintro c ⟨T,σ,nx⟩ hc ⟨t1,t5,t16,t17,DR,c0,s0⟩;simp only at t1 t5 t16 t17 DR c0 s0;have g1:(c:Int)<(K.length:Int):=by omega
   have g2:=jL c;have g3:=Zl (n:=(c:Int)+1);have a4:=dS (c:=EL) (s:=2) (fun _=>rfl) K c hc;have a5:=dO (c:=EL) (s:=2) (fun _=>rfl) (by omega) K c hc;have a6:=dN (c:=EL) (s:=2) (fun _=>rfl) K;have a7:c*2+2<=K.length*2:=by omega
   have a8:=qZ X (k:=c) (by omega);have a9:(X.flatMap cF).length=X.length:=qY X;have Y:(c:Int)<(X.length:Int):=by omega
   have a1:X.flatMap cF≠[]:=fun e=>by rw[e]at a9;have:X.length=0:=a9.symm;omega
   obtain⟨⟨k,hk,J⟩,c2⟩:=c5 c hc;have G:FW K X nm (c+1)=(FW K X nm c).set K[c].1.toNat (akZ ((FW K X nm c).getD K[c].1.toNat none) (sgQ K[c].2 X[c])):=by
    rw[FW];have e1:K.getD c (0,0)=K[c]:=by rw[zx,zy hc];rfl
    have e2:X.getD c 0=X[c]'(by omega):=by rw[zx,zy (by omega)];rfl
    rw[e1,e2]
   have b7:=hL _ (zu (l:=X) (n:=c) (by omega));obtain⟨kp,e4⟩:∃kp,kp=K[c]:=⟨_,rfl⟩;rw[<- e4]at a4 hk c2 G;obtain⟨k1,c8⟩:=kp;simp only at hk c2 G;subst hk;rw[yS]at G;obtain⟨E,e5⟩:∃E,E=X[c]'(by omega):=⟨_,rfl⟩;rw[<- e5]at a8 G b7;have hlen:=mM K X nm c;have c9:=Tz (K:=K) (nm:=nm) hL c;obtain⟨O,eO⟩:∃O,O=FW K X nm c:=⟨_,rfl⟩;rw[<- eO]at s0 G hlen c9;have b1:=dR (fun a=>pQ a) O k (by omega);have b1:(O.flatMap F8)[k]?=some (pQ (O.getD k none)):=by
    rw[b1,zx,zy (by omega)];rfl
   have c3:LnO 24 (O.getD k none):=by
    rw[zx,zy (by omega)];exact c9 _ (zu _)
   have b2:(O.flatMap F8).length=nm:=by rw[abN,hlen,yO]
   have b3:(k:Int)<(nm:Int):=by omega
   have b4:=jL k;have b5:k+1<=nm:=J;have b8:Ln 24 (sgQ c8 E):=by
    unfold sgQ
    split
    .exact⟨by show ln (-E.num).natAbs<=24;rw[wH];exact b7.1,b7.2⟩
    .exact b7
   have b6:=ak0 O k (akZ (O.getD k none) (sgQ c8 E));rw[<- G]at b6;obtain⟨o,eo⟩:∃o,o=O.getD k none:=⟨_,rfl⟩;rw[<- eo]at b1 b6 c3;have b9:fn Ze conv ext 222 [.tp (cQ E) 0]=some (.tp (cQ (-E)) 0):=axT (some E)
   have d0:¬nx=0:=by omega
   have d1:¬0=nx:=by omega
   have d2:0<nx+1:=by omega
   have d3:nx<nx+1:=by omega
   refine cu ?_;have n1:¬(1:Int)<0:=by decide
   have n2:(-1:Int)<0:=by decide
   rcases c2 with rfl|rfl
   .have sv:sgQ 1 E=E:=rfl
    rw[sv]at b6 b8;rcases o with _|y
    .have e6:(O.flatMap F8).set k (.tp (cQ (E)) 0)=(FW K X nm (c+1)).flatMap F8:=b6
     have e1:(O.flatMap F8)[k]?=some (.sc (.pointer none)):=b1;refine⟨_,by simp only[go_sem,t1,t5,t16,t17,DR,s0,g1,g2,g3,a4,a5,a6,a7,a8,a9,Y,a1,b2,b3,b4,b5,J,e1,e6,b9,n1,n2,d0,d1,d2,d3];rfl,.inl ⟨_,rfl,?_⟩⟩;simp only[go_sem,t1,t5,t16,t17,d0,d1,d2]
     first|rfl|exact⟨rfl,rfl⟩|trace_state
    .have e6:(O.flatMap F8).set k (pQ (Fq (y+E)))=(FW K X nm (c+1)).flatMap F8:=b6
     have e1:(O.flatMap F8)[k]?=some (.tp (cQ y) 0):=b1;have c4:fn Ze pI Ad 111 [.tp (cQ y) 0,.tp (cQ (E)) 0]=some (pQ (Fq (y+E))):=asz (a:=some y) (b:=some (E)) (fun z hz=>(c3 z hz).mono (by decide)) (fun z hz=>by cases hz;exact b8.mono (by decide));refine⟨_,by simp only[go_sem,t1,t5,t16,t17,DR,s0,g1,g2,g3,a4,a5,a6,a7,a8,a9,Y,a1,b2,b3,b4,b5,J,e1,e6,b9,c4,n1,n2,d0,d1,d2,d3];rfl,.inl ⟨_,rfl,?_⟩⟩;simp only[go_sem,t1,t5,t16,t17,d0,d1,d2]
     first|rfl|exact⟨rfl,rfl⟩|trace_state
   .have sv:sgQ (-1) E= -E:=rfl
    rw[sv]at b6 b8;rcases o with _|y
    .have e6:(O.flatMap F8).set k (.tp (cQ (-E)) 0)=(FW K X nm (c+1)).flatMap F8:=b6
     have e1:(O.flatMap F8)[k]?=some (.sc (.pointer none)):=b1;refine⟨_,by simp only[go_sem,t1,t5,t16,t17,DR,s0,g1,g2,g3,a4,a5,a6,a7,a8,a9,Y,a1,b2,b3,b4,b5,J,e1,e6,b9,n1,n2,d0,d1,d2,d3];rfl,.inl ⟨_,rfl,?_⟩⟩;simp only[go_sem,t1,t5,t16,t17,d0,d1,d2]
     first|rfl|exact⟨rfl,rfl⟩|trace_state
    .have e6:(O.flatMap F8).set k (pQ (Fq (y+ -E)))=(FW K X nm (c+1)).flatMap F8:=b6
     have e1:(O.flatMap F8)[k]?=some (.tp (cQ y) 0):=b1;have c4:fn Ze pI Ad 111 [.tp (cQ y) 0,.tp (cQ (-E)) 0]=some (pQ (Fq (y+ -E))):=asz (a:=some y) (b:=some (-E)) (fun z hz=>(c3 z hz).mono (by decide)) (fun z hz=>by cases hz;exact b8.mono (by decide));refine⟨_,by simp only[go_sem,t1,t5,t16,t17,DR,s0,g1,g2,g3,a4,a5,a6,a7,a8,a9,Y,a1,b2,b3,b4,b5,J,e1,e6,b9,c4,n1,n2,d0,d1,d2,d3];rfl,.inl ⟨_,rfl,?_⟩⟩;simp only[go_sem,t1,t5,t16,t17,d0,d1,d2]
     first|rfl|exact⟨rfl,rfl⟩|trace_state) (by
   rintro ⟨T,σ,nx⟩ ⟨t1,t5,t16,t17,DR,c0,s0⟩;simp only at t1 t5 t16 t17 DR c0 s0;have g1:¬(K.length:Int)<(K.length:Int):=by omega
   refine⟨_,by simp only[go_sem,t17,DR,g1];rfl,by simp,_,_,_,rfl,?_⟩;simp only[go_sem,t5];exact s0) (by
   simp only[go_sem,<- c7];rw[FW,<- ahr])
 have hlen:=mM K X nm K.length;have u1:nm<=((FW K X nm K.length).flatMap F8).length:=by rw[abN,hlen];omega
 have u2:((FW K X nm K.length).flatMap F8).take nm=(FW K X nm K.length).flatMap F8:=zo (by rw[abN,hlen];omega);have u3:=JC S 6 (FW K X nm K.length);simp only[go_sem,t5,s0,u1,u2,u3];show some (V.ts _ nm)=some (V.ts _ (FW K X nm K.length).length);rw[hlen]
def IX(s:Structure)(l:List Int):Prog:=AA (Uf s) (J_ s l) (List.replicate (Du s) 0) (Ls s) (Du s)
theorem aaC{s:Structure}(h:SG s):∀x∈Uf s,-1000<=x/\x<=1000:=fun x E=>by
 unfold Uf at E;obtain⟨r,G,E⟩:=List.mem_flatMap.mp E;obtain⟨p,J,rfl⟩:=List.mem_map.mp E;have hb:-100<=r.getD p.1.toNat 0/\r.getD p.1.toNat 0<=100:=by
  rw[zx]
  by_cases hi:p.1.toNat<r.length
  .rw[zy hi];exact Xe h G _ (zu hi)
  .rw[yg (by omega)];simp
 rcases (pU J).2 with e|e<;>rw[e]<;>omega
theorem aht{s:Structure}{l:List Int}(hb:∀x∈l,-100<=x/\x<=100):∀x∈J_ s l,-1000<=x/\x<=1000:=fun x E=>by
 unfold J_ at E;obtain⟨j,-,E⟩:=List.mem_flatMap.mp E;have key:∀q,-100<=l.getD q 0/\l.getD q 0<=100:=fun q=>by
  rw[zx]
  by_cases hi:q<l.length
  .rw[zy hi];exact hb _ (zu hi)
  .rw[yg (by omega)];simp
 simp only[zX,zJ,or_false]at E;rcases E with rfl|rfl
 .have:=key (2*j.toNat);omega
 .have:=key (2*j.toNat+1);omega
theorem asD{s:Structure}(h:SG s){l:List Int}(hb:∀x∈l,-100<=x/\x<=100)(E:0<Ls s):KJ (Uf s) (J_ s l) (List.replicate (Du s) 0) (Ls s) (Du s):=by
 have J:=mJ s;have O:=h.nj;have S:=pV s s.members.length;have Y:=h.nm;refine⟨Lm s,Tv s l,by simp,E,by unfold Ls;omega,by unfold Du;omega,aaC h,aht hb,fun x G=>?_⟩;rw[(List.mem_replicate.mp G).2];omega
theorem aed{s:Structure}(h:Ag s)(O:free s=[]):s.members=[]:=by
 refine zf fun hn=>?_
 obtain⟨m,ms,e⟩:=List.exists_cons_of_ne_nil hn;have hm:m∈s.members:=by rw[e];simp
 have E:=h.2.2.2 m hm;have G:Gj s.joints.length m:=zf fun G=>by rw[jW G]at E;cases E
 obtain⟨S,Y,r3,r4,r5,r6⟩:=G;have J:m.a.toNat<s.joints.length:=by omega
 have hb:m.b.toNat<s.joints.length:=by omega
 rw[Jj ⟨S,Y,r3,r4,r5,r6⟩ (zy J) (zy hb)]at E;have fixed:∀i (hi:i<s.joints.length),s.joints[i].fixed=true:=fun i hi=>by
  cases hf:s.joints[i].fixed with
  |true=>rfl
  |false=>
   have hq:C9 s i=true:=by simp[C9,zy hi,hf]
   have:(i:Int)∈free s:=by
    unfold free G9;exact List.mem_map.mpr ⟨i,List.mem_filter.mpr ⟨List.mem_range.mpr hi,hq⟩,rfl⟩
   rw[O]at this;cases this
 unfold VL at E;rw[fixed _ J,fixed _ hb]at E;simp at E
theorem ak4{s:Structure}(h:Ag s){l:List Int}(hb:∀x∈l,-100<=x/\x<=100):∃r,fn Ze pI Ad 160 [.tp (CG (Ls s) (Du s) (Uf s) (J_ s l) (List.replicate (Du s) 0)) 0]=some r/\asn (IX s l) r:=by
 by_cases Y:0<Ls s
 .exact aoj (asD h.sg hb Y)
 .have E:free s=[]:=zZ (by unfold Ls at Y;omega)
  have e1:=aed h E;have G:Ls s=0:=by omega
  have J:Du s=0:=by unfold Du;rw[e1];rfl
  have O:Uf s=[]:=by unfold Uf CO;rw[E];rfl
  have S:J_ s l=[]:=by unfold J_;rw[E];rfl
  refine⟨_,by rw[G,J,O,S];exact akU,.inr (.inr ⟨fun _=>0,?_,fun j hj=>?_,?_⟩)⟩
  .unfold IX
   rw[G,J,O,S];refine⟨⟨fun k hk=>absurd hk (zU k),fun j hj=>absurd hj (zU j)⟩,fun y hy=>?_⟩;refine .inr fun q _=>?_
   show(0:Rat) - 0=0;grind
  .exact(sO (z:=0) (by decide)).mono (by decide)
  .unfold IX
   rw[G,J,O,S];rfl
def asE(s:Structure)(l:List Int)(r:V):Prop:=(r= .Au [.ts [] 0,.ts [] 0,Bo false]/\((IX s l).None\/(IX s l).Open)) \/
 ∃x:Nat->Rat,(IX s l).Best x/\(∀j,j<Du s->Ln 24 (x j))/\r= .Au [LL F8 (FW (cols s s.members.length) ((List.range (Du s)).map x) s.members.length (Du s)),.ts [] 0,Bo true]
theorem ak5{s:Structure}(h:Ag s){l:List Int}(hb:∀x∈l,-100<=x/\x<=100):∃r,fn Ze pI Ad 103 [.tp (cStructure s) 0,.agg (CG (Ls s) (Du s) (Uf s) (J_ s l) (List.replicate (Du s) 0))]=some r/\asE s l r:=by
 obtain⟨r0,E,hr⟩:=ak4 h hb;have k2:=NW h.sg;have hC:(cols s s.members.length).length=Du s:=rfl;obtain⟨C,eC⟩:∃C,C=Du s:=⟨_,rfl⟩;have hn:(IX s l).n=Du s:=rfl;have a1:Du s<=16:=by have:=pV s s.members.length;have:=h.sg.nm;omega
 rw[mW,nK [.tmp 4,.tmp 5,.tmp 6] [] func103];unfold CG at E⊢;rcases hr with ⟨rfl,G⟩|⟨rfl,G⟩|⟨x,G,S,rfl⟩
 .refine⟨_,by simp only[go_sem,E];rfl,.inl ⟨rfl,.inl G⟩⟩
 .refine⟨_,by simp only[go_sem,E];rfl,.inl ⟨rfl,.inr G⟩⟩
 .rw[hn]at E S
  obtain⟨X,O⟩:∃X:List Rat,X=(List.range (Du s)).map x:=⟨_,rfl⟩;have J:X.length=Du s:=by rw[O];simp
  have kf:=asB h.sg (X:=X) (by rw[J];rfl) (fun y hy=>by
   rw[O]at hy;obtain⟨j,hj,rfl⟩:=List.mem_map.mp hy;exact S j (List.mem_range.mp hj))
  rw[<- O]at E;have Y:fn Ze conv ext 161 [.tp (cStructure s) 0]=some (.ts ((cols s s.members.length).flatMap EL) X.length):=by rw[J];exact k2
  have z1:(X.flatMap cF).take X.length=X.flatMap cF:=zo (by rw[qY];exact zq _);have z2:(X.flatMap cF).drop X.length=[]:=xZ (by rw[qY];exact zq _);have z0:(0:Int)<=(X.length:Int):=by omega
  refine⟨_,by simp only[go_sem,E,Y,z0,z1,z2,kf,yP,List.take_nil,JC];rfl,.inr ⟨x,G,S,?_⟩⟩;rw[<- O];rfl
def Bf:List (Option Rat)->Option (List Rat)
 |[]=>some []
 |none :: _=>none
 |some q :: l=>(Bf l).map (q :: ·)
theorem dh:∀(l:List (Option Rat)) (a:Option Rat),Bf (l++[a])=(Bf l).bind fun qs=>a.map fun q=>qs++[q]
 |[],none=>rfl
 |[],some q=>rfl
 |none :: l,a=>rfl
 |some q :: l,a=>by
  show(Bf (l++[a])).map _=((Bf l).map _).bind _;rw[dh l a];cases Bf l with
  |none=>rfl
  |some qs=>cases a<;>rfl
theorem dw:∀ {l l':List (Option Rat)},Bf l=none->Bf (l++l')=none
 |[],_,h=>by cases h
 |none :: l,_,_=>rfl
 |some q :: l,l',h=>by
  show(Bf (l++l')).map _=none;have:Bf l=none:=by
   cases e:Bf l with
   |none=>rfl
   |some qs=>rw[show Bf (some q :: l)=(Bf l).map (q :: ·)from rfl,e]at h;cases h
  rw[dw this];rfl
theorem eU:∀ {l:List (Option Rat)} {qs:List Rat},Bf l=some qs->qs.length=l.length
 |[],qs,h=>by cases h;rfl
 |none :: l,_,h=>by cases h
 |some q :: l,qs,h=>by
  cases e:Bf l with
  |none=>rw[show Bf (some q :: l)=(Bf l).map (q :: ·)from rfl,e]at h;cases h
  |some rs=>rw[show Bf (some q :: l)=(Bf l).map (q :: ·)from rfl,e]at h;cases h;simp[eU e]
abbrev zR:List V:=[Bo false,.nil,.nil]
def O4(qs:List Rat)(n:Nat):List V:=qs.flatMap cQ++rep (n-qs.length) zR
def abO:=dN (c:=cQ) (s:=3) (fun _=>rfl)
theorem Xf(qs:List Rat){n:Nat}(h:qs.length<=n):(O4 qs n).length=n*3:=by
 unfold O4;rw[zl,abO,gW];simp only[zB,wz];omega
theorem ahu(qs:List Rat){n:Nat}(h:qs.length<n)(q:Rat):patch (O4 qs n) (qs.length*3) (cQ q)=O4 (qs++[q]) n:=by
 have E:=abO qs;rw[iR _ _ _ (by rw[Xf qs (by omega)];show qs.length*3+3<=n*3;omega)];unfold O4;rw[uo (by omega),zo (by omega),zT,zl,yH,show n-qs.length=n - (qs.length+1)+1 by omega,gV];rw[List.drop_append,xZ (by rw[E];omega),yL,E,show qs.length*3+(cQ q).length-qs.length*3=3 by show qs.length*3+3-qs.length*3=3;omega];simp
theorem Qh(σ:Store)(d:Nat)(qs:List Rat):stripL (strip σ d) (qs.flatMap cQ)=some (qs.flatMap cQ,[]):=bM (fun q=>qP σ d q) qs
theorem ahv(q:Rat):(cQ q).all qI=true:=rfl
theorem ak6(q:Rat):(cQ q).take 3=cQ q:=rfl
theorem ak7(q:Rat):(cQ q).length=3:=rfl
attribute [go_sem] ahv ak6 ak7
def Cc(O:List (Option Rat)):V:=match Bf O with
 |some qs=> .Au [LL cQ qs,Bo true]
 |none=> .Au [.ts [] 0,Bo false]
theorem ak8(O:List (Option Rat))(hL:∀o∈O,LnO 24 o)(hn:O.length<=1000):fn Ze conv ext 105 [LL F8 O]=some (Cc O):=by
 have m1:(0:Int)<=(O.length:Int):=by omega
 have m2:56*(O.length:Int)<=281474976710656:=by omega
 have m3:(O.length:Int)<=9223372036854775807:=by omega
 rw[mW,nK [.tmp 2,.tmp 3] [] func105];simp only[go_sem,m1,m2,m3];generalize Y:gI _ _=y;obtain⟨x,rfl,hx⟩:=pJ Y O.length (fun k st=>st.T 4= .rs 0 0 O.length/\st.T 10=LL F8 O/\st.T 11=I O.length/\st.T 12=I k/\0<st.nx/\∃qs,Bf (O.take k)=some qs/\st.σ 0=some ⟨O4 qs O.length,3,true⟩)
  (fun x=>∃T σ nx,(x=(.exit 0,⟨T,σ,nx⟩)/\T 4= .rs 0 0 O.length/\∃qs,Bf O=some qs/\σ 0=some ⟨O4 qs O.length,3,true⟩)\/(x=(.ret,⟨T,σ,nx⟩)/\T 2= .nil/\T 3=Bo false/\Bf O=none)) (by
   clear Y;rintro k ⟨T,σ,nx⟩ S ⟨t4,t10,t11,t12,G,qs,E,s0⟩;simp only at t4 t10 t11 t12 G s0;have g1:(k:Int)<(O.length:Int):=by omega
   have g2:=jL k;have g3:=Zl (n:=(k:Int)+1);have g4:(O.flatMap F8)[k]?=some (pQ O[k]):=dR (fun a=>pQ a) O k S;have g5:=dO (c:=F8) (s:=1) (fun _=>rfl) (by omega) O k S;have g6:=abN O;rw[yO]at g6;have a1:qs.length=k:=by rw[eU E,zh];omega
   have J:O.take (k+1)=O.take k++[O[k]]:=ah S;have ho:=hL _ (zu S);obtain⟨o,eo⟩:∃o,o=O[k]:=⟨_,rfl⟩;rw[<- eo]at g4 J ho;cases o with
   |none=>
    have g4:(O.flatMap F8)[k]?=some (.sc (.pointer none)):=g4;refine .inr ⟨_,by simp only[go_sem,t4,t10,t11,t12,g1,g2,g4,g5,g6,S];rfl,by simp,_,_,_,.inr ⟨rfl,?_⟩⟩;simp only[go_sem];have:O=O.take (k+1)++O.drop (k+1):=(wQ _ _).symm;rw[this,J];refine dw ?_;rw[dh,E];rfl
   |some q=>
    have g4:(O.flatMap F8)[k]?=some (.tp (cQ q) 0):=g4;have hq:=ho q rfl;have ks:=ajL q hq.1 hq.2;have p1:=Xf qs (n:=O.length) (by omega);have p2:=ahu qs (n:=O.length) (by omega) q;rw[a1]at p2;have p3:k*3+3<=O.length*3:=by omega
    refine .inl ⟨_,by simp only[go_sem,t4,t10,t11,t12,s0,g1,g2,g3,g4,g5,g6,S,ks,p1,p2,p3];rfl,?_⟩;simp only[go_sem,t4,t10,t11];refine⟨rfl,G,qs++[q],?_,rfl⟩;rw[J,dh,E];rfl) (by
   rintro ⟨T,σ,nx⟩ ⟨t4,t10,t11,t12,G,qs,E,s0⟩;simp only at t4 t10 t11 t12 G s0;have g1:¬(O.length:Int)<(O.length:Int):=by omega
   refine⟨_,by simp only[go_sem,t11,t12,g1];rfl,by simp,_,_,_,.inl ⟨rfl,?_⟩⟩;simp only[go_sem,t4];rw[yZ]at E;exact⟨qs,E,s0⟩) (by
   simp only[go_sem];refine⟨[],rfl,?_⟩;unfold O4;rfl)
 rcases hx with ⟨T,σ,nx,⟨rfl,t4,qs,E,s0⟩|⟨rfl,t2,t3,E⟩⟩
 .have hl:=eU E
  have e1:O4 qs O.length=qs.flatMap cQ:=by unfold O4;rw[hl,yP];exact zM _
  rw[e1]at s0;have u0:=abO qs;have u1:O.length*3<=(qs.flatMap cQ).length:=by rw[u0];omega
  have u2:(qs.flatMap cQ).take (O.length*3)=qs.flatMap cQ:=zo (by rw[u0];omega);have u3:=Qh σ 5 qs;unfold Cc;rw[E];simp only[go_sem,t4,s0,u1,u2,u3];show some (V.Au [V.ts _ O.length,_])=some (V.Au [V.ts _ qs.length,_]);rw[hl]
 .unfold Cc
  rw[E];simp only[go_sem,t2,t3]
end Go.Proofs.YtkpdoehbhmipcaaGreat
