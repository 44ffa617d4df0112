import Derived.Test.YtkpdoehbhmipcaaGreatTb4
set_option linter.unusedSimpArgs false
set_option linter.unusedVariables false
set_option linter.unusedSectionVars false
set_option linter.defProp false
set_option maxRecDepth 10000
set_option maxHeartbeats 4000000
open Go.Proofs.Tryz renaming prog->Ze
open Go.Proofs.Tryz
open Bool renaming and_eq_true->yc,false_eq_true->yD,not_false->wY,and_false->wJ,true_and->vw,not_true->vN,false_and->uj
open Classical renaming byContradiction->zf
open Int renaming lt_irrefl->zk,natCast_mul->zC,toNat_natCast->yS,tdiv_eq_ediv_of_nonneg->yQ,le_refl->xW,natAbs_natCast->xA,natAbs_neg->wH,natAbs_mul_self->wG,natAbs_mul->uh
open List renaming getElem?_eq_getElem->zy,getD_eq_getElem?_getD->zx,getElem_mem->zu,take_of_length_le->zo,length_append->zl,length_take->zh,eq_nil_of_length_eq_zero->zZ,mem_cons_of_mem->zY,mem_cons->zX,getElem?_append_left->zW,length_map->zV,flatMap_append->zT,mem_cons_self->zQ,flatMap_cons->zO,getElem?_append_right->zN,append_nil->zM,not_mem_nil->zJ,append_assoc->zF,length_cons->zB,mem_append_right->zA,getElem?_map->z_,drop_zero->yw,length_drop->yj,mem_append_left->yh,getElem?_eq_none->yg,take_length->yZ,cons_append->yY,getElem_of_mem->yV,drop_eq_getElem_cons->yU,length_eraseIdx_of_lt->yT,length_replicate->yR,take_add_one->yN,nil_append->yL,length_set->yK,length_singleton->yH,set_append_right->yF,ext_getElem->yE,nodup_cons->xw,getElem?_drop->xq,replicate_succ->xg,drop_of_length_le->xZ,map_append->xQ,map_congr_left->xO,getElem_map->xK,mem_of_mem_take->xH,map_cons->x9,length_nil->wz,take_left'->wu,range_succ->wX,mem_append->wU,getElem_append_right->wS,take_append_drop->wQ,getElem_append_left->wP,all_eq_true->wL,mem_singleton->wF,set_cons_zero->wC,getElem?_range->vU,getElem_set->vJ,eraseIdx_eq_take_drop_succ->vG,mem_of_mem_eraseIdx->uz,getElem_take->uw,getElem_inj->ug,all_cons->uT,length_range->uS,replicate_succ'->uQ,mem_or_eq_of_mem_set->uP,getElem?_mapIdx->uO,length_zipWith->uD,getElem?_set_self->tV
open Nat renaming le_refl->zq,not_lt_zero->zU,le_trans->zL,mul_le_mul_right->zK,zero_add->yu,sub_self->yP,mul_one->yO,mul_le_mul->yM,succ_mul->yG,min_eq_left->xY,lt_of_lt_of_le->xR,div_le_self->xP,div_div_eq_div_mul->xE,div_one->xC,mul_comm->wW,add_comm->wV,mod_eq_of_lt->wO,mod_lt->vk,add_mul->vT,zero_le->vS,mul_assoc->vM,div_eq_of_lt->vK,pow_succ->vB,add_zero->uY,div_lt_iff_lt_mul->uV,le_div_iff_mul_le->uU,eq_zero_of_gcd_eq_zero_right->uG,mul_le_mul_left->uF,div_mul_le_self->u_,le_mul_of_pos_left->tN
open Ne renaming symm->zD
open Option renaming bind_some->zi,map_some->zH
open Option.some renaming injEq->tC
open Prod.mk renaming injEq->t_
namespace Go.Proofs.YtkpdoehbhmipcaaGreat
open Go Go.TV
attribute [-go_sem] rH
def aaD(P:Program)(ts:Array TypeId)(ty:TypeId)(a b:V)(σ:Store)(nx:Nat):JG:=Ey P .min ts ty [a,b] σ nx
theorem aop{P:Program}{conv:FuncId->Conv}{call:TV.Call}(d:Option Tmp)(ty:TypeId)(ps:String)(E:Array Edge)(G:Option (Nat×Bool))(T:Nat->V)(σ:Store)(nx:Nat)(a b:Operand)(ts:Array TypeId) :
  Aq P conv call ⟨d,.call ⟨.builtin .min,#[a,b],ts⟩,ty,ps,E,G⟩ T σ nx=aaD P ts ty (val T a) (val T b) σ nx:=rfl
theorem aaE{P:Program}{ts:Array TypeId}{ty:TypeId}{m n:Int}{σ:Store}{nx:Nat}:aaD P ts ty (I m) (I n) σ nx=some (I (if n<m then n else m),σ,nx):=by
 unfold aaD;simp only[Ey,GR,aeZ];rfl
attribute [go_sem] aop aaE
theorem aaF{b n:Nat}(hn:ln b=n+1):1<=b / 1000000000^n/\b / 1000000000^n<1000000000/\(dg b)[n]?=some ((b / 1000000000^n:Nat):Int):=by
 have E:b<1000000000^(n+1):=by
  have:=(jr (n:=b) (k:=n+1)).mp (by omega);rw[qp]at this;omega
 have S:¬b<1000000000^n:=fun h=>by
  have:ln b<=n:=(jr (n:=b) (k:=n)).mpr (by rw[qp];omega);omega
 have G:0<1000000000^n:=Nat.pow_pos (by decide);have J:b / 1000000000^n<1000000000:=by
  rw[uV G];rw[vB]at E;rw[wW];exact E
 have O:n<(dg b).length:=by unfold ln at hn;omega
 refine⟨by rw[uU G];omega,J,?_⟩;rw[zy O,oh O,wO J]
theorem ak9(m n:Nat):AU m n<=0↔m<=n:=by
 unfold AU
 split
 .omega
 .split<;>omega
theorem ak_(m n:Nat):AU m n<0↔m<n:=by
 unfold AU
 split
 .omega
 .split<;>omega
theorem aoq{r b P:Nat}(E:0<P)(hb:0<b):r / P / (b / P+1)<=r / b:=by
 rw[uU hb];have G:b<=(b / P+1)*P:=by
  have:=Nat.lt_mul_div_succ b E;rw[wW];omega
 calc r / P / (b / P+1)*b<=r / P / (b / P+1)*((b / P+1)*P):=uF _ G
  _=r / P / (b / P+1)*(b / P+1)*P:=by rw[vM]
  _<=r / P*P:=zK _ (u_ _ _)
  _<=r:=u_ _ _
theorem aor{r b P:Nat}(E:0<P)(hb:0<b / P):r / b<=r / P / (b / P):=by
 rw[uU hb,uU E];have G:b / P*P<=b:=u_ _ _
 calc r / b*(b / P)*P=r / b*(b / P*P):=vM _ _ _
  _<=r / b*b:=uF _ G
  _<=r:=u_ _ _
theorem ak'(r b:Nat)(c7:1000000000<=b)(hle:b<=r)(b8:r<b*1000000000)(c8:ln b<=10000):fn Ze conv ext 293 [LI (dg r),LI (dg b)]=some (I ((r / b:Nat):Int)):=by
 obtain⟨n,hn⟩:∃n,ln b=n+1:=⟨ln b-1,by have:=ji (n:=b) (by omega);omega⟩;obtain⟨t1,t2,t3⟩:=aaF hn;obtain⟨P,eP⟩:∃P,P=1000000000^n:=⟨_,rfl⟩;rw[<- eP]at t1 t2 t3;have hP:0<P:=by rw[eP];exact Nat.pow_pos (by decide)
 have b3:n+1<=ln r:=by rw[<- hn];exact jq hle
 have b9:ln r<=n+2:=by
  rw[jr,qp];have h1:b<1000000000^(n+1):=by
   have:=(jr (n:=b) (k:=n+1)).mp (by omega);rw[qp]at this;omega
  have h2:1000000000^(n+2)=1000000000^(n+1)*1000000000:=vB _ _;omega
 obtain⟨X,eX⟩:∃X,X=r / P:=⟨_,rfl⟩;obtain⟨bt,a6⟩:∃bt,bt=b / P:=⟨_,rfl⟩;rw[<- a6]at t1 t2 t3;obtain⟨Q,eQ⟩:∃Q,Q=r / b:=⟨_,rfl⟩;rw[<- eQ];have c9:Q<1000000000:=by rw[eQ,uV (by omega),wW];exact b8
 have q1:X / (bt+1)<=Q:=by rw[eX,a6,eQ];exact aoq hP (by omega)
 have q2:Q<=X / bt:=by rw[eX,a6,eQ];exact aor hP (by omega)
 have hX:X<1000000000000000000:=by
  rw[eX,uV hP];have h1:r<1000000000^(n+2):=by
   have:=(jr (n:=r) (k:=n+2)).mp b9;rw[qp]at this;omega
  have h2:1000000000^(n+2)=1000000000000000000*P:=by rw[eP,Nat.pow_add,wW]
  omega
 have a7:(dg b).length=n+1:=hn;have u1:((n+1:Nat):Int) - 1=(n:Int):=by omega
 have w1:=Zl (n:=(n:Int));have i0:=jL n;have i1:(n:Int)<((n+1:Nat):Int):=by omega
 have i2:(n:Int)<((dg r).length:Int):=by unfold ln at b3;omega
 have n1:n<(dg r).length:=by unfold ln at b3;omega
 have n2:n<n+1:=by omega
 have b4:((dg b).flatMap cI)[n]?=some (I (bt:Int)):=by
  have G:n<(dg b).length:=by omega
  have e:(dg b)[n]=(bt:Int):=by
   rw[zy G]at t3;exact Option.some.inj t3
  rw[idx (xs:=dg b) (k:=n) G,e]
 have b5:(dg b).flatMap cI≠[]:=fun e=>by have h:=qW (dg b);rw[e,a7]at h;have h:0=n+1:=h;omega
 have b6:(dg r).flatMap cI≠[]:=fun e=>by have h:=qW (dg r);rw[e]at h;have h:0=(dg r).length:=h;omega
 have a8:((dg r).flatMap cI)[n]?=some (I ((r / P%1000000000:Nat):Int)):=by
  rw[idx (xs:=dg r) (k:=n) n1,oh n1,eP]
 have v1:=Zl (n:=(bt:Int)+1);have c1:¬(bt:Int)+1=0:=by omega
 have c2:¬(bt:Int)=0:=by omega
 obtain⟨L0,J⟩:∃L0,L0=X / (bt+1):=⟨_,rfl⟩;obtain⟨O,S⟩:∃O,O=X / bt:=⟨_,rfl⟩;have e0:L0<=X:=by rw[J];exact xP _ _
 have e2:O<=X:=by rw[S];exact xP _ _
 rw[<- J]at q1;rw[<- S]at q2;have d1:(X:Int).tdiv ((bt:Int)+1)=(L0:Int):=by
  rw[yQ (by omega),show(bt:Int)+1=((bt+1:Nat):Int) by omega,<- Int.natCast_ediv,J]
 have d2:(X:Int).tdiv (bt:Int)=(O:Int):=by rw[yQ (by omega),<- Int.natCast_ediv,S]
 clear J S;have v2:=Zl (n:=(L0:Int));have v3:=Zl (n:=(O:Int));obtain⟨H,eH,c0,c5⟩:∃H:Nat,(if(O:Int)<999999999 then(O:Int)else 999999999)=(H:Int)/\Q<=H/\H<=999999999:=by
  by_cases h:(O:Int)<999999999
  .exact⟨O,by rw[sZ h],q2,by omega⟩
  .exact⟨999999999,by rw[su h];rfl,by omega,by omega⟩
 have E:ln r=n+1\/ln r=n+2:=by omega
 rw[mW,nK [.tmp 4] [] func293];rcases E with E|E
 case' inl=>
  have e1:r / P%1000000000=X:=by
   rw[eX];obtain⟨_,h2,_⟩:=aaF E;rw[<- eP]at h2;exact wO h2
  rw[e1]at a8;have b2:(dg r).length=n+1:=E;have c3:¬((n+1:Nat):Int)<((n+1:Nat):Int):=by omega
  simp only[go_sem,a7,b2,u1,w1,i0,i1,n2,a8,b4,b5,b6,c3,v1,c1,c2,d1,d2,v2,v3,eH]
 case' inr=>
  obtain⟨y1,y2,y3⟩:=aaF E;obtain⟨Y,eY⟩:∃Y,Y=r / 1000000000^(n+1):=⟨_,rfl⟩;rw[<- eY]at y2 y3;have e1:r / P%1000000000+Y*1000000000=X:=by
   have:=oU r n;rw[<- eP,<- eY,<- eX]at this;rw[<- eX];omega
  have b2:(dg r).length=n+1+1:=E;have c3:((n+1:Nat):Int)<((n+1+1:Nat):Int):=by omega
  have i3:(0:Int)<=((n+1:Nat):Int):=by omega
  have i4:(n:Int)<((n+1+1:Nat):Int):=by omega
  have n3:n+1<n+1+1:=by omega
  have n4:n<n+1+1:=by omega
  have tn:((n+1:Nat):Int).toNat=n+1:=yS _;have c6:((dg r).flatMap cI)[n+1]?=some (I (Y:Int)):=by
   have G:n+1<(dg r).length:=by omega
   have e:(dg r)[n+1]=(Y:Int):=by
    rw[zy G]at y3;exact Option.some.inj y3
   rw[idx (xs:=dg r) (k:=n+1) G,e]
  have v4:=Zl (n:=(Y:Int)*1000000000);have v5:IntKind.i64.wrap (((r / P%1000000000:Nat):Int)+(Y:Int)*1000000000)=(X:Int):=by
   rw[Zl];omega
  simp only[go_sem,a7,b2,u1,w1,i0,i1,i3,i4,n2,n3,n4,tn,a8,c6,b4,b5,b6,c3,v1,v4,v5,c1,c2,d1,d2,v2,v3,eH]
 all_goals
  generalize hL:gI _ _=y;obtain⟨x,rfl,T,σ,nx,rfl,t7⟩:=je hL (fun m st=>st.T 0=LI (dg r)/\st.T 1=LI (dg b)/\∃lo hi:Nat,st.T 7=I (lo:Int)/\st.T 8=I (hi:Int)/\lo<=Q/\Q<=hi/\hi<=999999999/\m+lo=hi)
   (fun x=>∃T σ nx,x=(.exit 0,⟨T,σ,nx⟩)/\T 7=I (Q:Int)) (by
    clear hL;rintro m ⟨T,σ,nx⟩ ⟨t0,t1,lo,hi,t7,t8,h1,h2,h3,h4⟩;simp only at t0 t1 t7 t8
    by_cases e3:lo<hi
    .have g1:(lo:Int)<(hi:Int):=by omega
     obtain⟨q,eq⟩:∃q,q=(lo+hi+1) / 2:=⟨_,rfl⟩;have g2:=Zl (n:=(lo:Int)+(hi:Int));have g3:=Zl (n:=(lo:Int)+(hi:Int)+1);have g4:((lo:Int)+(hi:Int)+1).tdiv 2=(q:Int):=by
      rw[yQ (by omega)];omega
     have g5:=Zl (n:=(q:Int));have g6:=Zl (n:=(q:Int) - 1);have g7:¬(2:Int)=0:=by decide
     have k1:=MR q (by omega);have lq:=jh (n:=q) (by omega);have k2:=fC b q (by omega) (by omega);have lm:=jo b q;have k3:=VQ (b*q) r (by show ln (b*q)<=_;omega) (by show ln r<=_;omega);have a1:=ak9 (b*q) r;have b7:b*q<=r↔q<=Q:=by rw[eQ,uU (by omega),wW]
     by_cases hq:q<=Q
     .have c4:AU (b*q) r<=0:=a1.mpr (b7.mpr hq)
      refine .inl ⟨_,by simp only[go_sem,t0,t1,t7,t8,g1,g2,g3,g4,g5,g7,k1,k2,k3,c4];rfl,hi-q,by omega,?_⟩;simp only[go_sem,t0,t1,t8];exact⟨q,hi,rfl,rfl,hq,h2,h3,by omega⟩
     .have c4:¬AU (b*q) r<=0:=fun h=>hq (b7.mp (a1.mp h))
      refine .inl ⟨_,by simp only[go_sem,t0,t1,t7,t8,g1,g2,g3,g4,g5,g6,g7,k1,k2,k3,c4];rfl,q-1-lo,by omega,?_⟩;simp only[go_sem,t0,t1,t7];exact⟨lo,q-1,rfl,by rw[show((q-1:Nat):Int)=(q:Int) - 1 by omega],h1,by omega,by omega,by omega⟩
    .have g1:¬(lo:Int)<(hi:Int):=by omega
     refine .inr ⟨_,by simp only[go_sem,t7,t8,g1];rfl,by simp,_,_,_,rfl,?_⟩;simp only[go_sem,t7];rw[show(lo:Int)=(Q:Int) by omega]) (H-L0) (by
    simp only[go_sem];exact⟨L0,H,rfl,rfl,q1,c0,c5,by omega⟩)
  simp only[go_sem,t7]
def DW(n k i:Nat):List Int:=(List.range k).map fun j=>if j<i then 0 else((n / 1000000000^j%1000000000:Nat):Int)
theorem N9(n k i:Nat):(DW n k i).length=k:=by simp[DW]
theorem ahw(n k:Nat):DW n k k=List.replicate k 0:=by
 refine yE (by simp[DW]) fun j E G=>?_
 simp only[DW,xK,List.getElem_range,List.getElem_replicate];rw[sZ (by simpa[DW]using E)]
theorem aeg(n k:Nat):DW n k 0=pad n k:=by
 refine yE (by simp[DW,pad]) fun j E G=>?_
 simp[DW,pad]
theorem N_{n k i:Nat}(E:i<k):(DW n k (i+1)).set i ((n / 1000000000^i%1000000000:Nat):Int)=DW n k i:=by
 refine yE (by simp[DW]) fun j G J=>?_
 rw[vJ];simp only[DW,xK,List.getElem_range]
 by_cases e:i=j
 .subst e;simp
 .rw[su e]
  by_cases h:j<i
  .rw[sZ (by omega),sZ h]
  .rw[su (by omega),su h]
theorem Qi{n k i:Nat}(h:i<k)(E:n / 1000000000^i%1000000000=0):DW n k (i+1)=DW n k i:=by
 rw[<- N_ h,E];refine yE (by simp[DW]) fun j G J=>?_
 rw[vJ]
 by_cases e:i=j
 .subst e
  rw[sZ rfl];simp only[DW,xK,List.getElem_range];rw[sZ (by omega)];rfl
 .rw[su e]
theorem asH(xs:List Int)(k:Nat)(v:Int):(xs.flatMap cI).set k (I v)=(xs.set k v).flatMap cI:=by
 induction xs generalizing k with
 |nil=>rfl
 |cons x xs E=>
  cases k with
  |zero=>rfl
  |succ k=>show I x :: (xs.flatMap cI).set k (I v)=_;rw[E];rfl
theorem axZ(n:Nat):rep n [V.sc (.int .i64 0)]=(List.replicate n (0:Int)).flatMap cI:=by
 induction n with
 |zero=>rfl
 |succ n E=>rw[gV,E,xg];rfl
theorem aaG{σ:Store}{b:Nat}{xs:List Int}{w:Bool}(h:σ b=some ⟨xs.flatMap cI,1,w⟩){n:Nat}(hn:xs.length=n)(d:Nat):strip σ (d+1) (.rs b 0 n)=some (LI xs,[b]):=by
 rw[bD,h];simp only[zi,yO,yu,yw,qW];rw[sZ (by omega),zo (by rw[qW];omega),bM (fun x=>by rw[bU,bC,bP];rfl)];show some (V.ts _ n,[b])=_;rw[<- hn]
theorem ahx(a b i:Nat)(hb:b≠0):a / 1000000000^i%b=(a / 1000000000^(i+1)%b*1000000000+a / 1000000000^i%1000000000)%b/\a / b / 1000000000^i%1000000000=(a / 1000000000^(i+1)%b*1000000000+a / 1000000000^i%1000000000) / b:=by
 obtain⟨A,J⟩:∃A,A=a / 1000000000^(i+1):=⟨_,rfl⟩;obtain⟨D,G⟩:∃D,D=a / 1000000000^i%1000000000:=⟨_,rfl⟩;have h:=oU a i;rw[<- J,<- G]at h⊢;have Y:D<1000000000:=by rw[G];exact vk _ (by decide)
 have O:a / b / 1000000000^i=a / 1000000000^i / b:=by rw[xE,xE,wW]
 rw[O,<- h];have hA:A=b*(A / b)+A%b:=(Nat.div_add_mod A b).symm;obtain⟨q,eq⟩:∃q,q=A / b:=⟨_,rfl⟩;obtain⟨r,E⟩:∃r,r=A%b:=⟨_,rfl⟩;rw[<- eq,<- E]at hA;rw[<- E];have hr:r<b:=by rw[E];exact vk _ (by omega)
 have S:A*1000000000+D=r*1000000000+D+b*(q*1000000000):=by
  rw[hA,vT,vM];omega
 rw[S];constructor
 .rw[Nat.add_mul_mod_self_left]
 .rw[Nat.add_mul_div_left _ _ (by omega:0<b),Nat.add_mul_mod_self_right]
  refine wO ?_;rw[uV (by omega)];have:(r+1)*1000000000<=b*1000000000:=zK _ (by omega);omega
theorem Xg(a b:Nat)(h0:b≠0)(la:ln a<=1000)(lb:ln b<=1000):fn Ze conv ext 278 [LI (dg a),LI (dg b)]=some (.Au [LI (dg (a / b)),LI (dg (a%b))]):=by
 have hb:=ji h0
 by_cases b3:b<1000000000
 .have h1:=ajH a b (by show ln a<=_;omega) h0 b3
  have hr:a%b<b:=vk _ (by omega);have h2:=MR (a%b) (by omega);have z1:(0:Int)<1:=by decide
  have z3:(0:Int).toNat=0:=id rfl;have hd:dg b=[(b:Int)]:=by rw[oV h0,vK b3,oQ,wO b3]
  rw[hd];rw[mW,nK [.tmp 4,.tmp 5] [] func278];simp only[go_sem,z1,z3,h1,h2]
 have c4:2<=ln b:=by
  refine zf fun hn=>?_
  have:=(jr (n:=b) (k:=1)).mp (by omega);have e:bp 1=1000000000:=rfl;omega
 have c5:((dg b).length:Int)≠1:=by unfold ln at c4;omega
 have c0:(((dg b).length:Int)==1)=false:=by simpa using c5
 obtain⟨N,eN⟩:∃N,N=ln a:=⟨_,rfl⟩;have hN:(dg a).length=N:=by rw[eN];rfl
 have e1:=jL N;have e2:8*(N:Int)<=281474976710656:=by omega
 have e3:(N:Int)<=9223372036854775807:=by omega
 have w1:=Zl (n:=(N:Int) - 1);have rz:=axZ N;rw[<- ahw (a / b) N]at rz;rw[mW,nK [.tmp 4,.tmp 5] [] func278];simp only[go_sem,c0,hN,e1,e2,e3,w1,rz,xW];generalize hL:gI _ _=y;obtain⟨x,rfl,T,σ,nx,rfl,t8,t9,hs⟩:=je hL (fun i st=>i<=N/\st.T 0=LI (dg a)/\st.T 1=LI (dg b)/\st.T 8= .rs 0 0 N/\st.T 10=I ((i:Int) - 1)/\0<st.nx/\(st.T 9=LI (dg (a / 1000000000^i%b))\/(st.T 9= .nil/\a / 1000000000^i%b=0))/\st.σ 0=some ⟨(DW (a / b) N i).flatMap cI,1,true⟩)
  (fun x=>∃T σ nx,x=(.exit 0,⟨T,σ,nx⟩)/\T 8= .rs 0 0 N/\(T 9=LI (dg (a%b))\/(T 9= .nil/\a%b=0))/\σ 0=some ⟨(DW (a / b) N 0).flatMap cI,1,true⟩) (by
   clear hL;rintro i ⟨T,σ,nx⟩ ⟨hi,t0,t1,t8,t10,c6,t9,hs⟩;simp only at t0 t1 t8 t10 c6 t9 hs;cases i with
   |zero=>
    have g1:¬(0:Int)<=((0:Nat):Int) - 1:=by omega
    refine .inr ⟨_,by simp only[go_sem,t10,g1];rfl,by simp,_,_,_,rfl,by simp only[go_sem,t8],?_,hs⟩;have e:a / 1000000000^0%b=a%b:=by rw[Nat.pow_zero,xC]
    rw[e]at t9
    simpa only[go_sem]using t9
   |succ i=>
    have e4:((i+1:Nat):Int) - 1=(i:Int):=by omega
    rw[e4]at t10;have g1:=jL i;have g2:(i:Int)<(N:Int):=by omega
    have g3:i<N:=by omega
    have b8:i<(dg a).length:=by omega
    have g4:((dg a).flatMap cI)[i]?=some (I ((a / 1000000000^i%1000000000:Nat):Int)):=by
     rw[idx (xs:=dg a) (k:=i) b8,oh b8]
    have g5:(dg a).flatMap cI≠[]:=fun e=>by have h:=qW (dg a);rw[e]at h;have h:0=(dg a).length:=h;omega
    have g6:=Zl (n:=(i:Int) - 1);obtain⟨G,J⟩:=ahx a b i h0;obtain⟨r,er⟩:∃r,r=a / 1000000000^(i+1)%b:=⟨_,rfl⟩;obtain⟨D,eD⟩:∃D,D=a / 1000000000^i%1000000000:=⟨_,rfl⟩;rw[<- er,<- eD]at G J;rw[<- er]at t9;rw[<- eD]at g4;have hD:D<1000000000:=by rw[eD];exact vk _ (by decide)
    have e0:r<b:=by rw[er];exact vk _ (by omega)
    obtain⟨R,eR⟩:∃R,R=r*1000000000+D:=⟨_,rfl⟩;rw[<- eR]at G J;have b4:ln r<=1000:=zL (jq (by omega)) lb;have e5:ln R<=1001:=by
     rw[jr];have h1:=(jr (n:=r) (k:=1000)).mp b4;have h2:bp 1001=1000000000*bp 1000:=ql 1000;omega
    have hR:R<b*1000000000:=by
     have:(r+1)*1000000000<=b*1000000000:=zK _ (by omega);omega
    have k3:=VQ R b (by show ln R<=_;omega) (by show ln b<=_;omega);have O:=ak_ R b;have tr:AZ ((D:Int) :: dg r)=dg R:=Cj (Dg.app (xs:=[(D:Int)]) (fun x hx=>by rw[wF]at hx;omega) (oz r)) (by
     show(D:Int)+1000000000*vl (dg r)=(R:Int);rw[Zx];omega)
    have sh:Short ((D:Int) :: dg r):=by unfold Short;rw[zB];unfold ln at b4;omega
    have k2:=cO ((D:Int) :: dg r) sh;rw[tr]at k2;have sg:b<=R->fn Ze conv ext 293 [LI (dg R),LI (dg b)]=some (I ((R / b:Nat):Int))/\fn Ze conv ext 250 [I ((R / b:Nat):Int)]=some (LI (dg (R / b)))/\fn Ze conv ext 197 [LI (dg b),LI (dg (R / b))]=some (LI (dg (b*(R / b))))/\fn Ze conv ext 291 [LI (dg R),LI (dg (b*(R / b)))]=some (LI (dg (R-b*(R / b)))):=fun hle=>by
     have hq:R / b<1000000000:=by rw[uV (by omega),wW];exact hR
     have lq:=jh hq;exact⟨ak' R b (by omega) hle hR (by omega),MR _ (by omega),fC b _ (by omega) (by omega),VT R _ (by omega) (by rw[wW];exact u_ _ _)⟩
    have a8:R-b*(R / b)=R%b:=by have:=Nat.div_add_mod R b;omega
    have nz:¬0=nx:=by omega
    have b9:¬0=nx+1:=by omega
    by_cases Y:T 9= .nil\/r=0
    ·-- nothing stands behind the limb
     have b5:r=0:=by
      rcases Y with h|h
      .rcases t9 with h'|⟨_,h'⟩
       .rw[h]at h';cases h'
       .exact h'
      .exact h
     have d0:dg r=[]:=by rw[b5,oQ]
     rw[d0]at k2;have c2:fn Ze conv ext 249 [.ts [I (D:Int)] 1]=some (LI (dg R)):=k2
     have S:T 9= .nil\/T 9= .ts [] 0:=by
      rcases t9 with h|h
      .right;rw[h,d0];rfl
      .exact .inl h.1
     have ha:Ae (upd σ nx (some ⟨[I (D:Int)],1,true⟩)) (nx+1) 1 8 (.rs nx 0 1) [] 0=some (.rs nx 0 1,upd σ nx (some ⟨[I (D:Int)],1,true⟩),nx+1):=by
      have e:(upd σ nx (some ⟨[I (D:Int)],1,true⟩)) nx=some ⟨[I (D:Int)],1,true⟩:=aF _ _ _;unfold Ae;simp only[e,if_true]
     have bh:behind (upd σ nx (some ⟨[I (D:Int)],1,true⟩)) [nx] (LI (dg R)) 0=some ⟨(DW (a / b) N (i+1)).flatMap cI,1,true⟩:=by
      rw[qy (by simp;omega),aG _ _ nz];exact hs
     obtain⟨c3,e3⟩:∃c3,c3=behind (upd σ nx (some ⟨[I (D:Int)],1,true⟩)) [nx] (LI (dg R)):=⟨_,rfl⟩;rw[<- e3]at bh
     by_cases E:R<b
     .have c1:AU R b<0:=O.mpr E
      have b6:R%b=R:=wO E;have b7:R / b=0:=vK E;rw[b6]at G;rw[b7]at J;rcases S with S|S
      all_goals
       refine .inl ⟨_,by simp only[go_sem,t0,t1,t8,t10,S,g1,g2,g3,g4,g5,g6,hN,ha,c2,<- e3,k3,c1,nz,b9,jE];rfl,i,by omega,?_⟩;simp only[go_sem,t0,t1,t8];refine⟨by omega,by omega,.inl (by rw[G]),?_⟩;rw[<- Qi (by omega) J];exact bh
     .have c1:¬AU R b<0:=fun h=>E (O.mp h)
      obtain⟨k4,k5,k6,k7⟩:=sg (by omega);rw[a8,<- G]at k7;have w8:((DW (a / b) N (i+1)).flatMap cI).length=N:=by rw[qW,N9]
      have a1:((DW (a / b) N (i+1)).flatMap cI).set i (I ((R / b:Nat):Int))=(DW (a / b) N i).flatMap cI:=by
       rw[asH,<- J,N_ (by omega)]
      rcases S with S|S
      all_goals
       refine .inl ⟨_,by simp only[go_sem,t0,t1,t8,t10,S,g1,g2,g3,g4,g5,g6,hN,ha,c2,<- e3,k3,c1,k4,k5,k6,k7,bh,w8,a1,nz,b9,jE];rfl,i,by omega,?_⟩;simp only[go_sem,t0,t1,t8];exact⟨by omega,by omega,.inl trivial⟩
    .have S:T 9=LI (dg r):=by
      rcases t9 with h|⟨h,_⟩
      .exact h
      .exact absurd (.inl h) Y
     have b5:¬r=0:=fun h=>Y (.inr h)
     have c7:¬(dg r).length=0:=fun h=>by
      have:=ji b5;unfold ln at this;omega
     have c9:(dg r).length<=1000:=b4;have ha:=rP (σ:=upd σ nx (some ⟨[I (D:Int)],1,true⟩)) (nx:=nx+1) (bytes:=8) (b:=nx) (len:=1) (m:=(dg r).length) (B:=⟨[I (D:Int)],1,true⟩) (row:=(dg r).flatMap cI) (aF _ _ _) rfl rfl c7 (by unfold maxLen;omega) (by omega) (qX _);obtain⟨a6,e1⟩:∃a6,a6=upd (upd (upd σ nx (some ⟨[I (D:Int)],1,true⟩)) nx none) (nx+1) (some ⟨[I (D:Int)]++(dg r).flatMap cI,1,true⟩):=⟨_,rfl⟩;rw[<- e1]at ha;have b1:a6 (nx+1)=some ⟨((D:Int) :: dg r).flatMap cI,1,true⟩:=by rw[e1,aF];rfl
     have b0:a6 0=some ⟨(DW (a / b) N (i+1)).flatMap cI,1,true⟩:=by rw[e1,aH,aH,aH];exact hs
     have s1:=fun d=>aaG b1 (n:=1+(dg r).length) (by rw[zB];omega) d
     have tk:((dg r).flatMap cI).take (dg r).length=(dg r).flatMap cI:=zo (by rw[qW];omega);have a7:(dg r).length<=((dg r).flatMap cI).length:=by rw[qW];omega
     obtain⟨σ2,e2⟩:∃σ2,σ2=behind a6 [nx+1] (LI (dg R)):=⟨_,rfl⟩;have b2:σ2 0=some ⟨(DW (a / b) N (i+1)).flatMap cI,1,true⟩:=by
      rw[e2,qy (by simp)];exact b0
     by_cases E:R<b
     .have c1:AU R b<0:=O.mpr E
      have b6:R%b=R:=wO E;have b7:R / b=0:=vK E;rw[b6]at G;rw[b7]at J;refine .inl ⟨_,by simp only[go_sem,t0,t1,t8,t10,S,g1,g2,g3,g4,g5,g6,hN,tk,a7,ha,s1,k2,<- e2,k3,c1];rfl,i,by omega,?_⟩;simp only[go_sem,t0,t1,t8];refine⟨by omega,by omega,.inl (by rw[G]),?_⟩;rw[<- Qi (by omega) J];exact b2
     .have c1:¬AU R b<0:=fun h=>E (O.mp h)
      obtain⟨k4,k5,k6,k7⟩:=sg (by omega);rw[a8,<- G]at k7;have w8:((DW (a / b) N (i+1)).flatMap cI).length=N:=by rw[qW,N9]
      have a1:((DW (a / b) N (i+1)).flatMap cI).set i (I ((R / b:Nat):Int))=(DW (a / b) N i).flatMap cI:=by
       rw[asH,<- J,N_ (by omega)]
      refine .inl ⟨_,by simp only[go_sem,t0,t1,t8,t10,S,g1,g2,g3,g4,g5,g6,hN,tk,a7,ha,s1,k2,<- e2,k3,c1,k4,k5,k6,k7,b2,w8,a1];rfl,i,by omega,?_⟩;simp only[go_sem,t0,t1,t8];exact⟨by omega,by omega,.inl trivial⟩) N (by
   simp only[go_sem];refine .inr ?_;have:a<1000000000^N:=by
    have:=(jr (n:=a) (k:=N)).mp (by omega);rw[qp]at this;omega
   rw[vK this,Nat.zero_mod])
 have s8:=fun d=>aaG hs (n:=N) (N9 _ _ _) d
 rw[aeg]at s8;have k9:=cO (pad (a / b) N) (by unfold Short;rw[iV];omega);have c8:a / b<1000000000^N:=by
  have:=(jr (n:=a) (k:=N)).mp (by omega);rw[qp]at this;have:=xP a b;omega
 rw[H_ N (a / b) c8]at k9;rcases t9 with t9|⟨t9,S⟩
 .simp only[go_sem,t8,t9,s8,k9]
 .rw[S,oQ]
  simp only[go_sem,t8,t9,s8,k9];rfl
theorem abP{σ:Store}{ids:List Nat}{t:V}{b:Nat}{c:List V}{st:Nat}{wr:Bool}(h:σ b=some ⟨c,st,wr⟩):∃E,behind σ ids t b=some ⟨c,st,E⟩:=by
 have J:∀(ids:List Nat) {σ:Store} {wr:Bool},σ b=some ⟨c,st,wr⟩->∃E,DF σ ids b=some ⟨c,st,E⟩:=by
  intro ids
  induction ids with
  |nil=>intro σ wr h;exact⟨wr,h⟩
  |cons i ids G=>
   intro σ wr h;unfold DF
   by_cases e:b=i
   .subst e
    exact G (σ:=upd σ b ((σ b).map fun B=>{ B with wr:=false })) (wr:=false) (by rw[aF,h];rfl)
   .exact G (wr:=wr) (by rw[aG _ _ e];exact h)
 unfold behind
 split
 .exact⟨wr,h⟩
 .exact J ids h
def Rd(σ:Store)(v:V)(xs:List Int):Prop:=v=LI xs\/(v= .nil/\xs=[])\/∃b w,v= .rs b 0 xs.length/\σ b=some ⟨xs.flatMap cI,1,w⟩
theorem Rd.strip{σ:Store}{v:V}{xs:List Int}(h:Rd σ v xs):∃ids,∀d,TV.strip σ (d+1) v=some (LI xs,ids):=by
 rcases h with rfl|⟨rfl,rfl⟩|⟨b,w,rfl,h⟩
 .exact⟨[],fun d=>au _ _ _ _⟩
 .exact⟨[],fun d=>bF _ _⟩
 .exact⟨[b],fun d=>aaG h rfl d⟩
theorem Rd.len{P:Program}{σ:Store}{v:V}{xs:List Int}(h:Rd σ v xs){t:TypeId}(E:(vI P t).slice=true):Dw P t v=some (I xs.length):=by
 rcases h with rfl|⟨rfl,rfl⟩|⟨b,w,rfl,h⟩
 .exact UK E
 .exact o_ E
 .exact ny E
theorem Rd.behind{σ:Store}{v:V}{xs:List Int}(h:Rd σ v xs)(ids:List Nat)(t:V):Rd (TV.behind σ ids t) v xs:=by
 rcases h with h|h|⟨b,w,E,G⟩
 .exact .inl h
 .exact .inr (.inl h)
 .obtain⟨w',J⟩:=abP (ids:=ids) (t:=t) G
  exact .inr (.inr ⟨b,w',E,J⟩)
theorem ahy(m n:Nat)(lm:ln m<=1000)(l2:ln n<=1000):fn Ze conv ext 235 [LI (dg m),LI (dg n)]=some (LI (dg (Nat.gcd m n))):=by
 obtain⟨G,eG⟩:∃G,G=Nat.gcd m n:=⟨_,rfl⟩;rw[<- eG];have hm:(dg m).length<=maxLen/\(dg m).length*8<=140737488355328:=by unfold ln at lm;unfold maxLen;omega
 have hn:(dg n).length<=maxLen/\(dg n).length*8<=140737488355328:=by unfold ln at l2;unfold maxLen;omega
 have z:∀k:Nat,(dg k).length=0↔k=0:=fun k=>by
  constructor
  .intro h
   refine zf fun h0=>?_
   have:=ji h0;unfold ln at this;omega
  .rintro rfl;rw[oQ];rfl
 rw[mW,nK [.tmp 4] [] func235];rcases (show(m=0/\n=0)\/(m=0/\¬n=0)\/(¬m=0/\n=0)\/(¬m=0/\¬n=0) by omega)with ⟨E,J⟩|⟨E,J⟩|⟨E,J⟩|⟨E,J⟩
 case' inl=>
  have dm:dg m=[]:=by rw[E,oQ]
  have dn:dg n=[]:=by rw[J,oQ]
  rw[dm,dn];simp only[go_sem]
 case' inr.inl=>
  have dm:dg m=[]:=by rw[E,oQ]
  have nn:¬(dg n).length=0:=fun h=>J ((z n).mp h)
  rw[dm];simp only[go_sem,nn,hn]
 case' inr.inr.inl=>
  have nm:¬(dg m).length=0:=fun h=>E ((z m).mp h)
  have dn:dg n=[]:=by rw[J,oQ]
  rw[dn];simp only[go_sem,nm,hm]
 case' inr.inr.inr=>
  have nm:¬(dg m).length=0:=fun h=>E ((z m).mp h)
  have nn:¬(dg n).length=0:=fun h=>J ((z n).mp h)
  simp only[go_sem,nm,hm,nn,hn]
 all_goals
  generalize hL:gI _ _=y;obtain⟨r,rfl,hr⟩:=je hL (fun k st=>∃x:Nat,Rd st.σ (st.T 5) (dg x)/\Rd st.σ (st.T 6) (dg k)/\Nat.gcd x k=G/\ln x<=1000/\ln k<=1000)
   (fun r=>∃T σ nx,(r=(.exit 0,⟨T,σ,nx⟩)/\Rd σ (T 5) (dg G))\/(r=(.ret,⟨T,σ,nx⟩)/\T 4=LI (dg G))) (by
    clear hL;rintro k ⟨T,σ,nx⟩ ⟨x,S,h6,hg,lx,lk⟩;simp only at S h6;have Y:=h6.len (P:=Ze) (t:=27) (by kernel_rfl);have l5:=S.len (P:=Ze) (t:=27) (by kernel_rfl)
    by_cases hk:k=0
    .subst hk
     rw[oQ]at Y;have c1:¬(0:Int)<(([]:List Int).length:Int):=by simp
     refine .inr ⟨_,by simp only[go_sem,Y,c1];rfl,by simp,_,_,_,.inl ⟨rfl,?_⟩⟩;rw[Nat.gcd_zero_right]at hg;rw[<- hg]
     simpa only[go_sem]using S
    .have c1:(0:Int)<((dg k).length:Int):=by have:=ji hk;unfold ln at this;omega
     obtain⟨i5,s5⟩:=S.strip;obtain⟨i6,s6⟩:=h6.strip
     by_cases O:ln x<3/\ln k<3
     .have c2:((dg x).length:Int)<3:=by have:=O.1;unfold ln at this;omega
      have c3:((dg k).length:Int)<3:=by have:=O.2;unfold ln at this;omega
      have b1:x<1000000000000000000:=by
       have:=(jr (n:=x) (k:=2)).mp (by omega);have e:bp 2=1000000000000000000:=rfl;omega
      have b2:k<1000000000000000000:=by
       have:=(jr (n:=k) (k:=2)).mp (by omega);have e:bp 2=1000000000000000000:=rfl;omega
      have t1:=Py x b1;have t2:=Py k b2;have t3:=am7 x k (by omega) (by omega);rw[hg]at t3;refine .inr ⟨_,by simp only[go_sem,l5,Y,c1,c2,c3,s5,s6,t1,t2,t3];rfl,by simp,_,_,_,.inr ⟨rfl,by simp only[go_sem]⟩⟩
     .have t4:=Xg x k hk lx lk
      have a1:x%k<k:=vk _ (by omega)
      have fin:∀T' σ' nx',T' 5=T 6->T' 6=LI (dg (x%k))->σ'=behind σ (i5++i6) (.Au [LI (dg (x / k)),LI (dg (x%k))]) ->
        ∃k',k'<k/\∃x':Nat,Rd (⟨T',σ',nx'⟩:St).σ ((⟨T',σ',nx'⟩:St).T 5) (dg x')/\Rd (⟨T',σ',nx'⟩:St).σ ((⟨T',σ',nx'⟩:St).T 6) (dg k')/\Nat.gcd x' k'=G/\ln x'<=1000/\ln k'<=1000:=fun T' σ' nx' e5 e6 a6=>by
       refine⟨x%k,a1,k,?_,.inl e6,?_,lk,zL (jq (by omega)) lk⟩
       .show Rd σ' (T' 5) (dg k)
        rw[e5,a6];exact h6.behind _ _
       .rw[<- hg,Nat.gcd_comm x k,Nat.gcd_rec k x,Nat.gcd_comm]
      by_cases c2:((dg x).length:Int)<3
      .have c3:¬((dg k).length:Int)<3:=fun h=>O ⟨by unfold ln;omega,by unfold ln;omega⟩
       refine .inl ⟨_,by simp only[go_sem,l5,Y,c1,c2,c3,s5,s6,t4];rfl,fin _ _ _ (by simp only[go_sem]) (by simp only[go_sem]) (by simp only[go_sem])⟩
      .refine .inl ⟨_,by simp only[go_sem,l5,Y,c1,c2,s5,s6,t4];rfl,fin _ _ _ (by simp only[go_sem]) (by simp only[go_sem]) (by simp only[go_sem])⟩) n (by
    refine⟨m,?_,?_,eG.symm,lm,l2⟩
    all_goals simp only[go_sem]
    all_goals first
     |exact .inr (.inl ⟨rfl,by assumption⟩)
     |exact .inr (.inr ⟨_,true,rfl,rfl⟩)
     |(refine .inr (.inr ⟨_,true,rfl,?_⟩);rw[aH,aF])
     |exact .inr (.inl ⟨rfl,by rw[E,oQ]⟩)
     |exact .inr (.inl ⟨rfl,by rw[J,oQ]⟩))
  rcases hr with ⟨T,σ,nx,⟨rfl,S⟩|⟨rfl,t4⟩⟩
  .obtain⟨ids,s5⟩:=S.strip
   simp only[go_sem,s5]
  .simp only[go_sem,t4]
open Go.Lp
theorem aaH(σ:Store)(b:Nat)(cells:List V)(st:Nat)(wr:Bool)(t:V):behind (upd σ b (some ⟨cells,st,wr⟩)) [b] t=upd σ b (some ⟨cells,st,wr && flat depth t⟩):=by
 unfold behind;cases E:flat depth t with
 |true=>simp
 |false=>
  simp only[List.isEmpty_cons,Bool.or_self,yD,if_false,wJ];unfold DF DF;rw[aF,aC];rfl
attribute [go_sem] aaH
def Qj:V:=.Au [.ts [] 0,Bo false]
def Xh(s:Structure)(l:List Int)(r:V):Prop:=(¬(Ag s/\Ai s.joints.length l)/\r=Qj)\/(Ag s/\Ai s.joints.length l/\((r=Qj/\((IX s l).None\/(IX s l).Open)) \/
 ∃x:Nat->Rat,(IX s l).Best x/\(∀j,j<Du s->Ln 24 (x j))/\r=Cc (FW (cols s s.members.length) ((List.range (Du s)).map x) s.members.length (Du s))))
theorem IB{s:Structure}(h:okStructure s){l:List Int}(hl:l.length<=maxLen):∃r,fn Ze pI Ad 58 [.agg (cStructure s),LI l]=some r/\Xh s l r:=by
 have G:=aa_ s l h hl
 by_cases E:Ag s/\Ai s.joints.length l
 .obtain⟨J,S⟩:=E
  rw[iL J,iL S]at G;have hb:∀x∈l,-100<=x/\x<=100:=fun x hx=>kS (S.2 x hx)
  have k2:=O1 J.sg S.1 hb;obtain⟨r0,Y,hr⟩:=ak5 J hb;unfold CG at k2 Y;rw[mW,nK [.tmp 4,.tmp 5] [] func58];rcases hr with ⟨rfl,h3⟩|⟨x,h3,h4,rfl⟩
  .refine⟨_,by simp only[go_sem,G,k2,Y];rfl,.inr ⟨J,S,.inl ⟨rfl,h3⟩⟩⟩
  .obtain⟨O,eO⟩:∃O,O=FW (cols s s.members.length) ((List.range (Du s)).map x) s.members.length (Du s):=⟨_,rfl⟩
   have a1:∀o∈O,LnO 24 o:=by
    rw[eO];exact Tz (fun y hy=>by
     obtain⟨j,hj,rfl⟩:=List.mem_map.mp hy;exact h4 j (List.mem_range.mp hj)) _
   have a6:O.length<=1000:=by rw[eO,mM];have:=J.2.1;omega
   have k4:=ak8 O a1 a6;rw[<- eO]at Y;refine⟨Cc O,?_,.inr ⟨J,S,.inr ⟨x,h3,h4,by rw[eO]⟩⟩⟩;unfold Cc at k4⊢;cases hq:Bf O with
   |none=>rw[hq]at k4;simp only[go_sem,G,k2,Y,k4]
   |some qs=>rw[hq]at k4;simp only[go_sem,G,k2,Y,k4]
 .have hf:(pb (Ag s) && pb (Ai s.joints.length l))=false:=by
   by_cases a:Ag s
   .have:¬Ai s.joints.length l:=fun b=>E ⟨a,b⟩
    rw[iM this,wJ]
   .rw[iM a,uj]
  rw[hf]at G;rw[mW,nK [.tmp 4,.tmp 5] [] func58];refine⟨_,by simp only[go_sem,G];rfl,.inl ⟨E,rfl⟩⟩
theorem jM{n:Nat}(h:ln n<=60):Cb (dg n) :=
 ⟨fun x E=>by have:=ZV n x E;unfold inB;rw[sS this.1,sS this.2];rfl,h,aP n⟩
theorem aos(q:Rat)(h:Ln 24 q):fn Ze pI Ad 269 [.agg (cQ q)]=some (Bo true):=by
 have Y:(dg q.num.natAbs).length<=24:=h.1;have a1:(dg q.den).length<=24:=h.2;have E:=adD (decide (q.num<0)) (dg q.num.natAbs) (by unfold Short;omega);have G:(decide (q.num<0) && decide (dg q.num.natAbs=[]))=false:=by
  by_cases hz:q.num<0
  .rw[sQ (oZ (n:=q.num.natAbs) (by omega)),wJ]
  .rw[sQ hz];rfl
 rw[iL (jM (by have:=h.1;omega)),G]at E;have O:=af7 (dg q.den) (by unfold Short;omega);rw[iL (jM (by have:=h.2;omega))]at O;have S:=WH q.num.natAbs q.den (by have:=h.1;omega) (by have:=h.2;omega);rw[show Nat.gcd q.num.natAbs q.den=1 from q.reduced,oW (d:=1) (by decide) (by decide)]at S;have k4:fn Ze conv ext 236 [.ts [I 1] 1,.ts [I 1] 1]=some (I 0):=by
  have:=arl 1 (by decide);rw[oW (d:=1) (by decide) (by decide)]at this;exact this
 have J:fn Ze pI Ad 265 [LI (dg q.num.natAbs),LI (dg q.den)]=some (.ts [I 1] 1):=S;have c0:(((dg q.den).length:Int)==0)=false:=by rw[sW];have:=rM (oZ q.den_nz);omega
 have c1:¬(24:Int)<((dg q.num.natAbs).length:Int):=by omega
 have c2:¬(24:Int)<((dg q.den).length:Int):=by omega
 unfold cQ;rw[mW,nK [.tmp 2] [] func269];simp only[go_sem]at E;simp only[go_sem,E,O,J,k4,c0,c1,c2]
theorem asI(q:Rat)(h:Ln 24 q):fn Ze pI Ad 224 [.agg (cQ q)]=some (.tp (cQ q) 0):=by
 have E:=aos q h;unfold cQ at E⊢;rw[mW,nK [.tmp 2] [] func224];simp only[go_sem,E]
theorem ahz(qs:List Rat){k:Nat}(h:k<qs.length):((qs.take k).flatMap cF++rep (qs.length-k) [V.sc (.pointer none)]).set k (.tp (cQ qs[k]) 0)=(qs.take (k+1)).flatMap cF++rep (qs.length - (k+1)) [V.sc (.pointer none)]:=by
 have E:((qs.take k).flatMap cF).length=k:=by rw[qY,zh];omega
 rw[yF _ _ (by omega),E,yP,show qs.length-k=qs.length - (k+1)+1 by omega,gV,ah h,zT,zF];rfl
theorem ahA(qs:List Rat){k:Nat}(h:k<qs.length):((qs.take (k+1)).flatMap cF++rep (qs.length - (k+1)) [V.sc (.pointer none)])[k]?=some (.tp (cQ qs[k]) 0):=by
 have E:k<(qs.take (k+1)).length:=by rw[zh];omega
 rw[zW (by rw[qY];exact E),qZ _ E,uw]
theorem Xi(qs:List Rat){k:Nat}(h:k<=qs.length):((qs.take k).flatMap cF++rep (qs.length-k) [V.sc (.pointer none)]).length=qs.length:=by
 rw[zl,qY,gW,zh];simp;omega
theorem aeh(a b c:V)(q:Rat):patch [a,b,c] 0 (cQ q)=cQ q:=rfl
attribute [go_sem] aeh
theorem aot(qs:List Rat)(hL:∀q∈qs,Ln 24 q)(hn:qs.length<=1000):fn Ze pI Ad 165 [LL cQ qs]=some (.Au [LL cF qs,Bo true]):=by
 have m1:(0:Int)<=(qs.length:Int):=by omega
 have m2:8*(qs.length:Int)<=281474976710656:=by omega
 have m3:(qs.length:Int)<=9223372036854775807:=by omega
 rw[mW,nK [.tmp 2,.tmp 3] [] func165];simp only[go_sem,m1,m2,m3];generalize J:gI _ _=y;obtain⟨x,rfl,T,σ,nx,rfl,t4,s0⟩:=pJ J qs.length (fun k st=>st.T 4= .rs 0 0 qs.length/\st.T 10=LL cQ qs/\st.T 11=I qs.length/\st.T 12=I k/\0<st.nx/\st.σ 0=some ⟨(qs.take k).flatMap cF++rep (qs.length-k) [V.sc (.pointer none)],1,true⟩)
  (fun x=>∃T σ nx,x=(.exit 0,⟨T,σ,nx⟩)/\T 4= .rs 0 0 qs.length/\σ 0=some ⟨qs.flatMap cF,1,true⟩) (by
   clear J;rintro k ⟨T,σ,nx⟩ E ⟨t4,t10,t11,t12,G,s0⟩;simp only at t4 t10 t11 t12 G s0;have g1:(k:Int)<(qs.length:Int):=by omega
   have g2:=jL k;have g3:=Zl (n:=(k:Int)+1);have g4:=dS (c:=cQ) (s:=3) (fun _=>rfl) qs k E;have g5:=dO (c:=cQ) (s:=3) (fun _=>rfl) (by omega) qs k E;have g6:=abO qs;have g7:k*3+3<=qs.length*3:=by omega
   have O:=asI qs[k] (hL _ (zu E));have S:=ahz qs E;have Y:=ahA qs E;have p3:=Xi qs (k:=k) (by omega);have p4:=Xi qs (k:=k+1) (by omega);have d1:¬0=nx:=by omega
   have d2:¬nx=0:=by omega
   have d3:k+1<=qs.length:=E;obtain⟨q,eq⟩:∃q,q=qs[k]:=⟨_,rfl⟩;rw[<- eq]at g4 O S Y;have st1:∀σ d,stripL (strip σ d) (cQ q)=some (cQ q,[]):=fun σ d=>qP σ d q
   refine .inl ⟨_,by simp only[go_sem,t4,t10,t11,t12,s0,g1,g2,g3,g4,g5,g6,g7,E,O,S,Y,p3,p4,d1,d2,d3,st1];rfl,?_⟩;simp only[go_sem,t4,t10,t11,d1,d2];exact⟨rfl,by omega⟩) (by
   rintro ⟨T,σ,nx⟩ ⟨t4,t10,t11,t12,G,s0⟩;simp only at t4 t10 t11 t12 G s0;have g1:¬(qs.length:Int)<(qs.length:Int):=by omega
   refine⟨_,by simp only[go_sem,t11,t12,g1];rfl,by simp,_,_,_,rfl,?_⟩;simp only[go_sem,t4];have e:rep 0 [V.sc (.pointer none)]=[]:=rfl;rw[yZ,yP,e,zM]at s0;exact s0) (by
   simp only[go_sem])
 have u1:qs.length<=(qs.flatMap cF).length:=by rw[qY];exact zq _
 have u2:(qs.flatMap cF).take qs.length=qs.flatMap cF:=zo (by rw[qY];exact zq _);have u3:=Iz σ 4 qs;simp only[go_sem,t4,s0,u1,u2,u3]
theorem aaI{s:Structure}(h:Ag s)(G:okStructure s){qs:List Rat}(J:qs.length=s.members.length)(O:∀q∈qs,Ln 24 q):fn Ze pI Ad 106 [.tp (cStructure s) 0,LL cQ qs]=some (.Au [LL cF qs,Bo true]):=by
 have S:=h.2.1;have E:=H9 s G;rw[iL h]at E;have Y:=aot qs O (by omega);have c0:((qs.length:Int) !=(s.members.length:Int))=false:=by rw[J];simp
 rw[mW,nK [.tmp 4,.tmp 5] [] func106];simp only[go_sem,E,Y,c0]
def sqQ(s:Structure)(q:Rat)(k:Nat):Option Rat:=G7 (G7 (some q) (some q)) (some ((vx s k*vx s k+vy s k*vy s k:Int):Rat))
theorem Lu{a b:Option Rat}:LnO 24 (G7 a b):=fun y h=>by
 cases a with
 |none=>cases h
 |some x=>cases b with
  |none=>cases h
  |some z=>exact abM h
theorem TA{s:Structure}(h:SG s){qs:List Rat}(hl:qs.length=s.members.length)(hL:∀q∈qs,Ln 24 q){k:Nat}(G:k<qs.length) :
  fn Ze pI Ad 178 [.tp (cStructure s) 0,LL cF qs,I k]=some (pQ (sqQ s qs[k] k)):=by
 have k1:=abK h (k:=k) (by omega);have hb:=Zy h k;have a6:=h.nm;have g1:(k:Int)<(qs.length:Int):=by omega
 have g2:=jL k;have g4:=qZ qs G;have g9:(qs.flatMap cF).length=qs.length:=qY qs;have J:qs.flatMap cF≠[]:=fun e=>by rw[e]at g9;have:qs.length=0:=g9.symm;omega
 have O:=hL _ (zu G);obtain⟨q,eq⟩:∃q,q=qs[k]:=⟨_,rfl⟩;rw[<- eq]at g4 O⊢;have x2:0<=vx s k*vx s k/\vx s k*vx s k<=10000:=by
  have h1:vx s k*vx s k=((vx s k).natAbs*(vx s k).natAbs:Nat):=by rw[wG]
  have h2:(vx s k).natAbs*(vx s k).natAbs<=100*100:=yM (by omega) (by omega);omega
 have y2:0<=vy s k*vy s k/\vy s k*vy s k<=10000:=by
  have h1:vy s k*vy s k=((vy s k).natAbs*(vy s k).natAbs:Nat):=by rw[wG]
  have h2:(vy s k).natAbs*(vy s k).natAbs<=100*100:=yM (by omega) (by omega);omega
 have w1:=Zl (n:=vx s k*vx s k);have w2:=Zl (n:=vy s k*vy s k);have w3:=Zl (n:=vx s k*vx s k+vy s k*vy s k);have k2:=kM (vx s k*vx s k+vy s k*vy s k) (by omega) (by omega);have k3:fn Ze pI Ad 169 [.tp (cQ q) 0,.tp (cQ q) 0]=some (pQ (G7 (some q) (some q))):=asA (a:=some q) (b:=some q) (fun z E=>by cases E;exact O.mono (by decide)) (fun z E=>by cases E;exact O.mono (by decide));have S:fn Ze pI Ad 169 [pQ (G7 (some q) (some q)),.tp (cQ ((vx s k*vx s k+vy s k*vy s k:Int):Rat)) 0]=some (pQ (sqQ s q k)) :=
  asA (b:=some ((vx s k*vx s k+vy s k*vy s k:Int):Rat)) (fun z E=>(Lu z E).mono (by decide)) (fun z E=>by cases E;exact(sO (by omega)).mono (by decide))
 have st1:∀σ d,strip σ d (pQ (G7 (some q) (some q)))=some (pQ (G7 (some q) (some q)),[]):=fun σ d=>by
  cases G7 (some q) (some q)with
  |none=>unfold pQ;rw[bC]
  |some z=>unfold pQ;rw[ay]
 have e1:(((vx s k*vx s k+vy s k*vy s k:Int):Rat))=((vx s k*vx s k+vy s k*vy s k:Int):Rat):=rfl;obtain⟨m1,Y⟩:∃m1,m1=pQ (G7 (some q) (some q)):=⟨_,rfl⟩;rw[<- Y]at k3 S st1;obtain⟨m2,a1⟩:∃m2,m2=cQ ((vx s k*vx s k+vy s k*vy s k:Int):Rat):=⟨_,rfl⟩;rw[<- a1]at k2 S;rw[mW,nK [.tmp 6] [] func178];simp only[go_sem,k1,g1,g2,g4,g9,J,G,w1,w2,w3,k2,k3,S,st1];exact N8 _ _
def FQ(s:Structure)(qs:List Rat):List (Option Rat):=(List.range qs.length).map fun k=>sqQ s (qs.getD k 0) k
theorem dD(s:Structure)(qs:List Rat):(FQ s qs).length=qs.length:=by simp[FQ]
theorem abR(s:Structure)(qs:List Rat){k:Nat}(h:k<qs.length):(FQ s qs)[k]'(by rw[dD];exact h)=sqQ s qs[k] k:=by
 simp[FQ,zx,zy h]
def Gp(O:List (Option Rat)):V:=match Bf O with
 |some xs=> .Au [LL cF xs,Bo true]
 |none=> .Au [.ts [] 0,Bo false]
def IC(xs:List Rat)(n:Nat):List V:=xs.flatMap cF++rep (n-xs.length) [V.sc (.pointer none)]
theorem Xj(xs:List Rat){n:Nat}(h:xs.length<=n):(IC xs n).length=n:=by
 unfold IC;rw[zl,qY,gW];simp;omega
theorem ahC(xs:List Rat){n:Nat}(h:xs.length<n)(q:Rat):(IC xs n).set xs.length (.tp (cQ q) 0)=IC (xs++[q]) n:=by
 unfold IC;rw[yF _ _ (by rw[qY];exact zq _),qY,yP,zl,yH,show n-xs.length=n - (xs.length+1)+1 by omega,gV,zT,zF];rfl
theorem ahD(xs:List Rat){n:Nat}(q:Rat):(IC (xs++[q]) n)[xs.length]?=some (.tp (cQ q) 0):=by
 unfold IC;rw[zW (by rw[qY];simp),qZ _ (by simp)];simp
theorem jv{s:Structure}(h:Ag s)(ho:okStructure s){qs:List Rat}(hl:qs.length=s.members.length)(hL:∀q∈qs,Ln 24 q) :
  fn Ze pI Ad 118 [.tp (cStructure s) 0,LL cQ qs]=some (Gp (FQ s qs)):=by
 have a7:=h.2.1;have k1:=aaI h ho hl hL;have m1:(0:Int)<=(qs.length:Int):=by omega
 have m2:8*(qs.length:Int)<=281474976710656:=by omega
 have m3:(qs.length:Int)<=9223372036854775807:=by omega
 rw[mW,nK [.tmp 4,.tmp 5] [] func118];simp only[go_sem,k1,m1,m2,m3];generalize a1:gI _ _=y;obtain⟨x,rfl,hx⟩:=pJ a1 qs.length (fun k st=>st.T 0= .tp (cStructure s) 0/\st.T 6=LL cF qs/\st.T 8= .rs 0 0 qs.length/\st.T 22=I qs.length/\st.T 23=I k/\0<st.nx/\∃xs,Bf ((FQ s qs).take k)=some xs/\st.σ 0=some ⟨IC xs qs.length,1,true⟩)
  (fun x=>∃T σ nx,(x=(.exit 0,⟨T,σ,nx⟩)/\T 8= .rs 0 0 qs.length/\∃xs,Bf (FQ s qs)=some xs/\σ 0=some ⟨IC xs qs.length,1,true⟩)\/(x=(.ret,⟨T,σ,nx⟩)/\T 4= .nil/\T 5=Bo false/\Bf (FQ s qs)=none)) (by
   clear a1;rintro k ⟨T,σ,nx⟩ Y ⟨t0,t6,t8,t22,t23,G,xs,E,s0⟩;simp only at t0 t6 t8 t22 t23 G s0;have g1:(k:Int)<(qs.length:Int):=by omega
   have g2:=jL k;have g3:=Zl (n:=(k:Int)+1);have a6:k<(FQ s qs).length:=by rw[dD];exact Y
   have J:xs.length=k:=by rw[eU E,zh];omega
   have O:(FQ s qs).take (k+1)=(FQ s qs).take k++[sqQ s qs[k] k]:=by rw[ah a6,abR s qs Y]
   have S:=TA h.sg hl hL Y;have p1:=Xj xs (n:=qs.length) (by omega);have g5:k+1<=qs.length:=Y;cases hv:sqQ s qs[k] k with
   |none=>
    rw[hv]at S O;have S:fn Ze pI Ad 178 [.tp (cStructure s) 0,LL cF qs,I k]=some (.sc (.pointer none)):=S;have p3:((IC xs qs.length).set k (V.sc (.pointer none)))[k]?=some (V.sc (.pointer none)):=by
     rw[tV (by omega)]
    have p4:((IC xs qs.length).set k (V.sc (.pointer none))).length=qs.length:=by rw[yK];exact p1
    refine .inr ⟨_,by simp only[go_sem,t0,t6,t8,t22,t23,s0,g1,g2,g5,Y,S,p1,p3,p4];rfl,by simp,_,_,_,.inr ⟨rfl,?_⟩⟩;simp only[go_sem];have:FQ s qs=(FQ s qs).take (k+1)++(FQ s qs).drop (k+1):=(wQ _ _).symm;rw[this,O];refine dw ?_;rw[dh,E];rfl
   |some z=>
    rw[hv]at S O;have S:fn Ze pI Ad 178 [.tp (cStructure s) 0,LL cF qs,I k]=some (.tp (cQ z) 0):=S;have p2:=ahC xs (n:=qs.length) (by omega) z;have p3:=ahD xs (n:=qs.length) z;have p4:=Xj (xs++[z]) (n:=qs.length) (by simp;omega);rw[J]at p2 p3;refine .inl ⟨_,by simp only[go_sem,t0,t6,t8,t22,t23,s0,g1,g2,g3,g5,Y,S,p1,p2,p3,p4];rfl,?_⟩;simp only[go_sem,t0,t6,t8,t22];refine⟨rfl,G,xs++[z],?_,rfl⟩;rw[O,dh,E];rfl) (by
   rintro ⟨T,σ,nx⟩ ⟨t0,t6,t8,t22,t23,G,xs,E,s0⟩;simp only at t0 t6 t8 t22 t23 G s0;have g1:¬(qs.length:Int)<(qs.length:Int):=by omega
   refine⟨_,by simp only[go_sem,t22,t23,g1];rfl,by simp,_,_,_,.inl ⟨rfl,?_⟩⟩;simp only[go_sem,t8];rw[<- dD s qs,yZ]at E;exact⟨xs,E,s0⟩) (by
   simp only[go_sem];refine⟨[],rfl,?_⟩;unfold IC;rfl)
 rcases hx with ⟨T,σ,nx,⟨rfl,t8,xs,E,s0⟩|⟨rfl,t4,t5,E⟩⟩
 .have J:xs.length=qs.length:=by rw[eU E,dD]
  have e1:IC xs qs.length=xs.flatMap cF:=by unfold IC;rw[J,yP];exact zM _
  rw[e1]at s0;have u1:qs.length<=(xs.flatMap cF).length:=by rw[qY];omega
  have u2:(xs.flatMap cF).take qs.length=xs.flatMap cF:=zo (by rw[qY];omega);have u3:=Iz σ 4 xs;unfold Gp;rw[E];simp only[go_sem,t8,s0,u1,u2,u3];show some (V.Au [V.ts _ qs.length,_])=some (V.Au [V.ts _ xs.length,_]);rw[J]
 .unfold Gp
  rw[E];simp only[go_sem,t4,t5]
theorem amc(x y:Rat)(E:Ln 100 x)(G:Ln 100 y):fn Ze conv ext 119 [.tp (cQ x) 0,.tp (cQ y) 0]=some (I (Ah (x.num*y.den) (y.num*x.den))):=by
 have Y:=jk E G;have n2:=jk G E;have J:=Ia x y.den (by have:=E.1;omega) (by have:=G.2;omega);have O:=Ia y x.den (by have:=G.1;omega) (by have:=E.2;omega);have S:=PE (x.num*y.den) (y.num*x.den) (by omega) (by omega);unfold cQ at *;unfold cZ at *;rw[mW,nK [.tmp 4] [] func119];simp only[go_sem,J,O,S]
def Xk(x:Rat)(w:Int):Bool:=decide (0<Ah (x.num*((w*w:Int):Rat).den) (((w*w:Int):Rat).num*x.den))
theorem Oa:∀ {l:List (Option Rat)} {xs:List Rat},Bf l=some xs->∀x∈xs,some x∈l
 |[],xs,h,x,E=>by cases h;cases E
 |none :: l,_,h,_,_=>by cases h
 |some q :: l,xs,h,x,E=>by
  cases e:Bf l with
  |none=>rw[show Bf (some q :: l)=(Bf l).map (q :: ·)from rfl,e]at h;cases h
  |some rs=>
   rw[show Bf (some q :: l)=(Bf l).map (q :: ·)from rfl,e]at h;cases h;rcases List.mem_cons.mp E with rfl|E
   .exact zQ
   .exact zY _ (Oa e x E)
theorem TB{s:Structure}{qs xs:List Rat}(h:Bf (FQ s qs)=some xs):∀x∈xs,Ln 24 x:=fun x E=>by
 have:=Oa h x E;unfold FQ at this;obtain⟨k,-,e⟩:=List.mem_map.mp this;exact Lu x e
def DT(xs:List Rat)(w:List Int)(k:Nat):Bool:=Xk (xs.getD k 0) (w.getD k 0)
def overR(O:List (Option Rat))(w:List Int):V:=match Bf O with
 |some xs=> .Au [LI (G9 (DT xs w) xs.length),Bo true]
 |none=> .Au [.ts [] 0,Bo false]
theorem Xl{s:Structure}(h:Ag s)(ho:okStructure s){qs:List Rat}(hl:qs.length=s.members.length)(hL:∀q∈qs,Ln 24 q){w:List Int}(hw:Bc s.members.length w) :
  fn Ze pI Ad 63 [.tp (cStructure s) 0,LL cQ qs,LI w]=some (overR (FQ s qs) w):=by
 have b2:=h.2.1;have O:=jv h ho hl hL;have k2:=JZ (cStructure s) 0 s.members w rfl (by rw[hw.1];unfold maxLen;omega);rw[iL hw]at k2;unfold Gp at O;unfold overR;rw[mW,nK [.tmp 6,.tmp 7] [] func63];cases hq:Bf (FQ s qs)with
 |none=>
  rw[hq]at O;simp only[go_sem,O]
 |some xs=>
  rw[hq]at O;simp only[go_sem,O,k2];have b3:xs.length=s.members.length:=by rw[eU hq,dD,hl]
  generalize S:gI _ _=y;obtain⟨x,rfl,T,σ,nx,rfl,J⟩:=pJ S xs.length (fun k st=>st.T 2=LI w/\st.T 27=LL cF xs/\st.T 28=I xs.length/\st.T 29=I k/\Grow st.T st.σ st.nx 10 (G9 (DT xs w) k))
   (fun x=>∃T σ nx,x=(.exit 0,⟨T,σ,nx⟩)/\Grow T σ nx 10 (G9 (DT xs w) xs.length)) (by
    clear S;rintro k ⟨T,σ,nx⟩ Y ⟨t2,t27,t28,t29,J⟩;simp only at t2 t27 t28 t29 J;have g1:(k:Int)<(xs.length:Int):=by omega
    have g2:=jL k;have g3:=Zl (n:=(k:Int)+1);have g4:=qZ xs Y;have g9:(xs.flatMap cF).length=xs.length:=qY xs;have a6:xs.flatMap cF≠[]:=fun e=>by rw[e]at g9;have:xs.length=0:=g9.symm;omega
    have G:k<w.length:=by rw[hw.1];omega
    have a7:=kS (hw.2 _ (zu G));have a1:=idx (xs:=w) (k:=k) G;have a2:=Aw w k G;have a3:(k:Int)<(w.length:Int):=by omega
    have hx:=TB hq _ (zu Y);have E:DT xs w k=Xk xs[k] w[k]:=by
     unfold DT;rw[zx,zy Y,zx,zy G];rfl
    obtain⟨x,ex⟩:∃x,x=xs[k]:=⟨_,rfl⟩;obtain⟨v,ev⟩:∃v,v=w[k]:=⟨_,rfl⟩;rw[<- ex,<- ev]at E;rw[<- ex]at g4 hx;rw[<- ev]at a1 a7;have v2:0<=v*v/\v*v<=1000000:=by
     have h1:v*v=(v.natAbs*v.natAbs:Nat):=by rw[wG]
     have h2:v.natAbs*v.natAbs<=1000*1000:=yM (by omega) (by omega);omega
    have w1:=Zl (n:=v*v);have k3:=kM (v*v) (by omega) (by omega);have k4:=amc x ((v*v:Int):Rat) (hx.mono (by decide)) ((sO (by omega)).mono (by decide));have hle:=Ie (DT xs w) k;unfold Xk at E;obtain⟨m2,a8⟩:∃m2,m2=cQ ((v*v:Int):Rat):=⟨_,rfl⟩;obtain⟨z,ez⟩:∃z,z=Ah (x.num*((v*v:Int):Rat).den) (((v*v:Int):Rat).num*x.den):=⟨_,rfl⟩;rw[<- a8]at k3 k4;rw[<- ez]at k4 E
    by_cases hz:0<z
    .rw[sS hz]at E
     obtain⟨σ',ha,hs⟩:=lC J (k:Int) (by omega);refine .inl ⟨_,by simp only[go_sem,t2,t27,t28,t29,g1,g2,g3,g4,g9,a6,Y,G,a1,a2,a3,w1,k3,k4,hz,ha];rfl,?_⟩;simp only[go_sem,t2,t27,t28];rw[KU E];exact⟨rfl,kZ hs (by simp[go_sem]) (by simp)⟩
    .rw[sQ hz]at E
     refine .inl ⟨_,by simp only[go_sem,t2,t27,t28,t29,g1,g2,g3,g4,g9,a6,Y,G,a1,a2,a3,w1,k3,k4,hz];rfl,?_⟩;simp only[go_sem,t2,t27,t28];rw[RY E];exact⟨rfl,ku (T:=T) (by simp only[go_sem]) J⟩) (by
    rintro ⟨T,σ,nx⟩ ⟨t2,t27,t28,t29,J⟩;simp only at t2 t27 t28 t29 J;exact⟨_,by simp only[go_sem,t28,t29,zk];rfl,by simp,_,_,_,rfl,ku (T:=T) (by simp only[go_sem]) J⟩) (by
    simp only[go_sem];exact .inl ⟨by simp only[go_sem],rfl⟩)
  obtain⟨ids,hs⟩:=kY J 5;simp only[go_sem,hs]
def Ea(s:Structure)(qs:List Rat)(w:List Int):Bool:=match Bf (FQ s qs)with
 |some xs=>decide ((G9 (DT xs w) xs.length).length=0)
 |none=>false
theorem Qk{s:Structure}(h:Ag s)(O:okStructure s){qs:List Rat}(S:qs.length=s.members.length)(Y:∀q∈qs,Ln 24 q){w:List Int}(hw:Bc s.members.length w) :
  fn Ze pI Ad 17 [.agg (cStructure s),LL cQ qs,LI w]=some (Bo (Ea s qs w)):=by
 have E:=Xl h O S Y hw;unfold overR at E;unfold Ea;rw[mW,nK [.tmp 6] [] func17];cases J:Bf (FQ s qs)with
 |none=>
  rw[J]at E;simp only[go_sem,E]
 |some xs=>
  rw[J]at E
  by_cases G:(G9 (DT xs w) xs.length).length=0
  .have e:(((G9 (DT xs w) xs.length).length:Int)==0)=true:=by rw[G];rfl
   simp only[go_sem,E,e,sS G]
  .have e:(((G9 (DT xs w) xs.length).length:Int)==0)=false:=by rw[sW];omega
   simp only[go_sem,E,e,sQ G]
def ahE(s:Structure)(l w:List Int)(r:V):Prop :=
 (∃qs,qs.length=s.members.length/\(∀q∈qs,Ln 24 q)/\Xh s l (.Au [LL cQ qs,Bo true])/\Ea s qs w=true/\r= .Au [LL cQ qs,Bo true]) \/
 (r=Qj/\(Xh s l Qj\/∃qs,qs.length=s.members.length/\(∀q∈qs,Ln 24 q)/\Xh s l (.Au [LL cQ qs,Bo true])/\Ea s qs w=false))
theorem Ob{s:Structure}(h:Ag s)(ho:okStructure s){l w:List Int}(hl:Ai s.joints.length l)(hw:Bc s.members.length w) :
  ∃r,fn Ze pI Ad 14 [.agg (cStructure s),LI l,LI w]=some r/\ahE s l w r:=by
 have X9:=h.1;obtain⟨r,O,hr⟩:=IB ho (l:=l) (by rw[hl.1];unfold maxLen;omega);have no:r=Qj->∃r,fn Ze pI Ad 14 [.agg (cStructure s),LI l,LI w]=some r/\ahE s l w r:=fun e=>by
  subst e;have a1:fn Ze pI Ad 58 [.agg (cStructure s),LI l]=some (.Au [.ts [] 0,Bo false]):=O;refine⟨Qj,?_,.inr ⟨rfl,.inl hr⟩⟩;unfold Qj;rw[mW,nK [.tmp 6,.tmp 7] [] func14];simp only[go_sem,a1]
 rcases hr with ⟨_,e⟩|⟨h1,h2,⟨e,_⟩|⟨x,hb,hx,e⟩⟩
 .exact no e
 .exact no e
 .cases S:Bf (FW (cols s s.members.length) ((List.range (Du s)).map x) s.members.length (Du s))with
  |none=>exact no (by rw[e];unfold Cc;rw[S];rfl)
  |some qs=>
   have e2:r= .Au [LL cQ qs,Bo true]:=by rw[e];unfold Cc;rw[S]
   have G:qs.length=s.members.length:=by rw[eU S,mM]
   have J:∀q∈qs,Ln 24 q:=fun q hm=>Tz (fun y hy=>by
    obtain⟨j,hj,rfl⟩:=List.mem_map.mp hy;exact hx j (List.mem_range.mp hj)) _ _ (Oa S q hm) q rfl
   have hD:Xh s l (.Au [LL cQ qs,Bo true]):=by
    rw[<- e2];exact .inr ⟨h1,h2,.inr ⟨x,hb,hx,e⟩⟩
   rw[e2]at O;have Y:=Qk h ho G J hw;cases E:Ea s qs w with
   |true=>
    rw[E]at Y;refine⟨.Au [LL cQ qs,Bo true],?_,.inl ⟨qs,G,J,hD,E,rfl⟩⟩;rw[mW,nK [.tmp 6,.tmp 7] [] func14];simp only[go_sem,O,Y]
   |false=>
    rw[E]at Y;refine⟨Qj,?_,.inr ⟨rfl,.inr ⟨qs,G,J,hD,E⟩⟩⟩;unfold Qj;rw[mW,nK [.tmp 6,.tmp 7] [] func14];simp only[go_sem,O,Y]
theorem ala{s:Structure}(h:Ag s)(J:okStructure s){l w:List Int}(O:Ai s.joints.length l)(hw:Bc s.members.length w) :
  ∃b r,fn Ze pI Ad 18 [.agg (cStructure s),LI l,LI w]=some (Bo b)/\ahE s l w r/\(b=true↔r≠Qj):=by
 obtain⟨r,E,S⟩:=Ob h J O hw;rcases S with ⟨qs,G,a2,a3,a4,rfl⟩|⟨rfl,G⟩
 .refine⟨true,_,?_,.inl ⟨qs,G,a2,a3,a4,rfl⟩,⟨fun _ e=>?_,fun _=>rfl⟩⟩
  .rw[mW,nK [.tmp 6] [] func18]
   simp only[go_sem,E]
  .unfold Qj at e
   injection e with e
   injection e with _ e
   injection e with e _
   cases e
 .refine⟨false,_,?_,.inr ⟨rfl,G⟩,⟨fun e=>by(cases e),fun e=>absurd rfl e⟩⟩
  unfold Qj at E;rw[mW,nK [.tmp 6] [] func18];simp only[go_sem,E]
theorem bg{f:V->Option (V×List Nat)}:∀ {a b E G:List V} {J O:List Nat},stripL f a=some (E,J)->stripL f b=some (G,O)->stripL f (a++b)=some (E++G,J++O)
 |[],b,E,G,J,O,h1,h2=>by
  rw[bP]at h1;cases h1;exact h2
 |v :: a,b,E,G,J,O,h1,h2=>by
  rw[bU]at h1;cases S:f v with
  |none=>rw[S]at h1;cases h1
  |some p=>
   cases Y:stripL f a with
   |none=>rw[S,Y]at h1;cases h1
   |some q=>
    rw[S,Y]at h1;have ih:=bg Y h2;rw[yY,bU,S,ih];simp only[zi,zH,tC,t_]at h1⊢;obtain⟨rfl,rfl⟩:=h1;exact⟨rfl,by rw[zF]⟩
theorem rO{σ:Store}{nx size bytes b len m:Nat}{cells row:List V}(hb:σ b=some ⟨cells,size,true⟩)(O:len*size=cells.length)(hs:0<size)(hm:m≠0)(E:len+m<=maxLen)(G:(len+m)*bytes<=140737488355328)(J:row.all qI=true) :
  Ae σ nx size bytes (.rs b 0 len) row m=some (.rs nx 0 (len+m),upd (upd σ b none) nx (some ⟨cells++row,size,true⟩),nx+1):=by
 rw[rH,hb];simp only[zi];have S:size<=m*size:=tN _ (by omega);rw[su hm,su (by rw[vT];omega),sZ ⟨by omega,trivial,E,G,J⟩];rfl
end Go.Proofs.YtkpdoehbhmipcaaGreat
namespace Go.Proofs.YtkpdoehbhmipcaaGreat
open Go Go.TV
abbrev aou:List Nat:=[3,4,5,6,9,11,12,19,24,30,37,38,43,51,52,79,80,87,100,101,157,214]
abbrev aov:List Nat:=[54,53,22,69,29,78,134,135,23,70,140,141,83,89,32,90,41,33]
def BA:FuncId->Conv:=fun f=>if f∈([19,9,11,54,100,79,30,87,38,215,64]:List Nat)then .own else if f∈([214,80,37,43,22,69,29,78,134,135,23,70,140,141,83,89,32,90,41,33]:List Nat)then .inl else .JJ
noncomputable def Di:Ext:=fun f=>if f=215 then some (E8)else if f=64 then some (G6 4)else if f∈aou then none else if f∈aov then some (fun args σ nx=>ev Ze Aa BN f args σ nx)else some fun args σ nx=>ev Ze pI Ad f args σ nx
theorem extSOk:Hw Ze Di:=fun f g h args σ nx v σ' nx' J=>by
 unfold Di at h
 by_cases E:f=215
 .subst E
  rw[sZ rfl]at h;cases h;exact qB args σ nx v σ' nx' J
 have n215:=E
 by_cases G:f=64
 .subst G
  rw[su (by decide),sZ rfl]at h;cases h;exact Tn args σ nx v σ' nx' J
 have O:=G;simp only[n215,O,if_false]at h
 split at h
 .cases h
 .split at h
  .cases h
   exact nH (by kernel_rfl) anh f args σ nx v σ' nx' J
  .cases h
   exact nH (by kernel_rfl) anH f args σ nx v σ' nx' J
theorem fnS{f:FuncId}(h:List.contains ([215,64]++aou++aov) f=false)(ts:List V):fn Ze BA Di f ts=fn Ze pI Ad f ts:=by
 have hn:¬f∈([215,64]++aou++aov:List Nat):=fun e=>by rw[List.contains_iff_mem.mpr e]at h;cases h
 simp only[wU,not_or]at hn;have E:=hn.1.1;simp only[zX,zJ,or_false,not_or]at E;rw[mW,mW,nJ (g:=fun args σ nx=>ev Ze pI Ad f args σ nx) (by unfold Di;simp only[E,if_false];rw[su hn.1.2,su hn.2])]
theorem aow(args:List V)(σ:Store)(nx:Nat):ev Ze BA Di 22 args σ nx=ev Ze Aa BN 22 args σ nx:=nJ (g:=fun args σ nx=>ev Ze Aa BN 22 args σ nx) rfl args σ nx
theorem aox(args:List V)(σ:Store)(nx:Nat):ev Ze BA Di 69 args σ nx=ev Ze Aa BN 69 args σ nx:=nJ (g:=fun args σ nx=>ev Ze Aa BN 69 args σ nx) rfl args σ nx
theorem aoy(args:List V)(σ:Store)(nx:Nat):ev Ze BA Di 29 args σ nx=ev Ze Aa BN 29 args σ nx:=nJ (g:=fun args σ nx=>ev Ze Aa BN 29 args σ nx) rfl args σ nx
theorem aoz(args:List V)(σ:Store)(nx:Nat):ev Ze BA Di 78 args σ nx=ev Ze Aa BN 78 args σ nx:=nJ (g:=fun args σ nx=>ev Ze Aa BN 78 args σ nx) rfl args σ nx
theorem alb(args:List V)(σ:Store)(nx:Nat):ev Ze BA Di 134 args σ nx=ev Ze Aa BN 134 args σ nx:=nJ (g:=fun args σ nx=>ev Ze Aa BN 134 args σ nx) rfl args σ nx
theorem alc(args:List V)(σ:Store)(nx:Nat):ev Ze BA Di 135 args σ nx=ev Ze Aa BN 135 args σ nx:=nJ (g:=fun args σ nx=>ev Ze Aa BN 135 args σ nx) rfl args σ nx
theorem aoA(args:List V)(σ:Store)(nx:Nat):ev Ze BA Di 23 args σ nx=ev Ze Aa BN 23 args σ nx:=nJ (g:=fun args σ nx=>ev Ze Aa BN 23 args σ nx) rfl args σ nx
theorem aoB(args:List V)(σ:Store)(nx:Nat):ev Ze BA Di 70 args σ nx=ev Ze Aa BN 70 args σ nx:=nJ (g:=fun args σ nx=>ev Ze Aa BN 70 args σ nx) rfl args σ nx
theorem ald(args:List V)(σ:Store)(nx:Nat):ev Ze BA Di 140 args σ nx=ev Ze Aa BN 140 args σ nx:=nJ (g:=fun args σ nx=>ev Ze Aa BN 140 args σ nx) rfl args σ nx
theorem ale(args:List V)(σ:Store)(nx:Nat):ev Ze BA Di 141 args σ nx=ev Ze Aa BN 141 args σ nx:=nJ (g:=fun args σ nx=>ev Ze Aa BN 141 args σ nx) rfl args σ nx
theorem aoC(args:List V)(σ:Store)(nx:Nat):ev Ze BA Di 83 args σ nx=ev Ze Aa BN 83 args σ nx:=nJ (g:=fun args σ nx=>ev Ze Aa BN 83 args σ nx) rfl args σ nx
theorem aoD(args:List V)(σ:Store)(nx:Nat):ev Ze BA Di 32 args σ nx=ev Ze Aa BN 32 args σ nx:=nJ (g:=fun args σ nx=>ev Ze Aa BN 32 args σ nx) rfl args σ nx
theorem aoE(args:List V)(σ:Store)(nx:Nat):ev Ze BA Di 33 args σ nx=ev Ze Aa BN 33 args σ nx:=nJ (g:=fun args σ nx=>ev Ze Aa BN 33 args σ nx) rfl args σ nx
theorem alf(args:List V)(σ:Store)(nx:Nat):ev Ze BA Di 215 args σ nx=(E8) args σ nx:=nJ (g:=(E8)) rfl args σ nx
theorem aoF(args:List V)(σ:Store)(nx:Nat):ev Ze BA Di 64 args σ nx=(G6 4) args σ nx:=nJ (g:=(G6 4)) rfl args σ nx
abbrev iI(n:Nat):Prop:=∀ts:List V,fn Ze BA Di n ts=fn Ze pI Ad n ts
theorem aoG:iI 7/\iI 8/\iI 13/\iI 14/\iI 17/\iI 18/\iI 20/\iI 21/\iI 25/\iI 26/\iI 27/\iI 28/\iI 31/\iI 34/\iI 45/\iI 46/\iI 47/\iI 48/\iI 49/\iI 50/\iI 55/\iI 56/\iI 57/\iI 58:=by and_intros<;>exact fnS rfl
theorem aoH:iI 63/\iI 65/\iI 66/\iI 67/\iI 68/\iI 71/\iI 72/\iI 73/\iI 74/\iI 75/\iI 76/\iI 77/\iI 81/\iI 82/\iI 91/\iI 92/\iI 93/\iI 94/\iI 95/\iI 96/\iI 97/\iI 98/\iI 99/\iI 102:=by and_intros<;>exact fnS rfl
theorem aoI:iI 103/\iI 104/\iI 105/\iI 106/\iI 107/\iI 108/\iI 111/\iI 112/\iI 114/\iI 115/\iI 117/\iI 118/\iI 119/\iI 120/\iI 121/\iI 125/\iI 126/\iI 127/\iI 128/\iI 129/\iI 130/\iI 131/\iI 132/\iI 133:=by and_intros<;>exact fnS rfl
theorem aoJ:iI 136/\iI 137/\iI 138/\iI 139/\iI 144/\iI 149/\iI 150/\iI 151/\iI 152/\iI 153/\iI 154/\iI 155/\iI 158/\iI 159/\iI 160/\iI 161/\iI 162/\iI 163/\iI 164/\iI 165/\iI 166/\iI 167/\iI 168/\iI 169:=by and_intros<;>exact fnS rfl
theorem aoK:iI 170/\iI 171/\iI 172/\iI 173/\iI 174/\iI 176/\iI 177/\iI 178/\iI 179/\iI 180/\iI 183/\iI 184/\iI 185/\iI 186/\iI 187/\iI 188/\iI 189/\iI 190/\iI 191/\iI 192/\iI 193/\iI 194/\iI 195/\iI 196:=by and_intros<;>exact fnS rfl
theorem aoL:iI 197/\iI 198/\iI 199/\iI 200/\iI 201/\iI 202/\iI 205/\iI 206/\iI 207/\iI 208/\iI 209/\iI 210/\iI 211/\iI 216/\iI 217/\iI 218/\iI 219/\iI 220/\iI 221/\iI 222/\iI 223/\iI 224/\iI 225/\iI 226:=by and_intros<;>exact fnS rfl
theorem aoM:iI 227/\iI 228/\iI 229/\iI 230/\iI 231/\iI 232/\iI 233/\iI 234/\iI 235/\iI 236/\iI 239/\iI 240/\iI 241/\iI 242/\iI 243/\iI 244/\iI 245/\iI 246/\iI 247/\iI 248/\iI 249/\iI 250/\iI 255/\iI 256:=by and_intros<;>exact fnS rfl
theorem aoN:iI 257/\iI 258/\iI 259/\iI 260/\iI 261/\iI 262/\iI 263/\iI 264/\iI 265/\iI 266/\iI 267/\iI 268/\iI 269/\iI 270/\iI 271/\iI 272/\iI 273/\iI 274/\iI 275/\iI 276/\iI 277/\iI 278/\iI 279/\iI 280:=by and_intros<;>exact fnS rfl
theorem aoO:iI 281/\iI 282/\iI 283/\iI 284/\iI 285/\iI 286/\iI 287/\iI 288/\iI 289/\iI 290/\iI 291/\iI 292/\iI 293/\iI 294:=by and_intros<;>exact fnS rfl
abbrev bI(n:Nat):Prop:=BA n= .JJ
abbrev CU(n:Nat):Prop:=BA n= .inl
abbrev IE(n:Nat):Prop:=BA n= .own
theorem aoP:bI 4/\bI 5/\bI 7/\bI 8/\bI 12/\bI 13/\bI 14/\bI 17/\bI 18/\IE 19/\bI 20/\bI 21/\CU 22/\CU 23/\bI 24/\bI 25/\bI 26/\bI 27/\bI 28/\CU 29/\IE 30/\bI 31/\CU 32/\CU 33:=by and_intros<;>exact rfl
theorem aoQ:bI 34/\bI 45/\bI 46/\bI 47/\bI 48/\bI 49/\bI 50/\bI 52/\bI 55/\bI 56/\bI 57/\bI 58/\bI 63/\IE 64/\bI 65/\bI 66/\bI 67/\bI 68/\CU 69/\CU 70/\bI 71/\bI 72/\bI 73/\bI 74:=by and_intros<;>exact rfl
theorem aoR:bI 75/\bI 76/\bI 77/\CU 78/\IE 79/\CU 80/\bI 81/\bI 82/\CU 83/\bI 91/\bI 92/\bI 93/\bI 94/\bI 95/\bI 96/\bI 97/\bI 98/\bI 99/\bI 101/\bI 102/\bI 103/\bI 104/\bI 105/\bI 106:=by and_intros<;>exact rfl
theorem aoS:bI 107/\bI 108/\bI 111/\bI 112/\bI 114/\bI 115/\bI 117/\bI 118/\bI 119/\bI 120/\bI 121/\bI 125/\bI 126/\bI 127/\bI 128/\bI 129/\bI 130/\bI 131/\bI 132/\bI 133/\CU 134/\CU 135/\bI 136/\bI 137:=by and_intros<;>exact rfl
theorem aoT:bI 138/\bI 139/\CU 140/\CU 141/\bI 144/\bI 149/\bI 150/\bI 151/\bI 152/\bI 153/\bI 154/\bI 155/\bI 157/\bI 158/\bI 159/\bI 160/\bI 161/\bI 162/\bI 163/\bI 164/\bI 165/\bI 166/\bI 167/\bI 168:=by and_intros<;>exact rfl
theorem aoU:bI 169/\bI 170/\bI 171/\bI 172/\bI 173/\bI 174/\bI 176/\bI 177/\bI 178/\bI 179/\bI 180/\bI 183/\bI 184/\bI 185/\bI 186/\bI 187/\bI 188/\bI 189/\bI 190/\bI 191/\bI 192/\bI 193/\bI 194/\bI 195:=by and_intros<;>exact rfl
theorem aoV:bI 196/\bI 197/\bI 198/\bI 199/\bI 200/\bI 201/\bI 202/\bI 205/\bI 206/\bI 207/\bI 208/\bI 209/\bI 210/\bI 211/\CU 214/\IE 215/\bI 216/\bI 217/\bI 218/\bI 219/\bI 220/\bI 221/\bI 222/\bI 223:=by and_intros<;>exact rfl
theorem aoW:bI 224/\bI 225/\bI 226/\bI 227/\bI 228/\bI 229/\bI 230/\bI 231/\bI 232/\bI 233/\bI 234/\bI 235/\bI 236/\bI 239/\bI 240/\bI 241/\bI 242/\bI 243/\bI 244/\bI 245/\bI 246/\bI 247/\bI 248/\bI 249:=by and_intros<;>exact rfl
theorem aoX:bI 250/\bI 255/\bI 256/\bI 257/\bI 258/\bI 259/\bI 260/\bI 261/\bI 262/\bI 263/\bI 264/\bI 265/\bI 266/\bI 267/\bI 268/\bI 269/\bI 270/\bI 271/\bI 272/\bI 273/\bI 274/\bI 275/\bI 276/\bI 277:=by and_intros<;>exact rfl
theorem aoY:bI 278/\bI 279/\bI 280/\bI 281/\bI 282/\bI 283/\bI 284/\bI 285/\bI 286/\bI 287/\bI 288/\bI 289/\bI 290/\bI 291/\bI 292/\bI 293/\bI 294:=by and_intros<;>exact rfl
attribute [go_sem] aoG aoH aoI aoJ aoK aoL aoM aoN aoO
attribute [go_sem] aoP aoQ aoR aoS aoT aoU aoV aoW aoX aoY
attribute [go_sem] aow aox aoy aoz alb alc aoA aoB ald ale aoC aoD aoE
attribute [go_sem] alf aoF
open Go.Plan
attribute [-go_sem] rH
section
variable {P:Program} {conv:FuncId->Conv} {call:TV.Call} (d:Option Tmp) (ty:TypeId) (ps:String) (af:Array Edge) (gd:Option (Nat×Bool)) (T:Nat->V) (σ:Store) (nx:Nat)
theorem aoZ(s x:Operand)(ts:Array TypeId):writer conv ⟨d,.call ⟨.builtin .copy,#[s,x],ts⟩,ty,ps,af,gd⟩=true:=rfl
end
attribute [go_sem] aoZ
def mvY(y:Yard)(i k:Nat):Bool:=aki y.moves (i:Int) k
def alB(al:List Bool)(i:Nat):Bool:=al.getD i false
theorem abS{al:List Bool}{i:Nat}(h:i<al.length):alB al i=al[i]:=by
 unfold alB;rw[zx,zy h];rfl
noncomputable def stp(y:Yard)(al:List Bool)(to:Int)(i:Nat):Int:=if 0<=to/\to<(y.stances.length:Int)then dst (mvY y) (alB al) to.toNat i else -1
def del(s:Structure)(k:Nat):Structure:=⟨s.joints,s.members.eraseIdx k⟩
theorem oJ{α:Type}(l:List α)(k:Nat):(l.eraseIdx k).length<=l.length:=List.length_eraseIdx_le l k
theorem ahG{s:Structure}(h:Ag s)(k:Nat):Ag (del s k) :=
 ⟨h.1,zL (oJ _ _) h.2.1,h.2.2.1,fun m hm=>h.2.2.2 m (uz hm)⟩
theorem abT{s:Structure}(h:okStructure s)(k:Nat):okStructure (del s k) :=
 ⟨h.1,fun m hm=>h.2.1 m (uz hm),zL (zK _ (oJ _ _)) h.2.2.1,zL (oJ _ _) h.2.2.2⟩
theorem Ql{n k:Nat}{w:List Int}(h:Bc n w)(E:k<n):Bc (n-1) (w.eraseIdx k) :=
 ⟨by rw[yT (by rw[h.1];exact E),h.1],fun x G=>h.2 x (uz G)⟩
def Dy(E:List Member)(k j:Nat):List Member:=(E.take j).eraseIdx k
theorem Xm{E:List Member}{k j:Nat}(G:j<E.length)(h:j≠k):Dy E k (j+1)=Dy E k j++[E[j]]:=by
 unfold Dy;rw[ah G];have J:(E.take j).length=j:=by rw[zh];omega
 by_cases O:k<j
 .rw[List.eraseIdx_append_of_lt_length (by omega)]
 .have S:[E[j]].eraseIdx (k - (E.take j).length)=[E[j]]:=List.eraseIdx_of_length_le (by rw[J,yH];omega)
  have Y:(E.take j).eraseIdx k=E.take j:=List.eraseIdx_of_length_le (by omega);rw[List.eraseIdx_append_of_length_le (by omega),S,Y]
theorem abU{E:List Member}{k:Nat}(G:k<E.length):Dy E k (k+1)=Dy E k k:=by
 unfold Dy;have J:(E.take k).length=k:=by rw[zh];omega
 have O:(E.take k).eraseIdx k=E.take k:=List.eraseIdx_of_length_le (by omega);rw[ah G,List.eraseIdx_append_of_length_le (by omega),J,yP,O];simp
theorem Xn(E:List Member)(k j:Nat):(Dy E k j).length<=j:=by
 unfold Dy;have:=oJ (E.take j) k;rw[zh]at this;omega
theorem Xo(σ:Store)(d:Nat):∀ {cells:List V},(cells.all ajp)=true->CY (own σ d) cells=some (cells,[])
 |[],_=>rfl
 |v :: cells,h=>by
  rw[uT,yc]at h;unfold CY;rw[Xo σ d h.2];cases v<;>first|(cases d<;>rfl)|cases h.1
theorem aei(E:List Joint):((E.flatMap cJoint).all ajp)=true:=by
 induction E with
 |nil=>rfl
 |cons j E G=>exact G
theorem Ko(E:List Joint):((E.flatMap cJoint).all qI)=true:=by
 induction E with
 |nil=>rfl
 |cons j E G=>exact G
theorem alg(E:List Joint)(h:E.length<=1000000)(nx:Nat):∃v G J ids,G6 4 [LL cJoint E] lI nx=some (v,G,J)/\nx<=J/\Own G 1 v (LL cJoint E) ids/\∀b∈ids,nx<=b/\b<J:=by
 have O:=ED E;have e:G6 4 [LL cJoint E] lI nx=if E.length=0 then some (.nil,lI,nx)else some (.rs nx 0 E.length,Aj lI nx (E.flatMap cJoint) 4,nx+1):=by
  show(if(E.flatMap cJoint).length=E.length*4/\E.length<=1000000/\_ then _ else _)=_;rw[sZ ⟨O,h,Ko E⟩]
 rw[e]
 by_cases S:E.length=0
 .have:E=[]:=zZ S
  subst this;exact⟨.nil,lI,nx,[],rfl,zq _,iZ _ _,by simp⟩
 .rw[su S]
  refine⟨_,_,_,[nx],rfl,by omega,⟨?_,by simp⟩,by simp⟩;have Y:=Xo (Aj lI nx (E.flatMap cJoint) 4) 0 (aei E);simp only[own,Aj,aF]at Y⊢;rw[sZ ⟨trivial,trivial,O.symm⟩,Y]
theorem Xp{σ:Store}{d:Nat}{α:Type}{c:α->List V}{v:V}{xs:List α}{ids:List Nat}(h:Own σ (d+1) v (LL c xs) ids):qI v=true:=by
 obtain⟨h,_⟩:=h;cases v<;>simp only[own]at h<;>first|rfl|(cases h;done)|(split at h<;>simp at h)
theorem aej(s:Structure)(hj:s.joints.length<=1000000)(hm:s.members.length<=1000)(k:Nat)(hk:k<s.members.length)(E:Nat):∃v w σ' nx' a8,ev Ze BA Di 19 [.agg (cStructure s),.ts [I k] 1] lI E=some (.agg [v,w],σ',nx')/\E<=nx'/\Own σ' 2 (.agg [v,w]) (.agg (cStructure (del s k))) a8/\∀b∈a8,E<=b/\b<nx':=by
 obtain⟨v,b4,G,ids,k1,c6,o1,J⟩:=alg s.joints hj (E+1+1);have g1:=fun d=>o1.gather (d':=d+1) (by omega)
 have c1:=Xp o1;have c2:=qE c1;obtain⟨X6,ea⟩:∃X6,X6=CV (E+1+1) (upd (upd lI E (some ⟨cStructure s,0,true⟩)) (E+1) (some ⟨[.nil,.nil],0,true⟩)) b4 ids:=⟨_,rfl⟩;have oa:Own X6 1 v (LL cJoint s.joints) ids:=by rw[ea];exact o1.join fun b hb=>(J b hb).1
 have a0:X6 E=some ⟨cStructure s,0,true⟩:=by rw[ea,kF (by omega),aH,aF]
 have a1:X6 (E+1)=some ⟨[.nil,.nil],0,true⟩:=by rw[ea,kF (by omega),aF]
 rw[nK [.cell 4 36] [] func19];have n0:¬G=E:=by omega
 have b5:¬E=G:=by omega
 have n2:¬G=E+1:=by omega
 have b2:¬E+1=G:=by omega
 have nb:¬E=E+1:=by omega
 have b6:¬E+1=E:=by omega
 simp only[go_sem,k1,g1,c1,c2,<- ea,a0,a1,n0,b5,n2,b2,nb,b6];generalize hL:gI _ _=y;obtain⟨x,rfl,T,σ,nx,rfl,c7,t4,t5,w,h1,O,o2,Y,hw⟩:=pJ hL s.members.length (fun j st=>st.T 1= .ts [I k] 1/\st.T 4= .rp (E+1) 0/\st.T 5= .rp G 0/\st.T 13=LL cMember s.members/\st.T 14=I s.members.length/\st.T 15=I j/\G<st.nx/\∃w,st.σ (E+1)=some ⟨[.nil,.nil],0,true⟩/\st.σ G=some ⟨[v,w],0,true⟩/\Own st.σ 1 v (LL cJoint s.joints) ids/\BZ cMember 3 (fun _=>w) st.σ st.nx 0 (Dy s.members k j)/\∀b o l,w= .rs b o l->G<b)
  (fun x=>∃T σ nx,x=(.exit 0,⟨T,σ,nx⟩)/\G<nx/\T 4= .rp (E+1) 0/\T 5= .rp G 0/\∃w,σ (E+1)=some ⟨[.nil,.nil],0,true⟩/\σ G=some ⟨[v,w],0,true⟩/\Own σ 1 v (LL cJoint s.joints) ids/\BZ cMember 3 (fun _=>w) σ nx 0 (Dy s.members k s.members.length)/\∀b o l,w= .rs b o l->G<b) (by
   clear hL;rintro j ⟨T,σ,nx⟩ hj ⟨t1,t4,t5,t13,t14,t15,S,w,h1,O,o2,Y,hw⟩;simp only at t1 t4 t5 t13 t14 t15 S h1 O o2 Y;have f1:(j:Int)<(s.members.length:Int):=by omega
   have f2:=jL j;have f3:=Zl (n:=(j:Int)+1);have f4:=KA s.members j hj;have f5:=FV s.members;have f6:j*3+3<=s.members.length*3:=by omega
   have f9:=KC s.members j hj;have k2:=an8 [(k:Int)] (j:Int) (by simp);have hle:=Xn s.members k j;have z1:¬G=nx:=by omega
   have z2:¬nx=G:=by omega
   have z3:¬E+1=nx:=by omega
   have o3:=fun x=>(Own.upd (σ:=σ) (d:=1) (v:=v) (t:=LL cJoint s.joints) (ids:=ids) (c:=nx) (x:=x) (fun hb=>by have:=(J nx hb).2;omega)).symm ▸ o2
   obtain⟨m1,em⟩:∃m1,m1=s.members[j]:=⟨_,rfl⟩;rw[<- em]at f4
   by_cases a6:j=k
   .have km:decide ((j:Int)∈[(k:Int)])=true:=by rw[a6];simp
    rw[km]at k2;have a7:fn Ze conv ext 65 [.ts [I k] 1,I j]=some (Bo true):=k2
    refine .inl ⟨_,by simp only[go_sem,t1,t4,t5,t13,t14,t15,f1,f2,f3,f4,f5,f6,f9,hj,a7];rfl,?_⟩;simp only[go_sem,t1,t4,t5,t13,t14,z1,z2,z3,h1,O];have ek:Dy s.members k (j+1)=Dy s.members k j:=by subst a6;exact abU hj
    rw[ek];exact⟨rfl,by omega,w,rfl,o3 _,lK Y _,hw⟩
   .have km:decide ((j:Int)∈[(k:Int)])=false:=by simp;omega
    rw[km]at k2;have a7:fn Ze conv ext 65 [.ts [I k] 1,I j]=some (Bo false):=k2
    have b7:=lK Y (some ⟨cMember m1,0,true⟩);obtain⟨σ',ha,hs,b8⟩:=lJ (c:=cMember) (s:=3) (bytes:=24) (fun _=>rfl) (fun _=>rfl) (by decide) b7 m1 (by omega) (by decide);have y1:∀q,q<nx->(∀b o l,w= .rs b o l->q≠b)->σ' q=σ q:=fun q hq b9=>by
     rw[b8 q (by omega) (fun b o l h=>b9 b o l h),aH]
    have y2:σ' G=some ⟨[v,w],0,true⟩:=by rw[y1 G S (fun b o l h e=>by have:=hw b o l h;omega)];exact O
    have y3:σ' (E+1)=some ⟨[.nil,.nil],0,true⟩:=by rw[y1 (E+1) (by omega) (fun b o l h e=>by have:=hw b o l h;omega)];exact h1
    have o4:Own σ' 1 v (LL cJoint s.joints) ids:=o2.frame fun q hq=>y1 q (by have:=(J q hq).2;omega) (fun b o l h e=>by have:=hw b o l h;have:=(J q hq).2;omega)
    refine .inl ⟨_,by simp only[go_sem,t1,t4,t5,t13,t14,t15,f1,f2,f3,f4,f5,f6,f9,hj,a7,z1,z2,z3,O,ha,y2];rfl,?_⟩;simp only[go_sem,t1,t4,t5,t13,t14];rw[Xm hj a6,<- em];refine⟨rfl,by omega,_,?_,rfl,?_,?_,?_⟩
    .rw[aH];exact y3
    .exact(Own.upd (fun hb=>by have:=(J G hb).2;omega)).symm ▸ o4
    .refine .inr ⟨nx+1+1,by rw[zl];rfl,by simp,?_,by omega⟩
     rw[aH];exact hs
    .intro b o l hb
     cases hb;omega) (by
   clear hL;rintro ⟨T,σ,nx⟩ ⟨t1,t4,t5,t13,t14,t15,S,w,h1,O,o2,Y,hw⟩;simp only at t1 t4 t5 t13 t14 t15 S h1 O o2 Y;exact⟨_,by simp only[go_sem,t14,t15,zk];rfl,by simp,_,_,_,rfl,S,by simp only[go_sem,t4],by simp only[go_sem,t5],w,h1,O,o2,Y,hw⟩) (by
   simp only[go_sem,n2,b2,a1];exact⟨by omega,_,rfl,(Own.upd (c:=G) (fun hb=>by have:=(J _ hb).2;omega)).symm ▸ oa,.inl ⟨rfl,rfl⟩,fun b o l h=>by cases h⟩)
 have ek:Dy s.members k s.members.length=(del s k).members:=by
  unfold Dy del;rw[yZ]
 rw[ek]at Y;have z3:¬E+1=G:=by omega
 have cw:qI w=true:=by
  rcases Y with ⟨a,_⟩|⟨b,a,_⟩
  .have a:w= .nil:=a
   rw[a];rfl
  .have a:w= .rs b 0 _:=a
   rw[a];rfl
 have ow:∃is,CY (own (upd σ (E+1) (some ⟨[v,w],0,true⟩)) 1) [w]=some ([LL cMember (del s k).members],is)/\is.Nodup/\∀q∈is,G<q/\q<nx:=by
  rcases Y with ⟨a,b⟩|⟨b,a1,a2,a3,a4⟩
  .have a:w= .nil:=a
   rw[a,b];exact⟨[],rfl,by simp,by simp⟩
  .have a1:w= .rs b 0 _:=a1
   have hb:=hw _ _ _ a1;subst a1;have h2:=iY (d:=0) (σ:=upd σ (E+1) (some ⟨[v,.rs b 0 (del s k).members.length],0,true⟩)) (b:=b) (s:=3) (c:=cMember) (xs:=(del s k).members) (by rw[aH];exact a3) (fun _=>rfl) PN;exact⟨[b],by simp only[CY,h2];rfl,by simp,fun q hq=>by rw[List.mem_singleton.mp hq];exact⟨hb,a4⟩⟩
 obtain⟨is,c0,c3,b3⟩:=ow;have c4:own (upd σ (E+1) (some ⟨[v,w],0,true⟩)) 1 v=some (LL cJoint s.joints,ids):=by
  have:=((Own.upd (σ:=σ) (d:=1) (v:=v) (t:=LL cJoint s.joints) (ids:=ids) (c:=E+1) (x:=some ⟨[v,w],0,true⟩) (fun hb=>by have:=(J (E+1) hb).1;omega)).symm ▸ o2);exact this.1
 have hO:Own (upd σ (E+1) (some ⟨[v,w],0,true⟩)) 2 (.agg [v,w]) (.agg (cStructure (del s k))) (ids++is):=by
  refine⟨?_,?_⟩
  .unfold own
   have c5:CY (own (upd σ (E+1) (some ⟨[v,w],0,true⟩)) 1) [v,w]=some ([LL cJoint s.joints,LL cMember (del s k).members],ids++is):=by
    unfold CY;rw[c4,c0]
   simp only[c5];rfl
  .rw[List.nodup_append]
   exact⟨o2.2,c3,fun a ha b hb e=>by have h1:=(J a ha).2;have h2:=(b3 b hb).1;omega⟩
 simp only[go_sem,t4,t5,h1,O,z3,c1,cw];exact⟨v,w,_,nx,ids++is,rfl,by omega,hO,fun q hq=>by
  rcases List.mem_append.mp hq with h|h
  .have:=J q h;omega
  .have:=b3 q h;omega⟩
theorem jZ(xs:List Int):xs.flatMap cI=xs.map I:=by
 induction xs with
 |nil=>rfl
 |cons x xs E=>show I x :: xs.flatMap cI=_;rw[E];rfl
theorem Xq(xs:List Int)(k:Nat):(xs.flatMap cI).eraseIdx k=(xs.eraseIdx k).flatMap cI:=by rw[jZ,jZ,jY]
theorem Qm{σ:Store}{b:Nat}{xs:List Int}{ex:List V}{n:Nat}(h:σ b=some ⟨xs.flatMap cI++ex,1,true⟩)(hn:xs.length=n)(d:Nat):strip σ (d+1) (.rs b 0 n)=some (LI xs,[b]):=by
 rw[bD,h];simp only[zi,yO,yu,yw];rw[sZ (by rw[zl,qW];omega),wu (by rw[qW,hn]),CZ];show some (V.ts _ n,[b])=_;rw[<- hn]
theorem Xr{P:Program}{σ:Store}{t:TypeId}{b off len:Nat}{lo hi E:V}(h:(vI P t).slice=true)(G:(vI P t).QV=true):AL P t (.rs b off len) (some lo) (some hi) (some E) σ=(bnd (some lo) 0).bind fun l=>(bnd (some hi) 0).bind fun h=>(bnd (some E) 0).bind fun m=>if l<=h/\h<=m/\m<=len then some .junk else none:=by
 obtain⟨e,Y,z,J,O,h3,h4,S,h6,h7⟩:=aJ h G;unfold AL;simp only[J,O,S];cases bnd (some lo) 0<;>cases bnd (some hi) 0<;>cases bnd (some E) 0<;>rfl
attribute [go_sem] Xr
theorem alh{σ:Store}{nx b:Nat}{w:List Int}{n k:Nat}(hb:σ b=some ⟨w.flatMap cI,1,true⟩)(J:b<nx)(hw:w.length=n)(hn:n<=1000)(hk:k<n) :
  ∃σ',ev Ze BA Di 214 [.rs b 0 n,I k,I ((k:Int)+1)] σ nx=some (.rs b 0 (n-1),σ',nx)/\(∃ex,σ' b=some ⟨(w.eraseIdx k).flatMap cI++ex,1,true⟩)/\∀c,c≠b->σ' c=σ c:=by
 have G:(w.flatMap cI).length=n:=by rw[qW,hw]
 have e1:((k:Int)==(k:Int)+1)=false:=by rw[sW];omega
 have i0:=jL k;have i1:(0:Int)<=(k:Int)+1:=by omega
 have i2:((k:Int)+1).toNat=k+1:=by omega
 have i3:k<=k+1:=by omega
 have i4:k+1<=n:=hk;have i5:¬k+1=0:=by omega
 have i6:k<=n:=by omega
 have i7:=jL n;rw[nK [.tmp 6] [5] func214];have O:¬n=0:=by omega
 have z1:∀(c:Nat) (x:Option FU),c≠b->upd σ b x c=σ c:=fun c x h=>aG _ _ h
 by_cases E:k+1=n
 .have m1:n-1=k:=by omega
  have m3:n-k=1:=by omega
  have a1:¬k=n:=by omega
  have ha:=WW (restrict σ [b]) nx 1 8 b 0 k [] (B:=⟨w.flatMap cI,1,true⟩) (by rw[gQ];exact hb);have le:∃ex,patch (w.flatMap cI) k [I 0]=(w.eraseIdx k).flatMap cI++ex:=by
   rw[iR _ _ _ (by rw[G];simp;omega),<- Xq,vG,xZ (l:=w.flatMap cI) (i:=k+1) (by omega),zM,zF];exact⟨_,rfl⟩
  by_cases S:k=0
  .have a6:(k=0)=True:=eq_true S
   have hr:rep n [I 0]=[I 0]:=by
    have:n=1:=by omega
    rw[this];rfl
   have a8:0+n<=n:=by omega
   simp only[go_sem,hb,G,J,e1,i0,i1,i2,i3,i4,i5,i6,i7,E,a1,ha,O,a6,yS,zq,Ew,m1,hr,a8];exact⟨_,rfl,by rw[aF];obtain⟨ex,e⟩:=le;exact⟨ex,by rw[<- e,S,iP]⟩,fun c hc=>aG _ _ hc⟩
  .simp only[go_sem,hb,G,J,e1,i0,i1,i2,i3,i4,i5,i6,i7,E,a1,ha,O,S,m3,yS,zq,Ew,m1]
   exact⟨_,rfl,by rw[aF];obtain⟨ex,e⟩:=le;exact⟨ex,by rw[<- e];rfl⟩,fun c hc=>aG _ _ hc⟩
 .have m1:¬n - (k+1)=0:=by omega
  have m2:((w.flatMap cI).drop (k+1)).take (n - (k+1))=(w.flatMap cI).drop (k+1):=zo (by rw[yj,G];omega);have i8:k+1+(n - (k+1))<=n:=by omega
  have rl:((w.flatMap cI).drop (k+1)).length=n - (k+1):=by rw[yj,G]
  have Y:((w.flatMap cI).drop (k+1)).all qI=true:=by
   rw[jZ,<- List.map_drop,<- jZ];exact qX _
  obtain⟨Pc,hP⟩:∃Pc,Pc=patch (w.flatMap cI) k ((w.flatMap cI).drop (k+1)):=⟨_,rfl⟩;have a7:Pc.length=n:=by
   rw[hP,iR _ _ _ (by rw[rl,G];omega)];simp only[zl,zh,yj,G];omega
  obtain⟨b4,b2⟩:∃ex,Pc=(w.eraseIdx k).flatMap cI++ex:=by
   obtain⟨ex,e⟩:=iQ (w.flatMap cI) [] (i:=k) (m:=n) G hk m1;rw[zM]at e;exact⟨ex,by rw[hP,e,Xq]⟩
  have ha:=aoa (σ:=restrict σ [b,b]) (nx:=nx) (bytes:=8) (b:=b) (len:=k) (m:=n - (k+1)) (row:=(w.flatMap cI).drop (k+1)) (cells:=w.flatMap cI) (by rw[gK];exact hb) m1 (by rw[G];omega) Y;rw[<- hP]at ha;have m5:k+(n - (k+1))=n-1:=by omega
  rw[m5]at ha;have j1:((n-1:Nat):Int).toNat=n-1:=yS _;have j2:(0:Int)<=((n-1:Nat):Int):=by omega
  have j3:n-1<=n:=by omega
  have j4:¬n-1=0:=by omega
  have j5:¬n-1=n:=by omega
  have j6:n - (n-1)=1:=by omega
  have j7:n-1+1<=n:=by omega
  have le:∃ex,patch Pc (n-1) [I 0]=(w.eraseIdx k).flatMap cI++ex:=by
   have b3:((w.eraseIdx k).flatMap cI).length=n-1:=by rw[qW,yT (by omega),hw]
   rw[iR _ _ _ (by rw[a7];simp;omega),b2,wu b3,zF];exact⟨_,rfl⟩
  simp only[go_sem,hb,G,J,e1,i0,i1,i2,i3,i4,i5,i6,i7,i8,E,m1,m2,ha,O,yS,zq,j1,j2,j3,j4,j5,j6,j7,a7,Ew];exact⟨_,rfl,by rw[aF];obtain⟨ex,e⟩:=le;exact⟨ex,by rw[<- e];rfl⟩,fun c hc=>aG _ _ hc⟩
def Dz(s:Structure)(l w:List Int):Prop:=fn Ze pI Ad 18 [.agg (cStructure s),LI l,LI w]=some (Bo true)
theorem Oc{s:Structure}(h:Ag s)(E:okStructure s){l w:List Int}(G:Ai s.joints.length l)(hw:Bc s.members.length w) :
  fn Ze pI Ad 18 [.agg (cStructure s),LI l,LI w]=some (Bo (pb (Dz s l w))):=by
 obtain⟨b,r,k,_⟩:=ala h E G hw;rw[k];cases b with
 |true=>
  have:Dz s l w:=k;rw[iL this]
 |false=>
  have:¬Dz s l w:=fun e=>by unfold Dz at e;rw[k]at e;cases e
  rw[iM this]
noncomputable def upto(s:Structure)(l w:List Int)(n:Nat):Bool:=(List.range n).all fun k=>pb (Dz (del s k) l (w.eraseIdx k))
theorem upto_succ(s:Structure)(l w:List Int)(n:Nat):upto s l w (n+1)=(upto s l w n && pb (Dz (del s n) l (w.eraseIdx n))):=by simp[upto,wX]
theorem aB{s:Structure}{l w:List Int}{k n:Nat}(E:k<n)(h:pb (Dz (del s k) l (w.eraseIdx k))=false):upto s l w n=false:=by
 unfold upto;rw[List.all_eq_false];exact⟨k,by simpa using E,by rw[h];simp⟩
noncomputable def IG(s:Structure)(l w:List Int):Bool:=pb (Dz s l w) && upto s l w s.members.length
theorem ali(w:List Int)(hw:w.length<=1000)(E:w.length≠0)(nx:Nat):E8 [LI w] lI nx=some (.rs nx 0 w.length,Aj lI nx (w.flatMap cI) 1,nx+1):=by
 show(if(w.flatMap cI).length=w.length/\w.length<=17592186044000/\(w.flatMap cI).all qI=true then _ else none)=_;rw[sZ ⟨qW w,by omega,qX w⟩,su E]
theorem Xt{s:Structure}(h:Ag s)(ho:okStructure s){l w:List Int}(hl:Ai s.joints.length l)(hw:Bc s.members.length w) :
  fn Ze BA Di 157 [.agg (cStructure s),LI l,LI w]=some (Bo (IG s l w)):=by
 have k1:=Oc h ho hl hw;have c0:=h.2.1;have X9:=h.1;have O:=hw.1;unfold IG;rw[mW,nK [.tmp 6] [] func157];cases hs:pb (Dz s l w)with
 |false=>
  rw[hs]at k1;simp only[go_sem,k1]
 |true=>
  rw[hs]at k1;simp only[go_sem,k1];generalize hL:gI _ _=y;obtain⟨x,rfl,hx⟩:=pJ hL s.members.length (fun j st=>st.T 1=LI l/\st.T 2=LI w/\st.T 3= .rp 0 0/\st.T 15=I s.members.length/\st.T 16=I j/\0<st.nx/\st.σ 0=some ⟨cStructure s,0,true⟩/\upto s l w j=true)
   (fun x=>∃T σ nx,(x=(.exit 0,⟨T,σ,nx⟩)/\upto s l w s.members.length=true)\/(x=(.ret,⟨T,σ,nx⟩)/\T 6=Bo false/\upto s l w s.members.length=false)) (by
    clear hL;rintro j ⟨T,σ,nx⟩ hj ⟨t1,t2,t3,t15,t16,a6,E,hu⟩;simp only at t1 t2 t3 t15 t16 a6 E;have f1:(j:Int)<(s.members.length:Int):=by omega
    have f2:=jL j;have f3:=Zl (n:=(j:Int)+1);obtain⟨v,v2,b7,G,Y,k2,c2,hO,a7⟩:=aej s (by omega) (by omega) j hj (nx+1);have k3:=ali w (by omega) (by omega) G;rw[O]at k3;obtain⟨S,eS⟩:∃S,S=del s j:=⟨_,rfl⟩;rw[<- eS]at hO;have gO:=fun d=>hO.gather (d':=d+2) (by omega)
    have hlen:(w.eraseIdx j).length=s.members.length-1:=by rw[yT (by omega),O]
    have b8:S.joints=s.joints:=by rw[eS];rfl
    have b9:S.members.length=s.members.length-1:=by
     rw[eS];unfold del;exact yT hj
    have k5:=Oc (s:=S) (l:=l) (w:=w.eraseIdx j) (by rw[eS];exact ahG h j) (by rw[eS];exact abT ho j) (by rw[b8];exact hl) (by rw[b9];exact Ql hw hj);have oc:Own (Aj lI G (w.flatMap cI) 1) 1 (.rs G 0 s.members.length) (LI w) [G]:=by
     have:=Jr (σ:=Aj lI G (w.flatMap cI) 1) (d:=0) (b:=G) (st:=1) (xs:=w) (by unfold Aj;rw[aF]) (by omega)
     rwa [O]at this
    have gc:=fun d=>oc.gather (d':=d+1) (by omega)
    unfold Aj at k3 gc;obtain⟨J,e1⟩:∃J,J=CV (nx+1) (upd σ nx (some ⟨[I j],1,true⟩)) b7 Y:=⟨_,rfl⟩;have b1:J 0=some ⟨cStructure s,0,true⟩:=by rw[e1,kF (by omega),aH];exact E
    have o1:Own J 2 (.agg [v,v2]) (.agg (cStructure S)) Y:=hO.frame fun q hq=>by
     have:=a7 q hq;rw[e1,kG (by omega) hq]
    obtain⟨σ2,e2⟩:∃σ2,σ2=CV G J (upd lI G (some ⟨w.flatMap cI,1,true⟩)) [G]:=⟨_,rfl⟩;have b2:σ2 0=some ⟨cStructure s,0,true⟩:=by rw[e2,kF (by omega)];exact b1
    have b3:σ2 G=some ⟨w.flatMap cI,1,true⟩:=by rw[e2,kG (by omega) (by simp),aF]
    have o2:Own σ2 2 (.agg [v,v2]) (.agg (cStructure S)) Y:=o1.frame fun q hq=>by
     have:=a7 q hq;rw[e2,kF (by omega)]
    obtain⟨a8,k4,⟨ex,b4⟩,b5⟩:=alh (nx:=G+1) (k:=j) b3 (by omega) O (by omega) hj;have b6:a8 0=some ⟨cStructure s,0,true⟩:=by rw[b5 0 (by omega)];exact b2
    have st:=fun d=>Qm b4 hlen d
    have o3:Own a8 2 (.agg [v,v2]) (.agg (cStructure S)) Y:=o2.frame fun q hq=>by
     have:=a7 q hq;rw[b5 q (by omega)]
    have so:=fun d=>o3.strip (d':=d+2) (by omega)
    have f4:=Zl (n:=(j:Int)+1);have us:=upto_succ s l w j;rw[<- eS]at us;cases a1:pb (Dz S l (w.eraseIdx j))with
    |true=>
     rw[a1]at k5 us;refine .inl ⟨_,by simp only[go_sem,qM,t1,t2,t3,t15,t16,E,f1,f2,f3,k2,gO,<- e1,k3,gc,<- e2,k4,st,so,k5,b6];rfl,?_⟩;simp only[go_sem,t1,t2,t3,t15,b6];exact⟨rfl,by omega,by rw[us,hu];rfl⟩
    |false=>
     rw[a1]at k5;refine .inr ⟨_,by simp only[go_sem,qM,t1,t2,t3,t15,t16,E,f1,f2,f3,k2,gO,<- e1,k3,gc,<- e2,k4,st,so,k5,b6];rfl,by simp,_,_,_,.inr ⟨rfl,by simp only[go_sem],?_⟩⟩;rw[eS]at a1;exact aB hj a1) (by
    rintro ⟨T,σ,nx⟩ ⟨t1,t2,t3,t15,t16,a6,E,hu⟩;simp only at t1 t2 t3 t15 t16 a6 E;exact⟨_,by simp only[go_sem,t15,t16,zk];rfl,by simp,_,_,_,.inl ⟨rfl,hu⟩⟩) (by
    simp only[go_sem];rfl)
  obtain⟨T,σ,nx,⟨rfl,hu⟩|⟨rfl,t6,hu⟩⟩:=hx
  .rw[hu]
   simp only[go_sem]
  .rw[hu]
   simp only[go_sem,t6]
noncomputable def II(t:Stance)(strict:Bool):Bool:=BQ t && (if strict=true then IG t.st t.load t.limits else pb (Dz t.st t.load t.limits))
theorem dB{t:Stance}(h:BQ t=true):Ag t.st/\Ai t.st.joints.length t.load/\Bc t.st.members.length t.limits:=by
 unfold BQ at h;simp only[yc]at h;exact⟨MN h.2.1.1,MN h.2.1.2,MN h.2.2⟩
theorem Xu(t:Stance)(G:okStance t)(strict:Bool):fn Ze BA Di 101 [.agg (cStance t),Bo strict]=some (Bo (II t strict)):=by
 have E:=Jl t G;unfold II;rw[mW,nK [.tmp 4] [] func101];cases hs:BQ t with
 |false=>
  rw[hs]at E;simp only[go_sem,E]
 |true=>
  rw[hs]at E;obtain⟨J,O,S⟩:=dB hs;have Y:=Xt J G.2.1 O S;have k3:=Oc J G.2.1 O S;cases strict with
  |true=>simp only[go_sem,E,Y]
  |false=>simp only[go_sem,E,k3]
theorem alj{α:Type}{xs:List α}{n k:Nat}(d:α)(E:k<xs.length)(hn:xs.length=n):(xs.take k++List.replicate (n-k) d).set k xs[k]=xs.take (k+1)++List.replicate (n - (k+1)) d:=by
 have G:(xs.take k).length=k:=by rw[zh];omega
 rw[yF _ _ (by omega),G,yP,show n-k=n - (k+1)+1 by omega,xg,wC,ah E,zF];rfl
theorem aek(n:Nat):rep n [Bo false]=(List.replicate n false).flatMap J4:=adI n
noncomputable def Bg(y:Yard):List Bool:=y.stances.map fun t=>II t y.strict
theorem f_(y:Yard):(Bg y).length=y.stances.length:=by simp[Bg]
theorem ahH{σ:Store}{b:Nat}{xs:List Bool}(h:σ b=some ⟨xs.flatMap J4,1,true⟩){n:Nat}(hn:xs.length=n)(d:Nat):strip σ (d+1) (.rs b 0 n)=some (LL J4 xs,[b]):=by
 have E:(xs.flatMap J4).length=xs.length:=by rw[dN (c:=J4) (s:=1) (fun _=>rfl),yO]
 rw[bD,h];simp only[zi,yO,yu,yw,E];rw[sZ (by omega),zo (by omega),bM (fun x=>by rw[bU,bC,bP];rfl)];show some (V.ts _ n,[b])=_;rw[<- hn]
theorem asK(y:Yard)(ho:okYard y)(Qb:y.stances.length<=6):fn Ze BA Di 52 [.tp (cYard y) 0]=some (LL J4 (Bg y)):=by
 obtain⟨n,en⟩:∃n,n=y.stances.length:=⟨_,rfl⟩;have e1:1*(n:Int)<=281474976710656:=by omega
 have e2:(n:Int)<=9223372036854775807:=by omega
 have e3:=jL n;have a8:=f_ y;rw[mW,nK [.tmp 2] [5] func52];simp only[go_sem,<- en,e1,e2,e3,xW];generalize hL:gI _ _=z;obtain⟨r,rfl,T',σ',nx',rfl,O,hs⟩:=pJ hL n (fun k s=>1<=s.nx/\s.T 0= .tp (cYard y) 0/\s.T 3= .rs 0 0 n/\s.T 15=LL cStance y.stances/\s.T 16=I n/\s.T 17=I k/\s.σ 0=some ⟨((Bg y).take k++List.replicate (n-k) false).flatMap J4,1,true⟩)
  (fun r=>∃T σ nx',r=(.exit 0,⟨T,σ,nx'⟩)/\T 3= .rs 0 0 n/\σ 0=some ⟨(Bg y).flatMap J4,1,true⟩) (by
   clear hL;rintro k ⟨T,σ,m⟩ hk ⟨hm,Y,O,G,E,J,hs⟩;simp only at hm Y O G E J hs;have S:k<y.stances.length:=by omega
   have a1:k<(Bg y).length:=by omega
   have f1:(k:Int)<(n:Int):=by omega
   have f2:=jL k;have f3:=Zl (n:=(k:Int)+1);have f4:=MK y.stances k S;have f5:=Gi y.stances;rw[<- en]at f5;have f6:k*5+5<=n*5:=by omega
   have f9:=ML y.stances k S;have f7:(((Bg y).take k++List.replicate (n-k) false).flatMap J4).length=n:=by
    rw[dN (c:=J4) (s:=1) (fun _=>rfl),yO,zl,zh,yR];omega
   have k1:=Xu y.stances[k] (ho.1.1 _ (zu S)) y.strict;have es:(Bg y)[k]=II y.stances[k] y.strict:=by simp[Bg]
   have f8:=akj ((Bg y).take k++List.replicate (n-k) false) k (Bg y)[k];rw[alj false a1 (by omega),es]at f8;have nz:¬0=m:=by omega
   have a6:¬m=0:=by omega
   have f10:k<n:=hk;have f11:0<m+1:=by omega
   have f12:m<m+1:=by omega
   obtain⟨t,et⟩:∃t,t=y.stances[k]:=⟨_,rfl⟩;rw[<- et]at f4 k1 f8;obtain⟨sb,eb⟩:∃sb,sb=II t y.strict:=⟨_,rfl⟩;rw[<- eb]at k1 f8;refine .inl ⟨_,by simp only[go_sem,<- en,Y,O,G,E,J,hs,f1,f2,f3,f4,f5,f6,f7,f8,f9,f10,f11,f12,k1,nz,a6];rfl,?_⟩;simp only[go_sem,Y,O,G,E];rfl) (by
   clear hL;rintro ⟨T,σ,m⟩ ⟨hm,Y,O,G,E,J,hs⟩;simp only at hm Y O G E J hs;rw[zo (by omega),yP,List.replicate_zero,zM]at hs;exact⟨_,by simp only[go_sem,E,J,zk];rfl,by simp,_,_,_,rfl,by simp only[go_sem,O],hs⟩) (by
   simp only[go_sem];rw[<- aek])
 have a7:=fun d=>ahH hs (n:=n) (by omega) d
 simp only[go_sem,O,a7]
noncomputable def blk(y:Yard)(fr to:Int)(i:Nat):Bool:=!((i:Int)==fr) && (!((i:Int)==to) && (alB (Bg y) i && decide (stp y ((Bg y).set i false) to fr.toNat<0)))
end Go.Proofs.YtkpdoehbhmipcaaGreat
namespace Go.Proofs.YtkpdoehbhmipcaaGreat
open Go Go.TV Go.Lp
theorem asL(neg:Bool)(m n:Nat)(hm:ln m<=24)(h0:n≠0)(hn:ln n<=24) :
  fn Ze conv ext 275 [Bo neg,LI (dg m),LI (dg n)]=some (.agg [Bo (neg && decide (0<(dg (m / Nat.gcd m n)).length)),LI (dg (m / Nat.gcd m n)),LI (dg (n / Nat.gcd m n))]):=by
 have J:Nat.gcd m n≠0:=fun e=>h0 (uG e)
 have O:Nat.gcd m n<=n:=Nat.gcd_le_right _ (by omega);have a1:n / Nat.gcd m n≠0:=by
  have:=Nat.div_pos O (by omega);omega
 have hg:=jq O;have k1:=cO (dg m) (dX (by omega));have k2:=cO (dg n) (dX (by omega));rw[aP]at k1 k2;have S:=PG n (by omega);have k4:=ahy m n (by omega) (by omega);have Y:=PG (Nat.gcd m n) (by omega);have k6:=Xg m (Nat.gcd m n) J (by omega) (by omega);have k7:=Xg n (Nat.gcd m n) J (by omega) (by omega);have lx:=agT m (Nat.gcd m n);have ly:=agT n (Nat.gcd m n);have G:=af5 neg (dg (m / Nat.gcd m n)) (dX (by omega)) (by rw[aP];show ln _<=60;omega);rw[aP]at G;have l0:(((dg n).length:Int)==0)=false:=by rw[sW];have:=rM (oZ h0);omega
 have c1:¬(24:Int)<((dg (m / Nat.gcd m n)).length:Int):=by unfold ln at lx hm;omega
 have c2:¬(24:Int)<((dg (n / Nat.gcd m n)).length:Int):=by unfold ln at ly hn;omega
 have z1:¬(dg (n / Nat.gcd m n)).length=0:=rM (oZ a1);have s1:(dg (n / Nat.gcd m n)).length<=maxLen/\(dg (n / Nat.gcd m n)).length*8<=140737488355328:=by unfold maxLen;unfold ln at ly hn;omega
 rw[mW,nK [.cell 6 161] [] func275]
 by_cases h1:n=1
 .have E:Nat.gcd m n=1:=by rw[h1,Nat.gcd_one_right]
  simp only[E,xC]at c1 c2 G z1 s1⊢;rw[sS h1]at S;simp only[go_sem,k1,k2,S,G,l0,c1,c2,z1,s1]
 .rw[sQ h1]at S
  by_cases E:Nat.gcd m n=1
  .rw[sS E]at Y
   rw[E]at k4 Y;simp only[E,xC]at c1 c2 G z1 s1⊢;simp only[go_sem,k1,k2,S,k4,Y,G,l0,c1,c2,z1,s1]
  .rw[sQ E]at Y
   simp only[go_sem,k1,k2,S,k4,Y,k6,k7,G,l0,c1,c2,z1,s1]
theorem TD(z:Int)(d:Nat)(O:ln z.natAbs<=24)(J:d≠0)(S:ln d<=24)(b:Bool)(n:Nat)(hb:Az b n=z):fn Ze conv ext 275 [Bo b,LI (dg n),LI (dg d)]=some (.agg (cQ (mkRat z d))):=by
 have hn:n=z.natAbs:=by rw[<- hb];unfold Az;split<;>omega
 subst hn;rw[asL b z.natAbs d O J S,aga z J];unfold adE
 by_cases E:z.natAbs=0
 .rw[E,Nat.zero_div,oQ];simp
 .have:b=decide (z<0):=by
   have G:=hb;unfold Az at G;cases b with
   |true=>rw[sZ rfl]at G;rw[sS (by omega)]
   |false=>rw[su (by decide)]at G;rw[sQ (by omega)]
  rw[this]
theorem TF(q:Rat)(h:Ln 24 q):fn Ze conv ext 177 [.agg (cQ q)]=some (Bo true):=by
 have l1:(dg q.num.natAbs).length<=24:=h.1;have l2:(dg q.den).length<=24:=h.2;have E:=Px (decide (q.num<0)) (dg q.num.natAbs) (by unfold Short;omega);have S:(!decide (q.num<0)||decide (0<(dg q.num.natAbs).length))=true:=by
  by_cases hn:q.num<0
  .rw[sS (List.length_pos_iff.mpr (oZ (by omega))),Bool.or_true]
  .rw[sQ hn];rfl
 rw[iL (jM (by have:=h.1;omega)),S]at E;have G:=Rz (dg q.den) (by unfold Short;omega);rw[iL (jM (by have:=h.2;omega))]at G;have J:=ahy q.num.natAbs q.den (by have:=h.1;omega) (by have:=h.2;omega);rw[q.reduced]at J;have O:=ari (dg 1) (VN (by decide));rw[sS ((Pz 1).mpr rfl)]at O;have Y:(((dg q.den).length:Int)==0)=false:=by rw[sW];have:=rM (oZ q.den_nz);omega
 have c1:¬(24:Int)<((dg q.num.natAbs).length:Int):=by omega
 have c2:¬(24:Int)<((dg q.den).length:Int):=by omega
 unfold cQ;rw[mW,nK [.tmp 2] [] func177];simp only[go_sem,vw]at E;simp only[go_sem,E,G,J,O,Y,c1,c2]
theorem alk(q:Rat)(d:Nat)(hb:ln (q.num*d).natAbs<=60):fn Ze conv ext 196 [Bo (decide (q.num<0)),LI (dg (q.num.natAbs*d))]=some (.agg (cZ (q.num*d))):=by
 have e:Az (decide (q.num<0)) (q.num.natAbs*d)=q.num*d:=by
  have h:=dY q.num
  conv=>rhs;rw[<- h]
  unfold Az
  by_cases E:q.num<0
  .rw[sS E,sZ rfl,sZ rfl,zC,Int.neg_mul]
  .rw[sQ E,su (by decide),su (by decide),zC]
 rw[uh,xA]at hb;rw[MS _ _ hb,e]
theorem Ln.up{k:Nat}{q:Rat}(h:Ln k q)(E:k<=24):ln q.num.natAbs<=1000000/\ln q.den<=1000000:=⟨by have:=h.1;omega,by have:=h.2;omega⟩
theorem abV{a b:Nat}(x y:Rat)(E:Ln a x)(G:Ln b y)(a6:a+b<=23):fn Ze conv ext 231 [.agg (cQ x),.agg (cQ y)]=some (.agg (cQ (x+y))):=by
 have n1:=jk E G;have n2:=jk G E;have a7:=Ny E G;have J:=E.up (by omega);have O:=G.up (by omega);have o1:=PG x.den J.2;have S:=PG y.den O.2;have k1:=fC x.num.natAbs y.den J.1 O.2;have k2:=fC y.num.natAbs x.den O.1 J.2;have k3:=fC x.den y.den J.2 O.2;have k4:=alk x y.den (by omega);have k5:=alk y x.den (by omega);have n3:=Ir (x.num*y.den) (y.num*x.den);have k6:=VU (x.num*y.den) (y.num*x.den) (by omega) (by omega) (by omega);have k7:=TD (x.num*y.den+y.num*x.den) (x.den*y.den) (by omega) (dd0 x y) (by omega) (decide (x.num*y.den+y.num*x.den<0)) (x.num*y.den+y.num*x.den).natAbs (dY _);rw[<- Rat.add_def']at k7;rw[mW,nK [.cell 4 161] [] func231]
 by_cases Y:x.den=1
 .by_cases h2:y.den=1
  .have n4:=Ir x.num y.num
   have a8:=E.1;have b2:=G.1;have m1:=VU x.num y.num J.1 O.1 (by omega);have m2:=TD (x.num+y.num) 1 (by omega) (by decide) (by have:=jh (n:=1) (by decide);omega) (decide (x.num+y.num<0)) (x.num+y.num).natAbs (dY _);have e:mkRat (x.num+y.num) 1=x+y:=by rw[Rat.add_def',Y,h2];simp
   rw[e,oW (d:=1) (by decide) (by decide)]at m2;have a1:fn Ze conv ext 275 [Bo (decide (x.num+y.num<0)),LI (dg (x.num+y.num).natAbs),.ts [I 1] 1]=some (.agg (cQ (x+y))):=m2
   rw[sS Y]at o1;rw[sS h2]at S;unfold cZ at *;unfold cQ at *;simp only[go_sem,o1,S,m1,a1]
  .rw[sS Y]at o1
   rw[sQ h2]at S;unfold cZ at *;unfold cQ at *;simp only[go_sem,o1,S,k1,k2,k3,k4,k5,k6,k7]
 .rw[sQ Y]at o1
  unfold cZ at *;unfold cQ at *;simp only[go_sem,o1,k1,k2,k3,k4,k5,k6,k7]
theorem ame{x y:Rat}{k l:Nat}(h:Ln k x)(E:Ln l y):ln (x.num.natAbs*y.num.natAbs)<=k+l:=by
 have:=jo x.num.natAbs y.num.natAbs;have:=h.1;have:=E.1;omega
theorem TG(b:Bool)(n:Nat):(Az b n).natAbs=n:=by unfold Az;split<;>omega
theorem asM{a b:Nat}(x y:Rat)(E:Ln a x)(G:Ln b y)(Y:a+b<=24):fn Ze conv ext 273 [.agg (cQ x),.agg (cQ y)]=some (.agg (cQ (x*y))):=by
 have J:=E.up (by omega);have O:=G.up (by omega);have n1:=ame E G;have n2:=Ny E G;have k1:=fC x.num.natAbs y.num.natAbs J.1 O.1;have k2:=fC x.den y.den J.2 O.2;have S:=TD (Az (decide (x.num<0) !=decide (y.num<0)) (x.num.natAbs*y.num.natAbs)) (x.den*y.den) (by rw[TG];omega) (dd0 x y) (by omega) _ _ rfl;rw[<- abA]at S;have e:∀a b:Bool,(!a==b)=(a !=b):=by decide
 unfold cQ at *;rw[mW,nK [.cell 4 161] [] func273];simp only[go_sem,k1,k2,S,e]
theorem amf{a b:Nat}(x y:Rat)(E:Ln a x)(G:Ln b y)(Y:a+b<=24)(h0:y.num≠0):fn Ze conv ext 279 [.agg (cQ x),.agg (cQ y)]=some (.agg (cQ (x / y))):=by
 have J:=E.up (by omega);have O:=G.up (by omega);have o1:=TF x (E.mono (by omega));have o2:=TF y (G.mono (by omega));have n1:=jo x.num.natAbs y.den;have n2:=jo x.den y.num.natAbs;have:=E.1;have:=E.2;have:=G.1;have:=G.2;have k1:=fC x.num.natAbs y.den J.1 O.2;have k2:=fC x.den y.num.natAbs J.2 O.1;have S:=TD (Az (decide (x.num<0) !=decide (y.num<0)) (x.num.natAbs*y.den)) (x.den*y.num.natAbs) (by rw[TG];omega) (Nat.mul_ne_zero x.den_nz (by omega)) (by omega) _ _ rfl;rw[<- agb x y h0]at S;have e:∀a b:Bool,(!a==b)=(a !=b):=by decide
 unfold cQ at *;rw[mW,nK [.cell 4 161] [] func279];simp only[go_sem,o1,o2,k1,k2,S,e]
theorem ahI(x y:Int)(O:ln x.natAbs<=1000000)(S:ln y.natAbs<=1000000):fn Ze conv ext 195 [.agg (cZ x),.agg (cZ y)]=some (I (Ah x y)):=by
 have Y:=VQ x.natAbs y.natAbs O S;have k2:=VQ y.natAbs x.natAbs S O;rw[mW,nK [.tmp 4] [] func195];unfold cZ at *
 by_cases G:x<0<;>by_cases J:y<0
 .have e:AU y.natAbs x.natAbs=Ah x y:=by
   unfold AU Ah
   by_cases h:x<y
   .rw[sZ (show y.natAbs<x.natAbs by omega),sZ h]
   .rw[su (show ¬y.natAbs<x.natAbs by omega),su h]
    by_cases E:x=y
    .rw[sZ (by omega),sZ E]
    .rw[su (by omega),su E]
  rw[e]at k2;rw[sS G,sS J];simp only[go_sem,k2]
 .have e:Ah x y= -1:=by unfold Ah;rw[sZ (by omega)]
  rw[sS G,sQ J,e];simp only[go_sem]
 .have e:Ah x y=1:=by unfold Ah;rw[su (by omega),su (by omega)]
  rw[sQ G,sS J,e];simp only[go_sem]
 .have e:AU x.natAbs y.natAbs=Ah x y:=by
   unfold AU Ah
   by_cases h:x<y
   .rw[sZ (show x.natAbs<y.natAbs by omega),sZ h]
   .rw[su (show ¬x.natAbs<y.natAbs by omega),su h]
    by_cases E:x=y
    .rw[sZ (by omega),sZ E]
    .rw[su (by omega),su E]
  rw[e]at Y;rw[sQ G,sQ J];simp only[go_sem,Y]
theorem ahJ{a b:Nat}(x y:Rat)(E:Ln a x)(G:Ln b y)(S:a+b<=60)(Y:a<=24)(hb:b<=24):fn Ze conv ext 132 [.agg (cQ x),.agg (cQ y)]=some (I (Ah (x.num*y.den) (y.num*x.den))):=by
 have J:=E.up Y;have O:=G.up hb;have n1:=jk E G;have n2:=jk G E;have k1:=fC x.num.natAbs y.den J.1 O.2;have k2:=fC y.num.natAbs x.den O.1 J.2;have k3:=alk x y.den (by omega);have k4:=alk y x.den (by omega);have k5:=ahI (x.num*y.den) (y.num*x.den) (by omega) (by omega);unfold cZ at *;unfold cQ at *;rw[mW,nK [.tmp 4] [] func132];simp only[go_sem,k1,k2,k3,k4,k5]
theorem fB(x:Rat)(S:Ln 24 x):fn Ze conv ext 117 [.agg (cQ x)]=some (I (Ah x.num 0)):=by
 have J:=TF x S;have main:∀m:List Int,fn Ze conv ext 177 [.agg [Bo (decide (x.num<0)),LI m,LI (dg x.den)]]=some (Bo true)->m=[]->fn Ze conv ext 117 [.agg [Bo (decide (x.num<0)),LI m,LI (dg x.den)]]=some (I 0):=fun m k hm=>by
  have E:((m.length:Int)==0)=true:=by rw[hm];rfl
  rw[mW,nK [.tmp 2] [] func117];simp only[go_sem,k,E]
 unfold cQ at *
 by_cases O:x.num=0
 .have e:Ah x.num 0=0:=by rw[O];rfl
  rw[e];exact main _ J (by rw[O,Int.natAbs_zero,oQ])
 rw[mW,nK [.tmp 2] [] func117]
 .have E:(((dg x.num.natAbs).length:Int)==0)=false:=by rw[sW];have:=rM (oZ (n:=x.num.natAbs) (by omega));omega
  by_cases G:x.num<0
  .have e:Ah x.num 0= -1:=by unfold Ah;rw[sZ G]
   rw[sS G]at *;simp only[go_sem,J,E,e]
  .have e:Ah x.num 0=1:=by unfold Ah;rw[su G,su (by omega)]
   rw[sQ G]at *;simp only[go_sem,J,E,e]
theorem ao0(x:Rat)(E:Ln 24 x):fn Ze conv ext 188 [.agg (cQ x)]=some (.agg (cQ x)):=by
 have l1:(dg x.num.natAbs).length<=24:=E.1;have l2:(dg x.den).length<=24:=E.2;have G:¬(dg x.den).length=0:=rM (oZ x.den_nz);have J:(dg x.den).length<=maxLen/\(dg x.den).length*8<=140737488355328:=by unfold maxLen;omega
 have S:(dg x.num.natAbs).length<=maxLen/\(dg x.num.natAbs).length*8<=140737488355328:=by unfold maxLen;omega
 unfold cQ;rw[mW,nK [.cell 2 161] [1] func188]
 by_cases O:(dg x.num.natAbs).length=0
 .have Y:dg x.num.natAbs=[]:=zZ O
  rw[Y]
  (simp only[go_sem,G,J])<;>rfl
 .simp only[go_sem,G,J,O,S]
def DU{α:Type}(W L:List α)(c:Nat):List α:=W.take c++L.drop c
section
variable {α:Type} {W L:List α} {c:Nat}
theorem JD(W L:List α):DU W L 0=L:=by simp[DU]
theorem jS(h:W.length=L.length)(hc:c<=L.length):(DU W L c).length=L.length:=by unfold DU;simp;omega
theorem IJ(h:W.length=L.length)(hc:c<L.length):(DU W L c)[c]'(by rw[jS h (by omega)];exact hc)=L[c]:=by
 have:(DU W L c)[c]?=L[c]?:=by
  unfold DU;rw[zN (by simp;omega),xq];congr 1;simp;omega
 rw[zy (by rw[jS h (by omega)];exact hc),zy hc]at this;exact Option.some.inj this
theorem IK(h:W.length=L.length)(hc:c<L.length):(DU W L c).set c (W[c]'(by omega))=DU W L (c+1):=by
 unfold DU;have E:(W.take c).length=c:=by simp;omega
 rw[yF _ _ (by omega),E,yP,yU hc,wC,yN,zy (by omega),zF];rfl
theorem JE(h:W.length=L.length):DU W L L.length=W:=by
 unfold DU;rw[zo (by omega),xZ (zq _),zM]
theorem Qo(h:W.length=L.length)(hc:c<L.length)(e:W[c]'(by omega)=L[c]):DU W L c=DU W L (c+1):=by
 rw[<- IK h hc,e];have:=IJ h hc
 conv=>rhs;rw[<- this]
 rw[List.set_getElem_self]
end
theorem jH{q:Rat}:q.num=0↔q=0:=Rat.num_eq_zero
theorem aaJ(q:Rat):(Ah q.num 0 !=0)= !decide (q=0):=by rw[SC,decide_eq_decide.mpr jH]
theorem ahK(q:Rat):(Ah q.num 0==0)=decide (q=0):=by rw[NC,decide_eq_decide.mpr jH]
theorem alm{q:Rat}:0<q.num↔0<q:=by
 have E:=Rat.num_nonneg (q:=q);have G:=jH (q:=q);constructor
 .intro h
  have:0<=q:=E.mp (by omega);have:q≠0:=fun e=>by have:=G.mpr e;omega
  grind
 .intro h
  have g1:0<=q.num:=E.mpr (by grind);have g2:q.num≠0:=fun e=>by have:=G.mp e;grind
  omega
theorem TI(q:Rat):Ah q.num 0<=0↔¬0<q:=by rw[pX,alm]
theorem ahL{x t:List Rat}{f:Rat}{i:Nat}(h:i<x.length)(E:i<t.length):(KF x t f)[i]'(by unfold KF;rw[uD];omega)=x[i] - f*t[i]:=by simp only[KF,List.getElem_zipWith]
theorem lW{α:Type}{xs:List α}{k:Nat}(h:k<xs.length)(d:α):xs.getD k d=xs[k]:=by rw[zx,zy h];rfl
theorem ao1{σ:Store}{nx bi bR N k:Nat}{x t:List Rat}(hx:x.length=N+1)(ht:t.length=N+1)(hN:N<=1000)(hk:k<N+1)(bx:∀u∈x,Ln 6 u)(bt:∀v∈t,Ln 6 v)(h1:σ bi=some ⟨x.flatMap cQ,3,true⟩)(h2:σ bR=some ⟨t.flatMap cQ,3,true⟩)(a1:bi≠bR)(b2:bi<nx)(b3:bR<nx) :
  ∃σ' nx',ev Ze pI Ad 244 [.rs bi 0 (N+1),.rs bR 0 (N+1),I k] σ nx=some (.Au [],σ',nx')/\σ' bi=some ⟨(KF x t (x.getD k 0)).flatMap cQ,3,true⟩/\nx<=nx'/\∀b,b<nx->b≠bi->σ' b=σ b:=by
 obtain⟨f,ef⟩:∃f,f=x.getD k 0:=⟨_,rfl⟩;have S:x[k]'(by omega)=f:=by rw[ef,lW (by omega)]
 have bf:Ln 6 f:=by rw[<- S];exact bx _ (zu (by omega))
 have a3:=jL k;have a4:(k:Int)<((N+1:Nat):Int):=by omega
 have a6:=dS (c:=cQ) (s:=3) qQ x k (by omega);rw[S]at a6;have a7:=dN (c:=cQ) (s:=3) qQ x;rw[hx]at a7;have a8:k*3+3<=(N+1)*3:=by omega
 have k1:=fB f (bf.mono (by decide));rw[<- ef];rw[nK [] [7] func244]
 by_cases G:f=0
 .have Y:=ahK f
  rw[sS G]at Y;refine⟨upd σ nx (some ⟨cQ f,0,true⟩),nx+1,by simp only[go_sem,h1,a3,a4,a6,a7,a8,k1,Y,aC],?_,by omega,fun b hb _=>by rw[aH]⟩;rw[aH,h1];congr 3;subst G;apply yE
  .rw[qA (by omega)]
  .intro i g1 g2
   rw[ahL g1 (by omega)];grind
 .have Y:=ahK f
  rw[sQ G]at Y;obtain⟨W,eW⟩:∃W,W=KF x t f:=⟨_,rfl⟩;have b5:W.length=N+1:=by rw[eW,qA (by omega),hx]
  have E:W.length=x.length:=by omega
  have k2:=agc f (by have:=bf.1;omega) (by have:=bf.2;omega);rw[<- eW];obtain⟨s0,J⟩:∃s0,s0=upd (upd σ nx (some ⟨cQ f,0,true⟩)) (nx+1) (some ⟨cQ (-f),0,true⟩):=⟨_,rfl⟩;have X_:∀b,b<nx->s0 b=σ b:=fun b hb=>by rw[J,aH,aH]
  have b4:s0 (nx+1)=some ⟨cQ (-f),0,true⟩:=by rw[J,aF]
  simp only[go_sem,h1,a3,a4,a6,a7,a8,k1,Y,k2,aC,<- J];generalize hL:gI _ _=y;obtain⟨r,rfl,T',σ',nx',rfl,hn,hr,fr⟩:=pJ hL (N+1) (fun j st=>st.T 0= .rs bi 0 (N+1)/\st.T 1= .rs bR 0 (N+1)/\st.T 7= .rp (nx+1) 0/\st.T 19=I ((N+1:Nat):Int)/\st.T 20=I j/\nx+2<=st.nx/\st.σ bi=some ⟨(DU W x j).flatMap cQ,3,true⟩/\∀b,b<nx+2->b≠bi->st.σ b=s0 b)
   (fun r=>∃T σ' nx',r=(.exit 0,⟨T,σ',nx'⟩)/\nx+2<=nx'/\σ' bi=some ⟨W.flatMap cQ,3,true⟩/\∀b,b<nx+2->b≠bi->σ' b=s0 b) (by
    clear hL;rintro j ⟨T,O,m0⟩ hj ⟨t0,t1,t7,t19,t20,hm,hb,fr⟩;simp only at t0 t1 t7 t19 t20 hm hb;have g1:(j:Int)<((N+1:Nat):Int):=by omega
    have g2:=jL j;have g3:=Zl (n:=(j:Int)+1);have g4:=dS (c:=cQ) (s:=3) qQ (DU W x j) j (by rw[jS E (by omega)];omega);rw[IJ E (by omega)]at g4;have g5:=dN (c:=cQ) (s:=3) qQ (DU W x j);rw[jS E (by omega),hx]at g5;have g6:j*3+3<=(N+1)*3:=by omega
    have g7:=dS (c:=cQ) (s:=3) qQ t j (by omega);have g8:=dN (c:=cQ) (s:=3) qQ t;rw[ht]at g8;obtain⟨v,ev⟩:∃v,v=t[j]'(by omega):=⟨_,rfl⟩;obtain⟨u,eu⟩:∃u,u=x[j]'(by omega):=⟨_,rfl⟩;have bv:Ln 6 v:=by rw[ev];exact bt _ (zu (by omega))
    have bu:Ln 6 u:=by rw[eu];exact bx _ (zu (by omega))
    have hw:W[j]'(by omega)=u-f*v:=by subst eW;rw[ahL (by omega) (by omega),eu,ev]
    rw[<- ev]at g7;rw[<- eu]at g4;have e1:O bR=_:=(fr bR (by omega) (zD a1)).trans ((X_ bR b3).trans h2);have e2:O (nx+1)=_:=(fr (nx+1) (by omega) (by omega)).trans b4;have k3:=fB v (bv.mono (by decide));have l1:bi<m0:=by omega
    have l2:bR<m0:=by omega
    have l3:nx+1<m0:=by omega
    have s3:=aaJ v
    by_cases hv:v=0
    .rw[sS hv,vN]at s3
     refine .inl ⟨_,by simp only[go_sem,t0,t1,t7,t19,t20,hb,e1,g1,g2,g3,g6,g7,g8,k3,s3];rfl,?_⟩;simp only[go_sem,t0,t1,t7,t19];refine⟨rfl,hm,?_,fr⟩;rw[<- Qo E (by omega) (by rw[hw,<- eu,hv];grind)];exact hb
    .rw[sQ hv,wY]at s3
     have k4:=asM (-f) v (a:=6) (b:=6) ⟨by rw[Rat.neg_num,wH];exact bf.1,by rw[Rat.neg_den];exact bf.2⟩ bv (by decide);have k5:=abV u (-f*v) (a:=6) (b:=12) bu (aay (k:=6) (l:=6) ⟨by rw[Rat.neg_num,wH];exact bf.1,by rw[Rat.neg_den];exact bf.2⟩ bv (by decide)) (by decide);have c6:patch ((DU W x j).flatMap cQ) (j*3) (cQ (u+ -f*v))=(DU W x (j+1)).flatMap cQ:=by
      rw[iO qQ _ _ (by rw[jS E (by omega)];omega),show u+ -f*v=W[j]'(by omega) by rw[hw];grind,IK E (by omega)]
     refine .inl ⟨_,by simp only[go_sem,t0,t1,t7,t19,t20,hb,e1,e2,g1,g2,g3,g4,g5,g6,g7,g8,k3,s3,k4,k5,c6,l1,l2,l3];rfl,?_⟩;simp only[go_sem,t0,t1,t7,t19];refine⟨rfl,hm,fun b hb hn=>?_⟩;rw[aG _ _ hn];exact fr b hb hn) (by
    clear hL;rintro ⟨T,O,m0⟩ ⟨t0,t1,t7,t19,t20,hm,hb,fr⟩;simp only at t0 t1 t7 t19 t20 hm hb;refine⟨_,by simp only[go_sem,t19,t20,zk];rfl,by simp,_,_,_,rfl,hm,?_,fr⟩;rw[<- hx,JE E]at hb;exact hb) (by
    simp only[go_sem];refine⟨?_,fun _ _ _=>trivial⟩;rw[JD,X_ bi b2];exact h1)
  exact⟨σ',nx',by simp only[go_sem],hr,by omega,fun b hb hn=>(fr b (by omega) hn).trans (X_ b hb)⟩
theorem TJ{σ:Store}{nx bi bR N k:Nat}{x t:List Rat}(Y:x.length=N+1)(ht:t.length=N+1)(hN:N<=1000)(hk:k<N+1)(bx:∀u∈x,Ln 6 u)(bt:∀v∈t,Ln 6 v)(h1:σ bi=some ⟨x.flatMap cQ,3,true⟩)(h2:σ bR=some ⟨t.flatMap cQ,3,true⟩)(G:bi≠bR)(J:bi<nx)(O:bR<nx) :
  ∃S nx' σ',ev Ze pI Ad 244 [.rs bi 0 (N+1),.rs bR 0 (N+1),I k] (restrict σ [bi,bR]) nx=some (.Au [],S,nx')/\xI [bi,bR] nx nx' σ S=σ'/\σ' bi=some ⟨(KF x t (x.getD k 0)).flatMap cQ,3,true⟩/\nx<=nx'/\∀b,b<nx->b≠bi->σ' b=σ b:=by
 obtain⟨s2,nx',e,g1,g2,g3⟩:=ao1 (σ:=restrict σ [bi,bR]) Y ht hN hk bx bt ((gU σ bi bR).trans h1) ((Iu σ bi bR).trans h2) G J O;refine⟨s2,nx',_,e,rfl,?_,g2,fun b hb hn=>?_⟩
 .unfold xI;rw[sZ (.inl (by simp))];exact g1
 .unfold xI
  split
  .rename_i E
   rw[g3 b hb hn];unfold restrict;rcases E with E|E
   .rw[sZ E]
   .omega
  .rfl
def GV(σ:Store)(v:V)(n:Nat)(cs:List V):Prop:=(n=0/\v= .nil)\/∃b,0<n/\v= .rs b 0 n/\σ b=some ⟨cs,1,true⟩
def bk:V->List Nat
 | .rs b _ _=>[b]
 |_=>[]
def Eb(R:List (List Rat))(i:Nat):List Rat:=R.getD i []
structure EN (σ:Store) (bt bc:Nat) (vr vb:V) (rb:List Nat) (D:TQ) (N:Nat):Prop where
 t:σ bt=some ⟨[I N,vr,vb,.rs bc 0 (N+1)],0,true⟩
 r:GV σ vr D.R.length (rb.map fun b=>V.rs b 0 (N+1))
 row:∀i (h:i<rb.length),σ rb[i]=some ⟨(Eb D.R i).flatMap cQ,3,true⟩
 b:GV σ vb D.R.length ((BP D.B).flatMap cI)
 c:σ bc=some ⟨D.c.flatMap cQ,3,true⟩
 len:rb.length=D.R.length
 nd:(bt :: bc :: (bk vr++bk vb++rb)).Nodup
structure ShF (D:TQ) (N:Nat):Prop where
 row:∀x∈D.R,x.length=N+1
 A8:D.B.length=D.R.length
 F5:D.c.length=N+1
 F6:D.R.length<=1000
 sz:N<=1000
 big:∀x∈D.R,∀q∈x,Ln 6 q
 aln:∀q∈D.c,Ln 6 q
 inB:∀b∈D.B,b<1000000
theorem fF{R:List (List Rat)}{i:Nat}(h:i<R.length):Eb R i=R[i]:=lW h []
theorem fE{R:List (List Rat)}{n i:Nat}(hn:∀x∈R,x.length=n)(h:i<R.length):(Eb R i).length=n:=by rw[fF h];exact hn _ (zu h)
theorem abW{R:List (List Rat)}{r k i:Nat}(hi:i<R.length):Eb (DL R r k) i=if i=r then(Eb R i).map (· / BO R r k)else KF (Eb R i) ((Eb R r).map (· / BO R r k)) ((Eb R i).getD k 0):=by
 unfold Eb DL;simp only[zx,uO];rw[zy hi];rfl
theorem ahM{σ:Store}{nx bt bc:Nat}{vr vb:V}{rb:List Nat}{D:TQ}{N r k:Nat}(h:EN σ bt bc vr vb rb D N)(hs:ShF D N)(h2:ShF (Nl D r k) N)(S:∀b∈bt :: bc :: (bk vr++bk vb++rb),b<nx)(hr:r<D.R.length)(hk:k<N)(hp:BO D.R r k≠0) :
  ∃σ' nx',ev Ze pI Ad 243 [.rp bt 0,I r,I k] σ nx=some (.Au [],σ',nx')/\EN σ' bt bc vr vb rb (Nl D r k) N/\nx<=nx'/\∀b,b<nx->b∉bc :: (bk vb++rb)->σ' b=σ b:=by
 obtain⟨ht,h3,c0,h4,hc,hlen,c2⟩:=h;rcases h3 with ⟨h0,_⟩|⟨br,_,rfl,b2⟩
 .omega
 rcases h4 with ⟨h0,_⟩|⟨bb,_,rfl,h5⟩
 .omega
 simp only[bk,yY,yL]at S c2⊢;have hN:=hs.sz;have hR:=hs.F6;simp only[xw,zX,not_or]at c2;obtain⟨⟨n1,n2,n3,n4⟩,⟨n5,n6,n7⟩,⟨n8,n9⟩,c3,b6⟩:=c2;have SH:=S bt (by simp);have c9:=S bc (by simp);have SI:=S br (by simp);have h6:=S bb (by simp);have EK:∀j (E:j<rb.length),rb[j]<nx:=fun j E=>S _ (by simp[zu E])
 have c4:∀j (E:j<rb.length),rb[j]≠bt/\rb[j]≠bc/\rb[j]≠br/\rb[j]≠bb:=fun j E=>⟨fun e=>n4 (e ▸ zu E),fun e=>n7 (e ▸ zu E),fun e=>n9 (e ▸ zu E),fun e=>c3 (e ▸ zu E)⟩
 have O:r<rb.length:=by omega
 obtain⟨bR,X7⟩:∃bR,bR=rb[r]:=⟨_,rfl⟩;have h7:bR<nx:=by rw[X7];exact EK r O
 have nR:=c4 r O;rw[<- X7]at nR;obtain⟨t,et⟩:∃t,t=Eb D.R r:=⟨_,rfl⟩;have e0:σ bR=some ⟨t.flatMap cQ,3,true⟩:=by rw[X7,et];exact c0 r O
 have b7:t.length=N+1:=by rw[et];exact fE hs.row hr
 have e5:∀v∈t,Ln 6 v:=by rw[et,fF hr];exact hs.big _ (zu hr)
 obtain⟨p,ep⟩:∃p,p=BO D.R r k:=⟨_,rfl⟩;have e6:t[k]'(by omega)=p:=by rw[ep];unfold BO;rw[<- lW (by omega) 0,et];rfl
 have bp:Ln 6 p:=by rw[<- e6];exact e5 _ (zu (by omega))
 have h8:p.num≠0:=fun e=>hp (by rw[<- ep];exact jH.mp e)
 have a1:=jL r;have a2:(r:Int)<(D.R.length:Int):=by omega
 have a3:=jL k;have a4:(k:Int)<((N+1:Nat):Int):=by omega
 have a5:(rb.map fun b=>V.rs b 0 (N+1))[r]?=some (.rs bR 0 (N+1)):=by rw[z_,zy O,X7];rfl
 have a6:=dS (c:=cQ) (s:=3) qQ t k (by omega);rw[e6]at a6;have a7:=dN (c:=cQ) (s:=3) qQ t;rw[b7]at a7;have a8:k*3+3<=(N+1)*3:=by omega
 obtain⟨s0,c5⟩:∃s0,s0=upd σ nx (some ⟨cQ p,0,true⟩):=⟨_,rfl⟩;have X_:∀b,b<nx->s0 b=σ b:=fun b hb=>by rw[c5,aH]
 have h9:s0 nx=some ⟨cQ p,0,true⟩:=by rw[c5,aF]
 have e7:=(X_ bt SH).trans ht;have e8:=(X_ br SI).trans b2;obtain⟨W,eW⟩:∃W,W=t.map (· / p):=⟨_,rfl⟩;have e9:W.length=N+1:=by rw[eW,zV,b7]
 have Y:W.length=t.length:=by omega
 have b8:Eb (DL D.R r k) r=W:=by rw[abW hr,sZ rfl,<- et,<- ep,eW]
 have pl:=iK D.R r k;have bW:∀v∈W,Ln 6 v:=by
  rw[<- b8,fF (by omega)];exact h2.big _ (zu (l:=(Nl D r k).R) (by show r<(DL D.R r k).length;omega))
 rw[nK [] [4,10,12] func243];simp only[go_sem,ht,b2,e0,a1,a2,a3,a4,a5,a6,a7,a8,aC,<- c5,e7,e8];generalize hL:gI _ _=y;obtain⟨x,rfl,T1,G,m1,rfl,t0,t1,t2,i0,i1,i2⟩:=pJ hL (N+1) (fun j st=>st.T 0= .rp bt 0/\st.T 1=I r/\st.T 2=I k/\st.T 6= .rp nx 0/\st.T 26=I ((N+1:Nat):Int)/\st.T 27=I j/\nx+1<=st.nx/\st.σ bR=some ⟨(DU W t j).flatMap cQ,3,true⟩/\∀b,b<nx+1->b≠bR->st.σ b=s0 b)
  (fun x=>∃T σ' nx',x=(.exit 0,⟨T,σ',nx'⟩)/\T 0= .rp bt 0/\T 1=I r/\T 2=I k/\nx+1<=nx'/\σ' bR=some ⟨W.flatMap cQ,3,true⟩/\∀b,b<nx+1->b≠bR->σ' b=s0 b) (by
   clear hL;rintro j ⟨T,G,m0⟩ E ⟨t0,t1,t2,t6,t26,t27,hm,hb,fr⟩;simp only at t0 t1 t2 t6 t26 t27 hm hb;have g1:(j:Int)<((N+1:Nat):Int):=by omega
   have g2:=jL j;have g3:=Zl (n:=(j:Int)+1);have g4:=dS (c:=cQ) (s:=3) qQ (DU W t j) j (by rw[jS Y (by omega)];omega);rw[IJ Y (by omega)]at g4;have g5:=dN (c:=cQ) (s:=3) qQ (DU W t j);rw[jS Y (by omega),b7]at g5;have g6:j*3+3<=(N+1)*3:=by omega
   obtain⟨v,ev⟩:∃v,v=t[j]'(by omega):=⟨_,rfl⟩;have bv:Ln 6 v:=by rw[ev];exact e5 _ (zu (by omega))
   rw[<- ev]at g4;have e1:G bt=_:=(fr bt (by omega) (zD nR.1)).trans e7;have e2:G br=_:=(fr br (by omega) (zD nR.2.2.1)).trans e8;have e3:G nx=_:=(fr nx (by omega) (by omega)).trans h9;have l1:bt<m0:=by omega
   have l2:br<m0:=by omega
   have l3:nx<m0:=by omega
   have l4:bR<m0:=by omega
   have k1:=amf v p bv bp (by decide) h8;have c6:patch ((DU W t j).flatMap cQ) (j*3) (cQ (v / p))=(DU W t (j+1)).flatMap cQ:=by
    have hw:v / p=W[j]'(by omega):=by subst eW;rw[xK,ev]
    rw[iO qQ _ _ (by rw[jS Y (by omega)];omega),hw,IK Y (by omega)]
   refine .inl ⟨_,by simp only[go_sem,t0,t1,t2,t6,t26,t27,hb,e1,e2,e3,a1,a2,a5,g1,g2,g3,g4,g5,g6,k1,c6,l1,l2,l3,l4];rfl,?_⟩;simp only[go_sem,t0,t1,t2,t6,t26];refine⟨rfl,hm,fun b hb hn=>?_⟩;rw[aG _ _ hn];exact fr b hb hn) (by
   clear hL;rintro ⟨T,G,m0⟩ ⟨t0,t1,t2,t6,t26,t27,hm,hb,fr⟩;simp only at t0 t1 t2 t6 t26 t27 hm hb;refine⟨_,by simp only[go_sem,t26,t27,zk];rfl,by simp,_,_,_,rfl,?_⟩;simp only[go_sem,t0,t1,t2];refine⟨hm,?_,fr⟩;rw[<- b7,JE Y]at hb;exact hb) (by
   simp only[go_sem];refine⟨?_,fun _ _ _=>trivial⟩;rw[JD,X_ bR h7];exact e0)
 have b9:∀b,b<nx->b≠bR->G b=σ b:=fun b hb hn=>(i2 b (by omega) hn).trans (X_ b hb)
 have e1:G bt=_:=(b9 bt SH (zD nR.1)).trans ht;have e2:G br=_:=(b9 br SI (zD nR.2.2.1)).trans b2;simp only[go_sem,t0,t1,t2,e1];generalize hL:gI _ _=y;obtain⟨x,rfl,T2,σ2,m2,rfl,t0,t1,t2,j0,Ep,Fv⟩:=pJ hL D.R.length (fun i st=>st.T 0= .rp bt 0/\st.T 1=I r/\st.T 2=I k/\st.T 56=I D.R.length/\st.T 57=I i/\nx+1<=st.nx/\(∀j (E:j<rb.length),st.σ rb[j]=some ⟨(if j<i\/j=r then Eb (DL D.R r k) j else Eb D.R j).flatMap cQ,3,true⟩)/\∀b,b<nx->b∉rb->st.σ b=σ b)
  (fun x=>∃T σ' nx',x=(.exit 2,⟨T,σ',nx'⟩)/\T 0= .rp bt 0/\T 1=I r/\T 2=I k/\nx+1<=nx'/\(∀j (E:j<rb.length),σ' rb[j]=some ⟨(Eb (DL D.R r k) j).flatMap cQ,3,true⟩)/\∀b,b<nx->b∉rb->σ' b=σ b) (by
   clear hL;rintro i ⟨T,σ2,m0⟩ hi ⟨t0,t1,t2,t56,t57,hm,rows,fr⟩;simp only at t0 t1 t2 t56 t57 hm rows;have g1:(i:Int)<(D.R.length:Int):=by omega
   have g2:=jL i;have g3:=Zl (n:=(i:Int)+1);have b3:i<rb.length:=by omega
   by_cases X3:i=r
   .have c1:((i:Int) !=(r:Int))=false:=by rw[X3];simp
    refine .inl ⟨_,by simp only[go_sem,t0,t1,t2,t56,t57,g1,g3,c1];rfl,?_⟩;simp only[go_sem,t0,t1,t2,t56];refine⟨rfl,hm,fun j E=>?_,fr⟩;rw[rows j E]
    by_cases J:j=r
    .rw[sZ (.inr J),sZ (.inr J)]
    .by_cases i3:j<i
     .rw[sZ (.inl i3),sZ (.inl (by omega))]
     .rw[su (by omega),su (by omega)]
   .have c1:((i:Int) !=(r:Int))=true:=by rw[bne_iff_ne];omega
    obtain⟨bi,EX⟩:∃bi,bi=rb[i]:=⟨_,rfl⟩;have j1:bi<nx:=by rw[EX];exact EK i b3
    have ni:=c4 i b3;rw[<- EX]at ni;have i4:bi≠bR:=fun e=>X3 (by rw[EX,X7]at e;exact(ug b6).mp e)
    have b5:(rb.map fun b=>V.rs b 0 (N+1))[i]?=some (.rs bi 0 (N+1)):=by rw[z_,zy b3,EX];rfl
    have i5:σ2 bi=some ⟨(Eb D.R i).flatMap cQ,3,true⟩:=by rw[EX,rows i b3,su (by omega)]
    have c7:σ2 bR=some ⟨W.flatMap cQ,3,true⟩:=by rw[X7,rows r O,sZ (.inr rfl),b8]
    have e1:σ2 bt=_:=(fr bt SH n4).trans ht;have e2:σ2 br=_:=(fr br SI n9).trans b2;have l1:bt<m0:=by omega
    have l2:br<m0:=by omega
    have l3:bi<m0:=by omega
    have l4:bR<m0:=by omega
    have z1:(bt==bi)=false:=beq_false_of_ne (zD ni.1);have z2:(bt==bR)=false:=beq_false_of_ne (zD nR.1);have z3:(br==bi)=false:=beq_false_of_ne (zD ni.2.2.1);have z4:(br==bR)=false:=beq_false_of_ne (zD nR.2.2.1);obtain⟨s3,m3,b4,kc,pe,q1,q2,q3⟩:=TJ (σ:=σ2) (nx:=m0) (k:=k) (fE hs.row hi) e9 hN (by omega) (by rw[fF hi];exact hs.big _ (zu hi)) bW i5 c7 i4 l3 l4;refine .inl ⟨_,by simp only[go_sem,t0,t1,t2,t56,t57,e1,e2,a1,a2,a5,b5,g1,g2,g3,c1,l1,l2,l3,l4,z1,z2,z3,z4,kc,pe];rfl,?_⟩;simp only[go_sem,t0,t1,t2,t56];refine⟨rfl,by omega,fun j E=>?_,fun b hb hn=>?_⟩
    .by_cases h1:j=i
     .subst h1
      rw[<- EX,q1,sZ (.inl (by omega)),abW hi,su X3,<- et,<- ep,<- eW]
     .have i6:rb[j]≠bi:=fun e=>h1 (by rw[EX]at e;exact(ug b6).mp e)
      rw[q3 _ (by have:=EK j E;omega) i6,rows j E]
      by_cases J:j<i\/j=r
      .rw[sZ J,sZ (by omega)]
      .rw[su J,su (by omega)]
    .rw[q3 b (by omega) (fun e=>hn (by rw[e,EX];exact zu b3))]
     exact fr b hb hn) (by
   clear hL;rintro ⟨T,σ2,m0⟩ ⟨t0,t1,t2,t56,t57,hm,rows,fr⟩;simp only at t0 t1 t2 t56 t57 hm rows;refine⟨_,by simp only[go_sem,t56,t57,zk];rfl,by simp,_,_,_,rfl,?_⟩;simp only[go_sem,t0,t1,t2];refine⟨hm,fun j E=>?_,fr⟩;rw[rows j E,sZ (.inl (by omega))]) (by
   simp only[go_sem,t0,t1,t2];refine⟨i0,fun j E=>?_,fun b hb hn=>b9 b hb fun e=>hn (by rw[e,X7];exact zu O)⟩
   by_cases J:j=r
   .subst J
    rw[sZ (.inr rfl),b8,<- X7];exact i1
   .rw[su (by omega),b9 _ (EK j E) (fun e=>J (by rw[X7]at e;exact(ug b6).mp e))]
    exact c0 j E)
 have e1:σ2 bt=_:=(Fv bt SH n4).trans ht;have e2:σ2 br=_:=(Fv br SI n9).trans b2;have e3:σ2 bc=_:=(Fv bc c9 n7).trans hc;have c7:σ2 bR=some ⟨W.flatMap cQ,3,true⟩:=by rw[X7,Ep r O,b8]
 have l1:bt<m2:=by omega
 have l2:br<m2:=by omega
 have l3:bc<m2:=by omega
 have l4:bR<m2:=by omega
 have z1:(bt==bc)=false:=beq_false_of_ne n1;have z2:(bt==bR)=false:=beq_false_of_ne (zD nR.1);have z3:(br==bc)=false:=beq_false_of_ne (zD n5);have z4:(br==bR)=false:=beq_false_of_ne (zD nR.2.2.1);obtain⟨s3,m3,b4,kc,pe,q1,q2,q3⟩:=TJ (σ:=σ2) (nx:=m2) (k:=k) hs.F5 e9 hN (by omega) hs.aln bW e3 c7 (zD nR.2.1) l3 l4;have d1:b4 bt=_:=(q3 bt l1 n1).trans e1;have d2:b4 bb=_:=(q3 bb (by omega) (zD n6)).trans ((Fv bb h6 c3).trans h5);have hB:(BP D.B).length=D.R.length:=by rw[aV];exact hs.A8
 have i7:r<(BP D.B).length:=by omega
 have i9:((BP D.B).flatMap cI).set r (I k)=(BP (D.B.set r k)).flatMap cI:=by
  rw[qV];unfold BP;rw[List.map_set]
 obtain⟨Df,e4⟩:∃Df,Df=upd b4 bb (some ⟨(BP (D.B.set r k)).flatMap cI,1,true⟩):=⟨_,rfl⟩;have f4:∀b,b<nx->b≠bb->Df b=b4 b:=fun b _ hn=>by rw[e4,aG _ _ hn]
 have c8:(Nl D r k).R.length=D.R.length:=pl;refine⟨Df,m3,by simp only[go_sem,t0,t1,t2,e1,e2,e3,a1,a2,a5,l1,l2,l3,l4,z1,z2,z3,z4,kc,pe,d1,d2,i7,i9,<- e4],⟨?_,?_,fun j E=>?_,?_,?_,by rw[c8];exact hlen,?_⟩,by omega,fun b hb hn=>?_⟩
 .rw[f4 bt SH n3];exact d1
 .rw[c8]
  exact .inr ⟨br,by omega,rfl,by rw[f4 br SI n8,q3 br l2 (zD n5)];exact e2⟩
 .have:=c4 j E
  rw[f4 _ (EK j E) this.2.2.2,q3 _ (by have:=EK j E;omega) this.2.1];exact Ep j E
 .rw[c8]
  exact .inr ⟨bb,by omega,rfl,by rw[e4,aF];rfl⟩
 .rw[f4 bc c9 n6,q1,eW,et,ep]
  rfl
 .simp only[bk,yY,yL,xw,zX,not_or]
  exact⟨⟨n1,n2,n3,n4⟩,⟨n5,n6,n7⟩,⟨n8,n9⟩,c3,b6⟩
 .simp only[zX,not_or]at hn
  rw[f4 b hb hn.2.1,q3 b (by omega) hn.1,Fv b hb hn.2.2]
def Qq(x:List Rat):List V:=[LL cQ x]
def Fz(D:TQ)(N:Nat):List V:=[I N,LL Qq D.R,LI (BP D.B),LL cQ D.c]
def Oe(D:TQ)(N:Nat):V:=.tp (Fz D N) 0
theorem Qr{R:List (List Rat)}{i:Nat}(h:i<R.length):(R.flatMap Qq)[i]?=some (LL cQ (Eb R i)):=by
 have:=dR (fun x=>LL cQ x) R i h;rw[fF h];exact this
theorem oN{R:List (List Rat)}{i j:Nat}(h:j<(Eb R i).length):(Eb R i)[j]=BO R i j:=(lW h 0).symm
theorem qH{R:List (List Rat)}{i j:Nat}(E:j<(Eb R i).length):(((Eb R i).flatMap cQ).drop (j*3)).take 3=cQ (BO R i j):=by
 rw[dS qQ (Eb R i) j E,oN E]
theorem ao5{D:TQ}{N:Nat}(hl:D.B.length<=100000)(s:Nat):fn Ze conv ext 240 [Oe D N,I s]=some (Bo (decide (s∈D.B))):=by
 have tl:=aV D.B;unfold Oe Fz;rw[mW,nK [.tmp 4] [] func240];simp only[go_sem];generalize hL:gI _ _=y;obtain⟨r,rfl,hr⟩:=pJ hL (BP D.B).length (fun k st=>st.T 1=I s/\st.T 10=LI (BP D.B)/\st.T 11=I (BP D.B).length/\st.T 12=I k/\∀i (h:i<D.B.length),i<k->D.B[i]≠s)
  (fun r=>(∃T σ nx,r=(.exit 0,⟨T,σ,nx⟩)/\s∉D.B)\/(∃T σ nx,r=(.ret,⟨T,σ,nx⟩)/\T 4=Bo true/\s∈D.B)) (by
   clear hL;rintro k ⟨T,σ,nx⟩ Y ⟨S,G,E,J,hi⟩;simp only at S G E J;have f1:(k:Int)<((BP D.B).length:Int):=by omega
   have f2:=jL k;have f3:=Zl (n:=(k:Int)+1);have f5:=Aw (BP D.B) k Y;have O:k<D.B.length:=by omega
   have f6:=idx Y;rw[aW O,lW O 0]at f6
   by_cases hp:D.B[k]=s
   .have c1:((D.B[k]:Int)==(s:Int))=true:=by rw[beq_iff_eq];omega
    refine .inr ⟨_,by simp only[go_sem,S,G,E,J,f1,f2,f5,f6,c1];rfl,by simp,.inr ⟨_,_,_,rfl,?_⟩⟩;simp only[go_sem];rw[<- hp];exact zu O
   .have c1:((D.B[k]:Int)==(s:Int))=false:=by rw[sW];omega
    refine .inl ⟨_,by simp only[go_sem,S,G,E,J,f1,f2,f3,f5,f6,c1];rfl,?_⟩;simp only[go_sem,S,G,E];refine⟨rfl,fun i h a1=>?_⟩
    by_cases e:i=k
    .subst e;exact hp
    .exact hi i h (by omega)) (by
   clear hL;rintro ⟨T,σ,nx⟩ ⟨S,G,E,J,hi⟩;simp only at S G E J;refine⟨_,by simp only[go_sem,E,J,zk];rfl,by simp,.inl ⟨_,_,_,rfl,fun hm=>?_⟩⟩;obtain⟨i,h,e⟩:=yV hm;exact hi i h (by omega) e) (by
   simp only[go_sem];exact fun i _ h=>absurd h (zU _))
 rcases hr with ⟨T,σ,nx,rfl,hx⟩|⟨T,σ,nx,rfl,h4,hx⟩
 .rw[sQ hx];simp only[go_sem]
 .rw[sS hx];simp only[go_sem,h4]
theorem fU{q j:Nat}:∀ {R:List (List Rat)} {B:List Nat},(∀b∈B,b≠q)->Ip q j R B=0
 |[],_,_=>by cases ‹List Nat›<;>rfl
 |_ :: _,[],_=>rfl
 |x :: R,b :: B,h=>by
  show(if b=q then x.getD j 0 else 0)+Ip q j R B=0;rw[su (h b zQ),fU fun c hc=>h c (zY _ hc)];grind
theorem Xv{q j:Nat}:∀ {R:List (List Rat)} {B:List Nat} {i:Nat},B.Nodup->B.length=R.length->(h:i<B.length)->B[i]=q->Ip q j R B=BO R i j
 |[],B,i,_,hl,h,_=>by rw[wz]at hl;omega
 |_ :: _,[],i,_,hl,h,_=>by simp at h
 |x :: R,b :: B,0,hn,hl,h,e=>by
  show(if b=q then x.getD j 0 else 0)+Ip q j R B=_;have e:b=q:=e;rw[xw]at hn;rw[sZ e,fU fun c hc J=>hn.1 (by rw[e,<- J];exact hc)];show x.getD j 0+0=x.getD j 0;grind
 |x :: R,b :: B,i+1,hn,hl,h,e=>by
  show(if b=q then x.getD j 0 else 0)+Ip q j R B=_;rw[xw]at hn;have E:i<B.length:=by simpa using h
  have G:B[i]=q:=e;rw[su fun hb=>hn.1 (by rw[hb,<- G];exact zu E),Xv hn.2 (by simpa using hl) E G];show 0+BO R i j=BO R i j;grind
theorem Og{g:Nat->Rat}{q:Nat}(G:Zr q g)(J:g q≠0):∀ {d:Nat},q<d->(Lp d g↔0<g q)
 |0,h=>absurd h (zU _)
 |d+1,h=>by
  show(Lp d g\/(Zr d g/\0<g d))↔_
  by_cases e:q=d
  .subst e
   constructor
   .rintro (E|E)
    .exact absurd G E.Gl
    .exact E.2
   .exact fun E=> .inr ⟨G,E⟩
  .have O:=Og G J (d:=d) (by omega)
   constructor
   .rintro (E|E)
    .exact O.mp E
    .exact absurd (E.1 q (by omega)) J
   .exact fun E=> .inl (O.mpr E)
def TK(D:TQ)(s k:Nat)(z:Int):Prop:=(z=0/\Zr (k+1) (K_ D s))\/(z≠0/\∃q,q<=k/\Zr q (K_ D s)/\K_ D s q≠0/\(0<z↔0<K_ D s q))
theorem Xw(q:Rat):0<Ah q.num 0↔0<q:=by
 have:=TI q;constructor
 .intro h;exact zf fun hn=>by have:=this.mpr hn;omega
 .intro h
  have E:¬Ah q.num 0<=0:=fun e=>this.mp e h
  omega
theorem TL(q:Rat):Ah q.num 0=0↔q=0:=by
 have:=ahK q;constructor
 .intro h;rw[h]at this;exact of_decide_eq_true this.symm
 .intro h;rw[sS h]at this;exact beq_iff_eq.mp this
theorem TK.zero(D:TQ)(s:Nat):TK D s 0 (Ah (D.c.getD s 0).num 0):=by
 have e:K_ D s 0=D.c.getD s 0:=rfl
 by_cases h:D.c.getD s 0=0
 .refine .inl ⟨(TL _).mpr h,fun q E=>?_⟩
  have:q=0:=by omega
  subst this;rw[e,h]
 .exact .inr ⟨fun G=>h ((TL _).mp G),0,zq _,fun q E=>absurd E (zU _),by rw[e];exact h,by rw[e];exact Xw _⟩
theorem TK.next{D:TQ}{s k:Nat}(h:TK D s k 0){w:Rat}(hw:K_ D s (k+1)=w):TK D s (k+1) (Ah w.num 0):=by
 rcases h with ⟨_,G⟩|⟨h,_⟩
 .by_cases E:w=0
  .exact .inl ⟨(TL _).mpr E,Zr.succ.mpr ⟨G,by rw[hw,E]⟩⟩
  .exact .inr ⟨fun J=>E ((TL _).mp J),k+1,zq _,G,by rw[hw];exact E,by rw[hw];exact Xw _⟩
 .exact absurd rfl h
theorem TK.pos{D:TQ}{s k d:Nat}{z:Int}(h:TK D s k z)(hd:k<d)(J:z=0->k+1=d):0<z↔Lp d (K_ D s):=by
 rcases h with ⟨G,E⟩|⟨G,q,E,O,S,Y⟩
 .subst G
  rw[J rfl]at E;exact⟨fun h=>absurd h (by decide),fun h=>absurd E h.Gl⟩
 .rw[Y,Og O S (by omega)]
theorem asO{D:TQ}{N:Nat}(h:ShF D N)(a8:D.B.Nodup){s:Nat}(hs:s<N)(b2:s∉D.B)(lex:Bool) :
  ∃z,fn Ze conv ext 241 [Oe D N,I s,Bo lex]=some (I z)/\(0<z↔Lp (if lex=true then N+1 else 1) (K_ D s)):=by
 have hN:=h.sz;have tl:(BP D.B).length=D.R.length:=by rw[aV];exact h.A8
 have hR:=h.F6;have a1:=jL s;have a2:(s:Int)<(D.c.length:Int):=by have:=h.F5;omega
 have a3:=dO (c:=cQ) (s:=3) qQ (by omega) D.c s (by have:=h.F5;omega);have a4:=dS (c:=cQ) (s:=3) qQ D.c s (by have:=h.F5;omega);rw[<- lW (by have:=h.F5;omega) 0]at a4;have a5:=dN (c:=cQ) (s:=3) qQ D.c;have a6:s*3+3<=D.c.length*3:=by have:=h.F5;omega
 have b3:Ln 6 (D.c.getD s 0):=by rw[lW (by have:=h.F5;omega)];exact h.aln _ (zu _)
 have k1:=fB (D.c.getD s 0) (b3.mono (by decide));unfold Oe Fz;rw[mW,nK [.tmp 6] [] func241];simp only[go_sem,a1,a2,a3,a4,a5,a6,k1];have b5:=h.F5;have m1:((0:Int)==0)=true:=by decide
 generalize O:gI _ _=y;obtain⟨x,rfl,hx⟩:=pJ O N (fun k st=>st.T 0= .tp (Fz D N) 0/\st.T 1=I s/\st.T 2=Bo lex/\st.T 8=I k/\(lex=false->k=0)/\∃z,st.T 7=I z/\TK D s k z)
  (fun x=>(∃T σ nx z,x=(.exit 0,⟨T,σ,nx⟩)/\T 7=I z/\(0<z↔Lp (if lex=true then N+1 else 1) (K_ D s)))\/(∃T σ nx,x=(.ret,⟨T,σ,nx⟩)/\T 6=I (-1)/\¬Lp (if lex=true then N+1 else 1) (K_ D s))) (by
   clear O;rintro k ⟨T,σ,nx⟩ hk ⟨t0,t1,t2,t8,G,z,t7,E⟩;simp only at t0 t1 t2 t8 t7;unfold Fz at t0;have f1:(k:Int)<(N:Int):=by omega
   have f2:=jL k;have f3:=Zl (n:=(k:Int)+1)
   by_cases z0:z=0
   .subst z0
    cases lex with
    |false=>
     have b4:=G rfl;subst b4;refine .inr ⟨_,by simp only[go_sem,t0,t1,t2,t8,t7,m1];rfl,by simp,.inl ⟨_,_,_,0,rfl,?_⟩⟩;simp only[go_sem,t7];exact E.pos (by decide) fun _=>rfl
    |true=>
     by_cases a7:k=s
     .have c1:((k:Int)==(s:Int))=true:=by rw[a7];simp
      refine .inr ⟨_,by simp only[go_sem,t0,t1,t2,t8,t7,m1,f1,c1];rfl,by simp,.inr ⟨_,_,_,rfl,?_⟩⟩;simp only[go_sem];have e:K_ D s (s+1)= -1:=by
       unfold K_;rw[su (by omega),sZ rfl];show -1+Ip s s D.R D.B= -1;rw[fU fun b hb (e:b=s)=>b2 (by rw[<- e];exact hb)];grind
      rw[a7]at E;rcases E with ⟨_,E⟩|⟨E,_⟩
      .rw[Og E (by rw[e];decide) (by omega),e];decide
      .exact absurd rfl E
     .have c1:((k:Int)==(s:Int))=false:=by rw[sW];omega
      have eg:K_ D s (k+1)=Ip k s D.R D.B:=by
       unfold K_;rw[su (by omega),su (by omega)];show 0+Ip k s D.R D.B=_;grind
      refine cu ?_
      conv=>
       enter [1,r,1,1]
       simp only[go_sem,t0,t1,t2,t8,t7,m1,f1,c1]
      generalize O:gI _ _=y;obtain⟨x,rfl,T1,b6,oI,rfl,t0,t1,t2,t8,t7⟩:=pJ O D.R.length (fun i st=>st.T 0= .tp (Fz D N) 0/\st.T 1=I s/\st.T 2=Bo true/\st.T 8=I k/\st.T 40=LI (BP D.B)/\st.T 41=I D.R.length/\st.T 42=I i/\∃w:Rat,st.T 7=I (Ah w.num 0)/\((∃j,∃J:j<D.B.length,j<i/\D.B[j]=k/\w=BO D.R j s)\/((∀j (J:j<D.B.length),j<i->D.B[j]≠k)/\w=0)))
       (fun x=>∃T σ nx,x=(.exit 2,⟨T,σ,nx⟩)/\T 0= .tp (Fz D N) 0/\T 1=I s/\T 2=Bo true/\T 8=I k/\T 7=I (Ah (Ip k s D.R D.B).num 0)) (by
        clear O;rintro i ⟨T,σ,nx⟩ hi ⟨t0,t1,t2,t8,t40,t41,t42,w,t7,hw⟩;simp only at t0 t1 t2 t8 t40 t41 t42 t7;have g1:(i:Int)<(D.R.length:Int):=by omega
        have g2:=jL i;have g3:=Zl (n:=(i:Int)+1);have g4:=Aw (BP D.B) i (by omega);have S:i<D.B.length:=by have:=h.A8;omega
        have g5:=idx (xs:=BP D.B) (k:=i) (by omega);rw[aW S,lW S 0]at g5
        by_cases hb:D.B[i]=k
        .have c2:((D.B[i]:Int)==(k:Int))=true:=by rw[beq_iff_eq];omega
         have rl:=fE h.row hi;have r1:=Qr hi;have r2:=dO (c:=Qq) (s:=1) (fun _=>rfl) (by omega) D.R i hi;have r3:(s:Int)<((Eb D.R i).length:Int):=by omega
         have r4:=dO (c:=cQ) (s:=3) qQ (by omega) (Eb D.R i) s (by omega);have r5:=qH (R:=D.R) (i:=i) (j:=s) (by omega);have r6:=dN (c:=cQ) (s:=3) qQ (Eb D.R i);have r7:s*3+3<=(Eb D.R i).length*3:=by omega
         have bq:Ln 6 (BO D.R i s):=by
          rw[<- oN (by omega)];exact h.big _ (by rw[fF hi];exact zu hi) _ (zu _)
         have k2:=fB (BO D.R i s) (bq.mono (by decide));unfold Fz at t0;refine .inl ⟨_,by simp only[go_sem,t0,t1,t2,t8,t40,t41,t42,t7,tl,g1,g2,g3,g4,g5,c2,a1,r1,r2,r3,r4,r5,r6,r7,k2];rfl,?_⟩;simp only[go_sem,t0,t1,t2,t8,t40,t41];exact⟨rfl,rfl,_,rfl,.inl ⟨i,S,by omega,hb,rfl⟩⟩
        .have c2:((D.B[i]:Int)==(k:Int))=false:=by rw[sW];omega
         refine .inl ⟨_,by simp only[go_sem,t0,t1,t2,t8,t40,t41,t42,t7,tl,g1,g2,g3,g4,g5,c2];rfl,?_⟩;simp only[go_sem,t0,t1,t2,t8,t40,t41,t7];refine⟨rfl,w,rfl,?_⟩;rcases hw with ⟨j,J,h1,Y,h3⟩|⟨h1,Y⟩
         .exact .inl ⟨j,J,by omega,Y,h3⟩
         .refine .inr ⟨fun j J b7=>?_,Y⟩
          by_cases e:j=i
          .subst e;exact hb
          .exact h1 j J (by omega)) (by
        clear O;rintro ⟨T,σ,nx⟩ ⟨t0,t1,t2,t8,t40,t41,t42,w,t7,hw⟩;simp only at t0 t1 t2 t8 t40 t41 t42 t7;refine⟨_,by simp only[go_sem,t41,t42,zk];rfl,by simp,_,_,_,rfl,?_⟩;simp only[go_sem,t0,t1,t2,t8,t7];have:w=Ip k s D.R D.B:=by
         rcases hw with ⟨j,J,h1,Y,h3⟩|⟨h1,Y⟩
         .rw[Xv a8 h.A8 J Y,h3]
         .rw[fU,Y]
          intro b hb e;obtain⟨j,J,e2⟩:=yV hb;exact h1 j J (by have:=h.A8;omega) (e2.trans e)
        rw[this]) (by
        simp only[go_sem,t0,t1,t2,t8,t7,tl];exact⟨rfl,0,rfl,.inr ⟨fun j _ J=>absurd J (zU _),rfl⟩⟩)
      refine⟨_,by simp only[go_sem,t8,f3];rfl,.inl ⟨_,rfl,?_⟩⟩;simp only[go_sem,t0,t1,t2,t7];exact⟨rfl,by simp,_,rfl,E.next eg⟩
   .have c0:(z==(0:Int))=false:=by rw[sW];exact z0
    refine .inr ⟨_,by simp only[go_sem,t0,t1,t2,t8,t7,c0];rfl,by simp,.inl ⟨_,_,_,z,rfl,?_⟩⟩;simp only[go_sem,t7];refine E.pos ?_ fun e=>absurd e z0
    cases lex with
    |false=>have:=G rfl;simp;omega
    |true=>simp;omega) (by
   clear O;rintro ⟨T,σ,nx⟩ ⟨t0,t1,t2,t8,G,z,t7,E⟩;simp only at t0 t1 t2 t8 t7;unfold Fz at t0;have fin:0<z↔Lp (if lex=true then N+1 else 1) (K_ D s):=by
    cases lex with
    |false=>have:=G rfl;omega
    |true=>exact E.pos (by simp) fun _=>by simp
   by_cases z0:z=0
   .subst z0
    cases lex with
    |false=>have:=G rfl;omega
    |true=>
     refine⟨_,by simp only[go_sem,t0,t1,t2,t8,t7,m1,zk];rfl,by simp,.inl ⟨_,_,_,0,rfl,?_⟩⟩;simp only[go_sem,t7];exact fin
   .have c0:(z==(0:Int))=false:=by rw[sW];exact z0
    refine⟨_,by simp only[go_sem,t0,t1,t2,t8,t7,c0];rfl,by simp,.inl ⟨_,_,_,z,rfl,?_⟩⟩;simp only[go_sem,t7];exact fin) (by
   simp only[go_sem];exact⟨rfl,fun _=>trivial,_,rfl,TK.zero D s⟩)
 rcases hx with ⟨T,σ,nx,z,rfl,t7,E⟩|⟨T,σ,nx,rfl,t6,E⟩
 .exact⟨z,by simp only[go_sem,t7],E⟩
 .exact⟨-1,by simp only[go_sem,t6],fun h=>absurd h (by decide),fun h=>absurd h E⟩
def qo(D:TQ)(N k i:Nat):Rat:=BO D.R i N / BO D.R i k
def Eh(D:TQ)(N k i:Nat)(r:Int):Prop :=
 (r= -1/\∀j,j<i->¬0<BO D.R j k)\/∃r':Nat,r=r'/\r'<i/\0<BO D.R r' k/\(∀j,j<i->0<BO D.R j k->qo D N k r'<=qo D N k j) /\
  ∀j,j<i->0<BO D.R j k->qo D N k r'=qo D N k j->D.B.getD r' 0<=D.B.getD j 0
section
variable {D:TQ} {N k i:Nat} {r:Int}
theorem Eh.skip(h:Eh D N k i r)(hn:¬0<BO D.R i k):Eh D N k (i+1) r:=by
 have J:∀j,j<i+1->0<BO D.R j k->j<i:=fun j G E=>by
  by_cases e:j=i
  .subst e;exact absurd E hn
  .omega
 rcases h with ⟨rfl,h⟩|⟨r',rfl,h1,O,S,Y⟩
 .exact .inl ⟨rfl,fun j G E=>h j (J j G E) E⟩
 .exact .inr ⟨r',rfl,by omega,O,fun j G E=>S j (J j G E) E,fun j G E=>Y j (J j G E) E⟩
theorem Eh.first(h:Eh D N k i (-1))(J:0<BO D.R i k):Eh D N k (i+1) i:=by
 rcases h with ⟨_,h⟩|⟨r',e,_⟩
 .have O:∀j,j<i+1->0<BO D.R j k->j=i:=fun j G J=>by
   by_cases e:j=i
   .exact e
   .exact absurd J (h j (by omega))
  exact .inr ⟨i,rfl,by omega,J,fun j G E=>by rw[O j G E];grind,fun j G E _=>by rw[O j G E];exact zq _⟩
 .omega
theorem Eh.better{r:Nat}(h:Eh D N k i r)(J:0<BO D.R i k)(hc:qo D N k i<qo D N k r\/(qo D N k i=qo D N k r/\D.B.getD i 0<D.B.getD r 0)):Eh D N k (i+1) i:=by
 rcases h with ⟨e,_⟩|⟨r',e,Y,h2,G,O⟩
 .omega
 .have:r=r':=by omega
  subst this;refine .inr ⟨i,rfl,by omega,J,fun j S E=>?_,fun j S E he=>?_⟩
  .by_cases e:j=i
   .subst e;grind
   .have:=G j (by omega) E;grind
  .by_cases e:j=i
   .subst e;exact zq _
   .have g1:=G j (by omega) E
    rcases hc with hc|⟨hc,hb⟩
    .grind
    .have:=O j (by omega) E (by grind);omega
theorem Eh.keep{r:Nat}(h:Eh D N k i r)(hc:qo D N k r<qo D N k i\/(qo D N k i=qo D N k r/\D.B.getD r 0<=D.B.getD i 0)):Eh D N k (i+1) r:=by
 rcases h with ⟨e,_⟩|⟨r',e,h1,G,J,O⟩
 .omega
 .have:r=r':=by omega
  subst this;refine .inr ⟨r,rfl,by omega,G,fun j S E=>?_,fun j S E Y=>?_⟩
  .by_cases e:j=i
   .subst e;grind
   .exact J j (by omega) E
  .by_cases e:j=i
   .subst e
    rcases hc with hc|⟨hc,hb⟩
    .grind
    .exact hb
   .exact O j (by omega) E Y
end
theorem TM(x y:Rat):Ah (x.num*y.den) (y.num*x.den)<0↔x<y:=by
 rw[Rat.lt_iff];unfold Ah
 by_cases h:x.num*y.den<y.num*x.den
 .rw[sZ h];exact⟨fun _=>h,fun _=>by decide⟩
 .rw[su h]
  refine⟨fun E=>?_,fun E=>absurd E h⟩
  split at E<;>exact absurd E (by decide)
theorem alo(x y:Rat):(Ah (x.num*y.den) (y.num*x.den)==0)=decide (x=y):=by
 have E:=Rat.lt_iff x y;have G:=Rat.lt_iff y x
 by_cases e:x=y
 .rw[sS e]
  subst e;unfold Ah;rw[su (by omega),sZ rfl];rfl
 .rw[sQ e]
  by_cases J:x<y
  .unfold Ah;rw[sZ (E.mp J)];rfl
  .have O:y<x:=by grind
   have:=G.mp O;unfold Ah;rw[su (by omega),su (by omega)];rfl
theorem ao6{x y:Rat}{a b:Nat}(E:Ln a x)(G:Ln b y)(J:y.num≠0)(O:1<=a+b):Ln (a+b) (x / y):=by
 rw[agb x y J];have S:=jo x.num.natAbs y.den;have Y:=jo x.den y.num.natAbs;have:=E.1;have:=E.2;have:=G.1;have:=G.2;exact abI (by rw[TG];omega) (by omega) O
theorem ael(a b:Rat):patch (cQ a) 0 (cQ b)=cQ b:=rfl
attribute [go_sem] ael
theorem ao7{D:TQ}{N:Nat}(h:ShF D N){k:Nat}(hk:k<N) :
  ∃r,fn Ze conv ext 242 [Oe D N,I k]=some (I r)/\Eh D N k D.R.length r:=by
 have hN:=h.sz;have tl:(BP D.B).length=D.R.length:=by rw[aV];exact h.A8
 have hR:=h.F6;have a1:=jL k;have m1:(-1:Int)<0:=by decide
 have bq:∀i j,i<D.R.length->j<N+1->Ln 6 (BO D.R i j):=fun i j hi hj=>by
  have rl:=fE h.row hi;rw[<- oN (by omega)];exact h.big _ (by rw[fF hi];exact zu hi) _ (zu _)
 have nz:∀i,0<BO D.R i k->(BO D.R i k).num≠0:=fun i hp e=>by have:=jH.mp e;grind
 have lq:∀i,i<D.R.length->0<BO D.R i k->Ln 12 (qo D N k i):=fun i hi hp=>ao6 (a:=6) (b:=6) (bq i N hi (by omega)) (bq i k hi (by omega)) (nz i hp) (by decide)
 unfold Oe Fz;rw[mW,nK [.tmp 4] [7,8] func242];simp only[go_sem];generalize hL:gI _ _=y;obtain⟨x,rfl,T',σ',nx',r,rfl,O,hb⟩:=pJ hL D.R.length (fun i st=>st.T 0= .tp (Fz D N) 0/\st.T 1=I k/\st.T 6= .rp 0 0/\st.T 14=LL Qq D.R/\st.T 15=I D.R.length/\st.T 16=I i/\1<=st.nx/\∃r,st.T 5=I r/\Eh D N k i r/\∃cs,st.σ 0=some ⟨cs,0,true⟩/\(∃u v w,cs=[u,v,w])/\∀r':Nat,r=r'->cs=cQ (qo D N k r'))
  (fun x=>∃T σ nx r,x=(.exit 0,⟨T,σ,nx⟩)/\T 5=I r/\Eh D N k D.R.length r) (by
   clear hL;rintro i ⟨T,σ,nx⟩ hi ⟨S,Y,h6,Fh,E,G,a7,r,O,hb,cs,a8,b6,b4⟩;simp only at S Y h6 Fh E G a7 O a8;unfold Fz at S;obtain⟨u,v,w,rfl⟩:=b6;have f1:(i:Int)<(D.R.length:Int):=by omega
   have f2:=jL i;have f3:=Zl (n:=(i:Int)+1);have rl:=fE h.row hi;have r1:=Qr hi;have r2:=dO (c:=Qq) (s:=1) (fun _=>rfl) (by omega) D.R i hi;have r3:(k:Int)<((N+1:Nat):Int):=by omega
   have r4:=dO (c:=cQ) (s:=3) qQ (by omega) (Eb D.R i) k (by omega);have r5:=qH (R:=D.R) (i:=i) (j:=k) (by omega);have r6:=dN (c:=cQ) (s:=3) qQ (Eb D.R i);rw[rl]at r6;have r7:k*3+3<=(N+1)*3:=by omega
   have s1:=fB (BO D.R i k) ((bq i k hi (by omega)).mono (by decide))
   by_cases hp:0<BO D.R i k
   .have c1:¬Ah (BO D.R i k).num 0<=0:=fun e=>(TI _).mp e hp
    have w1:=Zl (n:=((N+1:Nat):Int) - 1);have w2:((N+1:Nat):Int) - 1=(N:Int):=by omega
    rw[w2]at w1;have n0:=jL N;have n3:(N:Int)<((N+1:Nat):Int):=by omega
    have n5:=qH (R:=D.R) (i:=i) (j:=N) (by omega);have n7:N*3+3<=(N+1)*3:=by omega
    have k1:=amf (BO D.R i N) (BO D.R i k) (bq i N hi (by omega)) (bq i k hi (by omega)) (by decide) (nz i hp);rw[show BO D.R i N / BO D.R i k=qo D N k i from rfl]at k1;have z0:¬(0:Nat)=nx:=by omega
    have z1:0<nx+1:=by omega
    have z2:nx<nx+1:=by omega
    rcases hb with ⟨rfl,hb⟩|⟨r',rfl,b7,b5,b8,b9⟩
    .refine .inl ⟨_,by simp only[go_sem,S,Y,h6,Fh,E,G,O,a8,f1,f2,f3,r1,r2,rl,r3,r4,r5,r6,r7,s1,a1,c1,w1,w2,n0,n3,n5,n7,k1,m1,z0,z1,z2];rfl,?_⟩
     simp only[go_sem,S,Y,h6,Fh,E,O,z0];exact⟨rfl,rfl,i,rfl,Eh.first (.inl ⟨rfl,hb⟩) hp,_,rfl,⟨_,_,_,rfl⟩,fun r' e=>by rw[show r'=i by omega]⟩
    .have b2:Eh D N k i r':=.inr ⟨r',rfl,b7,b5,b8,b9⟩
     have J:σ 0=some ⟨cQ (qo D N k r'),0,true⟩:=by rw[a8,b4 r' rfl]
     have q0:¬(r':Int)<0:=by omega
     have q1:(r':Int)<(D.R.length:Int):=by omega
     have q2:(0:Int)<=(r':Int):=by omega
     have q3:=Aw (BP D.B) i (by omega);have q4:=idx (xs:=BP D.B) (k:=i) (by omega);rw[aW (by have:=h.A8;omega)]at q4;have q5:=Aw (BP D.B) r' (by omega);have q6:=idx (xs:=BP D.B) (k:=r') (by omega);rw[aW (by have:=h.A8;omega)]at q6;have k2:=ahJ (qo D N k i) (qo D N k r') (lq i hi hp) (lq r' (by omega) b5) (by decide) (by decide) (by decide);have e1:=TM (qo D N k i) (qo D N k r');have e2:=alo (qo D N k i) (qo D N k r');generalize Ah ((qo D N k i).num*(qo D N k r').den) ((qo D N k r').num*(qo D N k i).den)=z at k2 e1 e2
     by_cases g1:qo D N k i<qo D N k r'
     .have a6:=e1.mpr g1
      refine .inl ⟨_,by simp only[go_sem,S,Y,h6,Fh,E,G,O,J,f1,f2,f3,r1,r2,rl,r3,r4,r5,r6,r7,s1,a1,c1,w1,w2,n0,n3,n5,n7,k1,k2,q0,a6,z0,z1,z2];rfl,?_⟩;simp only[go_sem,S,Y,h6,Fh,E,O,z0];exact⟨rfl,rfl,i,rfl,b2.better hp (.inl g1),_,rfl,⟨_,_,_,rfl⟩,fun r' e=>by rw[show r'=i by omega]⟩
     .have a6:¬z<0:=fun e=>g1 (e1.mp e)
      by_cases g2:qo D N k i=qo D N k r'
      .rw[sS g2]at e2
       by_cases g3:D.B.getD i 0<D.B.getD r' 0
       .have b3:((D.B.getD i 0:Nat):Int)<((D.B.getD r' 0:Nat):Int):=by omega
        refine .inl ⟨_,by simp only[go_sem,S,Y,h6,Fh,E,G,O,J,tl,f1,f2,f3,r1,r2,rl,r3,r4,r5,r6,r7,s1,a1,c1,w1,w2,n0,n3,n5,n7,k1,k2,q0,q1,q2,q3,q4,q5,q6,a6,e2,b3,z0,z1,z2];rfl,?_⟩;simp only[go_sem,S,Y,h6,Fh,E,O,z0];exact⟨rfl,rfl,i,rfl,b2.better hp (.inr ⟨g2,g3⟩),_,rfl,⟨_,_,_,rfl⟩,fun r' e=>by rw[show r'=i by omega]⟩
       .have b3:¬((D.B.getD i 0:Nat):Int)<((D.B.getD r' 0:Nat):Int):=by omega
        refine .inl ⟨_,by simp only[go_sem,S,Y,h6,Fh,E,G,O,J,tl,f1,f2,f3,r1,r2,rl,r3,r4,r5,r6,r7,s1,a1,c1,w1,w2,n0,n3,n5,n7,k1,k2,q0,q1,q2,q3,q4,q5,q6,a6,e2,b3,z0,z1,z2];rfl,?_⟩;simp only[go_sem,S,Y,h6,Fh,E,O,z0,J];exact⟨rfl,rfl,r',rfl,b2.keep (.inr ⟨g2,by omega⟩),_,rfl,⟨_,_,_,rfl⟩,fun r2 e=>by rw[show r2=r' by omega]⟩
      .rw[sQ g2]at e2
       refine .inl ⟨_,by simp only[go_sem,S,Y,h6,Fh,E,G,O,J,tl,f1,f2,f3,r1,r2,rl,r3,r4,r5,r6,r7,s1,a1,c1,w1,w2,n0,n3,n5,n7,k1,k2,q0,a6,e2,z0,z1,z2];rfl,?_⟩;simp only[go_sem,S,Y,h6,Fh,E,O,z0,J];exact⟨rfl,rfl,r',rfl,b2.keep (.inl (by grind)),_,rfl,⟨_,_,_,rfl⟩,fun r2 e=>by rw[show r2=r' by omega]⟩
   .have c1:Ah (BO D.R i k).num 0<=0:=(TI _).mpr hp
    refine .inl ⟨_,by simp only[go_sem,S,Y,h6,Fh,E,G,O,f1,f2,f3,r1,r2,rl,r3,r4,r5,r6,r7,s1,a1,c1];rfl,?_⟩;simp only[go_sem,S,Y,h6,Fh,E,O];exact⟨rfl,rfl,a7,r,rfl,hb.skip hp,_,a8,⟨_,_,_,rfl⟩,b4⟩) (by
   clear hL;rintro ⟨T,σ,nx⟩ ⟨S,Y,h6,Fh,E,G,a7,r,O,hb,_⟩;simp only at S Y h6 Fh E G a7 O;refine⟨_,by simp only[go_sem,E,G,zk];rfl,by simp,_,_,_,r,rfl,?_,hb⟩;simp only[go_sem,O]) (by
   simp only[go_sem];exact⟨rfl,-1,rfl,.inl ⟨rfl,fun j hj=>absurd hj (zU _)⟩,_,rfl,⟨_,_,_,rfl⟩,fun r' e=>by omega⟩)
 exact⟨r,by simp only[go_sem,O],hb⟩
theorem fZ{σ:Store}{b n d:Nat}{x:List Rat}(h:σ b=some ⟨x.flatMap cQ,3,true⟩)(E:x.length=n):strip σ (d+1) (.rs b 0 n)=some (LL cQ x,[b]):=by
 have G:=dN (c:=cQ) (s:=3) qQ x;rw[bD,h];simp only[zi,yu,yw];rw[sZ (by omega),zo (by omega),bM (qP σ d) x];show some (V.ts _ n,[b])=_;rw[<- E]
theorem Kq{σ:Store}{n d:Nat}:∀ {rb:List Nat} {R:List (List Rat)},rb.length=R.length->(∀i (h:i<rb.length),σ rb[i]=some ⟨(Eb R i).flatMap cQ,3,true⟩)->(∀x∈R,x.length=n)->∃ids,stripL (strip σ (d+1)) (rb.map fun b=>V.rs b 0 n)=some (R.flatMap Qq,ids)
 |[],[],_,_,_=>⟨[],rfl⟩
 |[],_ :: _,h,_,_=>by simp at h
 |_ :: _,[],h,_,_=>by simp at h
 |b :: rb,x :: R,h,hr,hn=>by
  obtain⟨ids,hi⟩:=Kq (rb:=rb) (R:=R) (d:=d) (by simpa using h) (fun i hi=>by
   have:=hr (i+1) (by simpa using hi);exact this) fun y E=>hn y (zY _ E)
  have G:σ b=some ⟨x.flatMap cQ,3,true⟩:=hr 0 (by simp);refine⟨[b]++ids,?_⟩;rw[x9,bU,fZ G (hn x zQ)];simp only[zi];rw[hi];rfl
theorem GV.ahN{σ:Store}{v:V}{n d:Nat}{cs t:List V}{ids:List Nat}(h:GV σ v n cs)(G:cs.length=n)(E:stripL (strip σ d) cs=some (t,ids)):∃J,strip σ (d+1) v=some (.ts t n,J):=by
 rcases h with ⟨rfl,rfl⟩|⟨b,hn,rfl,hb⟩
 .have:cs=[]:=zZ G
  subst this;rw[bP]at E;simp only[tC,t_]at E;obtain⟨rfl,rfl⟩:=E;exact⟨[],by rw[bF]⟩
 .refine⟨b :: ids,?_⟩
  rw[bD,hb];simp only[zi,yO,yu,yw];rw[sZ (by omega),zo (by omega),E];rfl
theorem aaK{σ:Store}{bt bc:Nat}{vr vb:V}{rb:List Nat}{D:TQ}{N:Nat}(h:EN σ bt bc vr vb rb D N)(hs:ShF D N):∃ids,strip σ 7 (.rp bt 0)=some (Oe D N,ids):=by
 obtain⟨ids,E⟩:=Kq (d:=4) h.len h.row hs.row;obtain⟨S,Y⟩:=h.r.ahN (by rw[zV,h.len]) E;have O:(BP D.B).length=D.R.length:=by rw[aV];exact hs.A8
 obtain⟨G,s2⟩:=h.b.ahN (d:=5) (by rw[qW,O]) (CZ ..);have J:strip σ 6 vb=some (LI (BP D.B),G):=by
  rw[s2];show some (V.ts _ D.R.length,G)=some (V.ts _ (BP D.B).length,G);rw[O]
 have s3:strip σ 6 (.rs bc 0 (N+1))=some (LL cQ D.c,[bc]):=fZ (d:=5) h.c hs.F5;have key:stripL (strip σ 6) [I N,vr,vb,.rs bc 0 (N+1)]=some (Fz D N,[]++(S++(G++([bc]++[])))):=by
  simp only[bU,Y,J,s3,bC,bP,zH,zi];rfl
 exact⟨_,by rw[Md,h.t,zi,key];rfl⟩
theorem asP(Qp:TQ->Prop){N:Nat}(lex:Bool){d:Nat}(hd:d=if lex=true then N+1 else 1)(hI:∀D,Qp D->ShF D N/\D.B.Nodup)(a8:∀D D',Qp D->Np N d D D'->Qp D')
  {σ:Store} {nx bt bc:Nat} {vr vb:V} {rb:List Nat} {D:TQ} {n:Nat} (b7:Qp D) (hn:Wv N d n D) (h:EN σ bt bc vr vb rb D N) (b8:∀b∈bt :: bc :: (bk vr++bk vb++rb),b<nx) :
  ∃σ' nx' G D',ev Ze pI Ad 185 [.rp bt 0,Bo lex] σ nx=some (Bo G,σ',nx')/\akn N d D G D'/\Qp D'/\EN σ' bt bc vr vb rb D' N/\nx<=nx'/\∀b,b<nx->b∉bc :: (bk vb++rb)->σ' b=σ b:=by
 rw[nK [.tmp 4] [] func185];simp only[go_sem];generalize hL:gI _ _=y;obtain⟨x,rfl,T1,a6,oI,G,D1,rfl,t4,hR,hQ,hT,J,fr⟩:=je hL (fun m st=>st.T 0= .rp bt 0/\st.T 1=Bo lex/\nx<=st.nx/\(∀b,b<nx->b∉bc :: (bk vb++rb)->st.σ b=σ b)/\∃D1,Gn N d D D1/\Qp D1/\EN st.σ bt bc vr vb rb D1 N/\Wv N d m D1)
  (fun x=>∃T σ' nx' G D',x=(.ret,⟨T,σ',nx'⟩)/\T 4=Bo G/\akn N d D G D'/\Qp D'/\EN σ' bt bc vr vb rb D' N/\nx<=nx'/\∀b,b<nx->b∉bc :: (bk vb++rb)->σ' b=σ b) (by
   clear hL;rintro m ⟨T,a6,oI⟩ ⟨t0,t1,J,fr,D1,hr,hQ,hT,b3⟩;simp only at t0 t1 J hT;obtain⟨hS,b9⟩:=hI D1 hQ;obtain⟨ids,O⟩:=aaK hT hS;have S:=hT.t;have hN:=hS.sz;refine cu ?_
   conv=>
    enter [1,r,1,1]
    simp only[go_sem,t0,t1]
   generalize hL:gI _ _=z;obtain⟨x,rfl,T2,hx⟩:=pJ hL N (fun k st=>st.T 0= .rp bt 0/\st.T 1=Bo lex/\st.T 6=I k/\st.σ=a6/\st.nx=oI/\((st.T 5=I (-1)/\∀j,j<k->j∉D1.B->¬Lp d (K_ D1 j))\/∃s:Nat,st.T 5=I s/\La N d D1 s))
    (fun x=>∃T,x=(.exit 2,⟨T,a6,oI⟩)/\T 0= .rp bt 0/\T 1=Bo lex/\((T 5=I (-1)/\∀j,j<N->j∉D1.B->¬Lp d (K_ D1 j))\/∃s:Nat,T 5=I s/\La N d D1 s)) (by
     clear hL;rintro k ⟨T,σ2,CJ⟩ hk ⟨t0,t1,t6,Y,E,h5⟩;simp only at t0 t1 t6 Y E h5;subst Y E;have f1:(k:Int)<(N:Int):=by omega
     have f3:=Zl (n:=(k:Int)+1);rcases h5 with ⟨t5,a1⟩|⟨s,t5,hE⟩
     .have m1:(-1:Int)<0:=by decide
      have k1:=ao5 (D:=D1) (N:=N) (by have:=hS.A8;have:=hS.F6;omega) k
      by_cases hB:k∈D1.B
      .rw[sS hB]at k1
       refine .inl ⟨_,by simp only[go_sem,t0,t1,t5,t6,S,O,f1,f3,m1,k1];rfl,?_⟩;simp only[go_sem,t0,t1,t5];refine⟨rfl,.inl fun j hj a7=>?_⟩
       by_cases e:j=k
       .subst e;exact absurd hB a7
       .exact a1 j (by omega) a7
      .rw[sQ hB]at k1
       obtain⟨z,k2,hz⟩:=asO hS b9 hk hB lex;rw[<- hd]at hz
       by_cases hp:0<z
       .refine .inl ⟨_,by simp only[go_sem,t0,t1,t5,t6,S,O,f1,f3,m1,k1,k2,hp];rfl,?_⟩
        simp only[go_sem,t0,t1];exact⟨rfl,.inr ⟨k,rfl,hk,hB,hz.mp hp,a1⟩⟩
       .refine .inl ⟨_,by simp only[go_sem,t0,t1,t5,t6,S,O,f1,f3,m1,k1,k2,hp];rfl,?_⟩
        simp only[go_sem,t0,t1,t5];refine⟨rfl,.inl fun j hj a7=>?_⟩
        by_cases e:j=k
        .subst e;exact fun hl=>hp (hz.mpr hl)
        .exact a1 j (by omega) a7
     .have m1:¬(s:Int)<0:=by omega
      refine .inr ⟨_,by simp only[go_sem,t0,t1,t5,t6,S,f1,m1];rfl,by simp,_,rfl,?_⟩;simp only[go_sem,t0,t1,t5];exact .inr ⟨s,rfl,hE⟩) (by
     clear hL;rintro ⟨T,σ2,CJ⟩ ⟨t0,t1,t6,Y,E,h5⟩;simp only at t0 t1 t6 Y E h5;subst Y E;refine⟨_,by simp only[go_sem,t0,t1,t6,S,zk];rfl,by simp,_,rfl,?_⟩;simp only[go_sem,t0,t1];exact h5) (by
     simp only[go_sem,t0,t1];exact .inl fun j hj=>absurd hj (zU _))
   obtain⟨rfl,t0,t1,h5⟩:=hx;rcases h5 with ⟨t5,b4⟩|⟨s,t5,hE⟩
   .have m1:(-1:Int)<0:=by decide
    refine⟨_,by simp only[go_sem,t0,t1,t5,m1];rfl,.inr ⟨by simp,_,_,_,true,D1,rfl,?_⟩⟩;simp only[go_sem];exact⟨⟨hr,.inl ⟨rfl,b4⟩⟩,hQ,hT,J,fr⟩
   .have m1:¬(s:Int)<0:=by omega
    obtain⟨r,k3,hb⟩:=ao7 hS hE.lt;rcases hb with ⟨rfl,hb⟩|⟨r',rfl,b5,c0,c2,c3⟩
    .have m2:(-1:Int)<0:=by decide
     refine⟨_,by simp only[go_sem,t0,t1,t5,m1,O,k3,m2];rfl,.inr ⟨by simp,_,_,_,false,D1,rfl,?_⟩⟩;simp only[go_sem];exact⟨⟨hr,.inr ⟨rfl,s,hE,hb⟩⟩,hQ,hT,J,fr⟩
    .have m2:¬(r':Int)<0:=by omega
     have b2:Np N d D1 (Nl D1 r' s):=⟨s,r',hE,⟨b5,c0,c2,c3⟩,rfl⟩;have b6:=a8 _ _ hQ b2;obtain⟨c5,Ar,k4,NJ,c6,c4⟩:=ahM hT hS (hI _ b6).1 (fun b hb=>xR (b8 b hb) J) b5 hE.lt (by grind);cases m with
     |zero=>exact absurd b3 id
     |succ m'=>
      refine⟨_,by simp only[go_sem,qM,t0,t1,t5,m1,O,k3,m2,k4];rfl,.inl ⟨_,rfl,m',by omega,?_⟩⟩;simp only[go_sem,t0,t1];exact⟨by omega,fun b hb hn=>(c4 b (by omega) hn).trans (fr b hb hn),_,hr.tail b2,b6,NJ,b3 _ b2⟩) n (by
   simp only[go_sem];exact⟨fun _ _ _=>trivial,D,Gn.refl D,b7,h,hn⟩)
 exact⟨a6,oI,G,D1,by simp only[go_sem,t4],hR,hQ,hT,J,fr⟩
attribute [-go_sem] rH
theorem ao8{m n:Nat}{A b c:List Int}(hA:A.length=m*n)(hm:m<=1000)(hn:n<=1000){i:Nat}(hi:i<m) :
  fn Ze conv ext 239 [.agg (CG m n A b c),I i]=some (.ts (((A.drop (i*n)).take n).flatMap cI) n):=by
 have Y:i*n<=m*n:=zK _ (by omega);have E:(i+1)*n<=m*n:=zK _ (by omega);have h3:m*n<=1000*1000:=yM hm hn;have G:IntKind.i64.wrap ((i:Int)*(n:Int))=((i*n:Nat):Int):=by rw[Zl (by rw[<- zC];omega) (by rw[<- zC];omega),zC]
 have f1:=Zl (n:=(i:Int)+1);have J:IntKind.i64.wrap (((i:Int)+1)*(n:Int))=(((i+1)*n:Nat):Int):=by rw[show((i:Int)+1)=((i+1:Nat):Int)from rfl,Zl (by rw[<- zC];omega) (by rw[<- zC];omega),zC]
 have f3:((i*n:Nat):Int)<=(((i+1)*n:Nat):Int):=Int.ofNat_le.mpr (zK _ (by omega));have f4:(((i+1)*n:Nat):Int)<=((A.length:Nat):Int):=by rw[hA];exact Int.ofNat_le.mpr E
 have f6:(0:Int)<=((i*n:Nat):Int):=by omega
 have f7:(0:Int)<=(((i+1)*n:Nat):Int):=by omega
 have f8:(i+1)*n-i*n=n:=by rw[yG];omega
 have O:i*n<=(i+1)*n:=zK _ (by omega);have S:(i+1)*n<=A.length:=by omega
 unfold CG;rw[mW,nK [.tmp 4] [] func239];simp only[go_sem,G,J,f1,f3,f4,f6,f7,f8,O,S];rw[WY,qU]
def FC(f:Nat->Int):Nat->Int
 |0=>0
 |k+1=>FC f k+f k
def EO(A b:List Int)(m n k:Nat):List Int:=(List.range (n+m+1)).map fun j=>if j<n\/j=n+m then FC (fun i=>cell0 A b m n i j) k else 0
def qs(z:List Int):List Rat:=z.map fun(x:Int)=>(x:Rat)
def Dq(A b:List Int)(m n k:Nat):TQ:=⟨(Ef A b m n k).map qs,(List.range k).map fun i=>n+i,qs (EO A b m n k)⟩
theorem pK(A b:List Int)(m n k:Nat):(EO A b m n k).length=n+m+1:=by simp[EO]
theorem aaL(A b:List Int)(m n:Nat):EO A b m n 0=List.replicate (n+m+1) 0:=by
 unfold EO FC;simp[List.map_const']
def ahO(A b c:List Int)(m n:Nat)(σ:Store)(nx k:Nat)(σ':Store)(nx':Nat)(bt:Nat):Prop:=∃bc vr vb rb,EN σ' bt bc vr vb rb (Dq A b m n k) (n+m)/\(∀x∈bt :: bc :: (bk vr++bk vb++rb),nx<x/\x<nx')/\∀x,x<nx->σ' x=σ x
def Gq(v:V)(σ:Store)(lo nx:Nat)(L:List Rat):Prop:=(L=[]/\v= .nil)\/∃b,L≠[]/\lo<=b/\b<nx/\v= .rs b 0 L.length/\σ b=some ⟨L.flatMap cQ,3,true⟩
theorem rW{v:V}{σ:Store}{lo nx:Nat}{L:List Rat}(h:Gq v σ lo nx L)(S:lo<=nx)(x:Rat)(Y:L.length<100000) :
  ∃σ',Ae (upd σ nx (some ⟨cQ x,3,true⟩)) (nx+1) 3 56 v (cQ x) 1=some (.rs (nx+1) 0 (L.length+1),σ',nx+1+1)/\Gq (.rs (nx+1) 0 (L.length+1)) σ' lo (nx+1+1) (L++[x])/\∀y,y<lo->σ' y=σ y:=by
 have hg:BZ cQ 3 (fun _=>v) σ nx 0 L:=by
  rcases h with ⟨rfl,rfl⟩|⟨b,G,h2,J,E,O⟩
  .exact .inl ⟨rfl,rfl⟩
  .exact .inr ⟨b,E,G,O,J⟩
 obtain⟨σ',g1,g2,g3⟩:=lJ (bytes:=56) qQ (fun _=>rfl) (by decide) hg x Y (by decide);refine⟨σ',g1,.inr ⟨nx+1,by simp,by omega,by omega,by rw[zl];rfl,g2⟩,fun y hy=>g3 y (by omega) fun b o l e=>?_⟩;rcases h with ⟨rfl,rfl⟩|⟨b',G,h2,J,E,O⟩
 .cases e
 .rw[E]at e;cases e;omega
theorem qK{A b:List Int}{m n i:Nat}(E:∀x∈A,-1000<=x/\x<=1000)(G:∀x∈b,-1000<=x/\x<=1000)(j:Nat):-1000<=cell0 A b m n i j/\cell0 A b m n i j<=1000:=by
 have J:=Qa (b:=b) (i:=i) (lV E (i*n+j));have O:=Qa (b:=b) (i:=i) (lV G i);unfold cell0
 split
 .omega
 .split
  .split<;>omega
  .omega
theorem abX{f:Nat->Int}(h:∀i,-1000<=f i/\f i<=1000):∀k:Nat,-(1000*(k:Int))<=FC f k/\FC f k<=1000*(k:Int)
 |0=>by unfold FC;omega
 |k+1=>by
  have:=abX h k;have:=h k;unfold FC;omega
theorem gy(z:List Int):(qs z).length=z.length:=by simp[qs]
theorem Oh{z:List Int}{j:Nat}(h:j<z.length):(qs z)[j]'(by rw[gy];exact h)=((z[j]:Int):Rat):=by simp[qs]
theorem IL(A b:List Int)(m n k:Nat){j:Nat}(h:j<n+m+1):(EO A b m n k)[j]'(by rw[pK];exact h)=if j<n\/j=n+m then FC (fun i=>cell0 A b m n i j) k else 0:=by simp[EO]
theorem ahP{A b:List Int}{m n k:Nat}(E:∀x∈A,-1000<=x/\x<=1000)(G:∀x∈b,-1000<=x/\x<=1000)(J:k<=400){j:Nat}(h:j<n+m+1):-1000000<=(EO A b m n k)[j]'(by rw[pK];exact h)/\(EO A b m n k)[j]'(by rw[pK];exact h)<=1000000:=by
 rw[IL _ _ _ _ _ h];have:=abX (f:=fun i=>cell0 A b m n i j) (fun i=>qK E G j) k
 split<;>omega
theorem ao9{A b c:List Int}{m n:Nat}(hA:A.length=m*n)(hb:b.length=m)(hm:m<=400)(hn:n<=400)(b5:∀x∈A,-1000<=x/\x<=1000)(a7:∀x∈b,-1000<=x/\x<=1000)(σ:Store)(nx:Nat) :
  ∃σ' nx' bt,ev Ze pI Ad 184 [.agg (CG m n A b c)] σ nx=some (.rp bt 0,σ',nx')/\ahO A b c m n σ nx m σ' nx' bt:=by
 obtain⟨N,hN⟩:∃N,N=n+m:=⟨_,rfl⟩;have f1:(n:Int)+(m:Int)=(N:Int):=by omega
 have f2:=Zl (n:=(N:Int));obtain⟨s0,b6⟩:∃s0,s0=upd (upd σ nx (some ⟨CG m n A b c,0,true⟩)) (nx+1) (some ⟨[I N,.nil,.nil,.nil],0,true⟩):=⟨_,rfl⟩;have X_:∀x,x<nx->s0 x=σ x:=fun x hx=>by rw[b6,aH,aH]
 have n0:s0 nx=some ⟨CG m n A b c,0,true⟩:=by rw[b6,aH,aF]
 have n6:s0 (nx+1)=some ⟨[I N,.nil,.nil,.nil],0,true⟩:=by rw[b6,aF]
 have k0:fn Ze conv ext 133 [I 0]=some (.agg (cQ 0)):=fD 0 (by decide) (by decide)
 unfold CG at b6⊢;rw[nK [.tmp 2] [5,30,33] func184];simp only[go_sem,f1,f2,<- b6];generalize hL:gI _ _=y;obtain⟨x,rfl,T1,a6,oI,bc,rfl,t1,t3,n1,g1,g2,g3,g4,n7⟩:=pJ hL (N+1) (fun j st=>st.T 1= .rp nx 0/\st.T 3= .rp (nx+1) 0/\st.T 4=I j/\nx+2<=st.nx/\st.σ nx=some ⟨CG m n A b c,0,true⟩/\(∀x,x<nx->st.σ x=σ x)/\((j=0/\st.σ (nx+1)=some ⟨[I N,.nil,.nil,.nil],0,true⟩)\/∃bc,0<j/\nx+1<bc/\bc<st.nx/\st.σ (nx+1)=some ⟨[I N,.nil,.nil,.rs bc 0 j],0,true⟩/\st.σ bc=some ⟨(List.replicate j (0:Rat)).flatMap cQ,3,true⟩))
  (fun x=>∃T a6 oI bc,x=(.exit 0,⟨T,a6,oI⟩)/\T 1= .rp nx 0/\T 3= .rp (nx+1) 0/\nx+1<bc/\bc<oI/\a6 nx=some ⟨CG m n A b c,0,true⟩/\a6 (nx+1)=some ⟨[I N,.nil,.nil,.rs bc 0 (N+1)],0,true⟩/\a6 bc=some ⟨(List.replicate (N+1) (0:Rat)).flatMap cQ,3,true⟩/\∀x,x<nx->a6 x=σ x) (by
   clear hL;rintro j ⟨T,a6,oI⟩ hj ⟨t1,t3,t4,b4,sn,fr,hc⟩;simp only at t1 t3 t4 b4 sn fr hc;have g1:(j:Int)<=(N:Int):=by omega
   have g3:=Zl (n:=(j:Int)+1);have y1:nx+1<oI:=by omega
   have y2:nx+1<oI+1:=by omega
   have y3:oI<oI+1:=by omega
   have y4:¬nx+1=oI:=by omega
   have y5:¬nx+1=oI+1:=by omega
   have y6:(nx+1==oI)=false:=by rw[sW];omega
   have y7:(oI==nx+1)=false:=by rw[sW];omega
   have y8:nx+1<oI+1+1:=by omega
   have y9:=jL N;rcases hc with ⟨rfl,st⟩|⟨bc,n8,c1,c2,st,sc⟩
   .refine .inl ⟨_,by simp only[go_sem,t1,t3,t4,st,g1,g3,k0,y1,y2,y3,y4,y5,y6,y7,y8,y9];rfl,?_⟩
    simp only[go_sem,t1,t3];refine⟨rfl,by omega,?_,fun x hx=>?_,.inr ⟨oI+1,by omega,by omega,rfl,?_⟩⟩
    .rw[aH,aH,aH];exact sn
    .rw[aH,aH,aH];exact fr x hx
    .rw[aH,aF];rfl
   .have e9:=rO (σ:=restrict (upd a6 oI (some ⟨cQ 0,3,true⟩)) [bc,oI]) (nx:=oI+1) (size:=3) (bytes:=56) (b:=bc) (len:=j) (m:=1) (row:=cQ 0) (by rw[gU,aH];exact sc) (by rw[dN qQ,yR]) (by decide) (by decide) (by unfold maxLen;omega) (by omega) rfl
    have x1:bc<oI+1:=by omega
    have x2:(nx+1==bc)=false:=by rw[sW];omega
    have x3:(bc==nx+1)=false:=by rw[sW];omega
    have x4:¬nx+1=bc:=by omega
    refine .inl ⟨_,by simp only[go_sem,t1,t3,t4,st,g1,g3,k0,y1,y2,y3,y4,y5,y6,y7,y8,y9,e9,x1,x2,x3,x4];rfl,?_⟩;simp only[go_sem,t1,t3];refine⟨rfl,by omega,?_,fun x hx=>?_,.inr ⟨oI+1,by omega,by omega,by omega,rfl,?_⟩⟩
    .rw[aH,aH,aH,aH];exact sn
    .rw[aH,aH,aH,aH];exact fr x hx
    .rw[aH,aF,uQ,zT];simp) (by
   clear hL;rintro ⟨T,a6,oI⟩ ⟨t1,t3,t4,b4,sn,fr,hc⟩;simp only at t1 t3 t4 b4 sn fr hc;rcases hc with ⟨h0,_⟩|⟨bc,n8,c1,c2,st,sc⟩
   .omega
   .have g1:¬((N+1:Nat):Int)<=(N:Int):=by omega
    refine⟨_,by simp only[go_sem,t3,t4,st,g1];rfl,by simp,_,_,_,bc,rfl,?_⟩;simp only[go_sem,t1,t3];exact⟨c1,c2,sn,st,sc,fr⟩) (by
   simp only[go_sem];exact⟨n0,X_,.inl n6⟩)
 clear hL;have i0:ahO A b c m n σ nx 0 a6 oI (nx+1):=by
  refine⟨bc,.nil,.nil,[],⟨?_,.inl ⟨rfl,rfl⟩,fun i h=>absurd h (zU _),.inl ⟨rfl,rfl⟩,?_,rfl,?_⟩,fun x hx=>?_,n7⟩
  .rw[<- hN];exact g3
  .rw[g4]
   show _=some (FU.mk ((qs (EO A b m n 0)).flatMap cQ) 3 true);rw[aaL,<- hN];unfold qs;rw[List.map_replicate];rfl
  .simp only[bk,zM,xw,wF,zJ,not_false_iff,true_and,List.nodup_nil,and_true]
   omega
  .simp only[bk,zM,zX,zJ,or_false]at hx
   omega
 simp only[go_sem,t1,t3];generalize hL:gI _ _=y;obtain⟨x,rfl,T2,σ2,CJ,rfl,t3,hF⟩:=pJ hL m (fun i st=>st.T 1= .rp nx 0/\st.T 3= .rp (nx+1) 0/\st.T 5=I i/\nx+2<=st.nx/\st.σ nx=some ⟨CG m n A b c,0,true⟩/\ahO A b c m n σ nx i st.σ st.nx (nx+1))
  (fun x=>∃T σ2 CJ,x=(.exit 2,⟨T,σ2,CJ⟩)/\T 3= .rp (nx+1) 0/\ahO A b c m n σ nx m σ2 CJ (nx+1)) (by
   clear hL;rintro i ⟨T,σ2,CJ⟩ hi ⟨t1,t3,t5,b4,sn,bc,vr,vb,rb,hT,b7,fr⟩;simp only at t1 t3 t5 b4 sn hT b7 fr;unfold CG at sn;have g1:(i:Int)<(m:Int):=by omega
   have g2:=jL i;have g3:=Zl (n:=(i:Int)+1);have g9:(i:Int)<(b.length:Int):=by omega
   have g10:(b.flatMap cI)[i]?=some (I (b.getD i 0)):=by
    rw[idx (by omega),zx,zy (by omega)];rfl
   have g11:=Aw b i (by omega);have k1:=ao8 (b:=b) (c:=c) hA (by omega) (by omega) hi;unfold CG at k1;obtain⟨R0,c5⟩:∃R0,R0=qs (row0 A b m n i):=⟨_,rfl⟩;have c7:R0.length=N+1:=by rw[c5,gy,g_,hN]
   have c8:∀j (h:j<R0.length),R0[j]=((cell0 A b m n i j:Int):Rat):=fun j h=>by
    subst c5;rw[Oh (by rw[g_];omega),gG _ _ _ _ _ (by omega)]
   have c9:∀j,j<R0.length->R0.take j++[((cell0 A b m n i j:Int):Rat)]=R0.take (j+1):=fun j h=>by
    rw[yN,zy h,c8 j h];rfl
   have kI:∀j,fn Ze conv ext 133 [I (cell0 A b m n i j)]=some (.agg (cQ ((cell0 A b m n i j:Int):Rat))):=fun j=>by
    have:=qK (i:=i) (m:=m) (n:=n) b5 a7 j;exact fD _ (by omega) (by omega)
   have e0:=W_ b i;refine cu ?_
   by_cases b8:b.getD i 0<0
   case' pos=>
    replace e0:sg b i= -1:=by unfold sg;rw[sZ b8]
   case' neg=>
    replace e0:sg b i=1:=by unfold sg;rw[su b8]
   all_goals
    conv=>
     enter [1,r,1,1]
     simp only[go_sem,t1,t3,t5,sn,g1,g2,g9,g10,g11,k1,b8]
    generalize hL:gI _ _=z;obtain⟨x,rfl,T3,G,Ar,rfl,t1,t3,t5,t6,J,O,Y⟩:=pJ hL n (fun k st=>st.T 1= .rp nx 0/\st.T 3= .rp (nx+1) 0/\st.T 5=I i/\st.T 6=I (sg b i)/\st.T 53= .ts (((A.drop (i*n)).take n).flatMap cI) n/\st.T 54=I n/\st.T 55=I k/\CJ<=st.nx/\Gq (st.T 7) st.σ CJ st.nx (R0.take k)/\∀y,y<CJ->st.σ y=σ2 y)
     (fun x=>∃T G Ar,x=(.exit 4,⟨T,G,Ar⟩)/\T 1= .rp nx 0/\T 3= .rp (nx+1) 0/\T 5=I i/\T 6=I (sg b i)/\CJ<=Ar/\Gq (T 7) G CJ Ar (R0.take n)/\∀y,y<CJ->G y=σ2 y) (by
      clear hL;rintro k ⟨T,G,Ar⟩ hk ⟨t1,t3,t5,t6,t53,t54,t55,J,O,Y⟩;simp only at t1 t3 t5 t6 t53 t54 t55 J O Y;have f1:(k:Int)<(n:Int):=by omega
      have f2:=jL k;have f3:=Zl (n:=(k:Int)+1);have r9:i*n+n<=A.length:=by
       have:(i+1)*n<=m*n:=zK _ (by omega);rw[yG]at this;omega
      have f4:(((A.drop (i*n)).take n).flatMap cI)[k]?=some (I (A.getD (i*n+k) 0)):=by
       rw[idx (by simp;omega),uw,List.getElem_drop,zx,zy (by omega)];rfl
      have f5:=Aw ((A.drop (i*n)).take n) k (by simp;omega);have ec:cell0 A b m n i k=sg b i*A.getD (i*n+k) 0:=by unfold cell0;rw[sZ hk]
      have bd:=qK (i:=i) (m:=m) (n:=n) b5 a7 k;have k2:=kI k;rw[ec]at bd k2;have f6:=Zl (n:=sg b i*A.getD (i*n+k) 0);obtain⟨Df,a1,a2,a3⟩:=rW O J ((sg b i*A.getD (i*n+k) 0:Int):Rat) (by rw[zh];omega);rw[<- ec,c9 k (by omega)]at a2;refine .inl ⟨_,by simp only[go_sem,t1,t3,t5,t6,t53,t54,t55,f1,f2,f3,f4,f5,f6,k2,a1];rfl,?_⟩;simp only[go_sem,t1,t3,t5,t6,t53,t54];exact⟨rfl,by omega,a2,fun y S=>(a3 y S).trans (Y y S)⟩) (by
      clear hL;rintro ⟨T,G,Ar⟩ ⟨t1,t3,t5,t6,t53,t54,t55,J,O,Y⟩;simp only at t1 t3 t5 t6 t53 t54 t55 J O Y;refine⟨_,by simp only[go_sem,t54,t55,zk];rfl,by simp,_,_,_,rfl,?_⟩;simp only[go_sem,t1,t3,t5,t6];exact⟨J,O,Y⟩) (by
      simp only[go_sem,t1,t3,t5,e0];exact⟨.inl ⟨rfl,rfl⟩,fun _ _=>trivial⟩)
    clear hL
    conv=>
     enter [1,r,1,1]
     simp only[go_sem,t1,t3,t5,t6]
    generalize hL:gI _ _=z;obtain⟨x,rfl,T4,Df,EY,rfl,t1,t3,t5,t6,n9,O,e1⟩:=pJ hL m (fun k st=>st.T 1= .rp nx 0/\st.T 3= .rp (nx+1) 0/\st.T 5=I i/\st.T 6=I (sg b i)/\st.T 10=I k/\CJ<=st.nx/\Gq (st.T 7) st.σ CJ st.nx (R0.take (n+k))/\∀y,y<CJ->st.σ y=σ2 y)
     (fun x=>∃T G Ar,x=(.exit 6,⟨T,G,Ar⟩)/\T 1= .rp nx 0/\T 3= .rp (nx+1) 0/\T 5=I i/\T 6=I (sg b i)/\CJ<=Ar/\Gq (T 7) G CJ Ar (R0.take (n+m))/\∀y,y<CJ->G y=σ2 y) (by
      clear hL;rintro k ⟨T,G,Ar⟩ hk ⟨t1,t3,t5,t6,t10,J,O,Y⟩;simp only at t1 t3 t5 t6 t10 J O Y;have f1:(k:Int)<(m:Int):=by omega
      have f3:=Zl (n:=(k:Int)+1);have TN:G nx=_:=(Y nx (by omega)).trans sn;have k2:=kI (n+k);have ec:cell0 A b m n i (n+k)=if k=i then 1 else 0:=by
       unfold cell0;rw[su (by omega),sZ (by omega)]
       by_cases h:k=i
       .rw[sZ h,sZ (by omega)]
       .rw[su h,su (by omega)]
      obtain⟨Df,a1,a2,a3⟩:=rW O J ((cell0 A b m n i (n+k):Int):Rat) (by rw[zh];omega);rw[c9 (n+k) (by omega)]at a2
      by_cases e2:k=i
      .rw[sZ e2]at ec
       rw[ec]at k2 a1;have c1:((k:Int)==(i:Int))=true:=by rw[e2];simp
       refine .inl ⟨_,by simp only[go_sem,t1,t3,t5,t6,t10,TN,f1,f3,c1,k2,a1];rfl,?_⟩;simp only[go_sem,t1,t3,t5,t6];exact⟨rfl,by omega,a2,fun y S=>(a3 y S).trans (Y y S)⟩
      .rw[su e2]at ec
       rw[ec]at k2 a1;have c1:((k:Int)==(i:Int))=false:=by rw[sW];omega
       refine .inl ⟨_,by simp only[go_sem,t1,t3,t5,t6,t10,TN,f1,f3,c1,k2,a1];rfl,?_⟩;simp only[go_sem,t1,t3,t5,t6];exact⟨rfl,by omega,a2,fun y S=>(a3 y S).trans (Y y S)⟩) (by
      clear hL;rintro ⟨T,G,Ar⟩ ⟨t1,t3,t5,t6,t10,J,O,Y⟩;simp only at t1 t3 t5 t6 t10 J O Y;have TN:G nx=_:=(Y nx (by omega)).trans sn;refine⟨_,by simp only[go_sem,t1,t10,TN,zk];rfl,by simp,_,_,_,rfl,?_⟩;simp only[go_sem,t1,t3,t5,t6];exact⟨J,O,Y⟩) (by
      simp only[go_sem,t1,t3,t5,t6];exact⟨J,O,Y⟩)
    clear hL;have o0:Df nx=_:=(e1 nx (by omega)).trans sn;have ec:cell0 A b m n i (n+m)=sg b i*b.getD i 0:=by unfold cell0;rw[su (by omega),su (by omega)]
    have bd:=qK (i:=i) (m:=m) (n:=n) b5 a7 (n+m);have k2:=kI (n+m);obtain⟨Dn,a1,a2,a3⟩:=rW O n9 ((cell0 A b m n i (n+m):Int):Rat) (by rw[zh];omega);have eL:(R0.take (n+m)).length=N:=by rw[zh];omega
    have eF:R0.take (n+m+1)=R0:=zo (by omega);rw[eL,c9 (n+m) (by omega),eF]at a2;rw[ec]at bd k2 a1;rw[eL]at a1;have f6:=Zl (n:=sg b i*b.getD i 0)
    conv=>
     enter [1,r,1,1]
     simp only[go_sem,t1,t3,t5,t6,o0,g1,g2,g9,g10,g11,f6,k2,a1]
    obtain⟨e3,e4,o2,h6,o3,h7,b9⟩:=hT;rw[<- hN]at e3 e4;obtain⟨bw,h8⟩:∃bw,bw=EY+1:=⟨_,rfl⟩;have h9:Dn bw=some ⟨R0.flatMap cQ,3,true⟩:=by
     rcases a2 with ⟨h,_⟩|⟨b',h1,h2,h3,h4,h5⟩
     .rw[h]at c7;simp at c7
     .simp only[V.rs.injEq]at h4
      rw[h8,h4.1];exact h5
    rw[<- h8];have f5:∀y,y<CJ->Dn y=σ2 y:=fun y S=>(a3 y S).trans (e1 y S)
    have o4:=b7 bc (by simp);obtain⟨C0,c0⟩:∃C0,C0=qs (EO A b m n i):=⟨_,rfl⟩;obtain⟨C1,e5⟩:∃C1,C1=qs (EO A b m n (i+1)):=⟨_,rfl⟩;have i1:C0.length=N+1:=by rw[c0,gy,pK,hN]
    have s1:C1.length=N+1:=by rw[e5,gy,pK,hN]
    have o5:σ2 bc=some ⟨C0.flatMap cQ,3,true⟩:=by rw[c0];exact o3
    clear a1 a2 a3 O k2 e1;generalize hL:gI _ _=z;obtain⟨x,rfl,T5,Dh,E,rfl,t1,t3,t5,t7,Qb,o6,Qs⟩:=pJ hL (N+1) (fun k st=>st.T 1= .rp nx 0/\st.T 3= .rp (nx+1) 0/\st.T 5=I i/\st.T 7= .rs bw 0 (N+1)/\st.T 93=I ((N+1:Nat):Int)/\st.T 94=I k/\bw+1<=st.nx/\st.σ bc=some ⟨(DU C1 C0 k).flatMap cQ,3,true⟩/\∀y,y<bw+1->y≠bc->st.σ y=Dn y)
     (fun x=>∃T G Ar,x=(.exit 8,⟨T,G,Ar⟩)/\T 1= .rp nx 0/\T 3= .rp (nx+1) 0/\T 5=I i/\T 7= .rs bw 0 (N+1)/\bw+1<=Ar/\G bc=some ⟨C1.flatMap cQ,3,true⟩/\∀y,y<bw+1->y≠bc->G y=Dn y) (by
      clear hL;rintro k ⟨T,G,Ar⟩ hk ⟨t1,t3,t5,t7,t93,t94,J,a8,Y⟩;simp only at t1 t3 t5 t7 t93 t94 J a8 Y;have q1:(k:Int)<((N+1:Nat):Int):=by omega
      have q2:=jL k;have q3:=Zl (n:=(k:Int)+1);have TN:G nx=_:=(Y nx (by omega) (by omega)).trans ((f5 nx (by omega)).trans sn);have X4:G (nx+1)=_:=(Y (nx+1) (by omega) (by simp only[xw,zX,not_or]at b9;exact b9.1.1)).trans ((f5 (nx+1) (by omega)).trans e3);have i2:G bw=_:=(Y bw (by omega) (by omega)).trans h9;have hC:C1.length=C0.length:=by omega
      have c3:C1[k]'(by omega)=if k<n\/k=n+m then C0[k]'(by omega)+R0[k]'(by omega)else C0[k]'(by omega):=by
       subst e5 c0;rw[Oh (by rw[pK];omega),Oh (by rw[pK];omega),c8,IL _ _ _ _ _ (by omega),IL _ _ _ _ _ (by omega)]
       by_cases h:k<n\/k=n+m
       .rw[sZ h,sZ h,sZ h]
        rw[show FC (fun i=>cell0 A b m n i k) (i+1)=FC (fun i=>cell0 A b m n i k) i+cell0 A b m n i k from rfl,Rat.intCast_add]
       .rw[su h,su h,su h]
      have l0:Ln 1 (C0[k]'(by omega)):=by
       subst c0;rw[Oh (by rw[pK];omega)];exact sO (ahP b5 a7 (by omega) (by omega))
      have l1:Ln 1 (R0[k]'(by omega)):=by
       rw[c8];exact sO (by have:=qK (i:=i) (m:=m) (n:=n) b5 a7 k;omega)
      have g4:=dS (c:=cQ) (s:=3) qQ (DU C1 C0 k) k (by rw[jS hC (by omega)];omega);rw[IJ hC (by omega)]at g4;have g5:=dN (c:=cQ) (s:=3) qQ (DU C1 C0 k);rw[jS hC (by omega),i1]at g5;have g6:k*3+3<=(N+1)*3:=by omega
      have g7:=dS (c:=cQ) (s:=3) qQ R0 k (by omega);have g8:=dN (c:=cQ) (s:=3) qQ R0;rw[c7]at g8;have k2:=abV (C0[k]'(by omega)) (R0[k]'(by omega)) l0 l1 (by decide);have l1:nx+1<Ar:=by omega
      have l2:bc<Ar:=by omega
      have l3:bw<Ar:=by omega
      by_cases b2:k<n\/k=n+m
      .rw[sZ b2]at c3
       have c6:patch ((DU C1 C0 k).flatMap cQ) (k*3) (cQ (C0[k]'(by omega)+R0[k]'(by omega)))=(DU C1 C0 (k+1)).flatMap cQ:=by
        rw[iO qQ _ _ (by rw[jS hC (by omega)];omega),<- c3,IK hC (by omega)]
       by_cases s2:k<n
       .have q4:(k:Int)<(n:Int):=by omega
        refine .inl ⟨_,by simp only[go_sem,t1,t3,t5,t7,t93,t94,TN,X4,a8,i2,q1,q2,q3,q4,g4,g5,g6,g7,g8,k2,c6,l1,l2,l3];rfl,?_⟩;simp only[go_sem,t1,t3,t5,t7,t93];refine⟨rfl,J,fun y S hn=>?_⟩;rw[aG _ _ hn];exact Y y S hn
       .have q4:¬(k:Int)<(n:Int):=by omega
        have q5:((k:Int)==(N:Int))=true:=by rw[beq_iff_eq];omega
        refine .inl ⟨_,by simp only[go_sem,t1,t3,t5,t7,t93,t94,TN,X4,a8,i2,q1,q2,q3,q4,q5,g4,g5,g6,g7,g8,k2,c6,l1,l2,l3];rfl,?_⟩;simp only[go_sem,t1,t3,t5,t7,t93];refine⟨rfl,J,fun y S hn=>?_⟩;rw[aG _ _ hn];exact Y y S hn
      .rw[su b2]at c3
       have q4:¬(k:Int)<(n:Int):=by omega
       have q5:((k:Int)==(N:Int))=false:=by rw[sW];omega
       refine .inl ⟨_,by simp only[go_sem,t1,t3,t5,t7,t93,t94,TN,X4,q1,q2,q3,q4,q5];rfl,?_⟩;simp only[go_sem,t1,t3,t5,t7,t93];refine⟨rfl,J,?_,Y⟩;rw[<- Qo hC (by omega) c3];exact a8) (by
      clear hL;rintro ⟨T,G,Ar⟩ ⟨t1,t3,t5,t7,t93,t94,J,a8,Y⟩;simp only at t1 t3 t5 t7 t93 t94 J a8 Y;refine⟨_,by simp only[go_sem,t93,t94,zk];rfl,by simp,_,_,_,rfl,?_⟩;simp only[go_sem,t1,t3,t5,t7];refine⟨J,?_,Y⟩;rw[<- i1,JE (by omega)]at a8;exact a8) (by
      simp only[go_sem,t1,t3,t5];refine⟨?_,fun _ _ _=>trivial⟩;rw[JD,f5 bc o4.2];exact o5)
    clear hL;simp only[xw,zX,not_or]at b9;obtain⟨⟨n1,n2⟩,n3,n4⟩:=b9;have f6:∀y,y<CJ->y≠bc->Dh y=σ2 y:=fun y S hn=>(Qs y (by omega) hn).trans (f5 y S)
    have o9:Dh bw=some ⟨R0.flatMap cQ,3,true⟩:=(Qs bw (by omega) (by omega)).trans h9;have i3:Dh (nx+1)=some ⟨[I N,vr,vb,.rs bc 0 (N+1)],0,true⟩:=(f6 (nx+1) (by omega) n1).trans e3;have c4:Dh nx=_:=(f6 nx (by omega) (by omega)).trans sn;have p0:(Dq A b m n i).R.length=i:=by unfold Dq Ef;simp
    rw[p0]at e4 h6 h7;have fin:∀(σ':Store) (nx' G8 b3:Nat),E<=G8->G8<nx'->E<=b3->b3<nx'->G8≠b3->σ' (nx+1)=some ⟨[I N,.rs G8 0 (i+1),.rs b3 0 (i+1),.rs bc 0 (N+1)],0,true⟩->σ' G8=some ⟨(rb++[bw]).map fun b=>V.rs b 0 (N+1),1,true⟩->σ' b3=some ⟨(BP ((List.range (i+1)).map fun i=>n+i)).flatMap cI,1,true⟩->(∀y,y<E->y≠nx+1->y∉bk vr++bk vb->σ' y=Dh y)->ahO A b c m n σ nx (i+1) σ' nx' (nx+1):=fun σ' nx' G8 b3 p1 p2 p3 p4 p5 p6 p7 p8 p9=>by
     have b2:∀y,y∈bk vr++bk vb++rb->y≠nx+1/\y≠bc/\nx<y/\y<CJ:=fun y S=>⟨fun e=>n2 (e ▸ S),fun e=>n3 (e ▸ S),b7 y (by simp only[zX];exact .inr (.inr S))⟩
     have e6:(Dq A b m n (i+1)).R.length=i+1:=by unfold Dq Ef;simp
     have i4:=List.nodup_append.mp n4;have i5:∀y,y<CJ->y≠nx+1->y≠bc->y∉bk vr++bk vb->σ' y=σ2 y:=fun y h1 h2 h3 h4=>(p9 y (by omega) h2 h4).trans (f6 y h1 h3)
     have q0:∀j,j<i->Eb (Dq A b m n (i+1)).R j=Eb (Dq A b m n i).R j:=fun j hj=>by
      rw[fF (by omega),fF (by omega)];simp[Dq,Ef]
     have q6:Eb (Dq A b m n (i+1)).R i=R0:=by
      rw[fF (by omega),c5];simp[Dq,Ef]
     refine⟨bc,.rs G8 0 (i+1),.rs b3 0 (i+1),rb++[bw],⟨by rw[<- hN];exact p6,?_,fun j hj=>?_,?_,?_,?_,?_⟩,fun x hx=>?_,fun x hx=>?_⟩
     .rw[e6,<- hN];exact .inr ⟨G8,by omega,rfl,p7⟩
     .rw[zl,yH]at hj
      by_cases e8:j<rb.length
      .rw[wP e8,q0 j (by omega)]
       have hm:=zu e8;have:=b2 rb[j] (zA _ hm);rw[i5 _ this.2.2.2 this.1 this.2.1 fun S=>i4.2.2 _ S _ hm rfl];exact o2 j e8
      .have:j=i:=by omega
       subst this;rw[wS (by omega),q6];simp only[List.getElem_singleton];rw[p9 bw (by omega) (by omega) fun S=>by have:=b2 bw (yh _ S);omega];exact o9
     .rw[e6];exact .inr ⟨b3,by omega,rfl,p8⟩
     .rw[p9 bc (by omega) (zD n1) fun S=>n3 (yh _ S)]
      show _=some (FU.mk ((qs (EO A b m n (i+1))).flatMap cQ) 3 true);rw[<- e5];exact o6
     .rw[e6,zl,h7];rfl
     .simp only[bk,yY,yL,xw,zX,wU,zJ,or_false,not_or]
      have a7:∀y,y∈rb->y<CJ:=fun y S=>(b2 y (zA _ S)).2.2.2
      refine⟨⟨n1,by omega,by omega,fun h=>n2 (zA _ h),by omega⟩,⟨by omega,by omega,fun h=>n3 (zA _ h),by omega⟩,⟨p5,fun h=>by have:=a7 _ h;omega,by omega⟩,⟨fun h=>by have:=a7 _ h;omega,by omega⟩,?_⟩;exact List.nodup_append.mpr ⟨i4.2.1,by simp,fun x hx y S=>by rw[List.mem_singleton.mp S];have:=a7 _ hx;omega⟩
     .simp only[bk,yY,yL,zX,wU,zJ,or_false]at hx
      rcases hx with rfl|rfl|rfl|rfl|hx|rfl
      .omega
      .omega
      .omega
      .omega
      .have:=b2 x (zA _ hx);omega
      .omega
     .rw[i5 x (by omega) (by omega) (by omega) fun S=>by have:=b2 x (yh _ S);omega]
      exact fr x hx
    have w1:=Zl (n:=(n:Int)+(i:Int));have tB:BP ((List.range (i+1)).map fun i=>n+i)=BP ((List.range i).map fun i=>n+i)++[(n:Int)+(i:Int)]:=by
     unfold BP;rw[wX,xQ,xQ];rfl
    have y1:nx<E:=by omega
    have y2:nx+1<E:=by omega
    have y3:¬nx+1=E:=by omega
    have y4:¬nx=E:=by omega
    have y5:(nx+1==E)=false:=by rw[sW];omega
    have y6:(E==nx+1)=false:=by rw[sW];omega
    have y7:bw<E:=by omega
    have y8:nx<E+1:=by omega
    have y9:nx+1<E+1:=by omega
    have Xx:¬nx+1=E+1:=by omega
    have Xy:¬nx=E+1:=by omega
    have Xz:(nx+1==E+1)=false:=by rw[sW];omega
    have i6:(E+1==nx+1)=false:=by rw[sW];omega
    have XA:bw<E+1:=by omega
    have i7:nx<E+1+1:=by omega
    have i9:nx+1<E+1+1:=by omega
    have j0:¬nx+1=E+1+1:=by omega
    have j1:¬nx=E+1+1:=by omega
    have j2:(nx+1==E+1+1)=false:=by rw[sW];omega
    have j3:(E+1+1==nx+1)=false:=by rw[sW];omega
    have j4:bw<E+1+1:=by omega
    have j5:nx<E+1+1+1:=by omega
    have j6:nx+1<E+1+1+1:=by omega
    have j7:¬nx+1=E+1+1+1:=by omega
    have j8:¬nx=E+1+1+1:=by omega
    have j9:(nx+1==E+1+1+1)=false:=by rw[sW];omega
    have k3:(E+1+1+1==nx+1)=false:=by rw[sW];omega
    have k4:bw<E+1+1+1:=by omega
    have k5:nx<E+1+1+1+1:=by omega
    have k6:nx+1<E+1+1+1+1:=by omega
    have k7:¬nx+1=E+1+1+1+1:=by omega
    have k8:¬nx=E+1+1+1+1:=by omega
    have k9:(nx+1==E+1+1+1+1)=false:=by rw[sW];omega
    have l4:(E+1+1+1+1==nx+1)=false:=by rw[sW];omega
    have l5:bw<E+1+1+1+1:=by omega
    have l6:¬nx=nx+1:=by omega
    have l7:E+1+1<E+1+1+1:=by omega
    have l8:E<E+1:=by omega
    have l9:E+1<E+1+1:=by omega
    have m1:(nx==E)=false:=by rw[sW];omega
    have m2:(E==nx)=false:=by rw[sW];omega
    have m3:(nx==E+1)=false:=by rw[sW];omega
    have m4:(E+1==nx)=false:=by rw[sW];omega
    have m5:(nx==E+1+1)=false:=by rw[sW];omega
    have m6:(E+1+1==nx)=false:=by rw[sW];omega
    have m7:(nx==E+1+1+1)=false:=by rw[sW];omega
    have m8:(E+1+1+1==nx)=false:=by rw[sW];omega
    rcases e4 with ⟨hi0,rfl⟩|⟨br,hi0,rfl,q7⟩<;>rcases h6 with ⟨q8,rfl⟩|⟨bb,q8,rfl,q9⟩
    .have r0:rb=[]:=zZ (by omega)
     subst r0;refine⟨_,by simp only[go_sem,t1,t3,t5,t7,i3,c4,g3,w1,y1,y2,y3,y4,y5,y6,y7,y8,y9,Xx,Xy,Xz,i6,XA,i7,i9,j0,j1,j2,j3,j4,j5,j6,j7,j8,j9,k3,k4,k5,k6,k7,k8,k9,l4,l5,l6,l7,l8,l9,m1,m2,m3,m4,m5,m6,m7,m8];rfl,.inl ⟨_,rfl,?_⟩⟩;simp only[go_sem,t1,t3,t5];refine⟨rfl,by omega,?_,fin _ _ (E+1) (E+1+1+1) (by omega) (by omega) (by omega) (by omega) (by omega) ?_ ?_ ?_ fun y h1 h2 _=>?_⟩
     .rw[aH,aH,aH,aH,aH,aH];exact c4
     .rw[aF,hi0]
     .rw[aH,aH,aH,aH,aF];rfl
     .rw[aH,aF,tB,hi0];rfl
     .rw[aH,aH,aH,aH,aH,aH]
    .omega
    .omega
    .have lr:=b7 br (by simp[bk])
     have lb:=b7 bb (by simp[bk]);simp only[bk,yY,yL,zX,not_or]at n2 n3 n4;have n5:¬br=bb:=by
      rw[xw]at n4;exact fun e=>n4.1 (by rw[e];exact zQ)
     have r1:Dh br=_:=(f6 br lr.2 (fun e=>n3.1 e.symm)).trans q7;have r2:Dh bb=_:=(f6 bb lb.2 (fun e=>n3.2.1 e.symm)).trans q9;have r3:=rP (σ:=upd Dh E (some ⟨[V.rs bw 0 (N+1)],1,true⟩)) (nx:=E+1) (bytes:=24) (b:=br) (len:=i) (m:=1) (row:=[V.rs bw 0 (N+1)]) (by rw[aH];exact r1) (by simp;omega) rfl (by decide) (by unfold maxLen;omega) (by omega) rfl;obtain⟨Fa,e7⟩:∃Fa,Fa=upd (upd (upd (upd Dh E (some ⟨[V.rs bw 0 (N+1)],1,true⟩)) br none) (E+1) (some ⟨(rb.map fun b=>V.rs b 0 (N+1))++[V.rs bw 0 (N+1)],1,true⟩)) (nx+1) (some ⟨[I N,.rs (E+1) 0 (i+1),.rs bb 0 i,.rs bc 0 (N+1)],0,true⟩):=⟨_,rfl⟩;have o7:∀y,y<E->y≠nx+1->y≠br->Fa y=Dh y:=fun y h1 h2 h3=>by rw[e7,aG _ _ h2,aH,aG _ _ h3,aH]
     have r4:Fa (nx+1)=some ⟨[I N,.rs (E+1) 0 (i+1),.rs bb 0 i,.rs bc 0 (N+1)],0,true⟩:=by rw[e7,aF]
     have m9:Fa nx=_:=(o7 nx (by omega) (by omega) (by omega)).trans c4;have r5:Fa bb=_:=(o7 bb (by omega) (by omega) (zD n5)).trans r2;have r6:((BP (Dq A b m n i).B).flatMap cI).length=i:=by rw[qW,aV];simp[Dq]
     have r7:=rP (σ:=restrict (upd Fa (E+1+1) (some ⟨[I ((n:Int)+(i:Int))],1,true⟩)) [bb,E+1+1]) (nx:=E+1+1+1) (bytes:=8) (b:=bb) (len:=i) (m:=1) (row:=[I ((n:Int)+(i:Int))]) (by rw[gU,aH];exact r5) r6 rfl (by decide) (by unfold maxLen;omega) (by omega) rfl;have u1:¬nx+1=br:=fun e=>n2.1 e
     have u2:¬nx+1=bb:=fun e=>n2.2.1 e
     have u3:(nx+1==bb)=false:=beq_false_of_ne u2;have u4:(bb==nx+1)=false:=beq_false_of_ne (zD u2);have u5:bb<E+1+1:=by omega
     have u6:bb<E+1+1+1:=by omega
     have u7:(nx==bb)=false:=by rw[sW];omega
     have u8:(bb==nx)=false:=by rw[sW];omega
     have u9:¬nx=br:=by omega
     have r8:¬nx=bb:=by omega
     refine⟨_,by simp only[go_sem,t1,t3,t5,t7,i3,c4,g3,w1,r3,<- e7,r4,m9,r7,u1,u2,u3,u4,u5,u6,u7,u8,u9,r8,y1,y2,y3,y4,y5,y6,y7,y8,y9,Xx,Xy,Xz,i6,XA,i7,i9,j0,j1,j2,j3,j4,j5,j6,j7,j8,j9,k3,k4,k5,k6,k7,k8,k9,l4,l5,l6,l7,l8,l9,m1,m2,m3,m4,m5,m6,m7,m8];rfl,.inl ⟨_,rfl,?_⟩⟩;simp only[go_sem,t1,t3,t5];refine⟨rfl,by omega,?_,fin _ _ (E+1) (E+1+1+1) (by omega) (by omega) (by omega) (by omega) (by omega) ?_ ?_ ?_ fun y h1 h2 h3=>?_⟩
     .rw[aH,aH,aH,aH];exact m9
     .rw[aF]
     .rw[aH,aH,aH,aH,e7,aH,aF,xQ];rfl
     .rw[aH,aF,tB,zT];rfl
     .simp only[bk,yY,yL,zX,zJ,or_false,not_or]at h3
      rw[aG _ _ h2,aH,aG _ _ h3.2,aH];exact o7 y h1 h2 h3.1) (by
   clear hL;rintro ⟨T,σ2,CJ⟩ ⟨t1,t3,t5,b4,sn,hF⟩;simp only at t1 t3 t5 b4 sn hF;unfold CG at sn;refine⟨_,by simp only[go_sem,t1,t5,sn,zk];rfl,by simp,_,_,_,rfl,?_⟩;simp only[go_sem,t3];exact hF) (by
   simp only[go_sem,t1,t3];exact⟨by omega,g2,i0⟩)
 exact⟨σ2,CJ,nx+1,by simp only[go_sem,t3],hF⟩
def En(n:Nat)(D:TQ)(i:Nat):Prop:=n<=D.B.getD i 0->∀j,j<n->BO D.R i j=0
theorem En.piv{n N:Nat}{D:TQ}{i k r:Nat}(E:∀x∈D.R,x.length=N+1)(hl:D.B.length=D.R.length)(h:En n D r)(O:r<D.R.length)(hi:i<D.R.length)(S:k<n)(hn:n<=N)(G:r≠i):En n (Nl D i k) r:=fun Y j hj=>by
 have J:n<=D.B.getD r 0:=by
  have:(D.B.set i k).getD r 0=D.B.getD r 0:=by
   rw[zx,zx,List.getElem?_set_ne (zD G)]
  rw[<- this];exact Y
 show BO (DL D.R i k) r j=0;rw[Sz E hi O (by omega),su G,h J j hj,h J k S];grind
def Gw(c:List Int):List Rat:=qs c++[0]
def D2q(n:Nat)(D:TQ)(c:List Int):TQ:=⟨(pick n D.R D.B).1,(pick n D.R D.B).2,clears (Gw c) (pick n D.R D.B).1 (pick n D.R D.B).2⟩
theorem aem{α:Type}{c:α->List V}{s:Nat}(hc:∀x,(c x).length=s)(xs:List α){k:Nat}(h:k<=xs.length):(xs.flatMap c).take (k*s)=(xs.take k).flatMap c:=by
 have:=wQ k xs
 conv=>lhs;rw[<- this]
 rw[zT,wu];rw[dN hc,zh,xY h]
theorem Qu{n:Nat}(x:List Rat)(b:Nat):∀ {R:List (List Rat)} {B:List Nat},B.length=R.length->pick n (R++[x]) (B++[b])=if b<n then((pick n R B).1++[x.take n++[x.getLastD 0]],(pick n R B).2++[b])else pick n R B
 |[],[],_=>by
  show(if b<n then((x.take n++[x.getLastD 0]) :: (pick n [] []).1,b :: (pick n [] []).2)else pick n [] [])=_;rfl
 |[],_ :: _,h=>by simp at h
 |_ :: _,[],h=>by simp at h
 |y :: R,d :: B,h=>by
  have E:=Qu (n:=n) x b (R:=R) (B:=B) (by simpa using h);show(if d<n then((y.take n++[y.getLastD 0]) :: (pick n (R++[x]) (B++[b])).1,d :: (pick n (R++[x]) (B++[b])).2)else pick n (R++[x]) (B++[b]))=if b<n then((if d<n then((y.take n++[y.getLastD 0]) :: (pick n R B).1,d :: (pick n R B).2)else pick n R B).1++_,(if d<n then((y.take n++[y.getLastD 0]) :: (pick n R B).1,d :: (pick n R B).2)else pick n R B).2++[b])else if d<n then((y.take n++[y.getLastD 0]) :: (pick n R B).1,d :: (pick n R B).2)else pick n R B
  rw[E]
  by_cases G:b<n<;>by_cases J:d<n<;>simp[G,J]
theorem IQ{n:Nat}:∀ {R:List (List Rat)} {B:List Nat},(pick n R B).2.length=(pick n R B).1.length
 |[],_=>by simp[pick]
 |_ :: _,[]=>by simp[pick]
 |x :: R,b :: B=>by
  have E:=IQ (n:=n) (R:=R) (B:=B);unfold pick
  split<;>simp[E]
theorem IU{n:Nat}:∀ {R:List (List Rat)} {B:List Nat},(∀x∈(pick n R B).1,∃y∈R,x=y.take n++[y.getLastD 0])/\∀b∈(pick n R B).2,b<n
 |[],_=>by simp[pick]
 |_ :: _,[]=>by simp[pick]
 |y :: R,b :: B=>by
  obtain⟨O,S⟩:=IU (n:=n) (R:=R) (B:=B);unfold pick
  split
  .refine⟨fun x E=>?_,fun d G=>?_⟩
   .rcases List.mem_cons.mp E with rfl|E
    .exact⟨y,zQ,rfl⟩
    .obtain⟨z,J,e⟩:=O x E
     exact⟨z,zY _ J,e⟩
   .rcases List.mem_cons.mp G with rfl|G
    .assumption
    .exact S d G
  .refine⟨fun x E=>?_,S⟩
   obtain⟨z,J,e⟩:=O x E;exact⟨z,zY _ J,e⟩
theorem Kr(x:List Rat)(b:Nat):∀ {R:List (List Rat)} {B:List Nat} {c:List Rat},B.length=R.length->clears c (R++[x]) (B++[b])=KF (clears c R B) x ((clears c R B).getD b 0)
 |[],[],_,_=>rfl
 |[],_ :: _,_,h=>by simp at h
 |_ :: _,[],_,h=>by simp at h
 |y :: R,d :: B,c,h=>Kr x b (R:=R) (B:=B) (c:=KF c y (c.getD d 0)) (by simpa using h)
theorem Oi{n:Nat}:∀ {R:List (List Rat)} {B:List Nat} {c:List Rat},c.length=n->(∀x∈R,x.length=n)->(clears c R B).length=n
 |[],_,_,h,_=>by unfold clears;exact h
 |_ :: _,[],_,h,_=>by unfold clears;exact h
 |x :: R,b :: B,c,h,hr=>Oi (R:=R) (B:=B) (c:=KF c x (c.getD b 0)) (by rw[qA (by rw[hr x zQ,h]),h]) fun y E=>hr y (zY _ E)
theorem ahX{σ σ':Store}{bt bc br bb bw m0 N b:Nat}{vr vb:V}{rb:List Nat}{D:TQ}{x:List Rat}(h:EN σ bt bc vr vb rb D N)(hm:∀y∈bt :: bc :: (bk vr++bk vb++rb),y<m0)(p1:m0<=br)(p2:m0<=bb)(p3:m0<=bw)(p4:br≠bb)(p5:br≠bw)(p6:bb≠bw)
  (q1:σ' bt=some ⟨[I N,.rs br 0 (D.R.length+1),.rs bb 0 (D.R.length+1),.rs bc 0 (N+1)],0,true⟩) (q2:σ' br=some ⟨(rb++[bw]).map fun b=>V.rs b 0 (N+1),1,true⟩) (q3:σ' bb=some ⟨(BP (D.B++[b])).flatMap cI,1,true⟩) (q4:σ' bw=some ⟨x.flatMap cQ,3,true⟩) (fr:∀y,y<m0->y≠bt->y∉bk vr++bk vb->σ' y=σ y) :
  EN σ' bt bc (.rs br 0 (D.R.length+1)) (.rs bb 0 (D.R.length+1)) (rb++[bw]) ⟨D.R++[x],D.B++[b],D.c⟩ N:=by
 obtain⟨g1,g2,g3,g4,g5,g6,g7⟩:=h;have E:(D.R++[x]).length=D.R.length+1:=by simp
 simp only[xw,zX,not_or]at g7;obtain⟨⟨n1,n2⟩,n3,n4⟩:=g7;have Y:=List.nodup_append.mp n4;have a1:∀y,y∈bk vr++bk vb++rb->y<m0:=fun y G=>hm y (by simp only[zX];exact .inr (.inr G))
 have a7:=hm bt (by simp);have a6:=hm bc (by simp);refine⟨q1,?_,fun j hj=>?_,?_,?_,?_,?_⟩
 .show GV σ' _ (D.R++[x]).length _
  rw[E];exact .inr ⟨br,by omega,rfl,q2⟩
 .show _=some (FU.mk ((Eb (D.R++[x]) j).flatMap cQ) 3 true)
  rw[zl,yH]at hj
  by_cases J:j<rb.length
  .have e:Eb (D.R++[x]) j=Eb D.R j:=by rw[fF (by rw[E];omega),fF (by omega),wP (by omega)]
   rw[wP J,e];have O:=zu J;rw[fr _ (a1 _ (zA _ O)) (fun e=>n2 (e ▸ zA _ O)) fun G=>Y.2.2 _ G _ O rfl];exact g3 j J
  .have e:Eb (D.R++[x]) j=x:=by
    rw[fF (by rw[E];omega),wS (by omega)];simp
   rw[wS (by omega),e];simp only[List.getElem_singleton];exact q4
 .show GV σ' _ (D.R++[x]).length _
  rw[E];exact .inr ⟨bb,by omega,rfl,q3⟩
 .rw[fr bc a6 (zD n1) fun G=>n3 (yh _ G)];exact g5
 .show _=(D.R++[x]).length
  rw[E,zl,g6];rfl
 .simp only[bk,yY,yL,xw,zX,wU,zJ,or_false,not_or]
  have S:∀y,y∈rb->y<m0:=fun y G=>a1 y (zA _ G)
  refine⟨⟨n1,by omega,by omega,fun h=>n2 (zA _ h),by omega⟩,⟨by omega,by omega,fun h=>n3 (zA _ h),by omega⟩,⟨p4,fun h=>by have:=S _ h;omega,p5⟩,⟨fun h=>by have:=S _ h;omega,p6⟩,?_⟩;exact List.nodup_append.mpr ⟨Y.2.1,by simp,fun x hx y G=>by rw[List.mem_singleton.mp G];have:=S _ hx;omega⟩
theorem alp(Qp:TQ->Prop){A b c:List Int}{m n N:Nat}(hc:c.length=n)(hN:N=n+m)(azL:n<=400)(hc1:∀x∈c,-1000<=x/\x<=1000)(hI:∀D,Qp D->ShF D N)
  (hpv:∀D i k,Qp D->i<D.R.length->n<=D.B.getD i 0->k<n->BO D.R i k≠0->Qp (Nl D i k))
  (hcl:∀D,Qp D->(∀i,i<D.R.length->En n D i)->∀q,q<=(pick n D.R D.B).1.length->∀u∈clears (Gw c) ((pick n D.R D.B).1.take q) ((pick n D.R D.B).2.take q),Ln 6 u)
  {σ:Store} {nx bt bc:Nat} {vr vb:V} {rb:List Nat} {D:TQ} (hQ:Qp D) (h:EN σ bt bc vr vb rb D N) (b2:∀x∈bt :: bc :: (bk vr++bk vb++rb),x<nx) :
  ∃σ' nx' q0 O XB XC G5 D',ev Ze pI Ad 186 [.agg (CG m n A b c),.rp bt 0] σ nx=some (.rp q0 0,σ',nx')/\Qp D'/\(∀i,i<D'.R.length->En n D' i)/\EN σ' q0 O XB XC G5 (D2q n D' c) n/\(∀x∈q0 :: O :: (bk XB++bk XC++G5),nx<=x/\x<nx')/\∀x,x<nx->x∉bc :: (bk vb++rb)->σ' x=σ x:=by
 have hbt:=h.t;obtain⟨s0,l6⟩:∃s0,s0=upd σ nx (some ⟨CG m n A b c,0,true⟩):=⟨_,rfl⟩;have X_:∀x,x<nx->s0 x=σ x:=fun x Y=>by rw[l6,aH]
 have s0n:s0 nx=some ⟨CG m n A b c,0,true⟩:=by rw[l6,aF]
 have w2:=(X_ bt (b2 bt (by simp))).trans hbt;have as6:EN s0 bt bc vr vb rb D N:=by
  obtain⟨g1,g2,g3,g4,g5,g6,g7⟩:=h;have gv:∀v n cs,(∀x∈bk v,x<nx)->GV σ v n cs->GV s0 v n cs:=fun v n cs Y hg=>by
   rcases hg with hg|⟨b,q1,rfl,q3⟩
   .exact .inl hg
   .exact .inr ⟨b,q1,rfl,(X_ b (Y b (by simp[bk]))).trans q3⟩
  refine⟨w2,gv _ _ _ (fun x Y=>b2 x (by simp[Y])) g2,fun i hi=>(X_ _ (b2 _ (by simp[zu hi]))).trans (g3 i hi),gv _ _ _ (fun x Y=>b2 x (by simp[Y])) g4,(X_ bc (b2 bc (by simp))).trans g5,g6,g7⟩
 have hlR:∀D1:TQ,EN s0 bt bc vr vb rb D1 N->D1.R.length=rb.length:=fun D1 h1=>h1.len.symm
 obtain⟨L,eL⟩:∃L,L=D.R.length:=⟨_,rfl⟩;have azM:L<=1000:=by have:=(hI D hQ).F6;omega
 have hlen:Dw Ze 235 vr=some (I L):=by
  rcases h.r with ⟨q1,rfl⟩|⟨br,q1,rfl,_⟩
  .have:L=0:=by omega
   subst this;exact o_ (by kernel_rfl)
  .rw[eL];exact ny (by kernel_rfl)
 unfold CG at l6⊢;rw[nK [.tmp 4] [14,15,21,22,27] func186];simp only[go_sem,<- l6,w2,hlen];generalize hL:gI _ _=y;obtain⟨x,rfl,T1,S,G,D1,rfl,t1,t2,j3,b8,k5,Ue,c3,b9,n4⟩:=pJ hL L (fun i st=>st.T 1= .rp bt 0/\st.T 2= .rp nx 0/\st.T 18=I L/\st.T 19=I i/\nx+1<=st.nx/\st.σ nx=some ⟨CG m n A b c,0,true⟩/\(∀x,x<nx->x∉bc :: (bk vb++rb)->st.σ x=σ x)/\∃D1,Qp D1/\D1.R.length=L/\(∀q,q<i->En n D1 q)/\EN st.σ bt bc vr vb rb D1 N)
  (fun x=>∃T S G D1,x=(.exit 0,⟨T,S,G⟩)/\T 1= .rp bt 0/\T 2= .rp nx 0/\nx+1<=G/\S nx=some ⟨CG m n A b c,0,true⟩/\(∀x,x<nx->x∉bc :: (bk vb++rb)->S x=σ x)/\Qp D1/\(∀q,q<L->En n D1 q)/\EN S bt bc vr vb rb D1 N/\D1.R.length=L) (by
   clear hL;rintro i ⟨T,S,G⟩ hi ⟨t1,t2,DR,t19,j3,b8,k5,D1,Ue,q8,c3,b9⟩;simp only at t1 t2 DR t19 j3 b8 b9;unfold CG at b8;have g1:(i:Int)<(L:Int):=by omega
   have g2:=jL i;have g3:=Zl (n:=(i:Int)+1);refine cu ?_
   conv=>
    enter [1,r,1,1]
    simp only[go_sem,t1,t2,DR,t19,g1]
   generalize hL:gI _ _=z;obtain⟨x,rfl,T2,σ2,CJ,D2,rfl,t1,t2,DR,t19,c6,b3,j1,c7,b5,a6,a7⟩:=pJ hL n (fun j st=>st.T 1= .rp bt 0/\st.T 2= .rp nx 0/\st.T 18=I L/\st.T 19=I i/\st.T 5=I i/\st.T 6=I j/\nx+1<=st.nx/\st.σ nx=some ⟨[I m,I n,LI A,LI b,LI c],0,true⟩/\(∀x,x<nx->x∉bc :: (bk vb++rb)->st.σ x=σ x)/\∃D1,Qp D1/\D1.R.length=L/\(∀q,q<i->En n D1 q)/\EN st.σ bt bc vr vb rb D1 N/\(n<=D1.B.getD i 0->∀q,q<j->BO D1.R i q=0))
    (fun x=>∃T S G D1,x=(.exit 2,⟨T,S,G⟩)/\T 1= .rp bt 0/\T 2= .rp nx 0/\T 18=I L/\T 19=I i/\nx+1<=G/\S nx=some ⟨[I m,I n,LI A,LI b,LI c],0,true⟩/\(∀x,x<nx->x∉bc :: (bk vb++rb)->S x=σ x)/\Qp D1/\D1.R.length=L/\(∀q,q<i+1->En n D1 q)/\EN S bt bc vr vb rb D1 N) (by
     clear hL;rintro j ⟨T,σ2,CJ⟩ hj ⟨t1,t2,DR,t19,t5,t6,c6,b3,j1,D2,c7,b5,a6,a7,hz⟩;simp only at t1 t2 DR t19 t5 t6 c6 b3 a7;have q1:(j:Int)<(n:Int):=by omega
     have q2:=jL j;have q3:=Zl (n:=(j:Int)+1);have j4:=hI D2 c7;have q9:=a7.t;obtain⟨br,rfl,l7⟩:∃br,vr= .rs br 0 L/\σ2 br=some ⟨rb.map fun b=>V.rs b 0 (N+1),1,true⟩:=by
      rcases a7.r with ⟨e,_⟩|⟨br,_,e,e2⟩
      .omega
      .exact⟨br,by rw[e,b5],e2⟩
     obtain⟨bb,rfl,k6⟩:∃bb,vb= .rs bb 0 L/\σ2 bb=some ⟨(BP D2.B).flatMap cI,1,true⟩:=by
      rcases a7.b with ⟨e,_⟩|⟨bb,_,e,e2⟩
      .omega
      .exact⟨bb,by rw[e,b5],e2⟩
     have l1:nx<CJ:=by omega
     have l2:bt<CJ:=by have:=b2 bt (by simp);omega
     have l3:bb<CJ:=by have:=b2 bb (by simp[bk]);omega
     have w3:=j4.A8;have b1:=idx (xs:=BP D2.B) (k:=i) (by rw[aV];omega);rw[aW (by omega)]at b1
     by_cases hB:n<=D2.B.getD i 0
     .have c1:(n:Int)<=((D2.B.getD i 0:Nat):Int):=by omega
      have c0:i<rb.length:=by have:=a7.len;omega
      have r1:(rb.map fun b=>V.rs b 0 (N+1))[i]?=some (.rs rb[i] 0 (N+1)):=by rw[z_,zy c0];rfl
      have r2:=a7.row i c0;have rl:=fE j4.row (show i<D2.R.length by omega);have r3:=qH (R:=D2.R) (i:=i) (j:=j) (by omega);have r4:=dN (c:=cQ) (s:=3) qQ (Eb D2.R i);rw[rl]at r4;have r5:(j:Int)<((N+1:Nat):Int):=by omega
      have r6:j*3+3<=(N+1)*3:=by omega
      have bq:Ln 6 (BO D2.R i j):=by
       rw[<- oN (by omega)];exact j4.big _ (by rw[fF (show i<D2.R.length by omega)];exact zu _) _ (zu _)
      have k1:=fB (BO D2.R i j) (bq.mono (by decide));have s1:=aaJ (BO D2.R i j)
      by_cases h0:BO D2.R i j=0
      .rw[sS h0,vN]at s1
       refine .inl ⟨_,by simp only[go_sem,t1,t2,DR,t19,t5,t6,b3,q9,b5,l7,k6,b1,g1,g2,q1,q2,q3,c1,l1,l2,l3,r1,r2,r3,r4,r5,r6,k1,s1];rfl,?_⟩;simp only[go_sem,t1,t2,DR,t19,t5];refine⟨rfl,c6,b3,j1,D2,c7,b5,a6,a7,fun _ q hq=>?_⟩
       by_cases e:q=j
       .subst e;exact h0
       .exact hz hB q (by omega)
      .rw[sQ h0,wY]at s1
       have w4:=hpv D2 i j c7 (by omega) hB hj h0;obtain⟨a8,J,k2,NJ,j5,EZ⟩:=ahM (nx:=CJ) a7 j4 (hI _ w4) (fun b hb=>by have:=b2 b hb;omega) (show i<D2.R.length by omega) (show j<N by omega) h0;have hl3:(Nl D2 i j).R.length=L:=(iK ..).trans b5;refine .inl ⟨_,by simp only[go_sem,qM,t1,t2,DR,t19,t5,t6,b3,q9,b5,l7,k6,b1,g1,g2,q1,q2,q3,c1,l1,l2,l3,r1,r2,r3,r4,r5,r6,k1,s1,k2];rfl,?_⟩;simp only[go_sem,t1,t2,DR,t19,t5];refine⟨rfl,by omega,?_,fun x Y l8=>(EZ x (by omega) l8).trans (j1 x Y l8),_,w4,hl3,fun q hq=>(a6 q hq).piv j4.row j4.A8 (by omega) (by omega) hj (by omega) (by omega),NJ,fun hB3=>?_⟩
       .rw[EZ nx (by omega) fun hm=>by have:=b2 nx (by simp only[zX,wU]at hm⊢;rcases hm with h|h|h<;>simp[h]);omega]
        exact b3
       .have:(D2.B.set i j).getD i 0=j:=by rw[zx,tV (by omega)];rfl
        have hB4:n<=(D2.B.set i j).getD i 0:=hB3;omega
     .have c1:¬(n:Int)<=((D2.B.getD i 0:Nat):Int):=by omega
      refine .inr ⟨_,by simp only[go_sem,t1,t2,DR,t19,t5,t6,b3,q9,b5,k6,b1,g1,g2,q1,c1,l1,l2,l3];rfl,by simp,_,_,_,D2,rfl,?_⟩;simp only[go_sem,t1,t2,DR,t19];refine⟨c6,b3,j1,c7,b5,fun q hq=>?_,a7⟩
      by_cases e:q=i
      .subst e;exact fun h=>absurd h hB
      .exact a6 q (by omega)) (by
     clear hL;rintro ⟨T,σ2,CJ⟩ ⟨t1,t2,DR,t19,t5,t6,c6,b3,j1,D2,c7,b5,a6,a7,hz⟩;simp only at t1 t2 DR t19 t5 t6 c6 b3 a7;have l1:nx<CJ:=by omega
     refine⟨_,by simp only[go_sem,t2,t6,b3,zk,l1];rfl,by simp,_,_,_,D2,rfl,?_⟩;simp only[go_sem,t1,t2,DR,t19];refine⟨c6,b3,j1,c7,b5,fun q hq=>?_,a7⟩
     by_cases e:q=i
     .subst e;exact hz
     .exact a6 q (by omega)) (by
     simp only[go_sem,t1,t2,DR,t19];exact⟨j3,b8,k5,D1,Ue,q8,c3,b9,fun _ q hq=>absurd hq (zU _)⟩)
   refine⟨_,by simp only[go_sem,t19,g3];rfl,.inl ⟨_,rfl,?_⟩⟩;simp only[go_sem,t1,t2,DR];exact⟨rfl,c6,b3,j1,D2,c7,b5,a6,a7⟩) (by
   clear hL;rintro ⟨T,S,G⟩ ⟨t1,t2,DR,t19,j3,b8,k5,D1,Ue,q8,c3,b9⟩;simp only at t1 t2 DR t19 j3 b8 b9;refine⟨_,by simp only[go_sem,DR,t19,zk];rfl,by simp,_,_,_,D1,rfl,?_⟩;simp only[go_sem,t1,t2];exact⟨j3,b8,k5,Ue,c3,b9,q8⟩) (by
   simp only[go_sem];exact⟨s0n,fun x Y _=>X_ x Y,D,hQ,eL.symm,fun q hq=>absurd hq (zU _),as6⟩)
 clear hL;have kI:∀j,fn Ze conv ext 133 [I (c.getD j 0)]=some (.agg (cQ ((c.getD j 0:Int):Rat))):=fun j=>by
  have:=lV hc1 j;exact fD _ (by omega) (by omega)
 have k0:fn Ze conv ext 133 [I 0]=some (.agg (cQ 0)):=fD 0 (by decide) (by decide)
 have snp:∀j,j<n->(qs c).take j++[((c.getD j 0:Int):Rat)]=(qs c).take (j+1):=fun j h=>by
  rw[yN,zy (by rw[gy];omega),Oh (by omega),lW (by omega)];rfl
 unfold CG at b8;have d1:¬nx=G:=by omega
 simp only[go_sem,t1,t2,b8,d1];generalize hL:gI _ _=y;obtain⟨x,rfl,T3,a8,J,rfl,t1,t2,t7,j5,TN,EZ,j2⟩:=pJ hL n (fun j st=>st.T 1= .rp bt 0/\st.T 2= .rp nx 0/\st.T 7= .rp G 0/\st.T 8=I j/\G<st.nx/\st.σ nx=some ⟨[I m,I n,LI A,LI b,LI c],0,true⟩/\(∀x,x<G->st.σ x=S x)/\((j=0/\st.σ G=some ⟨[I n,.nil,.nil,.nil],0,true⟩)\/∃bc,0<j/\G<bc/\bc<st.nx/\st.σ G=some ⟨[I n,.nil,.nil,.rs bc 0 j],0,true⟩/\st.σ bc=some ⟨((qs c).take j).flatMap cQ,3,true⟩))
  (fun x=>∃T a8 J,x=(.exit 4,⟨T,a8,J⟩)/\T 1= .rp bt 0/\T 2= .rp nx 0/\T 7= .rp G 0/\G<J/\a8 nx=some ⟨[I m,I n,LI A,LI b,LI c],0,true⟩/\(∀x,x<G->a8 x=S x)/\((n=0/\a8 G=some ⟨[I n,.nil,.nil,.nil],0,true⟩)\/∃bc,0<n/\G<bc/\bc<J/\a8 G=some ⟨[I n,.nil,.nil,.rs bc 0 n],0,true⟩/\a8 bc=some ⟨((qs c).take n).flatMap cQ,3,true⟩)) (by
   clear hL;rintro j ⟨T,a8,J⟩ hj ⟨t1,t2,t7,t8,j5,TN,EZ,j2⟩;simp only at t1 t2 t7 t8 j5 TN EZ j2;have g1:(j:Int)<(n:Int):=by omega
   have g2:=jL j;have g3:=Zl (n:=(j:Int)+1);have g4:(j:Int)<(c.length:Int):=by omega
   have g5:(c.flatMap cI)[j]?=some (I (c.getD j 0)):=by
    rw[idx (by omega),zx,zy (by omega)];rfl
   have g6:=Aw c j (by omega);have k1:=kI j;have hs:=snp j hj;generalize ((c.getD j 0:Int):Rat)=w at k1 hs;have y1:nx<J:=by omega
   have y2:¬nx=J:=by omega
   have y3:(nx==J)=false:=by rw[sW];omega
   have y4:(J==nx)=false:=by rw[sW];omega
   have y5:G<J:=by omega
   have y6:¬G=J:=by omega
   have y7:(G==J)=false:=by rw[sW];omega
   have y8:(J==G)=false:=by rw[sW];omega
   have y9:nx<J+1:=by omega
   have Xx:¬nx=J+1:=by omega
   have Xy:(nx==J+1)=false:=by rw[sW];omega
   have Xz:(J+1==nx)=false:=by rw[sW];omega
   have c8:G<J+1:=by omega
   have XA:¬G=J+1:=by omega
   have c9:(G==J+1)=false:=by rw[sW];omega
   have e8:(J+1==G)=false:=by rw[sW];omega
   have e9:nx<J+1+1:=by omega
   have h4:¬nx=J+1+1:=by omega
   have h5:(nx==J+1+1)=false:=by rw[sW];omega
   have h6:(J+1+1==nx)=false:=by rw[sW];omega
   have h7:G<J+1+1:=by omega
   have h8:¬G=J+1+1:=by omega
   have h9:(G==J+1+1)=false:=by rw[sW];omega
   have i0:(J+1+1==G)=false:=by rw[sW];omega
   have i1:¬nx=G:=by omega
   have i2:¬G=nx:=by omega
   have i3:(nx==G)=false:=by rw[sW];omega
   have i4:(G==nx)=false:=by rw[sW];omega
   have i5:J<J+1:=by omega
   have i6:J+1<J+1+1:=by omega
   rcases j2 with ⟨h0,st⟩|⟨O,hj0,c1,c2,st,sc⟩
   .have g7:(qs c).take 0=[]:=rfl
    refine .inl ⟨_,by simp only[go_sem,t1,t2,t7,t8,TN,st,g1,g2,g3,g4,g5,g6,k1,y1,y2,y3,y4,y5,y6,y7,y8,y9,Xx,Xy,Xz,c8,XA,c9,e8,e9,h4,h5,h6,h7,h8,h9,i0,i1,i2,i3,i4,i5,i6];rfl,?_⟩;simp only[go_sem,t1,t2,t7];refine⟨rfl,by omega,?_,fun x Y=>?_,.inr ⟨J+1,by omega,by omega,by omega,by rw[h0],?_⟩⟩
    .rw[aH,aH,aH];exact TN
    .rw[aH,aH,aH];exact EZ x Y
    .rw[aH,aF,<- hs,h0,g7];simp
   .have k7:=rO (σ:=restrict (upd a8 J (some ⟨cQ w,3,true⟩)) [O,J]) (nx:=J+1) (size:=3) (bytes:=56) (b:=O) (len:=j) (m:=1) (row:=cQ w) (by rw[gU,aH];exact sc) (by rw[dN qQ,zh,gy];omega) (by decide) (by decide) (by unfold maxLen;omega) (by omega) rfl
    have x1:O<J+1:=by omega
    have x2:(G==O)=false:=by rw[sW];omega
    have x3:(O==G)=false:=by rw[sW];omega
    have x4:¬G=O:=by omega
    have x5:(nx==O)=false:=by rw[sW];omega
    have x6:(O==nx)=false:=by rw[sW];omega
    have x7:¬nx=O:=by omega
    refine .inl ⟨_,by simp only[go_sem,t1,t2,t7,t8,TN,st,g1,g2,g3,g4,g5,g6,k1,k7,x1,x2,x3,x4,x5,x6,x7,y1,y2,y3,y4,y5,y6,y7,y8,y9,Xx,Xy,Xz,c8,XA,c9,e8,e9,h4,h5,h6,h7,h8,h9,i0,i1,i2,i3,i4,i5,i6];rfl,?_⟩;simp only[go_sem,t1,t2,t7];refine⟨rfl,by omega,?_,fun x Y=>?_,.inr ⟨J+1,by omega,by omega,by omega,rfl,?_⟩⟩
    .rw[aH,aH,aH,aH];exact TN
    .rw[aH,aH,aH,aH];exact EZ x Y
    .rw[aH,aF,<- hs,zT];simp) (by
   clear hL;rintro ⟨T,a8,J⟩ ⟨t1,t2,t7,t8,j5,TN,EZ,j2⟩;simp only at t1 t2 t7 t8 j5 TN EZ j2;refine⟨_,by simp only[go_sem,t2,t8,TN,zk];rfl,by simp,_,_,_,rfl,?_⟩;simp only[go_sem,t1,t2,t7];exact⟨j5,TN,EZ,j2⟩) (by
   simp only[go_sem,t1,t2];refine⟨by omega,?_,fun x Y=>?_,.inl trivial⟩
   .rw[aG _ _ d1];exact b8
   .rw[aH])
 clear hL;have y1:nx<J:=by omega
 have y2:¬nx=J:=by omega
 have y3:(nx==J)=false:=by rw[sW];omega
 have y4:(J==nx)=false:=by rw[sW];omega
 have y5:G<J:=by omega
 have y6:¬G=J:=by omega
 have y7:(G==J)=false:=by rw[sW];omega
 have y8:(J==G)=false:=by rw[sW];omega
 have y9:nx<J+1:=by omega
 have Xx:¬nx=J+1:=by omega
 have Xy:(nx==J+1)=false:=by rw[sW];omega
 have Xz:(J+1==nx)=false:=by rw[sW];omega
 have c8:G<J+1:=by omega
 have XA:¬G=J+1:=by omega
 have c9:(G==J+1)=false:=by rw[sW];omega
 have e8:(J+1==G)=false:=by rw[sW];omega
 have e9:nx<J+1+1:=by omega
 have h4:¬nx=J+1+1:=by omega
 have h5:(nx==J+1+1)=false:=by rw[sW];omega
 have h6:(J+1+1==nx)=false:=by rw[sW];omega
 have h7:G<J+1+1:=by omega
 have h8:¬G=J+1+1:=by omega
 have h9:(G==J+1+1)=false:=by rw[sW];omega
 have i0:(J+1+1==G)=false:=by rw[sW];omega
 have i1:¬nx=G:=by omega
 have i2:(nx==G)=false:=by rw[sW];omega
 have i3:¬G=nx:=by omega
 have i4:(G==nx)=false:=by rw[sW];omega
 have i5:J<J+1:=by omega
 have i6:J+1<J+1+1:=by omega
 have r0:=b9.t;have ltt:=b2 bt (by simp);have k8:bt<J+1+1:=by omega
 have i7:¬bt=G:=by omega
 have i9:¬bt=J:=by omega
 have k9:¬bt=J+1:=by omega
 have hqs:(qs c).take n=qs c:=zo (by rw[gy];omega);rcases j2 with ⟨h0,st⟩|⟨O,hj0,c1,c2,st,sc⟩
 case' inl=>
  obtain⟨Df,e4⟩:∃Df,Df=upd (upd (upd a8 J (some ⟨cQ 0,3,true⟩)) (J+1) (some ⟨cQ 0,3,true⟩)) G (some ⟨[I n,.nil,.nil,.rs (J+1) 0 1],0,true⟩):=⟨_,rfl⟩;have w5:Df G=some ⟨[I n,.nil,.nil,.rs (J+1) 0 (n+1)],0,true⟩:=by rw[e4,aF,h0]
  have w7:Df (J+1)=some ⟨(Gw c).flatMap cQ,3,true⟩:=by
   have:c=[]:=zZ (by omega);rw[e4,aH,aF,this];rfl
  have l9:∀x,x<G->Df x=S x:=fun x Y=>by rw[e4,aH,aH,aH];exact EZ x Y
  have s2:Df bt=_:=(l9 bt (by omega)).trans r0;simp only[go_sem,t1,t2,t7,st,k0,y1,y2,y3,y4,y5,y6,y7,y8,y9,Xx,Xy,Xz,c8,XA,c9,e8,e9,h4,h5,h6,h7,h8,h9,i0,i1,i2,i3,i4,i5,i6,k8,i7,i9,k9,<- e4,s2,hlen]
 case' inr=>
  have k7:=rO (σ:=restrict (upd a8 J (some ⟨cQ 0,3,true⟩)) [O,J]) (nx:=J+1) (size:=3) (bytes:=56) (b:=O) (len:=n) (m:=1) (row:=cQ 0) (by rw[gU,aH];exact sc) (by rw[dN qQ,zh,gy];omega) (by decide) (by decide) (by unfold maxLen;omega) (by omega) rfl;have x1:O<J+1:=by omega
  have x2:(G==O)=false:=by rw[sW];omega
  have x3:(O==G)=false:=by rw[sW];omega
  have x4:¬G=O:=by omega
  have x7:¬bt=O:=by omega
  obtain⟨Df,e4⟩:∃Df,Df=upd (upd (upd (upd a8 J (some ⟨cQ 0,3,true⟩)) O none) (J+1) (some ⟨((qs c).take n).flatMap cQ++cQ 0,3,true⟩)) G (some ⟨[I n,.nil,.nil,.rs (J+1) 0 (n+1)],0,true⟩):=⟨_,rfl⟩;have w5:Df G=some ⟨[I n,.nil,.nil,.rs (J+1) 0 (n+1)],0,true⟩:=by rw[e4,aF]
  have w7:Df (J+1)=some ⟨(Gw c).flatMap cQ,3,true⟩:=by
   rw[e4,aH,aF,hqs];unfold Gw;rw[zT];simp
  have l9:∀x,x<G->Df x=S x:=fun x Y=>by rw[e4,aH,aH,aH,aH];exact EZ x Y
  have s2:Df bt=_:=(l9 bt (by omega)).trans r0;simp only[go_sem,t1,t2,t7,st,k0,k7,x1,x2,x3,x4,x7,y1,y2,y3,y4,y5,y6,y7,y8,y9,Xx,Xy,Xz,c8,XA,c9,e8,e9,h4,h5,h6,h7,h8,h9,i0,i1,i2,i3,i4,i5,i6,k8,i7,i9,k9,<- e4,s2,hlen]
 all_goals
  clear e4;have j6:=hI D1 Ue;have w3:=j6.A8;have hlR:=b9.len;generalize hL:gI _ _=y;obtain⟨x,rfl,T5,Dn,E,j7,n0,c4,rfl,t7,j8,b4,F7,Gs⟩:=pJ hL L (fun i st=>st.T 1= .rp bt 0/\st.T 2= .rp nx 0/\st.T 7= .rp G 0/\st.T 95=vr/\st.T 96=I L/\st.T 97=I i/\J+1<st.nx/\(∀x,x<G->st.σ x=S x)/\∃XB XC G5,EN st.σ G (J+1) XB XC G5 ⟨(pick n (D1.R.take i) (D1.B.take i)).1,(pick n (D1.R.take i) (D1.B.take i)).2,Gw c⟩ n/\∀x∈G :: (J+1) :: (bk XB++bk XC++G5),G<=x/\x<st.nx)
   (fun x=>∃T Dn E XB XC G5,x=(.exit 6,⟨T,Dn,E⟩)/\T 7= .rp G 0/\J+1<E/\(∀x,x<G->Dn x=S x)/\EN Dn G (J+1) XB XC G5 ⟨(pick n D1.R D1.B).1,(pick n D1.R D1.B).2,Gw c⟩ n/\∀x∈G :: (J+1) :: (bk XB++bk XC++G5),G<=x/\x<E) (by
    clear hL;rintro i ⟨T,Dn,E⟩ hi ⟨t1,t2,t7,t95,t96,t97,j8,b4,XB,XC,G5,F7,Gs⟩;simp only at t1 t2 t7 t95 t96 t97 j8 b4 F7 Gs;obtain⟨br,rfl,l7⟩:∃br,vr= .rs br 0 L/\S br=some ⟨rb.map fun b=>V.rs b 0 (N+1),1,true⟩:=by
     rcases b9.r with ⟨e,_⟩|⟨br,_,e,e2⟩
     .omega
     .exact⟨br,by rw[e,n4],e2⟩
    obtain⟨bb,rfl,k6⟩:∃bb,vb= .rs bb 0 L/\S bb=some ⟨(BP D1.B).flatMap cI,1,true⟩:=by
     rcases b9.b with ⟨e,_⟩|⟨bb,_,e,e2⟩
     .omega
     .exact⟨bb,by rw[e,n4],e2⟩
    have c0:i<rb.length:=by omega
    obtain⟨bi,EX⟩:∃bi,bi=rb[i]:=⟨_,rfl⟩;have lb1:=b2 br (by simp[bk]);have lb2:=b2 bb (by simp[bk]);have lb3:bi<nx:=by rw[EX];exact b2 _ (by simp[zu c0])
    have g1:(i:Int)<(L:Int):=by omega
    have g2:=jL i;have g3:=Zl (n:=(i:Int)+1);have e1:Dn bt=_:=(b4 bt (by omega)).trans r0;have e2:Dn br=_:=(b4 br (by omega)).trans l7;have e3:Dn bb=_:=(b4 bb (by omega)).trans k6;have e4:Dn bi=some ⟨(Eb D1.R i).flatMap cQ,3,true⟩:=(b4 bi (by omega)).trans (by rw[EX];exact b9.row i c0);have e5:Dn nx=_:=(b4 nx (by omega)).trans b8;have r1:(rb.map fun b=>V.rs b 0 (N+1))[i]?=some (.rs bi 0 (N+1)):=by rw[z_,zy c0,EX];rfl
    have b1:=idx (xs:=BP D1.B) (k:=i) (by rw[aV];omega);rw[aW (by omega)]at b1;have j9:=Qu (n:=n) (Eb D1.R i) (D1.B.getD i 0) (R:=D1.R.take i) (B:=D1.B.take i) (by rw[zh,zh,w3]);have pR:D1.R.take i++[Eb D1.R i]=D1.R.take (i+1):=by rw[yN,zy (by omega),fF (by omega)];rfl
    have pB:D1.B.take i++[D1.B.getD i 0]=D1.B.take (i+1):=by rw[yN,zy (by omega),lW (by omega)];rfl
    rw[pR,pB]at j9;have l1:bt<E:=by omega
    have l2:bb<E:=by omega
    have l3:nx<E:=by omega
    by_cases hB:D1.B.getD i 0<n
    .rw[sZ hB]at j9
     have c1:((D1.B.getD i 0:Nat):Int)<(n:Int):=by omega
     have rl:=fE j6.row (show i<D1.R.length by omega);obtain⟨w,ew⟩:∃w,w=(Eb D1.R i).take n:=⟨_,rfl⟩;have hwl:w.length=n:=by rw[ew,zh];omega
     obtain⟨z,ez⟩:∃z,z=BO D1.R i N:=⟨_,rfl⟩;have s4:(Eb D1.R i).getLastD 0=z:=by
      rw[List.getLastD_eq_getLast?,List.getLast?_eq_getElem?,rl,ez];unfold BO Eb;rw[zx];rfl
     rw[<- ew,s4]at j9;have r3:=qH (R:=D1.R) (i:=i) (j:=N) (by omega);rw[<- ez]at r3;have r4:=dN (c:=cQ) (s:=3) qQ (Eb D1.R i);rw[rl]at r4;have r5:(N:Int)<((N+1:Nat):Int):=by omega
     have r6:N*3+3<=(N+1)*3:=by omega
     have r7:=jL N;have r8:=jL n;have r9:(n:Int)<=((N+1:Nat):Int):=by omega
     have w8:n<=N+1:=by omega
     have w9:n*3<=(N+1)*3:=by omega
     have x0:((Eb D1.R i).flatMap cQ).take (n*3)=w.flatMap cQ:=by rw[ew,aem qQ _ (by omega)]
     have x8:¬n=0:=by omega
     have x9:n<=maxLen/\n*56<=140737488355328:=by unfold maxLen;omega
     have y1:nx<E:=by omega
     have y2:¬nx=E:=by omega
     have y3:(nx==E)=false:=by rw[sW];omega
     have y4:(E==nx)=false:=by rw[sW];omega
     have y5:G<E:=by omega
     have y6:¬G=E:=by omega
     have y7:(G==E)=false:=by rw[sW];omega
     have y8:(E==G)=false:=by rw[sW];omega
     have y9:bt<E:=by omega
     have Xx:¬bt=E:=by omega
     have Xy:(bt==E)=false:=by rw[sW];omega
     have Xz:(E==bt)=false:=by rw[sW];omega
     have c8:bi<E:=by omega
     have XA:¬bi=E:=by omega
     have c9:(bi==E)=false:=by rw[sW];omega
     have e8:(E==bi)=false:=by rw[sW];omega
     have e9:nx<E+1:=by omega
     have h4:¬nx=E+1:=by omega
     have h5:(nx==E+1)=false:=by rw[sW];omega
     have h6:(E+1==nx)=false:=by rw[sW];omega
     have h7:G<E+1:=by omega
     have h8:¬G=E+1:=by omega
     have h9:(G==E+1)=false:=by rw[sW];omega
     have i0:(E+1==G)=false:=by rw[sW];omega
     have i1:bt<E+1:=by omega
     have i2:¬bt=E+1:=by omega
     have i3:(bt==E+1)=false:=by rw[sW];omega
     have i4:(E+1==bt)=false:=by rw[sW];omega
     have i5:bi<E+1:=by omega
     have i6:¬bi=E+1:=by omega
     have y0:(bi==E+1)=false:=by rw[sW];omega
     have z6:(E+1==bi)=false:=by rw[sW];omega
     have z7:nx<E+1+1:=by omega
     have z8:¬nx=E+1+1:=by omega
     have A0:(nx==E+1+1)=false:=by rw[sW];omega
     have A1:(E+1+1==nx)=false:=by rw[sW];omega
     have A2:G<E+1+1:=by omega
     have A3:¬G=E+1+1:=by omega
     have A4:(G==E+1+1)=false:=by rw[sW];omega
     have A5:(E+1+1==G)=false:=by rw[sW];omega
     have A6:bt<E+1+1:=by omega
     have A7:¬bt=E+1+1:=by omega
     have A9:(bt==E+1+1)=false:=by rw[sW];omega
     have B1:(E+1+1==bt)=false:=by rw[sW];omega
     have B2:bi<E+1+1:=by omega
     have B3:¬bi=E+1+1:=by omega
     have B4:(bi==E+1+1)=false:=by rw[sW];omega
     have B5:(E+1+1==bi)=false:=by rw[sW];omega
     have B6:nx<E+1+1+1:=by omega
     have B7:¬nx=E+1+1+1:=by omega
     have B8:(nx==E+1+1+1)=false:=by rw[sW];omega
     have B9:(E+1+1+1==nx)=false:=by rw[sW];omega
     have C0:G<E+1+1+1:=by omega
     have C1:¬G=E+1+1+1:=by omega
     have C2:(G==E+1+1+1)=false:=by rw[sW];omega
     have C3:(E+1+1+1==G)=false:=by rw[sW];omega
     have C4:bt<E+1+1+1:=by omega
     have C5:¬bt=E+1+1+1:=by omega
     have C6:(bt==E+1+1+1)=false:=by rw[sW];omega
     have C7:(E+1+1+1==bt)=false:=by rw[sW];omega
     have C8:bi<E+1+1+1:=by omega
     have D3:¬bi=E+1+1+1:=by omega
     have D4:(bi==E+1+1+1)=false:=by rw[sW];omega
     have D5:(E+1+1+1==bi)=false:=by rw[sW];omega
     have D6:nx<E+1+1+1+1:=by omega
     have E0:¬nx=E+1+1+1+1:=by omega
     have E1:(nx==E+1+1+1+1)=false:=by rw[sW];omega
     have E2:(E+1+1+1+1==nx)=false:=by rw[sW];omega
     have E3:G<E+1+1+1+1:=by omega
     have E4:¬G=E+1+1+1+1:=by omega
     have E6:(G==E+1+1+1+1)=false:=by rw[sW];omega
     have E7:(E+1+1+1+1==G)=false:=by rw[sW];omega
     have E9:bt<E+1+1+1+1:=by omega
     have F0:¬bt=E+1+1+1+1:=by omega
     have F1:(bt==E+1+1+1+1)=false:=by rw[sW];omega
     have F2:(E+1+1+1+1==bt)=false:=by rw[sW];omega
     have F3:bi<E+1+1+1+1:=by omega
     have F4:¬bi=E+1+1+1+1:=by omega
     have G0:(bi==E+1+1+1+1)=false:=by rw[sW];omega
     have G1:(E+1+1+1+1==bi)=false:=by rw[sW];omega
     have G3:nx<E+1+1+1+1+1:=by omega
     have G4:¬nx=E+1+1+1+1+1:=by omega
     have H0:(nx==E+1+1+1+1+1)=false:=by rw[sW];omega
     have H1:(E+1+1+1+1+1==nx)=false:=by rw[sW];omega
     have H2:G<E+1+1+1+1+1:=by omega
     have H3:¬G=E+1+1+1+1+1:=by omega
     have H4:(G==E+1+1+1+1+1)=false:=by rw[sW];omega
     have H5:(E+1+1+1+1+1==G)=false:=by rw[sW];omega
     have I0:bt<E+1+1+1+1+1:=by omega
     have I1:¬bt=E+1+1+1+1+1:=by omega
     have I2:(bt==E+1+1+1+1+1)=false:=by rw[sW];omega
     have I3:(E+1+1+1+1+1==bt)=false:=by rw[sW];omega
     have I6:bi<E+1+1+1+1+1:=by omega
     have J0:¬bi=E+1+1+1+1+1:=by omega
     have J1:(bi==E+1+1+1+1+1)=false:=by rw[sW];omega
     have J2:(E+1+1+1+1+1==bi)=false:=by rw[sW];omega
     have K0:nx<E+1+1+1+1+1+1:=by omega
     have K1:¬nx=E+1+1+1+1+1+1:=by omega
     have K2:(nx==E+1+1+1+1+1+1)=false:=by rw[sW];omega
     have k8:(E+1+1+1+1+1+1==nx)=false:=by rw[sW];omega
     have i7:G<E+1+1+1+1+1+1:=by omega
     have i9:¬G=E+1+1+1+1+1+1:=by omega
     have k9:(G==E+1+1+1+1+1+1)=false:=by rw[sW];omega
     have n5:(E+1+1+1+1+1+1==G)=false:=by rw[sW];omega
     have K3:bt<E+1+1+1+1+1+1:=by omega
     have K4:¬bt=E+1+1+1+1+1+1:=by omega
     have K5:(bt==E+1+1+1+1+1+1)=false:=by rw[sW];omega
     have K6:(E+1+1+1+1+1+1==bt)=false:=by rw[sW];omega
     have K7:bi<E+1+1+1+1+1+1:=by omega
     have K8:¬bi=E+1+1+1+1+1+1:=by omega
     have K9:(bi==E+1+1+1+1+1+1)=false:=by rw[sW];omega
     have n6:(E+1+1+1+1+1+1==bi)=false:=by rw[sW];omega
     have n7:¬nx=G:=by omega
     have n8:(nx==G)=false:=by rw[sW];omega
     have n9:¬G=nx:=by omega
     have L0:(G==nx)=false:=by rw[sW];omega
     have L1:¬G=bt:=by omega
     have L2:(G==bt)=false:=by rw[sW];omega
     have L3:¬G=bi:=by omega
     have L4:(G==bi)=false:=by rw[sW];omega
     have L5:¬bt=G:=by omega
     have L7:(bt==G)=false:=by rw[sW];omega
     have M0:¬bi=G:=by omega
     have M1:(bi==G)=false:=by rw[sW];omega
     have M2:E<E+1:=by omega
     have M3:¬E=E+1:=by omega
     have M4:(E==E+1)=false:=by rw[sW];omega
     have M5:(E+1==E)=false:=by rw[sW];omega
     have M6:E<E+1+1:=by omega
     have M7:¬E=E+1+1:=by omega
     have M8:(E==E+1+1)=false:=by rw[sW];omega
     have M9:(E+1+1==E)=false:=by rw[sW];omega
     have N0:E<E+1+1+1:=by omega
     have N1:¬E=E+1+1+1:=by omega
     have N2:(E==E+1+1+1)=false:=by rw[sW];omega
     have N3:(E+1+1+1==E)=false:=by rw[sW];omega
     have N4:E<E+1+1+1+1:=by omega
     have N5:¬E=E+1+1+1+1:=by omega
     have N6:(E==E+1+1+1+1)=false:=by rw[sW];omega
     have O0:(E+1+1+1+1==E)=false:=by rw[sW];omega
     have O2:E<E+1+1+1+1+1:=by omega
     have O3:¬E=E+1+1+1+1+1:=by omega
     have P0:(E==E+1+1+1+1+1)=false:=by rw[sW];omega
     have P1:(E+1+1+1+1+1==E)=false:=by rw[sW];omega
     have P2:E<E+1+1+1+1+1+1:=by omega
     have P3:¬E=E+1+1+1+1+1+1:=by omega
     have P4:(E==E+1+1+1+1+1+1)=false:=by rw[sW];omega
     have P8:(E+1+1+1+1+1+1==E)=false:=by rw[sW];omega
     have Q0:E+1<E+1+1:=by omega
     have o0:¬E+1=E+1+1:=by omega
     have o2:(E+1==E+1+1)=false:=by rw[sW];omega
     have o3:(E+1+1==E+1)=false:=by rw[sW];omega
     have o4:E+1<E+1+1+1:=by omega
     have Q4:¬E+1=E+1+1+1:=by omega
     have Q6:(E+1==E+1+1+1)=false:=by rw[sW];omega
     have R0:(E+1+1+1==E+1)=false:=by rw[sW];omega
     have o5:E+1<E+1+1+1+1:=by omega
     have o9:¬E+1=E+1+1+1+1:=by omega
     have p6:(E+1==E+1+1+1+1)=false:=by rw[sW];omega
     have p7:(E+1+1+1+1==E+1)=false:=by rw[sW];omega
     have R1:E+1<E+1+1+1+1+1:=by omega
     have R2:¬E+1=E+1+1+1+1+1:=by omega
     have R3:(E+1==E+1+1+1+1+1)=false:=by rw[sW];omega
     have R4:(E+1+1+1+1+1==E+1)=false:=by rw[sW];omega
     have R5:E+1<E+1+1+1+1+1+1:=by omega
     have R6:¬E+1=E+1+1+1+1+1+1:=by omega
     have p8:(E+1==E+1+1+1+1+1+1)=false:=by rw[sW];omega
     have p9:(E+1+1+1+1+1+1==E+1)=false:=by rw[sW];omega
     have R7:E+1+1<E+1+1+1:=by omega
     have R8:¬E+1+1=E+1+1+1:=by omega
     have R9:(E+1+1==E+1+1+1)=false:=by rw[sW];omega
     have S0:(E+1+1+1==E+1+1)=false:=by rw[sW];omega
     have S1:E+1+1<E+1+1+1+1:=by omega
     have S2:¬E+1+1=E+1+1+1+1:=by omega
     have S3:(E+1+1==E+1+1+1+1)=false:=by rw[sW];omega
     have S4:(E+1+1+1+1==E+1+1)=false:=by rw[sW];omega
     have S5:E+1+1<E+1+1+1+1+1:=by omega
     have S6:¬E+1+1=E+1+1+1+1+1:=by omega
     have S7:(E+1+1==E+1+1+1+1+1)=false:=by rw[sW];omega
     have S8:(E+1+1+1+1+1==E+1+1)=false:=by rw[sW];omega
     have T4:E+1+1<E+1+1+1+1+1+1:=by omega
     have T7:¬E+1+1=E+1+1+1+1+1+1:=by omega
     have T8:(E+1+1==E+1+1+1+1+1+1)=false:=by rw[sW];omega
     have T9:(E+1+1+1+1+1+1==E+1+1)=false:=by rw[sW];omega
     have U1:E+1+1+1<E+1+1+1+1:=by omega
     have U4:¬E+1+1+1=E+1+1+1+1:=by omega
     have U6:(E+1+1+1==E+1+1+1+1)=false:=by rw[sW];omega
     have V0:(E+1+1+1+1==E+1+1+1)=false:=by rw[sW];omega
     have V1:E+1+1+1<E+1+1+1+1+1:=by omega
     have V2:¬E+1+1+1=E+1+1+1+1+1:=by omega
     have V3:(E+1+1+1==E+1+1+1+1+1)=false:=by rw[sW];omega
     have V4:(E+1+1+1+1+1==E+1+1+1)=false:=by rw[sW];omega
     have V5:E+1+1+1<E+1+1+1+1+1+1:=by omega
     have V8:¬E+1+1+1=E+1+1+1+1+1+1:=by omega
     have W0:(E+1+1+1==E+1+1+1+1+1+1)=false:=by rw[sW];omega
     have W1:(E+1+1+1+1+1+1==E+1+1+1)=false:=by rw[sW];omega
     have W2:E+1+1+1+1<E+1+1+1+1+1:=by omega
     have W3:¬E+1+1+1+1=E+1+1+1+1+1:=by omega
     have W4:(E+1+1+1+1==E+1+1+1+1+1)=false:=by rw[sW];omega
     have W5:(E+1+1+1+1+1==E+1+1+1+1)=false:=by rw[sW];omega
     have W6:E+1+1+1+1<E+1+1+1+1+1+1:=by omega
     have W7:¬E+1+1+1+1=E+1+1+1+1+1+1:=by omega
     have W8:(E+1+1+1+1==E+1+1+1+1+1+1)=false:=by rw[sW];omega
     have W9:(E+1+1+1+1+1+1==E+1+1+1+1)=false:=by rw[sW];omega
     have X0:E+1+1+1+1+1<E+1+1+1+1+1+1:=by omega
     have X1:¬E+1+1+1+1+1=E+1+1+1+1+1+1:=by omega
     have X2:(E+1+1+1+1+1==E+1+1+1+1+1+1)=false:=by rw[sW];omega
     have X4:(E+1+1+1+1+1+1==E+1+1+1+1+1)=false:=by rw[sW];omega
     have X6:bb<E:=by omega
     have X7:¬bb=E:=by omega
     have X8:(bb==E)=false:=by rw[sW];omega
     have X9:(E==bb)=false:=by rw[sW];omega
     have Z0:bb<E+1:=by omega
     have Z1:¬bb=E+1:=by omega
     have Z2:(bb==E+1)=false:=by rw[sW];omega
     have Z3:(E+1==bb)=false:=by rw[sW];omega
     have Z6:bb<E+1+1:=by omega
     have auT:¬bb=E+1+1:=by omega
     have auU:(bb==E+1+1)=false:=by rw[sW];omega
     have auV:(E+1+1==bb)=false:=by rw[sW];omega
     have auW:bb<E+1+1+1:=by omega
     have auX:¬bb=E+1+1+1:=by omega
     have auY:(bb==E+1+1+1)=false:=by rw[sW];omega
     have auZ:(E+1+1+1==bb)=false:=by rw[sW];omega
     have au0:bb<E+1+1+1+1:=by omega
     have au1:¬bb=E+1+1+1+1:=by omega
     have au2:(bb==E+1+1+1+1)=false:=by rw[sW];omega
     have au3:(E+1+1+1+1==bb)=false:=by rw[sW];omega
     have au4:bb<E+1+1+1+1+1:=by omega
     have au5:¬bb=E+1+1+1+1+1:=by omega
     have au6:(bb==E+1+1+1+1+1)=false:=by rw[sW];omega
     have au7:(E+1+1+1+1+1==bb)=false:=by rw[sW];omega
     have au8:bb<E+1+1+1+1+1+1:=by omega
     have au9:¬bb=E+1+1+1+1+1+1:=by omega
     have au_:(bb==E+1+1+1+1+1+1)=false:=by rw[sW];omega
     have au':(E+1+1+1+1+1+1==bb)=false:=by rw[sW];omega
     have ava:¬bb=G:=by omega
     have avb:¬G=bb:=by omega
     have avc:(bb==G)=false:=by rw[sW];omega
     have avd:(G==bb)=false:=by rw[sW];omega
     obtain⟨K,eK⟩:∃K,K=(pick n (D1.R.take i) (D1.B.take i)).1.length:=⟨_,rfl⟩;have eK2:(pick n (D1.R.take i) (D1.B.take i)).2.length=K:=by rw[eK];exact IQ
     have hKL:K<=1000:=by
      have h1:=F7.len;have h2:∀(R:List (List Rat)) (B:List Nat),(pick n R B).1.length<=R.length:=by
       intro R
       induction R with
       |nil=>intro B;simp[pick]
       |cons x R ih=>
        intro B;cases B with
        |nil=>simp[pick]
        |cons b B=>unfold pick;have:=ih B;split<;>simp<;>omega
      have:=h2 (D1.R.take i) (D1.B.take i);rw[zh]at this;omega
     have aCh:G5.length=K:=F7.len.trans eK.symm;have hb:=F7.t
     have fin:∀σ' nx',E+1+1+1+1+1+1<nx'->σ' G=some ⟨[I n,.rs (E+1+1+1+1) 0 (K+1),.rs (E+1+1+1+1+1+1) 0 (K+1),.rs (J+1) 0 (n+1)],0,true⟩->σ' (E+1+1+1+1)=some ⟨(G5++[E+1+1]).map fun b=>V.rs b 0 (n+1),1,true⟩->σ' (E+1+1+1+1+1+1)=some ⟨(BP ((pick n (D1.R.take i) (D1.B.take i)).2++[D1.B.getD i 0])).flatMap cI,1,true⟩->σ' (E+1+1)=some ⟨(w++[z]).flatMap cQ,3,true⟩->(∀y,y<E->y≠G->y∉bk XB++bk XC->σ' y=Dn y) ->
       (∀x,x<G->σ' x=S x)/\∃XB XC G5,EN σ' G (J+1) XB XC G5 ⟨(pick n (D1.R.take (i+1)) (D1.B.take (i+1))).1,(pick n (D1.R.take (i+1)) (D1.B.take (i+1))).2,Gw c⟩ n/\∀x∈G :: (J+1) :: (bk XB++bk XC++G5),G<=x/\x<nx':=fun σ' nx' p0 p1 p2 p3 p4 p5=>by
      refine⟨fun x Y=>(p5 x (by omega) (by omega) fun hm=>?_).trans (b4 x Y),.rs (E+1+1+1+1) 0 (K+1),.rs (E+1+1+1+1+1+1) 0 (K+1),G5++[E+1+1],?_,fun x Y=>?_⟩
      .have:=Gs x (by simp only[zX];exact .inr (.inr (yh _ hm)))
       omega
      .rw[j9]
       have:=ahX (x:=w++[z]) (b:=D1.B.getD i 0) F7 (m0:=E) (br:=E+1+1+1+1) (bb:=E+1+1+1+1+1+1) (bw:=E+1+1) (σ':=σ') (fun y hy=>(Gs y hy).2) (by omega) (by omega) (by omega) (by omega) (by omega) (by omega)
        (by show σ' G=some (FU.mk [_,.rs _ 0 ((pick n (D1.R.take i) (D1.B.take i)).1.length+1),.rs _ 0 ((pick n (D1.R.take i) (D1.B.take i)).1.length+1),_] _ _);rw[<- eK];exact p1) p2 p3 p4 p5
       rw[show(⟨(pick n (D1.R.take i) (D1.B.take i)).1,(pick n (D1.R.take i) (D1.B.take i)).2,Gw c⟩:TQ).R.length=K from eK.symm]at this;exact this
      .simp only[bk,yY,yL,zX,wU,zJ,or_false]at Y
       rcases Y with rfl|rfl|rfl|rfl|Y|rfl
       .omega
       .omega
       .omega
       .omega
       .have:=Gs x (by simp only[zX];exact .inr (.inr (zA _ Y)));omega
       .omega
     have ha1:=rO (σ:=restrict (upd (upd Dn E (some ⟨w.flatMap cQ,3,true⟩)) (E+1) (some ⟨cQ z,3,true⟩)) [E,E+1]) (nx:=E+1+1) (size:=3) (bytes:=56) (b:=E) (len:=n) (m:=1) (row:=cQ z) (by rw[gU,aH,aF]) (by rw[dN qQ,hwl]) (by decide) (by decide) (by unfold maxLen;omega) (by omega) rfl;obtain⟨Dh,e6⟩:∃Dh,Dh=upd (upd (upd (upd Dn E (some ⟨w.flatMap cQ,3,true⟩)) (E+1) (some ⟨cQ z,3,true⟩)) E none) (E+1+1) (some ⟨w.flatMap cQ++cQ z,3,true⟩):=⟨_,rfl⟩;have o6:∀y,y<E->Dh y=Dn y:=fun y hy=>by rw[e6,aH,aH,aH,aH]
     have lx1:G<E:=by omega
     have w6:Dh (E+1+1)=some ⟨(w++[z]).flatMap cQ,3,true⟩:=by rw[e6,aF,zT];simp
     have b6:Dh G=_:=(o6 G lx1).trans hb;have t6:Dh bt=_:=(o6 bt (by omega)).trans e1;have n1:Dh bb=_:=(o6 bb (by omega)).trans e3;have A_:Dh nx=_:=(o6 nx (by omega)).trans e5;have u50:G<E+1+1+1+1+1+1+1:=by omega
     have hpK:∀q,q=(pick n (D1.R.take i) (D1.B.take i)).1.length->q=K:=fun q h=>h.trans eK.symm
     rcases F7.r with ⟨n2,rfl⟩|⟨G8,n2,s5,SY⟩<;>rcases F7.b with ⟨s6,rfl⟩|⟨a1,s6,s7,S9⟩
     .have hK0:K=0:=eK.trans n2
      have ayf:G5=[]:=zZ (by omega);have hP2:(pick n (D1.R.take i) (D1.B.take i)).2=[]:=zZ (by omega);obtain⟨Fa,e7⟩:∃Fa,Fa=upd (upd (upd Dh (E+1+1+1) (some ⟨[V.rs (E+1+1) 0 (n+1)],1,true⟩)) (E+1+1+1+1) (some ⟨[V.rs (E+1+1) 0 (n+1)],1,true⟩)) G (some ⟨[I n,.rs (E+1+1+1+1) 0 1,.nil,.rs (J+1) 0 (n+1)],0,true⟩):=⟨_,rfl⟩;have b7:Fa G=some ⟨[I n,.rs (E+1+1+1+1) 0 1,.nil,.rs (J+1) 0 (n+1)],0,true⟩:=by rw[e7,aF]
      have o7:∀y,y<E+1+1+1->y≠G->Fa y=Dh y:=fun y h1 h2=>by rw[e7,aG _ _ h2,aH,aH]
      have s8:Fa bt=_:=(o7 bt (by omega) (by omega)).trans t6;have s9:Fa bb=_:=(o7 bb (by omega) (by omega)).trans n1;refine .inl ⟨_,by simp only[go_sem,t1,t2,t7,t95,t96,t97,e1,e2,e3,e4,e5,r1,b1,g1,g2,g3,c1,l1,l2,l3,r3,r4,r5,r6,r7,r8,r9,w8,w9,x0,x8,x9,hb,ha1,u50,<- e6,b6,t6,n1,A_,<- e7,b7,s8,s9,y1,y2,y3,y4,y5,y6,y7,y8,y9,Xx,Xy,Xz,c8,XA,c9,e8,e9,h4,h5,h6,h7,h8,h9,i0,i1,i2,i3,i4,i5,i6,y0,z6,z7,z8,A0,A1,A2,A3,A4,A5,A6,A7,A9,B1,B2,B3,B4,B5,B6,B7,B8,B9,C0,C1,C2,C3,C4,C5,C6,C7,C8,D3,D4,D5,D6,E0,E1,E2,E3,E4,E6,E7,E9,F0,F1,F2,F3,F4,G0,G1,G3,G4,H0,H1,H2,H3,H4,H5,I0,I1,I2,I3,I6,J0,J1,J2,K0,K1,K2,k8,i7,i9,k9,n5,K3,K4,K5,K6,K7,K8,K9,n6,n7,n8,n9,L0,L1,L2,L3,L4,L5,L7,M0,M1,M2,M3,M4,M5,M6,M7,M8,M9,N0,N1,N2,N3,N4,N5,N6,O0,O2,O3,P0,P1,P2,P3,P4,P8,Q0,o0,o2,o3,o4,Q4,Q6,R0,o5,o9,p6,p7,R1,R2,R3,R4,R5,R6,p8,p9,R7,R8,R9,S0,S1,S2,S3,S4,S5,S6,S7,S8,T4,T7,T8,T9,U1,U4,U6,V0,V1,V2,V3,V4,V5,V8,W0,W1,W2,W3,W4,W5,W6,W7,W8,W9,X0,X1,X2,X4,X6,X7,X8,X9,Z0,Z1,Z2,Z3,Z6,auT,auU,auV,auW,auX,auY,auZ,au0,au1,au2,au3,au4,au5,au6,au7,au8,au9,au_,au',ava,avb,avc,avd];rfl,?_⟩;simp only[go_sem,t1,t2,t7,t95,t96];refine⟨rfl,by omega,fin _ _ (by omega) ?_ ?_ ?_ ?_ fun y h1 h2 _=>?_⟩
      .rw[aF,hK0]
      .rw[aH,aH,aH,e7,aH,aF,ayf];rfl
      .rw[aH,aF,hP2];rfl
      .rw[aH,aH,aH,o7 _ (by omega) (by omega)];exact w6
      .rw[aG _ _ h2,aH,aH,o7 y (by omega) h2];exact o6 y h1
     .exact absurd s6 (by rw[n2];decide)
     .exact absurd n2 (by rw[s6];decide)
     .replace s5:XB= .rs G8 0 K:=by rw[s5,eK]
      replace s7:XC= .rs a1 0 K:=by rw[s7,eK]
      subst s5 s7;have nd5:=F7.nd;simp only[bk,yY,yL,xw,zX,not_or]at nd5;obtain⟨⟨m1,m2,m3,m4⟩,⟨m5,m6,m7⟩,⟨m8,m9⟩,m10,m11⟩:=nd5;have lr':=Gs G8 (by simp[bk]);have lb':=Gs a1 (by simp[bk]);have ahj:Dh G8=_:=(o6 G8 lr'.2).trans SY;have ahi:Dh a1=_:=(o6 a1 lb'.2).trans S9;have ha2:=rP (σ:=restrict (upd Dh (E+1+1+1) (some ⟨[V.rs (E+1+1) 0 (n+1)],1,true⟩)) [G8,E+1+1+1]) (nx:=E+1+1+1+1) (bytes:=24) (b:=G8) (len:=K) (m:=1) (row:=[V.rs (E+1+1) 0 (n+1)]) (by rw[gU,aH];exact ahj) (by simp;omega) rfl (by decide) (by unfold maxLen;omega) (by omega) rfl;obtain⟨Fa,e7⟩:∃Fa,Fa=upd (upd (upd (upd Dh (E+1+1+1) (some ⟨[V.rs (E+1+1) 0 (n+1)],1,true⟩)) G8 none) (E+1+1+1+1) (some ⟨(G5.map fun b=>V.rs b 0 (n+1))++[V.rs (E+1+1) 0 (n+1)],1,true⟩)) G (some ⟨[I n,.rs (E+1+1+1+1) 0 (K+1),.rs a1 0 K,.rs (J+1) 0 (n+1)],0,true⟩):=⟨_,rfl⟩;have b7:Fa G=some ⟨[I n,.rs (E+1+1+1+1) 0 (K+1),.rs a1 0 K,.rs (J+1) 0 (n+1)],0,true⟩:=by rw[e7,aF]
      have o7:∀y,y<E+1+1+1->y≠G->y≠G8->Fa y=Dh y:=fun y h1 h2 h3=>by rw[e7,aG _ _ h2,aH,aG _ _ h3,aH]
      have s8:Fa bt=_:=(o7 bt (by omega) (by omega) (by omega)).trans t6;have s9:Fa bb=_:=(o7 bb (by omega) (by omega) (by omega)).trans n1;have bb7:Fa a1=_:=(o7 a1 (by omega) (zD m3) (zD m8)).trans ahi;have ha3:=rP (σ:=restrict (upd Fa (E+1+1+1+1+1) (some ⟨[I ((D1.B.getD i 0:Nat):Int)],1,true⟩)) [a1,E+1+1+1+1+1]) (nx:=E+1+1+1+1+1+1) (bytes:=8) (b:=a1) (len:=K) (m:=1) (row:=[I ((D1.B.getD i 0:Nat):Int)]) (by rw[gU,aH];exact bb7) (by show((BP (pick n (D1.R.take i) (D1.B.take i)).2).flatMap cI).length=K;rw[qW,aV];exact eK2) rfl (by decide) (by unfold maxLen;omega) (by omega) rfl;have u1:¬G=G8:=m2;have u2:¬G=a1:=m3;have u3:(G==G8)=false:=beq_false_of_ne m2;have u4:(G==a1)=false:=beq_false_of_ne m3;have u5:(G8==G)=false:=beq_false_of_ne (zD m2);have u6:(a1==G)=false:=beq_false_of_ne (zD m3);have u7:G8<E+1+1+1:=by omega
      have u8:G8<E+1+1+1+1:=by omega
      have u9:a1<E+1+1+1+1+1:=by omega
      have u10:a1<E+1+1+1+1+1+1:=by omega
      have u11:(bt==G8)=false:=by rw[sW];omega
      have u12:(bt==a1)=false:=by rw[sW];omega
      have u13:(bi==G8)=false:=by rw[sW];omega
      have u14:(bb==G8)=false:=by rw[sW];omega
      have u15:(bb==a1)=false:=by rw[sW];omega
      have u16:¬bt=G8:=by omega
      have u17:¬bb=G8:=by omega
      have u18:¬bt=a1:=by omega
      have u19:¬bb=a1:=by omega
      have u20:(G8==E)=false:=by rw[sW];omega
      have u21:(E==G8)=false:=by rw[sW];omega
      have u22:(G8==E+1)=false:=by rw[sW];omega
      have u23:(E+1==G8)=false:=by rw[sW];omega
      refine .inl ⟨_,by simp only[go_sem,t1,t2,t7,t95,t96,t97,e1,e2,e3,e4,e5,r1,b1,g1,g2,g3,c1,l1,l2,l3,r3,r4,r5,r6,r7,r8,r9,w8,w9,x0,x8,x9,hb,ha1,u50,<- e6,b6,t6,n1,A_,ha2,<- e7,b7,s8,s9,ha3,u1,u2,u3,u4,u5,u6,u7,u8,u9,u10,u11,u12,u13,u14,u15,u16,u17,u18,u19,u20,u21,u22,u23,y1,y2,y3,y4,y5,y6,y7,y8,y9,Xx,Xy,Xz,c8,XA,c9,e8,e9,h4,h5,h6,h7,h8,h9,i0,i1,i2,i3,i4,i5,i6,y0,z6,z7,z8,A0,A1,A2,A3,A4,A5,A6,A7,A9,B1,B2,B3,B4,B5,B6,B7,B8,B9,C0,C1,C2,C3,C4,C5,C6,C7,C8,D3,D4,D5,D6,E0,E1,E2,E3,E4,E6,E7,E9,F0,F1,F2,F3,F4,G0,G1,G3,G4,H0,H1,H2,H3,H4,H5,I0,I1,I2,I3,I6,J0,J1,J2,K0,K1,K2,k8,i7,i9,k9,n5,K3,K4,K5,K6,K7,K8,K9,n6,n7,n8,n9,L0,L1,L2,L3,L4,L5,L7,M0,M1,M2,M3,M4,M5,M6,M7,M8,M9,N0,N1,N2,N3,N4,N5,N6,O0,O2,O3,P0,P1,P2,P3,P4,P8,Q0,o0,o2,o3,o4,Q4,Q6,R0,o5,o9,p6,p7,R1,R2,R3,R4,R5,R6,p8,p9,R7,R8,R9,S0,S1,S2,S3,S4,S5,S6,S7,S8,T4,T7,T8,T9,U1,U4,U6,V0,V1,V2,V3,V4,V5,V8,W0,W1,W2,W3,W4,W5,W6,W7,W8,W9,X0,X1,X2,X4,X6,X7,X8,X9,Z0,Z1,Z2,Z3,Z6,auT,auU,auV,auW,auX,auY,auZ,au0,au1,au2,au3,au4,au5,au6,au7,au8,au9,au_,au',ava,avb,avc,avd];rfl,?_⟩;simp only[go_sem,t1,t2,t7,t95,t96];refine⟨rfl,by omega,fin _ _ (by omega) ?_ ?_ ?_ ?_ fun y h1 h2 h3=>?_⟩
      .rw[aF]
      .rw[aH,aH,aH,aH,e7,aH,aF,xQ];rfl
      .rw[aH,aF]
       show some (FU.mk ((BP (pick n (D1.R.take i) (D1.B.take i)).2).flatMap cI++[I ((D1.B.getD i 0:Nat):Int)]) 1 true)=_;unfold BP;rw[xQ,zT];rfl
      .rw[aH,aH,aH,aH,o7 _ (by omega) (by omega) (by omega)];exact w6
      .simp only[bk,yY,yL,zX,zJ,or_false,not_or]at h3
       rw[aG _ _ h2,aH,aG _ _ h3.2,aH,o7 y (by omega) h2 h3.1];exact o6 y h1
    .rw[su hB]at j9
     have c1:¬((D1.B.getD i 0:Nat):Int)<(n:Int):=by omega
     refine .inl ⟨_,by simp only[go_sem,t1,t2,t7,t95,t96,t97,e1,e2,e3,e5,r1,b1,g1,g2,g3,c1,l1,l2,l3];rfl,?_⟩;simp only[go_sem,t1,t2,t7,t95,t96];exact⟨rfl,j8,b4,XB,XC,G5,by rw[j9];exact F7,Gs⟩) (by
    clear hL;rintro ⟨T,Dn,E⟩ ⟨t1,t2,t7,t95,t96,t97,j8,b4,XB,XC,G5,F7,Gs⟩;simp only at t1 t2 t7 t95 t96 t97 j8 b4 F7 Gs;refine⟨_,by simp only[go_sem,t96,t97,zk];rfl,by simp,_,_,_,XB,XC,G5,rfl,?_⟩;simp only[go_sem,t7];rw[zo (by omega),zo (by omega)]at F7;exact⟨j8,b4,F7,Gs⟩) (by
    simp only[go_sem,t1,t2,t7];refine⟨by omega,l9,.nil,.nil,[],⟨w5,.inl ⟨rfl,rfl⟩,fun i h=>absurd h (zU _),.inl ⟨rfl,rfl⟩,w7,rfl,?_⟩,fun x Y=>?_⟩
    .simp only[bk,zM,xw,wF,zJ,not_false_iff,true_and,List.nodup_nil,and_true]
     omega
    .simp only[bk,zM,zX,zJ,or_false]at Y
     omega)
  clear hL;obtain⟨P,eP⟩:∃P,P=pick n D1.R D1.B:=⟨_,rfl⟩;have n3:=IU (n:=n) (R:=D1.R) (B:=D1.B);have hpl:=IQ (n:=n) (R:=D1.R) (B:=D1.B);have ave:=hcl D1 Ue fun i hi=>c3 i (by omega)
  rw[<- eP]at n3 hpl F7 ave;have akD:∀x∈P.1,x.length=n+1:=fun x Y=>by
   obtain⟨y,hy,rfl⟩:=n3.1 x Y;have:=j6.row y hy;rw[zl,zh];simp;omega
  have pln:∀x∈P.1,∀q∈x,Ln 6 q:=fun x Y q hq=>by
   obtain⟨y,hy,rfl⟩:=n3.1 x Y;have hyl:=j6.row y hy;rcases List.mem_append.mp hq with hq|hq
   .exact j6.big y hy q (xH hq)
   .rw[List.mem_singleton.mp hq,List.getLastD_eq_getLast?,List.getLast?_eq_getElem?,zy (by omega)]
    exact j6.big y hy _ (zu _)
  obtain⟨K,eK⟩:∃K,K=P.1.length:=⟨_,rfl⟩;have u0:(⟨P.1,P.2,Gw c⟩:TQ).R.length=K:=eK.symm;have apc:K<=1000:=by
   have h2:∀(R:List (List Rat)) (B:List Nat),(pick n R B).1.length<=R.length:=by
    intro R
    induction R with
    |nil=>intro B;simp[pick]
    |cons x R ih=>
     intro B;cases B with
     |nil=>simp[pick]
     |cons b B=>unfold pick;have:=ih B;split<;>simp<;>omega
   have:=h2 D1.R D1.B;rw[<- eP]at this;omega
  have v6:Dw Ze 235 j7=some (I K):=by
   rcases F7.r with ⟨q1,rfl⟩|⟨br,q1,rfl,_⟩
   .rw[u0]at q1
    rw[q1];exact o_ (by kernel_rfl)
   .rw[u0];exact ny (by kernel_rfl)
  have hb5:=F7.t;simp only[go_sem,t7,hb5,v6];generalize hL:gI _ _=y;obtain⟨x,rfl,T6,Dh,A_,rfl,t7,Qb,Qs,j0⟩:=pJ hL K (fun i st=>st.T 7= .rp G 0/\st.T 157=j7/\st.T 158=I K/\st.T 159=I i/\E<=st.nx/\(∀x,x<G->st.σ x=Dn x)/\EN st.σ G (J+1) j7 n0 c4 ⟨P.1,P.2,clears (Gw c) (P.1.take i) (P.2.take i)⟩ n)
   (fun x=>∃T Dh A_,x=(.exit 8,⟨T,Dh,A_⟩)/\T 7= .rp G 0/\E<=A_/\(∀x,x<G->Dh x=Dn x)/\EN Dh G (J+1) j7 n0 c4 ⟨P.1,P.2,clears (Gw c) P.1 P.2⟩ n) (by
    clear hL;rintro i ⟨T,Dh,A_⟩ hi ⟨t7,t157,k3,t159,Qb,Qs,j0⟩;simp only at t7 t157 k3 t159 Qb j0;obtain⟨q1,q2,q3,q4,q5,q6,q7⟩:=j0;have hl6:c4.length=K:=q6.trans u0;rcases q2 with ⟨w0,_⟩|⟨k4,_,v7,akQ⟩
    .have:P.1.length=0:=w0
     omega
    rcases q4 with ⟨w0,_⟩|⟨c5,_,v8,akR⟩
    .have:P.1.length=0:=w0
     omega
    replace v7:j7= .rs k4 0 K:=by rw[v7,eK]
    replace v8:n0= .rs c5 0 K:=by rw[v8,eK]
    subst v7 v8;have c0:i<c4.length:=by omega
    obtain⟨bi,EX⟩:∃bi,bi=c4[i]:=⟨_,rfl⟩;have X3:Dh bi=some ⟨(Eb P.1 i).flatMap cQ,3,true⟩:=by rw[EX];exact q3 i c0
    have q7':=q7;simp only[bk,yY,yL,xw,zX,not_or]at q7;obtain⟨⟨m1,m2,m3,m4⟩,⟨m5,m6,m7⟩,⟨m8,m9⟩,m10,m11⟩:=q7;have l5:bi∈c4:=by rw[EX];exact zu c0
    have d1:G≠bi:=fun e=>m4 (e ▸ l5)
    have d2:J+1≠bi:=fun e=>m7 (e ▸ l5)
    have d3:k4≠bi:=fun e=>m9 (e ▸ l5)
    have d4:c5≠bi:=fun e=>m10 (e ▸ l5)
    have g1:(i:Int)<(K:Int):=by omega
    have g2:=jL i;have g3:=Zl (n:=(i:Int)+1);have r1:(c4.map fun b=>V.rs b 0 (n+1))[i]?=some (.rs bi 0 (n+1)):=by rw[z_,zy c0,EX];rfl
    have b1:((BP P.2).flatMap cI)[i]?=some (I ((P.2.getD i 0:Nat):Int)):=by
     rw[idx (by rw[aV];omega),aW (by omega)]
    have l1:G<A_:=by have:=Gs G (by simp);omega
    have l2:J+1<A_:=by omega
    have l3:c5<A_:=by have:=Gs c5 (by simp[bk]);omega
    have l4:bi<A_:=by have:=Gs bi (by simp[l5]);omega
    have z1:(G==J+1)=false:=beq_false_of_ne m1;have z2:(G==bi)=false:=beq_false_of_ne d1;have z3:(c5==J+1)=false:=beq_false_of_ne (zD m6);have z4:(c5==bi)=false:=beq_false_of_ne d4;have hPi:P.2.getD i 0<n:=by rw[lW (by omega)];exact n3.2 _ (zu _)
    have avf:Eb P.1 i∈P.1:=by rw[fF (by omega)];exact zu _
    have ayj:(Gw c).length=n+1:=by unfold Gw;rw[zl,gy];simp;omega
    obtain⟨s3,m3',aCq,kc,pe,f1,f2,f3⟩:=TJ (σ:=Dh) (nx:=A_) (bi:=J+1) (bR:=bi) (N:=n) (k:=P.2.getD i 0) (x:=clears (Gw c) (P.1.take i) (P.2.take i)) (t:=Eb P.1 i) (Oi ayj fun x Y=>akD x (xH Y)) (akD _ avf) (by omega) (by omega) (ave i (by omega)) (pln _ avf) q5 X3 d2 l2 l4;have esn:KF (clears (Gw c) (P.1.take i) (P.2.take i)) (Eb P.1 i) ((clears (Gw c) (P.1.take i) (P.2.take i)).getD (P.2.getD i 0) 0)=clears (Gw c) (P.1.take (i+1)) (P.2.take (i+1)):=by
     have e1:P.1.take (i+1)=P.1.take i++[Eb P.1 i]:=by rw[yN,zy (by omega),fF (by omega)];rfl
     have e2:P.2.take (i+1)=P.2.take i++[P.2.getD i 0]:=by rw[yN,zy (by omega),lW (by omega)];rfl
     rw[e1,e2,Kr _ _ (by rw[zh,zh,hpl])]
    refine .inl ⟨_,by simp only[go_sem,t7,t157,k3,t159,q1,akQ,akR,b1,r1,g1,g2,g3,l1,l2,l3,l4,z1,z2,z3,z4,kc,pe];rfl,?_⟩;simp only[go_sem,t7,t157,k3];refine⟨rfl,by omega,fun x Y=>(f3 x (by omega) (by omega)).trans (Qs x Y),⟨(f3 G l1 m1).trans q1,.inr ⟨k4,by show 0<P.1.length;omega,by show _=V.rs k4 0 P.1.length;rw[eK],(f3 k4 (by have:=Gs k4 (by simp[bk]);omega) (zD m5)).trans akQ⟩,fun j hj=>?_,.inr ⟨c5,by show 0<P.1.length;omega,by show _=V.rs c5 0 P.1.length;rw[eK],(f3 c5 l3 (zD m6)).trans akR⟩,?_,q6,q7'⟩⟩
    .have hm:=zu hj
     rw[f3 _ (by have:=Gs c4[j] (by simp[hm]);omega) fun e=>m7 (e ▸ hm)];exact q3 j hj
    .rw[f1]
     show some (FU.mk (List.flatMap cQ (KF _ _ _)) 3 true)=_;rw[esn]) (by
    clear hL;rintro ⟨T,Dh,A_⟩ ⟨t7,t157,k3,t159,Qb,Qs,j0⟩;simp only at t7 t157 k3 t159 Qb j0;refine⟨_,by simp only[go_sem,k3,t159,zk];rfl,by simp,_,_,_,rfl,?_⟩;simp only[go_sem,t7];rw[zo (by omega),zo (by omega)]at j0;exact⟨Qb,Qs,j0⟩) (by
    simp only[go_sem,t7];have e0:clears (Gw c) [] []=Gw c:=by unfold clears;rfl
    rw[e0];exact⟨fun _ _=>trivial,F7⟩)
  refine⟨Dh,A_,G,J+1,j7,n0,c4,D1,by simp only[go_sem,t7],Ue,fun i hi=>c3 i (by omega),?_,fun x Y=>?_,fun x Y l8=>(Qs x (by omega)).trans ((b4 x (by omega)).trans (k5 x Y l8))⟩
  .unfold D2q;rw[<- eP];exact j0
  .have:=Gs x Y;omega
end Go.Proofs.YtkpdoehbhmipcaaGreat
namespace Go.Proofs.YtkpdoehbhmipcaaGreat
open Go Go.TV Go.Lp
theorem Qv{M:Nat}(E:1<=M):∀ {k m:Nat},m<=k->fact M m<=fact M k
 |0,m,h=>by have:m=0:=by omega
            subst this;exact zq _
 |k+1,m,h=>by
  by_cases e:m=k+1
  .subst e;exact zq _
  .refine zL (Qv E (k:=k) (m:=m) (by omega)) ?_
   show fact M k<=(k+1)*(M*fact M k);have G:1*fact M k<=M*fact M k:=zK _ E;have J:1*(M*fact M k)<=(k+1)*(M*fact M k):=zK _ (by omega);omega
def BM:Nat:=13*(1000*fact 1000 12)+fact 1000 12
theorem amg:ln BM<=6:=jr.mpr (by decide+kernel)
theorem XD{K m:Nat}(E:K<=1000)(hm:m<=12):(m+1)*(K*fact 1000 m)+fact 1000 m<=BM:=by
 have G:=Qv (M:=1000) (by decide) hm;have J:K*fact 1000 m<=1000*fact 1000 12:=yM E G;have O:(m+1)*(K*fact 1000 m)<=13*(1000*fact 1000 12):=yM (by omega) J;unfold BM;omega
theorem Oj{M:Nat}{q:Rat}(h:q.num.natAbs<=M/\q.den<=M)(E:M<=BM):Ln 6 q :=
 ⟨zL (jq (zL h.1 E)) amg,zL (jq (zL h.2 E)) amg⟩
theorem TP{k:Nat}{q:Rat}(h:Ln k q):Ln k (-q):=⟨by rw[Rat.neg_num,wH];exact h.1,by rw[Rat.neg_den];exact h.2⟩
theorem alu:Ln 6 0:=Ln.mono (sO (z:=0) (by decide)) (by decide)
structure PrS (A b c:List Int) (m n:Nat):Prop where
 hA:A.length=m*n
 hb:b.length=m
 hc:c.length=n
 hm:m<=12
 hn:n<=16
 bA:∀x∈A,-1000<=x/\x<=1000
 bb:∀x∈b,-1000<=x/\x<=1000
 bc:∀x∈c,-1000<=x/\x<=1000
theorem iD{A b c:List Int}{m n:Nat}(h:PrS A b c m n):Whole (AA A b c m n) 1000 :=
 ⟨by decide,fun j k _ _=>⟨_,rfl,Qa (lV h.bA _)⟩,fun k _=>⟨_,rfl,Qa (lV h.bb _)⟩⟩
section
variable {A b c:List Int} {m n n':Nat} {C:Nat->Rat} {T:Tab} {D:TQ} {ι:List Nat}
theorem apf(E:PrS A b c m n)(G:(AA A b c m n).Good T){i j:Nat}(hi:i<m)(J:j<n+m):Ln 6 (T.e i j) :=
 Oj (akm G (iD E) hi J) (by have:=XD (K:=0) (m:=m) (by decide) E.hm;show fact 1000 m<=BM;omega)
theorem ah1(E:PrS A b c m n)(G:(AA A b c m n).Good T){i:Nat}(hi:i<m):Ln 6 (T.b i) :=
 Oj (adR G (iD E) hi) (by have:=XD (K:=0) (m:=m) (by decide) E.hm;show fact 1000 m<=BM;omega)
theorem aaO(J:PrS A b c m n)(h:Vq (AA A b c m n) n' C T D ι)(E:(AA A b c m n).Good T)(hC:∀j,ZB 1000 (C j)):ShF D n'/\D.B.Nodup:=by
 have hm:=J.hm;have hn:=J.hn;have hle:n'<=n+m:=h.le;have hl:D.R.length<=m:=by
  rw[<- h.len];have h2:ι ⊆ List.range m:=fun r hr=>List.mem_range.mpr (h.lt r hr)
  have h3:=h.nd.length_le_of_subset h2
  rwa [uS]at h3
 refine⟨⟨h.row,h.A8,h.F5,by omega,by omega,fun x hx q O=>?_,fun q O=>?_,fun q O=>?_⟩,?_⟩
 .obtain⟨i,hi,rfl⟩:=yV hx
  obtain⟨j,S,rfl⟩:=yV O;have a6:=h.row _ (zu hi);have e:(D.R[i])[j]=BO D.R i j:=by
   have:=oN (R:=D.R) (i:=i) (j:=j) (by rw[fF hi];exact S);rw[<- this];simp only[fF hi]
  rw[e]
  by_cases G:j<n'
  .rw[h.ent i j hi G];exact apf J E (h.io hi) (by omega)
  .have:j=n':=by omega
   subst this;rw[h.rhs i hi];exact ah1 J E (h.io hi)
 .obtain⟨j,S,rfl⟩:=yV O
  have a7:=h.F5;rw[<- lW S 0]
  by_cases G:j<n'
  .rw[h.cost j G]
   exact Oj (anq E (iD J) hC (show j<n+m by omega)) (XD (zq _) hm)
  .have:j=n':=by omega
   subst this;rw[h.val];exact TP (Oj (anr E (iD J) hC) (XD (zq _) hm))
 .obtain⟨i,hi,rfl⟩:=yV O
  have Y:=h.A8;rw[<- lW hi 0,h.Bh i (by omega)];have:T.B (ι.getD i 0)<n+m:=E.ok.bn _ (h.io (by omega));omega
 .rw[List.nodup_iff_pairwise_ne,List.pairwise_iff_getElem]
  intro i j hi S a8 e;have Y:=h.A8;rw[<- lW hi 0,<- lW S 0,h.Bh i (by omega),h.Bh j (by omega)]at e;have u1:=E.ok.un _ _ (h.io (i:=i) (by omega)) (h.io (i:=j) (by omega));have u2:=E.ok.un _ _ (h.io (i:=i) (by omega)) (h.io (i:=i) (by omega));rw[sZ rfl]at u2;rw[<- e,u2]at u1;have:ι.getD i 0=ι.getD j 0:=by
   refine zf fun a1=>?_
   rw[su a1]at u1;exact absurd u1 (by decide)
  have:=lS h.nd (by rw[h.len];omega) (by rw[h.len];omega) this;omega
theorem amh(j:Nat):ZB 1000 ((AA A b c m n).c1 j):=by
 unfold Prog.c1
 split
 .exact⟨0,rfl,by decide⟩
 .exact⟨-1,rfl,by decide⟩
theorem avg(E:PrS A b c m n)(j:Nat):ZB 1000 ((AA A b c m n).C 0 j):=by
 unfold Prog.C;rw[sZ rfl]
 split
 .exact⟨c.getD j 0,rfl,by have:=lV E.bc j;omega⟩
 .exact⟨0,rfl,by decide⟩
theorem Ol:∀ {R:List (List Rat)} {B:List Nat} (q:Nat),Units R B->Units (R.take q) (B.take q)
 |[],_,q,_=>by simp[Units]
 |_ :: _,[],q,_=>by cases q<;>simp[Units]
 |x :: R,b :: B,0,_=>by simp[Units]
 |x :: R,b :: B,q+1,h=>⟨fun b' E=>h.1 b' (xH E),Ol (R:=R) (B:=B) q h.2⟩
theorem abY{c:List Rat}{j F:Nat}{Δ:Rat}(hc:∀i,ZB 1000 (c.getD i 0)):∀ {R:List (List Rat)} {B:List Nat},(∀x∈R,ZB F (x.getD j 0*Δ))->ZB (R.length*(1000*F)) (Fj c j R B*Δ)
 |[],_,_=>by
  have e:Fj c j [] ‹List Nat›=0:=by unfold Fj;rfl
  rw[e];exact⟨0,by grind,vS _⟩
 |x :: R,[],_=>by
  have e:Fj c j (x :: R) []=0:=by unfold Fj;rfl
  rw[e];exact⟨0,by grind,vS _⟩
 |x :: R,b :: B,h=>by
  have e:Fj c j (x :: R) (b :: B)*Δ=c.getD b 0*(x.getD j 0*Δ)+Fj c j R B*Δ:=by
   show(c.getD b 0*x.getD j 0+Fj c j R B)*Δ=_;grind
  rw[e];have E:=(hc b).mul (h x zQ);have G:=abY hc (R:=R) (B:=B) fun y J=>h y (zY _ J)
  exact(E.add G).mono (by rw[zB,yG R.length (1000*F)];exact Nat.le_of_eq (wV _ _))
theorem TS(c:List Int)(i:Nat):(Gw c).getD i 0=((c.getD i 0:Int):Rat):=by
 unfold Gw qs;rw[zx,zx]
 by_cases h:i<c.length
 .rw[zW (by simpa using h),z_,zy h];rfl
 .rw[zN (by simp;omega),yg (l:=c) (by omega)]
  by_cases E:i=c.length
  .subst E;simp
  .rw[yg (by simp;omega)];rfl
theorem abZ(hc:c.length=n):(Gw c).length=n+1:=by unfold Gw;rw[zl,gy];simp;omega
theorem ami(G:PrS A b c m n)(h:Vq (AA A b c m n) (n+m) (AA A b c m n).c1 T D ι)(J:(AA A b c m n).Good T)(O:∀r,r<m->r∈ι)(S:Zero (AA A b c m n) T)(E:∀i,i<D.R.length->En n D i) :
  Vq (AA A b c m n) n ((AA A b c m n).C 0) T (D2q n D c) (CB n ι D.B) :=
 Wy (p:=AA A b c m n) h J O S E (abZ G.hc) (fun j Y=>TS c j) (by
  show(Gw c).getD n 0=0;rw[TS,zx,yg (by have:=G.hc;omega)];rfl)
theorem aep(Y:PrS A b c m n)(h:Vq (AA A b c m n) (n+m) (AA A b c m n).c1 T D ι)(E:(AA A b c m n).Good T)(OQ:∀r,r<m->r∈ι)(hz:Zero (AA A b c m n) T)(a1:∀i,i<D.R.length->En n D i) :
  ∀q,q<=(pick n D.R D.B).1.length->∀u∈clears (Gw c) ((pick n D.R D.B).1.take q) ((pick n D.R D.B).2.take q),Ln 6 u:=fun q S u hu=>by
 have V:=ami Y h E OQ hz a1;have b3:=abZ Y.hc;have G:=IU (n:=n) (R:=D.R) (B:=D.B);have J:=IQ (n:=n) (R:=D.R) (B:=D.B);have hw:=iD Y;have b4:(pick n D.R D.B).1.length<=m:=by
  have h1:(CB n ι D.B).length=(pick n D.R D.B).1.length:=V.len;rw[<- h1];have h2:CB n ι D.B ⊆ List.range m:=fun r hr=>List.mem_range.mpr (V.lt r hr)
  have h3:=V.nd.length_le_of_subset h2
  rwa [uS]at h3
 obtain⟨P,eP⟩:∃P,P=pick n D.R D.B:=⟨_,rfl⟩;unfold D2q at V;rw[<- eP]at V G J S hu b4;have a6:∀i,i<P.1.length->P.2.getD i 0<n:=fun i hi=>by rw[lW (by omega)];exact G.2 _ (zu _)
 have b5:Units P.1 P.2:=by
  have:=Wx (R:=P.1) (k:=0) (B:=P.2) (by rw[yw];exact J) fun i q hi S c0 _=>by
   rw[Nat.sub_zero,V.ent i _ hi (a6 q S),show P.2.getD q 0=T.B ((CB n ι D.B).getD q 0)from V.Bh q S,E.ok.un _ _ (V.io hi) (V.io S)];rw[su fun e=>by have:=lS V.nd (by rw[V.len];exact hi) (by rw[V.len];exact S) e;omega]
  rwa [yw]at this
 obtain⟨k1,k2⟩:=Jw (n:=n+1) (R:=P.1.take q) (B:=P.2.take q) b3 (fun x hx=>V.row x (xH hx)) (fun d hd=>by have:=G.2 d (xH hd);omega) (Ol q b5) (by rw[zh,zh,J]);obtain⟨j,hj,rfl⟩:=yV hu;rw[<- lW hj 0,k2 j (by omega)];obtain⟨Δ,O⟩:∃Δ,Δ=Lp.Cm m fun q=>(AA A b c m n).A (T.B q):=⟨_,rfl⟩
 obtain⟨F,eF⟩:∃F,F=fact 1000 m:=⟨_,rfl⟩;have a7:ZB F Δ:=by rw[O,eF];exact E.ed.E_ E.ok.bn hw.A
 have b6:Δ≠0:=by rw[O];exact E.ed.ind
 have a8:∀i,ZB 1000 ((Gw c).getD i 0):=fun i=>⟨c.getD i 0,TS c i,by have:=lV Y.bc i;omega⟩
 have b7:=abY (j:=j) (F:=F) (Δ:=Δ) a8 (R:=P.1.take q) (B:=P.2.take q) fun x hx=>by
  obtain⟨i,hi,rfl⟩:=yV (xH hx);have e:P.1[i].getD j 0=BO P.1 i j:=by show _=(Eb P.1 i).getD j 0;rw[fF hi]
  rw[e,O,eF]
  by_cases b8:j<n
  .rw[show BO P.1 i j=T.e ((CB n ι D.B).getD i 0) j from V.ent i j hi b8]
   exact E.ed.MZ E.ok.bn hw.A (V.io hi) (show j<n+m by omega)
  .have:j=n:=by omega
   subst this;rw[show BO P.1 i j=T.b ((CB j ι D.B).getD i 0)from V.rhs i hi];exact E.ed.Gm E.ok.bn hw.A hw.w (V.io hi)
 have b2:ZB ((m+1)*(1000*F)+F) (((Gw c).getD j 0-Fj (Gw c) j (P.1.take q) (P.2.take q))*Δ):=by
  have e:((Gw c).getD j 0-Fj (Gw c) j (P.1.take q) (P.2.take q))*Δ=(Gw c).getD j 0*Δ+ -(Fj (Gw c) j (P.1.take q) (P.2.take q)*Δ):=by grind
  rw[e];refine(((a8 j).mul a7).add b7.neg).mono ?_;have:(P.1.take q).length*(1000*F)<=m*(1000*F):=zK _ (by rw[zh];omega);rw[yG m (1000*F)];exact zL (Nat.add_le_add_left this _) (by rw[wV];exact Nat.le_add_right _ _)
 have b9:ZB ((m+1)*(1000*F)+F) Δ:=a7.mono (by omega);exact Oj (Ij b9 b6 b2) (by rw[eF];exact XD (zq _) Y.hm)
end
theorem TT(f:Nat->Int):∀k,sm (fun i=>((f i:Int):Rat)) k=((FC f k:Int):Rat)
 |0=>rfl
 |k+1=>by
  show sm (fun i=>((f i:Int):Rat)) k+((f k:Int):Rat)=((FC f k+f k:Int):Rat);rw[TT f k,Rat.intCast_add]
section
variable {A b c:List Int} {m n:Nat}
theorem ah2{i j:Nat}(hi:i<m)(E:j<n+m+1):BO (Dq A b m n m).R i j=((cell0 A b m n i j:Int):Rat):=by
 have G:(Dq A b m n m).R.length=m:=by unfold Dq Ef;simp
 have e:Eb (Dq A b m n m).R i=qs (row0 A b m n i):=by
  rw[fF (by omega)];simp[Dq,Ef]
 show(Eb (Dq A b m n m).R i).getD j 0=_;rw[e,lW (by rw[gy,g_];omega),Oh (by rw[g_];omega),gG _ _ _ _ _ (by omega)]
theorem avi{i j:Nat}(hi:i<m)(J:j<n+m):(AA A b c m n).T0.e i j=((cell0 A b m n i j:Int):Rat):=by
 show(AA A b c m n).A j i=_;unfold cell0 Prog.A;show(if j<n then _ else if i+n=j then 1 else 0)=_
 by_cases E:j<n
 .rw[sZ E,sZ E];rfl
 .rw[su E,su E,sZ J]
  by_cases G:j=n+i
  .rw[sZ G,sZ (by omega)];rfl
  .rw[su G,su (by omega)];rfl
theorem avj{i:Nat}:(AA A b c m n).T0.b i=((cell0 A b m n i (n+m):Int):Rat):=by
 show((sg b i*b.getD i 0:Int):Rat)=_;unfold cell0;rw[su (by omega),su (by omega)]
theorem Qw{k:Nat}:∀ {m:Nat},FC (fun i=>if k=i then 1 else 0) m=if k<m then 1 else 0
 |0=>rfl
 |m+1=>by
  show FC _ m+(if k=m then 1 else 0)=_;rw[Qw]
  by_cases h:k<m
  .rw[sZ h,su (by omega),sZ (by omega)];rfl
  .by_cases E:k=m
   .rw[su h,sZ E,sZ (by omega)];rfl
   .rw[su h,su E,su (by omega)];rfl
theorem Om{f g:Nat->Int}:∀ {m:Nat},(∀i,i<m->f i=g i)->FC f m=FC g m
 |0,_=>rfl
 |m+1,h=>by
  show FC f m+f m=FC g m+g m;rw[Om fun i hi=>h i (by omega),h m (by omega)]
theorem aaP:Vq (AA A b c m n) (n+m) (AA A b c m n).c1 (AA A b c m n).T0 (Dq A b m n m) (List.range m):=by
 have J:(Dq A b m n m).R.length=m:=by unfold Dq Ef;simp
 have O:∀i,i<m->(AA A b c m n).c1 ((AA A b c m n).T0.B i)= -1:=fun i hi=>by
  show(if i+n<n then(0:Rat)else -1)= -1;rw[su (by omega)]
 have S:∀j,j<n+m+1->(Dq A b m n m).c.getD j 0=((if j<n\/j=n+m then FC (fun i=>cell0 A b m n i j) m else 0:Int):Rat):=fun j G=>by
  show(qs (EO A b m n m)).getD j 0=_;rw[lW (by rw[gy,pK];omega),Oh (by rw[pK];omega),IL _ _ _ _ _ G]
 refine⟨by rw[J];simp,by rw[J];simp[Dq],by show(qs (EO A b m n m)).length=_;rw[gy,pK],fun x hx=>?_,fun r Y=>List.mem_range.mp Y,List.nodup_range,zq _,fun i j hi G=>?_,fun i hi=>?_,fun i hi=>?_,fun j G=>?_,?_,fun r Y hn=>absurd (List.mem_range.mpr Y) hn⟩
 .obtain⟨y,hy,rfl⟩:=List.mem_map.mp hx
  obtain⟨i,-,rfl⟩:=List.mem_map.mp hy;rw[gy,g_]
 .rw[J]at hi
  rw[gq hi,ah2 hi (by omega),avi hi G]
 .rw[J]at hi
  rw[gq hi,ah2 hi (by omega),avj]
 .rw[J]at hi
  rw[gq hi];show((List.range m).map fun i=>n+i).getD i 0=i+n;rw[zx,z_,vU hi];show n+i=i+n;omega
 .rw[S j (by omega)]
  have e:gm (AA A b c m n).m (AA A b c m n).T0 (AA A b c m n).c1 j=(AA A b c m n).c1 j+((FC (fun i=>cell0 A b m n i j) m:Int):Rat):=by
   rw[<- TT];have E:sm (fun i=>(AA A b c m n).T0.e i j*(AA A b c m n).c1 ((AA A b c m n).T0.B i)) m= -1*sm (fun i=>((cell0 A b m n i j:Int):Rat)) m:=by
    rw[<- dK];exact dL fun i hi=>by rw[avi hi G,O i hi];grind
   show(AA A b c m n).c1 j-sm (fun i=>(AA A b c m n).T0.e i j*(AA A b c m n).c1 ((AA A b c m n).T0.B i)) m=_;rw[E];grind
  rw[e]
  by_cases E:j<n
  .rw[sZ (.inl E)]
   show _=(if j<n then(0:Rat)else -1)+_;rw[sZ E];grind
  .rw[su (by omega)]
   show _=(if j<n then(0:Rat)else -1)+_;rw[su E,Om (g:=fun i=>if j-n=i then 1 else 0) fun i hi=>by
    unfold cell0;rw[su E,sZ G]
    by_cases h2:j=n+i
    .rw[sZ h2,sZ (by omega)]
    .rw[su h2,su (by omega)],Qw,sZ (by omega)]
   decide+kernel
 .rw[S (n+m) (by omega),sZ (.inr rfl),<- TT]
  have E:sm (fun i=>(AA A b c m n).T0.b i*(AA A b c m n).c1 ((AA A b c m n).T0.B i)) m= -1*sm (fun i=>((cell0 A b m n i (n+m):Int):Rat)) m:=by
   rw[<- dK];exact dL fun i hi=>by rw[avj,O i hi];grind
  show _= -sm (fun i=>(AA A b c m n).T0.b i*(AA A b c m n).c1 ((AA A b c m n).T0.B i)) m;rw[E];grind
end
attribute [-go_sem] rH
def avl(p:Prog)(r:V):Prop:=(r= .agg [I 2,.ts [] 0,Bo false,.ts [] 0,.ts [] 0]/\p.None)\/(r= .agg [I 3,.ts [] 0,Bo false,.ts [] 0,.ts [] 0]/\p.Open) \/
 ∃x:Nat->Rat,p.Best x/\(∀j,j<p.n->Ln 6 (x j))/\Ln 6 (ob p.n p.c x)/\r= .agg (I 0 :: LL cQ ((List.range p.n).map x) :: cQ (ob p.n p.c x))/\∃T,p.Good T/\x=Bh p.m T
section
variable {A b c:List Int} {m n:Nat}
def Q1(A b c:List Int)(m n:Nat)(D:TQ):Prop:=∃T,Vq (AA A b c m n) (n+m) (AA A b c m n).c1 T D (List.range m)/\(AA A b c m n).Good T
def Q2(A b c:List Int)(m n:Nat)(D:TQ):Prop:=∃T,Vq (AA A b c m n) (n+m) (AA A b c m n).c1 T D (List.range m)/\(AA A b c m n).Good T/\Zero (AA A b c m n) T
def Q3(A b c:List Int)(m n:Nat)(ι:List Nat)(D:TQ):Prop:=∃T,Vq (AA A b c m n) n ((AA A b c m n).C 0) T D ι/\(AA A b c m n).Good T/\(AA A b c m n).Out T/\∀x∈D.B,x<n
theorem alx{D E:TQ}(h:Q1 A b c m n D)(hs:Np (n+m) 1 D E):Q1 A b c m n E:=by
 obtain⟨T,G,J⟩:=h;obtain⟨T',O,S⟩:=G.step (C:=fun _=>(AA A b c m n).c1) (Nr (p:=AA A b c m n) (n':=n+m)) hs;exact⟨T',S,J.step O⟩
theorem aly{ι:List Nat}{D G:TQ}(h:Q3 A b c m n ι D)(hs:Np n (n+1) D G):Q3 A b c m n ι G:=by
 obtain⟨T,S,Y,J,h4⟩:=h;obtain⟨T',O,k2⟩:=S.step (C:=(AA A b c m n).C) (Nu (p:=AA A b c m n)) hs;refine⟨T',k2,Y.step O,?_,fun x E=>?_⟩
 case refine_2=>
  obtain⟨s,r,g1,-,rfl⟩:=hs;rcases uP E with E|rfl
  .exact h4 x E
  .exact g1.lt
 obtain⟨s,r,g1,g2,rfl⟩:=O
 by_cases hB:T.B r<n
 .exact J.piv hB g1.fr
 .have:=(J.z r g2.lt (by show n<=T.B r;omega)).2 s g1.fr
  have:=g2.pos;grind
theorem apg{D:TQ}(h:Q2 A b c m n D)(E:∀i,i<D.R.length->En n D i):∃T,Vq (AA A b c m n) (n+m) (AA A b c m n).c1 T D (List.range m)/\(AA A b c m n).Good T/\Zero (AA A b c m n) T/\(AA A b c m n).Out T:=by
 obtain⟨T,G,h2,O⟩:=h;refine⟨T,G,h2,O,⟨fun i hi S=>⟨O i hi S,fun j Y=>?_⟩⟩⟩;have hl:D.R.length=m:=by rw[<- G.len];simp
 have J:i<m:=hi;have e1:=G.ent i j (by omega) (by have:j<n:=Y;omega);have e2:=G.Bh i (by omega);rw[gq J]at e1 e2;rw[<- e1];exact E i (by omega) (by rw[e2];exact S) j Y
theorem ab1{C:Nat->Nat->Rat}{p:Prog}{n':Nat}{T:Tab}{D:TQ}{ι:List Nat}(h:Vq p n' (C 0) T D ι){j:Nat}(E:j<n')(hn:j∉D.B):Bh p.m T j=0:=by
 unfold Bh;refine dF fun i hi=>?_
 rw[su fun e=>hn ((h.mem E).mpr ⟨i,hi,e⟩)]
theorem aaQ(a b c d e:V)(v:Rat):patch [a,b,c,d,e] 2 (cQ v)=a :: b :: cQ v:=rfl
theorem aaR(a b c d e x y:V)(v:Rat):patch [a,b,c,d,e] 0 (x :: y :: cQ v)=x :: y :: cQ v:=rfl
theorem alz(a b:V)(v:Rat):(a :: b :: cQ v).length=5:=rfl
theorem alA(a b:V)(v:Rat):(a :: b :: cQ v).all qI=(qI a && (qI b && true)):=rfl
theorem alC(x:Value):qI (.sc x)=true:=rfl
theorem ah3:qI .nil=true:=rfl
theorem alD(b o l:Nat):qI (.rs b o l)=true:=rfl
theorem ah4(a b:V)(v:Rat):(a :: b :: cQ v)[1]?=some b:=rfl
theorem ah5(a b w:V)(v:Rat):(a :: b :: cQ v).set 1 w=a :: w :: cQ v:=rfl
theorem ah6(a b:V)(v:Rat):(a :: b :: cQ v).take 5=a :: b :: cQ v:=rfl
attribute [go_sem] aaQ aaR alz alA alC ah3 alD ah4 ah5 ah6
theorem aph(hp:PrS A b c m n):∃r,fn Ze pI Ad 128 [.agg (CG m n A b c)]=some r/\avl (AA A b c m n) r:=by
 have hm:=hp.hm;have hn:=hp.hn;have hc:=hp.hc;have b6:∀x,(-1000<=x/\x<=1000)->(-1000000<=x/\x<=1000000):=fun x h=>by omega
 obtain⟨N,hN⟩:∃N,N=n+m:=⟨_,rfl⟩;obtain⟨s1,b4⟩:∃s1,s1=upd (upd lI 0 (some ⟨CG m n A b c,0,true⟩)) 1 (some ⟨[I 0,.nil,Bo false,.nil,.nil],0,true⟩):=⟨_,rfl⟩;have b5:s1 0=some ⟨CG m n A b c,0,true⟩:=by rw[b4,aG _ _ (by decide),aF]
 have h8:s1 1=some ⟨[I 0,.nil,Bo false,.nil,.nil],0,true⟩:=by rw[b4,aF]
 obtain⟨σ2,CJ,bt,k1,bc,vr,vb,rb,j5,S,Fv⟩:=ao9 (c:=c) hp.hA hp.hb (by omega) (by omega) hp.bA hp.bb s1 2;have j6:Q1 A b c m n (Dq A b m n m):=⟨_,aaP,iF⟩;have h9:∀D,Q1 A b c m n D->ShF D (n+m)/\D.B.Nodup:=fun D h=>by
  obtain⟨T,h1,h2⟩:=h;exact aaO hp h1 h2 amh
 have j7:Wv (n+m) 1 (2^(n+m)) (Dq A b m n m):=Vq.aaj (C:=fun _=>(AA A b c m n).c1) Nr aaP (abm iF.ok);obtain⟨j8,Ar,o9,D3,k2,j9,k7,NJ,p0,EZ⟩:=asP (Q1 A b c m n) false (d:=1) rfl h9 (fun D D' h hs=>alx h hs) j6 j7 j5 (fun b hb=>(S b hb).2);obtain⟨T3,v3,g3,z3,k8⟩:=aal (p:=AA A b c m n) j9 aaP iF fun r hr=>List.mem_range.mpr hr
 have i0:=(h9 D3 k7).1;have i1:=i0.F5;have KI:=NJ.t;have e0:=NJ.c;rw[<- hN]at KI i1;have l1:bt<Ar:=by have:=S bt (by simp);omega
 have l2:bc<Ar:=by have:=S bc (by simp);omega
 have a1:=jL N;have a2:(N:Int)<((N+1:Nat):Int):=by omega
 have a3:=dS (c:=cQ) (s:=3) qQ D3.c N (by omega);rw[<- lW (by omega) 0]at a3;have a4:=dN (c:=cQ) (s:=3) qQ D3.c;rw[i1]at a4;have a5:N*3+3<=(N+1)*3:=by omega
 have k9:Ln 6 (D3.c.getD N 0):=by rw[lW (by omega)];exact i0.aln _ (zu _)
 have k3:=fB (D3.c.getD N 0) (k9.mono (by decide));have b7:=aaJ (D3.c.getD N 0);have e5:∀x,x<2->j8 x=s1 x:=fun x hx=>by
  rw[EZ x (by have:=S bt (by simp);omega) fun hm=>by have:=S x (by simp only[zX,wU]at hm⊢;rcases hm with h|h|h<;>simp[h]);omega];exact Fv x hx
 have e6:=(e5 0 (by decide)).trans b5;have l6:=(e5 1 (by decide)).trans h8;unfold CG at b4 b5 e6 k1⊢;rw[mW,nK [.cell 2 179] [8,12,16] func128]
 by_cases hz:D3.c.getD N 0=0
 .rw[sS hz,vN]at b7
  have l7:Q2 A b c m n D3:=⟨T3,v3,g3,z3 (by rw[show(AA A b c m n).N=N from hN.symm];exact hz)⟩;have c9:∀r,r<m->r∈List.range m:=fun r hr=>List.mem_range.mpr hr
  obtain⟨Df,EY,Y,i2,l8,e7,c0,D4,k4,l9,i3,m1,TU,m2⟩:=alp (nx:=Ar) (A:=A) (b:=b) (m:=m) (N:=N) (Q2 A b c m n) hc hN (by omega) hp.bc (fun D h=>by
   obtain⟨T,h1,h2,h3⟩:=h;rw[hN];exact(aaO hp h1 h2 amh).1) (fun D i k h hi hB hk m3=>by
   obtain⟨T,h1,h2,h3⟩:=h;exact⟨_,aam (p:=AA A b c m n) h1 h2 h3 hi hB hk m3⟩) (fun D h i4=>by
   obtain⟨T,h1,h2,h3⟩:=h;exact aep hp h1 h2 c9 h3 i4) l7 (by rw[hN];exact NJ) (fun x hx=>by have:=S x hx;omega)
  obtain⟨T4,v4,g4,z4,o4⟩:=apg l9 i3;have V4:=ami hp v4 g4 c9 z4 i3;have i5:∀D,Q3 A b c m n (CB n (List.range m) D4.B) D->ShF D n/\D.B.Nodup:=fun D h=>by
   obtain⟨T,h1,h2,h3,h4⟩:=h;exact aaO hp h1 h2 (avg hp)
  obtain⟨Dn,G,m4,J,k5,m5,i6,F7,p1,m6⟩:=asP (Q3 A b c m n (CB n (List.range m) D4.B)) true (d:=n+1) rfl i5 (fun D D' h hs=>aly h hs) ⟨T4,V4,g4,o4,IU.2⟩ (Vq.aaj (C:=(AA A b c m n).C) Nu V4 (abm g4.ok)) m1 (fun b hb=>(TU b hb).2);obtain⟨T5,V5,g5,o5,m7,m8⟩:=aan (p:=AA A b c m n) m5 V4 g4 o4;unfold CG at k4;have p2:=(S bt (by simp)).1;have p3:=(S bt (by simp)).2;have i7:∀x,x<2->Dn x=s1 x:=fun x hx=>by
   rw[m6 x (by have:=TU Y (by simp);omega) fun hm=>by have:=TU x (by simp only[zX,wU]at hm⊢;rcases hm with h|h|h<;>simp[h]);omega];rw[m2 x (by omega) fun hm=>by have:=S x (by simp only[zX,wU]at hm⊢;rcases hm with h|h|h<;>simp[h]);omega];rw[e5 x hx]
  have i9:=(i7 0 (by decide)).trans b5;have j0:=(i7 1 (by decide)).trans h8;cases m4 with
  |false=>
   refine⟨_,by simp only[go_sem,qM,<- b4,b5,k1,k2,KI,e0,a1,a2,a3,a4,a5,k3,b7,l1,l2,e6,k4,k5,j0],.inr (.inl ⟨rfl,m8 rfl⟩)⟩
  |true=>
   obtain⟨a8,p4⟩:=i5 J i6;have e9:=F7.t;have m9:=F7.c;have n0:=a8.F5;have d1:Y<G:=by have:=TU Y (by simp);omega
   have d2:i2<G:=by have:=TU i2 (by simp);omega
   have c1:=jL n;have c2:(n:Int)<((n+1:Nat):Int):=by omega
   have c3:=dS (c:=cQ) (s:=3) qQ J.c n (by omega);rw[<- lW (by omega) 0]at c3;have c4:=dN (c:=cQ) (s:=3) qQ J.c;rw[n0]at c4;have c5:n*3+3<=(n+1)*3:=by omega
   have h5:Ln 6 (J.c.getD n 0):=by rw[lW (by omega)];exact a8.aln _ (zu _)
   have d3:G<G+1:=by omega
   have k6:=agc (J.c.getD n 0) (by have:=h5.1;omega) (by have:=h5.2;omega);have j1:-J.c.getD n 0=ob n (AA A b c m n).c (Bh m T5):=anv (p:=AA A b c m n) V5 g5;have h6:=TP h5;rw[j1]at k6 h6;generalize J.c.getD n 0=q at c3 k6;generalize hv:ob n (AA A b c m n).c (Bh m T5)=v at k6 h6;simp only[go_sem,qM,<- b4,b5,k1,k2,KI,e0,a1,a2,a3,a4,a5,k3,b7,l1,l2,e6,k4,k5,e9,m9,c1,c2,c3,c4,c5,d1,d2,d3,k6];have k0:fn Ze conv ext 133 [I 0]=some (.agg (cQ 0)):=fD 0 (by decide) (by decide)
   have n1:1<G:=by have:=TU Y (by simp);omega
   generalize hL:gI _ _=y;obtain⟨x,rfl,T6,Dh,O,rfl,t2,t4,t5,Qb,Qs,b3⟩:=pJ hL n (fun j st=>st.T 1= .rp 0 0/\st.T 2= .rp 1 0/\st.T 4= .rp Y 0/\st.T 5= .rp G 0/\st.T 6=I j/\G<st.nx/\(∀y,y<G->st.σ y=Dn y)/\((j=0/\st.σ G=some ⟨I 0 :: .nil :: cQ v,0,true⟩)\/∃E,0<j/\G<E/\E<st.nx/\st.σ G=some ⟨I 0 :: .rs E 0 j :: cQ v,0,true⟩/\st.σ E=some ⟨(List.replicate j (0:Rat)).flatMap cQ,3,true⟩))
    (fun x=>∃T Dh O,x=(.exit 0,⟨T,Dh,O⟩)/\T 2= .rp 1 0/\T 4= .rp Y 0/\T 5= .rp G 0/\G<O/\(∀y,y<G->Dh y=Dn y)/\((n=0/\Dh G=some ⟨I 0 :: .nil :: cQ v,0,true⟩)\/∃E,0<n/\G<E/\E<O/\Dh G=some ⟨I 0 :: .rs E 0 n :: cQ v,0,true⟩/\Dh E=some ⟨(List.replicate n (0:Rat)).flatMap cQ,3,true⟩)) (by
     clear hL;rintro j ⟨T,Dh,O⟩ hj ⟨t1,t2,t4,t5,t6,Qb,Qs,b3⟩;simp only at t1 t2 t4 t5 t6 Qb Qs b3;have g1:(j:Int)<(n:Int):=by omega
     have g3:=Zl (n:=(j:Int)+1);have c7:Dh 0=_:=(Qs 0 (by omega)).trans i9;have y1:G<O:=by omega
     have y2:¬G=O:=by omega
     have y3:(G==O)=false:=by rw[sW];omega
     have y4:(O==G)=false:=by rw[sW];omega
     have y5:G<O+1:=by omega
     have y6:¬G=O+1:=by omega
     have y7:(G==O+1)=false:=by rw[sW];omega
     have y8:(O+1==G)=false:=by rw[sW];omega
     have y9:G<O+1+1:=by omega
     have Xx:¬G=O+1+1:=by omega
     have Xy:(G==O+1+1)=false:=by rw[sW];omega
     have Xz:(O+1+1==G)=false:=by rw[sW];omega
     have j2:O<O+1:=by omega
     have XA:O+1<O+1+1:=by omega
     rcases b3 with ⟨h0,st⟩|⟨E,p5,c1,c2,st,sx⟩
     .refine .inl ⟨_,by simp only[go_sem,t1,t2,t4,t5,t6,c7,st,g1,g3,k0,y1,y2,y3,y4,y5,y6,y7,y8,y9,Xx,Xy,Xz,j2,XA];rfl,?_⟩
      simp only[go_sem,t1,t2,t4,t5];refine⟨rfl,by omega,fun x hx=>?_,.inr ⟨O+1,by omega,by omega,by omega,by rw[h0],?_⟩⟩
      .rw[aH,aH,aH];exact Qs x hx
      .rw[aH,aF,h0];rfl
     .have j3:=rO (σ:=restrict (upd Dh O (some ⟨cQ 0,3,true⟩)) [E,O]) (nx:=O+1) (size:=3) (bytes:=56) (b:=E) (len:=j) (m:=1) (row:=cQ 0) (by rw[gU,aH];exact sx) (by rw[dN qQ,yR]) (by decide) (by decide) (by unfold maxLen;omega) (by omega) rfl
      have x1:E<O+1:=by omega
      have x2:(G==E)=false:=by rw[sW];omega
      have x3:(E==G)=false:=by rw[sW];omega
      have x4:¬G=E:=by omega
      refine .inl ⟨_,by simp only[go_sem,t1,t2,t4,t5,t6,c7,st,g1,g3,k0,j3,x1,x2,x3,x4,y1,y2,y3,y4,y5,y6,y7,y8,y9,Xx,Xy,Xz,j2,XA];rfl,?_⟩;simp only[go_sem,t1,t2,t4,t5];refine⟨rfl,by omega,fun x hx=>?_,.inr ⟨O+1,by omega,by omega,by omega,rfl,?_⟩⟩
      .rw[aH,aH,aH,aH];exact Qs x hx
      .rw[aH,aF,uQ,zT];simp) (by
     clear hL;rintro ⟨T,Dh,O⟩ ⟨t1,t2,t4,t5,t6,Qb,Qs,b3⟩;simp only at t1 t2 t4 t5 t6 Qb Qs b3;have c7:Dh 0=_:=(Qs 0 (by omega)).trans i9;refine⟨_,by simp only[go_sem,t1,t6,c7,zk];rfl,by simp,_,_,_,rfl,?_⟩;simp only[go_sem,t2,t4,t5];exact⟨Qb,Qs,b3⟩) (by
     simp only[go_sem];exact⟨by omega,fun y hy=>by rw[aH],.inl trivial⟩)
   clear hL;have n2:∀x∈J.B,x<n:=i6.choose_spec.2.2.2;obtain⟨K,eK⟩:∃K,K=J.R.length:=⟨_,rfl⟩;have p6:=a8.A8;have p7:=a8.F6;obtain⟨f,ef⟩:∃f,f=Bh m T5:=⟨_,rfl⟩;have b8:∀i,i<K->BO J.R i n=f (J.B.getD i 0):=fun i hi=>by rw[ef];exact arO (p:=AA A b c m n) V5 g5 (by omega)
   have hlen:Dw Ze 27 e7=some (I K):=by
    rcases F7.b with ⟨q1,rfl⟩|⟨bb,q1,rfl,_⟩
    .rw[show K=0 by omega];exact o_ (by kernel_rfl)
    .rw[eK];exact ny (by kernel_rfl)
   obtain⟨vx,n3,n4⟩:∃vx,Dh G=some ⟨I 0 :: vx :: cQ v,0,true⟩/\((n=0/\vx= .nil)\/∃E,0<n/\G<E/\E<O/\vx= .rs E 0 n/\Dh E=some ⟨(List.replicate n (0:Rat)).flatMap cQ,3,true⟩):=by
    rcases b3 with ⟨h0,h1⟩|⟨E,h0,h1,h2,h3,h4⟩
    .exact⟨_,h1,.inl ⟨h0,rfl⟩⟩
    .exact⟨_,h3,.inr ⟨E,h0,h1,h2,rfl,h4⟩⟩
   have n5:Dh Y=_:=(Qs Y d1).trans e9;simp only[go_sem,t2,t4,t5,n5,hlen];generalize hL:gI _ _=y;obtain⟨x,rfl,T7,Fa,a7,rfl,t2,t5,a6,b2,XE⟩:=pJ hL K (fun i st=>st.T 2= .rp 1 0/\st.T 4= .rp Y 0/\st.T 5= .rp G 0/\st.T 60=e7/\st.T 61=I K/\st.T 62=I i/\O<=st.nx/\(∀y,y<G->st.σ y=Dn y)/\st.σ G=some ⟨I 0 :: vx :: cQ v,0,true⟩/\((n=0/\vx= .nil)\/∃E,0<n/\G<E/\E<O/\vx= .rs E 0 n/\st.σ E=some ⟨(xB J.B f i n).flatMap cQ,3,true⟩))
    (fun x=>∃T Fa a7,x=(.exit 2,⟨T,Fa,a7⟩)/\T 2= .rp 1 0/\T 5= .rp G 0/\(∀y,y<G->Fa y=Dn y)/\Fa G=some ⟨I 0 :: vx :: cQ v,0,true⟩/\((n=0/\vx= .nil)\/∃E,0<n/\G<E/\E<O/\vx= .rs E 0 n/\Fa E=some ⟨(xB J.B f K n).flatMap cQ,3,true⟩)) (by
     clear hL;rintro i ⟨T,Fa,a7⟩ hi ⟨t2,t4,t5,t60,t61,t62,c8,a6,b2,XE⟩;simp only at t2 t4 t5 t60 t61 t62 c8 a6 b2 XE;have j4:J.B.getD i 0<n:=by rw[lW (by omega)];exact n2 _ (zu _)
     rcases XE with ⟨h0,_⟩|⟨E,h0,h1,h2,rfl,h4⟩
     .omega
     obtain⟨br,rfl,n6⟩:∃br,l8= .rs br 0 K/\Dn br=some ⟨c0.map fun b=>V.rs b 0 (n+1),1,true⟩:=by
      rcases F7.r with ⟨e,_⟩|⟨br,_,e,e2⟩
      .omega
      .exact⟨br,by rw[e,eK],e2⟩
     obtain⟨bb,rfl,n7⟩:∃bb,e7= .rs bb 0 K/\Dn bb=some ⟨(BP J.B).flatMap cI,1,true⟩:=by
      rcases F7.b with ⟨e,_⟩|⟨bb,_,e,e2⟩
      .omega
      .exact⟨bb,by rw[e,eK],e2⟩
     have h7:i<c0.length:=by have:=F7.len;omega
     obtain⟨bi,EX⟩:∃bi,bi=c0[i]:=⟨_,rfl⟩;have p8:=TU br (by simp[bk]);have p9:=TU bb (by simp[bk]);have q0:bi<EY:=by rw[EX];exact(TU _ (by simp[zu h7])).2
     have g1:(i:Int)<(K:Int):=by omega
     have g2:=jL i;have g3:=Zl (n:=(i:Int)+1);have e1:Fa Y=_:=(a6 Y d1).trans e9;have e2:Fa br=_:=(a6 br (by omega)).trans n6;have e3:Fa bb=_:=(a6 bb (by omega)).trans n7;have e4:Fa bi=some ⟨(Eb J.R i).flatMap cQ,3,true⟩:=(a6 bi (by omega)).trans (by rw[EX];exact F7.row i h7);have r1:(c0.map fun b=>V.rs b 0 (n+1))[i]?=some (.rs bi 0 (n+1)):=by rw[z_,zy h7,EX];rfl
     have b1:=idx (xs:=BP J.B) (k:=i) (by rw[aV];omega);rw[aW (by omega)]at b1;have rl:=fE a8.row (show i<J.R.length by omega);have r3:=qH (R:=J.R) (i:=i) (j:=n) (by omega);have lq:Ln 6 (BO J.R i n):=by
      rw[<- oN (by omega)];exact a8.big _ (by rw[fF (show i<J.R.length by omega)];exact zu _) _ (zu _)
     rw[b8 i hi]at r3 lq;have r4:=dN (c:=cQ) (s:=3) qQ (Eb J.R i);rw[rl]at r4;have kc:=ao0 (f (J.B.getD i 0)) (lq.mono (by decide));have c6:patch ((xB J.B f i n).flatMap cQ) (J.B.getD i 0*3) (cQ (f (J.B.getD i 0)))=(xB J.B f (i+1) n).flatMap cQ:=by
      rw[iO qQ _ _ (by rw[Zi];exact j4),ahe f (by omega)]
     have g5:=dN (c:=cQ) (s:=3) qQ (xB J.B f i n);rw[Zi]at g5;generalize J.B.getD i 0=B at j4 b1 r3 kc c6;have g6:=jL B;have g7:(B:Int)<(n:Int):=by omega
     have g8:B*3+3<=n*3:=by omega
     have l1:G<a7:=by omega
     have l2:Y<a7:=by omega
     have l3:br<a7:=by omega
     have l4:bi<a7:=by omega
     have l5:E<a7:=by omega
     have z1:(G==E)=false:=by rw[sW];omega
     have z2:(Y==E)=false:=by rw[sW];omega
     have z3:(br==E)=false:=by rw[sW];omega
     have z4:(bi==E)=false:=by rw[sW];omega
     refine .inl ⟨_,by simp only[go_sem,t2,t4,t5,t60,t61,t62,e1,e2,e3,e4,b2,h4,r1,b1,r3,r4,g1,g2,g3,g5,g6,g7,g8,c1,c2,c5,kc,c6,l1,l2,l3,l4,l5,z1,z2,z3,z4];rfl,?_⟩;simp only[go_sem,t2,t4,t5,t60,t61];refine⟨rfl,c8,fun y hy=>?_,?_,.inr ⟨E,h0,h1,h2,rfl,?_⟩⟩
     .rw[aH];exact a6 y hy
     .rw[aH];exact b2
     .rw[aF]) (by
     clear hL;rintro ⟨T,Fa,a7⟩ ⟨t2,t4,t5,t60,t61,t62,c8,a6,b2,XE⟩;simp only at t2 t4 t5 t60 t61 t62 c8 a6 b2 XE;refine⟨_,by simp only[go_sem,t61,t62,zk];rfl,by simp,_,_,_,rfl,?_⟩;simp only[go_sem,t2,t5];exact⟨a6,b2,XE⟩) (by
     simp only[go_sem,t2,t4,t5];refine⟨Qs,n3,?_⟩;rcases n4 with h|⟨E,h0,h1,h2,h3,h4⟩
     .exact .inl h
     .exact .inr ⟨E,h0,h1,h2,h3,by rw[abJ];exact h4⟩)
   clear hL;have n8:Fa 1=_:=(a6 1 n1).trans j0;have hX:xB J.B f K n=(List.range n).map f:=by
    unfold xB;rw[zo (by omega)];refine xO fun j hj=>?_
    by_cases h:j∈J.B
    .rw[sZ h]
    .rw[su h,ef]
     exact(ab1 (C:=(AA A b c m n).C) V5 (List.mem_range.mp hj) h).symm
   have n9:∀j,j<n->Ln 6 (f j):=fun j hj=>by
    by_cases h:j∈J.B
    .obtain⟨i,hi,rfl⟩:=yV h
     rw[<- lW hi 0,<- b8 i (by omega),<- oN (by rw[fE a8.row (by omega)];omega)];exact a8.big _ (by rw[fF (show i<J.R.length by omega)];exact zu _) _ (zu _)
    .have e:Bh m T5 j=0:=ab1 (C:=(AA A b c m n).C) V5 hj h
     rw[ef,e];exact alu
   obtain⟨ids,o0⟩:∃ids,∀σ',(∀y,y≠1->σ' y=Fa y)->strip σ' 6 vx=some (LL cQ ((List.range n).map f),ids):=by
    rcases XE with ⟨h0,rfl⟩|⟨E,h0,h1,h2,rfl,h4⟩
    .exact⟨[],fun σ' _=>by rw[bF,h0];rfl⟩
    .exact⟨[E],fun σ' h=>fZ (by rw[h E (by omega),<- hX];exact h4) (by simp)⟩
   obtain⟨b9,e8⟩:∃b9,b9=upd Fa 1 (some ⟨I 0 :: vx :: cQ v,0,true⟩):=⟨_,rfl⟩;have o2:=o0 b9 fun y hy=>by rw[e8,aG _ _ hy]
   have o3:b9 1=some ⟨I 0 :: vx :: cQ v,0,true⟩:=by rw[e8,aF]
   have o6:=qP b9 6 v;have o7:qI vx=true:=by
    rcases XE with ⟨-,rfl⟩|⟨E,-,-,-,rfl,-⟩<;>rfl
   refine⟨.agg (I 0 :: LL cQ ((List.range n).map f) :: cQ v),?_,.inr (.inr ⟨f,by rw[ef];exact m7 rfl,n9,by rw[show ob (AA A b c m n).n (AA A b c m n).c f=v by rw[ef];exact hv];exact h6,by rw[show ob (AA A b c m n).n (AA A b c m n).c f=v by rw[ef];exact hv];rfl,T5,g5,ef⟩)⟩;simp only[go_sem,t2,t5,b2,n8,<- e8,o3,o2,o6,o7,bU]
 .rw[sQ hz,wY]at b7
  refine⟨_,by simp only[go_sem,qM,<- b4,b5,k1,k2,KI,e0,a1,a2,a3,a4,a5,k3,b7,l1,l2,l6],.inl ⟨rfl,k8 (by rw[show(AA A b c m n).N=N from hN.symm];exact hz)⟩⟩
end
theorem ab2{s:Structure}(h:SG s):fn Ze conv ext 115 [.agg (cStructure s)]=some (LI (free s)):=by
 have X9:=h.nj;unfold free;rw[mW,nK [.tmp 2] [] func115];simp only[go_sem];generalize hL:gI _ _=y;obtain⟨r,rfl,T',σ',nx',rfl,h2⟩:=pJ hL s.joints.length (fun k st=>st.T 8=LL cJoint s.joints/\st.T 9=I s.joints.length/\st.T 10=I k/\Grow st.T st.σ st.nx 3 (G9 (C9 s) k))
  (fun r=>∃T σ nx',r=(.exit 0,⟨T,σ,nx'⟩)/\Grow T σ nx' 3 (G9 (C9 s) s.joints.length)) (by
   clear hL;rintro k ⟨T,σ,nx⟩ G ⟨O,E,J,S⟩;simp only at O E J S;have f1:(k:Int)<(s.joints.length:Int):=by omega
   have f2:=jL k;have f3:=Zl (n:=(k:Int)+1);have f4:=GX s.joints k G;have f5:=ED s.joints;have f6:k*4+4<=s.joints.length*4:=by omega
   have f9:=Jh s.joints k G;have hle:=Ie (C9 s) k;have Y:=fun x=>lD S x
   cases hp:s.joints[k].fixed with
   |false=>
    have hq:C9 s k=true:=by simp[C9,zy G,hp]
    obtain⟨σ',ha,hs⟩:=lC (Y (some ⟨[Sg s.joints[k].name,I s.joints[k].x,I s.joints[k].y,Bo false],0,true⟩)) (k:Int) (by omega);refine .inl ⟨_,by simp only[go_sem,O,E,J,f1,f2,f3,f4,f5,f6,f9,hp,G,ha];rfl,?_⟩;simp only[go_sem,O,E];rw[KU hq];exact⟨rfl,kZ hs (by simp[go_sem]) (by simp)⟩
   |true=>
    have hq:C9 s k=false:=by simp[C9,zy G,hp]
    refine .inl ⟨_,by simp only[go_sem,O,E,J,f1,f2,f3,f4,f5,f6,f9,hp,G];rfl,?_⟩;simp only[go_sem,O,E];rw[RY hq];exact⟨rfl,ku (T:=T) (by simp only[go_sem]) (Y _)⟩) (by
   rintro ⟨T,σ,nx⟩ ⟨O,E,J,S⟩;simp only at O E J S;exact⟨_,by simp only[go_sem,E,J,zk];rfl,by simp,_,_,_,rfl,ku (by simp only[go_sem]) S⟩) (by
   simp only[go_sem];exact .inl ⟨by simp only[go_sem],rfl⟩)
 obtain⟨ids,hs⟩:=kY h2 6;simp only[go_sem,hs]
theorem ab3{s:Structure}(h:SG s){k:Nat}(E:k<s.members.length):fn Ze conv ext 229 [.agg (cStructure s),I k]=some (.Au [I (vx s k),I (vy s k)]):=by
 have O:=h.mr k E;rw[jV E]at O;have hb:=Zy h k;have a1:=h.nm;have X9:=h.nj;have S:=KA s.members k E;rw[jV E]at S;have f1:(k:Int)<(s.members.length:Int):=by omega
 have f2:=jL k;have f4:=FV s.members;have f5:k*3+3<=s.members.length*3:=by omega
 have f6:=KC s.members k E;have Y:(s.members.flatMap cMember)[k*3+0]?=some (I (mem s k).a):=by rw[<- jV E];exact dP (c:=cMember) (fun _=>rfl) s.members k E (j:=0) (by decide)
 have m2:(s.members.flatMap cMember)[k*3+1]?=some (I (mem s k).b):=by rw[<- jV E];exact dP (c:=cMember) (fun _=>rfl) s.members k E (j:=1) (by decide)
 rw[uY]at Y;unfold vx vy at hb⊢;generalize mem s k=mm at *;obtain⟨ma,mb,mk⟩:=mm;obtain⟨r1,r2,r3,r4,r5,r6⟩:=O;simp only at *;obtain⟨a,rfl⟩:∃a:Nat,ma=(a:Int):=⟨ma.toNat,by omega⟩;obtain⟨b,rfl⟩:∃b:Nat,mb=(b:Int):=⟨mb.toNat,by omega⟩;have J:a<s.joints.length:=by omega
 have G:b<s.joints.length:=by omega
 have ea:Xc s (a:Int)=s.joints[a]:=by unfold Xc;rw[yS,zy J];rfl
 have eb:Xc s (b:Int)=s.joints[b]:=by unfold Xc;rw[yS,zy G];rfl
 rw[ea,eb]at hb⊢;have g4:=ED s.joints;have g6:=Jh s.joints a J;have p1:=GX s.joints a J;have p2:=GX s.joints b G;have p3:a*4+4<=s.joints.length*4:=by omega
 have p4:b*4+4<=s.joints.length*4:=by omega
 have w1:=Zl (n:=s.joints[b].x-s.joints[a].x);have w2:=Zl (n:=s.joints[b].y-s.joints[a].y);rw[mW,nK [.tmp 4,.tmp 5] [1,2] func229];simp only[go_sem,S,f1,f2,f4,f5,f6,Y,m2,r1,r2,r3,r4,g4,g6,p1,p2,p3,p4,w1,w2]
def G2(v1 v2:V)(σ:Store)(nx:Nat)(E G:List Int):Prop:=(E=[]/\v1= .nil/\G=[]/\v2= .nil)\/∃b1 J,b1≠J/\b1<nx/\J<nx/\E≠[]/\G≠[]/\v1= .rs b1 0 E.length/\v2= .rs J 0 G.length/\σ b1=some ⟨E.flatMap cI,1,true⟩/\σ J=some ⟨G.flatMap cI,1,true⟩
theorem G2.congr{v1 v2:V}{σ σ':Store}{nx nx':Nat}{E G:List Int}(h:G2 v1 v2 σ nx E G)(hn:nx<=nx')(e:∀b,b<nx->σ' b=σ b):G2 v1 v2 σ' nx' E G:=by
 rcases h with h|⟨b1,J,O,S,Y,h4,h5,h6,h7,h8,h9⟩
 .exact .inl h
 .exact .inr ⟨b1,J,O,by omega,by omega,h4,h5,h6,h7,(e b1 S).trans h8,(e J Y).trans h9⟩
theorem mG{v1 v2:V}{σ:Store}{nx:Nat}{O S:List Int}(h:G2 v1 v2 σ nx O S)(x y:Int)(h1:O.length<100000)(h2:S.length<100000) :
  ∃E σ2,Ae (upd σ nx (some ⟨[I x],1,true⟩)) (nx+1) 1 8 v1 [I x] 1=some (.rs (nx+1) 0 (O.length+1),E,nx+1+1)/\Ae (upd E (nx+1+1) (some ⟨[I y],1,true⟩)) (nx+1+1+1) 1 8 v2 [I y] 1=some (.rs (nx+1+1+1) 0 (S.length+1),σ2,nx+1+1+1+1) /\
   G2 (.rs (nx+1) 0 (O.length+1)) (.rs (nx+1+1+1) 0 (S.length+1)) σ2 (nx+1+1+1+1) (O++[x]) (S++[y])/\∀b,b<nx->(∀o l,v1≠ .rs b o l)->(∀o l,v2≠ .rs b o l)->σ2 b=σ b:=by
 have g1:BZ cI 1 (fun _=>v1) σ nx 0 O:=by
  rcases h with ⟨J,G,-,-⟩|⟨b1,Y,J,G,q3,q4,q5,q6,q7,q8,q9⟩
  .exact .inl ⟨G,J⟩
  .exact .inr ⟨b1,q6,q4,q8,G⟩
 obtain⟨E,a1,a2,a3⟩:=lJ (c:=cI) (s:=1) (bytes:=8) (fun _=>rfl) (fun _=>rfl) (by decide) g1 x h1 (by decide);have o1:∀b,b<nx->(∀o l,v1≠ .rs b o l)->E b=σ b:=fun b hb hv=>a3 b hb fun b' o l e e2=>hv o l (by rw[e2];exact e)
 have g2:BZ cI 1 (fun _=>v2) E (nx+1+1) 0 S:=by
  rcases h with ⟨-,-,J,G⟩|⟨b1,Y,J,G,q3,q4,q5,q6,q7,q8,q9⟩
  .exact .inl ⟨G,J⟩
  .exact .inr ⟨Y,q7,q5,(o1 Y q3 fun o l e=>by rw[q6]at e;simp only[V.rs.injEq]at e;exact J e.1).trans q9,by omega⟩
 obtain⟨σ2,c1,c2,c3⟩:=lJ (c:=cI) (s:=1) (bytes:=8) (fun _=>rfl) (fun _=>rfl) (by decide) g2 y h2 (by decide);refine⟨E,σ2,a1,c1,.inr ⟨nx+1,nx+1+1+1,by omega,by omega,by omega,by simp,by simp,by rw[zl];rfl,by rw[zl];rfl,?_,c2⟩,fun b hb a6 a7=>?_⟩
 .rw[c3 (nx+1) (by omega) fun b o l e e2=>?_];exact a2
  rcases h with ⟨-,-,-,G⟩|⟨b1,Y,J,G,q3,q4,q5,q6,q7,q8,q9⟩
  .rw[G]at e;cases e
  .rw[q7]at e;simp only[V.rs.injEq]at e;omega
 .rw[c3 b (by omega) fun b' o l e e2=>a7 o l (by rw[e2];exact e)]
  exact o1 b hb a6
theorem G2.ne{v1 v2:V}{σ:Store}{nx:Nat}{J O:List Int}(h:G2 v1 v2 σ nx J O){b:Nat}(hb:nx<=b):(∀o l,v1≠ .rs b o l)/\∀o l,v2≠ .rs b o l:=by
 rcases h with ⟨-,E,-,G⟩|⟨b1,b2,E,G,q3,q4,q5,S,Y,q8,q9⟩
 .rw[E,G];exact⟨fun o l e=>(by cases e),fun o l e=>(by cases e)⟩
 .rw[S,Y]
  exact⟨fun o l e=>by simp only[V.rs.injEq]at e;omega,fun o l e=>by simp only[V.rs.injEq]at e;omega⟩
theorem G2.len{v1 v2:V}{σ:Store}{nx:Nat}{E G:List Int}(h:G2 v1 v2 σ nx E G)(d:Nat):(∃i,strip σ (d+1) v1=some (LI E,i))/\∃i,strip σ (d+1) v2=some (LI G,i):=by
 rcases h with ⟨rfl,rfl,rfl,rfl⟩|⟨b1,S,Y,q2,q3,q4,q5,rfl,rfl,J,O⟩
 .exact⟨⟨[],by rw[bF];rfl⟩,⟨[],by rw[bF];rfl⟩⟩
 .exact⟨⟨_,kR J rfl d⟩,⟨_,kR O rfl d⟩⟩
def FD(p:Int×Int):Int:=p.1
def F9(p:Int×Int):Int:=p.2
theorem XF{s:Structure}(h:SG s):fn Ze conv ext 189 [.agg (cStructure s)]=some (.Au [LI ((cols s s.members.length).map FD),LI ((cols s s.members.length).map F9)]):=by
 have b8:=h.nm;rw[mW,nK [.tmp 2,.tmp 3] [] func189];simp only[go_sem];generalize hL:gI _ _=y;obtain⟨r,rfl,T',σ',nx',rfl,h2⟩:=pJ hL s.members.length (fun k st=>st.T 11=LL cMember s.members/\st.T 12=I s.members.length/\st.T 13=I k/\G2 (st.T 4) (st.T 5) st.σ st.nx ((cols s k).map FD) ((cols s k).map F9))
  (fun r=>∃T σ nx',r=(.exit 0,⟨T,σ,nx'⟩)/\G2 (T 4) (T 5) σ nx' ((cols s s.members.length).map FD) ((cols s s.members.length).map F9)) (by
   clear hL;rintro k ⟨T,σ,nx⟩ a7 ⟨G,E,J,hg⟩;simp only at G E J hg;have f1:(k:Int)<(s.members.length:Int):=by omega
   have f2:=jL k;have f3:=Zl (n:=(k:Int)+1);have f4:=KA s.members k a7;have f5:=FV s.members;have f6:k*3+3<=s.members.length*3:=by omega
   have f9:=KC s.members k a7;have hr:=h.mr k a7;rw[jV a7]at f4 hr;have hle:=pV s k;have e1:((cols s k).map FD).length<=16:=by rw[zV];omega
   have e2:((cols s k).map F9).length<=16:=by rw[zV];omega
   rw[pO,xQ,xQ];generalize (cols s k).map FD=L1 at *;generalize (cols s k).map F9=L2 at *;obtain⟨S,em⟩:∃S,S=mem s k:=⟨_,rfl⟩;rw[<- em]at f4 hr⊢;obtain⟨s0,O⟩:∃s0,s0=upd σ nx (some ⟨cMember S,0,true⟩):=⟨_,rfl⟩;have b5:G2 (T 4) (T 5) s0 (nx+1) L1 L2:=hg.congr (by omega) fun b hb=>by rw[O,aH]
   have Y:s0 nx=some ⟨cMember S,0,true⟩:=by rw[O,aF]
   unfold cMember at O;have a8:=hg.ne (zq nx);unfold Fb
   by_cases k2:S.kind=2
   .have g1:(S.kind !=2)=false:=by simpa using k2
    have g2:(S.kind !=1)=true:=by simp[k2]
    obtain⟨b6,σ2,a1,a2,a3,a4⟩:=mG b5 (k:Int) (-1) (by omega) (by omega);refine .inl ⟨_,by simp only[go_sem,G,E,J,f1,f2,f3,f4,f5,f6,f9,<- O,Y,g1,g2,a1,a2];rfl,?_⟩;simp only[go_sem,G,E];rw[sZ k2,su (by omega)];exact⟨rfl,a3⟩
   .by_cases k1:S.kind=1
    .have g1:(S.kind !=2)=true:=by simpa using k2
     have g2:(S.kind !=1)=false:=by simpa using k1
     obtain⟨b6,σ2,a1,a2,a3,a4⟩:=mG b5 (k:Int) 1 (by omega) (by omega);have a6:σ2 nx=_:=(a4 nx (by omega) a8.1 a8.2).trans Y;refine .inl ⟨_,by simp only[go_sem,G,E,J,f1,f2,f3,f4,f5,f6,f9,<- O,Y,g1,g2,a1,a2,a6];rfl,?_⟩;simp only[go_sem,G,E];rw[su k2,sZ k1];exact⟨rfl,a3⟩
    .have g1:(S.kind !=2)=true:=by simpa using k2
     have g2:(S.kind !=1)=true:=by simpa using k1
     obtain⟨b6,σ2,a1,a2,a3,a4⟩:=mG b5 (k:Int) 1 (by omega) (by omega);have a6:σ2 nx=_:=(a4 nx (by omega) a8.1 a8.2).trans Y;obtain⟨b9,Df,b1,b2,b3,b4⟩:=mG a3 (k:Int) (-1) (by simp;omega) (by simp;omega);simp only[zl,yH]at b1 b2 b3;refine .inl ⟨_,by simp only[go_sem,G,E,J,f1,f2,f3,f4,f5,f6,f9,<- O,Y,g1,g2,a1,a2,a6,b1,b2];rfl,?_⟩;simp only[go_sem,G,E];rw[su k2,su k1];refine⟨rfl,?_⟩;have e3:∀(L:List Int) (f:Int×Int->Int) (x y:Int×Int),L++List.map f ([x]++[y])=L++[f x]++[f y]:=fun L f x y=>by simp
     rw[e3,e3];exact b3) (by
   rintro ⟨T,σ,nx⟩ ⟨G,E,J,hg⟩;simp only at G E J hg;refine⟨_,by simp only[go_sem,E,J,zk];rfl,by simp,_,_,_,rfl,?_⟩;simp only[go_sem];exact hg) (by
   simp only[go_sem];exact .inl ⟨rfl,rfl,rfl,rfl⟩)
 obtain⟨⟨i1,b7⟩,⟨i2,a6⟩⟩:=h2.len 5;simp only[go_sem,b7,a6]
def pB(l:List Int)(j:Int):List Int:=[-l.getD (2*j.toNat) 0,-l.getD (2*j.toNat+1) 0]
theorem ab4(l:List Int)(E:List Int):(E.flatMap (pB l)).length=2*E.length:=by
 induction E with
 |nil=>rfl
 |cons j E G=>rw[zO,zl,G,zB];show 2+_=_;omega
theorem alF{s:Structure}{i:Nat}(hi:i<(free s).length):∃q:Nat,(free s)[i]=(q:Int)/\q<s.joints.length:=by
 have hm:=zu hi;generalize (free s)[i]=z at hm;unfold free G9 at hm;obtain⟨q,E,rfl⟩:=List.mem_map.mp hm;exact⟨q,rfl,List.mem_range.mp (List.mem_filter.mp E).1⟩
theorem apl{s:Structure}(h:SG s){l:List Int}(hl:l.length=2*s.joints.length)(hb:∀x∈l,-100<=x/\x<=100):fn Ze conv ext 191 [.agg (cStructure s),LI l]=some (LI (J_ s l)):=by
 have a7:=mJ s;have X9:=h.nj;have k1:=ab2 h;have O:∀q,-100<=l.getD q 0/\l.getD q 0<=100:=fun q=>by
  rw[zx]
  by_cases hq:q<l.length
  .rw[zy hq];exact hb _ (zu hq)
  .rw[yg (by omega)];simp
 rw[mW,nK [.tmp 4] [5] func191];unfold cStructure at k1⊢;simp only[go_sem,k1];generalize hL:gI _ _=y;obtain⟨r,rfl,T',σ',nx',rfl,h2⟩:=pJ hL (free s).length (fun i st=>st.T 1=LI l/\st.T 10=LI (free s)/\st.T 11=I (free s).length/\st.T 12=I i/\((i=0/\st.T 5= .nil)\/∃b,0<i/\b<st.nx/\st.T 5= .rs b 0 (2*i)/\st.σ b=some ⟨(((free s).take i).flatMap (pB l)).flatMap cI,1,true⟩))
  (fun r=>∃T σ nx',r=(.exit 0,⟨T,σ,nx'⟩)/\(((free s).length=0/\T 5= .nil)\/∃b,0<(free s).length/\b<nx'/\T 5= .rs b 0 (2*(free s).length)/\σ b=some ⟨(((free s).take (free s).length).flatMap (pB l)).flatMap cI,1,true⟩)) (by
   clear hL;rintro i ⟨T,σ,nx⟩ hi ⟨t1,t10,t11,t12,S⟩;simp only at t1 t10 t11 t12 S;obtain⟨q,eq,hq⟩:=alF hi;have f1:(i:Int)<((free s).length:Int):=by omega
   have f2:=jL i;have f3:=Zl (n:=(i:Int)+1);have f4:=Aw (free s) i hi;have f5:=idx hi;rw[eq]at f5;have w1:=Zl (n:=2*(q:Int));have w2:=Zl (n:=2*(q:Int)+1);have e1:2*(q:Int)=((2*q:Nat):Int):=by omega
   have e2:((2*q:Nat):Int)+1=((2*q+1:Nat):Int):=by omega
   rw[e1]at w1 w2;rw[e2]at w2;have g1:((2*q:Nat):Int)<(l.length:Int):=by omega
   have g2:((2*q+1:Nat):Int)<(l.length:Int):=by omega
   have g3:(0:Int)<=((2*q:Nat):Int):=by omega
   have g4:(0:Int)<=((2*q+1:Nat):Int):=by omega
   have g5:=idx (xs:=l) (k:=2*q) (by omega);have g6:=idx (xs:=l) (k:=2*q+1) (by omega);rw[<- lW (by omega) 0]at g5 g6;have g7:=Aw l (2*q) (by omega);have b1:=O (2*q);have b2:=O (2*q+1);have Y:((free s).take (i+1)).flatMap (pB l)=((free s).take i).flatMap (pB l)++[0-l.getD (2*q) 0,0-l.getD (2*q+1) 0]:=by
    rw[yN,zy hi,eq,zT];simp[pB]
   generalize l.getD (2*q) 0=u at *;generalize l.getD (2*q+1) 0=v at *;have w3:=Zl (n:=0-u);have w4:=Zl (n:=0-v);have y1:nx<nx+1:=by omega
   have y2:2<=maxLen:=by unfold maxLen;decide
   rcases S with ⟨J,E⟩|⟨b,J,h1,E,G⟩
   .refine .inl ⟨_,by simp only[go_sem,t1,t10,t11,t12,E,f1,f2,f3,f4,f5,e1,e2,w1,w2,w3,w4,g1,g2,g3,g4,g5,g6,g7,y1,y2];rfl,?_⟩
    simp only[go_sem,t1,t10,t11];refine⟨rfl,.inr ⟨nx+1,by omega,by omega,by rw[J],?_⟩⟩;rw[aF,Y,J];rfl
   .have a1:=rP (σ:=restrict (upd σ nx (some ⟨[I (0-u),I (0-v)],1,true⟩)) [b,nx]) (nx:=nx+1) (bytes:=8) (b:=b) (len:=2*i) (m:=2) (row:=[I (0-u),I (0-v)]) (by rw[gU,aH];exact G) (by show((((free s).take i).flatMap (pB l)).flatMap cI).length=_;rw[qW,ab4,zh];omega) rfl (by decide) (by unfold maxLen;omega) (by omega) rfl
    have x1:b<nx+1:=by omega
    refine .inl ⟨_,by simp only[go_sem,t1,t10,t11,t12,E,f1,f2,f3,f4,f5,e1,e2,w1,w2,w3,w4,g1,g2,g3,g4,g5,g6,g7,y1,y2,a1,x1];rfl,?_⟩;simp only[go_sem,t1,t10,t11];refine⟨rfl,.inr ⟨nx+1,by omega,by omega,by rw[show 2*(i+1)=2*i+2 by omega],?_⟩⟩;rw[aF,Y,zT];rfl) (by
   rintro ⟨T,σ,nx⟩ ⟨t1,t10,t11,t12,S⟩;simp only at t1 t10 t11 t12 S;refine⟨_,by simp only[go_sem,t11,t12,zk];rfl,by simp,_,_,_,rfl,?_⟩;simp only[go_sem];exact S) (by
   simp only[go_sem];exact .inl trivial)
 have e:J_ s l=(free s).flatMap (pB l):=rfl;rw[zo (zq _)]at h2;rcases h2 with ⟨J,E⟩|⟨b,J,h1,E,G⟩
 .have:free s=[]:=zZ J
  rw[e,this]
  (simp only[go_sem,E])<;>rfl
 .have a6:=kR G (ab4 l (free s)) 6
  rw[<- e]at a6;simp only[go_sem,E,a6]
def G2l(lo:Nat)(v1 v2:V)(σ:Store)(nx:Nat)(E G:List Int):Prop:=G2 v1 v2 σ nx E G/\(∀b o l,v1= .rs b o l->lo<=b)/\∀b o l,v2= .rs b o l->lo<=b
theorem ab5{v:V}{σ:Store}{nx:Nat}{G E:List Int}(h:BZ cI 1 (fun _=>v) σ nx 0 G)(h2:E≠[])(hl:G.length+E.length<100000) :
  ∃σ',Ae σ nx 1 8 v (E.flatMap cI) E.length=some (.rs nx 0 (G.length+E.length),σ',nx+1)/\BZ cI 1 (fun _=> .rs nx 0 (G.length+E.length)) σ' (nx+1) 0 (G++E)/\∀y,y<nx->(∀o l,v≠ .rs y o l)->σ' y=σ y:=by
 have O:E.length≠0:=fun e=>h2 (zZ e)
 have S:(E.flatMap cI).all qI=true:=by
  rw[wL];intro w hw;obtain⟨x,-,hx⟩:=List.mem_flatMap.mp hw;rw[List.mem_singleton.mp hx];rfl
 have Y:G++E≠[]:=fun e=>h2 (List.append_eq_nil_iff.mp e).2
 rcases h with ⟨J,rfl⟩|⟨b,J,a7,a6,a8⟩
 .have J:v= .nil:=J
  subst J;refine⟨upd σ nx (some ⟨E.flatMap cI,1,true⟩),by rw[rJ,su O,sZ ⟨by unfold maxLen;omega,by omega⟩,wz,yu];rfl,.inr ⟨nx,by rw[zl],Y,by rw[aF,yL],by omega⟩,fun y hy _=>by rw[aH]⟩
 .have J:v= .rs b 0 G.length:=J
  subst J;have a1:=rP (σ:=σ) (nx:=nx) (bytes:=8) (b:=b) (len:=G.length) (m:=E.length) (row:=E.flatMap cI) a6 (qW G) rfl O (by unfold maxLen;omega) (by omega) S;refine⟨_,a1,.inr ⟨nx,by rw[zl],Y,by rw[aF,zT],by omega⟩,fun y hy hv=>?_⟩;rw[aH,aG _ _ fun e=>hv 0 G.length (by rw[e])]
def Gx(s:Structure)(j:Int):List Int:=(List.range s.members.length).map (eX s j)++(List.range s.members.length).map (eY s j)
theorem ah8(s:Structure)(j:Int):(Gx s j).length=2*s.members.length:=by unfold Gx;simp;omega
theorem Qx(s:Structure):∀E:List Int,(E.flatMap (Gx s)).length=2*s.members.length*E.length
 |[]=>rfl
 |j :: E=>by rw[zO,zl,Qx s E,ah8,zB,Nat.mul_succ];omega
theorem avq{s:Structure}(h:SG s)(hm:0<s.members.length):fn Ze conv ext 190 [.agg (cStructure s)]=some (LI ((free s).flatMap (Gx s))):=by
 have c9:=h.nm;have e0:=mJ s;have X9:=h.nj;have k1:=ab2 h;have kV:=fun k hk=>ab3 h (k:=k) hk
 rw[mW,nK [.tmp 2] [] func190];unfold cStructure at k1 kV⊢;simp only[go_sem,k1];generalize hL:gI _ _=y;obtain⟨r,rfl,T',σ',nx',rfl,h2⟩:=pJ hL (free s).length (fun i st=>st.T 1= .rp 0 0/\st.T 14=LI (free s)/\st.T 15=I (free s).length/\st.T 16=I i/\0<st.nx/\st.σ 0=some ⟨[LL cJoint s.joints,LL cMember s.members],0,true⟩/\BZ cI 1 (fun _=>st.T 3) st.σ st.nx 0 (((free s).take i).flatMap (Gx s))/\∀o l,st.T 3≠ .rs 0 o l)
  (fun r=>∃T σ nx',r=(.exit 0,⟨T,σ,nx'⟩)/\BZ cI 1 (fun _=>T 3) σ nx' 0 ((free s).flatMap (Gx s))) (by
   clear hL;rintro i ⟨T,σ,nx⟩ hi ⟨t1,t14,t15,t16,a6,s0,hg,a8⟩;simp only at t1 t14 t15 t16 a6 s0 hg a8;obtain⟨j,ej⟩:∃j,j=(free s)[i]:=⟨_,rfl⟩;have f1:(i:Int)<((free s).length:Int):=by omega
   have f2:=jL i;have f3:=Zl (n:=(i:Int)+1);have f4:=Aw (free s) i hi;have f5:=idx hi;rw[<- ej]at f5;refine cu ?_
   conv=>
    enter [1,r,1,1]
    simp only[go_sem,t1,t14,t15,t16,s0,f1,f2,f4,f5]
   generalize hL:gI _ _=z;obtain⟨x,rfl,T2,σ2,S,rfl,t1,t14,t15,t16,t3,a7,Fv,E⟩:=pJ hL s.members.length (fun k st=>st.T 1= .rp 0 0/\st.T 14=LI (free s)/\st.T 15=I (free s).length/\st.T 16=I i/\st.T 3=T 3/\st.T 5=I j/\st.T 23=LL cMember s.members/\st.T 24=I s.members.length/\st.T 25=I k/\nx<=st.nx/\(∀y,y<nx->st.σ y=σ y)/\G2l nx (st.T 6) (st.T 7) st.σ st.nx ((List.range k).map (eX s j)) ((List.range k).map (eY s j)))
    (fun x=>∃T2 σ2 S,x=(.exit 2,⟨T2,σ2,S⟩)/\T2 1= .rp 0 0/\T2 14=LI (free s)/\T2 15=I (free s).length/\T2 16=I i/\T2 3=T 3/\nx<=S/\(∀y,y<nx->σ2 y=σ y)/\G2l nx (T2 6) (T2 7) σ2 S ((List.range s.members.length).map (eX s j)) ((List.range s.members.length).map (eY s j))) (by
     clear hL;rintro k ⟨T2,σ2,S⟩ hk ⟨t1,t14,t15,t16,t3,t5,t23,t24,t25,a7,Fv,E,J,O⟩;simp only at t1 t14 t15 t16 t3 t5 t23 t24 t25 a7 Fv E J O;have g1:(k:Int)<(s.members.length:Int):=by omega
     have g2:=jL k;have g3:=Zl (n:=(k:Int)+1);have g4:=KA s.members k hk;have g5:=FV s.members;have g6:k*3+3<=s.members.length*3:=by omega
     have g9:=KC s.members k hk;rw[jV hk]at g4;have kv:=kV k hk;have e1:=Zy h k;have b7:σ2 0=_:=(Fv 0 a6).trans s0;obtain⟨m1,em⟩:∃m1,m1=mem s k:=⟨_,rfl⟩;rw[<- em]at g4;obtain⟨s3,G⟩:∃s3,s3=upd σ2 S (some ⟨cMember m1,0,true⟩):=⟨_,rfl⟩;have b8:G2 (T2 6) (T2 7) s3 (S+1) ((List.range k).map (eX s j)) ((List.range k).map (eY s j)):=E.congr (by omega) fun b hb=>by rw[G,aH]
     have b3:s3 S=some ⟨cMember m1,0,true⟩:=by rw[G,aF]
     have b4:s3 0=_:=(by rw[G,aH]:s3 0=σ2 0).trans b7;have EZ:∀y,y<nx->s3 y=σ y:=fun y hy=>by rw[G,aH];exact Fv y hy
     obtain⟨Df,Dn,a1,a2,a3,a4⟩:=mG b8 (eX s j k) (eY s j k) (by simp;omega) (by simp;omega);have eR:∀f:Nat->Int,(List.range (k+1)).map f=(List.range k).map f++[f k]:=fun f=>by rw[wX,xQ];rfl
     have hl:((List.range k).map (eX s j)).length=k:=by simp
     have b9:((List.range k).map (eY s j)).length=k:=by simp
     rw[hl]at a1 a3;rw[b9]at a2 a3;have fin:(∀y,y<nx->Dn y=σ y):=fun y hy=>(a4 y (by omega) (fun o l e=>by have:=J _ _ _ e;omega) fun o l e=>by have:=O _ _ _ e;omega).trans (EZ y hy)
     have done:G2l nx (.rs (S+1+1) 0 (k+1)) (.rs (S+1+1+1+1) 0 (k+1)) Dn (S+1+1+1+1+1) ((List.range (k+1)).map (eX s j)) ((List.range (k+1)).map (eY s j)):=by
      rw[eR,eR];exact⟨a3,fun b o l e=>by simp only[V.rs.injEq]at e;omega,fun b o l e=>by simp only[V.rs.injEq]at e;omega⟩
     unfold cMember at G
     by_cases ja:j=m1.a
     .have c1:(j==m1.a)=true:=beq_iff_eq.mpr ja
      have ex:eX s j k=vx s k:=by unfold eX;rw[sZ (by rw[<- em];exact ja)]
      have ey:eY s j k=vy s k:=by unfold eY;rw[sZ (by rw[<- em];exact ja)]
      rw[ex]at a1;rw[ey]at a2;refine .inl ⟨_,by simp only[go_sem,t1,t14,t15,t16,t3,t5,t23,t24,t25,g1,g2,g3,g4,g5,g6,g9,<- G,b3,b4,kv,c1,a1,a2];rfl,?_⟩;simp only[go_sem,t1,t14,t15,t16,t3,t5,t23,t24];rw[<- wX];exact⟨rfl,by omega,fin,done⟩
     .have c1:(j==m1.a)=false:=beq_false_of_ne ja
      by_cases jb:j=m1.b
      .have c2:(j==m1.b)=true:=beq_iff_eq.mpr jb
       have ex:eX s j k=0-vx s k:=by unfold eX;rw[su (by rw[<- em];exact ja),sZ (by rw[<- em];exact jb)];omega
       have ey:eY s j k=0-vy s k:=by unfold eY;rw[su (by rw[<- em];exact ja),sZ (by rw[<- em];exact jb)];omega
       have w1:=Zl (n:=0-vx s k);have w2:=Zl (n:=0-vy s k);rw[ex]at a1;rw[ey]at a2;refine .inl ⟨_,by simp only[go_sem,t1,t14,t15,t16,t3,t5,t23,t24,t25,g1,g2,g3,g4,g5,g6,g9,<- G,b3,b4,kv,c1,c2,w1,w2,a1,a2];rfl,?_⟩;simp only[go_sem,t1,t14,t15,t16,t3,t5,t23,t24];rw[<- wX];exact⟨rfl,by omega,fin,done⟩
      .have c2:(j==m1.b)=false:=beq_false_of_ne jb
       have ex:eX s j k=0:=by unfold eX;rw[su (by rw[<- em];exact ja),su (by rw[<- em];exact jb)]
       have ey:eY s j k=0:=by unfold eY;rw[su (by rw[<- em];exact ja),su (by rw[<- em];exact jb)]
       rw[ex]at a1;rw[ey]at a2;refine .inl ⟨_,by simp only[go_sem,t1,t14,t15,t16,t3,t5,t23,t24,t25,g1,g2,g3,g4,g5,g6,g9,<- G,b3,b4,kv,c1,c2,a1,a2];rfl,?_⟩;simp only[go_sem,t1,t14,t15,t16,t3,t5,t23,t24];rw[<- wX];exact⟨rfl,by omega,fin,done⟩) (by
     clear hL;rintro ⟨T2,σ2,S⟩ ⟨t1,t14,t15,t16,t3,t5,t23,t24,t25,a7,Fv,E⟩;simp only at t1 t14 t15 t16 t3 t5 t23 t24 t25 a7 Fv E;refine⟨_,by simp only[go_sem,t24,t25,zk];rfl,by simp,_,_,_,rfl,?_⟩;simp only[go_sem,t1,t14,t15,t16,t3];exact⟨a7,Fv,E⟩) (by
     simp only[go_sem,t1,t14,t15,t16];exact⟨fun _ _=>trivial,.inl ⟨rfl,rfl,rfl,rfl⟩,fun _ _ _ e=>(by cases e),fun _ _ _ e=>(by cases e)⟩)
   clear hL;obtain⟨E,J,O⟩:=E;obtain⟨X,b5⟩:∃X,X=(List.range s.members.length).map (eX s j):=⟨_,rfl⟩;obtain⟨Y,b6⟩:∃Y,Y=(List.range s.members.length).map (eY s j):=⟨_,rfl⟩;have lX:X.length=s.members.length:=by rw[b5];simp
   have lY:Y.length=s.members.length:=by rw[b6];simp
   rw[<- b5,<- b6]at E;rcases E with ⟨q1,-⟩|⟨b1,b2,q1,q2,q3,q4,q5,q6,q7,q8,q9⟩
   .rw[q1]at lX;simp at lX;omega
   have e2:=J _ _ _ q6;have c0:=O _ _ _ q7;obtain⟨L,eL⟩:∃L,L=((free s).take i).flatMap (Gx s):=⟨_,rfl⟩;have e3:L.length<=100:=by
    rw[eL,Qx,zh];have:2*s.members.length*min i (free s).length<=16*6:=yM (by omega) (by omega);omega
   rw[<- eL]at hg;have c4:BZ cI 1 (fun _=>T 3) σ2 S 0 L:=by
    rcases hg with h|⟨b,p1,p2,p3,p4⟩
    .exact .inl h
    .exact .inr ⟨b,p1,p2,(Fv b p4).trans p3,by omega⟩
   have hv:∀y,nx<=y->∀o l,T 3≠ .rs y o l:=fun y hy o l e=>by
    have:=lH hg (b:=y) (o:=o) (l:=l) e;omega
   obtain⟨c5,a1,a2,a3⟩:=ab5 c4 q4 (by omega);obtain⟨Df,c1,c2,c3⟩:=ab5 a2 q5 (by rw[zl];omega);have s3:c5 b2=_:=(a3 b2 q3 (hv b2 c0)).trans q9;have c6:Df 0=some ⟨[LL cJoint s.joints,LL cMember s.members],0,true⟩:=by
    rw[c3 0 (by omega) fun o l e=>by simp only[V.rs.injEq]at e;omega,a3 0 (by omega) a8,Fv 0 a6];exact s0
   simp only[zl,lX,lY]at a1 c1 c2 q6 q7;have eT:((free s).take (i+1)).flatMap (Gx s)=L++X++Y:=by
    rw[yN,zy hi,zT,<- eL,<- ej,zF];show L++(Gx s j++[])=_;unfold Gx;rw[<- b5,<- b6,zM]
   have tX:(X.flatMap cI).take s.members.length=X.flatMap cI:=zo (by rw[qW];omega);have tY:(Y.flatMap cI).take s.members.length=Y.flatMap cI:=zo (by rw[qW];omega);have c7:s.members.length<=X.length:=by omega
   have c8:s.members.length<=Y.length:=by omega
   refine⟨_,by simp only[go_sem,t16,f3,t3,q6,q7,q8,tX,tY,c7,c8,a1,s3,c1];rfl,.inl ⟨_,rfl,?_⟩⟩;simp only[go_sem,t1,t14,t15];rw[eT];exact⟨rfl,by omega,c6,c2,fun o l e=>by simp only[V.rs.injEq]at e;omega⟩) (by
   rintro ⟨T,σ,nx⟩ ⟨t1,t14,t15,t16,a6,s0,hg,a8⟩;simp only at t1 t14 t15 t16 a6 s0 hg a8;refine⟨_,by simp only[go_sem,t15,t16,zk];rfl,by simp,_,_,_,rfl,?_⟩;simp only[go_sem];rw[zo (zq _)]at hg;exact hg) (by
   simp only[go_sem];exact⟨.inl ⟨rfl,rfl⟩,fun _ _=>trivial⟩)
 obtain⟨ids,hs⟩:=lF (c:=cI) (s:=1) (fun _=>rfl) 6 (fun x=>by rw[bU,bC,bP];rfl) h2;simp only[go_sem,hs]
end Go.Proofs.YtkpdoehbhmipcaaGreat
