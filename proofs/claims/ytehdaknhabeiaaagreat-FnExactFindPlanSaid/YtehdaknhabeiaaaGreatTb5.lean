import Derived.Test.YtehdaknhabeiaaaGreatTb4
set_option linter.unusedSimpArgs false
set_option linter.unusedVariables false
set_option linter.unusedSectionVars false
set_option linter.defProp false
set_option maxRecDepth 10000
set_option maxHeartbeats 4000000
open Go.Proofs.Tryz renaming prog->ZH
open Go.Proofs.Tryz
open Bool renaming and_eq_true->zB,false_eq_true->yL,and_false->xu,not_false->wu,false_and->wE,true_and->vJ,not_true->vH,or_eq_false_iff->uM
open Classical renaming byContradiction->zf
open Int renaming lt_irrefl->zl,toNat_natCast->zF,natCast_mul->yh,tdiv_eq_ediv_of_nonneg->yH,le_refl->yD,natAbs_natCast->wz,natAbs_neg->wC,natAbs_mul_self->vw,toNat_of_nonneg->uY,natAbs_mul->uX
open List renaming getElem?_eq_getElem->zy,getD_eq_getElem?_getD->zx,getElem_mem->zu,length_append->zo,take_of_length_le->zk,length_take->zh,eq_nil_of_length_eq_zero->zZ,mem_cons_of_mem->zY,mem_cons->zX,getElem?_append_left->zV,flatMap_append->zU,flatMap_cons->zT,getElem?_append_right->zQ,length_map->zO,length_drop->zN,mem_cons_self->zM,append_nil->zK,length_cons->zJ,not_mem_nil->zH,mem_append_left->zD,append_assoc->z_,mem_append_right->yw,length_replicate->yj,take_length->yg,getElem?_map->yc,getElem?_eq_none->yZ,drop_zero->yY,getElem_of_mem->yV,drop_eq_getElem_cons->yU,cons_append->yT,ext_getElem->yS,length_eraseIdx_of_lt->yR,take_add_one->yN,length_singleton->yM,nil_append->yK,length_set->yJ,getElem_append_left->yG,set_append_right->yC,getElem_map->yB,drop_of_length_le->xk,nodup_cons->xZ,getElem?_drop->xX,replicate_succ->xR,map_congr_left->xO,take_left'->xM,mem_singleton->xC,length_nil->wZ,range_succ->wY,map_append->wX,mem_append->wW,mem_of_mem_take->wS,flatMap_nil->wQ,getElem_set->wP,getElem_append_right->wO,take_append_drop->wM,replicate_append_replicate->wF,getElem?_range->w_,drop_append_of_le_length->vk,set_cons_zero->vg,map_cons->vK,getElem_range->vC,eraseIdx_eq_take_drop_succ->uz,replicate_succ'->uo,mem_of_mem_eraseIdx->uj,getElem_take->uh,take_append_of_le_length->uf,getElem_inj->uV,all_cons->uO,length_range->uN,getElem?_mapIdx->uK,length_zipWith->tq,contains_cons->tN,getElem?_set_self->tJ
open Nat renaming le_refl->zq,not_lt_zero->zW,le_trans->zL,mul_le_mul_right->zC,zero_add->yX,mul_one->yQ,sub_self->yP,mul_le_mul->yE,min_eq_left->yA,succ_mul->xq,lt_of_lt_of_le->xP,div_le_self->xJ,div_div_eq_div_mul->xA,div_one->x9,add_comm->wR,mul_comm->wL,zero_le->wK,mod_eq_of_lt->wJ,mod_lt->vX,add_mul->vO,mul_assoc->vG,div_eq_of_lt->vF,pow_succ->um,div_lt_iff_lt_mul->uQ,le_div_iff_mul_le->uP,eq_zero_of_gcd_eq_zero_right->u_,mul_le_mul_left->tu,div_mul_le_self->tZ,le_mul_of_pos_left->tH
open Ne renaming symm->yu
open Option renaming bind_some->zi,map_some->zG
open Option.some renaming injEq->su
open Prod.mk renaming injEq->sZ
namespace Go.Proofs.YtehdaknhabeiaaaGreat
open Go Go.TV Go.Lp
attribute [-go_sem] rD
def BU:List (Option Rat)->Option (List Rat)
 |[]=>some []
 |none :: _=>none
 |some q :: l=>(BU l).map (q :: ·)
theorem dG:∀(l:List (Option Rat)) (a:Option Rat),BU (l++[a])=(BU l).bind fun qs=>a.map fun q=>qs++[q]
 |[],none=>rfl
 |[],some q=>rfl
 |none :: l,a=>rfl
 |some q :: l,a=>by
  show(BU (l++[a])).map _=((BU l).map _).bind _;rw[dG l a];cases BU l with
  |none=>rfl
  |some qs=>cases a<;>rfl
theorem dH:∀ {l l':List (Option Rat)},BU l=none->BU (l++l')=none
 |[],_,h=>by cases h
 |none :: l,_,_=>rfl
 |some q :: l,l',h=>by
  show(BU (l++l')).map _=none;have:BU l=none:=by
   cases e:BU l with
   |none=>rfl
   |some qs=>rw[show BU (some q :: l)=(BU l).map (q :: ·)from rfl,e]at h;cases h
  rw[dH this];rfl
theorem dJ:∀ {l:List (Option Rat)} {qs:List Rat},BU l=some qs->qs.length=l.length
 |[],qs,h=>by cases h;rfl
 |none :: l,_,h=>by cases h
 |some q :: l,qs,h=>by
  cases e:BU l with
  |none=>rw[show BU (some q :: l)=(BU l).map (q :: ·)from rfl,e]at h;cases h
  |some rs=>rw[show BU (some q :: l)=(BU l).map (q :: ·)from rfl,e]at h;cases h;simp[dJ e]
abbrev zR:List V:=[Bo false,.nil,.nil]
def P_(qs:List Rat)(n:Nat):List V:=qs.flatMap cQ++rep (n-qs.length) zR
def ac3:=bZ (c:=cQ) (s:=3) (fun _=>rfl)
theorem X5(qs:List Rat){n:Nat}(h:qs.length<=n):(P_ qs n).length=n*3:=by
 unfold P_;rw[zo,ac3,fM];simp only[zJ,wZ];omega
theorem aiO(qs:List Rat){n:Nat}(h:qs.length<n)(q:Rat):patch (P_ qs n) (qs.length*3) (cQ q)=P_ (qs++[q]) n:=by
 have E:=ac3 qs;rw[iG _ _ _ (by rw[X5 qs (by omega)];show qs.length*3+3<=n*3;omega)];unfold P_;rw[uf (by omega),zk (by omega),zU,zo,yM,show n-qs.length=n - (qs.length+1)+1 by omega,fK];rw[List.drop_append,xk (by rw[E];omega),yK,E,show qs.length*3+(cQ q).length-qs.length*3=3 by show qs.length*3+3-qs.length*3=3;omega];simp
theorem Rk(σ:Store)(d:Nat)(qs:List Rat):stripL (strip σ d) (qs.flatMap cQ)=some (qs.flatMap cQ,[]):=aY (fun q=>qM σ d q) qs
theorem aiP(q:Rat):(cQ q).all pI=true:=rfl
theorem ams(q:Rat):(cQ q).take 3=cQ q:=rfl
theorem amu(q:Rat):(cQ q).length=3:=rfl
attribute [go_sem] aiP ams amu
def Dj(O:List (Option Rat)):V:=match BU O with
 |some qs=> .AP [LL cQ qs,Bo true]
 |none=> .AP [.ts [] 0,Bo false]
theorem amv(O:List (Option Rat))(hL:∀o∈O,LnO 24 o)(hn:O.length<=1000):fn ZH conv ext 135 [LL Gq O]=some (Dj O):=by
 have m1:(0:Int)<=(O.length:Int):=by omega
 have m2:56*(O.length:Int)<=281474976710656:=by omega
 have m3:(O.length:Int)<=9223372036854775807:=by omega
 rw[mM,nG [.tmp 2,.tmp 3] [] func135];simp only[go_sem,m1,m2,m3];generalize a2:dI _ _=y;obtain⟨x,rfl,hx⟩:=pF a2 O.length (fun k st=>st.T 4= .rs 0 0 O.length/\st.T 10=LL Gq O/\st.T 11=I O.length/\st.T 12=I k/\0<st.nx/\∃qs,BU (O.take k)=some qs/\st.σ 0=some ⟨P_ qs O.length,3,true⟩)
  (fun x=>∃T σ nx,(x=(.exit 0,⟨T,σ,nx⟩)/\T 4= .rs 0 0 O.length/\∃qs,BU O=some qs/\σ 0=some ⟨P_ qs O.length,3,true⟩)\/(x=(.ret,⟨T,σ,nx⟩)/\T 2= .nil/\T 3=Bo false/\BU O=none)) (by
   clear a2;rintro k ⟨T,σ,nx⟩ hk ⟨Y,J,G,S,a0,qs,E,s0⟩;simp only at Y J G S a0 s0;have g1:(k:Int)<(O.length:Int):=by omega
   have g2:=jD k;have g3:=ZQ (n:=(k:Int)+1);have g4:(O.flatMap Gq)[k]?=some (pQ O[k]):=cu (fun a=>pQ a) O k hk;have g5:=bg (c:=Gq) (s:=1) (fun _=>rfl) (by omega) O k hk;have g6:=ac2 O;rw[yQ]at g6;have a3:qs.length=k:=by rw[dJ E,zh];omega
   have a1:O.take (k+1)=O.take k++[O[k]]:=aJ hk;have ho:=hL _ (zu hk);obtain⟨o,eo⟩:∃o,o=O[k]:=⟨_,rfl⟩;rw[<- eo]at g4 a1 ho;cases o with
   |none=>
    have g4:(O.flatMap Gq)[k]?=some (.sc (.pointer none)):=g4;refine .inr ⟨_,by simp only[go_sem,Y,J,G,S,g1,g2,g4,g5,g6,hk];rfl,by simp,_,_,_,.inr ⟨rfl,?_⟩⟩;simp only[go_sem];have:O=O.take (k+1)++O.drop (k+1):=(wM _ _).symm;rw[this,a1];refine dH ?_;rw[dG,E];rfl
   |some q=>
    have g4:(O.flatMap Gq)[k]?=some (.tp (cQ q) 0):=g4;have hq:=ho q rfl;have ks:=ak9 q hq.1 hq.2;have p1:=X5 qs (n:=O.length) (by omega);have p2:=aiO qs (n:=O.length) (by omega) q;rw[a3]at p2;have p3:k*3+3<=O.length*3:=by omega
    refine .inl ⟨_,by simp only[go_sem,Y,J,G,S,s0,g1,g2,g3,g4,g5,g6,hk,ks,p1,p2,p3];rfl,?_⟩;simp only[go_sem,Y,J,G];refine⟨rfl,a0,qs++[q],?_,rfl⟩;rw[a1,dG,E];rfl) (by
   rintro ⟨T,σ,nx⟩ ⟨Y,J,G,S,a0,qs,E,s0⟩;simp only at Y J G S a0 s0;have g1:¬(O.length:Int)<(O.length:Int):=by omega
   refine⟨_,by simp only[go_sem,G,S,g1];rfl,by simp,_,_,_,.inl ⟨rfl,?_⟩⟩;simp only[go_sem,Y];rw[yg]at E;exact⟨qs,E,s0⟩) (by
   simp only[go_sem];refine⟨[],rfl,?_⟩;unfold P_;rfl)
 rcases hx with ⟨T,σ,nx,⟨rfl,Y,qs,E,s0⟩|⟨rfl,t2,t3,E⟩⟩
 .have hl:=dJ E
  have e1:P_ qs O.length=qs.flatMap cQ:=by unfold P_;rw[hl,yP];exact zK _
  rw[e1]at s0;have u0:=ac3 qs;have u1:O.length*3<=(qs.flatMap cQ).length:=by rw[u0];omega
  have u2:(qs.flatMap cQ).take (O.length*3)=qs.flatMap cQ:=zk (by rw[u0];omega);have u3:=Rk σ 5 qs;unfold Dj;rw[E];simp only[go_sem,Y,s0,u1,u2,u3];show some (V.AP [V.ts _ O.length,_])=some (V.AP [V.ts _ qs.length,_]);rw[hl]
 .unfold Dj
  rw[E];simp only[go_sem,t2,t3]
end Go.Proofs.YtehdaknhabeiaaaGreat
namespace Go.Proofs.YtehdaknhabeiaaaGreat
attribute [-go_sem] rD
open Go Go.TV
def abw(P:Program)(ts:Array TypeId)(ty:TypeId)(a b:V)(σ:Store)(nx:Nat):Kq:=EK P .min ts ty [a,b] σ nx
theorem apN{P:Program}{conv:FuncId->Conv}{call:TV.Call}(d:Option Tmp)(ty:TypeId)(ps:String)(E:Array Edge)(G:Option (Nat×Bool))(T:Nat->V)(σ:Store)(nx:Nat)(a b:Operand)(ts:Array TypeId) :
  AB P conv call ⟨d,.call ⟨.builtin .min,#[a,b],ts⟩,ty,ps,E,G⟩ T σ nx=abw P ts ty (val T a) (val T b) σ nx:=rfl
theorem abx{P:Program}{ts:Array TypeId}{ty:TypeId}{m n:Int}{σ:Store}{nx:Nat}:abw P ts ty (I m) (I n) σ nx=some (I (if n<m then n else m),σ,nx):=by
 unfold abw;simp only[EK,Hl,af9];rfl
attribute [go_sem] apN abx
theorem aby{b n:Nat}(hn:ln b=n+1):1<=b / 1000000000^n/\b / 1000000000^n<1000000000/\(dg b)[n]?=some ((b / 1000000000^n:Nat):Int):=by
 have E:b<1000000000^(n+1):=by
  have:=(jg (n:=b) (k:=n+1)).mp (by omega);rw[qh]at this;omega
 have O:¬b<1000000000^n:=fun h=>by
  have:ln b<=n:=(jg (n:=b) (k:=n)).mpr (by rw[qh];omega);omega
 have hp:0<1000000000^n:=Nat.pow_pos (by decide);have G:b / 1000000000^n<1000000000:=by
  rw[uQ hp];rw[um]at E;rw[wL];exact E
 have J:n<(dg b).length:=by unfold ln at hn;omega
 refine⟨by rw[uP hp];omega,G,?_⟩;rw[zy J,oZ J,wJ G]
theorem amw(m n:Nat):A_ m n<=0↔m<=n:=by
 unfold A_
 split
 .omega
 .split<;>omega
theorem amx(m n:Nat):A_ m n<0↔m<n:=by
 unfold A_
 split
 .omega
 .split<;>omega
theorem apO{r b P:Nat}(E:0<P)(hb:0<b):r / P / (b / P+1)<=r / b:=by
 rw[uP hb];have G:b<=(b / P+1)*P:=by
  have:=Nat.lt_mul_div_succ b E;rw[wL];omega
 calc r / P / (b / P+1)*b<=r / P / (b / P+1)*((b / P+1)*P):=tu _ G
  _=r / P / (b / P+1)*(b / P+1)*P:=by rw[vG]
  _<=r / P*P:=zC _ (tZ _ _)
  _<=r:=tZ _ _
theorem apP{r b P:Nat}(E:0<P)(hb:0<b / P):r / b<=r / P / (b / P):=by
 rw[uP hb,uP E];have G:b / P*P<=b:=tZ _ _
 calc r / b*(b / P)*P=r / b*(b / P*P):=vG _ _ _
  _<=r / b*b:=tu _ G
  _<=r:=tZ _ _
theorem amy(r b:Nat)(b7:1000000000<=b)(hle:b<=r)(b2:r<b*1000000000)(b8:ln b<=10000):fn ZH conv ext 247 [LI (dg r),LI (dg b)]=some (I ((r / b:Nat):Int)):=by
 obtain⟨n,hn⟩:∃n,ln b=n+1:=⟨ln b-1,by have:=jZ (n:=b) (by omega);omega⟩;obtain⟨t1,t2,t3⟩:=aby hn;obtain⟨P,eP⟩:∃P,P=1000000000^n:=⟨_,rfl⟩;rw[<- eP]at t1 t2 t3;have hP:0<P:=by rw[eP];exact Nat.pow_pos (by decide)
 have a5:n+1<=ln r:=by rw[<- hn];exact jf hle
 have b3:ln r<=n+2:=by
  rw[jg,qh];have h1:b<1000000000^(n+1):=by
   have:=(jg (n:=b) (k:=n+1)).mp (by omega);rw[qh]at this;omega
  have h2:1000000000^(n+2)=1000000000^(n+1)*1000000000:=um _ _;omega
 obtain⟨X,eX⟩:∃X,X=r / P:=⟨_,rfl⟩;obtain⟨bt,a1⟩:∃bt,bt=b / P:=⟨_,rfl⟩;rw[<- a1]at t1 t2 t3;obtain⟨Q,eQ⟩:∃Q,Q=r / b:=⟨_,rfl⟩;rw[<- eQ];have b9:Q<1000000000:=by rw[eQ,uQ (by omega),wL];exact b2
 have q1:X / (bt+1)<=Q:=by rw[eX,a1,eQ];exact apO hP (by omega)
 have q2:Q<=X / bt:=by rw[eX,a1,eQ];exact apP hP (by omega)
 have hX:X<1000000000000000000:=by
  rw[eX,uQ hP];have h1:r<1000000000^(n+2):=by
   have:=(jg (n:=r) (k:=n+2)).mp b3;rw[qh]at this;omega
  have h2:1000000000^(n+2)=1000000000000000000*P:=by rw[eP,Nat.pow_add,wL]
  omega
 have a2:(dg b).length=n+1:=hn;have u1:((n+1:Nat):Int) - 1=(n:Int):=by omega
 have w1:=ZQ (n:=(n:Int));have i0:=jD n;have i1:(n:Int)<((n+1:Nat):Int):=by omega
 have i2:(n:Int)<((dg r).length:Int):=by unfold ln at a5;omega
 have n1:n<(dg r).length:=by unfold ln at a5;omega
 have n2:n<n+1:=by omega
 have a6:((dg b).flatMap cI)[n]?=some (I (bt:Int)):=by
  have G:n<(dg b).length:=by omega
  have e:(dg b)[n]=(bt:Int):=by
   rw[zy G]at t3;exact Option.some.inj t3
  rw[idx (xs:=dg b) (k:=n) G,e]
 have a7:(dg b).flatMap cI≠[]:=fun e=>by have h:=qR (dg b);rw[e,a2]at h;have h:0=n+1:=h;omega
 have a8:(dg r).flatMap cI≠[]:=fun e=>by have h:=qR (dg r);rw[e]at h;have h:0=(dg r).length:=h;omega
 have a3:((dg r).flatMap cI)[n]?=some (I ((r / P%1000000000:Nat):Int)):=by
  rw[idx (xs:=dg r) (k:=n) n1,oZ n1,eP]
 have v1:=ZQ (n:=(bt:Int)+1);have c1:¬(bt:Int)+1=0:=by omega
 have c2:¬(bt:Int)=0:=by omega
 obtain⟨L0,J⟩:∃L0,L0=X / (bt+1):=⟨_,rfl⟩;obtain⟨O,S⟩:∃O,O=X / bt:=⟨_,rfl⟩;have c0:L0<=X:=by rw[J];exact xJ _ _
 have c5:O<=X:=by rw[S];exact xJ _ _
 rw[<- J]at q1;rw[<- S]at q2;have d1:(X:Int).tdiv ((bt:Int)+1)=(L0:Int):=by
  rw[yH (by omega),show(bt:Int)+1=((bt+1:Nat):Int) by omega,<- Int.natCast_ediv,J]
 have d2:(X:Int).tdiv (bt:Int)=(O:Int):=by rw[yH (by omega),<- Int.natCast_ediv,S]
 clear J S;have v2:=ZQ (n:=(L0:Int));have v3:=ZQ (n:=(O:Int));obtain⟨H,eH,b4,b5⟩:∃H:Nat,(if(O:Int)<999999999 then(O:Int)else 999999999)=(H:Int)/\Q<=H/\H<=999999999:=by
  by_cases h:(O:Int)<999999999
  .exact⟨O,by rw[sS h],q2,by omega⟩
  .exact⟨999999999,by rw[sW h];rfl,by omega,by omega⟩
 have E:ln r=n+1\/ln r=n+2:=by omega
 rw[mM,nG [.tmp 4] [] func247];rcases E with E|E
 case' inl=>
  have e1:r / P%1000000000=X:=by
   rw[eX];obtain⟨_,h2,_⟩:=aby E;rw[<- eP]at h2;exact wJ h2
  rw[e1]at a3;have a4:(dg r).length=n+1:=E;have c3:¬((n+1:Nat):Int)<((n+1:Nat):Int):=by omega
  simp only[go_sem,a2,a4,u1,w1,i0,i1,n2,a3,a6,a7,a8,c3,v1,c1,c2,d1,d2,v2,v3,eH]
 case' inr=>
  obtain⟨y1,y2,y3⟩:=aby E;obtain⟨Y,eY⟩:∃Y,Y=r / 1000000000^(n+1):=⟨_,rfl⟩;rw[<- eY]at y2 y3;have e1:r / P%1000000000+Y*1000000000=X:=by
   have:=oQ r n;rw[<- eP,<- eY,<- eX]at this;rw[<- eX];omega
  have a4:(dg r).length=n+1+1:=E;have c3:((n+1:Nat):Int)<((n+1+1:Nat):Int):=by omega
  have i3:(0:Int)<=((n+1:Nat):Int):=by omega
  have i4:(n:Int)<((n+1+1:Nat):Int):=by omega
  have n3:n+1<n+1+1:=by omega
  have n4:n<n+1+1:=by omega
  have tn:((n+1:Nat):Int).toNat=n+1:=zF _;have b6:((dg r).flatMap cI)[n+1]?=some (I (Y:Int)):=by
   have G:n+1<(dg r).length:=by omega
   have e:(dg r)[n+1]=(Y:Int):=by
    rw[zy G]at y3;exact Option.some.inj y3
   rw[idx (xs:=dg r) (k:=n+1) G,e]
  have v4:=ZQ (n:=(Y:Int)*1000000000);have v5:IntKind.i64.wrap (((r / P%1000000000:Nat):Int)+(Y:Int)*1000000000)=(X:Int):=by
   rw[ZQ];omega
  simp only[go_sem,a2,a4,u1,w1,i0,i1,i3,i4,n2,n3,n4,tn,a3,b6,a6,a7,a8,c3,v1,v4,v5,c1,c2,d1,d2,v2,v3,eH]
 all_goals
  generalize hL:dI _ _=y;obtain⟨x,rfl,T,σ,nx,rfl,t7⟩:=jV hL (fun m st=>st.T 0=LI (dg r)/\st.T 1=LI (dg b)/\∃lo hi:Nat,st.T 7=I (lo:Int)/\st.T 8=I (hi:Int)/\lo<=Q/\Q<=hi/\hi<=999999999/\m+lo=hi)
   (fun x=>∃T σ nx,x=(.exit 0,⟨T,σ,nx⟩)/\T 7=I (Q:Int)) (by
    clear hL;rintro m ⟨T,σ,nx⟩ ⟨t0,t1,lo,hi,t7,t8,h1,h2,h3,h4⟩;simp only at t0 t1 t7 t8
    by_cases c6:lo<hi
    .have g1:(lo:Int)<(hi:Int):=by omega
     obtain⟨q,eq⟩:∃q,q=(lo+hi+1) / 2:=⟨_,rfl⟩;have g2:=ZQ (n:=(lo:Int)+(hi:Int));have g3:=ZQ (n:=(lo:Int)+(hi:Int)+1);have g4:((lo:Int)+(hi:Int)+1).tdiv 2=(q:Int):=by
      rw[yH (by omega)];omega
     have g5:=ZQ (n:=(q:Int));have g6:=ZQ (n:=(q:Int) - 1);have g7:¬(2:Int)=0:=by decide
     have k1:=Nw q (by omega);have lq:=jY (n:=q) (by omega);have k2:=dN b q (by omega) (by omega);have lm:=je b q;have k3:=WU (b*q) r (by show ln (b*q)<=_;omega) (by show ln r<=_;omega);have a0:=amw (b*q) r;have a9:b*q<=r↔q<=Q:=by rw[eQ,uP (by omega),wL]
     by_cases hq:q<=Q
     .have c4:A_ (b*q) r<=0:=a0.mpr (a9.mpr hq)
      refine .inl ⟨_,by simp only[go_sem,t0,t1,t7,t8,g1,g2,g3,g4,g5,g7,k1,k2,k3,c4];rfl,hi-q,by omega,?_⟩;simp only[go_sem,t0,t1,t8];exact⟨q,hi,rfl,rfl,hq,h2,h3,by omega⟩
     .have c4:¬A_ (b*q) r<=0:=fun h=>hq (a9.mp (a0.mp h))
      refine .inl ⟨_,by simp only[go_sem,t0,t1,t7,t8,g1,g2,g3,g4,g5,g6,g7,k1,k2,k3,c4];rfl,q-1-lo,by omega,?_⟩;simp only[go_sem,t0,t1,t7];exact⟨lo,q-1,rfl,by rw[show((q-1:Nat):Int)=(q:Int) - 1 by omega],h1,by omega,by omega,by omega⟩
    .have g1:¬(lo:Int)<(hi:Int):=by omega
     refine .inr ⟨_,by simp only[go_sem,t7,t8,g1];rfl,by simp,_,_,_,rfl,?_⟩;simp only[go_sem,t7];rw[show(lo:Int)=(Q:Int) by omega]) (H-L0) (by
    simp only[go_sem];exact⟨L0,H,rfl,rfl,q1,b4,b5,by omega⟩)
  simp only[go_sem,t7]
def Eb(n k i:Nat):List Int:=(List.range k).map fun j=>if j<i then 0 else((n / 1000000000^j%1000000000:Nat):Int)
theorem OE(n k i:Nat):(Eb n k i).length=k:=by simp[Eb]
theorem aiQ(n k:Nat):Eb n k k=List.replicate k 0:=by
 refine yS (by simp[Eb]) fun j E G=>?_
 simp only[Eb,yB,vC,List.getElem_replicate];rw[sS (by simpa[Eb]using E)]
theorem aft(n k:Nat):Eb n k 0=pad n k:=by
 refine yS (by simp[Eb,pad]) fun j E G=>?_
 simp[Eb,pad]
theorem OG{n k i:Nat}(E:i<k):(Eb n k (i+1)).set i ((n / 1000000000^i%1000000000:Nat):Int)=Eb n k i:=by
 refine yS (by simp[Eb]) fun j G J=>?_
 rw[wP];simp only[Eb,yB,vC]
 by_cases e:i=j
 .subst e;simp
 .rw[sW e]
  by_cases h:j<i
  .rw[sS (by omega),sS h]
  .rw[sW (by omega),sW h]
theorem Rl{n k i:Nat}(h:i<k)(E:n / 1000000000^i%1000000000=0):Eb n k (i+1)=Eb n k i:=by
 rw[<- OG h,E];refine yS (by simp[Eb]) fun j G J=>?_
 rw[wP]
 by_cases e:i=j
 .subst e
  rw[sS rfl];simp only[Eb,yB,vC];rw[sS (by omega)];rfl
 .rw[sW e]
theorem aun(xs:List Int)(k:Nat)(v:Int):(xs.flatMap cI).set k (I v)=(xs.set k v).flatMap cI:=by
 induction xs generalizing k with
 |nil=>rfl
 |cons x xs E=>
  cases k with
  |zero=>rfl
  |succ k=>show I x :: (xs.flatMap cI).set k (I v)=_;rw[E];rfl
theorem azw(n:Nat):rep n [V.sc (.int .i64 0)]=(List.replicate n (0:Int)).flatMap cI:=by
 induction n with
 |zero=>rfl
 |succ n E=>rw[fK,E,xR];rfl
theorem abz{σ:Store}{b:Nat}{xs:List Int}{w:Bool}(h:σ b=some ⟨xs.flatMap cI,1,w⟩){n:Nat}(hn:xs.length=n)(d:Nat):strip σ (d+1) (.rs b 0 n)=some (LI xs,[b]):=by
 rw[aS,h];simp only[zi,yQ,yX,yY,qR];rw[sS (by omega),zk (by rw[qR];omega),aY (fun x=>by rw[au,aQ,aZ];rfl)];show some (V.ts _ n,[b])=_;rw[<- hn]
theorem aiR(a b i:Nat)(hb:b≠0):a / 1000000000^i%b=(a / 1000000000^(i+1)%b*1000000000+a / 1000000000^i%1000000000)%b/\a / b / 1000000000^i%1000000000=(a / 1000000000^(i+1)%b*1000000000+a / 1000000000^i%1000000000) / b:=by
 obtain⟨A,J⟩:∃A,A=a / 1000000000^(i+1):=⟨_,rfl⟩;obtain⟨D,G⟩:∃D,D=a / 1000000000^i%1000000000:=⟨_,rfl⟩;have h:=oQ a i;rw[<- J,<- G]at h⊢;have Y:D<1000000000:=by rw[G];exact vX _ (by decide)
 have O:a / b / 1000000000^i=a / 1000000000^i / b:=by rw[xA,xA,wL]
 rw[O,<- h];have hA:A=b*(A / b)+A%b:=(Nat.div_add_mod A b).symm;obtain⟨q,eq⟩:∃q,q=A / b:=⟨_,rfl⟩;obtain⟨r,E⟩:∃r,r=A%b:=⟨_,rfl⟩;rw[<- eq,<- E]at hA;rw[<- E];have hr:r<b:=by rw[E];exact vX _ (by omega)
 have S:A*1000000000+D=r*1000000000+D+b*(q*1000000000):=by
  rw[hA,vO,vG];omega
 rw[S];constructor
 .rw[Nat.add_mul_mod_self_left]
 .rw[Nat.add_mul_div_left _ _ (by omega:0<b),Nat.add_mul_mod_self_right]
  refine wJ ?_;rw[uQ (by omega)];have:(r+1)*1000000000<=b*1000000000:=zC _ (by omega);omega
theorem X6(a b:Nat)(h0:b≠0)(la:ln a<=1000)(lb:ln b<=1000):fn ZH conv ext 234 [LI (dg a),LI (dg b)]=some (.AP [LI (dg (a / b)),LI (dg (a%b))]):=by
 have hb:=jZ h0
 by_cases a5:b<1000000000
 .have h1:=ak5 a b (by show ln a<=_;omega) h0 a5
  have hr:a%b<b:=vX _ (by omega);have h2:=Nw (a%b) (by omega);have z1:(0:Int)<1:=by decide
  have z3:(0:Int).toNat=0:=id rfl;have hd:dg b=[(b:Int)]:=by rw[oS h0,vF a5,oO,wJ a5]
  rw[hd];rw[mM,nG [.tmp 4,.tmp 5] [] func234];simp only[go_sem,z1,z3,h1,h2]
 have b7:2<=ln b:=by
  refine zf fun hn=>?_
  have:=(jg (n:=b) (k:=1)).mp (by omega);have e:bp 1=1000000000:=rfl;omega
 have b8:((dg b).length:Int)≠1:=by unfold ln at b7;omega
 have c0:(((dg b).length:Int)==1)=false:=by simpa using b8
 obtain⟨N,eN⟩:∃N,N=ln a:=⟨_,rfl⟩;have hN:(dg a).length=N:=by rw[eN];rfl
 have e1:=jD N;have e2:8*(N:Int)<=281474976710656:=by omega
 have e3:(N:Int)<=9223372036854775807:=by omega
 have w1:=ZQ (n:=(N:Int) - 1);have rz:=azw N;rw[<- aiQ (a / b) N]at rz;rw[mM,nG [.tmp 4,.tmp 5] [] func234];simp only[go_sem,c0,hN,e1,e2,e3,w1,rz,yD];generalize hL:dI _ _=y;obtain⟨x,rfl,T,σ,nx,rfl,Y,t9,hs⟩:=jV hL (fun i st=>i<=N/\st.T 0=LI (dg a)/\st.T 1=LI (dg b)/\st.T 8= .rs 0 0 N/\st.T 10=I ((i:Int) - 1)/\0<st.nx/\(st.T 9=LI (dg (a / 1000000000^i%b))\/(st.T 9= .nil/\a / 1000000000^i%b=0))/\st.σ 0=some ⟨(Eb (a / b) N i).flatMap cI,1,true⟩)
  (fun x=>∃T σ nx,x=(.exit 0,⟨T,σ,nx⟩)/\T 8= .rs 0 0 N/\(T 9=LI (dg (a%b))\/(T 9= .nil/\a%b=0))/\σ 0=some ⟨(Eb (a / b) N 0).flatMap cI,1,true⟩) (by
   clear hL;rintro i ⟨T,σ,nx⟩ ⟨hi,t0,t1,Y,O,b9,t9,hs⟩;simp only at t0 t1 Y O b9 t9 hs;cases i with
   |zero=>
    have g1:¬(0:Int)<=((0:Nat):Int) - 1:=by omega
    refine .inr ⟨_,by simp only[go_sem,O,g1];rfl,by simp,_,_,_,rfl,by simp only[go_sem,Y],?_,hs⟩;have e:a / 1000000000^0%b=a%b:=by rw[Nat.pow_zero,x9]
    rw[e]at t9
    simpa only[go_sem]using t9
   |succ i=>
    have e4:((i+1:Nat):Int) - 1=(i:Int):=by omega
    rw[e4]at O;have g1:=jD i;have g2:(i:Int)<(N:Int):=by omega
    have g3:i<N:=by omega
    have b3:i<(dg a).length:=by omega
    have g4:((dg a).flatMap cI)[i]?=some (I ((a / 1000000000^i%1000000000:Nat):Int)):=by
     rw[idx (xs:=dg a) (k:=i) b3,oZ b3]
    have g5:(dg a).flatMap cI≠[]:=fun e=>by have h:=qR (dg a);rw[e]at h;have h:0=(dg a).length:=h;omega
    have g6:=ZQ (n:=(i:Int) - 1);obtain⟨G,J⟩:=aiR a b i h0;obtain⟨r,er⟩:∃r,r=a / 1000000000^(i+1)%b:=⟨_,rfl⟩;obtain⟨D,eD⟩:∃D,D=a / 1000000000^i%1000000000:=⟨_,rfl⟩;rw[<- er,<- eD]at G J;rw[<- er]at t9;rw[<- eD]at g4;have hD:D<1000000000:=by rw[eD];exact vX _ (by decide)
    have c5:r<b:=by rw[er];exact vX _ (by omega)
    obtain⟨R,eR⟩:∃R,R=r*1000000000+D:=⟨_,rfl⟩;rw[<- eR]at G J;have a6:ln r<=1000:=zL (jf (by omega)) lb;have c6:ln R<=1001:=by
     rw[jg];have h1:=(jg (n:=r) (k:=1000)).mp a6;have h2:bp 1001=1000000000*bp 1000:=qZ 1000;omega
    have hR:R<b*1000000000:=by
     have:(r+1)*1000000000<=b*1000000000:=zC _ (by omega);omega
    have k3:=WU R b (by show ln R<=_;omega) (by show ln b<=_;omega);have S:=amx R b;have tr:Bf ((D:Int) :: dg r)=dg R:=CV (Dg.app (xs:=[(D:Int)]) (fun x hx=>by rw[xC]at hx;omega) (oh r)) (by
     show(D:Int)+1000000000*vl (dg r)=(R:Int);rw[Zc];omega)
    have sh:Short ((D:Int) :: dg r):=by unfold Short;rw[zJ];unfold ln at a6;omega
    have k2:=bD ((D:Int) :: dg r) sh;rw[tr]at k2;have sg:b<=R->fn ZH conv ext 247 [LI (dg R),LI (dg b)]=some (I ((R / b:Nat):Int))/\fn ZH conv ext 209 [I ((R / b:Nat):Int)]=some (LI (dg (R / b)))/\fn ZH conv ext 185 [LI (dg b),LI (dg (R / b))]=some (LI (dg (b*(R / b))))/\fn ZH conv ext 233 [LI (dg R),LI (dg (b*(R / b)))]=some (LI (dg (R-b*(R / b)))):=fun hle=>by
     have hq:R / b<1000000000:=by rw[uQ (by omega),wL];exact hR
     have lq:=jY hq;exact⟨amy R b (by omega) hle hR (by omega),Nw _ (by omega),dN b _ (by omega) (by omega),WV R _ (by omega) (by rw[wL];exact tZ _ _)⟩
    have a4:R-b*(R / b)=R%b:=by have:=Nat.div_add_mod R b;omega
    have nz:¬0=nx:=by omega
    have b4:¬0=nx+1:=by omega
    by_cases a0:T 9= .nil\/r=0
    ·-- nothing stands behind the limb
     have a7:r=0:=by
      rcases a0 with h|h
      .rcases t9 with h'|⟨_,h'⟩
       .rw[h]at h';cases h'
       .exact h'
      .exact h
     have d0:dg r=[]:=by rw[a7,oO]
     rw[d0]at k2;have b5:fn ZH conv ext 213 [.ts [I (D:Int)] 1]=some (LI (dg R)):=k2
     have h9:T 9= .nil\/T 9= .ts [] 0:=by
      rcases t9 with h|h
      .right;rw[h,d0];rfl
      .exact .inl h.1
     have ha:Ad (upd σ nx (some ⟨[I (D:Int)],1,true⟩)) (nx+1) 1 8 (.rs nx 0 1) [] 0=some (.rs nx 0 1,upd σ nx (some ⟨[I (D:Int)],1,true⟩),nx+1):=by
      have e:(upd σ nx (some ⟨[I (D:Int)],1,true⟩)) nx=some ⟨[I (D:Int)],1,true⟩:=Zi _ _ _;unfold Ad;simp only[e,if_true]
     have bh:behind (upd σ nx (some ⟨[I (D:Int)],1,true⟩)) [nx] (LI (dg R)) 0=some ⟨(Eb (a / b) N (i+1)).flatMap cI,1,true⟩:=by
      rw[qm (by simp;omega),Zj _ _ nz];exact hs
     obtain⟨b6,e3⟩:∃b6,b6=behind (upd σ nx (some ⟨[I (D:Int)],1,true⟩)) [nx] (LI (dg R)):=⟨_,rfl⟩;rw[<- e3]at bh
     by_cases E:R<b
     .have c1:A_ R b<0:=S.mpr E
      have a8:R%b=R:=wJ E;have a9:R / b=0:=vF E;rw[a8]at G;rw[a9]at J;rcases h9 with h9|h9
      all_goals
       refine .inl ⟨_,by simp only[go_sem,t0,t1,Y,O,h9,g1,g2,g3,g4,g5,g6,hN,ha,b5,<- e3,k3,c1,nz,b4,iq];rfl,i,by omega,?_⟩;simp only[go_sem,t0,t1,Y];refine⟨by omega,by omega,.inl (by rw[G]),?_⟩;rw[<- Rl (by omega) J];exact bh
     .have c1:¬A_ R b<0:=fun h=>E (S.mp h)
      obtain⟨k4,k5,k6,k7⟩:=sg (by omega);rw[a4,<- G]at k7;have w8:((Eb (a / b) N (i+1)).flatMap cI).length=N:=by rw[qR,OE]
      have a1:((Eb (a / b) N (i+1)).flatMap cI).set i (I ((R / b:Nat):Int))=(Eb (a / b) N i).flatMap cI:=by
       rw[aun,<- J,OG (by omega)]
      rcases h9 with h9|h9
      all_goals
       refine .inl ⟨_,by simp only[go_sem,t0,t1,Y,O,h9,g1,g2,g3,g4,g5,g6,hN,ha,b5,<- e3,k3,c1,k4,k5,k6,k7,bh,w8,a1,nz,b4,iq];rfl,i,by omega,?_⟩;simp only[go_sem,t0,t1,Y];exact⟨by omega,by omega,.inl trivial⟩
    .have h9:T 9=LI (dg r):=by
      rcases t9 with h|⟨h,_⟩
      .exact h
      .exact absurd (.inl h) a0
     have a7:¬r=0:=fun h=>a0 (.inr h)
     have c2:¬(dg r).length=0:=fun h=>by
      have:=jZ a7;unfold ln at this;omega
     have c4:(dg r).length<=1000:=a6;have ha:=rH (σ:=upd σ nx (some ⟨[I (D:Int)],1,true⟩)) (nx:=nx+1) (bytes:=8) (b:=nx) (len:=1) (m:=(dg r).length) (B:=⟨[I (D:Int)],1,true⟩) (row:=(dg r).flatMap cI) (Zi _ _ _) rfl rfl c2 (by unfold maxLen;omega) (by omega) (qU _);obtain⟨a2,e1⟩:∃a2,a2=upd (upd (upd σ nx (some ⟨[I (D:Int)],1,true⟩)) nx none) (nx+1) (some ⟨[I (D:Int)]++(dg r).flatMap cI,1,true⟩):=⟨_,rfl⟩;rw[<- e1]at ha;have b1:a2 (nx+1)=some ⟨((D:Int) :: dg r).flatMap cI,1,true⟩:=by rw[e1,Zi];rfl
     have b0:a2 0=some ⟨(Eb (a / b) N (i+1)).flatMap cI,1,true⟩:=by rw[e1,Zk,Zk,Zk];exact hs
     have s1:=fun d=>abz b1 (n:=1+(dg r).length) (by rw[zJ];omega) d
     have tk:((dg r).flatMap cI).take (dg r).length=(dg r).flatMap cI:=zk (by rw[qR];omega);have a3:(dg r).length<=((dg r).flatMap cI).length:=by rw[qR];omega
     obtain⟨σ2,e2⟩:∃σ2,σ2=behind a2 [nx+1] (LI (dg R)):=⟨_,rfl⟩;have b2:σ2 0=some ⟨(Eb (a / b) N (i+1)).flatMap cI,1,true⟩:=by
      rw[e2,qm (by simp)];exact b0
     by_cases E:R<b
     .have c1:A_ R b<0:=S.mpr E
      have a8:R%b=R:=wJ E;have a9:R / b=0:=vF E;rw[a8]at G;rw[a9]at J;refine .inl ⟨_,by simp only[go_sem,t0,t1,Y,O,h9,g1,g2,g3,g4,g5,g6,hN,tk,a3,ha,s1,k2,<- e2,k3,c1];rfl,i,by omega,?_⟩;simp only[go_sem,t0,t1,Y];refine⟨by omega,by omega,.inl (by rw[G]),?_⟩;rw[<- Rl (by omega) J];exact b2
     .have c1:¬A_ R b<0:=fun h=>E (S.mp h)
      obtain⟨k4,k5,k6,k7⟩:=sg (by omega);rw[a4,<- G]at k7;have w8:((Eb (a / b) N (i+1)).flatMap cI).length=N:=by rw[qR,OE]
      have a1:((Eb (a / b) N (i+1)).flatMap cI).set i (I ((R / b:Nat):Int))=(Eb (a / b) N i).flatMap cI:=by
       rw[aun,<- J,OG (by omega)]
      refine .inl ⟨_,by simp only[go_sem,t0,t1,Y,O,h9,g1,g2,g3,g4,g5,g6,hN,tk,a3,ha,s1,k2,<- e2,k3,c1,k4,k5,k6,k7,b2,w8,a1];rfl,i,by omega,?_⟩;simp only[go_sem,t0,t1,Y];exact⟨by omega,by omega,.inl trivial⟩) N (by
   simp only[go_sem];refine .inr ?_;have:a<1000000000^N:=by
    have:=(jg (n:=a) (k:=N)).mp (by omega);rw[qh]at this;omega
   rw[vF this,Nat.zero_mod])
 have s8:=fun d=>abz hs (n:=N) (OE _ _ _) d
 rw[aft]at s8;have k9:=bD (pad (a / b) N) (by unfold Short;rw[iK];omega);have c3:a / b<1000000000^N:=by
  have:=(jg (n:=a) (k:=N)).mp (by omega);rw[qh]at this;have:=xJ a b;omega
 rw[Ir N (a / b) c3]at k9;rcases t9 with t9|⟨t9,h9⟩
 .simp only[go_sem,Y,t9,s8,k9]
 .rw[h9,oO]
  simp only[go_sem,Y,t9,s8,k9];rfl
theorem ac4{σ:Store}{ids:List Nat}{t:V}{b:Nat}{c:List V}{st:Nat}{wr:Bool}(h:σ b=some ⟨c,st,wr⟩):∃E,behind σ ids t b=some ⟨c,st,E⟩:=by
 have J:∀(ids:List Nat) {σ:Store} {wr:Bool},σ b=some ⟨c,st,wr⟩->∃E,Dc σ ids b=some ⟨c,st,E⟩:=by
  intro ids
  induction ids with
  |nil=>intro σ wr h;exact⟨wr,h⟩
  |cons i ids G=>
   intro σ wr h;unfold Dc
   by_cases e:b=i
   .subst e
    exact G (σ:=upd σ b ((σ b).map fun B=>{ B with wr:=false })) (wr:=false) (by rw[Zi,h];rfl)
   .exact G (wr:=wr) (by rw[Zj _ _ e];exact h)
 unfold behind
 split
 .exact⟨wr,h⟩
 .exact J ids h
def Rd(σ:Store)(v:V)(xs:List Int):Prop:=v=LI xs\/(v= .nil/\xs=[])\/∃b w,v= .rs b 0 xs.length/\σ b=some ⟨xs.flatMap cI,1,w⟩
theorem Rd.strip{σ:Store}{v:V}{xs:List Int}(h:Rd σ v xs):∃ids,∀d,TV.strip σ (d+1) v=some (LI xs,ids):=by
 rcases h with rfl|⟨rfl,rfl⟩|⟨b,w,rfl,h⟩
 .exact⟨[],fun d=>aN _ _ _ _⟩
 .exact⟨[],fun d=>aT _ _⟩
 .exact⟨[b],fun d=>abz h rfl d⟩
theorem Rd.len{P:Program}{σ:Store}{v:V}{xs:List Int}(h:Rd σ v xs){t:TypeId}(E:(yI P t).slice=true):DR P t v=some (I xs.length):=by
 rcases h with rfl|⟨rfl,rfl⟩|⟨b,w,rfl,h⟩
 .exact VJ E
 .exact ng E
 .exact nZ E
theorem Rd.behind{σ:Store}{v:V}{xs:List Int}(h:Rd σ v xs)(ids:List Nat)(t:V):Rd (TV.behind σ ids t) v xs:=by
 rcases h with h|h|⟨b,w,E,G⟩
 .exact .inl h
 .exact .inr (.inl h)
 .obtain⟨w',J⟩:=ac4 (ids:=ids) (t:=t) G
  exact .inr (.inr ⟨b,w',E,J⟩)
theorem aiS(m n:Nat)(lm:ln m<=1000)(l2:ln n<=1000):fn ZH conv ext 206 [LI (dg m),LI (dg n)]=some (LI (dg (Nat.gcd m n))):=by
 obtain⟨G,eG⟩:∃G,G=Nat.gcd m n:=⟨_,rfl⟩;rw[<- eG];have hm:(dg m).length<=maxLen/\(dg m).length*8<=140737488355328:=by unfold ln at lm;unfold maxLen;omega
 have hn:(dg n).length<=maxLen/\(dg n).length*8<=140737488355328:=by unfold ln at l2;unfold maxLen;omega
 have z:∀k:Nat,(dg k).length=0↔k=0:=fun k=>by
  constructor
  .intro h
   refine zf fun h0=>?_
   have:=jZ h0;unfold ln at this;omega
  .rintro rfl;rw[oO];rfl
 rw[mM,nG [.tmp 4] [] func206];rcases (show(m=0/\n=0)\/(m=0/\¬n=0)\/(¬m=0/\n=0)\/(¬m=0/\¬n=0) by omega)with ⟨E,J⟩|⟨E,J⟩|⟨E,J⟩|⟨E,J⟩
 case' inl=>
  have dm:dg m=[]:=by rw[E,oO]
  have dn:dg n=[]:=by rw[J,oO]
  rw[dm,dn];simp only[go_sem]
 case' inr.inl=>
  have dm:dg m=[]:=by rw[E,oO]
  have nn:¬(dg n).length=0:=fun h=>J ((z n).mp h)
  rw[dm];simp only[go_sem,nn,hn]
 case' inr.inr.inl=>
  have nm:¬(dg m).length=0:=fun h=>E ((z m).mp h)
  have dn:dg n=[]:=by rw[J,oO]
  rw[dn];simp only[go_sem,nm,hm]
 case' inr.inr.inr=>
  have nm:¬(dg m).length=0:=fun h=>E ((z m).mp h)
  have nn:¬(dg n).length=0:=fun h=>J ((z n).mp h)
  simp only[go_sem,nm,hm,nn,hn]
 all_goals
  generalize hL:dI _ _=y;obtain⟨r,rfl,hr⟩:=jV hL (fun k st=>∃x:Nat,Rd st.σ (st.T 5) (dg x)/\Rd st.σ (st.T 6) (dg k)/\Nat.gcd x k=G/\ln x<=1000/\ln k<=1000)
   (fun r=>∃T σ nx,(r=(.exit 0,⟨T,σ,nx⟩)/\Rd σ (T 5) (dg G))\/(r=(.ret,⟨T,σ,nx⟩)/\T 4=LI (dg G))) (by
    clear hL;rintro k ⟨T,σ,nx⟩ ⟨x,S,h6,hg,lx,lk⟩;simp only at S h6;have Y:=h6.len (P:=ZH) (t:=26) (by kernel_rfl);have l5:=S.len (P:=ZH) (t:=26) (by kernel_rfl)
    by_cases hk:k=0
    .subst hk
     rw[oO]at Y;have c1:¬(0:Int)<(([]:List Int).length:Int):=by simp
     refine .inr ⟨_,by simp only[go_sem,Y,c1];rfl,by simp,_,_,_,.inl ⟨rfl,?_⟩⟩;rw[Nat.gcd_zero_right]at hg;rw[<- hg]
     simpa only[go_sem]using S
    .have c1:(0:Int)<((dg k).length:Int):=by have:=jZ hk;unfold ln at this;omega
     obtain⟨i5,s5⟩:=S.strip;obtain⟨i6,s6⟩:=h6.strip
     by_cases O:ln x<3/\ln k<3
     .have c2:((dg x).length:Int)<3:=by have:=O.1;unfold ln at this;omega
      have c3:((dg k).length:Int)<3:=by have:=O.2;unfold ln at this;omega
      have b1:x<1000000000000000000:=by
       have:=(jg (n:=x) (k:=2)).mp (by omega);have e:bp 2=1000000000000000000:=rfl;omega
      have b2:k<1000000000000000000:=by
       have:=(jg (n:=k) (k:=2)).mp (by omega);have e:bp 2=1000000000000000000:=rfl;omega
      have t1:=Qz x b1;have t2:=Qz k b2;have t3:=aot x k (by omega) (by omega);rw[hg]at t3;refine .inr ⟨_,by simp only[go_sem,l5,Y,c1,c2,c3,s5,s6,t1,t2,t3];rfl,by simp,_,_,_,.inr ⟨rfl,by simp only[go_sem]⟩⟩
     .have t4:=X6 x k hk lx lk
      have a0:x%k<k:=vX _ (by omega)
      have fin:∀T' σ' nx',T' 5=T 6->T' 6=LI (dg (x%k))->σ'=behind σ (i5++i6) (.AP [LI (dg (x / k)),LI (dg (x%k))]) ->
        ∃k',k'<k/\∃x':Nat,Rd (⟨T',σ',nx'⟩:St).σ ((⟨T',σ',nx'⟩:St).T 5) (dg x')/\Rd (⟨T',σ',nx'⟩:St).σ ((⟨T',σ',nx'⟩:St).T 6) (dg k')/\Nat.gcd x' k'=G/\ln x'<=1000/\ln k'<=1000:=fun T' σ' nx' e5 e6 a1=>by
       refine⟨x%k,a0,k,?_,.inl e6,?_,lk,zL (jf (by omega)) lk⟩
       .show Rd σ' (T' 5) (dg k)
        rw[e5,a1];exact h6.behind _ _
       .rw[<- hg,Nat.gcd_comm x k,Nat.gcd_rec k x,Nat.gcd_comm]
      by_cases c2:((dg x).length:Int)<3
      .have c3:¬((dg k).length:Int)<3:=fun h=>O ⟨by unfold ln;omega,by unfold ln;omega⟩
       refine .inl ⟨_,by simp only[go_sem,l5,Y,c1,c2,c3,s5,s6,t4];rfl,fin _ _ _ (by simp only[go_sem]) (by simp only[go_sem]) (by simp only[go_sem])⟩
      .refine .inl ⟨_,by simp only[go_sem,l5,Y,c1,c2,s5,s6,t4];rfl,fin _ _ _ (by simp only[go_sem]) (by simp only[go_sem]) (by simp only[go_sem])⟩) n (by
    refine⟨m,?_,?_,eG.symm,lm,l2⟩
    all_goals simp only[go_sem]
    all_goals first
     |exact .inr (.inl ⟨rfl,by assumption⟩)
     |exact .inr (.inr ⟨_,true,rfl,rfl⟩)
     |(refine .inr (.inr ⟨_,true,rfl,?_⟩);rw[Zk,Zi])
     |exact .inr (.inl ⟨rfl,by rw[E,oO]⟩)
     |exact .inr (.inl ⟨rfl,by rw[J,oO]⟩))
  rcases hr with ⟨T,σ,nx,⟨rfl,S⟩|⟨rfl,t4⟩⟩
  .obtain⟨ids,s5⟩:=S.strip
   simp only[go_sem,s5]
  .simp only[go_sem,t4]
open Go.Lp
theorem abA(σ:Store)(b:Nat)(cells:List V)(st:Nat)(wr:Bool)(t:V):behind (upd σ b (some ⟨cells,st,wr⟩)) [b] t=upd σ b (some ⟨cells,st,wr && flat depth t⟩):=by
 unfold behind;cases E:flat depth t with
 |true=>simp
 |false=>
  simp only[List.isEmpty_cons,Bool.or_self,yL,if_false,xu];unfold Dc Dc;rw[Zi,Zh];rfl
attribute [go_sem] abA
def Vd:V:=.AP [.ts [] 0,Bo false]
def X7(s:Structure)(l:List Int)(r:V):Prop:=(¬(Ar s/\Az s.joints.length l)/\r=Vd)\/(Ar s/\Az s.joints.length l/\((r=Vd/\((Ji s l).None\/(Ji s l).Open)) \/
 ∃x:Nat->Rat,(Ji s l).Best x/\(∀j,j<DN s->Ln 24 (x j))/\r=Dj (Gi (cols s s.members.length) ((List.range (DN s)).map x) s.members.length (DN s))))
theorem IZ{s:Structure}(h:okStructure s){l:List Int}(hl:l.length<=maxLen):∃r,fn ZH qI Af 110 [.agg (cStructure s),LI l]=some r/\X7 s l r:=by
 have G:=acf s l h hl
 by_cases E:Ar s/\Az s.joints.length l
 .obtain⟨J,S⟩:=E
  rw[h_ J,h_ S]at G;have hb:∀x∈l,-100<=x/\x<=100:=fun x hx=>kK (S.2 x hx)
  have k2:=P9 J.sg S.1 hb;obtain⟨r0,Y,hr⟩:=amr J hb;unfold CZ at k2 Y;rw[mM,nG [.tmp 4,.tmp 5] [] func110];rcases hr with ⟨rfl,h3⟩|⟨x,h3,h4,rfl⟩
  .refine⟨_,by simp only[go_sem,G,k2,Y];rfl,.inr ⟨J,S,.inl ⟨rfl,h3⟩⟩⟩
  .obtain⟨O,eO⟩:∃O,O=Gi (cols s s.members.length) ((List.range (DN s)).map x) s.members.length (DN s):=⟨_,rfl⟩
   have a0:∀o∈O,LnO 24 o:=by
    rw[eO];exact UF (fun y hy=>by
     obtain⟨j,hj,rfl⟩:=List.mem_map.mp hy;exact h4 j (List.mem_range.mp hj)) _
   have a1:O.length<=1000:=by rw[eO,lg];have:=J.2.1;omega
   have k4:=amv O a0 a1;rw[<- eO]at Y;refine⟨Dj O,?_,.inr ⟨J,S,.inr ⟨x,h3,h4,by rw[eO]⟩⟩⟩;unfold Dj at k4⊢;cases hq:BU O with
   |none=>rw[hq]at k4;simp only[go_sem,G,k2,Y,k4]
   |some qs=>rw[hq]at k4;simp only[go_sem,G,k2,Y,k4]
 .have hf:(pb (Ar s) && pb (Az s.joints.length l))=false:=by
   by_cases a:Ar s
   .have:¬Az s.joints.length l:=fun b=>E ⟨a,b⟩
    rw[iC this,xu]
   .rw[iC a,wE]
  rw[hf]at G;rw[mM,nG [.tmp 4,.tmp 5] [] func110];refine⟨_,by simp only[go_sem,G];rfl,.inl ⟨E,rfl⟩⟩
theorem jE{n:Nat}(h:ln n<=60):CP (dg n) :=
 ⟨fun x E=>by have:=aaS n x E;unfold inB;rw[sO this.1,sO this.2];rfl,h,Zu n⟩
theorem apQ(q:Rat)(h:Ln 24 q):fn ZH qI Af 248 [.agg (cQ q)]=some (Bo true):=by
 have Y:(dg q.num.natAbs).length<=24:=h.1;have a0:(dg q.den).length<=24:=h.2;have E:=aeL (decide (q.num<0)) (dg q.num.natAbs) (by unfold Short;omega);have G:(decide (q.num<0) && decide (dg q.num.natAbs=[]))=false:=by
  by_cases hz:q.num<0
  .rw[sN (oV (n:=q.num.natAbs) (by omega)),xu]
  .rw[sN hz];rfl
 rw[h_ (jE (by have:=h.1;omega)),G]at E;have O:=ahk (dg q.den) (by unfold Short;omega);rw[h_ (jE (by have:=h.2;omega))]at O;have S:=Xw q.num.natAbs q.den (by have:=h.1;omega) (by have:=h.2;omega);rw[show Nat.gcd q.num.natAbs q.den=1 from q.reduced,oU (d:=1) (by decide) (by decide)]at S;have k4:fn ZH conv ext 221 [.ts [I 1] 1,.ts [I 1] 1]=some (I 0):=by
  have:=asY 1 (by decide);rw[oU (d:=1) (by decide) (by decide)]at this;exact this
 have J:fn ZH qI Af 220 [LI (dg q.num.natAbs),LI (dg q.den)]=some (.ts [I 1] 1):=S;have c0:(((dg q.den).length:Int)==0)=false:=by rw[sQ];have:=rF (oV q.den_nz);omega
 have c1:¬(24:Int)<((dg q.num.natAbs).length:Int):=by omega
 have c2:¬(24:Int)<((dg q.den).length:Int):=by omega
 unfold cQ;rw[mM,nG [.tmp 2] [] func248];simp only[go_sem]at E;simp only[go_sem,E,O,J,k4,c0,c1,c2]
theorem auo(q:Rat)(h:Ln 24 q):fn ZH qI Af 245 [.agg (cQ q)]=some (.tp (cQ q) 0):=by
 have E:=apQ q h;unfold cQ at E⊢;rw[mM,nG [.tmp 2] [] func245];simp only[go_sem,E]
theorem aiT(qs:List Rat){k:Nat}(h:k<qs.length):((qs.take k).flatMap cF++rep (qs.length-k) [V.sc (.pointer none)]).set k (.tp (cQ qs[k]) 0)=(qs.take (k+1)).flatMap cF++rep (qs.length - (k+1)) [V.sc (.pointer none)]:=by
 have E:((qs.take k).flatMap cF).length=k:=by rw[qV,zh];omega
 rw[yC _ _ (by omega),E,yP,show qs.length-k=qs.length - (k+1)+1 by omega,fK,aJ h,zU,z_];rfl
theorem aiU(qs:List Rat){k:Nat}(h:k<qs.length):((qs.take (k+1)).flatMap cF++rep (qs.length - (k+1)) [V.sc (.pointer none)])[k]?=some (.tp (cQ qs[k]) 0):=by
 have E:k<(qs.take (k+1)).length:=by rw[zh];omega
 rw[zV (by rw[qV];exact E),JW _ E,uh]
theorem X8(qs:List Rat){k:Nat}(h:k<=qs.length):((qs.take k).flatMap cF++rep (qs.length-k) [V.sc (.pointer none)]).length=qs.length:=by
 rw[zo,qV,fM,zh];simp;omega
theorem afu(a b c:V)(q:Rat):patch [a,b,c] 0 (cQ q)=cQ q:=rfl
attribute [go_sem] afu
theorem apR(qs:List Rat)(hL:∀q∈qs,Ln 24 q)(hn:qs.length<=1000):fn ZH qI Af 229 [LL cQ qs]=some (.AP [LL cF qs,Bo true]):=by
 have m1:(0:Int)<=(qs.length:Int):=by omega
 have m2:8*(qs.length:Int)<=281474976710656:=by omega
 have m3:(qs.length:Int)<=9223372036854775807:=by omega
 rw[mM,nG [.tmp 2,.tmp 3] [] func229];simp only[go_sem,m1,m2,m3];generalize a0:dI _ _=y;obtain⟨x,rfl,T,σ,nx,rfl,O,s0⟩:=pF a0 qs.length (fun k st=>st.T 4= .rs 0 0 qs.length/\st.T 10=LL cQ qs/\st.T 11=I qs.length/\st.T 12=I k/\0<st.nx/\st.σ 0=some ⟨(qs.take k).flatMap cF++rep (qs.length-k) [V.sc (.pointer none)],1,true⟩)
  (fun x=>∃T σ nx,x=(.exit 0,⟨T,σ,nx⟩)/\T 4= .rs 0 0 qs.length/\σ 0=some ⟨qs.flatMap cF,1,true⟩) (by
   clear a0;rintro k ⟨T,σ,nx⟩ S ⟨O,G,E,J,Y,s0⟩;simp only at O G E J Y s0;have g1:(k:Int)<(qs.length:Int):=by omega
   have g2:=jD k;have g3:=ZQ (n:=(k:Int)+1);have g4:=d_ (c:=cQ) (s:=3) (fun _=>rfl) qs k S;have g5:=bg (c:=cQ) (s:=3) (fun _=>rfl) (by omega) qs k S;have g6:=ac3 qs;have g7:k*3+3<=qs.length*3:=by omega
   have kl:=auo qs[k] (hL _ (zu S));have p1:=aiT qs S;have p2:=aiU qs S;have p3:=X8 qs (k:=k) (by omega);have p4:=X8 qs (k:=k+1) (by omega);have d1:¬0=nx:=by omega
   have d2:¬nx=0:=by omega
   have d3:k+1<=qs.length:=S;obtain⟨q,eq⟩:∃q,q=qs[k]:=⟨_,rfl⟩;rw[<- eq]at g4 kl p1 p2;have st1:∀σ d,stripL (strip σ d) (cQ q)=some (cQ q,[]):=fun σ d=>qM σ d q
   refine .inl ⟨_,by simp only[go_sem,O,G,E,J,s0,g1,g2,g3,g4,g5,g6,g7,S,kl,p1,p2,p3,p4,d1,d2,d3,st1];rfl,?_⟩;simp only[go_sem,O,G,E,d1,d2];exact⟨rfl,by omega⟩) (by
   rintro ⟨T,σ,nx⟩ ⟨O,G,E,J,Y,s0⟩;simp only at O G E J Y s0;have g1:¬(qs.length:Int)<(qs.length:Int):=by omega
   refine⟨_,by simp only[go_sem,E,J,g1];rfl,by simp,_,_,_,rfl,?_⟩;simp only[go_sem,O];have e:rep 0 [V.sc (.pointer none)]=[]:=rfl;rw[yg,yP,e,zK]at s0;exact s0) (by
   simp only[go_sem])
 have u1:qs.length<=(qs.flatMap cF).length:=by rw[qV];exact zq _
 have u2:(qs.flatMap cF).take qs.length=qs.flatMap cF:=zk (by rw[qV];exact zq _);have u3:=IX σ 4 qs;simp only[go_sem,O,s0,u1,u2,u3]
theorem abB{s:Structure}(h:Ar s)(G:okStructure s){qs:List Rat}(J:qs.length=s.members.length)(O:∀q∈qs,Ln 24 q):fn ZH qI Af 195 [.tp (cStructure s) 0,LL cQ qs]=some (.AP [LL cF qs,Bo true]):=by
 have S:=h.2.1;have E:=Iq s G;rw[h_ h]at E;have Y:=apR qs O (by omega);have c0:((qs.length:Int) !=(s.members.length:Int))=false:=by rw[J];simp
 rw[mM,nG [.tmp 4,.tmp 5] [] func195];simp only[go_sem,E,Y,c0]
def sqQ(s:Structure)(q:Rat)(k:Nat):Option Rat:=Hw (Hw (some q) (some q)) (some ((vx s k*vx s k+vy s k*vy s k:Int):Rat))
theorem MC{a b:Option Rat}:LnO 24 (Hw a b):=fun y h=>by
 cases a with
 |none=>cases h
 |some x=>cases b with
  |none=>cases h
  |some z=>exact ac1 h
theorem UG{s:Structure}(h:SG s){qs:List Rat}(hl:qs.length=s.members.length)(hL:∀q∈qs,Ln 24 q){k:Nat}(G:k<qs.length) :
  fn ZH qI Af 196 [.tp (cStructure s) 0,LL cF qs,I k]=some (pQ (sqQ s qs[k] k)):=by
 have k1:=acX h (k:=k) (by omega);have hb:=Zd h k;have a2:=h.nm;have g1:(k:Int)<(qs.length:Int):=by omega
 have g2:=jD k;have g4:=JW qs G;have J:(qs.flatMap cF).length=qs.length:=qV qs;have O:qs.flatMap cF≠[]:=fun e=>by rw[e]at J;have:qs.length=0:=J.symm;omega
 have S:=hL _ (zu G);obtain⟨q,eq⟩:∃q,q=qs[k]:=⟨_,rfl⟩;rw[<- eq]at g4 S⊢;have x2:0<=vx s k*vx s k/\vx s k*vx s k<=10000:=by
  have h1:vx s k*vx s k=((vx s k).natAbs*(vx s k).natAbs:Nat):=by rw[vw]
  have h2:(vx s k).natAbs*(vx s k).natAbs<=100*100:=yE (by omega) (by omega);omega
 have y2:0<=vy s k*vy s k/\vy s k*vy s k<=10000:=by
  have h1:vy s k*vy s k=((vy s k).natAbs*(vy s k).natAbs:Nat):=by rw[vw]
  have h2:(vy s k).natAbs*(vy s k).natAbs<=100*100:=yE (by omega) (by omega);omega
 have w1:=ZQ (n:=vx s k*vx s k);have w2:=ZQ (n:=vy s k*vy s k);have w3:=ZQ (n:=vx s k*vx s k+vy s k*vy s k);have k2:=kE (vx s k*vx s k+vy s k*vy s k) (by omega) (by omega);have k3:fn ZH qI Af 230 [.tp (cQ q) 0,.tp (cQ q) 0]=some (pQ (Hw (some q) (some q))):=aug (a:=some q) (b:=some q) (fun z E=>by cases E;exact S.mono (by decide)) (fun z E=>by cases E;exact S.mono (by decide));have Y:fn ZH qI Af 230 [pQ (Hw (some q) (some q)),.tp (cQ ((vx s k*vx s k+vy s k*vy s k:Int):Rat)) 0]=some (pQ (sqQ s q k)) :=
  aug (b:=some ((vx s k*vx s k+vy s k*vy s k:Int):Rat)) (fun z E=>(MC z E).mono (by decide)) (fun z E=>by cases E;exact(sJ (by omega)).mono (by decide))
 have st1:∀σ d,strip σ d (pQ (Hw (some q) (some q)))=some (pQ (Hw (some q) (some q)),[]):=fun σ d=>by
  cases Hw (some q) (some q)with
  |none=>unfold pQ;rw[aQ]
  |some z=>unfold pQ;rw[aO]
 have e1:(((vx s k*vx s k+vy s k*vy s k:Int):Rat))=((vx s k*vx s k+vy s k*vy s k:Int):Rat):=rfl;obtain⟨m1,a0⟩:∃m1,m1=pQ (Hw (some q) (some q)):=⟨_,rfl⟩;rw[<- a0]at k3 Y st1;obtain⟨m2,a1⟩:∃m2,m2=cQ ((vx s k*vx s k+vy s k*vy s k:Int):Rat):=⟨_,rfl⟩;rw[<- a1]at k2 Y;rw[mM,nG [.tmp 6] [] func196];simp only[go_sem,k1,g1,g2,g4,J,O,G,w1,w2,w3,k2,k3,Y,st1];exact OD _ _
def G9(s:Structure)(qs:List Rat):List (Option Rat):=(List.range qs.length).map fun k=>sqQ s (qs.getD k 0) k
theorem bJ(s:Structure)(qs:List Rat):(G9 s qs).length=qs.length:=by simp[G9]
theorem ac5(s:Structure)(qs:List Rat){k:Nat}(h:k<qs.length):(G9 s qs)[k]'(by rw[bJ];exact h)=sqQ s qs[k] k:=by
 simp[G9,zx,zy h]
def I4(O:List (Option Rat)):V:=match BU O with
 |some xs=> .AP [LL cF xs,Bo true]
 |none=> .AP [.ts [] 0,Bo false]
def I5(xs:List Rat)(n:Nat):List V:=xs.flatMap cF++rep (n-xs.length) [V.sc (.pointer none)]
theorem X9(xs:List Rat){n:Nat}(h:xs.length<=n):(I5 xs n).length=n:=by
 unfold I5;rw[zo,qV,fM];simp;omega
theorem aiW(xs:List Rat){n:Nat}(h:xs.length<n)(q:Rat):(I5 xs n).set xs.length (.tp (cQ q) 0)=I5 (xs++[q]) n:=by
 unfold I5;rw[yC _ _ (by rw[qV];exact zq _),qV,yP,zo,yM,show n-xs.length=n - (xs.length+1)+1 by omega,fK,zU,z_];rfl
theorem aiX(xs:List Rat){n:Nat}(q:Rat):(I5 (xs++[q]) n)[xs.length]?=some (.tp (cQ q) 0):=by
 unfold I5;rw[zV (by rw[qV];simp),JW _ (by simp)];simp
theorem Qa{s:Structure}(h:Ar s)(ho:okStructure s){qs:List Rat}(hl:qs.length=s.members.length)(hL:∀q∈qs,Ln 24 q) :
  fn ZH qI Af 167 [.tp (cStructure s) 0,LL cQ qs]=some (I4 (G9 s qs)):=by
 have a3:=h.2.1;have k1:=abB h ho hl hL;have m1:(0:Int)<=(qs.length:Int):=by omega
 have m2:8*(qs.length:Int)<=281474976710656:=by omega
 have m3:(qs.length:Int)<=9223372036854775807:=by omega
 rw[mM,nG [.tmp 4,.tmp 5] [] func167];simp only[go_sem,k1,m1,m2,m3];generalize a1:dI _ _=y;obtain⟨x,rfl,hx⟩:=pF a1 qs.length (fun k st=>st.T 0= .tp (cStructure s) 0/\st.T 6=LL cF qs/\st.T 8= .rs 0 0 qs.length/\st.T 22=I qs.length/\st.T 23=I k/\0<st.nx/\∃xs,BU ((G9 s qs).take k)=some xs/\st.σ 0=some ⟨I5 xs qs.length,1,true⟩)
  (fun x=>∃T σ nx,(x=(.exit 0,⟨T,σ,nx⟩)/\T 8= .rs 0 0 qs.length/\∃xs,BU (G9 s qs)=some xs/\σ 0=some ⟨I5 xs qs.length,1,true⟩)\/(x=(.ret,⟨T,σ,nx⟩)/\T 4= .nil/\T 5=Bo false/\BU (G9 s qs)=none)) (by
   clear a1;rintro k ⟨T,σ,nx⟩ hk ⟨t0,t6,O,G,J,S,xs,E,s0⟩;simp only at t0 t6 O G J S s0;have g1:(k:Int)<(qs.length:Int):=by omega
   have g2:=jD k;have g3:=ZQ (n:=(k:Int)+1);have a2:k<(G9 s qs).length:=by rw[bJ];exact hk
   have Y:xs.length=k:=by rw[dJ E,zh];omega
   have a0:(G9 s qs).take (k+1)=(G9 s qs).take k++[sqQ s qs[k] k]:=by rw[aJ a2,ac5 s qs hk]
   have k2:=UG h.sg hl hL hk;have p1:=X9 xs (n:=qs.length) (by omega);have g5:k+1<=qs.length:=hk;cases hv:sqQ s qs[k] k with
   |none=>
    rw[hv]at k2 a0;have k2:fn ZH qI Af 196 [.tp (cStructure s) 0,LL cF qs,I k]=some (.sc (.pointer none)):=k2;have p3:((I5 xs qs.length).set k (V.sc (.pointer none)))[k]?=some (V.sc (.pointer none)):=by
     rw[tJ (by omega)]
    have p4:((I5 xs qs.length).set k (V.sc (.pointer none))).length=qs.length:=by rw[yJ];exact p1
    refine .inr ⟨_,by simp only[go_sem,t0,t6,O,G,J,s0,g1,g2,g5,hk,k2,p1,p3,p4];rfl,by simp,_,_,_,.inr ⟨rfl,?_⟩⟩;simp only[go_sem];have:G9 s qs=(G9 s qs).take (k+1)++(G9 s qs).drop (k+1):=(wM _ _).symm;rw[this,a0];refine dH ?_;rw[dG,E];rfl
   |some z=>
    rw[hv]at k2 a0;have k2:fn ZH qI Af 196 [.tp (cStructure s) 0,LL cF qs,I k]=some (.tp (cQ z) 0):=k2;have p2:=aiW xs (n:=qs.length) (by omega) z;have p3:=aiX xs (n:=qs.length) z;have p4:=X9 (xs++[z]) (n:=qs.length) (by simp;omega);rw[Y]at p2 p3;refine .inl ⟨_,by simp only[go_sem,t0,t6,O,G,J,s0,g1,g2,g3,g5,hk,k2,p1,p2,p3,p4];rfl,?_⟩;simp only[go_sem,t0,t6,O,G];refine⟨rfl,S,xs++[z],?_,rfl⟩;rw[a0,dG,E];rfl) (by
   rintro ⟨T,σ,nx⟩ ⟨t0,t6,O,G,J,S,xs,E,s0⟩;simp only at t0 t6 O G J S s0;have g1:¬(qs.length:Int)<(qs.length:Int):=by omega
   refine⟨_,by simp only[go_sem,G,J,g1];rfl,by simp,_,_,_,.inl ⟨rfl,?_⟩⟩;simp only[go_sem,O];rw[<- bJ s qs,yg]at E;exact⟨xs,E,s0⟩) (by
   simp only[go_sem];refine⟨[],rfl,?_⟩;unfold I5;rfl)
 rcases hx with ⟨T,σ,nx,⟨rfl,O,xs,E,s0⟩|⟨rfl,t4,t5,E⟩⟩
 .have Y:xs.length=qs.length:=by rw[dJ E,bJ]
  have e1:I5 xs qs.length=xs.flatMap cF:=by unfold I5;rw[Y,yP];exact zK _
  rw[e1]at s0;have u1:qs.length<=(xs.flatMap cF).length:=by rw[qV];omega
  have u2:(xs.flatMap cF).take qs.length=xs.flatMap cF:=zk (by rw[qV];omega);have u3:=IX σ 4 xs;unfold I4;rw[E];simp only[go_sem,O,s0,u1,u2,u3];show some (V.AP [V.ts _ qs.length,_])=some (V.AP [V.ts _ xs.length,_]);rw[Y]
 .unfold I4
  rw[E];simp only[go_sem,t4,t5]
theorem aup(x y:Rat)(E:Ln 100 x)(G:Ln 100 y):fn ZH conv ext 168 [.tp (cQ x) 0,.tp (cQ y) 0]=some (I (Ak (x.num*y.den) (y.num*x.den))):=by
 have Y:=jc E G;have n2:=jc G E;have J:=Iu x y.den (by have:=E.1;omega) (by have:=G.2;omega);have O:=Iu y x.den (by have:=G.1;omega) (by have:=E.2;omega);have S:=QF (x.num*y.den) (y.num*x.den) (by omega) (by omega);unfold cQ at *;unfold cZ at *;rw[mM,nG [.tmp 4] [] func168];simp only[go_sem,J,O,S]
def X_(x:Rat)(w:Int):Bool:=decide (0<Ak (x.num*((w*w:Int):Rat).den) (((w*w:Int):Rat).num*x.den))
theorem OH:∀ {l:List (Option Rat)} {xs:List Rat},BU l=some xs->∀x∈xs,some x∈l
 |[],xs,h,x,E=>by cases h;cases E
 |none :: l,_,h,_,_=>by cases h
 |some q :: l,xs,h,x,E=>by
  cases e:BU l with
  |none=>rw[show BU (some q :: l)=(BU l).map (q :: ·)from rfl,e]at h;cases h
  |some rs=>
   rw[show BU (some q :: l)=(BU l).map (q :: ·)from rfl,e]at h;cases h;rcases List.mem_cons.mp E with rfl|E
   .exact zM
   .exact zY _ (OH e x E)
theorem aiY{s:Structure}{qs xs:List Rat}(h:BU (G9 s qs)=some xs):∀x∈xs,Ln 24 x:=fun x E=>by
 have:=OH h x E;unfold G9 at this;obtain⟨k,-,e⟩:=List.mem_map.mp this;exact MC x e
def D_(xs:List Rat)(w:List Int)(k:Nat):Bool:=X_ (xs.getD k 0) (w.getD k 0)
def overR(O:List (Option Rat))(w:List Int):V:=match BU O with
 |some xs=> .AP [LI (DT (D_ xs w) xs.length),Bo true]
 |none=> .AP [.ts [] 0,Bo false]
theorem Ya{s:Structure}(h:Ar s)(ho:okStructure s){qs:List Rat}(hl:qs.length=s.members.length)(hL:∀q∈qs,Ln 24 q){w:List Int}(hw:BA s.members.length w) :
  fn ZH qI Af 136 [.tp (cStructure s) 0,LL cQ qs,LI w]=some (overR (G9 s qs) w):=by
 have a7:=h.2.1;have k1:=Qa h ho hl hL;have k2:=KF (cStructure s) 0 s.members w rfl (by rw[hw.1];unfold maxLen;omega);rw[h_ hw]at k2;unfold I4 at k1;unfold overR;rw[mM,nG [.tmp 6,.tmp 7] [] func136];cases hq:BU (G9 s qs)with
 |none=>
  rw[hq]at k1;simp only[go_sem,k1]
 |some xs=>
  rw[hq]at k1;simp only[go_sem,k1,k2];have a8:xs.length=s.members.length:=by rw[dJ hq,bJ,hl]
  generalize a0:dI _ _=y;obtain⟨x,rfl,T,σ,nx,rfl,Y⟩:=pF a0 xs.length (fun k st=>st.T 2=LI w/\st.T 27=LL cF xs/\st.T 28=I xs.length/\st.T 29=I k/\Grow st.T st.σ st.nx 10 (DT (D_ xs w) k))
   (fun x=>∃T σ nx,x=(.exit 0,⟨T,σ,nx⟩)/\Grow T σ nx 10 (DT (D_ xs w) xs.length)) (by
    clear a0;rintro k ⟨T,σ,nx⟩ hk ⟨t2,G,E,O,Y⟩;simp only at t2 G E O Y;have g1:(k:Int)<(xs.length:Int):=by omega
    have g2:=jD k;have g3:=ZQ (n:=(k:Int)+1);have g4:=JW xs hk;have g9:(xs.flatMap cF).length=xs.length:=qV xs;have a4:xs.flatMap cF≠[]:=fun e=>by rw[e]at g9;have:xs.length=0:=g9.symm;omega
    have S:k<w.length:=by rw[hw.1];omega
    have a5:=kK (hw.2 _ (zu S));have a1:=idx (xs:=w) (k:=k) S;have a2:=AZ w k S;have a3:(k:Int)<(w.length:Int):=by omega
    have hx:=aiY hq _ (zu hk);have J:D_ xs w k=X_ xs[k] w[k]:=by
     unfold D_;rw[zx,zy hk,zx,zy S];rfl
    obtain⟨x,ex⟩:∃x,x=xs[k]:=⟨_,rfl⟩;obtain⟨v,ev⟩:∃v,v=w[k]:=⟨_,rfl⟩;rw[<- ex,<- ev]at J;rw[<- ex]at g4 hx;rw[<- ev]at a1 a5;have v2:0<=v*v/\v*v<=1000000:=by
     have h1:v*v=(v.natAbs*v.natAbs:Nat):=by rw[vw]
     have h2:v.natAbs*v.natAbs<=1000*1000:=yE (by omega) (by omega);omega
    have w1:=ZQ (n:=v*v);have k3:=kE (v*v) (by omega) (by omega);have k4:=aup x ((v*v:Int):Rat) (hx.mono (by decide)) ((sJ (by omega)).mono (by decide));have hle:=Zp (D_ xs w) k;unfold X_ at J;obtain⟨m2,a6⟩:∃m2,m2=cQ ((v*v:Int):Rat):=⟨_,rfl⟩;obtain⟨z,ez⟩:∃z,z=Ak (x.num*((v*v:Int):Rat).den) (((v*v:Int):Rat).num*x.den):=⟨_,rfl⟩;rw[<- a6]at k3 k4;rw[<- ez]at k4 J
    by_cases hz:0<z
    .rw[sO hz]at J
     obtain⟨σ',ha,hs⟩:=kU Y (k:Int) (by omega);refine .inl ⟨_,by simp only[go_sem,t2,G,E,O,g1,g2,g3,g4,g9,a4,hk,S,a1,a2,a3,w1,k3,k4,hz,ha];rfl,?_⟩;simp only[go_sem,t2,G,E];rw[Zn J];exact⟨rfl,kR hs (by simp[go_sem]) (by simp)⟩
    .rw[sN hz]at J
     refine .inl ⟨_,by simp only[go_sem,t2,G,E,O,g1,g2,g3,g4,g9,a4,hk,S,a1,a2,a3,w1,k3,k4,hz];rfl,?_⟩;simp only[go_sem,t2,G,E];rw[Zo J];exact⟨rfl,kS (T:=T) (by simp only[go_sem]) Y⟩) (by
    rintro ⟨T,σ,nx⟩ ⟨t2,G,E,O,Y⟩;simp only at t2 G E O Y;exact⟨_,by simp only[go_sem,E,O,zl];rfl,by simp,_,_,_,rfl,kS (T:=T) (by simp only[go_sem]) Y⟩) (by
    simp only[go_sem];exact .inl ⟨by simp only[go_sem],rfl⟩)
  obtain⟨ids,hs⟩:=kQ Y 5;simp only[go_sem,hs]
def Em(s:Structure)(qs:List Rat)(w:List Int):Bool:=match BU (G9 s qs)with
 |some xs=>decide ((DT (D_ xs w) xs.length).length=0)
 |none=>false
theorem Rn{s:Structure}(h:Ar s)(O:okStructure s){qs:List Rat}(S:qs.length=s.members.length)(Y:∀q∈qs,Ln 24 q){w:List Int}(hw:BA s.members.length w) :
  fn ZH qI Af 111 [.agg (cStructure s),LL cQ qs,LI w]=some (Bo (Em s qs w)):=by
 have E:=Ya h O S Y hw;unfold overR at E;unfold Em;rw[mM,nG [.tmp 6] [] func111];cases J:BU (G9 s qs)with
 |none=>
  rw[J]at E;simp only[go_sem,E]
 |some xs=>
  rw[J]at E
  by_cases G:(DT (D_ xs w) xs.length).length=0
  .have e:(((DT (D_ xs w) xs.length).length:Int)==0)=true:=by rw[G];rfl
   simp only[go_sem,E,e,sO G]
  .have e:(((DT (D_ xs w) xs.length).length:Int)==0)=false:=by rw[sQ];omega
   simp only[go_sem,E,e,sN G]
def aiZ(s:Structure)(l w:List Int)(r:V):Prop :=
 (∃qs,qs.length=s.members.length/\(∀q∈qs,Ln 24 q)/\X7 s l (.AP [LL cQ qs,Bo true])/\Em s qs w=true/\r= .AP [LL cQ qs,Bo true]) \/
 (r=Vd/\(X7 s l Vd\/∃qs,qs.length=s.members.length/\(∀q∈qs,Ln 24 q)/\X7 s l (.AP [LL cQ qs,Bo true])/\Em s qs w=false))
theorem OI{s:Structure}(h:Ar s)(ho:okStructure s){l w:List Int}(hl:Az s.joints.length l)(hw:BA s.members.length w) :
  ∃r,fn ZH qI Af 82 [.agg (cStructure s),LI l,LI w]=some r/\aiZ s l w r:=by
 have YK:=h.1;obtain⟨r,O,hr⟩:=IZ ho (l:=l) (by rw[hl.1];unfold maxLen;omega);have no:r=Vd->∃r,fn ZH qI Af 82 [.agg (cStructure s),LI l,LI w]=some r/\aiZ s l w r:=fun e=>by
  subst e;have a0:fn ZH qI Af 110 [.agg (cStructure s),LI l]=some (.AP [.ts [] 0,Bo false]):=O;refine⟨Vd,?_,.inr ⟨rfl,.inl hr⟩⟩;unfold Vd;rw[mM,nG [.tmp 6,.tmp 7] [] func82];simp only[go_sem,a0]
 rcases hr with ⟨_,e⟩|⟨h1,h2,⟨e,_⟩|⟨x,hb,hx,e⟩⟩
 .exact no e
 .exact no e
 .cases S:BU (Gi (cols s s.members.length) ((List.range (DN s)).map x) s.members.length (DN s))with
  |none=>exact no (by rw[e];unfold Dj;rw[S];rfl)
  |some qs=>
   have e2:r= .AP [LL cQ qs,Bo true]:=by rw[e];unfold Dj;rw[S]
   have G:qs.length=s.members.length:=by rw[dJ S,lg]
   have J:∀q∈qs,Ln 24 q:=fun q hm=>UF (fun y hy=>by
    obtain⟨j,hj,rfl⟩:=List.mem_map.mp hy;exact hx j (List.mem_range.mp hj)) _ _ (OH S q hm) q rfl
   have hD:X7 s l (.AP [LL cQ qs,Bo true]):=by
    rw[<- e2];exact .inr ⟨h1,h2,.inr ⟨x,hb,hx,e⟩⟩
   rw[e2]at O;have Y:=Rn h ho G J hw;cases E:Em s qs w with
   |true=>
    rw[E]at Y;refine⟨.AP [LL cQ qs,Bo true],?_,.inl ⟨qs,G,J,hD,E,rfl⟩⟩;rw[mM,nG [.tmp 6,.tmp 7] [] func82];simp only[go_sem,O,Y]
   |false=>
    rw[E]at Y;refine⟨Vd,?_,.inr ⟨rfl,.inr ⟨qs,G,J,hD,E⟩⟩⟩;unfold Vd;rw[mM,nG [.tmp 6,.tmp 7] [] func82];simp only[go_sem,O,Y]
theorem amB{s:Structure}(h:Ar s)(J:okStructure s){l w:List Int}(O:Az s.joints.length l)(hw:BA s.members.length w) :
  ∃b r,fn ZH qI Af 43 [.agg (cStructure s),LI l,LI w]=some (Bo b)/\aiZ s l w r/\(b=true↔r≠Vd):=by
 obtain⟨r,E,S⟩:=OI h J O hw;rcases S with ⟨qs,G,Y,a3,a4,rfl⟩|⟨rfl,G⟩
 .refine⟨true,_,?_,.inl ⟨qs,G,Y,a3,a4,rfl⟩,⟨fun _ e=>?_,fun _=>rfl⟩⟩
  .rw[mM,nG [.tmp 6] [] func43]
   simp only[go_sem,E]
  .unfold Vd at e
   injection e with e
   injection e with _ e
   injection e with e _
   cases e
 .refine⟨false,_,?_,.inr ⟨rfl,G⟩,⟨fun e=>by(cases e),fun e=>absurd rfl e⟩⟩
  unfold Vd at E;rw[mM,nG [.tmp 6] [] func43];simp only[go_sem,E]
def amC(t:Stance)(k:Nat):Prop:=auc t.st/\t.name=aub k/\t.load.length=2*t.st.joints.length/\Bd t.load/\t.limits.length=t.st.members.length/\∀x∈t.limits,x=5\/x=20\/x=100\/x=500
theorem bC{f:V->Option (V×List Nat)}:∀ {a b E G:List V} {J O:List Nat},stripL f a=some (E,J)->stripL f b=some (G,O)->stripL f (a++b)=some (E++G,J++O)
 |[],b,E,G,J,O,h1,h2=>by
  rw[aZ]at h1;cases h1;exact h2
 |v :: a,b,E,G,J,O,h1,h2=>by
  rw[au]at h1;cases S:f v with
  |none=>rw[S]at h1;cases h1
  |some p=>
   cases Y:stripL f a with
   |none=>rw[S,Y]at h1;cases h1
   |some q=>
    rw[S,Y]at h1;have ih:=bC Y h2;rw[yT,au,S,ih];simp only[zi,zG,su,sZ]at h1⊢;obtain⟨rfl,rfl⟩:=h1;exact⟨rfl,by rw[z_]⟩
theorem UH{σ σ':Store}{d:Nat}{cells ts:List V}{ids:List Nat}(h:stripL (strip σ d) cells=some (ts,ids))(E:∀b∈ids,σ' b=σ b):stripL (strip σ' d) cells=some (ts,ids) :=
 ay (fun v t i h hi=>aV _ v t i h fun b hb=>E b (hi b hb)) h
theorem rG{σ:Store}{nx size bytes b len m:Nat}{cells row:List V}(hb:σ b=some ⟨cells,size,true⟩)(O:len*size=cells.length)(hs:0<size)(hm:m≠0)(E:len+m<=maxLen)(G:(len+m)*bytes<=140737488355328)(J:row.all pI=true) :
  Ad σ nx size bytes (.rs b 0 len) row m=some (.rs nx 0 (len+m),upd (upd σ b none) nx (some ⟨cells++row,size,true⟩),nx+1):=by
 rw[rD,hb];simp only[zi];have S:size<=m*size:=tH _ (by omega);rw[sW hm,sW (by rw[vO];omega),sS ⟨by omega,trivial,E,G,J⟩];rfl
structure ai0 (σ:Store) (lo hi:Nat) (w:V) (sts:List Stance) (cells:List V) (ids:List Nat):Prop where
 w:(w= .nil/\sts=[]/\cells=[])\/∃sb,w= .rs sb 0 sts.length/\sts≠[]/\σ sb=some ⟨cells,5,true⟩/\lo<=sb/\sb<hi/\sb∉ids
 st:stripL (strip σ 5) cells=some (sts.flatMap cStance,ids)
 len:cells.length=sts.length*5
 cell:cells.all pI=true
 ids:∀b∈ids,lo<=b/\b<hi
 ok:∀i (h:i<sts.length),amC sts[i] i
theorem ai0.frame{σ σ':Store}{lo hi E:Nat}{w:V}{sts:List Stance}{cells:List V}{ids:List Nat}(h:ai0 σ lo hi w sts cells ids)(O:hi<=E)(G:∀b,lo<=b->b<hi->σ' b=σ b):ai0 σ' lo E w sts cells ids:=by
 refine⟨?_,UH h.st fun b hb=>G b (h.ids b hb).1 (h.ids b hb).2,h.len,h.cell,fun b hb=>⟨(h.ids b hb).1,xP (h.ids b hb).2 O⟩,h.ok⟩;rcases h.w with hw|⟨sb,S,Y,h3,J,h5,h6⟩
 .exact .inl hw
 .exact .inr ⟨sb,S,Y,by rw[G sb J h5];exact h3,J,by omega,h6⟩
structure afv (n:Nat) (ms:List TV.Move) (i k:Nat):Prop where
 len:ms.length<=12
 good:∀j (h:j<ms.length),CU n ms[j]/\(ms[j].fr<(i:Int)\/(ms[j].fr=(i:Int)/\ms[j].to<(k:Int)))
 RV:∀a b (ha:a<ms.length) (hb:b<ms.length),a<b->Cc ms[b] ms[a]=false
theorem afv.mono{n:Nat}{ms:List TV.Move}{i k G J:Nat}(h:afv n ms i k)(O:∀f t:Int,(f<(i:Int)\/(f=(i:Int)/\t<(k:Int)))->f<(n:Int)->t<(n:Int)->f<(G:Int)\/(f=(G:Int)/\t<(J:Int))):afv n ms G J :=
 ⟨h.len,fun j E=>⟨(h.good j E).1,O _ _ (h.good j E).2 (h.good j E).1.2.1 (h.good j E).1.2.2.2.1⟩,h.RV⟩
theorem afv.add{n:Nat}{ms:List TV.Move}{i k:Nat}(h:afv n ms i k)(hl:ms.length<12)(hi:i<n)(hk:k<n)(a0:i≠k):afv n (ms++[⟨(i:Int),(k:Int)⟩]) i (k+1):=by
 have J:∀ {a:Nat} (ha:a<(ms++[(⟨(i:Int),(k:Int)⟩:TV.Move)]).length),(∃E:a<ms.length,(ms++[(⟨(i:Int),(k:Int)⟩:TV.Move)])[a]=ms[a])\/(a=ms.length/\(ms++[(⟨(i:Int),(k:Int)⟩:TV.Move)])[a]=⟨(i:Int),(k:Int)⟩):=fun {a} ha=>by
  by_cases E:a<ms.length
  .exact .inl ⟨E,yG E⟩
  .have:a=ms.length:=by rw[zo,yM]at ha;omega
   subst this;exact .inr ⟨rfl,by simp⟩
 refine⟨by rw[zo];exact hl,fun j hj=>?_,fun a b ha hb O=>?_⟩
 .rcases J hj with ⟨E,e⟩|⟨_,e⟩
  .rw[e]
   have:=h.good j E;exact⟨this.1,by omega⟩
  .rw[e]
   exact⟨⟨by show(0:Int)<=(i:Int);omega,by show(i:Int)<(n:Int);omega,by show(0:Int)<=(k:Int);omega,by show(k:Int)<(n:Int);omega,by show(i:Int)≠(k:Int);omega⟩,.inr ⟨rfl,by show(k:Int)<((k+1:Nat):Int);omega⟩⟩
 .rcases J ha with ⟨G,S⟩|⟨ra,S⟩<;>rcases J hb with ⟨Y,eb⟩|⟨rb,eb⟩
  .rw[S,eb];exact h.RV a b G Y O
  .rw[S,eb]
   have:=(h.good a G).2;unfold Cc;simp only
   by_cases e1:(i:Int)=ms[a].fr
   .have e2:¬(k:Int)=ms[a].to:=by omega
    rw[show((k:Int)==ms[a].to)=false by rw[sQ];exact e2,xu]
   .rw[show((i:Int)==ms[a].fr)=false by rw[sQ];exact e1,wE]
  .omega
  .omega
end Go.Proofs.YtehdaknhabeiaaaGreat
namespace Go.Proofs.YtehdaknhabeiaaaGreat
open Go Go.TV
abbrev apS:List Nat:=[3,4,5,6,7,8,9,13,19,23,28,30,32,34,42,54,65,79,80,93]
abbrev apT:List Nat:=[58,63,17,51,12,40,74,75,18,52,91,92,59,60,24,25]
def Bh:FuncId->Conv:=fun f=>if f∈([23,32,28,34,58,93,81,66,108]:List Nat)then .own else if f∈([80,17,51,12,40,74,75,18,52,91,92,59,60,24,25]:List Nat)then .inl else .Jo
noncomputable def Dk:Ext:=fun f=>if f=81 then some (Fv)else if f=66 then some (D9 1)else if f=108 then some (D9 4)else if f∈apS then none else if f∈apT then some (fun args σ nx=>ev ZH zI Bl f args σ nx)else some fun args σ nx=>ev ZH qI Af f args σ nx
theorem extSOk:Ky ZH Dk:=fun f g h args σ nx v σ' nx' E=>by
 unfold Dk at h
 by_cases G:f=81
 .subst G
  rw[sS rfl]at h;cases h;exact pY args σ nx v σ' nx' E
 have Y:=G
 by_cases J:f=66
 .subst J
  rw[sW (by decide),sS rfl]at h;cases h;exact Uz args σ nx v σ' nx' E
 have a0:=J
 by_cases O:f=108
 .subst O
  rw[sW (by decide),sW (by decide),sS rfl]at h;cases h;exact UA args σ nx v σ' nx' E
 have S:=O;simp only[Y,a0,S,if_false]at h
 split at h
 .cases h
 .split at h
  .cases h
   exact nC (by kernel_rfl) aoE f args σ nx v σ' nx' E
  .cases h
   exact nC (by kernel_rfl) ao1 f args σ nx v σ' nx' E
theorem fnS{f:FuncId}(h:List.contains ([81,66,108]++apS++apT) f=false)(ts:List V):fn ZH Bh Dk f ts=fn ZH qI Af f ts:=by
 have hn:¬f∈([81,66,108]++apS++apT:List Nat):=fun e=>by rw[List.contains_iff_mem.mpr e]at h;cases h
 simp only[wW,not_or]at hn;have E:=hn.1.1;simp only[zX,zH,or_false,not_or]at E;rw[mM,mM,nD (g:=fun args σ nx=>ev ZH qI Af f args σ nx) (by unfold Dk;simp only[E,if_false];rw[sW hn.1.2,sW hn.2])]
theorem apU(args:List V)(σ:Store)(nx:Nat):ev ZH Bh Dk 58 args σ nx=ev ZH zI Bl 58 args σ nx:=nD (g:=fun args σ nx=>ev ZH zI Bl 58 args σ nx) rfl args σ nx
theorem ai1(args:List V)(σ:Store)(nx:Nat):ev ZH Bh Dk 63 args σ nx=ev ZH zI Bl 63 args σ nx:=nD (g:=fun args σ nx=>ev ZH zI Bl 63 args σ nx) rfl args σ nx
theorem apV(args:List V)(σ:Store)(nx:Nat):ev ZH Bh Dk 17 args σ nx=ev ZH zI Bl 17 args σ nx:=nD (g:=fun args σ nx=>ev ZH zI Bl 17 args σ nx) rfl args σ nx
theorem apW(args:List V)(σ:Store)(nx:Nat):ev ZH Bh Dk 51 args σ nx=ev ZH zI Bl 51 args σ nx:=nD (g:=fun args σ nx=>ev ZH zI Bl 51 args σ nx) rfl args σ nx
theorem apX(args:List V)(σ:Store)(nx:Nat):ev ZH Bh Dk 12 args σ nx=ev ZH zI Bl 12 args σ nx:=nD (g:=fun args σ nx=>ev ZH zI Bl 12 args σ nx) rfl args σ nx
theorem apY(args:List V)(σ:Store)(nx:Nat):ev ZH Bh Dk 40 args σ nx=ev ZH zI Bl 40 args σ nx:=nD (g:=fun args σ nx=>ev ZH zI Bl 40 args σ nx) rfl args σ nx
theorem apZ(args:List V)(σ:Store)(nx:Nat):ev ZH Bh Dk 74 args σ nx=ev ZH zI Bl 74 args σ nx:=nD (g:=fun args σ nx=>ev ZH zI Bl 74 args σ nx) rfl args σ nx
theorem ap0(args:List V)(σ:Store)(nx:Nat):ev ZH Bh Dk 75 args σ nx=ev ZH zI Bl 75 args σ nx:=nD (g:=fun args σ nx=>ev ZH zI Bl 75 args σ nx) rfl args σ nx
theorem ap1(args:List V)(σ:Store)(nx:Nat):ev ZH Bh Dk 18 args σ nx=ev ZH zI Bl 18 args σ nx:=nD (g:=fun args σ nx=>ev ZH zI Bl 18 args σ nx) rfl args σ nx
theorem ap2(args:List V)(σ:Store)(nx:Nat):ev ZH Bh Dk 52 args σ nx=ev ZH zI Bl 52 args σ nx:=nD (g:=fun args σ nx=>ev ZH zI Bl 52 args σ nx) rfl args σ nx
theorem ap3(args:List V)(σ:Store)(nx:Nat):ev ZH Bh Dk 91 args σ nx=ev ZH zI Bl 91 args σ nx:=nD (g:=fun args σ nx=>ev ZH zI Bl 91 args σ nx) rfl args σ nx
theorem ap4(args:List V)(σ:Store)(nx:Nat):ev ZH Bh Dk 92 args σ nx=ev ZH zI Bl 92 args σ nx:=nD (g:=fun args σ nx=>ev ZH zI Bl 92 args σ nx) rfl args σ nx
theorem ap5(args:List V)(σ:Store)(nx:Nat):ev ZH Bh Dk 59 args σ nx=ev ZH zI Bl 59 args σ nx:=nD (g:=fun args σ nx=>ev ZH zI Bl 59 args σ nx) rfl args σ nx
theorem ap6(args:List V)(σ:Store)(nx:Nat):ev ZH Bh Dk 60 args σ nx=ev ZH zI Bl 60 args σ nx:=nD (g:=fun args σ nx=>ev ZH zI Bl 60 args σ nx) rfl args σ nx
theorem ap7(args:List V)(σ:Store)(nx:Nat):ev ZH Bh Dk 24 args σ nx=ev ZH zI Bl 24 args σ nx:=nD (g:=fun args σ nx=>ev ZH zI Bl 24 args σ nx) rfl args σ nx
theorem ap8(args:List V)(σ:Store)(nx:Nat):ev ZH Bh Dk 25 args σ nx=ev ZH zI Bl 25 args σ nx:=nD (g:=fun args σ nx=>ev ZH zI Bl 25 args σ nx) rfl args σ nx
theorem ap9(ts:List V):fn ZH Bh Dk 63 ts=fn ZH zI Bl 63 ts:=by rw[mM,mM,ai1]
theorem ap_(args:List V)(σ:Store)(nx:Nat):ev ZH Bh Dk 81 args σ nx=(Fv) args σ nx:=nD (g:=(Fv)) rfl args σ nx
theorem ap'(args:List V)(σ:Store)(nx:Nat):ev ZH Bh Dk 66 args σ nx=(D9 1) args σ nx:=nD (g:=(D9 1)) rfl args σ nx
theorem amD(args:List V)(σ:Store)(nx:Nat):ev ZH Bh Dk 108 args σ nx=(D9 4) args σ nx:=nD (g:=(D9 4)) rfl args σ nx
abbrev iI(n:Nat):Prop:=∀ts:List V,fn ZH Bh Dk n ts=fn ZH qI Af n ts
theorem aqa:iI 10/\iI 11/\iI 14/\iI 15/\iI 20/\iI 21/\iI 26/\iI 27/\iI 31/\iI 33/\iI 35/\iI 36/\iI 37/\iI 38/\iI 39/\iI 41/\iI 43/\iI 44/\iI 45/\iI 46/\iI 47/\iI 48/\iI 49/\iI 53:=by and_intros<;>exact fnS rfl
theorem aqb:iI 56/\iI 57/\iI 61/\iI 62/\iI 64/\iI 67/\iI 68/\iI 69/\iI 70/\iI 71/\iI 72/\iI 73/\iI 76/\iI 77/\iI 78/\iI 82/\iI 83/\iI 84/\iI 85/\iI 86/\iI 87/\iI 88/\iI 89/\iI 90:=by and_intros<;>exact fnS rfl
theorem aqc:iI 94/\iI 95/\iI 96/\iI 97/\iI 98/\iI 99/\iI 100/\iI 101/\iI 102/\iI 103/\iI 104/\iI 105/\iI 106/\iI 107/\iI 109/\iI 110/\iI 111/\iI 112/\iI 113/\iI 114/\iI 115/\iI 116/\iI 117/\iI 118:=by and_intros<;>exact fnS rfl
theorem aqd:iI 119/\iI 120/\iI 121/\iI 122/\iI 123/\iI 124/\iI 125/\iI 126/\iI 127/\iI 128/\iI 129/\iI 130/\iI 131/\iI 132/\iI 133/\iI 134/\iI 135/\iI 136/\iI 138/\iI 139/\iI 140/\iI 141/\iI 142/\iI 143:=by and_intros<;>exact fnS rfl
theorem aqe:iI 144/\iI 145/\iI 146/\iI 147/\iI 148/\iI 149/\iI 150/\iI 151/\iI 152/\iI 153/\iI 154/\iI 155/\iI 156/\iI 157/\iI 158/\iI 159/\iI 160/\iI 161/\iI 162/\iI 163/\iI 164/\iI 165/\iI 166/\iI 167:=by and_intros<;>exact fnS rfl
theorem aqf:iI 168/\iI 169/\iI 170/\iI 171/\iI 172/\iI 173/\iI 174/\iI 175/\iI 176/\iI 177/\iI 178/\iI 179/\iI 180/\iI 181/\iI 182/\iI 183/\iI 184/\iI 185/\iI 186/\iI 187/\iI 188/\iI 189/\iI 190/\iI 191:=by and_intros<;>exact fnS rfl
theorem aqg:iI 192/\iI 193/\iI 194/\iI 195/\iI 196/\iI 197/\iI 198/\iI 199/\iI 200/\iI 201/\iI 202/\iI 203/\iI 204/\iI 205/\iI 206/\iI 207/\iI 208/\iI 209/\iI 210/\iI 211/\iI 212/\iI 213/\iI 214/\iI 215:=by and_intros<;>exact fnS rfl
theorem aqh:iI 216/\iI 217/\iI 218/\iI 219/\iI 220/\iI 221/\iI 222/\iI 223/\iI 224/\iI 225/\iI 226/\iI 227/\iI 228/\iI 229/\iI 230/\iI 231/\iI 232/\iI 233/\iI 234/\iI 235/\iI 236/\iI 237/\iI 238/\iI 239:=by and_intros<;>exact fnS rfl
theorem aqi:iI 240/\iI 241/\iI 242/\iI 243/\iI 244/\iI 245/\iI 246/\iI 247/\iI 248/\iI 249/\iI 250/\iI 251:=by and_intros<;>exact fnS rfl
abbrev bI(n:Nat):Prop:=Bh n= .Jo
abbrev Dl(n:Nat):Prop:=Bh n= .inl
abbrev Fj(n:Nat):Prop:=Bh n= .own
theorem aqj:bI 6/\bI 8/\bI 9/\bI 10/\bI 11/\Dl 12/\bI 13/\bI 14/\bI 15/\Dl 17/\Dl 18/\bI 20/\bI 21/\Dl 24/\Dl 25/\bI 26/\bI 27/\Fj 28/\bI 31/\Fj 32/\bI 33/\Fj 34/\bI 35/\bI 36:=by and_intros<;>exact rfl
theorem aqk:bI 37/\bI 38/\bI 39/\Dl 40/\bI 41/\bI 42/\bI 43/\bI 44/\bI 45/\bI 46/\bI 47/\bI 48/\bI 49/\Dl 51/\Dl 52/\bI 53/\bI 54/\bI 56/\bI 57/\Fj 58/\Dl 59/\Dl 60/\bI 61/\bI 62:=by and_intros<;>exact rfl
theorem aql:bI 63/\bI 64/\bI 65/\Fj 66/\bI 67/\bI 68/\bI 69/\bI 70/\bI 71/\bI 72/\bI 73/\Dl 74/\Dl 75/\bI 76/\bI 77/\bI 78/\bI 79/\Dl 80/\Fj 81/\bI 82/\bI 83/\bI 84/\bI 85/\bI 86:=by and_intros<;>exact rfl
theorem aqm:bI 87/\bI 88/\bI 89/\bI 90/\Dl 91/\Dl 92/\Fj 93/\bI 94/\bI 95/\bI 96/\bI 97/\bI 98/\bI 99/\bI 100/\bI 101/\bI 102/\bI 103/\bI 104/\bI 105/\bI 106/\bI 107/\Fj 108/\bI 109/\bI 110:=by and_intros<;>exact rfl
theorem aqn:bI 111/\bI 112/\bI 113/\bI 114/\bI 115/\bI 116/\bI 117/\bI 118/\bI 119/\bI 120/\bI 121/\bI 122/\bI 123/\bI 124/\bI 125/\bI 126/\bI 127/\bI 128/\bI 129/\bI 130/\bI 131/\bI 132/\bI 133/\bI 134:=by and_intros<;>exact rfl
theorem aqo:bI 135/\bI 136/\bI 138/\bI 139/\bI 140/\bI 141/\bI 142/\bI 143/\bI 144/\bI 145/\bI 146/\bI 147/\bI 148/\bI 149/\bI 150/\bI 151/\bI 152/\bI 153/\bI 154/\bI 155/\bI 156/\bI 157/\bI 158/\bI 159:=by and_intros<;>exact rfl
theorem aqp:bI 160/\bI 161/\bI 162/\bI 163/\bI 164/\bI 165/\bI 166/\bI 167/\bI 168/\bI 169/\bI 170/\bI 171/\bI 172/\bI 173/\bI 174/\bI 175/\bI 176/\bI 177/\bI 178/\bI 179/\bI 180/\bI 181/\bI 182/\bI 183:=by and_intros<;>exact rfl
theorem aqr:bI 184/\bI 185/\bI 186/\bI 187/\bI 188/\bI 189/\bI 190/\bI 191/\bI 192/\bI 193/\bI 194/\bI 195/\bI 196/\bI 197/\bI 198/\bI 199/\bI 200/\bI 201/\bI 202/\bI 203/\bI 204/\bI 205/\bI 206/\bI 207:=by and_intros<;>exact rfl
theorem aqs:bI 208/\bI 209/\bI 210/\bI 211/\bI 212/\bI 213/\bI 214/\bI 215/\bI 216/\bI 217/\bI 218/\bI 219/\bI 220/\bI 221/\bI 222/\bI 223/\bI 224/\bI 225/\bI 226/\bI 227/\bI 228/\bI 229/\bI 230/\bI 231:=by and_intros<;>exact rfl
theorem aqt:bI 232/\bI 233/\bI 234/\bI 235/\bI 236/\bI 237/\bI 238/\bI 239/\bI 240/\bI 241/\bI 242/\bI 243/\bI 244/\bI 245/\bI 246/\bI 247/\bI 248/\bI 249/\bI 250/\bI 251:=by and_intros<;>exact rfl
attribute [go_sem] aqa aqb aqc aqd aqe aqf aqg aqh aqi
attribute [go_sem] aqj aqk aql aqm aqn aqo aqp aqr aqs aqt
attribute [go_sem] apU ai1 apV apW apX apY apZ ap0 ap1 ap2 ap3 ap4 ap5 ap6 ap7 ap8
attribute [go_sem] ap_ ap' amD
open Go.Plan
attribute [-go_sem] rD
def azy(a b:Int):Int:=IntKind.u64.wrap ((BitVec.ofInt 64 a &&& BitVec.ofInt 64 b).toNat:Nat)
theorem amE{P:Program}{t:TypeId}{x y:Operand}{a b:Int}:Aj P .and t x y (.sc (.int .u64 a)) (.sc (.int .u64 b))=some (.sc (.int .u64 (azy a b))):=by
 simp only[Aj,toVal,eqGuard_at_int,binOp_and];rfl
attribute [go_sem] amE
theorem aqu(n:Nat)(G:1<=n)(J:n<=6):fn ZH conv ext 138 [.sc (.int .u64 1),.sc (.int .u64 n)]=some (.AP [.sc (.int .u64 0),.sc (.int .u64 n)]):=by
 have hn:n=1\/n=2\/n=3\/n=4\/n=5\/n=6:=by omega
 have E:¬(32:Int)<0:=by decide
 rcases hn with rfl|rfl|rfl|rfl|rfl|rfl<;>rw[mM,nG [.tmp 4,.tmp 5] [] func138]<;>simp only[go_sem,E]<;>rfl
theorem azz(n:Nat)(E:1<=n)(G:n<=6):fn ZH conv ext 116 [.sc (.int .u64 1),.sc (.int .u64 n)]=some (.AP [.sc (.int .u64 0),.sc (.int .u64 n)]):=by
 have k:=aqu n E G;rw[mM,nG [.tmp 4,.tmp 5] [] func116];simp only[go_sem,k]
theorem aus(k:IntKind)(n:Int)(σ:Store):Bj ZH 3 139 (.sc (.int k n)) σ=some (.sc (.int .u64 (IntKind.u64.wrap n))):=JC Tryz.underlying3 Tryz.underlying139
theorem aut(k:IntKind)(n:Int)(σ:Store):Bj ZH 139 3 (.sc (.int k n)) σ=some (.sc (.int .i64 (IntKind.i64.wrap n))):=JC Tryz.underlying139 Tryz.underlying3
section
variable {P:Program} {conv:FuncId->Conv} {call:TV.Call} (d:Option Tmp) (ty:TypeId) (ps:String) (af:Array Edge) (gd:Option (Nat×Bool)) (T:Nat->V) (σ:Store) (nx:Nat)
theorem afw(s x:Operand)(ts:Array TypeId):Aa conv T σ ⟨d,.call ⟨.builtin .copy,#[s,x],ts⟩,ty,ps,af,gd⟩=vI (val T s)++vI (val T x):=by
 show([val T s,val T x].flatMap vI)=_;simp only[zT,wQ,zK]
theorem aqv(s x:Operand)(ts:Array TypeId):writer conv ⟨d,.call ⟨.builtin .copy,#[s,x],ts⟩,ty,ps,af,gd⟩=true:=rfl
theorem ai2(s x:Operand)(t u:TypeId):Ag P conv call ⟨d,.call ⟨.builtin .copy,#[s,x],#[t,u]⟩,ty,ps,af,gd⟩ T σ nx=
  if((vI (val T s)++vI (val T x)).all fun b=>decide (b<nx))=true then apx (vI (val T s)++vI (val T x)) σ nx (Gu P #[t,u] (val T s) (val T x) (restrict σ (vI (val T s)++vI (val T x))) nx)else none:=by
 rw[nT (F:=vI (val T s)++vI (val T x)) T σ nx (by
  show some ([val T s,val T x].flatMap vI)=_;simp only[zT,wQ,zK]) (fun _=>rfl)]
 rfl
end
attribute [go_sem] afw aqv ai2
def EG(n k:Nat):List Int:=List.replicate k (-1)++List.replicate (n-k) 0
theorem Ro{n k:Nat}(h:k<=n):(EG n k).length=n:=by simp[EG];omega
theorem abC{n k m:Nat}(h:k+m<=n)(hm:m<=k)(h0:m≠0):patch ((EG n k).flatMap cI) k ((((EG n k).flatMap cI).take k).take m)=(EG n (k+m)).flatMap cI:=by
 have G:((EG n k).flatMap cI).length=n:=by rw[qR,Ro (by omega)]
 have E:((EG n k).flatMap cI).take k=(List.replicate k (-1)).flatMap cI:=by
  rw[qP];congr 1;unfold EG;rw[xM (by simp)]
 have J:((List.replicate k (-1:Int)).flatMap cI).take m=(List.replicate m (-1)).flatMap cI:=by
  rw[qP,List.take_replicate,yA hm]
 have O:∀(j:Nat) (xs:List Int),(xs.flatMap cI).drop j=(xs.drop j).flatMap cI:=fun j=>by
  induction j with
  |zero=>intro xs;rfl
  |succ j S=>
   intro xs;cases xs with
   |nil=>rfl
   |cons y Y=>exact S Y
 rw[E,J,iG _ _ _ (by rw[qR,G];simp;omega),E,qR,yj,O,<- zU,<- zU];congr 1;unfold EG;rw[List.drop_append,xk (by simp),yK,List.drop_replicate,yj,wF];congr 2;omega
theorem ai3(n:Nat)(S:1<=n)(h6:n<=6)(nx:Nat):∃O G,ev ZH Bh Dk 93 [.ts [I (-1)] 1,I n] lI nx=some (.rs nx 0 n,O,G)/\nx<G/\O nx=some ⟨(List.replicate n (-1)).flatMap cI,1,true⟩:=by
 have c1:¬(n:Int)<0:=by omega
 have k:=azz n S h6;have w1:=ZP (n:=(n:Int)) (by omega) (by omega);have w2:=ZP (n:=1) (by omega) (by omega);have w3:=ZQ (n:=(n:Int));have c2:¬(0:Int)<0:=by decide
 have c3:¬(9223372036854775807:Int)<(n:Int):=by omega
 have m1:=jD n;have m2:8*(n:Int)<=281474976710656:=by omega
 have m3:(n:Int)<=9223372036854775807:=by omega
 have m4:min 1 n=1:=by omega
 have m5:¬(1:Nat)=0:=by decide
 have r1:((rep n [V.sc (.int .i64 0)])).length=n:=by rw[fM];simp
 have r2:patch (rep n [V.sc (.int .i64 0)]) 0 [I (-1)]=(EG n 1).flatMap cI:=by
  have hn:n=1\/n=2\/n=3\/n=4\/n=5\/n=6:=by omega
  rcases hn with rfl|rfl|rfl|rfl|rfl|rfl<;>rfl
 have m6:1<=n:=S;rw[nG [.tmp 4] [9] func93];simp only[go_sem,c1,c2,c3,w1,w2,w3,k,m1,m2,m3,aus,aut,r1,m4,m5,m6,Hq,r2];generalize hL:dI _ _=y;obtain⟨x,rfl,T,σ,G,rfl,E,J,hs⟩:=jV hL (fun m st=>∃k,1<=k/\k<=n/\m+k=n/\nx<st.nx/\st.T 7= .rs nx 0 n/\st.T 8=I k/\st.σ nx=some ⟨(EG n k).flatMap cI,1,true⟩)
  (fun x=>∃T σ G,x=(.exit 0,⟨T,σ,G⟩)/\nx<G/\T 7= .rs nx 0 n/\σ nx=some ⟨(EG n n).flatMap cI,1,true⟩) (by
   clear hL;rintro m ⟨T,σ,G⟩ ⟨k,k1,k2,k3,E,J,Y,hs⟩;simp only at E J Y hs;have hlen:((EG n k).flatMap cI).length=n:=by rw[qR,Ro k2]
   by_cases hk:k<n
   .have g1:(k:Int)<(n:Int):=by omega
    have g2:=jD k;have g3:¬k=0:=by omega
    have g4:¬k=n:=by omega
    have g5:k<=n:=k2;obtain⟨q,hq⟩:∃q,q=min k (n-k):=⟨_,rfl⟩;have g6:¬q=0:=by omega
    have g7:k+q<=n:=by omega
    have g8:(((EG n k).flatMap cI).take k).take q=(List.replicate q (-1)).flatMap cI:=by
     rw[qP,qP];congr 1;unfold EG;rw[xM (by simp),List.take_replicate,yA (by omega)]
    have g9:=abC (n:=n) (k:=k) (m:=q) (by omega) (by omega) g6;have a0:((List.replicate q (-1)).flatMap cI).all pI=true:=qU _;have w4:=ZQ (n:=(k:Int)+(q:Int));rw[g8]at g9;refine .inl ⟨_,by simp only[go_sem,J,Y,hs,g1,g2,g3,g4,g5,hlen,E,<- hq,g6,g7,g8,g9,a0,w4,Hq];rfl,m-q,by omega,k+q,by omega,by omega,by omega,?_⟩;simp only[go_sem,J];exact⟨E,rfl⟩
   .have:k=n:=by omega
    subst this;refine .inr ⟨_,by simp only[go_sem,J,Y,zl];rfl,by simp,_,_,_,rfl,E,?_,hs⟩;simp only[go_sem,J]) (n-1) (by
   simp only[go_sem];exact⟨1,zq _,S,by omega,by omega,rfl,rfl⟩)
 simp only[go_sem,J];refine⟨_,_,rfl,E,?_⟩;rw[hs];unfold EG;rw[yP];simp
def DK(y:Yard)(i k:Nat):Bool:=Aw y.moves (i:Int) k
def Dt(al:List Bool)(i:Nat):Bool:=al.getD i false
theorem rM{al:List Bool}{i:Nat}(h:Dt al i=true):i<al.length:=by
 unfold Dt at h;rw[zx]at h
 by_cases hi:i<al.length
 .exact hi
 .rw[yZ (by omega)]at h;cases h
theorem rO{al:List Bool}{i:Nat}(h:i<al.length):Dt al i=al[i]:=by
 unfold Dt;rw[zx,zy h];rfl
def A8(n:Nat)(out:Nat->Int):List Int:=(List.range n).map out
theorem jo(n:Nat)(out:Nat->Int):(A8 n out).length=n:=by simp[A8]
theorem jr{n:Nat}(out:Nat->Int){a:Nat}(h:a<n):((A8 n out).flatMap cI)[a]?=some (I (out a)):=by
 rw[idx (xs:=A8 n out) (k:=a) (by rw[jo];exact h)];simp[A8]
theorem I7{n:Nat}(out:Nat->Int)(a:Nat)(v:Int):((A8 n out).flatMap cI).set a (I v)=(A8 n (put out a v)).flatMap cI:=by
 have e:∀(l:List Int) (k:Nat),(l.flatMap cI).set k (I v)=(l.set k v).flatMap cI:=fun l=>by
  induction l with
  |nil=>intro k;rfl
  |cons x l E=>
   intro k;cases k with
   |zero=>rfl
   |succ k=>
    show I x :: (l.flatMap cI).set k (I v)=_;rw[E];rfl
 rw[e];congr 1;refine yS (by simp[A8]) fun i G J=>?_
 rw[wP];simp only[A8,yB,vC,put]
 by_cases c:a=i
 .subst c;simp
 .rw[sW c,sW (fun e=>c e.symm)]
def BX(T:Nat->V)(σ:Store)(nx t E:Nat)(l:List Int):Prop:=∃(b off:Nat) (cells:List Int),T t= .rs b off l.length/\σ b=some ⟨cells.flatMap cI,1,true⟩/\off+l.length=cells.length/\cells.drop off=l/\b<nx/\b≠E
theorem UJ{T:Nat->V}{σ:Store}{nx t G:Nat}{l:List Int}(h:BX T σ nx t G l)(hb:G<nx)(x:Int)(hl:l.length<100000) :
  ∃σ',Ad (upd σ nx (some ⟨[I x],1,true⟩)) (nx+1) 1 8 (T t) [I x] 1=some (.rs (nx+1) 0 (l.length+1),σ',nx+1+1)/\σ' (nx+1)=some ⟨(l++[x]).flatMap cI,1,true⟩/\σ' G=σ G:=by
 obtain⟨b,off,cells,J,O,h3,S,h5,Y⟩:=h;have hm:l.length+1<=maxLen:=by unfold maxLen;omega
 have E:(cells.flatMap cI).length=cells.length:=qR cells;refine⟨upd (upd (upd σ nx (some ⟨[I x],1,true⟩)) b none) (nx+1) (some ⟨(cells.flatMap cI).drop off++[I x],1,true⟩),?_,?_,?_⟩
 .rw[J,rD,Zk,O]
  simp only[zi];rw[sW (by decide),sW (by rw[E];omega),sS ⟨by rw[E];omega,trivial,hm,by omega,rfl⟩]
 .rw[Zi]
  have:(cells.flatMap cI).drop off=l.flatMap cI:=by
   rw[<- S];have e:∀(k:Nat) (xs:List Int),(xs.flatMap cI).drop k=(xs.drop k).flatMap cI:=fun k=>by
    induction k with
    |zero=>intro xs;rfl
    |succ k ih=>
     intro xs;cases xs with
     |nil=>rfl
     |cons y ys=>exact ih ys
   exact e _ _
  rw[this,zU];rfl
 .rw[Zk,Zj _ _ (fun e=>Y e.symm),Zk]
theorem g_{T:Nat->V}{σ:Store}{nx t E b:Nat}{l:List Int}(G:T t= .rs b 0 l.length)(J:σ b=some ⟨l.flatMap cI,1,true⟩)(O:b<nx)(S:b≠E):BX T σ nx t E l:=⟨b,0,l,G,J,by omega,rfl,O,S⟩
theorem gJ{T T':Nat->V}{σ:Store}{nx nx' t E:Nat}{l:List Int}(h:BX T σ nx t E l)(G:T' t=T t)(hn:nx<=nx'):BX T' σ nx' t E l:=by
 obtain⟨b,off,cells,J,O,S,Y,h5,h6⟩:=h;exact⟨b,off,cells,by rw[G,J],O,S,Y,by omega,h6⟩
theorem Rq{T:Nat->V}{σ:Store}{nx t E:Nat}{l:List Int}(h:BX T σ nx t E l)(x:Option E_):BX T (upd σ E x) nx t E l:=by
 obtain⟨b,off,cells,J,O,S,Y,h5,G⟩:=h;exact⟨b,off,cells,J,by rw[Zj _ _ G];exact O,S,Y,h5,G⟩
theorem Yb{T:Nat->V}{σ:Store}{nx t E:Nat}{l:List Int}(h:BX T σ nx t E l)(x:Option E_):BX T (upd σ nx x) (nx+1) t E l:=by
 obtain⟨b,off,cells,G,J,O,S,h5,Y⟩:=h;exact⟨b,off,cells,G,by rw[Zk];exact J,O,S,by omega,Y⟩
theorem gG{cells:List Int}{off:Nat}{x:Int}{l:List Int}(h:cells.drop off=x :: l):(cells.flatMap cI)[off]?=some (I x):=by
 have E:off<cells.length:=by
  refine zf fun hn=>?_
  rw[xk (by omega)]at h;cases h
 rw[idx (xs:=cells) (k:=off) E];rw[yU E]at h;injection h with h _
 rw[h]
theorem OJ{cells:List Int}{off:Nat}{x:Int}{l:List Int}(h:cells.drop off=x :: l):cells.drop (off+1)=l:=by
 rw[<- List.drop_drop,h];rfl
def Ah(l:List Nat):List Int:=l.map fun(i:Nat)=>(i:Int)
theorem ac6{y:Yard}(E:AA y){j:Nat}(G:j<y.moves.length):∃a c:Nat,y.moves[j]=⟨(a:Int),(c:Int)⟩/\a<y.stances.length/\c<y.stances.length:=by
 obtain⟨_,_,_,hm⟩:=E;obtain⟨J,S,O,Y,_⟩:=(hm j G).1;refine⟨y.moves[j].fr.toNat,y.moves[j].to.toNat,?_,by omega,by omega⟩;rw[uY J,uY O]
theorem MF(y:Yard)(i k:Nat):DK y i k=true↔∃j,∃h:j<y.moves.length,y.moves[j]=⟨(i:Int),(k:Int)⟩:=by
 unfold DK Aw;rw[List.any_eq_true];constructor
 .rintro ⟨m,hm,hp⟩
  obtain⟨j,E,rfl⟩:=yV hm;rw[zB,beq_iff_eq,beq_iff_eq]at hp;refine⟨j,E,?_⟩;rw[<- hp.1,<- hp.2]
 .rintro ⟨j,E,e⟩
  exact⟨_,zu E,by rw[e];simp⟩
noncomputable def Pm(y:Yard)(al:List Bool)(to:Int)(i:Nat):Int:=if 0<=to/\to<(y.stances.length:Int)then dst (DK y) (Dt al) to.toNat i else -1
theorem abD{y:Yard}{al:List Bool}{to:Int}(h:¬(0<=to/\to<(y.stances.length:Int)/\Dt al to.toNat=true))(i:Nat):Pm y al to i= -1:=by
 unfold Pm
 split
 .rename_i c
  refine XT fun k E=>h ⟨c.1,c.2,E.lst⟩
 .rfl
theorem jq{n:Nat}{f g:Nat->Int}(h:∀i,i<n->f i=g i):A8 n f=A8 n g:=xO fun i hi=>h i (by simpa using hi)
theorem OL(n:Nat)(v:Int):A8 n (fun _=>v)=List.replicate n v:=by
 unfold A8;refine yS (by simp) fun i E G=>by simp
theorem Zz(l:List Nat):(Ah l).length=l.length:=by simp[Ah]
theorem aA(l:List Nat){p:Nat}(h:p<l.length):Ah (l.drop p)=(l[p]:Int) :: Ah (l.drop (p+1)):=by
 rw[yU h];rfl
theorem ai4{y:Yard}{al:List Bool}{t:Nat}{all:List Nat}{p:Nat}{out:Nat->Int}(h:XY (DK y) (Dt al) t all p out)(hp:all.length<=p)(E:t<y.stances.length):A8 y.stances.length out=A8 y.stances.length (Pm y al (t:Int)) :=
 jq fun i _=>by
  unfold Pm;rw[sS (by omega),zF];exact(h.fin hp i).symm
theorem ai5(y:Yard)(hg:AA y)(g4:y.stances.length≠0)(to:Int)(al:List Bool)(g5:al.length=y.stances.length) :
  fn ZH Bh Dk 65 [.tp (cYard y) 0,I to,LL CQ al]=some (LI (A8 y.stances.length (Pm y al to))):=by
 have G5:=hg.1;have g6:=hg.2.1;obtain⟨n,en⟩:∃n,n=y.stances.length:=⟨_,rfl⟩;obtain⟨a1,nI,k1,e4,s1⟩:=ai3 n (by omega) (by omega) 1;have o1:Own a1 1 (.rs 1 0 n) (LI (List.replicate n (-1))) [1]:=by
  have:=iO (d:=0) s1 (st:=1) (by simp)
  rwa [yj]at this
 have g1:=fun d=>o1.gather (d':=d+1) (by omega)
 have j1:∀σ,Cb 1 σ a1 [1] 1=a1 1:=fun σ=>jy (by omega) (by simp)
 rw[mM,nG [.tmp 6] [12] func65];have fin:∀(σ:Store) (out:Nat->Int) (d:Nat),σ 1=some ⟨(A8 n out).flatMap cI,1,true⟩->strip σ (d+1) (.rs 1 0 n)=some (LI (A8 n out),[1]):=fun σ out d h=>kJ h (jo n out) d
 rw[<- OL]at s1;have s2:∀σ,Cb 1 σ a1 [1] 1=some ⟨(A8 n (fun _=> -1)).flatMap cI,1,true⟩:=fun σ=>(j1 σ).trans s1
 rw[<- en];have no:(∀i,Pm y al to i= -1)->some (LI (A8 n (fun _=> -1)))=some (LI (A8 n (Pm y al to))):=fun h=>by rw[jq (f:=fun _=> -1) (g:=Pm y al to) (fun i _=>(h i).symm)]
 by_cases c1:to<0
 .rw[<- no fun i=>abD (fun h=>by omega) i]
  have f0:=fun σ d=>fin (Cb 1 σ a1 [1]) (fun _=> -1) d (s2 σ)
  simp only[go_sem,<- en,k1,g1,s2,c1,f0]
 by_cases c2:(n:Int)<=to
 .rw[<- no fun i=>abD (fun h=>by omega) i]
  have f0:=fun σ d=>fin (Cb 1 σ a1 [1]) (fun _=> -1) d (s2 σ)
  simp only[go_sem,<- en,k1,g1,s2,c1,c2,f0]
 obtain⟨t,rfl⟩:∃t:Nat,to=(t:Int):=⟨to.toNat,by omega⟩;have ht:t<n:=by omega
 have d1:(t:Int)<(n:Int):=by omega
 have d2:=jD t;have a4:t<al.length:=by omega
 have d3:(al.flatMap CQ)[t]?=some (Bo (Dt al t)):=by rw[rO a4];exact cu (fun b=>Bo b) al t a4
 have d4:=Gh al;have d5:=TI al t a4;have d6:(t:Int)<(al.length:Int):=by omega
 cases a7:Dt al t with
 |false=>
  rw[a7]at d3;rw[<- no fun i=>abD (fun h=>by rw[zF]at h;rw[a7]at h;cases h.2.2) i];have f0:=fun σ d=>fin (Cb 1 σ a1 [1]) (fun _=> -1) d (s2 σ)
  simp only[go_sem,<- en,k1,g1,s2,c1,c2,d1,d2,d3,d4,d5,d6,a4,f0]
 |true=>
  rw[a7]at d3;have e1:=jr (n:=n) (fun _=> -1) ht;have e2:=I7 (n:=n) (fun _=> -1) t 0;have e3:((A8 n fun _=>(-1:Int)).flatMap cI).length=n:=by rw[qR,jo]
  have nz:¬nI=1:=by omega
  have e5:¬1=nI:=by omega
  have nl:1<nI:=e4;simp only[go_sem,<- en,k1,g1,s2,c1,c2,d1,d2,d3,d4,d5,d6,a4,e1,e2,e3,ht,nz,e5,nl];generalize hL:dI _ _=w
  obtain⟨x,rfl,T,σ,nx,rfl,t7,out,hs,c5⟩:=jV hL (fun m st=>st.T 0= .tp (cYard y) 0/\st.T 2=LL CQ al/\st.T 7= .rs 1 0 n/\1<st.nx/\∃all p out,XY (DK y) (Dt al) t all p out/\p<=all.length/\m+p=n/\st.σ 1=some ⟨(A8 n out).flatMap cI,1,true⟩ /\
    ((p=all.length/\st.T 8= .ts [] 0)\/(p<all.length/\BX st.T st.σ st.nx 8 1 (Ah (all.drop p)))))
   (fun x=>∃T σ nx,x=(.exit 0,⟨T,σ,nx⟩)/\T 7= .rs 1 0 n/\∃out,σ 1=some ⟨(A8 n out).flatMap cI,1,true⟩/\A8 n out=A8 n (Pm y al (t:Int))) (by
    clear hL;rintro m ⟨T,σ,nx⟩ ⟨t0,t2,t7,a2,all,p,out,hB,hp,hm,hs,hq⟩;simp only at t0 t2 t7 a2 hs hq;rcases hq with ⟨rfl,t8⟩|⟨hp,hq⟩
    .refine .inr ⟨_,by simp only[go_sem,t8];rfl,by simp,_,_,_,rfl,by simp only[go_sem,t7],out,hs,?_⟩
     rw[en];exact ai4 hB (zq _) (by omega)
    .have e6:=hB.bound (n:=n) fun i hi=>by have:=rM hi;omega
     obtain⟨h,eh⟩:∃h,h=all[p]:=⟨_,rfl⟩;have a5:=hq;rw[aA all hp,<- eh]at a5;obtain⟨b,off,cells,q1,q2,q3,q4,q5,q6⟩:=a5;have q7:=gG q4;have p1:((h:Int) :: Ah (all.drop (p+1))).length=all.length-p:=by rw[zJ,Zz,zN];omega
     rw[p1]at q1;have p2:(0:Int)<((all.length-p:Nat):Int):=by omega
     refine bF ?_
     conv=>
      enter [1,r,1,1]
      simp only[go_sem,t0,t2,t7,q1,p2]
     generalize hL:dI _ _=w
     obtain⟨r,rfl,T1,σ',nx',rfl,t0,t2,t7,c6,E,b6,c7,c8,c9,d0,e7,b7⟩:=pF hL y.moves.length (fun j st=>st.T 0= .tp (cYard y) 0/\st.T 2=LL CQ al/\st.T 7= .rs 1 0 n/\st.T 47=LL cMove y.moves/\st.T 48=I y.moves.length/\st.T 49=I j/\1<st.nx /\
       ∃all out,XY (DK y) (Dt al) t all p out/\∃hp:p<all.length,h=all[p]/\st.σ 1=some ⟨(A8 n out).flatMap cI,1,true⟩/\BX st.T st.σ st.nx 8 1 (Ah (all.drop p))/\∀i (hi:i<y.moves.length),i<j->∀a:Nat,y.moves[i]=⟨(a:Int),(h:Int)⟩->Dt al a=true->a∈all)
      (fun r=>∃T σ nx,r=(.exit 2,⟨T,σ,nx⟩)/\T 0= .tp (cYard y) 0/\T 2=LL CQ al/\T 7= .rs 1 0 n/\1<nx /\
       ∃all out,XY (DK y) (Dt al) t all p out/\∃hp:p<all.length,h=all[p]/\σ 1=some ⟨(A8 n out).flatMap cI,1,true⟩/\BX T σ nx 8 1 (Ah (all.drop p))/\∀i (hi:i<y.moves.length),∀a:Nat,y.moves[i]=⟨(a:Int),(h:Int)⟩->Dt al a=true->a∈all) (by
       clear hL;rintro j ⟨T,σ,nx⟩ hj ⟨t0,t2,t7,O,G,a0,a2,all,out,hB,hp,eh,hs,hq,hd⟩;simp only at t0 t2 t7 O G a0 a2 hs hq;have e6:=hB.bound (n:=n) fun i hi=>by have:=rM hi;omega
       obtain⟨a,c,e,ha,hc⟩:=ac6 hg hj;rw[<- en]at ha hc;have a5:=hq;rw[aA all hp,<- eh]at a5;obtain⟨b,off,cells,q1,q2,q3,q4,q5,q6⟩:=a5;have q7:=gG q4;have p1:((h:Int) :: Ah (all.drop (p+1))).length=all.length-p:=by rw[zJ,Zz,zN];omega
       rw[p1]at q1;have p2:(0:Int)<((all.length-p:Nat):Int):=by omega
       have p3:0<all.length-p:=by omega
       have p4:(0:Int)<=0:=by omega
       have p5:(0:Int).toNat=0:=rfl;have f1:(j:Int)<(y.moves.length:Int):=by omega
       have f2:=jD j;have f3:=ZQ (n:=(j:Int)+1);have f4:=PG y.moves j hj;rw[e]at f4;have f5:=Gx y.moves;have f6:j*2+2<=y.moves.length*2:=by omega
       have f9:=PI y.moves j hj;obtain⟨BJ,EI⟩:∃BJ,BJ=upd σ nx (some ⟨cMove ⟨(a:Int),(c:Int)⟩,0,true⟩):=⟨_,rfl⟩;have b0:BJ nx=some ⟨cMove ⟨(a:Int),(c:Int)⟩,0,true⟩:=by rw[EI,Zi]
       have b1:BJ 1=some ⟨(A8 n out).flatMap cI,1,true⟩:=by rw[EI,Zk];exact hs
       have b2:BJ b=some ⟨cells.flatMap cI,1,true⟩:=by rw[EI,Zk];exact q2
       have z1:b<nx+1:=by omega
       have z2:nx<nx+1:=by omega
       have z3:1<nx+1:=by omega
       have ic:(c:Int)<(n:Int):=by omega
       have b8:=jD c;have ia:(a:Int)<(n:Int):=by omega
       have b9:=jD a;have c0:(a:Int)<(al.length:Int):=by omega
       have a3:a<al.length:=by omega
       have la:=jr out ha;have lc:=jr out hc;have ll:((A8 n out).flatMap cI).length=n:=by rw[qR,jo]
       have v3:(al.flatMap CQ)[a]?=some (Bo (Dt al a)):=by rw[rO a3];exact cu (fun b=>Bo b) al a a3
       have v4:=Gh al;have v5:=TI al a a3;have a8:BX T BJ (nx+1) 8 1 (Ah (all.drop p)):=by rw[EI];exact Yb hq _
       by_cases a9:c=h
       .have c1:((c:Int)==(h:Int))=true:=by simp[a9]
        have ea:∀(a':Nat),y.moves[j]=⟨(a':Int),(h:Int)⟩->a'=a:=fun a' e'=>by
         rw[e]at e';simp only[TV.Move.mk.injEq]at e';omega
        cases b4:Dt al a with
        |false=>
         rw[b4]at v3;refine .inl ⟨_,by simp only[go_sem,t0,t2,t7,O,G,a0,f1,f2,f3,f4,f5,f6,f9,<- EI,b0,b1,b2,q1,q7,z1,z2,z3,p2,p3,p4,p5,c1,ic,b8,ia,b9,c0,a3,ha,hc,v3,v4,v5,la,lc];rfl,?_⟩;simp only[go_sem,t0,t2,t7,O,G];refine⟨rfl,by omega,all,out,hB,hp,eh,b1,gJ a8 (by simp only[go_sem]) (zq _),fun i hi c3 a' e' S=>?_⟩
         by_cases Y:i=j
         .subst Y
          rw[ea a' e',b4]at S;cases S
         .exact hd i hi (by omega) a' e' S
        |true=>
         rw[b4]at v3
         by_cases hm:a∈all
         .have o1:¬out a<0:=fun e8=>(hB.lo a).mp e8 hm
          refine .inl ⟨_,by simp only[go_sem,t0,t2,t7,O,G,a0,f1,f2,f3,f4,f5,f6,f9,<- EI,b0,b1,b2,q1,q7,z1,z2,z3,p2,p3,p4,p5,c1,ic,b8,ia,b9,c0,a3,ha,hc,v3,v4,v5,la,lc,o1];rfl,?_⟩;simp only[go_sem,t0,t2,t7,O,G];refine⟨rfl,by omega,all,out,hB,hp,eh,b1,gJ a8 (by simp only[go_sem]) (zq _),fun i hi c3 a' e' S=>?_⟩
          by_cases Y:i=j
          .subst Y
           rw[ea a' e'];exact hm
          .exact hd i hi (by omega) a' e' S
         .have o1:out a<0:=(hB.lo a).mpr hm
          have e9:DK y a all[p]=true:=by
           rw[<- eh];exact(MF y a h).mpr ⟨j,hj,by rw[e,a9]⟩
          have a6:=hB.add hp hm b4 e9;rw[<- eh,<- a9]at a6;have oc:0<=out c/\out c<10:=by
           have d7:c∈all:=by rw[a9,eh];exact zu hp
           obtain⟨kk,g7,_⟩:=hB.way c d7;have:=hB.bnd c d7;omega
          have w4:=ZQ (n:=out c+1);have st:=I7 (n:=n) out a (out c+1);obtain⟨σ2,DX⟩:∃σ2,σ2=upd BJ 1 (some ⟨(A8 n (put out a (out c+1))).flatMap cI,1,true⟩):=⟨_,rfl⟩;have b5:BX T σ2 (nx+1) 8 1 (Ah (all.drop p)):=by rw[DX];exact Rq a8 _
          have b3:σ2 nx=some ⟨cMove ⟨(a:Int),(c:Int)⟩,0,true⟩:=by rw[DX,Zk];exact b0
          obtain⟨g8,c4,f7,f8⟩:=UJ b5 (by omega) (a:Int) (by rw[Zz,zN];omega);rw[Zz,zN]at c4;rw[q1]at c4;refine .inl ⟨_,by simp only[go_sem,t0,t2,t7,O,G,a0,f1,f2,f3,f4,f5,f6,f9,<- EI,b0,b1,b2,q1,q7,z1,z2,z3,p2,p3,p4,p5,c1,ic,b8,ia,b9,c0,a3,ha,hc,v3,v4,v5,la,lc,ll,o1,w4,st,<- DX,b3,c4];rfl,?_⟩;simp only[go_sem,t0,t2,t7,O,G];have g0:p<(all++[a]).length:=by rw[zo];omega
          refine⟨rfl,by omega,all++[a],_,a6,g0,by rw[yG hp];exact eh,?_,?_,fun i hi c3 a' e' S=>?_⟩
          .rw[f8,DX,Zi]
          .have ed:Ah ((all++[a]).drop p)=Ah (all.drop p)++[(a:Int)]:=by
            rw[vk (by omega)];simp[Ah]
           rw[ed];refine g_ (b:=nx+1+1) ?_ f7 (by omega) (by omega);rw[zo,Zz,zN];simp only[go_sem]
          .by_cases Y:i=j
           .subst Y
            rw[ea a' e'];simp
           .exact zD _ (hd i hi (by omega) a' e' S)
       .have c1:((c:Int)==(h:Int))=false:=by rw[sQ];omega
        refine .inl ⟨_,by simp only[go_sem,t0,t2,t7,O,G,a0,f1,f2,f3,f4,f5,f6,f9,<- EI,b0,b1,b2,q1,q7,z1,z2,z3,p2,p3,p4,p5,c1];rfl,?_⟩;simp only[go_sem,t0,t2,t7,O,G];refine⟨rfl,by omega,all,out,hB,hp,eh,b1,gJ a8 (by simp only[go_sem]) (zq _),fun i hi c3 a' e' S=>?_⟩
        by_cases Y:i=j
        .subst Y
         rw[e]at e';simp only[TV.Move.mk.injEq]at e';omega
        .exact hd i hi (by omega) a' e' S) (by
       clear hL;rintro ⟨T,σ,nx⟩ ⟨t0,t2,t7,O,G,a0,a2,all,out,hB,hp,eh,hs,hq,hd⟩;simp only at t0 t2 t7 O G a0 a2 hs hq;refine⟨_,by simp only[go_sem,G,a0,zl];rfl,by simp,_,_,_,rfl,by simp only[go_sem,t0],by simp only[go_sem,t2],by simp only[go_sem,t7],a2,all,out,hB,hp,eh,hs,gJ hq (by simp only[go_sem]) (zq _),fun i hi=>hd i hi hi⟩) (by
       simp only[go_sem,t0,t2,t7];exact⟨a2,all,out,hB,hp,eh,hs,gJ hq (by simp only[go_sem]) (zq _),fun i hi h0=>absurd h0 (zW _)⟩)
     have a6:=c7.next c8 fun i hi g2=>by
      obtain⟨j,hj,ej⟩:=(MF y i E[p]).mp g2;exact b7 j hj i (by rw[ej,c9]) hi
     have g9:=c7.bound (n:=n) fun i hi=>by have:=rM hi;omega
     have b5:=e7;rw[aA E c8,<- c9]at b5;obtain⟨b',off',J,r1,r2,r3,r4,r5,r6⟩:=b5;have g3:((h:Int) :: Ah (E.drop (p+1))).length=E.length-p:=by rw[zJ,Zz,zN];omega
     rw[g3]at r1 r3;have r7:((J.flatMap cI)).length=J.length:=qR _;have r8:off'+(E.length-p)<=J.length:=by omega
     have r9:1<=E.length-p:=by omega
     have d8:¬(1:Nat)=0:=by decide
     have d9:(0:Int)<=1:=by decide
     have e0:(1:Int).toNat=1:=rfl
     by_cases hl:E.length-p=1
     .rw[hl]at r1 r8
      refine⟨_,by simp only[go_sem,r1,r2,r7,r8,d8,d9,e0,zq];rfl,.inl ⟨_,rfl,m-1,by omega,?_⟩⟩;simp only[go_sem,t0,t2,t7];exact⟨c6,E,p+1,b6,a6,by omega,by omega,d0,.inl (by omega)⟩
     .have S:¬1=E.length-p:=fun e=>hl e.symm
      refine⟨_,by simp only[go_sem,r1,r2,r7,r8,r9,d8,d9,e0,S];rfl,.inl ⟨_,rfl,m-1,by omega,?_⟩⟩;simp only[go_sem,t0,t2,t7];refine⟨c6,E,p+1,b6,a6,by omega,by omega,d0,.inr ⟨by omega,b',off'+1,J,?_,r2,?_,OJ r4,r5,r6⟩⟩
      .simp only[go_sem]
       rw[Zz,zN];congr 1
      .rw[Zz,zN];omega) n (by
    simp only[go_sem];refine⟨by omega,[t],0,_,afo a7,by simp,by omega,?_,.inr ⟨by simp,?_⟩⟩
    .rw[Zk,Zi]
    .refine g_ (b:=nI) (by simp only[go_sem];rfl) ?_ (by omega) (by omega)
     simp only[go_sem];rfl)
  have f0:=fun d=>fin σ out d hs
  simp only[go_sem,t7,f0,c5]
def del(s:Structure)(k:Nat):Structure:=⟨s.joints,s.members.eraseIdx k⟩
theorem oD{α:Type}(l:List α)(k:Nat):(l.eraseIdx k).length<=l.length:=List.length_eraseIdx_le l k
theorem ai6{s:Structure}(h:Ar s)(k:Nat):Ar (del s k) :=
 ⟨h.1,zL (oD _ _) h.2.1,h.2.2.1,fun m hm=>h.2.2.2 m (uj hm)⟩
theorem ac7{s:Structure}(h:okStructure s)(k:Nat):okStructure (del s k) :=
 ⟨h.1,fun m hm=>h.2.1 m (uj hm),zL (zC _ (oD _ _)) h.2.2.1,zL (oD _ _) h.2.2.2⟩
theorem Rt{n k:Nat}{w:List Int}(h:BA n w)(E:k<n):BA (n-1) (w.eraseIdx k) :=
 ⟨by rw[yR (by rw[h.1];exact E),h.1],fun x G=>h.2 x (uj G)⟩
def DV(ms:List Member)(k j:Nat):List Member:=(ms.take j).eraseIdx k
theorem Yc{ms:List Member}{k j:Nat}(E:j<ms.length)(h:j≠k):DV ms k (j+1)=DV ms k j++[ms[j]]:=by
 unfold DV;rw[aJ E];have G:(ms.take j).length=j:=by rw[zh];omega
 by_cases J:k<j
 .rw[List.eraseIdx_append_of_lt_length (by omega)]
 .have O:[ms[j]].eraseIdx (k - (ms.take j).length)=[ms[j]]:=List.eraseIdx_of_length_le (by rw[G,yM];omega)
  have S:(ms.take j).eraseIdx k=ms.take j:=List.eraseIdx_of_length_le (by omega);rw[List.eraseIdx_append_of_length_le (by omega),O,S]
theorem ac8{ms:List Member}{k:Nat}(E:k<ms.length):DV ms k (k+1)=DV ms k k:=by
 unfold DV;have G:(ms.take k).length=k:=by rw[zh];omega
 have J:(ms.take k).eraseIdx k=ms.take k:=List.eraseIdx_of_length_le (by omega);rw[aJ E,List.eraseIdx_append_of_length_le (by omega),G,yP,J];simp
theorem Yd(ms:List Member)(k j:Nat):(DV ms k j).length<=j:=by
 unfold DV;have:=oD (ms.take j) k;rw[zh]at this;omega
theorem OM(σ:Store)(d:Nat):∀ {cells:List V},(cells.all agX)=true->DC (own σ d) cells=some (cells,[])
 |[],_=>rfl
 |v :: cells,h=>by
  rw[uO,zB]at h;unfold DC;rw[OM σ d h.2];cases v<;>first|(cases d<;>rfl)|cases h.1
theorem afy(E:List Joint):((E.flatMap cJoint).all agX)=true:=by
 induction E with
 |nil=>rfl
 |cons j E G=>exact G
theorem KQ(E:List Joint):((E.flatMap cJoint).all pI)=true:=by
 induction E with
 |nil=>rfl
 |cons j E G=>exact G
theorem amH(E:List Joint)(h:E.length<=1000000)(nx:Nat):∃v G J ids,D9 4 [LL cJoint E] lI nx=some (v,G,J)/\nx<=J/\Own G 1 v (LL cJoint E) ids/\∀b∈ids,nx<=b/\b<J:=by
 have O:=EN E;have e:D9 4 [LL cJoint E] lI nx=if E.length=0 then some (.nil,lI,nx)else some (.rs nx 0 E.length,Ai lI nx (E.flatMap cJoint) 4,nx+1):=by
  show(if(E.flatMap cJoint).length=E.length*4/\E.length<=1000000/\_ then _ else _)=_;rw[sS ⟨O,h,KQ E⟩]
 rw[e]
 by_cases S:E.length=0
 .have:E=[]:=zZ S
  subst this;exact⟨.nil,lI,nx,[],rfl,zq _,iP _ _,by simp⟩
 .rw[sW S]
  refine⟨_,_,_,[nx],rfl,by omega,⟨?_,by simp⟩,by simp⟩;have Y:=OM (Ai lI nx (E.flatMap cJoint) 4) 0 (afy E);simp only[own,Ai,Zi]at Y⊢;rw[sS ⟨trivial,trivial,O.symm⟩,Y]
theorem Ye{σ:Store}{d:Nat}{α:Type}{c:α->List V}{v:V}{xs:List α}{ids:List Nat}(h:Own σ (d+1) v (LL c xs) ids):pI v=true:=by
 obtain⟨h,_⟩:=h;cases v<;>simp only[own]at h<;>first|rfl|(cases h;done)|(split at h<;>simp at h)
theorem ai7(s:Structure)(hj:s.joints.length<=1000000)(hm:s.members.length<=1000)(k:Nat)(hk:k<s.members.length):fn ZH Bh Dk 79 [.agg (cStructure s),.ts [I k] 1]=some (.agg (cStructure (del s k))):=by
 obtain⟨v,b2,G,ids,k1,c3,o1,O⟩:=amH s.joints hj 2;have g1:=fun d=>o1.gather (d':=d+1) (by omega)
 have c1:=Ye o1;have c2:=qA c1;obtain⟨Xu,ea⟩:∃Xu,Xu=Cb 2 (upd (upd lI 0 (some ⟨cStructure s,0,true⟩)) 1 (some ⟨[.nil,.nil],0,true⟩)) b2 ids:=⟨_,rfl⟩;have oa:Own Xu 1 v (LL cJoint s.joints) ids:=by rw[ea];exact o1.join fun b hb=>(O b hb).1
 have a0:Xu 0=some ⟨cStructure s,0,true⟩:=by rw[ea,jw (by omega)];rfl
 have a1:Xu 1=some ⟨[.nil,.nil],0,true⟩:=by rw[ea,jw (by omega)];rfl
 rw[mM,nG [.cell 4 34] [] func79];have n0:¬G=0:=by omega
 have b3:¬0=G:=by omega
 have n2:¬G=1:=by omega
 have a8:¬1=G:=by omega
 simp only[go_sem,k1,g1,c1,c2,<- ea,a0,a1,n0,b3,n2,a8];generalize hL:dI _ _=y;obtain⟨x,rfl,T,σ,nx,rfl,t4,t5,w,h1,E,o2,hg,hw⟩:=pF hL s.members.length (fun j st=>st.T 1= .ts [I k] 1/\st.T 4= .rp 1 0/\st.T 5= .rp G 0/\st.T 13=LL cMember s.members/\st.T 14=I s.members.length/\st.T 15=I j/\G<st.nx/\∃w,st.σ 1=some ⟨[.nil,.nil],0,true⟩/\st.σ G=some ⟨[v,w],0,true⟩/\Own st.σ 1 v (LL cJoint s.joints) ids/\Cj cMember 3 (fun _=>w) st.σ st.nx 0 (DV s.members k j)/\∀b o l,w= .rs b o l->G<b)
  (fun x=>∃T σ nx,x=(.exit 0,⟨T,σ,nx⟩)/\T 4= .rp 1 0/\T 5= .rp G 0/\∃w,σ 1=some ⟨[.nil,.nil],0,true⟩/\σ G=some ⟨[v,w],0,true⟩/\Own σ 1 v (LL cJoint s.joints) ids/\Cj cMember 3 (fun _=>w) σ nx 0 (DV s.members k s.members.length)/\∀b o l,w= .rs b o l->G<b) (by
   clear hL;rintro j ⟨T,σ,nx⟩ hj ⟨t1,t4,t5,S,J,Y,a5,w,h1,E,o2,hg,hw⟩;simp only at t1 t4 t5 S J Y a5 h1 E o2 hg;have f1:(j:Int)<(s.members.length:Int):=by omega
   have f2:=jD j;have f3:=ZQ (n:=(j:Int)+1);have f4:=Lc s.members j hj;have f5:=Gg s.members;have f6:j*3+3<=s.members.length*3:=by omega
   have f9:=Lh s.members j hj;have k2:=apt [(k:Int)] (j:Int) (by simp);have hle:=Yd s.members k j;have z1:¬G=nx:=by omega
   have z2:¬nx=G:=by omega
   have z3:¬1=nx:=by omega
   have o3:=fun x=>(Own.upd (σ:=σ) (d:=1) (v:=v) (t:=LL cJoint s.joints) (ids:=ids) (c:=nx) (x:=x) (fun hb=>by have:=(O nx hb).2;omega)).symm ▸ o2
   obtain⟨m1,em⟩:∃m1,m1=s.members[j]:=⟨_,rfl⟩;rw[<- em]at f4
   by_cases a6:j=k
   .have km:decide ((j:Int)∈[(k:Int)])=true:=by rw[a6];simp
    rw[km]at k2;have a7:fn ZH conv ext 109 [.ts [I k] 1,I j]=some (Bo true):=k2
    refine .inl ⟨_,by simp only[go_sem,t1,t4,t5,S,J,Y,f1,f2,f3,f4,f5,f6,f9,hj,a7];rfl,?_⟩;simp only[go_sem,t1,t4,t5,S,J,z1,z2,z3,h1,E];have ek:DV s.members k (j+1)=DV s.members k j:=by subst a6;exact ac8 hj
    rw[ek];exact⟨rfl,by omega,w,rfl,o3 _,lC hg _,hw⟩
   .have km:decide ((j:Int)∈[(k:Int)])=false:=by simp;omega
    rw[km]at k2;have a7:fn ZH conv ext 109 [.ts [I k] 1,I j]=some (Bo false):=k2
    have b4:=lC hg (some ⟨cMember m1,0,true⟩);obtain⟨σ',ha,hs,b5⟩:=ku (c:=cMember) (s:=3) (bytes:=24) (fun _=>rfl) (fun _=>rfl) (by decide) b4 m1 (by omega) (by decide);have y1:∀q,q<nx->(∀b o l,w= .rs b o l->q≠b)->σ' q=σ q:=fun q hq b6=>by
     rw[b5 q (by omega) (fun b o l h=>b6 b o l h),Zk]
    have y2:σ' G=some ⟨[v,w],0,true⟩:=by rw[y1 G a5 (fun b o l h e=>by have:=hw b o l h;omega)];exact E
    have y3:σ' 1=some ⟨[.nil,.nil],0,true⟩:=by rw[y1 1 (by omega) (fun b o l h e=>by have:=hw b o l h;omega)];exact h1
    have o4:Own σ' 1 v (LL cJoint s.joints) ids:=o2.frame fun q hq=>y1 q (by have:=(O q hq).2;omega) (fun b o l h e=>by have:=hw b o l h;have:=(O q hq).2;omega)
    refine .inl ⟨_,by simp only[go_sem,t1,t4,t5,S,J,Y,f1,f2,f3,f4,f5,f6,f9,hj,a7,z1,z2,z3,E,ha,y2];rfl,?_⟩;simp only[go_sem,t1,t4,t5,S,J];rw[Yc hj a6,<- em];refine⟨rfl,by omega,_,?_,rfl,?_,?_,?_⟩
    .rw[Zk];exact y3
    .exact(Own.upd (fun hb=>by have:=(O G hb).2;omega)).symm ▸ o4
    .refine .inr ⟨nx+1+1,by rw[zo];rfl,by simp,?_,by omega⟩
     rw[Zk];exact hs
    .intro b o l hb
     cases hb;omega) (by
   clear hL;rintro ⟨T,σ,nx⟩ ⟨t1,t4,t5,S,J,Y,a5,w,h1,E,o2,hg,hw⟩;simp only at t1 t4 t5 S J Y a5 h1 E o2 hg;exact⟨_,by simp only[go_sem,J,Y,zl];rfl,by simp,_,_,_,rfl,by simp only[go_sem,t4],by simp only[go_sem,t5],w,h1,E,o2,hg,hw⟩) (by
   simp only[go_sem,n2,a8,a1];exact⟨by omega,_,rfl,(Own.upd (c:=G) (fun hb=>by have:=(O _ hb).2;omega)).symm ▸ oa,.inl ⟨rfl,rfl⟩,fun b o l h=>by cases h⟩)
 have ek:DV s.members k s.members.length=(del s k).members:=by
  unfold DV del;rw[yg]
 rw[ek]at hg;have z3:¬1=G:=by omega
 have cw:pI w=true:=by
  rcases hg with ⟨a,_⟩|⟨b,a,_⟩
  .have a:w= .nil:=a
   rw[a];rfl
  .have a:w= .rs b 0 _:=a
   rw[a];rfl
 obtain⟨a9,b7⟩:∃a9,stripL (strip (upd σ 1 (some ⟨[v,w],0,true⟩)) 6) [v,w]=some ([LL cJoint s.joints,LL cMember (del s k).members],a9):=by
  have hv:=o2.strip (d':=6) (by omega);have b8:strip (upd σ 1 (some ⟨[v,w],0,true⟩)) 6 v=some (LL cJoint s.joints,ids):=by
   have:=((Own.upd (σ:=σ) (d:=1) (v:=v) (t:=LL cJoint s.joints) (ids:=ids) (c:=1) (x:=some ⟨[v,w],0,true⟩) (fun hb=>by have:=(O 1 hb).1;omega)).symm ▸ o2).strip (d':=6) (by omega);exact this
  have b9:Cj cMember 3 (fun _=>w) (upd σ 1 (some ⟨[v,w],0,true⟩)) nx 0 (del s k).members:=by
   rcases hg with ⟨a,b⟩|⟨b,a1,a2,a3,a4⟩
   .exact .inl ⟨a,b⟩
   .exact .inr ⟨b,a1,a2,by rw[Zj _ _ (by have:=hw _ _ _ a1;omega)];exact a3,a4⟩
  obtain⟨is,c0⟩:=kX (c:=cMember) (s:=3) (fun _=>rfl) 5 (fun x=>by rw[au,aQ,au,aQ,au,aQ,aZ];rfl) b9;refine⟨ids++(is++[]),?_⟩;rw[au,b8,au,c0,aZ];rfl
 simp only[go_sem,t4,t5,h1,E,z3,b7,c1,cw];rfl
theorem jS(xs:List Int):xs.flatMap cI=xs.map I:=by
 induction xs with
 |nil=>rfl
 |cons x xs E=>show I x :: xs.flatMap cI=_;rw[E];rfl
theorem Yf(xs:List Int)(k:Nat):(xs.flatMap cI).eraseIdx k=(xs.eraseIdx k).flatMap cI:=by rw[jS,jS,jR]
theorem afz{σ:Store}{b:Nat}{xs:List Int}{ex:List V}{n:Nat}(h:σ b=some ⟨xs.flatMap cI++ex,1,true⟩)(hn:xs.length=n)(d:Nat):strip σ (d+1) (.rs b 0 n)=some (LI xs,[b]):=by
 rw[aS,h];simp only[zi,yQ,yX,yY];rw[sS (by rw[zo,qR];omega),xM (by rw[qR,hn]),Dp];show some (V.ts _ n,[b])=_;rw[<- hn]
theorem Yg{P:Program}{σ:Store}{t:TypeId}{b off len:Nat}{lo hi E:V}(h:(yI P t).slice=true)(G:(yI P t).Pj=true):AQ P t (.rs b off len) (some lo) (some hi) (some E) σ=(bnd (some lo) 0).bind fun l=>(bnd (some hi) 0).bind fun h=>(bnd (some E) 0).bind fun m=>if l<=h/\h<=m/\m<=len then some .junk else none:=by
 obtain⟨e,Y,z,J,O,h3,h4,S,h6,h7⟩:=Zl h G;unfold AQ;simp only[J,O,S];cases bnd (some lo) 0<;>cases bnd (some hi) 0<;>cases bnd (some E) 0<;>rfl
attribute [go_sem] Yg
theorem amI{σ:Store}{nx b:Nat}{w:List Int}{n k:Nat}(hb:σ b=some ⟨w.flatMap cI,1,true⟩)(J:b<nx)(hw:w.length=n)(hn:n<=1000)(hk:k<n) :
  ∃σ',ev ZH Bh Dk 80 [.rs b 0 n,I k,I ((k:Int)+1)] σ nx=some (.rs b 0 (n-1),σ',nx)/\(∃ex,σ' b=some ⟨(w.eraseIdx k).flatMap cI++ex,1,true⟩)/\∀c,c≠b->σ' c=σ c:=by
 have G:(w.flatMap cI).length=n:=by rw[qR,hw]
 have e1:((k:Int)==(k:Int)+1)=false:=by rw[sQ];omega
 have i0:=jD k;have i1:(0:Int)<=(k:Int)+1:=by omega
 have i2:((k:Int)+1).toNat=k+1:=by omega
 have i3:k<=k+1:=by omega
 have i4:k+1<=n:=hk;have i5:¬k+1=0:=by omega
 have i6:k<=n:=by omega
 have i7:=jD n;rw[nG [.tmp 6] [5] func80];have O:¬n=0:=by omega
 have z1:∀(c:Nat) (x:Option E_),c≠b->upd σ b x c=σ c:=fun c x h=>Zj _ _ h
 by_cases E:k+1=n
 .have m1:n-1=k:=by omega
  have m3:n-k=1:=by omega
  have a0:¬k=n:=by omega
  have ha:=XI (restrict σ [b]) nx 1 8 b 0 k [] (B:=⟨w.flatMap cI,1,true⟩) (by rw[fH];exact hb);have le:∃ex,patch (w.flatMap cI) k [I 0]=(w.eraseIdx k).flatMap cI++ex:=by
   rw[iG _ _ _ (by rw[G];simp;omega),<- Yf,uz,xk (l:=w.flatMap cI) (i:=k+1) (by omega),zK,z_];exact⟨_,rfl⟩
  by_cases S:k=0
  .have a1:(k=0)=True:=eq_true S
   have hr:rep n [I 0]=[I 0]:=by
    have:n=1:=by omega
    rw[this];rfl
   have a3:0+n<=n:=by omega
   simp only[go_sem,hb,G,J,e1,i0,i1,i2,i3,i4,i5,i6,i7,E,a0,ha,O,a1,zF,zq,FX,m1,hr,a3];exact⟨_,rfl,by rw[Zi];obtain⟨ex,e⟩:=le;exact⟨ex,by rw[<- e,S,iE]⟩,fun c hc=>Zj _ _ hc⟩
  .simp only[go_sem,hb,G,J,e1,i0,i1,i2,i3,i4,i5,i6,i7,E,a0,ha,O,S,m3,zF,zq,FX,m1]
   exact⟨_,rfl,by rw[Zi];obtain⟨ex,e⟩:=le;exact⟨ex,by rw[<- e];rfl⟩,fun c hc=>Zj _ _ hc⟩
 .have m1:¬n - (k+1)=0:=by omega
  have m2:((w.flatMap cI).drop (k+1)).take (n - (k+1))=(w.flatMap cI).drop (k+1):=zk (by rw[zN,G];omega);have i8:k+1+(n - (k+1))<=n:=by omega
  have rl:((w.flatMap cI).drop (k+1)).length=n - (k+1):=by rw[zN,G]
  have Y:((w.flatMap cI).drop (k+1)).all pI=true:=by
   rw[jS,<- List.map_drop,<- jS];exact qU _
  obtain⟨Pc,hP⟩:∃Pc,Pc=patch (w.flatMap cI) k ((w.flatMap cI).drop (k+1)):=⟨_,rfl⟩;have a2:Pc.length=n:=by
   rw[hP,iG _ _ _ (by rw[rl,G];omega)];simp only[zo,zh,zN,G];omega
  obtain⟨a6,a4⟩:∃ex,Pc=(w.eraseIdx k).flatMap cI++ex:=by
   obtain⟨ex,e⟩:=iF (w.flatMap cI) [] (i:=k) (m:=n) G hk m1;rw[zK]at e;exact⟨ex,by rw[hP,e,Yf]⟩
  have ha:=apy (σ:=restrict σ [b,b]) (nx:=nx) (bytes:=8) (b:=b) (len:=k) (m:=n - (k+1)) (row:=(w.flatMap cI).drop (k+1)) (cells:=w.flatMap cI) (by rw[fG];exact hb) m1 (by rw[G];omega) Y;rw[<- hP]at ha;have m5:k+(n - (k+1))=n-1:=by omega
  rw[m5]at ha;have j1:((n-1:Nat):Int).toNat=n-1:=zF _;have j2:(0:Int)<=((n-1:Nat):Int):=by omega
  have j3:n-1<=n:=by omega
  have j4:¬n-1=0:=by omega
  have j5:¬n-1=n:=by omega
  have j6:n - (n-1)=1:=by omega
  have j7:n-1+1<=n:=by omega
  have le:∃ex,patch Pc (n-1) [I 0]=(w.eraseIdx k).flatMap cI++ex:=by
   have a5:((w.eraseIdx k).flatMap cI).length=n-1:=by rw[qR,yR (by omega),hw]
   rw[iG _ _ _ (by rw[a2];simp;omega),a4,xM a5,z_];exact⟨_,rfl⟩
  simp only[go_sem,hb,G,J,e1,i0,i1,i2,i3,i4,i5,i6,i7,i8,E,m1,m2,ha,O,zF,zq,j1,j2,j3,j4,j5,j6,j7,a2,FX];exact⟨_,rfl,by rw[Zi];obtain⟨ex,e⟩:=le;exact⟨ex,by rw[<- e];rfl⟩,fun c hc=>Zj _ _ hc⟩
def DW(s:Structure)(l w:List Int):Prop:=fn ZH qI Af 43 [.agg (cStructure s),LI l,LI w]=some (Bo true)
theorem OO{s:Structure}(h:Ar s)(E:okStructure s){l w:List Int}(G:Az s.joints.length l)(hw:BA s.members.length w) :
  fn ZH qI Af 43 [.agg (cStructure s),LI l,LI w]=some (Bo (pb (DW s l w))):=by
 obtain⟨b,r,k,_⟩:=amB h E G hw;rw[k];cases b with
 |true=>
  have:DW s l w:=k;rw[h_ this]
 |false=>
  have:¬DW s l w:=fun e=>by unfold DW at e;rw[k]at e;cases e
  rw[iC this]
noncomputable def upto(s:Structure)(l w:List Int)(n:Nat):Bool:=(List.range n).all fun k=>pb (DW (del s k) l (w.eraseIdx k))
theorem upto_succ(s:Structure)(l w:List Int)(n:Nat):upto s l w (n+1)=(upto s l w n && pb (DW (del s n) l (w.eraseIdx n))):=by simp[upto,wY]
theorem Zg{s:Structure}{l w:List Int}{k n:Nat}(E:k<n)(h:pb (DW (del s k) l (w.eraseIdx k))=false):upto s l w n=false:=by
 unfold upto;rw[List.all_eq_false];exact⟨k,by simpa using E,by rw[h];simp⟩
noncomputable def I8(s:Structure)(l w:List Int):Bool:=pb (DW s l w) && upto s l w s.members.length
theorem amJ(w:List Int)(hw:w.length<=1000)(E:w.length≠0)(nx:Nat):Fv [LI w] lI nx=some (.rs nx 0 w.length,Ai lI nx (w.flatMap cI) 1,nx+1):=by
 show(if(w.flatMap cI).length=w.length/\w.length<=17592186044000/\(w.flatMap cI).all pI=true then _ else none)=_;rw[sS ⟨qR w,by omega,qU w⟩,sW E]
theorem Yh{s:Structure}(h:Ar s)(ho:okStructure s){l w:List Int}(hl:Az s.joints.length l)(hw:BA s.members.length w) :
  fn ZH Bh Dk 42 [.agg (cStructure s),LI l,LI w]=some (Bo (I8 s l w)):=by
 have k1:=OO h ho hl hw;have a5:=h.2.1;have YK:=h.1;have O:=hw.1;unfold I8;rw[mM,nG [.tmp 6] [] func42];cases hs:pb (DW s l w)with
 |false=>
  rw[hs]at k1;simp only[go_sem,k1]
 |true=>
  rw[hs]at k1;simp only[go_sem,k1];generalize hL:dI _ _=y;obtain⟨x,rfl,hx⟩:=pF hL s.members.length (fun j st=>st.T 1=LI l/\st.T 2=LI w/\st.T 3= .rp 0 0/\st.T 15=I s.members.length/\st.T 16=I j/\0<st.nx/\st.σ 0=some ⟨cStructure s,0,true⟩/\upto s l w j=true)
   (fun x=>∃T σ nx,(x=(.exit 0,⟨T,σ,nx⟩)/\upto s l w s.members.length=true)\/(x=(.ret,⟨T,σ,nx⟩)/\T 6=Bo false/\upto s l w s.members.length=false)) (by
    clear hL;rintro j ⟨T,σ,nx⟩ hj ⟨t1,t2,t3,E,G,a1,J,hu⟩;simp only at t1 t2 t3 E G a1 J;have f1:(j:Int)<(s.members.length:Int):=by omega
    have f2:=jD j;have f3:=ZQ (n:=(j:Int)+1);have k2:=ai7 s (by omega) (by omega) j hj;have k3:=amJ w (by omega) (by omega) (nx+1);rw[O]at k3;obtain⟨S,eS⟩:∃S,S=del s j:=⟨_,rfl⟩;rw[<- eS]at k2;have hlen:(w.eraseIdx j).length=s.members.length-1:=by rw[yR (by omega),O]
    have a2:S.joints=s.joints:=by rw[eS];rfl
    have a3:S.members.length=s.members.length-1:=by
     rw[eS];unfold del;exact yR hj
    have k5:=OO (s:=S) (l:=l) (w:=w.eraseIdx j) (by rw[eS];exact ai6 h j) (by rw[eS];exact ac7 ho j) (by rw[a2];exact hl) (by rw[a3];exact Rt hw hj);have oc:Own (Ai lI (nx+1) (w.flatMap cI) 1) 1 (.rs (nx+1) 0 s.members.length) (LI w) [nx+1]:=by
     have:=iO (σ:=Ai lI (nx+1) (w.flatMap cI) 1) (d:=0) (b:=nx+1) (st:=1) (xs:=w) (by unfold Ai;rw[Zi]) (by omega)
     rwa [O]at this
    have gc:=fun d=>oc.gather (d':=d+1) (by omega)
    unfold Ai at k3 gc;obtain⟨Y,e1⟩:∃Y,Y=upd σ nx (some ⟨[I j],1,flat 7 (.agg (cStructure S))⟩):=⟨_,rfl⟩;have b1:Y 0=some ⟨cStructure s,0,true⟩:=by rw[e1,Zk];exact J
    obtain⟨σ2,e2⟩:∃σ2,σ2=Cb (nx+1) Y (upd lI (nx+1) (some ⟨w.flatMap cI,1,true⟩)) [nx+1]:=⟨_,rfl⟩;have b2:σ2 0=some ⟨cStructure s,0,true⟩:=by rw[e2,jw (by omega)];exact b1
    have b3:σ2 (nx+1)=some ⟨w.flatMap cI,1,true⟩:=by rw[e2,jy (by omega) (by simp),Zi]
    obtain⟨a4,k4,⟨ex,b4⟩,b5⟩:=amI (nx:=nx+1+1) (k:=j) b3 (by omega) O (by omega) hj;have b6:a4 0=some ⟨cStructure s,0,true⟩:=by rw[b5 0 (by omega)];exact b2
    have st:=fun d=>afz b4 hlen d
    have f4:=ZQ (n:=(j:Int)+1);have us:=upto_succ s l w j;rw[<- eS]at us;cases a0:pb (DW S l (w.eraseIdx j))with
    |true=>
     rw[a0]at k5 us;refine .inl ⟨_,by simp only[go_sem,qJ,t1,t2,t3,E,G,J,f1,f2,f3,k2,<- e1,k3,gc,<- e2,k4,st,k5,b6];rfl,?_⟩;simp only[go_sem,t1,t2,t3,E,b6];exact⟨rfl,by omega,by rw[us,hu];rfl⟩
    |false=>
     rw[a0]at k5;refine .inr ⟨_,by simp only[go_sem,qJ,t1,t2,t3,E,G,J,f1,f2,f3,k2,<- e1,k3,gc,<- e2,k4,st,k5,b6];rfl,by simp,_,_,_,.inr ⟨rfl,by simp only[go_sem],?_⟩⟩;rw[eS]at a0;exact Zg hj a0) (by
    rintro ⟨T,σ,nx⟩ ⟨t1,t2,t3,E,G,a1,J,hu⟩;simp only at t1 t2 t3 E G a1 J;exact⟨_,by simp only[go_sem,E,G,zl];rfl,by simp,_,_,_,.inl ⟨rfl,hu⟩⟩) (by
    simp only[go_sem];rfl)
  obtain⟨T,σ,nx,⟨rfl,hu⟩|⟨rfl,t6,hu⟩⟩:=hx
  .rw[hu]
   simp only[go_sem]
  .rw[hu]
   simp only[go_sem,t6]
noncomputable def I9(t:Stance)(strict:Bool):Bool:=CO t && (if strict=true then I8 t.st t.load t.limits else pb (DW t.st t.load t.limits))
theorem I_{t:Stance}(h:CO t=true):Ar t.st/\Az t.st.joints.length t.load/\BA t.st.members.length t.limits:=by
 unfold CO at h;simp only[zB]at h;exact⟨Ip h.2.1.1,Ip h.2.1.2,Ip h.2.2⟩
theorem Yi(t:Stance)(G:okStance t)(strict:Bool):fn ZH Bh Dk 13 [.agg (cStance t),Bo strict]=some (Bo (I9 t strict)):=by
 have E:=Qv t G;unfold I9;rw[mM,nG [.tmp 4] [] func13];cases hs:CO t with
 |false=>
  rw[hs]at E;simp only[go_sem,E]
 |true=>
  rw[hs]at E;obtain⟨J,O,S⟩:=I_ hs;have Y:=Yh J G.2.1 O S;have k3:=OO J G.2.1 O S;cases strict with
  |true=>simp only[go_sem,E,Y]
  |false=>simp only[go_sem,E,k3]
theorem amK{α:Type}{xs:List α}{n k:Nat}(d:α)(E:k<xs.length)(hn:xs.length=n):(xs.take k++List.replicate (n-k) d).set k xs[k]=xs.take (k+1)++List.replicate (n - (k+1)) d:=by
 have G:(xs.take k).length=k:=by rw[zh];omega
 rw[yC _ _ (by omega),G,yP,show n-k=n - (k+1)+1 by omega,xR,vg,aJ E,z_];rfl
theorem Ru(n:Nat):rep n [Bo false]=(List.replicate n false).flatMap CQ:=QM n
noncomputable def Ae(y:Yard):List Bool:=y.stances.map fun t=>I9 t y.strict
theorem dK(y:Yard):(Ae y).length=y.stances.length:=by simp[Ae]
theorem OQ{σ:Store}{b:Nat}{xs:List Bool}(h:σ b=some ⟨xs.flatMap CQ,1,true⟩){n:Nat}(hn:xs.length=n)(d:Nat):strip σ (d+1) (.rs b 0 n)=some (LL CQ xs,[b]):=by
 have E:(xs.flatMap CQ).length=xs.length:=by rw[Gh,yQ]
 rw[aS,h];simp only[zi,yQ,yX,yY,E];rw[sS (by omega),zk (by omega),aY (fun x=>by rw[au,aQ,aZ];rfl)];show some (V.ts _ n,[b])=_;rw[<- hn]
theorem ai8(y:Yard)(ho:okYard y)(G5:y.stances.length<=6):fn ZH Bh Dk 54 [.tp (cYard y) 0]=some (LL CQ (Ae y)):=by
 obtain⟨n,en⟩:∃n,n=y.stances.length:=⟨_,rfl⟩;have e1:1*(n:Int)<=281474976710656:=by omega
 have e2:(n:Int)<=9223372036854775807:=by omega
 have e3:=jD n;have a6:=dK y;rw[mM,nG [.tmp 2] [5] func54];simp only[go_sem,<- en,e1,e2,e3,yD];generalize hL:dI _ _=z;obtain⟨r,rfl,T',σ',nx',rfl,O,hs⟩:=pF hL n (fun k s=>1<=s.nx/\s.T 0= .tp (cYard y) 0/\s.T 3= .rs 0 0 n/\s.T 15=LL cStance y.stances/\s.T 16=I n/\s.T 17=I k/\s.σ 0=some ⟨((Ae y).take k++List.replicate (n-k) false).flatMap CQ,1,true⟩)
  (fun r=>∃T σ nx',r=(.exit 0,⟨T,σ,nx'⟩)/\T 3= .rs 0 0 n/\σ 0=some ⟨(Ae y).flatMap CQ,1,true⟩) (by
   clear hL;rintro k ⟨T,σ,m⟩ hk ⟨hm,Y,O,G,E,J,hs⟩;simp only at hm Y O G E J hs;have S:k<y.stances.length:=by omega
   have a0:k<(Ae y).length:=by omega
   have f1:(k:Int)<(n:Int):=by omega
   have f2:=jD k;have f3:=ZQ (n:=(k:Int)+1);have f4:=Td y.stances k S;have f5:=Il y.stances;rw[<- en]at f5;have f6:k*5+5<=n*5:=by omega
   have f9:=Tf y.stances k S;have f7:(((Ae y).take k++List.replicate (n-k) false).flatMap CQ).length=n:=by
    rw[Gh,yQ,zo,zh,yj];omega
   have k1:=Yi y.stances[k] (ho.1.1 _ (zu S)) y.strict;have es:(Ae y)[k]=I9 y.stances[k] y.strict:=by simp[Ae]
   have f8:=LV ((Ae y).take k++List.replicate (n-k) false) k (Ae y)[k];rw[amK false a0 (by omega),es]at f8;have nz:¬0=m:=by omega
   have a1:¬m=0:=by omega
   have a2:k<n:=hk;have a3:0<m+1:=by omega
   have a4:m<m+1:=by omega
   obtain⟨t,et⟩:∃t,t=y.stances[k]:=⟨_,rfl⟩;rw[<- et]at f4 k1 f8;obtain⟨sb,eb⟩:∃sb,sb=I9 t y.strict:=⟨_,rfl⟩;rw[<- eb]at k1 f8;refine .inl ⟨_,by simp only[go_sem,<- en,Y,O,G,E,J,hs,f1,f2,f3,f4,f5,f6,f7,f8,f9,a2,a3,a4,k1,nz,a1];rfl,?_⟩;simp only[go_sem,Y,O,G,E];rfl) (by
   clear hL;rintro ⟨T,σ,m⟩ ⟨hm,Y,O,G,E,J,hs⟩;simp only at hm Y O G E J hs;rw[zk (by omega),yP,List.replicate_zero,zK]at hs;exact⟨_,by simp only[go_sem,E,J,zl];rfl,by simp,_,_,_,rfl,by simp only[go_sem,O],hs⟩) (by
   simp only[go_sem];rw[<- Ru])
 have a5:=fun d=>OQ hs (n:=n) (by omega) d
 simp only[go_sem,O,a5]
theorem ai9(y:Yard)(E:AA y)(i:Int):fn ZH Bh Dk 63 [.tp (cYard y) 0,I i]=some (LI (DT (Aw y.moves i) y.stances.length)):=by
 obtain⟨v,G,O,ids,k,_,J,_⟩:=aeV y E i 0;rw[ap9,mM,k];simp only[go_sem,J.strip (d':=7) (by omega)]
def nexts(y:Yard)(a:Nat):List Nat:=(List.range y.stances.length).filter (DK y a)
theorem J5(y:Yard)(a:Nat):DT (Aw y.moves (a:Int)) y.stances.length=Ah (nexts y a):=rfl
theorem abG(l:List Nat){j:Nat}(h:j<l.length):(Ah l)[j]'(by rw[Zz];exact h)=(l[j]:Int):=by simp[Ah]
theorem J6(l:List Nat){j:Nat}(h:j<l.length):((Ah l).flatMap cI)[j]?=some (I (l[j]:Int)):=by
 rw[idx (xs:=Ah l) (k:=j) (by rw[Zz];exact h),abG l h]
theorem ac9{α:Type}{p:α->Bool}:∀ {l:List α} {j:Nat} (h:j<l.length),(∀i (hi:i<l.length),i<j->p l[i]=false)->p l[j]=true->l.find? p=some l[j]
 |[],_,h,_,_=>absurd h (zW _)
 |x :: l,0,_,_,h=>by
  have h:p x=true:=h;simp[List.find?_cons,h]
 |x :: l,j+1,hj,hlo,h=>by
  have E:p x=false:=hlo 0 (by simp) (by omega);have:=ac9 (l:=l) (j:=j) (by rw[zJ]at hj;omega) (fun i hi G=>hlo (i+1) (by rw[zJ];omega) (by omega)) h;simp only[List.find?_cons,E];exact this
theorem ai_{y:Yard}{out:Nat->Int}{a j:Nat}(h:j<(nexts y a).length)(E:∀i (hi:i<(nexts y a).length),i<j->(out (nexts y a)[i]==out a-1)=false)(G:(out (nexts y a)[j]==out a-1)=true):Jk (DK y) out y.stances.length a=(nexts y a)[j]:=by
 have J:=ac9 (p:=fun i=>out i==out a-1) h E G;unfold Jk;have O:(List.range y.stances.length).find? (fun i=>DK y a i && (out i==out a-1))=(nexts y a).find? (fun i=>out i==out a-1):=by
  unfold nexts;rw[List.find?_filter];congr 1;funext i;generalize DK y a i=b1;generalize (out i==out a-1)=b2;cases b1<;>cases b2<;>rfl
 rw[O,J];rfl
theorem OT{y:Yard}{a j:Nat}(h:j<(nexts y a).length):(nexts y a)[j]<y.stances.length:=by
 have:=zu h;exact List.mem_range.mp (List.mem_filter.mp this).1
theorem OU(y:Yard)(a:Nat):(nexts y a).length<=y.stances.length:=by
 unfold nexts;exact zL (List.length_filter_le _ _) (by simp)
theorem OV{y:Yard}{al:List Bool}(G:al.length=y.stances.length){to a:Nat}(h:0<dst (DK y) (Dt al) to a):∃j,∃E:j<(nexts y a).length,(dst (DK y) (Dt al) to (nexts y a)[j]==dst (DK y) (Dt al) to a-1)=true:=by
 obtain⟨J,O,S⟩:=aiF (mv:=DK y) (al:=Dt al) (n:=y.stances.length) (to:=to) (a:=a) (fun i hi=>by have:=rM hi;omega) h;have hm:Jk (DK y) (dst (DK y) (Dt al) to) y.stances.length a∈nexts y a:=by
  unfold nexts;rw[List.mem_filter];exact⟨by simpa using J,O⟩
 obtain⟨j,E,e⟩:=yV hm;exact⟨j,E,by rw[e,S];simp⟩
noncomputable def AY(y:Yard)(fr to:Int):Bool:=pb (AA y) && (decide (0<=fr) && decide (fr<(y.stances.length:Int)) && decide (0<=Pm y (Ae y) to fr.toNat))
noncomputable def FP(y:Yard)(fr to:Int):List Int:=if AY y fr to=true then Ah (plan (DK y) (Pm y (Ae y) to) y.stances.length fr.toNat)else []
theorem MG{y:Yard}{al:List Bool}{to:Int}{i:Nat}(h:0<=Pm y al to i):(0<=to/\to<(y.stances.length:Int))/\Pm y al to=dst (DK y) (Dt al) to.toNat:=by
 by_cases c:0<=to/\to<(y.stances.length:Int)
 .exact⟨c,funext fun i=>by unfold Pm;rw[sS c]⟩
 .unfold Pm at h
  rw[sW c]at h;omega
theorem Rx{σ:Store}{b:Nat}{cells:List V}{st:Nat}{wr:Bool}(h:σ b=some ⟨cells,st,wr⟩)(t:V):behind σ [b] t=upd σ b (some ⟨cells,st,wr && flat depth t⟩):=by
 unfold behind;cases E:flat depth t with
 |true=>
  simp only[Bool.and_true,List.isEmpty_cons,Bool.false_or,if_true];funext i
  by_cases e:i=b
  .subst e;rw[Zi,h]
  .rw[Zj _ _ e]
 |false=>
  simp only[List.isEmpty_cons,Bool.or_self,yL,if_false,xu];unfold Dc Dc;rw[h];rfl
theorem abH{T:Nat->V}{σ σ':Store}{nx t:Nat}{acc:List Int}(J:Grow T σ nx t acc)(h:∀b o l,T t= .rs b o l->σ' b=σ b):Grow T σ' nx t acc:=by
 rcases J with ⟨E,G⟩|⟨b,E,G,O,S⟩
 .exact .inl ⟨E,G⟩
 .exact .inr ⟨b,E,G,by rw[h _ _ _ E];exact O,S⟩
def DI(y:Yard)(out:Nat->Int)(a k:Nat):List Int:=Ah ((List.range (k+1)).map (XZ (DK y) out y.stances.length a))
theorem Ry(y:Yard)(out:Nat->Int)(a k:Nat):(DI y out a k).length=k+1:=by simp[DI,Ah]
theorem OW(y:Yard)(out:Nat->Int)(a k:Nat):DI y out a (k+1)=DI y out a k++[((XZ (DK y) out y.stances.length a (k+1):Nat):Int)]:=by
 unfold DI Ah;rw[wY];simp
theorem J7(y:Yard)(ho:okYard y)(fr to:Int)(nx:Nat):∃v b4 nI ids,ev ZH Bh Dk 32 [.agg (cYard y),I fr,I to] lI nx=some (.AP [v,Bo (AY y fr to)],b4,nI)/\nx<=nI/\Own b4 1 v (LI (FP y fr to)) ids/\∀b∈ids,nx<=b/\b<nI:=by
 obtain⟨n,en⟩:∃n,n=y.stances.length:=⟨_,rfl⟩;have k1:=ach y ho;have a3:∀ok,ok=AY y fr to->ok=false->FP y fr to=[]:=fun ok e h=>by unfold FP;rw[<- e,h,sW (by simp)]
 rw[nG [.tmp 6,.tmp 7] [] func32];cases hg:pb (AA y)with
 |false=>
  have e:AY y fr to=false:=by unfold AY;rw[hg,wE]
  rw[hg]at k1;rw[e,a3 _ e.symm rfl];simp only[go_sem,k1];exact⟨_,_,_,[],rfl,by omega,iP _ _,by simp⟩
 |true=>
  rw[hg]at k1;have hG:=Ip hg
  by_cases c1:fr<0
  .have e:AY y fr to=false:=by unfold AY;rw[hg,sN (p:=0<=fr) (by omega)];rfl
   rw[e,a3 _ e.symm rfl];simp only[go_sem,k1,c1];exact⟨_,_,_,[],rfl,by omega,iP _ _,by simp⟩
  by_cases c2:(y.stances.length:Int)<=fr
  .have e:AY y fr to=false:=by unfold AY;rw[hg,sN (p:=fr<_) (by omega),xu];rfl
   rw[e,a3 _ e.symm rfl];simp only[go_sem,k1,c1,c2];exact⟨_,_,_,[],rfl,by omega,iP _ _,by simp⟩
  obtain⟨E,rfl⟩:∃a:Nat,fr=(a:Int):=⟨fr.toNat,by omega⟩;have c0:E<y.stances.length:=by omega
  have G5:=hG.1;have k2:=ai8 y ho G5;have k3:=ai5 y hG (by omega) to (Ae y) (dK y);obtain⟨out,eo⟩:∃out,out=Pm y (Ae y) to:=⟨_,rfl⟩;rw[<- eo]at k3;have f1:(E:Int)<(y.stances.length:Int):=by omega
  have f2:=jD E;have la:=fun {a:Nat} (h:a<y.stances.length)=>jr (n:=y.stances.length) out h
  have b5:=la c0;have ll:=jo y.stances.length out;have Yj:(A8 y.stances.length out).flatMap cI≠[]:=fun e=>by
   have h:=qR (A8 y.stances.length out);rw[e,ll]at h;have h:0=y.stances.length:=h;omega
  by_cases c3:out E<0
  .have e:AY y E to=false:=by
    unfold AY;rw[<- eo,zF,sN (p:=0<=out E) (by omega),xu,xu]
   rw[e,a3 _ e.symm rfl];simp only[go_sem,k1,c1,c2,k2,k3,ll,Yj,b5,f1,f2,c3];exact⟨_,_,_,[],rfl,by omega,iP _ _,by simp⟩
  have e:AY y E to=true:=by
   unfold AY;rw[<- eo,hg,zF,sO (p:=0<=out E) (by omega),sO f2,sO (p:=(E:Int)<_) (by omega)];rfl
  obtain⟨⟨t0,t1⟩,es⟩:=MG (y:=y) (al:=Ae y) (to:=to) (i:=E) (by rw[<- eo];omega);rw[<- eo]at es;have c4:FP y E to=DI y out E (out E).toNat:=by
   unfold FP;rw[sS e,<- eo,zF];rfl
  rw[e,c4];obtain⟨d,hd⟩:∃d:Nat,out E=(d:Int):=⟨(out E).toNat,by omega⟩;have a8:∀i,Dt (Ae y) i=true->i<y.stances.length:=fun i hi=>by have:=rM hi;rw[dK]at this;exact this
  have a9:∀k:Nat,k<=d->out (XZ (DK y) out y.stances.length E k)=(d:Int) - k:=fun k hk=>by
   have:=JY a8 (mv:=DK y) (to:=to.toNat) (a:=E) k (by rw[<- es,hd];omega);rw[<- es,hd]at this;exact this
  have b6:∀k:Nat,k<=d->XZ (DK y) out y.stances.length E k<y.stances.length:=fun k hk=>by
   have h1:=a9 k hk;have h2:=Ox (mv:=DK y) (al:=Dt (Ae y)) (to:=to.toNat) (i:=XZ (DK y) out y.stances.length E k) (by rw[<- es];omega);exact a8 _ h2.1
  have d7:d<=6:=by
   have:=Uy a8 (mv:=DK y) (to:=to.toNat) (a:=E) (by rw[<- es,hd];omega);rw[<- es,hd]at this;omega
  obtain⟨at_,a4⟩:∃at_,at_=XZ (DK y) out y.stances.length E:=⟨_,rfl⟩;rw[<- a4]at a9 b6;have c5:∀k,DI y out E (k+1)=DI y out E k++[((at_ (k+1):Nat):Int)]:=fun k=>by rw[a4];exact OW y out E k
  have w0:DI y out E 0=[(E:Int)]:=rfl;have wl:=Ry y out E;have c6:(out E).toNat=d:=by omega
  rw[c6];simp only[go_sem,k1,c1,c2,k2,k3,ll,Yj,b5,f1,f2,c3];generalize hL:dI _ _=z;obtain⟨x,rfl,T,σ,nx',rfl,J,c7,c8⟩:=jV hL (fun m st=>∃k,k+m=d/\st.T 3= .rp nx 0/\st.T 8=LI (A8 y.stances.length out)/\st.T 10=I (at_ k)/\nx+1<st.nx/\(∃wr,st.σ nx=some ⟨cYard y,0,wr⟩)/\Grow st.T st.σ st.nx 9 (DI y out E k)/\∀b o l,st.T 9= .rs b o l->nx+1<=b)
   (fun x=>∃T σ nx',x=(.exit 0,⟨T,σ,nx'⟩)/\nx+1<nx'/\Grow T σ nx' 9 (DI y out E d)/\∀b o l,T 9= .rs b o l->nx+1<=b) (by
    clear hL;rintro m ⟨T,σ,Ci⟩ ⟨k,hk,Y,S,G,J,⟨wr,O⟩,E5,hB⟩;simp only at Y S G J O E5 hB;have ha:=b6 k (by omega);have ho:=a9 k (by omega);have a5:=la ha;have g1:(at_ k:Int)<(y.stances.length:Int):=by omega
    have g2:(0:Int)<=(at_ k:Int):=by omega
    by_cases hm:m=0
    .subst hm
     have c9:k=d:=by omega
     have g3:¬0<out (at_ k):=by omega
     refine .inr ⟨_,by simp only[go_sem,S,G,ll,Yj,a5,g1,g2,ha,g3];rfl,by simp,_,_,_,rfl,J,?_,by simpa only[go_sem]using hB⟩;rw[<- c9];exact kS (by simp only[go_sem]) E5
    .have g3:0<out (at_ k):=by omega
     have k4:=ai9 y hG (at_ k:Int);rw[J5]at k4;have d8:=OU y (at_ k);have b2:=Rx O (LI (Ah (nexts y (at_ k))));obtain⟨Xv,b7⟩:∃Xv,Xv=behind σ [nx] (LI (Ah (nexts y (at_ k)))):=⟨_,rfl⟩;rw[<- b7]at b2;have d0:∃wr,Xv nx=some ⟨cYard y,0,wr⟩:=⟨_,by rw[b2,Zi]⟩;have d1:Grow T Xv Ci 9 (DI y out E k):=abH E5 fun b o l h=>by rw[b2,Zj _ _ (by have:=hB b o l h;omega)]
     have w4:=ZQ (n:=out (at_ k) - 1);have b8:at_ (k+1)=Jk (DK y) out y.stances.length (at_ k):=by rw[a4];rfl
     refine bF ?_
     conv=>
      enter [1,r,1,1]
      simp only[go_sem,Y,S,G,O,ll,Yj,a5,g1,g2,ha,g3,k4,Zz,<- b7]
     generalize hL:dI _ _=w;obtain⟨r,rfl,T',σ',Aq,rfl,Y,S,G,J,⟨d2,O⟩,E5,hB⟩:=pF hL (nexts y (at_ k)).length (fun j st=>st.T 3= .rp nx 0/\st.T 8=LI (A8 y.stances.length out)/\st.T 10=I (at_ k)/\st.T 44=LI (Ah (nexts y (at_ k)))/\st.T 45=I (nexts y (at_ k)).length/\st.T 46=I j/\nx+1<st.nx/\(∃wr,st.σ nx=some ⟨cYard y,0,wr⟩)/\Grow st.T st.σ st.nx 9 (DI y out E k)/\(∀b o l,st.T 9= .rs b o l->nx+1<=b)/\∀i (hi:i<(nexts y (at_ k)).length),i<j->(out (nexts y (at_ k))[i]==out (at_ k) - 1)=false)
      (fun r=>∃T σ Aq,r=(.exit 2,⟨T,σ,Aq⟩)/\T 3= .rp nx 0/\T 8=LI (A8 y.stances.length out)/\T 10=I (at_ (k+1))/\nx+1<Aq/\(∃wr,σ nx=some ⟨cYard y,0,wr⟩)/\Grow T σ Aq 9 (DI y out E k)/\∀b o l,T 9= .rs b o l->nx+1<=b) (by
       clear hL;rintro j ⟨T,σ,Ci⟩ hj ⟨Y,S,G,a1,a2,a6,J,O,E5,hB,a7⟩;simp only at Y S G a1 a2 a6 J O E5 hB;have f1:(j:Int)<((nexts y (at_ k)).length:Int):=by omega
       have f2:=jD j;have f3:=ZQ (n:=(j:Int)+1);have f4:=J6 (nexts y (at_ k)) hj;have f5:=Zz (nexts y (at_ k));have f6:(Ah (nexts y (at_ k))).flatMap cI≠[]:=fun e=>by
        have h:=qR (Ah (nexts y (at_ k)));rw[e,f5]at h;have h:0=(nexts y (at_ k)).length:=h;omega
       have hc:=OT hj;have b3:=la hc;obtain⟨c,ec⟩:∃c,c=(nexts y (at_ k))[j]:=⟨_,rfl⟩;rw[<- ec]at f4 hc b3;have i1:(c:Int)<(y.stances.length:Int):=by omega
       have i2:=jD c;cases hq:(out c==out (at_ k) - 1)with
       |true=>
        have hn:=ai_ hj a7 (by rw[<- ec];exact hq);refine .inr ⟨_,by simp only[go_sem,Y,S,G,a1,a2,a6,ll,Yj,a5,b3,g1,g2,ha,f1,f2,f3,f4,f5,f6,hj,hc,i1,i2,w4,hq];rfl,by simp,_,_,_,rfl,?_⟩;simp only[go_sem,Y,S];rw[b8,hn,<- ec];exact⟨rfl,J,O,kS (by simp only[go_sem]) E5,hB⟩
       |false=>
        refine .inl ⟨_,by simp only[go_sem,Y,S,G,a1,a2,a6,ll,Yj,a5,b3,g1,g2,ha,f1,f2,f3,f4,f5,f6,hj,hc,i1,i2,w4,hq];rfl,?_⟩;simp only[go_sem,Y,S,G,a1,a2];refine⟨rfl,J,O,kS (by simp only[go_sem]) E5,hB,fun i hi d9=>?_⟩
        by_cases e:i=j
        .subst e;rw[<- ec];exact hq
        .exact a7 i hi (by omega)) (by
       clear hL;rintro ⟨T,σ,Ci⟩ ⟨Y,S,G,a1,a2,a6,J,O,E5,hB,a7⟩;exfalso;obtain⟨j,hj,hq⟩:=OV (y:=y) (al:=Ae y) (dK y) (to:=to.toNat) (a:=at_ k) (by rw[<- es];exact g3);rw[<- es,a7 j hj hj]at hq;cases hq) (by
       simp only[go_sem,Y,S,G];exact⟨J,d0,kS (by simp only[go_sem]) d1,hB,fun i hi h0=>absurd h0 (zW _)⟩)
     obtain⟨CB,b9,d3,d4⟩:=kT E5 (at_ (k+1):Int) (by rw[wl];omega);rw[wl]at b9;refine⟨_,by simp only[go_sem,G,b9];rfl,.inl ⟨_,rfl,m-1,by omega,k+1,by omega,?_⟩⟩;simp only[go_sem,Y,S,G];refine⟨by omega,?_,?_,fun b o l hb=>?_⟩
     .exact⟨d2,by rw[d4 nx (by omega) (fun b o l hb=>by have:=hB b o l hb;omega)];exact O⟩
     .rw[c5]
      exact kR d3 (by simp only[go_sem,zo,wl]) (by simp)
     .cases hb;omega) d (by
    simp only[go_sem];refine⟨0,by omega,by rw[a4];rfl,by omega,⟨_,by rw[Zk,Zi]⟩,.inr ⟨nx+1,?_,by rw[w0];simp,?_,by omega⟩,fun b o l hb=>by cases hb;omega⟩
    .simp only[go_sem]
     rfl
    .rw[Zi];rfl)
  obtain⟨ids,d5,d6⟩:=ND c7 c8;simp only[go_sem];exact⟨_,_,_,ids,rfl,by omega,d5,fun b hb=>by have:=d6 b hb;omega⟩
theorem afB(y:Yard)(fr to:Int):(FP y fr to).length<=1000000:=by
 unfold FP
 split
 .rename_i h
  unfold AY at h;simp only[zB,decide_eq_true_eq]at h;obtain⟨G,⟨J,O⟩,E⟩:=h;obtain⟨_,es⟩:=MG E;have:=Uy (mv:=DK y) (al:=Dt (Ae y)) (n:=y.stances.length) (to:=to.toNat) (a:=fr.toNat) (fun i hi=>by have:=rM hi;rw[dK]at this;exact this) (by rw[<- es];exact E);rw[Zz,aiG,es];have:=(Ip G).1;omega
 .exact wK _
theorem Yk(ids:List Nat):∀ {σ:Store} {b:Nat} {c:List V} {st:Nat} {wr:Bool},σ b=some ⟨c,st,wr⟩->∃E,Dc σ ids b=some ⟨c,st,E⟩:=by
 induction ids with
 |nil=>intro σ b c st wr h;exact⟨wr,h⟩
 |cons i ids G=>
  intro σ b c st wr h;unfold Dc
  by_cases e:b=i
  .subst e
   exact G (σ:=upd σ b ((σ b).map fun B=>{ B with wr:=false })) (wr:=false) (by rw[Zi,h];rfl)
  .exact G (wr:=wr) (by rw[Zj _ _ e];exact h)
theorem KR{σ:Store}{ids:List Nat}{t:V}{b:Nat}{c:List V}{st:Nat}{wr:Bool}(h:σ b=some ⟨c,st,wr⟩):∃E,behind σ ids t b=some ⟨c,st,E⟩:=by
 unfold behind
 split
 .exact⟨wr,h⟩
 .exact Yk ids h
noncomputable def blk(y:Yard)(fr to:Int)(i:Nat):Bool:=!((i:Int)==fr) && (!((i:Int)==to) && (Dt (Ae y) i && decide (Pm y ((Ae y).set i false) to fr.toNat<0)))
noncomputable def F9(y:Yard)(fr to:Int):List Int:=if AY y fr to=true then DT (blk y fr to) y.stances.length else []
theorem aja(E:List Bool):((E.flatMap CQ).all agX)=true:=by
 induction E with
 |nil=>rfl
 |cons b E G=>exact G
theorem amM(E:List Bool)(hb:E.length<=1000)(G:E.length≠0)(nx:Nat):D9 1 [LL CQ E] lI nx=some (.rs nx 0 E.length,Ai lI nx (E.flatMap CQ) 1,nx+1):=by
 have J:=Gh E;have hc:(E.flatMap CQ).all pI=true:=by
  clear hb G J
  induction E with
  |nil=>rfl
  |cons b E O=>exact O
 show(if(E.flatMap CQ).length=E.length*1/\E.length<=1000000/\_ then _ else _)=_;rw[sS ⟨J,by omega,hc⟩,sW G]
theorem OX(y:Yard)(ho:okYard y)(fr to:Int)(nx:Nat):∃v a4 nI ids,ev ZH Bh Dk 34 [.agg (cYard y),I fr,I to] lI nx=some (v,a4,nI)/\nx<=nI/\Own a4 1 v (LI (F9 y fr to)) ids/\∀b∈ids,nx<=b/\b<nI:=by
 obtain⟨v,a4,n1,ids,k1,c4,o1,c5⟩:=J7 y ho fr to (nx+1);have g1:=fun d=>o1.gather (d':=d+1) (by omega)
 unfold F9;obtain⟨ok,Pj⟩:∃ok,ok=AY y fr to:=⟨_,rfl⟩;rw[<- Pj]at k1⊢;obtain⟨Xu,ea⟩:∃Xu,Xu=Cb (nx+1) (upd lI nx (some ⟨cYard y,0,true⟩)) a4 ids:=⟨_,rfl⟩;have a0:Xu nx=some ⟨cYard y,0,true⟩:=by rw[ea,jw (by omega),Zi]
 rw[nG [.tmp 6] [] func34];cases ok with
 |false=>
  rw[sW (by simp)];simp only[go_sem,k1,g1];exact⟨_,_,_,[],rfl,by omega,iP _ _,by simp⟩
 |true=>
  rw[sS rfl];have a2:=Pj;unfold AY at a2;have a2:=a2.symm;simp only[zB,decide_eq_true_eq]at a2;obtain⟨hg,⟨c6,c7⟩,_⟩:=a2;have hG:=Ip hg;have G5:=hG.1;obtain⟨a,rfl⟩:∃a:Nat,fr=(a:Int):=⟨fr.toNat,by omega⟩;have ha:a<y.stances.length:=by omega
  have k2:=ai8 y ho G5;have G:=dK y;obtain⟨S,eS⟩:∃S,S=Ae y:=⟨_,rfl⟩;rw[<- eS]at k2 G;obtain⟨wr,hb⟩:=KR (ids:=[nx]) (t:=LL CQ S) a0;obtain⟨Xv,eb⟩:∃Xv,Xv=behind Xu [nx] (LL CQ S):=⟨_,rfl⟩;rw[<- eb]at hb;simp only[go_sem,k1,g1,<- ea,a0,k2,<- eb,G];generalize hL:dI _ _=z;obtain⟨x,rfl,T,σ',nx',rfl,c8,b7,b8⟩:=pF hL y.stances.length (fun k st=>st.T 1=I a/\st.T 2=I to/\st.T 3= .rp nx 0/\st.T 9=LL CQ S/\st.T 24=I y.stances.length/\st.T 25=I k/\nx<st.nx/\(∃wr,st.σ nx=some ⟨cYard y,0,wr⟩)/\Grow st.T st.σ st.nx 10 (DT (blk y a to) k)/\∀b o l,st.T 10= .rs b o l->nx+1<=b)
   (fun x=>∃T σ nx',x=(.exit 0,⟨T,σ,nx'⟩)/\nx<nx'/\Grow T σ nx' 10 (DT (blk y a to) y.stances.length)/\∀b o l,T 10= .rs b o l->nx+1<=b) (by
    clear hL;rintro k ⟨T,σ,m⟩ hk ⟨t1,t2,t3,t9,E,J,hm,⟨wr,Y⟩,E5,hB⟩;simp only at t1 t2 t3 t9 E J hm Y E5 hB;have f1:(k:Int)<(y.stances.length:Int):=by omega
    have f2:=jD k;have f3:=ZQ (n:=(k:Int)+1);have a7:k<S.length:=by omega
    have f4:(S.flatMap CQ)[k]?=some (Bo (Dt S k)):=by rw[rO a7];exact cu (fun b=>Bo b) S k a7
    have f5:=TI S k a7
    by_cases c1:(k:Int)=(a:Int)
    .have O:((k:Int)==(a:Int))=true:=by simpa using c1
     have hq:blk y a to k=false:=by unfold blk;rw[O];rfl
     refine .inl ⟨_,by simp only[go_sem,t1,t2,t3,t9,E,J,f1,f2,f3,O];rfl,?_⟩;simp only[go_sem,t1,t2,t3,t9,E];rw[Zo hq];exact⟨rfl,hm,⟨wr,Y⟩,kS (by simp only[go_sem]) E5,hB⟩
    have O:((k:Int)==(a:Int))=false:=by simpa using c1
    by_cases c2:(k:Int)=to
    .have a1:((k:Int)==to)=true:=by simpa using c2
     have hq:blk y a to k=false:=by unfold blk;rw[a1];simp
     refine .inl ⟨_,by simp only[go_sem,t1,t2,t3,t9,E,J,f1,f2,f3,O,a1];rfl,?_⟩;simp only[go_sem,t1,t2,t3,t9,E];rw[Zo hq];exact⟨rfl,hm,⟨wr,Y⟩,kS (by simp only[go_sem]) E5,hB⟩
    have a1:((k:Int)==to)=false:=by simpa using c2
    cases hs:Dt S k with
    |false=>
     rw[hs]at f4;have hq:blk y a to k=false:=by unfold blk;rw[<- eS,hs];simp
     refine .inl ⟨_,by simp only[go_sem,t1,t2,t3,t9,E,J,f1,f2,f3,f4,f5,hk,G,O,a1];rfl,?_⟩;simp only[go_sem,t1,t2,t3,t9,E];rw[Zo hq];exact⟨rfl,hm,⟨wr,Y⟩,kS (by simp only[go_sem]) E5,hB⟩
    |true=>
     rw[hs]at f4;have kc:D9 1 [.ts (S.flatMap CQ) S.length] lI m=some (.rs m 0 S.length,Ai lI m (S.flatMap CQ) 1,m+1):=amM S (by omega) (by omega) m;rw[G]at kc;have oc:Own (Ai lI m (S.flatMap CQ) 1) 1 (.rs m 0 y.stances.length) (LL CQ S) [m]:=by
      have k0:=OM (Ai lI m (S.flatMap CQ) 1) 0 (aja S);refine⟨?_,by simp⟩;simp only[own,Ai,Zi]at k0⊢;rw[sS ⟨trivial,trivial,by rw[Gh];omega⟩,k0];show some (V.ts _ y.stances.length,_)=some (V.ts _ S.length,_);rw[G]
     have gc:=fun d=>oc.gather (d':=d+1) (by omega)
     unfold Ai at kc gc;obtain⟨σ2,e2⟩:∃σ2,σ2=Cb m σ (upd lI m (some ⟨S.flatMap CQ,1,true⟩)) [m]:=⟨_,rfl⟩;have b2:σ2 m=some ⟨S.flatMap CQ,1,true⟩:=by rw[e2,jy (by omega) (by simp),Zi]
     have l2:∀q,q<m->σ2 q=σ q:=fun q h=>by rw[e2,jw h]
     have a6:=LV S k false;have a9:(S.flatMap CQ).length=y.stances.length:=by rw[Gh,G,yQ]
     obtain⟨a3,e3⟩:∃a3,a3=upd σ2 m (some ⟨(S.set k false).flatMap CQ,1,true⟩):=⟨_,rfl⟩;have b3:a3 nx=some ⟨cYard y,0,wr⟩:=by rw[e3,Zk,l2 nx hm];exact Y
     have SY:=fun d=>OQ (σ:=a3) (b:=m) (xs:=S.set k false) (by rw[e3,Zi]) (n:=y.stances.length) (by rw[yJ,G]) d
     have k4:=ai5 y hG (by omega) to (S.set k false) (by rw[yJ,G]);obtain⟨out,eo⟩:∃out,out=Pm y (S.set k false) to:=⟨_,rfl⟩;rw[<- eo]at k4;have la:=jr (n:=y.stances.length) out ha;have ll:=jo y.stances.length out;have Yj:(A8 y.stances.length out).flatMap cI≠[]:=fun e=>by
      have h:=qR (A8 y.stances.length out);rw[e,ll]at h;have h:0=y.stances.length:=h;omega
     have b4:=jD a;have b5:(a:Int)<(y.stances.length:Int):=by omega
     have z1:¬nx=m:=by omega
     have z2:¬m=nx:=by omega
     obtain⟨CB,e4⟩:∃CB,CB=behind a3 [nx,m] (LI (A8 y.stances.length out)):=⟨_,rfl⟩;obtain⟨b6,h4⟩:=KR (ids:=[nx,m]) (t:=LI (A8 y.stances.length out)) b3;rw[<- e4]at h4;have a8:Grow T CB (m+1) 10 (DT (blk y a to) k):=by
      rcases E5 with h|⟨b,h1,h2,h3,h5⟩
      .exact .inl h
      .have hb:=hB b 0 _ h1
       refine .inr ⟨b,h1,h2,?_,by omega⟩;rw[e4,qm (by simp only[tN,List.contains_nil,Bool.or_false,uM,sQ];omega),e3,Zk,l2 b h5];exact h3
     have a5:blk y a to k=decide (out a<0):=by
      unfold blk;rw[O,a1,<- eS,hs,<- eo,zF];simp
     have hle:=Zp (blk y a to) k
     by_cases c3:out a<0
     .rw[sO c3]at a5
      obtain⟨CY,h5,h6,_⟩:=kT a8 (k:Int) (by omega);obtain⟨c9,h5,h6,h7⟩:∃σ',Ad (upd CB (m+1) (some ⟨[I (k:Int)],1,true⟩)) (m+1+1) 1 8 (T 10) [I (k:Int)] 1=some (.rs (m+1+1) 0 ((DT (blk y a to) k).length+1),σ',m+1+1+1)/\σ' (m+1+1)=some ⟨(DT (blk y a to) k++[(k:Int)]).flatMap cI,1,true⟩/\∀c,c<m+1->(∀b o l,T 10= .rs b o l->¬c=b)->σ' c=CB c:=kT a8 (k:Int) (by omega);refine .inl ⟨_,by simp only[go_sem,qJ,t1,t2,t3,t9,E,J,f1,f2,f3,f4,f5,hk,G,O,a1,kc,gc,<- e2,b2,a6,a9,<- e3,b3,SY,k4,<- e4,ll,Yj,la,ha,b4,b5,c3,h5,z1,z2];rfl,?_⟩;simp only[go_sem,t1,t2,t3,t9,E];rw[Zn a5];refine⟨rfl,by omega,⟨b6,by rw[h7 nx (by omega) fun b o l h=>by have:=hB b o l h;omega];exact h4⟩,kR h6 (by simp only[go_sem,zo]) (by simp),fun b o l h=>by(cases h;omega)⟩
     .rw[sN c3]at a5
      refine .inl ⟨_,by simp only[go_sem,qJ,t1,t2,t3,t9,E,J,f1,f2,f3,f4,f5,hk,G,O,a1,kc,gc,<- e2,b2,a6,a9,<- e3,b3,SY,k4,<- e4,ll,Yj,la,ha,b4,b5,c3,z1,z2];rfl,?_⟩;simp only[go_sem,t1,t2,t3,t9,E];rw[Zo a5];exact⟨rfl,by omega,⟨b6,h4⟩,kS (by simp only[go_sem]) a8,hB⟩) (by
    clear hL;rintro ⟨T,σ,m⟩ ⟨t1,t2,t3,t9,E,J,hm,Y,E5,hB⟩;simp only at t1 t2 t3 t9 E J hm Y E5 hB;exact⟨_,by simp only[go_sem,E,J,zl];rfl,by simp,_,_,_,rfl,hm,kS (by simp only[go_sem]) E5,by simpa only[go_sem]using hB⟩) (by
    simp only[go_sem];exact⟨by omega,⟨wr,hb⟩,.inl ⟨by simp only[go_sem],rfl⟩,fun b o l h=>by(cases h)⟩)
  obtain⟨ids,b9,c0⟩:=ND b7 b8;simp only[go_sem];exact⟨_,_,_,ids,rfl,by omega,b9,fun b hb=>by have:=c0 b hb;omega⟩
end Go.Proofs.YtehdaknhabeiaaaGreat
namespace Go.Proofs.YtehdaknhabeiaaaGreat
open Go Go.TV Go.Lp
theorem auy(neg:Bool)(m n:Nat)(hm:ln m<=24)(h0:n≠0)(hn:ln n<=24) :
  fn ZH conv ext 202 [Bo neg,LI (dg m),LI (dg n)]=some (.agg [Bo (neg && decide (0<(dg (m / Nat.gcd m n)).length)),LI (dg (m / Nat.gcd m n)),LI (dg (n / Nat.gcd m n))]):=by
 have J:Nat.gcd m n≠0:=fun e=>h0 (u_ e)
 have O:Nat.gcd m n<=n:=Nat.gcd_le_right _ (by omega);have a0:n / Nat.gcd m n≠0:=by
  have:=Nat.div_pos O (by omega);omega
 have hg:=jf O;have k1:=bD (dg m) (dA (by omega));have k2:=bD (dg n) (dA (by omega));rw[Zu]at k1 k2;have S:=QG n (by omega);have k4:=aiS m n (by omega) (by omega);have Y:=QG (Nat.gcd m n) (by omega);have k6:=X6 m (Nat.gcd m n) J (by omega) (by omega);have k7:=X6 n (Nat.gcd m n) J (by omega) (by omega);have lx:=ah5 m (Nat.gcd m n);have ly:=ah5 n (Nat.gcd m n);have G:=ahi neg (dg (m / Nat.gcd m n)) (dA (by omega)) (by rw[Zu];show ln _<=60;omega);rw[Zu]at G;have l0:(((dg n).length:Int)==0)=false:=by rw[sQ];have:=rF (oV h0);omega
 have c1:¬(24:Int)<((dg (m / Nat.gcd m n)).length:Int):=by unfold ln at lx hm;omega
 have c2:¬(24:Int)<((dg (n / Nat.gcd m n)).length:Int):=by unfold ln at ly hn;omega
 have z1:¬(dg (n / Nat.gcd m n)).length=0:=rF (oV a0);have s1:(dg (n / Nat.gcd m n)).length<=maxLen/\(dg (n / Nat.gcd m n)).length*8<=140737488355328:=by unfold maxLen;unfold ln at ly hn;omega
 rw[mM,nG [.cell 6 147] [] func202]
 by_cases h1:n=1
 .have E:Nat.gcd m n=1:=by rw[h1,Nat.gcd_one_right]
  simp only[E,x9]at c1 c2 G z1 s1⊢;rw[sO h1]at S;simp only[go_sem,k1,k2,S,G,l0,c1,c2,z1,s1]
 .rw[sN h1]at S
  by_cases E:Nat.gcd m n=1
  .rw[sO E]at Y
   rw[E]at k4 Y;simp only[E,x9]at c1 c2 G z1 s1⊢;simp only[go_sem,k1,k2,S,k4,Y,G,l0,c1,c2,z1,s1]
  .rw[sN E]at Y
   simp only[go_sem,k1,k2,S,k4,Y,k6,k7,G,l0,c1,c2,z1,s1]
theorem UK(z:Int)(d:Nat)(O:ln z.natAbs<=24)(J:d≠0)(S:ln d<=24)(b:Bool)(n:Nat)(hb:AL b n=z):fn ZH conv ext 202 [Bo b,LI (dg n),LI (dg d)]=some (.agg (cQ (mkRat z d))):=by
 have hn:n=z.natAbs:=by rw[<- hb];unfold AL;split<;>omega
 subst hn;rw[auy b z.natAbs d O J S,ahp z J];unfold aeM
 by_cases E:z.natAbs=0
 .rw[E,Nat.zero_div,oO];simp
 .have:b=decide (z<0):=by
   have G:=hb;unfold AL at G;cases b with
   |true=>rw[sS rfl]at G;rw[sO (by omega)]
   |false=>rw[sW (by decide)]at G;rw[sN (by omega)]
  rw[this]
theorem UL(q:Rat)(h:Ln 24 q):fn ZH conv ext 176 [.agg (cQ q)]=some (Bo true):=by
 have l1:(dg q.num.natAbs).length<=24:=h.1;have l2:(dg q.den).length<=24:=h.2;have E:=Qy (decide (q.num<0)) (dg q.num.natAbs) (by unfold Short;omega);have S:(!decide (q.num<0)||decide (0<(dg q.num.natAbs).length))=true:=by
  by_cases hn:q.num<0
  .rw[sO (List.length_pos_iff.mpr (oV (by omega))),Bool.or_true]
  .rw[sN hn];rfl
 rw[h_ (jE (by have:=h.1;omega)),S]at E;have G:=Tm (dg q.den) (by unfold Short;omega);rw[h_ (jE (by have:=h.2;omega))]at G;have J:=aiS q.num.natAbs q.den (by have:=h.1;omega) (by have:=h.2;omega);rw[q.reduced]at J;have O:=asV (dg 1) (WR (by decide));rw[sO ((QD 1).mpr rfl)]at O;have Y:(((dg q.den).length:Int)==0)=false:=by rw[sQ];have:=rF (oV q.den_nz);omega
 have c1:¬(24:Int)<((dg q.num.natAbs).length:Int):=by omega
 have c2:¬(24:Int)<((dg q.den).length:Int):=by omega
 unfold cQ;rw[mM,nG [.tmp 2] [] func176];simp only[go_sem,vJ]at E;simp only[go_sem,E,G,J,O,Y,c1,c2]
theorem amN(q:Rat)(d:Nat)(hb:ln (q.num*d).natAbs<=60):fn ZH conv ext 178 [Bo (decide (q.num<0)),LI (dg (q.num.natAbs*d))]=some (.agg (cZ (q.num*d))):=by
 have e:AL (decide (q.num<0)) (q.num.natAbs*d)=q.num*d:=by
  have h:=dB q.num
  conv=>rhs;rw[<- h]
  unfold AL
  by_cases E:q.num<0
  .rw[sO E,sS rfl,sS rfl,yh,Int.neg_mul]
  .rw[sN E,sW (by decide),sW (by decide),yh]
 rw[uX,wz]at hb;rw[Ny _ _ hb,e]
theorem Ln.up{k:Nat}{q:Rat}(h:Ln k q)(E:k<=24):ln q.num.natAbs<=1000000/\ln q.den<=1000000:=⟨by have:=h.1;omega,by have:=h.2;omega⟩
theorem ac_{a b:Nat}(x y:Rat)(E:Ln a x)(G:Ln b y)(a1:a+b<=23):fn ZH conv ext 171 [.agg (cQ x),.agg (cQ y)]=some (.agg (cQ (x+y))):=by
 have n1:=jc E G;have n2:=jc G E;have a2:=N9 E G;have J:=E.up (by omega);have O:=G.up (by omega);have o1:=QG x.den J.2;have S:=QG y.den O.2;have k1:=dN x.num.natAbs y.den J.1 O.2;have k2:=dN y.num.natAbs x.den O.1 J.2;have k3:=dN x.den y.den J.2 O.2;have k4:=amN x y.den (by omega);have k5:=amN y x.den (by omega);have n3:=IQ (x.num*y.den) (y.num*x.den);have k6:=WW (x.num*y.den) (y.num*x.den) (by omega) (by omega) (by omega);have k7:=UK (x.num*y.den+y.num*x.den) (x.den*y.den) (by omega) (dd0 x y) (by omega) (decide (x.num*y.den+y.num*x.den<0)) (x.num*y.den+y.num*x.den).natAbs (dB _);rw[<- Rat.add_def']at k7;rw[mM,nG [.cell 4 147] [] func171]
 by_cases Y:x.den=1
 .by_cases h2:y.den=1
  .have n4:=IQ x.num y.num
   have a3:=E.1;have a4:=G.1;have m1:=WW x.num y.num J.1 O.1 (by omega);have m2:=UK (x.num+y.num) 1 (by omega) (by decide) (by have:=jY (n:=1) (by decide);omega) (decide (x.num+y.num<0)) (x.num+y.num).natAbs (dB _);have e:mkRat (x.num+y.num) 1=x+y:=by rw[Rat.add_def',Y,h2];simp
   rw[e,oU (d:=1) (by decide) (by decide)]at m2;have a0:fn ZH conv ext 202 [Bo (decide (x.num+y.num<0)),LI (dg (x.num+y.num).natAbs),.ts [I 1] 1]=some (.agg (cQ (x+y))):=m2
   rw[sO Y]at o1;rw[sO h2]at S;unfold cZ at *;unfold cQ at *;simp only[go_sem,o1,S,m1,a0]
  .rw[sO Y]at o1
   rw[sN h2]at S;unfold cZ at *;unfold cQ at *;simp only[go_sem,o1,S,k1,k2,k3,k4,k5,k6,k7]
 .rw[sN Y]at o1
  unfold cZ at *;unfold cQ at *;simp only[go_sem,o1,k1,k2,k3,k4,k5,k6,k7]
theorem anE{x y:Rat}{k l:Nat}(h:Ln k x)(E:Ln l y):ln (x.num.natAbs*y.num.natAbs)<=k+l:=by
 have:=je x.num.natAbs y.num.natAbs;have:=h.1;have:=E.1;omega
theorem UM(b:Bool)(n:Nat):(AL b n).natAbs=n:=by unfold AL;split<;>omega
theorem auz{a b:Nat}(x y:Rat)(E:Ln a x)(G:Ln b y)(Y:a+b<=24):fn ZH conv ext 207 [.agg (cQ x),.agg (cQ y)]=some (.agg (cQ (x*y))):=by
 have J:=E.up (by omega);have O:=G.up (by omega);have n1:=anE E G;have n2:=N9 E G;have k1:=dN x.num.natAbs y.num.natAbs J.1 O.1;have k2:=dN x.den y.den J.2 O.2;have S:=UK (AL (decide (x.num<0) !=decide (y.num<0)) (x.num.natAbs*y.num.natAbs)) (x.den*y.den) (by rw[UM];omega) (dd0 x y) (by omega) _ _ rfl;rw[<- acN]at S;have e:∀a b:Bool,(!a==b)=(a !=b):=by decide
 unfold cQ at *;rw[mM,nG [.cell 4 147] [] func207];simp only[go_sem,k1,k2,S,e]
theorem anF{a b:Nat}(x y:Rat)(E:Ln a x)(G:Ln b y)(Y:a+b<=24)(h0:y.num≠0):fn ZH conv ext 203 [.agg (cQ x),.agg (cQ y)]=some (.agg (cQ (x / y))):=by
 have J:=E.up (by omega);have O:=G.up (by omega);have o1:=UL x (E.mono (by omega));have o2:=UL y (G.mono (by omega));have n1:=je x.num.natAbs y.den;have n2:=je x.den y.num.natAbs;have:=E.1;have:=E.2;have:=G.1;have:=G.2;have k1:=dN x.num.natAbs y.den J.1 O.2;have k2:=dN x.den y.num.natAbs J.2 O.1;have S:=UK (AL (decide (x.num<0) !=decide (y.num<0)) (x.num.natAbs*y.den)) (x.den*y.num.natAbs) (by rw[UM];omega) (Nat.mul_ne_zero x.den_nz (by omega)) (by omega) _ _ rfl;rw[<- ahq x y h0]at S;have e:∀a b:Bool,(!a==b)=(a !=b):=by decide
 unfold cQ at *;rw[mM,nG [.cell 4 147] [] func203];simp only[go_sem,o1,o2,k1,k2,S,e]
theorem ajc(x y:Int)(O:ln x.natAbs<=1000000)(S:ln y.natAbs<=1000000):fn ZH conv ext 184 [.agg (cZ x),.agg (cZ y)]=some (I (Ak x y)):=by
 have Y:=WU x.natAbs y.natAbs O S;have k2:=WU y.natAbs x.natAbs S O;rw[mM,nG [.tmp 4] [] func184];unfold cZ at *
 by_cases G:x<0<;>by_cases J:y<0
 .have e:A_ y.natAbs x.natAbs=Ak x y:=by
   unfold A_ Ak
   by_cases h:x<y
   .rw[sS (show y.natAbs<x.natAbs by omega),sS h]
   .rw[sW (show ¬y.natAbs<x.natAbs by omega),sW h]
    by_cases E:x=y
    .rw[sS (by omega),sS E]
    .rw[sW (by omega),sW E]
  rw[e]at k2;rw[sO G,sO J];simp only[go_sem,k2]
 .have e:Ak x y= -1:=by unfold Ak;rw[sS (by omega)]
  rw[sO G,sN J,e];simp only[go_sem]
 .have e:Ak x y=1:=by unfold Ak;rw[sW (by omega),sW (by omega)]
  rw[sN G,sO J,e];simp only[go_sem]
 .have e:A_ x.natAbs y.natAbs=Ak x y:=by
   unfold A_ Ak
   by_cases h:x<y
   .rw[sS (show x.natAbs<y.natAbs by omega),sS h]
   .rw[sW (show ¬x.natAbs<y.natAbs by omega),sW h]
    by_cases E:x=y
    .rw[sS (by omega),sS E]
    .rw[sW (by omega),sW E]
  rw[e]at Y;rw[sN G,sN J];simp only[go_sem,Y]
theorem anG{a b:Nat}(x y:Rat)(E:Ln a x)(G:Ln b y)(S:a+b<=60)(ha:a<=24)(hb:b<=24):fn ZH conv ext 156 [.agg (cQ x),.agg (cQ y)]=some (I (Ak (x.num*y.den) (y.num*x.den))):=by
 have J:=E.up ha;have O:=G.up hb;have n1:=jc E G;have n2:=jc G E;have Y:=dN x.num.natAbs y.den J.1 O.2;have k2:=dN y.num.natAbs x.den O.1 J.2;have k3:=amN x y.den (by omega);have k4:=amN y x.den (by omega);have k5:=ajc (x.num*y.den) (y.num*x.den) (by omega) (by omega);unfold cZ at *;unfold cQ at *;rw[mM,nG [.tmp 4] [] func156];simp only[go_sem,Y,k2,k3,k4,k5]
theorem dM(x:Rat)(S:Ln 24 x):fn ZH conv ext 141 [.agg (cQ x)]=some (I (Ak x.num 0)):=by
 have J:=UL x S;have main:∀m:List Int,fn ZH conv ext 176 [.agg [Bo (decide (x.num<0)),LI m,LI (dg x.den)]]=some (Bo true)->m=[]->fn ZH conv ext 141 [.agg [Bo (decide (x.num<0)),LI m,LI (dg x.den)]]=some (I 0):=fun m k hm=>by
  have E:((m.length:Int)==0)=true:=by rw[hm];rfl
  rw[mM,nG [.tmp 2] [] func141];simp only[go_sem,k,E]
 unfold cQ at *
 by_cases O:x.num=0
 .have e:Ak x.num 0=0:=by rw[O];rfl
  rw[e];exact main _ J (by rw[O,Int.natAbs_zero,oO])
 rw[mM,nG [.tmp 2] [] func141]
 .have E:(((dg x.num.natAbs).length:Int)==0)=false:=by rw[sQ];have:=rF (oV (n:=x.num.natAbs) (by omega));omega
  by_cases G:x.num<0
  .have e:Ak x.num 0= -1:=by unfold Ak;rw[sS G]
   rw[sO G]at *;simp only[go_sem,J,E,e]
  .have e:Ak x.num 0=1:=by unfold Ak;rw[sW G,sW (by omega)]
   rw[sN G]at *;simp only[go_sem,J,E,e]
theorem aqy(x:Rat)(E:Ln 24 x):fn ZH conv ext 145 [.agg (cQ x)]=some (.agg (cQ x)):=by
 have l1:(dg x.num.natAbs).length<=24:=E.1;have l2:(dg x.den).length<=24:=E.2;have G:¬(dg x.den).length=0:=rF (oV x.den_nz);have J:(dg x.den).length<=maxLen/\(dg x.den).length*8<=140737488355328:=by unfold maxLen;omega
 have S:(dg x.num.natAbs).length<=maxLen/\(dg x.num.natAbs).length*8<=140737488355328:=by unfold maxLen;omega
 unfold cQ;rw[mM,nG [.cell 2 147] [1] func145]
 by_cases O:(dg x.num.natAbs).length=0
 .have Y:dg x.num.natAbs=[]:=zZ O
  rw[Y]
  (simp only[go_sem,G,J])<;>rfl
 .simp only[go_sem,G,J,O,S]
def Ea{α:Type}(W L:List α)(c:Nat):List α:=W.take c++L.drop c
section
variable {α:Type} {W L:List α} {c:Nat}
theorem J8(W L:List α):Ea W L 0=L:=by simp[Ea]
theorem jK(h:W.length=L.length)(hc:c<=L.length):(Ea W L c).length=L.length:=by unfold Ea;simp;omega
theorem Ja(h:W.length=L.length)(hc:c<L.length):(Ea W L c)[c]'(by rw[jK h (by omega)];exact hc)=L[c]:=by
 have:(Ea W L c)[c]?=L[c]?:=by
  unfold Ea;rw[zQ (by simp;omega),xX];congr 1;simp;omega
 rw[zy (by rw[jK h (by omega)];exact hc),zy hc]at this;exact Option.some.inj this
theorem Jb(h:W.length=L.length)(hc:c<L.length):(Ea W L c).set c (W[c]'(by omega))=Ea W L (c+1):=by
 unfold Ea;have E:(W.take c).length=c:=by simp;omega
 rw[yC _ _ (by omega),E,yP,yU hc,vg,yN,zy (by omega),z_];rfl
theorem J9(h:W.length=L.length):Ea W L L.length=W:=by
 unfold Ea;rw[zk (by omega),xk (zq _),zK]
theorem Rz(h:W.length=L.length)(hc:c<L.length)(e:W[c]'(by omega)=L[c]):Ea W L c=Ea W L (c+1):=by
 rw[<- Jb h hc,e];have:=Ja h hc
 conv=>rhs;rw[<- this]
 rw[List.set_getElem_self]
end
theorem j_{q:Rat}:q.num=0↔q=0:=Rat.num_eq_zero
theorem abI(q:Rat):(Ak q.num 0 !=0)= !decide (q=0):=by rw[TY,decide_eq_decide.mpr j_]
theorem ajd(q:Rat):(Ak q.num 0==0)=decide (q=0):=by rw[Oa,decide_eq_decide.mpr j_]
theorem amO{q:Rat}:0<q.num↔0<q:=by
 have E:=Rat.num_nonneg (q:=q);have G:=j_ (q:=q);constructor
 .intro h
  have:0<=q:=E.mp (by omega);have:q≠0:=fun e=>by have:=G.mpr e;omega
  grind
 .intro h
  have J:0<=q.num:=E.mpr (by grind);have O:q.num≠0:=fun e=>by have:=G.mp e;grind
  omega
theorem UN(q:Rat):Ak q.num 0<=0↔¬0<q:=by rw[pV,amO]
theorem aje{x t:List Rat}{f:Rat}{i:Nat}(h:i<x.length)(E:i<t.length):(Ls x t f)[i]'(by unfold Ls;rw[tq];omega)=x[i] - f*t[i]:=by simp only[Ls,List.getElem_zipWith]
theorem lK{α:Type}{xs:List α}{k:Nat}(h:k<xs.length)(d:α):xs.getD k d=xs[k]:=by rw[zx,zy h];rfl
theorem aqz{σ:Store}{nx bi bR N k:Nat}{x t:List Rat}(hx:x.length=N+1)(ht:t.length=N+1)(hN:N<=1000)(hk:k<N+1)(bx:∀u∈x,Ln 6 u)(bt:∀v∈t,Ln 6 v)(h1:σ bi=some ⟨x.flatMap cQ,3,true⟩)(h2:σ bR=some ⟨t.flatMap cQ,3,true⟩)(a1:bi≠bR)(a2:bi<nx)(a5:bR<nx) :
  ∃σ' nx',ev ZH qI Af 177 [.rs bi 0 (N+1),.rs bR 0 (N+1),I k] σ nx=some (.AP [],σ',nx')/\σ' bi=some ⟨(Ls x t (x.getD k 0)).flatMap cQ,3,true⟩/\nx<=nx'/\∀b,b<nx->b≠bi->σ' b=σ b:=by
 obtain⟨f,ef⟩:∃f,f=x.getD k 0:=⟨_,rfl⟩;have a0:x[k]'(by omega)=f:=by rw[ef,lK (by omega)]
 have bf:Ln 6 f:=by rw[<- a0];exact bx _ (zu (by omega))
 have a3:=jD k;have a4:(k:Int)<((N+1:Nat):Int):=by omega
 have a6:=d_ (c:=cQ) (s:=3) qN x k (by omega);rw[a0]at a6;have a7:=bZ (c:=cQ) (s:=3) qN x;rw[hx]at a7;have a8:k*3+3<=(N+1)*3:=by omega
 have k1:=dM f (bf.mono (by decide));rw[<- ef];rw[nG [] [7] func177]
 by_cases O:f=0
 .have s1:=ajd f
  rw[sO O]at s1;refine⟨upd σ nx (some ⟨cQ f,0,true⟩),nx+1,by simp only[go_sem,h1,a3,a4,a6,a7,a8,k1,s1,Zh],?_,by omega,fun b hb _=>by rw[Zk]⟩;rw[Zk,h1];congr 3;subst O;apply yS
  .rw[pX (by omega)]
  .intro i g1 g2
   rw[aje g1 (by omega)];grind
 .have s1:=ajd f
  rw[sN O]at s1;obtain⟨W,eW⟩:∃W,W=Ls x t f:=⟨_,rfl⟩;have b2:W.length=N+1:=by rw[eW,pX (by omega),hx]
  have G:W.length=x.length:=by omega
  have k2:=ahr f (by have:=bf.1;omega) (by have:=bf.2;omega);rw[<- eW];obtain⟨s0,S⟩:∃s0,s0=upd (upd σ nx (some ⟨cQ f,0,true⟩)) (nx+1) (some ⟨cQ (-f),0,true⟩):=⟨_,rfl⟩;have YL:∀b,b<nx->s0 b=σ b:=fun b hb=>by rw[S,Zk,Zk]
  have a9:s0 (nx+1)=some ⟨cQ (-f),0,true⟩:=by rw[S,Zi]
  simp only[go_sem,h1,a3,a4,a6,a7,a8,k1,s1,k2,Zh,<- S];generalize hL:dI _ _=y;obtain⟨r,rfl,T',σ',nx',rfl,hn,hr,fr⟩:=pF hL (N+1) (fun j st=>st.T 0= .rs bi 0 (N+1)/\st.T 1= .rs bR 0 (N+1)/\st.T 7= .rp (nx+1) 0/\st.T 19=I ((N+1:Nat):Int)/\st.T 20=I j/\nx+2<=st.nx/\st.σ bi=some ⟨(Ea W x j).flatMap cQ,3,true⟩/\∀b,b<nx+2->b≠bi->st.σ b=s0 b)
   (fun r=>∃T σ' nx',r=(.exit 0,⟨T,σ',nx'⟩)/\nx+2<=nx'/\σ' bi=some ⟨W.flatMap cQ,3,true⟩/\∀b,b<nx+2->b≠bi->σ' b=s0 b) (by
    clear hL;rintro j ⟨T,Y,m0⟩ hj ⟨t0,t1,t7,E,J,hm,hb,fr⟩;simp only at t0 t1 t7 E J hm hb;have g1:(j:Int)<((N+1:Nat):Int):=by omega
    have g2:=jD j;have g3:=ZQ (n:=(j:Int)+1);have g4:=d_ (c:=cQ) (s:=3) qN (Ea W x j) j (by rw[jK G (by omega)];omega);rw[Ja G (by omega)]at g4;have g5:=bZ (c:=cQ) (s:=3) qN (Ea W x j);rw[jK G (by omega),hx]at g5;have g6:j*3+3<=(N+1)*3:=by omega
    have g7:=d_ (c:=cQ) (s:=3) qN t j (by omega);have g8:=bZ (c:=cQ) (s:=3) qN t;rw[ht]at g8;obtain⟨v,ev⟩:∃v,v=t[j]'(by omega):=⟨_,rfl⟩;obtain⟨u,eu⟩:∃u,u=x[j]'(by omega):=⟨_,rfl⟩;have bv:Ln 6 v:=by rw[ev];exact bt _ (zu (by omega))
    have bu:Ln 6 u:=by rw[eu];exact bx _ (zu (by omega))
    have hw:W[j]'(by omega)=u-f*v:=by subst eW;rw[aje (by omega) (by omega),eu,ev]
    rw[<- ev]at g7;rw[<- eu]at g4;have e1:Y bR=_:=(fr bR (by omega) (yu a1)).trans ((YL bR a5).trans h2);have e2:Y (nx+1)=_:=(fr (nx+1) (by omega) (by omega)).trans a9;have k3:=dM v (bv.mono (by decide));have l1:bi<m0:=by omega
    have l2:bR<m0:=by omega
    have l3:nx+1<m0:=by omega
    have s3:=abI v
    by_cases hv:v=0
    .rw[sO hv,vH]at s3
     refine .inl ⟨_,by simp only[go_sem,t0,t1,t7,E,J,hb,e1,g1,g2,g3,g6,g7,g8,k3,s3];rfl,?_⟩;simp only[go_sem,t0,t1,t7,E];refine⟨rfl,hm,?_,fr⟩;rw[<- Rz G (by omega) (by rw[hw,<- eu,hv];grind)];exact hb
    .rw[sN hv,wu]at s3
     have k4:=auz (-f) v (a:=6) (b:=6) ⟨by rw[Rat.neg_num,wC];exact bf.1,by rw[Rat.neg_den];exact bf.2⟩ bv (by decide);have k5:=ac_ u (-f*v) (a:=6) (b:=12) bu (abq (k:=6) (l:=6) ⟨by rw[Rat.neg_num,wC];exact bf.1,by rw[Rat.neg_den];exact bf.2⟩ bv (by decide)) (by decide);have c6:patch ((Ea W x j).flatMap cQ) (j*3) (cQ (u+ -f*v))=(Ea W x (j+1)).flatMap cQ:=by
      rw[iD qN _ _ (by rw[jK G (by omega)];omega),show u+ -f*v=W[j]'(by omega) by rw[hw];grind,Jb G (by omega)]
     refine .inl ⟨_,by simp only[go_sem,t0,t1,t7,E,J,hb,e1,e2,g1,g2,g3,g4,g5,g6,g7,g8,k3,s3,k4,k5,c6,l1,l2,l3];rfl,?_⟩;simp only[go_sem,t0,t1,t7,E];refine⟨rfl,hm,fun b hb hn=>?_⟩;rw[Zj _ _ hn];exact fr b hb hn) (by
    clear hL;rintro ⟨T,Y,m0⟩ ⟨t0,t1,t7,E,J,hm,hb,fr⟩;simp only at t0 t1 t7 E J hm hb;refine⟨_,by simp only[go_sem,E,J,zl];rfl,by simp,_,_,_,rfl,hm,?_,fr⟩;rw[<- hx,J9 G]at hb;exact hb) (by
    simp only[go_sem];refine⟨?_,fun _ _ _=>trivial⟩;rw[J8,YL bi a2];exact h1)
  exact⟨σ',nx',by simp only[go_sem],hr,by omega,fun b hb hn=>(fr b (by omega) hn).trans (YL b hb)⟩
theorem UO{σ:Store}{nx bi bR N k:Nat}{x t:List Rat}(Y:x.length=N+1)(ht:t.length=N+1)(hN:N<=1000)(hk:k<N+1)(bx:∀u∈x,Ln 6 u)(bt:∀v∈t,Ln 6 v)(h1:σ bi=some ⟨x.flatMap cQ,3,true⟩)(h2:σ bR=some ⟨t.flatMap cQ,3,true⟩)(G:bi≠bR)(J:bi<nx)(O:bR<nx) :
  ∃S nx' σ',ev ZH qI Af 177 [.rs bi 0 (N+1),.rs bR 0 (N+1),I k] (restrict σ [bi,bR]) nx=some (.AP [],S,nx')/\wI [bi,bR] nx nx' σ S=σ'/\σ' bi=some ⟨(Ls x t (x.getD k 0)).flatMap cQ,3,true⟩/\nx<=nx'/\∀b,b<nx->b≠bi->σ' b=σ b:=by
 obtain⟨s2,nx',e,g1,g2,g3⟩:=aqz (σ:=restrict σ [bi,bR]) Y ht hN hk bx bt ((fJ σ bi bR).trans h1) ((IU σ bi bR).trans h2) G J O;refine⟨s2,nx',_,e,rfl,?_,g2,fun b hb hn=>?_⟩
 .unfold wI;rw[sS (.inl (by simp))];exact g1
 .unfold wI
  split
  .rename_i E
   rw[g3 b hb hn];unfold restrict;rcases E with E|E
   .rw[sS E]
   .omega
  .rfl
def GV(σ:Store)(v:V)(n:Nat)(cs:List V):Prop:=(n=0/\v= .nil)\/∃b,0<n/\v= .rs b 0 n/\σ b=some ⟨cs,1,true⟩
def bk:V->List Nat
 | .rs b _ _=>[b]
 |_=>[]
def En(R:List (List Rat))(i:Nat):List Rat:=R.getD i []
structure EY (σ:Store) (bt bc:Nat) (vr vb:V) (rb:List Nat) (D:TQ) (N:Nat):Prop where
 t:σ bt=some ⟨[I N,vr,vb,.rs bc 0 (N+1)],0,true⟩
 r:GV σ vr D.R.length (rb.map fun b=>V.rs b 0 (N+1))
 row:∀i (h:i<rb.length),σ rb[i]=some ⟨(En D.R i).flatMap cQ,3,true⟩
 b:GV σ vb D.R.length ((Ce D.B).flatMap cI)
 c:σ bc=some ⟨D.c.flatMap cQ,3,true⟩
 len:rb.length=D.R.length
 nd:(bt :: bc :: (bk vr++bk vb++rb)).Nodup
structure ShF (D:TQ) (N:Nat):Prop where
 row:∀x∈D.R,x.length=N+1
 Bg:D.B.length=D.R.length
 Gm:D.c.length=N+1
 Gn:D.R.length<=1000
 sz:N<=1000
 big:∀x∈D.R,∀q∈x,Ln 6 q
 amP:∀q∈D.c,Ln 6 q
 inB:∀b∈D.B,b<1000000
theorem dR{R:List (List Rat)}{i:Nat}(h:i<R.length):En R i=R[i]:=lK h []
theorem dP{R:List (List Rat)}{n i:Nat}(hn:∀x∈R,x.length=n)(h:i<R.length):(En R i).length=n:=by rw[dR h];exact hn _ (zu h)
theorem ac'{R:List (List Rat)}{r k i:Nat}(hi:i<R.length):En (D7 R r k) i=if i=r then(En R i).map (· / B_ R r k)else Ls (En R i) ((En R r).map (· / B_ R r k)) ((En R i).getD k 0):=by
 unfold En D7;simp only[zx,uK];rw[zy hi];rfl
theorem ajf{σ:Store}{nx bt bc:Nat}{vr vb:V}{rb:List Nat}{D:TQ}{N r k:Nat}(h:EY σ bt bc vr vb rb D N)(hs:ShF D N)(e7:ShF (NT D r k) N)(a9:∀b∈bt :: bc :: (bk vr++bk vb++rb),b<nx)(hr:r<D.R.length)(hk:k<N)(hp:B_ D.R r k≠0) :
  ∃σ' nx',ev ZH qI Af 175 [.rp bt 0,I r,I k] σ nx=some (.AP [],σ',nx')/\EY σ' bt bc vr vb rb (NT D r k) N/\nx<=nx'/\∀b,b<nx->b∉bc :: (bk vb++rb)->σ' b=σ b:=by
 obtain⟨ht,e8,c5,e9,hc,hlen,c7⟩:=h;rcases e8 with ⟨h0,_⟩|⟨br,_,rfl,b6⟩
 .omega
 rcases e9 with ⟨h0,_⟩|⟨bb,_,rfl,f0⟩
 .omega
 simp only[bk,yT,yK]at a9 c7⊢;have hN:=hs.sz;have hR:=hs.Gn;simp only[xZ,zX,not_or]at c7;obtain⟨⟨n1,n2,n3,n4⟩,⟨n5,n6,n7⟩,⟨n8,n9⟩,c8,c0⟩:=c7;have Ua:=a9 bt (by simp);have d5:=a9 bc (by simp);have Ub:=a9 br (by simp);have f1:=a9 bb (by simp);have EU:∀j (E:j<rb.length),rb[j]<nx:=fun j E=>a9 _ (by simp[zu E])
 have c9:∀j (E:j<rb.length),rb[j]≠bt/\rb[j]≠bc/\rb[j]≠br/\rb[j]≠bb:=fun j E=>⟨fun e=>n4 (e ▸ zu E),fun e=>n7 (e ▸ zu E),fun e=>n9 (e ▸ zu E),fun e=>c8 (e ▸ zu E)⟩
 have a0:r<rb.length:=by omega
 obtain⟨bR,YI⟩:∃bR,bR=rb[r]:=⟨_,rfl⟩;have f2:bR<nx:=by rw[YI];exact EU r a0
 have nR:=c9 r a0;rw[<- YI]at nR;obtain⟨t,et⟩:∃t,t=En D.R r:=⟨_,rfl⟩;have d6:σ bR=some ⟨t.flatMap cQ,3,true⟩:=by rw[YI,et];exact c5 r a0
 have c2:t.length=N+1:=by rw[et];exact dP hs.row hr
 have d7:∀v∈t,Ln 6 v:=by rw[et,dR hr];exact hs.big _ (zu hr)
 obtain⟨p,ep⟩:∃p,p=B_ D.R r k:=⟨_,rfl⟩;have d8:t[k]'(by omega)=p:=by rw[ep];unfold B_;rw[<- lK (by omega) 0,et];rfl
 have bp:Ln 6 p:=by rw[<- d8];exact d7 _ (zu (by omega))
 have f3:p.num≠0:=fun e=>hp (by rw[<- ep];exact j_.mp e)
 have a1:=jD r;have a2:(r:Int)<(D.R.length:Int):=by omega
 have a3:=jD k;have a4:(k:Int)<((N+1:Nat):Int):=by omega
 have a5:(rb.map fun b=>V.rs b 0 (N+1))[r]?=some (.rs bR 0 (N+1)):=by rw[yc,zy a0,YI];rfl
 have a6:=d_ (c:=cQ) (s:=3) qN t k (by omega);rw[d8]at a6;have a7:=bZ (c:=cQ) (s:=3) qN t;rw[c2]at a7;have a8:k*3+3<=(N+1)*3:=by omega
 obtain⟨s0,d0⟩:∃s0,s0=upd σ nx (some ⟨cQ p,0,true⟩):=⟨_,rfl⟩;have YL:∀b,b<nx->s0 b=σ b:=fun b hb=>by rw[d0,Zk]
 have f5:s0 nx=some ⟨cQ p,0,true⟩:=by rw[d0,Zi]
 have d9:=(YL bt Ua).trans ht;have e0:=(YL br Ub).trans b6;obtain⟨W,eW⟩:∃W,W=t.map (· / p):=⟨_,rfl⟩;have e5:W.length=N+1:=by rw[eW,zO,c2]
 have b2:W.length=t.length:=by omega
 have c3:En (D7 D.R r k) r=W:=by rw[ac' hr,sS rfl,<- et,<- ep,eW]
 have pl:=gy D.R r k;have bW:∀v∈W,Ln 6 v:=by
  rw[<- c3,dR (by omega)];exact e7.big _ (zu (l:=(NT D r k).R) (by show r<(D7 D.R r k).length;omega))
 rw[nG [] [4,10,12] func175];simp only[go_sem,ht,b6,d6,a1,a2,a3,a4,a5,a6,a7,a8,Zh,<- d0,d9,e0];generalize hL:dI _ _=y;obtain⟨x,rfl,T1,O,m1,rfl,t0,G,J,f6,f7,f8⟩:=pF hL (N+1) (fun j st=>st.T 0= .rp bt 0/\st.T 1=I r/\st.T 2=I k/\st.T 6= .rp nx 0/\st.T 26=I ((N+1:Nat):Int)/\st.T 27=I j/\nx+1<=st.nx/\st.σ bR=some ⟨(Ea W t j).flatMap cQ,3,true⟩/\∀b,b<nx+1->b≠bR->st.σ b=s0 b)
  (fun x=>∃T σ' nx',x=(.exit 0,⟨T,σ',nx'⟩)/\T 0= .rp bt 0/\T 1=I r/\T 2=I k/\nx+1<=nx'/\σ' bR=some ⟨W.flatMap cQ,3,true⟩/\∀b,b<nx+1->b≠bR->σ' b=s0 b) (by
   clear hL;rintro j ⟨T,O,m0⟩ E ⟨t0,G,J,t6,b3,b7,hm,hb,fr⟩;simp only at t0 G J t6 b3 b7 hm hb;have g1:(j:Int)<((N+1:Nat):Int):=by omega
   have g2:=jD j;have g3:=ZQ (n:=(j:Int)+1);have g4:=d_ (c:=cQ) (s:=3) qN (Ea W t j) j (by rw[jK b2 (by omega)];omega);rw[Ja b2 (by omega)]at g4;have g5:=bZ (c:=cQ) (s:=3) qN (Ea W t j);rw[jK b2 (by omega),c2]at g5;have g6:j*3+3<=(N+1)*3:=by omega
   obtain⟨v,ev⟩:∃v,v=t[j]'(by omega):=⟨_,rfl⟩;have bv:Ln 6 v:=by rw[ev];exact d7 _ (zu (by omega))
   rw[<- ev]at g4;have e1:O bt=_:=(fr bt (by omega) (yu nR.1)).trans d9;have e2:O br=_:=(fr br (by omega) (yu nR.2.2.1)).trans e0;have e3:O nx=_:=(fr nx (by omega) (by omega)).trans f5;have l1:bt<m0:=by omega
   have l2:br<m0:=by omega
   have l3:nx<m0:=by omega
   have l4:bR<m0:=by omega
   have k1:=anF v p bv bp (by decide) f3;have c6:patch ((Ea W t j).flatMap cQ) (j*3) (cQ (v / p))=(Ea W t (j+1)).flatMap cQ:=by
    have hw:v / p=W[j]'(by omega):=by subst eW;rw[yB,ev]
    rw[iD qN _ _ (by rw[jK b2 (by omega)];omega),hw,Jb b2 (by omega)]
   refine .inl ⟨_,by simp only[go_sem,t0,G,J,t6,b3,b7,hb,e1,e2,e3,a1,a2,a5,g1,g2,g3,g4,g5,g6,k1,c6,l1,l2,l3,l4];rfl,?_⟩;simp only[go_sem,t0,G,J,t6,b3];refine⟨rfl,hm,fun b hb hn=>?_⟩;rw[Zj _ _ hn];exact fr b hb hn) (by
   clear hL;rintro ⟨T,O,m0⟩ ⟨t0,G,J,t6,b3,b7,hm,hb,fr⟩;simp only at t0 G J t6 b3 b7 hm hb;refine⟨_,by simp only[go_sem,b3,b7,zl];rfl,by simp,_,_,_,rfl,?_⟩;simp only[go_sem,t0,G,J];refine⟨hm,?_,fr⟩;rw[<- c2,J9 b2]at hb;exact hb) (by
   simp only[go_sem];refine⟨?_,fun _ _ _=>trivial⟩;rw[J8,YL bR f2];exact d6)
 have c4:∀b,b<nx->b≠bR->O b=σ b:=fun b hb hn=>(f8 b (by omega) hn).trans (YL b hb)
 have e1:O bt=_:=(c4 bt Ua (yu nR.1)).trans ht;have e2:O br=_:=(c4 br Ub (yu nR.2.2.1)).trans b6;simp only[go_sem,t0,G,J,e1];generalize hL:dI _ _=y;obtain⟨x,rfl,T2,σ2,m2,rfl,t0,G,J,h2,EF,FN⟩:=pF hL D.R.length (fun i st=>st.T 0= .rp bt 0/\st.T 1=I r/\st.T 2=I k/\st.T 56=I D.R.length/\st.T 57=I i/\nx+1<=st.nx/\(∀j (E:j<rb.length),st.σ rb[j]=some ⟨(if j<i\/j=r then En (D7 D.R r k) j else En D.R j).flatMap cQ,3,true⟩)/\∀b,b<nx->b∉rb->st.σ b=σ b)
  (fun x=>∃T σ' nx',x=(.exit 2,⟨T,σ',nx'⟩)/\T 0= .rp bt 0/\T 1=I r/\T 2=I k/\nx+1<=nx'/\(∀j (E:j<rb.length),σ' rb[j]=some ⟨(En (D7 D.R r k) j).flatMap cQ,3,true⟩)/\∀b,b<nx->b∉rb->σ' b=σ b) (by
   clear hL;rintro i ⟨T,σ2,m0⟩ hi ⟨t0,G,J,S,b4,hm,rows,fr⟩;simp only at t0 G J S b4 hm rows;have g1:(i:Int)<(D.R.length:Int):=by omega
   have g2:=jD i;have g3:=ZQ (n:=(i:Int)+1);have b8:i<rb.length:=by omega
   by_cases YG:i=r
   .have c1:((i:Int) !=(r:Int))=false:=by rw[YG];simp
    refine .inl ⟨_,by simp only[go_sem,t0,G,J,S,b4,g1,g3,c1];rfl,?_⟩;simp only[go_sem,t0,G,J,S];refine⟨rfl,hm,fun j E=>?_,fr⟩;rw[rows j E]
    by_cases Y:j=r
    .rw[sS (.inr Y),sS (.inr Y)]
    .by_cases f9:j<i
     .rw[sS (.inl f9),sS (.inl (by omega))]
     .rw[sW (by omega),sW (by omega)]
   .have c1:((i:Int) !=(r:Int))=true:=by rw[bne_iff_ne];omega
    obtain⟨bi,Fg⟩:∃bi,bi=rb[i]:=⟨_,rfl⟩;have h3:bi<nx:=by rw[Fg];exact EU i b8
    have ni:=c9 i b8;rw[<- Fg]at ni;have g0:bi≠bR:=fun e=>YG (by rw[Fg,YI]at e;exact(uV c0).mp e)
    have b5:(rb.map fun b=>V.rs b 0 (N+1))[i]?=some (.rs bi 0 (N+1)):=by rw[yc,zy b8,Fg];rfl
    have g7:σ2 bi=some ⟨(En D.R i).flatMap cQ,3,true⟩:=by rw[Fg,rows i b8,sW (by omega)]
    have d3:σ2 bR=some ⟨W.flatMap cQ,3,true⟩:=by rw[YI,rows r a0,sS (.inr rfl),c3]
    have e1:σ2 bt=_:=(fr bt Ua n4).trans ht;have e2:σ2 br=_:=(fr br Ub n9).trans b6;have l1:bt<m0:=by omega
    have l2:br<m0:=by omega
    have l3:bi<m0:=by omega
    have l4:bR<m0:=by omega
    have z1:(bt==bi)=false:=beq_false_of_ne (yu ni.1);have z2:(bt==bR)=false:=beq_false_of_ne (yu nR.1);have z3:(br==bi)=false:=beq_false_of_ne (yu ni.2.2.1);have z4:(br==bR)=false:=beq_false_of_ne (yu nR.2.2.1);obtain⟨s3,m3,b9,kc,pe,q1,q2,q3⟩:=UO (σ:=σ2) (nx:=m0) (k:=k) (dP hs.row hi) e5 hN (by omega) (by rw[dR hi];exact hs.big _ (zu hi)) bW g7 d3 g0 l3 l4;refine .inl ⟨_,by simp only[go_sem,t0,G,J,S,b4,e1,e2,a1,a2,a5,b5,g1,g2,g3,c1,l1,l2,l3,l4,z1,z2,z3,z4,kc,pe];rfl,?_⟩;simp only[go_sem,t0,G,J,S];refine⟨rfl,by omega,fun j E=>?_,fun b hb hn=>?_⟩
    .by_cases e6:j=i
     .subst e6
      rw[<- Fg,q1,sS (.inl (by omega)),ac' hi,sW YG,<- et,<- ep,<- eW]
     .have g8:rb[j]≠bi:=fun e=>e6 (by rw[Fg]at e;exact(uV c0).mp e)
      rw[q3 _ (by have:=EU j E;omega) g8,rows j E]
      by_cases Y:j<i\/j=r
      .rw[sS Y,sS (by omega)]
      .rw[sW Y,sW (by omega)]
    .rw[q3 b (by omega) (fun e=>hn (by rw[e,Fg];exact zu b8))]
     exact fr b hb hn) (by
   clear hL;rintro ⟨T,σ2,m0⟩ ⟨t0,G,J,S,b4,hm,rows,fr⟩;simp only at t0 G J S b4 hm rows;refine⟨_,by simp only[go_sem,S,b4,zl];rfl,by simp,_,_,_,rfl,?_⟩;simp only[go_sem,t0,G,J];refine⟨hm,fun j E=>?_,fr⟩;rw[rows j E,sS (.inl (by omega))]) (by
   simp only[go_sem,t0,G,J];refine⟨f6,fun j E=>?_,fun b hb hn=>c4 b hb fun e=>hn (by rw[e,YI];exact zu a0)⟩
   by_cases Y:j=r
   .subst Y
    rw[sS (.inr rfl),c3,<- YI];exact f7
   .rw[sW (by omega),c4 _ (EU j E) (fun e=>Y (by rw[YI]at e;exact(uV c0).mp e))]
    exact c5 j E)
 have e1:σ2 bt=_:=(FN bt Ua n4).trans ht;have e2:σ2 br=_:=(FN br Ub n9).trans b6;have e3:σ2 bc=_:=(FN bc d5 n7).trans hc;have d3:σ2 bR=some ⟨W.flatMap cQ,3,true⟩:=by rw[YI,EF r a0,c3]
 have l1:bt<m2:=by omega
 have l2:br<m2:=by omega
 have l3:bc<m2:=by omega
 have l4:bR<m2:=by omega
 have z1:(bt==bc)=false:=beq_false_of_ne n1;have z2:(bt==bR)=false:=beq_false_of_ne (yu nR.1);have z3:(br==bc)=false:=beq_false_of_ne (yu n5);have z4:(br==bR)=false:=beq_false_of_ne (yu nR.2.2.1);obtain⟨s3,m3,b9,kc,pe,q1,q2,q3⟩:=UO (σ:=σ2) (nx:=m2) (k:=k) hs.Gm e5 hN (by omega) hs.amP bW e3 d3 (yu nR.2.1) l3 l4;have d1:b9 bt=_:=(q3 bt l1 n1).trans e1;have d2:b9 bb=_:=(q3 bb (by omega) (yu n6)).trans ((FN bb f1 c8).trans f0);have hB:(Ce D.B).length=D.R.length:=by rw[aB];exact hs.Bg
 have g9:r<(Ce D.B).length:=by omega
 have h1:((Ce D.B).flatMap cI).set r (I k)=(Ce (D.B.set r k)).flatMap cI:=by
  rw[qQ];unfold Ce;rw[List.map_set]
 obtain⟨CB,e4⟩:∃CB,CB=upd b9 bb (some ⟨(Ce (D.B.set r k)).flatMap cI,1,true⟩):=⟨_,rfl⟩;have f4:∀b,b<nx->b≠bb->CB b=b9 b:=fun b _ hn=>by rw[e4,Zj _ _ hn]
 have d4:(NT D r k).R.length=D.R.length:=pl;refine⟨CB,m3,by simp only[go_sem,t0,G,J,e1,e2,e3,a1,a2,a5,l1,l2,l3,l4,z1,z2,z3,z4,kc,pe,d1,d2,g9,h1,<- e4],⟨?_,?_,fun j E=>?_,?_,?_,by rw[d4];exact hlen,?_⟩,by omega,fun b hb hn=>?_⟩
 .rw[f4 bt Ua n3];exact d1
 .rw[d4]
  exact .inr ⟨br,by omega,rfl,by rw[f4 br Ub n8,q3 br l2 (yu n5)];exact e2⟩
 .have:=c9 j E
  rw[f4 _ (EU j E) this.2.2.2,q3 _ (by have:=EU j E;omega) this.2.1];exact EF j E
 .rw[d4]
  exact .inr ⟨bb,by omega,rfl,by rw[e4,Zi];rfl⟩
 .rw[f4 bc d5 n6,q1,eW,et,ep]
  rfl
 .simp only[bk,yT,yK,xZ,zX,not_or]
  exact⟨⟨n1,n2,n3,n4⟩,⟨n5,n6,n7⟩,⟨n8,n9⟩,c8,c0⟩
 .simp only[zX,not_or]at hn
  rw[f4 b hb hn.2.1,q3 b (by omega) hn.1,FN b hb hn.2.2]
def RD(x:List Rat):List V:=[LL cQ x]
def FQ(D:TQ)(N:Nat):List V:=[I N,LL RD D.R,LI (Ce D.B),LL cQ D.c]
def OY(D:TQ)(N:Nat):V:=.tp (FQ D N) 0
theorem RG{R:List (List Rat)}{i:Nat}(h:i<R.length):(R.flatMap RD)[i]?=some (LL cQ (En R i)):=by
 have:=cu (fun x=>LL cQ x) R i h;rw[dR h];exact this
theorem oK{R:List (List Rat)}{i j:Nat}(h:j<(En R i).length):(En R i)[j]=B_ R i j:=(lK h 0).symm
theorem qE{R:List (List Rat)}{i j:Nat}(E:j<(En R i).length):(((En R i).flatMap cQ).drop (j*3)).take 3=cQ (B_ R i j):=by
 rw[d_ qN (En R i) j E,oK E]
theorem aqD{D:TQ}{N:Nat}(hl:D.B.length<=100000)(s:Nat):fn ZH conv ext 172 [OY D N,I s]=some (Bo (decide (s∈D.B))):=by
 have tl:=aB D.B;unfold OY FQ;rw[mM,nG [.tmp 4] [] func172];simp only[go_sem];generalize hL:dI _ _=y;obtain⟨r,rfl,hr⟩:=pF hL (Ce D.B).length (fun k st=>st.T 1=I s/\st.T 10=LI (Ce D.B)/\st.T 11=I (Ce D.B).length/\st.T 12=I k/\∀i (h:i<D.B.length),i<k->D.B[i]≠s)
  (fun r=>(∃T σ nx,r=(.exit 0,⟨T,σ,nx⟩)/\s∉D.B)\/(∃T σ nx,r=(.ret,⟨T,σ,nx⟩)/\T 4=Bo true/\s∈D.B)) (by
   clear hL;rintro k ⟨T,σ,nx⟩ Y ⟨S,G,E,J,hi⟩;simp only at S G E J;have f1:(k:Int)<((Ce D.B).length:Int):=by omega
   have f2:=jD k;have f3:=ZQ (n:=(k:Int)+1);have f5:=AZ (Ce D.B) k Y;have O:k<D.B.length:=by omega
   have f6:=idx Y;rw[aC O,lK O 0]at f6
   by_cases hp:D.B[k]=s
   .have c1:((D.B[k]:Int)==(s:Int))=true:=by rw[beq_iff_eq];omega
    refine .inr ⟨_,by simp only[go_sem,S,G,E,J,f1,f2,f5,f6,c1];rfl,by simp,.inr ⟨_,_,_,rfl,?_⟩⟩;simp only[go_sem];rw[<- hp];exact zu O
   .have c1:((D.B[k]:Int)==(s:Int))=false:=by rw[sQ];omega
    refine .inl ⟨_,by simp only[go_sem,S,G,E,J,f1,f2,f3,f5,f6,c1];rfl,?_⟩;simp only[go_sem,S,G,E];refine⟨rfl,fun i h a0=>?_⟩
    by_cases e:i=k
    .subst e;exact hp
    .exact hi i h (by omega)) (by
   clear hL;rintro ⟨T,σ,nx⟩ ⟨S,G,E,J,hi⟩;simp only at S G E J;refine⟨_,by simp only[go_sem,E,J,zl];rfl,by simp,.inl ⟨_,_,_,rfl,fun hm=>?_⟩⟩;obtain⟨i,h,e⟩:=yV hm;exact hi i h (by omega) e) (by
   simp only[go_sem];exact fun i _ h=>absurd h (zW _))
 rcases hr with ⟨T,σ,nx,rfl,hx⟩|⟨T,σ,nx,rfl,h4,hx⟩
 .rw[sN hx];simp only[go_sem]
 .rw[sO hx];simp only[go_sem,h4]
theorem fA{q j:Nat}:∀ {R:List (List Rat)} {B:List Nat},(∀b∈B,b≠q)->IK q j R B=0
 |[],_,_=>by cases ‹List Nat›<;>rfl
 |_ :: _,[],_=>rfl
 |x :: R,b :: B,h=>by
  show(if b=q then x.getD j 0 else 0)+IK q j R B=0;rw[sW (h b zM),fA fun c hc=>h c (zY _ hc)];grind
theorem Yl{q j:Nat}:∀ {R:List (List Rat)} {B:List Nat} {i:Nat},B.Nodup->B.length=R.length->(h:i<B.length)->B[i]=q->IK q j R B=B_ R i j
 |[],B,i,_,hl,h,_=>by rw[wZ]at hl;omega
 |_ :: _,[],i,_,hl,h,_=>by simp at h
 |x :: R,b :: B,0,hn,hl,h,e=>by
  show(if b=q then x.getD j 0 else 0)+IK q j R B=_;have e:b=q:=e;rw[xZ]at hn;rw[sS e,fA fun c hc J=>hn.1 (by rw[e,<- J];exact hc)];show x.getD j 0+0=x.getD j 0;grind
 |x :: R,b :: B,i+1,hn,hl,h,e=>by
  show(if b=q then x.getD j 0 else 0)+IK q j R B=_;rw[xZ]at hn;have E:i<B.length:=by simpa using h
  have G:B[i]=q:=e;rw[sW fun hb=>hn.1 (by rw[hb,<- G];exact zu E),Yl hn.2 (by simpa using hl) E G];show 0+B_ R i j=B_ R i j;grind
theorem OZ{g:Nat->Rat}{q:Nat}(G:Zr q g)(J:g q≠0):∀ {d:Nat},q<d->(Lp d g↔0<g q)
 |0,h=>absurd h (zW _)
 |d+1,h=>by
  show(Lp d g\/(Zr d g/\0<g d))↔_
  by_cases e:q=d
  .subst e
   constructor
   .rintro (E|E)
    .exact absurd G E.GI
    .exact E.2
   .exact fun E=> .inr ⟨G,E⟩
  .have O:=OZ G J (d:=d) (by omega)
   constructor
   .rintro (E|E)
    .exact O.mp E
    .exact absurd (E.1 q (by omega)) J
   .exact fun E=> .inl (O.mpr E)
def UQ(D:TQ)(s k:Nat)(z:Int):Prop:=(z=0/\Zr (k+1) (L6 D s))\/(z≠0/\∃q,q<=k/\Zr q (L6 D s)/\L6 D s q≠0/\(0<z↔0<L6 D s q))
theorem Ym(q:Rat):0<Ak q.num 0↔0<q:=by
 have:=UN q;constructor
 .intro h;exact zf fun hn=>by have:=this.mpr hn;omega
 .intro h
  have E:¬Ak q.num 0<=0:=fun e=>this.mp e h
  omega
theorem UR(q:Rat):Ak q.num 0=0↔q=0:=by
 have:=ajd q;constructor
 .intro h;rw[h]at this;exact of_decide_eq_true this.symm
 .intro h;rw[sO h]at this;exact beq_iff_eq.mp this
theorem UQ.zero(D:TQ)(s:Nat):UQ D s 0 (Ak (D.c.getD s 0).num 0):=by
 have e:L6 D s 0=D.c.getD s 0:=rfl
 by_cases h:D.c.getD s 0=0
 .refine .inl ⟨(UR _).mpr h,fun q E=>?_⟩
  have:q=0:=by omega
  subst this;rw[e,h]
 .exact .inr ⟨fun G=>h ((UR _).mp G),0,zq _,fun q E=>absurd E (zW _),by rw[e];exact h,by rw[e];exact Ym _⟩
theorem UQ.next{D:TQ}{s k:Nat}(h:UQ D s k 0){w:Rat}(hw:L6 D s (k+1)=w):UQ D s (k+1) (Ak w.num 0):=by
 rcases h with ⟨_,G⟩|⟨h,_⟩
 .by_cases E:w=0
  .exact .inl ⟨(UR _).mpr E,Zr.succ.mpr ⟨G,by rw[hw,E]⟩⟩
  .exact .inr ⟨fun J=>E ((UR _).mp J),k+1,zq _,G,by rw[hw];exact E,by rw[hw];exact Ym _⟩
 .exact absurd rfl h
theorem UQ.pos{D:TQ}{s k d:Nat}{z:Int}(h:UQ D s k z)(hd:k<d)(J:z=0->k+1=d):0<z↔Lp d (L6 D s):=by
 rcases h with ⟨G,E⟩|⟨G,q,E,O,S,Y⟩
 .subst G
  rw[J rfl]at E;exact⟨fun h=>absurd h (by decide),fun h=>absurd E h.GI⟩
 .rw[Y,OZ O S (by omega)]
theorem auB{D:TQ}{N:Nat}(h:ShF D N)(b3:D.B.Nodup){s:Nat}(hs:s<N)(b4:s∉D.B)(lex:Bool) :
  ∃z,fn ZH conv ext 173 [OY D N,I s,Bo lex]=some (I z)/\(0<z↔Lp (if lex=true then N+1 else 1) (L6 D s)):=by
 have hN:=h.sz;have tl:(Ce D.B).length=D.R.length:=by rw[aB];exact h.Bg
 have hR:=h.Gn;have a1:=jD s;have a2:(s:Int)<(D.c.length:Int):=by have:=h.Gm;omega
 have a3:=bg (c:=cQ) (s:=3) qN (by omega) D.c s (by have:=h.Gm;omega);have a4:=d_ (c:=cQ) (s:=3) qN D.c s (by have:=h.Gm;omega);rw[<- lK (by have:=h.Gm;omega) 0]at a4;have a5:=bZ (c:=cQ) (s:=3) qN D.c;have a6:s*3+3<=D.c.length*3:=by have:=h.Gm;omega
 have b5:Ln 6 (D.c.getD s 0):=by rw[lK (by have:=h.Gm;omega)];exact h.amP _ (zu _)
 have k1:=dM (D.c.getD s 0) (b5.mono (by decide));unfold OY FQ;rw[mM,nG [.tmp 6] [] func173];simp only[go_sem,a1,a2,a3,a4,a5,a6,k1];have b7:=h.Gm;have m1:((0:Int)==0)=true:=by decide
 generalize hL:dI _ _=y;obtain⟨x,rfl,hx⟩:=pF hL N (fun k st=>st.T 0= .tp (FQ D N) 0/\st.T 1=I s/\st.T 2=Bo lex/\st.T 8=I k/\(lex=false->k=0)/\∃z,st.T 7=I z/\UQ D s k z)
  (fun x=>(∃T σ nx z,x=(.exit 0,⟨T,σ,nx⟩)/\T 7=I z/\(0<z↔Lp (if lex=true then N+1 else 1) (L6 D s)))\/(∃T σ nx,x=(.ret,⟨T,σ,nx⟩)/\T 6=I (-1)/\¬Lp (if lex=true then N+1 else 1) (L6 D s))) (by
   clear hL;rintro k ⟨T,σ,nx⟩ hk ⟨t0,G,J,O,a8,z,E,Y⟩;simp only at t0 G J O E;unfold FQ at t0;have f1:(k:Int)<(N:Int):=by omega
   have f2:=jD k;have f3:=ZQ (n:=(k:Int)+1)
   by_cases z0:z=0
   .subst z0
    cases lex with
    |false=>
     have b6:=a8 rfl;subst b6;refine .inr ⟨_,by simp only[go_sem,t0,G,J,O,E,m1];rfl,by simp,.inl ⟨_,_,_,0,rfl,?_⟩⟩;simp only[go_sem,E];exact Y.pos (by decide) fun _=>rfl
    |true=>
     by_cases b2:k=s
     .have c1:((k:Int)==(s:Int))=true:=by rw[b2];simp
      refine .inr ⟨_,by simp only[go_sem,t0,G,J,O,E,m1,f1,c1];rfl,by simp,.inr ⟨_,_,_,rfl,?_⟩⟩;simp only[go_sem];have e:L6 D s (s+1)= -1:=by
       unfold L6;rw[sW (by omega),sS rfl];show -1+IK s s D.R D.B= -1;rw[fA fun b hb (e:b=s)=>b4 (by rw[<- e];exact hb)];grind
      rw[b2]at Y;rcases Y with ⟨_,Y⟩|⟨Y,_⟩
      .rw[OZ Y (by rw[e];decide) (by omega),e];decide
      .exact absurd rfl Y
     .have c1:((k:Int)==(s:Int))=false:=by rw[sQ];omega
      have eg:L6 D s (k+1)=IK k s D.R D.B:=by
       unfold L6;rw[sW (by omega),sW (by omega)];show 0+IK k s D.R D.B=_;grind
      refine bF ?_
      conv=>
       enter [1,r,1,1]
       simp only[go_sem,t0,G,J,O,E,m1,f1,c1]
      generalize hL:dI _ _=y;obtain⟨x,rfl,T1,b8,nI,rfl,t0,G,J,O,E⟩:=pF hL D.R.length (fun i st=>st.T 0= .tp (FQ D N) 0/\st.T 1=I s/\st.T 2=Bo true/\st.T 8=I k/\st.T 40=LI (Ce D.B)/\st.T 41=I D.R.length/\st.T 42=I i/\∃w:Rat,st.T 7=I (Ak w.num 0)/\((∃j,∃hj:j<D.B.length,j<i/\D.B[j]=k/\w=B_ D.R j s)\/((∀j (hj:j<D.B.length),j<i->D.B[j]≠k)/\w=0)))
       (fun x=>∃T σ nx,x=(.exit 2,⟨T,σ,nx⟩)/\T 0= .tp (FQ D N) 0/\T 1=I s/\T 2=Bo true/\T 8=I k/\T 7=I (Ak (IK k s D.R D.B).num 0)) (by
        clear hL;rintro i ⟨T,σ,nx⟩ hi ⟨t0,G,J,O,a0,S,a7,w,E,hw⟩;simp only at t0 G J O a0 S a7 E;have g1:(i:Int)<(D.R.length:Int):=by omega
        have g2:=jD i;have g3:=ZQ (n:=(i:Int)+1);have g4:=AZ (Ce D.B) i (by omega);have a9:i<D.B.length:=by have:=h.Bg;omega
        have g5:=idx (xs:=Ce D.B) (k:=i) (by omega);rw[aC a9,lK a9 0]at g5
        by_cases hb:D.B[i]=k
        .have c2:((D.B[i]:Int)==(k:Int))=true:=by rw[beq_iff_eq];omega
         have rl:=dP h.row hi;have r1:=RG hi;have r2:=bg (c:=RD) (s:=1) (fun _=>rfl) (by omega) D.R i hi;have r3:(s:Int)<((En D.R i).length:Int):=by omega
         have r4:=bg (c:=cQ) (s:=3) qN (by omega) (En D.R i) s (by omega);have r5:=qE (R:=D.R) (i:=i) (j:=s) (by omega);have r6:=bZ (c:=cQ) (s:=3) qN (En D.R i);have r7:s*3+3<=(En D.R i).length*3:=by omega
         have bq:Ln 6 (B_ D.R i s):=by
          rw[<- oK (by omega)];exact h.big _ (by rw[dR hi];exact zu hi) _ (zu _)
         have k2:=dM (B_ D.R i s) (bq.mono (by decide));unfold FQ at t0;refine .inl ⟨_,by simp only[go_sem,t0,G,J,O,a0,S,a7,E,tl,g1,g2,g3,g4,g5,c2,a1,r1,r2,r3,r4,r5,r6,r7,k2];rfl,?_⟩;simp only[go_sem,t0,G,J,O,a0,S];exact⟨rfl,rfl,_,rfl,.inl ⟨i,a9,by omega,hb,rfl⟩⟩
        .have c2:((D.B[i]:Int)==(k:Int))=false:=by rw[sQ];omega
         refine .inl ⟨_,by simp only[go_sem,t0,G,J,O,a0,S,a7,E,tl,g1,g2,g3,g4,g5,c2];rfl,?_⟩;simp only[go_sem,t0,G,J,O,a0,S,E];refine⟨rfl,w,rfl,?_⟩;rcases hw with ⟨j,hj,h1,h2,h3⟩|⟨h1,h2⟩
         .exact .inl ⟨j,hj,by omega,h2,h3⟩
         .refine .inr ⟨fun j hj b9=>?_,h2⟩
          by_cases e:j=i
          .subst e;exact hb
          .exact h1 j hj (by omega)) (by
        clear hL;rintro ⟨T,σ,nx⟩ ⟨t0,G,J,O,a0,S,a7,w,E,hw⟩;simp only at t0 G J O a0 S a7 E;refine⟨_,by simp only[go_sem,S,a7,zl];rfl,by simp,_,_,_,rfl,?_⟩;simp only[go_sem,t0,G,J,O,E];have:w=IK k s D.R D.B:=by
         rcases hw with ⟨j,hj,h1,h2,h3⟩|⟨h1,h2⟩
         .rw[Yl b3 h.Bg hj h2,h3]
         .rw[fA,h2]
          intro b hb e;obtain⟨j,hj,e2⟩:=yV hb;exact h1 j hj (by have:=h.Bg;omega) (e2.trans e)
        rw[this]) (by
        simp only[go_sem,t0,G,J,O,E,tl];exact⟨rfl,0,rfl,.inr ⟨fun j _ hj=>absurd hj (zW _),rfl⟩⟩)
      refine⟨_,by simp only[go_sem,O,f3];rfl,.inl ⟨_,rfl,?_⟩⟩;simp only[go_sem,t0,G,J,E];exact⟨rfl,by simp,_,rfl,Y.next eg⟩
   .have c0:(z==(0:Int))=false:=by rw[sQ];exact z0
    refine .inr ⟨_,by simp only[go_sem,t0,G,J,O,E,c0];rfl,by simp,.inl ⟨_,_,_,z,rfl,?_⟩⟩;simp only[go_sem,E];refine Y.pos ?_ fun e=>absurd e z0
    cases lex with
    |false=>have:=a8 rfl;simp;omega
    |true=>simp;omega) (by
   clear hL;rintro ⟨T,σ,nx⟩ ⟨t0,G,J,O,a8,z,E,Y⟩;simp only at t0 G J O E;unfold FQ at t0;have fin:0<z↔Lp (if lex=true then N+1 else 1) (L6 D s):=by
    cases lex with
    |false=>have:=a8 rfl;omega
    |true=>exact Y.pos (by simp) fun _=>by simp
   by_cases z0:z=0
   .subst z0
    cases lex with
    |false=>have:=a8 rfl;omega
    |true=>
     refine⟨_,by simp only[go_sem,t0,G,J,O,E,m1,zl];rfl,by simp,.inl ⟨_,_,_,0,rfl,?_⟩⟩;simp only[go_sem,E];exact fin
   .have c0:(z==(0:Int))=false:=by rw[sQ];exact z0
    refine⟨_,by simp only[go_sem,t0,G,J,O,E,c0];rfl,by simp,.inl ⟨_,_,_,z,rfl,?_⟩⟩;simp only[go_sem,E];exact fin) (by
   simp only[go_sem];exact⟨rfl,fun _=>trivial,_,rfl,UQ.zero D s⟩)
 rcases hx with ⟨T,σ,nx,z,rfl,E,Y⟩|⟨T,σ,nx,rfl,t6,Y⟩
 .exact⟨z,by simp only[go_sem,E],Y⟩
 .exact⟨-1,by simp only[go_sem,t6],fun h=>absurd h (by decide),fun h=>absurd h Y⟩
def qo(D:TQ)(N k i:Nat):Rat:=B_ D.R i N / B_ D.R i k
def Eu(D:TQ)(N k i:Nat)(r:Int):Prop :=
 (r= -1/\∀j,j<i->¬0<B_ D.R j k)\/∃r':Nat,r=r'/\r'<i/\0<B_ D.R r' k/\(∀j,j<i->0<B_ D.R j k->qo D N k r'<=qo D N k j) /\
  ∀j,j<i->0<B_ D.R j k->qo D N k r'=qo D N k j->D.B.getD r' 0<=D.B.getD j 0
section
variable {D:TQ} {N k i:Nat} {r:Int}
theorem Eu.skip(h:Eu D N k i r)(hn:¬0<B_ D.R i k):Eu D N k (i+1) r:=by
 have G:∀j,j<i+1->0<B_ D.R j k->j<i:=fun j E hp=>by
  by_cases e:j=i
  .subst e;exact absurd hp hn
  .omega
 rcases h with ⟨rfl,h⟩|⟨r',rfl,Y,J,O,S⟩
 .exact .inl ⟨rfl,fun j E hp=>h j (G j E hp) hp⟩
 .exact .inr ⟨r',rfl,by omega,J,fun j E hp=>O j (G j E hp) hp,fun j E hp=>S j (G j E hp) hp⟩
theorem Eu.first(h:Eu D N k i (-1))(hp:0<B_ D.R i k):Eu D N k (i+1) i:=by
 rcases h with ⟨_,h⟩|⟨r',e,_⟩
 .have J:∀j,j<i+1->0<B_ D.R j k->j=i:=fun j G hp=>by
   by_cases e:j=i
   .exact e
   .exact absurd hp (h j (by omega))
  exact .inr ⟨i,rfl,by omega,hp,fun j G E=>by rw[J j G E];grind,fun j G E _=>by rw[J j G E];exact zq _⟩
 .omega
theorem Eu.better{r:Nat}(h:Eu D N k i r)(hp:0<B_ D.R i k)(hc:qo D N k i<qo D N k r\/(qo D N k i=qo D N k r/\D.B.getD i 0<D.B.getD r 0)):Eu D N k (i+1) i:=by
 rcases h with ⟨e,_⟩|⟨r',e,S,Y,G,J⟩
 .omega
 .have:r=r':=by omega
  subst this;refine .inr ⟨i,rfl,by omega,hp,fun j O E=>?_,fun j O E he=>?_⟩
  .by_cases e:j=i
   .subst e;grind
   .have:=G j (by omega) E;grind
  .by_cases e:j=i
   .subst e;exact zq _
   .have g1:=G j (by omega) E
    rcases hc with hc|⟨hc,hb⟩
    .grind
    .have:=J j (by omega) E (by grind);omega
theorem Eu.keep{r:Nat}(h:Eu D N k i r)(hc:qo D N k r<qo D N k i\/(qo D N k i=qo D N k r/\D.B.getD r 0<=D.B.getD i 0)):Eu D N k (i+1) r:=by
 rcases h with ⟨e,_⟩|⟨r',e,h1,G,J,O⟩
 .omega
 .have:r=r':=by omega
  subst this;refine .inr ⟨r,rfl,by omega,G,fun j S E=>?_,fun j S E Y=>?_⟩
  .by_cases e:j=i
   .subst e;grind
   .exact J j (by omega) E
  .by_cases e:j=i
   .subst e
    rcases hc with hc|⟨hc,hb⟩
    .grind
    .exact hb
   .exact O j (by omega) E Y
end
theorem amQ(x y:Rat):Ak (x.num*y.den) (y.num*x.den)<0↔x<y:=by
 rw[Rat.lt_iff];unfold Ak
 by_cases h:x.num*y.den<y.num*x.den
 .rw[sS h];exact⟨fun _=>h,fun _=>by decide⟩
 .rw[sW h]
  refine⟨fun E=>?_,fun E=>absurd E h⟩
  split at E<;>exact absurd E (by decide)
theorem amR(x y:Rat):(Ak (x.num*y.den) (y.num*x.den)==0)=decide (x=y):=by
 have E:=Rat.lt_iff x y;have G:=Rat.lt_iff y x
 by_cases e:x=y
 .rw[sO e]
  subst e;unfold Ak;rw[sW (by omega),sS rfl];rfl
 .rw[sN e]
  by_cases J:x<y
  .unfold Ak;rw[sS (E.mp J)];rfl
  .have O:y<x:=by grind
   have:=G.mp O;unfold Ak;rw[sW (by omega),sW (by omega)];rfl
theorem aqE{x y:Rat}{a b:Nat}(E:Ln a x)(G:Ln b y)(J:y.num≠0)(O:1<=a+b):Ln (a+b) (x / y):=by
 rw[ahq x y J];have S:=je x.num.natAbs y.den;have Y:=je x.den y.num.natAbs;have:=E.1;have:=E.2;have:=G.1;have:=G.2;exact acV (by rw[UM];omega) (by omega) O
theorem afC(a b:Rat):patch (cQ a) 0 (cQ b)=cQ b:=rfl
attribute [go_sem] afC
theorem aqF{D:TQ}{N:Nat}(h:ShF D N){k:Nat}(hk:k<N) :
  ∃r,fn ZH conv ext 174 [OY D N,I k]=some (I r)/\Eu D N k D.R.length r:=by
 have hN:=h.sz;have tl:(Ce D.B).length=D.R.length:=by rw[aB];exact h.Bg
 have hR:=h.Gn;have a1:=jD k;have m1:(-1:Int)<0:=by decide
 have bq:∀i j,i<D.R.length->j<N+1->Ln 6 (B_ D.R i j):=fun i j hi hj=>by
  have rl:=dP h.row hi;rw[<- oK (by omega)];exact h.big _ (by rw[dR hi];exact zu hi) _ (zu _)
 have nz:∀i,0<B_ D.R i k->(B_ D.R i k).num≠0:=fun i hp e=>by have:=j_.mp e;grind
 have lq:∀i,i<D.R.length->0<B_ D.R i k->Ln 12 (qo D N k i):=fun i hi hp=>aqE (a:=6) (b:=6) (bq i N hi (by omega)) (bq i k hi (by omega)) (nz i hp) (by decide)
 unfold OY FQ;rw[mM,nG [.tmp 4] [7,8] func174];simp only[go_sem];generalize hL:dI _ _=y;obtain⟨x,rfl,T',σ',nx',r,rfl,O,hb⟩:=pF hL D.R.length (fun i st=>st.T 0= .tp (FQ D N) 0/\st.T 1=I k/\st.T 6= .rp 0 0/\st.T 14=LL RD D.R/\st.T 15=I D.R.length/\st.T 16=I i/\1<=st.nx/\∃r,st.T 5=I r/\Eu D N k i r/\∃cs,st.σ 0=some ⟨cs,0,true⟩/\(∃u v w,cs=[u,v,w])/\∀r':Nat,r=r'->cs=cQ (qo D N k r'))
  (fun x=>∃T σ nx r,x=(.exit 0,⟨T,σ,nx⟩)/\T 5=I r/\Eu D N k D.R.length r) (by
   clear hL;rintro i ⟨T,σ,nx⟩ hi ⟨S,Y,h6,FH,E,G,a2,r,O,hb,cs,a3,a8,a6⟩;simp only at S Y h6 FH E G a2 O a3;unfold FQ at S;obtain⟨u,v,w,rfl⟩:=a8;have f1:(i:Int)<(D.R.length:Int):=by omega
   have f2:=jD i;have f3:=ZQ (n:=(i:Int)+1);have rl:=dP h.row hi;have r1:=RG hi;have r2:=bg (c:=RD) (s:=1) (fun _=>rfl) (by omega) D.R i hi;have r3:(k:Int)<((N+1:Nat):Int):=by omega
   have r4:=bg (c:=cQ) (s:=3) qN (by omega) (En D.R i) k (by omega);have r5:=qE (R:=D.R) (i:=i) (j:=k) (by omega);have r6:=bZ (c:=cQ) (s:=3) qN (En D.R i);rw[rl]at r6;have r7:k*3+3<=(N+1)*3:=by omega
   have s1:=dM (B_ D.R i k) ((bq i k hi (by omega)).mono (by decide))
   by_cases hp:0<B_ D.R i k
   .have c1:¬Ak (B_ D.R i k).num 0<=0:=fun e=>(UN _).mp e hp
    have w1:=ZQ (n:=((N+1:Nat):Int) - 1);have w2:((N+1:Nat):Int) - 1=(N:Int):=by omega
    rw[w2]at w1;have n0:=jD N;have n3:(N:Int)<((N+1:Nat):Int):=by omega
    have n5:=qE (R:=D.R) (i:=i) (j:=N) (by omega);have n7:N*3+3<=(N+1)*3:=by omega
    have k1:=anF (B_ D.R i N) (B_ D.R i k) (bq i N hi (by omega)) (bq i k hi (by omega)) (by decide) (nz i hp);rw[show B_ D.R i N / B_ D.R i k=qo D N k i from rfl]at k1;have z0:¬(0:Nat)=nx:=by omega
    have z1:0<nx+1:=by omega
    have z2:nx<nx+1:=by omega
    rcases hb with ⟨rfl,hb⟩|⟨r',rfl,a9,a7,b2,b3⟩
    .refine .inl ⟨_,by simp only[go_sem,S,Y,h6,FH,E,G,O,a3,f1,f2,f3,r1,r2,rl,r3,r4,r5,r6,r7,s1,a1,c1,w1,w2,n0,n3,n5,n7,k1,m1,z0,z1,z2];rfl,?_⟩
     simp only[go_sem,S,Y,h6,FH,E,O,z0];exact⟨rfl,rfl,i,rfl,Eu.first (.inl ⟨rfl,hb⟩) hp,_,rfl,⟨_,_,_,rfl⟩,fun r' e=>by rw[show r'=i by omega]⟩
    .have a4:Eu D N k i r':=.inr ⟨r',rfl,a9,a7,b2,b3⟩
     have J:σ 0=some ⟨cQ (qo D N k r'),0,true⟩:=by rw[a3,a6 r' rfl]
     have q0:¬(r':Int)<0:=by omega
     have q1:(r':Int)<(D.R.length:Int):=by omega
     have q2:(0:Int)<=(r':Int):=by omega
     have q3:=AZ (Ce D.B) i (by omega);have q4:=idx (xs:=Ce D.B) (k:=i) (by omega);rw[aC (by have:=h.Bg;omega)]at q4;have q5:=AZ (Ce D.B) r' (by omega);have q6:=idx (xs:=Ce D.B) (k:=r') (by omega);rw[aC (by have:=h.Bg;omega)]at q6;have k2:=anG (qo D N k i) (qo D N k r') (lq i hi hp) (lq r' (by omega) a7) (by decide) (by decide) (by decide);have e1:=amQ (qo D N k i) (qo D N k r');have e2:=amR (qo D N k i) (qo D N k r');generalize Ak ((qo D N k i).num*(qo D N k r').den) ((qo D N k r').num*(qo D N k i).den)=z at k2 e1 e2
     by_cases g1:qo D N k i<qo D N k r'
     .have a0:=e1.mpr g1
      refine .inl ⟨_,by simp only[go_sem,S,Y,h6,FH,E,G,O,J,f1,f2,f3,r1,r2,rl,r3,r4,r5,r6,r7,s1,a1,c1,w1,w2,n0,n3,n5,n7,k1,k2,q0,a0,z0,z1,z2];rfl,?_⟩;simp only[go_sem,S,Y,h6,FH,E,O,z0];exact⟨rfl,rfl,i,rfl,a4.better hp (.inl g1),_,rfl,⟨_,_,_,rfl⟩,fun r' e=>by rw[show r'=i by omega]⟩
     .have a0:¬z<0:=fun e=>g1 (e1.mp e)
      by_cases g2:qo D N k i=qo D N k r'
      .rw[sO g2]at e2
       by_cases g3:D.B.getD i 0<D.B.getD r' 0
       .have a5:((D.B.getD i 0:Nat):Int)<((D.B.getD r' 0:Nat):Int):=by omega
        refine .inl ⟨_,by simp only[go_sem,S,Y,h6,FH,E,G,O,J,tl,f1,f2,f3,r1,r2,rl,r3,r4,r5,r6,r7,s1,a1,c1,w1,w2,n0,n3,n5,n7,k1,k2,q0,q1,q2,q3,q4,q5,q6,a0,e2,a5,z0,z1,z2];rfl,?_⟩;simp only[go_sem,S,Y,h6,FH,E,O,z0];exact⟨rfl,rfl,i,rfl,a4.better hp (.inr ⟨g2,g3⟩),_,rfl,⟨_,_,_,rfl⟩,fun r' e=>by rw[show r'=i by omega]⟩
       .have a5:¬((D.B.getD i 0:Nat):Int)<((D.B.getD r' 0:Nat):Int):=by omega
        refine .inl ⟨_,by simp only[go_sem,S,Y,h6,FH,E,G,O,J,tl,f1,f2,f3,r1,r2,rl,r3,r4,r5,r6,r7,s1,a1,c1,w1,w2,n0,n3,n5,n7,k1,k2,q0,q1,q2,q3,q4,q5,q6,a0,e2,a5,z0,z1,z2];rfl,?_⟩;simp only[go_sem,S,Y,h6,FH,E,O,z0,J];exact⟨rfl,rfl,r',rfl,a4.keep (.inr ⟨g2,by omega⟩),_,rfl,⟨_,_,_,rfl⟩,fun r2 e=>by rw[show r2=r' by omega]⟩
      .rw[sN g2]at e2
       refine .inl ⟨_,by simp only[go_sem,S,Y,h6,FH,E,G,O,J,tl,f1,f2,f3,r1,r2,rl,r3,r4,r5,r6,r7,s1,a1,c1,w1,w2,n0,n3,n5,n7,k1,k2,q0,a0,e2,z0,z1,z2];rfl,?_⟩;simp only[go_sem,S,Y,h6,FH,E,O,z0,J];exact⟨rfl,rfl,r',rfl,a4.keep (.inl (by grind)),_,rfl,⟨_,_,_,rfl⟩,fun r2 e=>by rw[show r2=r' by omega]⟩
   .have c1:Ak (B_ D.R i k).num 0<=0:=(UN _).mpr hp
    refine .inl ⟨_,by simp only[go_sem,S,Y,h6,FH,E,G,O,f1,f2,f3,r1,r2,rl,r3,r4,r5,r6,r7,s1,a1,c1];rfl,?_⟩;simp only[go_sem,S,Y,h6,FH,E,O];exact⟨rfl,rfl,a2,r,rfl,hb.skip hp,_,a3,⟨_,_,_,rfl⟩,a6⟩) (by
   clear hL;rintro ⟨T,σ,nx⟩ ⟨S,Y,h6,FH,E,G,a2,r,O,hb,_⟩;simp only at S Y h6 FH E G a2 O;refine⟨_,by simp only[go_sem,E,G,zl];rfl,by simp,_,_,_,r,rfl,?_,hb⟩;simp only[go_sem,O]) (by
   simp only[go_sem];exact⟨rfl,-1,rfl,.inl ⟨rfl,fun j hj=>absurd hj (zW _)⟩,_,rfl,⟨_,_,_,rfl⟩,fun r' e=>by omega⟩)
 exact⟨r,by simp only[go_sem,O],hb⟩
theorem fC{σ:Store}{b n d:Nat}{x:List Rat}(h:σ b=some ⟨x.flatMap cQ,3,true⟩)(E:x.length=n):strip σ (d+1) (.rs b 0 n)=some (LL cQ x,[b]):=by
 have G:=bZ (c:=cQ) (s:=3) qN x;rw[aS,h];simp only[zi,yX,yY];rw[sS (by omega),zk (by omega),aY (qM σ d) x];show some (V.ts _ n,[b])=_;rw[<- E]
theorem KT{σ:Store}{n d:Nat}:∀ {rb:List Nat} {R:List (List Rat)},rb.length=R.length->(∀i (h:i<rb.length),σ rb[i]=some ⟨(En R i).flatMap cQ,3,true⟩)->(∀x∈R,x.length=n)->∃ids,stripL (strip σ (d+1)) (rb.map fun b=>V.rs b 0 n)=some (R.flatMap RD,ids)
 |[],[],_,_,_=>⟨[],rfl⟩
 |[],_ :: _,h,_,_=>by simp at h
 |_ :: _,[],h,_,_=>by simp at h
 |b :: rb,x :: R,h,hr,hn=>by
  obtain⟨ids,hi⟩:=KT (rb:=rb) (R:=R) (d:=d) (by simpa using h) (fun i hi=>by
   have:=hr (i+1) (by simpa using hi);exact this) fun y E=>hn y (zY _ E)
  have G:σ b=some ⟨x.flatMap cQ,3,true⟩:=hr 0 (by simp);refine⟨[b]++ids,?_⟩;rw[vK,au,fC G (hn x zM)];simp only[zi];rw[hi];rfl
theorem GV.ajg{σ:Store}{v:V}{n d:Nat}{cs t:List V}{ids:List Nat}(h:GV σ v n cs)(G:cs.length=n)(E:stripL (strip σ d) cs=some (t,ids)):∃J,strip σ (d+1) v=some (.ts t n,J):=by
 rcases h with ⟨rfl,rfl⟩|⟨b,hn,rfl,hb⟩
 .have:cs=[]:=zZ G
  subst this;rw[aZ]at E;simp only[su,sZ]at E;obtain⟨rfl,rfl⟩:=E;exact⟨[],by rw[aT]⟩
 .refine⟨b :: ids,?_⟩
  rw[aS,hb];simp only[zi,yQ,yX,yY];rw[sS (by omega),zk (by omega),E];rfl
theorem abJ{σ:Store}{bt bc:Nat}{vr vb:V}{rb:List Nat}{D:TQ}{N:Nat}(h:EY σ bt bc vr vb rb D N)(hs:ShF D N):∃ids,strip σ 7 (.rp bt 0)=some (OY D N,ids):=by
 obtain⟨ids,E⟩:=KT (d:=4) h.len h.row hs.row;obtain⟨S,Y⟩:=h.r.ajg (by rw[zO,h.len]) E;have O:(Ce D.B).length=D.R.length:=by rw[aB];exact hs.Bg
 obtain⟨G,s2⟩:=h.b.ajg (d:=5) (by rw[qR,O]) (Dp ..);have J:strip σ 6 vb=some (LI (Ce D.B),G):=by
  rw[s2];show some (V.ts _ D.R.length,G)=some (V.ts _ (Ce D.B).length,G);rw[O]
 have s3:strip σ 6 (.rs bc 0 (N+1))=some (LL cQ D.c,[bc]):=fC (d:=5) h.c hs.Gm;have key:stripL (strip σ 6) [I N,vr,vb,.rs bc 0 (N+1)]=some (FQ D N,[]++(S++(G++([bc]++[])))):=by
  simp only[au,Y,J,s3,aQ,aZ,zG,zi];rfl
 exact⟨_,by rw[Nc,h.t,zi,key];rfl⟩
theorem auC(Qp:TQ->Prop){N:Nat}(lex:Bool){d:Nat}(hd:d=if lex=true then N+1 else 1)(hI:∀D,Qp D->ShF D N/\D.B.Nodup)(a5:∀D D',Qp D->NU N d D D'->Qp D')
  {σ:Store} {nx bt bc:Nat} {vr vb:V} {rb:List Nat} {D:TQ} {n:Nat} (b3:Qp D) (hn:Xl N d n D) (h:EY σ bt bc vr vb rb D N) (b4:∀b∈bt :: bc :: (bk vr++bk vb++rb),b<nx) :
  ∃σ' nx' J D',ev ZH qI Af 140 [.rp bt 0,Bo lex] σ nx=some (Bo J,σ',nx')/\alK N d D J D'/\Qp D'/\EY σ' bt bc vr vb rb D' N/\nx<=nx'/\∀b,b<nx->b∉bc :: (bk vb++rb)->σ' b=σ b:=by
 rw[nG [.tmp 4] [] func140];simp only[go_sem];generalize hL:dI _ _=y;obtain⟨x,rfl,T1,a3,nI,J,D1,rfl,t4,hR,hQ,hT,O,fr⟩:=jV hL (fun m st=>st.T 0= .rp bt 0/\st.T 1=Bo lex/\nx<=st.nx/\(∀b,b<nx->b∉bc :: (bk vb++rb)->st.σ b=σ b)/\∃D1,GL N d D D1/\Qp D1/\EY st.σ bt bc vr vb rb D1 N/\Xl N d m D1)
  (fun x=>∃T σ' nx' J D',x=(.ret,⟨T,σ',nx'⟩)/\T 4=Bo J/\alK N d D J D'/\Qp D'/\EY σ' bt bc vr vb rb D' N/\nx<=nx'/\∀b,b<nx->b∉bc :: (bk vb++rb)->σ' b=σ b) (by
   clear hL;rintro m ⟨T,a3,nI⟩ ⟨t0,E,O,fr,D1,hr,hQ,hT,a7⟩;simp only at t0 E O hT;obtain⟨hS,b5⟩:=hI D1 hQ;obtain⟨ids,Y⟩:=abJ hT hS;have a0:=hT.t;have hN:=hS.sz;refine bF ?_
   conv=>
    enter [1,r,1,1]
    simp only[go_sem,t0,E]
   generalize hL:dI _ _=z;obtain⟨x,rfl,T2,hx⟩:=pF hL N (fun k st=>st.T 0= .rp bt 0/\st.T 1=Bo lex/\st.T 6=I k/\st.σ=a3/\st.nx=nI/\((st.T 5=I (-1)/\∀j,j<k->j∉D1.B->¬Lp d (L6 D1 j))\/∃s:Nat,st.T 5=I s/\L8 N d D1 s))
    (fun x=>∃T,x=(.exit 2,⟨T,a3,nI⟩)/\T 0= .rp bt 0/\T 1=Bo lex/\((T 5=I (-1)/\∀j,j<N->j∉D1.B->¬Lp d (L6 D1 j))\/∃s:Nat,T 5=I s/\L8 N d D1 s)) (by
     clear hL;rintro k ⟨T,σ2,Ci⟩ hk ⟨t0,E,t6,a1,G,h5⟩;simp only at t0 E t6 a1 G h5;subst a1 G;have f1:(k:Int)<(N:Int):=by omega
     have f3:=ZQ (n:=(k:Int)+1);rcases h5 with ⟨S,a2⟩|⟨s,S,hE⟩
     .have m1:(-1:Int)<0:=by decide
      have k1:=aqD (D:=D1) (N:=N) (by have:=hS.Bg;have:=hS.Gn;omega) k
      by_cases hB:k∈D1.B
      .rw[sO hB]at k1
       refine .inl ⟨_,by simp only[go_sem,t0,E,S,t6,a0,Y,f1,f3,m1,k1];rfl,?_⟩;simp only[go_sem,t0,E,S];refine⟨rfl,.inl fun j hj a4=>?_⟩
       by_cases e:j=k
       .subst e;exact absurd hB a4
       .exact a2 j (by omega) a4
      .rw[sN hB]at k1
       obtain⟨z,k2,hz⟩:=auB hS b5 hk hB lex;rw[<- hd]at hz
       by_cases hp:0<z
       .refine .inl ⟨_,by simp only[go_sem,t0,E,S,t6,a0,Y,f1,f3,m1,k1,k2,hp];rfl,?_⟩
        simp only[go_sem,t0,E];exact⟨rfl,.inr ⟨k,rfl,hk,hB,hz.mp hp,a2⟩⟩
       .refine .inl ⟨_,by simp only[go_sem,t0,E,S,t6,a0,Y,f1,f3,m1,k1,k2,hp];rfl,?_⟩
        simp only[go_sem,t0,E,S];refine⟨rfl,.inl fun j hj a4=>?_⟩
        by_cases e:j=k
        .subst e;exact fun hl=>hp (hz.mpr hl)
        .exact a2 j (by omega) a4
     .have m1:¬(s:Int)<0:=by omega
      refine .inr ⟨_,by simp only[go_sem,t0,E,S,t6,a0,f1,m1];rfl,by simp,_,rfl,?_⟩;simp only[go_sem,t0,E,S];exact .inr ⟨s,rfl,hE⟩) (by
     clear hL;rintro ⟨T,σ2,Ci⟩ ⟨t0,E,t6,a1,G,h5⟩;simp only at t0 E t6 a1 G h5;subst a1 G;refine⟨_,by simp only[go_sem,t0,E,t6,a0,zl];rfl,by simp,_,rfl,?_⟩;simp only[go_sem,t0,E];exact h5) (by
     simp only[go_sem,t0,E];exact .inl fun j hj=>absurd hj (zW _))
   obtain⟨rfl,t0,E,h5⟩:=hx;rcases h5 with ⟨S,a8⟩|⟨s,S,hE⟩
   .have m1:(-1:Int)<0:=by decide
    refine⟨_,by simp only[go_sem,t0,E,S,m1];rfl,.inr ⟨by simp,_,_,_,true,D1,rfl,?_⟩⟩;simp only[go_sem];exact⟨⟨hr,.inl ⟨rfl,a8⟩⟩,hQ,hT,O,fr⟩
   .have m1:¬(s:Int)<0:=by omega
    obtain⟨r,k3,hb⟩:=aqF hS hE.lt;rcases hb with ⟨rfl,hb⟩|⟨r',rfl,a9,b6,b7,b8⟩
    .have m2:(-1:Int)<0:=by decide
     refine⟨_,by simp only[go_sem,t0,E,S,m1,Y,k3,m2];rfl,.inr ⟨by simp,_,_,_,false,D1,rfl,?_⟩⟩;simp only[go_sem];exact⟨⟨hr,.inr ⟨rfl,s,hE,hb⟩⟩,hQ,hT,O,fr⟩
    .have m2:¬(r':Int)<0:=by omega
     have a6:NU N d D1 (NT D1 r' s):=⟨s,r',hE,⟨a9,b6,b7,b8⟩,rfl⟩;have b2:=a5 _ _ hQ a6;obtain⟨c0,Aq,k4,Oh,c2,b9⟩:=ajf hT hS (hI _ b2).1 (fun b hb=>xP (b4 b hb) O) a9 hE.lt (by grind);cases m with
     |zero=>exact absurd a7 id
     |succ m'=>
      refine⟨_,by simp only[go_sem,qJ,t0,E,S,m1,Y,k3,m2,k4];rfl,.inl ⟨_,rfl,m',by omega,?_⟩⟩;simp only[go_sem,t0,E];exact⟨by omega,fun b hb hn=>(b9 b (by omega) hn).trans (fr b hb hn),_,hr.tail a6,b2,Oh,a7 _ a6⟩) n (by
   simp only[go_sem];exact⟨fun _ _ _=>trivial,D,GL.refl D,b3,h,hn⟩)
 exact⟨a3,nI,J,D1,by simp only[go_sem,t4],hR,hQ,hT,O,fr⟩
attribute [-go_sem] rD
theorem aqG{m n:Nat}{A b c:List Int}(hA:A.length=m*n)(hm:m<=1000)(hn:n<=1000){i:Nat}(hi:i<m) :
  fn ZH conv ext 170 [.agg (CZ m n A b c),I i]=some (.ts (((A.drop (i*n)).take n).flatMap cI) n):=by
 have h1:i*n<=m*n:=zC _ (by omega);have E:(i+1)*n<=m*n:=zC _ (by omega);have h3:m*n<=1000*1000:=yE hm hn;have G:IntKind.i64.wrap ((i:Int)*(n:Int))=((i*n:Nat):Int):=by rw[ZQ (by rw[<- yh];omega) (by rw[<- yh];omega),yh]
 have J:=ZQ (n:=(i:Int)+1);have O:IntKind.i64.wrap (((i:Int)+1)*(n:Int))=(((i+1)*n:Nat):Int):=by rw[show((i:Int)+1)=((i+1:Nat):Int)from rfl,ZQ (by rw[<- yh];omega) (by rw[<- yh];omega),yh]
 have S:((i*n:Nat):Int)<=(((i+1)*n:Nat):Int):=Int.ofNat_le.mpr (zC _ (by omega));have Y:(((i+1)*n:Nat):Int)<=((A.length:Nat):Int):=by rw[hA];exact Int.ofNat_le.mpr E
 have f6:(0:Int)<=((i*n:Nat):Int):=by omega
 have f7:(0:Int)<=(((i+1)*n:Nat):Int):=by omega
 have f8:(i+1)*n-i*n=n:=by rw[xq];omega
 have n1:i*n<=(i+1)*n:=zC _ (by omega);have n2:(i+1)*n<=A.length:=by omega
 unfold CZ;rw[mM,nG [.tmp 4] [] func170];simp only[go_sem,G,O,J,S,Y,f6,f7,f8,n1,n2];rw[XK,qP]
def FT(f:Nat->Int):Nat->Int
 |0=>0
 |k+1=>FT f k+f k
def EZ(A b:List Int)(m n k:Nat):List Int:=(List.range (n+m+1)).map fun j=>if j<n\/j=n+m then FT (fun i=>cell0 A b m n i j) k else 0
def qs(z:List Int):List Rat:=z.map fun(x:Int)=>(x:Rat)
def Dq(A b:List Int)(m n k:Nat):TQ:=⟨(Et A b m n k).map qs,(List.range k).map fun i=>n+i,qs (EZ A b m n k)⟩
theorem pG(A b:List Int)(m n k:Nat):(EZ A b m n k).length=n+m+1:=by simp[EZ]
theorem abK(A b:List Int)(m n:Nat):EZ A b m n 0=List.replicate (n+m+1) 0:=by
 unfold EZ FT;simp[List.map_const']
def ajh(A b c:List Int)(m n:Nat)(σ:Store)(nx k:Nat)(σ':Store)(nx':Nat)(bt:Nat):Prop:=∃bc vr vb rb,EY σ' bt bc vr vb rb (Dq A b m n k) (n+m)/\(∀x∈bt :: bc :: (bk vr++bk vb++rb),nx<x/\x<nx')/\∀x,x<nx->σ' x=σ x
def GR(v:V)(σ:Store)(lo nx:Nat)(L:List Rat):Prop:=(L=[]/\v= .nil)\/∃b,L≠[]/\lo<=b/\b<nx/\v= .rs b 0 L.length/\σ b=some ⟨L.flatMap cQ,3,true⟩
theorem rP{v:V}{σ:Store}{lo nx:Nat}{L:List Rat}(h:GR v σ lo nx L)(S:lo<=nx)(x:Rat)(Y:L.length<100000) :
  ∃σ',Ad (upd σ nx (some ⟨cQ x,3,true⟩)) (nx+1) 3 56 v (cQ x) 1=some (.rs (nx+1) 0 (L.length+1),σ',nx+1+1)/\GR (.rs (nx+1) 0 (L.length+1)) σ' lo (nx+1+1) (L++[x])/\∀y,y<lo->σ' y=σ y:=by
 have hg:Cj cQ 3 (fun _=>v) σ nx 0 L:=by
  rcases h with ⟨rfl,rfl⟩|⟨b,G,h2,J,E,O⟩
  .exact .inl ⟨rfl,rfl⟩
  .exact .inr ⟨b,E,G,O,J⟩
 obtain⟨σ',g1,g2,g3⟩:=ku (bytes:=56) qN (fun _=>rfl) (by decide) hg x Y (by decide);refine⟨σ',g1,.inr ⟨nx+1,by simp,by omega,by omega,by rw[zo];rfl,g2⟩,fun y hy=>g3 y (by omega) fun b o l e=>?_⟩;rcases h with ⟨rfl,rfl⟩|⟨b',G,h2,J,E,O⟩
 .cases e
 .rw[E]at e;cases e;omega
theorem qG{A b:List Int}{m n i:Nat}(E:∀x∈A,-1000<=x/\x<=1000)(G:∀x∈b,-1000<=x/\x<=1000)(j:Nat):-1000<=cell0 A b m n i j/\cell0 A b m n i j<=1000:=by
 have J:=Q9 (b:=b) (i:=i) (lJ E (i*n+j));have O:=Q9 (b:=b) (i:=i) (lJ G i);unfold cell0
 split
 .omega
 .split
  .split<;>omega
  .omega
theorem ada{f:Nat->Int}(h:∀i,-1000<=f i/\f i<=1000):∀k:Nat,-(1000*(k:Int))<=FT f k/\FT f k<=1000*(k:Int)
 |0=>by unfold FT;omega
 |k+1=>by
  have:=ada h k;have:=h k;unfold FT;omega
theorem gK(z:List Int):(qs z).length=z.length:=by simp[qs]
theorem O1{z:List Int}{j:Nat}(h:j<z.length):(qs z)[j]'(by rw[gK];exact h)=((z[j]:Int):Rat):=by simp[qs]
theorem Jc(A b:List Int)(m n k:Nat){j:Nat}(h:j<n+m+1):(EZ A b m n k)[j]'(by rw[pG];exact h)=if j<n\/j=n+m then FT (fun i=>cell0 A b m n i j) k else 0:=by simp[EZ]
theorem aji{A b:List Int}{m n k:Nat}(E:∀x∈A,-1000<=x/\x<=1000)(G:∀x∈b,-1000<=x/\x<=1000)(J:k<=400){j:Nat}(h:j<n+m+1):-1000000<=(EZ A b m n k)[j]'(by rw[pG];exact h)/\(EZ A b m n k)[j]'(by rw[pG];exact h)<=1000000:=by
 rw[Jc _ _ _ _ _ h];have:=ada (f:=fun i=>cell0 A b m n i j) (fun i=>qG E G j) k
 split<;>omega
theorem aqH{A b c:List Int}{m n:Nat}(hA:A.length=m*n)(hb:b.length=m)(hm:m<=400)(hn:n<=400)(b6:∀x∈A,-1000<=x/\x<=1000)(a6:∀x∈b,-1000<=x/\x<=1000)(σ:Store)(nx:Nat) :
  ∃σ' nx' bt,ev ZH qI Af 139 [.agg (CZ m n A b c)] σ nx=some (.rp bt 0,σ',nx')/\ajh A b c m n σ nx m σ' nx' bt:=by
 obtain⟨N,hN⟩:∃N,N=n+m:=⟨_,rfl⟩;have f1:(n:Int)+(m:Int)=(N:Int):=by omega
 have f2:=ZQ (n:=(N:Int));obtain⟨s0,b7⟩:∃s0,s0=upd (upd σ nx (some ⟨CZ m n A b c,0,true⟩)) (nx+1) (some ⟨[I N,.nil,.nil,.nil],0,true⟩):=⟨_,rfl⟩;have YL:∀x,x<nx->s0 x=σ x:=fun x hx=>by rw[b7,Zk,Zk]
 have l9:s0 nx=some ⟨CZ m n A b c,0,true⟩:=by rw[b7,Zk,Zi]
 have m1:s0 (nx+1)=some ⟨[I N,.nil,.nil,.nil],0,true⟩:=by rw[b7,Zi]
 have k0:fn ZH conv ext 144 [I 0]=some (.agg (cQ 0)):=dO 0 (by decide) (by decide)
 unfold CZ at b7⊢;rw[nG [.tmp 2] [5,30,33] func139];simp only[go_sem,f1,f2,<- b7];generalize hL:dI _ _=y;obtain⟨x,rfl,T1,a4,nI,bc,rfl,J,G,n1,g1,g2,g3,g4,m2⟩:=pF hL (N+1) (fun j st=>st.T 1= .rp nx 0/\st.T 3= .rp (nx+1) 0/\st.T 4=I j/\nx+2<=st.nx/\st.σ nx=some ⟨CZ m n A b c,0,true⟩/\(∀x,x<nx->st.σ x=σ x)/\((j=0/\st.σ (nx+1)=some ⟨[I N,.nil,.nil,.nil],0,true⟩)\/∃bc,0<j/\nx+1<bc/\bc<st.nx/\st.σ (nx+1)=some ⟨[I N,.nil,.nil,.rs bc 0 j],0,true⟩/\st.σ bc=some ⟨(List.replicate j (0:Rat)).flatMap cQ,3,true⟩))
  (fun x=>∃T a4 nI bc,x=(.exit 0,⟨T,a4,nI⟩)/\T 1= .rp nx 0/\T 3= .rp (nx+1) 0/\nx+1<bc/\bc<nI/\a4 nx=some ⟨CZ m n A b c,0,true⟩/\a4 (nx+1)=some ⟨[I N,.nil,.nil,.rs bc 0 (N+1)],0,true⟩/\a4 bc=some ⟨(List.replicate (N+1) (0:Rat)).flatMap cQ,3,true⟩/\∀x,x<nx->a4 x=σ x) (by
   clear hL;rintro j ⟨T,a4,nI⟩ hj ⟨J,G,t4,b2,sn,fr,hc⟩;simp only at J G t4 b2 sn fr hc;have g1:(j:Int)<=(N:Int):=by omega
   have g3:=ZQ (n:=(j:Int)+1);have y1:nx+1<nI:=by omega
   have y2:nx+1<nI+1:=by omega
   have y3:nI<nI+1:=by omega
   have y4:¬nx+1=nI:=by omega
   have y5:¬nx+1=nI+1:=by omega
   have y6:(nx+1==nI)=false:=by rw[sQ];omega
   have y7:(nI==nx+1)=false:=by rw[sQ];omega
   have y8:nx+1<nI+1+1:=by omega
   have y9:=jD N;rcases hc with ⟨rfl,st⟩|⟨bc,m3,c1,c2,st,sc⟩
   .refine .inl ⟨_,by simp only[go_sem,J,G,t4,st,g1,g3,k0,y1,y2,y3,y4,y5,y6,y7,y8,y9];rfl,?_⟩
    simp only[go_sem,J,G];refine⟨rfl,by omega,?_,fun x hx=>?_,.inr ⟨nI+1,by omega,by omega,rfl,?_⟩⟩
    .rw[Zk,Zk,Zk];exact sn
    .rw[Zk,Zk,Zk];exact fr x hx
    .rw[Zk,Zi];rfl
   .have e1:=rG (σ:=restrict (upd a4 nI (some ⟨cQ 0,3,true⟩)) [bc,nI]) (nx:=nI+1) (size:=3) (bytes:=56) (b:=bc) (len:=j) (m:=1) (row:=cQ 0) (by rw[fJ,Zk];exact sc) (by rw[bZ qN,yj]) (by decide) (by decide) (by unfold maxLen;omega) (by omega) rfl
    have x1:bc<nI+1:=by omega
    have x2:(nx+1==bc)=false:=by rw[sQ];omega
    have x3:(bc==nx+1)=false:=by rw[sQ];omega
    have x4:¬nx+1=bc:=by omega
    refine .inl ⟨_,by simp only[go_sem,J,G,t4,st,g1,g3,k0,y1,y2,y3,y4,y5,y6,y7,y8,y9,e1,x1,x2,x3,x4];rfl,?_⟩;simp only[go_sem,J,G];refine⟨rfl,by omega,?_,fun x hx=>?_,.inr ⟨nI+1,by omega,by omega,by omega,rfl,?_⟩⟩
    .rw[Zk,Zk,Zk,Zk];exact sn
    .rw[Zk,Zk,Zk,Zk];exact fr x hx
    .rw[Zk,Zi,uo,zU];simp) (by
   clear hL;rintro ⟨T,a4,nI⟩ ⟨J,G,t4,b2,sn,fr,hc⟩;simp only at J G t4 b2 sn fr hc;rcases hc with ⟨h0,_⟩|⟨bc,m3,c1,c2,st,sc⟩
   .omega
   .have g1:¬((N+1:Nat):Int)<=(N:Int):=by omega
    refine⟨_,by simp only[go_sem,G,t4,st,g1];rfl,by simp,_,_,_,bc,rfl,?_⟩;simp only[go_sem,J,G];exact⟨c1,c2,sn,st,sc,fr⟩) (by
   simp only[go_sem];exact⟨l9,YL,.inl m1⟩)
 clear hL;have i0:ajh A b c m n σ nx 0 a4 nI (nx+1):=by
  refine⟨bc,.nil,.nil,[],⟨?_,.inl ⟨rfl,rfl⟩,fun i h=>absurd h (zW _),.inl ⟨rfl,rfl⟩,?_,rfl,?_⟩,fun x hx=>?_,m2⟩
  .rw[<- hN];exact g3
  .rw[g4]
   show _=some (E_.mk ((qs (EZ A b m n 0)).flatMap cQ) 3 true);rw[abK,<- hN];unfold qs;rw[List.map_replicate];rfl
  .simp only[bk,zK,xZ,xC,zH,not_false_iff,true_and,List.nodup_nil,and_true]
   omega
  .simp only[bk,zK,zX,zH,or_false]at hx
   omega
 simp only[go_sem,J,G];generalize hL:dI _ _=y;obtain⟨x,rfl,T2,σ2,Ci,rfl,G,hF⟩:=pF hL m (fun i st=>st.T 1= .rp nx 0/\st.T 3= .rp (nx+1) 0/\st.T 5=I i/\nx+2<=st.nx/\st.σ nx=some ⟨CZ m n A b c,0,true⟩/\ajh A b c m n σ nx i st.σ st.nx (nx+1))
  (fun x=>∃T σ2 Ci,x=(.exit 2,⟨T,σ2,Ci⟩)/\T 3= .rp (nx+1) 0/\ajh A b c m n σ nx m σ2 Ci (nx+1)) (by
   clear hL;rintro i ⟨T,σ2,Ci⟩ hi ⟨J,G,S,b2,sn,bc,vr,vb,rb,hT,b8,fr⟩;simp only at J G S b2 sn hT b8 fr;unfold CZ at sn;have g1:(i:Int)<(m:Int):=by omega
   have g2:=jD i;have g3:=ZQ (n:=(i:Int)+1);have g9:(i:Int)<(b.length:Int):=by omega
   have e2:(b.flatMap cI)[i]?=some (I (b.getD i 0)):=by
    rw[idx (by omega),zx,zy (by omega)];rfl
   have e3:=AZ b i (by omega);have k1:=aqG (b:=b) (c:=c) hA (by omega) (by omega) hi;unfold CZ at k1;obtain⟨R0,c9⟩:∃R0,R0=qs (row0 A b m n i):=⟨_,rfl⟩;have d0:R0.length=N+1:=by rw[c9,gK,fD,hN]
   have d1:∀j (h:j<R0.length),R0[j]=((cell0 A b m n i j:Int):Rat):=fun j h=>by
    subst c9;rw[O1 (by rw[fD];omega),fE _ _ _ _ _ (by omega)]
   have d2:∀j,j<R0.length->R0.take j++[((cell0 A b m n i j:Int):Rat)]=R0.take (j+1):=fun j h=>by
    rw[yN,zy h,d1 j h];rfl
   have kI:∀j,fn ZH conv ext 144 [I (cell0 A b m n i j)]=some (.agg (cQ ((cell0 A b m n i j:Int):Rat))):=fun j=>by
    have:=qG (i:=i) (m:=m) (n:=n) b6 a6 j;exact dO _ (by omega) (by omega)
   have d3:=XO b i;refine bF ?_
   by_cases b9:b.getD i 0<0
   case' pos=>
    replace d3:sg b i= -1:=by unfold sg;rw[sS b9]
   case' neg=>
    replace d3:sg b i=1:=by unfold sg;rw[sW b9]
   all_goals
    conv=>
     enter [1,r,1,1]
     simp only[go_sem,J,G,S,sn,g1,g2,g9,e2,e3,k1,b9]
    generalize hL:dI _ _=z;obtain⟨x,rfl,T3,O,Aq,rfl,J,G,S,t6,Y,a0,Fp⟩:=pF hL n (fun k st=>st.T 1= .rp nx 0/\st.T 3= .rp (nx+1) 0/\st.T 5=I i/\st.T 6=I (sg b i)/\st.T 53= .ts (((A.drop (i*n)).take n).flatMap cI) n/\st.T 54=I n/\st.T 55=I k/\Ci<=st.nx/\GR (st.T 7) st.σ Ci st.nx (R0.take k)/\∀y,y<Ci->st.σ y=σ2 y)
     (fun x=>∃T O Aq,x=(.exit 4,⟨T,O,Aq⟩)/\T 1= .rp nx 0/\T 3= .rp (nx+1) 0/\T 5=I i/\T 6=I (sg b i)/\Ci<=Aq/\GR (T 7) O Ci Aq (R0.take n)/\∀y,y<Ci->O y=σ2 y) (by
      clear hL;rintro k ⟨T,O,Aq⟩ hk ⟨J,G,S,t6,c0,b4,c3,Y,a0,Fp⟩;simp only at J G S t6 c0 b4 c3 Y a0 Fp;have f1:(k:Int)<(n:Int):=by omega
      have f2:=jD k;have f3:=ZQ (n:=(k:Int)+1);have q9:i*n+n<=A.length:=by
       have:(i+1)*n<=m*n:=zC _ (by omega);rw[xq]at this;omega
      have f4:(((A.drop (i*n)).take n).flatMap cI)[k]?=some (I (A.getD (i*n+k) 0)):=by
       rw[idx (by simp;omega),uh,List.getElem_drop,zx,zy (by omega)];rfl
      have f5:=AZ ((A.drop (i*n)).take n) k (by simp;omega);have ec:cell0 A b m n i k=sg b i*A.getD (i*n+k) 0:=by unfold cell0;rw[sS hk]
      have bd:=qG (i:=i) (m:=m) (n:=n) b6 a6 k;have k2:=kI k;rw[ec]at bd k2;have f6:=ZQ (n:=sg b i*A.getD (i*n+k) 0);obtain⟨CB,a1,a2,a3⟩:=rP a0 Y ((sg b i*A.getD (i*n+k) 0:Int):Rat) (by rw[zh];omega);rw[<- ec,d2 k (by omega)]at a2;refine .inl ⟨_,by simp only[go_sem,J,G,S,t6,c0,b4,c3,f1,f2,f3,f4,f5,f6,k2,a1];rfl,?_⟩;simp only[go_sem,J,G,S,t6,c0,b4];exact⟨rfl,by omega,a2,fun y hy=>(a3 y hy).trans (Fp y hy)⟩) (by
      clear hL;rintro ⟨T,O,Aq⟩ ⟨J,G,S,t6,c0,b4,c3,Y,a0,Fp⟩;simp only at J G S t6 c0 b4 c3 Y a0 Fp;refine⟨_,by simp only[go_sem,b4,c3,zl];rfl,by simp,_,_,_,rfl,?_⟩;simp only[go_sem,J,G,S,t6];exact⟨Y,a0,Fp⟩) (by
      simp only[go_sem,J,G,S,d3];exact⟨.inl ⟨rfl,rfl⟩,fun _ _=>trivial⟩)
    clear hL
    conv=>
     enter [1,r,1,1]
     simp only[go_sem,J,G,S,t6]
    generalize hL:dI _ _=z;obtain⟨x,rfl,T4,CB,Fh,rfl,J,G,S,t6,m4,a0,d4⟩:=pF hL m (fun k st=>st.T 1= .rp nx 0/\st.T 3= .rp (nx+1) 0/\st.T 5=I i/\st.T 6=I (sg b i)/\st.T 10=I k/\Ci<=st.nx/\GR (st.T 7) st.σ Ci st.nx (R0.take (n+k))/\∀y,y<Ci->st.σ y=σ2 y)
     (fun x=>∃T O Aq,x=(.exit 6,⟨T,O,Aq⟩)/\T 1= .rp nx 0/\T 3= .rp (nx+1) 0/\T 5=I i/\T 6=I (sg b i)/\Ci<=Aq/\GR (T 7) O Ci Aq (R0.take (n+m))/\∀y,y<Ci->O y=σ2 y) (by
      clear hL;rintro k ⟨T,O,Aq⟩ hk ⟨J,G,S,t6,b5,Y,a0,Fp⟩;simp only at J G S t6 b5 Y a0 Fp;have f1:(k:Int)<(m:Int):=by omega
      have f3:=ZQ (n:=(k:Int)+1);have UU:O nx=_:=(Fp nx (by omega)).trans sn;have k2:=kI (n+k);have ec:cell0 A b m n i (n+k)=if k=i then 1 else 0:=by
       unfold cell0;rw[sW (by omega),sS (by omega)]
       by_cases h:k=i
       .rw[sS h,sS (by omega)]
       .rw[sW h,sW (by omega)]
      obtain⟨CB,a1,a2,a3⟩:=rP a0 Y ((cell0 A b m n i (n+k):Int):Rat) (by rw[zh];omega);rw[d2 (n+k) (by omega)]at a2
      by_cases d5:k=i
      .rw[sS d5]at ec
       rw[ec]at k2 a1;have c1:((k:Int)==(i:Int))=true:=by rw[d5];simp
       refine .inl ⟨_,by simp only[go_sem,J,G,S,t6,b5,UU,f1,f3,c1,k2,a1];rfl,?_⟩;simp only[go_sem,J,G,S,t6];exact⟨rfl,by omega,a2,fun y hy=>(a3 y hy).trans (Fp y hy)⟩
      .rw[sW d5]at ec
       rw[ec]at k2 a1;have c1:((k:Int)==(i:Int))=false:=by rw[sQ];omega
       refine .inl ⟨_,by simp only[go_sem,J,G,S,t6,b5,UU,f1,f3,c1,k2,a1];rfl,?_⟩;simp only[go_sem,J,G,S,t6];exact⟨rfl,by omega,a2,fun y hy=>(a3 y hy).trans (Fp y hy)⟩) (by
      clear hL;rintro ⟨T,O,Aq⟩ ⟨J,G,S,t6,b5,Y,a0,Fp⟩;simp only at J G S t6 b5 Y a0 Fp;have UU:O nx=_:=(Fp nx (by omega)).trans sn;refine⟨_,by simp only[go_sem,J,b5,UU,zl];rfl,by simp,_,_,_,rfl,?_⟩;simp only[go_sem,J,G,S,t6];exact⟨Y,a0,Fp⟩) (by
      simp only[go_sem,J,G,S,t6];exact⟨Y,a0,Fp⟩)
    clear hL;have m5:CB nx=_:=(d4 nx (by omega)).trans sn;have ec:cell0 A b m n i (n+m)=sg b i*b.getD i 0:=by unfold cell0;rw[sW (by omega),sW (by omega)]
    have bd:=qG (i:=i) (m:=m) (n:=n) b6 a6 (n+m);have k2:=kI (n+m);obtain⟨CY,a1,a2,a3⟩:=rP a0 m4 ((cell0 A b m n i (n+m):Int):Rat) (by rw[zh];omega);have eL:(R0.take (n+m)).length=N:=by rw[zh];omega
    have eF:R0.take (n+m+1)=R0:=zk (by omega);rw[eL,d2 (n+m) (by omega),eF]at a2;rw[ec]at bd k2 a1;rw[eL]at a1;have f6:=ZQ (n:=sg b i*b.getD i 0)
    conv=>
     enter [1,r,1,1]
     simp only[go_sem,J,G,S,t6,m5,g1,g2,g9,e2,e3,f6,k2,a1]
    obtain⟨d6,d7,m6,e4,m7,e5,c4⟩:=hT;rw[<- hN]at d6 d7;obtain⟨bw,e6⟩:∃bw,bw=Fh+1:=⟨_,rfl⟩;have e8:CY bw=some ⟨R0.flatMap cQ,3,true⟩:=by
     rcases a2 with ⟨h,_⟩|⟨b',h1,h2,h3,h4,h5⟩
     .rw[h]at d0;simp at d0
     .simp only[V.rs.injEq]at h4
      rw[e6,h4.1];exact h5
    rw[<- e6];have f5:∀y,y<Ci->CY y=σ2 y:=fun y hy=>(a3 y hy).trans (d4 y hy)
    have m8:=b8 bc (by simp);obtain⟨C0,c5⟩:∃C0,C0=qs (EZ A b m n i):=⟨_,rfl⟩;obtain⟨C1,d8⟩:∃C1,C1=qs (EZ A b m n (i+1)):=⟨_,rfl⟩;have e9:C0.length=N+1:=by rw[c5,gK,pG,hN]
    have r0:C1.length=N+1:=by rw[d8,gK,pG,hN]
    have m9:σ2 bc=some ⟨C0.flatMap cQ,3,true⟩:=by rw[c5];exact m7
    clear a1 a2 a3 a0 k2 d4;generalize hL:dI _ _=z;obtain⟨x,rfl,T5,Dy,E,rfl,J,G,S,t7,G5,n0,RH⟩:=pF hL (N+1) (fun k st=>st.T 1= .rp nx 0/\st.T 3= .rp (nx+1) 0/\st.T 5=I i/\st.T 7= .rs bw 0 (N+1)/\st.T 93=I ((N+1:Nat):Int)/\st.T 94=I k/\bw+1<=st.nx/\st.σ bc=some ⟨(Ea C1 C0 k).flatMap cQ,3,true⟩/\∀y,y<bw+1->y≠bc->st.σ y=CY y)
     (fun x=>∃T O Aq,x=(.exit 8,⟨T,O,Aq⟩)/\T 1= .rp nx 0/\T 3= .rp (nx+1) 0/\T 5=I i/\T 7= .rs bw 0 (N+1)/\bw+1<=Aq/\O bc=some ⟨C1.flatMap cQ,3,true⟩/\∀y,y<bw+1->y≠bc->O y=CY y) (by
      clear hL;rintro k ⟨T,O,Aq⟩ hk ⟨J,G,S,t7,a5,b3,Y,a7,Fp⟩;simp only at J G S t7 a5 b3 Y a7 Fp;have q1:(k:Int)<((N+1:Nat):Int):=by omega
      have q2:=jD k;have q3:=ZQ (n:=(k:Int)+1);have UU:O nx=_:=(Fp nx (by omega) (by omega)).trans ((f5 nx (by omega)).trans sn);have SY:O (nx+1)=_:=(Fp (nx+1) (by omega) (by simp only[xZ,zX,not_or]at c4;exact c4.1.1)).trans ((f5 (nx+1) (by omega)).trans d6);have f0:O bw=_:=(Fp bw (by omega) (by omega)).trans e8;have hC:C1.length=C0.length:=by omega
      have c7:C1[k]'(by omega)=if k<n\/k=n+m then C0[k]'(by omega)+R0[k]'(by omega)else C0[k]'(by omega):=by
       subst d8 c5;rw[O1 (by rw[pG];omega),O1 (by rw[pG];omega),d1,Jc _ _ _ _ _ (by omega),Jc _ _ _ _ _ (by omega)]
       by_cases h:k<n\/k=n+m
       .rw[sS h,sS h,sS h]
        rw[show FT (fun i=>cell0 A b m n i k) (i+1)=FT (fun i=>cell0 A b m n i k) i+cell0 A b m n i k from rfl,Rat.intCast_add]
       .rw[sW h,sW h,sW h]
      have l0:Ln 1 (C0[k]'(by omega)):=by
       subst c5;rw[O1 (by rw[pG];omega)];exact sJ (aji b6 a6 (by omega) (by omega))
      have l1:Ln 1 (R0[k]'(by omega)):=by
       rw[d1];exact sJ (by have:=qG (i:=i) (m:=m) (n:=n) b6 a6 k;omega)
      have g4:=d_ (c:=cQ) (s:=3) qN (Ea C1 C0 k) k (by rw[jK hC (by omega)];omega);rw[Ja hC (by omega)]at g4;have g5:=bZ (c:=cQ) (s:=3) qN (Ea C1 C0 k);rw[jK hC (by omega),e9]at g5;have g6:k*3+3<=(N+1)*3:=by omega
      have g7:=d_ (c:=cQ) (s:=3) qN R0 k (by omega);have g8:=bZ (c:=cQ) (s:=3) qN R0;rw[d0]at g8;have k2:=ac_ (C0[k]'(by omega)) (R0[k]'(by omega)) l0 l1 (by decide);have l1:nx+1<Aq:=by omega
      have l2:bc<Aq:=by omega
      have l3:bw<Aq:=by omega
      by_cases a8:k<n\/k=n+m
      .rw[sS a8]at c7
       have c6:patch ((Ea C1 C0 k).flatMap cQ) (k*3) (cQ (C0[k]'(by omega)+R0[k]'(by omega)))=(Ea C1 C0 (k+1)).flatMap cQ:=by
        rw[iD qN _ _ (by rw[jK hC (by omega)];omega),<- c7,Jb hC (by omega)]
       by_cases r1:k<n
       .have q4:(k:Int)<(n:Int):=by omega
        refine .inl ⟨_,by simp only[go_sem,J,G,S,t7,a5,b3,UU,SY,a7,f0,q1,q2,q3,q4,g4,g5,g6,g7,g8,k2,c6,l1,l2,l3];rfl,?_⟩;simp only[go_sem,J,G,S,t7,a5];refine⟨rfl,Y,fun y hy hn=>?_⟩;rw[Zj _ _ hn];exact Fp y hy hn
       .have q4:¬(k:Int)<(n:Int):=by omega
        have q5:((k:Int)==(N:Int))=true:=by rw[beq_iff_eq];omega
        refine .inl ⟨_,by simp only[go_sem,J,G,S,t7,a5,b3,UU,SY,a7,f0,q1,q2,q3,q4,q5,g4,g5,g6,g7,g8,k2,c6,l1,l2,l3];rfl,?_⟩;simp only[go_sem,J,G,S,t7,a5];refine⟨rfl,Y,fun y hy hn=>?_⟩;rw[Zj _ _ hn];exact Fp y hy hn
      .rw[sW a8]at c7
       have q4:¬(k:Int)<(n:Int):=by omega
       have q5:((k:Int)==(N:Int))=false:=by rw[sQ];omega
       refine .inl ⟨_,by simp only[go_sem,J,G,S,t7,a5,b3,UU,SY,q1,q2,q3,q4,q5];rfl,?_⟩;simp only[go_sem,J,G,S,t7,a5];refine⟨rfl,Y,?_,Fp⟩;rw[<- Rz hC (by omega) c7];exact a7) (by
      clear hL;rintro ⟨T,O,Aq⟩ ⟨J,G,S,t7,a5,b3,Y,a7,Fp⟩;simp only at J G S t7 a5 b3 Y a7 Fp;refine⟨_,by simp only[go_sem,a5,b3,zl];rfl,by simp,_,_,_,rfl,?_⟩;simp only[go_sem,J,G,S,t7];refine⟨Y,?_,Fp⟩;rw[<- e9,J9 (by omega)]at a7;exact a7) (by
      simp only[go_sem,J,G,S];refine⟨?_,fun _ _ _=>trivial⟩;rw[J8,f5 bc m8.2];exact m9)
    clear hL;simp only[xZ,zX,not_or]at c4;obtain⟨⟨n1,n2⟩,n3,n4⟩:=c4;have f6:∀y,y<Ci->y≠bc->Dy y=σ2 y:=fun y hy hn=>(RH y (by omega) hn).trans (f5 y hy)
    have n6:Dy bw=some ⟨R0.flatMap cQ,3,true⟩:=(RH bw (by omega) (by omega)).trans e8;have f7:Dy (nx+1)=some ⟨[I N,vr,vb,.rs bc 0 (N+1)],0,true⟩:=(f6 (nx+1) (by omega) n1).trans d6;have c8:Dy nx=_:=(f6 nx (by omega) (by omega)).trans sn;have n7:(Dq A b m n i).R.length=i:=by unfold Dq Et;simp
    rw[n7]at d7 e4 e5;have fin:∀(σ':Store) (nx' Hy a9:Nat),E<=Hy->Hy<nx'->E<=a9->a9<nx'->Hy≠a9->σ' (nx+1)=some ⟨[I N,.rs Hy 0 (i+1),.rs a9 0 (i+1),.rs bc 0 (N+1)],0,true⟩->σ' Hy=some ⟨(rb++[bw]).map fun b=>V.rs b 0 (N+1),1,true⟩->σ' a9=some ⟨(Ce ((List.range (i+1)).map fun i=>n+i)).flatMap cI,1,true⟩->(∀y,y<E->y≠nx+1->y∉bk vr++bk vb->σ' y=Dy y)->ajh A b c m n σ nx (i+1) σ' nx' (nx+1):=fun σ' nx' Hy a9 p1 p2 p3 p4 p5 p6 p7 p8 p9=>by
     have a8:∀y,y∈bk vr++bk vb++rb->y≠nx+1/\y≠bc/\nx<y/\y<Ci:=fun y hy=>⟨fun e=>n2 (e ▸ hy),fun e=>n3 (e ▸ hy),b8 y (by simp only[zX];exact .inr (.inr hy))⟩
     have d9:(Dq A b m n (i+1)).R.length=i+1:=by unfold Dq Et;simp
     have f8:=List.nodup_append.mp n4;have f9:∀y,y<Ci->y≠nx+1->y≠bc->y∉bk vr++bk vb->σ' y=σ2 y:=fun y h1 h2 h3 h4=>(p9 y (by omega) h2 h4).trans (f6 y h1 h3)
     have n8:∀j,j<i->En (Dq A b m n (i+1)).R j=En (Dq A b m n i).R j:=fun j hj=>by
      rw[dR (by omega),dR (by omega)];simp[Dq,Et]
     have n9:En (Dq A b m n (i+1)).R i=R0:=by
      rw[dR (by omega),c9];simp[Dq,Et]
     refine⟨bc,.rs Hy 0 (i+1),.rs a9 0 (i+1),rb++[bw],⟨by rw[<- hN];exact p6,?_,fun j hj=>?_,?_,?_,?_,?_⟩,fun x hx=>?_,fun x hx=>?_⟩
     .rw[d9,<- hN];exact .inr ⟨Hy,by omega,rfl,p7⟩
     .rw[zo,yM]at hj
      by_cases e0:j<rb.length
      .rw[yG e0,n8 j (by omega)]
       have hm:=zu e0;have:=a8 rb[j] (yw _ hm);rw[f9 _ this.2.2.2 this.1 this.2.1 fun hy=>f8.2.2 _ hy _ hm rfl];exact m6 j e0
      .have:j=i:=by omega
       subst this;rw[wO (by omega),n9];simp only[List.getElem_singleton];rw[p9 bw (by omega) (by omega) fun hy=>by have:=a8 bw (zD _ hy);omega];exact n6
     .rw[d9];exact .inr ⟨a9,by omega,rfl,p8⟩
     .rw[p9 bc (by omega) (yu n1) fun hy=>n3 (zD _ hy)]
      show _=some (E_.mk ((qs (EZ A b m n (i+1))).flatMap cQ) 3 true);rw[<- d8];exact n0
     .rw[d9,zo,e5];rfl
     .simp only[bk,yT,yK,xZ,zX,wW,zH,or_false,not_or]
      have a6:∀y,y∈rb->y<Ci:=fun y hy=>(a8 y (yw _ hy)).2.2.2
      refine⟨⟨n1,by omega,by omega,fun h=>n2 (yw _ h),by omega⟩,⟨by omega,by omega,fun h=>n3 (yw _ h),by omega⟩,⟨p5,fun h=>by have:=a6 _ h;omega,by omega⟩,⟨fun h=>by have:=a6 _ h;omega,by omega⟩,?_⟩;exact List.nodup_append.mpr ⟨f8.2.1,by simp,fun x hx y hy=>by rw[List.mem_singleton.mp hy];have:=a6 _ hx;omega⟩
     .simp only[bk,yT,yK,zX,wW,zH,or_false]at hx
      rcases hx with rfl|rfl|rfl|rfl|hx|rfl
      .omega
      .omega
      .omega
      .omega
      .have:=a8 x (yw _ hx);omega
      .omega
     .rw[f9 x (by omega) (by omega) (by omega) fun hy=>by have:=a8 x (zD _ hy);omega]
      exact fr x hx
    have w1:=ZQ (n:=(n:Int)+(i:Int));have tB:Ce ((List.range (i+1)).map fun i=>n+i)=Ce ((List.range i).map fun i=>n+i)++[(n:Int)+(i:Int)]:=by
     unfold Ce;rw[wY,wX,wX];rfl
    have y1:nx<E:=by omega
    have y2:nx+1<E:=by omega
    have y3:¬nx+1=E:=by omega
    have y4:¬nx=E:=by omega
    have y5:(nx+1==E)=false:=by rw[sQ];omega
    have y6:(E==nx+1)=false:=by rw[sQ];omega
    have y7:bw<E:=by omega
    have y8:nx<E+1:=by omega
    have y9:nx+1<E+1:=by omega
    have Yn:¬nx+1=E+1:=by omega
    have Yo:¬nx=E+1:=by omega
    have Yp:(nx+1==E+1)=false:=by rw[sQ];omega
    have g0:(E+1==nx+1)=false:=by rw[sQ];omega
    have Yq:bw<E+1:=by omega
    have h6:nx<E+1+1:=by omega
    have h7:nx+1<E+1+1:=by omega
    have h8:¬nx+1=E+1+1:=by omega
    have h9:¬nx=E+1+1:=by omega
    have i1:(nx+1==E+1+1)=false:=by rw[sQ];omega
    have i2:(E+1+1==nx+1)=false:=by rw[sQ];omega
    have i3:bw<E+1+1:=by omega
    have i4:nx<E+1+1+1:=by omega
    have i5:nx+1<E+1+1+1:=by omega
    have i6:¬nx+1=E+1+1+1:=by omega
    have i7:¬nx=E+1+1+1:=by omega
    have i9:(nx+1==E+1+1+1)=false:=by rw[sQ];omega
    have j0:(E+1+1+1==nx+1)=false:=by rw[sQ];omega
    have j1:bw<E+1+1+1:=by omega
    have j2:nx<E+1+1+1+1:=by omega
    have j3:nx+1<E+1+1+1+1:=by omega
    have j4:¬nx+1=E+1+1+1+1:=by omega
    have j5:¬nx=E+1+1+1+1:=by omega
    have j6:(nx+1==E+1+1+1+1)=false:=by rw[sQ];omega
    have j7:(E+1+1+1+1==nx+1)=false:=by rw[sQ];omega
    have j8:bw<E+1+1+1+1:=by omega
    have j9:¬nx=nx+1:=by omega
    have k3:E+1+1<E+1+1+1:=by omega
    have k4:E<E+1:=by omega
    have k5:E+1<E+1+1:=by omega
    have k6:(nx==E)=false:=by rw[sQ];omega
    have k7:(E==nx)=false:=by rw[sQ];omega
    have k8:(nx==E+1)=false:=by rw[sQ];omega
    have k9:(E+1==nx)=false:=by rw[sQ];omega
    have l4:(nx==E+1+1)=false:=by rw[sQ];omega
    have l5:(E+1+1==nx)=false:=by rw[sQ];omega
    have l6:(nx==E+1+1+1)=false:=by rw[sQ];omega
    have l7:(E+1+1+1==nx)=false:=by rw[sQ];omega
    rcases d7 with ⟨hi0,rfl⟩|⟨br,hi0,rfl,o0⟩<;>rcases e4 with ⟨o2,rfl⟩|⟨bb,o2,rfl,o3⟩
    .have o4:rb=[]:=zZ (by omega)
     subst o4;refine⟨_,by simp only[go_sem,J,G,S,t7,f7,c8,g3,w1,y1,y2,y3,y4,y5,y6,y7,y8,y9,Yn,Yo,Yp,g0,Yq,h6,h7,h8,h9,i1,i2,i3,i4,i5,i6,i7,i9,j0,j1,j2,j3,j4,j5,j6,j7,j8,j9,k3,k4,k5,k6,k7,k8,k9,l4,l5,l6,l7];rfl,.inl ⟨_,rfl,?_⟩⟩;simp only[go_sem,J,G,S];refine⟨rfl,by omega,?_,fin _ _ (E+1) (E+1+1+1) (by omega) (by omega) (by omega) (by omega) (by omega) ?_ ?_ ?_ fun y h1 h2 _=>?_⟩
     .rw[Zk,Zk,Zk,Zk,Zk,Zk];exact c8
     .rw[Zi,hi0]
     .rw[Zk,Zk,Zk,Zk,Zi];rfl
     .rw[Zk,Zi,tB,hi0];rfl
     .rw[Zk,Zk,Zk,Zk,Zk,Zk]
    .omega
    .omega
    .have lr:=b8 br (by simp[bk])
     have lb:=b8 bb (by simp[bk]);simp only[bk,yT,yK,zX,not_or]at n2 n3 n4;have n5:¬br=bb:=by
      rw[xZ]at n4;exact fun e=>n4.1 (by rw[e];exact zM)
     have o5:Dy br=_:=(f6 br lr.2 (fun e=>n3.1 e.symm)).trans o0;have o6:Dy bb=_:=(f6 bb lb.2 (fun e=>n3.2.1 e.symm)).trans o3;have o9:=rH (σ:=upd Dy E (some ⟨[V.rs bw 0 (N+1)],1,true⟩)) (nx:=E+1) (bytes:=24) (b:=br) (len:=i) (m:=1) (row:=[V.rs bw 0 (N+1)]) (by rw[Zk];exact o5) (by simp;omega) rfl (by decide) (by unfold maxLen;omega) (by omega) rfl;obtain⟨EJ,e7⟩:∃EJ,EJ=upd (upd (upd (upd Dy E (some ⟨[V.rs bw 0 (N+1)],1,true⟩)) br none) (E+1) (some ⟨(rb.map fun b=>V.rs b 0 (N+1))++[V.rs bw 0 (N+1)],1,true⟩)) (nx+1) (some ⟨[I N,.rs (E+1) 0 (i+1),.rs bb 0 i,.rs bc 0 (N+1)],0,true⟩):=⟨_,rfl⟩;have o7:∀y,y<E->y≠nx+1->y≠br->EJ y=Dy y:=fun y h1 h2 h3=>by rw[e7,Zj _ _ h2,Zk,Zj _ _ h3,Zk]
     have p0:EJ (nx+1)=some ⟨[I N,.rs (E+1) 0 (i+1),.rs bb 0 i,.rs bc 0 (N+1)],0,true⟩:=by rw[e7,Zi]
     have l8:EJ nx=_:=(o7 nx (by omega) (by omega) (by omega)).trans c8;have q0:EJ bb=_:=(o7 bb (by omega) (by omega) (yu n5)).trans o6;have q6:((Ce (Dq A b m n i).B).flatMap cI).length=i:=by rw[qR,aB];simp[Dq]
     have q7:=rH (σ:=restrict (upd EJ (E+1+1) (some ⟨[I ((n:Int)+(i:Int))],1,true⟩)) [bb,E+1+1]) (nx:=E+1+1+1) (bytes:=8) (b:=bb) (len:=i) (m:=1) (row:=[I ((n:Int)+(i:Int))]) (by rw[fJ,Zk];exact q0) q6 rfl (by decide) (by unfold maxLen;omega) (by omega) rfl;have u1:¬nx+1=br:=fun e=>n2.1 e
     have u2:¬nx+1=bb:=fun e=>n2.2.1 e
     have u3:(nx+1==bb)=false:=beq_false_of_ne u2;have u4:(bb==nx+1)=false:=beq_false_of_ne (yu u2);have u5:bb<E+1+1:=by omega
     have u6:bb<E+1+1+1:=by omega
     have u7:(nx==bb)=false:=by rw[sQ];omega
     have u8:(bb==nx)=false:=by rw[sQ];omega
     have u9:¬nx=br:=by omega
     have q8:¬nx=bb:=by omega
     refine⟨_,by simp only[go_sem,J,G,S,t7,f7,c8,g3,w1,o9,<- e7,p0,l8,q7,u1,u2,u3,u4,u5,u6,u7,u8,u9,q8,y1,y2,y3,y4,y5,y6,y7,y8,y9,Yn,Yo,Yp,g0,Yq,h6,h7,h8,h9,i1,i2,i3,i4,i5,i6,i7,i9,j0,j1,j2,j3,j4,j5,j6,j7,j8,j9,k3,k4,k5,k6,k7,k8,k9,l4,l5,l6,l7];rfl,.inl ⟨_,rfl,?_⟩⟩;simp only[go_sem,J,G,S];refine⟨rfl,by omega,?_,fin _ _ (E+1) (E+1+1+1) (by omega) (by omega) (by omega) (by omega) (by omega) ?_ ?_ ?_ fun y h1 h2 h3=>?_⟩
     .rw[Zk,Zk,Zk,Zk];exact l8
     .rw[Zi]
     .rw[Zk,Zk,Zk,Zk,e7,Zk,Zi,wX];rfl
     .rw[Zk,Zi,tB,zU];rfl
     .simp only[bk,yT,yK,zX,zH,or_false,not_or]at h3
      rw[Zj _ _ h2,Zk,Zj _ _ h3.2,Zk];exact o7 y h1 h2 h3.1) (by
   clear hL;rintro ⟨T,σ2,Ci⟩ ⟨J,G,S,b2,sn,hF⟩;simp only at J G S b2 sn hF;unfold CZ at sn;refine⟨_,by simp only[go_sem,J,S,sn,zl];rfl,by simp,_,_,_,rfl,?_⟩;simp only[go_sem,G];exact hF) (by
   simp only[go_sem,J,G];exact⟨by omega,g2,i0⟩)
 exact⟨σ2,Ci,nx+1,by simp only[go_sem,G],hF⟩
def ED(n:Nat)(D:TQ)(i:Nat):Prop:=n<=D.B.getD i 0->∀j,j<n->B_ D.R i j=0
theorem ED.piv{n N:Nat}{D:TQ}{i k r:Nat}(E:∀x∈D.R,x.length=N+1)(hl:D.B.length=D.R.length)(h:ED n D r)(O:r<D.R.length)(hi:i<D.R.length)(S:k<n)(hn:n<=N)(G:r≠i):ED n (NT D i k) r:=fun Y j hj=>by
 have J:n<=D.B.getD r 0:=by
  have:(D.B.set i k).getD r 0=D.B.getD r 0:=by
   rw[zx,zx,List.getElem?_set_ne (yu G)]
  rw[<- this];exact Y
 show B_ (D7 D.R i k) r j=0;rw[TU E hi O (by omega),sW G,h J j hj,h J k S];grind
def G6(c:List Int):List Rat:=qs c++[0]
def D2q(n:Nat)(D:TQ)(c:List Int):TQ:=⟨(pick n D.R D.B).1,(pick n D.R D.B).2,clears (G6 c) (pick n D.R D.B).1 (pick n D.R D.B).2⟩
theorem afD{α:Type}{c:α->List V}{s:Nat}(hc:∀x,(c x).length=s)(xs:List α){k:Nat}(h:k<=xs.length):(xs.flatMap c).take (k*s)=(xs.take k).flatMap c:=by
 have:=wM k xs
 conv=>lhs;rw[<- this]
 rw[zU,xM];rw[bZ hc,zh,yA h]
theorem RI{n:Nat}(x:List Rat)(b:Nat):∀ {R:List (List Rat)} {B:List Nat},B.length=R.length->pick n (R++[x]) (B++[b])=if b<n then((pick n R B).1++[x.take n++[x.getLastD 0]],(pick n R B).2++[b])else pick n R B
 |[],[],_=>by
  show(if b<n then((x.take n++[x.getLastD 0]) :: (pick n [] []).1,b :: (pick n [] []).2)else pick n [] [])=_;rfl
 |[],_ :: _,h=>by simp at h
 |_ :: _,[],h=>by simp at h
 |y :: R,d :: B,h=>by
  have E:=RI (n:=n) x b (R:=R) (B:=B) (by simpa using h);show(if d<n then((y.take n++[y.getLastD 0]) :: (pick n (R++[x]) (B++[b])).1,d :: (pick n (R++[x]) (B++[b])).2)else pick n (R++[x]) (B++[b]))=if b<n then((if d<n then((y.take n++[y.getLastD 0]) :: (pick n R B).1,d :: (pick n R B).2)else pick n R B).1++_,(if d<n then((y.take n++[y.getLastD 0]) :: (pick n R B).1,d :: (pick n R B).2)else pick n R B).2++[b])else if d<n then((y.take n++[y.getLastD 0]) :: (pick n R B).1,d :: (pick n R B).2)else pick n R B
  rw[E]
  by_cases G:b<n<;>by_cases J:d<n<;>simp[G,J]
theorem Jd{n:Nat}:∀ {R:List (List Rat)} {B:List Nat},(pick n R B).2.length=(pick n R B).1.length
 |[],_=>by simp[pick]
 |_ :: _,[]=>by simp[pick]
 |x :: R,b :: B=>by
  have E:=Jd (n:=n) (R:=R) (B:=B);unfold pick
  split<;>simp[E]
theorem Je{n:Nat}:∀ {R:List (List Rat)} {B:List Nat},(∀x∈(pick n R B).1,∃y∈R,x=y.take n++[y.getLastD 0])/\∀b∈(pick n R B).2,b<n
 |[],_=>by simp[pick]
 |_ :: _,[]=>by simp[pick]
 |y :: R,b :: B=>by
  obtain⟨O,S⟩:=Je (n:=n) (R:=R) (B:=B);unfold pick
  split
  .refine⟨fun x E=>?_,fun d G=>?_⟩
   .rcases List.mem_cons.mp E with rfl|E
    .exact⟨y,zM,rfl⟩
    .obtain⟨z,J,e⟩:=O x E
     exact⟨z,zY _ J,e⟩
   .rcases List.mem_cons.mp G with rfl|G
    .assumption
    .exact S d G
  .refine⟨fun x E=>?_,S⟩
   obtain⟨z,J,e⟩:=O x E;exact⟨z,zY _ J,e⟩
theorem KU(x:List Rat)(b:Nat):∀ {R:List (List Rat)} {B:List Nat} {c:List Rat},B.length=R.length->clears c (R++[x]) (B++[b])=Ls (clears c R B) x ((clears c R B).getD b 0)
 |[],[],_,_=>rfl
 |[],_ :: _,_,h=>by simp at h
 |_ :: _,[],_,h=>by simp at h
 |y :: R,d :: B,c,h=>KU x b (R:=R) (B:=B) (c:=Ls c y (c.getD d 0)) (by simpa using h)
theorem O4{n:Nat}:∀ {R:List (List Rat)} {B:List Nat} {c:List Rat},c.length=n->(∀x∈R,x.length=n)->(clears c R B).length=n
 |[],_,_,h,_=>by unfold clears;exact h
 |_ :: _,[],_,h,_=>by unfold clears;exact h
 |x :: R,b :: B,c,h,hr=>O4 (R:=R) (B:=B) (c:=Ls c x (c.getD b 0)) (by rw[pX (by rw[hr x zM,h]),h]) fun y E=>hr y (zY _ E)
theorem ajq{σ σ':Store}{bt bc br bb bw m0 N b:Nat}{vr vb:V}{rb:List Nat}{D:TQ}{x:List Rat}(h:EY σ bt bc vr vb rb D N)(hm:∀y∈bt :: bc :: (bk vr++bk vb++rb),y<m0)(p1:m0<=br)(p2:m0<=bb)(p3:m0<=bw)(p4:br≠bb)(p5:br≠bw)(p6:bb≠bw)
  (q1:σ' bt=some ⟨[I N,.rs br 0 (D.R.length+1),.rs bb 0 (D.R.length+1),.rs bc 0 (N+1)],0,true⟩) (q2:σ' br=some ⟨(rb++[bw]).map fun b=>V.rs b 0 (N+1),1,true⟩) (q3:σ' bb=some ⟨(Ce (D.B++[b])).flatMap cI,1,true⟩) (q4:σ' bw=some ⟨x.flatMap cQ,3,true⟩) (fr:∀y,y<m0->y≠bt->y∉bk vr++bk vb->σ' y=σ y) :
  EY σ' bt bc (.rs br 0 (D.R.length+1)) (.rs bb 0 (D.R.length+1)) (rb++[bw]) ⟨D.R++[x],D.B++[b],D.c⟩ N:=by
 obtain⟨g1,g2,g3,g4,g5,g6,g7⟩:=h;have E:(D.R++[x]).length=D.R.length+1:=by simp
 simp only[xZ,zX,not_or]at g7;obtain⟨⟨n1,n2⟩,n3,n4⟩:=g7;have Y:=List.nodup_append.mp n4;have a0:∀y,y∈bk vr++bk vb++rb->y<m0:=fun y G=>hm y (by simp only[zX];exact .inr (.inr G))
 have a2:=hm bt (by simp);have a1:=hm bc (by simp);refine⟨q1,?_,fun j hj=>?_,?_,?_,?_,?_⟩
 .show GV σ' _ (D.R++[x]).length _
  rw[E];exact .inr ⟨br,by omega,rfl,q2⟩
 .show _=some (E_.mk ((En (D.R++[x]) j).flatMap cQ) 3 true)
  rw[zo,yM]at hj
  by_cases J:j<rb.length
  .have e:En (D.R++[x]) j=En D.R j:=by rw[dR (by rw[E];omega),dR (by omega),yG (by omega)]
   rw[yG J,e];have O:=zu J;rw[fr _ (a0 _ (yw _ O)) (fun e=>n2 (e ▸ yw _ O)) fun G=>Y.2.2 _ G _ O rfl];exact g3 j J
  .have e:En (D.R++[x]) j=x:=by
    rw[dR (by rw[E];omega),wO (by omega)];simp
   rw[wO (by omega),e];simp only[List.getElem_singleton];exact q4
 .show GV σ' _ (D.R++[x]).length _
  rw[E];exact .inr ⟨bb,by omega,rfl,q3⟩
 .rw[fr bc a1 (yu n1) fun G=>n3 (zD _ G)];exact g5
 .show _=(D.R++[x]).length
  rw[E,zo,g6];rfl
 .simp only[bk,yT,yK,xZ,zX,wW,zH,or_false,not_or]
  have S:∀y,y∈rb->y<m0:=fun y G=>a0 y (yw _ G)
  refine⟨⟨n1,by omega,by omega,fun h=>n2 (yw _ h),by omega⟩,⟨by omega,by omega,fun h=>n3 (yw _ h),by omega⟩,⟨p4,fun h=>by have:=S _ h;omega,p5⟩,⟨fun h=>by have:=S _ h;omega,p6⟩,?_⟩;exact List.nodup_append.mpr ⟨Y.2.1,by simp,fun x hx y G=>by rw[List.mem_singleton.mp G];have:=S _ hx;omega⟩
theorem amS(Qp:TQ->Prop){A b c:List Int}{m n N:Nat}(hc:c.length=n)(hN:N=n+m)(aBu:n<=400)(hc1:∀x∈c,-1000<=x/\x<=1000)(hI:∀D,Qp D->ShF D N)
  (hpv:∀D i k,Qp D->i<D.R.length->n<=D.B.getD i 0->k<n->B_ D.R i k≠0->Qp (NT D i k))
  (hcl:∀D,Qp D->(∀i,i<D.R.length->ED n D i)->∀q,q<=(pick n D.R D.B).1.length->∀u∈clears (G6 c) ((pick n D.R D.B).1.take q) ((pick n D.R D.B).2.take q),Ln 6 u)
  {σ:Store} {nx bt bc:Nat} {vr vb:V} {rb:List Nat} {D:TQ} (hQ:Qp D) (h:EY σ bt bc vr vb rb D N) (a6:∀x∈bt :: bc :: (bk vr++bk vb++rb),x<nx) :
  ∃σ' nx' n5 Y Yr Yt Hu D',ev ZH qI Af 142 [.agg (CZ m n A b c),.rp bt 0] σ nx=some (.rp n5 0,σ',nx')/\Qp D'/\(∀i,i<D'.R.length->ED n D' i)/\EY σ' n5 Y Yr Yt Hu (D2q n D' c) n/\(∀x∈n5 :: Y :: (bk Yr++bk Yt++Hu),nx<=x/\x<nx')/\∀x,x<nx->x∉bc :: (bk vb++rb)->σ' x=σ x:=by
 have hbt:=h.t;obtain⟨s0,j3⟩:∃s0,s0=upd σ nx (some ⟨CZ m n A b c,0,true⟩):=⟨_,rfl⟩;have YL:∀x,x<nx->s0 x=σ x:=fun x hx=>by rw[j3,Zk]
 have s0n:s0 nx=some ⟨CZ m n A b c,0,true⟩:=by rw[j3,Zi]
 have q0:=(YL bt (a6 bt (by simp))).trans hbt;have auR:EY s0 bt bc vr vb rb D N:=by
  obtain⟨g1,g2,g3,g4,g5,g6,g7⟩:=h;have gv:∀v n cs,(∀x∈bk v,x<nx)->GV σ v n cs->GV s0 v n cs:=fun v n cs hx hg=>by
   rcases hg with hg|⟨b,q1,rfl,q3⟩
   .exact .inl hg
   .exact .inr ⟨b,q1,rfl,(YL b (hx b (by simp[bk]))).trans q3⟩
  refine⟨q0,gv _ _ _ (fun x hx=>a6 x (by simp[hx])) g2,fun i hi=>(YL _ (a6 _ (by simp[zu hi]))).trans (g3 i hi),gv _ _ _ (fun x hx=>a6 x (by simp[hx])) g4,(YL bc (a6 bc (by simp))).trans g5,g6,g7⟩
 have hlR:∀D1:TQ,EY s0 bt bc vr vb rb D1 N->D1.R.length=rb.length:=fun D1 h1=>h1.len.symm
 obtain⟨L,eL⟩:∃L,L=D.R.length:=⟨_,rfl⟩;have aBv:L<=1000:=by have:=(hI D hQ).Gn;omega
 have hlen:DR ZH 175 vr=some (I L):=by
  rcases h.r with ⟨q1,rfl⟩|⟨br,q1,rfl,_⟩
  .have:L=0:=by omega
   subst this;exact ng (by kernel_rfl)
  .rw[eL];exact nZ (by kernel_rfl)
 unfold CZ at j3⊢;rw[nG [.tmp 4] [14,15,21,22,27] func142];simp only[go_sem,<- j3,q0,hlen];generalize hL:dI _ _=y;obtain⟨x,rfl,T1,a0,G,D1,rfl,S,O,h7,b2,i6,Va,b8,b3,k4⟩:=pF hL L (fun i st=>st.T 1= .rp bt 0/\st.T 2= .rp nx 0/\st.T 18=I L/\st.T 19=I i/\nx+1<=st.nx/\st.σ nx=some ⟨CZ m n A b c,0,true⟩/\(∀x,x<nx->x∉bc :: (bk vb++rb)->st.σ x=σ x)/\∃D1,Qp D1/\D1.R.length=L/\(∀q,q<i->ED n D1 q)/\EY st.σ bt bc vr vb rb D1 N)
  (fun x=>∃T a0 G D1,x=(.exit 0,⟨T,a0,G⟩)/\T 1= .rp bt 0/\T 2= .rp nx 0/\nx+1<=G/\a0 nx=some ⟨CZ m n A b c,0,true⟩/\(∀x,x<nx->x∉bc :: (bk vb++rb)->a0 x=σ x)/\Qp D1/\(∀q,q<L->ED n D1 q)/\EY a0 bt bc vr vb rb D1 N/\D1.R.length=L) (by
   clear hL;rintro i ⟨T,a0,G⟩ hi ⟨S,O,GN,a1,h7,b2,i6,D1,Va,n6,b8,b3⟩;simp only at S O GN a1 h7 b2 b3;unfold CZ at b2;have g1:(i:Int)<(L:Int):=by omega
   have g2:=jD i;have g3:=ZQ (n:=(i:Int)+1);refine bF ?_
   conv=>
    enter [1,r,1,1]
    simp only[go_sem,S,O,GN,a1,g1]
   generalize hL:dI _ _=z;obtain⟨x,rfl,T2,σ2,Ci,D2,rfl,S,O,GN,a1,c4,a7,h4,c5,a9,a3,a4⟩:=pF hL n (fun j st=>st.T 1= .rp bt 0/\st.T 2= .rp nx 0/\st.T 18=I L/\st.T 19=I i/\st.T 5=I i/\st.T 6=I j/\nx+1<=st.nx/\st.σ nx=some ⟨[I m,I n,LI A,LI b,LI c],0,true⟩/\(∀x,x<nx->x∉bc :: (bk vb++rb)->st.σ x=σ x)/\∃D1,Qp D1/\D1.R.length=L/\(∀q,q<i->ED n D1 q)/\EY st.σ bt bc vr vb rb D1 N/\(n<=D1.B.getD i 0->∀q,q<j->B_ D1.R i q=0))
    (fun x=>∃T a0 G D1,x=(.exit 2,⟨T,a0,G⟩)/\T 1= .rp bt 0/\T 2= .rp nx 0/\T 18=I L/\T 19=I i/\nx+1<=G/\a0 nx=some ⟨[I m,I n,LI A,LI b,LI c],0,true⟩/\(∀x,x<nx->x∉bc :: (bk vb++rb)->a0 x=σ x)/\Qp D1/\D1.R.length=L/\(∀q,q<i+1->ED n D1 q)/\EY a0 bt bc vr vb rb D1 N) (by
     clear hL;rintro j ⟨T,σ2,Ci⟩ hj ⟨S,O,GN,a1,t5,t6,c4,a7,h4,D2,c5,a9,a3,a4,hz⟩;simp only at S O GN a1 t5 t6 c4 a7 a4;have q1:(j:Int)<(n:Int):=by omega
     have q2:=jD j;have q3:=ZQ (n:=(j:Int)+1);have h8:=hI D2 c5;have n7:=a4.t;obtain⟨br,rfl,j4⟩:∃br,vr= .rs br 0 L/\σ2 br=some ⟨rb.map fun b=>V.rs b 0 (N+1),1,true⟩:=by
      rcases a4.r with ⟨e,_⟩|⟨br,_,e,e2⟩
      .omega
      .exact⟨br,by rw[e,a9],e2⟩
     obtain⟨bb,rfl,i7⟩:∃bb,vb= .rs bb 0 L/\σ2 bb=some ⟨(Ce D2.B).flatMap cI,1,true⟩:=by
      rcases a4.b with ⟨e,_⟩|⟨bb,_,e,e2⟩
      .omega
      .exact⟨bb,by rw[e,a9],e2⟩
     have l1:nx<Ci:=by omega
     have l2:bt<Ci:=by have:=a6 bt (by simp);omega
     have l3:bb<Ci:=by have:=a6 bb (by simp[bk]);omega
     have q8:=h8.Bg;have b1:=idx (xs:=Ce D2.B) (k:=i) (by rw[aB];omega);rw[aC (by omega)]at b1
     by_cases hB:n<=D2.B.getD i 0
     .have c1:(n:Int)<=((D2.B.getD i 0:Nat):Int):=by omega
      have b4:i<rb.length:=by have:=a4.len;omega
      have r1:(rb.map fun b=>V.rs b 0 (N+1))[i]?=some (.rs rb[i] 0 (N+1)):=by rw[yc,zy b4];rfl
      have r2:=a4.row i b4;have rl:=dP h8.row (show i<D2.R.length by omega);have r3:=qE (R:=D2.R) (i:=i) (j:=j) (by omega);have r4:=bZ (c:=cQ) (s:=3) qN (En D2.R i);rw[rl]at r4;have r5:(j:Int)<((N+1:Nat):Int):=by omega
      have r6:j*3+3<=(N+1)*3:=by omega
      have bq:Ln 6 (B_ D2.R i j):=by
       rw[<- oK (by omega)];exact h8.big _ (by rw[dR (show i<D2.R.length by omega)];exact zu _) _ (zu _)
      have k1:=dM (B_ D2.R i j) (bq.mono (by decide));have s1:=abI (B_ D2.R i j)
      by_cases h0:B_ D2.R i j=0
      .rw[sO h0,vH]at s1
       refine .inl ⟨_,by simp only[go_sem,S,O,GN,a1,t5,t6,a7,n7,a9,j4,i7,b1,g1,g2,q1,q2,q3,c1,l1,l2,l3,r1,r2,r3,r4,r5,r6,k1,s1];rfl,?_⟩;simp only[go_sem,S,O,GN,a1,t5];refine⟨rfl,c4,a7,h4,D2,c5,a9,a3,a4,fun _ q hq=>?_⟩
       by_cases e:q=j
       .subst e;exact h0
       .exact hz hB q (by omega)
      .rw[sN h0,wu]at s1
       have q9:=hpv D2 i j c5 (by omega) hB hj h0;obtain⟨a5,J,k2,Oh,h9,Fp⟩:=ajf (nx:=Ci) a4 h8 (hI _ q9) (fun b hb=>by have:=a6 b hb;omega) (show i<D2.R.length by omega) (show j<N by omega) h0;have hl3:(NT D2 i j).R.length=L:=(gy ..).trans a9;refine .inl ⟨_,by simp only[go_sem,qJ,S,O,GN,a1,t5,t6,a7,n7,a9,j4,i7,b1,g1,g2,q1,q2,q3,c1,l1,l2,l3,r1,r2,r3,r4,r5,r6,k1,s1,k2];rfl,?_⟩;simp only[go_sem,S,O,GN,a1,t5];refine⟨rfl,by omega,?_,fun x hx j5=>(Fp x (by omega) j5).trans (h4 x hx j5),_,q9,hl3,fun q hq=>(a3 q hq).piv h8.row h8.Bg (by omega) (by omega) hj (by omega) (by omega),Oh,fun hB3=>?_⟩
       .rw[Fp nx (by omega) fun hm=>by have:=a6 nx (by simp only[zX,wW]at hm⊢;rcases hm with h|h|h<;>simp[h]);omega]
        exact a7
       .have:(D2.B.set i j).getD i 0=j:=by rw[zx,tJ (by omega)];rfl
        have hB4:n<=(D2.B.set i j).getD i 0:=hB3;omega
     .have c1:¬(n:Int)<=((D2.B.getD i 0:Nat):Int):=by omega
      refine .inr ⟨_,by simp only[go_sem,S,O,GN,a1,t5,t6,a7,n7,a9,i7,b1,g1,g2,q1,c1,l1,l2,l3];rfl,by simp,_,_,_,D2,rfl,?_⟩;simp only[go_sem,S,O,GN,a1];refine⟨c4,a7,h4,c5,a9,fun q hq=>?_,a4⟩
      by_cases e:q=i
      .subst e;exact fun h=>absurd h hB
      .exact a3 q (by omega)) (by
     clear hL;rintro ⟨T,σ2,Ci⟩ ⟨S,O,GN,a1,t5,t6,c4,a7,h4,D2,c5,a9,a3,a4,hz⟩;simp only at S O GN a1 t5 t6 c4 a7 a4;have l1:nx<Ci:=by omega
     refine⟨_,by simp only[go_sem,O,t6,a7,zl,l1];rfl,by simp,_,_,_,D2,rfl,?_⟩;simp only[go_sem,S,O,GN,a1];refine⟨c4,a7,h4,c5,a9,fun q hq=>?_,a4⟩
     by_cases e:q=i
     .subst e;exact hz
     .exact a3 q (by omega)) (by
     simp only[go_sem,S,O,GN,a1];exact⟨h7,b2,i6,D1,Va,n6,b8,b3,fun _ q hq=>absurd hq (zW _)⟩)
   refine⟨_,by simp only[go_sem,a1,g3];rfl,.inl ⟨_,rfl,?_⟩⟩;simp only[go_sem,S,O,GN];exact⟨rfl,c4,a7,h4,D2,c5,a9,a3,a4⟩) (by
   clear hL;rintro ⟨T,a0,G⟩ ⟨S,O,GN,a1,h7,b2,i6,D1,Va,n6,b8,b3⟩;simp only at S O GN a1 h7 b2 b3;refine⟨_,by simp only[go_sem,GN,a1,zl];rfl,by simp,_,_,_,D1,rfl,?_⟩;simp only[go_sem,S,O];exact⟨h7,b2,i6,Va,b8,b3,n6⟩) (by
   simp only[go_sem];exact⟨s0n,fun x hx _=>YL x hx,D,hQ,eL.symm,fun q hq=>absurd hq (zW _),auR⟩)
 clear hL;have kI:∀j,fn ZH conv ext 144 [I (c.getD j 0)]=some (.agg (cQ ((c.getD j 0:Int):Rat))):=fun j=>by
  have:=lJ hc1 j;exact dO _ (by omega) (by omega)
 have k0:fn ZH conv ext 144 [I 0]=some (.agg (cQ 0)):=dO 0 (by decide) (by decide)
 have snp:∀j,j<n->(qs c).take j++[((c.getD j 0:Int):Rat)]=(qs c).take (j+1):=fun j h=>by
  rw[yN,zy (by rw[gK];omega),O1 (by omega),lK (by omega)];rfl
 unfold CZ at b2;have d1:¬nx=G:=by omega
 simp only[go_sem,S,O,b2,d1];generalize hL:dI _ _=y;obtain⟨x,rfl,T3,a5,J,rfl,S,O,t7,h9,UU,Fp,h5⟩:=pF hL n (fun j st=>st.T 1= .rp bt 0/\st.T 2= .rp nx 0/\st.T 7= .rp G 0/\st.T 8=I j/\G<st.nx/\st.σ nx=some ⟨[I m,I n,LI A,LI b,LI c],0,true⟩/\(∀x,x<G->st.σ x=a0 x)/\((j=0/\st.σ G=some ⟨[I n,.nil,.nil,.nil],0,true⟩)\/∃bc,0<j/\G<bc/\bc<st.nx/\st.σ G=some ⟨[I n,.nil,.nil,.rs bc 0 j],0,true⟩/\st.σ bc=some ⟨((qs c).take j).flatMap cQ,3,true⟩))
  (fun x=>∃T a5 J,x=(.exit 4,⟨T,a5,J⟩)/\T 1= .rp bt 0/\T 2= .rp nx 0/\T 7= .rp G 0/\G<J/\a5 nx=some ⟨[I m,I n,LI A,LI b,LI c],0,true⟩/\(∀x,x<G->a5 x=a0 x)/\((n=0/\a5 G=some ⟨[I n,.nil,.nil,.nil],0,true⟩)\/∃bc,0<n/\G<bc/\bc<J/\a5 G=some ⟨[I n,.nil,.nil,.rs bc 0 n],0,true⟩/\a5 bc=some ⟨((qs c).take n).flatMap cQ,3,true⟩)) (by
   clear hL;rintro j ⟨T,a5,J⟩ hj ⟨S,O,t7,t8,h9,UU,Fp,h5⟩;simp only at S O t7 t8 h9 UU Fp h5;have g1:(j:Int)<(n:Int):=by omega
   have g2:=jD j;have g3:=ZQ (n:=(j:Int)+1);have g4:(j:Int)<(c.length:Int):=by omega
   have g5:(c.flatMap cI)[j]?=some (I (c.getD j 0)):=by
    rw[idx (by omega),zx,zy (by omega)];rfl
   have g6:=AZ c j (by omega);have k1:=kI j;have hs:=snp j hj;generalize ((c.getD j 0:Int):Rat)=w at k1 hs;have y1:nx<J:=by omega
   have y2:¬nx=J:=by omega
   have y3:(nx==J)=false:=by rw[sQ];omega
   have y4:(J==nx)=false:=by rw[sQ];omega
   have y5:G<J:=by omega
   have y6:¬G=J:=by omega
   have y7:(G==J)=false:=by rw[sQ];omega
   have y8:(J==G)=false:=by rw[sQ];omega
   have y9:nx<J+1:=by omega
   have Yn:¬nx=J+1:=by omega
   have Yo:(nx==J+1)=false:=by rw[sQ];omega
   have Yp:(J+1==nx)=false:=by rw[sQ];omega
   have c6:G<J+1:=by omega
   have Yq:¬G=J+1:=by omega
   have c7:(G==J+1)=false:=by rw[sQ];omega
   have c8:(J+1==G)=false:=by rw[sQ];omega
   have c9:nx<J+1+1:=by omega
   have d0:¬nx=J+1+1:=by omega
   have d5:(nx==J+1+1)=false:=by rw[sQ];omega
   have d6:(J+1+1==nx)=false:=by rw[sQ];omega
   have d7:G<J+1+1:=by omega
   have d8:¬G=J+1+1:=by omega
   have d9:(G==J+1+1)=false:=by rw[sQ];omega
   have e8:(J+1+1==G)=false:=by rw[sQ];omega
   have e9:¬nx=G:=by omega
   have f0:¬G=nx:=by omega
   have f4:(nx==G)=false:=by rw[sQ];omega
   have f5:(G==nx)=false:=by rw[sQ];omega
   have f6:J<J+1:=by omega
   have f7:J+1<J+1+1:=by omega
   rcases h5 with ⟨h0,st⟩|⟨Y,hj0,c1,c2,st,sc⟩
   .have g7:(qs c).take 0=[]:=rfl
    refine .inl ⟨_,by simp only[go_sem,S,O,t7,t8,UU,st,g1,g2,g3,g4,g5,g6,k1,y1,y2,y3,y4,y5,y6,y7,y8,y9,Yn,Yo,Yp,c6,Yq,c7,c8,c9,d0,d5,d6,d7,d8,d9,e8,e9,f0,f4,f5,f6,f7];rfl,?_⟩;simp only[go_sem,S,O,t7];refine⟨rfl,by omega,?_,fun x hx=>?_,.inr ⟨J+1,by omega,by omega,by omega,by rw[h0],?_⟩⟩
    .rw[Zk,Zk,Zk];exact UU
    .rw[Zk,Zk,Zk];exact Fp x hx
    .rw[Zk,Zi,<- hs,h0,g7];simp
   .have i9:=rG (σ:=restrict (upd a5 J (some ⟨cQ w,3,true⟩)) [Y,J]) (nx:=J+1) (size:=3) (bytes:=56) (b:=Y) (len:=j) (m:=1) (row:=cQ w) (by rw[fJ,Zk];exact sc) (by rw[bZ qN,zh,gK];omega) (by decide) (by decide) (by unfold maxLen;omega) (by omega) rfl
    have x1:Y<J+1:=by omega
    have x2:(G==Y)=false:=by rw[sQ];omega
    have x3:(Y==G)=false:=by rw[sQ];omega
    have x4:¬G=Y:=by omega
    have x5:(nx==Y)=false:=by rw[sQ];omega
    have x6:(Y==nx)=false:=by rw[sQ];omega
    have x7:¬nx=Y:=by omega
    refine .inl ⟨_,by simp only[go_sem,S,O,t7,t8,UU,st,g1,g2,g3,g4,g5,g6,k1,i9,x1,x2,x3,x4,x5,x6,x7,y1,y2,y3,y4,y5,y6,y7,y8,y9,Yn,Yo,Yp,c6,Yq,c7,c8,c9,d0,d5,d6,d7,d8,d9,e8,e9,f0,f4,f5,f6,f7];rfl,?_⟩;simp only[go_sem,S,O,t7];refine⟨rfl,by omega,?_,fun x hx=>?_,.inr ⟨J+1,by omega,by omega,by omega,rfl,?_⟩⟩
    .rw[Zk,Zk,Zk,Zk];exact UU
    .rw[Zk,Zk,Zk,Zk];exact Fp x hx
    .rw[Zk,Zi,<- hs,zU];simp) (by
   clear hL;rintro ⟨T,a5,J⟩ ⟨S,O,t7,t8,h9,UU,Fp,h5⟩;simp only at S O t7 t8 h9 UU Fp h5;refine⟨_,by simp only[go_sem,O,t8,UU,zl];rfl,by simp,_,_,_,rfl,?_⟩;simp only[go_sem,S,O,t7];exact⟨h9,UU,Fp,h5⟩) (by
   simp only[go_sem,S,O];refine⟨by omega,?_,fun x hx=>?_,.inl trivial⟩
   .rw[Zj _ _ d1];exact b2
   .rw[Zk])
 clear hL;have y1:nx<J:=by omega
 have y2:¬nx=J:=by omega
 have y3:(nx==J)=false:=by rw[sQ];omega
 have y4:(J==nx)=false:=by rw[sQ];omega
 have y5:G<J:=by omega
 have y6:¬G=J:=by omega
 have y7:(G==J)=false:=by rw[sQ];omega
 have y8:(J==G)=false:=by rw[sQ];omega
 have y9:nx<J+1:=by omega
 have Yn:¬nx=J+1:=by omega
 have Yo:(nx==J+1)=false:=by rw[sQ];omega
 have Yp:(J+1==nx)=false:=by rw[sQ];omega
 have c6:G<J+1:=by omega
 have Yq:¬G=J+1:=by omega
 have c7:(G==J+1)=false:=by rw[sQ];omega
 have c8:(J+1==G)=false:=by rw[sQ];omega
 have c9:nx<J+1+1:=by omega
 have d0:¬nx=J+1+1:=by omega
 have d5:(nx==J+1+1)=false:=by rw[sQ];omega
 have d6:(J+1+1==nx)=false:=by rw[sQ];omega
 have d7:G<J+1+1:=by omega
 have d8:¬G=J+1+1:=by omega
 have d9:(G==J+1+1)=false:=by rw[sQ];omega
 have e8:(J+1+1==G)=false:=by rw[sQ];omega
 have e9:¬nx=G:=by omega
 have f0:(nx==G)=false:=by rw[sQ];omega
 have f4:¬G=nx:=by omega
 have f5:(G==nx)=false:=by rw[sQ];omega
 have f6:J<J+1:=by omega
 have f7:J+1<J+1+1:=by omega
 have n8:=b3.t;have ltt:=a6 bt (by simp);have j0:bt<J+1+1:=by omega
 have f8:¬bt=G:=by omega
 have f9:¬bt=J:=by omega
 have j1:¬bt=J+1:=by omega
 have hqs:(qs c).take n=qs c:=zk (by rw[gK];omega);rcases h5 with ⟨h0,st⟩|⟨Y,hj0,c1,c2,st,sc⟩
 case' inl=>
  obtain⟨CB,e4⟩:∃CB,CB=upd (upd (upd a5 J (some ⟨cQ 0,3,true⟩)) (J+1) (some ⟨cQ 0,3,true⟩)) G (some ⟨[I n,.nil,.nil,.rs (J+1) 0 1],0,true⟩):=⟨_,rfl⟩;have r0:CB G=some ⟨[I n,.nil,.nil,.rs (J+1) 0 (n+1)],0,true⟩:=by rw[e4,Zi,h0]
  have s2:CB (J+1)=some ⟨(G6 c).flatMap cQ,3,true⟩:=by
   have:c=[]:=zZ (by omega);rw[e4,Zk,Zi,this];rfl
  have j6:∀x,x<G->CB x=a0 x:=fun x hx=>by rw[e4,Zk,Zk,Zk];exact Fp x hx
  have n9:CB bt=_:=(j6 bt (by omega)).trans n8;simp only[go_sem,S,O,t7,st,k0,y1,y2,y3,y4,y5,y6,y7,y8,y9,Yn,Yo,Yp,c6,Yq,c7,c8,c9,d0,d5,d6,d7,d8,d9,e8,e9,f0,f4,f5,f6,f7,j0,f8,f9,j1,<- e4,n9,hlen]
 case' inr=>
  have i9:=rG (σ:=restrict (upd a5 J (some ⟨cQ 0,3,true⟩)) [Y,J]) (nx:=J+1) (size:=3) (bytes:=56) (b:=Y) (len:=n) (m:=1) (row:=cQ 0) (by rw[fJ,Zk];exact sc) (by rw[bZ qN,zh,gK];omega) (by decide) (by decide) (by unfold maxLen;omega) (by omega) rfl;have x1:Y<J+1:=by omega
  have x2:(G==Y)=false:=by rw[sQ];omega
  have x3:(Y==G)=false:=by rw[sQ];omega
  have x4:¬G=Y:=by omega
  have x7:¬bt=Y:=by omega
  obtain⟨CB,e4⟩:∃CB,CB=upd (upd (upd (upd a5 J (some ⟨cQ 0,3,true⟩)) Y none) (J+1) (some ⟨((qs c).take n).flatMap cQ++cQ 0,3,true⟩)) G (some ⟨[I n,.nil,.nil,.rs (J+1) 0 (n+1)],0,true⟩):=⟨_,rfl⟩;have r0:CB G=some ⟨[I n,.nil,.nil,.rs (J+1) 0 (n+1)],0,true⟩:=by rw[e4,Zi]
  have s2:CB (J+1)=some ⟨(G6 c).flatMap cQ,3,true⟩:=by
   rw[e4,Zk,Zi,hqs];unfold G6;rw[zU];simp
  have j6:∀x,x<G->CB x=a0 x:=fun x hx=>by rw[e4,Zk,Zk,Zk,Zk];exact Fp x hx
  have n9:CB bt=_:=(j6 bt (by omega)).trans n8;simp only[go_sem,S,O,t7,st,k0,i9,x1,x2,x3,x4,x7,y1,y2,y3,y4,y5,y6,y7,y8,y9,Yn,Yo,Yp,c6,Yq,c7,c8,c9,d0,d5,d6,d7,d8,d9,e8,e9,f0,f4,f5,f6,f7,j0,f8,f9,j1,<- e4,n9,hlen]
 all_goals
  clear e4;have i0:=hI D1 Va;have q8:=i0.Bg;have hlR:=b3.len;generalize hL:dI _ _=y;obtain⟨x,rfl,T5,CY,E,i1,j7,b9,rfl,t7,i2,a8,Gp,GU⟩:=pF hL L (fun i st=>st.T 1= .rp bt 0/\st.T 2= .rp nx 0/\st.T 7= .rp G 0/\st.T 95=vr/\st.T 96=I L/\st.T 97=I i/\J+1<st.nx/\(∀x,x<G->st.σ x=a0 x)/\∃Yr Yt Hu,EY st.σ G (J+1) Yr Yt Hu ⟨(pick n (D1.R.take i) (D1.B.take i)).1,(pick n (D1.R.take i) (D1.B.take i)).2,G6 c⟩ n/\∀x∈G :: (J+1) :: (bk Yr++bk Yt++Hu),G<=x/\x<st.nx)
   (fun x=>∃T CY E Yr Yt Hu,x=(.exit 6,⟨T,CY,E⟩)/\T 7= .rp G 0/\J+1<E/\(∀x,x<G->CY x=a0 x)/\EY CY G (J+1) Yr Yt Hu ⟨(pick n D1.R D1.B).1,(pick n D1.R D1.B).2,G6 c⟩ n/\∀x∈G :: (J+1) :: (bk Yr++bk Yt++Hu),G<=x/\x<E) (by
    clear hL;rintro i ⟨T,CY,E⟩ hi ⟨S,O,t7,c0,b5,h6,i2,a8,Yr,Yt,Hu,Gp,GU⟩;simp only at S O t7 c0 b5 h6 i2 a8 Gp GU;obtain⟨br,rfl,j4⟩:∃br,vr= .rs br 0 L/\a0 br=some ⟨rb.map fun b=>V.rs b 0 (N+1),1,true⟩:=by
     rcases b3.r with ⟨e,_⟩|⟨br,_,e,e2⟩
     .omega
     .exact⟨br,by rw[e,k4],e2⟩
    obtain⟨bb,rfl,i7⟩:∃bb,vb= .rs bb 0 L/\a0 bb=some ⟨(Ce D1.B).flatMap cI,1,true⟩:=by
     rcases b3.b with ⟨e,_⟩|⟨bb,_,e,e2⟩
     .omega
     .exact⟨bb,by rw[e,k4],e2⟩
    have b4:i<rb.length:=by omega
    obtain⟨bi,Fg⟩:∃bi,bi=rb[i]:=⟨_,rfl⟩;have lb1:=a6 br (by simp[bk]);have lb2:=a6 bb (by simp[bk]);have lb3:bi<nx:=by rw[Fg];exact a6 _ (by simp[zu b4])
    have g1:(i:Int)<(L:Int):=by omega
    have g2:=jD i;have g3:=ZQ (n:=(i:Int)+1);have e1:CY bt=_:=(a8 bt (by omega)).trans n8;have e2:CY br=_:=(a8 br (by omega)).trans j4;have e3:CY bb=_:=(a8 bb (by omega)).trans i7;have e4:CY bi=some ⟨(En D1.R i).flatMap cQ,3,true⟩:=(a8 bi (by omega)).trans (by rw[Fg];exact b3.row i b4);have e5:CY nx=_:=(a8 nx (by omega)).trans b2;have r1:(rb.map fun b=>V.rs b 0 (N+1))[i]?=some (.rs bi 0 (N+1)):=by rw[yc,zy b4,Fg];rfl
    have b1:=idx (xs:=Ce D1.B) (k:=i) (by rw[aB];omega);rw[aC (by omega)]at b1;have i3:=RI (n:=n) (En D1.R i) (D1.B.getD i 0) (R:=D1.R.take i) (B:=D1.B.take i) (by rw[zh,zh,q8]);have pR:D1.R.take i++[En D1.R i]=D1.R.take (i+1):=by rw[yN,zy (by omega),dR (by omega)];rfl
    have pB:D1.B.take i++[D1.B.getD i 0]=D1.B.take (i+1):=by rw[yN,zy (by omega),lK (by omega)];rfl
    rw[pR,pB]at i3;have l1:bt<E:=by omega
    have l2:bb<E:=by omega
    have l3:nx<E:=by omega
    by_cases hB:D1.B.getD i 0<n
    .rw[sS hB]at i3
     have c1:((D1.B.getD i 0:Nat):Int)<(n:Int):=by omega
     have rl:=dP i0.row (show i<D1.R.length by omega);obtain⟨w,ew⟩:∃w,w=(En D1.R i).take n:=⟨_,rfl⟩;have hwl:w.length=n:=by rw[ew,zh];omega
     obtain⟨z,ez⟩:∃z,z=B_ D1.R i N:=⟨_,rfl⟩;have o0:(En D1.R i).getLastD 0=z:=by
      rw[List.getLastD_eq_getLast?,List.getLast?_eq_getElem?,rl,ez];unfold B_ En;rw[zx];rfl
     rw[<- ew,o0]at i3;have r3:=qE (R:=D1.R) (i:=i) (j:=N) (by omega);rw[<- ez]at r3;have r4:=bZ (c:=cQ) (s:=3) qN (En D1.R i);rw[rl]at r4;have r5:(N:Int)<((N+1:Nat):Int):=by omega
     have r6:N*3+3<=(N+1)*3:=by omega
     have r7:=jD N;have r8:=jD n;have r9:(n:Int)<=((N+1:Nat):Int):=by omega
     have s4:n<=N+1:=by omega
     have s5:n*3<=(N+1)*3:=by omega
     have s6:((En D1.R i).flatMap cQ).take (n*3)=w.flatMap cQ:=by rw[ew,afD qN _ (by omega)]
     have s7:¬n=0:=by omega
     have s8:n<=maxLen/\n*56<=140737488355328:=by unfold maxLen;omega
     have y1:nx<E:=by omega
     have y2:¬nx=E:=by omega
     have y3:(nx==E)=false:=by rw[sQ];omega
     have y4:(E==nx)=false:=by rw[sQ];omega
     have y5:G<E:=by omega
     have y6:¬G=E:=by omega
     have y7:(G==E)=false:=by rw[sQ];omega
     have y8:(E==G)=false:=by rw[sQ];omega
     have y9:bt<E:=by omega
     have Yn:¬bt=E:=by omega
     have Yo:(bt==E)=false:=by rw[sQ];omega
     have Yp:(E==bt)=false:=by rw[sQ];omega
     have c6:bi<E:=by omega
     have Yq:¬bi=E:=by omega
     have c7:(bi==E)=false:=by rw[sQ];omega
     have c8:(E==bi)=false:=by rw[sQ];omega
     have c9:nx<E+1:=by omega
     have d0:¬nx=E+1:=by omega
     have d5:(nx==E+1)=false:=by rw[sQ];omega
     have d6:(E+1==nx)=false:=by rw[sQ];omega
     have d7:G<E+1:=by omega
     have d8:¬G=E+1:=by omega
     have d9:(G==E+1)=false:=by rw[sQ];omega
     have e8:(E+1==G)=false:=by rw[sQ];omega
     have e9:bt<E+1:=by omega
     have f0:¬bt=E+1:=by omega
     have f4:(bt==E+1)=false:=by rw[sQ];omega
     have f5:(E+1==bt)=false:=by rw[sQ];omega
     have f6:bi<E+1:=by omega
     have f7:¬bi=E+1:=by omega
     have s9:(bi==E+1)=false:=by rw[sQ];omega
     have t3:(E+1==bi)=false:=by rw[sQ];omega
     have t4:nx<E+1+1:=by omega
     have t9:¬nx=E+1+1:=by omega
     have u0:(nx==E+1+1)=false:=by rw[sQ];omega
     have v0:(E+1+1==nx)=false:=by rw[sQ];omega
     have v2:G<E+1+1:=by omega
     have v3:¬G=E+1+1:=by omega
     have v4:(G==E+1+1)=false:=by rw[sQ];omega
     have v5:(E+1+1==G)=false:=by rw[sQ];omega
     have v6:bt<E+1+1:=by omega
     have v7:¬bt=E+1+1:=by omega
     have v8:(bt==E+1+1)=false:=by rw[sQ];omega
     have v9:(E+1+1==bt)=false:=by rw[sQ];omega
     have w2:bi<E+1+1:=by omega
     have w3:¬bi=E+1+1:=by omega
     have w4:(bi==E+1+1)=false:=by rw[sQ];omega
     have w5:(E+1+1==bi)=false:=by rw[sQ];omega
     have w7:nx<E+1+1+1:=by omega
     have w8:¬nx=E+1+1+1:=by omega
     have w9:(nx==E+1+1+1)=false:=by rw[sQ];omega
     have x0:(E+1+1+1==nx)=false:=by rw[sQ];omega
     have x8:G<E+1+1+1:=by omega
     have x9:¬G=E+1+1+1:=by omega
     have y0:(G==E+1+1+1)=false:=by rw[sQ];omega
     have z0:(E+1+1+1==G)=false:=by rw[sQ];omega
     have z5:bt<E+1+1+1:=by omega
     have z6:¬bt=E+1+1+1:=by omega
     have z7:(bt==E+1+1+1)=false:=by rw[sQ];omega
     have z8:(E+1+1+1==bt)=false:=by rw[sQ];omega
     have z9:bi<E+1+1+1:=by omega
     have A0:¬bi=E+1+1+1:=by omega
     have A1:(bi==E+1+1+1)=false:=by rw[sQ];omega
     have A2:(E+1+1+1==bi)=false:=by rw[sQ];omega
     have A3:nx<E+1+1+1+1:=by omega
     have A4:¬nx=E+1+1+1+1:=by omega
     have A5:(nx==E+1+1+1+1)=false:=by rw[sQ];omega
     have A6:(E+1+1+1+1==nx)=false:=by rw[sQ];omega
     have A7:G<E+1+1+1+1:=by omega
     have A9:¬G=E+1+1+1+1:=by omega
     have B1:(G==E+1+1+1+1)=false:=by rw[sQ];omega
     have B2:(E+1+1+1+1==G)=false:=by rw[sQ];omega
     have B3:bt<E+1+1+1+1:=by omega
     have B4:¬bt=E+1+1+1+1:=by omega
     have B5:(bt==E+1+1+1+1)=false:=by rw[sQ];omega
     have B6:(E+1+1+1+1==bt)=false:=by rw[sQ];omega
     have B7:bi<E+1+1+1+1:=by omega
     have B8:¬bi=E+1+1+1+1:=by omega
     have B9:(bi==E+1+1+1+1)=false:=by rw[sQ];omega
     have C0:(E+1+1+1+1==bi)=false:=by rw[sQ];omega
     have C1:nx<E+1+1+1+1+1:=by omega
     have C2:¬nx=E+1+1+1+1+1:=by omega
     have C3:(nx==E+1+1+1+1+1)=false:=by rw[sQ];omega
     have C4:(E+1+1+1+1+1==nx)=false:=by rw[sQ];omega
     have C5:G<E+1+1+1+1+1:=by omega
     have C6:¬G=E+1+1+1+1+1:=by omega
     have C7:(G==E+1+1+1+1+1)=false:=by rw[sQ];omega
     have C8:(E+1+1+1+1+1==G)=false:=by rw[sQ];omega
     have D3:bt<E+1+1+1+1+1:=by omega
     have D4:¬bt=E+1+1+1+1+1:=by omega
     have D5:(bt==E+1+1+1+1+1)=false:=by rw[sQ];omega
     have D6:(E+1+1+1+1+1==bt)=false:=by rw[sQ];omega
     have E0:bi<E+1+1+1+1+1:=by omega
     have E1:¬bi=E+1+1+1+1+1:=by omega
     have E2:(bi==E+1+1+1+1+1)=false:=by rw[sQ];omega
     have E3:(E+1+1+1+1+1==bi)=false:=by rw[sQ];omega
     have E4:nx<E+1+1+1+1+1+1:=by omega
     have E5:¬nx=E+1+1+1+1+1+1:=by omega
     have E6:(nx==E+1+1+1+1+1+1)=false:=by rw[sQ];omega
     have j0:(E+1+1+1+1+1+1==nx)=false:=by rw[sQ];omega
     have f8:G<E+1+1+1+1+1+1:=by omega
     have f9:¬G=E+1+1+1+1+1+1:=by omega
     have j1:(G==E+1+1+1+1+1+1)=false:=by rw[sQ];omega
     have k5:(E+1+1+1+1+1+1==G)=false:=by rw[sQ];omega
     have E7:bt<E+1+1+1+1+1+1:=by omega
     have E9:¬bt=E+1+1+1+1+1+1:=by omega
     have F0:(bt==E+1+1+1+1+1+1)=false:=by rw[sQ];omega
     have F1:(E+1+1+1+1+1+1==bt)=false:=by rw[sQ];omega
     have F2:bi<E+1+1+1+1+1+1:=by omega
     have F3:¬bi=E+1+1+1+1+1+1:=by omega
     have F4:(bi==E+1+1+1+1+1+1)=false:=by rw[sQ];omega
     have k6:(E+1+1+1+1+1+1==bi)=false:=by rw[sQ];omega
     have k7:¬nx=G:=by omega
     have k8:(nx==G)=false:=by rw[sQ];omega
     have k9:¬G=nx:=by omega
     have G0:(G==nx)=false:=by rw[sQ];omega
     have G1:¬G=bt:=by omega
     have G3:(G==bt)=false:=by rw[sQ];omega
     have G4:¬G=bi:=by omega
     have H0:(G==bi)=false:=by rw[sQ];omega
     have H1:¬bt=G:=by omega
     have H2:(bt==G)=false:=by rw[sQ];omega
     have H3:¬bi=G:=by omega
     have H4:(bi==G)=false:=by rw[sQ];omega
     have H5:E<E+1:=by omega
     have I0:¬E=E+1:=by omega
     have I1:(E==E+1)=false:=by rw[sQ];omega
     have I2:(E+1==E)=false:=by rw[sQ];omega
     have I3:E<E+1+1:=by omega
     have I6:¬E=E+1+1:=by omega
     have J0:(E==E+1+1)=false:=by rw[sQ];omega
     have J1:(E+1+1==E)=false:=by rw[sQ];omega
     have J2:E<E+1+1+1:=by omega
     have K0:¬E=E+1+1+1:=by omega
     have K1:(E==E+1+1+1)=false:=by rw[sQ];omega
     have K2:(E+1+1+1==E)=false:=by rw[sQ];omega
     have K3:E<E+1+1+1+1:=by omega
     have K4:¬E=E+1+1+1+1:=by omega
     have K5:(E==E+1+1+1+1)=false:=by rw[sQ];omega
     have K6:(E+1+1+1+1==E)=false:=by rw[sQ];omega
     have K7:E<E+1+1+1+1+1:=by omega
     have K8:¬E=E+1+1+1+1+1:=by omega
     have K9:(E==E+1+1+1+1+1)=false:=by rw[sQ];omega
     have L0:(E+1+1+1+1+1==E)=false:=by rw[sQ];omega
     have L1:E<E+1+1+1+1+1+1:=by omega
     have L2:¬E=E+1+1+1+1+1+1:=by omega
     have L3:(E==E+1+1+1+1+1+1)=false:=by rw[sQ];omega
     have L4:(E+1+1+1+1+1+1==E)=false:=by rw[sQ];omega
     have L5:E+1<E+1+1:=by omega
     have l5:¬E+1=E+1+1:=by omega
     have l6:(E+1==E+1+1)=false:=by rw[sQ];omega
     have l7:(E+1+1==E+1)=false:=by rw[sQ];omega
     have l8:E+1<E+1+1+1:=by omega
     have L7:¬E+1=E+1+1+1:=by omega
     have M0:(E+1==E+1+1+1)=false:=by rw[sQ];omega
     have M1:(E+1+1+1==E+1)=false:=by rw[sQ];omega
     have l9:E+1<E+1+1+1+1:=by omega
     have n0:¬E+1=E+1+1+1+1:=by omega
     have n1:(E+1==E+1+1+1+1)=false:=by rw[sQ];omega
     have n2:(E+1+1+1+1==E+1)=false:=by rw[sQ];omega
     have M2:E+1<E+1+1+1+1+1:=by omega
     have M3:¬E+1=E+1+1+1+1+1:=by omega
     have M4:(E+1==E+1+1+1+1+1)=false:=by rw[sQ];omega
     have M5:(E+1+1+1+1+1==E+1)=false:=by rw[sQ];omega
     have M6:E+1<E+1+1+1+1+1+1:=by omega
     have M7:¬E+1=E+1+1+1+1+1+1:=by omega
     have n3:(E+1==E+1+1+1+1+1+1)=false:=by rw[sQ];omega
     have n4:(E+1+1+1+1+1+1==E+1)=false:=by rw[sQ];omega
     have M8:E+1+1<E+1+1+1:=by omega
     have M9:¬E+1+1=E+1+1+1:=by omega
     have N0:(E+1+1==E+1+1+1)=false:=by rw[sQ];omega
     have N1:(E+1+1+1==E+1+1)=false:=by rw[sQ];omega
     have N2:E+1+1<E+1+1+1+1:=by omega
     have N3:¬E+1+1=E+1+1+1+1:=by omega
     have N4:(E+1+1==E+1+1+1+1)=false:=by rw[sQ];omega
     have N5:(E+1+1+1+1==E+1+1)=false:=by rw[sQ];omega
     have N6:E+1+1<E+1+1+1+1+1:=by omega
     have O0:¬E+1+1=E+1+1+1+1+1:=by omega
     have O2:(E+1+1==E+1+1+1+1+1)=false:=by rw[sQ];omega
     have O3:(E+1+1+1+1+1==E+1+1)=false:=by rw[sQ];omega
     have P0:E+1+1<E+1+1+1+1+1+1:=by omega
     have P1:¬E+1+1=E+1+1+1+1+1+1:=by omega
     have P2:(E+1+1==E+1+1+1+1+1+1)=false:=by rw[sQ];omega
     have P3:(E+1+1+1+1+1+1==E+1+1)=false:=by rw[sQ];omega
     have P4:E+1+1+1<E+1+1+1+1:=by omega
     have Q0:¬E+1+1+1=E+1+1+1+1:=by omega
     have Q4:(E+1+1+1==E+1+1+1+1)=false:=by rw[sQ];omega
     have Q5:(E+1+1+1+1==E+1+1+1)=false:=by rw[sQ];omega
     have Q6:E+1+1+1<E+1+1+1+1+1:=by omega
     have R0:¬E+1+1+1=E+1+1+1+1+1:=by omega
     have R1:(E+1+1+1==E+1+1+1+1+1)=false:=by rw[sQ];omega
     have R2:(E+1+1+1+1+1==E+1+1+1)=false:=by rw[sQ];omega
     have R3:E+1+1+1<E+1+1+1+1+1+1:=by omega
     have R4:¬E+1+1+1=E+1+1+1+1+1+1:=by omega
     have R5:(E+1+1+1==E+1+1+1+1+1+1)=false:=by rw[sQ];omega
     have R6:(E+1+1+1+1+1+1==E+1+1+1)=false:=by rw[sQ];omega
     have R7:E+1+1+1+1<E+1+1+1+1+1:=by omega
     have R8:¬E+1+1+1+1=E+1+1+1+1+1:=by omega
     have R9:(E+1+1+1+1==E+1+1+1+1+1)=false:=by rw[sQ];omega
     have S0:(E+1+1+1+1+1==E+1+1+1+1)=false:=by rw[sQ];omega
     have S1:E+1+1+1+1<E+1+1+1+1+1+1:=by omega
     have S2:¬E+1+1+1+1=E+1+1+1+1+1+1:=by omega
     have S3:(E+1+1+1+1==E+1+1+1+1+1+1)=false:=by rw[sQ];omega
     have S4:(E+1+1+1+1+1+1==E+1+1+1+1)=false:=by rw[sQ];omega
     have S5:E+1+1+1+1+1<E+1+1+1+1+1+1:=by omega
     have S6:¬E+1+1+1+1+1=E+1+1+1+1+1+1:=by omega
     have S7:(E+1+1+1+1+1==E+1+1+1+1+1+1)=false:=by rw[sQ];omega
     have S8:(E+1+1+1+1+1+1==E+1+1+1+1+1)=false:=by rw[sQ];omega
     have T4:bb<E:=by omega
     have T7:¬bb=E:=by omega
     have T8:(bb==E)=false:=by rw[sQ];omega
     have T9:(E==bb)=false:=by rw[sQ];omega
     have U0:bb<E+1:=by omega
     have U1:¬bb=E+1:=by omega
     have U4:(bb==E+1)=false:=by rw[sQ];omega
     have U6:(E+1==bb)=false:=by rw[sQ];omega
     have V0:bb<E+1+1:=by omega
     have V1:¬bb=E+1+1:=by omega
     have V2:(bb==E+1+1)=false:=by rw[sQ];omega
     have V4:(E+1+1==bb)=false:=by rw[sQ];omega
     have V5:bb<E+1+1+1:=by omega
     have W0:¬bb=E+1+1+1:=by omega
     have W1:(bb==E+1+1+1)=false:=by rw[sQ];omega
     have W2:(E+1+1+1==bb)=false:=by rw[sQ];omega
     have W3:bb<E+1+1+1+1:=by omega
     have W4:¬bb=E+1+1+1+1:=by omega
     have W5:(bb==E+1+1+1+1)=false:=by rw[sQ];omega
     have W6:(E+1+1+1+1==bb)=false:=by rw[sQ];omega
     have W7:bb<E+1+1+1+1+1:=by omega
     have W8:¬bb=E+1+1+1+1+1:=by omega
     have X0:(bb==E+1+1+1+1+1)=false:=by rw[sQ];omega
     have X1:(E+1+1+1+1+1==bb)=false:=by rw[sQ];omega
     have X2:bb<E+1+1+1+1+1+1:=by omega
     have Z0:¬bb=E+1+1+1+1+1+1:=by omega
     have Z1:(bb==E+1+1+1+1+1+1)=false:=by rw[sQ];omega
     have Z2:(E+1+1+1+1+1+1==bb)=false:=by rw[sQ];omega
     have Z3:¬bb=G:=by omega
     have Z6:¬G=bb:=by omega
     have awR:(bb==G)=false:=by rw[sQ];omega
     have awS:(G==bb)=false:=by rw[sQ];omega
     obtain⟨K,eK⟩:∃K,K=(pick n (D1.R.take i) (D1.B.take i)).1.length:=⟨_,rfl⟩;have eK2:(pick n (D1.R.take i) (D1.B.take i)).2.length=K:=by rw[eK];exact Jd
     have hKL:K<=1000:=by
      have h1:=Gp.len;have h2:∀(R:List (List Rat)) (B:List Nat),(pick n R B).1.length<=R.length:=by
       intro R
       induction R with
       |nil=>intro B;simp[pick]
       |cons x R ih=>
        intro B;cases B with
        |nil=>simp[pick]
        |cons b B=>unfold pick;have:=ih B;split<;>simp<;>omega
      have:=h2 (D1.R.take i) (D1.B.take i);rw[zh]at this;omega
     have aDY:Hu.length=K:=Gp.len.trans eK.symm;have hb:=Gp.t
     have fin:∀σ' nx',E+1+1+1+1+1+1<nx'->σ' G=some ⟨[I n,.rs (E+1+1+1+1) 0 (K+1),.rs (E+1+1+1+1+1+1) 0 (K+1),.rs (J+1) 0 (n+1)],0,true⟩->σ' (E+1+1+1+1)=some ⟨(Hu++[E+1+1]).map fun b=>V.rs b 0 (n+1),1,true⟩->σ' (E+1+1+1+1+1+1)=some ⟨(Ce ((pick n (D1.R.take i) (D1.B.take i)).2++[D1.B.getD i 0])).flatMap cI,1,true⟩->σ' (E+1+1)=some ⟨(w++[z]).flatMap cQ,3,true⟩->(∀y,y<E->y≠G->y∉bk Yr++bk Yt->σ' y=CY y) ->
       (∀x,x<G->σ' x=a0 x)/\∃Yr Yt Hu,EY σ' G (J+1) Yr Yt Hu ⟨(pick n (D1.R.take (i+1)) (D1.B.take (i+1))).1,(pick n (D1.R.take (i+1)) (D1.B.take (i+1))).2,G6 c⟩ n/\∀x∈G :: (J+1) :: (bk Yr++bk Yt++Hu),G<=x/\x<nx':=fun σ' nx' p0 p1 p2 p3 p4 p5=>by
      refine⟨fun x hx=>(p5 x (by omega) (by omega) fun hm=>?_).trans (a8 x hx),.rs (E+1+1+1+1) 0 (K+1),.rs (E+1+1+1+1+1+1) 0 (K+1),Hu++[E+1+1],?_,fun x hx=>?_⟩
      .have:=GU x (by simp only[zX];exact .inr (.inr (zD _ hm)))
       omega
      .rw[i3]
       have:=ajq (x:=w++[z]) (b:=D1.B.getD i 0) Gp (m0:=E) (br:=E+1+1+1+1) (bb:=E+1+1+1+1+1+1) (bw:=E+1+1) (σ':=σ') (fun y hy=>(GU y hy).2) (by omega) (by omega) (by omega) (by omega) (by omega) (by omega)
        (by show σ' G=some (E_.mk [_,.rs _ 0 ((pick n (D1.R.take i) (D1.B.take i)).1.length+1),.rs _ 0 ((pick n (D1.R.take i) (D1.B.take i)).1.length+1),_] _ _);rw[<- eK];exact p1) p2 p3 p4 p5
       rw[show(⟨(pick n (D1.R.take i) (D1.B.take i)).1,(pick n (D1.R.take i) (D1.B.take i)).2,G6 c⟩:TQ).R.length=K from eK.symm]at this;exact this
      .simp only[bk,yT,yK,zX,wW,zH,or_false]at hx
       rcases hx with rfl|rfl|rfl|rfl|hx|rfl
       .omega
       .omega
       .omega
       .omega
       .have:=GU x (by simp only[zX];exact .inr (.inr (yw _ hx)));omega
       .omega
     have ha1:=rG (σ:=restrict (upd (upd CY E (some ⟨w.flatMap cQ,3,true⟩)) (E+1) (some ⟨cQ z,3,true⟩)) [E,E+1]) (nx:=E+1+1) (size:=3) (bytes:=56) (b:=E) (len:=n) (m:=1) (row:=cQ z) (by rw[fJ,Zk,Zi]) (by rw[bZ qN,hwl]) (by decide) (by decide) (by unfold maxLen;omega) (by omega) rfl;obtain⟨Dy,e6⟩:∃Dy,Dy=upd (upd (upd (upd CY E (some ⟨w.flatMap cQ,3,true⟩)) (E+1) (some ⟨cQ z,3,true⟩)) E none) (E+1+1) (some ⟨w.flatMap cQ++cQ z,3,true⟩):=⟨_,rfl⟩;have o6:∀y,y<E->Dy y=CY y:=fun y hy=>by rw[e6,Zk,Zk,Zk,Zk]
     have lx1:G<E:=by omega
     have w6:Dy (E+1+1)=some ⟨(w++[z]).flatMap cQ,3,true⟩:=by rw[e6,Zi,zU];simp
     have b6:Dy G=_:=(o6 G lx1).trans hb;have t6:Dy bt=_:=(o6 bt (by omega)).trans e1;have j8:Dy bb=_:=(o6 bb (by omega)).trans e3;have Bq:Dy nx=_:=(o6 nx (by omega)).trans e5;have u50:G<E+1+1+1+1+1+1+1:=by omega
     have hpK:∀q,q=(pick n (D1.R.take i) (D1.B.take i)).1.length->q=K:=fun q h=>h.trans eK.symm
     rcases Gp.r with ⟨j9,rfl⟩|⟨Hy,j9,o2,Uj⟩<;>rcases Gp.b with ⟨o3,rfl⟩|⟨a2,o3,o4,Uk⟩
     .have hK0:K=0:=eK.trans j9
      have azW:Hu=[]:=zZ (by omega);have hP2:(pick n (D1.R.take i) (D1.B.take i)).2=[]:=zZ (by omega);obtain⟨EJ,e7⟩:∃EJ,EJ=upd (upd (upd Dy (E+1+1+1) (some ⟨[V.rs (E+1+1) 0 (n+1)],1,true⟩)) (E+1+1+1+1) (some ⟨[V.rs (E+1+1) 0 (n+1)],1,true⟩)) G (some ⟨[I n,.rs (E+1+1+1+1) 0 1,.nil,.rs (J+1) 0 (n+1)],0,true⟩):=⟨_,rfl⟩;have b7:EJ G=some ⟨[I n,.rs (E+1+1+1+1) 0 1,.nil,.rs (J+1) 0 (n+1)],0,true⟩:=by rw[e7,Zi]
      have o7:∀y,y<E+1+1+1->y≠G->EJ y=Dy y:=fun y h1 h2=>by rw[e7,Zj _ _ h2,Zk,Zk]
      have o5:EJ bt=_:=(o7 bt (by omega) (by omega)).trans t6;have o9:EJ bb=_:=(o7 bb (by omega) (by omega)).trans j8;refine .inl ⟨_,by simp only[go_sem,S,O,t7,c0,b5,h6,e1,e2,e3,e4,e5,r1,b1,g1,g2,g3,c1,l1,l2,l3,r3,r4,r5,r6,r7,r8,r9,s4,s5,s6,s7,s8,hb,ha1,u50,<- e6,b6,t6,j8,Bq,<- e7,b7,o5,o9,y1,y2,y3,y4,y5,y6,y7,y8,y9,Yn,Yo,Yp,c6,Yq,c7,c8,c9,d0,d5,d6,d7,d8,d9,e8,e9,f0,f4,f5,f6,f7,s9,t3,t4,t9,u0,v0,v2,v3,v4,v5,v6,v7,v8,v9,w2,w3,w4,w5,w7,w8,w9,x0,x8,x9,y0,z0,z5,z6,z7,z8,z9,A0,A1,A2,A3,A4,A5,A6,A7,A9,B1,B2,B3,B4,B5,B6,B7,B8,B9,C0,C1,C2,C3,C4,C5,C6,C7,C8,D3,D4,D5,D6,E0,E1,E2,E3,E4,E5,E6,j0,f8,f9,j1,k5,E7,E9,F0,F1,F2,F3,F4,k6,k7,k8,k9,G0,G1,G3,G4,H0,H1,H2,H3,H4,H5,I0,I1,I2,I3,I6,J0,J1,J2,K0,K1,K2,K3,K4,K5,K6,K7,K8,K9,L0,L1,L2,L3,L4,L5,l5,l6,l7,l8,L7,M0,M1,l9,n0,n1,n2,M2,M3,M4,M5,M6,M7,n3,n4,M8,M9,N0,N1,N2,N3,N4,N5,N6,O0,O2,O3,P0,P1,P2,P3,P4,Q0,Q4,Q5,Q6,R0,R1,R2,R3,R4,R5,R6,R7,R8,R9,S0,S1,S2,S3,S4,S5,S6,S7,S8,T4,T7,T8,T9,U0,U1,U4,U6,V0,V1,V2,V4,V5,W0,W1,W2,W3,W4,W5,W6,W7,W8,X0,X1,X2,Z0,Z1,Z2,Z3,Z6,awR,awS];rfl,?_⟩;simp only[go_sem,S,O,t7,c0,b5];refine⟨rfl,by omega,fin _ _ (by omega) ?_ ?_ ?_ ?_ fun y h1 h2 _=>?_⟩
      .rw[Zi,hK0]
      .rw[Zk,Zk,Zk,e7,Zk,Zi,azW];rfl
      .rw[Zk,Zi,hP2];rfl
      .rw[Zk,Zk,Zk,o7 _ (by omega) (by omega)];exact w6
      .rw[Zj _ _ h2,Zk,Zk,o7 y (by omega) h2];exact o6 y h1
     .exact absurd o3 (by rw[j9];decide)
     .exact absurd j9 (by rw[o3];decide)
     .replace o2:Yr= .rs Hy 0 K:=by rw[o2,eK]
      replace o4:Yt= .rs a2 0 K:=by rw[o4,eK]
      subst o2 o4;have nd5:=Gp.nd;simp only[bk,yT,yK,xZ,zX,not_or]at nd5;obtain⟨⟨m1,m2,m3,m4⟩,⟨m5,m6,m7⟩,⟨m8,m9⟩,m10,m11⟩:=nd5;have lr':=GU Hy (by simp[bk]);have lb':=GU a2 (by simp[bk]);have aiz:Dy Hy=_:=(o6 Hy lr'.2).trans Uj;have aiy:Dy a2=_:=(o6 a2 lb'.2).trans Uk;have ha2:=rH (σ:=restrict (upd Dy (E+1+1+1) (some ⟨[V.rs (E+1+1) 0 (n+1)],1,true⟩)) [Hy,E+1+1+1]) (nx:=E+1+1+1+1) (bytes:=24) (b:=Hy) (len:=K) (m:=1) (row:=[V.rs (E+1+1) 0 (n+1)]) (by rw[fJ,Zk];exact aiz) (by simp;omega) rfl (by decide) (by unfold maxLen;omega) (by omega) rfl;obtain⟨EJ,e7⟩:∃EJ,EJ=upd (upd (upd (upd Dy (E+1+1+1) (some ⟨[V.rs (E+1+1) 0 (n+1)],1,true⟩)) Hy none) (E+1+1+1+1) (some ⟨(Hu.map fun b=>V.rs b 0 (n+1))++[V.rs (E+1+1) 0 (n+1)],1,true⟩)) G (some ⟨[I n,.rs (E+1+1+1+1) 0 (K+1),.rs a2 0 K,.rs (J+1) 0 (n+1)],0,true⟩):=⟨_,rfl⟩;have b7:EJ G=some ⟨[I n,.rs (E+1+1+1+1) 0 (K+1),.rs a2 0 K,.rs (J+1) 0 (n+1)],0,true⟩:=by rw[e7,Zi]
      have o7:∀y,y<E+1+1+1->y≠G->y≠Hy->EJ y=Dy y:=fun y h1 h2 h3=>by rw[e7,Zj _ _ h2,Zk,Zj _ _ h3,Zk]
      have o5:EJ bt=_:=(o7 bt (by omega) (by omega) (by omega)).trans t6;have o9:EJ bb=_:=(o7 bb (by omega) (by omega) (by omega)).trans j8;have bb7:EJ a2=_:=(o7 a2 (by omega) (yu m3) (yu m8)).trans aiy;have ha3:=rH (σ:=restrict (upd EJ (E+1+1+1+1+1) (some ⟨[I ((D1.B.getD i 0:Nat):Int)],1,true⟩)) [a2,E+1+1+1+1+1]) (nx:=E+1+1+1+1+1+1) (bytes:=8) (b:=a2) (len:=K) (m:=1) (row:=[I ((D1.B.getD i 0:Nat):Int)]) (by rw[fJ,Zk];exact bb7) (by show((Ce (pick n (D1.R.take i) (D1.B.take i)).2).flatMap cI).length=K;rw[qR,aB];exact eK2) rfl (by decide) (by unfold maxLen;omega) (by omega) rfl;have u1:¬G=Hy:=m2;have u2:¬G=a2:=m3;have u3:(G==Hy)=false:=beq_false_of_ne m2;have u4:(G==a2)=false:=beq_false_of_ne m3;have u5:(Hy==G)=false:=beq_false_of_ne (yu m2);have u6:(a2==G)=false:=beq_false_of_ne (yu m3);have u7:Hy<E+1+1+1:=by omega
      have u8:Hy<E+1+1+1+1:=by omega
      have u9:a2<E+1+1+1+1+1:=by omega
      have u10:a2<E+1+1+1+1+1+1:=by omega
      have u11:(bt==Hy)=false:=by rw[sQ];omega
      have u12:(bt==a2)=false:=by rw[sQ];omega
      have u13:(bi==Hy)=false:=by rw[sQ];omega
      have u14:(bb==Hy)=false:=by rw[sQ];omega
      have u15:(bb==a2)=false:=by rw[sQ];omega
      have u16:¬bt=Hy:=by omega
      have u17:¬bb=Hy:=by omega
      have u18:¬bt=a2:=by omega
      have u19:¬bb=a2:=by omega
      have u20:(Hy==E)=false:=by rw[sQ];omega
      have u21:(E==Hy)=false:=by rw[sQ];omega
      have u22:(Hy==E+1)=false:=by rw[sQ];omega
      have u23:(E+1==Hy)=false:=by rw[sQ];omega
      refine .inl ⟨_,by simp only[go_sem,S,O,t7,c0,b5,h6,e1,e2,e3,e4,e5,r1,b1,g1,g2,g3,c1,l1,l2,l3,r3,r4,r5,r6,r7,r8,r9,s4,s5,s6,s7,s8,hb,ha1,u50,<- e6,b6,t6,j8,Bq,ha2,<- e7,b7,o5,o9,ha3,u1,u2,u3,u4,u5,u6,u7,u8,u9,u10,u11,u12,u13,u14,u15,u16,u17,u18,u19,u20,u21,u22,u23,y1,y2,y3,y4,y5,y6,y7,y8,y9,Yn,Yo,Yp,c6,Yq,c7,c8,c9,d0,d5,d6,d7,d8,d9,e8,e9,f0,f4,f5,f6,f7,s9,t3,t4,t9,u0,v0,v2,v3,v4,v5,v6,v7,v8,v9,w2,w3,w4,w5,w7,w8,w9,x0,x8,x9,y0,z0,z5,z6,z7,z8,z9,A0,A1,A2,A3,A4,A5,A6,A7,A9,B1,B2,B3,B4,B5,B6,B7,B8,B9,C0,C1,C2,C3,C4,C5,C6,C7,C8,D3,D4,D5,D6,E0,E1,E2,E3,E4,E5,E6,j0,f8,f9,j1,k5,E7,E9,F0,F1,F2,F3,F4,k6,k7,k8,k9,G0,G1,G3,G4,H0,H1,H2,H3,H4,H5,I0,I1,I2,I3,I6,J0,J1,J2,K0,K1,K2,K3,K4,K5,K6,K7,K8,K9,L0,L1,L2,L3,L4,L5,l5,l6,l7,l8,L7,M0,M1,l9,n0,n1,n2,M2,M3,M4,M5,M6,M7,n3,n4,M8,M9,N0,N1,N2,N3,N4,N5,N6,O0,O2,O3,P0,P1,P2,P3,P4,Q0,Q4,Q5,Q6,R0,R1,R2,R3,R4,R5,R6,R7,R8,R9,S0,S1,S2,S3,S4,S5,S6,S7,S8,T4,T7,T8,T9,U0,U1,U4,U6,V0,V1,V2,V4,V5,W0,W1,W2,W3,W4,W5,W6,W7,W8,X0,X1,X2,Z0,Z1,Z2,Z3,Z6,awR,awS];rfl,?_⟩;simp only[go_sem,S,O,t7,c0,b5];refine⟨rfl,by omega,fin _ _ (by omega) ?_ ?_ ?_ ?_ fun y h1 h2 h3=>?_⟩
      .rw[Zi]
      .rw[Zk,Zk,Zk,Zk,e7,Zk,Zi,wX];rfl
      .rw[Zk,Zi]
       show some (E_.mk ((Ce (pick n (D1.R.take i) (D1.B.take i)).2).flatMap cI++[I ((D1.B.getD i 0:Nat):Int)]) 1 true)=_;unfold Ce;rw[wX,zU];rfl
      .rw[Zk,Zk,Zk,Zk,o7 _ (by omega) (by omega) (by omega)];exact w6
      .simp only[bk,yT,yK,zX,zH,or_false,not_or]at h3
       rw[Zj _ _ h2,Zk,Zj _ _ h3.2,Zk,o7 y (by omega) h2 h3.1];exact o6 y h1
    .rw[sW hB]at i3
     have c1:¬((D1.B.getD i 0:Nat):Int)<(n:Int):=by omega
     refine .inl ⟨_,by simp only[go_sem,S,O,t7,c0,b5,h6,e1,e2,e3,e5,r1,b1,g1,g2,g3,c1,l1,l2,l3];rfl,?_⟩;simp only[go_sem,S,O,t7,c0,b5];exact⟨rfl,i2,a8,Yr,Yt,Hu,by rw[i3];exact Gp,GU⟩) (by
    clear hL;rintro ⟨T,CY,E⟩ ⟨S,O,t7,c0,b5,h6,i2,a8,Yr,Yt,Hu,Gp,GU⟩;simp only at S O t7 c0 b5 h6 i2 a8 Gp GU;refine⟨_,by simp only[go_sem,b5,h6,zl];rfl,by simp,_,_,_,Yr,Yt,Hu,rfl,?_⟩;simp only[go_sem,t7];rw[zk (by omega),zk (by omega)]at Gp;exact⟨i2,a8,Gp,GU⟩) (by
    simp only[go_sem,S,O,t7];refine⟨by omega,j6,.nil,.nil,[],⟨r0,.inl ⟨rfl,rfl⟩,fun i h=>absurd h (zW _),.inl ⟨rfl,rfl⟩,s2,rfl,?_⟩,fun x hx=>?_⟩
    .simp only[bk,zK,xZ,xC,zH,not_false_iff,true_and,List.nodup_nil,and_true]
     omega
    .simp only[bk,zK,zX,zH,or_false]at hx
     omega)
  clear hL;obtain⟨P,eP⟩:∃P,P=pick n D1.R D1.B:=⟨_,rfl⟩;have k3:=Je (n:=n) (R:=D1.R) (B:=D1.B);have hpl:=Jd (n:=n) (R:=D1.R) (B:=D1.B);have awT:=hcl D1 Va fun i hi=>b8 i (by omega)
  rw[<- eP]at k3 hpl Gp awT;have al1:∀x∈P.1,x.length=n+1:=fun x hx=>by
   obtain⟨y,hy,rfl⟩:=k3.1 x hx;have:=i0.row y hy;rw[zo,zh];simp;omega
  have pln:∀x∈P.1,∀q∈x,Ln 6 q:=fun x hx q hq=>by
   obtain⟨y,hy,rfl⟩:=k3.1 x hx;have hyl:=i0.row y hy;rcases List.mem_append.mp hq with hq|hq
   .exact i0.big y hy q (wS hq)
   .rw[List.mem_singleton.mp hq,List.getLastD_eq_getLast?,List.getLast?_eq_getElem?,zy (by omega)]
    exact i0.big y hy _ (zu _)
  obtain⟨K,eK⟩:∃K,K=P.1.length:=⟨_,rfl⟩;have p6:(⟨P.1,P.2,G6 c⟩:TQ).R.length=K:=eK.symm;have aqL:K<=1000:=by
   have h2:∀(R:List (List Rat)) (B:List Nat),(pick n R B).1.length<=R.length:=by
    intro R
    induction R with
    |nil=>intro B;simp[pick]
    |cons x R ih=>
     intro B;cases B with
     |nil=>simp[pick]
     |cons b B=>unfold pick;have:=ih B;split<;>simp<;>omega
   have:=h2 D1.R D1.B;rw[<- eP]at this;omega
  have p7:DR ZH 175 i1=some (I K):=by
   rcases Gp.r with ⟨q1,rfl⟩|⟨br,q1,rfl,_⟩
   .rw[p6]at q1
    rw[q1];exact ng (by kernel_rfl)
   .rw[p6];exact nZ (by kernel_rfl)
  have hb5:=Gp.t;simp only[go_sem,t7,hb5,p7];generalize hL:dI _ _=y;obtain⟨x,rfl,T6,Dy,Bq,rfl,t7,G5,RH,g0⟩:=pF hL K (fun i st=>st.T 7= .rp G 0/\st.T 157=i1/\st.T 158=I K/\st.T 159=I i/\E<=st.nx/\(∀x,x<G->st.σ x=CY x)/\EY st.σ G (J+1) i1 j7 b9 ⟨P.1,P.2,clears (G6 c) (P.1.take i) (P.2.take i)⟩ n)
   (fun x=>∃T Dy Bq,x=(.exit 8,⟨T,Dy,Bq⟩)/\T 7= .rp G 0/\E<=Bq/\(∀x,x<G->Dy x=CY x)/\EY Dy G (J+1) i1 j7 b9 ⟨P.1,P.2,clears (G6 c) P.1 P.2⟩ n) (by
    clear hL;rintro i ⟨T,Dy,Bq⟩ hi ⟨t7,g8,i4,g9,G5,RH,g0⟩;simp only at t7 g8 i4 g9 G5 g0;obtain⟨q1,q2,q3,q4,q5,q6,q7⟩:=g0;have hl6:b9.length=K:=q6.trans p6;rcases q2 with ⟨w0,_⟩|⟨i5,_,p8,amc⟩
    .have:P.1.length=0:=w0
     omega
    rcases q4 with ⟨w0,_⟩|⟨c3,_,p9,amd⟩
    .have:P.1.length=0:=w0
     omega
    replace p8:i1= .rs i5 0 K:=by rw[p8,eK]
    replace p9:j7= .rs c3 0 K:=by rw[p9,eK]
    subst p8 p9;have b4:i<b9.length:=by omega
    obtain⟨bi,Fg⟩:∃bi,bi=b9[i]:=⟨_,rfl⟩;have YG:Dy bi=some ⟨(En P.1 i).flatMap cQ,3,true⟩:=by rw[Fg];exact q3 i b4
    have q7':=q7;simp only[bk,yT,yK,xZ,zX,not_or]at q7;obtain⟨⟨m1,m2,m3,m4⟩,⟨m5,m6,m7⟩,⟨m8,m9⟩,m10,m11⟩:=q7;have j2:bi∈b9:=by rw[Fg];exact zu b4
    have d1:G≠bi:=fun e=>m4 (e ▸ j2)
    have d2:J+1≠bi:=fun e=>m7 (e ▸ j2)
    have d3:i5≠bi:=fun e=>m9 (e ▸ j2)
    have d4:c3≠bi:=fun e=>m10 (e ▸ j2)
    have g1:(i:Int)<(K:Int):=by omega
    have g2:=jD i;have g3:=ZQ (n:=(i:Int)+1);have r1:(b9.map fun b=>V.rs b 0 (n+1))[i]?=some (.rs bi 0 (n+1)):=by rw[yc,zy b4,Fg];rfl
    have b1:((Ce P.2).flatMap cI)[i]?=some (I ((P.2.getD i 0:Nat):Int)):=by
     rw[idx (by rw[aB];omega),aC (by omega)]
    have l1:G<Bq:=by have:=GU G (by simp);omega
    have l2:J+1<Bq:=by omega
    have l3:c3<Bq:=by have:=GU c3 (by simp[bk]);omega
    have l4:bi<Bq:=by have:=GU bi (by simp[j2]);omega
    have z1:(G==J+1)=false:=beq_false_of_ne m1;have z2:(G==bi)=false:=beq_false_of_ne d1;have z3:(c3==J+1)=false:=beq_false_of_ne (yu m6);have z4:(c3==bi)=false:=beq_false_of_ne d4;have hPi:P.2.getD i 0<n:=by rw[lK (by omega)];exact k3.2 _ (zu _)
    have awU:En P.1 i∈P.1:=by rw[dR (by omega)];exact zu _
    have az0:(G6 c).length=n+1:=by unfold G6;rw[zo,gK];simp;omega
    obtain⟨s3,m3',aD6,kc,pe,f1,f2,f3⟩:=UO (σ:=Dy) (nx:=Bq) (bi:=J+1) (bR:=bi) (N:=n) (k:=P.2.getD i 0) (x:=clears (G6 c) (P.1.take i) (P.2.take i)) (t:=En P.1 i) (O4 az0 fun x hx=>al1 x (wS hx)) (al1 _ awU) (by omega) (by omega) (awT i (by omega)) (pln _ awU) q5 YG d2 l2 l4;have esn:Ls (clears (G6 c) (P.1.take i) (P.2.take i)) (En P.1 i) ((clears (G6 c) (P.1.take i) (P.2.take i)).getD (P.2.getD i 0) 0)=clears (G6 c) (P.1.take (i+1)) (P.2.take (i+1)):=by
     have e1:P.1.take (i+1)=P.1.take i++[En P.1 i]:=by rw[yN,zy (by omega),dR (by omega)];rfl
     have e2:P.2.take (i+1)=P.2.take i++[P.2.getD i 0]:=by rw[yN,zy (by omega),lK (by omega)];rfl
     rw[e1,e2,KU _ _ (by rw[zh,zh,hpl])]
    refine .inl ⟨_,by simp only[go_sem,t7,g8,i4,g9,q1,amc,amd,b1,r1,g1,g2,g3,l1,l2,l3,l4,z1,z2,z3,z4,kc,pe];rfl,?_⟩;simp only[go_sem,t7,g8,i4];refine⟨rfl,by omega,fun x hx=>(f3 x (by omega) (by omega)).trans (RH x hx),⟨(f3 G l1 m1).trans q1,.inr ⟨i5,by show 0<P.1.length;omega,by show _=V.rs i5 0 P.1.length;rw[eK],(f3 i5 (by have:=GU i5 (by simp[bk]);omega) (yu m5)).trans amc⟩,fun j hj=>?_,.inr ⟨c3,by show 0<P.1.length;omega,by show _=V.rs c3 0 P.1.length;rw[eK],(f3 c3 l3 (yu m6)).trans amd⟩,?_,q6,q7'⟩⟩
    .have hm:=zu hj
     rw[f3 _ (by have:=GU b9[j] (by simp[hm]);omega) fun e=>m7 (e ▸ hm)];exact q3 j hj
    .rw[f1]
     show some (E_.mk (List.flatMap cQ (Ls _ _ _)) 3 true)=_;rw[esn]) (by
    clear hL;rintro ⟨T,Dy,Bq⟩ ⟨t7,g8,i4,g9,G5,RH,g0⟩;simp only at t7 g8 i4 g9 G5 g0;refine⟨_,by simp only[go_sem,i4,g9,zl];rfl,by simp,_,_,_,rfl,?_⟩;simp only[go_sem,t7];rw[zk (by omega),zk (by omega)]at g0;exact⟨G5,RH,g0⟩) (by
    simp only[go_sem,t7];have e0:clears (G6 c) [] []=G6 c:=by unfold clears;rfl
    rw[e0];exact⟨fun _ _=>trivial,Gp⟩)
  refine⟨Dy,Bq,G,J+1,i1,j7,b9,D1,by simp only[go_sem,t7],Va,fun i hi=>b8 i (by omega),?_,fun x hx=>?_,fun x hx j5=>(RH x (by omega)).trans ((a8 x (by omega)).trans (i6 x hx j5))⟩
  .unfold D2q;rw[<- eP];exact g0
  .have:=GU x hx;omega
end Go.Proofs.YtehdaknhabeiaaaGreat
namespace Go.Proofs.YtehdaknhabeiaaaGreat
open Go Go.TV Go.Lp
theorem RJ{M:Nat}(E:1<=M):∀ {k m:Nat},m<=k->fact M m<=fact M k
 |0,m,h=>by have:m=0:=by omega
            subst this;exact zq _
 |k+1,m,h=>by
  by_cases e:m=k+1
  .subst e;exact zq _
  .refine zL (RJ E (k:=k) (m:=m) (by omega)) ?_
   show fact M k<=(k+1)*(M*fact M k);have G:1*fact M k<=M*fact M k:=zC _ E;have J:1*(M*fact M k)<=(k+1)*(M*fact M k):=zC _ (by omega);omega
def BM:Nat:=13*(1000*fact 1000 12)+fact 1000 12
theorem anH:ln BM<=6:=jg.mpr (by decide+kernel)
theorem Yu{K m:Nat}(E:K<=1000)(hm:m<=12):(m+1)*(K*fact 1000 m)+fact 1000 m<=BM:=by
 have G:=RJ (M:=1000) (by decide) hm;have J:K*fact 1000 m<=1000*fact 1000 12:=yE E G;have O:(m+1)*(K*fact 1000 m)<=13*(1000*fact 1000 12):=yE (by omega) J;unfold BM;omega
theorem O5{M:Nat}{q:Rat}(h:q.num.natAbs<=M/\q.den<=M)(E:M<=BM):Ln 6 q :=
 ⟨zL (jf (zL h.1 E)) anH,zL (jf (zL h.2 E)) anH⟩
theorem UW{k:Nat}{q:Rat}(h:Ln k q):Ln k (-q):=⟨by rw[Rat.neg_num,wC];exact h.1,by rw[Rat.neg_den];exact h.2⟩
theorem amV:Ln 6 0:=Ln.mono (sJ (z:=0) (by decide)) (by decide)
structure PrS (A b c:List Int) (m n:Nat):Prop where
 hA:A.length=m*n
 hb:b.length=m
 hc:c.length=n
 hm:m<=12
 hn:n<=16
 bA:∀x∈A,-1000<=x/\x<=1000
 bb:∀x∈b,-1000<=x/\x<=1000
 bc:∀x∈c,-1000<=x/\x<=1000
theorem gX{A b c:List Int}{m n:Nat}(h:PrS A b c m n):Whole (AO A b c m n) 1000 :=
 ⟨by decide,fun j k _ _=>⟨_,rfl,Q9 (lJ h.bA _)⟩,fun k _=>⟨_,rfl,Q9 (lJ h.bb _)⟩⟩
section
variable {A b c:List Int} {m n n':Nat} {C:Nat->Rat} {T:Tab} {D:TQ} {ι:List Nat}
theorem aqO(hp:PrS A b c m n)(E:(AO A b c m n).Good T){i j:Nat}(hi:i<m)(G:j<n+m):Ln 6 (T.e i j) :=
 O5 (alJ E (gX hp) hi G) (by have:=Yu (K:=0) (m:=m) (by decide) hp.hm;show fact 1000 m<=BM;omega)
theorem aju(hp:PrS A b c m n)(E:(AO A b c m n).Good T){i:Nat}(hi:i<m):Ln 6 (T.b i) :=
 O5 (ae4 E (gX hp) hi) (by have:=Yu (K:=0) (m:=m) (by decide) hp.hm;show fact 1000 m<=BM;omega)
theorem abN(hp:PrS A b c m n)(h:Vq (AO A b c m n) n' C T D ι)(E:(AO A b c m n).Good T)(hC:∀j,ZB 1000 (C j)):ShF D n'/\D.B.Nodup:=by
 have hm:=hp.hm;have hn:=hp.hn;have hle:n'<=n+m:=h.le;have hl:D.R.length<=m:=by
  rw[<- h.len];have h2:ι ⊆ List.range m:=fun r hr=>List.mem_range.mpr (h.lt r hr)
  have h3:=h.nd.length_le_of_subset h2
  rwa [uN]at h3
 refine⟨⟨h.row,h.Bg,h.Gm,by omega,by omega,fun x hx q J=>?_,fun q J=>?_,fun q J=>?_⟩,?_⟩
 .obtain⟨i,hi,rfl⟩:=yV hx
  obtain⟨j,O,rfl⟩:=yV J;have a1:=h.row _ (zu hi);have e:(D.R[i])[j]=B_ D.R i j:=by
   have:=oK (R:=D.R) (i:=i) (j:=j) (by rw[dR hi];exact O);rw[<- this];simp only[dR hi]
  rw[e]
  by_cases G:j<n'
  .rw[h.ent i j hi G];exact aqO hp E (h.io hi) (by omega)
  .have:j=n':=by omega
   subst this;rw[h.rhs i hi];exact aju hp E (h.io hi)
 .obtain⟨j,O,rfl⟩:=yV J
  have a2:=h.Gm;rw[<- lK O 0]
  by_cases G:j<n'
  .rw[h.cost j G]
   exact O5 (aoM E (gX hp) hC (show j<n+m by omega)) (Yu (zq _) hm)
  .have:j=n':=by omega
   subst this;rw[h.val];exact UW (O5 (aoN E (gX hp) hC) (Yu (zq _) hm))
 .obtain⟨i,hi,rfl⟩:=yV J
  have S:=h.Bg;rw[<- lK hi 0,h.BD i (by omega)];have:T.B (ι.getD i 0)<n+m:=E.ok.bn _ (h.io (by omega));omega
 .rw[List.nodup_iff_pairwise_ne,List.pairwise_iff_getElem]
  intro i j hi O a3 e;have S:=h.Bg;rw[<- lK hi 0,<- lK O 0,h.BD i (by omega),h.BD j (by omega)]at e;have Y:=E.ok.un _ _ (h.io (i:=i) (by omega)) (h.io (i:=j) (by omega));have u2:=E.ok.un _ _ (h.io (i:=i) (by omega)) (h.io (i:=i) (by omega));rw[sS rfl]at u2;rw[<- e,u2]at Y;have:ι.getD i 0=ι.getD j 0:=by
   refine zf fun a0=>?_
   rw[sW a0]at Y;exact absurd Y (by decide)
  have:=lG h.nd (by rw[h.len];omega) (by rw[h.len];omega) this;omega
theorem anI(j:Nat):ZB 1000 ((AO A b c m n).c1 j):=by
 unfold Prog.c1
 split
 .exact⟨0,rfl,by decide⟩
 .exact⟨-1,rfl,by decide⟩
theorem awV(hp:PrS A b c m n)(j:Nat):ZB 1000 ((AO A b c m n).C 0 j):=by
 unfold Prog.C;rw[sS rfl]
 split
 .exact⟨c.getD j 0,rfl,by have:=lJ hp.bc j;omega⟩
 .exact⟨0,rfl,by decide⟩
theorem O6:∀ {R:List (List Rat)} {B:List Nat} (q:Nat),Units R B->Units (R.take q) (B.take q)
 |[],_,q,_=>by simp[Units]
 |_ :: _,[],q,_=>by cases q<;>simp[Units]
 |x :: R,b :: B,0,_=>by simp[Units]
 |x :: R,b :: B,q+1,h=>⟨fun b' E=>h.1 b' (wS E),O6 (R:=R) (B:=B) q h.2⟩
theorem adb{c:List Rat}{j F:Nat}{Δ:Rat}(hc:∀i,ZB 1000 (c.getD i 0)):∀ {R:List (List Rat)} {B:List Nat},(∀x∈R,ZB F (x.getD j 0*Δ))->ZB (R.length*(1000*F)) (FI c j R B*Δ)
 |[],_,_=>by
  have e:FI c j [] ‹List Nat›=0:=by unfold FI;rfl
  rw[e];exact⟨0,by grind,wK _⟩
 |x :: R,[],_=>by
  have e:FI c j (x :: R) []=0:=by unfold FI;rfl
  rw[e];exact⟨0,by grind,wK _⟩
 |x :: R,b :: B,h=>by
  have e:FI c j (x :: R) (b :: B)*Δ=c.getD b 0*(x.getD j 0*Δ)+FI c j R B*Δ:=by
   show(c.getD b 0*x.getD j 0+FI c j R B)*Δ=_;grind
  rw[e];have E:=(hc b).mul (h x zM);have G:=adb hc (R:=R) (B:=B) fun y J=>h y (zY _ J)
  exact(E.add G).mono (by rw[zJ,xq R.length (1000*F)];exact Nat.le_of_eq (wR _ _))
theorem UY(c:List Int)(i:Nat):(G6 c).getD i 0=((c.getD i 0:Int):Rat):=by
 unfold G6 qs;rw[zx,zx]
 by_cases h:i<c.length
 .rw[zV (by simpa using h),yc,zy h];rfl
 .rw[zQ (by simp;omega),yZ (l:=c) (by omega)]
  by_cases E:i=c.length
  .subst E;simp
  .rw[yZ (by simp;omega)];rfl
theorem ade(hc:c.length=n):(G6 c).length=n+1:=by unfold G6;rw[zo,gK];simp;omega
theorem anJ(hp:PrS A b c m n)(h:Vq (AO A b c m n) (n+m) (AO A b c m n).c1 T D ι)(G:(AO A b c m n).Good T)(J:∀r,r<m->r∈ι)(O:Zero (AO A b c m n) T)(E:∀i,i<D.R.length->ED n D i) :
  Vq (AO A b c m n) n ((AO A b c m n).C 0) T (D2q n D c) (CX n ι D.B) :=
 Xn (p:=AO A b c m n) h G J O E (ade hp.hc) (fun j S=>UY c j) (by
  show(G6 c).getD n 0=0;rw[UY,zx,yZ (by have:=hp.hc;omega)];rfl)
theorem afH(hp:PrS A b c m n)(h:Vq (AO A b c m n) (n+m) (AO A b c m n).c1 T D ι)(E:(AO A b c m n).Good T)(PU:∀r,r<m->r∈ι)(hz:Zero (AO A b c m n) T)(Y:∀i,i<D.R.length->ED n D i) :
  ∀q,q<=(pick n D.R D.B).1.length->∀u∈clears (G6 c) ((pick n D.R D.B).1.take q) ((pick n D.R D.B).2.take q),Ln 6 u:=fun q S u hu=>by
 have V:=anJ hp h E PU hz Y;have a4:=ade hp.hc;have G:=Je (n:=n) (R:=D.R) (B:=D.B);have J:=Jd (n:=n) (R:=D.R) (B:=D.B);have hw:=gX hp;have a5:(pick n D.R D.B).1.length<=m:=by
  have h1:(CX n ι D.B).length=(pick n D.R D.B).1.length:=V.len;rw[<- h1];have h2:CX n ι D.B ⊆ List.range m:=fun r hr=>List.mem_range.mpr (V.lt r hr)
  have h3:=V.nd.length_le_of_subset h2
  rwa [uN]at h3
 obtain⟨P,eP⟩:∃P,P=pick n D.R D.B:=⟨_,rfl⟩;unfold D2q at V;rw[<- eP]at V G J S hu a5;have a0:∀i,i<P.1.length->P.2.getD i 0<n:=fun i hi=>by rw[lK (by omega)];exact G.2 _ (zu _)
 have a6:Units P.1 P.2:=by
  have:=Xm (R:=P.1) (k:=0) (B:=P.2) (by rw[yY];exact J) fun i q hi S b3 _=>by
   rw[Nat.sub_zero,V.ent i _ hi (a0 q S),show P.2.getD q 0=T.B ((CX n ι D.B).getD q 0)from V.BD q S,E.ok.un _ _ (V.io hi) (V.io S)];rw[sW fun e=>by have:=lG V.nd (by rw[V.len];exact hi) (by rw[V.len];exact S) e;omega]
  rwa [yY]at this
 obtain⟨k1,k2⟩:=JR (n:=n+1) (R:=P.1.take q) (B:=P.2.take q) a4 (fun x hx=>V.row x (wS hx)) (fun d hd=>by have:=G.2 d (wS hd);omega) (O6 q a6) (by rw[zh,zh,J]);obtain⟨j,hj,rfl⟩:=yV hu;rw[<- lK hj 0,k2 j (by omega)];obtain⟨Δ,O⟩:∃Δ,Δ=Lp.CW m fun q=>(AO A b c m n).A (T.B q):=⟨_,rfl⟩
 obtain⟨F,eF⟩:∃F,F=fact 1000 m:=⟨_,rfl⟩;have a1:ZB F Δ:=by rw[O,eF];exact E.ed.Fz E.ok.bn hw.A
 have a7:Δ≠0:=by rw[O];exact E.ed.ind
 have a2:∀i,ZB 1000 ((G6 c).getD i 0):=fun i=>⟨c.getD i 0,UY c i,by have:=lJ hp.bc i;omega⟩
 have a8:=adb (j:=j) (F:=F) (Δ:=Δ) a2 (R:=P.1.take q) (B:=P.2.take q) fun x hx=>by
  obtain⟨i,hi,rfl⟩:=yV (wS hx);have e:P.1[i].getD j 0=B_ P.1 i j:=by show _=(En P.1 i).getD j 0;rw[dR hi]
  rw[e,O,eF]
  by_cases a9:j<n
  .rw[show B_ P.1 i j=T.e ((CX n ι D.B).getD i 0) j from V.ent i j hi a9]
   exact E.ed.NI E.ok.bn hw.A (V.io hi) (show j<n+m by omega)
  .have:j=n:=by omega
   subst this;rw[show B_ P.1 i j=T.b ((CX j ι D.B).getD i 0)from V.rhs i hi];exact E.ed.GK E.ok.bn hw.A hw.w (V.io hi)
 have a3:ZB ((m+1)*(1000*F)+F) (((G6 c).getD j 0-FI (G6 c) j (P.1.take q) (P.2.take q))*Δ):=by
  have e:((G6 c).getD j 0-FI (G6 c) j (P.1.take q) (P.2.take q))*Δ=(G6 c).getD j 0*Δ+ -(FI (G6 c) j (P.1.take q) (P.2.take q)*Δ):=by grind
  rw[e];refine(((a2 j).mul a1).add a8.neg).mono ?_;have:(P.1.take q).length*(1000*F)<=m*(1000*F):=zC _ (by rw[zh];omega);rw[xq m (1000*F)];exact zL (Nat.add_le_add_left this _) (by rw[wR];exact Nat.le_add_right _ _)
 have b2:ZB ((m+1)*(1000*F)+F) Δ:=a1.mono (by omega);exact O5 (IE b2 a7 a3) (by rw[eF];exact Yu (zq _) hp.hm)
end
theorem UZ(f:Nat->Int):∀k,sm (fun i=>((f i:Int):Rat)) k=((FT f k:Int):Rat)
 |0=>rfl
 |k+1=>by
  show sm (fun i=>((f i:Int):Rat)) k+((f k:Int):Rat)=((FT f k+f k:Int):Rat);rw[UZ f k,Rat.intCast_add]
section
variable {A b c:List Int} {m n:Nat}
theorem ajv{i j:Nat}(hi:i<m)(E:j<n+m+1):B_ (Dq A b m n m).R i j=((cell0 A b m n i j:Int):Rat):=by
 have G:(Dq A b m n m).R.length=m:=by unfold Dq Et;simp
 have e:En (Dq A b m n m).R i=qs (row0 A b m n i):=by
  rw[dR (by omega)];simp[Dq,Et]
 show(En (Dq A b m n m).R i).getD j 0=_;rw[e,lK (by rw[gK,fD];omega),O1 (by rw[fD];omega),fE _ _ _ _ _ (by omega)]
theorem awX{i j:Nat}(hi:i<m)(J:j<n+m):(AO A b c m n).T0.e i j=((cell0 A b m n i j:Int):Rat):=by
 show(AO A b c m n).A j i=_;unfold cell0 Prog.A;show(if j<n then _ else if i+n=j then 1 else 0)=_
 by_cases E:j<n
 .rw[sS E,sS E];rfl
 .rw[sW E,sW E,sS J]
  by_cases G:j=n+i
  .rw[sS G,sS (by omega)];rfl
  .rw[sW G,sW (by omega)];rfl
theorem awY{i:Nat}:(AO A b c m n).T0.b i=((cell0 A b m n i (n+m):Int):Rat):=by
 show((sg b i*b.getD i 0:Int):Rat)=_;unfold cell0;rw[sW (by omega),sW (by omega)]
theorem RN{k:Nat}:∀ {m:Nat},FT (fun i=>if k=i then 1 else 0) m=if k<m then 1 else 0
 |0=>rfl
 |m+1=>by
  show FT _ m+(if k=m then 1 else 0)=_;rw[RN]
  by_cases h:k<m
  .rw[sS h,sW (by omega),sS (by omega)];rfl
  .by_cases E:k=m
   .rw[sW h,sS E,sS (by omega)];rfl
   .rw[sW h,sW E,sW (by omega)];rfl
theorem O7{f g:Nat->Int}:∀ {m:Nat},(∀i,i<m->f i=g i)->FT f m=FT g m
 |0,_=>rfl
 |m+1,h=>by
  show FT f m+f m=FT g m+g m;rw[O7 fun i hi=>h i (by omega),h m (by omega)]
theorem abO:Vq (AO A b c m n) (n+m) (AO A b c m n).c1 (AO A b c m n).T0 (Dq A b m n m) (List.range m):=by
 have J:(Dq A b m n m).R.length=m:=by unfold Dq Et;simp
 have O:∀i,i<m->(AO A b c m n).c1 ((AO A b c m n).T0.B i)= -1:=fun i hi=>by
  show(if i+n<n then(0:Rat)else -1)= -1;rw[sW (by omega)]
 have S:∀j,j<n+m+1->(Dq A b m n m).c.getD j 0=((if j<n\/j=n+m then FT (fun i=>cell0 A b m n i j) m else 0:Int):Rat):=fun j G=>by
  show(qs (EZ A b m n m)).getD j 0=_;rw[lK (by rw[gK,pG];omega),O1 (by rw[pG];omega),Jc _ _ _ _ _ G]
 refine⟨by rw[J];simp,by rw[J];simp[Dq],by show(qs (EZ A b m n m)).length=_;rw[gK,pG],fun x hx=>?_,fun r Y=>List.mem_range.mp Y,List.nodup_range,zq _,fun i j hi G=>?_,fun i hi=>?_,fun i hi=>?_,fun j G=>?_,?_,fun r Y hn=>absurd (List.mem_range.mpr Y) hn⟩
 .obtain⟨y,hy,rfl⟩:=List.mem_map.mp hx
  obtain⟨i,-,rfl⟩:=List.mem_map.mp hy;rw[gK,fD]
 .rw[J]at hi
  rw[fV hi,ajv hi (by omega),awX hi G]
 .rw[J]at hi
  rw[fV hi,ajv hi (by omega),awY]
 .rw[J]at hi
  rw[fV hi];show((List.range m).map fun i=>n+i).getD i 0=i+n;rw[zx,yc,w_ hi];show n+i=i+n;omega
 .rw[S j (by omega)]
  have e:gm (AO A b c m n).m (AO A b c m n).T0 (AO A b c m n).c1 j=(AO A b c m n).c1 j+((FT (fun i=>cell0 A b m n i j) m:Int):Rat):=by
   rw[<- UZ];have E:sm (fun i=>(AO A b c m n).T0.e i j*(AO A b c m n).c1 ((AO A b c m n).T0.B i)) m= -1*sm (fun i=>((cell0 A b m n i j:Int):Rat)) m:=by
    rw[<- bT];exact bU fun i hi=>by rw[awX hi G,O i hi];grind
   show(AO A b c m n).c1 j-sm (fun i=>(AO A b c m n).T0.e i j*(AO A b c m n).c1 ((AO A b c m n).T0.B i)) m=_;rw[E];grind
  rw[e]
  by_cases E:j<n
  .rw[sS (.inl E)]
   show _=(if j<n then(0:Rat)else -1)+_;rw[sS E];grind
  .rw[sW (by omega)]
   show _=(if j<n then(0:Rat)else -1)+_;rw[sW E,O7 (g:=fun i=>if j-n=i then 1 else 0) fun i hi=>by
    unfold cell0;rw[sW E,sS G]
    by_cases h2:j=n+i
    .rw[sS h2,sS (by omega)]
    .rw[sW h2,sW (by omega)],RN,sS (by omega)]
   decide+kernel
 .rw[S (n+m) (by omega),sS (.inr rfl),<- UZ]
  have E:sm (fun i=>(AO A b c m n).T0.b i*(AO A b c m n).c1 ((AO A b c m n).T0.B i)) m= -1*sm (fun i=>((cell0 A b m n i (n+m):Int):Rat)) m:=by
   rw[<- bT];exact bU fun i hi=>by rw[awY,O i hi];grind
  show _= -sm (fun i=>(AO A b c m n).T0.b i*(AO A b c m n).c1 ((AO A b c m n).T0.B i)) m;rw[E];grind
end
end Go.Proofs.YtehdaknhabeiaaaGreat
