import Derived.Test.YtehdaknhabeiaaaGreatTb5
set_option linter.unusedSimpArgs false
set_option linter.unusedVariables false
set_option linter.unusedSectionVars false
set_option linter.defProp false
set_option maxRecDepth 10000
set_option maxHeartbeats 4000000
open Bool renaming and_eq_true->yh,and_false->xR,not_false->xJ
open Classical renaming byContradiction->zf
open Int renaming lt_irrefl->zl,toNat_natCast->yw,natAbs_neg->wG,natAbs_mul_self->wE
open List renaming getElem?_eq_getElem->zy,getD_eq_getElem?_getD->zx,getElem_mem->zu,length_append->zo,take_of_length_le->zk,length_take->zh,eq_nil_of_length_eq_zero->zZ,mem_cons_of_mem->zY,mem_cons->zX,getElem?_append_left->zV,flatMap_cons->zU,flatMap_append->zT,getElem?_append_right->zQ,length_map->zO,mem_cons_self->zN,append_nil->zM,length_drop->zH,length_cons->zD,append_assoc->zB,length_replicate->z_,take_length->yg,getElem?_eq_none->yc,drop_zero->yZ,getElem?_map->yX,getElem_of_mem->yV,length_eraseIdx_of_lt->yS,ext_getElem->yR,take_add_one->yO,length_singleton->yL,nil_append->yK,length_set->yG,drop_of_length_le->xw,getElem_map->xq,map_congr_left->xP,length_nil->wu,range_succ->wZ,map_append->wY,mem_of_mem_take->wV,mem_append->wS,take_append_drop->wP
open Nat renaming le_refl->zq,not_lt_zero->zW,le_trans->zL,mul_le_mul_right->zG,zero_add->yY,mul_le_mul->yF,succ_mul->yA,div_one->x9,add_comm->wU
open Option renaming bind_some->zi
open Prod.mk renaming injEq->wB
namespace Go.Proofs.YtehdaknhabeiaaaGreat
open Go Go.TV Go.Lp
theorem Qb {M:Nat}(E:1<=M):∀ {k m:Nat},m<=k->fact M m<=fact M k
 |0,m,h=>by have:m=0:=by omega
            subst this;exact zq _
 |k+1,m,h=>by
  by_cases e:m=k+1
  .subst e;exact zq _
  .refine zL (Qb E (k:=k) (m:=m) (by omega)) ?_
   show fact M k<=(k+1)*(M*fact M k);have G:1*fact M k<=M*fact M k:=zG _ E;have J:1*(M*fact M k)<=(k+1)*(M*fact M k):=zG _ (by omega);omega
def BM:Nat:=13*(1000*fact 1000 12)+fact 1000 12
theorem alE:ln BM<=6:=cu.mpr (by decide+kernel)
theorem Xn {K m:Nat}(E:K<=1000)(hm:m<=12):(m+1)*(K*fact 1000 m)+fact 1000 m<=BM:=by
 have G:=Qb (M:=1000) (by decide) hm;have J:K*fact 1000 m<=1000*fact 1000 12:=yF E G;have O:(m+1)*(K*fact 1000 m)<=13*(1000*fact 1000 12):=yF (by omega) J;unfold BM;omega
theorem NP {M:Nat} {q:Rat}(h:q.num.natAbs<=M/\q.den<=M)(E:M<=BM):Ln 6 q :=
 ⟨zL (fQ (zL h.1 E)) alE,zL (fQ (zL h.2 E)) alE⟩
theorem Tj {k:Nat} {q:Rat}(h:Ln k q):Ln k (-q):=⟨by rw[Rat.neg_num,wG];exact h.1,by rw[Rat.neg_den];exact h.2⟩
theorem akS:Ln 6 0:=Ln.mono (mO (z:=0) (by decide)) (by decide)
structure PrS (A b c:List Int) (m n:Nat):Prop where
 hA:A.length=m*n
 hb:b.length=m
 hc:c.length=n
 hm:m<=12
 hn:n<=16
 bA:∀x∈A,-1000<=x/\x<=1000
 bb:∀x∈b,-1000<=x/\x<=1000
 bc:∀x∈c,-1000<=x/\x<=1000
theorem uf {A b c:List Int} {m n:Nat}(h:PrS A b c m n):Whole (dR A b c m n) 1000 :=
 ⟨by decide,fun j k _ _=>⟨_,rfl,PI (n_ h.bA _)⟩,fun k _=>⟨_,rfl,PI (n_ h.bb _)⟩⟩
section
variable {A b c:List Int} {m n n':Nat} {C:Nat->Rat} {T:Tab} {D:TQ} {ι:List Nat}
theorem aoU(hp:PrS A b c m n)(E:(dR A b c m n).Good T) {i j:Nat}(hi:i<m)(G:j<n+m):Ln 6 (T.e i j) :=
 NP (ajI E (uf hp) hi G) (by have:=Xn (K:=0) (m:=m) (by decide) hp.hm;show fact 1000 m<=BM;omega)
theorem ahy(hp:PrS A b c m n)(E:(dR A b c m n).Good T) {i:Nat}(hi:i<m):Ln 6 (T.b i) :=
 NP (adb E (uf hp) hi) (by have:=Xn (K:=0) (m:=m) (by decide) hp.hm;show fact 1000 m<=BM;omega)
theorem Z_(hp:PrS A b c m n)(h:Vq (dR A b c m n) n' C T D ι)(E:(dR A b c m n).Good T)(hC:∀j,ZB 1000 (C j)):ShF D n'/\D.B.Nodup:=by
 have hm:=hp.hm;have hn:=hp.hn;have hle:n'<=n+m:=h.le;have hl:D.R.length<=m:=by
  rw[<- h.len];have h2:ι ⊆ List.range m:=fun r hr=>List.mem_range.mpr (h.lt r hr)
  have h3:=h.nd.length_le_of_subset h2
  rwa [List.length_range]at h3
 refine⟨⟨h.row,h.fV,h.BN,by omega,by omega,fun x hx q J=>?_,fun q J=>?_,fun q J=>?_⟩,?_⟩
 .obtain⟨i,hi,rfl⟩:=yV hx
  obtain⟨j,O,rfl⟩:=yV J;have a1:=h.row _ (zu hi);have e:(D.R[i])[j]=iM D.R i j:=by
   have:=F7 (R:=D.R) (i:=i) (j:=j) (by rw[iW hi];exact O);rw[<- this];simp only[iW hi]
  rw[e]
  by_cases G:j<n'
  .rw[h.ent i j hi G];exact aoU hp E (h.io hi) (by omega)
  .have:j=n':=by omega
   subst this;rw[h.rhs i hi];exact ahy hp E (h.io hi)
 .obtain⟨j,O,rfl⟩:=yV J
  have a2:=h.BN;rw[<- getD_at O 0]
  by_cases G:j<n'
  .rw[h.cost j G]
   exact NP (amN E (uf hp) hC (show j<n+m by omega)) (Xn (zq _) hm)
  .have:j=n':=by omega
   subst this;rw[h.val];exact Tj (NP (amO E (uf hp) hC) (Xn (zq _) hm))
 .obtain⟨i,hi,rfl⟩:=yV J
  have S:=h.fV;rw[<- getD_at hi 0,h.gU i (by omega)];have:T.B (ι.getD i 0)<n+m:=E.ok.bn _ (h.io (by omega));omega
 .rw[List.nodup_iff_pairwise_ne,List.pairwise_iff_getElem]
  intro i j hi O a3 e;have S:=h.fV;rw[<- getD_at hi 0,<- getD_at O 0,h.gU i (by omega),h.gU j (by omega)]at e;have Y:=E.ok.un _ _ (h.io (i:=i) (by omega)) (h.io (i:=j) (by omega));have u2:=E.ok.un _ _ (h.io (i:=i) (by omega)) (h.io (i:=i) (by omega));rw[if_pos rfl]at u2;rw[<- e,u2]at Y;have:ι.getD i 0=ι.getD j 0:=by
   refine zf fun a0=>?_
   rw[if_neg a0]at Y;exact absurd Y (by decide)
  have:=getD_inj h.nd (by rw[h.len];omega) (by rw[h.len];omega) this;omega
theorem alF(j:Nat):ZB 1000 ((dR A b c m n).c1 j):=by
 unfold Prog.c1
 split
 .exact⟨0,rfl,by decide⟩
 .exact⟨-1,rfl,by decide⟩
theorem au7(hp:PrS A b c m n)(j:Nat):ZB 1000 ((dR A b c m n).C 0 j):=by
 unfold Prog.C;rw[if_pos rfl]
 split
 .exact⟨c.getD j 0,rfl,by have:=n_ hp.bc j;omega⟩
 .exact⟨0,rfl,by decide⟩
theorem NQ:∀ {R:List (List Rat)} {B:List Nat} (q:Nat),Units R B->Units (R.take q) (B.take q)
 |[],_,q,_=>by simp[Units]
 |_ :: _,[],q,_=>by cases q<;>simp[Units]
 |x :: R,b :: B,0,_=>by simp[Units]
 |x :: R,b :: B,q+1,h=>⟨fun b' E=>h.1 b' (wV E),NQ (R:=R) (B:=B) q h.2⟩
theorem abn {c:List Rat} {j F:Nat} {Δ:Rat}(hc:∀i,ZB 1000 (c.getD i 0)):∀ {R:List (List Rat)} {B:List Nat},(∀x∈R,ZB F (x.getD j 0*Δ))->ZB (R.length*(1000*F)) (zI c j R B*Δ)
 |[],_,_=>by
  have e:zI c j [] ‹List Nat›=0:=by unfold zI;rfl
  rw[e];exact⟨0,by grind,Nat.zero_le _⟩
 |x :: R,[],_=>by
  have e:zI c j (x :: R) []=0:=by unfold zI;rfl
  rw[e];exact⟨0,by grind,Nat.zero_le _⟩
 |x :: R,b :: B,h=>by
  have e:zI c j (x :: R) (b :: B)*Δ=c.getD b 0*(x.getD j 0*Δ)+zI c j R B*Δ:=by
   show(c.getD b 0*x.getD j 0+zI c j R B)*Δ=_;grind
  rw[e];have E:=(hc b).mul (h x zN);have G:=abn hc (R:=R) (B:=B) fun y J=>h y (zY _ J)
  exact(E.add G).mono (by rw[zD,yA R.length (1000*F)];exact Nat.le_of_eq (wU _ _))
theorem Tm(c:List Int)(i:Nat):(ED c).getD i 0=((c.getD i 0:Int):Rat):=by
 unfold ED qs;rw[zx,zx]
 by_cases h:i<c.length
 .rw[zV (by simpa using h),yX,zy h];rfl
 .rw[zQ (by simp;omega),yc (l:=c) (by omega)]
  by_cases E:i=c.length
  .subst E;simp
  .rw[yc (by simp;omega)];rfl
theorem abo(hc:c.length=n):(ED c).length=n+1:=by unfold ED;rw[zo,oD];simp;omega
theorem alG(hp:PrS A b c m n)(h:Vq (dR A b c m n) (n+m) (dR A b c m n).c1 T D ι)(G:(dR A b c m n).Good T)(J:∀r,r<m->r∈ι)(O:Zero (dR A b c m n) T)(E:∀i,i<D.R.length->qQ n D i) :
  Vq (dR A b c m n) n ((dR A b c m n).C 0) T (D2q n D c) (jH n ι D.B) :=
 VP (p:=dR A b c m n) h G J O E (abo hp.hc) (fun j S=>Tm c j) (by
  show(ED c).getD n 0=0;rw[Tm,zx,yc (by have:=hp.hc;omega)];rfl)
theorem adS(hp:PrS A b c m n)(h:Vq (dR A b c m n) (n+m) (dR A b c m n).c1 T D ι)(E:(dR A b c m n).Good T)(Oh:∀r,r<m->r∈ι)(hz:Zero (dR A b c m n) T)(Y:∀i,i<D.R.length->qQ n D i) :
  ∀q,q<=(pick n D.R D.B).1.length->∀u∈clears (ED c) ((pick n D.R D.B).1.take q) ((pick n D.R D.B).2.take q),Ln 6 u:=fun q S u hu=>by
 have V:=alG hp h E Oh hz Y;have a4:=abo hp.hc;have G:=HY (n:=n) (R:=D.R) (B:=D.B);have J:=Hz (n:=n) (R:=D.R) (B:=D.B);have hw:=uf hp;have a5:(pick n D.R D.B).1.length<=m:=by
  have h1:(jH n ι D.B).length=(pick n D.R D.B).1.length:=V.len;rw[<- h1];have h2:jH n ι D.B ⊆ List.range m:=fun r hr=>List.mem_range.mpr (V.lt r hr)
  have h3:=V.nd.length_le_of_subset h2
  rwa [List.length_range]at h3
 obtain⟨P,eP⟩:∃P,P=pick n D.R D.B:=⟨_,rfl⟩;unfold D2q at V;rw[<- eP]at V G J S hu a5;have a0:∀i,i<P.1.length->P.2.getD i 0<n:=fun i hi=>by rw[getD_at (by omega)];exact G.2 _ (zu _)
 have a6:Units P.1 P.2:=by
  have:=VO (R:=P.1) (k:=0) (B:=P.2) (by rw[yZ];exact J) fun i q hi S b3 _=>by
   rw[Nat.sub_zero,V.ent i _ hi (a0 q S),show P.2.getD q 0=T.B ((jH n ι D.B).getD q 0)from V.gU q S,E.ok.un _ _ (V.io hi) (V.io S)];rw[if_neg fun e=>by have:=getD_inj V.nd (by rw[V.len];exact hi) (by rw[V.len];exact S) e;omega]
  rwa [yZ]at this
 obtain⟨k1,k2⟩:=IY (n:=n+1) (R:=P.1.take q) (B:=P.2.take q) a4 (fun x hx=>V.row x (wV hx)) (fun d hd=>by have:=G.2 d (wV hd);omega) (NQ q a6) (by rw[zh,zh,J]);obtain⟨j,hj,rfl⟩:=yV hu;rw[<- getD_at hj 0,k2 j (by omega)];obtain⟨Δ,O⟩:∃Δ,Δ=Lp.jF m fun q=>(dR A b c m n).A (T.B q):=⟨_,rfl⟩
 obtain⟨F,eF⟩:∃F,F=fact 1000 m:=⟨_,rfl⟩;have a1:ZB F Δ:=by rw[O,eF];exact E.ed.vG E.ok.bn hw.A
 have a7:Δ≠0:=by rw[O];exact E.ed.ind
 have a2:∀i,ZB 1000 ((ED c).getD i 0):=fun i=>⟨c.getD i 0,Tm c i,by have:=n_ hp.bc i;omega⟩
 have a8:=abn (j:=j) (F:=F) (Δ:=Δ) a2 (R:=P.1.take q) (B:=P.2.take q) fun x hx=>by
  obtain⟨i,hi,rfl⟩:=yV (wV hx);have e:P.1[i].getD j 0=iM P.1 i j:=by show _=(pW P.1 i).getD j 0;rw[iW hi]
  rw[e,O,eF]
  by_cases a9:j<n
  .rw[show iM P.1 i j=T.e ((jH n ι D.B).getD i 0) j from V.ent i j hi a9]
   exact E.ed.LX E.ok.bn hw.A (V.io hi) (show j<n+m by omega)
  .have:j=n:=by omega
   subst this;rw[show iM P.1 i j=T.b ((jH j ι D.B).getD i 0)from V.rhs i hi];exact E.ed.Dk E.ok.bn hw.A hw.w (V.io hi)
 have a3:ZB ((m+1)*(1000*F)+F) (((ED c).getD j 0-zI (ED c) j (P.1.take q) (P.2.take q))*Δ):=by
  have e:((ED c).getD j 0-zI (ED c) j (P.1.take q) (P.2.take q))*Δ=(ED c).getD j 0*Δ+ -(zI (ED c) j (P.1.take q) (P.2.take q)*Δ):=by grind
  rw[e];refine(((a2 j).mul a1).add a8.neg).mono ?_;have:(P.1.take q).length*(1000*F)<=m*(1000*F):=zG _ (by rw[zh];omega);rw[yA m (1000*F)];exact zL (Nat.add_le_add_left this _) (by rw[wU];exact Nat.le_add_right _ _)
 have b2:ZB ((m+1)*(1000*F)+F) Δ:=a1.mono (by omega);exact NP (GU b2 a7 a3) (by rw[eF];exact Xn (zq _) hp.hm)
end
theorem Tn(f:Nat->Int):∀k,sm (fun i=>((f i:Int):Rat)) k=((Aq f k:Int):Rat)
 |0=>rfl
 |k+1=>by
  show sm (fun i=>((f i:Int):Rat)) k+((f k:Int):Rat)=((Aq f k+f k:Int):Rat);rw[Tn f k,Rat.intCast_add]
section
variable {A b c:List Int} {m n:Nat}
theorem ahz {i j:Nat}(hi:i<m)(E:j<n+m+1):iM (Dq A b m n m).R i j=((cell0 A b m n i j:Int):Rat):=by
 have G:(Dq A b m n m).R.length=m:=by unfold Dq qB;simp
 have e:pW (Dq A b m n m).R i=qs (row0 A b m n i):=by
  rw[iW (by omega)];simp[Dq,qB]
 show(pW (Dq A b m n m).R i).getD j 0=_;rw[e,getD_at (by rw[oD,jI];omega),NK (by rw[jI];omega),Af _ _ _ _ _ (by omega)]
theorem au9 {i j:Nat}(hi:i<m)(J:j<n+m):(dR A b c m n).T0.e i j=((cell0 A b m n i j:Int):Rat):=by
 show(dR A b c m n).A j i=_;unfold cell0 Prog.A;show(if j<n then _ else if i+n=j then 1 else 0)=_
 by_cases E:j<n
 .rw[if_pos E,if_pos E];rfl
 .rw[if_neg E,if_neg E,if_pos J]
  by_cases G:j=n+i
  .rw[if_pos G,if_pos (by omega)];rfl
  .rw[if_neg G,if_neg (by omega)];rfl
theorem au_ {i:Nat}:(dR A b c m n).T0.b i=((cell0 A b m n i (n+m):Int):Rat):=by
 show((sg b i*b.getD i 0:Int):Rat)=_;unfold cell0;rw[if_neg (by omega),if_neg (by omega)]
theorem Qc {k:Nat}:∀ {m:Nat},Aq (fun i=>if k=i then 1 else 0) m=if k<m then 1 else 0
 |0=>rfl
 |m+1=>by
  show Aq _ m+(if k=m then 1 else 0)=_;rw[Qc]
  by_cases h:k<m
  .rw[if_pos h,if_neg (by omega),if_pos (by omega)];rfl
  .by_cases E:k=m
   .rw[if_neg h,if_pos E,if_pos (by omega)];rfl
   .rw[if_neg h,if_neg E,if_neg (by omega)];rfl
theorem NR {f g:Nat->Int}:∀ {m:Nat},(∀i,i<m->f i=g i)->Aq f m=Aq g m
 |0,_=>rfl
 |m+1,h=>by
  show Aq f m+f m=Aq g m+g m;rw[NR fun i hi=>h i (by omega),h m (by omega)]
theorem aac:Vq (dR A b c m n) (n+m) (dR A b c m n).c1 (dR A b c m n).T0 (Dq A b m n m) (List.range m):=by
 have J:(Dq A b m n m).R.length=m:=by unfold Dq qB;simp
 have O:∀i,i<m->(dR A b c m n).c1 ((dR A b c m n).T0.B i)= -1:=fun i hi=>by
  show(if i+n<n then(0:Rat)else -1)= -1;rw[if_neg (by omega)]
 have S:∀j,j<n+m+1->(Dq A b m n m).c.getD j 0=((if j<n\/j=n+m then Aq (fun i=>cell0 A b m n i j) m else 0:Int):Rat):=fun j G=>by
  show(qs (t_ A b m n m)).getD j 0=_;rw[getD_at (by rw[oD,jK];omega),NK (by rw[jK];omega),Hy _ _ _ _ _ G]
 refine⟨by rw[J];simp,by rw[J];simp[Dq],by show(qs (t_ A b m n m)).length=_;rw[oD,jK],fun x hx=>?_,fun r Y=>List.mem_range.mp Y,List.nodup_range,zq _,fun i j hi G=>?_,fun i hi=>?_,fun i hi=>?_,fun j G=>?_,?_,fun r Y hn=>absurd (List.mem_range.mpr Y) hn⟩
 .obtain⟨y,hy,rfl⟩:=List.mem_map.mp hx
  obtain⟨i,-,rfl⟩:=List.mem_map.mp hy;rw[oD,jI]
 .rw[J]at hi
  rw[mM hi,ahz hi (by omega),au9 hi G]
 .rw[J]at hi
  rw[mM hi,ahz hi (by omega),au_]
 .rw[J]at hi
  rw[mM hi];show((List.range m).map fun i=>n+i).getD i 0=i+n;rw[zx,yX,List.getElem?_range hi];show n+i=i+n;omega
 .rw[S j (by omega)]
  have e:gm (dR A b c m n).m (dR A b c m n).T0 (dR A b c m n).c1 j=(dR A b c m n).c1 j+((Aq (fun i=>cell0 A b m n i j) m:Int):Rat):=by
   rw[<- Tn];have E:sm (fun i=>(dR A b c m n).T0.e i j*(dR A b c m n).c1 ((dR A b c m n).T0.B i)) m= -1*sm (fun i=>((cell0 A b m n i j:Int):Rat)) m:=by
    rw[<- iR];exact bG fun i hi=>by rw[au9 hi G,O i hi];grind
   show(dR A b c m n).c1 j-sm (fun i=>(dR A b c m n).T0.e i j*(dR A b c m n).c1 ((dR A b c m n).T0.B i)) m=_;rw[E];grind
  rw[e]
  by_cases E:j<n
  .rw[if_pos (.inl E)]
   show _=(if j<n then(0:Rat)else -1)+_;rw[if_pos E];grind
  .rw[if_neg (by omega)]
   show _=(if j<n then(0:Rat)else -1)+_;rw[if_neg E,NR (g:=fun i=>if j-n=i then 1 else 0) fun i hi=>by
    unfold cell0;rw[if_neg E,if_pos G]
    by_cases h2:j=n+i
    .rw[if_pos h2,if_pos (by omega)]
    .rw[if_neg h2,if_neg (by omega)],Qc,if_pos (by omega)]
   decide+kernel
 .rw[S (n+m) (by omega),if_pos (.inr rfl),<- Tn]
  have E:sm (fun i=>(dR A b c m n).T0.b i*(dR A b c m n).c1 ((dR A b c m n).T0.B i)) m= -1*sm (fun i=>((cell0 A b m n i (n+m):Int):Rat)) m:=by
   rw[<- iR];exact bG fun i hi=>by rw[au_,O i hi];grind
  show _= -sm (fun i=>(dR A b c m n).T0.b i*(dR A b c m n).c1 ((dR A b c m n).T0.B i)) m;rw[E];grind
end
attribute [-go_sem] bK
def ava(p:Prog)(r:V):Prop:=(r= .agg [I 2,.ts [] 0,Bo false,.ts [] 0,.ts [] 0]/\p.None)\/(r= .agg [I 3,.ts [] 0,Bo false,.ts [] 0,.ts [] 0]/\p.Open) \/
 ∃x:Nat->Rat,p.Best x/\(∀j,j<p.n->Ln 6 (x j))/\Ln 6 (ob p.n p.c x)/\r= .agg (I 0 :: LL cQ ((List.range p.n).map x) :: cQ (ob p.n p.c x))/\∃T,p.Good T/\x=gU p.m T
section
variable {A b c:List Int} {m n:Nat}
def Q1(A b c:List Int)(m n:Nat)(D:TQ):Prop:=∃T,Vq (dR A b c m n) (n+m) (dR A b c m n).c1 T D (List.range m)/\(dR A b c m n).Good T
def Q2(A b c:List Int)(m n:Nat)(D:TQ):Prop:=∃T,Vq (dR A b c m n) (n+m) (dR A b c m n).c1 T D (List.range m)/\(dR A b c m n).Good T/\Zero (dR A b c m n) T
def Q3(A b c:List Int)(m n:Nat)(ι:List Nat)(D:TQ):Prop:=∃T,Vq (dR A b c m n) n ((dR A b c m n).C 0) T D ι/\(dR A b c m n).Good T/\(dR A b c m n).Out T/\∀x∈D.B,x<n
theorem akU {D E:TQ}(h:Q1 A b c m n D)(hs:Me (n+m) 1 D E):Q1 A b c m n E:=by
 obtain⟨T,G,J⟩:=h;obtain⟨T',O,S⟩:=G.step (C:=fun _=>(dR A b c m n).c1) (MC (p:=dR A b c m n) (n':=n+m)) hs;exact⟨T',S,J.step O⟩
theorem akV {ι:List Nat} {D O:TQ}(h:Q3 A b c m n ι D)(hs:Me n (n+1) D O):Q3 A b c m n ι O:=by
 obtain⟨T,h1,h2,S,h4⟩:=h;obtain⟨T',Y,k2⟩:=h1.step (C:=(dR A b c m n).C) (MG (p:=dR A b c m n)) hs;refine⟨T',k2,h2.step Y,?_,fun x J=>?_⟩
 case refine_2=>
  obtain⟨s,r,G,-,rfl⟩:=hs;rcases List.mem_or_eq_of_mem_set J with J|rfl
  .exact h4 x J
  .exact G.lt
 obtain⟨s,r,G,g2,rfl⟩:=Y
 by_cases hB:T.B r<n
 .exact S.piv hB G.fr
 .have:=(S.z r g2.lt (by show n<=T.B r;omega)).2 s G.fr
  have:=g2.pos;grind
theorem aoV {D:TQ}(h:Q2 A b c m n D)(E:∀i,i<D.R.length->qQ n D i):∃T,Vq (dR A b c m n) (n+m) (dR A b c m n).c1 T D (List.range m)/\(dR A b c m n).Good T/\Zero (dR A b c m n) T/\(dR A b c m n).Out T:=by
 obtain⟨T,G,h2,O⟩:=h;refine⟨T,G,h2,O,⟨fun i hi S=>⟨O i hi S,fun j Y=>?_⟩⟩⟩;have hl:D.R.length=m:=by rw[<- G.len];simp
 have J:i<m:=hi;have e1:=G.ent i j (by omega) (by have:j<n:=Y;omega);have e2:=G.gU i (by omega);rw[mM J]at e1 e2;rw[<- e1];exact E i (by omega) (by rw[e2];exact S) j Y
theorem abp {C:Nat->Nat->Rat} {p:Prog} {n':Nat} {T:Tab} {D:TQ} {ι:List Nat}(h:Vq p n' (C 0) T D ι) {j:Nat}(E:j<n')(hn:j∉D.B):gU p.m T j=0:=by
 unfold gU;refine ji fun i hi=>?_
 rw[if_neg fun e=>hn ((h.mem E).mpr ⟨i,hi,e⟩)]
theorem aad(a b c d e:V)(v:Rat):patch [a,b,c,d,e] 2 (cQ v)=a :: b :: cQ v:=rfl
theorem aae(a b c d e x y:V)(v:Rat):patch [a,b,c,d,e] 0 (x :: y :: cQ v)=x :: y :: cQ v:=rfl
theorem akW(a b:V)(v:Rat):(a :: b :: cQ v).length=5:=rfl
theorem akX(a b:V)(v:Rat):(a :: b :: cQ v).all aT=(aT a && (aT b && true)):=rfl
theorem akY(x:Value):aT (.sc x)=true:=rfl
theorem ahA:aT .nil=true:=rfl
theorem akZ(b o l:Nat):aT (.rs b o l)=true:=rfl
theorem ahB(a b:V)(v:Rat):(a :: b :: cQ v)[1]?=some b:=rfl
theorem ahC(a b w:V)(v:Rat):(a :: b :: cQ v).set 1 w=a :: w :: cQ v:=rfl
theorem ahD(a b:V)(v:Rat):(a :: b :: cQ v).take 5=a :: b :: cQ v:=rfl
attribute [go_sem] aad aae akW akX akY ahA akZ ahB ahC ahD
theorem aoW(hp:PrS A b c m n):∃r,fn Tryz.prog aU bU 119 [.agg (jL m n A b c)]=some r/\ava (dR A b c m n) r:=by
 have hm:=hp.hm;have hn:=hp.hn;have hc:=hp.hc;have b6:∀x,(-1000<=x/\x<=1000)->(-1000000<=x/\x<=1000000):=fun x h=>by omega
 obtain⟨N,hN⟩:∃N,N=n+m:=⟨_,rfl⟩;obtain⟨s1,b2⟩:∃s1,s1=upd (upd aK 0 (some ⟨jL m n A b c,0,true⟩)) 1 (some ⟨[I 0,.nil,Bo false,.nil,.nil],0,true⟩):=⟨_,rfl⟩;have b3:s1 0=some ⟨jL m n A b c,0,true⟩:=by rw[b2,upd_ne _ _ (by decide),upd_same]
 have e6:s1 1=some ⟨[I 0,.nil,Bo false,.nil,.nil],0,true⟩:=by rw[b2,upd_same]
 obtain⟨σ2,jo,bt,k1,bc,vr,vb,rb,h6,S,Ae⟩:=aoN (c:=c) hp.hA hp.hb (by omega) (by omega) hp.bA hp.bb s1 2;have h7:Q1 A b c m n (Dq A b m n m):=⟨_,aac,tH⟩;have e7:∀D,Q1 A b c m n D->ShF D (n+m)/\D.B.Nodup:=fun D h=>by
  obtain⟨T,h1,h2⟩:=h;exact Z_ hp h1 h2 alF
 have h8:VN (n+m) 1 (2^(n+m)) (Dq A b m n m):=Vq.Zm (C:=fun _=>(dR A b c m n).c1) MC aac (aaJ tH.ok);obtain⟨h9,dI,m6,D3,k2,i0,i1,MR,m7,uV⟩:=asE (Q1 A b c m n) false (d:=1) rfl e7 (fun D D' h hs=>akU h hs) h7 h8 h6 (fun b hb=>(S b hb).2);obtain⟨T3,v3,g3,z3,i2⟩:=Zo (p:=dR A b c m n) i0 aac tH fun r hr=>List.mem_range.mpr hr
 have e9:=(e7 D3 i1).1;have f0:=e9.BN;have JZ:=MR.t;have d4:=MR.c;rw[<- hN]at JZ f0;have l1:bt<dI:=by have:=S bt (by simp);omega
 have l2:bc<dI:=by have:=S bc (by simp);omega
 have a1:=aI N;have a2:(N:Int)<((N+1:Nat):Int):=by omega
 have a3:=slot (c:=cQ) (s:=3) bD D3.c N (by omega);rw[<- getD_at (by omega) 0]at a3;have a4:=aN (c:=cQ) (s:=3) bD D3.c;rw[f0]at a4;have a5:N*3+3<=(N+1)*3:=by omega
 have i3:Ln 6 (D3.c.getD N 0):=by rw[getD_at (by omega)];exact e9.akL _ (zu _)
 have k3:=F6 (D3.c.getD N 0) (i3.mono (by decide));have b5:=Z4 (D3.c.getD N 0);have d5:∀x,x<2->h9 x=s1 x:=fun x hx=>by
  rw[uV x (by have:=S bt (by simp);omega) fun hm=>by have:=S x (by simp only[zX,wS]at hm⊢;rcases hm with h|h|h<;>simp[h]);omega];exact Ae x hx
 have d6:=(d5 0 (by decide)).trans b3;have i4:=(d5 1 (by decide)).trans e6;unfold jL at b2 b3 d6 k1⊢;rw[aH,ak [.cell 2 149] [8,12,16] Tryz.func119]
 by_cases hz:D3.c.getD N 0=0
 .rw[vw hz,Bool.not_true]at b5
  have i5:Q2 A b c m n D3:=⟨T3,v3,g3,z3 (by rw[show(dR A b c m n).N=N from hN.symm];exact hz)⟩;have d0:∀r,r<m->r∈List.range m:=fun r hr=>List.mem_range.mpr hr
  obtain⟨kP,uP,Y,f1,i6,d7,c7,D4,k4,i7,f2,i9,Tq,j0⟩:=akO (nx:=dI) (A:=A) (b:=b) (m:=m) (N:=N) (Q2 A b c m n) hc hN (by omega) hp.bc (fun D h=>by
   obtain⟨T,h1,h2,h3⟩:=h;rw[hN];exact(Z_ hp h1 h2 alF).1) (fun D i k h hi hB hk j1=>by
   obtain⟨T,h1,h2,h3⟩:=h;exact⟨_,Zp (p:=dR A b c m n) h1 h2 h3 hi hB hk j1⟩) (fun D h f3=>by
   obtain⟨T,h1,h2,h3⟩:=h;exact adS hp h1 h2 d0 h3 f3) i5 (by rw[hN];exact MR) (fun x hx=>by have:=S x hx;omega)
  obtain⟨T4,v4,g4,z4,o4⟩:=aoV i7 f2;have V4:=alG hp v4 g4 d0 z4 f2;have f4:∀D,Q3 A b c m n (jH n (List.range m) D4.B) D->ShF D n/\D.B.Nodup:=fun D h=>by
   obtain⟨T,h1,h2,h3,h4⟩:=h;exact Z_ hp h1 h2 (au7 hp)
  obtain⟨jY,G,j2,J,k5,j3,f5,BP,m8,Z9⟩:=asE (Q3 A b c m n (jH n (List.range m) D4.B)) true (d:=n+1) rfl f4 (fun D D' h hs=>akV h hs) ⟨T4,V4,g4,o4,HY.2⟩ (Vq.Zm (C:=(dR A b c m n).C) MG V4 (aaJ g4.ok)) i9 (fun b hb=>(Tq b hb).2);obtain⟨T5,V5,g5,o5,j4,j5⟩:=Zq (p:=dR A b c m n) j3 V4 g4 o4;unfold jL at k4;have m9:=(S bt (by simp)).1;have n0:=(S bt (by simp)).2;have f6:∀x,x<2->jY x=s1 x:=fun x hx=>by
   rw[Z9 x (by have:=Tq Y (by simp);omega) fun hm=>by have:=Tq x (by simp only[zX,wS]at hm⊢;rcases hm with h|h|h<;>simp[h]);omega];rw[j0 x (by omega) fun hm=>by have:=S x (by simp only[zX,wS]at hm⊢;rcases hm with h|h|h<;>simp[h]);omega];rw[d5 x hx]
  have f7:=(f6 0 (by decide)).trans b3;have f8:=(f6 1 (by decide)).trans e6;cases j2 with
  |false=>
   refine⟨_,by simp only[go_sem,bM,<- b2,b3,k1,k2,JZ,d4,a1,a2,a3,a4,a5,k3,b5,l1,l2,d6,k4,k5,f8],.inr (.inl ⟨rfl,j5 rfl⟩)⟩
  |true=>
   obtain⟨a7,n1⟩:=f4 J f5;have d8:=BP.t;have j6:=BP.c;have j7:=a7.BN;have d1:Y<G:=by have:=Tq Y (by simp);omega
   have d2:f1<G:=by have:=Tq f1 (by simp);omega
   have c1:=aI n;have c2:(n:Int)<((n+1:Nat):Int):=by omega
   have c3:=slot (c:=cQ) (s:=3) bD J.c n (by omega);rw[<- getD_at (by omega) 0]at c3;have c4:=aN (c:=cQ) (s:=3) bD J.c;rw[j7]at c4;have c5:n*3+3<=(n+1)*3:=by omega
   have d9:Ln 6 (J.c.getD n 0):=by rw[getD_at (by omega)];exact a7.akL _ (zu _)
   have d3:G<G+1:=by omega
   have k6:=afz (J.c.getD n 0) (by have:=d9.1;omega) (by have:=d9.2;omega);have f9:-J.c.getD n 0=ob n (dR A b c m n).c (gU m T5):=amR (p:=dR A b c m n) V5 g5;have e0:=Tj d9;rw[f9]at k6 e0;generalize J.c.getD n 0=q at c3 k6;generalize hv:ob n (dR A b c m n).c (gU m T5)=v at k6 e0;simp only[go_sem,bM,<- b2,b3,k1,k2,JZ,d4,a1,a2,a3,a4,a5,k3,b5,l1,l2,d6,k4,k5,d8,j6,c1,c2,c3,c4,c5,d1,d2,d3,k6];have k0:fn Tryz.prog conv ext 144 [I 0]=some (.agg (cQ 0)):=mZ 0 (by decide) (by decide)
   have j8:1<G:=by have:=Tq Y (by simp);omega
   generalize hL:aF _ _=y;obtain⟨x,rfl,T6,kU,O,rfl,t2,t4,t5,Ia,P_,a9⟩:=aB hL n (fun j st=>st.T 1= .rp 0 0/\st.T 2= .rp 1 0/\st.T 4= .rp Y 0/\st.T 5= .rp G 0/\st.T 6=I j/\G<st.nx/\(∀y,y<G->st.σ y=jY y)/\((j=0/\st.σ G=some ⟨I 0 :: .nil :: cQ v,0,true⟩)\/∃E,0<j/\G<E/\E<st.nx/\st.σ G=some ⟨I 0 :: .rs E 0 j :: cQ v,0,true⟩/\st.σ E=some ⟨(List.replicate j (0:Rat)).flatMap cQ,3,true⟩))
    (fun x=>∃T kU O,x=(.exit 0,⟨T,kU,O⟩)/\T 2= .rp 1 0/\T 4= .rp Y 0/\T 5= .rp G 0/\G<O/\(∀y,y<G->kU y=jY y)/\((n=0/\kU G=some ⟨I 0 :: .nil :: cQ v,0,true⟩)\/∃E,0<n/\G<E/\E<O/\kU G=some ⟨I 0 :: .rs E 0 n :: cQ v,0,true⟩/\kU E=some ⟨(List.replicate n (0:Rat)).flatMap cQ,3,true⟩)) (by
     clear hL;rintro j ⟨T,kU,O⟩ hj ⟨t1,t2,t4,t5,t6,Ia,P_,a9⟩;simp only at t1 t2 t4 t5 t6 Ia P_ a9;have g1:(j:Int)<(n:Int):=by omega
     have g3:=ah (n:=(j:Int)+1);have c8:kU 0=_:=(P_ 0 (by omega)).trans f7;have y1:G<O:=by omega
     have y2:¬G=O:=by omega
     have y3:(G==O)=false:=by rw[w_];omega
     have y4:(O==G)=false:=by rw[w_];omega
     have y5:G<O+1:=by omega
     have y6:¬G=O+1:=by omega
     have y7:(G==O+1)=false:=by rw[w_];omega
     have y8:(O+1==G)=false:=by rw[w_];omega
     have y9:G<O+1+1:=by omega
     have Xh:¬G=O+1+1:=by omega
     have Xi:(G==O+1+1)=false:=by rw[w_];omega
     have Xj:(O+1+1==G)=false:=by rw[w_];omega
     have g0:O<O+1:=by omega
     have Xk:O+1<O+1+1:=by omega
     rcases a9 with ⟨h0,st⟩|⟨E,n2,c1,c2,st,sx⟩
     .refine .inl ⟨_,by simp only[go_sem,t1,t2,t4,t5,t6,c8,st,g1,g3,k0,y1,y2,y3,y4,y5,y6,y7,y8,y9,Xh,Xi,Xj,g0,Xk];rfl,?_⟩
      simp only[go_sem,t1,t2,t4,t5];refine⟨rfl,by omega,fun x hx=>?_,.inr ⟨O+1,by omega,by omega,by omega,by rw[h0],?_⟩⟩
      .rw[ay,ay,ay];exact P_ x hx
      .rw[ay,upd_same,h0];rfl
     .have g9:=Aj (σ:=restrict (upd kU O (some ⟨cQ 0,3,true⟩)) [E,O]) (nx:=O+1) (size:=3) (bytes:=56) (b:=E) (len:=j) (m:=1) (row:=cQ 0) (by rw[fF,ay];exact sx) (by rw[aN bD,z_]) (by decide) (by decide) (by unfold maxLen;omega) (by omega) rfl
      have x1:E<O+1:=by omega
      have x2:(G==E)=false:=by rw[w_];omega
      have x3:(E==G)=false:=by rw[w_];omega
      have x4:¬G=E:=by omega
      refine .inl ⟨_,by simp only[go_sem,t1,t2,t4,t5,t6,c8,st,g1,g3,k0,g9,x1,x2,x3,x4,y1,y2,y3,y4,y5,y6,y7,y8,y9,Xh,Xi,Xj,g0,Xk];rfl,?_⟩;simp only[go_sem,t1,t2,t4,t5];refine⟨rfl,by omega,fun x hx=>?_,.inr ⟨O+1,by omega,by omega,by omega,rfl,?_⟩⟩
      .rw[ay,ay,ay,ay];exact P_ x hx
      .rw[ay,upd_same,List.replicate_succ',zT];simp) (by
     clear hL;rintro ⟨T,kU,O⟩ ⟨t1,t2,t4,t5,t6,Ia,P_,a9⟩;simp only at t1 t2 t4 t5 t6 Ia P_ a9;have c8:kU 0=_:=(P_ 0 (by omega)).trans f7;refine⟨_,by simp only[go_sem,t1,t6,c8,zl];rfl,by simp,_,_,_,rfl,?_⟩;simp only[go_sem,t2,t4,t5];exact⟨Ia,P_,a9⟩) (by
     simp only[go_sem];exact⟨by omega,fun y hy=>by rw[ay],.inl trivial⟩)
   clear hL;have j9:∀x∈J.B,x<n:=f5.choose_spec.2.2.2;obtain⟨K,eK⟩:∃K,K=J.R.length:=⟨_,rfl⟩;have n3:=a7.fV;have n4:=a7.BO;obtain⟨f,ef⟩:∃f,f=gU m T5:=⟨_,rfl⟩;have b7:∀i,i<K->iM J.R i n=f (J.B.getD i 0):=fun i hi=>by rw[ef];exact aru (p:=dR A b c m n) V5 g5 (by omega)
   have hlen:mP Tryz.prog 26 d7=some (I K):=by
    rcases BP.b with ⟨q1,rfl⟩|⟨bb,q1,rfl,_⟩
    .rw[show K=0 by omega];exact oN (by kernel_rfl)
    .rw[eK];exact sG (by kernel_rfl)
   obtain⟨vx,k7,k8⟩:∃vx,kU G=some ⟨I 0 :: vx :: cQ v,0,true⟩/\((n=0/\vx= .nil)\/∃E,0<n/\G<E/\E<O/\vx= .rs E 0 n/\kU E=some ⟨(List.replicate n (0:Rat)).flatMap cQ,3,true⟩):=by
    rcases a9 with ⟨h0,h1⟩|⟨E,h0,h1,h2,h3,h4⟩
    .exact⟨_,h1,.inl ⟨h0,rfl⟩⟩
    .exact⟨_,h3,.inr ⟨E,h0,h1,h2,rfl,h4⟩⟩
   have k9:kU Y=_:=(P_ Y d1).trans d8;simp only[go_sem,t2,t4,t5,k9,hlen];generalize hL:aF _ _=y;obtain⟨x,rfl,T7,vI,a6,rfl,t2,t5,a0,a8,Xo⟩:=aB hL K (fun i st=>st.T 2= .rp 1 0/\st.T 4= .rp Y 0/\st.T 5= .rp G 0/\st.T 60=d7/\st.T 61=I K/\st.T 62=I i/\O<=st.nx/\(∀y,y<G->st.σ y=jY y)/\st.σ G=some ⟨I 0 :: vx :: cQ v,0,true⟩/\((n=0/\vx= .nil)\/∃E,0<n/\G<E/\E<O/\vx= .rs E 0 n/\st.σ E=some ⟨(xB J.B f i n).flatMap cQ,3,true⟩))
    (fun x=>∃T vI a6,x=(.exit 2,⟨T,vI,a6⟩)/\T 2= .rp 1 0/\T 5= .rp G 0/\(∀y,y<G->vI y=jY y)/\vI G=some ⟨I 0 :: vx :: cQ v,0,true⟩/\((n=0/\vx= .nil)\/∃E,0<n/\G<E/\E<O/\vx= .rs E 0 n/\vI E=some ⟨(xB J.B f K n).flatMap cQ,3,true⟩)) (by
     clear hL;rintro i ⟨T,vI,a6⟩ hi ⟨t2,t4,t5,b8,b4,b9,c9,a0,a8,Xo⟩;simp only at t2 t4 t5 b8 b4 b9 c9 a0 a8 Xo;have h5:J.B.getD i 0<n:=by rw[getD_at (by omega)];exact j9 _ (zu _)
     rcases Xo with ⟨h0,_⟩|⟨E,h0,h1,h2,rfl,h4⟩
     .omega
     obtain⟨br,rfl,l6⟩:∃br,i6= .rs br 0 K/\jY br=some ⟨c7.map fun b=>V.rs b 0 (n+1),1,true⟩:=by
      rcases BP.r with ⟨e,_⟩|⟨br,_,e,e2⟩
      .omega
      .exact⟨br,by rw[e,eK],e2⟩
     obtain⟨bb,rfl,l7⟩:∃bb,d7= .rs bb 0 K/\jY bb=some ⟨(iT J.B).flatMap cI,1,true⟩:=by
      rcases BP.b with ⟨e,_⟩|⟨bb,_,e,e2⟩
      .omega
      .exact⟨bb,by rw[e,eK],e2⟩
     have e5:i<c7.length:=by have:=BP.len;omega
     obtain⟨bi,uN⟩:∃bi,bi=c7[i]:=⟨_,rfl⟩;have n5:=Tq br (by simp[bk]);have n6:=Tq bb (by simp[bk]);have n7:bi<uP:=by rw[uN];exact(Tq _ (by simp[zu e5])).2
     have g1:(i:Int)<(K:Int):=by omega
     have g2:=aI i;have g3:=ah (n:=(i:Int)+1);have e1:vI Y=_:=(a0 Y d1).trans d8;have e2:vI br=_:=(a0 br (by omega)).trans l6;have e3:vI bb=_:=(a0 bb (by omega)).trans l7;have e4:vI bi=some ⟨(pW J.R i).flatMap cQ,3,true⟩:=(a0 bi (by omega)).trans (by rw[uN];exact BP.row i e5);have r1:(c7.map fun b=>V.rs b 0 (n+1))[i]?=some (.rs bi 0 (n+1)):=by rw[yX,zy e5,uN];rfl
     have b1:=idx (xs:=iT J.B) (k:=i) (by rw[fZ];omega);rw[kN (by omega)]at b1;have rl:=rF a7.row (show i<J.R.length by omega);have r3:=oZ (R:=J.R) (i:=i) (j:=n) (by omega);have lq:Ln 6 (iM J.R i n):=by
      rw[<- F7 (by omega)];exact a7.big _ (by rw[iW (show i<J.R.length by omega)];exact zu _) _ (zu _)
     rw[b7 i hi]at r3 lq;have r4:=aN (c:=cQ) (s:=3) bD (pW J.R i);rw[rl]at r4;have kc:=aoE (f (J.B.getD i 0)) (lq.mono (by decide));have c6:patch ((xB J.B f i n).flatMap cQ) (J.B.getD i 0*3) (cQ (f (J.B.getD i 0)))=(xB J.B f (i+1) n).flatMap cQ:=by
      rw[iU bD _ _ (by rw[FY];exact h5),agE f (by omega)]
     have g5:=aN (c:=cQ) (s:=3) bD (xB J.B f i n);rw[FY]at g5;generalize J.B.getD i 0=B at h5 b1 r3 kc c6;have g6:=aI B;have g7:(B:Int)<(n:Int):=by omega
     have g8:B*3+3<=n*3:=by omega
     have l1:G<a6:=by omega
     have l2:Y<a6:=by omega
     have l3:br<a6:=by omega
     have l4:bi<a6:=by omega
     have l5:E<a6:=by omega
     have z1:(G==E)=false:=by rw[w_];omega
     have z2:(Y==E)=false:=by rw[w_];omega
     have z3:(br==E)=false:=by rw[w_];omega
     have z4:(bi==E)=false:=by rw[w_];omega
     refine .inl ⟨_,by simp only[go_sem,t2,t4,t5,b8,b4,b9,e1,e2,e3,e4,a8,h4,r1,b1,r3,r4,g1,g2,g3,g5,g6,g7,g8,c1,c2,c5,kc,c6,l1,l2,l3,l4,l5,z1,z2,z3,z4];rfl,?_⟩;simp only[go_sem,t2,t4,t5,b8,b4];refine⟨rfl,c9,fun y hy=>?_,?_,.inr ⟨E,h0,h1,h2,rfl,?_⟩⟩
     .rw[ay];exact a0 y hy
     .rw[ay];exact a8
     .rw[upd_same]) (by
     clear hL;rintro ⟨T,vI,a6⟩ ⟨t2,t4,t5,b8,b4,b9,c9,a0,a8,Xo⟩;simp only at t2 t4 t5 b8 b4 b9 c9 a0 a8 Xo;refine⟨_,by simp only[go_sem,b4,b9,zl];rfl,by simp,_,_,_,rfl,?_⟩;simp only[go_sem,t2,t5];exact⟨a0,a8,Xo⟩) (by
     simp only[go_sem,t2,t4,t5];refine⟨P_,k7,?_⟩;rcases k8 with h|⟨E,h0,h1,h2,h3,h4⟩
     .exact .inl h
     .exact .inr ⟨E,h0,h1,h2,h3,by rw[aa5];exact h4⟩)
   clear hL;have l8:vI 1=_:=(a0 1 j8).trans f8;have hX:xB J.B f K n=(List.range n).map f:=by
    unfold xB;rw[zk (by omega)];refine xP fun j hj=>?_
    by_cases h:j∈J.B
    .rw[if_pos h]
    .rw[if_neg h,ef]
     exact(abp (C:=(dR A b c m n).C) V5 (List.mem_range.mp hj) h).symm
   have l9:∀j,j<n->Ln 6 (f j):=fun j hj=>by
    by_cases h:j∈J.B
    .obtain⟨i,hi,rfl⟩:=yV h
     rw[<- getD_at hi 0,<- b7 i (by omega),<- F7 (by rw[rF a7.row (by omega)];omega)];exact a7.big _ (by rw[iW (show i<J.R.length by omega)];exact zu _) _ (zu _)
    .have e:gU m T5 j=0:=abp (C:=(dR A b c m n).C) V5 hj h
     rw[ef,e];exact akS
   obtain⟨ids,m1⟩:∃ids,∀σ',(∀y,y≠1->σ' y=vI y)->strip σ' 6 vx=some (LL cQ ((List.range n).map f),ids):=by
    rcases Xo with ⟨h0,rfl⟩|⟨E,h0,h1,h2,rfl,h4⟩
    .exact⟨[],fun σ' _=>by rw[strip_nil,h0];rfl⟩
    .exact⟨[E],fun σ' h=>tZ (by rw[h E (by omega),<- hX];exact h4) (by simp)⟩
   obtain⟨c0,e8⟩:∃c0,c0=upd vI 1 (some ⟨I 0 :: vx :: cQ v,0,true⟩):=⟨_,rfl⟩;have m2:=m1 c0 fun y hy=>by rw[e8,upd_ne _ _ hy]
   have m3:c0 1=some ⟨I 0 :: vx :: cQ v,0,true⟩:=by rw[e8,upd_same]
   have m4:=nX c0 6 v;have m5:aT vx=true:=by
    rcases Xo with ⟨-,rfl⟩|⟨E,-,-,-,rfl,-⟩<;>rfl
   refine⟨.agg (I 0 :: LL cQ ((List.range n).map f) :: cQ v),?_,.inr (.inr ⟨f,by rw[ef];exact j4 rfl,l9,by rw[show ob (dR A b c m n).n (dR A b c m n).c f=v by rw[ef];exact hv];exact e0,by rw[show ob (dR A b c m n).n (dR A b c m n).c f=v by rw[ef];exact hv];rfl,T5,g5,ef⟩)⟩;simp only[go_sem,t2,t5,a8,l8,<- e8,m3,m2,m4,m5,aO]
 .rw[vk hz,xJ]at b5
  refine⟨_,by simp only[go_sem,bM,<- b2,b3,k1,k2,JZ,d4,a1,a2,a3,a4,a5,k3,b5,l1,l2,i4],.inl ⟨rfl,i2 (by rw[show(dR A b c m n).N=N from hN.symm];exact hz)⟩⟩
end
theorem abq {s:Structure}(h:SG s):fn Tryz.prog conv ext 148 [.agg (cStructure s)]=some (LI (free s)):=by
 have XF:=h.nj;unfold free;rw[aH,ak [.tmp 2] [] Tryz.func148];simp only[go_sem];generalize hL:aF _ _=y;obtain⟨r,rfl,T',σ',nx',rfl,h2⟩:=aB hL s.joints.length (fun k st=>st.T 8=LL cJoint s.joints/\st.T 9=I s.joints.length/\st.T 10=I k/\Grow st.T st.σ st.nx 3 (pO (kK s) k))
  (fun r=>∃T σ nx',r=(.exit 0,⟨T,σ,nx'⟩)/\Grow T σ nx' 3 (pO (kK s) s.joints.length)) (by
   clear hL;rintro k ⟨T,σ,nx⟩ G ⟨O,E,J,S⟩;simp only at O E J S;have f1:(k:Int)<(s.joints.length:Int):=by omega
   have f2:=aI k;have f3:=ah (n:=(k:Int)+1);have f4:=FC s.joints k G;have f5:=sJ s.joints;have f6:k*4+4<=s.joints.length*4:=by omega
   have f9:=IC s.joints k G;have hle:=ru (kK s) k;have Y:=fun x=>Bq S x
   cases hp:s.joints[k].fixed with
   |false=>
    have hq:kK s k=true:=by simp[kK,zy G,hp]
    obtain⟨σ',ha,hs⟩:=fG (Y (some ⟨[Sg s.joints[k].name,I s.joints[k].x,I s.joints[k].y,Bo false],0,true⟩)) (k:Int) (by omega);refine .inl ⟨_,by simp only[go_sem,O,E,J,f1,f2,f3,f4,f5,f6,f9,hp,G,ha];rfl,?_⟩;simp only[go_sem,O,E];rw[A_ hq];exact⟨rfl,fH hs (by simp[go_sem]) (by simp)⟩
   |true=>
    have hq:kK s k=false:=by simp[kK,zy G,hp]
    refine .inl ⟨_,by simp only[go_sem,O,E,J,f1,f2,f3,f4,f5,f6,f9,hp,G];rfl,?_⟩;simp only[go_sem,O,E];rw[FP hq];exact⟨rfl,dM (T:=T) (by simp only[go_sem]) (Y _)⟩) (by
   rintro ⟨T,σ,nx⟩ ⟨O,E,J,S⟩;simp only at O E J S;exact⟨_,by simp only[go_sem,E,J,zl];rfl,by simp,_,_,_,rfl,dM (by simp only[go_sem]) S⟩) (by
   simp only[go_sem];exact .inl ⟨by simp only[go_sem],rfl⟩)
 obtain⟨ids,hs⟩:=iP h2 6;simp only[go_sem,hs]
theorem abr {s:Structure}(h:SG s) {k:Nat}(E:k<s.members.length):fn Tryz.prog conv ext 180 [.agg (cStructure s),I k]=some (.dS [I (vx s k),I (vy s k)]):=by
 have J:=h.mr k E;rw[pU E]at J;have hb:=Dv h k;have a0:=h.nm;have XF:=h.nj;have O:=JO s.members k E;rw[pU E]at O;have f1:(k:Int)<(s.members.length:Int):=by omega
 have f2:=aI k;have f4:=BG s.members;have f5:k*3+3<=s.members.length*3:=by omega
 have f6:=JQ s.members k E;have S:(s.members.flatMap cMember)[k*3+0]?=some (I (mem s k).a):=by rw[<- pU E];exact Es (c:=cMember) (fun _=>rfl) s.members k E (j:=0) (by decide)
 have m2:(s.members.flatMap cMember)[k*3+1]?=some (I (mem s k).b):=by rw[<- pU E];exact Es (c:=cMember) (fun _=>rfl) s.members k E (j:=1) (by decide)
 rw[Nat.add_zero]at S;unfold vx vy at hb⊢;generalize mem s k=mm at *;obtain⟨Y,mb,mk⟩:=mm;obtain⟨r1,r2,r3,r4,r5,r6⟩:=J;simp only at *;obtain⟨a,rfl⟩:∃a:Nat,Y=(a:Int):=⟨Y.toNat,by omega⟩;obtain⟨b,rfl⟩:∃b:Nat,mb=(b:Int):=⟨mb.toNat,by omega⟩;have ha:a<s.joints.length:=by omega
 have G:b<s.joints.length:=by omega
 have ea:WC s (a:Int)=s.joints[a]:=by unfold WC;rw[yw,zy ha];rfl
 have eb:WC s (b:Int)=s.joints[b]:=by unfold WC;rw[yw,zy G];rfl
 rw[ea,eb]at hb⊢;have g4:=sJ s.joints;have g6:=IC s.joints a ha;have p1:=FC s.joints a ha;have p2:=FC s.joints b G;have p3:a*4+4<=s.joints.length*4:=by omega
 have p4:b*4+4<=s.joints.length*4:=by omega
 have w1:=ah (n:=s.joints[b].x-s.joints[a].x);have w2:=ah (n:=s.joints[b].y-s.joints[a].y);rw[aH,ak [.tmp 4,.tmp 5] [1,2] Tryz.func180];simp only[go_sem,O,f1,f2,f4,f5,f6,S,m2,r1,r2,r3,r4,g4,g6,p1,p2,p3,p4,w1,w2]
def G2(v1 O:V)(σ:Store)(nx:Nat)(E G:List Int):Prop:=(E=[]/\v1= .nil/\G=[]/\O= .nil)\/∃b1 J,b1≠J/\b1<nx/\J<nx/\E≠[]/\G≠[]/\v1= .rs b1 0 E.length/\O= .rs J 0 G.length/\σ b1=some ⟨E.flatMap cI,1,true⟩/\σ J=some ⟨G.flatMap cI,1,true⟩
theorem G2.congr {v1 E:V} {σ σ':Store} {nx nx':Nat} {G J:List Int}(h:G2 v1 E σ nx G J)(hn:nx<=nx')(e:∀b,b<nx->σ' b=σ b):G2 v1 E σ' nx' G J:=by
 rcases h with h|⟨b1,O,S,Y,h3,h4,h5,h6,h7,h8,h9⟩
 .exact .inl h
 .exact .inr ⟨b1,O,S,by omega,by omega,h4,h5,h6,h7,(e b1 Y).trans h8,(e O h3).trans h9⟩
theorem Ar {v1 Y:V} {σ:Store} {nx:Nat} {O S:List Int}(h:G2 v1 Y σ nx O S)(x y:Int)(h1:O.length<100000)(h2:S.length<100000) :
  ∃E σ2,bT (upd σ nx (some ⟨[I x],1,true⟩)) (nx+1) 1 8 v1 [I x] 1=some (.rs (nx+1) 0 (O.length+1),E,nx+1+1)/\bT (upd E (nx+1+1) (some ⟨[I y],1,true⟩)) (nx+1+1+1) 1 8 Y [I y] 1=some (.rs (nx+1+1+1) 0 (S.length+1),σ2,nx+1+1+1+1) /\
   G2 (.rs (nx+1) 0 (O.length+1)) (.rs (nx+1+1+1) 0 (S.length+1)) σ2 (nx+1+1+1+1) (O++[x]) (S++[y])/\∀b,b<nx->(∀o l,v1≠ .rs b o l)->(∀o l,Y≠ .rs b o l)->σ2 b=σ b:=by
 have g1:iZ cI 1 (fun _=>v1) σ nx 0 O:=by
  rcases h with ⟨J,G,-,-⟩|⟨b1,b2,J,G,q3,q4,q5,q6,q7,q8,q9⟩
  .exact .inl ⟨G,J⟩
  .exact .inr ⟨b1,q6,q4,q8,G⟩
 obtain⟨E,a1,a2,a3⟩:=gY (c:=cI) (s:=1) (bytes:=8) (fun _=>rfl) (fun _=>rfl) (by decide) g1 x h1 (by decide);have o1:∀b,b<nx->(∀o l,v1≠ .rs b o l)->E b=σ b:=fun b hb hv=>a3 b hb fun b' o l e e2=>hv o l (by rw[e2];exact e)
 have g2:iZ cI 1 (fun _=>Y) E (nx+1+1) 0 S:=by
  rcases h with ⟨-,-,J,G⟩|⟨b1,b2,J,G,q3,q4,q5,q6,q7,q8,q9⟩
  .exact .inl ⟨G,J⟩
  .exact .inr ⟨b2,q7,q5,(o1 b2 q3 fun o l e=>by rw[q6]at e;simp only[V.rs.injEq]at e;exact J e.1).trans q9,by omega⟩
 obtain⟨σ2,c1,c2,c3⟩:=gY (c:=cI) (s:=1) (bytes:=8) (fun _=>rfl) (fun _=>rfl) (by decide) g2 y h2 (by decide);refine⟨E,σ2,a1,c1,.inr ⟨nx+1,nx+1+1+1,by omega,by omega,by omega,by simp,by simp,by rw[zo];rfl,by rw[zo];rfl,?_,c2⟩,fun b hb a0 a4=>?_⟩
 .rw[c3 (nx+1) (by omega) fun b o l e e2=>?_];exact a2
  rcases h with ⟨-,-,-,G⟩|⟨b1,b2,J,G,q3,q4,q5,q6,q7,q8,q9⟩
  .rw[G]at e;cases e
  .rw[q7]at e;simp only[V.rs.injEq]at e;omega
 .rw[c3 b (by omega) fun b' o l e e2=>a4 o l (by rw[e2];exact e)]
  exact o1 b hb a0
theorem G2.ne {v1 E:V} {σ:Store} {nx:Nat} {O S:List Int}(h:G2 v1 E σ nx O S) {b:Nat}(hb:nx<=b):(∀o l,v1≠ .rs b o l)/\∀o l,E≠ .rs b o l:=by
 rcases h with ⟨-,G,-,J⟩|⟨b1,b2,G,J,q3,q4,q5,Y,q7,q8,q9⟩
 .rw[G,J];exact⟨fun o l e=>(by cases e),fun o l e=>(by cases e)⟩
 .rw[Y,q7]
  exact⟨fun o l e=>by simp only[V.rs.injEq]at e;omega,fun o l e=>by simp only[V.rs.injEq]at e;omega⟩
theorem G2.len {v1 E:V} {σ:Store} {nx:Nat} {G J:List Int}(h:G2 v1 E σ nx G J)(d:Nat):(∃i,strip σ (d+1) v1=some (LI G,i))/\∃i,strip σ (d+1) E=some (LI J,i):=by
 rcases h with ⟨rfl,rfl,rfl,rfl⟩|⟨b1,Y,q1,q2,q3,q4,q5,rfl,rfl,O,S⟩
 .exact⟨⟨[],by rw[strip_nil];rfl⟩,⟨[],by rw[strip_nil];rfl⟩⟩
 .exact⟨⟨_,dO O rfl d⟩,⟨_,dO S rfl d⟩⟩
def Au(p:Int×Int):Int:=p.1
def BR(p:Int×Int):Int:=p.2
theorem Xp {s:Structure}(h:SG s):fn Tryz.prog conv ext 146 [.agg (cStructure s)]=some (.dS [LI ((cols s s.members.length).map Au),LI ((cols s s.members.length).map BR)]):=by
 have b5:=h.nm;rw[aH,ak [.tmp 2,.tmp 3] [] Tryz.func146];simp only[go_sem];generalize hL:aF _ _=y;obtain⟨r,rfl,T',σ',nx',rfl,h2⟩:=aB hL s.members.length (fun k st=>st.T 11=LL cMember s.members/\st.T 12=I s.members.length/\st.T 13=I k/\G2 (st.T 4) (st.T 5) st.σ st.nx ((cols s k).map Au) ((cols s k).map BR))
  (fun r=>∃T σ nx',r=(.exit 0,⟨T,σ,nx'⟩)/\G2 (T 4) (T 5) σ nx' ((cols s s.members.length).map Au) ((cols s s.members.length).map BR)) (by
   clear hL;rintro k ⟨T,σ,nx⟩ a5 ⟨G,E,J,hg⟩;simp only at G E J hg;have f1:(k:Int)<(s.members.length:Int):=by omega
   have f2:=aI k;have f3:=ah (n:=(k:Int)+1);have f4:=JO s.members k a5;have f5:=BG s.members;have f6:k*3+3<=s.members.length*3:=by omega
   have f9:=JQ s.members k a5;have hr:=h.mr k a5;rw[pU a5]at f4 hr;have hle:=lV s k;have e1:((cols s k).map Au).length<=16:=by rw[zO];omega
   have e2:((cols s k).map BR).length<=16:=by rw[zO];omega
   rw[Eu,wY,wY];generalize (cols s k).map Au=L1 at *;generalize (cols s k).map BR=L2 at *;obtain⟨S,em⟩:∃S,S=mem s k:=⟨_,rfl⟩;rw[<- em]at f4 hr⊢;obtain⟨s0,O⟩:∃s0,s0=upd σ nx (some ⟨cMember S,0,true⟩):=⟨_,rfl⟩;have a7:G2 (T 4) (T 5) s0 (nx+1) L1 L2:=hg.congr (by omega) fun b hb=>by rw[O,ay]
   have Y:s0 nx=some ⟨cMember S,0,true⟩:=by rw[O,upd_same]
   unfold cMember at O;have a6:=hg.ne (zq nx);unfold vJ
   by_cases k2:S.kind=2
   .have g1:(S.kind !=2)=false:=by simpa using k2
    have g2:(S.kind !=1)=true:=by simp[k2]
    obtain⟨a8,σ2,a1,a2,a3,a4⟩:=Ar a7 (k:Int) (-1) (by omega) (by omega);refine .inl ⟨_,by simp only[go_sem,G,E,J,f1,f2,f3,f4,f5,f6,f9,<- O,Y,g1,g2,a1,a2];rfl,?_⟩;simp only[go_sem,G,E];rw[if_pos k2,if_neg (by omega)];exact⟨rfl,a3⟩
   .by_cases k1:S.kind=1
    .have g1:(S.kind !=2)=true:=by simpa using k2
     have g2:(S.kind !=1)=false:=by simpa using k1
     obtain⟨a8,σ2,a1,a2,a3,a4⟩:=Ar a7 (k:Int) 1 (by omega) (by omega);have a0:σ2 nx=_:=(a4 nx (by omega) a6.1 a6.2).trans Y;refine .inl ⟨_,by simp only[go_sem,G,E,J,f1,f2,f3,f4,f5,f6,f9,<- O,Y,g1,g2,a1,a2,a0];rfl,?_⟩;simp only[go_sem,G,E];rw[if_neg k2,if_pos k1];exact⟨rfl,a3⟩
    .have g1:(S.kind !=2)=true:=by simpa using k2
     have g2:(S.kind !=1)=true:=by simpa using k1
     obtain⟨a8,σ2,a1,a2,a3,a4⟩:=Ar a7 (k:Int) 1 (by omega) (by omega);have a0:σ2 nx=_:=(a4 nx (by omega) a6.1 a6.2).trans Y;obtain⟨b6,kP,b1,b2,b3,b4⟩:=Ar a3 (k:Int) (-1) (by simp;omega) (by simp;omega);simp only[zo,yL]at b1 b2 b3;refine .inl ⟨_,by simp only[go_sem,G,E,J,f1,f2,f3,f4,f5,f6,f9,<- O,Y,g1,g2,a1,a2,a0,b1,b2];rfl,?_⟩;simp only[go_sem,G,E];rw[if_neg k2,if_neg k1];refine⟨rfl,?_⟩;have e3:∀(L:List Int) (f:Int×Int->Int) (x y:Int×Int),L++List.map f ([x]++[y])=L++[f x]++[f y]:=fun L f x y=>by simp
     rw[e3,e3];exact b3) (by
   rintro ⟨T,σ,nx⟩ ⟨G,E,J,hg⟩;simp only at G E J hg;refine⟨_,by simp only[go_sem,E,J,zl];rfl,by simp,_,_,_,rfl,?_⟩;simp only[go_sem];exact hg) (by
   simp only[go_sem];exact .inl ⟨rfl,rfl,rfl,rfl⟩)
 obtain⟨⟨i1,a9⟩,⟨i2,a0⟩⟩:=h2.len 5;simp only[go_sem,a9,a0]
def pB(l:List Int)(j:Int):List Int:=[-l.getD (2*j.toNat) 0,-l.getD (2*j.toNat+1) 0]
theorem abt(l:List Int)(E:List Int):(E.flatMap (pB l)).length=2*E.length:=by
 induction E with
 |nil=>rfl
 |cons j E G=>rw[zU,zo,G,zD];show 2+_=_;omega
theorem ak1 {s:Structure} {i:Nat}(hi:i<(free s).length):∃q:Nat,(free s)[i]=(q:Int)/\q<s.joints.length:=by
 have hm:=zu hi;generalize (free s)[i]=z at hm;unfold free pO at hm;obtain⟨q,E,rfl⟩:=List.mem_map.mp hm;exact⟨q,rfl,List.mem_range.mp (List.mem_filter.mp E).1⟩
theorem aoZ {s:Structure}(h:SG s) {l:List Int}(hl:l.length=2*s.joints.length)(hb:∀x∈l,-100<=x/\x<=100):fn Tryz.prog conv ext 149 [.agg (cStructure s),LI l]=some (LI (JC s l)):=by
 have a4:=qE s;have XF:=h.nj;have k1:=abq h;have a0:∀q,-100<=l.getD q 0/\l.getD q 0<=100:=fun q=>by
  rw[zx]
  by_cases hq:q<l.length
  .rw[zy hq];exact hb _ (zu hq)
  .rw[yc (by omega)];simp
 rw[aH,ak [.tmp 4] [5] Tryz.func149];unfold cStructure at k1⊢;simp only[go_sem,k1];generalize hL:aF _ _=y;obtain⟨r,rfl,T',σ',nx',rfl,h2⟩:=aB hL (free s).length (fun i st=>st.T 1=LI l/\st.T 10=LI (free s)/\st.T 11=I (free s).length/\st.T 12=I i/\((i=0/\st.T 5= .nil)\/∃b,0<i/\b<st.nx/\st.T 5= .rs b 0 (2*i)/\st.σ b=some ⟨(((free s).take i).flatMap (pB l)).flatMap cI,1,true⟩))
  (fun r=>∃T σ nx',r=(.exit 0,⟨T,σ,nx'⟩)/\(((free s).length=0/\T 5= .nil)\/∃b,0<(free s).length/\b<nx'/\T 5= .rs b 0 (2*(free s).length)/\σ b=some ⟨(((free s).take (free s).length).flatMap (pB l)).flatMap cI,1,true⟩)) (by
   clear hL;rintro i ⟨T,σ,nx⟩ hi ⟨O,G,E,J,hx⟩;simp only at O G E J hx;obtain⟨q,eq,hq⟩:=ak1 hi;have f1:(i:Int)<((free s).length:Int):=by omega
   have f2:=aI i;have f3:=ah (n:=(i:Int)+1);have f4:=fB (free s) i hi;have f5:=idx hi;rw[eq]at f5;have w1:=ah (n:=2*(q:Int));have w2:=ah (n:=2*(q:Int)+1);have e1:2*(q:Int)=((2*q:Nat):Int):=by omega
   have e2:((2*q:Nat):Int)+1=((2*q+1:Nat):Int):=by omega
   rw[e1]at w1 w2;rw[e2]at w2;have g1:((2*q:Nat):Int)<(l.length:Int):=by omega
   have g2:((2*q+1:Nat):Int)<(l.length:Int):=by omega
   have g3:(0:Int)<=((2*q:Nat):Int):=by omega
   have g4:(0:Int)<=((2*q+1:Nat):Int):=by omega
   have g5:=idx (xs:=l) (k:=2*q) (by omega);have g6:=idx (xs:=l) (k:=2*q+1) (by omega);rw[<- getD_at (by omega) 0]at g5 g6;have g7:=fB l (2*q) (by omega);have b1:=a0 (2*q);have b2:=a0 (2*q+1);have a1:((free s).take (i+1)).flatMap (pB l)=((free s).take i).flatMap (pB l)++[0-l.getD (2*q) 0,0-l.getD (2*q+1) 0]:=by
    rw[yO,zy hi,eq,zT];simp[pB]
   generalize l.getD (2*q) 0=u at *;generalize l.getD (2*q+1) 0=v at *;have w3:=ah (n:=0-u);have w4:=ah (n:=0-v);have y1:nx<nx+1:=by omega
   have y2:2<=maxLen:=by unfold maxLen;decide
   rcases hx with ⟨h0,S⟩|⟨b,h0,h1,S,Y⟩
   .refine .inl ⟨_,by simp only[go_sem,O,G,E,J,S,f1,f2,f3,f4,f5,e1,e2,w1,w2,w3,w4,g1,g2,g3,g4,g5,g6,g7,y1,y2];rfl,?_⟩
    simp only[go_sem,O,G,E];refine⟨rfl,.inr ⟨nx+1,by omega,by omega,by rw[h0],?_⟩⟩;rw[upd_same,a1,h0];rfl
   .have a2:=kQ (σ:=restrict (upd σ nx (some ⟨[I (0-u),I (0-v)],1,true⟩)) [b,nx]) (nx:=nx+1) (bytes:=8) (b:=b) (len:=2*i) (m:=2) (row:=[I (0-u),I (0-v)]) (by rw[fF,ay];exact Y) (by show((((free s).take i).flatMap (pB l)).flatMap cI).length=_;rw[aS,abt,zh];omega) rfl (by decide) (by unfold maxLen;omega) (by omega) rfl
    have x1:b<nx+1:=by omega
    refine .inl ⟨_,by simp only[go_sem,O,G,E,J,S,f1,f2,f3,f4,f5,e1,e2,w1,w2,w3,w4,g1,g2,g3,g4,g5,g6,g7,y1,y2,a2,x1];rfl,?_⟩;simp only[go_sem,O,G,E];refine⟨rfl,.inr ⟨nx+1,by omega,by omega,by rw[show 2*(i+1)=2*i+2 by omega],?_⟩⟩;rw[upd_same,a1,zT];rfl) (by
   rintro ⟨T,σ,nx⟩ ⟨O,G,E,J,hx⟩;simp only at O G E J hx;refine⟨_,by simp only[go_sem,E,J,zl];rfl,by simp,_,_,_,rfl,?_⟩;simp only[go_sem];exact hx) (by
   simp only[go_sem];exact .inl trivial)
 have e:JC s l=(free s).flatMap (pB l):=rfl;rw[zk (zq _)]at h2;rcases h2 with ⟨h0,S⟩|⟨b,h0,h1,S,Y⟩
 .have:free s=[]:=zZ h0
  rw[e,this]
  (simp only[go_sem,S])<;>rfl
 .have a3:=dO Y (abt l (free s)) 6
  rw[<- e]at a3;simp only[go_sem,S,a3]
def G2l(lo:Nat)(v1 E:V)(σ:Store)(nx:Nat)(G J:List Int):Prop:=G2 v1 E σ nx G J/\(∀b o l,v1= .rs b o l->lo<=b)/\∀b o l,E= .rs b o l->lo<=b
theorem abu {v:V} {σ:Store} {nx:Nat} {G E:List Int}(h:iZ cI 1 (fun _=>v) σ nx 0 G)(h2:E≠[])(hl:G.length+E.length<100000) :
  ∃σ',bT σ nx 1 8 v (E.flatMap cI) E.length=some (.rs nx 0 (G.length+E.length),σ',nx+1)/\iZ cI 1 (fun _=> .rs nx 0 (G.length+E.length)) σ' (nx+1) 0 (G++E)/\∀y,y<nx->(∀o l,v≠ .rs y o l)->σ' y=σ y:=by
 have O:E.length≠0:=fun e=>h2 (zZ e)
 have S:(E.flatMap cI).all aT=true:=by
  rw[List.all_eq_true];intro w hw;obtain⟨x,-,hx⟩:=List.mem_flatMap.mp hw;rw[List.mem_singleton.mp hx];rfl
 have Y:G++E≠[]:=fun e=>h2 (List.append_eq_nil_iff.mp e).2
 rcases h with ⟨J,rfl⟩|⟨b,J,a2,a1,a3⟩
 .have J:v= .nil:=J
  subst J;refine⟨upd σ nx (some ⟨E.flatMap cI,1,true⟩),by rw[D7,if_neg O,if_pos ⟨by unfold maxLen;omega,by omega⟩,wu,yY];rfl,.inr ⟨nx,by rw[zo],Y,by rw[upd_same,yK],by omega⟩,fun y hy _=>by rw[ay]⟩
 .have J:v= .rs b 0 G.length:=J
  subst J;have a0:=kQ (σ:=σ) (nx:=nx) (bytes:=8) (b:=b) (len:=G.length) (m:=E.length) (row:=E.flatMap cI) a1 (aS G) rfl O (by unfold maxLen;omega) (by omega) S;refine⟨_,a0,.inr ⟨nx,by rw[zo],Y,by rw[upd_same,zT],by omega⟩,fun y hy hv=>?_⟩;rw[ay,upd_ne _ _ fun e=>hv 0 G.length (by rw[e])]
def EF(s:Structure)(j:Int):List Int:=(List.range s.members.length).map (eX s j)++(List.range s.members.length).map (eY s j)
theorem ahF(s:Structure)(j:Int):(EF s j).length=2*s.members.length:=by unfold EF;simp;omega
theorem Qd(s:Structure):∀E:List Int,(E.flatMap (EF s)).length=2*s.members.length*E.length
 |[]=>rfl
 |j :: E=>by rw[zU,zo,Qd s E,ahF,zD,Nat.mul_succ];omega
theorem avf {s:Structure}(h:SG s)(hm:0<s.members.length):fn Tryz.prog conv ext 147 [.agg (cStructure s)]=some (LI ((free s).flatMap (EF s))):=by
 have d1:=h.nm;have d2:=qE s;have XF:=h.nj;have k1:=abq h;have kV:=fun k hk=>abr h (k:=k) hk
 rw[aH,ak [.tmp 2] [] Tryz.func147];unfold cStructure at k1 kV⊢;simp only[go_sem,k1];generalize hL:aF _ _=y;obtain⟨r,rfl,T',σ',nx',rfl,h2⟩:=aB hL (free s).length (fun i st=>st.T 1= .rp 0 0/\st.T 14=LI (free s)/\st.T 15=I (free s).length/\st.T 16=I i/\0<st.nx/\st.σ 0=some ⟨[LL cJoint s.joints,LL cMember s.members],0,true⟩/\iZ cI 1 (fun _=>st.T 3) st.σ st.nx 0 (((free s).take i).flatMap (EF s))/\∀o l,st.T 3≠ .rs 0 o l)
  (fun r=>∃T σ nx',r=(.exit 0,⟨T,σ,nx'⟩)/\iZ cI 1 (fun _=>T 3) σ nx' 0 ((free s).flatMap (EF s))) (by
   clear hL;rintro i ⟨T,σ,nx⟩ hi ⟨t1,J,E,G,a9,s0,hg,b4⟩;simp only at t1 J E G a9 s0 hg b4;obtain⟨j,ej⟩:∃j,j=(free s)[i]:=⟨_,rfl⟩;have f1:(i:Int)<((free s).length:Int):=by omega
   have f2:=aI i;have f3:=ah (n:=(i:Int)+1);have f4:=fB (free s) i hi;have f5:=idx hi;rw[<- ej]at f5;refine fD ?_
   conv=>
    enter [1,r,1,1]
    simp only[go_sem,t1,J,E,G,s0,f1,f2,f4,f5]
   generalize hL:aF _ _=z;obtain⟨x,rfl,T2,σ2,jo,rfl,t1,J,E,G,t3,b3,Ae,O⟩:=aB hL s.members.length (fun k st=>st.T 1= .rp 0 0/\st.T 14=LI (free s)/\st.T 15=I (free s).length/\st.T 16=I i/\st.T 3=T 3/\st.T 5=I j/\st.T 23=LL cMember s.members/\st.T 24=I s.members.length/\st.T 25=I k/\nx<=st.nx/\(∀y,y<nx->st.σ y=σ y)/\G2l nx (st.T 6) (st.T 7) st.σ st.nx ((List.range k).map (eX s j)) ((List.range k).map (eY s j)))
    (fun x=>∃T2 σ2 jo,x=(.exit 2,⟨T2,σ2,jo⟩)/\T2 1= .rp 0 0/\T2 14=LI (free s)/\T2 15=I (free s).length/\T2 16=I i/\T2 3=T 3/\nx<=jo/\(∀y,y<nx->σ2 y=σ y)/\G2l nx (T2 6) (T2 7) σ2 jo ((List.range s.members.length).map (eX s j)) ((List.range s.members.length).map (eY s j))) (by
     clear hL;rintro k ⟨T2,σ2,jo⟩ hk ⟨t1,J,E,G,t3,t5,a0,S,a6,b3,Ae,O,a7,a8⟩;simp only at t1 J E G t3 t5 a0 S a6 b3 Ae O a7 a8;have g1:(k:Int)<(s.members.length:Int):=by omega
     have g2:=aI k;have g3:=ah (n:=(k:Int)+1);have g4:=JO s.members k hk;have g5:=BG s.members;have g6:k*3+3<=s.members.length*3:=by omega
     have g9:=JQ s.members k hk;rw[pU hk]at g4;have kv:=kV k hk;have d3:=Dv h k;have b9:σ2 0=_:=(Ae 0 a9).trans s0;obtain⟨m1,em⟩:∃m1,m1=mem s k:=⟨_,rfl⟩;rw[<- em]at g4;obtain⟨s3,a5⟩:∃s3,s3=upd σ2 jo (some ⟨cMember m1,0,true⟩):=⟨_,rfl⟩;have c0:G2 (T2 6) (T2 7) s3 (jo+1) ((List.range k).map (eX s j)) ((List.range k).map (eY s j)):=O.congr (by omega) fun b hb=>by rw[a5,ay]
     have b5:s3 jo=some ⟨cMember m1,0,true⟩:=by rw[a5,upd_same]
     have b6:s3 0=_:=(by rw[a5,ay]:s3 0=σ2 0).trans b9;have uV:∀y,y<nx->s3 y=σ y:=fun y hy=>by rw[a5,ay];exact Ae y hy
     obtain⟨kP,jY,a1,a2,a3,a4⟩:=Ar c0 (eX s j k) (eY s j k) (by simp;omega) (by simp;omega);have eR:∀f:Nat->Int,(List.range (k+1)).map f=(List.range k).map f++[f k]:=fun f=>by rw[wZ,wY];rfl
     have hl:((List.range k).map (eX s j)).length=k:=by simp
     have c4:((List.range k).map (eY s j)).length=k:=by simp
     rw[hl]at a1 a3;rw[c4]at a2 a3;have fin:(∀y,y<nx->jY y=σ y):=fun y hy=>(a4 y (by omega) (fun o l e=>by have:=a7 _ _ _ e;omega) fun o l e=>by have:=a8 _ _ _ e;omega).trans (uV y hy)
     have done:G2l nx (.rs (jo+1+1) 0 (k+1)) (.rs (jo+1+1+1+1) 0 (k+1)) jY (jo+1+1+1+1+1) ((List.range (k+1)).map (eX s j)) ((List.range (k+1)).map (eY s j)):=by
      rw[eR,eR];exact⟨a3,fun b o l e=>by simp only[V.rs.injEq]at e;omega,fun b o l e=>by simp only[V.rs.injEq]at e;omega⟩
     unfold cMember at a5
     by_cases ja:j=m1.a
     .have c1:(j==m1.a)=true:=beq_iff_eq.mpr ja
      have ex:eX s j k=vx s k:=by unfold eX;rw[if_pos (by rw[<- em];exact ja)]
      have ey:eY s j k=vy s k:=by unfold eY;rw[if_pos (by rw[<- em];exact ja)]
      rw[ex]at a1;rw[ey]at a2;refine .inl ⟨_,by simp only[go_sem,t1,J,E,G,t3,t5,a0,S,a6,g1,g2,g3,g4,g5,g6,g9,<- a5,b5,b6,kv,c1,a1,a2];rfl,?_⟩;simp only[go_sem,t1,J,E,G,t3,t5,a0,S];rw[<- wZ];exact⟨rfl,by omega,fin,done⟩
     .have c1:(j==m1.a)=false:=beq_false_of_ne ja
      by_cases jb:j=m1.b
      .have c2:(j==m1.b)=true:=beq_iff_eq.mpr jb
       have ex:eX s j k=0-vx s k:=by unfold eX;rw[if_neg (by rw[<- em];exact ja),if_pos (by rw[<- em];exact jb)];omega
       have ey:eY s j k=0-vy s k:=by unfold eY;rw[if_neg (by rw[<- em];exact ja),if_pos (by rw[<- em];exact jb)];omega
       have w1:=ah (n:=0-vx s k);have w2:=ah (n:=0-vy s k);rw[ex]at a1;rw[ey]at a2;refine .inl ⟨_,by simp only[go_sem,t1,J,E,G,t3,t5,a0,S,a6,g1,g2,g3,g4,g5,g6,g9,<- a5,b5,b6,kv,c1,c2,w1,w2,a1,a2];rfl,?_⟩;simp only[go_sem,t1,J,E,G,t3,t5,a0,S];rw[<- wZ];exact⟨rfl,by omega,fin,done⟩
      .have c2:(j==m1.b)=false:=beq_false_of_ne jb
       have ex:eX s j k=0:=by unfold eX;rw[if_neg (by rw[<- em];exact ja),if_neg (by rw[<- em];exact jb)]
       have ey:eY s j k=0:=by unfold eY;rw[if_neg (by rw[<- em];exact ja),if_neg (by rw[<- em];exact jb)]
       rw[ex]at a1;rw[ey]at a2;refine .inl ⟨_,by simp only[go_sem,t1,J,E,G,t3,t5,a0,S,a6,g1,g2,g3,g4,g5,g6,g9,<- a5,b5,b6,kv,c1,c2,a1,a2];rfl,?_⟩;simp only[go_sem,t1,J,E,G,t3,t5,a0,S];rw[<- wZ];exact⟨rfl,by omega,fin,done⟩) (by
     clear hL;rintro ⟨T2,σ2,jo⟩ ⟨t1,J,E,G,t3,t5,a0,S,a6,b3,Ae,O⟩;simp only at t1 J E G t3 t5 a0 S a6 b3 Ae O;refine⟨_,by simp only[go_sem,S,a6,zl];rfl,by simp,_,_,_,rfl,?_⟩;simp only[go_sem,t1,J,E,G,t3];exact⟨b3,Ae,O⟩) (by
     simp only[go_sem,t1,J,E,G];exact⟨fun _ _=>trivial,.inl ⟨rfl,rfl,rfl,rfl⟩,fun _ _ _ e=>(by cases e),fun _ _ _ e=>(by cases e)⟩)
   clear hL;obtain⟨O,a7,a8⟩:=O;obtain⟨X,b7⟩:∃X,X=(List.range s.members.length).map (eX s j):=⟨_,rfl⟩;obtain⟨Y,b8⟩:∃Y,Y=(List.range s.members.length).map (eY s j):=⟨_,rfl⟩;have lX:X.length=s.members.length:=by rw[b7];simp
   have lY:Y.length=s.members.length:=by rw[b8];simp
   rw[<- b7,<- b8]at O;rcases O with ⟨q1,-⟩|⟨b1,b2,q1,q2,q3,q4,q5,q6,q7,q8,q9⟩
   .rw[q1]at lX;simp at lX;omega
   have d4:=a7 _ _ _ q6;have c5:=a8 _ _ _ q7;obtain⟨L,eL⟩:∃L,L=((free s).take i).flatMap (EF s):=⟨_,rfl⟩;have d5:L.length<=100:=by
    rw[eL,Qd,zh];have:2*s.members.length*min i (free s).length<=16*6:=yF (by omega) (by omega);omega
   rw[<- eL]at hg;have c6:iZ cI 1 (fun _=>T 3) σ2 jo 0 L:=by
    rcases hg with h|⟨b,p1,p2,p3,p4⟩
    .exact .inl h
    .exact .inr ⟨b,p1,p2,(Ae b p4).trans p3,by omega⟩
   have hv:∀y,nx<=y->∀o l,T 3≠ .rs y o l:=fun y hy o l e=>by
    have:=Dx hg (b:=y) (o:=o) (l:=l) e;omega
   obtain⟨c7,a1,a2,a3⟩:=abu c6 q4 (by omega);obtain⟨kP,c1,c2,c3⟩:=abu a2 q5 (by rw[zo];omega);have s3:c7 b2=_:=(a3 b2 q3 (hv b2 c5)).trans q9;have c8:kP 0=some ⟨[LL cJoint s.joints,LL cMember s.members],0,true⟩:=by
    rw[c3 0 (by omega) fun o l e=>by simp only[V.rs.injEq]at e;omega,a3 0 (by omega) b4,Ae 0 a9];exact s0
   simp only[zo,lX,lY]at a1 c1 c2 q6 q7;have eT:((free s).take (i+1)).flatMap (EF s)=L++X++Y:=by
    rw[yO,zy hi,zT,<- eL,<- ej,zB];show L++(EF s j++[])=_;unfold EF;rw[<- b7,<- b8,zM]
   have tX:(X.flatMap cI).take s.members.length=X.flatMap cI:=zk (by rw[aS];omega);have tY:(Y.flatMap cI).take s.members.length=Y.flatMap cI:=zk (by rw[aS];omega);have c9:s.members.length<=X.length:=by omega
   have d0:s.members.length<=Y.length:=by omega
   refine⟨_,by simp only[go_sem,G,f3,t3,q6,q7,q8,tX,tY,c9,d0,a1,s3,c1];rfl,.inl ⟨_,rfl,?_⟩⟩;simp only[go_sem,t1,J,E];rw[eT];exact⟨rfl,by omega,c8,c2,fun o l e=>by simp only[V.rs.injEq]at e;omega⟩) (by
   rintro ⟨T,σ,nx⟩ ⟨t1,J,E,G,a9,s0,hg,b4⟩;simp only at t1 J E G a9 s0 hg b4;refine⟨_,by simp only[go_sem,E,G,zl];rfl,by simp,_,_,_,rfl,?_⟩;simp only[go_sem];rw[zk (zq _)]at hg;exact hg) (by
   simp only[go_sem];exact⟨.inl ⟨rfl,rfl⟩,fun _ _=>trivial⟩)
 obtain⟨ids,hs⟩:=qC (c:=cI) (s:=1) (fun _=>rfl) 6 (fun x=>by rw[aO,cO,bQ];rfl) h2;simp only[go_sem,hs]
theorem aaf(s:Structure)(E:List Int):E.flatMap (EF s)=(E.flatMap (qV s)).flatMap id:=by
 induction E with
 |nil=>rfl
 |cons j E G=>
  rw[zU,zU,zT,G];show EF s j++_=(((List.range s.members.length).map (eX s j))++(((List.range s.members.length).map (eY s j))++[]))++_;rw[zM];rfl
theorem ao0 {s:Structure}(h:SG s)(hm:s.members=[]):fn Tryz.prog conv ext 147 [.agg (cStructure s)]=some (LI []):=by
 have a0:=qE s;have XF:=h.nj;have Y:=abq h;rw[aH,ak [.tmp 2] [] Tryz.func147];unfold cStructure at Y⊢;rw[hm]at Y⊢;have Y:fn Tryz.prog conv ext 148 [.agg [LL cJoint s.joints,.ts [] 0]]=some (LI (free s)):=Y
 simp only[go_sem,Y];generalize hL:aF _ _=y;obtain⟨r,rfl,T',σ',nx',rfl,h2⟩:=aB hL (free s).length (fun i st=>st.T 1= .rp 0 0/\st.T 14=LI (free s)/\st.T 15=I (free s).length/\st.T 16=I i/\st.T 3= .nil/\0<st.nx/\st.σ 0=some ⟨[LL cJoint s.joints,.ts [] 0],0,true⟩)
  (fun r=>∃T σ nx',r=(.exit 0,⟨T,σ,nx'⟩)/\T 3= .nil) (by
   clear hL;rintro i ⟨T,σ,nx⟩ hi ⟨t1,J,G,E,S,O,s0⟩;simp only at t1 J G E S O s0;have f1:(i:Int)<((free s).length:Int):=by omega
   have f2:=aI i;have f3:=ah (n:=(i:Int)+1);have f4:=fB (free s) i hi;have f5:=idx hi;refine fD ?_
   conv=>
    enter [1,r,1,1]
    simp only[go_sem,t1,J,G,E,S,s0,f1,f2,f4,f5]
   generalize hL:aF _ _=z;obtain rfl:=loop_exit hL (by simp only[go_sem];rfl) (by simp);refine⟨_,by simp only[go_sem,S,E,f3];rfl,.inl ⟨_,rfl,?_⟩⟩;simp only[go_sem,t1,J,G,E,S];exact⟨rfl,O,s0⟩) (by
   rintro ⟨T,σ,nx⟩ ⟨t1,J,G,E,S,O,s0⟩;simp only at t1 J G E S O s0;refine⟨_,by simp only[go_sem,G,E,zl];rfl,by simp,_,_,_,rfl,?_⟩;simp only[go_sem,S]) (by
   simp only[go_sem];rfl)
 (simp only[go_sem,h2])<;>rfl
theorem ao1 {s:Structure}(h:SG s):fn Tryz.prog conv ext 147 [.agg (cStructure s)]=some (LI ((free s).flatMap (EF s))):=by
 by_cases hm:s.members=[]
 .have e:(free s).flatMap (EF s)=[]:=by
   rw[List.flatMap_eq_nil_iff];intro j _;unfold EF;rw[hm];rfl
  rw[e];exact ao0 h hm
 .exact avf h (List.length_pos_iff.mpr hm)
theorem Qe {C:Nat}:∀ {xs:List (List Int)} {i c:Nat},(∀x∈xs,x.length=C)->(hi:i<xs.length)->c<C->(xs.flatMap id)[i*C+c]?=(xs[i])[c]?
 |[],i,c,_,hi,_=>absurd hi (zW _)
 |x :: xs,0,c,hx,_,hc=>by
  rw[zU,Nat.zero_mul,yY,zV (by rw[id,hx x zN];exact hc)];rfl
 |x :: xs,i+1,c,hx,hi,hc=>by
  have E:=hx x zN;rw[zU,zQ (by rw[id,E,yA];omega),id,E,show(i+1)*C+c-C=i*C+c by rw[yA];omega,Qe (fun y G=>hx y (zY _ G)) (by simpa using hi) hc];rfl
def ak2(σ:Store)(nx:Nat)(G:List Int)(R C:Nat)(B:V)(p:Nat):Prop:=(p=0/\σ 3=some ⟨[I R,I C,.nil,B,.rs 2 0 C],0,true⟩)\/∃E,0<p/\3<E/\E<nx/\σ 3=some ⟨[I R,I C,.rs E 0 p,B,.rs 2 0 C],0,true⟩/\σ E=some ⟨(G.take p).flatMap cI,1,true⟩
theorem ahG {s:Structure}(h:SG s) {l:List Int}(hl:l.length=2*s.joints.length)(hb:∀x∈l,-100<=x/\x<=100) :
  fn Tryz.prog conv ext 120 [.agg (cStructure s),LI l]=some (.agg (jL (KD s) (lW s) (TG s) (JC s l) (List.replicate (lW s) 0))):=by
 have c6:=h.nm;have e9:=qE s;have XF:=h.nj;have f4:=lV s s.members.length;have k1:=Xp h;have k2:=ao1 h;have k3:=abq h;have k4:=aoZ h hl hb;have c7:=I_ s;obtain⟨E,hE⟩:∃E,E=jO s (free s).length:=⟨_,rfl⟩;obtain⟨K,hK⟩:∃K,K=cols s s.members.length:=⟨_,rfl⟩;obtain⟨RF,b2⟩:∃RF,RF=(free s).flatMap (EF s):=⟨_,rfl⟩;obtain⟨R,eR⟩:∃R,R=KD s:=⟨_,rfl⟩;obtain⟨C,eC⟩:∃C,C=lW s:=⟨_,rfl⟩;have hR:E.length=R:=by rw[hE,eR];exact c7
 have hC:K.length=C:=by rw[hK,eC];rfl
 have c8:R<=12:=by rw[eR];unfold KD;omega
 have c9:C<=16:=by rw[<- hC,hK];omega
 have b3:(TG s).length=R*C:=by rw[eR,eC];exact KC s
 have f7:R*C<=12*16:=yF c8 c9;rw[<- hK]at k1;rw[<- b2]at k2;rw[<- eR,<- eC];have k1:fn Tryz.prog conv ext 146 [.agg (cStructure s)]=some (.dS [.ts ((K.map Au).flatMap cI) C,LI (K.map BR)]):=by rw[k1,<- hC];show some (V.dS [V.ts _ (K.map Au).length,_])=_;rw[zO]
 have f0:=aI C;have f5:8*(C:Int)<=281474976710656:=by omega
 have f6:(C:Int)<=9223372036854775807:=by omega
 have e2:2*((free s).length:Int)=(R:Int):=by rw[eR];unfold KD;omega
 have w2:=ah (n:=(R:Int));rw[aH,ak [.cell 4 152] [4,11] Tryz.func120];unfold cStructure at k1 k2 k3 k4⊢;simp only[go_sem,k1,k2,k3,k4,e2,w2,f0,f5,f6];generalize hL:aF _ _=y;obtain⟨FA,a4⟩:∃FA,FA=TG s:=⟨_,rfl⟩;rw[<- a4]at b3;have d0:RF=E.flatMap id:=by
  rw[b2,hE,aaf];unfold jO;rw[yg]
 have b4:∀r∈E,r.length=s.members.length:=by rw[hE];exact fun r hr=>PO hr
 have d1:∀i c (hi:i<R) (hc:c<C) (hq:i*C+c<FA.length),FA[i*C+c]=(K[c]'(by omega)).2*(E[i]'(by omega)).getD (K[c]'(by omega)).1.toNat 0:=fun i c hi hc hq=>by
  have:=flat_get (fun r:List Int=>K.map fun p=>p.2*r.getD p.1.toNat 0) (C:=C) (fun _=>by rw[zO];exact hC) E (i:=i) (c:=c) (by omega) hc;rw[yX,zy (l:=K) (i:=c) (by omega)]at this;have e2:FA=E.flatMap fun r=>K.map fun p=>p.2*r.getD p.1.toNat 0:=by rw[a4,hE,hK];rfl
  rw[<- e2,zy hq]at this;exact Option.some.inj this
 have d2:∀x∈FA,-1000<=x/\x<=1000:=by rw[a4];exact ZL h
 obtain⟨x,rfl,T1,a6,aP,rfl,S,O,f8,d3,d4,d5⟩:=aB hL R (fun i st=>st.T 4= .rp 1 0/\st.T 5= .ts ((K.map Au).flatMap cI) C/\st.T 6=LI (K.map BR)/\st.T 7=I s.members.length/\st.T 8=LI RF/\st.T 9= .rp 3 0/\st.T 10=I i/\3<st.nx/\st.σ 1=some ⟨[I 0,I 0,.nil,.nil,.nil],0,true⟩/\st.σ 2=some ⟨(List.replicate C 0).flatMap cI,1,true⟩/\ak2 st.σ st.nx FA R C (LI (JC s l)) (i*C))
  (fun x=>∃T σ nx,x=(.exit 0,⟨T,σ,nx⟩)/\T 4= .rp 1 0/\T 9= .rp 3 0/\3<nx/\σ 1=some ⟨[I 0,I 0,.nil,.nil,.nil],0,true⟩/\σ 2=some ⟨(List.replicate C 0).flatMap cI,1,true⟩/\ak2 σ nx FA R C (LI (JC s l)) (R*C)) (by
   clear hL;rintro i ⟨T,σ,nx⟩ hi ⟨S,t5,t6,t7,t8,O,G,J,s1,s2,hA⟩;simp only at S t5 t6 t7 t8 O G J s1 s2 hA;have f1:(i:Int)<(R:Int):=by omega
   have f2:=aI i;have f3:=ah (n:=(i:Int)+1);obtain⟨vA,a2⟩:∃vA,σ 3=some ⟨[I R,I C,vA,LI (JC s l),.rs 2 0 C],0,true⟩:=by
    rcases hA with ⟨-,h3⟩|⟨ba,-,-,-,h3,-⟩<;>exact⟨_,h3⟩
   refine fD ?_
   conv=>
    enter [1,r,1,1]
    simp only[go_sem,t5,O,G,a2,f1]
   generalize hL:aF _ _=z;obtain⟨x,rfl,T2,σ2,jo,rfl,S,t5,t6,t7,t8,O,G,d6,s1,s2,b5⟩:=aB hL C (fun c st=>st.T 4= .rp 1 0/\st.T 5= .ts ((K.map Au).flatMap cI) C/\st.T 6=LI (K.map BR)/\st.T 7=I s.members.length/\st.T 8=LI RF/\st.T 9= .rp 3 0/\st.T 10=I i/\st.T 42= .ts ((K.map Au).flatMap cI) C/\st.T 43=I C/\st.T 44=I c/\3<st.nx/\st.σ 1=some ⟨[I 0,I 0,.nil,.nil,.nil],0,true⟩/\st.σ 2=some ⟨(List.replicate C 0).flatMap cI,1,true⟩/\ak2 st.σ st.nx FA R C (LI (JC s l)) (i*C+c))
    (fun x=>∃T σ nx,x=(.exit 2,⟨T,σ,nx⟩)/\T 4= .rp 1 0/\T 5= .ts ((K.map Au).flatMap cI) C/\T 6=LI (K.map BR)/\T 7=I s.members.length/\T 8=LI RF/\T 9= .rp 3 0/\T 10=I i/\3<nx/\σ 1=some ⟨[I 0,I 0,.nil,.nil,.nil],0,true⟩/\σ 2=some ⟨(List.replicate C 0).flatMap cI,1,true⟩/\ak2 σ nx FA R C (LI (JC s l)) (i*C+C)) (by
     clear hL;rintro c ⟨T,σ,nx⟩ hc ⟨S,t5,t6,t7,t8,O,G,a0,Y,a1,J,s1,s2,hA⟩;simp only at S t5 t6 t7 t8 O G a0 Y a1 J s1 s2 hA;have d7:K[c]'(by omega)∈cols s s.members.length:=by rw[<- hK];exact zu _
     obtain⟨⟨q,b6,d8⟩,f9⟩:=Ai d7;obtain⟨u,eu⟩:∃u,u=(K[c]'(by omega)).2:=⟨_,rfl⟩;have a7:i*C+c<FA.length:=by
      have:(i+1)*C<=R*C:=zG _ (by omega);rw[yA]at this;omega
     obtain⟨e,ee⟩:∃e,e=(E[i]'(by omega)).getD q 0:=⟨_,rfl⟩;have a8:=d1 i c hi hc a7;rw[b6,yw,<- ee,<- eu]at a8;have d9:=d2 _ (zu a7);rw[a8]at d9;have g1:(c:Int)<(C:Int):=by omega
     have g2:=aI c;have g3:=ah (n:=(c:Int)+1);have g4:=idx (xs:=K.map Au) (k:=c) (by rw[zO];omega);rw[xq,show Au (K[c]'(by omega))=(q:Int)from b6]at g4;have g5:=idx (xs:=K.map BR) (k:=c) (by rw[zO];omega);rw[xq,show BR (K[c]'(by omega))=u from eu.symm]at g5;have g6:=fB (K.map Au) c (by rw[zO];omega);have g7:=fB (K.map BR) c (by rw[zO];omega);have g8:(c:Int)<((K.map BR).length:Int):=by rw[zO];omega
     have g0:i*s.members.length<=12*8:=yF (by omega) c6;have e3:(i:Int)*(s.members.length:Int)=((i*s.members.length:Nat):Int):=by push_cast;rfl
     have w1:=ah (n:=((i*s.members.length:Nat):Int));have e4:((i*s.members.length:Nat):Int)+(q:Int)=((i*s.members.length+q:Nat):Int):=by push_cast;rfl
     have b7:=ah (n:=((i*s.members.length+q:Nat):Int));have w3:=ah (n:=u*e);have h5:=b4 _ (zu (l:=E) (n:=i) (by omega));have a5:RF[i*s.members.length+q]?=some e:=by
      rw[d0,Qe b4 (by omega) d8,ee,zx,zy (by omega)];rfl
     have a9:i*s.members.length+q<RF.length:=by
      refine zf fun hn=>?_
      rw[yc (by omega)]at a5;cases a5
     have g9:=idx (xs:=RF) a9;rw[zy a9]at a5;rw[Option.some.inj a5]at g9;have b8:((i*s.members.length+q:Nat):Int)<(RF.length:Int):=by omega
     have b9:(0:Int)<=((i*s.members.length+q:Nat):Int):=by omega
     have c0:=fB RF _ a9;have c2:FA.take (i*C+(c+1))=FA.take (i*C+c)++[u*e]:=by
      rw[<- Nat.add_assoc,yO,zy a7,a8];rfl
     have h6:i*C+c<=200:=by omega
     have y1:3<nx:=by omega
     have y2:¬3=nx:=by omega
     have y3:(3==nx)=false:=by rw[w_];omega
     have y4:(nx==3)=false:=by rw[w_];omega
     have y5:3<nx+1:=by omega
     have y6:¬3=nx+1:=by omega
     have y7:(3==nx+1)=false:=by rw[w_];omega
     have y8:(nx+1==3)=false:=by rw[w_];omega
     have y9:3<nx+1+1:=by omega
     have Xh:¬3=nx+1+1:=by omega
     have Xi:(3==nx+1+1)=false:=by rw[w_];omega
     have Xj:(nx+1+1==3)=false:=by rw[w_];omega
     have c3:nx<nx+1:=by omega
     have Xk:nx+1<nx+1+1:=by omega
     rcases hA with ⟨h0,h3⟩|⟨ba,h0,h1,h2,h3,h4⟩
     .refine .inl ⟨_,by simp only[go_sem,S,t5,t6,t7,t8,O,G,a0,Y,a1,h3,g1,g2,g3,g4,g5,g6,g7,g8,e3,w1,e4,b7,w3,g9,b8,b9,c0,y1,y2,y3,y4,y5,y6,y7,y8,y9,Xh,Xi,Xj,c3,Xk];rfl,?_⟩
      simp only[go_sem,S,t5,t6,t7,t8,O,G,a0,Y];refine⟨rfl,by omega,?_,?_,.inr ⟨nx+1,by omega,by omega,by omega,?_,?_⟩⟩
      .repeat rw[ay]
       exact s1
      .repeat rw[ay]
       exact s2
      .rw[upd_same,show i*C+(c+1)=1 by omega]
      .rw[ay,upd_same,c2,h0];rfl
     .have c4:=kQ (σ:=restrict (upd σ nx (some ⟨[I (u*e)],1,true⟩)) [ba,nx]) (nx:=nx+1) (bytes:=8) (b:=ba) (len:=i*C+c) (m:=1) (row:=[I (u*e)]) (by rw[fF,ay];exact h4) (by show((FA.take (i*C+c)).flatMap cI).length=_;rw[aS,zh];omega) rfl (by decide) (by unfold maxLen;omega) (by omega) rfl
      have x1:ba<nx+1:=by omega
      have x2:(3==ba)=false:=by rw[w_];omega
      have x3:(ba==3)=false:=by rw[w_];omega
      have x4:¬3=ba:=by omega
      refine .inl ⟨_,by simp only[go_sem,S,t5,t6,t7,t8,O,G,a0,Y,a1,h3,g1,g2,g3,g4,g5,g6,g7,g8,e3,w1,e4,b7,w3,g9,b8,b9,c0,c4,x1,x2,x3,x4,y1,y2,y3,y4,y5,y6,y7,y8,y9,Xh,Xi,Xj,c3,Xk];rfl,?_⟩;simp only[go_sem,S,t5,t6,t7,t8,O,G,a0,Y];refine⟨rfl,by omega,?_,?_,.inr ⟨nx+1,by omega,by omega,by omega,?_,?_⟩⟩
      .repeat rw[ay]
       exact s1
      .repeat rw[ay]
       exact s2
      .rw[upd_same];rfl
      .rw[ay,upd_same,c2,zT];rfl) (by
     clear hL;rintro ⟨T,σ,nx⟩ ⟨S,t5,t6,t7,t8,O,G,a0,Y,a1,J,s1,s2,hA⟩;simp only at S t5 t6 t7 t8 O G a0 Y a1 J s1 s2 hA;refine⟨_,by simp only[go_sem,Y,a1,zl];rfl,by simp,_,_,_,rfl,?_⟩;simp only[go_sem,S,t5,t6,t7,t8,O,G];exact⟨J,s1,s2,hA⟩) (by
     simp only[go_sem,S,t5,t6,t7,t8,O,G];exact⟨J,s1,s2,hA⟩)
   refine⟨_,by simp only[go_sem,G,f3];rfl,.inl ⟨_,rfl,?_⟩⟩;simp only[go_sem,S,t5,t6,t7,t8,O];rw[<- yA]at b5;exact⟨rfl,d6,s1,s2,b5⟩) (by
   clear hL;rintro ⟨T,σ,nx⟩ ⟨S,t5,t6,t7,t8,O,G,J,s1,s2,hA⟩;simp only at S t5 t6 t7 t8 O G J s1 s2 hA;obtain⟨vA,a2⟩:∃vA,σ 3=some ⟨[I R,I C,vA,LI (JC s l),.rs 2 0 C],0,true⟩:=by
    rcases hA with ⟨-,h3⟩|⟨ba,-,-,-,h3,-⟩<;>exact⟨_,h3⟩
   refine⟨_,by simp only[go_sem,O,G,a2,zl];rfl,by simp,_,_,_,rfl,?_⟩;simp only[go_sem,S,O];exact⟨J,s1,s2,hA⟩) (by
   simp only[go_sem];refine⟨by rw[<- lT],.inl ⟨rfl,by rw[upd_same]⟩⟩)
 clear hL;obtain⟨vA,a2,e0,e1⟩:∃vA,a6 3=some ⟨[I R,I C,vA,LI (JC s l),.rs 2 0 C],0,true⟩/\aT vA=true/\∀σ',(∀y,y≠1->σ' y=a6 y)->∃ids,strip σ' 6 vA=some (LI FA,ids):=by
  rcases d5 with ⟨h0,h3⟩|⟨ba,h0,h1,h2,h3,h4⟩
  .have:FA=[]:=zZ (by omega)
   exact⟨_,h3,rfl,fun σ' _=>⟨[],by rw[strip_nil,this];rfl⟩⟩
  .rw[zk (by omega)]at h4
   exact⟨_,h3,rfl,fun σ' e5=>⟨_,dO ((e5 ba (by omega)).trans h4) b3 5⟩⟩
 obtain⟨a3,e8⟩:∃a3,a3=upd a6 1 (some ⟨[I R,I C,vA,LI (JC s l),.rs 2 0 C],0,true⟩):=⟨_,rfl⟩;have e6:a3 1=some ⟨[I R,I C,vA,LI (JC s l),.rs 2 0 C],0,true⟩:=by rw[e8,upd_same]
 obtain⟨i1,c5⟩:=e1 a3 fun y hy=>by rw[e8,upd_ne _ _ hy]
 have e7:=dO (σ:=a3) (b:=2) (xs:=List.replicate C 0) (by rw[e8,upd_ne _ _ (by decide)];exact d4) (n:=C) (by simp) 5;rw[a4]at c5;simp only[go_sem,S,O,a2,d3,e0,<- e8,e6,c5,e7,aO]
 try rfl
end Go.Proofs.YtehdaknhabeiaaaGreat
namespace Go.Proofs.YtehdaknhabeiaaaGreat
open Go Go.TV Go.Lp
theorem ayi {s:Structure}(h:SG s) {l:List Int}(hb:∀x∈l,-100<=x/\x<=100):PrS (TG s) (JC s l) (List.replicate (lW s) 0) (KD s) (lW s):=by
 have E:=qE s;have S:=h.nj;have G:=h.nm;have J:=lV s s.members.length;refine⟨KC s,by rw[SL];rfl,by simp,?_,?_,ZL h,agV hb,fun x O=>?_⟩
 .unfold KD;omega
 .unfold lW;omega
 .rw[(List.mem_replicate.mp O).2];decide
theorem ak4 {s:Structure}(h:SG s) {l:List Int}(hb:∀x∈l,-100<=x/\x<=100) :
  ∃r,fn Tryz.prog aU bU 119 [.agg (jL (KD s) (lW s) (TG s) (JC s l) (List.replicate (lW s) 0))]=some r/\ava (Ib s l) r:=aoW (ayi h hb)
attribute [-go_sem] bK
theorem ahH {a b:Nat}(x y:Rat)(G:Ln a x)(J:Ln b y)(E:a+b<=23):fn Tryz.prog conv ext 152 [.agg (cQ x),.agg (cQ y)]=some (.agg (cQ (x+y))):=by
 have o1:=SY x (G.mono (by omega));have O:=SY y (J.mono (by omega));have S:=abk x y G J E;unfold cQ at *;rw[aH,ak [.cell 4 147] [] Tryz.func152];simp only[go_sem,o1,O,S]
theorem ahI {a b:Nat}(x y:Rat)(J:Ln a x)(E:Ln b y)(G:a+b<=23):fn Tryz.prog conv ext 153 [.agg (cQ x),.agg (cQ y)]=some (.agg (cQ (x-y))):=by
 have o1:=SY x (J.mono (by omega));have S:=SY y (E.mono (by omega));have Y:=afz y (by have:=E.1;omega) (by have:=E.2;omega);have O:=abk x (-y) J (Tj E) G;rw[<- Rat.sub_eq_add_neg]at O;unfold cQ at *;rw[aH,ak [.cell 4 147] [] Tryz.func153];simp only[go_sem,o1,S,Y,O]
theorem aag {xs:List Rat}(h:∀x∈xs,Ln 24 x)(hl:xs.length<=1000):fn Tryz.prog conv ext 150 [LL cQ xs]=some (Bo true):=by
 rw[aH,ak [.tmp 2] [] Tryz.func150];simp only[go_sem];generalize S:aF _ _=y;obtain⟨r,rfl,T',σ',nx',rfl⟩:=aB S xs.length (fun k st=>st.T 5=LL cQ xs/\st.T 6=I xs.length/\st.T 7=I k)
  (fun r=>∃T σ nx',r=(.exit 0,⟨T,σ,nx'⟩)) (by
   clear S;rintro k ⟨T,σ,nx⟩ O ⟨G,E,J⟩;simp only at G E J;have Y:(k:Int)<(xs.length:Int):=by omega
   have f2:=aI k;have f3:=ah (n:=(k:Int)+1);have f4:=slot (c:=cQ) (s:=3) bD xs k O;have f5:=aN (c:=cQ) (s:=3) bD xs;have f6:k*3+3<=xs.length*3:=by omega
   have f7:=slot_ne (c:=cQ) (s:=3) bD (by omega) xs k O;have k1:=SY xs[k] (h _ (zu O));refine .inl ⟨_,by simp only[go_sem,G,E,J,Y,f2,f3,f4,f5,f6,f7,k1];rfl,?_⟩;simp only[go_sem,G,E];rfl) (by
   rintro ⟨T,σ,nx⟩ ⟨G,E,J⟩;simp only at G E J;exact⟨_,by simp only[go_sem,E,J,zl];rfl,by simp,_,_,_,rfl⟩) (by
   simp only[go_sem])
 simp only[go_sem]
theorem avg:fn Tryz.prog conv ext 210 []=some (.agg (cQ 0)):=by
 have E:fn Tryz.prog conv ext 144 [I 0]=some (.agg (cQ 0)):=mZ 0 (by decide) (by decide)
 rw[aH,ak [.cell 0 147] [] Tryz.func210];simp only[go_sem,E]
theorem ao3(n:Nat)(hn:n<=1000)(σ:Store)(nx:Nat):∃v σ' nx',ev Tryz.prog aU bU 181 [I n] σ nx=some (v,σ',nx')/\nx<=nx'/\DF v σ' nx nx' (List.replicate n (0:Rat))/\∀y,y<nx->σ' y=σ y:=by
 have k0:=avg;rw[ak [.tmp 2] [] Tryz.func181];simp only[go_sem];generalize hL:aF _ _=y;obtain⟨r,rfl,T',σ',nx',rfl,O,G,Ae⟩:=aB hL n (fun k st=>st.T 0=I n/\nx<=st.nx/\DF (st.T 3) st.σ nx st.nx (List.replicate k (0:Rat))/\∀y,y<nx->st.σ y=σ y)
  (fun r=>∃T σ' nx',r=(.exit 0,⟨T,σ',nx'⟩)/\nx<=nx'/\DF (T 3) σ' nx nx' (List.replicate n (0:Rat))/\∀y,y<nx->σ' y=σ y) (by
   clear hL;rintro k ⟨T,S,aP⟩ hk ⟨t0,E,hA,fr⟩;simp only at t0 E hA fr;have f1:(k:Int)<(n:Int):=by omega
   have hlen:mP Tryz.prog 98 (T 3)=some (I k):=by
    rcases hA with ⟨J,G⟩|⟨b,J,G,h3,Y,h5⟩
    .rw[G]
     have:k=0:=by have:=congrArg List.length J;simpa using this
     rw[this];exact oN (by kernel_rfl)
    .rw[Y,z_];exact sG (by kernel_rfl)
   obtain⟨σ',a1,a2,a3⟩:=qG hA E 0 (by rw[z_];omega);rw[z_]at a1 a2;refine .inl ⟨_,by simp only[go_sem,t0,hlen,f1,k0,a1];rfl,?_⟩;simp only[go_sem,t0];rw[List.replicate_succ'];exact⟨by omega,a2,fun y hy=>(a3 y hy).trans (fr y hy)⟩) (by
   rintro ⟨T,S,aP⟩ ⟨t0,E,hA,fr⟩;simp only at t0 E hA fr;have hlen:mP Tryz.prog 98 (T 3)=some (I n):=by
    rcases hA with ⟨J,G⟩|⟨b,J,G,h3,Y,h5⟩
    .rw[G]
     have:n=0:=by have:=congrArg List.length J;simpa using this
     rw[this];exact oN (by kernel_rfl)
    .rw[Y,z_];exact sG (by kernel_rfl)
   refine⟨_,by simp only[go_sem,t0,hlen,zl];rfl,by simp,_,_,_,rfl,?_⟩;simp only[go_sem];exact⟨E,hA,fr⟩) (by
   simp only[go_sem];exact⟨.inl ⟨rfl,rfl⟩,fun _ _=>trivial⟩)
 exact⟨_,σ',nx',by simp only[go_sem],O,G,Ae⟩
def Ic(K:List (Int×Int))(X:List Rat)(nm:Nat):Nat->List Rat
 |0=>List.replicate nm 0
 |c+1=>(Ic K X nm c).set (K.getD c (0,0)).1.toNat ((Ic K X nm c).getD (K.getD c (0,0)).1.toNat 0+sgQ (K.getD c (0,0)).2 (X.getD c 0))
theorem rG(K:List (Int×Int))(X:List Rat)(nm:Nat):∀c,(Ic K X nm c).length=nm
 |0=>by simp[Ic]
 |c+1=>by rw[Ic,yG];exact rG K X nm c
def Xq(K:List (Int×Int))(k c:Nat):Nat:=((K.take c).filter fun p=>p.1.toNat==k).length
theorem Qg {K:List (Int×Int)} {c:Nat}(h:c<K.length)(k:Nat):Xq K k (c+1)=Xq K k c+if K[c].1.toNat=k then 1 else 0:=by
 unfold Xq;rw[yO,zy h,List.filter_append,zo];congr 1
 by_cases e:K[c].1.toNat=k
 .simp[e]
 .simp[e]
theorem Tt(K:List (Int×Int))(k c:Nat):Xq K k c<=(K.filter fun p=>p.1.toNat==k).length :=
 ((List.take_sublist c K).filter _).length_le
theorem aah(m:Member)(j k:Nat):((vJ m j).filter fun p=>p.1.toNat==k).length<=(if j=k then 2 else 0)/\(j=k->0<((vJ m j).filter fun p=>p.1.toNat==k).length):=by
 unfold vJ
 by_cases E:m.kind=2<;>by_cases G:m.kind=1<;>by_cases e:j=k<;>simp[E,G,e]
theorem NS(s:Structure)(k:Nat):∀n,((cols s n).filter fun p=>p.1.toNat==k).length<=(if k<n then 2 else 0)/\(k<n->0<((cols s n).filter fun p=>p.1.toNat==k).length)
 |0=>by simp[cols]
 |n+1=>by
  obtain⟨E,O⟩:=NS s k n;obtain⟨J,S⟩:=aah (mem s n) n k;rw[Eu,List.filter_append,zo]
  by_cases e:n=k
  .subst e
   rw[if_neg (Nat.lt_irrefl _)]at E;rw[if_pos rfl]at J;rw[if_pos (Nat.lt_succ_self _)];exact⟨by omega,fun _=>by have:=S rfl;omega⟩
  .rw[if_neg e]at J
   by_cases G:k<n
   .rw[if_pos G]at E
    rw[if_pos (by omega)];exact⟨by omega,fun _=>by have:=O G;omega⟩
   .rw[if_neg G]at E
    rw[if_neg (by omega)];exact⟨by omega,fun h=>by omega⟩
theorem yI {α:Type}(l:List α)(i k:Nat)(v d:α)(h:i<l.length):(l.set i v).getD k d=if i=k then v else l.getD k d:=by
 rw[zx,zx,List.getElem?_set]
 by_cases e:i=k
 .subst e;rw[if_pos rfl,if_pos h,if_pos rfl];rfl
 .rw[if_neg e,if_neg e]
theorem avh {k:Nat} {q:Rat}(s:Int)(h:Ln k q):Ln k (sgQ s q):=by
 unfold sgQ
 split
 .exact Tj h
 .exact h
section
variable {K:List (Int×Int)} {X:List Rat} {nm:Nat}
def DnI(K:List (Int×Int))(X:List Rat)(nm c k:Nat):Prop:=(Xq K k c=0/\(BI K X nm c).getD k none=none/\(Ic K X nm c).getD k 0=0) \/
 (0<Xq K k c/\(BI K X nm c).getD k none=some ((Ic K X nm c).getD k 0)/\Ln (7*Xq K k c) ((Ic K X nm c).getD k 0))
theorem Tv(S:∀x∈X,Ln 6 x)(Y:∀k,(K.filter fun p=>p.1.toNat==k).length<=2)(hk:∀c (h:c<K.length),K[c].1.toNat<nm):∀c,c<=K.length->∀k,k<nm->DnI K X nm c k
 |0,_,k,hkn=> .inl ⟨rfl,by
   rw[BI,zx,List.getElem?_replicate,if_pos hkn];rfl,by
   rw[Ic,zx,List.getElem?_replicate,if_pos hkn];rfl⟩
 |c+1,hc,k,hkn=>by
  have ih:=Tv S Y hk c (by omega) k hkn;have G:=hk c (by omega);have e1:K.getD c (0,0)=K[c]'(by omega):=by rw[zx,zy (by omega)];rfl
  have hx:Ln 6 (X.getD c 0):=by
   rw[zx]
   by_cases hc:c<X.length
   .rw[zy hc];exact S _ (zu hc)
   .rw[yc (by omega)];exact(mO (z:=0) (by decide)).mono (by decide)
  have E:=Qg (K:=K) (c:=c) (by omega) k;have hle:=zL (Tt K k (c+1)) (Y k);unfold DnI;rw[BI,Ic,e1,yI _ _ _ _ _ (by rw[uQ];exact G),yI _ _ _ _ _ (by rw[rG];exact G)];have hv:=avh (K[c]'(by omega)).2 hx;generalize sgQ (K[c]'(by omega)).2 (X.getD c 0)=v at *
  by_cases e:(K[c]'(by omega)).1.toNat=k
  .rw[if_pos e]at E
   rw[if_pos e,if_pos e,e];refine .inr ⟨by omega,?_⟩;rcases ih with ⟨i1,J,O⟩|⟨i1,J,O⟩
   .rw[J,O]
    have:(0:Rat)+v=v:=by grind
    rw[this];exact⟨rfl,hv.mono (by omega)⟩
   .rw[J]
    have hs:=ZH O hv;exact⟨adk (hs.mono (by omega)),hs.mono (by omega)⟩
  .rw[if_neg e]at E
   rw[if_neg e,if_neg e,E];exact ih
theorem avi(S:∀x∈X,Ln 6 x)(J:∀k,(K.filter fun p=>p.1.toNat==k).length<=2)(O:∀c (h:c<K.length),K[c].1.toNat<nm) {c:Nat}(hc:c<K.length):Ln 7 ((Ic K X nm c).getD K[c].1.toNat 0):=by
 have hle:=zL (Tt K K[c].1.toNat (c+1)) (J _);have E:=Qg hc K[c].1.toNat;rw[if_pos rfl]at E;rcases Tv S J O c (by omega) _ (O c hc)with ⟨Y,i2,G⟩|⟨Y,i2,G⟩
 .rw[G];exact(mO (z:=0) (by decide)).mono (by decide)
 .exact G.mono (by omega)
theorem ao4(Y:∀x∈X,Ln 6 x)(O:∀k,(K.filter fun p=>p.1.toNat==k).length<=2)(hk:∀c (h:c<K.length),K[c].1.toNat<nm) {c:Nat}(hc:c<=K.length):∀q∈Ic K X nm c,Ln 14 q:=fun q hq=>by
 obtain⟨k,E,e⟩:=yV hq;have J:k<nm:=by rw[rG]at E;exact E
 have S:(Ic K X nm c).getD k 0=q:=by rw[zx,zy E,<- e];rfl
 have hle:=zL (Tt K k c) (O _);rcases Tv Y O hk c hc _ J with ⟨i1,i2,G⟩|⟨i1,i2,G⟩
 .rw[S]at G;rw[G];exact(mO (z:=0) (by decide)).mono (by decide)
 .rw[S]at G;exact G.mono (by omega)
theorem Qh:∀l:List Rat,iK (l.map some)=some l
 |[]=>rfl
 |q :: l=>by
  show(iK (l.map some)).map _=_;rw[Qh l];rfl
theorem avj(S:∀x∈X,Ln 6 x)(Y:∀k,(K.filter fun p=>p.1.toNat==k).length<=2)(h1:∀k,k<nm->0<(K.filter fun p=>p.1.toNat==k).length)(hk:∀c (h:c<K.length),K[c].1.toNat<nm):iK (BI K X nm K.length)=some (Ic K X nm K.length):=by
 rw[<- Qh];congr 1;refine yR (by rw[uQ,zO,rG]) fun k G g2=>?_
 have E:k<nm:=by rw[uQ]at G;exact G
 have e1:(BI K X nm K.length).getD k none=(BI K X nm K.length)[k]:=by rw[zx,zy G];rfl
 have e2:(Ic K X nm K.length).getD k 0=(Ic K X nm K.length)[k]'(by rw[rG];exact E):=by rw[zx,zy (by rw[rG];exact E)];rfl
 have h3:=h1 k E;rcases Tv S Y hk K.length (zq _) k E with ⟨J,O,i3⟩|⟨J,O,i3⟩
 .unfold Xq at J;rw[yg]at J;omega
 .rw[<- e1,O,xq,e2]
end
def NT(s:Structure)(x:Nat->Rat):List Rat:=Ic (cols s s.members.length) ((List.range (lW s)).map x) s.members.length (lW s)
theorem adV(s:Structure)(x:Nat->Rat):(NT s x).length=s.members.length:=rG _ _ _ _
theorem aai(s:Structure)(k:Nat):((cols s s.members.length).filter fun p=>p.1.toNat==k).length<=2:=by
 have:=(NS s k s.members.length).1
 split at this<;>omega
theorem aaj(s:Structure):∀c (h:c<(cols s s.members.length).length),(cols s s.members.length)[c].1.toNat<s.members.length:=fun c h=>by
 obtain⟨⟨q,e,E⟩,-⟩:=Ai (zu h);rw[e,yw];exact E
theorem ao5 {x:Nat->Rat} {n:Nat}(h:∀j,j<n->Ln 6 (x j)):∀y∈(List.range n).map x,Ln 6 y:=fun y E=>by
 obtain⟨j,G,rfl⟩:=List.mem_map.mp E;exact h j (List.mem_range.mp G)
theorem Xr {s:Structure} {x:Nat->Rat}(h:∀j,j<lW s->Ln 6 (x j)):∀q∈NT s x,Ln 14 q:=ao4 (ao5 h) (aai s) (aaj s) (zq _)
theorem ahJ {s:Structure} {x:Nat->Rat}(h:∀j,j<lW s->Ln 6 (x j)):iK (BI (cols s s.members.length) ((List.range (lW s)).map x) s.members.length (lW s))=some (NT s x) :=
 avj (ao5 h) (aai s) (fun k E=>(NS s k _).2 E) (aaj s)
theorem H6 {s:Structure} {l:List Int} {x:Nat->Rat}(h:(Ib s l).Best x)(G:(Ib s l).Open):False:=by
 obtain⟨y,J,E⟩:=G 1;have e:ob (Ib s l).n (Ib s l).c y=0:=by
  unfold ob;refine ji fun j O=>?_
  have:(Ib s l).c j=0:=by
   show((((List.replicate (lW s) (0:Int)).getD j 0:Int)):Rat)=0;rw[zx]
   by_cases hc:j<lW s
   .rw[List.getElem?_replicate,if_pos hc];rfl
   .rw[List.getElem?_replicate,if_neg hc];rfl
  rw[this];grind
 rw[e]at E;exact absurd E (by decide)
def badR:List V:=[Bo false,.ts [] 0,.ts [] 0]
def cR(a:Option Rat):List V:=match a with
 |none=>badR
 |some q=>cQ q
theorem ao6(a:Option Rat):(cR a).length=3:=by cases a<;>rfl
theorem ahK(a:Option Rat):(cR a).all aT=true:=by cases a<;>rfl
theorem ak5(a:Option Rat):(cR a).take 3=cR a:=by cases a<;>rfl
theorem adW(x y z:V)(a:Option Rat):patch [x,y,z] 0 (cR a)=cR a:=by cases a<;>rfl
theorem ahL(σ:Store)(d:Nat)(a:Option Rat):stripL (strip σ d) (cR a)=some (cR a,[]):=by
 cases a with
 |none=>unfold cR badR;rw[aO,cO,aO,qh,aO,qh,bQ];rfl
 |some q=>exact nX σ d q
attribute [go_sem] ao6 ahK ak5 adW ahL
theorem avk(neg:Bool)(m n:Nat)(hm:ln m<=1000)(h0:n≠0)(hn:ln n<=1000) :
  fn Tryz.prog conv ext 202 [Bo neg,LI (dg m),LI (dg n)]=some (.agg (if ln (m / Nat.gcd m n)<=24/\ln (n / Nat.gcd m n)<=24 then [Bo (neg && decide (0<(dg (m / Nat.gcd m n)).length)),LI (dg (m / Nat.gcd m n)),LI (dg (n / Nat.gcd m n))]else badR)):=by
 have a0:Nat.gcd m n≠0:=fun e=>h0 (Nat.eq_zero_of_gcd_eq_zero_right e)
 have a1:Nat.gcd m n<=n:=Nat.gcd_le_right _ (by omega);have a2:n / Nat.gcd m n≠0:=by
  have:=Nat.div_pos a1 (by omega);omega
 have hg:=fQ a1;have Y:=ER (dg m) (qp (by omega));have k2:=ER (dg n) (qp (by omega));rw[pJ]at Y k2;have G:=O7 n (by omega);have k4:=ag0 m n (by omega) (by omega);have J:=O7 (Nat.gcd m n) (by omega);have k6:=WR m (Nat.gcd m n) a0 (by omega) (by omega);have k7:=WR n (Nat.gcd m n) a0 (by omega) (by omega);have l0:(((dg n).length:Int)==0)=false:=by rw[w_];have:=jh (iH h0);omega
 have z1:¬(dg (n / Nat.gcd m n)).length=0:=jh (iH a2)
 by_cases r1:ln (m / Nat.gcd m n)<=24
 .by_cases r2:ln (n / Nat.gcd m n)<=24
  .rw[if_pos ⟨r1,r2⟩]
   have k8:=afq neg (dg (m / Nat.gcd m n)) (qp (by omega)) (by rw[pJ];show ln _<=60;omega);rw[pJ]at k8;have c1:¬(24:Int)<((dg (m / Nat.gcd m n)).length:Int):=by unfold ln at r1;omega
   have O:¬(24:Int)<((dg (n / Nat.gcd m n)).length:Int):=by unfold ln at r2;omega
   have s1:(dg (n / Nat.gcd m n)).length<=maxLen/\(dg (n / Nat.gcd m n)).length*8<=140737488355328:=by unfold maxLen;unfold ln at r2;omega
   rw[aH,ak [.cell 6 147] [] Tryz.func202]
   by_cases S:n=1
   .have E:Nat.gcd m n=1:=by rw[S,Nat.gcd_one_right]
    simp only[E,x9]at c1 O k8 z1 s1⊢;rw[vw S]at G;simp only[go_sem,Y,k2,G,k8,l0,c1,O,z1,s1]
   .rw[vk S]at G
    by_cases E:Nat.gcd m n=1
    .rw[vw E]at J
     rw[E]at k4 J;simp only[E,x9]at c1 O k8 z1 s1⊢;simp only[go_sem,Y,k2,G,k4,J,k8,l0,c1,O,z1,s1]
    .rw[vk E]at J
     simp only[go_sem,Y,k2,G,k4,J,k6,k7,k8,l0,c1,O,z1,s1]
  .rw[if_neg (fun h=>r2 h.2)]
   have c1:¬(24:Int)<((dg (m / Nat.gcd m n)).length:Int):=by unfold ln at r1;omega
   have O:(24:Int)<((dg (n / Nat.gcd m n)).length:Int):=by unfold ln at r2;omega
   unfold badR;rw[aH,ak [.cell 6 147] [] Tryz.func202]
   by_cases S:n=1
   .have E:Nat.gcd m n=1:=by rw[S,Nat.gcd_one_right]
    simp only[E,x9]at c1 O;rw[vw S]at G;simp only[go_sem,Y,k2,G,l0,c1,O]
   .rw[vk S]at G
    by_cases E:Nat.gcd m n=1
    .rw[vw E]at J
     rw[E]at k4 J;simp only[E,x9]at c1 O;simp only[go_sem,Y,k2,G,k4,J,l0,c1,O]
    .rw[vk E]at J
     simp only[go_sem,Y,k2,G,k4,J,k6,k7,l0,c1,O]
 .rw[if_neg (fun h=>r1 h.1)]
  have c1:(24:Int)<((dg (m / Nat.gcd m n)).length:Int):=by unfold ln at r1;omega
  unfold badR;rw[aH,ak [.cell 6 147] [] Tryz.func202]
  by_cases S:n=1
  .have E:Nat.gcd m n=1:=by rw[S,Nat.gcd_one_right]
   simp only[E,x9]at c1;rw[vw S]at G;simp only[go_sem,Y,k2,G,l0,c1]
  .rw[vk S]at G
   by_cases E:Nat.gcd m n=1
   .rw[vw E]at J
    rw[E]at k4 J;simp only[E,x9]at c1;simp only[go_sem,Y,k2,G,k4,J,l0,c1]
   .rw[vk E]at J
    simp only[go_sem,Y,k2,G,k4,J,k6,k7,l0,c1]
theorem avl(z:Int) {d:Nat}(h:d≠0):(mkRat z d).num.natAbs=z.natAbs / Nat.gcd z.natAbs d/\(mkRat z d).den=d / Nat.gcd z.natAbs d:=by
 have E:(Nat.gcd z.natAbs d:Int) ∣ z:=Int.ofNat_dvd_left.mpr (Nat.gcd_dvd_left _ _);have e:(mkRat z d).num=z / (Nat.gcd z.natAbs d:Nat)/\(mkRat z d).den=d / Nat.gcd z.natAbs d:=by
  rw[Rat.mkRat_def,dif_neg h,Rat.normalize_eq];exact⟨rfl,rfl⟩
 refine⟨?_,e.2⟩;rw[e.1,Int.natAbs_ediv_of_dvd E];rfl
theorem avm(z:Int)(d:Nat)(hz:ln z.natAbs<=1000)(G:d≠0)(hd:ln d<=1000)(b:Bool)(n:Nat)(hb:dP b n=z):fn Tryz.prog conv ext 202 [Bo b,LI (dg n),LI (dg d)]=some (.agg (cR (Ac (mkRat z d)))):=by
 have hn:n=z.natAbs:=by rw[<- hb];unfold dP;split<;>omega
 subst hn;rw[avk b z.natAbs d hz G hd];obtain⟨S,Y⟩:=avl z G;rw[<- S,<- Y];unfold Ac
 by_cases E:ln (mkRat z d).num.natAbs<=24/\ln (mkRat z d).den<=24
 .rw[if_pos E,if_pos E]
  show some (V.agg _)=some (V.agg (cQ (mkRat z d)));rw[afx z G,S,Y];unfold acW
  by_cases J:z.natAbs=0
  .rw[J,Nat.zero_div,bH];simp
  .have:b=decide (z<0):=by
    have O:=hb;unfold dP at O;cases b with
    |true=>rw[if_pos rfl]at O;rw[vw (by omega)]
    |false=>rw[if_neg (by decide)]at O;rw[vk (by omega)]
   rw[this]
 .rw[if_neg E,if_neg E]
  rfl
theorem ao7(a:Option Rat)(h:LnO 24 a):fn Tryz.prog conv ext 176 [.agg (cR a)]=some (Bo a.isSome):=by
 cases a with
 |some q=>exact SY q (h q rfl)
 |none=>
  have E:=OZ false [] (by unfold Short;simp);have G:=QY [] (by unfold Short;simp);have g:jy []:=⟨fun x J=>by(cases J),by simp,rfl⟩;rw[dZ g]at E G;have E:fn Tryz.prog conv ext 204 [.agg [Bo false,.ts [] 0]]=some (Bo true):=E
  have G:fn Tryz.prog conv ext 205 [.ts [] 0]=some (Bo true):=G
  show fn Tryz.prog conv ext 176 [.agg badR]=some (Bo false)
  unfold badR;rw[aH,ak [.tmp 2] [] Tryz.func176];simp only[go_sem,E,G]
theorem Xt(a b:Option Rat)(ha:LnO 24 a)(hb:LnO 24 b):fn Tryz.prog conv ext 182 [.agg (cR a),.agg (cR b)]=some (.agg (cR (FZ a b))):=by
 have o1:=ao7 a ha;have E:=ao7 b hb;cases a with
 |none=>
  show fn Tryz.prog conv ext 182 [.agg badR,.agg (cR b)]=some (.agg badR)
  have o1:fn Tryz.prog conv ext 176 [.agg badR]=some (Bo false):=o1
  have G:∃u v w,cR b=[u,v,w]:=by cases b<;>exact⟨_,_,_,rfl⟩
  obtain⟨u,v,w,e⟩:=G;rw[e];unfold badR at *;rw[aH,ak [.cell 4 147] [] Tryz.func182];simp only[go_sem,o1]
 |some x=>cases b with
  |none=>
   show fn Tryz.prog conv ext 182 [.agg (cQ x),.agg badR]=some (.agg badR)
   have o1:fn Tryz.prog conv ext 176 [.agg (cQ x)]=some (Bo true):=o1
   have E:fn Tryz.prog conv ext 176 [.agg badR]=some (Bo false):=E
   unfold badR at *;unfold cQ at *;rw[aH,ak [.cell 4 147] [] Tryz.func182];simp only[go_sem,o1,E]
  |some y=>
   have o1:fn Tryz.prog conv ext 176 [.agg (cQ x)]=some (Bo true):=o1
   have E:fn Tryz.prog conv ext 176 [.agg (cQ y)]=some (Bo true):=E
   have J:=ha x rfl;have O:=hb y rfl;have ux:=J.up (by omega);have uy:=O.up (by omega);have n1:=alA J O;have n2:=MJ J O;have k1:=vY x.num.natAbs y.num.natAbs ux.1 uy.1;have k2:=vY x.den y.den ux.2 uy.2;have S:=avm (dP (decide (x.num<0) !=decide (y.num<0)) (x.num.natAbs*y.num.natAbs)) (x.den*y.den) (by rw[S9];omega) (dd0 x y) (by omega) _ _ rfl;rw[<- aaW]at S;have e:∀a b:Bool,(!a==b)=(a !=b):=by decide
   have k4:fn Tryz.prog conv ext 207 [.agg (cQ x),.agg (cQ y)]=some (.agg (cR (Ac (x*y)))):=by
    unfold cQ at *;rw[aH,ak [.cell 4 147] [] Tryz.func207];obtain⟨o,Y⟩:∃o,o=Ac (x*y):=⟨_,rfl⟩;rw[<- Y]at S⊢;simp only[go_sem,k1,k2,S,e]
   show fn Tryz.prog conv ext 182 [.agg (cQ x),.agg (cQ y)]=some (.agg (cR (Ac (x*y))))
   obtain⟨o,Y⟩:∃o,o=Ac (x*y):=⟨_,rfl⟩;rw[<- Y]at k4⊢;unfold cQ at *;rw[aH,ak [.cell 4 147] [] Tryz.func182];simp only[go_sem,o1,E,k4]
theorem alJ {s:Structure}(h:dF s)(G:okStructure s) {qs:List Rat}(J:qs.length=s.members.length)(O:∀q∈qs,Ln 24 q):fn Tryz.prog conv ext 154 [.agg (cStructure s),LL cQ qs]=some (Bo true):=by
 have S:=h.2.1;have E:=nK s G;rw[dZ h]at E;have Y:=aag O (by omega);have c0:((qs.length:Int)==(s.members.length:Int))=true:=by rw[J];simp
 rw[aH,ak [.tmp 4] [] Tryz.func154];simp only[go_sem,E,Y,c0]
theorem adX {s:Structure}(h:dF s)(J:okStructure s) {k:Nat}(O:k<s.members.length):fn Tryz.prog conv ext 211 [.agg (cStructure s),I k]=some (.dS [I (vx s k),I (vy s k)]):=by
 have S:=h.2.1;have E:=nK s J;rw[dZ h]at E;have G:=ql k 0 ((s.members.length:Int) - 1);have hb:inB k 0 ((s.members.length:Int) - 1)=true:=by unfold inB;rw[vw (by omega),vw (by omega)];rfl
 rw[hb]at G;have Y:=abr h.sg O;have w1:=ah (n:=(s.members.length:Int) - 1);rw[aH,ak [.tmp 4,.tmp 5] [] Tryz.func211];simp only[go_sem,E,G,Y,w1]
theorem adY {s:Structure}(h:dF s)(E:okStructure s) {k:Nat}(G:k<s.members.length):fn Tryz.prog conv ext 183 [.agg (cStructure s),I k]=some (I (vx s k*vx s k+vy s k*vy s k)):=by
 have J:=adX h E G;have hb:=Dv h.sg k;have x2:0<=vx s k*vx s k/\vx s k*vx s k<=10000:=by
  have O:vx s k*vx s k=((vx s k).natAbs*(vx s k).natAbs:Nat):=by rw[wE]
  have S:(vx s k).natAbs*(vx s k).natAbs<=100*100:=yF (by omega) (by omega);omega
 have y2:0<=vy s k*vy s k/\vy s k*vy s k<=10000:=by
  have O:vy s k*vy s k=((vy s k).natAbs*(vy s k).natAbs:Nat):=by rw[wE]
  have S:(vy s k).natAbs*(vy s k).natAbs<=100*100:=yF (by omega) (by omega);omega
 have w1:=ah (n:=vx s k*vx s k);have Y:=ah (n:=vy s k*vy s k);have w3:=ah (n:=vx s k*vx s k+vy s k*vy s k);rw[aH,ak [.tmp 4] [] Tryz.func183];simp only[go_sem,J,w1,Y,w3]
theorem Tz {s:Structure}(h:dF s)(ho:okStructure s) {qs:List Rat}(hl:qs.length=s.members.length)(hL:∀q∈qs,Ln 24 q) {k:Nat}(O:k<qs.length) :
  fn Tryz.prog conv ext 155 [.agg (cStructure s),LL cQ qs,I k]=some (.dS [.agg (cR (sqQ s qs[k] k)),Bo (sqQ s qs[k] k).isSome]):=by
 have a2:=h.2.1;have hb:=Dv h.sg k;have k1:=alJ h ho hl hL;have k2:=ql k 0 ((s.members.length:Int) - 1);have S:inB k 0 ((s.members.length:Int) - 1)=true:=by unfold inB;rw[vw (by omega),vw (by omega)];rfl
 rw[S]at k2;have k3:=adY h ho (k:=k) (by omega);have w1:=ah (n:=(s.members.length:Int) - 1);have x2:0<=vx s k*vx s k/\vx s k*vx s k<=10000:=by
  have h1:vx s k*vx s k=((vx s k).natAbs*(vx s k).natAbs:Nat):=by rw[wE]
  have h2:(vx s k).natAbs*(vx s k).natAbs<=100*100:=yF (by omega) (by omega);omega
 have y2:0<=vy s k*vy s k/\vy s k*vy s k<=10000:=by
  have h1:vy s k*vy s k=((vy s k).natAbs*(vy s k).natAbs:Nat):=by rw[wE]
  have h2:(vy s k).natAbs*(vy s k).natAbs<=100*100:=yF (by omega) (by omega);omega
 unfold sqQ;generalize vx s k*vx s k=a at *;generalize vy s k*vy s k=b at *;have k4:=mZ (a+b) (by omega) (by omega);have f1:(k:Int)<(qs.length:Int):=by omega
 have f2:=aI k;have f4:=slot (c:=cQ) (s:=3) bD qs k O;have f5:=aN (c:=cQ) (s:=3) bD qs;have f6:k*3+3<=qs.length*3:=by omega
 have f7:=slot_ne (c:=cQ) (s:=3) bD (by omega) qs k O;have Y:=hL _ (zu O);obtain⟨q,eq⟩:∃q,q=qs[k]:=⟨_,rfl⟩;rw[<- eq]at f4 Y⊢;have k5:fn Tryz.prog conv ext 182 [.agg (cQ q),.agg (cQ q)]=some (.agg (cR (FZ (some q) (some q)))):=Xt (some q) (some q) (fun z E=>by cases E;exact Y) (fun z E=>by cases E;exact Y)
 obtain⟨o1,e1⟩:∃o1,o1=FZ (some q) (some q):=⟨_,rfl⟩;have E:Ln 24 ((a+b:Int):Rat):=(mO (by omega)).mono (by decide);have k6:fn Tryz.prog conv ext 182 [.agg (cR o1),.agg (cQ ((a+b:Int):Rat))]=some (.agg (cR (FZ o1 (some ((a+b:Int):Rat))))):=Xt o1 (some ((a+b:Int):Rat)) (by rw[e1];exact KE) (fun z a0=>by cases a0;exact E)
 rw[<- e1]at k5⊢;obtain⟨o2,e2⟩:∃o2,o2=FZ o1 (some ((a+b:Int):Rat)):=⟨_,rfl⟩;rw[<- e2]at k6⊢;have k7:=ao7 o2 (by rw[e2];exact KE);obtain⟨J,G⟩:∃J,J=cQ ((a+b:Int):Rat):=⟨_,rfl⟩;rw[<- G]at k4 k6;have a1:∀σ d,stripL (strip σ d) J=some (J,[]):=fun σ d=>by rw[G];exact nX σ d _
 rw[aH,ak [.cell 6 147,.tmp 7] [4] Tryz.func155];simp only[go_sem,k1,k2,k3,k4,k5,k6,k7,w1,f1,f2,f4,f5,f6,f7,a1]
theorem Xu {s:Structure}(h:dF s)(ho:okStructure s) {qs:List Rat}(hl:qs.length=s.members.length)(hL:∀q∈qs,Ln 24 q) :
  fn Tryz.prog conv ext 122 [.agg (cStructure s),LL cQ qs]=some (jW (EW s qs)):=by
 have a9:=h.2.1;have k1:=alJ h ho hl hL;rw[aH,ak [.tmp 4,.tmp 5] [] Tryz.func122];simp only[go_sem,k1];generalize a0:aF _ _=y;obtain⟨x,rfl,hx⟩:=aB a0 s.members.length (fun k st=>st.T 1=LL cQ qs/\st.T 2= .rp 0 0/\st.T 17=I s.members.length/\st.T 18=I k/\1<=st.nx/\st.σ 0=some ⟨cStructure s,0,true⟩/\∃xs,iK ((EW s qs).take k)=some xs/\DF (st.T 6) st.σ 1 st.nx xs)
  (fun x=>∃T σ nx,(x=(.exit 0,⟨T,σ,nx⟩)/\∃xs,iK (EW s qs)=some xs/\DF (T 6) σ 1 nx xs)\/(x=(.ret,⟨T,σ,nx⟩)/\T 4= .nil/\T 5=Bo false/\iK (EW s qs)=none)) (by
   clear a0;rintro k ⟨T,σ,nx⟩ hk ⟨Y,t2,G,og,S,s0,xs,E,hA⟩;simp only at Y t2 G og S s0 hA;have g1:(k:Int)<(s.members.length:Int):=by omega
   have g2:=aI k;have g3:=ah (n:=(k:Int)+1);have a6:k<(EW s qs).length:=by rw[uT];omega
   have b2:xs.length=k:=by rw[oh E,zh];omega
   have J:(EW s qs).take (k+1)=(EW s qs).take k++[sqQ s (qs[k]'(by omega)) k]:=by rw[take_snoc a6,abd s qs (by omega)]
   have O:=Tz h ho hl hL (k:=k) (by omega);have z1:¬nx=0:=by omega
   have z2:¬0=nx:=by omega
   cases hv:sqQ s (qs[k]'(by omega)) k with
   |none=>
    rw[hv]at O J;have O:fn Tryz.prog conv ext 155 [.agg (cStructure s),LL cQ qs,I k]=some (.dS [.agg (cR none),Bo false]):=O
    refine .inr ⟨_,by simp only[go_sem,Y,t2,G,og,s0,g1,g2,O,z1,z2];rfl,by simp,_,_,_,.inr ⟨rfl,?_⟩⟩;simp only[go_sem];have:EW s qs=(EW s qs).take (k+1)++(EW s qs).drop (k+1):=(wP _ _).symm;rw[this,J];refine Ew ?_;rw[oW,E];rfl
   |some z=>
    rw[hv]at O J;have O:fn Tryz.prog conv ext 155 [.agg (cStructure s),LL cQ qs,I k]=some (.dS [.agg (cQ z),Bo true]):=O
    have a7:DF (T 6) (upd σ nx (some ⟨cQ z,0,true⟩)) 1 (nx+1) xs:=by
     rcases hA with ⟨a,b⟩|⟨b,a1,a2,a3,a4,a5⟩
     .exact .inl ⟨a,b⟩
     .exact .inr ⟨b,a1,a2,by omega,a4,by rw[ay];exact a5⟩
    obtain⟨σ',ha,a8,fr⟩:=qG a7 (by omega) z (by omega);have f0:σ' 0=some ⟨cStructure s,0,true⟩:=by rw[fr 0 (by omega),ay];exact s0
    refine .inl ⟨_,by simp only[go_sem,Y,t2,G,og,s0,g1,g2,g3,O,ha,z1,z2];rfl,?_⟩;simp only[go_sem,Y,t2,G];refine⟨rfl,f0,xs++[z],?_,a8⟩;rw[J,oW,E];rfl) (by
   rintro ⟨T,σ,nx⟩ ⟨Y,t2,G,og,S,s0,xs,E,hA⟩;simp only at Y t2 G og S s0 hA;have g1:¬(s.members.length:Int)<(s.members.length:Int):=by omega
   refine⟨_,by simp only[go_sem,G,og,g1];rfl,by simp,_,_,_,.inl ⟨rfl,xs,?_,?_⟩⟩
   .rw[<- hl,<- uT s qs,yg]at E
    exact E
   .simp only[go_sem]
    exact hA) (by
   simp only[go_sem];exact⟨[],rfl,.inl ⟨rfl,rfl⟩⟩)
 rcases hx with ⟨T,σ,nx,⟨rfl,xs,E,hA⟩|⟨rfl,t4,t5,E⟩⟩
 .obtain⟨ids,hs⟩:∃ids,strip σ 6 (T 6)=some (LL cQ xs,ids):=by
   rcases hA with ⟨h1,h2⟩|⟨b,h1,h2,h3,h4,h5⟩
   .exact⟨[],by rw[h1,h2,strip_nil];rfl⟩
   .rw[h4];exact⟨[b],tZ h5 rfl⟩
  unfold jW;rw[E];simp only[go_sem,hs]
 .unfold jW
  rw[E];simp only[go_sem,t4,t5]
theorem abv {s:Structure}(h:dF s)(E:okStructure s) {w:List Int}(hw:gy s.members.length w):fn Tryz.prog conv ext 71 [.agg (cStructure s),LI w]=some (Bo true):=by
 have G:=h.2.1;have k:=OU s w E (by rw[hw.1];unfold maxLen;omega);rw[dZ h,dZ hw]at k;exact k
theorem Xv {s:Structure}(h:dF s)(ho:okStructure s) {qs:List Rat}(hl:qs.length=s.members.length)(hL:∀q∈qs,Ln 24 q) {w:List Int}(hw:gy s.members.length w) {xs:List Rat}(hq:iK (EW s qs)=some xs) :
  fn Tryz.prog conv ext 123 [.agg (cStructure s),LL cQ qs,LI w]=some (LI (pO (ou xs w) xs.length)):=by
 have a8:=h.2.1;have k1:=Xu h ho hl hL;have k2:=abv h ho hw;unfold jW at k1;rw[hq]at k1;have a9:xs.length=s.members.length:=by rw[oh hq,uT,hl]
 rw[aH,ak [.tmp 6] [] Tryz.func123];simp only[go_sem,k1,k2];generalize a0:aF _ _=y;obtain⟨x,rfl,T,σ,nx,rfl,Y⟩:=aB a0 xs.length (fun k st=>st.T 2=LI w/\st.T 27=LL cQ xs/\st.T 28=I xs.length/\st.T 29=I k/\Grow st.T st.σ st.nx 9 (pO (ou xs w) k))
  (fun x=>∃T σ nx,x=(.exit 0,⟨T,σ,nx⟩)/\Grow T σ nx 9 (pO (ou xs w) xs.length)) (by
   clear a0;rintro k ⟨T,σ,nx⟩ hk ⟨t2,G,E,O,Y⟩;simp only at t2 G E O Y;have g1:(k:Int)<(xs.length:Int):=by omega
   have g2:=aI k;have g3:=ah (n:=(k:Int)+1);have g4:=slot (c:=cQ) (s:=3) bD xs k hk;have g5:=aN (c:=cQ) (s:=3) bD xs;have g6:k*3+3<=xs.length*3:=by omega
   have g7:=slot_ne (c:=cQ) (s:=3) bD (by omega) xs k hk;have S:k<w.length:=by rw[hw.1];omega
   have a7:=jg (hw.2 _ (zu S));have a1:=idx (xs:=w) (k:=k) S;have a2:=fB w k S;have a3:(k:Int)<(w.length:Int):=by omega
   have hx:=ag6 hq _ (zu hk);have J:ou xs w k=WV xs[k] w[k]:=by
    unfold ou;rw[zx,zy hk,zx,zy S];rfl
   obtain⟨x,ex⟩:∃x,x=xs[k]:=⟨_,rfl⟩;obtain⟨v,ev⟩:∃v,v=w[k]:=⟨_,rfl⟩;rw[<- ex,<- ev]at J;rw[<- ex]at g4 hx;rw[<- ev]at a1 a7;have v2:0<=v*v/\v*v<=1000000:=by
    have h1:v*v=(v.natAbs*v.natAbs:Nat):=by rw[wE]
    have h2:v.natAbs*v.natAbs<=1000*1000:=yF (by omega) (by omega);omega
   have w1:=ah (n:=v*v);have k3:=mZ (v*v) (by omega) (by omega);have k4:=alD x ((v*v:Int):Rat) hx ((mO (by omega)).mono (by decide):Ln 24 _) (by decide) (by decide) (by decide);have hle:=ru (ou xs w) k;unfold WV at J;obtain⟨m2,a4⟩:∃m2,m2=cQ ((v*v:Int):Rat):=⟨_,rfl⟩;obtain⟨z,ez⟩:∃z,z=dB (x.num*((v*v:Int):Rat).den) (((v*v:Int):Rat).num*x.den):=⟨_,rfl⟩;rw[<- a4]at k3 k4;rw[<- ez]at k4 J;have a5:∀σ d,stripL (strip σ d) m2=some (m2,[]):=fun σ d=>by rw[a4];exact nX σ d _
   have y1:nx<nx+1:=by omega
   have a6:=Bq Y (some ⟨cQ x,0,true⟩)
   by_cases hz:0<z
   .rw[vw hz]at J
    obtain⟨σ',ha,hs⟩:=fG a6 (k:Int) (by omega);refine .inl ⟨_,by simp only[go_sem,t2,G,E,O,g1,g2,g3,g4,g5,g6,g7,hk,S,a1,a2,a3,w1,k3,k4,hz,ha,a5,y1];rfl,?_⟩;simp only[go_sem,t2,G,E];rw[A_ J];exact⟨rfl,fH hs (by simp[go_sem]) (by simp)⟩
   .rw[vk hz]at J
    refine .inl ⟨_,by simp only[go_sem,t2,G,E,O,g1,g2,g3,g4,g5,g6,g7,hk,S,a1,a2,a3,w1,k3,k4,hz,a5,y1];rfl,?_⟩;simp only[go_sem,t2,G,E];rw[FP J];exact⟨rfl,dM (T:=T) (by simp only[go_sem]) a6⟩) (by
   rintro ⟨T,σ,nx⟩ ⟨t2,G,E,O,Y⟩;simp only at t2 G E O Y;exact⟨_,by simp only[go_sem,E,O,zl];rfl,by simp,_,_,_,rfl,dM (T:=T) (by simp only[go_sem]) Y⟩) (by
   simp only[go_sem];exact .inl ⟨by simp only[go_sem],rfl⟩)
 obtain⟨ids,hs⟩:=iP Y 6;simp only[go_sem,hs]
theorem adZ {s:Structure}(h:dF s)(G:okStructure s) {qs:List Rat}(S:qs.length=s.members.length)(Y:∀q∈qs,Ln 24 q) {w:List Int}(hw:gy s.members.length w) :
  fn Tryz.prog conv ext 98 [.agg (cStructure s),LL cQ qs,LI w]=some (Bo (pV s qs w)):=by
 have E:=Xu h G S Y;have k2:=abv h G hw;unfold jW at E;unfold pV;rw[aH,ak [.tmp 6] [] Tryz.func98];cases J:iK (EW s qs)with
 |none=>
  rw[J]at E;simp only[go_sem,E]
 |some xs=>
  rw[J]at E;have k3:=Xv h G S Y hw J
  by_cases O:(pO (ou xs w) xs.length).length=0
  .have e:(((pO (ou xs w) xs.length).length:Int)==0)=true:=by rw[O];rfl
   simp only[go_sem,E,k2,k3,e,vw O]
  .have e:(((pO (ou xs w) xs.length).length:Int)==0)=false:=by rw[w_];omega
   simp only[go_sem,E,k2,k3,e,vk O]
theorem ao8(n:Nat)(hn:n<=24)(σ:Store)(nx:Nat):∃v σ' nx',ev Tryz.prog aU bU 151 [I n] σ nx=some (v,σ',nx')/\nx<=nx'/\DF v σ' nx nx' (List.replicate n (0:Rat))/\∀y,y<nx->σ' y=σ y:=by
 have E:=ql n 0 24;have hb:inB n 0 24=true:=by unfold inB;rw[vw (by omega),vw (by omega)];rfl
 rw[hb]at E;obtain⟨v,σ',nx',G,J,O,S⟩:=ao3 n (by omega) σ nx;refine⟨v,σ',nx',?_,J,O,S⟩;rw[ak [.tmp 2] [] Tryz.func151];simp only[go_sem,bM,E,G]
theorem ahM {v:V} {σ:Store} {lo nx:Nat} {L:List Rat}(h:DF v σ lo nx L)(E:L≠[]):∃b,lo<=b/\b<nx/\v= .rs b 0 L.length/\σ b=some ⟨L.flatMap cQ,3,true⟩:=by
 rcases h with ⟨G,_⟩|⟨b,_,J,O,S,Y⟩
 .exact absurd G E
 .exact⟨b,J,O,S,Y⟩
theorem avn {s:Structure}(h:dF s)(ho:okStructure s) {x:Nat->Rat}(hx:∀j,j<lW s->Ln 6 (x j)) :
  fn Tryz.prog aU bU 121 [.agg (cStructure s),LL cQ ((List.range (lW s)).map x)]=some (.dS [LL cQ (NT s x),Bo true]):=by
 have e4:=h.2.1;have k1:=nK s ho;rw[dZ h]at k1;have k2:=Xp h.sg;have a1:=ao5 hx;have a2:=lV s s.members.length;have S:=Xr hx;have b4:NT s x=Ic (cols s s.members.length) ((List.range (lW s)).map x) s.members.length (cols s s.members.length).length:=rfl;have b5:=aai s;have b6:=aaj s;have b7:∀c (h:c<(cols s s.members.length).length),(∃q:Nat,(cols s s.members.length)[c].1=(q:Int)/\q<s.members.length)/\((cols s s.members.length)[c].2=1\/(cols s s.members.length)[c].2= -1):=fun c h=>Ai (zu h)
 have a3:((List.range (lW s)).map x).length=(cols s s.members.length).length:=by rw[zO,List.length_range];rfl
 rw[b4]at S⊢;obtain⟨X,eX⟩:∃X,X=(List.range (lW s)).map x:=⟨_,rfl⟩;obtain⟨K,eK⟩:∃K,K=cols s s.members.length:=⟨_,rfl⟩;rw[<- eX]at a1 S a3⊢;rw[<- eK]at k2 a2 S b5 b6 b7 a3⊢;have k3:=aag (xs:=X) (fun q hq=>(a1 q hq).mono (by decide)) (by omega);obtain⟨s0,b8⟩:∃s0,s0=upd aK 0 (some ⟨cStructure s,0,true⟩):=⟨_,rfl⟩;have b0:s0 0=some ⟨cStructure s,0,true⟩:=by rw[b8,upd_same]
 obtain⟨vz,e5,nz,k4,e6,d7,e7⟩:=ao8 s.members.length (by omega) s0 1;have c0:((X.length:Int) !=((K.map Au).length:Int))=false:=by rw[zO,a3];simp
 have el:(K.map Au).length=K.length:=zO ..;have b9:(K.map BR).length=K.length:=zO ..;rw[aH,ak [.tmp 4,.tmp 5] [11,12] Tryz.func121];simp only[go_sem,bM,k1,k2,k3,c0,<- b8,b0,k4];generalize hL:aF _ _=y;obtain⟨r,rfl,T,σ,nx,rfl,h2⟩:=aB hL K.length (fun c st=>st.T 1=LL cQ X/\st.T 7=LI (K.map BR)/\st.T 33=LI (K.map Au)/\st.T 34=I K.length/\st.T 35=I c/\DF (st.T 8) st.σ 1 st.nx (Ic K X s.members.length c))
  (fun r=>∃T σ nx,r=(.exit 0,⟨T,σ,nx⟩)/\DF (T 8) σ 1 nx (Ic K X s.members.length K.length)) (by
   clear hL;rintro c ⟨T,σ,nx⟩ hc ⟨t1,t7,J,E,G,hA⟩;simp only at t1 t7 J E G hA;have g1:(c:Int)<(K.length:Int):=by omega
   have g2:=aI c;have g3:=ah (n:=(c:Int)+1);obtain⟨⟨k,hk,c2⟩,c3⟩:=b7 c hc;have a4:=idx (xs:=K.map Au) (k:=c) (by omega);have a5:=idx (xs:=K.map BR) (k:=c) (by omega);rw[xq,show Au K[c]=(k:Int)from hk]at a4;rw[xq]at a5;have a6:=fB (K.map Au) c (by omega);have a7:=fB (K.map BR) c (by omega);have a8:=slot (c:=cQ) (s:=3) bD X c (by omega);have a9:=aN (c:=cQ) (s:=3) bD X;have c4:c*3+3<=X.length*3:=by omega
   have c5:=slot_ne (c:=cQ) (s:=3) bD (by omega) X c (by omega);have c7:(c:Int)<(X.length:Int):=by omega
   have O:=rG K X s.members.length c;have Y:=avi a1 b5 b6 hc;have b2:=a1 _ (zu (l:=X) (n:=c) (by omega));have a0:Ic K X s.members.length (c+1)=(Ic K X s.members.length c).set k ((Ic K X s.members.length c).getD k 0+sgQ K[c].2 (X[c]'(by omega))):=by
    rw[Ic];have e1:K.getD c (0,0)=K[c]:=by rw[zx,zy hc];rfl
    have e2:X.getD c 0=X[c]'(by omega):=by rw[zx,zy (by omega)];rfl
    rw[e1,e2,hk,yw]
   rw[hk,yw]at Y;obtain⟨xc,d8⟩:∃xc,xc=X[c]'(by omega):=⟨_,rfl⟩;rw[<- d8]at a8 b2 a0;obtain⟨sg,c8⟩:∃sg,sg=K[c].2:=⟨_,rfl⟩;have a5:((K.map BR).flatMap cI)[c]?=some (I sg):=by rw[c8];exact a5
   rw[<- c8]at c3 a0;obtain⟨D,eD⟩:∃D,D=Ic K X s.members.length c:=⟨_,rfl⟩;rw[<- eD]at hA O Y a0;obtain⟨b,d9,b3,t8,hb⟩:=ahM hA (fun e=>by rw[e]at O;simp at O;omega);rw[O]at t8;have d0:=slot (c:=cQ) (s:=3) bD D k (by omega);have d2:=aN (c:=cQ) (s:=3) bD D;rw[O]at d2;have d3:k*3+3<=s.members.length*3:=by omega
   have d4:(k:Int)<(s.members.length:Int):=by omega
   have d5:=aI k;obtain⟨d,ed⟩:∃d,d=D.getD k 0:=⟨_,rfl⟩;have d1:((D.flatMap cQ).drop (k*3)).take 3=cQ d:=by
    rw[d0,ed,zx,zy (by omega)];rfl
   rw[<- ed]at Y a0;have n1:¬(0:Int)< -1:=by decide
   have n0:(0:Int)<1:=by decide
   have c9:∀q σ d,stripL (strip σ d) (cQ q)=some (cQ q,[]):=fun q σ d=>nX σ d q
   have fin:∀(v:Rat),v=d+sgQ sg xc->DF (V.rs b 0 s.members.length) (upd σ b (some ⟨(D.set k v).flatMap cQ,3,true⟩)) 1 nx (Ic K X s.members.length (c+1)):=fun v hv=>by
    rw[a0,<- hv];refine .inr ⟨b,fun e=>?_,d9,b3,by rw[yG,O],by rw[upd_same]⟩;have:=congrArg List.length e;rw[yG,O]at this;have:s.members.length=0:=this;omega
   rcases c3 with rfl|rfl
   .have k5:=ahH d xc Y b2 (by decide)
    have c6:patch (D.flatMap cQ) (k*3) (cQ (d+xc))=(D.set k (d+xc)).flatMap cQ:=iU bD _ _ (by omega) _;refine .inl ⟨_,by simp only[go_sem,t1,t7,t8,J,E,G,hb,b3,g1,g2,g3,a4,a5,a6,a7,a8,a9,c4,c5,c7,hc,el,b9,d1,d2,d3,d4,d5,c2,n0,k5,c6,c9];rfl,?_⟩;simp only[go_sem,t1,t7,t8,J,E,G];exact⟨rfl,fin _ rfl⟩
   .have k5:=ahI d xc Y b2 (by decide)
    have c6:patch (D.flatMap cQ) (k*3) (cQ (d-xc))=(D.set k (d-xc)).flatMap cQ:=iU bD _ _ (by omega) _;refine .inl ⟨_,by simp only[go_sem,t1,t7,t8,J,E,G,hb,b3,g1,g2,g3,a4,a5,a6,a7,a8,a9,c4,c5,c7,hc,el,b9,d1,d2,d3,d4,d5,c2,n1,k5,c6,c9];rfl,?_⟩;simp only[go_sem,t1,t7,t8,J,E,G];refine⟨rfl,fin _ ?_⟩;show d-xc=d+ -xc;grind) (by
   clear hL;rintro ⟨T,σ,nx⟩ ⟨t1,t7,J,E,G,hA⟩;simp only at t1 t7 J E G hA;refine⟨_,by simp only[go_sem,E,G,zl];rfl,by simp,_,_,_,rfl,?_⟩;simp only[go_sem];exact hA) (by
   simp only[go_sem,el];exact d7)
 have k6:=aag (xs:=Ic K X s.members.length K.length) (fun q hq=>(S q hq).mono (by decide)) (by rw[rG];omega);obtain⟨D,eD⟩:∃D,D=Ic K X s.members.length K.length:=⟨_,rfl⟩;rw[<- eD]at h2 k6⊢;rcases h2 with ⟨h3,h4⟩|⟨b,h3,h4,h5,h6,h7⟩
 .rw[h3]at k6⊢
  have k6:fn Tryz.prog conv ext 150 [.ts [] 0]=some (Bo true):=k6
  simp only[go_sem,h4,k6];rfl
 .have e0:=fun d=>tZ (d:=d) h7 rfl
  have e3:∀t,∃wr,behind σ [b] t b=some ⟨D.flatMap cQ,3,wr⟩:=fun t=>abb h7
  have d6:∀t d,strip (behind σ [b] t) (d+1) (.rs b 0 D.length)=some (LL cQ D,[b]):=fun t d=>by
   obtain⟨wr,hw⟩:=e3 t;rw[d_,hw];have a2:=aN (c:=cQ) (s:=3) bD D;simp only[zi,yY,yZ,a2,zq,if_true];rw[zk (by omega),PS];rfl
  simp only[go_sem,h6,e0,k6,d6]
theorem ahN {s:Structure}(h:dF s)(G:okStructure s) {l:List Int}(E:dJ s.joints.length l):fn Tryz.prog conv ext 70 [.agg (cStructure s),LI l]=some (Bo true):=by
 have J:=h.1;have k:=aaw s l G (by rw[E.1];unfold maxLen;omega);rw[dZ h,dZ E]at k;exact k
theorem ahO {s:Structure}(h:dF s)(S:okStructure s) {l:List Int}(hl:dJ s.joints.length l) :
  (∃qs,qs.length=s.members.length/\(∀q∈qs,Ln 24 q)/\fn Tryz.prog aU bU 110 [.agg (cStructure s),LI l]=some (.dS [LL cQ qs,Bo true])/\fn Tryz.prog aU bU 97 [.agg (cStructure s),LI l]=some (.dS [LL cQ qs,Bo true]) /\
   ∃x:Nat->Rat,(Ib s l).Best x/\(∀j,j<lW s->Ln 6 (x j))/\qs=NT s x/\∃T,(Ib s l).Good T/\x=gU (Ib s l).m T) \/
  (fn Tryz.prog aU bU 110 [.agg (cStructure s),LI l]=some TI/\fn Tryz.prog aU bU 97 [.agg (cStructure s),LI l]=some TI/\((Ib s l).None\/(Ib s l).Open)):=by
 have XF:=h.1;have hb:∀x∈l,-100<=x/\x<=100:=fun x J=>jg (hl.2 x J)
 obtain⟨r,k1,hr⟩:=Hg S (l:=l) (by rw[hl.1];unfold maxLen;omega);obtain⟨r0,Y,a1⟩:=ak4 h.sg hb;have k3:=ahG h.sg hl.1 hb;have k4:=ahN h S hl;unfold jL at Y k3;have n2:((2:Int) !=0)=true:=by decide
 have n3:((3:Int) !=0)=true:=by decide
 have n0:((0:Int) !=0)=false:=by decide
 have a0:r=TI/\((Ib s l).None\/(Ib s l).Open)\/∃x:Nat->Rat,(Ib s l).Best x/\(∀j,j<lW s->Ln 24 (x j))/\r=jW (BI (cols s s.members.length) ((List.range (lW s)).map x) s.members.length (lW s)):=by
  rcases hr with ⟨hn,_⟩|⟨_,_,hr⟩
  .exact absurd ⟨h,hl⟩ hn
  .exact hr
 have no:(Ib s l).None\/(Ib s l).Open->fn Tryz.prog aU bU 110 [.agg (cStructure s),LI l]=some TI:=fun hn=>by
  rcases a0 with ⟨e,_⟩|⟨x,J,_⟩
  .rw[k1,e]
  .rcases hn with hn|hn
   .exact absurd hn J.VG
   .exact absurd hn (fun S=>H6 J S)
 rcases a1 with ⟨O,hn⟩|⟨O,hn⟩|⟨x,J,E,a3,O,hT⟩
 .refine .inr ⟨no (.inl hn),?_,.inl hn⟩
  rw[O]at Y;unfold TI;rw[aH,ak [.tmp 4,.tmp 5] [] Tryz.func97];simp only[go_sem,Y,k3,k4,n2,n3]
 .refine .inr ⟨no (.inr hn),?_,.inr hn⟩
  rw[O]at Y;unfold TI;rw[aH,ak [.tmp 4,.tmp 5] [] Tryz.func97];simp only[go_sem,Y,k3,k4,n2,n3]
 .have hn:(Ib s l).n=lW s:=rfl
  rw[hn]at E O;refine .inl ⟨NT s x,adV s x,fun q hq=>(Xr E q hq).mono (by decide),?_,?_,x,J,E,rfl,hT⟩
  .rcases a0 with ⟨_,G⟩|⟨x',a2,_,e⟩
   .rcases G with G|G
    .exact absurd G J.VG
    .exact absurd G (fun S=>H6 J S)
   .have eX:(List.range (lW s)).map x'=(List.range (lW s)).map x:=xP fun j hj=>a2.eq J j (List.mem_range.mp hj)
    rw[k1,e,eX];unfold jW;rw[ahJ E]
  .have k5:=avn h S E
   obtain⟨X,eX⟩:∃X,X=(List.range (lW s)).map x:=⟨_,rfl⟩;obtain⟨v,ev⟩:∃v,v=ob (lW s) (Ib s l).c x:=⟨_,rfl⟩;have O:r0= .agg (I 0 :: LL cQ X :: cQ v):=by rw[eX,ev];exact O
   rw[O]at Y;rw[<- eX]at k5;rw[aH,ak [.tmp 4,.tmp 5] [] Tryz.func97];have g1:(I 0 :: LL cQ X :: cQ v).length=5:=rfl;have g2:(I 0 :: LL cQ X :: cQ v).all aT=true:=rfl;have g3:(I 0 :: LL cQ X :: cQ v)[0]?=some (I 0):=rfl;have g4:(I 0 :: LL cQ X :: cQ v)[1]?=some (LL cQ X):=rfl;have g5:(I 0 :: LL cQ X :: cQ v).take 5=I 0 :: LL cQ X :: cQ v:=rfl;simp only[go_sem,Y,k3,k4,g1,g2,g3,g4,g5,k5,n0]
theorem ahP {s:Structure}(h:dF s)(ho:okStructure s) {l w:List Int}(hl:dJ s.joints.length l)(hw:gy s.members.length w) :
  ∃b,fn Tryz.prog aU bU 43 [.agg (cStructure s),LI l,LI w]=some (Bo b)/\fn Tryz.prog aU bU 39 [.agg (cStructure s),LI l,LI w]=some (Bo b):=by
 rcases ahO h ho hl with ⟨qs,O,S,G,J,_⟩|⟨G,J,_⟩
 .have Y:=PV h ho O S hw
  have k4:=adZ h ho O S hw;refine⟨pV s qs w,?_,?_⟩
  .cases hb:pV s qs w with
   |true=>
    rw[hb]at Y;have E:fn Tryz.prog aU bU 82 [.agg (cStructure s),LI l,LI w]=some (.dS [LL cQ qs,Bo true]):=by
     rw[aH,ak [.tmp 6,.tmp 7] [] Tryz.func82];simp only[go_sem,G,Y]
    rw[aH,ak [.tmp 6] [] Tryz.func43];simp only[go_sem,E]
   |false=>
    rw[hb]at Y;have E:fn Tryz.prog aU bU 82 [.agg (cStructure s),LI l,LI w]=some (.dS [.ts [] 0,Bo false]):=by
     rw[aH,ak [.tmp 6,.tmp 7] [] Tryz.func82];simp only[go_sem,G,Y]
    rw[aH,ak [.tmp 6] [] Tryz.func43];simp only[go_sem,E]
  .cases hb:pV s qs w with
   |true=>
    rw[hb]at k4;have E:fn Tryz.prog aU bU 73 [.agg (cStructure s),LI l,LI w]=some (.dS [LL cQ qs,Bo true]):=by
     rw[aH,ak [.tmp 6,.tmp 7] [] Tryz.func73];simp only[go_sem,J,k4]
    rw[aH,ak [.tmp 6] [] Tryz.func39];simp only[go_sem,E]
   |false=>
    rw[hb]at k4;have E:fn Tryz.prog aU bU 73 [.agg (cStructure s),LI l,LI w]=some (.dS [.ts [] 0,Bo false]):=by
     rw[aH,ak [.tmp 6,.tmp 7] [] Tryz.func73];simp only[go_sem,J,k4]
    rw[aH,ak [.tmp 6] [] Tryz.func39];simp only[go_sem,E]
 .refine⟨false,?_,?_⟩
  .have G:fn Tryz.prog aU bU 110 [.agg (cStructure s),LI l]=some (.dS [.ts [] 0,Bo false]):=G
   have E:fn Tryz.prog aU bU 82 [.agg (cStructure s),LI l,LI w]=some (.dS [.ts [] 0,Bo false]):=by
    rw[aH,ak [.tmp 6,.tmp 7] [] Tryz.func82];simp only[go_sem,G]
   rw[aH,ak [.tmp 6] [] Tryz.func43];simp only[go_sem,E]
  .have J:fn Tryz.prog aU bU 97 [.agg (cStructure s),LI l]=some (.dS [.ts [] 0,Bo false]):=J
   have E:fn Tryz.prog aU bU 73 [.agg (cStructure s),LI l,LI w]=some (.dS [.ts [] 0,Bo false]):=by
    rw[aH,ak [.tmp 6,.tmp 7] [] Tryz.func73];simp only[go_sem,J]
   rw[aH,ak [.tmp 6] [] Tryz.func39];simp only[go_sem,E]
theorem avo(k j:Nat):fn Tryz.prog conv ext 96 [.ts [I k] 1,I j]=some (Bo (decide (j=k))):=by
 rw[aH,ak [.tmp 4] [] Tryz.func96];simp only[go_sem];generalize Y:aF _ _=y;obtain⟨x,rfl,hx⟩:=aB Y 1 (fun i st=>st.T 1=I j/\st.T 7= .ts [I k] 1/\st.T 8=I 1/\st.T 9=I i/\(i=1->j≠k))
  (fun x=>∃T σ nx,(x=(.exit 0,⟨T,σ,nx⟩)/\j≠k)\/(x=(.ret,⟨T,σ,nx⟩)/\T 4=Bo true/\j=k)) (by
   clear Y;rintro i ⟨T,σ,nx⟩ hi ⟨J,O,G,E,h⟩;simp only at J O G E;have:i=0:=by omega
   subst this;have E:T 9=I 0:=E;have S:(0:Int)<1:=by decide
   have f3:=ah (n:=(0:Int)+1);have f0:(0:Int)<=0:=by decide
   have f4:([I (k:Int)]:List V)[Int.toNat 0]?=some (I k):=rfl
   by_cases e:j=k
   .have e':((k:Int)==(j:Int))=true:=by rw[e];simp
    refine .inr ⟨_,by simp only[go_sem,J,O,G,E,f0,S,f4,e'];rfl,by simp,_,_,_,.inr ⟨rfl,by simp only[go_sem],e⟩⟩
   .have e':((k:Int)==(j:Int))=false:=by rw[w_];omega
    refine .inl ⟨_,by simp only[go_sem,J,O,G,E,f0,S,f3,f4,e'];rfl,?_⟩;simp only[go_sem,J,O,G];exact⟨rfl,fun _=>e⟩) (by
   clear Y;rintro ⟨T,σ,nx⟩ ⟨J,O,G,E,h⟩;simp only at J O G E;have E:T 9=I 1:=E;have S:¬(1:Int)<1:=by decide
   exact⟨_,by simp only[go_sem,G,E,S];rfl,by simp,_,_,_,.inl ⟨rfl,h rfl⟩⟩) (by
   simp only[go_sem];exact fun h=>absurd h (by decide))
 obtain⟨T,σ,nx,⟨rfl,hm⟩|⟨rfl,t4,hm⟩⟩:=hx
 .rw[vk hm]
  simp only[go_sem]
 .rw[vw hm]
  simp only[go_sem,t4]
theorem ahQ {s:Structure}(h:dF s)(k:Nat)(hk:k<s.members.length):fn Tryz.prog conv ext 72 [.agg (cStructure s),.ts [I k] 1]=some (.agg (cStructure (del s k))):=by
 have b6:=h.2.1;have XF:=h.1;have b7:0<s.joints.length:=by
  have:=h.sg.mr k hk;obtain⟨r1,r2,_⟩:=this;omega
 have z1:¬s.joints.length=0:=by omega
 have s1:s.joints.length<=maxLen/\s.joints.length*40<=140737488355328:=by unfold maxLen;omega
 have s2:=JD s.joints;have s3:=sJ s.joints;rw[aH,ak [.cell 4 34] [] Tryz.func72];simp only[go_sem,z1,s1,s2,s3];generalize hL:aF _ _=y;obtain⟨x,rfl,T,σ,nx,rfl,S,Y,J,w,h1,h2,h3,hg,hw⟩:=aB hL s.members.length (fun j st=>st.T 1= .ts [I k] 1/\st.T 4= .rp 1 0/\st.T 5= .rp 3 0/\st.T 14=LL cMember s.members/\st.T 15=I s.members.length/\st.T 16=I j/\3<st.nx/\∃w,st.σ 1=some ⟨[.nil,.nil],0,true⟩/\st.σ 2=some ⟨s.joints.flatMap cJoint,4,true⟩/\st.σ 3=some ⟨[.rs 2 0 s.joints.length,w],0,true⟩/\iZ cMember 3 (fun _=>w) st.σ st.nx 0 (nC s.members k j)/\∀b o l,w= .rs b o l->3<b)
  (fun x=>∃T σ nx,x=(.exit 0,⟨T,σ,nx⟩)/\T 4= .rp 1 0/\T 5= .rp 3 0/\3<nx/\∃w,σ 1=some ⟨[.nil,.nil],0,true⟩/\σ 2=some ⟨s.joints.flatMap cJoint,4,true⟩/\σ 3=some ⟨[.rs 2 0 s.joints.length,w],0,true⟩/\iZ cMember 3 (fun _=>w) σ nx 0 (nC s.members k s.members.length)/\∀b o l,w= .rs b o l->3<b) (by
   clear hL;rintro j ⟨T,σ,nx⟩ hj ⟨t1,S,Y,G,E,O,J,w,h1,h2,h3,hg,hw⟩;simp only at t1 S Y G E O J h1 h2 h3 hg;have f1:(j:Int)<(s.members.length:Int):=by omega
   have f2:=aI j;have f3:=ah (n:=(j:Int)+1);have f4:=JO s.members j hj;have f5:=BG s.members;have f6:j*3+3<=s.members.length*3:=by omega
   have f9:=JQ s.members j hj;have k2:=avo k j;have hle:=WZ s.members k j;have y1:¬3=nx:=by omega
   have y2:¬nx=3:=by omega
   obtain⟨m1,em⟩:∃m1,m1=s.members[j]:=⟨_,rfl⟩;rw[<- em]at f4
   by_cases a0:j=k
   .rw[vw a0]at k2
    refine .inl ⟨_,by simp only[go_sem,t1,S,Y,G,E,O,f1,f2,f3,f4,f5,f6,f9,hj,k2];rfl,?_⟩;simp only[go_sem,t1,S,Y,G,E];have ek:nC s.members k (j+1)=nC s.members k j:=by subst a0;exact abg hj
    rw[ek];refine⟨rfl,by omega,w,?_,?_,?_,ny hg _,hw⟩
    .rw[ay];exact h1
    .rw[ay];exact h2
    .rw[ay];exact h3
   .rw[vk a0]at k2
    have a6:=ny hg (some ⟨cMember m1,0,true⟩);obtain⟨σ',ha,hs,a7⟩:=gY (c:=cMember) (s:=3) (bytes:=24) (fun _=>rfl) (fun _=>rfl) (by decide) a6 m1 (by omega) (by decide);have q1:∀q,q<nx->(∀b o l,w= .rs b o l->q≠b)->σ' q=σ q:=fun q hq a8=>by
     rw[a7 q (by omega) (fun b o l h=>a8 b o l h),ay]
    have q3:σ' 3=some ⟨[.rs 2 0 s.joints.length,w],0,true⟩:=by rw[q1 3 J (fun b o l h e=>by have:=hw b o l h;omega)];exact h3
    have q2:σ' 2=some ⟨s.joints.flatMap cJoint,4,true⟩:=by rw[q1 2 (by omega) (fun b o l h e=>by have:=hw b o l h;omega)];exact h2
    have a9:σ' 1=some ⟨[.nil,.nil],0,true⟩:=by rw[q1 1 (by omega) (fun b o l h e=>by have:=hw b o l h;omega)];exact h1
    refine .inl ⟨_,by simp only[go_sem,t1,S,Y,G,E,O,f1,f2,f3,f4,f5,f6,f9,hj,k2,y1,y2,h3,ha,q3];rfl,?_⟩;simp only[go_sem,t1,S,Y,G,E];rw[WY hj a0,<- em];refine⟨rfl,by omega,_,?_,?_,rfl,?_,?_⟩
    .exact a9
    .exact q2
    .refine .inr ⟨nx+1+1,by rw[zo];rfl,by simp,?_,by omega⟩
     rw[ay];exact hs
    .intro b o l hb
     cases hb;omega) (by
   clear hL;rintro ⟨T,σ,nx⟩ ⟨t1,S,Y,G,E,O,J,w,h1,h2,h3,hg,hw⟩;simp only at t1 S Y G E O J h1 h2 h3 hg;exact⟨_,by simp only[go_sem,E,O,zl];rfl,by simp,_,_,_,rfl,by simp only[go_sem,S],by simp only[go_sem,Y],J,w,h1,h2,h3,hg,hw⟩) (by
   simp only[go_sem];exact⟨_,rfl,.inl ⟨rfl,rfl⟩,fun b o l h=>by cases h⟩)
 have ek:nC s.members k s.members.length=(del s k).members:=by
  unfold nC del;rw[yg]
 rw[ek]at hg;have cw:aT w=true:=by
  rcases hg with ⟨a,_⟩|⟨b,a,_⟩
  .have a:w= .nil:=a
   rw[a];rfl
  .have a:w= .rs b 0 _:=a
   rw[a];rfl
 obtain⟨a5,b2⟩:∃a5,stripL (strip (upd σ 1 (some ⟨[.rs 2 0 s.joints.length,w],0,true⟩)) 6) [.rs 2 0 s.joints.length,w]=some ([LL cJoint s.joints,LL cMember (del s k).members],a5):=by
  have b3:strip (upd σ 1 (some ⟨[.rs 2 0 s.joints.length,w],0,true⟩)) 6 (.rs 2 0 s.joints.length)=some (LL cJoint s.joints,[2]):=by
   rw[d_,upd_ne _ _ (by decide),h2];simp only[zi,yY,yZ,s3,zq,if_true];rw[zk (by omega),iJ (fun x=>by rw[aO,cO,aO,cO,aO,cO,aO,cO,bQ];rfl)];rfl
  have b4:iZ cMember 3 (fun _=>w) (upd σ 1 (some ⟨[.rs 2 0 s.joints.length,w],0,true⟩)) nx 0 (del s k).members:=by
   rcases hg with ⟨a,b⟩|⟨b,a1,a2,a3,a4⟩
   .exact .inl ⟨a,b⟩
   .exact .inr ⟨b,a1,a2,by rw[upd_ne _ _ (by have:=hw _ _ _ a1;omega)];exact a3,a4⟩
  obtain⟨is,b5⟩:=qC (c:=cMember) (s:=3) (fun _=>rfl) 5 (fun x=>by rw[aO,cO,aO,cO,aO,cO,bQ];rfl) b4;refine⟨[2]++(is++[]),?_⟩;rw[aO,b3,aO,b5,bQ];rfl
 simp only[go_sem,S,Y,h1,h3,b2,cw];rfl
theorem NU {s:Structure}(h:dF s)(E:okStructure s) {l w:List Int}(G:dJ s.joints.length l)(hw:gy s.members.length w) :
  fn Tryz.prog aU bU 39 [.agg (cStructure s),LI l,LI w]=some (Bo (pb (nD s l w))):=by
 obtain⟨b,k,J⟩:=ahP h E G hw;rw[J];cases b with
 |true=>
  have:nD s l w:=k;rw[dZ this]
 |false=>
  have:¬nD s l w:=fun e=>by unfold nD at e;rw[k]at e;cases e
  rw[bP this]
theorem Xw {s:Structure}(h:dF s)(ho:okStructure s) {l w:List Int}(hl:dJ s.joints.length l)(hw:gy s.members.length w) :
  fn Tryz.prog aU bU 38 [.agg (cStructure s),LI l,LI w]=some (Bo (Hr s l w)):=by
 have k1:=NU h ho hl hw;have b5:=h.2.1;have XF:=h.1;have a0:=hw.1;unfold Hr;rw[aH,ak [.tmp 6] [6] Tryz.func38];cases hs:pb (nD s l w)with
 |false=>
  rw[hs]at k1;simp only[go_sem,k1]
 |true=>
  rw[hs]at k1;simp only[go_sem,k1];generalize hL:aF _ _=y;obtain⟨x,rfl,hx⟩:=aB hL s.members.length (fun j st=>st.T 1=LI l/\st.T 2=LI w/\st.T 3= .rp 0 0/\st.T 16=I s.members.length/\st.T 17=I j/\0<st.nx/\st.σ 0=some ⟨cStructure s,0,true⟩/\upto s l w j=true)
   (fun x=>∃T σ nx,(x=(.exit 0,⟨T,σ,nx⟩)/\upto s l w s.members.length=true)\/(x=(.ret,⟨T,σ,nx⟩)/\T 6=Bo false/\upto s l w s.members.length=false)) (by
    clear hL;rintro j ⟨T,σ,nx⟩ hj ⟨t1,t2,t3,J,Y,a4,O,hu⟩;simp only at t1 t2 t3 J Y a4 O;have f1:(j:Int)<(s.members.length:Int):=by omega
    have f2:=aI j;have f3:=ah (n:=(j:Int)+1);have k2:=ahQ h j hj;obtain⟨S,eS⟩:∃S,S=del s j:=⟨_,rfl⟩;rw[<- eS]at k2;have hlen:(w.eraseIdx j).length=s.members.length-1:=by rw[yS (by omega),a0]
    have a8:S.joints=s.joints:=by rw[eS];rfl
    have a9:S.members.length=s.members.length-1:=by
     rw[eS];unfold del;exact yS hj
    have k5:=NU (s:=S) (l:=l) (w:=w.eraseIdx j) (by rw[eS];exact aha h j) (by rw[eS];exact abf ho j) (by rw[a8];exact hl) (by rw[a9];exact PY hw hj);have us:=upto_succ s l w j;rw[<- eS]at us;have a5:w.eraseIdx j=w.take j++w.drop (j+1):=List.eraseIdx_eq_take_drop_succ ..;have e1:(w.flatMap cI).take j=(w.take j).flatMap cI:=pI ..;have e2:((w.flatMap cI).drop (j+1)).take (s.members.length - (j+1))=(w.drop (j+1)).flatMap cI:=by
     have:(w.flatMap cI).drop (j+1)=(w.drop (j+1)).flatMap cI:=by rw[Jb,<- List.map_drop,<- Jb]
     rw[this,zk (by rw[aS,zH];omega)]
    have i2:((j:Int)+1).toNat=j+1:=by omega
    have i1:(0:Int)<=(j:Int)+1:=by omega
    have i4:j+1<=s.members.length:=hj;have i5:j<=s.members.length:=by omega
    have c1:=qj (w.take j);have l1:(w.take j).length=j:=by rw[zh];omega
    have l2:(w.drop (j+1)).length=s.members.length - (j+1):=by rw[zH];omega
    have c2:=qj (w.drop (j+1));have y1:nx<nx+1:=by omega
    by_cases a6:j=0
    .have z0:(j=0)=True:=eq_true a6
     have w0:w.take j=[]:=by rw[a6];rfl
     by_cases a7:j+1=s.members.length
     .have m1:(s.members.length - (j+1)=0)=True:=eq_true (by omega)
      have a2:w.eraseIdx j=[]:=zZ (by omega);obtain⟨σ2,e4⟩:∃σ2,σ2=σ:=⟨_,rfl⟩;have b2:σ2 0=some ⟨cStructure s,0,true⟩:=by rw[e4];exact O
      obtain⟨E,e3⟩:∃E,E=upd σ2 (nx) (some ⟨[I j],1,flat 7 (.agg (cStructure S))⟩):=⟨_,rfl⟩;have b3:E 0=some ⟨cStructure s,0,true⟩:=by rw[e3,ay];exact b2
      have st:∀d,strip E (d+1) .nil=some (LI (w.eraseIdx j),[]):=fun d=>by rw[a2,strip_nil];rfl
      cases G:pb (nD S l (w.eraseIdx j))with
      |true=>
       rw[G]at k5 us;refine .inl ⟨_,by simp only[go_sem,t1,t2,t3,J,Y,O,a0,f1,f2,f3,e1,e2,i1,i2,i4,i5,c1,c2,l1,l2,k2,k5,st,y1,z0,m1,<- e4,b2,<- e3,b3];rfl,?_⟩;simp only[go_sem,t1,t2,t3,J,b3];exact⟨rfl,by omega,by rw[us,hu];rfl⟩
      |false=>
       rw[G]at k5;refine .inr ⟨_,by simp only[go_sem,t1,t2,t3,J,Y,O,a0,f1,f2,f3,e1,e2,i1,i2,i4,i5,c1,c2,l1,l2,k2,k5,st,y1,z0,m1,<- e4,b2,<- e3,b3];rfl,by simp,_,_,_,.inr ⟨rfl,by simp only[go_sem],?_⟩⟩;rw[eS]at G;exact tN hj G
     .have m1:¬s.members.length - (j+1)=0:=by omega
      have a2:w.eraseIdx j=w.drop (j+1):=by rw[a5,w0,yK]
      have s1:s.members.length - (j+1)<=maxLen/\(s.members.length - (j+1))*8<=140737488355328:=by unfold maxLen;omega
      obtain⟨σ2,e4⟩:∃σ2,σ2=upd σ nx (some ⟨(w.drop (j+1)).flatMap cI,1,true⟩):=⟨_,rfl⟩;have b2:σ2 0=some ⟨cStructure s,0,true⟩:=by rw[e4,ay];exact O
      have x2:nx<nx+1+1:=by omega
      obtain⟨E,e3⟩:∃E,E=upd σ2 (nx+1) (some ⟨[I j],1,flat 7 (.agg (cStructure S))⟩):=⟨_,rfl⟩;have b3:E 0=some ⟨cStructure s,0,true⟩:=by rw[e3,ay];exact b2
      have st:∀d,strip E (d+1) (.rs nx 0 (s.members.length - (j+1)))=some (LI (w.eraseIdx j),[nx]):=fun d=>by rw[a2];exact dO (by rw[e3,ay,e4,upd_same]) (by omega) d
      cases G:pb (nD S l (w.eraseIdx j))with
      |true=>
       rw[G]at k5 us;refine .inl ⟨_,by simp only[go_sem,t1,t2,t3,J,Y,O,a0,f1,f2,f3,e1,e2,i1,i2,i4,i5,c1,c2,l1,l2,k2,k5,st,y1,z0,m1,s1,<- e4,x2,b2,<- e3,b3];rfl,?_⟩;simp only[go_sem,t1,t2,t3,J,b3];exact⟨rfl,by omega,by rw[us,hu];rfl⟩
      |false=>
       rw[G]at k5;refine .inr ⟨_,by simp only[go_sem,t1,t2,t3,J,Y,O,a0,f1,f2,f3,e1,e2,i1,i2,i4,i5,c1,c2,l1,l2,k2,k5,st,y1,z0,m1,s1,<- e4,x2,b2,<- e3,b3];rfl,by simp,_,_,_,.inr ⟨rfl,by simp only[go_sem],?_⟩⟩;rw[eS]at G;exact tN hj G
    .have z0:¬j=0:=a6
     have s1:j<=maxLen/\j*8<=140737488355328:=by unfold maxLen;omega
     by_cases a7:j+1=s.members.length
     .have m1:s.members.length - (j+1)=0:=by omega
      have w0:w.drop (j+1)=[]:=xw (by omega);have a2:w.eraseIdx j=w.take j:=by rw[a5,w0,zM]
      obtain⟨σ2,e4⟩:∃σ2,σ2=upd σ nx (some ⟨(w.take j).flatMap cI,1,true⟩):=⟨_,rfl⟩;have b2:σ2 0=some ⟨cStructure s,0,true⟩:=by rw[e4,ay];exact O
      have a1:=Wq (restrict σ2 [nx]) (nx+1) 1 8 nx 0 j [] (B:=⟨(w.take j).flatMap cI,1,true⟩) (by rw[jU,e4,upd_same]);have x2:nx<nx+1+1:=by omega
      obtain⟨E,e3⟩:∃E,E=upd σ2 (nx+1) (some ⟨[I j],1,flat 7 (.agg (cStructure S))⟩):=⟨_,rfl⟩;have b3:E 0=some ⟨cStructure s,0,true⟩:=by rw[e3,ay];exact b2
      have st:∀d,strip E (d+1) (.rs nx 0 j)=some (LI (w.eraseIdx j),[nx]):=fun d=>by rw[a2];exact dO (by rw[e3,ay,e4,upd_same]) (by omega) d
      cases G:pb (nD S l (w.eraseIdx j))with
      |true=>
       rw[G]at k5 us;refine .inl ⟨_,by simp only[go_sem,t1,t2,t3,J,Y,O,a0,f1,f2,f3,e1,e2,i1,i2,i4,i5,c1,c2,l1,l2,k2,k5,st,y1,z0,m1,s1,<- e4,a1,x2,b2,<- e3,b3];rfl,?_⟩;simp only[go_sem,t1,t2,t3,J,b3];exact⟨rfl,by omega,by rw[us,hu];rfl⟩
      |false=>
       rw[G]at k5;refine .inr ⟨_,by simp only[go_sem,t1,t2,t3,J,Y,O,a0,f1,f2,f3,e1,e2,i1,i2,i4,i5,c1,c2,l1,l2,k2,k5,st,y1,z0,m1,s1,<- e4,a1,x2,b2,<- e3,b3];rfl,by simp,_,_,_,.inr ⟨rfl,by simp only[go_sem],?_⟩⟩;rw[eS]at G;exact tN hj G
     .have m1:¬s.members.length - (j+1)=0:=by omega
      obtain⟨a3,e5⟩:∃a3,a3=upd σ nx (some ⟨(w.take j).flatMap cI,1,true⟩):=⟨_,rfl⟩;have a1:=kQ (σ:=restrict a3 [nx]) (nx:=nx+1) (bytes:=8) (b:=nx) (len:=j) (m:=s.members.length - (j+1)) (row:=(w.drop (j+1)).flatMap cI) (B:=⟨(w.take j).flatMap cI,1,true⟩) (by rw[jU,e5,upd_same]) (by show((w.take j).flatMap cI).length=_;rw[aS,l1]) rfl m1 (by unfold maxLen;omega) (by omega) c2;obtain⟨σ2,e4⟩:∃σ2,σ2=aY [nx] (nx+1) (nx+1+1) a3 (upd (upd (restrict a3 [nx]) nx none) (nx+1) (some ⟨(w.take j).flatMap cI++(w.drop (j+1)).flatMap cI,1,true⟩)):=⟨_,rfl⟩;have b2:σ2 0=some ⟨cStructure s,0,true⟩:=by
       rw[e4];unfold aY;rw[if_neg (by simp;omega),e5,ay];exact O
      have b4:σ2 (nx+1)=some ⟨(w.take j).flatMap cI++(w.drop (j+1)).flatMap cI,1,true⟩:=by
       rw[e4];unfold aY;rw[if_pos (.inr ⟨zq _,by omega⟩),upd_same]
      have x2:nx+1<nx+1+1:=by omega
      have x3:nx+1<nx+1+1+1:=by omega
      obtain⟨E,e3⟩:∃E,E=upd σ2 (nx+1+1) (some ⟨[I j],1,flat 7 (.agg (cStructure S))⟩):=⟨_,rfl⟩;have b3:E 0=some ⟨cStructure s,0,true⟩:=by rw[e3,ay];exact b2
      have st:∀d,strip E (d+1) (.rs (nx+1) 0 (j+(s.members.length - (j+1))))=some (LI (w.eraseIdx j),[nx+1]):=fun d=>dO (by rw[e3,ay,b4,<- zT,<- a5]) (by omega) d
      cases G:pb (nD S l (w.eraseIdx j))with
      |true=>
       rw[G]at k5 us;refine .inl ⟨_,by simp only[go_sem,t1,t2,t3,J,Y,O,a0,f1,f2,f3,e1,e2,i1,i2,i4,i5,c1,c2,l1,l2,k2,k5,st,y1,z0,m1,s1,<- e4,<- e5,a1,x2,x3,b2,<- e3,b3];rfl,?_⟩;simp only[go_sem,t1,t2,t3,J,b3];exact⟨rfl,by omega,by rw[us,hu];rfl⟩
      |false=>
       rw[G]at k5;refine .inr ⟨_,by simp only[go_sem,t1,t2,t3,J,Y,O,a0,f1,f2,f3,e1,e2,i1,i2,i4,i5,c1,c2,l1,l2,k2,k5,st,y1,z0,m1,s1,<- e4,<- e5,a1,x2,x3,b2,<- e3,b3];rfl,by simp,_,_,_,.inr ⟨rfl,by simp only[go_sem],?_⟩⟩;rw[eS]at G;exact tN hj G) (by
    rintro ⟨T,σ,nx⟩ ⟨t1,t2,t3,J,Y,a4,O,hu⟩;simp only at t1 t2 t3 J Y a4 O;exact⟨_,by simp only[go_sem,J,Y,zl];rfl,by simp,_,_,_,.inl ⟨rfl,hu⟩⟩) (by
    simp only[go_sem];rfl)
  obtain⟨T,σ,nx,⟨rfl,hu⟩|⟨rfl,t6,hu⟩⟩:=hx
  .rw[hu]
   simp only[go_sem]
  .rw[hu]
   simp only[go_sem,t6]
theorem DK(t:Stance)(G:okStance t)(strict:Bool):fn Tryz.prog aU bU 11 [.agg (cStance t),Bo strict]=some (Bo (BJ t strict)):=by
 have E:=OW t G;unfold BJ;rw[aH,ak [.tmp 4] [] Tryz.func11];cases hs:jw t with
 |false=>
  rw[hs]at E;simp only[go_sem,E]
 |true=>
  rw[hs]at E;obtain⟨J,O,S⟩:=Ht hs;have Y:=Xw J G.2.1 O S;have k3:=NU J G.2.1 O S;cases strict with
  |true=>simp only[go_sem,E,Y]
  |false=>simp only[go_sem,E,k3]
theorem ahR(y:Yard)(ho:okYard y)(Ia:y.stances.length<=6):fn Tryz.prog aU bU 48 [.agg (cYard y)]=some (LL qU (b_ y)):=by
 have a5:=iC y;rw[aH,ak [.tmp 2] [] Tryz.func48];simp only[go_sem];generalize Y:aF _ _=z;obtain⟨r,rfl,T',σ',nx',rfl,G⟩:=aB Y y.stances.length (fun k s=>1<=s.nx/\s.T 1= .rp 0 0/\s.T 8=LL cStance y.stances/\s.T 9=I y.stances.length/\s.T 10=I k/\s.σ 0=some ⟨cYard y,0,true⟩/\iZ qU 1 s.T s.σ s.nx 3 ((b_ y).take k)/\∀b o l,s.T 3= .rs b o l->1<=b)
  (fun r=>∃T σ nx',r=(.exit 0,⟨T,σ,nx'⟩)/\iZ qU 1 T σ nx' 3 (b_ y)) (by
   clear Y;rintro k ⟨T,σ,m⟩ hk ⟨hm,O,S,J,E,hs,G,hb⟩;simp only at hm O S J E hs G hb;have a0:k<(b_ y).length:=by omega
   have f1:(k:Int)<(y.stances.length:Int):=by omega
   have f2:=aI k;have f3:=ah (n:=(k:Int)+1);have f4:=Oa y.stances k hk;have f5:=EO y.stances;have f6:k*5+5<=y.stances.length*5:=by omega
   have f9:=Ob y.stances k hk;have k1:=DK y.stances[k] (ho.1.1 _ (zu hk)) y.strict;have es:(b_ y)[k]=BJ y.stances[k] y.strict:=by simp[b_]
   have z1:¬0=m:=by omega
   have z2:¬m=0:=by omega
   obtain⟨t,et⟩:∃t,t=y.stances[k]:=⟨_,rfl⟩;rw[<- et]at f4 k1 es;obtain⟨sb,eb⟩:∃sb,sb=BJ t y.strict:=⟨_,rfl⟩;rw[<- eb]at k1 es;have a1:=ny G (some ⟨cStance t,0,true⟩);obtain⟨σ',ha,a2,a3⟩:=gY (c:=qU) (s:=1) (bytes:=1) (fun _=>rfl) (fun _=>rfl) (by decide) a1 sb (by rw[zh];omega) (by decide);have q0:σ' 0=some ⟨cYard y,0,true⟩:=by rw[a3 0 (by omega) (fun b o l h e=>by have:=hb b o l h;omega),ay];exact hs
   refine .inl ⟨_,by simp only[go_sem,O,S,J,E,hs,f1,f2,f3,f4,f5,f6,f9,k1,ha,z1,z2];rfl,?_⟩;simp only[go_sem,O,S,J];rw[take_snoc a0,es];refine⟨rfl,q0,Ah a2 (by simp only[go_sem,zo]) (by simp),fun b o l h=>by(cases h;omega)⟩) (by
   clear Y;rintro ⟨T,σ,m⟩ ⟨hm,O,S,J,E,hs,G,hb⟩;simp only at hm O S J E hs G hb;rw[zk (by omega)]at G;exact⟨_,by simp only[go_sem,J,E,zl];rfl,by simp,_,_,_,rfl,WM (by simp only[go_sem]) G⟩) (by
   simp only[go_sem];exact⟨.inl ⟨by simp only[go_sem],rfl⟩,fun b o l h=>by cases h⟩)
 obtain⟨ids,a4⟩:=qC (c:=qU) (s:=1) (fun _=>rfl) 6 (fun x=>by rw[aO,cO,bQ];rfl) G;simp only[go_sem,a4]
end Go.Proofs.YtehdaknhabeiaaaGreat
namespace Go.Proofs.YtehdaknhabeiaaaGreat
open Go Go.TV
def F9(b:Nat):List Nat:=[b,b+1,b+2,b+3]
theorem uJ.stripL {σ:Store} {b:Nat} {s:Stance}(h:uJ σ b s)(d:Nat):TV.stripL (TV.strip σ (d+2)) (vF b s)=some (cStance s,F9 b):=by
 have G:lC (TV.own σ 1) (vF b s)=some (cStance s,[b,b+1,b+2,b+3]):=h.own 0;have J:TV.own σ 2 (.agg (vF b s))=some (.agg (cStance s),F9 b):=by
  unfold TV.own;simp only[G];rfl
 have E:=vZ 2 _ _ _ J (d+3) (by omega);rw[DX]at E;obtain⟨p,hp,e⟩:=dG E;obtain⟨a,b⟩:=p;simp only[wB,V.agg.injEq]at e;rw[hp,<- e.1,<- e.2]
theorem NV {b m:Nat}(h:b+4<=m):((F9 b).all fun b=>decide (b<m))=true:=by
 simp[F9];omega
theorem H7 {σ E:Store} {lo hi b:Nat}(G:lo<=b)(J:b<hi):aY [] lo hi σ E b=E b:=by
 unfold aY;rw[if_pos (.inr ⟨G,J⟩)]
theorem Ez {σ E:Store} {lo hi b:Nat}(h:b<lo):aY [] lo hi σ E b=σ b:=by
 unfold aY;rw[if_neg (by simp;omega)]
theorem Xx {E:Array Edge} {ids:List Nat}:∀ {acc:List (Nat×Bool×List Nat)},(acc.all fun p=> !p.2.1)=true->okG E false ids acc=true
 |[],_=>rfl
 |p :: acc,h=>by
  rw[List.all_cons,yh]at h;have G:p.2.1=false:=by simpa using h.1
  unfold okG;rw[G,Xx h.2];rfl
theorem H8 {E:Array Edge} {ids:List Nat} {acc:List (Nat×Bool×List Nat)}(h:(acc.all fun p=> !p.2.1)=true):okF E acc false ids=true:=by
 cases ids with
 |nil=>rfl
 |cons b G=>exact Xx h
theorem iQ.stripL {σ:Store} {n:Nat} {y:Yard}(h:iQ σ n y)(d:Nat):TV.stripL (TV.strip σ (d+2)) (iy n y)=some (cYard y,sS n y):=by
 have:=h.strip d;rw[DX]at this;obtain⟨p,hp,e⟩:=dG this;obtain⟨a,b⟩:=p;simp only[wB,V.agg.injEq]at e;rw[hp,<- e.1,<- e.2]
theorem ahS {n:Nat} {y:Yard} {b:Nat}(h:b<n\/n+2+10*y.stances.length<=b):(sS n y).contains b=false:=by
 rw[Bool.eq_false_iff];intro hc;have:=Vt (List.contains_iff_mem.mp hc);omega
theorem rP {n m:Nat} {y:Yard}(h:n+2+10*y.stances.length<=m):((sS n y).all fun b=>decide (b<m))=true:=by
 rw[List.all_eq_true];intro b hb;have:=Vt hb;simp only[decide_eq_true_eq];omega
open Go.Plan
attribute [-go_sem] bK
def Jf(al:List Bool)(E:Int)(i:Nat):Bool:=qX al i && !((i:Int)==E)
theorem ao9 {al:List Bool} {E:Int} {i:Nat}(h:Jf al E i=true):i<al.length:=by
 unfold Jf at h;rw[yh]at h;exact F5 h.1
theorem ao_(al:List Bool):Jf al (-1)=qX al:=by
 funext i;unfold Jf;have:((i:Int)== -1)=false:=by rw[w_];omega
 rw[this];simp
def abw(y:Yard)(al:Nat->Bool)(to r j:Nat)(i:Nat):Prop:=∃q,∃h:q<y.moves.length,q<j/\∃b:Nat,y.moves[q]=⟨(i:Int),(b:Int)⟩/\dst (qP y) al to b=(r:Int)
theorem apa(y:Yard)(hg:dw y)(to:Nat)(c0:to<y.stances.length)(al:List Bool)(c9:al.length=y.stances.length)(Y:Int) :
  fn Tryz.prog conv ext 62 [.agg (cYard y),LL qU al,I to,I Y]=some (LI (gq y.stances.length (dst (qP y) (Jf al Y) to))):=by
 have Ia:=hg.1;have e4:=hg.2.1;rw[aH,ak [.tmp 8] [] Tryz.func62];simp only[go_sem];generalize hL:aF _ _=z;obtain⟨x,rfl,T,σ,nx,rfl,O,t2,S,t4,J,G,hG,hb⟩:=aB hL y.stances.length (fun k st=>st.T 1=LL qU al/\st.T 2=I to/\st.T 3=I Y/\st.T 4= .rp 0 0/\st.T 16=I y.stances.length/\st.T 17=I k/\1<=st.nx/\st.σ 0=some ⟨cYard y,0,true⟩/\Grow st.T st.σ st.nx 9 (List.replicate k (-1))/\∀b o l,st.T 9= .rs b o l->1<=b)
  (fun x=>∃T σ nx,x=(.exit 0,⟨T,σ,nx⟩)/\T 1=LL qU al/\T 2=I to/\T 3=I Y/\T 4= .rp 0 0/\1<=nx/\σ 0=some ⟨cYard y,0,true⟩/\Grow T σ nx 9 (List.replicate y.stances.length (-1))/\∀b o l,T 9= .rs b o l->1<=b) (by
   clear hL;rintro k ⟨T,σ,nx⟩ hk ⟨O,t2,S,t4,a3,a6,J,G,hG,hb⟩;simp only at O t2 S t4 a3 a6 J G hG hb;have f1:(k:Int)<(y.stances.length:Int):=by omega
   have f3:=ah (n:=(k:Int)+1);obtain⟨σ',ha,hs,hf⟩:=nP hG (-1) (by rw[z_];omega);rw[z_]at ha;have q0:σ' 0=some ⟨cYard y,0,true⟩:=by rw[hf 0 (by omega) (fun b o l h e=>by have:=hb b o l h;omega)];exact G
   refine .inl ⟨_,by simp only[go_sem,a3,a6,f1,f3,ha];rfl,?_⟩;simp only[go_sem,O,t2,S,t4,a3];rw[List.replicate_succ'];refine⟨rfl,q0,fH hs (by simp only[go_sem,zo,z_]) (by simp),fun b o l h=>by(cases h;omega)⟩) (by
   clear hL;rintro ⟨T,σ,nx⟩ ⟨O,t2,S,t4,a3,a6,J,G,hG,hb⟩;simp only at O t2 S t4 a3 a6 J G hG hb;exact⟨_,by simp only[go_sem,a3,a6,zl];rfl,by simp,_,_,_,rfl,by simp only[go_sem,O],by simp only[go_sem,t2],by simp only[go_sem,S],by simp only[go_sem,t4],J,G,dM (by simp only[go_sem]) hG,by simpa only[go_sem]using hb⟩) (by
   simp only[go_sem];exact⟨.inl ⟨by simp only[go_sem],rfl⟩,fun b o l h=>by cases h⟩)
 clear hL;obtain⟨n,en⟩:∃n,n=y.stances.length:=⟨_,rfl⟩;rw[<- en]at hG c0 c9 Ia;obtain⟨b,t9,c5,e5,c6⟩:∃b,T 9= .rs b 0 n/\σ b=some ⟨(gq n (fun _=> -1)).flatMap cI,1,true⟩/\1<=b/\b<nx:=by
  rcases hG with ⟨_,h⟩|⟨b,h1,h2,h3,h4⟩
  .have:=congrArg List.length h
   rw[z_]at this;simp at this;omega
  .rw[z_]at h1
   exact⟨b,h1,by rw[Nz];exact h3,hb b 0 n h1,h4⟩
 have fin:∀(σ:Store) (out:Nat->Int) (d:Nat),σ b=some ⟨(gq n out).flatMap cI,1,true⟩->strip σ (d+1) (.rs b 0 n)=some (LI (gq n out),[b]):=fun σ out d h=>dO h (oz n out) d
 have d1:(to:Int)<(n:Int):=by omega
 have d2:=aI to;have a4:to<al.length:=by omega
 have d3:(al.flatMap qU)[to]?=some (Bo (qX al to)):=by rw[uU a4];exact mX (fun b=>Bo b) al to a4
 have d5:=Zj al to a4;have d6:(to:Int)<(al.length:Int):=by omega
 rw[<- en];have no:Jf al Y to=false->gq n (dst (qP y) (Jf al Y) to)=gq n (fun _=> -1):=fun h=>BA fun i _=>WE fun k hk=>by
  have:=hk.lst;rw[h]at this;cases this
 have f0:=fun d=>fin σ (fun _=> -1) d c5
 cases b7:qX al to with
 |false=>
  rw[no (by unfold Jf;rw[b7];rfl)];rw[b7]at d3;simp only[go_sem,O,t2,S,t9,d1,d2,d3,d5,d6,a4,f0]
 |true=>
  rw[b7]at d3
  by_cases ew:(to:Int)=Y
  .have a7:((to:Int)==Y)=true:=by simpa using ew
   rw[no (by unfold Jf;rw[a7];simp)];simp only[go_sem,O,t2,S,t9,d1,d2,d3,d5,d6,a4,f0,a7]
  .have a7:((to:Int)==Y)=false:=by simpa using ew
   have d0:Jf al Y to=true:=by unfold Jf;rw[b7,a7];rfl
   have e2:=Hq (n:=n) (fun _=> -1) to 0;have e3:((gq n fun _=>(-1:Int)).flatMap cI).length=n:=by rw[aS,oz]
   have z1:¬0=b:=by omega
   have z2:¬b=0:=by omega
   have d4:∀i,Jf al Y i=true->i<n:=fun i hi=>by have:=ao9 hi;omega
   simp only[go_sem,O,t2,S,t4,t9,c5,d1,d2,d3,d5,d6,a4,a7,e2,e3,c0,c6];generalize hL:aF _ _=w;obtain⟨x,rfl,T1,c7,aP,rfl,d7,out,d8,c8⟩:=aB hL n (fun r st=>st.T 1=LL qU al/\st.T 3=I Y/\st.T 4= .rp 0 0/\st.T 9= .rs b 0 n/\st.T 10=I r/\b<st.nx/\st.σ 0=some ⟨cYard y,0,true⟩/\∃out,Ot (qP y) (Jf al Y) to r (fun _=>False) out/\st.σ b=some ⟨(gq n out).flatMap cI,1,true⟩)
    (fun x=>∃T σ nx,x=(.exit 2,⟨T,σ,nx⟩)/\T 9= .rs b 0 n/\∃out,σ b=some ⟨(gq n out).flatMap cI,1,true⟩/\gq n out=gq n (dst (qP y) (Jf al Y) to)) (by
     clear hL;rintro r ⟨T,σ,nx⟩ hr ⟨O,S,t4,t9,E,J,G,out,hV,hs⟩;simp only at O S t4 t9 E J G hs;have f1:(r:Int)<(n:Int):=by omega
     have f3:=ah (n:=(r:Int)+1);refine fD ?_
     conv=>
      enter [1,r,1,1]
      simp only[go_sem,O,S,t4,t9,E,G,f1]
     generalize hL:aF _ _=w;obtain⟨x,rfl,T1,c7,aP,rfl,O,S,t4,t9,E,J,G,out,hV,hs⟩:=aB hL y.moves.length (fun j st=>st.T 1=LL qU al/\st.T 3=I Y/\st.T 4= .rp 0 0/\st.T 9= .rs b 0 n/\st.T 10=I r/\st.T 44=LL cMove y.moves/\st.T 45=I y.moves.length/\st.T 46=I j/\b<st.nx/\st.σ 0=some ⟨cYard y,0,true⟩/\∃out,Ot (qP y) (Jf al Y) to r (abw y (Jf al Y) to r j) out/\st.σ b=some ⟨(gq n out).flatMap cI,1,true⟩)
      (fun x=>∃T σ nx,x=(.exit 4,⟨T,σ,nx⟩)/\T 1=LL qU al/\T 3=I Y/\T 4= .rp 0 0/\T 9= .rs b 0 n/\T 10=I r/\b<nx/\σ 0=some ⟨cYard y,0,true⟩/\∃out,Ot (qP y) (Jf al Y) to (r+1) (fun _=>False) out/\σ b=some ⟨(gq n out).flatMap cI,1,true⟩) (by
       clear hL;rintro j ⟨T,σ,nx⟩ hj ⟨O,S,t4,t9,E,a1,a0,a2,J,G,out,hV,hs⟩;simp only at O S t4 t9 E a1 a0 a2 J G hs;obtain⟨a,c,e,ha,hc⟩:=abe hg hj;rw[<- en]at ha hc;have g1:(j:Int)<(y.moves.length:Int):=by omega
       have g2:=aI j;have g3:=ah (n:=(j:Int)+1);have g4:=LC y.moves j hj;rw[e]at g4;have g5:=BF y.moves;have g6:j*2+2<=y.moves.length*2:=by omega
       have g9:=LD y.moves j hj;obtain⟨gI,rC⟩:∃gI,gI=upd σ nx (some ⟨cMove ⟨(a:Int),(c:Int)⟩,0,true⟩):=⟨_,rfl⟩;have b0:gI nx=some ⟨cMove ⟨(a:Int),(c:Int)⟩,0,true⟩:=by rw[rC,upd_same]
       have b1:gI b=some ⟨(gq n out).flatMap cI,1,true⟩:=by rw[rC,ay];exact hs
       have b2:gI 0=some ⟨cYard y,0,true⟩:=by rw[rC,ay];exact G
       have y1:nx<nx+1:=by omega
       have y2:b<nx+1:=by omega
       have ic:(c:Int)<(n:Int):=by omega
       have a8:=aI c;have ia:(a:Int)<(n:Int):=by omega
       have a9:=aI a;have b6:(a:Int)<(al.length:Int):=by omega
       have ZW:a<al.length:=by omega
       have la:=Bz out ha;have lc:=Bz out hc;have ll:((gq n out).flatMap cI).length=n:=by rw[aS,oz]
       have v3:(al.flatMap qU)[a]?=some (Bo (qX al a)):=by rw[uU ZW];exact mX (fun b=>Bo b) al a ZW
       have v5:=Zj al a ZW;have d9:qP y a c=true:=(KF y a c).mpr ⟨j,hj,e⟩;have hD:∀i,abw y (Jf al Y) to r (j+1) i->abw y (Jf al Y) to r j i\/(i=a/\dst (qP y) (Jf al Y) to c=(r:Int)):=fun i hi=>by
        obtain⟨q,hq,e6,b',eb,b8⟩:=hi
        by_cases eq:q=j
        .subst eq
         rw[e]at eb;simp only[TV.Move.mk.injEq]at eb;have e1:i=a:=by omega
         have e2:b'=c:=by omega
         exact .inr ⟨e1,by rw[<- e2];exact b8⟩
        .exact .inl ⟨q,hq,by omega,b',eb,b8⟩
       have no:¬(out c=(r:Int)/\out a<0/\Jf al Y a=true)->Ot (qP y) (Jf al Y) to r (abw y (Jf al Y) to r (j+1)) out:=fun hn=>(hV.no hn).weak fun i _ hi=>hD i hi
       by_cases c1:out c=(r:Int)
       .have a5:(out c==(r:Int))=true:=by simpa using c1
        by_cases c2:out a<0
        .cases c3:qX al a with
         |false=>
          rw[c3]at v3;refine .inl ⟨_,by simp only[go_sem,O,S,t4,t9,E,a1,a0,a2,g1,g2,g3,g4,g5,g6,g9,<- rC,b0,b1,y1,y2,ic,a8,ia,a9,b6,ZW,ha,hc,la,lc,v3,v5,a5,c2];rfl,?_⟩;simp only[go_sem,O,S,t4,t9,E,a1,a0];exact⟨rfl,by omega,b2,out,no (fun h=>by unfold Jf at h;rw[c3]at h;cases h.2.2),b1⟩
         |true=>
          rw[c3]at v3
          by_cases c4:(a:Int)=Y
          .have b9:((a:Int) !=Y)=false:=by simpa using c4
           refine .inl ⟨_,by simp only[go_sem,O,S,t4,t9,E,a1,a0,a2,g1,g2,g3,g4,g5,g6,g9,<- rC,b0,b1,y1,y2,ic,a8,ia,a9,b6,ZW,ha,hc,la,lc,v3,v5,a5,c2,b9];rfl,?_⟩;simp only[go_sem,O,S,t4,t9,E,a1,a0];exact⟨rfl,by omega,b2,out,no (fun h=>by
            have h3:=h.2.2;unfold Jf at h3;rw[show((a:Int)==Y)=true by simpa using c4]at h3;simp at h3),b1⟩
          .have b9:((a:Int) !=Y)=true:=by simpa using c4
           have e0:Jf al Y a=true:=by unfold Jf;rw[c3,show((a:Int)==Y)=false by simpa using c4];rfl
           have w4:=ah (n:=(r:Int)+1);have st:=Hq (n:=n) out a ((r:Int)+1);obtain⟨σ2,qI⟩:∃σ2,σ2=upd gI b (some ⟨(gq n (put out a ((r:Int)+1))).flatMap cI,1,true⟩):=⟨_,rfl⟩;have b3:σ2 nx=some ⟨cMove ⟨(a:Int),(c:Int)⟩,0,true⟩:=by rw[qI,ay];exact b0
           have b4:σ2 0=some ⟨cYard y,0,true⟩:=by rw[qI,ay];exact b2
           have b5:σ2 b=some ⟨(gq n (put out a ((r:Int)+1))).flatMap cI,1,true⟩:=by rw[qI,upd_same]
           refine .inl ⟨_,by simp only[go_sem,O,S,t4,t9,E,a1,a0,a2,g1,g2,g3,g4,g5,g6,g9,<- rC,b0,b1,y1,y2,ic,a8,ia,a9,b6,ZW,ha,hc,la,lc,ll,v3,v5,a5,c2,b9,w4,st,<- qI];rfl,?_⟩;simp only[go_sem,O,S,t4,t9,E,a1,a0];exact⟨rfl,by omega,b4,_,(hV.yes d9 c1 c2 e0).weak fun i _ hi=>(hD i hi).imp id And.left,b5⟩
        .refine .inl ⟨_,by simp only[go_sem,O,S,t4,t9,E,a1,a0,a2,g1,g2,g3,g4,g5,g6,g9,<- rC,b0,b1,y1,y2,ic,a8,ia,a9,b6,ZW,ha,hc,la,lc,v3,v5,a5,c2];rfl,?_⟩
         simp only[go_sem,O,S,t4,t9,E,a1,a0];exact⟨rfl,by omega,b2,out,no (fun h=>c2 h.2.1),b1⟩
       .have a5:(out c==(r:Int))=false:=by simpa using c1
        refine .inl ⟨_,by simp only[go_sem,O,S,t4,t9,E,a1,a0,a2,g1,g2,g3,g4,g5,g6,g9,<- rC,b0,b1,y1,y2,ic,a8,ia,a9,b6,ZW,ha,hc,la,lc,v3,v5,a5];rfl,?_⟩;simp only[go_sem,O,S,t4,t9,E,a1,a0];exact⟨rfl,by omega,b2,out,no (fun h=>c1 h.1),b1⟩) (by
       clear hL;rintro ⟨T,σ,nx⟩ ⟨O,S,t4,t9,E,a1,a0,a2,J,G,out,hV,hs⟩;simp only at O S t4 t9 E a1 a0 a2 J G hs;refine⟨_,by simp only[go_sem,a0,a2,zl];rfl,by simp,_,_,_,rfl,by simp only[go_sem,O],by simp only[go_sem,S],by simp only[go_sem,t4],by simp only[go_sem,t9],by simp only[go_sem,E],J,G,out,hV.next fun i b' hm b8=>?_,hs⟩;obtain⟨q,hq,eq⟩:=(KF y i b').mp hm;exact⟨q,hq,hq,b',eq,b8⟩) (by
       simp only[go_sem,O,S,t4,t9,E];exact⟨J,G,out,hV.weak fun i _ hi=>(by obtain⟨q,_,h0,_⟩:=hi;omega),hs⟩)
     refine⟨_,by simp only[go_sem,E,f3];rfl,.inl ⟨_,rfl,?_⟩⟩;simp only[go_sem,O,S,t4,t9];exact⟨rfl,J,G,out,hV,hs⟩) (by
     clear hL;rintro ⟨T,σ,nx⟩ ⟨O,S,t4,t9,E,J,G,out,hV,hs⟩;simp only at O S t4 t9 E J G hs;refine⟨_,by simp only[go_sem,t9,E,zl];rfl,by simp,_,_,_,rfl,by simp only[go_sem,t9],out,hs,BA fun i _=>hV.fin d4 i⟩) (by
     simp only[go_sem,O,S,t4];exact⟨t9,c6,by rw[ay];exact G,_,adC d0,rfl⟩)
   have f9:=fun d=>fin c7 out d d8
   simp only[go_sem,d7,f9,c8]
noncomputable def endsB(y:Yard)(fr to:Int):Bool:=pb (dw y) && (inB fr 0 ((y.stances.length:Int) - 1) && inB to 0 ((y.stances.length:Int) - 1))
theorem avr(y:Yard)(E:okYard y)(fr to:Int):fn Tryz.prog conv ext 61 [.agg (cYard y),I fr,I to]=some (Bo (endsB y fr to)):=by
 have Y:(y.stances.length:Int)<=9223372036854775807:=by have:=E.1.2.1;omega
 have G:=QX y E;have J:=ql fr 0 ((y.stances.length:Int) - 1);have O:=ql to 0 ((y.stances.length:Int) - 1);have w1:=ah (n:=(y.stances.length:Int) - 1);unfold endsB;generalize pb (dw y)=b at *;generalize inB fr 0 ((y.stances.length:Int) - 1)=S at *;generalize inB to 0 ((y.stances.length:Int) - 1)=b3 at *;rw[aH,ak [.tmp 6] [] Tryz.func61];cases b<;>cases S<;>simp only[go_sem,G,J,O,w1]
theorem TA(y:Yard)(ho:okYard y):fn Tryz.prog aU bU 22 [.agg (cYard y)]=some (LI (NH y)):=by
 have k1:=QX y ho;unfold NH;rw[aH,ak [.tmp 2] [] Tryz.func22];cases hg:pb (dw y)with
 |false=>
  rw[hg]at k1;rw[if_neg (by simp)]
  (simp only[go_sem,k1])<;>rfl
 |true=>
  rw[hg]at k1;rw[if_pos rfl];have hG:=EP hg;have Ia:=hG.1;have a3:=iC y;simp only[go_sem,k1];generalize hL:aF _ _=z;obtain⟨x,rfl,T,σ,nx,rfl,a0⟩:=aB hL y.stances.length (fun k st=>1<=st.nx/\st.T 1= .rp 0 0/\st.T 11=LL cStance y.stances/\st.T 12=I y.stances.length/\st.T 13=I k/\st.σ 0=some ⟨cYard y,0,true⟩/\Grow st.T st.σ st.nx 3 (pO (qX (b_ y)) k)/\∀b o l,st.T 3= .rs b o l->1<=b)
   (fun x=>∃T σ nx,x=(.exit 0,⟨T,σ,nx⟩)/\Grow T σ nx 3 (pO (qX (b_ y)) y.stances.length)) (by
    clear hL;rintro k ⟨T,σ,m⟩ hk ⟨hm,O,G,E,J,hs,S,hb⟩;simp only at hm O G E J hs S hb;have f1:(k:Int)<(y.stances.length:Int):=by omega
    have f2:=aI k;have f3:=ah (n:=(k:Int)+1);have f4:=Oa y.stances k hk;have f5:=EO y.stances;have f6:k*5+5<=y.stances.length*5:=by omega
    have f9:=Ob y.stances k hk;have k2:=DK y.stances[k] (ho.1.1 _ (zu hk)) y.strict;have es:qX (b_ y) k=BJ y.stances[k] y.strict:=by rw[uU (by omega)];simp[b_]
    have z1:¬0=m:=by omega
    have z2:¬m=0:=by omega
    have hle:=ru (qX (b_ y)) k;obtain⟨t,et⟩:∃t,t=y.stances[k]:=⟨_,rfl⟩;rw[<- et]at f4 k2 es;obtain⟨sb,eb⟩:∃sb,sb=BJ t y.strict:=⟨_,rfl⟩;rw[<- eb]at k2 es;have Y:=Bq S (some ⟨cStance t,0,true⟩);have q0:upd σ m (some ⟨cStance t,0,true⟩) 0=some ⟨cYard y,0,true⟩:=by rw[ay];exact hs
    cases sb with
    |true=>
     obtain⟨σ',ha,a1,hf⟩:=nP Y (k:Int) (by omega);have q1:σ' 0=some ⟨cYard y,0,true⟩:=by rw[hf 0 (by omega) (fun b o l h e=>by have:=hb b o l h;omega)];exact q0
     refine .inl ⟨_,by simp only[go_sem,O,G,E,J,hs,f1,f2,f3,f4,f5,f6,f9,k2,ha,z1,z2];rfl,?_⟩;simp only[go_sem,O,G,E];rw[A_ es];exact⟨rfl,q1,fH a1 (by simp only[go_sem,zo]) (by simp),fun b o l h=>by(cases h;omega)⟩
    |false=>
     refine .inl ⟨_,by simp only[go_sem,O,G,E,J,hs,f1,f2,f3,f4,f5,f6,f9,k2,z1,z2];rfl,?_⟩;simp only[go_sem,O,G,E];rw[FP es];exact⟨rfl,q0,dM (T:=T) (by simp only[go_sem]) Y,hb⟩) (by
    clear hL;rintro ⟨T,σ,m⟩ ⟨hm,O,G,E,J,hs,S,hb⟩;simp only at hm O G E J hs S hb;exact⟨_,by simp only[go_sem,E,J,zl];rfl,by simp,_,_,_,rfl,dM (by simp only[go_sem]) S⟩) (by
    simp only[go_sem];exact⟨.inl ⟨by simp only[go_sem],rfl⟩,fun b o l h=>by cases h⟩)
  obtain⟨ids,a2⟩:=iP a0 6;simp only[go_sem,a2]
theorem ad1(y:Yard)(ho:okYard y)(fr to:Int):fn Tryz.prog aU bU 31 [.agg (cYard y),I fr,I to]=some (.dS [LI (Ak y fr to),Bo (jr y fr to)]):=by
 have k1:=avr y ho fr to;have b4:jr y fr to=false->(V.dS [LI (Ak y fr to),Bo (jr y fr to)])= .dS [.ts [] 0,Bo false]:=fun h=>by
  unfold Ak;rw[h,if_neg (by simp)];rfl
 rw[aH,ak [.tmp 6,.tmp 7] [] Tryz.func31];cases he:endsB y fr to with
 |false=>
  rw[he]at k1;rw[b4 (by
   cases hp:jr y fr to with
   |false=>rfl
   |true=>
    have a9:=hp;unfold jr at a9;simp only[yh,decide_eq_true_eq]at a9;obtain⟨hg,⟨h1,h2⟩,h3⟩:=a9;obtain⟨⟨t0,t1⟩,_⟩:=abj h3;have:endsB y fr to=true:=by
     unfold endsB inB;rw[hg,vw (by omega),vw (by omega),vw (by omega),vw (by omega)];rfl
    rw[he]at this;cases this)]
  simp only[go_sem,k1]
 |true=>
  rw[he]at k1;unfold endsB at he;simp only[yh]at he;obtain⟨hg,hf,ht⟩:=he;have hG:=EP hg;have hf:=jg hf;have ht:=jg ht;have Ia:=hG.1;obtain⟨E,rfl⟩:∃a:Nat,fr=(a:Int):=⟨fr.toNat,by omega⟩;obtain⟨t0,rfl⟩:∃a:Nat,to=(a:Int):=⟨to.toNat,by omega⟩;have c0:E<y.stances.length:=by omega
  have c2:t0<y.stances.length:=by omega
  have k2:=ahR y ho Ia;have k3:=apa y hG t0 c2 (b_ y) (iC y) (-1);rw[ao_]at k3;obtain⟨out,eo⟩:∃out,out=dst (qP y) (qX (b_ y)) t0:=⟨_,rfl⟩;have es:SV y (b_ y) (t0:Int)=out:=by rw[eo];funext i;unfold SV;rw[if_pos ⟨by omega,by omega⟩,yw]
  rw[<- eo]at k3;have f1:(E:Int)<(y.stances.length:Int):=by omega
  have f2:=aI E;have la:=fun {a:Nat} (h:a<y.stances.length)=>Bz (n:=y.stances.length) out h
  have b5:=la c0;have ll:=oz y.stances.length out;have a3:(gq y.stances.length out).flatMap cI≠[]:=fun e=>by
   have h:=aS (gq y.stances.length out);rw[e,ll]at h;have h:0=y.stances.length:=h;omega
  by_cases c3:out E<0
  .rw[b4 (by unfold jr;rw[es,yw,vk (p:=0<=out E) (by omega),xR,xR])]
   simp only[go_sem,k1,k2,k3,ll,a3,b5,f1,f2,c3]
  have e:jr y E t0=true:=by
   unfold jr;rw[es,hg,yw,vw (p:=0<=out E) (by omega),vw f2,vw (p:=(E:Int)<_) (by omega)];rfl
  have c4:Ak y E t0=lH y out E (out E).toNat:=by
   unfold Ak;rw[if_pos e,es,yw];rfl
  rw[e,c4];obtain⟨d,hd⟩:∃d:Nat,out E=(d:Int):=⟨(out E).toNat,by omega⟩;have b2:∀i,qX (b_ y) i=true->i<y.stances.length:=fun i hi=>by have:=F5 hi;rw[iC]at this;exact this
  have a4:∀k:Nat,k<=d->out (WL (qP y) out y.stances.length E k)=(d:Int) - k:=fun k hk=>by
   have:=I8 b2 (mv:=qP y) (to:=t0) (a:=E) k (by rw[<- eo,hd];omega);rw[<- eo,hd]at this;exact this
  have b6:∀k:Nat,k<=d->WL (qP y) out y.stances.length E k<y.stances.length:=fun k hk=>by
   have h1:=a4 k hk;have h2:=Nh (mv:=qP y) (al:=qX (b_ y)) (to:=t0) (i:=WL (qP y) out y.stances.length E k) (by rw[<- eo];omega);exact b2 _ h2.1
  have d2:d<=6:=by
   have:=ZI b2 (mv:=qP y) (to:=t0) (a:=E) (by rw[<- eo,hd];omega);rw[<- eo,hd]at this;omega
  have c5:qX (b_ y) t0=true:=(Nh (mv:=qP y) (al:=qX (b_ y)) (to:=t0) (i:=E) (by rw[<- eo];omega)).2;obtain⟨at_,a5⟩:∃at_,at_=WL (qP y) out y.stances.length E:=⟨_,rfl⟩;rw[<- a5]at a4 b6;have hzero:∀k:Nat,k<=d->(at_ k=t0↔k=d):=fun k hk=>by
   have h1:=a4 k hk;constructor
   .intro e'
    have h2:out t0=0:=by rw[eo];exact Nc c5
    rw[e',h2]at h1;omega
   .intro e'
    have h2:dst (qP y) (qX (b_ y)) t0 (at_ k)=0:=by rw[<- eo,h1];omega
    exact(WG h2).1
  have c6:∀k,lH y out E (k+1)=lH y out E k++[((at_ (k+1):Nat):Int)]:=fun k=>by rw[a5];exact NG y out E k
  have w0:lH y out E 0=[(E:Int)]:=rfl;have wl:=P6 y out E;have c7:(out E).toNat=d:=by omega
  rw[c7];simp only[go_sem,k1,k2,k3,ll,a3,b5,f1,f2,c3];generalize hL:aF _ _=z;obtain⟨x,rfl,T,σ,nx',rfl,c8⟩:=bJ hL (fun m st=>∃k,k+m=d/\st.T 2=I t0/\st.T 3= .rp 0 0/\st.T 8=LI (gq y.stances.length out)/\st.T 10=I (at_ k)/\1<st.nx/\st.σ 0=some ⟨cYard y,0,true⟩/\Grow st.T st.σ st.nx 9 (lH y out E k)/\∀b o l,st.T 9= .rs b o l->1<=b)
   (fun x=>∃T σ nx',x=(.exit 0,⟨T,σ,nx'⟩)/\Grow T σ nx' 9 (lH y out E d)) (by
    clear hL;rintro m ⟨T,σ,jo⟩ ⟨k,hk,S,t3,Y,G,O,J,Jc,hB⟩;simp only at S t3 Y G O J Jc hB;have ha:=b6 k (by omega);have d3:=a4 k (by omega);have hz:=hzero k (by omega);have b7:=la ha;have g1:(at_ k:Int)<(y.stances.length:Int):=by omega
    have g2:(0:Int)<=(at_ k:Int):=by omega
    by_cases hm:m=0
    .subst hm
     have b8:k=d:=by omega
     have g3:((at_ k:Int) !=(t0:Int))=false:=by rw[hz.mpr b8];simp
     refine .inr ⟨_,by simp only[go_sem,S,Y,G,g3];rfl,by simp,_,_,_,rfl,?_⟩;rw[<- b8];exact dM (by simp only[go_sem]) Jc
    .have g3:((at_ k:Int) !=(t0:Int))=true:=by
      have:at_ k≠t0:=fun e'=>by have:=hz.mp e';omega
      simp;omega
     have k4:=ard y ho hG (at_ k:Int);rw[PZ]at k4;have d4:=Xe y (at_ k);have w4:=ah (n:=out (at_ k) - 1);have a8:at_ (k+1)=Ie (qP y) out y.stances.length (at_ k):=by rw[a5];rfl
     refine fD ?_
     conv=>
      enter [1,r,1,1]
      simp only[go_sem,S,t3,Y,G,J,g3,k4,f_]
     generalize hL:aF _ _=w;obtain⟨r,rfl,T',σ',dI,rfl,S,t3,Y,G,O,J,Jc,hB⟩:=aB hL (nexts y (at_ k)).length (fun j st=>st.T 2=I t0/\st.T 3= .rp 0 0/\st.T 8=LI (gq y.stances.length out)/\st.T 10=I (at_ k)/\st.T 36=LI (fC (nexts y (at_ k)))/\st.T 37=I (nexts y (at_ k)).length/\st.T 38=I j/\1<st.nx/\st.σ 0=some ⟨cYard y,0,true⟩/\Grow st.T st.σ st.nx 9 (lH y out E k)/\(∀b o l,st.T 9= .rs b o l->1<=b)/\∀i (hi:i<(nexts y (at_ k)).length),i<j->(out (nexts y (at_ k))[i]==out (at_ k) - 1)=false)
      (fun r=>∃T σ dI,r=(.exit 2,⟨T,σ,dI⟩)/\T 2=I t0/\T 3= .rp 0 0/\T 8=LI (gq y.stances.length out)/\T 10=I (at_ (k+1))/\1<dI/\σ 0=some ⟨cYard y,0,true⟩/\Grow T σ dI 9 (lH y out E (k+1))/\∀b o l,T 9= .rs b o l->1<=b) (by
       clear hL;rintro j ⟨T,σ,jo⟩ hj ⟨S,t3,Y,G,a1,a2,a6,O,J,Jc,hB,a7⟩;simp only at S t3 Y G a1 a2 a6 O J Jc hB;have f1:(j:Int)<((nexts y (at_ k)).length:Int):=by omega
       have f2:=aI j;have f3:=ah (n:=(j:Int)+1);have f4:=P5 (nexts y (at_ k)) hj;have f5:=f_ (nexts y (at_ k));have f6:(fC (nexts y (at_ k))).flatMap cI≠[]:=fun e=>by
        have h:=aS (fC (nexts y (at_ k)));rw[e,f5]at h;have h:0=(nexts y (at_ k)).length:=h;omega
       have hc:=Xd hj;have b3:=la hc;obtain⟨c,ec⟩:∃c,c=(nexts y (at_ k))[j]:=⟨_,rfl⟩;rw[<- ec]at f4 hc b3;have i1:(c:Int)<(y.stances.length:Int):=by omega
       have i2:=aI c;cases hq:(out c==out (at_ k) - 1)with
       |true=>
        have hn:=ahe hj a7 (by rw[<- ec];exact hq);obtain⟨kP,b9,c9,d0⟩:=nP Jc (c:Int) (by rw[wl];omega);rw[wl]at b9;have q0:kP 0=some ⟨cYard y,0,true⟩:=by rw[d0 0 (by omega) (fun b o l h e=>by have:=hB b o l h;omega)];exact J
        refine .inr ⟨_,by simp only[go_sem,S,t3,Y,G,a1,a2,a6,ll,a3,b7,b3,g1,g2,ha,f1,f2,f3,f4,f5,f6,hj,hc,i1,i2,w4,hq,b9];rfl,by simp,_,_,_,rfl,?_⟩;simp only[go_sem,S,t3,Y];refine⟨by rw[a8,hn,<- ec],by omega,q0,?_,fun b o l hb=>by(cases hb;omega)⟩;rw[c6,a8,hn,<- ec];exact fH c9 (by simp only[go_sem,zo,wl]) (by simp)
       |false=>
        refine .inl ⟨_,by simp only[go_sem,S,t3,Y,G,a1,a2,a6,ll,a3,b7,b3,g1,g2,ha,f1,f2,f3,f4,f5,f6,hj,hc,i1,i2,w4,hq];rfl,?_⟩;simp only[go_sem,S,t3,Y,G,a1,a2];refine⟨rfl,O,J,dM (by simp only[go_sem]) Jc,hB,fun i hi d5=>?_⟩
        by_cases e:i=j
        .subst e;rw[<- ec];exact hq
        .exact a7 i hi (by omega)) (by
       clear hL;rintro ⟨T,σ,jo⟩ ⟨S,t3,Y,G,a1,a2,a6,O,J,Jc,hB,a7⟩;exfalso;obtain⟨j,hj,hq⟩:=ND (y:=y) (al:=b_ y) (iC y) (to:=t0) (a:=at_ k) (by rw[<- eo];omega);rw[<- eo,a7 j hj hj]at hq;cases hq) (by
       simp only[go_sem,S,t3,Y,G];exact⟨O,J,dM (by simp only[go_sem]) Jc,hB,fun i hi h0=>absurd h0 (zW _)⟩)
     refine⟨_,by simp only[go_sem];rfl,.inl ⟨_,rfl,m-1,by omega,k+1,by omega,?_⟩⟩;exact⟨S,t3,Y,G,O,J,Jc,hB⟩) d (by
    simp only[go_sem];refine⟨0,by omega,by rw[a5];rfl,.inr ⟨1,?_,by rw[w0];simp,?_,by omega⟩,fun b o l hb=>by cases hb;omega⟩
    .simp only[go_sem]
     rfl
    .rw[upd_same];rfl)
  obtain⟨ids,d1⟩:=iP c8 5;simp only[go_sem,d1]
theorem OA(y:Yard)(E:okYard y)(fr to:Int):fn Tryz.prog aU bU 29 [.agg (cYard y),I fr,I to]=some (I (Ak y fr to).length):=by
 have k:=ad1 y E fr to;rw[aH,ak [.tmp 6] [] Tryz.func29];simp only[go_sem,k]
theorem ad2(y:Yard):(NH y).length<=1000000:=by
 unfold NH
 split
 .rename_i h
  exact zL (ru _ _) (by have:=(EP h).1;omega)
 .exact Nat.zero_le _
def Xy(y:Yard)(a c:Int):Bool:=y.moves.any fun m=>(m.fr==a) && (m.to==c)
noncomputable def ug(y:Yard)(plan:List Int)(k:Nat):Bool:=inB (plan.getD k 0) 0 ((y.stances.length:Int) - 1) && (qX (b_ y) (plan.getD k 0).toNat && (decide (k=0)||Xy y (plan.getD (k-1) 0) (plan.getD k 0)))
noncomputable def H9(y:Yard)(plan:List Int):Bool:=pb (dw y) && (decide (plan≠[]) && (List.range plan.length).all (ug y plan))
theorem avs(y:Yard)(hg:dw y)(a c:Int):fn Tryz.prog conv ext 50 [.agg (cYard y),I a,I c]=some (Bo (Xy y a c)):=by
 have a1:=hg.2.1;unfold Xy;rw[aH,ak [.tmp 6] [] Tryz.func50];simp only[go_sem];generalize hL:aF _ _=z;obtain⟨x,rfl,hx⟩:=aB hL y.moves.length (fun j st=>st.T 1=I a/\st.T 2=I c/\st.T 10=LL cMove y.moves/\st.T 11=I y.moves.length/\st.T 12=I j/\∀i (h:i<y.moves.length),i<j->((y.moves[i].fr==a) && (y.moves[i].to==c))=false)
  (fun x=>∃T σ nx,(x=(.exit 0,⟨T,σ,nx⟩)/\(y.moves.any fun m=>(m.fr==a) && (m.to==c))=false)\/(x=(.ret,⟨T,σ,nx⟩)/\T 6=Bo true/\(y.moves.any fun m=>(m.fr==a) && (m.to==c))=true)) (by
   clear hL;rintro j ⟨T,σ,nx⟩ hj ⟨S,Y,G,E,J,O⟩;simp only at S Y G E J;have g1:(j:Int)<(y.moves.length:Int):=by omega
   have g2:=aI j;have g3:=ah (n:=(j:Int)+1);have g4:=LC y.moves j hj;have g5:=BF y.moves;have g6:j*2+2<=y.moves.length*2:=by omega
   have g9:=LD y.moves j hj;obtain⟨m,em⟩:∃m,m=y.moves[j]:=⟨_,rfl⟩;rw[<- em]at g4;have y1:nx<nx+1:=by omega
   cases h1:(m.fr==a)with
   |false=>
    refine .inl ⟨_,by simp only[go_sem,S,Y,G,E,J,g1,g2,g3,g4,g5,g6,g9,y1,h1];rfl,?_⟩;simp only[go_sem,S,Y,G,E];refine⟨rfl,fun i hi a0=>?_⟩
    by_cases e:i=j
    .subst e;rw[<- em,h1];rfl
    .exact O i hi (by omega)
   |true=>cases h2:(m.to==c)with
    |false=>
     refine .inl ⟨_,by simp only[go_sem,S,Y,G,E,J,g1,g2,g3,g4,g5,g6,g9,y1,h1,h2];rfl,?_⟩;simp only[go_sem,S,Y,G,E];refine⟨rfl,fun i hi a0=>?_⟩
     by_cases e:i=j
     .subst e;rw[<- em,h2,xR]
     .exact O i hi (by omega)
    |true=>
     refine .inr ⟨_,by simp only[go_sem,S,Y,G,E,J,g1,g2,g4,g5,g6,g9,y1,h1,h2];rfl,by simp,_,_,_,.inr ⟨rfl,by simp only[go_sem],?_⟩⟩;rw[List.any_eq_true];exact⟨m,by rw[em];exact zu hj,by rw[h1,h2];rfl⟩) (by
   clear hL;rintro ⟨T,σ,nx⟩ ⟨S,Y,G,E,J,O⟩;simp only at S Y G E J;refine⟨_,by simp only[go_sem,E,J,zl];rfl,by simp,_,_,_,.inl ⟨rfl,?_⟩⟩;rw[List.any_eq_false];intro m hm;obtain⟨i,hi,rfl⟩:=yV hm;rw[O i hi hi];simp) (by
   simp only[go_sem];exact fun i _ h=>absurd h (zW _))
 obtain⟨T,σ,nx,⟨rfl,hm⟩|⟨rfl,t6,hm⟩⟩:=hx
 .rw[hm]
  simp only[go_sem]
 .rw[hm]
  simp only[go_sem,t6]
theorem Qi {p:Nat->Bool} {n:Nat}(h:∀i,i<n->p i=true):(List.range n).all p=true:=by
 rw[List.all_eq_true];exact fun i hi=>h i (List.mem_range.mp hi)
theorem H_ {p:Nat->Bool} {n k:Nat}(E:k<n)(h:p k=false):(List.range n).all p=false:=by
 rw[List.all_eq_false];exact⟨k,List.mem_range.mpr E,by rw[h];simp⟩
theorem ak6(y:Yard)(ho:okYard y)(plan:List Int)(a4:plan.length<=1048576):fn Tryz.prog aU bU 16 [.agg (cYard y),LI plan]=some (Bo (H9 y plan)):=by
 have k1:=QX y ho;unfold H9;rw[aH,ak [.tmp 4] [] Tryz.func16];cases hg:pb (dw y)with
 |false=>
  rw[hg]at k1;simp only[go_sem,k1,Bool.false_and]
 |true=>
  rw[hg]at k1;have hG:=EP hg;have Ia:=hG.1
  by_cases a1:plan=[]
  .subst a1
   have e0:((([]:List Int).length:Int)==0)=true:=rfl;simp only[go_sem,k1,e0];simp
  have a5:plan.length≠0:=fun e=>a1 (zZ e)
  have e0:((plan.length:Int)==0)=false:=by rw[w_];omega
  rw[vw a1,Bool.true_and,Bool.true_and];have k2:=ahR y ho Ia;have hS:=iC y;simp only[go_sem,k1,e0,k2];generalize hL:aF _ _=z;obtain⟨x,rfl,hx⟩:=aB hL plan.length (fun k st=>st.T 1=LI plan/\st.T 2= .rp 0 0/\st.T 5=LL qU (b_ y)/\st.T 18=LI plan/\st.T 19=I plan.length/\st.T 20=I k/\0<st.nx/\st.σ 0=some ⟨cYard y,0,true⟩/\∀i,i<k->ug y plan i=true)
   (fun x=>∃T σ nx,(x=(.exit 0,⟨T,σ,nx⟩)/\(List.range plan.length).all (ug y plan)=true)\/(x=(.ret,⟨T,σ,nx⟩)/\T 4=Bo false/\(List.range plan.length).all (ug y plan)=false)) (by
    clear hL;rintro k ⟨T,σ,nx⟩ hk ⟨Y,t2,t5,og,G,J,O,S,a0⟩;simp only at Y t2 t5 og G J O S;have g1:(k:Int)<(plan.length:Int):=by omega
    have g2:=aI k;have g3:=ah (n:=(k:Int)+1);have g4:=idx (xs:=plan) (k:=k) hk;have g5:=fB plan k hk;have gd:plan.getD k 0=plan[k]:=by rw[zx,zy hk];rfl
    obtain⟨p,ep⟩:∃p,p=plan[k]:=⟨_,rfl⟩;rw[<- ep]at g4 gd;have k3:=ql p 0 ((y.stances.length:Int) - 1);have w1:=ah (n:=(y.stances.length:Int) - 1);have E:ug y plan k=(inB p 0 ((y.stances.length:Int) - 1) && (qX (b_ y) p.toNat && (decide (k=0)||Xy y (plan.getD (k-1) 0) p))):=by unfold ug;rw[gd]
    have no:ug y plan k=false->(List.range plan.length).all (ug y plan)=false:=fun h=>H_ hk h
    cases hb:inB p 0 ((y.stances.length:Int) - 1)with
    |false=>
     rw[hb]at k3 E;refine .inr ⟨_,by simp only[go_sem,Y,t2,t5,og,G,J,hS,g1,g2,g4,g5,hk,k3,w1];rfl,by simp,_,_,_,.inr ⟨rfl,by simp only[go_sem],no (by rw[E];rfl)⟩⟩
    |true=>
    rw[hb]at k3 E;have hr:=jg hb;obtain⟨j,rfl⟩:∃j:Nat,p=(j:Int):=⟨p.toNat,by omega⟩;rw[yw]at E;have hj:j<y.stances.length:=by omega
    have a2:j<(b_ y).length:=by omega
    have j1:(j:Int)<(y.stances.length:Int):=by omega
    have j2:=aI j;have j3:((b_ y).flatMap qU)[j]?=some (Bo (qX (b_ y) j)):=by rw[uU a2];exact mX (fun b=>Bo b) (b_ y) j a2
    have j5:=Zj (b_ y) j a2;cases hs:qX (b_ y) j with
    |false=>
     rw[hs]at E j3;refine .inr ⟨_,by simp only[go_sem,Y,t2,t5,og,G,J,hS,g1,g2,g4,g5,hk,k3,w1,j1,j2,j3,j5,hj];rfl,by simp,_,_,_,.inr ⟨rfl,by simp only[go_sem],no (by rw[E];rfl)⟩⟩
    |true=>
    rw[hs]at E j3
    by_cases h0:k=0
    .rw[vw h0]at E
     have i0:¬(0:Int)<(k:Int):=by omega
     refine .inl ⟨_,by simp only[go_sem,Y,t2,t5,og,G,J,hS,g1,g2,g3,g4,g5,hk,k3,w1,j1,j2,j3,j5,hj,i0];rfl,?_⟩;simp only[go_sem,Y,t2,t5,og,G];refine⟨rfl,O,S,fun i hi=>?_⟩
     by_cases e:i=k
     .rw[e,E];rfl
     .exact a0 i (by omega)
    .have i0:(0:Int)<(k:Int):=by omega
     rw[vk h0,Bool.false_or]at E;have i1:=ah (n:=(k:Int) - 1);have i2:(k:Int) - 1=((k-1:Nat):Int):=by omega
     have i3:=idx (xs:=plan) (k:=k-1) (by omega);have i4:((k-1:Nat):Int)<(plan.length:Int):=by omega
     have i5:(0:Int)<=((k-1:Nat):Int):=by omega
     have i6:k-1<plan.length:=by omega
     rw[i2]at i1;have a3:plan.getD (k-1) 0=plan[k-1]'(by omega):=by rw[zx,zy (by omega)];rfl
     obtain⟨q,eq⟩:∃q,q=plan[k-1]'(by omega):=⟨_,rfl⟩;rw[<- eq]at i3 a3;rw[a3]at E;have k4:=avs y hG q (j:Int);cases hm:Xy y q (j:Int)with
     |false=>
      rw[hm]at E k4;refine .inr ⟨_,by simp only[go_sem,Y,t2,t5,og,G,J,S,O,hS,g1,g2,g4,g5,hk,k3,w1,j1,j2,j3,j5,hj,i0,i1,i2,i3,i4,i5,i6,k4];rfl,by simp,_,_,_,.inr ⟨rfl,by simp only[go_sem],no (by rw[E];rfl)⟩⟩
     |true=>
      rw[hm]at E k4;refine .inl ⟨_,by simp only[go_sem,Y,t2,t5,og,G,J,S,O,hS,g1,g2,g3,g4,g5,hk,k3,w1,j1,j2,j3,j5,hj,i0,i1,i2,i3,i4,i5,i6,k4];rfl,?_⟩;simp only[go_sem,Y,t2,t5,og,G];refine⟨rfl,O,S,fun i hi=>?_⟩
      by_cases e:i=k
      .rw[e,E];rfl
      .exact a0 i (by omega)) (by
    clear hL;rintro ⟨T,σ,nx⟩ ⟨Y,t2,t5,og,G,J,O,S,a0⟩;simp only at Y t2 t5 og G J O S;exact⟨_,by simp only[go_sem,G,J,zl];rfl,by simp,_,_,_,.inl ⟨rfl,Qi a0⟩⟩) (by
    simp only[go_sem];exact fun i h=>absurd h (zW _))
  obtain⟨T,σ,nx,⟨rfl,hm⟩|⟨rfl,t4,hm⟩⟩:=hx
  .rw[hm]
   simp only[go_sem]
  .rw[hm]
   simp only[go_sem,t4]
theorem ahT(xs:List TV.Move)(m:TV.Move)(h:xs.length<=maxLen):fn Tryz.prog conv ext 55 [LL cMove xs,.agg (cMove m)]=some (Bo (xs.any fun o=>(o.fr==m.fr) && (o.to==m.to))):=by
 have G:=OX xs m h;have e:(xs.any fun o=>(o.fr==m.fr) && (o.to==m.to))=decide (0<=ix (ig m) xs):=by
  by_cases c:ix (ig m) xs<0
  .rw[vk (by omega),List.any_eq_false]
   intro o E;have:=(Jt _ _).mp c o E;unfold ig at this;rw[BEq.comm (a:=o.fr),BEq.comm (a:=o.to),this];simp
  .rw[vw (by omega),List.any_eq_true]
   refine zf fun hn=>c ((Jt _ _).mpr fun o E=>?_)
   cases hs:ig m o with
   |false=>rfl
   |true=>
    unfold ig at hs;exact absurd ⟨o,E,by rw[BEq.comm (a:=o.fr),BEq.comm (a:=o.to)];exact hs⟩ hn
 rw[e,aH,ak [.tmp 4] [] Tryz.func55]
 by_cases c:(0:Int)<=ix (ig m) xs
 .rw[vw c]
  simp only[go_sem,G,c]
 .rw[vk c]
  simp only[go_sem,G,c]
theorem ak7(y:Yard)(ho:okYard y)(plan:List Int)(a5:plan.length<=1048576):fn Tryz.prog fK jJ 19 [.agg (cYard y),LI plan]=some (Bo (H9 y plan)):=by
 have k1:=QW y ho;unfold H9;rw[aH,ak [.tmp 4] [] Tryz.func19];cases hg:pb (dw y)with
 |false=>
  rw[hg]at k1;simp only[go_sem,k1,Bool.false_and]
 |true=>
  rw[hg]at k1;have hG:=EP hg;have Ia:=hG.1;have a6:=hG.2.1
  by_cases a1:plan=[]
  .subst a1
   have e0:((([]:List Int).length:Int)==0)=true:=rfl;simp only[go_sem,k1,e0];simp
  have a7:plan.length≠0:=fun e=>a1 (zZ e)
  have e0:((plan.length:Int)==0)=false:=by rw[w_];omega
  rw[vw a1,Bool.true_and,Bool.true_and];have k2:=ahd y ho Ia;have hS:=iC y;obtain⟨wr,a4⟩:∃wr,wr=flat 7 (LL qU (b_ y)):=⟨_,rfl⟩;simp only[go_sem,k1,e0,k2];generalize hL:aF _ _=z;obtain⟨x,rfl,hx⟩:=aB hL plan.length (fun k st=>st.T 1=LI plan/\st.T 2= .rp 0 0/\st.T 5=LL qU (b_ y)/\st.T 17=LI plan/\st.T 18=I plan.length/\st.T 19=I k/\0<st.nx/\st.σ 0=some ⟨cYard y,0,wr⟩/\∀i,i<k->ug y plan i=true)
   (fun x=>∃T σ nx,(x=(.exit 0,⟨T,σ,nx⟩)/\(List.range plan.length).all (ug y plan)=true)\/(x=(.ret,⟨T,σ,nx⟩)/\T 4=Bo false/\(List.range plan.length).all (ug y plan)=false)) (by
    clear hL;rintro k ⟨T,σ,nx⟩ hk ⟨t1,t2,t5,G,Y,J,O,S,a0⟩;simp only at t1 t2 t5 G Y J O S;have g1:(k:Int)<(plan.length:Int):=by omega
    have g2:=aI k;have g3:=ah (n:=(k:Int)+1);have g4:=idx (xs:=plan) (k:=k) hk;have g5:=fB plan k hk;have gd:plan.getD k 0=plan[k]:=by rw[zx,zy hk];rfl
    obtain⟨p,ep⟩:∃p,p=plan[k]:=⟨_,rfl⟩;rw[<- ep]at g4 gd;have E:ug y plan k=(inB p 0 ((y.stances.length:Int) - 1) && (qX (b_ y) p.toNat && (decide (k=0)||Xy y (plan.getD (k-1) 0) p))):=by unfold ug;rw[gd]
    have no:ug y plan k=false->(List.range plan.length).all (ug y plan)=false:=fun h=>H_ hk h
    by_cases c1:p<0
    .have hb:inB p 0 ((y.stances.length:Int) - 1)=false:=by unfold inB;rw[vk (by omega)];rfl
     rw[hb]at E;refine .inr ⟨_,by simp only[go_sem,t1,t2,t5,G,Y,J,hS,g1,g2,g4,g5,hk,c1];rfl,by simp,_,_,_,.inr ⟨rfl,by simp only[go_sem],no (by rw[E];rfl)⟩⟩
    by_cases c2:(y.stances.length:Int)<=p
    .have hb:inB p 0 ((y.stances.length:Int) - 1)=false:=by unfold inB;rw[vk (p:=p<=_) (by omega),xR]
     rw[hb]at E;refine .inr ⟨_,by simp only[go_sem,t1,t2,t5,G,Y,J,hS,g1,g2,g4,g5,hk,c1,c2];rfl,by simp,_,_,_,.inr ⟨rfl,by simp only[go_sem],no (by rw[E];rfl)⟩⟩
    have hb:inB p 0 ((y.stances.length:Int) - 1)=true:=by unfold inB;rw[vw (by omega),vw (by omega)];rfl
    rw[hb]at E;obtain⟨j,rfl⟩:∃j:Nat,p=(j:Int):=⟨p.toNat,by omega⟩;rw[yw]at E;have hj:j<y.stances.length:=by omega
    have a2:j<(b_ y).length:=by omega
    have j1:(j:Int)<(y.stances.length:Int):=by omega
    have j2:=aI j;have j3:((b_ y).flatMap qU)[j]?=some (Bo (qX (b_ y) j)):=by rw[uU a2];exact mX (fun b=>Bo b) (b_ y) j a2
    have j5:=Zj (b_ y) j a2;cases hs:qX (b_ y) j with
    |false=>
     rw[hs]at E j3;refine .inr ⟨_,by simp only[go_sem,t1,t2,t5,G,Y,J,hS,g1,g2,g4,g5,hk,c1,c2,j1,j2,j3,j5,hj];rfl,by simp,_,_,_,.inr ⟨rfl,by simp only[go_sem],no (by rw[E];rfl)⟩⟩
    |true=>
    rw[hs]at E j3
    by_cases h0:k=0
    .rw[vw h0]at E
     have i0:¬(0:Int)<(k:Int):=by omega
     refine .inl ⟨_,by simp only[go_sem,t1,t2,t5,G,Y,J,hS,g1,g2,g3,g4,g5,hk,c1,c2,j1,j2,j3,j5,hj,i0];rfl,?_⟩;simp only[go_sem,t1,t2,t5,G,Y];refine⟨rfl,O,S,fun i hi=>?_⟩
     by_cases e:i=k
     .rw[e,E];rfl
     .exact a0 i (by omega)
    .have i0:(0:Int)<(k:Int):=by omega
     rw[vk h0,Bool.false_or]at E;have i1:=ah (n:=(k:Int) - 1);have i2:(k:Int) - 1=((k-1:Nat):Int):=by omega
     have i3:=idx (xs:=plan) (k:=k-1) (by omega);have i4:((k-1:Nat):Int)<(plan.length:Int):=by omega
     have i5:(0:Int)<=((k-1:Nat):Int):=by omega
     have i6:k-1<plan.length:=by omega
     rw[i2]at i1;have a3:plan.getD (k-1) 0=plan[k-1]'(by omega):=by rw[zx,zy (by omega)];rfl
     obtain⟨q,eq⟩:∃q,q=plan[k-1]'(by omega):=⟨_,rfl⟩;rw[<- eq]at i3 a3;rw[a3]at E;have k4:fn Tryz.prog conv ext 55 [LL cMove y.moves,.agg [I q,I j]]=some (Bo (Xy y q (j:Int))):=ahT y.moves ⟨q,(j:Int)⟩ (by unfold maxLen;omega)
     cases hm:Xy y q (j:Int)with
     |false=>
      rw[hm]at E k4;refine .inr ⟨_,by simp only[go_sem,t1,t2,t5,G,Y,J,S,O,hS,g1,g2,g4,g5,hk,c1,c2,j1,j2,j3,j5,hj,i0,i1,i2,i3,i4,i5,i6,k4];rfl,by simp,_,_,_,.inr ⟨rfl,by simp only[go_sem],no (by rw[E];rfl)⟩⟩
     |true=>
      rw[hm]at E k4;refine .inl ⟨_,by simp only[go_sem,t1,t2,t5,G,Y,J,S,O,hS,g1,g2,g3,g4,g5,hk,c1,c2,j1,j2,j3,j5,hj,i0,i1,i2,i3,i4,i5,i6,k4];rfl,?_⟩;simp only[go_sem,t1,t2,t5,G,Y];refine⟨rfl,O,S,fun i hi=>?_⟩
      by_cases e:i=k
      .rw[e,E];rfl
      .exact a0 i (by omega)) (by
    clear hL;rintro ⟨T,σ,nx⟩ ⟨t1,t2,t5,G,Y,J,O,S,a0⟩;simp only at t1 t2 t5 G Y J O S;exact⟨_,by simp only[go_sem,Y,J,zl];rfl,by simp,_,_,_,.inl ⟨rfl,Qi a0⟩⟩) (by
    simp only[go_sem];exact⟨by rw[a4],fun i h=>absurd h (zW _)⟩)
  obtain⟨T,σ,nx,⟨rfl,hm⟩|⟨rfl,t4,hm⟩⟩:=hx
  .rw[hm]
   simp only[go_sem]
  .rw[hm]
   simp only[go_sem,t4]
end Go.Proofs.YtehdaknhabeiaaaGreat
