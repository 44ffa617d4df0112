import Derived.Test.YtehdaknhabeiaaaGreatTb4
set_option linter.unusedSimpArgs false
set_option linter.unusedVariables false
set_option linter.unusedSectionVars false
set_option linter.defProp false
set_option maxRecDepth 10000
set_option maxHeartbeats 4000000
open Bool renaming and_eq_true->yh,false_eq_true->yM,and_false->xR,not_false->xJ
open Classical renaming byContradiction->zf
open Int renaming lt_irrefl->zl,toNat_natCast->yw,natCast_mul->yj,tdiv_eq_ediv_of_nonneg->yJ,le_refl->yE,natAbs_natCast->wz,natAbs_neg->wG,natAbs_mul_self->wE
open List renaming getElem?_eq_getElem->zy,getD_eq_getElem?_getD->zx,getElem_mem->zu,length_append->zo,take_of_length_le->zk,length_take->zh,eq_nil_of_length_eq_zero->zZ,mem_cons_of_mem->zY,mem_cons->zX,getElem?_append_left->zV,flatMap_cons->zU,flatMap_append->zT,getElem?_append_right->zQ,length_map->zO,mem_cons_self->zN,append_nil->zM,not_mem_nil->zK,length_drop->zH,mem_append_left->zF,length_cons->zD,append_assoc->zB,mem_append_right->zA,length_replicate->z_,take_length->yg,getElem?_eq_none->yc,drop_zero->yZ,getElem?_map->yX,getElem_of_mem->yV,drop_eq_getElem_cons->yU,cons_append->yT,length_eraseIdx_of_lt->yS,ext_getElem->yR,take_add_one->yO,length_singleton->yL,nil_append->yK,length_set->yG,set_append_right->yD,drop_of_length_le->xw,getElem_append_left->xu,getElem_map->xq,nodup_cons->xg,getElem?_drop->xY,replicate_succ->xW,map_congr_left->xP,take_left'->xO,length_nil->wu,range_succ->wZ,map_append->wY,mem_of_mem_take->wV,mem_append->wS,flatMap_nil->wR,getElem_append_right->wQ,take_append_drop->wP,mem_singleton->wM,getElem_set->wJ,replicate_append_replicate->wH
open Nat renaming le_refl->zq,not_lt_zero->zW,le_trans->zL,mul_le_mul_right->zG,zero_add->yY,sub_self->yQ,mul_one->yN,mul_le_mul->yF,min_eq_left->yC,succ_mul->yA,lt_of_lt_of_le->xK,div_le_self->xH,div_div_eq_div_mul->xA,div_one->x9,mul_comm->wO,mod_eq_of_lt->wL
open Ne renaming symm->yu
open Option renaming bind_some->zi,map_some->zJ
open Option.some renaming injEq->wC
open Prod.mk renaming injEq->wB
namespace Go.Proofs.YtehdaknhabeiaaaGreat
open Go Go.TV Go.Lp
attribute [-go_sem] bK
abbrev BQ(a:Option Rat):List V:=[pQ a]
def akk(o:Option Rat)(v:Rat):Option Rat:=match o with
 |none=>some v
 |some y=>Ac (y+v)
def sgQ(s:Int)(x:Rat):Rat:=if s<0 then -x else x
def BI(K:List (Int×Int))(X:List Rat)(nm:Nat):Nat->List (Option Rat)
 |0=>List.replicate nm none
 |c+1=>(BI K X nm c).set (K.getD c (0,0)).1.toNat (akk ((BI K X nm c).getD (K.getD c (0,0)).1.toNat none) (sgQ (K.getD c (0,0)).2 (X.getD c 0)))
theorem uQ(K:List (Int×Int))(X:List Rat)(nm:Nat):∀c,(BI K X nm c).length=nm
 |0=>by simp[BI]
 |c+1=>by rw[BI,yG];exact uQ K X nm c
theorem aa9 {q y:Rat}(h:Ac q=some y):Ln 24 y:=by
 unfold Ac at h
 split at h
 .cases h;assumption
 .cases h
theorem SN {K:List (Int×Int)} {X:List Rat} {nm:Nat}(O:∀x∈X,Ln 24 x):∀c,∀o∈BI K X nm c,LnO 24 o
 |0=>fun o G y E=>by
  have:=(List.mem_replicate.mp G).2;rw[this]at E;cases E
 |c+1=>fun o G y E=>by
  rw[BI]at G;rcases List.mem_or_eq_of_mem_set G with h|h
  .exact SN O c o h y E
  .subst h
   unfold akk at E
   split at E
   .cases E
    have J:Ln 24 (X.getD c 0):=by
     rw[zx]
     by_cases hc:c<X.length
     .rw[zy hc];exact O _ (zu hc)
     .rw[yc (by omega)];exact(mO (z:=0) (by decide)).mono (by decide)
    unfold sgQ
    split
    .have S:(-(X.getD c 0)).num= -(X.getD c 0).num:=rfl
     have Y:(-(X.getD c 0)).den=(X.getD c 0).den:=rfl;exact⟨by rw[S,wG];exact J.1,by rw[Y];exact J.2⟩
    .exact J
   .exact(aa9 E).mono (by decide)
theorem akl(X:List (Option Rat)):∀(k:Nat) (q:Option Rat),(X.flatMap BQ).set k (pQ q)=(X.set k q).flatMap BQ:=by
 induction X with
 |nil=>intro k q;rfl
 |cons a X E=>intro k q;cases k with
  |zero=>rfl
  |succ k=>show pQ a :: ((X.flatMap BQ).set k (pQ q))=_;rw[E];rfl
theorem agT(N:Nat):rep N [V.sc (.pointer none)]=(List.replicate N (none:Option Rat)).flatMap BQ:=by
 induction N with
 |zero=>rfl
 |succ N E=>rw[rep_succ,E,xW];rfl
theorem agU(a:Option Rat):cellsOfV (pQ a)=some [pQ a]:=by cases a<;>rfl
theorem akm(a:Option Rat):aT (pQ a)=true:=by cases a<;>rfl
theorem Ja(σ:Store)(d:Nat):∀X:List (Option Rat),stripL (strip σ d) (X.flatMap BQ)=some (X.flatMap BQ,[])
 |[]=>by rw[wR,bQ]
 |a :: X=>by
  rw[zU,show BQ a++X.flatMap BQ=pQ a :: X.flatMap BQ from rfl,aO,Ja σ d X];cases a with
  |none=>unfold pQ;rw[cO];rfl
  |some q=>unfold pQ;rw[CG];rfl
attribute [go_sem] agU akm
def aa_:=aN (c:=BQ) (s:=1) (fun _=>rfl)
theorem asa {s:Structure}(h:SG s) {X:List Rat}(hX:X.length=(cols s s.members.length).length)(hL:∀x∈X,Ln 24 x) :
  fn Tryz.prog aU bU 163 [.tp (cStructure s) 0,LL cF X]=some (LL BQ (BI (cols s s.members.length) X s.members.length (cols s s.members.length).length)):=by
 have d4:=h.nm;have d5:=lV s s.members.length;have k2:=Nk h;have m1:(0:Int)<=(s.members.length:Int):=by omega
 have m2:8*(s.members.length:Int)<=281474976710656:=by omega
 have m3:(s.members.length:Int)<=9223372036854775807:=by omega
 obtain⟨K,hK⟩:∃K,K=cols s s.members.length:=⟨_,rfl⟩;have c5:∀c (hc:c<K.length),(∃k:Nat,K[c].1=(k:Int)/\k<s.members.length)/\(K[c].2=1\/K[c].2= -1):=fun c hc=>by subst hK;exact Ai (zu hc)
 rw[<- hK]at k2 hX d5⊢;rw[aH,ak [.tmp 4] [10] Tryz.func163];simp only[go_sem,k2,m1,m2,m3];generalize c6:aF _ _=y;obtain⟨nm,c7⟩:∃nm,nm=s.members.length:=⟨_,rfl⟩;rw[<- c7]at c5 d4 m1 m2 m3⊢;obtain⟨x,rfl,T1,a1,aP,rfl,S,s0⟩:=aB c6 K.length (fun c st=>st.T 1=LL cF X/\st.T 5= .rs 0 0 nm/\st.T 16=LL tJ K/\st.T 17=I K.length/\st.T 18=I c/\0<st.nx/\st.σ 0=some ⟨(BI K X nm c).flatMap BQ,1,true⟩)
  (fun x=>∃T1 a1 aP,x=(.exit 0,⟨T1,a1,aP⟩)/\T1 5= .rs 0 0 nm/\a1 0=some ⟨(BI K X nm K.length).flatMap BQ,1,true⟩) (by
   clear c6;rintro c ⟨T,σ,nx⟩ hc ⟨t1,S,G,E,og,c0,s0⟩;simp only at t1 S G E og c0 s0;have g1:(c:Int)<(K.length:Int):=by omega
   have g2:=aI c;have g3:=ah (n:=(c:Int)+1);have a4:=slot (c:=tJ) (s:=2) (fun _=>rfl) K c hc;have a5:=slot_ne (c:=tJ) (s:=2) (fun _=>rfl) (by omega) K c hc;have a6:=aN (c:=tJ) (s:=2) (fun _=>rfl) K;have a7:c*2+2<=K.length*2:=by omega
   have a8:=I5 X (k:=c) (by omega);have a9:(X.flatMap cF).length=X.length:=iV X;have a2:(c:Int)<(X.length:Int):=by omega
   have a3:X.flatMap cF≠[]:=fun e=>by rw[e]at a9;have:X.length=0:=a9.symm;omega
   obtain⟨⟨k,hk,a0⟩,c2⟩:=c5 c hc;have Y:BI K X nm (c+1)=(BI K X nm c).set K[c].1.toNat (akk ((BI K X nm c).getD K[c].1.toNat none) (sgQ K[c].2 X[c])):=by
    rw[BI];have e1:K.getD c (0,0)=K[c]:=by rw[zx,zy hc];rfl
    have e2:X.getD c 0=X[c]'(by omega):=by rw[zx,zy (by omega)];rfl
    rw[e1,e2]
   have b7:=hL _ (zu (l:=X) (n:=c) (by omega));obtain⟨kp,d6⟩:∃kp,kp=K[c]:=⟨_,rfl⟩;rw[<- d6]at a4 hk c2 Y;obtain⟨k1,c8⟩:=kp;simp only at hk c2 Y;subst hk;rw[yw]at Y;obtain⟨J,d7⟩:∃J,J=X[c]'(by omega):=⟨_,rfl⟩;rw[<- d7]at a8 Y b7;have hlen:=uQ K X nm c;have c9:=SN (K:=K) (nm:=nm) hL c;obtain⟨O,eO⟩:∃O,O=BI K X nm c:=⟨_,rfl⟩;rw[<- eO]at s0 Y hlen c9;have b1:=mX (fun a=>pQ a) O k (by omega);have b1:(O.flatMap BQ)[k]?=some (pQ (O.getD k none)):=by
    rw[b1,zx,zy (by omega)];rfl
   have c3:LnO 24 (O.getD k none):=by
    rw[zx,zy (by omega)];exact c9 _ (zu _)
   have b2:(O.flatMap BQ).length=nm:=by rw[aa_,hlen,yN]
   have b3:(k:Int)<(nm:Int):=by omega
   have b4:=aI k;have b5:k+1<=nm:=a0;have b8:Ln 24 (sgQ c8 J):=by
    unfold sgQ
    split
    .exact⟨by show ln (-J.num).natAbs<=24;rw[wG];exact b7.1,b7.2⟩
    .exact b7
   have b6:=akl O k (akk (O.getD k none) (sgQ c8 J));rw[<- Y]at b6;obtain⟨o,eo⟩:∃o,o=O.getD k none:=⟨_,rfl⟩;rw[<- eo]at b1 b6 c3;have b9:fn Tryz.prog conv ext 191 [.tp (cQ J) 0]=some (.tp (cQ (-J)) 0):=axx (some J)
   have d0:¬nx=0:=by omega
   have d1:¬0=nx:=by omega
   have d2:0<nx+1:=by omega
   have d3:nx<nx+1:=by omega
   refine fD ?_;have n1:¬(1:Int)<0:=by decide
   have n2:(-1:Int)<0:=by decide
   rcases c2 with rfl|rfl
   .have sv:sgQ 1 J=J:=rfl
    rw[sv]at b6 b8;rcases o with _|y
    .have e6:(O.flatMap BQ).set k (.tp (cQ (J)) 0)=(BI K X nm (c+1)).flatMap BQ:=b6
     have e1:(O.flatMap BQ)[k]?=some (.sc (.pointer none)):=b1;refine⟨_,by simp only[go_sem,t1,S,G,E,og,s0,g1,g2,g3,a4,a5,a6,a7,a8,a9,a2,a3,b2,b3,b4,b5,a0,e1,e6,b9,n1,n2,d0,d1,d2,d3];rfl,.inl ⟨_,rfl,?_⟩⟩;simp only[go_sem,t1,S,G,E,d0,d1,d2]
     first|rfl|exact⟨rfl,rfl⟩|trace_state
    .have e6:(O.flatMap BQ).set k (pQ (Ac (y+J)))=(BI K X nm (c+1)).flatMap BQ:=b6
     have e1:(O.flatMap BQ)[k]?=some (.tp (cQ y) 0):=b1;have c4:fn Tryz.prog aU bU 192 [.tp (cQ y) 0,.tp (cQ (J)) 0]=some (pQ (Ac (y+J))):=ar_ (a:=some y) (b:=some (J)) (fun z hz=>(c3 z hz).mono (by decide)) (fun z hz=>by cases hz;exact b8.mono (by decide));refine⟨_,by simp only[go_sem,t1,S,G,E,og,s0,g1,g2,g3,a4,a5,a6,a7,a8,a9,a2,a3,b2,b3,b4,b5,a0,e1,e6,b9,c4,n1,n2,d0,d1,d2,d3];rfl,.inl ⟨_,rfl,?_⟩⟩;simp only[go_sem,t1,S,G,E,d0,d1,d2]
     first|rfl|exact⟨rfl,rfl⟩|trace_state
   .have sv:sgQ (-1) J= -J:=rfl
    rw[sv]at b6 b8;rcases o with _|y
    .have e6:(O.flatMap BQ).set k (.tp (cQ (-J)) 0)=(BI K X nm (c+1)).flatMap BQ:=b6
     have e1:(O.flatMap BQ)[k]?=some (.sc (.pointer none)):=b1;refine⟨_,by simp only[go_sem,t1,S,G,E,og,s0,g1,g2,g3,a4,a5,a6,a7,a8,a9,a2,a3,b2,b3,b4,b5,a0,e1,e6,b9,n1,n2,d0,d1,d2,d3];rfl,.inl ⟨_,rfl,?_⟩⟩;simp only[go_sem,t1,S,G,E,d0,d1,d2]
     first|rfl|exact⟨rfl,rfl⟩|trace_state
    .have e6:(O.flatMap BQ).set k (pQ (Ac (y+ -J)))=(BI K X nm (c+1)).flatMap BQ:=b6
     have e1:(O.flatMap BQ)[k]?=some (.tp (cQ y) 0):=b1;have c4:fn Tryz.prog aU bU 192 [.tp (cQ y) 0,.tp (cQ (-J)) 0]=some (pQ (Ac (y+ -J))):=ar_ (a:=some y) (b:=some (-J)) (fun z hz=>(c3 z hz).mono (by decide)) (fun z hz=>by cases hz;exact b8.mono (by decide));refine⟨_,by simp only[go_sem,t1,S,G,E,og,s0,g1,g2,g3,a4,a5,a6,a7,a8,a9,a2,a3,b2,b3,b4,b5,a0,e1,e6,b9,c4,n1,n2,d0,d1,d2,d3];rfl,.inl ⟨_,rfl,?_⟩⟩;simp only[go_sem,t1,S,G,E,d0,d1,d2]
     first|rfl|exact⟨rfl,rfl⟩|trace_state) (by
   rintro ⟨T,σ,nx⟩ ⟨t1,S,G,E,og,c0,s0⟩;simp only at t1 S G E og c0 s0;have g1:¬(K.length:Int)<(K.length:Int):=by omega
   refine⟨_,by simp only[go_sem,E,og,g1];rfl,by simp,_,_,_,rfl,?_⟩;simp only[go_sem,S];exact s0) (by
   simp only[go_sem,<- c7];rw[BI,<- agT])
 have hlen:=uQ K X nm K.length;have u1:nm<=((BI K X nm K.length).flatMap BQ).length:=by rw[aa_,hlen];omega
 have u2:((BI K X nm K.length).flatMap BQ).take nm=(BI K X nm K.length).flatMap BQ:=zk (by rw[aa_,hlen];omega);have u3:=Ja a1 6 (BI K X nm K.length);simp only[go_sem,S,s0,u1,u2,u3];show some (V.ts _ nm)=some (V.ts _ (BI K X nm K.length).length);rw[hlen]
def Ib(s:Structure)(l:List Int):Prog:=dR (TG s) (JC s l) (List.replicate (lW s) 0) (KD s) (lW s)
theorem ZL {s:Structure}(h:SG s):∀x∈TG s,-1000<=x/\x<=1000:=fun x E=>by
 unfold TG at E;obtain⟨r,G,E⟩:=List.mem_flatMap.mp E;obtain⟨p,hp,rfl⟩:=List.mem_map.mp E;have hb:-100<=r.getD p.1.toNat 0/\r.getD p.1.toNat 0<=100:=by
  rw[zx]
  by_cases hi:p.1.toNat<r.length
  .rw[zy hi];exact WO h G _ (zu hi)
  .rw[yc (by omega)];simp
 rcases (Ai hp).2 with e|e<;>rw[e]<;>omega
theorem agV {s:Structure} {l:List Int}(hb:∀x∈l,-100<=x/\x<=100):∀x∈JC s l,-1000<=x/\x<=1000:=fun x E=>by
 unfold JC at E;obtain⟨j,-,E⟩:=List.mem_flatMap.mp E;have key:∀q,-100<=l.getD q 0/\l.getD q 0<=100:=fun q=>by
  rw[zx]
  by_cases hi:q<l.length
  .rw[zy hi];exact hb _ (zu hi)
  .rw[yc (by omega)];simp
 simp only[zX,zK,or_false]at E;rcases E with rfl|rfl
 .have:=key (2*j.toNat);omega
 .have:=key (2*j.toNat+1);omega
theorem ase {s:Structure}(h:SG s) {l:List Int}(hb:∀x∈l,-100<=x/\x<=100)(E:0<KD s):J3 (TG s) (JC s l) (List.replicate (lW s) 0) (KD s) (lW s):=by
 have J:=qE s;have O:=h.nj;have S:=lV s s.members.length;have Y:=h.nm;refine⟨KC s,SL s l,by simp,E,by unfold KD;omega,by unfold lW;omega,ZL h,agV hb,fun x G=>?_⟩;rw[(List.mem_replicate.mp G).2];omega
theorem adD {s:Structure}(h:dF s)(J:free s=[]):s.members=[]:=by
 refine zf fun hn=>?_
 obtain⟨m,ms,e⟩:=List.exists_cons_of_ne_nil hn;have hm:m∈s.members:=by rw[e];simp
 have E:=h.2.2.2 m hm;have G:CY s.joints.length m:=zf fun G=>by rw[nJ G]at E;cases E
 obtain⟨O,S,Y,r4,r5,r6⟩:=G;have ha:m.a.toNat<s.joints.length:=by omega
 have hb:m.b.toNat<s.joints.length:=by omega
 rw[IG ⟨O,S,Y,r4,r5,r6⟩ (zy ha) (zy hb)]at E;have fixed:∀i (hi:i<s.joints.length),s.joints[i].fixed=true:=fun i hi=>by
  cases hf:s.joints[i].fixed with
  |true=>rfl
  |false=>
   have hq:kK s i=true:=by simp[kK,zy hi,hf]
   have:(i:Int)∈free s:=by
    unfold free pO;exact List.mem_map.mpr ⟨i,List.mem_filter.mpr ⟨List.mem_range.mpr hi,hq⟩,rfl⟩
   rw[J]at this;cases this
 unfold Vg at E;rw[fixed _ ha,fixed _ hb]at E;simp at E
theorem akp {s:Structure}(h:dF s) {l:List Int}(hb:∀x∈l,-100<=x/\x<=100):∃r,fn Tryz.prog aU bU 161 [.tp (jL (KD s) (lW s) (TG s) (JC s l) (List.replicate (lW s) 0)) 0]=some r/\ar0 (Ib s l) r:=by
 by_cases Y:0<KD s
 .exact anK (ase h.sg hb Y)
 .have E:free s=[]:=zZ (by unfold KD at Y;omega)
  have e1:=adD h E;have G:KD s=0:=by omega
  have J:lW s=0:=by unfold lW;rw[e1];rfl
  have O:TG s=[]:=by unfold TG jO;rw[E];rfl
  have S:JC s l=[]:=by unfold JC;rw[E];rfl
  refine⟨_,by rw[G,J,O,S];exact akg,.inr (.inr ⟨fun _=>0,?_,fun j hj=>?_,?_⟩)⟩
  .unfold Ib
   rw[G,J,O,S];refine⟨⟨fun k hk=>absurd hk (zW k),fun j hj=>absurd hj (zW j)⟩,fun y hy=>?_⟩;refine .inr fun q _=>?_
   show(0:Rat) - 0=0;grind
  .exact(mO (z:=0) (by decide)).mono (by decide)
  .unfold Ib
   rw[G,J,O,S];rfl
def asf(s:Structure)(l:List Int)(r:V):Prop:=(r= .dS [.ts [] 0,.ts [] 0,Bo false]/\((Ib s l).None\/(Ib s l).Open)) \/
 ∃x:Nat->Rat,(Ib s l).Best x/\(∀j,j<lW s->Ln 24 (x j))/\r= .dS [LL BQ (BI (cols s s.members.length) ((List.range (lW s)).map x) s.members.length (lW s)),.ts [] 0,Bo true]
theorem akq {s:Structure}(h:dF s) {l:List Int}(hb:∀x∈l,-100<=x/\x<=100):∃r,fn Tryz.prog aU bU 133 [.tp (cStructure s) 0,.agg (jL (KD s) (lW s) (TG s) (JC s l) (List.replicate (lW s) 0))]=some r/\asf s l r:=by
 obtain⟨r0,E,hr⟩:=akp h hb;have k2:=Nk h.sg;have hC:(cols s s.members.length).length=lW s:=rfl;obtain⟨C,eC⟩:∃C,C=lW s:=⟨_,rfl⟩;have hn:(Ib s l).n=lW s:=rfl;have a0:lW s<=16:=by have:=lV s s.members.length;have:=h.sg.nm;omega
 rw[aH,ak [.tmp 4,.tmp 5,.tmp 6] [] Tryz.func133];unfold jL at E⊢;rcases hr with ⟨rfl,G⟩|⟨rfl,G⟩|⟨x,G,S,rfl⟩
 .refine⟨_,by simp only[go_sem,E];rfl,.inl ⟨rfl,.inl G⟩⟩
 .refine⟨_,by simp only[go_sem,E];rfl,.inl ⟨rfl,.inr G⟩⟩
 .rw[hn]at E S
  obtain⟨X,O⟩:∃X:List Rat,X=(List.range (lW s)).map x:=⟨_,rfl⟩;have J:X.length=lW s:=by rw[O];simp
  have kf:=asa h.sg (X:=X) (by rw[J];rfl) (fun y hy=>by
   rw[O]at hy;obtain⟨j,hj,rfl⟩:=List.mem_map.mp hy;exact S j (List.mem_range.mp hj))
  rw[<- O]at E;have Y:fn Tryz.prog conv ext 162 [.tp (cStructure s) 0]=some (.ts ((cols s s.members.length).flatMap tJ) X.length):=by rw[J];exact k2
  have z1:(X.flatMap cF).take X.length=X.flatMap cF:=zk (by rw[iV];exact zq _);have z2:(X.flatMap cF).drop X.length=[]:=xw (by rw[iV];exact zq _);have z0:(0:Int)<=(X.length:Int):=by omega
  refine⟨_,by simp only[go_sem,E,Y,z0,z1,z2,kf,yQ,List.take_nil,Ja];rfl,.inr ⟨x,G,S,?_⟩⟩;rw[<- O];rfl
def iK:List (Option Rat)->Option (List Rat)
 |[]=>some []
 |none :: _=>none
 |some q :: l=>(iK l).map (q :: ·)
theorem oW:∀(l:List (Option Rat)) (a:Option Rat),iK (l++[a])=(iK l).bind fun qs=>a.map fun q=>qs++[q]
 |[],none=>rfl
 |[],some q=>rfl
 |none :: l,a=>rfl
 |some q :: l,a=>by
  show(iK (l++[a])).map _=((iK l).map _).bind _;rw[oW l a];cases iK l with
  |none=>rfl
  |some qs=>cases a<;>rfl
theorem Ew:∀ {l l':List (Option Rat)},iK l=none->iK (l++l')=none
 |[],_,h=>by cases h
 |none :: l,_,_=>rfl
 |some q :: l,l',h=>by
  show(iK (l++l')).map _=none;have:iK l=none:=by
   cases e:iK l with
   |none=>rfl
   |some qs=>rw[show iK (some q :: l)=(iK l).map (q :: ·)from rfl,e]at h;cases h
  rw[Ew this];rfl
theorem oh:∀ {l:List (Option Rat)} {qs:List Rat},iK l=some qs->qs.length=l.length
 |[],qs,h=>by cases h;rfl
 |none :: l,_,h=>by cases h
 |some q :: l,qs,h=>by
  cases e:iK l with
  |none=>rw[show iK (some q :: l)=(iK l).map (q :: ·)from rfl,e]at h;cases h
  |some rs=>rw[show iK (some q :: l)=(iK l).map (q :: ·)from rfl,e]at h;cases h;simp[oh e]
abbrev zR:List V:=[Bo false,.nil,.nil]
def Ox(qs:List Rat)(n:Nat):List V:=qs.flatMap cQ++rep (n-qs.length) zR
def aa':=aN (c:=cQ) (s:=3) (fun _=>rfl)
theorem WQ(qs:List Rat) {n:Nat}(h:qs.length<=n):(Ox qs n).length=n*3:=by
 unfold Ox;rw[zo,aa',jv];simp only[zD,wu];omega
theorem agW(qs:List Rat) {n:Nat}(h:qs.length<n)(q:Rat):patch (Ox qs n) (qs.length*3) (cQ q)=Ox (qs++[q]) n:=by
 have E:=aa' qs;rw[iO _ _ _ (by rw[WQ qs (by omega)];show qs.length*3+3<=n*3;omega)];unfold Ox;rw[List.take_append_of_le_length (by omega),zk (by omega),zT,zo,yL,show n-qs.length=n - (qs.length+1)+1 by omega,rep_succ];rw[List.drop_append,xw (by rw[E];omega),yK,E,show qs.length*3+(cQ q).length-qs.length*3=3 by show qs.length*3+3-qs.length*3=3;omega];simp
theorem PS(σ:Store)(d:Nat)(qs:List Rat):stripL (strip σ d) (qs.flatMap cQ)=some (qs.flatMap cQ,[]):=iJ (fun q=>nX σ d q) qs
theorem agX(q:Rat):(cQ q).all aT=true:=rfl
theorem akr(q:Rat):(cQ q).take 3=cQ q:=rfl
theorem aks(q:Rat):(cQ q).length=3:=rfl
attribute [go_sem] agX akr aks
def jW(O:List (Option Rat)):V:=match iK O with
 |some qs=> .dS [LL cQ qs,Bo true]
 |none=> .dS [.ts [] 0,Bo false]
theorem akt(O:List (Option Rat))(hL:∀o∈O,LnO 24 o)(hn:O.length<=1000):fn Tryz.prog conv ext 135 [LL BQ O]=some (jW O):=by
 have m1:(0:Int)<=(O.length:Int):=by omega
 have m2:56*(O.length:Int)<=281474976710656:=by omega
 have m3:(O.length:Int)<=9223372036854775807:=by omega
 rw[aH,ak [.tmp 2,.tmp 3] [] Tryz.func135];simp only[go_sem,m1,m2,m3];generalize a2:aF _ _=y;obtain⟨x,rfl,hx⟩:=aB a2 O.length (fun k st=>st.T 4= .rs 0 0 O.length/\st.T 10=LL BQ O/\st.T 11=I O.length/\st.T 12=I k/\0<st.nx/\∃qs,iK (O.take k)=some qs/\st.σ 0=some ⟨Ox qs O.length,3,true⟩)
  (fun x=>∃T σ nx,(x=(.exit 0,⟨T,σ,nx⟩)/\T 4= .rs 0 0 O.length/\∃qs,iK O=some qs/\σ 0=some ⟨Ox qs O.length,3,true⟩)\/(x=(.ret,⟨T,σ,nx⟩)/\T 2= .nil/\T 3=Bo false/\iK O=none)) (by
   clear a2;rintro k ⟨T,σ,nx⟩ hk ⟨Y,J,G,S,a0,qs,E,s0⟩;simp only at Y J G S a0 s0;have g1:(k:Int)<(O.length:Int):=by omega
   have g2:=aI k;have g3:=ah (n:=(k:Int)+1);have g4:(O.flatMap BQ)[k]?=some (pQ O[k]):=mX (fun a=>pQ a) O k hk;have g5:=slot_ne (c:=BQ) (s:=1) (fun _=>rfl) (by omega) O k hk;have g6:=aa_ O;rw[yN]at g6;have a3:qs.length=k:=by rw[oh E,zh];omega
   have a1:O.take (k+1)=O.take k++[O[k]]:=take_snoc hk;have ho:=hL _ (zu hk);obtain⟨o,eo⟩:∃o,o=O[k]:=⟨_,rfl⟩;rw[<- eo]at g4 a1 ho;cases o with
   |none=>
    have g4:(O.flatMap BQ)[k]?=some (.sc (.pointer none)):=g4;refine .inr ⟨_,by simp only[go_sem,Y,J,G,S,g1,g2,g4,g5,g6,hk];rfl,by simp,_,_,_,.inr ⟨rfl,?_⟩⟩;simp only[go_sem];have:O=O.take (k+1)++O.drop (k+1):=(wP _ _).symm;rw[this,a1];refine Ew ?_;rw[oW,E];rfl
   |some q=>
    have g4:(O.flatMap BQ)[k]?=some (.tp (cQ q) 0):=g4;have hq:=ho q rfl;have ks:=ai' q hq.1 hq.2;have p1:=WQ qs (n:=O.length) (by omega);have p2:=agW qs (n:=O.length) (by omega) q;rw[a3]at p2;have p3:k*3+3<=O.length*3:=by omega
    refine .inl ⟨_,by simp only[go_sem,Y,J,G,S,s0,g1,g2,g3,g4,g5,g6,hk,ks,p1,p2,p3];rfl,?_⟩;simp only[go_sem,Y,J,G];refine⟨rfl,a0,qs++[q],?_,rfl⟩;rw[a1,oW,E];rfl) (by
   rintro ⟨T,σ,nx⟩ ⟨Y,J,G,S,a0,qs,E,s0⟩;simp only at Y J G S a0 s0;have g1:¬(O.length:Int)<(O.length:Int):=by omega
   refine⟨_,by simp only[go_sem,G,S,g1];rfl,by simp,_,_,_,.inl ⟨rfl,?_⟩⟩;simp only[go_sem,Y];rw[yg]at E;exact⟨qs,E,s0⟩) (by
   simp only[go_sem];refine⟨[],rfl,?_⟩;unfold Ox;rfl)
 rcases hx with ⟨T,σ,nx,⟨rfl,Y,qs,E,s0⟩|⟨rfl,t2,t3,E⟩⟩
 .have hl:=oh E
  have e1:Ox qs O.length=qs.flatMap cQ:=by unfold Ox;rw[hl,yQ];exact zM _
  rw[e1]at s0;have u0:=aa' qs;have u1:O.length*3<=(qs.flatMap cQ).length:=by rw[u0];omega
  have u2:(qs.flatMap cQ).take (O.length*3)=qs.flatMap cQ:=zk (by rw[u0];omega);have u3:=PS σ 5 qs;unfold jW;rw[E];simp only[go_sem,Y,s0,u1,u2,u3];show some (V.dS [V.ts _ O.length,_])=some (V.dS [V.ts _ qs.length,_]);rw[hl]
 .unfold jW
  rw[E];simp only[go_sem,t2,t3]
end Go.Proofs.YtehdaknhabeiaaaGreat
namespace Go.Proofs.YtehdaknhabeiaaaGreat
attribute [-go_sem] bK
open Go Go.TV
def ZM(P:Program)(ts:Array TypeId)(ty:TypeId)(a b:V)(σ:Store)(nx:Nat):Jg:=rH P .min ts ty [a,b] σ nx
theorem anQ {P:Program} {conv:FuncId->Conv} {call:TV.Call}(d:Option Tmp)(ty:TypeId)(ps:String)(E:Array Edge)(G:Option (Nat×Bool))(T:Nat->V)(σ:Store)(nx:Nat)(a b:Operand)(ts:Array TypeId) :
  dL P conv call ⟨d,.call ⟨.builtin .min,#[a,b],ts⟩,ty,ps,E,G⟩ T σ nx=ZM P ts ty (val T a) (val T b) σ nx:=rfl
theorem ZN {P:Program} {ts:Array TypeId} {ty:TypeId} {m n:Int} {σ:Store} {nx:Nat}:ZM P ts ty (I m) (I n) σ nx=some (I (if n<m then n else m),σ,nx):=by
 unfold ZM;simp only[rH,Fe,aej];rfl
attribute [go_sem] anQ ZN
theorem ZO {b n:Nat}(hn:ln b=n+1):1<=b / 1000000000^n/\b / 1000000000^n<1000000000/\(dg b)[n]?=some ((b / 1000000000^n:Nat):Int):=by
 have E:b<1000000000^(n+1):=by
  have:=(cu (n:=b) (k:=n+1)).mp (by omega);rw[vC]at this;omega
 have O:¬b<1000000000^n:=fun h=>by
  have:ln b<=n:=(cu (n:=b) (k:=n)).mpr (by rw[vC];omega);omega
 have hp:0<1000000000^n:=Nat.pow_pos (by decide);have G:b / 1000000000^n<1000000000:=by
  rw[Nat.div_lt_iff_lt_mul hp];rw[Nat.pow_succ]at E;rw[wO];exact E
 have J:n<(dg b).length:=by unfold ln at hn;omega
 refine⟨by rw[Nat.le_div_iff_mul_le hp];omega,G,?_⟩;rw[zy J,vg J,wL G]
theorem aku(m n:Nat):fJ m n<=0↔m<=n:=by
 unfold fJ
 split
 .omega
 .split<;>omega
theorem akv(m n:Nat):fJ m n<0↔m<n:=by
 unfold fJ
 split
 .omega
 .split<;>omega
theorem anR {r b P:Nat}(E:0<P)(hb:0<b):r / P / (b / P+1)<=r / b:=by
 rw[Nat.le_div_iff_mul_le hb];have G:b<=(b / P+1)*P:=by
  have:=Nat.lt_mul_div_succ b E;rw[wO];omega
 calc r / P / (b / P+1)*b<=r / P / (b / P+1)*((b / P+1)*P):=Nat.mul_le_mul_left _ G
  _=r / P / (b / P+1)*(b / P+1)*P:=by rw[Nat.mul_assoc]
  _<=r / P*P:=zG _ (Nat.div_mul_le_self _ _)
  _<=r:=Nat.div_mul_le_self _ _
theorem anS {r b P:Nat}(E:0<P)(hb:0<b / P):r / b<=r / P / (b / P):=by
 rw[Nat.le_div_iff_mul_le hb,Nat.le_div_iff_mul_le E];have G:b / P*P<=b:=Nat.div_mul_le_self _ _
 calc r / b*(b / P)*P=r / b*(b / P*P):=Nat.mul_assoc _ _ _
  _<=r / b*b:=Nat.mul_le_mul_left _ G
  _<=r:=Nat.div_mul_le_self _ _
theorem akw(r b:Nat)(b7:1000000000<=b)(hle:b<=r)(b2:r<b*1000000000)(b8:ln b<=10000):fn Tryz.prog conv ext 247 [LI (dg r),LI (dg b)]=some (I ((r / b:Nat):Int)):=by
 obtain⟨n,hn⟩:∃n,ln b=n+1:=⟨ln b-1,by have:=C9 (n:=b) (by omega);omega⟩;obtain⟨t1,t2,t3⟩:=ZO hn;obtain⟨P,eP⟩:∃P,P=1000000000^n:=⟨_,rfl⟩;rw[<- eP]at t1 t2 t3;have hP:0<P:=by rw[eP];exact Nat.pow_pos (by decide)
 have a5:n+1<=ln r:=by rw[<- hn];exact fQ hle
 have b3:ln r<=n+2:=by
  rw[cu,vC];have h1:b<1000000000^(n+1):=by
   have:=(cu (n:=b) (k:=n+1)).mp (by omega);rw[vC]at this;omega
  have h2:1000000000^(n+2)=1000000000^(n+1)*1000000000:=Nat.pow_succ _ _;omega
 obtain⟨X,eX⟩:∃X,X=r / P:=⟨_,rfl⟩;obtain⟨bt,a1⟩:∃bt,bt=b / P:=⟨_,rfl⟩;rw[<- a1]at t1 t2 t3;obtain⟨Q,eQ⟩:∃Q,Q=r / b:=⟨_,rfl⟩;rw[<- eQ];have b9:Q<1000000000:=by rw[eQ,Nat.div_lt_iff_lt_mul (by omega),wO];exact b2
 have q1:X / (bt+1)<=Q:=by rw[eX,a1,eQ];exact anR hP (by omega)
 have q2:Q<=X / bt:=by rw[eX,a1,eQ];exact anS hP (by omega)
 have hX:X<1000000000000000000:=by
  rw[eX,Nat.div_lt_iff_lt_mul hP];have h1:r<1000000000^(n+2):=by
   have:=(cu (n:=r) (k:=n+2)).mp b3;rw[vC]at this;omega
  have h2:1000000000^(n+2)=1000000000000000000*P:=by rw[eP,Nat.pow_add,wO]
  omega
 have a2:(dg b).length=n+1:=hn;have u1:((n+1:Nat):Int) - 1=(n:Int):=by omega
 have w1:=ah (n:=(n:Int));have i0:=aI n;have i1:(n:Int)<((n+1:Nat):Int):=by omega
 have i2:(n:Int)<((dg r).length:Int):=by unfold ln at a5;omega
 have n1:n<(dg r).length:=by unfold ln at a5;omega
 have n2:n<n+1:=by omega
 have a6:((dg b).flatMap cI)[n]?=some (I (bt:Int)):=by
  have G:n<(dg b).length:=by omega
  have e:(dg b)[n]=(bt:Int):=by
   rw[zy G]at t3;exact Option.some.inj t3
  rw[idx (xs:=dg b) (k:=n) G,e]
 have a7:(dg b).flatMap cI≠[]:=fun e=>by have h:=aS (dg b);rw[e,a2]at h;have h:0=n+1:=h;omega
 have a8:(dg r).flatMap cI≠[]:=fun e=>by have h:=aS (dg r);rw[e]at h;have h:0=(dg r).length:=h;omega
 have a3:((dg r).flatMap cI)[n]?=some (I ((r / P%1000000000:Nat):Int)):=by
  rw[idx (xs:=dg r) (k:=n) n1,vg n1,eP]
 have v1:=ah (n:=(bt:Int)+1);have c1:¬(bt:Int)+1=0:=by omega
 have c2:¬(bt:Int)=0:=by omega
 obtain⟨L0,J⟩:∃L0,L0=X / (bt+1):=⟨_,rfl⟩;obtain⟨O,S⟩:∃O,O=X / bt:=⟨_,rfl⟩;have c0:L0<=X:=by rw[J];exact xH _ _
 have c5:O<=X:=by rw[S];exact xH _ _
 rw[<- J]at q1;rw[<- S]at q2;have d1:(X:Int).tdiv ((bt:Int)+1)=(L0:Int):=by
  rw[yJ (by omega),show(bt:Int)+1=((bt+1:Nat):Int) by omega,<- Int.natCast_ediv,J]
 have d2:(X:Int).tdiv (bt:Int)=(O:Int):=by rw[yJ (by omega),<- Int.natCast_ediv,S]
 clear J S;have v2:=ah (n:=(L0:Int));have v3:=ah (n:=(O:Int));obtain⟨H,eH,b4,b5⟩:∃H:Nat,(if(O:Int)<999999999 then(O:Int)else 999999999)=(H:Int)/\Q<=H/\H<=999999999:=by
  by_cases h:(O:Int)<999999999
  .exact⟨O,by rw[if_pos h],q2,by omega⟩
  .exact⟨999999999,by rw[if_neg h];rfl,by omega,by omega⟩
 have E:ln r=n+1\/ln r=n+2:=by omega
 rw[aH,ak [.tmp 4] [] Tryz.func247];rcases E with E|E
 case' inl=>
  have e1:r / P%1000000000=X:=by
   rw[eX];obtain⟨_,h2,_⟩:=ZO E;rw[<- eP]at h2;exact wL h2
  rw[e1]at a3;have a4:(dg r).length=n+1:=E;have c3:¬((n+1:Nat):Int)<((n+1:Nat):Int):=by omega
  simp only[go_sem,a2,a4,u1,w1,i0,i1,n2,a3,a6,a7,a8,c3,v1,c1,c2,d1,d2,v2,v3,eH]
 case' inr=>
  obtain⟨y1,y2,y3⟩:=ZO E;obtain⟨Y,eY⟩:∃Y,Y=r / 1000000000^(n+1):=⟨_,rfl⟩;rw[<- eY]at y2 y3;have e1:r / P%1000000000+Y*1000000000=X:=by
   have:=kR r n;rw[<- eP,<- eY,<- eX]at this;rw[<- eX];omega
  have a4:(dg r).length=n+1+1:=E;have c3:((n+1:Nat):Int)<((n+1+1:Nat):Int):=by omega
  have i3:(0:Int)<=((n+1:Nat):Int):=by omega
  have i4:(n:Int)<((n+1+1:Nat):Int):=by omega
  have n3:n+1<n+1+1:=by omega
  have n4:n<n+1+1:=by omega
  have tn:((n+1:Nat):Int).toNat=n+1:=yw _;have b6:((dg r).flatMap cI)[n+1]?=some (I (Y:Int)):=by
   have G:n+1<(dg r).length:=by omega
   have e:(dg r)[n+1]=(Y:Int):=by
    rw[zy G]at y3;exact Option.some.inj y3
   rw[idx (xs:=dg r) (k:=n+1) G,e]
  have v4:=ah (n:=(Y:Int)*1000000000);have v5:IntKind.i64.wrap (((r / P%1000000000:Nat):Int)+(Y:Int)*1000000000)=(X:Int):=by
   rw[ah];omega
  simp only[go_sem,a2,a4,u1,w1,i0,i1,i3,i4,n2,n3,n4,tn,a3,b6,a6,a7,a8,c3,v1,v4,v5,c1,c2,d1,d2,v2,v3,eH]
 all_goals
  generalize hL:aF _ _=y;obtain⟨x,rfl,T,σ,nx,rfl,t7⟩:=bJ hL (fun m st=>st.T 0=LI (dg r)/\st.T 1=LI (dg b)/\∃lo hi:Nat,st.T 7=I (lo:Int)/\st.T 8=I (hi:Int)/\lo<=Q/\Q<=hi/\hi<=999999999/\m+lo=hi)
   (fun x=>∃T σ nx,x=(.exit 0,⟨T,σ,nx⟩)/\T 7=I (Q:Int)) (by
    clear hL;rintro m ⟨T,σ,nx⟩ ⟨t0,t1,lo,hi,t7,t8,h1,h2,h3,h4⟩;simp only at t0 t1 t7 t8
    by_cases c6:lo<hi
    .have g1:(lo:Int)<(hi:Int):=by omega
     obtain⟨q,eq⟩:∃q,q=(lo+hi+1) / 2:=⟨_,rfl⟩;have g2:=ah (n:=(lo:Int)+(hi:Int));have g3:=ah (n:=(lo:Int)+(hi:Int)+1);have g4:((lo:Int)+(hi:Int)+1).tdiv 2=(q:Int):=by
      rw[yJ (by omega)];omega
     have g5:=ah (n:=(q:Int));have g6:=ah (n:=(q:Int) - 1);have g7:¬(2:Int)=0:=by decide
     have k1:=LK q (by omega);have lq:=lS (n:=q) (by omega);have k2:=vY b q (by omega) (by omega);have lm:=qL b q;have k3:=Vl (b*q) r (by show ln (b*q)<=_;omega) (by show ln r<=_;omega);have a0:=aku (b*q) r;have a9:b*q<=r↔q<=Q:=by rw[eQ,Nat.le_div_iff_mul_le (by omega),wO]
     by_cases hq:q<=Q
     .have c4:fJ (b*q) r<=0:=a0.mpr (a9.mpr hq)
      refine .inl ⟨_,by simp only[go_sem,t0,t1,t7,t8,g1,g2,g3,g4,g5,g7,k1,k2,k3,c4];rfl,hi-q,by omega,?_⟩;simp only[go_sem,t0,t1,t8];exact⟨q,hi,rfl,rfl,hq,h2,h3,by omega⟩
     .have c4:¬fJ (b*q) r<=0:=fun h=>hq (a9.mp (a0.mp h))
      refine .inl ⟨_,by simp only[go_sem,t0,t1,t7,t8,g1,g2,g3,g4,g5,g6,g7,k1,k2,k3,c4];rfl,q-1-lo,by omega,?_⟩;simp only[go_sem,t0,t1,t7];exact⟨lo,q-1,rfl,by rw[show((q-1:Nat):Int)=(q:Int) - 1 by omega],h1,by omega,by omega,by omega⟩
    .have g1:¬(lo:Int)<(hi:Int):=by omega
     refine .inr ⟨_,by simp only[go_sem,t7,t8,g1];rfl,by simp,_,_,_,rfl,?_⟩;simp only[go_sem,t7];rw[show(lo:Int)=(Q:Int) by omega]) (H-L0) (by
    simp only[go_sem];exact⟨L0,H,rfl,rfl,q1,b4,b5,by omega⟩)
  simp only[go_sem,t7]
def oG(n k i:Nat):List Int:=(List.range k).map fun j=>if j<i then 0 else((n / 1000000000^j%1000000000:Nat):Int)
theorem Ns(n k i:Nat):(oG n k i).length=k:=by simp[oG]
theorem agY(n k:Nat):oG n k k=List.replicate k 0:=by
 refine yR (by simp[oG]) fun j E G=>?_
 simp only[oG,xq,List.getElem_range,List.getElem_replicate];rw[if_pos (by simpa[oG]using E)]
theorem adF(n k:Nat):oG n k 0=pad n k:=by
 refine yR (by simp[oG,pad]) fun j E G=>?_
 simp[oG,pad]
theorem Nu {n k i:Nat}(E:i<k):(oG n k (i+1)).set i ((n / 1000000000^i%1000000000:Nat):Int)=oG n k i:=by
 refine yR (by simp[oG]) fun j G J=>?_
 rw[wJ];simp only[oG,xq,List.getElem_range]
 by_cases e:i=j
 .subst e;simp
 .rw[if_neg e]
  by_cases h:j<i
  .rw[if_pos (by omega),if_pos h]
  .rw[if_neg (by omega),if_neg h]
theorem PU {n k i:Nat}(h:i<k)(E:n / 1000000000^i%1000000000=0):oG n k (i+1)=oG n k i:=by
 rw[<- Nu h,E];refine yR (by simp[oG]) fun j G J=>?_
 rw[wJ]
 by_cases e:i=j
 .subst e
  rw[if_pos rfl];simp only[oG,xq,List.getElem_range];rw[if_pos (by omega)];rfl
 .rw[if_neg e]
theorem asi(xs:List Int)(k:Nat)(v:Int):(xs.flatMap cI).set k (I v)=(xs.set k v).flatMap cI:=by
 induction xs generalizing k with
 |nil=>rfl
 |cons x xs E=>
  cases k with
  |zero=>rfl
  |succ k=>show I x :: (xs.flatMap cI).set k (I v)=_;rw[E];rfl
theorem axD(n:Nat):rep n [V.sc (.int .i64 0)]=(List.replicate n (0:Int)).flatMap cI:=by
 induction n with
 |zero=>rfl
 |succ n E=>rw[rep_succ,E,xW];rfl
theorem ZP {σ:Store} {b:Nat} {xs:List Int} {w:Bool}(h:σ b=some ⟨xs.flatMap cI,1,w⟩) {n:Nat}(hn:xs.length=n)(d:Nat):strip σ (d+1) (.rs b 0 n)=some (LI xs,[b]):=by
 rw[d_,h];simp only[zi,yN,yY,yZ,aS];rw[if_pos (by omega),zk (by rw[aS];omega),iJ (fun x=>by rw[aO,cO,bQ];rfl)];show some (V.ts _ n,[b])=_;rw[<- hn]
theorem agZ(a b i:Nat)(hb:b≠0):a / 1000000000^i%b=(a / 1000000000^(i+1)%b*1000000000+a / 1000000000^i%1000000000)%b/\a / b / 1000000000^i%1000000000=(a / 1000000000^(i+1)%b*1000000000+a / 1000000000^i%1000000000) / b:=by
 obtain⟨A,J⟩:∃A,A=a / 1000000000^(i+1):=⟨_,rfl⟩;obtain⟨D,G⟩:∃D,D=a / 1000000000^i%1000000000:=⟨_,rfl⟩;have h:=kR a i;rw[<- J,<- G]at h⊢;have Y:D<1000000000:=by rw[G];exact Nat.mod_lt _ (by decide)
 have O:a / b / 1000000000^i=a / 1000000000^i / b:=by rw[xA,xA,wO]
 rw[O,<- h];have hA:A=b*(A / b)+A%b:=(Nat.div_add_mod A b).symm;obtain⟨q,eq⟩:∃q,q=A / b:=⟨_,rfl⟩;obtain⟨r,E⟩:∃r,r=A%b:=⟨_,rfl⟩;rw[<- eq,<- E]at hA;rw[<- E];have hr:r<b:=by rw[E];exact Nat.mod_lt _ (by omega)
 have S:A*1000000000+D=r*1000000000+D+b*(q*1000000000):=by
  rw[hA,Nat.add_mul,Nat.mul_assoc];omega
 rw[S];constructor
 .rw[Nat.add_mul_mod_self_left]
 .rw[Nat.add_mul_div_left _ _ (by omega:0<b),Nat.add_mul_mod_self_right]
  refine wL ?_;rw[Nat.div_lt_iff_lt_mul (by omega)];have:(r+1)*1000000000<=b*1000000000:=zG _ (by omega);omega
theorem WR(a b:Nat)(h0:b≠0)(la:ln a<=1000)(lb:ln b<=1000):fn Tryz.prog conv ext 234 [LI (dg a),LI (dg b)]=some (.dS [LI (dg (a / b)),LI (dg (a%b))]):=by
 have hb:=C9 h0
 by_cases a5:b<1000000000
 .have h1:=ai7 a b (by show ln a<=_;omega) h0 a5
  have hr:a%b<b:=Nat.mod_lt _ (by omega);have h2:=LK (a%b) (by omega);have z1:(0:Int)<1:=by decide
  have z3:(0:Int).toNat=0:=id rfl;have hd:dg b=[(b:Int)]:=by rw[nM h0,Nat.div_eq_of_lt a5,bH,wL a5]
  rw[hd];rw[aH,ak [.tmp 4,.tmp 5] [] Tryz.func234];simp only[go_sem,z1,z3,h1,h2]
 have b7:2<=ln b:=by
  refine zf fun hn=>?_
  have:=(cu (n:=b) (k:=1)).mp (by omega);have e:bp 1=1000000000:=rfl;omega
 have b8:((dg b).length:Int)≠1:=by unfold ln at b7;omega
 have c0:(((dg b).length:Int)==1)=false:=by simpa using b8
 obtain⟨N,eN⟩:∃N,N=ln a:=⟨_,rfl⟩;have hN:(dg a).length=N:=by rw[eN];rfl
 have e1:=aI N;have e2:8*(N:Int)<=281474976710656:=by omega
 have e3:(N:Int)<=9223372036854775807:=by omega
 have w1:=ah (n:=(N:Int) - 1);have rz:=axD N;rw[<- agY (a / b) N]at rz;rw[aH,ak [.tmp 4,.tmp 5] [] Tryz.func234];simp only[go_sem,c0,hN,e1,e2,e3,w1,rz,yE];generalize hL:aF _ _=y;obtain⟨x,rfl,T,σ,nx,rfl,Y,t9,hs⟩:=bJ hL (fun i st=>i<=N/\st.T 0=LI (dg a)/\st.T 1=LI (dg b)/\st.T 8= .rs 0 0 N/\st.T 10=I ((i:Int) - 1)/\0<st.nx/\(st.T 9=LI (dg (a / 1000000000^i%b))\/(st.T 9= .nil/\a / 1000000000^i%b=0))/\st.σ 0=some ⟨(oG (a / b) N i).flatMap cI,1,true⟩)
  (fun x=>∃T σ nx,x=(.exit 0,⟨T,σ,nx⟩)/\T 8= .rs 0 0 N/\(T 9=LI (dg (a%b))\/(T 9= .nil/\a%b=0))/\σ 0=some ⟨(oG (a / b) N 0).flatMap cI,1,true⟩) (by
   clear hL;rintro i ⟨T,σ,nx⟩ ⟨hi,t0,t1,Y,O,b9,t9,hs⟩;simp only at t0 t1 Y O b9 t9 hs;cases i with
   |zero=>
    have g1:¬(0:Int)<=((0:Nat):Int) - 1:=by omega
    refine .inr ⟨_,by simp only[go_sem,O,g1];rfl,by simp,_,_,_,rfl,by simp only[go_sem,Y],?_,hs⟩;have e:a / 1000000000^0%b=a%b:=by rw[Nat.pow_zero,x9]
    rw[e]at t9
    simpa only[go_sem]using t9
   |succ i=>
    have e4:((i+1:Nat):Int) - 1=(i:Int):=by omega
    rw[e4]at O;have g1:=aI i;have g2:(i:Int)<(N:Int):=by omega
    have g3:i<N:=by omega
    have b3:i<(dg a).length:=by omega
    have g4:((dg a).flatMap cI)[i]?=some (I ((a / 1000000000^i%1000000000:Nat):Int)):=by
     rw[idx (xs:=dg a) (k:=i) b3,vg b3]
    have g5:(dg a).flatMap cI≠[]:=fun e=>by have h:=aS (dg a);rw[e]at h;have h:0=(dg a).length:=h;omega
    have g6:=ah (n:=(i:Int) - 1);obtain⟨G,J⟩:=agZ a b i h0;obtain⟨r,er⟩:∃r,r=a / 1000000000^(i+1)%b:=⟨_,rfl⟩;obtain⟨D,eD⟩:∃D,D=a / 1000000000^i%1000000000:=⟨_,rfl⟩;rw[<- er,<- eD]at G J;rw[<- er]at t9;rw[<- eD]at g4;have hD:D<1000000000:=by rw[eD];exact Nat.mod_lt _ (by decide)
    have c5:r<b:=by rw[er];exact Nat.mod_lt _ (by omega)
    obtain⟨R,eR⟩:∃R,R=r*1000000000+D:=⟨_,rfl⟩;rw[<- eR]at G J;have a6:ln r<=1000:=zL (fQ (by omega)) lb;have c6:ln R<=1001:=by
     rw[cu];have h1:=(cu (n:=r) (k:=1000)).mp a6;have h2:bp 1001=1000000000*bp 1000:=fE 1000;omega
    have hR:R<b*1000000000:=by
     have:(r+1)*1000000000<=b*1000000000:=zG _ (by omega);omega
    have k3:=Vl R b (by show ln R<=_;omega) (by show ln b<=_;omega);have S:=akv R b;have tr:fP ((D:Int) :: dg r)=dg R:=jD (Dg.app (xs:=[(D:Int)]) (fun x hx=>by rw[wM]at hx;omega) (kE r)) (by
     show(D:Int)+1000000000*vl (dg r)=(R:Int);rw[kF];omega)
    have sh:Short ((D:Int) :: dg r):=by unfold Short;rw[zD];unfold ln at a6;omega
    have k2:=ER ((D:Int) :: dg r) sh;rw[tr]at k2;have sg:b<=R->fn Tryz.prog conv ext 247 [LI (dg R),LI (dg b)]=some (I ((R / b:Nat):Int))/\fn Tryz.prog conv ext 209 [I ((R / b:Nat):Int)]=some (LI (dg (R / b)))/\fn Tryz.prog conv ext 185 [LI (dg b),LI (dg (R / b))]=some (LI (dg (b*(R / b))))/\fn Tryz.prog conv ext 233 [LI (dg R),LI (dg (b*(R / b)))]=some (LI (dg (R-b*(R / b)))):=fun hle=>by
     have hq:R / b<1000000000:=by rw[Nat.div_lt_iff_lt_mul (by omega),wO];exact hR
     have lq:=lS hq;exact⟨akw R b (by omega) hle hR (by omega),LK _ (by omega),vY b _ (by omega) (by omega),Vm R _ (by omega) (by rw[wO];exact Nat.div_mul_le_self _ _)⟩
    have a4:R-b*(R / b)=R%b:=by have:=Nat.div_add_mod R b;omega
    have nz:¬0=nx:=by omega
    have b4:¬0=nx+1:=by omega
    by_cases a0:T 9= .nil\/r=0
    ·-- nothing stands behind the limb
     have a7:r=0:=by
      rcases a0 with h|h
      .rcases t9 with h'|⟨_,h'⟩
       .rw[h]at h';cases h'
       .exact h'
      .exact h
     have d0:dg r=[]:=by rw[a7,bH]
     rw[d0]at k2;have b5:fn Tryz.prog conv ext 213 [.ts [I (D:Int)] 1]=some (LI (dg R)):=k2
     have h9:T 9= .nil\/T 9= .ts [] 0:=by
      rcases t9 with h|h
      .right;rw[h,d0];rfl
      .exact .inl h.1
     have ha:bT (upd σ nx (some ⟨[I (D:Int)],1,true⟩)) (nx+1) 1 8 (.rs nx 0 1) [] 0=some (.rs nx 0 1,upd σ nx (some ⟨[I (D:Int)],1,true⟩),nx+1):=by
      have e:(upd σ nx (some ⟨[I (D:Int)],1,true⟩)) nx=some ⟨[I (D:Int)],1,true⟩:=upd_same _ _ _;unfold bT;simp only[e,if_true]
     have bh:behind (upd σ nx (some ⟨[I (D:Int)],1,true⟩)) [nx] (LI (dg R)) 0=some ⟨(oG (a / b) N (i+1)).flatMap cI,1,true⟩:=by
      rw[D8 (by simp;omega),upd_ne _ _ nz];exact hs
     obtain⟨b6,e3⟩:∃b6,b6=behind (upd σ nx (some ⟨[I (D:Int)],1,true⟩)) [nx] (LI (dg R)):=⟨_,rfl⟩;rw[<- e3]at bh
     by_cases E:R<b
     .have c1:fJ R b<0:=S.mpr E
      have a8:R%b=R:=wL E;have a9:R / b=0:=Nat.div_eq_of_lt E;rw[a8]at G;rw[a9]at J;rcases h9 with h9|h9
      all_goals
       refine .inl ⟨_,by simp only[go_sem,t0,t1,Y,O,h9,g1,g2,g3,g4,g5,g6,hN,ha,b5,<- e3,k3,c1,nz,b4,uZ];rfl,i,by omega,?_⟩;simp only[go_sem,t0,t1,Y];refine⟨by omega,by omega,.inl (by rw[G]),?_⟩;rw[<- PU (by omega) J];exact bh
     .have c1:¬fJ R b<0:=fun h=>E (S.mp h)
      obtain⟨k4,k5,k6,k7⟩:=sg (by omega);rw[a4,<- G]at k7;have w8:((oG (a / b) N (i+1)).flatMap cI).length=N:=by rw[aS,Ns]
      have a1:((oG (a / b) N (i+1)).flatMap cI).set i (I ((R / b:Nat):Int))=(oG (a / b) N i).flatMap cI:=by
       rw[asi,<- J,Nu (by omega)]
      rcases h9 with h9|h9
      all_goals
       refine .inl ⟨_,by simp only[go_sem,t0,t1,Y,O,h9,g1,g2,g3,g4,g5,g6,hN,ha,b5,<- e3,k3,c1,k4,k5,k6,k7,bh,w8,a1,nz,b4,uZ];rfl,i,by omega,?_⟩;simp only[go_sem,t0,t1,Y];exact⟨by omega,by omega,.inl trivial⟩
    .have h9:T 9=LI (dg r):=by
      rcases t9 with h|⟨h,_⟩
      .exact h
      .exact absurd (.inl h) a0
     have a7:¬r=0:=fun h=>a0 (.inr h)
     have c2:¬(dg r).length=0:=fun h=>by
      have:=C9 a7;unfold ln at this;omega
     have c4:(dg r).length<=1000:=a6;have ha:=kQ (σ:=upd σ nx (some ⟨[I (D:Int)],1,true⟩)) (nx:=nx+1) (bytes:=8) (b:=nx) (len:=1) (m:=(dg r).length) (B:=⟨[I (D:Int)],1,true⟩) (row:=(dg r).flatMap cI) (upd_same _ _ _) rfl rfl c2 (by unfold maxLen;omega) (by omega) (qj _);obtain⟨a2,e1⟩:∃a2,a2=upd (upd (upd σ nx (some ⟨[I (D:Int)],1,true⟩)) nx none) (nx+1) (some ⟨[I (D:Int)]++(dg r).flatMap cI,1,true⟩):=⟨_,rfl⟩;rw[<- e1]at ha;have b1:a2 (nx+1)=some ⟨((D:Int) :: dg r).flatMap cI,1,true⟩:=by rw[e1,upd_same];rfl
     have b0:a2 0=some ⟨(oG (a / b) N (i+1)).flatMap cI,1,true⟩:=by rw[e1,ay,ay,ay];exact hs
     have s1:=fun d=>ZP b1 (n:=1+(dg r).length) (by rw[zD];omega) d
     have tk:((dg r).flatMap cI).take (dg r).length=(dg r).flatMap cI:=zk (by rw[aS];omega);have a3:(dg r).length<=((dg r).flatMap cI).length:=by rw[aS];omega
     obtain⟨σ2,e2⟩:∃σ2,σ2=behind a2 [nx+1] (LI (dg R)):=⟨_,rfl⟩;have b2:σ2 0=some ⟨(oG (a / b) N (i+1)).flatMap cI,1,true⟩:=by
      rw[e2,D8 (by simp)];exact b0
     by_cases E:R<b
     .have c1:fJ R b<0:=S.mpr E
      have a8:R%b=R:=wL E;have a9:R / b=0:=Nat.div_eq_of_lt E;rw[a8]at G;rw[a9]at J;refine .inl ⟨_,by simp only[go_sem,t0,t1,Y,O,h9,g1,g2,g3,g4,g5,g6,hN,tk,a3,ha,s1,k2,<- e2,k3,c1];rfl,i,by omega,?_⟩;simp only[go_sem,t0,t1,Y];refine⟨by omega,by omega,.inl (by rw[G]),?_⟩;rw[<- PU (by omega) J];exact b2
     .have c1:¬fJ R b<0:=fun h=>E (S.mp h)
      obtain⟨k4,k5,k6,k7⟩:=sg (by omega);rw[a4,<- G]at k7;have w8:((oG (a / b) N (i+1)).flatMap cI).length=N:=by rw[aS,Ns]
      have a1:((oG (a / b) N (i+1)).flatMap cI).set i (I ((R / b:Nat):Int))=(oG (a / b) N i).flatMap cI:=by
       rw[asi,<- J,Nu (by omega)]
      refine .inl ⟨_,by simp only[go_sem,t0,t1,Y,O,h9,g1,g2,g3,g4,g5,g6,hN,tk,a3,ha,s1,k2,<- e2,k3,c1,k4,k5,k6,k7,b2,w8,a1];rfl,i,by omega,?_⟩;simp only[go_sem,t0,t1,Y];exact⟨by omega,by omega,.inl trivial⟩) N (by
   simp only[go_sem];refine .inr ?_;have:a<1000000000^N:=by
    have:=(cu (n:=a) (k:=N)).mp (by omega);rw[vC]at this;omega
   rw[Nat.div_eq_of_lt this,Nat.zero_mod])
 have s8:=fun d=>ZP hs (n:=N) (Ns _ _ _) d
 rw[adF]at s8;have k9:=ER (pad (a / b) N) (by unfold Short;rw[uG];omega);have c3:a / b<1000000000^N:=by
  have:=(cu (n:=a) (k:=N)).mp (by omega);rw[vC]at this;have:=xH a b;omega
 rw[GH N (a / b) c3]at k9;rcases t9 with t9|⟨t9,h9⟩
 .simp only[go_sem,Y,t9,s8,k9]
 .rw[h9,bH]
  simp only[go_sem,Y,t9,s8,k9];rfl
theorem abb {σ:Store} {ids:List Nat} {t:V} {b:Nat} {c:List V} {st:Nat} {wr:Bool}(h:σ b=some ⟨c,st,wr⟩):∃E,behind σ ids t b=some ⟨c,st,E⟩:=by
 have J:∀(ids:List Nat) {σ:Store} {wr:Bool},σ b=some ⟨c,st,wr⟩->∃E,kZ σ ids b=some ⟨c,st,E⟩:=by
  intro ids
  induction ids with
  |nil=>intro σ wr h;exact⟨wr,h⟩
  |cons i ids G=>
   intro σ wr h;unfold kZ
   by_cases e:b=i
   .subst e
    exact G (σ:=upd σ b ((σ b).map fun B=>{ B with wr:=false })) (wr:=false) (by rw[upd_same,h];rfl)
   .exact G (wr:=wr) (by rw[upd_ne _ _ e];exact h)
 unfold behind
 split
 .exact⟨wr,h⟩
 .exact J ids h
def Rd(σ:Store)(v:V)(xs:List Int):Prop:=v=LI xs\/(v= .nil/\xs=[])\/∃b w,v= .rs b 0 xs.length/\σ b=some ⟨xs.flatMap cI,1,w⟩
theorem Rd.strip {σ:Store} {v:V} {xs:List Int}(h:Rd σ v xs):∃ids,∀d,TV.strip σ (d+1) v=some (LI xs,ids):=by
 rcases h with rfl|⟨rfl,rfl⟩|⟨b,w,rfl,h⟩
 .exact⟨[],fun d=>qh _ _ _ _⟩
 .exact⟨[],fun d=>strip_nil _ _⟩
 .exact⟨[b],fun d=>ZP h rfl d⟩
theorem Rd.len {P:Program} {σ:Store} {v:V} {xs:List Int}(h:Rd σ v xs) {t:TypeId}(E:(bF P t).slice=true):mP P t v=some (I xs.length):=by
 rcases h with rfl|⟨rfl,rfl⟩|⟨b,w,rfl,h⟩
 .exact Ul E
 .exact oN E
 .exact sG E
theorem Rd.behind {σ:Store} {v:V} {xs:List Int}(h:Rd σ v xs)(ids:List Nat)(t:V):Rd (TV.behind σ ids t) v xs:=by
 rcases h with h|h|⟨b,w,E,G⟩
 .exact .inl h
 .exact .inr (.inl h)
 .obtain⟨w',J⟩:=abb (ids:=ids) (t:=t) G
  exact .inr (.inr ⟨b,w',E,J⟩)
theorem ag0(m n:Nat)(lm:ln m<=1000)(l2:ln n<=1000):fn Tryz.prog conv ext 206 [LI (dg m),LI (dg n)]=some (LI (dg (Nat.gcd m n))):=by
 obtain⟨G,eG⟩:∃G,G=Nat.gcd m n:=⟨_,rfl⟩;rw[<- eG];have hm:(dg m).length<=maxLen/\(dg m).length*8<=140737488355328:=by unfold ln at lm;unfold maxLen;omega
 have hn:(dg n).length<=maxLen/\(dg n).length*8<=140737488355328:=by unfold ln at l2;unfold maxLen;omega
 have z:∀k:Nat,(dg k).length=0↔k=0:=fun k=>by
  constructor
  .intro h
   refine zf fun h0=>?_
   have:=C9 h0;unfold ln at this;omega
  .rintro rfl;rw[bH];rfl
 rw[aH,ak [.tmp 4] [] Tryz.func206];rcases (show(m=0/\n=0)\/(m=0/\¬n=0)\/(¬m=0/\n=0)\/(¬m=0/\¬n=0) by omega)with ⟨E,J⟩|⟨E,J⟩|⟨E,J⟩|⟨E,J⟩
 case' inl=>
  have dm:dg m=[]:=by rw[E,bH]
  have dn:dg n=[]:=by rw[J,bH]
  rw[dm,dn];simp only[go_sem]
 case' inr.inl=>
  have dm:dg m=[]:=by rw[E,bH]
  have nn:¬(dg n).length=0:=fun h=>J ((z n).mp h)
  rw[dm];simp only[go_sem,nn,hn]
 case' inr.inr.inl=>
  have nm:¬(dg m).length=0:=fun h=>E ((z m).mp h)
  have dn:dg n=[]:=by rw[J,bH]
  rw[dn];simp only[go_sem,nm,hm]
 case' inr.inr.inr=>
  have nm:¬(dg m).length=0:=fun h=>E ((z m).mp h)
  have nn:¬(dg n).length=0:=fun h=>J ((z n).mp h)
  simp only[go_sem,nm,hm,nn,hn]
 all_goals
  generalize hL:aF _ _=y;obtain⟨r,rfl,hr⟩:=bJ hL (fun k st=>∃x:Nat,Rd st.σ (st.T 5) (dg x)/\Rd st.σ (st.T 6) (dg k)/\Nat.gcd x k=G/\ln x<=1000/\ln k<=1000)
   (fun r=>∃T σ nx,(r=(.exit 0,⟨T,σ,nx⟩)/\Rd σ (T 5) (dg G))\/(r=(.ret,⟨T,σ,nx⟩)/\T 4=LI (dg G))) (by
    clear hL;rintro k ⟨T,σ,nx⟩ ⟨x,S,h6,hg,lx,lk⟩;simp only at S h6;have Y:=h6.len (P:=Tryz.prog) (t:=26) (by kernel_rfl);have l5:=S.len (P:=Tryz.prog) (t:=26) (by kernel_rfl)
    by_cases hk:k=0
    .subst hk
     rw[bH]at Y;have c1:¬(0:Int)<(([]:List Int).length:Int):=by simp
     refine .inr ⟨_,by simp only[go_sem,Y,c1];rfl,by simp,_,_,_,.inl ⟨rfl,?_⟩⟩;rw[Nat.gcd_zero_right]at hg;rw[<- hg]
     simpa only[go_sem]using S
    .have c1:(0:Int)<((dg k).length:Int):=by have:=C9 hk;unfold ln at this;omega
     obtain⟨i5,s5⟩:=S.strip;obtain⟨i6,s6⟩:=h6.strip
     by_cases O:ln x<3/\ln k<3
     .have c2:((dg x).length:Int)<3:=by have:=O.1;unfold ln at this;omega
      have c3:((dg k).length:Int)<3:=by have:=O.2;unfold ln at this;omega
      have b1:x<1000000000000000000:=by
       have:=(cu (n:=x) (k:=2)).mp (by omega);have e:bp 2=1000000000000000000:=rfl;omega
      have b2:k<1000000000000000000:=by
       have:=(cu (n:=k) (k:=2)).mp (by omega);have e:bp 2=1000000000000000000:=rfl;omega
      have t1:=O1 x b1;have t2:=O1 k b2;have t3:=ams x k (by omega) (by omega);rw[hg]at t3;refine .inr ⟨_,by simp only[go_sem,l5,Y,c1,c2,c3,s5,s6,t1,t2,t3];rfl,by simp,_,_,_,.inr ⟨rfl,by simp only[go_sem]⟩⟩
     .have t4:=WR x k hk lx lk
      have a0:x%k<k:=Nat.mod_lt _ (by omega)
      have fin:∀T' σ' nx',T' 5=T 6->T' 6=LI (dg (x%k))->σ'=behind σ (i5++i6) (.dS [LI (dg (x / k)),LI (dg (x%k))]) ->
        ∃k',k'<k/\∃x':Nat,Rd (⟨T',σ',nx'⟩:St).σ ((⟨T',σ',nx'⟩:St).T 5) (dg x')/\Rd (⟨T',σ',nx'⟩:St).σ ((⟨T',σ',nx'⟩:St).T 6) (dg k')/\Nat.gcd x' k'=G/\ln x'<=1000/\ln k'<=1000:=fun T' σ' nx' e5 e6 a1=>by
       refine⟨x%k,a0,k,?_,.inl e6,?_,lk,zL (fQ (by omega)) lk⟩
       .show Rd σ' (T' 5) (dg k)
        rw[e5,a1];exact h6.behind _ _
       .rw[<- hg,Nat.gcd_comm x k,Nat.gcd_rec k x,Nat.gcd_comm]
      by_cases c2:((dg x).length:Int)<3
      .have c3:¬((dg k).length:Int)<3:=fun h=>O ⟨by unfold ln;omega,by unfold ln;omega⟩
       refine .inl ⟨_,by simp only[go_sem,l5,Y,c1,c2,c3,s5,s6,t4];rfl,fin _ _ _ (by simp only[go_sem]) (by simp only[go_sem]) (by simp only[go_sem])⟩
      .refine .inl ⟨_,by simp only[go_sem,l5,Y,c1,c2,s5,s6,t4];rfl,fin _ _ _ (by simp only[go_sem]) (by simp only[go_sem]) (by simp only[go_sem])⟩) n (by
    refine⟨m,?_,?_,eG.symm,lm,l2⟩
    all_goals simp only[go_sem]
    all_goals first
     |exact .inr (.inl ⟨rfl,by assumption⟩)
     |exact .inr (.inr ⟨_,true,rfl,rfl⟩)
     |(refine .inr (.inr ⟨_,true,rfl,?_⟩);rw[ay,upd_same])
     |exact .inr (.inl ⟨rfl,by rw[E,bH]⟩)
     |exact .inr (.inl ⟨rfl,by rw[J,bH]⟩))
  rcases hr with ⟨T,σ,nx,⟨rfl,S⟩|⟨rfl,t4⟩⟩
  .obtain⟨ids,s5⟩:=S.strip
   simp only[go_sem,s5]
  .simp only[go_sem,t4]
open Go.Lp
theorem ZQ(σ:Store)(b:Nat)(cells:List V)(st:Nat)(wr:Bool)(t:V):behind (upd σ b (some ⟨cells,st,wr⟩)) [b] t=upd σ b (some ⟨cells,st,wr && flat depth t⟩):=by
 unfold behind;cases E:flat depth t with
 |true=>simp
 |false=>
  simp only[List.isEmpty_cons,Bool.or_self,yM,if_false,xR];unfold kZ kZ;rw[upd_same,jf];rfl
attribute [go_sem] ZQ
def TI:V:=.dS [.ts [] 0,Bo false]
def WS(s:Structure)(l:List Int)(r:V):Prop:=(¬(dF s/\dJ s.joints.length l)/\r=TI)\/(dF s/\dJ s.joints.length l/\((r=TI/\((Ib s l).None\/(Ib s l).Open)) \/
 ∃x:Nat->Rat,(Ib s l).Best x/\(∀j,j<lW s->Ln 24 (x j))/\r=jW (BI (cols s s.members.length) ((List.range (lW s)).map x) s.members.length (lW s))))
theorem Hg {s:Structure}(h:okStructure s) {l:List Int}(hl:l.length<=maxLen):∃r,fn Tryz.prog aU bU 110 [.agg (cStructure s),LI l]=some r/\WS s l r:=by
 have G:=aav s l h hl
 by_cases E:dF s/\dJ s.joints.length l
 .obtain⟨J,S⟩:=E
  rw[dZ J,dZ S]at G;have hb:∀x∈l,-100<=x/\x<=100:=fun x hx=>jg (S.2 x hx)
  have k2:=Ov J.sg S.1 hb;obtain⟨r0,Y,hr⟩:=akq J hb;unfold jL at k2 Y;rw[aH,ak [.tmp 4,.tmp 5] [] Tryz.func110];rcases hr with ⟨rfl,h3⟩|⟨x,h3,h4,rfl⟩
  .refine⟨_,by simp only[go_sem,G,k2,Y];rfl,.inr ⟨J,S,.inl ⟨rfl,h3⟩⟩⟩
  .obtain⟨O,eO⟩:∃O,O=BI (cols s s.members.length) ((List.range (lW s)).map x) s.members.length (lW s):=⟨_,rfl⟩
   have a0:∀o∈O,LnO 24 o:=by
    rw[eO];exact SN (fun y hy=>by
     obtain⟨j,hj,rfl⟩:=List.mem_map.mp hy;exact h4 j (List.mem_range.mp hj)) _
   have a1:O.length<=1000:=by rw[eO,uQ];have:=J.2.1;omega
   have k4:=akt O a0 a1;rw[<- eO]at Y;refine⟨jW O,?_,.inr ⟨J,S,.inr ⟨x,h3,h4,by rw[eO]⟩⟩⟩;unfold jW at k4⊢;cases hq:iK O with
   |none=>rw[hq]at k4;simp only[go_sem,G,k2,Y,k4]
   |some qs=>rw[hq]at k4;simp only[go_sem,G,k2,Y,k4]
 .have hf:(pb (dF s) && pb (dJ s.joints.length l))=false:=by
   by_cases a:dF s
   .have:¬dJ s.joints.length l:=fun b=>E ⟨a,b⟩
    rw[bP this,xR]
   .rw[bP a,Bool.false_and]
  rw[hf]at G;rw[aH,ak [.tmp 4,.tmp 5] [] Tryz.func110];refine⟨_,by simp only[go_sem,G];rfl,.inl ⟨E,rfl⟩⟩
theorem uS {n:Nat}(h:ln n<=60):jy (dg n) :=
 ⟨fun x E=>by have:=Y5 n x E;unfold inB;rw[vw this.1,vw this.2];rfl,h,pJ n⟩
theorem anT(q:Rat)(h:Ln 24 q):fn Tryz.prog aU bU 248 [.agg (cQ q)]=some (Bo true):=by
 have Y:(dg q.num.natAbs).length<=24:=h.1;have a0:(dg q.den).length<=24:=h.2;have E:=acV (decide (q.num<0)) (dg q.num.natAbs) (by unfold Short;omega);have G:(decide (q.num<0) && decide (dg q.num.natAbs=[]))=false:=by
  by_cases hz:q.num<0
  .rw[vk (iH (n:=q.num.natAbs) (by omega)),xR]
  .rw[vk hz];rfl
 rw[dZ (uS (by have:=h.1;omega)),G]at E;have O:=afs (dg q.den) (by unfold Short;omega);rw[dZ (uS (by have:=h.2;omega))]at O;have S:=VY q.num.natAbs q.den (by have:=h.1;omega) (by have:=h.2;omega);rw[show Nat.gcd q.num.natAbs q.den=1 from q.reduced,oP (d:=1) (by decide) (by decide)]at S;have k4:fn Tryz.prog conv ext 221 [.ts [I 1] 1,.ts [I 1] 1]=some (I 0):=by
  have:=aqY 1 (by decide);rw[oP (d:=1) (by decide) (by decide)]at this;exact this
 have J:fn Tryz.prog aU bU 220 [LI (dg q.num.natAbs),LI (dg q.den)]=some (.ts [I 1] 1):=S;have c0:(((dg q.den).length:Int)==0)=false:=by rw[w_];have:=jh (iH q.den_nz);omega
 have c1:¬(24:Int)<((dg q.num.natAbs).length:Int):=by omega
 have c2:¬(24:Int)<((dg q.den).length:Int):=by omega
 unfold cQ;rw[aH,ak [.tmp 2] [] Tryz.func248];simp only[go_sem]at E;simp only[go_sem,E,O,J,k4,c0,c1,c2]
theorem asj(q:Rat)(h:Ln 24 q):fn Tryz.prog aU bU 245 [.agg (cQ q)]=some (.tp (cQ q) 0):=by
 have E:=anT q h;unfold cQ at E⊢;rw[aH,ak [.tmp 2] [] Tryz.func245];simp only[go_sem,E]
theorem ag1(qs:List Rat) {k:Nat}(h:k<qs.length):((qs.take k).flatMap cF++rep (qs.length-k) [V.sc (.pointer none)]).set k (.tp (cQ qs[k]) 0)=(qs.take (k+1)).flatMap cF++rep (qs.length - (k+1)) [V.sc (.pointer none)]:=by
 have E:((qs.take k).flatMap cF).length=k:=by rw[iV,zh];omega
 rw[yD _ _ (by omega),E,yQ,show qs.length-k=qs.length - (k+1)+1 by omega,rep_succ,take_snoc h,zT,zB];rfl
theorem ag2(qs:List Rat) {k:Nat}(h:k<qs.length):((qs.take (k+1)).flatMap cF++rep (qs.length - (k+1)) [V.sc (.pointer none)])[k]?=some (.tp (cQ qs[k]) 0):=by
 have E:k<(qs.take (k+1)).length:=by rw[zh];omega
 rw[zV (by rw[iV];exact E),I5 _ E,List.getElem_take]
theorem WT(qs:List Rat) {k:Nat}(h:k<=qs.length):((qs.take k).flatMap cF++rep (qs.length-k) [V.sc (.pointer none)]).length=qs.length:=by
 rw[zo,iV,jv,zh];simp;omega
theorem adG(a b c:V)(q:Rat):patch [a,b,c] 0 (cQ q)=cQ q:=rfl
attribute [go_sem] adG
theorem anU(qs:List Rat)(hL:∀q∈qs,Ln 24 q)(hn:qs.length<=1000):fn Tryz.prog aU bU 229 [LL cQ qs]=some (.dS [LL cF qs,Bo true]):=by
 have m1:(0:Int)<=(qs.length:Int):=by omega
 have m2:8*(qs.length:Int)<=281474976710656:=by omega
 have m3:(qs.length:Int)<=9223372036854775807:=by omega
 rw[aH,ak [.tmp 2,.tmp 3] [] Tryz.func229];simp only[go_sem,m1,m2,m3];generalize a0:aF _ _=y;obtain⟨x,rfl,T,σ,nx,rfl,O,s0⟩:=aB a0 qs.length (fun k st=>st.T 4= .rs 0 0 qs.length/\st.T 10=LL cQ qs/\st.T 11=I qs.length/\st.T 12=I k/\0<st.nx/\st.σ 0=some ⟨(qs.take k).flatMap cF++rep (qs.length-k) [V.sc (.pointer none)],1,true⟩)
  (fun x=>∃T σ nx,x=(.exit 0,⟨T,σ,nx⟩)/\T 4= .rs 0 0 qs.length/\σ 0=some ⟨qs.flatMap cF,1,true⟩) (by
   clear a0;rintro k ⟨T,σ,nx⟩ S ⟨O,G,E,J,Y,s0⟩;simp only at O G E J Y s0;have g1:(k:Int)<(qs.length:Int):=by omega
   have g2:=aI k;have g3:=ah (n:=(k:Int)+1);have g4:=slot (c:=cQ) (s:=3) (fun _=>rfl) qs k S;have g5:=slot_ne (c:=cQ) (s:=3) (fun _=>rfl) (by omega) qs k S;have g6:=aa' qs;have g7:k*3+3<=qs.length*3:=by omega
   have kl:=asj qs[k] (hL _ (zu S));have p1:=ag1 qs S;have p2:=ag2 qs S;have p3:=WT qs (k:=k) (by omega);have p4:=WT qs (k:=k+1) (by omega);have d1:¬0=nx:=by omega
   have d2:¬nx=0:=by omega
   have d3:k+1<=qs.length:=S;obtain⟨q,eq⟩:∃q,q=qs[k]:=⟨_,rfl⟩;rw[<- eq]at g4 kl p1 p2;have st1:∀σ d,stripL (strip σ d) (cQ q)=some (cQ q,[]):=fun σ d=>nX σ d q
   refine .inl ⟨_,by simp only[go_sem,O,G,E,J,s0,g1,g2,g3,g4,g5,g6,g7,S,kl,p1,p2,p3,p4,d1,d2,d3,st1];rfl,?_⟩;simp only[go_sem,O,G,E,d1,d2];exact⟨rfl,by omega⟩) (by
   rintro ⟨T,σ,nx⟩ ⟨O,G,E,J,Y,s0⟩;simp only at O G E J Y s0;have g1:¬(qs.length:Int)<(qs.length:Int):=by omega
   refine⟨_,by simp only[go_sem,E,J,g1];rfl,by simp,_,_,_,rfl,?_⟩;simp only[go_sem,O];have e:rep 0 [V.sc (.pointer none)]=[]:=rfl;rw[yg,yQ,e,zM]at s0;exact s0) (by
   simp only[go_sem])
 have u1:qs.length<=(qs.flatMap cF).length:=by rw[iV];exact zq _
 have u2:(qs.flatMap cF).take qs.length=qs.flatMap cF:=zk (by rw[iV];exact zq _);have u3:=He σ 4 qs;simp only[go_sem,O,s0,u1,u2,u3]
theorem ZR {s:Structure}(h:dF s)(G:okStructure s) {qs:List Rat}(J:qs.length=s.members.length)(O:∀q∈qs,Ln 24 q):fn Tryz.prog aU bU 195 [.tp (cStructure s) 0,LL cQ qs]=some (.dS [LL cF qs,Bo true]):=by
 have S:=h.2.1;have E:=Gz s G;rw[dZ h]at E;have Y:=anU qs O (by omega);have c0:((qs.length:Int) !=(s.members.length:Int))=false:=by rw[J];simp
 rw[aH,ak [.tmp 4,.tmp 5] [] Tryz.func195];simp only[go_sem,E,Y,c0]
def sqQ(s:Structure)(q:Rat)(k:Nat):Option Rat:=FZ (FZ (some q) (some q)) (some ((vx s k*vx s k+vy s k*vy s k:Int):Rat))
theorem KE {a b:Option Rat}:LnO 24 (FZ a b):=fun y h=>by
 cases a with
 |none=>cases h
 |some x=>cases b with
  |none=>cases h
  |some z=>exact aa9 h
theorem SQ {s:Structure}(h:SG s) {qs:List Rat}(hl:qs.length=s.members.length)(hL:∀q∈qs,Ln 24 q) {k:Nat}(G:k<qs.length) :
  fn Tryz.prog aU bU 196 [.tp (cStructure s) 0,LL cF qs,I k]=some (pQ (sqQ s qs[k] k)):=by
 have k1:=aa6 h (k:=k) (by omega);have hb:=Dv h k;have a2:=h.nm;have g1:(k:Int)<(qs.length:Int):=by omega
 have g2:=aI k;have g4:=I5 qs G;have J:(qs.flatMap cF).length=qs.length:=iV qs;have O:qs.flatMap cF≠[]:=fun e=>by rw[e]at J;have:qs.length=0:=J.symm;omega
 have S:=hL _ (zu G);obtain⟨q,eq⟩:∃q,q=qs[k]:=⟨_,rfl⟩;rw[<- eq]at g4 S⊢;have x2:0<=vx s k*vx s k/\vx s k*vx s k<=10000:=by
  have h1:vx s k*vx s k=((vx s k).natAbs*(vx s k).natAbs:Nat):=by rw[wE]
  have h2:(vx s k).natAbs*(vx s k).natAbs<=100*100:=yF (by omega) (by omega);omega
 have y2:0<=vy s k*vy s k/\vy s k*vy s k<=10000:=by
  have h1:vy s k*vy s k=((vy s k).natAbs*(vy s k).natAbs:Nat):=by rw[wE]
  have h2:(vy s k).natAbs*(vy s k).natAbs<=100*100:=yF (by omega) (by omega);omega
 have w1:=ah (n:=vx s k*vx s k);have w2:=ah (n:=vy s k*vy s k);have w3:=ah (n:=vx s k*vx s k+vy s k*vy s k);have k2:=Ed (vx s k*vx s k+vy s k*vy s k) (by omega) (by omega);have k3:fn Tryz.prog aU bU 230 [.tp (cQ q) 0,.tp (cQ q) 0]=some (pQ (FZ (some q) (some q))):=ar' (a:=some q) (b:=some q) (fun z E=>by cases E;exact S.mono (by decide)) (fun z E=>by cases E;exact S.mono (by decide));have Y:fn Tryz.prog aU bU 230 [pQ (FZ (some q) (some q)),.tp (cQ ((vx s k*vx s k+vy s k*vy s k:Int):Rat)) 0]=some (pQ (sqQ s q k)) :=
  ar' (b:=some ((vx s k*vx s k+vy s k*vy s k:Int):Rat)) (fun z E=>(KE z E).mono (by decide)) (fun z E=>by cases E;exact(mO (by omega)).mono (by decide))
 have st1:∀σ d,strip σ d (pQ (FZ (some q) (some q)))=some (pQ (FZ (some q) (some q)),[]):=fun σ d=>by
  cases FZ (some q) (some q)with
  |none=>unfold pQ;rw[cO]
  |some z=>unfold pQ;rw[CG]
 have e1:(((vx s k*vx s k+vy s k*vy s k:Int):Rat))=((vx s k*vx s k+vy s k*vy s k:Int):Rat):=rfl;obtain⟨m1,a0⟩:∃m1,m1=pQ (FZ (some q) (some q)):=⟨_,rfl⟩;rw[<- a0]at k3 Y st1;obtain⟨m2,a1⟩:∃m2,m2=cQ ((vx s k*vx s k+vy s k*vy s k:Int):Rat):=⟨_,rfl⟩;rw[<- a1]at k2 Y;rw[aH,ak [.tmp 6] [] Tryz.func196];simp only[go_sem,k1,g1,g2,g4,J,O,G,w1,w2,w3,k2,k3,Y,st1];exact Nr _ _
def EW(s:Structure)(qs:List Rat):List (Option Rat):=(List.range qs.length).map fun k=>sqQ s (qs.getD k 0) k
theorem uT(s:Structure)(qs:List Rat):(EW s qs).length=qs.length:=by simp[EW]
theorem abd(s:Structure)(qs:List Rat) {k:Nat}(h:k<qs.length):(EW s qs)[k]'(by rw[uT];exact h)=sqQ s qs[k] k:=by
 simp[EW,zx,zy h]
def Hl(O:List (Option Rat)):V:=match iK O with
 |some xs=> .dS [LL cF xs,Bo true]
 |none=> .dS [.ts [] 0,Bo false]
def Ho(xs:List Rat)(n:Nat):List V:=xs.flatMap cF++rep (n-xs.length) [V.sc (.pointer none)]
theorem WU(xs:List Rat) {n:Nat}(h:xs.length<=n):(Ho xs n).length=n:=by
 unfold Ho;rw[zo,iV,jv];simp;omega
theorem ag4(xs:List Rat) {n:Nat}(h:xs.length<n)(q:Rat):(Ho xs n).set xs.length (.tp (cQ q) 0)=Ho (xs++[q]) n:=by
 unfold Ho;rw[yD _ _ (by rw[iV];exact zq _),iV,yQ,zo,yL,show n-xs.length=n - (xs.length+1)+1 by omega,rep_succ,zT,zB];rfl
theorem ag5(xs:List Rat) {n:Nat}(q:Rat):(Ho (xs++[q]) n)[xs.length]?=some (.tp (cQ q) 0):=by
 unfold Ho;rw[zV (by rw[iV];simp),I5 _ (by simp)];simp
theorem Oy {s:Structure}(h:dF s)(ho:okStructure s) {qs:List Rat}(hl:qs.length=s.members.length)(hL:∀q∈qs,Ln 24 q) :
  fn Tryz.prog aU bU 167 [.tp (cStructure s) 0,LL cQ qs]=some (Hl (EW s qs)):=by
 have a3:=h.2.1;have k1:=ZR h ho hl hL;have m1:(0:Int)<=(qs.length:Int):=by omega
 have m2:8*(qs.length:Int)<=281474976710656:=by omega
 have m3:(qs.length:Int)<=9223372036854775807:=by omega
 rw[aH,ak [.tmp 4,.tmp 5] [] Tryz.func167];simp only[go_sem,k1,m1,m2,m3];generalize a1:aF _ _=y;obtain⟨x,rfl,hx⟩:=aB a1 qs.length (fun k st=>st.T 0= .tp (cStructure s) 0/\st.T 6=LL cF qs/\st.T 8= .rs 0 0 qs.length/\st.T 22=I qs.length/\st.T 23=I k/\0<st.nx/\∃xs,iK ((EW s qs).take k)=some xs/\st.σ 0=some ⟨Ho xs qs.length,1,true⟩)
  (fun x=>∃T σ nx,(x=(.exit 0,⟨T,σ,nx⟩)/\T 8= .rs 0 0 qs.length/\∃xs,iK (EW s qs)=some xs/\σ 0=some ⟨Ho xs qs.length,1,true⟩)\/(x=(.ret,⟨T,σ,nx⟩)/\T 4= .nil/\T 5=Bo false/\iK (EW s qs)=none)) (by
   clear a1;rintro k ⟨T,σ,nx⟩ hk ⟨t0,t6,O,G,J,S,xs,E,s0⟩;simp only at t0 t6 O G J S s0;have g1:(k:Int)<(qs.length:Int):=by omega
   have g2:=aI k;have g3:=ah (n:=(k:Int)+1);have a2:k<(EW s qs).length:=by rw[uT];exact hk
   have Y:xs.length=k:=by rw[oh E,zh];omega
   have a0:(EW s qs).take (k+1)=(EW s qs).take k++[sqQ s qs[k] k]:=by rw[take_snoc a2,abd s qs hk]
   have k2:=SQ h.sg hl hL hk;have p1:=WU xs (n:=qs.length) (by omega);have g5:k+1<=qs.length:=hk;cases hv:sqQ s qs[k] k with
   |none=>
    rw[hv]at k2 a0;have k2:fn Tryz.prog aU bU 196 [.tp (cStructure s) 0,LL cF qs,I k]=some (.sc (.pointer none)):=k2;have p3:((Ho xs qs.length).set k (V.sc (.pointer none)))[k]?=some (V.sc (.pointer none)):=by
     rw[List.getElem?_set_self (by omega)]
    have p4:((Ho xs qs.length).set k (V.sc (.pointer none))).length=qs.length:=by rw[yG];exact p1
    refine .inr ⟨_,by simp only[go_sem,t0,t6,O,G,J,s0,g1,g2,g5,hk,k2,p1,p3,p4];rfl,by simp,_,_,_,.inr ⟨rfl,?_⟩⟩;simp only[go_sem];have:EW s qs=(EW s qs).take (k+1)++(EW s qs).drop (k+1):=(wP _ _).symm;rw[this,a0];refine Ew ?_;rw[oW,E];rfl
   |some z=>
    rw[hv]at k2 a0;have k2:fn Tryz.prog aU bU 196 [.tp (cStructure s) 0,LL cF qs,I k]=some (.tp (cQ z) 0):=k2;have p2:=ag4 xs (n:=qs.length) (by omega) z;have p3:=ag5 xs (n:=qs.length) z;have p4:=WU (xs++[z]) (n:=qs.length) (by simp;omega);rw[Y]at p2 p3;refine .inl ⟨_,by simp only[go_sem,t0,t6,O,G,J,s0,g1,g2,g3,g5,hk,k2,p1,p2,p3,p4];rfl,?_⟩;simp only[go_sem,t0,t6,O,G];refine⟨rfl,S,xs++[z],?_,rfl⟩;rw[a0,oW,E];rfl) (by
   rintro ⟨T,σ,nx⟩ ⟨t0,t6,O,G,J,S,xs,E,s0⟩;simp only at t0 t6 O G J S s0;have g1:¬(qs.length:Int)<(qs.length:Int):=by omega
   refine⟨_,by simp only[go_sem,G,J,g1];rfl,by simp,_,_,_,.inl ⟨rfl,?_⟩⟩;simp only[go_sem,O];rw[<- uT s qs,yg]at E;exact⟨xs,E,s0⟩) (by
   simp only[go_sem];refine⟨[],rfl,?_⟩;unfold Ho;rfl)
 rcases hx with ⟨T,σ,nx,⟨rfl,O,xs,E,s0⟩|⟨rfl,t4,t5,E⟩⟩
 .have Y:xs.length=qs.length:=by rw[oh E,uT]
  have e1:Ho xs qs.length=xs.flatMap cF:=by unfold Ho;rw[Y,yQ];exact zM _
  rw[e1]at s0;have u1:qs.length<=(xs.flatMap cF).length:=by rw[iV];omega
  have u2:(xs.flatMap cF).take qs.length=xs.flatMap cF:=zk (by rw[iV];omega);have u3:=He σ 4 xs;unfold Hl;rw[E];simp only[go_sem,O,s0,u1,u2,u3];show some (V.dS [V.ts _ qs.length,_])=some (V.dS [V.ts _ xs.length,_]);rw[Y]
 .unfold Hl
  rw[E];simp only[go_sem,t4,t5]
theorem asl(x y:Rat)(E:Ln 100 x)(G:Ln 100 y):fn Tryz.prog conv ext 168 [.tp (cQ x) 0,.tp (cQ y) 0]=some (I (dB (x.num*y.den) (y.num*x.den))):=by
 have Y:=ET E G;have n2:=ET G E;have J:=GI x y.den (by have:=E.1;omega) (by have:=G.2;omega);have O:=GI y x.den (by have:=G.1;omega) (by have:=E.2;omega);have S:=O6 (x.num*y.den) (y.num*x.den) (by omega) (by omega);unfold cQ at *;unfold cZ at *;rw[aH,ak [.tmp 4] [] Tryz.func168];simp only[go_sem,J,O,S]
def WV(x:Rat)(w:Int):Bool:=decide (0<dB (x.num*((w*w:Int):Rat).den) (((w*w:Int):Rat).num*x.den))
theorem Nv:∀ {l:List (Option Rat)} {xs:List Rat},iK l=some xs->∀x∈xs,some x∈l
 |[],xs,h,x,E=>by cases h;cases E
 |none :: l,_,h,_,_=>by cases h
 |some q :: l,xs,h,x,E=>by
  cases e:iK l with
  |none=>rw[show iK (some q :: l)=(iK l).map (q :: ·)from rfl,e]at h;cases h
  |some rs=>
   rw[show iK (some q :: l)=(iK l).map (q :: ·)from rfl,e]at h;cases h;rcases List.mem_cons.mp E with rfl|E
   .exact zN
   .exact zY _ (Nv e x E)
theorem ag6 {s:Structure} {qs xs:List Rat}(h:iK (EW s qs)=some xs):∀x∈xs,Ln 24 x:=fun x E=>by
 have:=Nv h x E;unfold EW at this;obtain⟨k,-,e⟩:=List.mem_map.mp this;exact KE x e
def ou(xs:List Rat)(w:List Int)(k:Nat):Bool:=WV (xs.getD k 0) (w.getD k 0)
def overR(O:List (Option Rat))(w:List Int):V:=match iK O with
 |some xs=> .dS [LI (pO (ou xs w) xs.length),Bo true]
 |none=> .dS [.ts [] 0,Bo false]
theorem WW {s:Structure}(h:dF s)(ho:okStructure s) {qs:List Rat}(hl:qs.length=s.members.length)(hL:∀q∈qs,Ln 24 q) {w:List Int}(hw:gy s.members.length w) :
  fn Tryz.prog aU bU 136 [.tp (cStructure s) 0,LL cQ qs,LI w]=some (overR (EW s qs) w):=by
 have a7:=h.2.1;have k1:=Oy h ho hl hL;have k2:=Ju (cStructure s) 0 s.members w rfl (by rw[hw.1];unfold maxLen;omega);rw[dZ hw]at k2;unfold Hl at k1;unfold overR;rw[aH,ak [.tmp 6,.tmp 7] [] Tryz.func136];cases hq:iK (EW s qs)with
 |none=>
  rw[hq]at k1;simp only[go_sem,k1]
 |some xs=>
  rw[hq]at k1;simp only[go_sem,k1,k2];have a8:xs.length=s.members.length:=by rw[oh hq,uT,hl]
  generalize a0:aF _ _=y;obtain⟨x,rfl,T,σ,nx,rfl,Y⟩:=aB a0 xs.length (fun k st=>st.T 2=LI w/\st.T 27=LL cF xs/\st.T 28=I xs.length/\st.T 29=I k/\Grow st.T st.σ st.nx 10 (pO (ou xs w) k))
   (fun x=>∃T σ nx,x=(.exit 0,⟨T,σ,nx⟩)/\Grow T σ nx 10 (pO (ou xs w) xs.length)) (by
    clear a0;rintro k ⟨T,σ,nx⟩ hk ⟨t2,G,E,O,Y⟩;simp only at t2 G E O Y;have g1:(k:Int)<(xs.length:Int):=by omega
    have g2:=aI k;have g3:=ah (n:=(k:Int)+1);have g4:=I5 xs hk;have g9:(xs.flatMap cF).length=xs.length:=iV xs;have a4:xs.flatMap cF≠[]:=fun e=>by rw[e]at g9;have:xs.length=0:=g9.symm;omega
    have S:k<w.length:=by rw[hw.1];omega
    have a5:=jg (hw.2 _ (zu S));have a1:=idx (xs:=w) (k:=k) S;have a2:=fB w k S;have a3:(k:Int)<(w.length:Int):=by omega
    have hx:=ag6 hq _ (zu hk);have J:ou xs w k=WV xs[k] w[k]:=by
     unfold ou;rw[zx,zy hk,zx,zy S];rfl
    obtain⟨x,ex⟩:∃x,x=xs[k]:=⟨_,rfl⟩;obtain⟨v,ev⟩:∃v,v=w[k]:=⟨_,rfl⟩;rw[<- ex,<- ev]at J;rw[<- ex]at g4 hx;rw[<- ev]at a1 a5;have v2:0<=v*v/\v*v<=1000000:=by
     have h1:v*v=(v.natAbs*v.natAbs:Nat):=by rw[wE]
     have h2:v.natAbs*v.natAbs<=1000*1000:=yF (by omega) (by omega);omega
    have w1:=ah (n:=v*v);have k3:=Ed (v*v) (by omega) (by omega);have k4:=asl x ((v*v:Int):Rat) (hx.mono (by decide)) ((mO (by omega)).mono (by decide));have hle:=ru (ou xs w) k;unfold WV at J;obtain⟨m2,a6⟩:∃m2,m2=cQ ((v*v:Int):Rat):=⟨_,rfl⟩;obtain⟨z,ez⟩:∃z,z=dB (x.num*((v*v:Int):Rat).den) (((v*v:Int):Rat).num*x.den):=⟨_,rfl⟩;rw[<- a6]at k3 k4;rw[<- ez]at k4 J
    by_cases hz:0<z
    .rw[vw hz]at J
     obtain⟨σ',ha,hs⟩:=fG Y (k:Int) (by omega);refine .inl ⟨_,by simp only[go_sem,t2,G,E,O,g1,g2,g3,g4,g9,a4,hk,S,a1,a2,a3,w1,k3,k4,hz,ha];rfl,?_⟩;simp only[go_sem,t2,G,E];rw[A_ J];exact⟨rfl,fH hs (by simp[go_sem]) (by simp)⟩
    .rw[vk hz]at J
     refine .inl ⟨_,by simp only[go_sem,t2,G,E,O,g1,g2,g3,g4,g9,a4,hk,S,a1,a2,a3,w1,k3,k4,hz];rfl,?_⟩;simp only[go_sem,t2,G,E];rw[FP J];exact⟨rfl,dM (T:=T) (by simp only[go_sem]) Y⟩) (by
    rintro ⟨T,σ,nx⟩ ⟨t2,G,E,O,Y⟩;simp only at t2 G E O Y;exact⟨_,by simp only[go_sem,E,O,zl];rfl,by simp,_,_,_,rfl,dM (T:=T) (by simp only[go_sem]) Y⟩) (by
    simp only[go_sem];exact .inl ⟨by simp only[go_sem],rfl⟩)
  obtain⟨ids,hs⟩:=iP Y 5;simp only[go_sem,hs]
def pV(s:Structure)(qs:List Rat)(w:List Int):Bool:=match iK (EW s qs)with
 |some xs=>decide ((pO (ou xs w) xs.length).length=0)
 |none=>false
theorem PV {s:Structure}(h:dF s)(O:okStructure s) {qs:List Rat}(S:qs.length=s.members.length)(Y:∀q∈qs,Ln 24 q) {w:List Int}(hw:gy s.members.length w) :
  fn Tryz.prog aU bU 111 [.agg (cStructure s),LL cQ qs,LI w]=some (Bo (pV s qs w)):=by
 have E:=WW h O S Y hw;unfold overR at E;unfold pV;rw[aH,ak [.tmp 6] [] Tryz.func111];cases J:iK (EW s qs)with
 |none=>
  rw[J]at E;simp only[go_sem,E]
 |some xs=>
  rw[J]at E
  by_cases G:(pO (ou xs w) xs.length).length=0
  .have e:(((pO (ou xs w) xs.length).length:Int)==0)=true:=by rw[G];rfl
   simp only[go_sem,E,e,vw G]
  .have e:(((pO (ou xs w) xs.length).length:Int)==0)=false:=by rw[w_];omega
   simp only[go_sem,E,e,vk G]
def ag7(s:Structure)(l w:List Int)(r:V):Prop :=
 (∃qs,qs.length=s.members.length/\(∀q∈qs,Ln 24 q)/\WS s l (.dS [LL cQ qs,Bo true])/\pV s qs w=true/\r= .dS [LL cQ qs,Bo true]) \/
 (r=TI/\(WS s l TI\/∃qs,qs.length=s.members.length/\(∀q∈qs,Ln 24 q)/\WS s l (.dS [LL cQ qs,Bo true])/\pV s qs w=false))
theorem Nw {s:Structure}(h:dF s)(ho:okStructure s) {l w:List Int}(hl:dJ s.joints.length l)(hw:gy s.members.length w) :
  ∃r,fn Tryz.prog aU bU 82 [.agg (cStructure s),LI l,LI w]=some r/\ag7 s l w r:=by
 have XF:=h.1;obtain⟨r,O,hr⟩:=Hg ho (l:=l) (by rw[hl.1];unfold maxLen;omega);have no:r=TI->∃r,fn Tryz.prog aU bU 82 [.agg (cStructure s),LI l,LI w]=some r/\ag7 s l w r:=fun e=>by
  subst e;have a0:fn Tryz.prog aU bU 110 [.agg (cStructure s),LI l]=some (.dS [.ts [] 0,Bo false]):=O;refine⟨TI,?_,.inr ⟨rfl,.inl hr⟩⟩;unfold TI;rw[aH,ak [.tmp 6,.tmp 7] [] Tryz.func82];simp only[go_sem,a0]
 rcases hr with ⟨_,e⟩|⟨h1,h2,⟨e,_⟩|⟨x,hb,hx,e⟩⟩
 .exact no e
 .exact no e
 .cases S:iK (BI (cols s s.members.length) ((List.range (lW s)).map x) s.members.length (lW s))with
  |none=>exact no (by rw[e];unfold jW;rw[S];rfl)
  |some qs=>
   have e2:r= .dS [LL cQ qs,Bo true]:=by rw[e];unfold jW;rw[S]
   have G:qs.length=s.members.length:=by rw[oh S,uQ]
   have J:∀q∈qs,Ln 24 q:=fun q hm=>SN (fun y hy=>by
    obtain⟨j,hj,rfl⟩:=List.mem_map.mp hy;exact hx j (List.mem_range.mp hj)) _ _ (Nv S q hm) q rfl
   have hD:WS s l (.dS [LL cQ qs,Bo true]):=by
    rw[<- e2];exact .inr ⟨h1,h2,.inr ⟨x,hb,hx,e⟩⟩
   rw[e2]at O;have Y:=PV h ho G J hw;cases E:pV s qs w with
   |true=>
    rw[E]at Y;refine⟨.dS [LL cQ qs,Bo true],?_,.inl ⟨qs,G,J,hD,E,rfl⟩⟩;rw[aH,ak [.tmp 6,.tmp 7] [] Tryz.func82];simp only[go_sem,O,Y]
   |false=>
    rw[E]at Y;refine⟨TI,?_,.inr ⟨rfl,.inr ⟨qs,G,J,hD,E⟩⟩⟩;unfold TI;rw[aH,ak [.tmp 6,.tmp 7] [] Tryz.func82];simp only[go_sem,O,Y]
theorem aky {s:Structure}(h:dF s)(J:okStructure s) {l w:List Int}(O:dJ s.joints.length l)(hw:gy s.members.length w) :
  ∃b r,fn Tryz.prog aU bU 43 [.agg (cStructure s),LI l,LI w]=some (Bo b)/\ag7 s l w r/\(b=true↔r≠TI):=by
 obtain⟨r,E,S⟩:=Nw h J O hw;rcases S with ⟨qs,G,Y,a3,a4,rfl⟩|⟨rfl,G⟩
 .refine⟨true,_,?_,.inl ⟨qs,G,Y,a3,a4,rfl⟩,⟨fun _ e=>?_,fun _=>rfl⟩⟩
  .rw[aH,ak [.tmp 6] [] Tryz.func43]
   simp only[go_sem,E]
  .unfold TI at e
   injection e with e
   injection e with _ e
   injection e with e _
   cases e
 .refine⟨false,_,?_,.inr ⟨rfl,G⟩,⟨fun e=>by(cases e),fun e=>absurd rfl e⟩⟩
  unfold TI at E;rw[aH,ak [.tmp 6] [] Tryz.func43];simp only[go_sem,E]
theorem Fv {f:V->Option (V×List Nat)}:∀ {a b E G:List V} {J O:List Nat},stripL f a=some (E,J)->stripL f b=some (G,O)->stripL f (a++b)=some (E++G,J++O)
 |[],b,E,G,J,O,h1,h2=>by
  rw[bQ]at h1;cases h1;exact h2
 |v :: a,b,E,G,J,O,h1,h2=>by
  rw[aO]at h1;cases S:f v with
  |none=>rw[S]at h1;cases h1
  |some p=>
   cases Y:stripL f a with
   |none=>rw[S,Y]at h1;cases h1
   |some q=>
    rw[S,Y]at h1;have ih:=Fv Y h2;rw[yT,aO,S,ih];simp only[zi,zJ,wC,wB]at h1⊢;obtain⟨rfl,rfl⟩:=h1;exact⟨rfl,by rw[zB]⟩
theorem Aj {σ:Store} {nx size bytes b len m:Nat} {cells row:List V}(hb:σ b=some ⟨cells,size,true⟩)(O:len*size=cells.length)(hs:0<size)(hm:m≠0)(E:len+m<=maxLen)(G:(len+m)*bytes<=140737488355328)(J:row.all aT=true) :
  bT σ nx size bytes (.rs b 0 len) row m=some (.rs nx 0 (len+m),upd (upd σ b none) nx (some ⟨cells++row,size,true⟩),nx+1):=by
 rw[bK,hb];simp only[zi];have S:size<=m*size:=Nat.le_mul_of_pos_left _ (by omega);rw[if_neg hm,if_neg (by rw[Nat.add_mul];omega),if_pos ⟨by omega,trivial,E,G,J⟩];rfl
end Go.Proofs.YtehdaknhabeiaaaGreat
namespace Go.Proofs.YtehdaknhabeiaaaGreat
open Go Go.TV
abbrev anV:List Nat:=[3,4,5,6,7,8,9,13,19,23,28,30,32,34,42,54,65,79,80,93]
abbrev anW:List Nat:=[58,63,17,51,12,40,74,75,18,52,91,92,59,60,24,25]
def fK:FuncId->Conv:=fun f=>if f∈([23,32,28,34,58,93,81,66,108]:List Nat)then .own else if f∈([80,17,51,12,40,74,75,18,52,91,92,59,60,24,25]:List Nat)then .inl else .Ii
noncomputable def jJ:Ext:=fun f=>if f=81 then some (u_)else if f=66 then some (qO 1)else if f=108 then some (qO 4)else if f∈anV then none else if f∈anW then some (fun args σ nx=>ev Tryz.prog aZ fU f args σ nx)else some fun args σ nx=>ev Tryz.prog aU bU f args σ nx
theorem extSOk:Jm Tryz.prog jJ:=fun f g h args σ nx v σ' nx' E=>by
 unfold jJ at h
 by_cases G:f=81
 .subst G
  rw[if_pos rfl]at h;cases h;exact CX args σ nx v σ' nx' E
 have Y:=G
 by_cases J:f=66
 .subst J
  rw[if_neg (by decide),if_pos rfl]at h;cases h;exact SE args σ nx v σ' nx' E
 have a0:=J
 by_cases O:f=108
 .subst O
  rw[if_neg (by decide),if_neg (by decide),if_pos rfl]at h;cases h;exact SH args σ nx v σ' nx' E
 have S:=O;simp only[Y,a0,S,if_false]at h
 split at h
 .cases h
 .split at h
  .cases h
   exact sF (by kernel_rfl) amF f args σ nx v σ' nx' E
  .cases h
   exact sF (by kernel_rfl) am2 f args σ nx v σ' nx' E
theorem fnS {f:FuncId}(h:List.contains ([81,66,108]++anV++anW) f=false)(ts:List V):fn Tryz.prog fK jJ f ts=fn Tryz.prog aU bU f ts:=by
 have hn:¬f∈([81,66,108]++anV++anW:List Nat):=fun e=>by rw[List.contains_iff_mem.mpr e]at h;cases h
 simp only[wS,not_or]at hn;have E:=hn.1.1;simp only[zX,zK,or_false,not_or]at E;rw[aH,aH,iG (g:=fun args σ nx=>ev Tryz.prog aU bU f args σ nx) (by unfold jJ;simp only[E,if_false];rw[if_neg hn.1.2,if_neg hn.2])]
theorem anX(args:List V)(σ:Store)(nx:Nat):ev Tryz.prog fK jJ 58 args σ nx=ev Tryz.prog aZ fU 58 args σ nx:=iG (g:=fun args σ nx=>ev Tryz.prog aZ fU 58 args σ nx) rfl args σ nx
theorem ag8(args:List V)(σ:Store)(nx:Nat):ev Tryz.prog fK jJ 63 args σ nx=ev Tryz.prog aZ fU 63 args σ nx:=iG (g:=fun args σ nx=>ev Tryz.prog aZ fU 63 args σ nx) rfl args σ nx
theorem anY(args:List V)(σ:Store)(nx:Nat):ev Tryz.prog fK jJ 17 args σ nx=ev Tryz.prog aZ fU 17 args σ nx:=iG (g:=fun args σ nx=>ev Tryz.prog aZ fU 17 args σ nx) rfl args σ nx
theorem anZ(args:List V)(σ:Store)(nx:Nat):ev Tryz.prog fK jJ 51 args σ nx=ev Tryz.prog aZ fU 51 args σ nx:=iG (g:=fun args σ nx=>ev Tryz.prog aZ fU 51 args σ nx) rfl args σ nx
theorem an0(args:List V)(σ:Store)(nx:Nat):ev Tryz.prog fK jJ 12 args σ nx=ev Tryz.prog aZ fU 12 args σ nx:=iG (g:=fun args σ nx=>ev Tryz.prog aZ fU 12 args σ nx) rfl args σ nx
theorem an1(args:List V)(σ:Store)(nx:Nat):ev Tryz.prog fK jJ 40 args σ nx=ev Tryz.prog aZ fU 40 args σ nx:=iG (g:=fun args σ nx=>ev Tryz.prog aZ fU 40 args σ nx) rfl args σ nx
theorem an2(args:List V)(σ:Store)(nx:Nat):ev Tryz.prog fK jJ 74 args σ nx=ev Tryz.prog aZ fU 74 args σ nx:=iG (g:=fun args σ nx=>ev Tryz.prog aZ fU 74 args σ nx) rfl args σ nx
theorem an3(args:List V)(σ:Store)(nx:Nat):ev Tryz.prog fK jJ 75 args σ nx=ev Tryz.prog aZ fU 75 args σ nx:=iG (g:=fun args σ nx=>ev Tryz.prog aZ fU 75 args σ nx) rfl args σ nx
theorem an4(args:List V)(σ:Store)(nx:Nat):ev Tryz.prog fK jJ 18 args σ nx=ev Tryz.prog aZ fU 18 args σ nx:=iG (g:=fun args σ nx=>ev Tryz.prog aZ fU 18 args σ nx) rfl args σ nx
theorem an5(args:List V)(σ:Store)(nx:Nat):ev Tryz.prog fK jJ 52 args σ nx=ev Tryz.prog aZ fU 52 args σ nx:=iG (g:=fun args σ nx=>ev Tryz.prog aZ fU 52 args σ nx) rfl args σ nx
theorem an6(args:List V)(σ:Store)(nx:Nat):ev Tryz.prog fK jJ 91 args σ nx=ev Tryz.prog aZ fU 91 args σ nx:=iG (g:=fun args σ nx=>ev Tryz.prog aZ fU 91 args σ nx) rfl args σ nx
theorem an7(args:List V)(σ:Store)(nx:Nat):ev Tryz.prog fK jJ 92 args σ nx=ev Tryz.prog aZ fU 92 args σ nx:=iG (g:=fun args σ nx=>ev Tryz.prog aZ fU 92 args σ nx) rfl args σ nx
theorem an8(args:List V)(σ:Store)(nx:Nat):ev Tryz.prog fK jJ 59 args σ nx=ev Tryz.prog aZ fU 59 args σ nx:=iG (g:=fun args σ nx=>ev Tryz.prog aZ fU 59 args σ nx) rfl args σ nx
theorem an9(args:List V)(σ:Store)(nx:Nat):ev Tryz.prog fK jJ 60 args σ nx=ev Tryz.prog aZ fU 60 args σ nx:=iG (g:=fun args σ nx=>ev Tryz.prog aZ fU 60 args σ nx) rfl args σ nx
theorem an_(args:List V)(σ:Store)(nx:Nat):ev Tryz.prog fK jJ 24 args σ nx=ev Tryz.prog aZ fU 24 args σ nx:=iG (g:=fun args σ nx=>ev Tryz.prog aZ fU 24 args σ nx) rfl args σ nx
theorem an'(args:List V)(σ:Store)(nx:Nat):ev Tryz.prog fK jJ 25 args σ nx=ev Tryz.prog aZ fU 25 args σ nx:=iG (g:=fun args σ nx=>ev Tryz.prog aZ fU 25 args σ nx) rfl args σ nx
theorem aoa(ts:List V):fn Tryz.prog fK jJ 63 ts=fn Tryz.prog aZ fU 63 ts:=by rw[aH,aH,ag8]
theorem aob(args:List V)(σ:Store)(nx:Nat):ev Tryz.prog fK jJ 81 args σ nx=(u_) args σ nx:=iG (g:=(u_)) rfl args σ nx
theorem aoc(args:List V)(σ:Store)(nx:Nat):ev Tryz.prog fK jJ 66 args σ nx=(qO 1) args σ nx:=iG (g:=(qO 1)) rfl args σ nx
theorem akz(args:List V)(σ:Store)(nx:Nat):ev Tryz.prog fK jJ 108 args σ nx=(qO 4) args σ nx:=iG (g:=(qO 4)) rfl args σ nx
abbrev aG(n:Nat):Prop:=∀ts:List V,fn Tryz.prog fK jJ n ts=fn Tryz.prog aU bU n ts
theorem aod:aG 10/\aG 11/\aG 14/\aG 15/\aG 16/\aG 20/\aG 21/\aG 22/\aG 26/\aG 29/\aG 31/\aG 35/\aG 36/\aG 37/\aG 38/\aG 39/\aG 41/\aG 43/\aG 44/\aG 45/\aG 46/\aG 47/\aG 48/\aG 49:=by and_intros<;>exact fnS rfl
theorem aoe:aG 50/\aG 53/\aG 55/\aG 56/\aG 57/\aG 61/\aG 62/\aG 64/\aG 67/\aG 68/\aG 69/\aG 70/\aG 71/\aG 72/\aG 73/\aG 76/\aG 77/\aG 78/\aG 82/\aG 83/\aG 84/\aG 85/\aG 86/\aG 87:=by and_intros<;>exact fnS rfl
theorem aof:aG 88/\aG 89/\aG 90/\aG 94/\aG 95/\aG 96/\aG 97/\aG 98/\aG 99/\aG 100/\aG 101/\aG 102/\aG 103/\aG 104/\aG 105/\aG 106/\aG 107/\aG 109/\aG 110/\aG 111/\aG 112/\aG 113/\aG 114/\aG 115:=by and_intros<;>exact fnS rfl
theorem aog:aG 116/\aG 117/\aG 118/\aG 119/\aG 120/\aG 121/\aG 122/\aG 123/\aG 124/\aG 125/\aG 126/\aG 127/\aG 128/\aG 129/\aG 130/\aG 131/\aG 132/\aG 133/\aG 134/\aG 135/\aG 136/\aG 138/\aG 139/\aG 140:=by and_intros<;>exact fnS rfl
theorem aoh:aG 141/\aG 142/\aG 143/\aG 144/\aG 145/\aG 146/\aG 147/\aG 148/\aG 149/\aG 150/\aG 151/\aG 152/\aG 153/\aG 154/\aG 155/\aG 156/\aG 157/\aG 158/\aG 159/\aG 160/\aG 161/\aG 162/\aG 163/\aG 164:=by and_intros<;>exact fnS rfl
theorem aoi:aG 165/\aG 166/\aG 167/\aG 168/\aG 169/\aG 170/\aG 171/\aG 172/\aG 173/\aG 174/\aG 175/\aG 176/\aG 177/\aG 178/\aG 179/\aG 180/\aG 181/\aG 182/\aG 183/\aG 184/\aG 185/\aG 186/\aG 187/\aG 188:=by and_intros<;>exact fnS rfl
theorem aoj:aG 189/\aG 190/\aG 191/\aG 192/\aG 193/\aG 194/\aG 195/\aG 196/\aG 197/\aG 198/\aG 199/\aG 200/\aG 201/\aG 202/\aG 203/\aG 204/\aG 205/\aG 206/\aG 207/\aG 208/\aG 209/\aG 210/\aG 211/\aG 212:=by and_intros<;>exact fnS rfl
theorem aok:aG 213/\aG 214/\aG 215/\aG 216/\aG 217/\aG 218/\aG 219/\aG 220/\aG 221/\aG 222/\aG 223/\aG 224/\aG 225/\aG 226/\aG 227/\aG 228/\aG 229/\aG 230/\aG 231/\aG 232/\aG 233/\aG 234/\aG 235/\aG 236:=by and_intros<;>exact fnS rfl
theorem aol:aG 237/\aG 238/\aG 239/\aG 240/\aG 241/\aG 242/\aG 243/\aG 244/\aG 245/\aG 246/\aG 247/\aG 248/\aG 249/\aG 250/\aG 251:=by and_intros<;>exact fnS rfl
abbrev aA(n:Nat):Prop:=fK n= .Ii
abbrev jX(n:Nat):Prop:=fK n= .inl
abbrev Bv(n:Nat):Prop:=fK n= .own
theorem aom:aA 3/\aA 4/\aA 5/\aA 7/\aA 10/\aA 11/\jX 12/\aA 13/\aA 14/\aA 15/\aA 16/\jX 17/\jX 18/\aA 19/\aA 20/\aA 21/\aA 22/\Bv 23/\jX 24/\jX 25/\aA 26/\aA 29/\aA 30/\aA 31:=by and_intros<;>exact rfl
theorem aon:Bv 32/\aA 35/\aA 36/\aA 37/\aA 38/\aA 39/\jX 40/\aA 41/\aA 42/\aA 43/\aA 44/\aA 45/\aA 46/\aA 47/\aA 48/\aA 49/\aA 50/\jX 51/\jX 52/\aA 53/\aA 54/\aA 55/\aA 56/\aA 57:=by and_intros<;>exact rfl
theorem aoo:Bv 58/\jX 59/\jX 60/\aA 61/\aA 62/\aA 63/\aA 64/\aA 65/\Bv 66/\aA 67/\aA 68/\aA 69/\aA 70/\aA 71/\aA 72/\aA 73/\jX 74/\jX 75/\aA 76/\aA 77/\aA 78/\aA 79/\jX 80/\Bv 81:=by and_intros<;>exact rfl
theorem aop:aA 82/\aA 83/\aA 84/\aA 85/\aA 86/\aA 87/\aA 88/\aA 89/\aA 90/\jX 91/\jX 92/\Bv 93/\aA 94/\aA 95/\aA 96/\aA 97/\aA 98/\aA 99/\aA 100/\aA 101/\aA 102/\aA 103/\aA 104/\aA 105:=by and_intros<;>exact rfl
theorem aoq:aA 106/\aA 107/\Bv 108/\aA 109/\aA 110/\aA 111/\aA 112/\aA 113/\aA 114/\aA 115/\aA 116/\aA 117/\aA 118/\aA 119/\aA 120/\aA 121/\aA 122/\aA 123/\aA 124/\aA 125/\aA 126/\aA 127/\aA 128/\aA 129:=by and_intros<;>exact rfl
theorem aor:aA 130/\aA 131/\aA 132/\aA 133/\aA 134/\aA 135/\aA 136/\aA 138/\aA 139/\aA 140/\aA 141/\aA 142/\aA 143/\aA 144/\aA 145/\aA 146/\aA 147/\aA 148/\aA 149/\aA 150/\aA 151/\aA 152/\aA 153/\aA 154:=by and_intros<;>exact rfl
theorem aos:aA 155/\aA 156/\aA 157/\aA 158/\aA 159/\aA 160/\aA 161/\aA 162/\aA 163/\aA 164/\aA 165/\aA 166/\aA 167/\aA 168/\aA 169/\aA 170/\aA 171/\aA 172/\aA 173/\aA 174/\aA 175/\aA 176/\aA 177/\aA 178:=by and_intros<;>exact rfl
theorem aot:aA 179/\aA 180/\aA 181/\aA 182/\aA 183/\aA 184/\aA 185/\aA 186/\aA 187/\aA 188/\aA 189/\aA 190/\aA 191/\aA 192/\aA 193/\aA 194/\aA 195/\aA 196/\aA 197/\aA 198/\aA 199/\aA 200/\aA 201/\aA 202:=by and_intros<;>exact rfl
theorem aou:aA 203/\aA 204/\aA 205/\aA 206/\aA 207/\aA 208/\aA 209/\aA 210/\aA 211/\aA 212/\aA 213/\aA 214/\aA 215/\aA 216/\aA 217/\aA 218/\aA 219/\aA 220/\aA 221/\aA 222/\aA 223/\aA 224/\aA 225/\aA 226:=by and_intros<;>exact rfl
theorem aov:aA 227/\aA 228/\aA 229/\aA 230/\aA 231/\aA 232/\aA 233/\aA 234/\aA 235/\aA 236/\aA 237/\aA 238/\aA 239/\aA 240/\aA 241/\aA 242/\aA 243/\aA 244/\aA 245/\aA 246/\aA 247/\aA 248/\aA 249/\aA 250:=by and_intros<;>exact rfl
theorem aow:aA 251:=id rfl
attribute [go_sem] aod aoe aof aog aoh aoi aoj aok aol
attribute [go_sem] aom aon aoo aop aoq aor aos aot aou aov aow
attribute [go_sem] anX ag8 anY anZ an0 an1 an2 an3 an4 an5 an6 an7 an8 an9 an_ an'
attribute [go_sem] aob aoc akz
open Go.Plan
attribute [-go_sem] bK
def axF(a b:Int):Int:=IntKind.u64.wrap ((BitVec.ofInt 64 a &&& BitVec.ofInt 64 b).toNat:Nat)
theorem akA {P:Program} {t:TypeId} {x y:Operand} {a b:Int}:dK P .and t x y (.sc (.int .u64 a)) (.sc (.int .u64 b))=some (.sc (.int .u64 (axF a b))):=by
 simp only[dK,toVal,eqGuard_at_int,binOp_and];rfl
attribute [go_sem] akA
theorem aox(n:Nat)(G:1<=n)(J:n<=6):fn Tryz.prog conv ext 138 [.sc (.int .u64 1),.sc (.int .u64 n)]=some (.dS [.sc (.int .u64 0),.sc (.int .u64 n)]):=by
 have hn:n=1\/n=2\/n=3\/n=4\/n=5\/n=6:=by omega
 have E:¬(32:Int)<0:=by decide
 rcases hn with rfl|rfl|rfl|rfl|rfl|rfl<;>rw[aH,ak [.tmp 4,.tmp 5] [] Tryz.func138]<;>simp only[go_sem,E]<;>rfl
theorem axG(n:Nat)(E:1<=n)(G:n<=6):fn Tryz.prog conv ext 116 [.sc (.int .u64 1),.sc (.int .u64 n)]=some (.dS [.sc (.int .u64 0),.sc (.int .u64 n)]):=by
 have k:=aox n E G;rw[aH,ak [.tmp 4,.tmp 5] [] Tryz.func116];simp only[go_sem,k]
theorem asq(k:IntKind)(n:Int)(σ:Store):gK Tryz.prog 3 139 (.sc (.int k n)) σ=some (.sc (.int .u64 (IntKind.u64.wrap n))):=Lm Tryz.underlying3 Tryz.underlying139
theorem asr(k:IntKind)(n:Int)(σ:Store):gK Tryz.prog 139 3 (.sc (.int k n)) σ=some (.sc (.int .i64 (IntKind.i64.wrap n))):=Lm Tryz.underlying139 Tryz.underlying3
section
variable {P:Program} {conv:FuncId->Conv} {call:TV.Call} (d:Option Tmp) (ty:TypeId) (ps:String) (af:Array Edge) (gd:Option (Nat×Bool)) (T:Nat->V) (σ:Store) (nx:Nat)
theorem adH(s x:Operand)(ts:Array TypeId):bC conv T σ ⟨d,.call ⟨.builtin .copy,#[s,x],ts⟩,ty,ps,af,gd⟩=aW (val T s)++aW (val T x):=by
 show([val T s,val T x].flatMap aW)=_;simp only[zU,wR,zM]
theorem aoy(s x:Operand)(ts:Array TypeId):writer conv ⟨d,.call ⟨.builtin .copy,#[s,x],ts⟩,ty,ps,af,gd⟩=true:=rfl
theorem ag9(s x:Operand)(t u:TypeId):bY P conv call ⟨d,.call ⟨.builtin .copy,#[s,x],#[t,u]⟩,ty,ps,af,gd⟩ T σ nx=
  if((aW (val T s)++aW (val T x)).all fun b=>decide (b<nx))=true then anA (aW (val T s)++aW (val T x)) σ nx (Cb P #[t,u] (val T s) (val T x) (restrict σ (aW (val T s)++aW (val T x))) nx)else none:=by
 rw[lM (F:=aW (val T s)++aW (val T x)) T σ nx (by
  show some ([val T s,val T x].flatMap aW)=_;simp only[zU,wR,zM]) (fun _=>rfl)]
 rfl
end
attribute [go_sem] adH aoy ag9
def qW(n k:Nat):List Int:=List.replicate k (-1)++List.replicate (n-k) 0
theorem PW {n k:Nat}(h:k<=n):(qW n k).length=n:=by simp[qW];omega
theorem ZT {n k m:Nat}(h:k+m<=n)(hm:m<=k)(h0:m≠0):patch ((qW n k).flatMap cI) k ((((qW n k).flatMap cI).take k).take m)=(qW n (k+m)).flatMap cI:=by
 have G:((qW n k).flatMap cI).length=n:=by rw[aS,PW (by omega)]
 have E:((qW n k).flatMap cI).take k=(List.replicate k (-1)).flatMap cI:=by
  rw[pI];congr 1;unfold qW;rw[xO (by simp)]
 have J:((List.replicate k (-1:Int)).flatMap cI).take m=(List.replicate m (-1)).flatMap cI:=by
  rw[pI,List.take_replicate,yC hm]
 have O:∀(j:Nat) (xs:List Int),(xs.flatMap cI).drop j=(xs.drop j).flatMap cI:=fun j=>by
  induction j with
  |zero=>intro xs;rfl
  |succ j S=>
   intro xs;cases xs with
   |nil=>rfl
   |cons y Y=>exact S Y
 rw[E,J,iO _ _ _ (by rw[aS,G];simp;omega),E,aS,z_,O,<- zT,<- zT];congr 1;unfold qW;rw[List.drop_append,xw (by simp),yK,List.drop_replicate,z_,wH];congr 2;omega
theorem ag_(n:Nat)(S:1<=n)(h6:n<=6)(nx:Nat):∃O G,ev Tryz.prog fK jJ 93 [.ts [I (-1)] 1,I n] aK nx=some (.rs nx 0 n,O,G)/\nx<G/\O nx=some ⟨(List.replicate n (-1)).flatMap cI,1,true⟩:=by
 have c1:¬(n:Int)<0:=by omega
 have k:=axG n S h6;have w1:=wrap_u64 (n:=(n:Int)) (by omega) (by omega);have w2:=wrap_u64 (n:=1) (by omega) (by omega);have w3:=ah (n:=(n:Int));have c2:¬(0:Int)<0:=by decide
 have c3:¬(9223372036854775807:Int)<(n:Int):=by omega
 have m1:=aI n;have m2:8*(n:Int)<=281474976710656:=by omega
 have m3:(n:Int)<=9223372036854775807:=by omega
 have m4:min 1 n=1:=by omega
 have m5:¬(1:Nat)=0:=by decide
 have r1:((rep n [V.sc (.int .i64 0)])).length=n:=by rw[jv];simp
 have r2:patch (rep n [V.sc (.int .i64 0)]) 0 [I (-1)]=(qW n 1).flatMap cI:=by
  have hn:n=1\/n=2\/n=3\/n=4\/n=5\/n=6:=by omega
  rcases hn with rfl|rfl|rfl|rfl|rfl|rfl<;>rfl
 have m6:1<=n:=S;rw[ak [.tmp 4] [9] Tryz.func93];simp only[go_sem,c1,c2,c3,w1,w2,w3,k,m1,m2,m3,asq,asr,r1,m4,m5,m6,Fp,r2];generalize hL:aF _ _=y;obtain⟨x,rfl,T,σ,G,rfl,E,J,hs⟩:=bJ hL (fun m st=>∃k,1<=k/\k<=n/\m+k=n/\nx<st.nx/\st.T 7= .rs nx 0 n/\st.T 8=I k/\st.σ nx=some ⟨(qW n k).flatMap cI,1,true⟩)
  (fun x=>∃T σ G,x=(.exit 0,⟨T,σ,G⟩)/\nx<G/\T 7= .rs nx 0 n/\σ nx=some ⟨(qW n n).flatMap cI,1,true⟩) (by
   clear hL;rintro m ⟨T,σ,G⟩ ⟨k,k1,k2,k3,E,J,Y,hs⟩;simp only at E J Y hs;have hlen:((qW n k).flatMap cI).length=n:=by rw[aS,PW k2]
   by_cases hk:k<n
   .have g1:(k:Int)<(n:Int):=by omega
    have g2:=aI k;have g3:¬k=0:=by omega
    have g4:¬k=n:=by omega
    have g5:k<=n:=k2;obtain⟨q,hq⟩:∃q,q=min k (n-k):=⟨_,rfl⟩;have g6:¬q=0:=by omega
    have g7:k+q<=n:=by omega
    have g8:(((qW n k).flatMap cI).take k).take q=(List.replicate q (-1)).flatMap cI:=by
     rw[pI,pI];congr 1;unfold qW;rw[xO (by simp),List.take_replicate,yC (by omega)]
    have g9:=ZT (n:=n) (k:=k) (m:=q) (by omega) (by omega) g6;have a0:((List.replicate q (-1)).flatMap cI).all aT=true:=qj _;have w4:=ah (n:=(k:Int)+(q:Int));rw[g8]at g9;refine .inl ⟨_,by simp only[go_sem,J,Y,hs,g1,g2,g3,g4,g5,hlen,E,<- hq,g6,g7,g8,g9,a0,w4,Fp];rfl,m-q,by omega,k+q,by omega,by omega,by omega,?_⟩;simp only[go_sem,J];exact⟨E,rfl⟩
   .have:k=n:=by omega
    subst this;refine .inr ⟨_,by simp only[go_sem,J,Y,zl];rfl,by simp,_,_,_,rfl,E,?_,hs⟩;simp only[go_sem,J]) (n-1) (by
   simp only[go_sem];exact⟨1,zq _,S,by omega,by omega,rfl,rfl⟩)
 simp only[go_sem,J];refine⟨_,_,rfl,E,?_⟩;rw[hs];unfold qW;rw[yQ];simp
def qP(y:Yard)(i k:Nat):Bool:=dH y.moves (i:Int) k
def qX(al:List Bool)(i:Nat):Bool:=al.getD i false
theorem F5 {al:List Bool} {i:Nat}(h:qX al i=true):i<al.length:=by
 unfold qX at h;rw[zx]at h
 by_cases hi:i<al.length
 .exact hi
 .rw[yc (by omega)]at h;cases h
theorem uU {al:List Bool} {i:Nat}(h:i<al.length):qX al i=al[i]:=by
 unfold qX;rw[zx,zy h];rfl
def gq(n:Nat)(out:Nat->Int):List Int:=(List.range n).map out
theorem oz(n:Nat)(out:Nat->Int):(gq n out).length=n:=by simp[gq]
theorem Bz {n:Nat}(out:Nat->Int) {a:Nat}(h:a<n):((gq n out).flatMap cI)[a]?=some (I (out a)):=by
 rw[idx (xs:=gq n out) (k:=a) (by rw[oz];exact h)];simp[gq]
theorem Hq {n:Nat}(out:Nat->Int)(a:Nat)(v:Int):((gq n out).flatMap cI).set a (I v)=(gq n (put out a v)).flatMap cI:=by
 have e:∀(l:List Int) (k:Nat),(l.flatMap cI).set k (I v)=(l.set k v).flatMap cI:=fun l=>by
  induction l with
  |nil=>intro k;rfl
  |cons x l E=>
   intro k;cases k with
   |zero=>rfl
   |succ k=>
    show I x :: (l.flatMap cI).set k (I v)=_;rw[E];rfl
 rw[e];congr 1;refine yR (by simp[gq]) fun i G J=>?_
 rw[wJ];simp only[gq,xq,List.getElem_range,put]
 by_cases c:a=i
 .subst c;simp
 .rw[if_neg c,if_neg (fun e=>c e.symm)]
def lF(T:Nat->V)(σ:Store)(nx t E:Nat)(l:List Int):Prop:=∃(b off:Nat) (cells:List Int),T t= .rs b off l.length/\σ b=some ⟨cells.flatMap cI,1,true⟩/\off+l.length=cells.length/\cells.drop off=l/\b<nx/\b≠E
theorem SS {T:Nat->V} {σ:Store} {nx t G:Nat} {l:List Int}(h:lF T σ nx t G l)(hb:G<nx)(x:Int)(hl:l.length<100000) :
  ∃σ',bT (upd σ nx (some ⟨[I x],1,true⟩)) (nx+1) 1 8 (T t) [I x] 1=some (.rs (nx+1) 0 (l.length+1),σ',nx+1+1)/\σ' (nx+1)=some ⟨(l++[x]).flatMap cI,1,true⟩/\σ' G=σ G:=by
 obtain⟨b,off,cells,J,O,h3,S,h5,Y⟩:=h;have hm:l.length+1<=maxLen:=by unfold maxLen;omega
 have E:(cells.flatMap cI).length=cells.length:=aS cells;refine⟨upd (upd (upd σ nx (some ⟨[I x],1,true⟩)) b none) (nx+1) (some ⟨(cells.flatMap cI).drop off++[I x],1,true⟩),?_,?_,?_⟩
 .rw[J,bK,ay,O]
  simp only[zi];rw[if_neg (by decide),if_neg (by rw[E];omega),if_pos ⟨by rw[E];omega,trivial,hm,by omega,rfl⟩]
 .rw[upd_same]
  have:(cells.flatMap cI).drop off=l.flatMap cI:=by
   rw[<- S];have e:∀(k:Nat) (xs:List Int),(xs.flatMap cI).drop k=(xs.drop k).flatMap cI:=fun k=>by
    induction k with
    |zero=>intro xs;rfl
    |succ k ih=>
     intro xs;cases xs with
     |nil=>rfl
     |cons y ys=>exact ih ys
   exact e _ _
  rw[this,zT];rfl
 .rw[ay,upd_ne _ _ (fun e=>Y e.symm),ay]
theorem PX {T:Nat->V} {σ:Store} {nx t E b:Nat} {l:List Int}(G:T t= .rs b 0 l.length)(J:σ b=some ⟨l.flatMap cI,1,true⟩)(O:b<nx)(S:b≠E):lF T σ nx t E l:=⟨b,0,l,G,J,by omega,rfl,O,S⟩
theorem Dy {T T':Nat->V} {σ:Store} {nx nx' t E:Nat} {l:List Int}(h:lF T σ nx t E l)(G:T' t=T t)(hn:nx<=nx'):lF T' σ nx' t E l:=by
 obtain⟨b,off,cells,J,O,S,Y,h5,h6⟩:=h;exact⟨b,off,cells,by rw[G,J],O,S,Y,by omega,h6⟩
theorem adI {T:Nat->V} {σ:Store} {nx t E:Nat} {l:List Int}(h:lF T σ nx t E l)(x:Option Aw):lF T (upd σ E x) nx t E l:=by
 obtain⟨b,off,cells,J,O,S,Y,h5,G⟩:=h;exact⟨b,off,cells,J,by rw[upd_ne _ _ G];exact O,S,Y,h5,G⟩
theorem WX {T:Nat->V} {σ:Store} {nx t E:Nat} {l:List Int}(h:lF T σ nx t E l)(x:Option Aw):lF T (upd σ nx x) (nx+1) t E l:=by
 obtain⟨b,off,cells,G,J,O,S,h5,Y⟩:=h;exact⟨b,off,cells,G,by rw[ay];exact J,O,S,by omega,Y⟩
theorem Ny {cells:List Int} {off:Nat} {x:Int} {l:List Int}(h:cells.drop off=x :: l):(cells.flatMap cI)[off]?=some (I x):=by
 have E:off<cells.length:=by
  refine zf fun hn=>?_
  rw[xw (by omega)]at h;cases h
 rw[idx (xs:=cells) (k:=off) E];rw[yU E]at h;injection h with h _
 rw[h]
theorem ZU {cells:List Int} {off:Nat} {x:Int} {l:List Int}(h:cells.drop off=x :: l):cells.drop (off+1)=l:=by
 rw[<- List.drop_drop,h];rfl
def fC(l:List Nat):List Int:=l.map fun(i:Nat)=>(i:Int)
theorem abe {y:Yard}(E:dw y) {j:Nat}(G:j<y.moves.length):∃a c:Nat,y.moves[j]=⟨(a:Int),(c:Int)⟩/\a<y.stances.length/\c<y.stances.length:=by
 obtain⟨_,_,_,hm⟩:=E;obtain⟨J,S,O,Y,_⟩:=(hm j G).1;refine⟨y.moves[j].fr.toNat,y.moves[j].to.toNat,?_,by omega,by omega⟩;rw[Int.toNat_of_nonneg J,Int.toNat_of_nonneg O]
theorem KF(y:Yard)(i k:Nat):qP y i k=true↔∃j,∃h:j<y.moves.length,y.moves[j]=⟨(i:Int),(k:Int)⟩:=by
 unfold qP dH;rw[List.any_eq_true];constructor
 .rintro ⟨m,hm,hp⟩
  obtain⟨j,E,rfl⟩:=yV hm;rw[yh,beq_iff_eq,beq_iff_eq]at hp;refine⟨j,E,?_⟩;rw[<- hp.1,<- hp.2]
 .rintro ⟨j,E,e⟩
  exact⟨_,zu E,by rw[e];simp⟩
noncomputable def SV(y:Yard)(al:List Bool)(to:Int)(i:Nat):Int:=if 0<=to/\to<(y.stances.length:Int)then dst (qP y) (qX al) to.toNat i else -1
theorem ZV {y:Yard} {al:List Bool} {to:Int}(h:¬(0<=to/\to<(y.stances.length:Int)/\qX al to.toNat=true))(i:Nat):SV y al to i= -1:=by
 unfold SV
 split
 .rename_i c
  refine WE fun k E=>h ⟨c.1,c.2,E.lst⟩
 .rfl
theorem BA {n:Nat} {f g:Nat->Int}(h:∀i,i<n->f i=g i):gq n f=gq n g:=xP fun i hi=>h i (by simpa using hi)
theorem Nz(n:Nat)(v:Int):gq n (fun _=>v)=List.replicate n v:=by
 unfold gq;refine yR (by simp) fun i E G=>by simp
theorem f_(l:List Nat):(fC l).length=l.length:=by simp[fC]
theorem Dz(l:List Nat) {p:Nat}(h:p<l.length):fC (l.drop p)=(l[p]:Int) :: fC (l.drop (p+1)):=by
 rw[yU h];rfl
theorem ag' {y:Yard} {al:List Bool} {t:Nat} {all:List Nat} {p:Nat} {out:Nat->Int}(h:WJ (qP y) (qX al) t all p out)(hp:all.length<=p)(E:t<y.stances.length):gq y.stances.length out=gq y.stances.length (SV y al (t:Int)) :=
 BA fun i _=>by
  unfold SV;rw[if_pos (by omega),yw];exact(h.fin hp i).symm
theorem aoz(y:Yard)(hg:dw y)(g3:y.stances.length≠0)(to:Int)(al:List Bool)(g4:al.length=y.stances.length) :
  fn Tryz.prog fK jJ 65 [.tp (cYard y) 0,I to,LL qU al]=some (LI (gq y.stances.length (SV y al to))):=by
 have Ia:=hg.1;have g5:=hg.2.1;obtain⟨n,en⟩:∃n,n=y.stances.length:=⟨_,rfl⟩;obtain⟨a1,aP,k1,e0,s1⟩:=ag_ n (by omega) (by omega) 1;have o1:Own a1 1 (.rs 1 0 n) (LI (List.replicate n (-1))) [1]:=by
  have:=wI (d:=0) s1 (st:=1) (by simp)
  rwa [z_]at this
 have g1:=fun d=>o1.gather (d':=d+1) (by omega)
 have j1:∀σ,jZ 1 σ a1 [1] 1=a1 1:=fun σ=>A8 (by omega) (by simp)
 rw[aH,ak [.tmp 6] [12] Tryz.func65];have fin:∀(σ:Store) (out:Nat->Int) (d:Nat),σ 1=some ⟨(gq n out).flatMap cI,1,true⟩->strip σ (d+1) (.rs 1 0 n)=some (LI (gq n out),[1]):=fun σ out d h=>dO h (oz n out) d
 rw[<- Nz]at s1;have s2:∀σ,jZ 1 σ a1 [1] 1=some ⟨(gq n (fun _=> -1)).flatMap cI,1,true⟩:=fun σ=>(j1 σ).trans s1
 rw[<- en];have no:(∀i,SV y al to i= -1)->some (LI (gq n (fun _=> -1)))=some (LI (gq n (SV y al to))):=fun h=>by rw[BA (f:=fun _=> -1) (g:=SV y al to) (fun i _=>(h i).symm)]
 by_cases c1:to<0
 .rw[<- no fun i=>ZV (fun h=>by omega) i]
  have f0:=fun σ d=>fin (jZ 1 σ a1 [1]) (fun _=> -1) d (s2 σ)
  simp only[go_sem,<- en,k1,g1,s2,c1,f0]
 by_cases c2:(n:Int)<=to
 .rw[<- no fun i=>ZV (fun h=>by omega) i]
  have f0:=fun σ d=>fin (jZ 1 σ a1 [1]) (fun _=> -1) d (s2 σ)
  simp only[go_sem,<- en,k1,g1,s2,c1,c2,f0]
 obtain⟨t,rfl⟩:∃t:Nat,to=(t:Int):=⟨to.toNat,by omega⟩;have ht:t<n:=by omega
 have d1:(t:Int)<(n:Int):=by omega
 have d2:=aI t;have a3:t<al.length:=by omega
 have d3:(al.flatMap qU)[t]?=some (Bo (qX al t)):=by rw[uU a3];exact mX (fun b=>Bo b) al t a3
 have d4:=LU al;have d5:=Zj al t a3;have d6:(t:Int)<(al.length:Int):=by omega
 cases a6:qX al t with
 |false=>
  rw[a6]at d3;rw[<- no fun i=>ZV (fun h=>by rw[yw]at h;rw[a6]at h;cases h.2.2) i];have f0:=fun σ d=>fin (jZ 1 σ a1 [1]) (fun _=> -1) d (s2 σ)
  simp only[go_sem,<- en,k1,g1,s2,c1,c2,d1,d2,d3,d4,d5,d6,a3,f0]
 |true=>
  rw[a6]at d3;have e1:=Bz (n:=n) (fun _=> -1) ht;have e2:=Hq (n:=n) (fun _=> -1) t 0;have e3:((gq n fun _=>(-1:Int)).flatMap cI).length=n:=by rw[aS,oz]
  have nz:¬aP=1:=by omega
  have e4:¬1=aP:=by omega
  have nl:1<aP:=e0;simp only[go_sem,<- en,k1,g1,s2,c1,c2,d1,d2,d3,d4,d5,d6,a3,e1,e2,e3,ht,nz,e4,nl];generalize hL:aF _ _=w
  obtain⟨x,rfl,T,σ,nx,rfl,t7,out,hs,c4⟩:=bJ hL (fun m st=>st.T 0= .tp (cYard y) 0/\st.T 2=LL qU al/\st.T 7= .rs 1 0 n/\1<st.nx/\∃all p out,WJ (qP y) (qX al) t all p out/\p<=all.length/\m+p=n/\st.σ 1=some ⟨(gq n out).flatMap cI,1,true⟩ /\
    ((p=all.length/\st.T 8= .ts [] 0)\/(p<all.length/\lF st.T st.σ st.nx 8 1 (fC (all.drop p)))))
   (fun x=>∃T σ nx,x=(.exit 0,⟨T,σ,nx⟩)/\T 7= .rs 1 0 n/\∃out,σ 1=some ⟨(gq n out).flatMap cI,1,true⟩/\gq n out=gq n (SV y al (t:Int))) (by
    clear hL;rintro m ⟨T,σ,nx⟩ ⟨t0,t2,t7,a2,all,p,out,hB,hp,hm,hs,hq⟩;simp only at t0 t2 t7 a2 hs hq;rcases hq with ⟨rfl,t8⟩|⟨hp,hq⟩
    .refine .inr ⟨_,by simp only[go_sem,t8];rfl,by simp,_,_,_,rfl,by simp only[go_sem,t7],out,hs,?_⟩
     rw[en];exact ag' hB (zq _) (by omega)
    .have e5:=hB.bound (n:=n) fun i hi=>by have:=F5 hi;omega
     obtain⟨h,eh⟩:∃h,h=all[p]:=⟨_,rfl⟩;have a4:=hq;rw[Dz all hp,<- eh]at a4;obtain⟨b,off,cells,q1,q2,q3,q4,q5,q6⟩:=a4;have q7:=Ny q4;have p1:((h:Int) :: fC (all.drop (p+1))).length=all.length-p:=by rw[zD,f_,zH];omega
     rw[p1]at q1;have p2:(0:Int)<((all.length-p:Nat):Int):=by omega
     refine fD ?_
     conv=>
      enter [1,r,1,1]
      simp only[go_sem,t0,t2,t7,q1,p2]
     generalize hL:aF _ _=w
     obtain⟨r,rfl,T1,σ',nx',rfl,t0,t2,t7,c5,E,b5,c6,c7,c8,c9,e6,b6⟩:=aB hL y.moves.length (fun j st=>st.T 0= .tp (cYard y) 0/\st.T 2=LL qU al/\st.T 7= .rs 1 0 n/\st.T 47=LL cMove y.moves/\st.T 48=I y.moves.length/\st.T 49=I j/\1<st.nx /\
       ∃all out,WJ (qP y) (qX al) t all p out/\∃hp:p<all.length,h=all[p]/\st.σ 1=some ⟨(gq n out).flatMap cI,1,true⟩/\lF st.T st.σ st.nx 8 1 (fC (all.drop p))/\∀i (hi:i<y.moves.length),i<j->∀a:Nat,y.moves[i]=⟨(a:Int),(h:Int)⟩->qX al a=true->a∈all)
      (fun r=>∃T σ nx,r=(.exit 2,⟨T,σ,nx⟩)/\T 0= .tp (cYard y) 0/\T 2=LL qU al/\T 7= .rs 1 0 n/\1<nx /\
       ∃all out,WJ (qP y) (qX al) t all p out/\∃hp:p<all.length,h=all[p]/\σ 1=some ⟨(gq n out).flatMap cI,1,true⟩/\lF T σ nx 8 1 (fC (all.drop p))/\∀i (hi:i<y.moves.length),∀a:Nat,y.moves[i]=⟨(a:Int),(h:Int)⟩->qX al a=true->a∈all) (by
       clear hL;rintro j ⟨T,σ,nx⟩ hj ⟨t0,t2,t7,O,G,a0,a2,all,out,hB,hp,eh,hs,hq,hd⟩;simp only at t0 t2 t7 O G a0 a2 hs hq;have e5:=hB.bound (n:=n) fun i hi=>by have:=F5 hi;omega
       obtain⟨a,c,e,ha,hc⟩:=abe hg hj;rw[<- en]at ha hc;have a4:=hq;rw[Dz all hp,<- eh]at a4;obtain⟨b,off,cells,q1,q2,q3,q4,q5,q6⟩:=a4;have q7:=Ny q4;have p1:((h:Int) :: fC (all.drop (p+1))).length=all.length-p:=by rw[zD,f_,zH];omega
       rw[p1]at q1;have p2:(0:Int)<((all.length-p:Nat):Int):=by omega
       have p3:0<all.length-p:=by omega
       have p4:(0:Int)<=0:=by omega
       have p5:(0:Int).toNat=0:=rfl;have f1:(j:Int)<(y.moves.length:Int):=by omega
       have f2:=aI j;have f3:=ah (n:=(j:Int)+1);have f4:=LC y.moves j hj;rw[e]at f4;have f5:=BF y.moves;have f6:j*2+2<=y.moves.length*2:=by omega
       have f9:=LD y.moves j hj;obtain⟨gI,rC⟩:∃gI,gI=upd σ nx (some ⟨cMove ⟨(a:Int),(c:Int)⟩,0,true⟩):=⟨_,rfl⟩;have b0:gI nx=some ⟨cMove ⟨(a:Int),(c:Int)⟩,0,true⟩:=by rw[rC,upd_same]
       have b1:gI 1=some ⟨(gq n out).flatMap cI,1,true⟩:=by rw[rC,ay];exact hs
       have b2:gI b=some ⟨cells.flatMap cI,1,true⟩:=by rw[rC,ay];exact q2
       have z1:b<nx+1:=by omega
       have z2:nx<nx+1:=by omega
       have z3:1<nx+1:=by omega
       have ic:(c:Int)<(n:Int):=by omega
       have b7:=aI c;have ia:(a:Int)<(n:Int):=by omega
       have b8:=aI a;have b9:(a:Int)<(al.length:Int):=by omega
       have ZW:a<al.length:=by omega
       have la:=Bz out ha;have lc:=Bz out hc;have ll:((gq n out).flatMap cI).length=n:=by rw[aS,oz]
       have v3:(al.flatMap qU)[a]?=some (Bo (qX al a)):=by rw[uU ZW];exact mX (fun b=>Bo b) al a ZW
       have v4:=LU al;have v5:=Zj al a ZW;have a7:lF T gI (nx+1) 8 1 (fC (all.drop p)):=by rw[rC];exact WX hq _
       by_cases a8:c=h
       .have c1:((c:Int)==(h:Int))=true:=by simp[a8]
        have ea:∀(a':Nat),y.moves[j]=⟨(a':Int),(h:Int)⟩->a'=a:=fun a' e'=>by
         rw[e]at e';simp only[TV.Move.mk.injEq]at e';omega
        cases a9:qX al a with
        |false=>
         rw[a9]at v3;refine .inl ⟨_,by simp only[go_sem,t0,t2,t7,O,G,a0,f1,f2,f3,f4,f5,f6,f9,<- rC,b0,b1,b2,q1,q7,z1,z2,z3,p2,p3,p4,p5,c1,ic,b7,ia,b8,b9,ZW,ha,hc,v3,v4,v5,la,lc];rfl,?_⟩;simp only[go_sem,t0,t2,t7,O,G];refine⟨rfl,by omega,all,out,hB,hp,eh,b1,Dy a7 (by simp only[go_sem]) (zq _),fun i hi c0 a' e' S=>?_⟩
         by_cases Y:i=j
         .subst Y
          rw[ea a' e',a9]at S;cases S
         .exact hd i hi (by omega) a' e' S
        |true=>
         rw[a9]at v3
         by_cases hm:a∈all
         .have o1:¬out a<0:=fun e7=>(hB.lo a).mp e7 hm
          refine .inl ⟨_,by simp only[go_sem,t0,t2,t7,O,G,a0,f1,f2,f3,f4,f5,f6,f9,<- rC,b0,b1,b2,q1,q7,z1,z2,z3,p2,p3,p4,p5,c1,ic,b7,ia,b8,b9,ZW,ha,hc,v3,v4,v5,la,lc,o1];rfl,?_⟩;simp only[go_sem,t0,t2,t7,O,G];refine⟨rfl,by omega,all,out,hB,hp,eh,b1,Dy a7 (by simp only[go_sem]) (zq _),fun i hi c0 a' e' S=>?_⟩
          by_cases Y:i=j
          .subst Y
           rw[ea a' e'];exact hm
          .exact hd i hi (by omega) a' e' S
         .have o1:out a<0:=(hB.lo a).mpr hm
          have e8:qP y a all[p]=true:=by
           rw[<- eh];exact(KF y a h).mpr ⟨j,hj,by rw[e,a8]⟩
          have a5:=hB.add hp hm a9 e8;rw[<- eh,<- a8]at a5;have oc:0<=out c/\out c<10:=by
           have d0:c∈all:=by rw[a8,eh];exact zu hp
           obtain⟨kk,g6,_⟩:=hB.way c d0;have:=hB.bnd c d0;omega
          have w4:=ah (n:=out c+1);have st:=Hq (n:=n) out a (out c+1);obtain⟨σ2,qI⟩:∃σ2,σ2=upd gI 1 (some ⟨(gq n (put out a (out c+1))).flatMap cI,1,true⟩):=⟨_,rfl⟩;have b4:lF T σ2 (nx+1) 8 1 (fC (all.drop p)):=by rw[qI];exact adI a7 _
          have b3:σ2 nx=some ⟨cMove ⟨(a:Int),(c:Int)⟩,0,true⟩:=by rw[qI,ay];exact b0
          obtain⟨g7,c3,e9,f7⟩:=SS b4 (by omega) (a:Int) (by rw[f_,zH];omega);rw[f_,zH]at c3;rw[q1]at c3;refine .inl ⟨_,by simp only[go_sem,t0,t2,t7,O,G,a0,f1,f2,f3,f4,f5,f6,f9,<- rC,b0,b1,b2,q1,q7,z1,z2,z3,p2,p3,p4,p5,c1,ic,b7,ia,b8,b9,ZW,ha,hc,v3,v4,v5,la,lc,ll,o1,w4,st,<- qI,b3,c3];rfl,?_⟩;simp only[go_sem,t0,t2,t7,O,G];have f8:p<(all++[a]).length:=by rw[zo];omega
          refine⟨rfl,by omega,all++[a],_,a5,f8,by rw[xu hp];exact eh,?_,?_,fun i hi c0 a' e' S=>?_⟩
          .rw[f7,qI,upd_same]
          .have ed:fC ((all++[a]).drop p)=fC (all.drop p)++[(a:Int)]:=by
            rw[List.drop_append_of_le_length (by omega)];simp[fC]
           rw[ed];refine PX (b:=nx+1+1) ?_ e9 (by omega) (by omega);rw[zo,f_,zH];simp only[go_sem]
          .by_cases Y:i=j
           .subst Y
            rw[ea a' e'];simp
           .exact zF _ (hd i hi (by omega) a' e' S)
       .have c1:((c:Int)==(h:Int))=false:=by rw[w_];omega
        refine .inl ⟨_,by simp only[go_sem,t0,t2,t7,O,G,a0,f1,f2,f3,f4,f5,f6,f9,<- rC,b0,b1,b2,q1,q7,z1,z2,z3,p2,p3,p4,p5,c1];rfl,?_⟩;simp only[go_sem,t0,t2,t7,O,G];refine⟨rfl,by omega,all,out,hB,hp,eh,b1,Dy a7 (by simp only[go_sem]) (zq _),fun i hi c0 a' e' S=>?_⟩
        by_cases Y:i=j
        .subst Y
         rw[e]at e';simp only[TV.Move.mk.injEq]at e';omega
        .exact hd i hi (by omega) a' e' S) (by
       clear hL;rintro ⟨T,σ,nx⟩ ⟨t0,t2,t7,O,G,a0,a2,all,out,hB,hp,eh,hs,hq,hd⟩;simp only at t0 t2 t7 O G a0 a2 hs hq;refine⟨_,by simp only[go_sem,G,a0,zl];rfl,by simp,_,_,_,rfl,by simp only[go_sem,t0],by simp only[go_sem,t2],by simp only[go_sem,t7],a2,all,out,hB,hp,eh,hs,Dy hq (by simp only[go_sem]) (zq _),fun i hi=>hd i hi hi⟩) (by
       simp only[go_sem,t0,t2,t7];exact⟨a2,all,out,hB,hp,eh,hs,Dy hq (by simp only[go_sem]) (zq _),fun i hi h0=>absurd h0 (zW _)⟩)
     have a5:=c6.next c7 fun i hi g0=>by
      obtain⟨j,hj,ej⟩:=(KF y i E[p]).mp g0;exact b6 j hj i (by rw[ej,c8]) hi
     have g8:=c6.bound (n:=n) fun i hi=>by have:=F5 hi;omega
     have b4:=e6;rw[Dz E c7,<- c8]at b4;obtain⟨b',off',J,r1,r2,r3,r4,r5,r6⟩:=b4;have g2:((h:Int) :: fC (E.drop (p+1))).length=E.length-p:=by rw[zD,f_,zH];omega
     rw[g2]at r1 r3;have r7:((J.flatMap cI)).length=J.length:=aS _;have r8:off'+(E.length-p)<=J.length:=by omega
     have r9:1<=E.length-p:=by omega
     have d7:¬(1:Nat)=0:=by decide
     have d8:(0:Int)<=1:=by decide
     have d9:(1:Int).toNat=1:=rfl
     by_cases hl:E.length-p=1
     .rw[hl]at r1 r8
      refine⟨_,by simp only[go_sem,r1,r2,r7,r8,d7,d8,d9,zq];rfl,.inl ⟨_,rfl,m-1,by omega,?_⟩⟩;simp only[go_sem,t0,t2,t7];exact⟨c5,E,p+1,b5,a5,by omega,by omega,c9,.inl (by omega)⟩
     .have S:¬1=E.length-p:=fun e=>hl e.symm
      refine⟨_,by simp only[go_sem,r1,r2,r7,r8,r9,d7,d8,d9,S];rfl,.inl ⟨_,rfl,m-1,by omega,?_⟩⟩;simp only[go_sem,t0,t2,t7];refine⟨c5,E,p+1,b5,a5,by omega,by omega,c9,.inr ⟨by omega,b',off'+1,J,?_,r2,?_,ZU r4,r5,r6⟩⟩
      .simp only[go_sem]
       rw[f_,zH];congr 1
      .rw[f_,zH];omega) n (by
    simp only[go_sem];refine⟨by omega,[t],0,_,adB a6,by simp,by omega,?_,.inr ⟨by simp,?_⟩⟩
    .rw[ay,upd_same]
    .refine PX (b:=aP) (by simp only[go_sem];rfl) ?_ (by omega) (by omega)
     simp only[go_sem];rfl)
  have f0:=fun d=>fin σ out d hs
  simp only[go_sem,t7,f0,c4]
def del(s:Structure)(k:Nat):Structure:=⟨s.joints,s.members.eraseIdx k⟩
theorem rE {α:Type}(l:List α)(k:Nat):(l.eraseIdx k).length<=l.length:=List.length_eraseIdx_le l k
theorem aha {s:Structure}(h:dF s)(k:Nat):dF (del s k) :=
 ⟨h.1,zL (rE _ _) h.2.1,h.2.2.1,fun m hm=>h.2.2.2 m (List.mem_of_mem_eraseIdx hm)⟩
theorem abf {s:Structure}(h:okStructure s)(k:Nat):okStructure (del s k) :=
 ⟨h.1,fun m hm=>h.2.1 m (List.mem_of_mem_eraseIdx hm),zL (zG _ (rE _ _)) h.2.2.1,zL (rE _ _) h.2.2.2⟩
theorem PY {n k:Nat} {w:List Int}(h:gy n w)(E:k<n):gy (n-1) (w.eraseIdx k) :=
 ⟨by rw[yS (by rw[h.1];exact E),h.1],fun x G=>h.2 x (List.mem_of_mem_eraseIdx G)⟩
def nC(E:List Member)(k j:Nat):List Member:=(E.take j).eraseIdx k
theorem WY {E:List Member} {k j:Nat}(G:j<E.length)(h:j≠k):nC E k (j+1)=nC E k j++[E[j]]:=by
 unfold nC;rw[take_snoc G];have J:(E.take j).length=j:=by rw[zh];omega
 by_cases O:k<j
 .rw[List.eraseIdx_append_of_lt_length (by omega)]
 .have S:[E[j]].eraseIdx (k - (E.take j).length)=[E[j]]:=List.eraseIdx_of_length_le (by rw[J,yL];omega)
  have Y:(E.take j).eraseIdx k=E.take j:=List.eraseIdx_of_length_le (by omega);rw[List.eraseIdx_append_of_length_le (by omega),S,Y]
theorem abg {E:List Member} {k:Nat}(G:k<E.length):nC E k (k+1)=nC E k k:=by
 unfold nC;have J:(E.take k).length=k:=by rw[zh];omega
 have O:(E.take k).eraseIdx k=E.take k:=List.eraseIdx_of_length_le (by omega);rw[take_snoc G,List.eraseIdx_append_of_length_le (by omega),J,yQ,O];simp
theorem WZ(E:List Member)(k j:Nat):(nC E k j).length<=j:=by
 unfold nC;have:=rE (E.take j) k;rw[zh]at this;omega
theorem W9(σ:Store)(d:Nat):∀ {cells:List V},(cells.all aiR)=true->lC (own σ d) cells=some (cells,[])
 |[],_=>rfl
 |v :: cells,h=>by
  rw[List.all_cons,yh]at h;unfold lC;rw[W9 σ d h.2];cases v<;>first|(cases d<;>rfl)|cases h.1
theorem adJ(E:List Joint):((E.flatMap cJoint).all aiR)=true:=by
 induction E with
 |nil=>rfl
 |cons j E G=>exact G
theorem JD(E:List Joint):((E.flatMap cJoint).all aT)=true:=by
 induction E with
 |nil=>rfl
 |cons j E G=>exact G
theorem akE(E:List Joint)(h:E.length<=1000000)(nx:Nat):∃v G J ids,qO 4 [LL cJoint E] aK nx=some (v,G,J)/\nx<=J/\Own G 1 v (LL cJoint E) ids/\∀b∈ids,nx<=b/\b<J:=by
 have O:=sJ E;have e:qO 4 [LL cJoint E] aK nx=if E.length=0 then some (.nil,aK,nx)else some (.rs nx 0 E.length,dA aK nx (E.flatMap cJoint) 4,nx+1):=by
  show(if(E.flatMap cJoint).length=E.length*4/\E.length<=1000000/\_ then _ else _)=_;rw[if_pos ⟨O,h,JD E⟩]
 rw[e]
 by_cases S:E.length=0
 .have:E=[]:=zZ S
  subst this;exact⟨.nil,aK,nx,[],rfl,zq _,kT _ _,by simp⟩
 .rw[if_neg S]
  refine⟨_,_,_,[nx],rfl,by omega,⟨?_,by simp⟩,by simp⟩;have Y:=W9 (dA aK nx (E.flatMap cJoint) 4) 0 (adJ E);simp only[own,dA,upd_same]at Y⊢;rw[if_pos ⟨trivial,trivial,O.symm⟩,Y]
theorem W_ {σ:Store} {d:Nat} {α:Type} {c:α->List V} {v:V} {xs:List α} {ids:List Nat}(h:Own σ (d+1) v (LL c xs) ids):aT v=true:=by
 obtain⟨h,_⟩:=h;cases v<;>simp only[own]at h<;>first|rfl|(cases h;done)|(split at h<;>simp at h)
theorem ahb(s:Structure)(hj:s.joints.length<=1000000)(hm:s.members.length<=1000)(k:Nat)(hk:k<s.members.length):fn Tryz.prog fK jJ 79 [.agg (cStructure s),.ts [I k] 1]=some (.agg (cStructure (del s k))):=by
 obtain⟨v,b3,G,ids,k1,c4,o1,O⟩:=akE s.joints hj 2;have g1:=fun d=>o1.gather (d':=d+1) (by omega)
 have c1:=W_ o1;have c2:=cells_of_cell c1;obtain⟨a5,ea⟩:∃a5,a5=jZ 2 (upd (upd aK 0 (some ⟨cStructure s,0,true⟩)) 1 (some ⟨[.nil,.nil],0,true⟩)) b3 ids:=⟨_,rfl⟩;have oa:Own a5 1 v (LL cJoint s.joints) ids:=by rw[ea];exact o1.join fun b hb=>(O b hb).1
 have a0:a5 0=some ⟨cStructure s,0,true⟩:=by rw[ea,uI (by omega)];rfl
 have a1:a5 1=some ⟨[.nil,.nil],0,true⟩:=by rw[ea,uI (by omega)];rfl
 rw[aH,ak [.cell 4 34] [] Tryz.func79];have n0:¬G=0:=by omega
 have b4:¬0=G:=by omega
 have n2:¬G=1:=by omega
 have a9:¬1=G:=by omega
 simp only[go_sem,k1,g1,c1,c2,<- ea,a0,a1,n0,b4,n2,a9];generalize hL:aF _ _=y;obtain⟨x,rfl,T,σ,nx,rfl,t4,t5,w,h1,E,o2,hg,hw⟩:=aB hL s.members.length (fun j st=>st.T 1= .ts [I k] 1/\st.T 4= .rp 1 0/\st.T 5= .rp G 0/\st.T 13=LL cMember s.members/\st.T 14=I s.members.length/\st.T 15=I j/\G<st.nx/\∃w,st.σ 1=some ⟨[.nil,.nil],0,true⟩/\st.σ G=some ⟨[v,w],0,true⟩/\Own st.σ 1 v (LL cJoint s.joints) ids/\iZ cMember 3 (fun _=>w) st.σ st.nx 0 (nC s.members k j)/\∀b o l,w= .rs b o l->G<b)
  (fun x=>∃T σ nx,x=(.exit 0,⟨T,σ,nx⟩)/\T 4= .rp 1 0/\T 5= .rp G 0/\∃w,σ 1=some ⟨[.nil,.nil],0,true⟩/\σ G=some ⟨[v,w],0,true⟩/\Own σ 1 v (LL cJoint s.joints) ids/\iZ cMember 3 (fun _=>w) σ nx 0 (nC s.members k s.members.length)/\∀b o l,w= .rs b o l->G<b) (by
   clear hL;rintro j ⟨T,σ,nx⟩ hj ⟨t1,t4,t5,S,J,Y,a6,w,h1,E,o2,hg,hw⟩;simp only at t1 t4 t5 S J Y a6 h1 E o2 hg;have f1:(j:Int)<(s.members.length:Int):=by omega
   have f2:=aI j;have f3:=ah (n:=(j:Int)+1);have f4:=JO s.members j hj;have f5:=BG s.members;have f6:j*3+3<=s.members.length*3:=by omega
   have f9:=JQ s.members j hj;have k2:=anv [(k:Int)] (j:Int) (by simp);have hle:=WZ s.members k j;have z1:¬G=nx:=by omega
   have z2:¬nx=G:=by omega
   have z3:¬1=nx:=by omega
   have o3:=fun x=>(Own.upd (σ:=σ) (d:=1) (v:=v) (t:=LL cJoint s.joints) (ids:=ids) (c:=nx) (x:=x) (fun hb=>by have:=(O nx hb).2;omega)).symm ▸ o2
   obtain⟨m1,em⟩:∃m1,m1=s.members[j]:=⟨_,rfl⟩;rw[<- em]at f4
   by_cases a7:j=k
   .have km:decide ((j:Int)∈[(k:Int)])=true:=by rw[a7];simp
    rw[km]at k2;have a8:fn Tryz.prog conv ext 109 [.ts [I k] 1,I j]=some (Bo true):=k2
    refine .inl ⟨_,by simp only[go_sem,t1,t4,t5,S,J,Y,f1,f2,f3,f4,f5,f6,f9,hj,a8];rfl,?_⟩;simp only[go_sem,t1,t4,t5,S,J,z1,z2,z3,h1,E];have ek:nC s.members k (j+1)=nC s.members k j:=by subst a7;exact abg hj
    rw[ek];exact⟨rfl,by omega,w,rfl,o3 _,ny hg _,hw⟩
   .have km:decide ((j:Int)∈[(k:Int)])=false:=by simp;omega
    rw[km]at k2;have a8:fn Tryz.prog conv ext 109 [.ts [I k] 1,I j]=some (Bo false):=k2
    have b5:=ny hg (some ⟨cMember m1,0,true⟩);obtain⟨σ',ha,hs,b6⟩:=gY (c:=cMember) (s:=3) (bytes:=24) (fun _=>rfl) (fun _=>rfl) (by decide) b5 m1 (by omega) (by decide);have y1:∀q,q<nx->(∀b o l,w= .rs b o l->q≠b)->σ' q=σ q:=fun q hq b7=>by
     rw[b6 q (by omega) (fun b o l h=>b7 b o l h),ay]
    have y2:σ' G=some ⟨[v,w],0,true⟩:=by rw[y1 G a6 (fun b o l h e=>by have:=hw b o l h;omega)];exact E
    have y3:σ' 1=some ⟨[.nil,.nil],0,true⟩:=by rw[y1 1 (by omega) (fun b o l h e=>by have:=hw b o l h;omega)];exact h1
    have o4:Own σ' 1 v (LL cJoint s.joints) ids:=o2.frame fun q hq=>y1 q (by have:=(O q hq).2;omega) (fun b o l h e=>by have:=hw b o l h;have:=(O q hq).2;omega)
    refine .inl ⟨_,by simp only[go_sem,t1,t4,t5,S,J,Y,f1,f2,f3,f4,f5,f6,f9,hj,a8,z1,z2,z3,E,ha,y2];rfl,?_⟩;simp only[go_sem,t1,t4,t5,S,J];rw[WY hj a7,<- em];refine⟨rfl,by omega,_,?_,rfl,?_,?_,?_⟩
    .rw[ay];exact y3
    .exact(Own.upd (fun hb=>by have:=(O G hb).2;omega)).symm ▸ o4
    .refine .inr ⟨nx+1+1,by rw[zo];rfl,by simp,?_,by omega⟩
     rw[ay];exact hs
    .intro b o l hb
     cases hb;omega) (by
   clear hL;rintro ⟨T,σ,nx⟩ ⟨t1,t4,t5,S,J,Y,a6,w,h1,E,o2,hg,hw⟩;simp only at t1 t4 t5 S J Y a6 h1 E o2 hg;exact⟨_,by simp only[go_sem,J,Y,zl];rfl,by simp,_,_,_,rfl,by simp only[go_sem,t4],by simp only[go_sem,t5],w,h1,E,o2,hg,hw⟩) (by
   simp only[go_sem,n2,a9,a1];exact⟨by omega,_,rfl,(Own.upd (c:=G) (fun hb=>by have:=(O _ hb).2;omega)).symm ▸ oa,.inl ⟨rfl,rfl⟩,fun b o l h=>by cases h⟩)
 have ek:nC s.members k s.members.length=(del s k).members:=by
  unfold nC del;rw[yg]
 rw[ek]at hg;have z3:¬1=G:=by omega
 have cw:aT w=true:=by
  rcases hg with ⟨a,_⟩|⟨b,a,_⟩
  .have a:w= .nil:=a
   rw[a];rfl
  .have a:w= .rs b 0 _:=a
   rw[a];rfl
 obtain⟨b2,b8⟩:∃b2,stripL (strip (upd σ 1 (some ⟨[v,w],0,true⟩)) 6) [v,w]=some ([LL cJoint s.joints,LL cMember (del s k).members],b2):=by
  have hv:=o2.strip (d':=6) (by omega);have b9:strip (upd σ 1 (some ⟨[v,w],0,true⟩)) 6 v=some (LL cJoint s.joints,ids):=by
   have:=((Own.upd (σ:=σ) (d:=1) (v:=v) (t:=LL cJoint s.joints) (ids:=ids) (c:=1) (x:=some ⟨[v,w],0,true⟩) (fun hb=>by have:=(O 1 hb).1;omega)).symm ▸ o2).strip (d':=6) (by omega);exact this
  have c0:iZ cMember 3 (fun _=>w) (upd σ 1 (some ⟨[v,w],0,true⟩)) nx 0 (del s k).members:=by
   rcases hg with ⟨a,b⟩|⟨b,a1,a2,a3,a4⟩
   .exact .inl ⟨a,b⟩
   .exact .inr ⟨b,a1,a2,by rw[upd_ne _ _ (by have:=hw _ _ _ a1;omega)];exact a3,a4⟩
  obtain⟨is,c3⟩:=qC (c:=cMember) (s:=3) (fun _=>rfl) 5 (fun x=>by rw[aO,cO,aO,cO,aO,cO,bQ];rfl) c0;refine⟨ids++(is++[]),?_⟩;rw[aO,b9,aO,c3,bQ];rfl
 simp only[go_sem,t4,t5,h1,E,z3,b8,c1,cw];rfl
theorem Jb(xs:List Int):xs.flatMap cI=xs.map I:=by
 induction xs with
 |nil=>rfl
 |cons x xs E=>show I x :: xs.flatMap cI=_;rw[E];rfl
theorem Xa(xs:List Int)(k:Nat):(xs.flatMap cI).eraseIdx k=(xs.eraseIdx k).flatMap cI:=by rw[Jb,Jb,Ep]
theorem adK {σ:Store} {b:Nat} {xs:List Int} {ex:List V} {n:Nat}(h:σ b=some ⟨xs.flatMap cI++ex,1,true⟩)(hn:xs.length=n)(d:Nat):strip σ (d+1) (.rs b 0 n)=some (LI xs,[b]):=by
 rw[d_,h];simp only[zi,yN,yY,yZ];rw[if_pos (by rw[zo,aS];omega),xO (by rw[aS,hn]),kG];show some (V.ts _ n,[b])=_;rw[<- hn]
theorem Xb {P:Program} {σ:Store} {t:TypeId} {b off len:Nat} {lo hi E:V}(h:(bF P t).slice=true)(G:(bF P t).Qw=true):dX P t (.rs b off len) (some lo) (some hi) (some E) σ=(bnd (some lo) 0).bind fun l=>(bnd (some hi) 0).bind fun h=>(bnd (some E) 0).bind fun m=>if l<=h/\h<=m/\m<=len then some .junk else none:=by
 obtain⟨e,Y,z,J,O,h3,h4,S,h6,h7⟩:=jC h G;unfold dX;simp only[J,O,S];cases bnd (some lo) 0<;>cases bnd (some hi) 0<;>cases bnd (some E) 0<;>rfl
attribute [go_sem] Xb
theorem akF {σ:Store} {nx b:Nat} {w:List Int} {n k:Nat}(hb:σ b=some ⟨w.flatMap cI,1,true⟩)(J:b<nx)(hw:w.length=n)(hn:n<=1000)(hk:k<n) :
  ∃σ',ev Tryz.prog fK jJ 80 [.rs b 0 n,I k,I ((k:Int)+1)] σ nx=some (.rs b 0 (n-1),σ',nx)/\(∃ex,σ' b=some ⟨(w.eraseIdx k).flatMap cI++ex,1,true⟩)/\∀c,c≠b->σ' c=σ c:=by
 have G:(w.flatMap cI).length=n:=by rw[aS,hw]
 have e1:((k:Int)==(k:Int)+1)=false:=by rw[w_];omega
 have i0:=aI k;have i1:(0:Int)<=(k:Int)+1:=by omega
 have i2:((k:Int)+1).toNat=k+1:=by omega
 have i3:k<=k+1:=by omega
 have i4:k+1<=n:=hk;have i5:¬k+1=0:=by omega
 have i6:k<=n:=by omega
 have i7:=aI n;rw[ak [.tmp 6] [5] Tryz.func80];have O:¬n=0:=by omega
 have z1:∀(c:Nat) (x:Option Aw),c≠b->upd σ b x c=σ c:=fun c x h=>upd_ne _ _ h
 by_cases E:k+1=n
 .have m1:n-1=k:=by omega
  have m3:n-k=1:=by omega
  have a0:¬k=n:=by omega
  have ha:=Wq (restrict σ [b]) nx 1 8 b 0 k [] (B:=⟨w.flatMap cI,1,true⟩) (by rw[jU];exact hb);have le:∃ex,patch (w.flatMap cI) k [I 0]=(w.eraseIdx k).flatMap cI++ex:=by
   rw[iO _ _ _ (by rw[G];simp;omega),<- Xa,List.eraseIdx_eq_take_drop_succ,xw (l:=w.flatMap cI) (i:=k+1) (by omega),zM,zB];exact⟨_,rfl⟩
  by_cases S:k=0
  .have a1:(k=0)=True:=eq_true S
   have hr:rep n [I 0]=[I 0]:=by
    have:n=1:=by omega
    rw[this];rfl
   have a3:0+n<=n:=by omega
   simp only[go_sem,hb,G,J,e1,i0,i1,i2,i3,i4,i5,i6,i7,E,a0,ha,O,a1,yw,zq,AQ,m1,hr,a3];exact⟨_,rfl,by rw[upd_same];obtain⟨ex,e⟩:=le;exact⟨ex,by rw[<- e,S,DY]⟩,fun c hc=>upd_ne _ _ hc⟩
  .simp only[go_sem,hb,G,J,e1,i0,i1,i2,i3,i4,i5,i6,i7,E,a0,ha,O,S,m3,yw,zq,AQ,m1]
   exact⟨_,rfl,by rw[upd_same];obtain⟨ex,e⟩:=le;exact⟨ex,by rw[<- e];rfl⟩,fun c hc=>upd_ne _ _ hc⟩
 .have m1:¬n - (k+1)=0:=by omega
  have m2:((w.flatMap cI).drop (k+1)).take (n - (k+1))=(w.flatMap cI).drop (k+1):=zk (by rw[zH,G];omega);have i8:k+1+(n - (k+1))<=n:=by omega
  have rl:((w.flatMap cI).drop (k+1)).length=n - (k+1):=by rw[zH,G]
  have Y:((w.flatMap cI).drop (k+1)).all aT=true:=by
   rw[Jb,<- List.map_drop,<- Jb];exact qj _
  obtain⟨Pc,hP⟩:∃Pc,Pc=patch (w.flatMap cI) k ((w.flatMap cI).drop (k+1)):=⟨_,rfl⟩;have a2:Pc.length=n:=by
   rw[hP,iO _ _ _ (by rw[rl,G];omega)];simp only[zo,zh,zH,G];omega
  obtain⟨a6,a4⟩:∃ex,Pc=(w.eraseIdx k).flatMap cI++ex:=by
   obtain⟨ex,e⟩:=Dt (w.flatMap cI) [] (i:=k) (m:=n) G hk m1;rw[zM]at e;exact⟨ex,by rw[hP,e,Xa]⟩
  have ha:=anB (σ:=restrict σ [b,b]) (nx:=nx) (bytes:=8) (b:=b) (len:=k) (m:=n - (k+1)) (row:=(w.flatMap cI).drop (k+1)) (cells:=w.flatMap cI) (by rw[rD];exact hb) m1 (by rw[G];omega) Y;rw[<- hP]at ha;have m5:k+(n - (k+1))=n-1:=by omega
  rw[m5]at ha;have j1:((n-1:Nat):Int).toNat=n-1:=yw _;have j2:(0:Int)<=((n-1:Nat):Int):=by omega
  have j3:n-1<=n:=by omega
  have j4:¬n-1=0:=by omega
  have j5:¬n-1=n:=by omega
  have j6:n - (n-1)=1:=by omega
  have j7:n-1+1<=n:=by omega
  have le:∃ex,patch Pc (n-1) [I 0]=(w.eraseIdx k).flatMap cI++ex:=by
   have a5:((w.eraseIdx k).flatMap cI).length=n-1:=by rw[aS,yS (by omega),hw]
   rw[iO _ _ _ (by rw[a2];simp;omega),a4,xO a5,zB];exact⟨_,rfl⟩
  simp only[go_sem,hb,G,J,e1,i0,i1,i2,i3,i4,i5,i6,i7,i8,E,m1,m2,ha,O,yw,zq,j1,j2,j3,j4,j5,j6,j7,a2,AQ];exact⟨_,rfl,by rw[upd_same];obtain⟨ex,e⟩:=le;exact⟨ex,by rw[<- e];rfl⟩,fun c hc=>upd_ne _ _ hc⟩
def nD(s:Structure)(l w:List Int):Prop:=fn Tryz.prog aU bU 43 [.agg (cStructure s),LI l,LI w]=some (Bo true)
theorem NC {s:Structure}(h:dF s)(E:okStructure s) {l w:List Int}(G:dJ s.joints.length l)(hw:gy s.members.length w) :
  fn Tryz.prog aU bU 43 [.agg (cStructure s),LI l,LI w]=some (Bo (pb (nD s l w))):=by
 obtain⟨b,r,k,_⟩:=aky h E G hw;rw[k];cases b with
 |true=>
  have:nD s l w:=k;rw[dZ this]
 |false=>
  have:¬nD s l w:=fun e=>by unfold nD at e;rw[k]at e;cases e
  rw[bP this]
noncomputable def upto(s:Structure)(l w:List Int)(n:Nat):Bool:=(List.range n).all fun k=>pb (nD (del s k) l (w.eraseIdx k))
theorem upto_succ(s:Structure)(l w:List Int)(n:Nat):upto s l w (n+1)=(upto s l w n && pb (nD (del s n) l (w.eraseIdx n))):=by simp[upto,wZ]
theorem tN {s:Structure} {l w:List Int} {k n:Nat}(E:k<n)(h:pb (nD (del s k) l (w.eraseIdx k))=false):upto s l w n=false:=by
 unfold upto;rw[List.all_eq_false];exact⟨k,by simpa using E,by rw[h];simp⟩
noncomputable def Hr(s:Structure)(l w:List Int):Bool:=pb (nD s l w) && upto s l w s.members.length
theorem akG(w:List Int)(hw:w.length<=1000)(E:w.length≠0)(nx:Nat):u_ [LI w] aK nx=some (.rs nx 0 w.length,dA aK nx (w.flatMap cI) 1,nx+1):=by
 show(if(w.flatMap cI).length=w.length/\w.length<=17592186044000/\(w.flatMap cI).all aT=true then _ else none)=_;rw[if_pos ⟨aS w,by omega,qj w⟩,if_neg E]
theorem Xc {s:Structure}(h:dF s)(ho:okStructure s) {l w:List Int}(hl:dJ s.joints.length l)(hw:gy s.members.length w) :
  fn Tryz.prog fK jJ 42 [.agg (cStructure s),LI l,LI w]=some (Bo (Hr s l w)):=by
 have k1:=NC h ho hl hw;have a5:=h.2.1;have XF:=h.1;have O:=hw.1;unfold Hr;rw[aH,ak [.tmp 6] [] Tryz.func42];cases hs:pb (nD s l w)with
 |false=>
  rw[hs]at k1;simp only[go_sem,k1]
 |true=>
  rw[hs]at k1;simp only[go_sem,k1];generalize hL:aF _ _=y;obtain⟨x,rfl,hx⟩:=aB hL s.members.length (fun j st=>st.T 1=LI l/\st.T 2=LI w/\st.T 3= .rp 0 0/\st.T 15=I s.members.length/\st.T 16=I j/\0<st.nx/\st.σ 0=some ⟨cStructure s,0,true⟩/\upto s l w j=true)
   (fun x=>∃T σ nx,(x=(.exit 0,⟨T,σ,nx⟩)/\upto s l w s.members.length=true)\/(x=(.ret,⟨T,σ,nx⟩)/\T 6=Bo false/\upto s l w s.members.length=false)) (by
    clear hL;rintro j ⟨T,σ,nx⟩ hj ⟨t1,t2,t3,E,G,a1,J,hu⟩;simp only at t1 t2 t3 E G a1 J;have f1:(j:Int)<(s.members.length:Int):=by omega
    have f2:=aI j;have f3:=ah (n:=(j:Int)+1);have k2:=ahb s (by omega) (by omega) j hj;have k3:=akG w (by omega) (by omega) (nx+1);rw[O]at k3;obtain⟨S,eS⟩:∃S,S=del s j:=⟨_,rfl⟩;rw[<- eS]at k2;have hlen:(w.eraseIdx j).length=s.members.length-1:=by rw[yS (by omega),O]
    have a2:S.joints=s.joints:=by rw[eS];rfl
    have a3:S.members.length=s.members.length-1:=by
     rw[eS];unfold del;exact yS hj
    have k5:=NC (s:=S) (l:=l) (w:=w.eraseIdx j) (by rw[eS];exact aha h j) (by rw[eS];exact abf ho j) (by rw[a2];exact hl) (by rw[a3];exact PY hw hj);have oc:Own (dA aK (nx+1) (w.flatMap cI) 1) 1 (.rs (nx+1) 0 s.members.length) (LI w) [nx+1]:=by
     have:=wI (σ:=dA aK (nx+1) (w.flatMap cI) 1) (d:=0) (b:=nx+1) (st:=1) (xs:=w) (by unfold dA;rw[upd_same]) (by omega)
     rwa [O]at this
    have gc:=fun d=>oc.gather (d':=d+1) (by omega)
    unfold dA at k3 gc;obtain⟨Y,e1⟩:∃Y,Y=upd σ nx (some ⟨[I j],1,flat 7 (.agg (cStructure S))⟩):=⟨_,rfl⟩;have b1:Y 0=some ⟨cStructure s,0,true⟩:=by rw[e1,ay];exact J
    obtain⟨σ2,e2⟩:∃σ2,σ2=jZ (nx+1) Y (upd aK (nx+1) (some ⟨w.flatMap cI,1,true⟩)) [nx+1]:=⟨_,rfl⟩;have b2:σ2 0=some ⟨cStructure s,0,true⟩:=by rw[e2,uI (by omega)];exact b1
    have b3:σ2 (nx+1)=some ⟨w.flatMap cI,1,true⟩:=by rw[e2,A8 (by omega) (by simp),upd_same]
    obtain⟨a4,k4,⟨ex,b4⟩,b5⟩:=akF (nx:=nx+1+1) (k:=j) b3 (by omega) O (by omega) hj;have b6:a4 0=some ⟨cStructure s,0,true⟩:=by rw[b5 0 (by omega)];exact b2
    have st:=fun d=>adK b4 hlen d
    have f4:=ah (n:=(j:Int)+1);have us:=upto_succ s l w j;rw[<- eS]at us;cases a0:pb (nD S l (w.eraseIdx j))with
    |true=>
     rw[a0]at k5 us;refine .inl ⟨_,by simp only[go_sem,bM,t1,t2,t3,E,G,J,f1,f2,f3,k2,<- e1,k3,gc,<- e2,k4,st,k5,b6];rfl,?_⟩;simp only[go_sem,t1,t2,t3,E,b6];exact⟨rfl,by omega,by rw[us,hu];rfl⟩
    |false=>
     rw[a0]at k5;refine .inr ⟨_,by simp only[go_sem,bM,t1,t2,t3,E,G,J,f1,f2,f3,k2,<- e1,k3,gc,<- e2,k4,st,k5,b6];rfl,by simp,_,_,_,.inr ⟨rfl,by simp only[go_sem],?_⟩⟩;rw[eS]at a0;exact tN hj a0) (by
    rintro ⟨T,σ,nx⟩ ⟨t1,t2,t3,E,G,a1,J,hu⟩;simp only at t1 t2 t3 E G a1 J;exact⟨_,by simp only[go_sem,E,G,zl];rfl,by simp,_,_,_,.inl ⟨rfl,hu⟩⟩) (by
    simp only[go_sem];rfl)
  obtain⟨T,σ,nx,⟨rfl,hu⟩|⟨rfl,t6,hu⟩⟩:=hx
  .rw[hu]
   simp only[go_sem]
  .rw[hu]
   simp only[go_sem,t6]
noncomputable def BJ(t:Stance)(strict:Bool):Bool:=jw t && (if strict=true then Hr t.st t.load t.limits else pb (nD t.st t.load t.limits))
theorem Ht {t:Stance}(h:jw t=true):dF t.st/\dJ t.st.joints.length t.load/\gy t.st.members.length t.limits:=by
 unfold jw at h;simp only[yh]at h;exact⟨EP h.2.1.1,EP h.2.1.2,EP h.2.2⟩
theorem JE(t:Stance)(G:okStance t)(strict:Bool):fn Tryz.prog fK jJ 13 [.agg (cStance t),Bo strict]=some (Bo (BJ t strict)):=by
 have E:=OV t G;unfold BJ;rw[aH,ak [.tmp 4] [] Tryz.func13];cases hs:jw t with
 |false=>
  rw[hs]at E;simp only[go_sem,E]
 |true=>
  rw[hs]at E;obtain⟨J,O,S⟩:=Ht hs;have Y:=Xc J G.2.1 O S;have k3:=NC J G.2.1 O S;cases strict with
  |true=>simp only[go_sem,E,Y]
  |false=>simp only[go_sem,E,k3]
theorem akH {α:Type} {xs:List α} {n k:Nat}(d:α)(E:k<xs.length)(hn:xs.length=n):(xs.take k++List.replicate (n-k) d).set k xs[k]=xs.take (k+1)++List.replicate (n - (k+1)) d:=by
 have G:(xs.take k).length=k:=by rw[zh];omega
 rw[yD _ _ (by omega),G,yQ,show n-k=n - (k+1)+1 by omega,xW,List.set_cons_zero,take_snoc E,zB];rfl
theorem adL(n:Nat):rep n [Bo false]=(List.replicate n false).flatMap qU:=Pg n
noncomputable def b_(y:Yard):List Bool:=y.stances.map fun t=>BJ t y.strict
theorem iC(y:Yard):(b_ y).length=y.stances.length:=by simp[b_]
theorem ahc {σ:Store} {b:Nat} {xs:List Bool}(h:σ b=some ⟨xs.flatMap qU,1,true⟩) {n:Nat}(hn:xs.length=n)(d:Nat):strip σ (d+1) (.rs b 0 n)=some (LL qU xs,[b]):=by
 have E:(xs.flatMap qU).length=xs.length:=by rw[LU,yN]
 rw[d_,h];simp only[zi,yN,yY,yZ,E];rw[if_pos (by omega),zk (by omega),iJ (fun x=>by rw[aO,cO,bQ];rfl)];show some (V.ts _ n,[b])=_;rw[<- hn]
theorem ahd(y:Yard)(ho:okYard y)(Ia:y.stances.length<=6):fn Tryz.prog fK jJ 54 [.tp (cYard y) 0]=some (LL qU (b_ y)):=by
 obtain⟨n,en⟩:∃n,n=y.stances.length:=⟨_,rfl⟩;have e1:1*(n:Int)<=281474976710656:=by omega
 have e2:(n:Int)<=9223372036854775807:=by omega
 have e3:=aI n;have a6:=iC y;rw[aH,ak [.tmp 2] [5] Tryz.func54];simp only[go_sem,<- en,e1,e2,e3,yE];generalize hL:aF _ _=z;obtain⟨r,rfl,T',σ',nx',rfl,O,hs⟩:=aB hL n (fun k s=>1<=s.nx/\s.T 0= .tp (cYard y) 0/\s.T 3= .rs 0 0 n/\s.T 15=LL cStance y.stances/\s.T 16=I n/\s.T 17=I k/\s.σ 0=some ⟨((b_ y).take k++List.replicate (n-k) false).flatMap qU,1,true⟩)
  (fun r=>∃T σ nx',r=(.exit 0,⟨T,σ,nx'⟩)/\T 3= .rs 0 0 n/\σ 0=some ⟨(b_ y).flatMap qU,1,true⟩) (by
   clear hL;rintro k ⟨T,σ,m⟩ hk ⟨hm,Y,O,G,E,J,hs⟩;simp only at hm Y O G E J hs;have S:k<y.stances.length:=by omega
   have a0:k<(b_ y).length:=by omega
   have f1:(k:Int)<(n:Int):=by omega
   have f2:=aI k;have f3:=ah (n:=(k:Int)+1);have f4:=Oa y.stances k S;have f5:=EO y.stances;rw[<- en]at f5;have f6:k*5+5<=n*5:=by omega
   have f9:=Ob y.stances k S;have f7:(((b_ y).take k++List.replicate (n-k) false).flatMap qU).length=n:=by
    rw[LU,yN,zo,zh,z_];omega
   have k1:=JE y.stances[k] (ho.1.1 _ (zu S)) y.strict;have es:(b_ y)[k]=BJ y.stances[k] y.strict:=by simp[b_]
   have f8:=aaF ((b_ y).take k++List.replicate (n-k) false) k (b_ y)[k];rw[akH false a0 (by omega),es]at f8;have nz:¬0=m:=by omega
   have a1:¬m=0:=by omega
   have a2:k<n:=hk;have a3:0<m+1:=by omega
   have a4:m<m+1:=by omega
   obtain⟨t,et⟩:∃t,t=y.stances[k]:=⟨_,rfl⟩;rw[<- et]at f4 k1 f8;obtain⟨sb,eb⟩:∃sb,sb=BJ t y.strict:=⟨_,rfl⟩;rw[<- eb]at k1 f8;refine .inl ⟨_,by simp only[go_sem,<- en,Y,O,G,E,J,hs,f1,f2,f3,f4,f5,f6,f7,f8,f9,a2,a3,a4,k1,nz,a1];rfl,?_⟩;simp only[go_sem,Y,O,G,E];rfl) (by
   clear hL;rintro ⟨T,σ,m⟩ ⟨hm,Y,O,G,E,J,hs⟩;simp only at hm Y O G E J hs;rw[zk (by omega),yQ,List.replicate_zero,zM]at hs;exact⟨_,by simp only[go_sem,E,J,zl];rfl,by simp,_,_,_,rfl,by simp only[go_sem,O],hs⟩) (by
   simp only[go_sem];rw[<- adL])
 have a5:=fun d=>ahc hs (n:=n) (by omega) d
 simp only[go_sem,O,a5]
theorem aoB(y:Yard)(E:dw y)(i:Int):fn Tryz.prog fK jJ 63 [.tp (cYard y) 0,I i]=some (LI (pO (dH y.moves i) y.stances.length)):=by
 obtain⟨v,G,O,ids,k,_,J,_⟩:=ac4 y E i 0;rw[aoa,aH,k];simp only[go_sem,J.strip (d':=7) (by omega)]
def nexts(y:Yard)(a:Nat):List Nat:=(List.range y.stances.length).filter (qP y a)
theorem PZ(y:Yard)(a:Nat):pO (dH y.moves (a:Int)) y.stances.length=fC (nexts y a):=rfl
theorem ZX(l:List Nat) {j:Nat}(h:j<l.length):(fC l)[j]'(by rw[f_];exact h)=(l[j]:Int):=by simp[fC]
theorem P5(l:List Nat) {j:Nat}(h:j<l.length):((fC l).flatMap cI)[j]?=some (I (l[j]:Int)):=by
 rw[idx (xs:=fC l) (k:=j) (by rw[f_];exact h),ZX l h]
theorem abh {α:Type} {p:α->Bool}:∀ {l:List α} {j:Nat} (h:j<l.length),(∀i (hi:i<l.length),i<j->p l[i]=false)->p l[j]=true->l.find? p=some l[j]
 |[],_,h,_,_=>absurd h (zW _)
 |x :: l,0,_,_,h=>by
  have h:p x=true:=h;simp[List.find?_cons,h]
 |x :: l,j+1,hj,hlo,h=>by
  have E:p x=false:=hlo 0 (by simp) (by omega);have:=abh (l:=l) (j:=j) (by rw[zD]at hj;omega) (fun i hi G=>hlo (i+1) (by rw[zD];omega) (by omega)) h;simp only[List.find?_cons,E];exact this
theorem ahe {y:Yard} {out:Nat->Int} {a j:Nat}(h:j<(nexts y a).length)(E:∀i (hi:i<(nexts y a).length),i<j->(out (nexts y a)[i]==out a-1)=false)(G:(out (nexts y a)[j]==out a-1)=true):Ie (qP y) out y.stances.length a=(nexts y a)[j]:=by
 have J:=abh (p:=fun i=>out i==out a-1) h E G;unfold Ie;have O:(List.range y.stances.length).find? (fun i=>qP y a i && (out i==out a-1))=(nexts y a).find? (fun i=>out i==out a-1):=by
  unfold nexts;rw[List.find?_filter];congr 1;funext i;generalize qP y a i=b1;generalize (out i==out a-1)=b2;cases b1<;>cases b2<;>rfl
 rw[O,J];rfl
theorem Xd {y:Yard} {a j:Nat}(h:j<(nexts y a).length):(nexts y a)[j]<y.stances.length:=by
 have:=zu h;exact List.mem_range.mp (List.mem_filter.mp this).1
theorem Xe(y:Yard)(a:Nat):(nexts y a).length<=y.stances.length:=by
 unfold nexts;exact zL (List.length_filter_le _ _) (by simp)
theorem ND {y:Yard} {al:List Bool}(G:al.length=y.stances.length) {to a:Nat}(h:0<dst (qP y) (qX al) to a):∃j,∃E:j<(nexts y a).length,(dst (qP y) (qX al) to (nexts y a)[j]==dst (qP y) (qX al) to a-1)=true:=by
 obtain⟨J,O,S⟩:=agP (mv:=qP y) (al:=qX al) (n:=y.stances.length) (to:=to) (a:=a) (fun i hi=>by have:=F5 hi;omega) h;have hm:Ie (qP y) (dst (qP y) (qX al) to) y.stances.length a∈nexts y a:=by
  unfold nexts;rw[List.mem_filter];exact⟨by simpa using J,O⟩
 obtain⟨j,E,e⟩:=yV hm;exact⟨j,E,by rw[e,S];simp⟩
noncomputable def jr(y:Yard)(fr to:Int):Bool:=pb (dw y) && (decide (0<=fr) && decide (fr<(y.stances.length:Int)) && decide (0<=SV y (b_ y) to fr.toNat))
noncomputable def Ak(y:Yard)(fr to:Int):List Int:=if jr y fr to=true then fC (plan (qP y) (SV y (b_ y) to) y.stances.length fr.toNat)else []
theorem abj {y:Yard} {al:List Bool} {to:Int} {i:Nat}(h:0<=SV y al to i):(0<=to/\to<(y.stances.length:Int))/\SV y al to=dst (qP y) (qX al) to.toNat:=by
 by_cases c:0<=to/\to<(y.stances.length:Int)
 .exact⟨c,funext fun i=>by unfold SV;rw[if_pos c]⟩
 .unfold SV at h
  rw[if_neg c]at h;omega
theorem adM {σ:Store} {b:Nat} {cells:List V} {st:Nat} {wr:Bool}(h:σ b=some ⟨cells,st,wr⟩)(t:V):behind σ [b] t=upd σ b (some ⟨cells,st,wr && flat depth t⟩):=by
 unfold behind;cases E:flat depth t with
 |true=>
  simp only[Bool.and_true,List.isEmpty_cons,Bool.false_or,if_true];funext i
  by_cases e:i=b
  .subst e;rw[upd_same,h]
  .rw[upd_ne _ _ e]
 |false=>
  simp only[List.isEmpty_cons,Bool.or_self,yM,if_false,xR];unfold kZ kZ;rw[h];rfl
theorem ZY {T:Nat->V} {σ σ':Store} {nx t:Nat} {acc:List Int}(J:Grow T σ nx t acc)(h:∀b o l,T t= .rs b o l->σ' b=σ b):Grow T σ' nx t acc:=by
 rcases J with ⟨E,G⟩|⟨b,E,G,O,S⟩
 .exact .inl ⟨E,G⟩
 .exact .inr ⟨b,E,G,by rw[h _ _ _ E];exact O,S⟩
def lH(y:Yard)(out:Nat->Int)(a k:Nat):List Int:=fC ((List.range (k+1)).map (WL (qP y) out y.stances.length a))
theorem P6(y:Yard)(out:Nat->Int)(a k:Nat):(lH y out a k).length=k+1:=by simp[lH,fC]
theorem NG(y:Yard)(out:Nat->Int)(a k:Nat):lH y out a (k+1)=lH y out a k++[((WL (qP y) out y.stances.length a (k+1):Nat):Int)]:=by
 unfold lH fC;rw[wZ];simp
theorem adN(y:Yard)(ho:okYard y)(fr to:Int)(nx:Nat):∃v b5 aP ids,ev Tryz.prog fK jJ 32 [.agg (cYard y),I fr,I to] aK nx=some (.dS [v,Bo (jr y fr to)],b5,aP)/\nx<=aP/\Own b5 1 v (LI (Ak y fr to)) ids/\∀b∈ids,nx<=b/\b<aP:=by
 obtain⟨n,en⟩:∃n,n=y.stances.length:=⟨_,rfl⟩;have k1:=QW y ho;have a3:∀ok,ok=jr y fr to->ok=false->Ak y fr to=[]:=fun ok e h=>by unfold Ak;rw[<- e,h,if_neg (by simp)]
 rw[ak [.tmp 6,.tmp 7] [] Tryz.func32];cases hg:pb (dw y)with
 |false=>
  have e:jr y fr to=false:=by unfold jr;rw[hg,Bool.false_and]
  rw[hg]at k1;rw[e,a3 _ e.symm rfl];simp only[go_sem,k1];exact⟨_,_,_,[],rfl,by omega,kT _ _,by simp⟩
 |true=>
  rw[hg]at k1;have hG:=EP hg
  by_cases c1:fr<0
  .have e:jr y fr to=false:=by unfold jr;rw[hg,vk (p:=0<=fr) (by omega)];rfl
   rw[e,a3 _ e.symm rfl];simp only[go_sem,k1,c1];exact⟨_,_,_,[],rfl,by omega,kT _ _,by simp⟩
  by_cases c2:(y.stances.length:Int)<=fr
  .have e:jr y fr to=false:=by unfold jr;rw[hg,vk (p:=fr<_) (by omega),xR];rfl
   rw[e,a3 _ e.symm rfl];simp only[go_sem,k1,c1,c2];exact⟨_,_,_,[],rfl,by omega,kT _ _,by simp⟩
  obtain⟨E,rfl⟩:∃a:Nat,fr=(a:Int):=⟨fr.toNat,by omega⟩;have c4:E<y.stances.length:=by omega
  have Ia:=hG.1;have k2:=ahd y ho Ia;have k3:=aoz y hG (by omega) to (b_ y) (iC y);obtain⟨out,eo⟩:∃out,out=SV y (b_ y) to:=⟨_,rfl⟩;rw[<- eo]at k3;have f1:(E:Int)<(y.stances.length:Int):=by omega
  have f2:=aI E;have la:=fun {a:Nat} (h:a<y.stances.length)=>Bz (n:=y.stances.length) out h
  have b6:=la c4;have ll:=oz y.stances.length out;have S:(gq y.stances.length out).flatMap cI≠[]:=fun e=>by
   have h:=aS (gq y.stances.length out);rw[e,ll]at h;have h:0=y.stances.length:=h;omega
  by_cases c3:out E<0
  .have e:jr y E to=false:=by
    unfold jr;rw[<- eo,yw,vk (p:=0<=out E) (by omega),xR,xR]
   rw[e,a3 _ e.symm rfl];simp only[go_sem,k1,c1,c2,k2,k3,ll,S,b6,f1,f2,c3];exact⟨_,_,_,[],rfl,by omega,kT _ _,by simp⟩
  have e:jr y E to=true:=by
   unfold jr;rw[<- eo,hg,yw,vw (p:=0<=out E) (by omega),vw f2,vw (p:=(E:Int)<_) (by omega)];rfl
  obtain⟨⟨t0,t1⟩,es⟩:=abj (y:=y) (al:=b_ y) (to:=to) (i:=E) (by rw[<- eo];omega);rw[<- eo]at es;have c5:Ak y E to=lH y out E (out E).toNat:=by
   unfold Ak;rw[if_pos e,<- eo,yw];rfl
  rw[e,c5];obtain⟨d,hd⟩:∃d:Nat,out E=(d:Int):=⟨(out E).toNat,by omega⟩;have a9:∀i,qX (b_ y) i=true->i<y.stances.length:=fun i hi=>by have:=F5 hi;rw[iC]at this;exact this
  have b2:∀k:Nat,k<=d->out (WL (qP y) out y.stances.length E k)=(d:Int) - k:=fun k hk=>by
   have:=I8 a9 (mv:=qP y) (to:=to.toNat) (a:=E) k (by rw[<- es,hd];omega);rw[<- es,hd]at this;exact this
  have b7:∀k:Nat,k<=d->WL (qP y) out y.stances.length E k<y.stances.length:=fun k hk=>by
   have h1:=b2 k hk;have h2:=Nh (mv:=qP y) (al:=qX (b_ y)) (to:=to.toNat) (i:=WL (qP y) out y.stances.length E k) (by rw[<- es];omega);exact a9 _ h2.1
  have d8:d<=6:=by
   have:=ZI a9 (mv:=qP y) (to:=to.toNat) (a:=E) (by rw[<- es,hd];omega);rw[<- es,hd]at this;omega
  obtain⟨at_,a4⟩:∃at_,at_=WL (qP y) out y.stances.length E:=⟨_,rfl⟩;rw[<- a4]at b2 b7;have c6:∀k,lH y out E (k+1)=lH y out E k++[((at_ (k+1):Nat):Int)]:=fun k=>by rw[a4];exact NG y out E k
  have w0:lH y out E 0=[(E:Int)]:=rfl;have wl:=P6 y out E;have c7:(out E).toNat=d:=by omega
  rw[c7];simp only[go_sem,k1,c1,c2,k2,k3,ll,S,b6,f1,f2,c3];generalize hL:aF _ _=z;obtain⟨x,rfl,T,σ,nx',rfl,J,c8,c9⟩:=bJ hL (fun m st=>∃k,k+m=d/\st.T 3= .rp nx 0/\st.T 8=LI (gq y.stances.length out)/\st.T 10=I (at_ k)/\nx+1<st.nx/\(∃wr,st.σ nx=some ⟨cYard y,0,wr⟩)/\Grow st.T st.σ st.nx 9 (lH y out E k)/\∀b o l,st.T 9= .rs b o l->nx+1<=b)
   (fun x=>∃T σ nx',x=(.exit 0,⟨T,σ,nx'⟩)/\nx+1<nx'/\Grow T σ nx' 9 (lH y out E d)/\∀b o l,T 9= .rs b o l->nx+1<=b) (by
    clear hL;rintro m ⟨T,σ,jo⟩ ⟨k,hk,t3,Y,G,J,⟨wr,O⟩,Jc,hB⟩;simp only at t3 Y G J O Jc hB;have ha:=b7 k (by omega);have ho:=b2 k (by omega);have a5:=la ha;have g1:(at_ k:Int)<(y.stances.length:Int):=by omega
    have g2:(0:Int)<=(at_ k:Int):=by omega
    by_cases hm:m=0
    .subst hm
     have d0:k=d:=by omega
     have g3:¬0<out (at_ k):=by omega
     refine .inr ⟨_,by simp only[go_sem,Y,G,ll,S,a5,g1,g2,ha,g3];rfl,by simp,_,_,_,rfl,J,?_,by simpa only[go_sem]using hB⟩;rw[<- d0];exact dM (by simp only[go_sem]) Jc
    .have g3:0<out (at_ k):=by omega
     have k4:=aoB y hG (at_ k:Int);rw[PZ]at k4;have d9:=Xe y (at_ k);have b3:=adM O (LI (fC (nexts y (at_ k))));obtain⟨a6,b8⟩:∃a6,a6=behind σ [nx] (LI (fC (nexts y (at_ k)))):=⟨_,rfl⟩;rw[<- b8]at b3;have d1:∃wr,a6 nx=some ⟨cYard y,0,wr⟩:=⟨_,by rw[b3,upd_same]⟩;have d2:Grow T a6 jo 9 (lH y out E k):=ZY Jc fun b o l h=>by rw[b3,upd_ne _ _ (by have:=hB b o l h;omega)]
     have w4:=ah (n:=out (at_ k) - 1);have b9:at_ (k+1)=Ie (qP y) out y.stances.length (at_ k):=by rw[a4];rfl
     refine fD ?_
     conv=>
      enter [1,r,1,1]
      simp only[go_sem,t3,Y,G,O,ll,S,a5,g1,g2,ha,g3,k4,f_,<- b8]
     generalize hL:aF _ _=w;obtain⟨r,rfl,T',σ',dI,rfl,t3,Y,G,J,⟨d3,O⟩,Jc,hB⟩:=aB hL (nexts y (at_ k)).length (fun j st=>st.T 3= .rp nx 0/\st.T 8=LI (gq y.stances.length out)/\st.T 10=I (at_ k)/\st.T 44=LI (fC (nexts y (at_ k)))/\st.T 45=I (nexts y (at_ k)).length/\st.T 46=I j/\nx+1<st.nx/\(∃wr,st.σ nx=some ⟨cYard y,0,wr⟩)/\Grow st.T st.σ st.nx 9 (lH y out E k)/\(∀b o l,st.T 9= .rs b o l->nx+1<=b)/\∀i (hi:i<(nexts y (at_ k)).length),i<j->(out (nexts y (at_ k))[i]==out (at_ k) - 1)=false)
      (fun r=>∃T σ dI,r=(.exit 2,⟨T,σ,dI⟩)/\T 3= .rp nx 0/\T 8=LI (gq y.stances.length out)/\T 10=I (at_ (k+1))/\nx+1<dI/\(∃wr,σ nx=some ⟨cYard y,0,wr⟩)/\Grow T σ dI 9 (lH y out E k)/\∀b o l,T 9= .rs b o l->nx+1<=b) (by
       clear hL;rintro j ⟨T,σ,jo⟩ hj ⟨t3,Y,G,a1,a2,a7,J,O,Jc,hB,a8⟩;simp only at t3 Y G a1 a2 a7 J O Jc hB;have f1:(j:Int)<((nexts y (at_ k)).length:Int):=by omega
       have f2:=aI j;have f3:=ah (n:=(j:Int)+1);have f4:=P5 (nexts y (at_ k)) hj;have f5:=f_ (nexts y (at_ k));have f6:(fC (nexts y (at_ k))).flatMap cI≠[]:=fun e=>by
        have h:=aS (fC (nexts y (at_ k)));rw[e,f5]at h;have h:0=(nexts y (at_ k)).length:=h;omega
       have hc:=Xd hj;have b4:=la hc;obtain⟨c,ec⟩:∃c,c=(nexts y (at_ k))[j]:=⟨_,rfl⟩;rw[<- ec]at f4 hc b4;have i1:(c:Int)<(y.stances.length:Int):=by omega
       have i2:=aI c;cases hq:(out c==out (at_ k) - 1)with
       |true=>
        have hn:=ahe hj a8 (by rw[<- ec];exact hq);refine .inr ⟨_,by simp only[go_sem,t3,Y,G,a1,a2,a7,ll,S,a5,b4,g1,g2,ha,f1,f2,f3,f4,f5,f6,hj,hc,i1,i2,w4,hq];rfl,by simp,_,_,_,rfl,?_⟩;simp only[go_sem,t3,Y];rw[b9,hn,<- ec];exact⟨rfl,J,O,dM (by simp only[go_sem]) Jc,hB⟩
       |false=>
        refine .inl ⟨_,by simp only[go_sem,t3,Y,G,a1,a2,a7,ll,S,a5,b4,g1,g2,ha,f1,f2,f3,f4,f5,f6,hj,hc,i1,i2,w4,hq];rfl,?_⟩;simp only[go_sem,t3,Y,G,a1,a2];refine⟨rfl,J,O,dM (by simp only[go_sem]) Jc,hB,fun i hi e0=>?_⟩
        by_cases e:i=j
        .subst e;rw[<- ec];exact hq
        .exact a8 i hi (by omega)) (by
       clear hL;rintro ⟨T,σ,jo⟩ ⟨t3,Y,G,a1,a2,a7,J,O,Jc,hB,a8⟩;exfalso;obtain⟨j,hj,hq⟩:=ND (y:=y) (al:=b_ y) (iC y) (to:=to.toNat) (a:=at_ k) (by rw[<- es];exact g3);rw[<- es,a8 j hj hj]at hq;cases hq) (by
       simp only[go_sem,t3,Y,G];exact⟨J,d1,dM (by simp only[go_sem]) d2,hB,fun i hi h0=>absurd h0 (zW _)⟩)
     obtain⟨kP,c0,d4,d5⟩:=nP Jc (at_ (k+1):Int) (by rw[wl];omega);rw[wl]at c0;refine⟨_,by simp only[go_sem,G,c0];rfl,.inl ⟨_,rfl,m-1,by omega,k+1,by omega,?_⟩⟩;simp only[go_sem,t3,Y,G];refine⟨by omega,?_,?_,fun b o l hb=>?_⟩
     .exact⟨d3,by rw[d5 nx (by omega) (fun b o l hb=>by have:=hB b o l hb;omega)];exact O⟩
     .rw[c6]
      exact fH d4 (by simp only[go_sem,zo,wl]) (by simp)
     .cases hb;omega) d (by
    simp only[go_sem];refine⟨0,by omega,by rw[a4];rfl,by omega,⟨_,by rw[ay,upd_same]⟩,.inr ⟨nx+1,?_,by rw[w0];simp,?_,by omega⟩,fun b o l hb=>by cases hb;omega⟩
    .simp only[go_sem]
     rfl
    .rw[upd_same];rfl)
  obtain⟨ids,d6,d7⟩:=VA c8 c9;simp only[go_sem];exact⟨_,_,_,ids,rfl,by omega,d6,fun b hb=>by have:=d7 b hb;omega⟩
theorem Oz(y:Yard)(G:okYard y)(fr to:Int):fn Tryz.prog fK jJ 30 [.agg (cYard y),I fr,I to]=some (I (Ak y fr to).length):=by
 obtain⟨v,J,O,ids,k,hn,o1,hi⟩:=adN y G fr to 1;have E:=fun d=>o1.gather (d':=d+1) (by omega)
 rw[aH,ak [.tmp 6] [] Tryz.func30];rcases LP o1 with ⟨rfl,e,_⟩|⟨b,st,rfl,_⟩
 .rw[e]
  simp only[go_sem,k,E]
 .simp only[go_sem,k,E]
noncomputable def NH(y:Yard):List Int:=if pb (dw y)=true then pO (qX (b_ y)) y.stances.length else []
theorem EX(y:Yard)(Y:okYard y)(nx:Nat):∃v E G ids,ev Tryz.prog fK jJ 23 [.agg (cYard y)] aK nx=some (v,E,G)/\nx<=G/\Own E 1 v (LI (NH y)) ids/\∀b∈ids,nx<=b/\b<G:=by
 have O:=QW y Y;unfold NH;rw[ak [.tmp 2] [] Tryz.func23];cases S:pb (dw y)with
 |false=>
  rw[S]at O;rw[if_neg (by simp)];simp only[go_sem,O];exact⟨_,_,_,[],rfl,by omega,kT _ _,by simp⟩
 |true=>
  rw[S]at O;rw[if_pos rfl];have hG:=EP S;have k2:=ahd y Y hG.1;obtain⟨v,E,G,ids,k3,hn,o1,hi⟩:=aaE (b_ y) (by rw[iC];have:=hG.1;omega) (nx+1);have g1:=fun d=>o1.gather (d':=d+1) (by omega)
  rw[iC]at o1;have e:pO (fun i=>(b_ y)[i]?==some true) y.stances.length=pO (qX (b_ y)) y.stances.length:=Pe fun i hi=>by
   have J:i<(b_ y).length:=by rw[iC];exact hi
   rw[uU J,zy J];cases (b_ y)[i]<;>rfl
  rw[e]at o1;simp only[go_sem,O,k2,k3,g1];exact⟨v,_,G,ids,rfl,by omega,o1.join fun b hb=>(hi b hb).1,fun b hb=>by have:=hi b hb;omega⟩
noncomputable def blk(y:Yard)(fr to:Int)(i:Nat):Bool:=!((i:Int)==fr) && (!((i:Int)==to) && (qX (b_ y) i && decide (SV y ((b_ y).set i false) to fr.toNat<0)))
end Go.Proofs.YtehdaknhabeiaaaGreat
namespace Go.Proofs.YtehdaknhabeiaaaGreat
open Go Go.TV Go.Lp
theorem asA(neg:Bool)(m n:Nat)(hm:ln m<=24)(h0:n≠0)(hn:ln n<=24) :
  fn Tryz.prog conv ext 202 [Bo neg,LI (dg m),LI (dg n)]=some (.agg [Bo (neg && decide (0<(dg (m / Nat.gcd m n)).length)),LI (dg (m / Nat.gcd m n)),LI (dg (n / Nat.gcd m n))]):=by
 have J:Nat.gcd m n≠0:=fun e=>h0 (Nat.eq_zero_of_gcd_eq_zero_right e)
 have O:Nat.gcd m n<=n:=Nat.gcd_le_right _ (by omega);have a0:n / Nat.gcd m n≠0:=by
  have:=Nat.div_pos O (by omega);omega
 have hg:=fQ O;have k1:=ER (dg m) (qp (by omega));have k2:=ER (dg n) (qp (by omega));rw[pJ]at k1 k2;have S:=O7 n (by omega);have k4:=ag0 m n (by omega) (by omega);have Y:=O7 (Nat.gcd m n) (by omega);have k6:=WR m (Nat.gcd m n) J (by omega) (by omega);have k7:=WR n (Nat.gcd m n) J (by omega) (by omega);have lx:=agf m (Nat.gcd m n);have ly:=agf n (Nat.gcd m n);have G:=afq neg (dg (m / Nat.gcd m n)) (qp (by omega)) (by rw[pJ];show ln _<=60;omega);rw[pJ]at G;have l0:(((dg n).length:Int)==0)=false:=by rw[w_];have:=jh (iH h0);omega
 have c1:¬(24:Int)<((dg (m / Nat.gcd m n)).length:Int):=by unfold ln at lx hm;omega
 have c2:¬(24:Int)<((dg (n / Nat.gcd m n)).length:Int):=by unfold ln at ly hn;omega
 have z1:¬(dg (n / Nat.gcd m n)).length=0:=jh (iH a0);have s1:(dg (n / Nat.gcd m n)).length<=maxLen/\(dg (n / Nat.gcd m n)).length*8<=140737488355328:=by unfold maxLen;unfold ln at ly hn;omega
 rw[aH,ak [.cell 6 147] [] Tryz.func202]
 by_cases h1:n=1
 .have E:Nat.gcd m n=1:=by rw[h1,Nat.gcd_one_right]
  simp only[E,x9]at c1 c2 G z1 s1⊢;rw[vw h1]at S;simp only[go_sem,k1,k2,S,G,l0,c1,c2,z1,s1]
 .rw[vk h1]at S
  by_cases E:Nat.gcd m n=1
  .rw[vw E]at Y
   rw[E]at k4 Y;simp only[E,x9]at c1 c2 G z1 s1⊢;simp only[go_sem,k1,k2,S,k4,Y,G,l0,c1,c2,z1,s1]
  .rw[vk E]at Y
   simp only[go_sem,k1,k2,S,k4,Y,k6,k7,G,l0,c1,c2,z1,s1]
theorem SX(z:Int)(d:Nat)(O:ln z.natAbs<=24)(J:d≠0)(S:ln d<=24)(b:Bool)(n:Nat)(hb:dP b n=z):fn Tryz.prog conv ext 202 [Bo b,LI (dg n),LI (dg d)]=some (.agg (cQ (mkRat z d))):=by
 have hn:n=z.natAbs:=by rw[<- hb];unfold dP;split<;>omega
 subst hn;rw[asA b z.natAbs d O J S,afx z J];unfold acW
 by_cases E:z.natAbs=0
 .rw[E,Nat.zero_div,bH];simp
 .have:b=decide (z<0):=by
   have G:=hb;unfold dP at G;cases b with
   |true=>rw[if_pos rfl]at G;rw[vw (by omega)]
   |false=>rw[if_neg (by decide)]at G;rw[vk (by omega)]
  rw[this]
theorem SY(q:Rat)(h:Ln 24 q):fn Tryz.prog conv ext 176 [.agg (cQ q)]=some (Bo true):=by
 have l1:(dg q.num.natAbs).length<=24:=h.1;have l2:(dg q.den).length<=24:=h.2;have E:=OZ (decide (q.num<0)) (dg q.num.natAbs) (by unfold Short;omega);have S:(!decide (q.num<0)||decide (0<(dg q.num.natAbs).length))=true:=by
  by_cases hn:q.num<0
  .rw[vw (List.length_pos_iff.mpr (iH (by omega))),Bool.or_true]
  .rw[vk hn];rfl
 rw[dZ (uS (by have:=h.1;omega)),S]at E;have G:=QY (dg q.den) (by unfold Short;omega);rw[dZ (uS (by have:=h.2;omega))]at G;have J:=ag0 q.num.natAbs q.den (by have:=h.1;omega) (by have:=h.2;omega);rw[q.reduced]at J;have O:=aqV (dg 1) (Vh (by decide));rw[vw ((O4 1).mpr rfl)]at O;have Y:(((dg q.den).length:Int)==0)=false:=by rw[w_];have:=jh (iH q.den_nz);omega
 have c1:¬(24:Int)<((dg q.num.natAbs).length:Int):=by omega
 have c2:¬(24:Int)<((dg q.den).length:Int):=by omega
 unfold cQ;rw[aH,ak [.tmp 2] [] Tryz.func176];simp only[go_sem,Bool.true_and]at E;simp only[go_sem,E,G,J,O,Y,c1,c2]
theorem akJ(q:Rat)(d:Nat)(hb:ln (q.num*d).natAbs<=60):fn Tryz.prog conv ext 178 [Bo (decide (q.num<0)),LI (dg (q.num.natAbs*d))]=some (.agg (cZ (q.num*d))):=by
 have e:dP (decide (q.num<0)) (q.num.natAbs*d)=q.num*d:=by
  have h:=uH q.num
  conv=>rhs;rw[<- h]
  unfold dP
  by_cases E:q.num<0
  .rw[vw E,if_pos rfl,if_pos rfl,yj,Int.neg_mul]
  .rw[vk E,if_neg (by decide),if_neg (by decide),yj]
 rw[Int.natAbs_mul,wz]at hb;rw[LM _ _ hb,e]
theorem Ln.up {k:Nat} {q:Rat}(h:Ln k q)(E:k<=24):ln q.num.natAbs<=1000000/\ln q.den<=1000000:=⟨by have:=h.1;omega,by have:=h.2;omega⟩
theorem abk {a b:Nat}(x y:Rat)(E:Ln a x)(G:Ln b y)(a1:a+b<=23):fn Tryz.prog conv ext 171 [.agg (cQ x),.agg (cQ y)]=some (.agg (cQ (x+y))):=by
 have n1:=ET E G;have n2:=ET G E;have a2:=MJ E G;have J:=E.up (by omega);have O:=G.up (by omega);have o1:=O7 x.den J.2;have S:=O7 y.den O.2;have k1:=vY x.num.natAbs y.den J.1 O.2;have k2:=vY y.num.natAbs x.den O.1 J.2;have k3:=vY x.den y.den J.2 O.2;have k4:=akJ x y.den (by omega);have k5:=akJ y x.den (by omega);have n3:=G7 (x.num*y.den) (y.num*x.den);have k6:=Vo (x.num*y.den) (y.num*x.den) (by omega) (by omega) (by omega);have k7:=SX (x.num*y.den+y.num*x.den) (x.den*y.den) (by omega) (dd0 x y) (by omega) (decide (x.num*y.den+y.num*x.den<0)) (x.num*y.den+y.num*x.den).natAbs (uH _);rw[<- Rat.add_def']at k7;rw[aH,ak [.cell 4 147] [] Tryz.func171]
 by_cases Y:x.den=1
 .by_cases h2:y.den=1
  .have n4:=G7 x.num y.num
   have a3:=E.1;have a4:=G.1;have m1:=Vo x.num y.num J.1 O.1 (by omega);have m2:=SX (x.num+y.num) 1 (by omega) (by decide) (by have:=lS (n:=1) (by decide);omega) (decide (x.num+y.num<0)) (x.num+y.num).natAbs (uH _);have e:mkRat (x.num+y.num) 1=x+y:=by rw[Rat.add_def',Y,h2];simp
   rw[e,oP (d:=1) (by decide) (by decide)]at m2;have a0:fn Tryz.prog conv ext 202 [Bo (decide (x.num+y.num<0)),LI (dg (x.num+y.num).natAbs),.ts [I 1] 1]=some (.agg (cQ (x+y))):=m2
   rw[vw Y]at o1;rw[vw h2]at S;unfold cZ at *;unfold cQ at *;simp only[go_sem,o1,S,m1,a0]
  .rw[vw Y]at o1
   rw[vk h2]at S;unfold cZ at *;unfold cQ at *;simp only[go_sem,o1,S,k1,k2,k3,k4,k5,k6,k7]
 .rw[vk Y]at o1
  unfold cZ at *;unfold cQ at *;simp only[go_sem,o1,k1,k2,k3,k4,k5,k6,k7]
theorem alA {x y:Rat} {k l:Nat}(h:Ln k x)(E:Ln l y):ln (x.num.natAbs*y.num.natAbs)<=k+l:=by
 have:=qL x.num.natAbs y.num.natAbs;have:=h.1;have:=E.1;omega
theorem S9(b:Bool)(n:Nat):(dP b n).natAbs=n:=by unfold dP;split<;>omega
theorem asB {a b:Nat}(x y:Rat)(E:Ln a x)(G:Ln b y)(Y:a+b<=24):fn Tryz.prog conv ext 207 [.agg (cQ x),.agg (cQ y)]=some (.agg (cQ (x*y))):=by
 have J:=E.up (by omega);have O:=G.up (by omega);have n1:=alA E G;have n2:=MJ E G;have k1:=vY x.num.natAbs y.num.natAbs J.1 O.1;have k2:=vY x.den y.den J.2 O.2;have S:=SX (dP (decide (x.num<0) !=decide (y.num<0)) (x.num.natAbs*y.num.natAbs)) (x.den*y.den) (by rw[S9];omega) (dd0 x y) (by omega) _ _ rfl;rw[<- aaW]at S;have e:∀a b:Bool,(!a==b)=(a !=b):=by decide
 unfold cQ at *;rw[aH,ak [.cell 4 147] [] Tryz.func207];simp only[go_sem,k1,k2,S,e]
theorem alC {a b:Nat}(x y:Rat)(E:Ln a x)(G:Ln b y)(Y:a+b<=24)(h0:y.num≠0):fn Tryz.prog conv ext 203 [.agg (cQ x),.agg (cQ y)]=some (.agg (cQ (x / y))):=by
 have J:=E.up (by omega);have O:=G.up (by omega);have o1:=SY x (E.mono (by omega));have o2:=SY y (G.mono (by omega));have n1:=qL x.num.natAbs y.den;have n2:=qL x.den y.num.natAbs;have:=E.1;have:=E.2;have:=G.1;have:=G.2;have k1:=vY x.num.natAbs y.den J.1 O.2;have k2:=vY x.den y.num.natAbs J.2 O.1;have S:=SX (dP (decide (x.num<0) !=decide (y.num<0)) (x.num.natAbs*y.den)) (x.den*y.num.natAbs) (by rw[S9];omega) (Nat.mul_ne_zero x.den_nz (by omega)) (by omega) _ _ rfl;rw[<- afy x y h0]at S;have e:∀a b:Bool,(!a==b)=(a !=b):=by decide
 unfold cQ at *;rw[aH,ak [.cell 4 147] [] Tryz.func203];simp only[go_sem,o1,o2,k1,k2,S,e]
theorem ahg(x y:Int)(O:ln x.natAbs<=1000000)(S:ln y.natAbs<=1000000):fn Tryz.prog conv ext 184 [.agg (cZ x),.agg (cZ y)]=some (I (dB x y)):=by
 have Y:=Vl x.natAbs y.natAbs O S;have k2:=Vl y.natAbs x.natAbs S O;rw[aH,ak [.tmp 4] [] Tryz.func184];unfold cZ at *
 by_cases G:x<0<;>by_cases J:y<0
 .have e:fJ y.natAbs x.natAbs=dB x y:=by
   unfold fJ dB
   by_cases h:x<y
   .rw[if_pos (show y.natAbs<x.natAbs by omega),if_pos h]
   .rw[if_neg (show ¬y.natAbs<x.natAbs by omega),if_neg h]
    by_cases E:x=y
    .rw[if_pos (by omega),if_pos E]
    .rw[if_neg (by omega),if_neg E]
  rw[e]at k2;rw[vw G,vw J];simp only[go_sem,k2]
 .have e:dB x y= -1:=by unfold dB;rw[if_pos (by omega)]
  rw[vw G,vk J,e];simp only[go_sem]
 .have e:dB x y=1:=by unfold dB;rw[if_neg (by omega),if_neg (by omega)]
  rw[vk G,vw J,e];simp only[go_sem]
 .have e:fJ x.natAbs y.natAbs=dB x y:=by
   unfold fJ dB
   by_cases h:x<y
   .rw[if_pos (show x.natAbs<y.natAbs by omega),if_pos h]
   .rw[if_neg (show ¬x.natAbs<y.natAbs by omega),if_neg h]
    by_cases E:x=y
    .rw[if_pos (by omega),if_pos E]
    .rw[if_neg (by omega),if_neg E]
  rw[e]at Y;rw[vk G,vk J];simp only[go_sem,Y]
theorem alD {a b:Nat}(x y:Rat)(E:Ln a x)(G:Ln b y)(S:a+b<=60)(ha:a<=24)(hb:b<=24):fn Tryz.prog conv ext 156 [.agg (cQ x),.agg (cQ y)]=some (I (dB (x.num*y.den) (y.num*x.den))):=by
 have J:=E.up ha;have O:=G.up hb;have n1:=ET E G;have n2:=ET G E;have Y:=vY x.num.natAbs y.den J.1 O.2;have k2:=vY y.num.natAbs x.den O.1 J.2;have k3:=akJ x y.den (by omega);have k4:=akJ y x.den (by omega);have k5:=ahg (x.num*y.den) (y.num*x.den) (by omega) (by omega);unfold cZ at *;unfold cQ at *;rw[aH,ak [.tmp 4] [] Tryz.func156];simp only[go_sem,Y,k2,k3,k4,k5]
theorem F6(x:Rat)(S:Ln 24 x):fn Tryz.prog conv ext 141 [.agg (cQ x)]=some (I (dB x.num 0)):=by
 have J:=SY x S;have main:∀m:List Int,fn Tryz.prog conv ext 176 [.agg [Bo (decide (x.num<0)),LI m,LI (dg x.den)]]=some (Bo true)->m=[]->fn Tryz.prog conv ext 141 [.agg [Bo (decide (x.num<0)),LI m,LI (dg x.den)]]=some (I 0):=fun m k hm=>by
  have E:((m.length:Int)==0)=true:=by rw[hm];rfl
  rw[aH,ak [.tmp 2] [] Tryz.func141];simp only[go_sem,k,E]
 unfold cQ at *
 by_cases O:x.num=0
 .have e:dB x.num 0=0:=by rw[O];rfl
  rw[e];exact main _ J (by rw[O,Int.natAbs_zero,bH])
 rw[aH,ak [.tmp 2] [] Tryz.func141]
 .have E:(((dg x.num.natAbs).length:Int)==0)=false:=by rw[w_];have:=jh (iH (n:=x.num.natAbs) (by omega));omega
  by_cases G:x.num<0
  .have e:dB x.num 0= -1:=by unfold dB;rw[if_pos G]
   rw[vw G]at *;simp only[go_sem,J,E,e]
  .have e:dB x.num 0=1:=by unfold dB;rw[if_neg G,if_neg (by omega)]
   rw[vk G]at *;simp only[go_sem,J,E,e]
theorem aoE(x:Rat)(E:Ln 24 x):fn Tryz.prog conv ext 145 [.agg (cQ x)]=some (.agg (cQ x)):=by
 have l1:(dg x.num.natAbs).length<=24:=E.1;have l2:(dg x.den).length<=24:=E.2;have G:¬(dg x.den).length=0:=jh (iH x.den_nz);have J:(dg x.den).length<=maxLen/\(dg x.den).length*8<=140737488355328:=by unfold maxLen;omega
 have S:(dg x.num.natAbs).length<=maxLen/\(dg x.num.natAbs).length*8<=140737488355328:=by unfold maxLen;omega
 unfold cQ;rw[aH,ak [.cell 2 147] [1] Tryz.func145]
 by_cases O:(dg x.num.natAbs).length=0
 .have Y:dg x.num.natAbs=[]:=zZ O
  rw[Y]
  (simp only[go_sem,G,J])<;>rfl
 .simp only[go_sem,G,J,O,S]
def oC {α:Type}(W L:List α)(c:Nat):List α:=W.take c++L.drop c
section
variable {α:Type} {W L:List α} {c:Nat}
theorem Jd(W L:List α):oC W L 0=L:=by simp[oC]
theorem kW(h:W.length=L.length)(hc:c<=L.length):(oC W L c).length=L.length:=by unfold oC;simp;omega
theorem Hu(h:W.length=L.length)(hc:c<L.length):(oC W L c)[c]'(by rw[kW h (by omega)];exact hc)=L[c]:=by
 have:(oC W L c)[c]?=L[c]?:=by
  unfold oC;rw[zQ (by simp;omega),xY];congr 1;simp;omega
 rw[zy (by rw[kW h (by omega)];exact hc),zy hc]at this;exact Option.some.inj this
theorem Hw(h:W.length=L.length)(hc:c<L.length):(oC W L c).set c (W[c]'(by omega))=oC W L (c+1):=by
 unfold oC;have E:(W.take c).length=c:=by simp;omega
 rw[yD _ _ (by omega),E,yQ,yU hc,List.set_cons_zero,yO,zy (by omega),zB];rfl
theorem Je(h:W.length=L.length):oC W L L.length=W:=by
 unfold oC;rw[zk (by omega),xw (zq _),zM]
theorem P7(h:W.length=L.length)(hc:c<L.length)(e:W[c]'(by omega)=L[c]):oC W L c=oC W L (c+1):=by
 rw[<- Hw h hc,e];have:=Hu h hc
 conv=>rhs;rw[<- this]
 rw[List.set_getElem_self]
end
theorem DC {q:Rat}:q.num=0↔q=0:=Rat.num_eq_zero
theorem Z4(q:Rat):(dB q.num 0 !=0)= !decide (q=0):=by rw[RI,decide_eq_decide.mpr DC]
theorem ahh(q:Rat):(dB q.num 0==0)=decide (q=0):=by rw[ML,decide_eq_decide.mpr DC]
theorem akK {q:Rat}:0<q.num↔0<q:=by
 have E:=Rat.num_nonneg (q:=q);have G:=DC (q:=q);constructor
 .intro h
  have:0<=q:=E.mp (by omega);have:q≠0:=fun e=>by have:=G.mpr e;omega
  grind
 .intro h
  have J:0<=q.num:=E.mpr (by grind);have O:q.num≠0:=fun e=>by have:=G.mp e;grind
  omega
theorem S_(q:Rat):dB q.num 0<=0↔¬0<q:=by rw[Em,akK]
theorem ahi {x t:List Rat} {f:Rat} {i:Nat}(h:i<x.length)(E:i<t.length):(JW x t f)[i]'(by unfold JW;rw[List.length_zipWith];omega)=x[i] - f*t[i]:=by simp only[JW,List.getElem_zipWith]
theorem getD_at {α:Type} {xs:List α} {k:Nat}(h:k<xs.length)(d:α):xs.getD k d=xs[k]:=by rw[zx,zy h];rfl
theorem aoF {σ:Store} {nx bi bR N k:Nat} {x t:List Rat}(hx:x.length=N+1)(ht:t.length=N+1)(hN:N<=1000)(hk:k<N+1)(bx:∀u∈x,Ln 6 u)(bt:∀v∈t,Ln 6 v)(h1:σ bi=some ⟨x.flatMap cQ,3,true⟩)(h2:σ bR=some ⟨t.flatMap cQ,3,true⟩)(a1:bi≠bR)(a2:bi<nx)(a5:bR<nx) :
  ∃σ' nx',ev Tryz.prog aU bU 177 [.rs bi 0 (N+1),.rs bR 0 (N+1),I k] σ nx=some (.dS [],σ',nx')/\σ' bi=some ⟨(JW x t (x.getD k 0)).flatMap cQ,3,true⟩/\nx<=nx'/\∀b,b<nx->b≠bi->σ' b=σ b:=by
 obtain⟨f,ef⟩:∃f,f=x.getD k 0:=⟨_,rfl⟩;have a0:x[k]'(by omega)=f:=by rw[ef,getD_at (by omega)]
 have bf:Ln 6 f:=by rw[<- a0];exact bx _ (zu (by omega))
 have a3:=aI k;have a4:(k:Int)<((N+1:Nat):Int):=by omega
 have a6:=slot (c:=cQ) (s:=3) bD x k (by omega);rw[a0]at a6;have a7:=aN (c:=cQ) (s:=3) bD x;rw[hx]at a7;have a8:k*3+3<=(N+1)*3:=by omega
 have k1:=F6 f (bf.mono (by decide));rw[<- ef];rw[ak [] [7] Tryz.func177]
 by_cases O:f=0
 .have s1:=ahh f
  rw[vw O]at s1;refine⟨upd σ nx (some ⟨cQ f,0,true⟩),nx+1,by simp only[go_sem,h1,a3,a4,a6,a7,a8,k1,s1,jf],?_,by omega,fun b hb _=>by rw[ay]⟩;rw[ay,h1];congr 3;subst O;apply yR
  .rw[Ei (by omega)]
  .intro i g1 g2
   rw[ahi g1 (by omega)];grind
 .have s1:=ahh f
  rw[vk O]at s1;obtain⟨W,eW⟩:∃W,W=JW x t f:=⟨_,rfl⟩;have b2:W.length=N+1:=by rw[eW,Ei (by omega),hx]
  have G:W.length=x.length:=by omega
  have k2:=afz f (by have:=bf.1;omega) (by have:=bf.2;omega);rw[<- eW];obtain⟨s0,S⟩:∃s0,s0=upd (upd σ nx (some ⟨cQ f,0,true⟩)) (nx+1) (some ⟨cQ (-f),0,true⟩):=⟨_,rfl⟩;have XG:∀b,b<nx->s0 b=σ b:=fun b hb=>by rw[S,ay,ay]
  have a9:s0 (nx+1)=some ⟨cQ (-f),0,true⟩:=by rw[S,upd_same]
  simp only[go_sem,h1,a3,a4,a6,a7,a8,k1,s1,k2,jf,<- S];generalize hL:aF _ _=y;obtain⟨r,rfl,T',σ',nx',rfl,hn,hr,fr⟩:=aB hL (N+1) (fun j st=>st.T 0= .rs bi 0 (N+1)/\st.T 1= .rs bR 0 (N+1)/\st.T 7= .rp (nx+1) 0/\st.T 19=I ((N+1:Nat):Int)/\st.T 20=I j/\nx+2<=st.nx/\st.σ bi=some ⟨(oC W x j).flatMap cQ,3,true⟩/\∀b,b<nx+2->b≠bi->st.σ b=s0 b)
   (fun r=>∃T σ' nx',r=(.exit 0,⟨T,σ',nx'⟩)/\nx+2<=nx'/\σ' bi=some ⟨W.flatMap cQ,3,true⟩/\∀b,b<nx+2->b≠bi->σ' b=s0 b) (by
    clear hL;rintro j ⟨T,Y,m0⟩ hj ⟨t0,t1,t7,E,J,hm,hb,fr⟩;simp only at t0 t1 t7 E J hm hb;have g1:(j:Int)<((N+1:Nat):Int):=by omega
    have g2:=aI j;have g3:=ah (n:=(j:Int)+1);have g4:=slot (c:=cQ) (s:=3) bD (oC W x j) j (by rw[kW G (by omega)];omega);rw[Hu G (by omega)]at g4;have g5:=aN (c:=cQ) (s:=3) bD (oC W x j);rw[kW G (by omega),hx]at g5;have g6:j*3+3<=(N+1)*3:=by omega
    have g7:=slot (c:=cQ) (s:=3) bD t j (by omega);have g8:=aN (c:=cQ) (s:=3) bD t;rw[ht]at g8;obtain⟨v,ev⟩:∃v,v=t[j]'(by omega):=⟨_,rfl⟩;obtain⟨u,eu⟩:∃u,u=x[j]'(by omega):=⟨_,rfl⟩;have bv:Ln 6 v:=by rw[ev];exact bt _ (zu (by omega))
    have bu:Ln 6 u:=by rw[eu];exact bx _ (zu (by omega))
    have hw:W[j]'(by omega)=u-f*v:=by subst eW;rw[ahi (by omega) (by omega),eu,ev]
    rw[<- ev]at g7;rw[<- eu]at g4;have e1:Y bR=_:=(fr bR (by omega) (yu a1)).trans ((XG bR a5).trans h2);have e2:Y (nx+1)=_:=(fr (nx+1) (by omega) (by omega)).trans a9;have k3:=F6 v (bv.mono (by decide));have l1:bi<m0:=by omega
    have l2:bR<m0:=by omega
    have l3:nx+1<m0:=by omega
    have s3:=Z4 v
    by_cases hv:v=0
    .rw[vw hv,Bool.not_true]at s3
     refine .inl ⟨_,by simp only[go_sem,t0,t1,t7,E,J,hb,e1,g1,g2,g3,g6,g7,g8,k3,s3];rfl,?_⟩;simp only[go_sem,t0,t1,t7,E];refine⟨rfl,hm,?_,fr⟩;rw[<- P7 G (by omega) (by rw[hw,<- eu,hv];grind)];exact hb
    .rw[vk hv,xJ]at s3
     have k4:=asB (-f) v (a:=6) (b:=6) ⟨by rw[Rat.neg_num,wG];exact bf.1,by rw[Rat.neg_den];exact bf.2⟩ bv (by decide);have k5:=abk u (-f*v) (a:=6) (b:=12) bu (ZG (k:=6) (l:=6) ⟨by rw[Rat.neg_num,wG];exact bf.1,by rw[Rat.neg_den];exact bf.2⟩ bv (by decide)) (by decide);have c6:patch ((oC W x j).flatMap cQ) (j*3) (cQ (u+ -f*v))=(oC W x (j+1)).flatMap cQ:=by
      rw[iU bD _ _ (by rw[kW G (by omega)];omega),show u+ -f*v=W[j]'(by omega) by rw[hw];grind,Hw G (by omega)]
     refine .inl ⟨_,by simp only[go_sem,t0,t1,t7,E,J,hb,e1,e2,g1,g2,g3,g4,g5,g6,g7,g8,k3,s3,k4,k5,c6,l1,l2,l3];rfl,?_⟩;simp only[go_sem,t0,t1,t7,E];refine⟨rfl,hm,fun b hb hn=>?_⟩;rw[upd_ne _ _ hn];exact fr b hb hn) (by
    clear hL;rintro ⟨T,Y,m0⟩ ⟨t0,t1,t7,E,J,hm,hb,fr⟩;simp only at t0 t1 t7 E J hm hb;refine⟨_,by simp only[go_sem,E,J,zl];rfl,by simp,_,_,_,rfl,hm,?_,fr⟩;rw[<- hx,Je G]at hb;exact hb) (by
    simp only[go_sem];refine⟨?_,fun _ _ _=>trivial⟩;rw[Jd,XG bi a2];exact h1)
  exact⟨σ',nx',by simp only[go_sem],hr,by omega,fun b hb hn=>(fr b (by omega) hn).trans (XG b hb)⟩
theorem Tc {σ:Store} {nx bi bR N k:Nat} {x t:List Rat}(Y:x.length=N+1)(ht:t.length=N+1)(hN:N<=1000)(hk:k<N+1)(bx:∀u∈x,Ln 6 u)(bt:∀v∈t,Ln 6 v)(h1:σ bi=some ⟨x.flatMap cQ,3,true⟩)(h2:σ bR=some ⟨t.flatMap cQ,3,true⟩)(G:bi≠bR)(J:bi<nx)(O:bR<nx) :
  ∃S nx' σ',ev Tryz.prog aU bU 177 [.rs bi 0 (N+1),.rs bR 0 (N+1),I k] (restrict σ [bi,bR]) nx=some (.dS [],S,nx')/\aY [bi,bR] nx nx' σ S=σ'/\σ' bi=some ⟨(JW x t (x.getD k 0)).flatMap cQ,3,true⟩/\nx<=nx'/\∀b,b<nx->b≠bi->σ' b=σ b:=by
 obtain⟨s2,nx',e,g1,g2,g3⟩:=aoF (σ:=restrict σ [bi,bR]) Y ht hN hk bx bt ((fF σ bi bR).trans h1) ((G8 σ bi bR).trans h2) G J O;refine⟨s2,nx',_,e,rfl,?_,g2,fun b hb hn=>?_⟩
 .unfold aY;rw[if_pos (.inl (by simp))];exact g1
 .unfold aY
  split
  .rename_i E
   rw[g3 b hb hn];unfold restrict;rcases E with E|E
   .rw[if_pos E]
   .omega
  .rfl
def GV(σ:Store)(v:V)(n:Nat)(cs:List V):Prop:=(n=0/\v= .nil)\/∃b,0<n/\v= .rs b 0 n/\σ b=some ⟨cs,1,true⟩
def bk:V->List Nat
 | .rs b _ _=>[b]
 |_=>[]
def pW(R:List (List Rat))(i:Nat):List Rat:=R.getD i []
structure tV (σ:Store) (bt bc:Nat) (vr vb:V) (rb:List Nat) (D:TQ) (N:Nat):Prop where
 t:σ bt=some ⟨[I N,vr,vb,.rs bc 0 (N+1)],0,true⟩
 r:GV σ vr D.R.length (rb.map fun b=>V.rs b 0 (N+1))
 row:∀i (h:i<rb.length),σ rb[i]=some ⟨(pW D.R i).flatMap cQ,3,true⟩
 b:GV σ vb D.R.length ((iT D.B).flatMap cI)
 c:σ bc=some ⟨D.c.flatMap cQ,3,true⟩
 len:rb.length=D.R.length
 nd:(bt :: bc :: (bk vr++bk vb++rb)).Nodup
structure ShF (D:TQ) (N:Nat):Prop where
 row:∀x∈D.R,x.length=N+1
 fV:D.B.length=D.R.length
 BN:D.c.length=N+1
 BO:D.R.length<=1000
 sz:N<=1000
 big:∀x∈D.R,∀q∈x,Ln 6 q
 akL:∀q∈D.c,Ln 6 q
 inB:∀b∈D.B,b<1000000
theorem iW {R:List (List Rat)} {i:Nat}(h:i<R.length):pW R i=R[i]:=getD_at h []
theorem rF {R:List (List Rat)} {n i:Nat}(hn:∀x∈R,x.length=n)(h:i<R.length):(pW R i).length=n:=by rw[iW h];exact hn _ (zu h)
theorem abl {R:List (List Rat)} {r k i:Nat}(hi:i<R.length):pW (nU R r k) i=if i=r then(pW R i).map (· / iM R r k)else JW (pW R i) ((pW R r).map (· / iM R r k)) ((pW R i).getD k 0):=by
 unfold pW nU;simp only[zx,List.getElem?_mapIdx];rw[zy hi];rfl
theorem ahj {σ:Store} {nx bt bc:Nat} {vr vb:V} {rb:List Nat} {D:TQ} {N r k:Nat}(h:tV σ bt bc vr vb rb D N)(hs:ShF D N)(e7:ShF (Md D r k) N)(a9:∀b∈bt :: bc :: (bk vr++bk vb++rb),b<nx)(hr:r<D.R.length)(hk:k<N)(hp:iM D.R r k≠0) :
  ∃σ' nx',ev Tryz.prog aU bU 175 [.rp bt 0,I r,I k] σ nx=some (.dS [],σ',nx')/\tV σ' bt bc vr vb rb (Md D r k) N/\nx<=nx'/\∀b,b<nx->b∉bc :: (bk vb++rb)->σ' b=σ b:=by
 obtain⟨ht,e8,c5,e9,hc,hlen,c7⟩:=h;rcases e8 with ⟨h0,_⟩|⟨br,_,rfl,b6⟩
 .omega
 rcases e9 with ⟨h0,_⟩|⟨bb,_,rfl,f0⟩
 .omega
 simp only[bk,yT,yK]at a9 c7⊢;have hN:=hs.sz;have hR:=hs.BO;simp only[xg,zX,not_or]at c7;obtain⟨⟨n1,n2,n3,n4⟩,⟨n5,n6,n7⟩,⟨n8,n9⟩,c8,c0⟩:=c7;have RN:=a9 bt (by simp);have d5:=a9 bc (by simp);have RP:=a9 br (by simp);have f1:=a9 bb (by simp);have tC:∀j (E:j<rb.length),rb[j]<nx:=fun j E=>a9 _ (by simp[zu E])
 have c9:∀j (E:j<rb.length),rb[j]≠bt/\rb[j]≠bc/\rb[j]≠br/\rb[j]≠bb:=fun j E=>⟨fun e=>n4 (e ▸ zu E),fun e=>n7 (e ▸ zu E),fun e=>n9 (e ▸ zu E),fun e=>c8 (e ▸ zu E)⟩
 have a0:r<rb.length:=by omega
 obtain⟨bR,XD⟩:∃bR,bR=rb[r]:=⟨_,rfl⟩;have f2:bR<nx:=by rw[XD];exact tC r a0
 have nR:=c9 r a0;rw[<- XD]at nR;obtain⟨t,et⟩:∃t,t=pW D.R r:=⟨_,rfl⟩;have d6:σ bR=some ⟨t.flatMap cQ,3,true⟩:=by rw[XD,et];exact c5 r a0
 have c2:t.length=N+1:=by rw[et];exact rF hs.row hr
 have d7:∀v∈t,Ln 6 v:=by rw[et,iW hr];exact hs.big _ (zu hr)
 obtain⟨p,ep⟩:∃p,p=iM D.R r k:=⟨_,rfl⟩;have d8:t[k]'(by omega)=p:=by rw[ep];unfold iM;rw[<- getD_at (by omega) 0,et];rfl
 have bp:Ln 6 p:=by rw[<- d8];exact d7 _ (zu (by omega))
 have f3:p.num≠0:=fun e=>hp (by rw[<- ep];exact DC.mp e)
 have a1:=aI r;have a2:(r:Int)<(D.R.length:Int):=by omega
 have a3:=aI k;have a4:(k:Int)<((N+1:Nat):Int):=by omega
 have a5:(rb.map fun b=>V.rs b 0 (N+1))[r]?=some (.rs bR 0 (N+1)):=by rw[yX,zy a0,XD];rfl
 have a6:=slot (c:=cQ) (s:=3) bD t k (by omega);rw[d8]at a6;have a7:=aN (c:=cQ) (s:=3) bD t;rw[c2]at a7;have a8:k*3+3<=(N+1)*3:=by omega
 obtain⟨s0,d0⟩:∃s0,s0=upd σ nx (some ⟨cQ p,0,true⟩):=⟨_,rfl⟩;have XG:∀b,b<nx->s0 b=σ b:=fun b hb=>by rw[d0,ay]
 have f5:s0 nx=some ⟨cQ p,0,true⟩:=by rw[d0,upd_same]
 have d9:=(XG bt RN).trans ht;have e0:=(XG br RP).trans b6;obtain⟨W,eW⟩:∃W,W=t.map (· / p):=⟨_,rfl⟩;have e5:W.length=N+1:=by rw[eW,zO,c2]
 have b2:W.length=t.length:=by omega
 have c3:pW (nU D.R r k) r=W:=by rw[abl hr,if_pos rfl,<- et,<- ep,eW]
 have pl:=oU D.R r k;have bW:∀v∈W,Ln 6 v:=by
  rw[<- c3,iW (by omega)];exact e7.big _ (zu (l:=(Md D r k).R) (by show r<(nU D.R r k).length;omega))
 rw[ak [] [4,10,12] Tryz.func175];simp only[go_sem,ht,b6,d6,a1,a2,a3,a4,a5,a6,a7,a8,jf,<- d0,d9,e0];generalize hL:aF _ _=y;obtain⟨x,rfl,T1,O,m1,rfl,t0,G,J,f6,f7,f8⟩:=aB hL (N+1) (fun j st=>st.T 0= .rp bt 0/\st.T 1=I r/\st.T 2=I k/\st.T 6= .rp nx 0/\st.T 26=I ((N+1:Nat):Int)/\st.T 27=I j/\nx+1<=st.nx/\st.σ bR=some ⟨(oC W t j).flatMap cQ,3,true⟩/\∀b,b<nx+1->b≠bR->st.σ b=s0 b)
  (fun x=>∃T σ' nx',x=(.exit 0,⟨T,σ',nx'⟩)/\T 0= .rp bt 0/\T 1=I r/\T 2=I k/\nx+1<=nx'/\σ' bR=some ⟨W.flatMap cQ,3,true⟩/\∀b,b<nx+1->b≠bR->σ' b=s0 b) (by
   clear hL;rintro j ⟨T,O,m0⟩ E ⟨t0,G,J,t6,b3,b7,hm,hb,fr⟩;simp only at t0 G J t6 b3 b7 hm hb;have g1:(j:Int)<((N+1:Nat):Int):=by omega
   have g2:=aI j;have g3:=ah (n:=(j:Int)+1);have g4:=slot (c:=cQ) (s:=3) bD (oC W t j) j (by rw[kW b2 (by omega)];omega);rw[Hu b2 (by omega)]at g4;have g5:=aN (c:=cQ) (s:=3) bD (oC W t j);rw[kW b2 (by omega),c2]at g5;have g6:j*3+3<=(N+1)*3:=by omega
   obtain⟨v,ev⟩:∃v,v=t[j]'(by omega):=⟨_,rfl⟩;have bv:Ln 6 v:=by rw[ev];exact d7 _ (zu (by omega))
   rw[<- ev]at g4;have e1:O bt=_:=(fr bt (by omega) (yu nR.1)).trans d9;have e2:O br=_:=(fr br (by omega) (yu nR.2.2.1)).trans e0;have e3:O nx=_:=(fr nx (by omega) (by omega)).trans f5;have l1:bt<m0:=by omega
   have l2:br<m0:=by omega
   have l3:nx<m0:=by omega
   have l4:bR<m0:=by omega
   have k1:=alC v p bv bp (by decide) f3;have c6:patch ((oC W t j).flatMap cQ) (j*3) (cQ (v / p))=(oC W t (j+1)).flatMap cQ:=by
    have hw:v / p=W[j]'(by omega):=by subst eW;rw[xq,ev]
    rw[iU bD _ _ (by rw[kW b2 (by omega)];omega),hw,Hw b2 (by omega)]
   refine .inl ⟨_,by simp only[go_sem,t0,G,J,t6,b3,b7,hb,e1,e2,e3,a1,a2,a5,g1,g2,g3,g4,g5,g6,k1,c6,l1,l2,l3,l4];rfl,?_⟩;simp only[go_sem,t0,G,J,t6,b3];refine⟨rfl,hm,fun b hb hn=>?_⟩;rw[upd_ne _ _ hn];exact fr b hb hn) (by
   clear hL;rintro ⟨T,O,m0⟩ ⟨t0,G,J,t6,b3,b7,hm,hb,fr⟩;simp only at t0 G J t6 b3 b7 hm hb;refine⟨_,by simp only[go_sem,b3,b7,zl];rfl,by simp,_,_,_,rfl,?_⟩;simp only[go_sem,t0,G,J];refine⟨hm,?_,fr⟩;rw[<- c2,Je b2]at hb;exact hb) (by
   simp only[go_sem];refine⟨?_,fun _ _ _=>trivial⟩;rw[Jd,XG bR f2];exact d6)
 have c4:∀b,b<nx->b≠bR->O b=σ b:=fun b hb hn=>(f8 b (by omega) hn).trans (XG b hb)
 have e1:O bt=_:=(c4 bt RN (yu nR.1)).trans ht;have e2:O br=_:=(c4 br RP (yu nR.2.2.1)).trans b6;simp only[go_sem,t0,G,J,e1];generalize hL:aF _ _=y;obtain⟨x,rfl,T2,σ2,m2,rfl,t0,G,J,h2,qV,Ae⟩:=aB hL D.R.length (fun i st=>st.T 0= .rp bt 0/\st.T 1=I r/\st.T 2=I k/\st.T 56=I D.R.length/\st.T 57=I i/\nx+1<=st.nx/\(∀j (E:j<rb.length),st.σ rb[j]=some ⟨(if j<i\/j=r then pW (nU D.R r k) j else pW D.R j).flatMap cQ,3,true⟩)/\∀b,b<nx->b∉rb->st.σ b=σ b)
  (fun x=>∃T σ' nx',x=(.exit 2,⟨T,σ',nx'⟩)/\T 0= .rp bt 0/\T 1=I r/\T 2=I k/\nx+1<=nx'/\(∀j (E:j<rb.length),σ' rb[j]=some ⟨(pW (nU D.R r k) j).flatMap cQ,3,true⟩)/\∀b,b<nx->b∉rb->σ' b=σ b) (by
   clear hL;rintro i ⟨T,σ2,m0⟩ hi ⟨t0,G,J,S,b4,hm,rows,fr⟩;simp only at t0 G J S b4 hm rows;have g1:(i:Int)<(D.R.length:Int):=by omega
   have g2:=aI i;have g3:=ah (n:=(i:Int)+1);have b8:i<rb.length:=by omega
   by_cases XA:i=r
   .have c1:((i:Int) !=(r:Int))=false:=by rw[XA];simp
    refine .inl ⟨_,by simp only[go_sem,t0,G,J,S,b4,g1,g3,c1];rfl,?_⟩;simp only[go_sem,t0,G,J,S];refine⟨rfl,hm,fun j E=>?_,fr⟩;rw[rows j E]
    by_cases Y:j=r
    .rw[if_pos (.inr Y),if_pos (.inr Y)]
    .by_cases f9:j<i
     .rw[if_pos (.inl f9),if_pos (.inl (by omega))]
     .rw[if_neg (by omega),if_neg (by omega)]
   .have c1:((i:Int) !=(r:Int))=true:=by rw[bne_iff_ne];omega
    obtain⟨bi,uN⟩:∃bi,bi=rb[i]:=⟨_,rfl⟩;have h3:bi<nx:=by rw[uN];exact tC i b8
    have ni:=c9 i b8;rw[<- uN]at ni;have g0:bi≠bR:=fun e=>XA (by rw[uN,XD]at e;exact(List.getElem_inj c0).mp e)
    have b5:(rb.map fun b=>V.rs b 0 (N+1))[i]?=some (.rs bi 0 (N+1)):=by rw[yX,zy b8,uN];rfl
    have g7:σ2 bi=some ⟨(pW D.R i).flatMap cQ,3,true⟩:=by rw[uN,rows i b8,if_neg (by omega)]
    have d3:σ2 bR=some ⟨W.flatMap cQ,3,true⟩:=by rw[XD,rows r a0,if_pos (.inr rfl),c3]
    have e1:σ2 bt=_:=(fr bt RN n4).trans ht;have e2:σ2 br=_:=(fr br RP n9).trans b6;have l1:bt<m0:=by omega
    have l2:br<m0:=by omega
    have l3:bi<m0:=by omega
    have l4:bR<m0:=by omega
    have z1:(bt==bi)=false:=beq_false_of_ne (yu ni.1);have z2:(bt==bR)=false:=beq_false_of_ne (yu nR.1);have z3:(br==bi)=false:=beq_false_of_ne (yu ni.2.2.1);have z4:(br==bR)=false:=beq_false_of_ne (yu nR.2.2.1);obtain⟨s3,m3,b9,kc,pe,q1,q2,q3⟩:=Tc (σ:=σ2) (nx:=m0) (k:=k) (rF hs.row hi) e5 hN (by omega) (by rw[iW hi];exact hs.big _ (zu hi)) bW g7 d3 g0 l3 l4;refine .inl ⟨_,by simp only[go_sem,t0,G,J,S,b4,e1,e2,a1,a2,a5,b5,g1,g2,g3,c1,l1,l2,l3,l4,z1,z2,z3,z4,kc,pe];rfl,?_⟩;simp only[go_sem,t0,G,J,S];refine⟨rfl,by omega,fun j E=>?_,fun b hb hn=>?_⟩
    .by_cases e6:j=i
     .subst e6
      rw[<- uN,q1,if_pos (.inl (by omega)),abl hi,if_neg XA,<- et,<- ep,<- eW]
     .have g8:rb[j]≠bi:=fun e=>e6 (by rw[uN]at e;exact(List.getElem_inj c0).mp e)
      rw[q3 _ (by have:=tC j E;omega) g8,rows j E]
      by_cases Y:j<i\/j=r
      .rw[if_pos Y,if_pos (by omega)]
      .rw[if_neg Y,if_neg (by omega)]
    .rw[q3 b (by omega) (fun e=>hn (by rw[e,uN];exact zu b8))]
     exact fr b hb hn) (by
   clear hL;rintro ⟨T,σ2,m0⟩ ⟨t0,G,J,S,b4,hm,rows,fr⟩;simp only at t0 G J S b4 hm rows;refine⟨_,by simp only[go_sem,S,b4,zl];rfl,by simp,_,_,_,rfl,?_⟩;simp only[go_sem,t0,G,J];refine⟨hm,fun j E=>?_,fr⟩;rw[rows j E,if_pos (.inl (by omega))]) (by
   simp only[go_sem,t0,G,J];refine⟨f6,fun j E=>?_,fun b hb hn=>c4 b hb fun e=>hn (by rw[e,XD];exact zu a0)⟩
   by_cases Y:j=r
   .subst Y
    rw[if_pos (.inr rfl),c3,<- XD];exact f7
   .rw[if_neg (by omega),c4 _ (tC j E) (fun e=>Y (by rw[XD]at e;exact(List.getElem_inj c0).mp e))]
    exact c5 j E)
 have e1:σ2 bt=_:=(Ae bt RN n4).trans ht;have e2:σ2 br=_:=(Ae br RP n9).trans b6;have e3:σ2 bc=_:=(Ae bc d5 n7).trans hc;have d3:σ2 bR=some ⟨W.flatMap cQ,3,true⟩:=by rw[XD,qV r a0,c3]
 have l1:bt<m2:=by omega
 have l2:br<m2:=by omega
 have l3:bc<m2:=by omega
 have l4:bR<m2:=by omega
 have z1:(bt==bc)=false:=beq_false_of_ne n1;have z2:(bt==bR)=false:=beq_false_of_ne (yu nR.1);have z3:(br==bc)=false:=beq_false_of_ne (yu n5);have z4:(br==bR)=false:=beq_false_of_ne (yu nR.2.2.1);obtain⟨s3,m3,b9,kc,pe,q1,q2,q3⟩:=Tc (σ:=σ2) (nx:=m2) (k:=k) hs.BN e5 hN (by omega) hs.akL bW e3 d3 (yu nR.2.1) l3 l4;have d1:b9 bt=_:=(q3 bt l1 n1).trans e1;have d2:b9 bb=_:=(q3 bb (by omega) (yu n6)).trans ((Ae bb f1 c8).trans f0);have hB:(iT D.B).length=D.R.length:=by rw[fZ];exact hs.fV
 have g9:r<(iT D.B).length:=by omega
 have h1:((iT D.B).flatMap cI).set r (I k)=(iT (D.B.set r k)).flatMap cI:=by
  rw[jV];unfold iT;rw[List.map_set]
 obtain⟨kP,e4⟩:∃kP,kP=upd b9 bb (some ⟨(iT (D.B.set r k)).flatMap cI,1,true⟩):=⟨_,rfl⟩;have f4:∀b,b<nx->b≠bb->kP b=b9 b:=fun b _ hn=>by rw[e4,upd_ne _ _ hn]
 have d4:(Md D r k).R.length=D.R.length:=pl;refine⟨kP,m3,by simp only[go_sem,t0,G,J,e1,e2,e3,a1,a2,a5,l1,l2,l3,l4,z1,z2,z3,z4,kc,pe,d1,d2,g9,h1,<- e4],⟨?_,?_,fun j E=>?_,?_,?_,by rw[d4];exact hlen,?_⟩,by omega,fun b hb hn=>?_⟩
 .rw[f4 bt RN n3];exact d1
 .rw[d4]
  exact .inr ⟨br,by omega,rfl,by rw[f4 br RP n8,q3 br l2 (yu n5)];exact e2⟩
 .have:=c9 j E
  rw[f4 _ (tC j E) this.2.2.2,q3 _ (by have:=tC j E;omega) this.2.1];exact qV j E
 .rw[d4]
  exact .inr ⟨bb,by omega,rfl,by rw[e4,upd_same];rfl⟩
 .rw[f4 bc d5 n6,q1,eW,et,ep]
  rfl
 .simp only[bk,yT,yK,xg,zX,not_or]
  exact⟨⟨n1,n2,n3,n4⟩,⟨n5,n6,n7⟩,⟨n8,n9⟩,c8,c0⟩
 .simp only[zX,not_or]at hn
  rw[f4 b hb hn.2.1,q3 b (by omega) hn.1,Ae b hb hn.2.2]
def P8(x:List Rat):List V:=[LL cQ x]
def Am(D:TQ)(N:Nat):List V:=[I N,LL P8 D.R,LI (iT D.B),LL cQ D.c]
def NI(D:TQ)(N:Nat):V:=.tp (Am D N) 0
theorem P9 {R:List (List Rat)} {i:Nat}(h:i<R.length):(R.flatMap P8)[i]?=some (LL cQ (pW R i)):=by
 have:=mX (fun x=>LL cQ x) R i h;rw[iW h];exact this
theorem F7 {R:List (List Rat)} {i j:Nat}(h:j<(pW R i).length):(pW R i)[j]=iM R i j:=(getD_at h 0).symm
theorem oZ {R:List (List Rat)} {i j:Nat}(E:j<(pW R i).length):(((pW R i).flatMap cQ).drop (j*3)).take 3=cQ (iM R i j):=by
 rw[slot bD (pW R i) j E,F7 E]
theorem aoJ {D:TQ} {N:Nat}(hl:D.B.length<=100000)(s:Nat):fn Tryz.prog conv ext 172 [NI D N,I s]=some (Bo (decide (s∈D.B))):=by
 have tl:=fZ D.B;unfold NI Am;rw[aH,ak [.tmp 4] [] Tryz.func172];simp only[go_sem];generalize hL:aF _ _=y;obtain⟨r,rfl,hr⟩:=aB hL (iT D.B).length (fun k st=>st.T 1=I s/\st.T 10=LI (iT D.B)/\st.T 11=I (iT D.B).length/\st.T 12=I k/\∀i (h:i<D.B.length),i<k->D.B[i]≠s)
  (fun r=>(∃T σ nx,r=(.exit 0,⟨T,σ,nx⟩)/\s∉D.B)\/(∃T σ nx,r=(.ret,⟨T,σ,nx⟩)/\T 4=Bo true/\s∈D.B)) (by
   clear hL;rintro k ⟨T,σ,nx⟩ Y ⟨S,G,E,J,hi⟩;simp only at S G E J;have f1:(k:Int)<((iT D.B).length:Int):=by omega
   have f2:=aI k;have f3:=ah (n:=(k:Int)+1);have f5:=fB (iT D.B) k Y;have O:k<D.B.length:=by omega
   have f6:=idx Y;rw[kN O,getD_at O 0]at f6
   by_cases hp:D.B[k]=s
   .have c1:((D.B[k]:Int)==(s:Int))=true:=by rw[beq_iff_eq];omega
    refine .inr ⟨_,by simp only[go_sem,S,G,E,J,f1,f2,f5,f6,c1];rfl,by simp,.inr ⟨_,_,_,rfl,?_⟩⟩;simp only[go_sem];rw[<- hp];exact zu O
   .have c1:((D.B[k]:Int)==(s:Int))=false:=by rw[w_];omega
    refine .inl ⟨_,by simp only[go_sem,S,G,E,J,f1,f2,f3,f5,f6,c1];rfl,?_⟩;simp only[go_sem,S,G,E];refine⟨rfl,fun i h a0=>?_⟩
    by_cases e:i=k
    .subst e;exact hp
    .exact hi i h (by omega)) (by
   clear hL;rintro ⟨T,σ,nx⟩ ⟨S,G,E,J,hi⟩;simp only at S G E J;refine⟨_,by simp only[go_sem,E,J,zl];rfl,by simp,.inl ⟨_,_,_,rfl,fun hm=>?_⟩⟩;obtain⟨i,h,e⟩:=yV hm;exact hi i h (by omega) e) (by
   simp only[go_sem];exact fun i _ h=>absurd h (zW _))
 rcases hr with ⟨T,σ,nx,rfl,hx⟩|⟨T,σ,nx,rfl,h4,hx⟩
 .rw[vk hx];simp only[go_sem]
 .rw[vw hx];simp only[go_sem,h4]
theorem Ey {q j:Nat}:∀ {R:List (List Rat)} {B:List Nat},(∀b∈B,b≠q)->G5 q j R B=0
 |[],_,_=>by cases ‹List Nat›<;>rfl
 |_ :: _,[],_=>rfl
 |x :: R,b :: B,h=>by
  show(if b=q then x.getD j 0 else 0)+G5 q j R B=0;rw[if_neg (h b zN),Ey fun c hc=>h c (zY _ hc)];grind
theorem Xf {q j:Nat}:∀ {R:List (List Rat)} {B:List Nat} {i:Nat},B.Nodup->B.length=R.length->(h:i<B.length)->B[i]=q->G5 q j R B=iM R i j
 |[],B,i,_,hl,h,_=>by rw[wu]at hl;omega
 |_ :: _,[],i,_,hl,h,_=>by simp at h
 |x :: R,b :: B,0,hn,hl,h,e=>by
  show(if b=q then x.getD j 0 else 0)+G5 q j R B=_;have e:b=q:=e;rw[xg]at hn;rw[if_pos e,Ey fun c hc J=>hn.1 (by rw[e,<- J];exact hc)];show x.getD j 0+0=x.getD j 0;grind
 |x :: R,b :: B,i+1,hn,hl,h,e=>by
  show(if b=q then x.getD j 0 else 0)+G5 q j R B=_;rw[xg]at hn;have E:i<B.length:=by simpa using h
  have G:B[i]=q:=e;rw[if_neg fun hb=>hn.1 (by rw[hb,<- G];exact zu E),Xf hn.2 (by simpa using hl) E G];show 0+iM R i j=iM R i j;grind
theorem NJ {g:Nat->Rat} {q:Nat}(G:Zr q g)(J:g q≠0):∀ {d:Nat},q<d->(Lp d g↔0<g q)
 |0,h=>absurd h (zW _)
 |d+1,h=>by
  show(Lp d g\/(Zr d g/\0<g d))↔_
  by_cases e:q=d
  .subst e
   constructor
   .rintro (E|E)
    .exact absurd G E.Dj
    .exact E.2
   .exact fun E=> .inr ⟨G,E⟩
  .have O:=NJ G J (d:=d) (by omega)
   constructor
   .rintro (E|E)
    .exact O.mp E
    .exact absurd (E.1 q (by omega)) J
   .exact fun E=> .inl (O.mpr E)
def Td(D:TQ)(s k:Nat)(z:Int):Prop:=(z=0/\Zr (k+1) (Ku D s))\/(z≠0/\∃q,q<=k/\Zr q (Ku D s)/\Ku D s q≠0/\(0<z↔0<Ku D s q))
theorem Xg(q:Rat):0<dB q.num 0↔0<q:=by
 have:=S_ q;constructor
 .intro h;exact zf fun hn=>by have:=this.mpr hn;omega
 .intro h
  have E:¬dB q.num 0<=0:=fun e=>this.mp e h
  omega
theorem Tf(q:Rat):dB q.num 0=0↔q=0:=by
 have:=ahh q;constructor
 .intro h;rw[h]at this;exact of_decide_eq_true this.symm
 .intro h;rw[vw h]at this;exact beq_iff_eq.mp this
theorem Td.zero(D:TQ)(s:Nat):Td D s 0 (dB (D.c.getD s 0).num 0):=by
 have e:Ku D s 0=D.c.getD s 0:=rfl
 by_cases h:D.c.getD s 0=0
 .refine .inl ⟨(Tf _).mpr h,fun q E=>?_⟩
  have:q=0:=by omega
  subst this;rw[e,h]
 .exact .inr ⟨fun G=>h ((Tf _).mp G),0,zq _,fun q E=>absurd E (zW _),by rw[e];exact h,by rw[e];exact Xg _⟩
theorem Td.next {D:TQ} {s k:Nat}(h:Td D s k 0) {w:Rat}(hw:Ku D s (k+1)=w):Td D s (k+1) (dB w.num 0):=by
 rcases h with ⟨_,G⟩|⟨h,_⟩
 .by_cases E:w=0
  .exact .inl ⟨(Tf _).mpr E,Zr.succ.mpr ⟨G,by rw[hw,E]⟩⟩
  .exact .inr ⟨fun J=>E ((Tf _).mp J),k+1,zq _,G,by rw[hw];exact E,by rw[hw];exact Xg _⟩
 .exact absurd rfl h
theorem Td.pos {D:TQ} {s k d:Nat} {z:Int}(h:Td D s k z)(hd:k<d)(J:z=0->k+1=d):0<z↔Lp d (Ku D s):=by
 rcases h with ⟨G,E⟩|⟨G,q,E,O,S,Y⟩
 .subst G
  rw[J rfl]at E;exact⟨fun h=>absurd h (by decide),fun h=>absurd E h.Dj⟩
 .rw[Y,NJ O S (by omega)]
theorem asD {D:TQ} {N:Nat}(h:ShF D N)(b3:D.B.Nodup) {s:Nat}(hs:s<N)(b4:s∉D.B)(lex:Bool) :
  ∃z,fn Tryz.prog conv ext 173 [NI D N,I s,Bo lex]=some (I z)/\(0<z↔Lp (if lex=true then N+1 else 1) (Ku D s)):=by
 have hN:=h.sz;have tl:(iT D.B).length=D.R.length:=by rw[fZ];exact h.fV
 have hR:=h.BO;have a1:=aI s;have a2:(s:Int)<(D.c.length:Int):=by have:=h.BN;omega
 have a3:=slot_ne (c:=cQ) (s:=3) bD (by omega) D.c s (by have:=h.BN;omega);have a4:=slot (c:=cQ) (s:=3) bD D.c s (by have:=h.BN;omega);rw[<- getD_at (by have:=h.BN;omega) 0]at a4;have a5:=aN (c:=cQ) (s:=3) bD D.c;have a6:s*3+3<=D.c.length*3:=by have:=h.BN;omega
 have b5:Ln 6 (D.c.getD s 0):=by rw[getD_at (by have:=h.BN;omega)];exact h.akL _ (zu _)
 have k1:=F6 (D.c.getD s 0) (b5.mono (by decide));unfold NI Am;rw[aH,ak [.tmp 6] [] Tryz.func173];simp only[go_sem,a1,a2,a3,a4,a5,a6,k1];have b7:=h.BN;have m1:((0:Int)==0)=true:=by decide
 generalize hL:aF _ _=y;obtain⟨x,rfl,hx⟩:=aB hL N (fun k st=>st.T 0= .tp (Am D N) 0/\st.T 1=I s/\st.T 2=Bo lex/\st.T 8=I k/\(lex=false->k=0)/\∃z,st.T 7=I z/\Td D s k z)
  (fun x=>(∃T σ nx z,x=(.exit 0,⟨T,σ,nx⟩)/\T 7=I z/\(0<z↔Lp (if lex=true then N+1 else 1) (Ku D s)))\/(∃T σ nx,x=(.ret,⟨T,σ,nx⟩)/\T 6=I (-1)/\¬Lp (if lex=true then N+1 else 1) (Ku D s))) (by
   clear hL;rintro k ⟨T,σ,nx⟩ hk ⟨t0,G,J,O,a8,z,E,Y⟩;simp only at t0 G J O E;unfold Am at t0;have f1:(k:Int)<(N:Int):=by omega
   have f2:=aI k;have f3:=ah (n:=(k:Int)+1)
   by_cases z0:z=0
   .subst z0
    cases lex with
    |false=>
     have b6:=a8 rfl;subst b6;refine .inr ⟨_,by simp only[go_sem,t0,G,J,O,E,m1];rfl,by simp,.inl ⟨_,_,_,0,rfl,?_⟩⟩;simp only[go_sem,E];exact Y.pos (by decide) fun _=>rfl
    |true=>
     by_cases b2:k=s
     .have c1:((k:Int)==(s:Int))=true:=by rw[b2];simp
      refine .inr ⟨_,by simp only[go_sem,t0,G,J,O,E,m1,f1,c1];rfl,by simp,.inr ⟨_,_,_,rfl,?_⟩⟩;simp only[go_sem];have e:Ku D s (s+1)= -1:=by
       unfold Ku;rw[if_neg (by omega),if_pos rfl];show -1+G5 s s D.R D.B= -1;rw[Ey fun b hb (e:b=s)=>b4 (by rw[<- e];exact hb)];grind
      rw[b2]at Y;rcases Y with ⟨_,Y⟩|⟨Y,_⟩
      .rw[NJ Y (by rw[e];decide) (by omega),e];decide
      .exact absurd rfl Y
     .have c1:((k:Int)==(s:Int))=false:=by rw[w_];omega
      have eg:Ku D s (k+1)=G5 k s D.R D.B:=by
       unfold Ku;rw[if_neg (by omega),if_neg (by omega)];show 0+G5 k s D.R D.B=_;grind
      refine fD ?_
      conv=>
       enter [1,r,1,1]
       simp only[go_sem,t0,G,J,O,E,m1,f1,c1]
      generalize hL:aF _ _=y;obtain⟨x,rfl,T1,b8,aP,rfl,t0,G,J,O,E⟩:=aB hL D.R.length (fun i st=>st.T 0= .tp (Am D N) 0/\st.T 1=I s/\st.T 2=Bo true/\st.T 8=I k/\st.T 40=LI (iT D.B)/\st.T 41=I D.R.length/\st.T 42=I i/\∃w:Rat,st.T 7=I (dB w.num 0)/\((∃j,∃hj:j<D.B.length,j<i/\D.B[j]=k/\w=iM D.R j s)\/((∀j (hj:j<D.B.length),j<i->D.B[j]≠k)/\w=0)))
       (fun x=>∃T σ nx,x=(.exit 2,⟨T,σ,nx⟩)/\T 0= .tp (Am D N) 0/\T 1=I s/\T 2=Bo true/\T 8=I k/\T 7=I (dB (G5 k s D.R D.B).num 0)) (by
        clear hL;rintro i ⟨T,σ,nx⟩ hi ⟨t0,G,J,O,a0,S,a7,w,E,hw⟩;simp only at t0 G J O a0 S a7 E;have g1:(i:Int)<(D.R.length:Int):=by omega
        have g2:=aI i;have g3:=ah (n:=(i:Int)+1);have g4:=fB (iT D.B) i (by omega);have a9:i<D.B.length:=by have:=h.fV;omega
        have g5:=idx (xs:=iT D.B) (k:=i) (by omega);rw[kN a9,getD_at a9 0]at g5
        by_cases hb:D.B[i]=k
        .have c2:((D.B[i]:Int)==(k:Int))=true:=by rw[beq_iff_eq];omega
         have rl:=rF h.row hi;have r1:=P9 hi;have r2:=slot_ne (c:=P8) (s:=1) (fun _=>rfl) (by omega) D.R i hi;have r3:(s:Int)<((pW D.R i).length:Int):=by omega
         have r4:=slot_ne (c:=cQ) (s:=3) bD (by omega) (pW D.R i) s (by omega);have r5:=oZ (R:=D.R) (i:=i) (j:=s) (by omega);have r6:=aN (c:=cQ) (s:=3) bD (pW D.R i);have r7:s*3+3<=(pW D.R i).length*3:=by omega
         have bq:Ln 6 (iM D.R i s):=by
          rw[<- F7 (by omega)];exact h.big _ (by rw[iW hi];exact zu hi) _ (zu _)
         have k2:=F6 (iM D.R i s) (bq.mono (by decide));unfold Am at t0;refine .inl ⟨_,by simp only[go_sem,t0,G,J,O,a0,S,a7,E,tl,g1,g2,g3,g4,g5,c2,a1,r1,r2,r3,r4,r5,r6,r7,k2];rfl,?_⟩;simp only[go_sem,t0,G,J,O,a0,S];exact⟨rfl,rfl,_,rfl,.inl ⟨i,a9,by omega,hb,rfl⟩⟩
        .have c2:((D.B[i]:Int)==(k:Int))=false:=by rw[w_];omega
         refine .inl ⟨_,by simp only[go_sem,t0,G,J,O,a0,S,a7,E,tl,g1,g2,g3,g4,g5,c2];rfl,?_⟩;simp only[go_sem,t0,G,J,O,a0,S,E];refine⟨rfl,w,rfl,?_⟩;rcases hw with ⟨j,hj,h1,h2,h3⟩|⟨h1,h2⟩
         .exact .inl ⟨j,hj,by omega,h2,h3⟩
         .refine .inr ⟨fun j hj b9=>?_,h2⟩
          by_cases e:j=i
          .subst e;exact hb
          .exact h1 j hj (by omega)) (by
        clear hL;rintro ⟨T,σ,nx⟩ ⟨t0,G,J,O,a0,S,a7,w,E,hw⟩;simp only at t0 G J O a0 S a7 E;refine⟨_,by simp only[go_sem,S,a7,zl];rfl,by simp,_,_,_,rfl,?_⟩;simp only[go_sem,t0,G,J,O,E];have:w=G5 k s D.R D.B:=by
         rcases hw with ⟨j,hj,h1,h2,h3⟩|⟨h1,h2⟩
         .rw[Xf b3 h.fV hj h2,h3]
         .rw[Ey,h2]
          intro b hb e;obtain⟨j,hj,e2⟩:=yV hb;exact h1 j hj (by have:=h.fV;omega) (e2.trans e)
        rw[this]) (by
        simp only[go_sem,t0,G,J,O,E,tl];exact⟨rfl,0,rfl,.inr ⟨fun j _ hj=>absurd hj (zW _),rfl⟩⟩)
      refine⟨_,by simp only[go_sem,O,f3];rfl,.inl ⟨_,rfl,?_⟩⟩;simp only[go_sem,t0,G,J,E];exact⟨rfl,by simp,_,rfl,Y.next eg⟩
   .have c0:(z==(0:Int))=false:=by rw[w_];exact z0
    refine .inr ⟨_,by simp only[go_sem,t0,G,J,O,E,c0];rfl,by simp,.inl ⟨_,_,_,z,rfl,?_⟩⟩;simp only[go_sem,E];refine Y.pos ?_ fun e=>absurd e z0
    cases lex with
    |false=>have:=a8 rfl;simp;omega
    |true=>simp;omega) (by
   clear hL;rintro ⟨T,σ,nx⟩ ⟨t0,G,J,O,a8,z,E,Y⟩;simp only at t0 G J O E;unfold Am at t0;have fin:0<z↔Lp (if lex=true then N+1 else 1) (Ku D s):=by
    cases lex with
    |false=>have:=a8 rfl;omega
    |true=>exact Y.pos (by simp) fun _=>by simp
   by_cases z0:z=0
   .subst z0
    cases lex with
    |false=>have:=a8 rfl;omega
    |true=>
     refine⟨_,by simp only[go_sem,t0,G,J,O,E,m1,zl];rfl,by simp,.inl ⟨_,_,_,0,rfl,?_⟩⟩;simp only[go_sem,E];exact fin
   .have c0:(z==(0:Int))=false:=by rw[w_];exact z0
    refine⟨_,by simp only[go_sem,t0,G,J,O,E,c0];rfl,by simp,.inl ⟨_,_,_,z,rfl,?_⟩⟩;simp only[go_sem,E];exact fin) (by
   simp only[go_sem];exact⟨rfl,fun _=>trivial,_,rfl,Td.zero D s⟩)
 rcases hx with ⟨T,σ,nx,z,rfl,E,Y⟩|⟨T,σ,nx,rfl,t6,Y⟩
 .exact⟨z,by simp only[go_sem,E],Y⟩
 .exact⟨-1,by simp only[go_sem,t6],fun h=>absurd h (by decide),fun h=>absurd h Y⟩
def qo(D:TQ)(N k i:Nat):Rat:=iM D.R i N / iM D.R i k
def qF(D:TQ)(N k i:Nat)(r:Int):Prop :=
 (r= -1/\∀j,j<i->¬0<iM D.R j k)\/∃r':Nat,r=r'/\r'<i/\0<iM D.R r' k/\(∀j,j<i->0<iM D.R j k->qo D N k r'<=qo D N k j) /\
  ∀j,j<i->0<iM D.R j k->qo D N k r'=qo D N k j->D.B.getD r' 0<=D.B.getD j 0
section
variable {D:TQ} {N k i:Nat} {r:Int}
theorem qF.skip(h:qF D N k i r)(hn:¬0<iM D.R i k):qF D N k (i+1) r:=by
 have G:∀j,j<i+1->0<iM D.R j k->j<i:=fun j E hp=>by
  by_cases e:j=i
  .subst e;exact absurd hp hn
  .omega
 rcases h with ⟨rfl,h⟩|⟨r',rfl,Y,J,O,S⟩
 .exact .inl ⟨rfl,fun j E hp=>h j (G j E hp) hp⟩
 .exact .inr ⟨r',rfl,by omega,J,fun j E hp=>O j (G j E hp) hp,fun j E hp=>S j (G j E hp) hp⟩
theorem qF.first(h:qF D N k i (-1))(hp:0<iM D.R i k):qF D N k (i+1) i:=by
 rcases h with ⟨_,h⟩|⟨r',e,_⟩
 .have J:∀j,j<i+1->0<iM D.R j k->j=i:=fun j G hp=>by
   by_cases e:j=i
   .exact e
   .exact absurd hp (h j (by omega))
  exact .inr ⟨i,rfl,by omega,hp,fun j G E=>by rw[J j G E];grind,fun j G E _=>by rw[J j G E];exact zq _⟩
 .omega
theorem qF.better {r:Nat}(h:qF D N k i r)(hp:0<iM D.R i k)(hc:qo D N k i<qo D N k r\/(qo D N k i=qo D N k r/\D.B.getD i 0<D.B.getD r 0)):qF D N k (i+1) i:=by
 rcases h with ⟨e,_⟩|⟨r',e,S,Y,G,J⟩
 .omega
 .have:r=r':=by omega
  subst this;refine .inr ⟨i,rfl,by omega,hp,fun j O E=>?_,fun j O E he=>?_⟩
  .by_cases e:j=i
   .subst e;grind
   .have:=G j (by omega) E;grind
  .by_cases e:j=i
   .subst e;exact zq _
   .have g1:=G j (by omega) E
    rcases hc with hc|⟨hc,hb⟩
    .grind
    .have:=J j (by omega) E (by grind);omega
theorem qF.keep {r:Nat}(h:qF D N k i r)(hc:qo D N k r<qo D N k i\/(qo D N k i=qo D N k r/\D.B.getD r 0<=D.B.getD i 0)):qF D N k (i+1) r:=by
 rcases h with ⟨e,_⟩|⟨r',e,h1,G,J,O⟩
 .omega
 .have:r=r':=by omega
  subst this;refine .inr ⟨r,rfl,by omega,G,fun j S E=>?_,fun j S E Y=>?_⟩
  .by_cases e:j=i
   .subst e;grind
   .exact J j (by omega) E
  .by_cases e:j=i
   .subst e
    rcases hc with hc|⟨hc,hb⟩
    .grind
    .exact hb
   .exact O j (by omega) E Y
end
theorem akM(x y:Rat):dB (x.num*y.den) (y.num*x.den)<0↔x<y:=by
 rw[Rat.lt_iff];unfold dB
 by_cases h:x.num*y.den<y.num*x.den
 .rw[if_pos h];exact⟨fun _=>h,fun _=>by decide⟩
 .rw[if_neg h]
  refine⟨fun E=>?_,fun E=>absurd E h⟩
  split at E<;>exact absurd E (by decide)
theorem akN(x y:Rat):(dB (x.num*y.den) (y.num*x.den)==0)=decide (x=y):=by
 have E:=Rat.lt_iff x y;have G:=Rat.lt_iff y x
 by_cases e:x=y
 .rw[vw e]
  subst e;unfold dB;rw[if_neg (by omega),if_pos rfl];rfl
 .rw[vk e]
  by_cases J:x<y
  .unfold dB;rw[if_pos (E.mp J)];rfl
  .have O:y<x:=by grind
   have:=G.mp O;unfold dB;rw[if_neg (by omega),if_neg (by omega)];rfl
theorem aoK {x y:Rat} {a b:Nat}(E:Ln a x)(G:Ln b y)(J:y.num≠0)(O:1<=a+b):Ln (a+b) (x / y):=by
 rw[afy x y J];have S:=qL x.num.natAbs y.den;have Y:=qL x.den y.num.natAbs;have:=E.1;have:=E.2;have:=G.1;have:=G.2;exact aa4 (by rw[S9];omega) (by omega) O
theorem adO(a b:Rat):patch (cQ a) 0 (cQ b)=cQ b:=rfl
attribute [go_sem] adO
theorem aoL {D:TQ} {N:Nat}(h:ShF D N) {k:Nat}(hk:k<N) :
  ∃r,fn Tryz.prog conv ext 174 [NI D N,I k]=some (I r)/\qF D N k D.R.length r:=by
 have hN:=h.sz;have tl:(iT D.B).length=D.R.length:=by rw[fZ];exact h.fV
 have hR:=h.BO;have a1:=aI k;have m1:(-1:Int)<0:=by decide
 have bq:∀i j,i<D.R.length->j<N+1->Ln 6 (iM D.R i j):=fun i j hi hj=>by
  have rl:=rF h.row hi;rw[<- F7 (by omega)];exact h.big _ (by rw[iW hi];exact zu hi) _ (zu _)
 have nz:∀i,0<iM D.R i k->(iM D.R i k).num≠0:=fun i hp e=>by have:=DC.mp e;grind
 have lq:∀i,i<D.R.length->0<iM D.R i k->Ln 12 (qo D N k i):=fun i hi hp=>aoK (a:=6) (b:=6) (bq i N hi (by omega)) (bq i k hi (by omega)) (nz i hp) (by decide)
 unfold NI Am;rw[aH,ak [.tmp 4] [7,8] Tryz.func174];simp only[go_sem];generalize hL:aF _ _=y;obtain⟨x,rfl,T',σ',nx',r,rfl,O,hb⟩:=aB hL D.R.length (fun i st=>st.T 0= .tp (Am D N) 0/\st.T 1=I k/\st.T 6= .rp 0 0/\st.T 14=LL P8 D.R/\st.T 15=I D.R.length/\st.T 16=I i/\1<=st.nx/\∃r,st.T 5=I r/\qF D N k i r/\∃cs,st.σ 0=some ⟨cs,0,true⟩/\(∃u v w,cs=[u,v,w])/\∀r':Nat,r=r'->cs=cQ (qo D N k r'))
  (fun x=>∃T σ nx r,x=(.exit 0,⟨T,σ,nx⟩)/\T 5=I r/\qF D N k D.R.length r) (by
   clear hL;rintro i ⟨T,σ,nx⟩ hi ⟨S,Y,h6,vM,E,G,a2,r,O,hb,cs,a3,a8,a6⟩;simp only at S Y h6 vM E G a2 O a3;unfold Am at S;obtain⟨u,v,w,rfl⟩:=a8;have f1:(i:Int)<(D.R.length:Int):=by omega
   have f2:=aI i;have f3:=ah (n:=(i:Int)+1);have rl:=rF h.row hi;have r1:=P9 hi;have r2:=slot_ne (c:=P8) (s:=1) (fun _=>rfl) (by omega) D.R i hi;have r3:(k:Int)<((N+1:Nat):Int):=by omega
   have r4:=slot_ne (c:=cQ) (s:=3) bD (by omega) (pW D.R i) k (by omega);have r5:=oZ (R:=D.R) (i:=i) (j:=k) (by omega);have r6:=aN (c:=cQ) (s:=3) bD (pW D.R i);rw[rl]at r6;have r7:k*3+3<=(N+1)*3:=by omega
   have s1:=F6 (iM D.R i k) ((bq i k hi (by omega)).mono (by decide))
   by_cases hp:0<iM D.R i k
   .have c1:¬dB (iM D.R i k).num 0<=0:=fun e=>(S_ _).mp e hp
    have w1:=ah (n:=((N+1:Nat):Int) - 1);have w2:((N+1:Nat):Int) - 1=(N:Int):=by omega
    rw[w2]at w1;have n0:=aI N;have n3:(N:Int)<((N+1:Nat):Int):=by omega
    have n5:=oZ (R:=D.R) (i:=i) (j:=N) (by omega);have n7:N*3+3<=(N+1)*3:=by omega
    have k1:=alC (iM D.R i N) (iM D.R i k) (bq i N hi (by omega)) (bq i k hi (by omega)) (by decide) (nz i hp);rw[show iM D.R i N / iM D.R i k=qo D N k i from rfl]at k1;have z0:¬(0:Nat)=nx:=by omega
    have z1:0<nx+1:=by omega
    have z2:nx<nx+1:=by omega
    rcases hb with ⟨rfl,hb⟩|⟨r',rfl,a9,a7,b2,b3⟩
    .refine .inl ⟨_,by simp only[go_sem,S,Y,h6,vM,E,G,O,a3,f1,f2,f3,r1,r2,rl,r3,r4,r5,r6,r7,s1,a1,c1,w1,w2,n0,n3,n5,n7,k1,m1,z0,z1,z2];rfl,?_⟩
     simp only[go_sem,S,Y,h6,vM,E,O,z0];exact⟨rfl,rfl,i,rfl,qF.first (.inl ⟨rfl,hb⟩) hp,_,rfl,⟨_,_,_,rfl⟩,fun r' e=>by rw[show r'=i by omega]⟩
    .have a4:qF D N k i r':=.inr ⟨r',rfl,a9,a7,b2,b3⟩
     have J:σ 0=some ⟨cQ (qo D N k r'),0,true⟩:=by rw[a3,a6 r' rfl]
     have q0:¬(r':Int)<0:=by omega
     have q1:(r':Int)<(D.R.length:Int):=by omega
     have q2:(0:Int)<=(r':Int):=by omega
     have q3:=fB (iT D.B) i (by omega);have q4:=idx (xs:=iT D.B) (k:=i) (by omega);rw[kN (by have:=h.fV;omega)]at q4;have q5:=fB (iT D.B) r' (by omega);have q6:=idx (xs:=iT D.B) (k:=r') (by omega);rw[kN (by have:=h.fV;omega)]at q6;have k2:=alD (qo D N k i) (qo D N k r') (lq i hi hp) (lq r' (by omega) a7) (by decide) (by decide) (by decide);have e1:=akM (qo D N k i) (qo D N k r');have e2:=akN (qo D N k i) (qo D N k r');generalize dB ((qo D N k i).num*(qo D N k r').den) ((qo D N k r').num*(qo D N k i).den)=z at k2 e1 e2
     by_cases g1:qo D N k i<qo D N k r'
     .have a0:=e1.mpr g1
      refine .inl ⟨_,by simp only[go_sem,S,Y,h6,vM,E,G,O,J,f1,f2,f3,r1,r2,rl,r3,r4,r5,r6,r7,s1,a1,c1,w1,w2,n0,n3,n5,n7,k1,k2,q0,a0,z0,z1,z2];rfl,?_⟩;simp only[go_sem,S,Y,h6,vM,E,O,z0];exact⟨rfl,rfl,i,rfl,a4.better hp (.inl g1),_,rfl,⟨_,_,_,rfl⟩,fun r' e=>by rw[show r'=i by omega]⟩
     .have a0:¬z<0:=fun e=>g1 (e1.mp e)
      by_cases g2:qo D N k i=qo D N k r'
      .rw[vw g2]at e2
       by_cases g3:D.B.getD i 0<D.B.getD r' 0
       .have a5:((D.B.getD i 0:Nat):Int)<((D.B.getD r' 0:Nat):Int):=by omega
        refine .inl ⟨_,by simp only[go_sem,S,Y,h6,vM,E,G,O,J,tl,f1,f2,f3,r1,r2,rl,r3,r4,r5,r6,r7,s1,a1,c1,w1,w2,n0,n3,n5,n7,k1,k2,q0,q1,q2,q3,q4,q5,q6,a0,e2,a5,z0,z1,z2];rfl,?_⟩;simp only[go_sem,S,Y,h6,vM,E,O,z0];exact⟨rfl,rfl,i,rfl,a4.better hp (.inr ⟨g2,g3⟩),_,rfl,⟨_,_,_,rfl⟩,fun r' e=>by rw[show r'=i by omega]⟩
       .have a5:¬((D.B.getD i 0:Nat):Int)<((D.B.getD r' 0:Nat):Int):=by omega
        refine .inl ⟨_,by simp only[go_sem,S,Y,h6,vM,E,G,O,J,tl,f1,f2,f3,r1,r2,rl,r3,r4,r5,r6,r7,s1,a1,c1,w1,w2,n0,n3,n5,n7,k1,k2,q0,q1,q2,q3,q4,q5,q6,a0,e2,a5,z0,z1,z2];rfl,?_⟩;simp only[go_sem,S,Y,h6,vM,E,O,z0,J];exact⟨rfl,rfl,r',rfl,a4.keep (.inr ⟨g2,by omega⟩),_,rfl,⟨_,_,_,rfl⟩,fun r2 e=>by rw[show r2=r' by omega]⟩
      .rw[vk g2]at e2
       refine .inl ⟨_,by simp only[go_sem,S,Y,h6,vM,E,G,O,J,tl,f1,f2,f3,r1,r2,rl,r3,r4,r5,r6,r7,s1,a1,c1,w1,w2,n0,n3,n5,n7,k1,k2,q0,a0,e2,z0,z1,z2];rfl,?_⟩;simp only[go_sem,S,Y,h6,vM,E,O,z0,J];exact⟨rfl,rfl,r',rfl,a4.keep (.inl (by grind)),_,rfl,⟨_,_,_,rfl⟩,fun r2 e=>by rw[show r2=r' by omega]⟩
   .have c1:dB (iM D.R i k).num 0<=0:=(S_ _).mpr hp
    refine .inl ⟨_,by simp only[go_sem,S,Y,h6,vM,E,G,O,f1,f2,f3,r1,r2,rl,r3,r4,r5,r6,r7,s1,a1,c1];rfl,?_⟩;simp only[go_sem,S,Y,h6,vM,E,O];exact⟨rfl,rfl,a2,r,rfl,hb.skip hp,_,a3,⟨_,_,_,rfl⟩,a6⟩) (by
   clear hL;rintro ⟨T,σ,nx⟩ ⟨S,Y,h6,vM,E,G,a2,r,O,hb,_⟩;simp only at S Y h6 vM E G a2 O;refine⟨_,by simp only[go_sem,E,G,zl];rfl,by simp,_,_,_,r,rfl,?_,hb⟩;simp only[go_sem,O]) (by
   simp only[go_sem];exact⟨rfl,-1,rfl,.inl ⟨rfl,fun j hj=>absurd hj (zW _)⟩,_,rfl,⟨_,_,_,rfl⟩,fun r' e=>by omega⟩)
 exact⟨r,by simp only[go_sem,O],hb⟩
theorem tZ {σ:Store} {b n d:Nat} {x:List Rat}(h:σ b=some ⟨x.flatMap cQ,3,true⟩)(E:x.length=n):strip σ (d+1) (.rs b 0 n)=some (LL cQ x,[b]):=by
 have G:=aN (c:=cQ) (s:=3) bD x;rw[d_,h];simp only[zi,yY,yZ];rw[if_pos (by omega),zk (by omega),iJ (nX σ d) x];show some (V.ts _ n,[b])=_;rw[<- E]
theorem JF {σ:Store} {n d:Nat}:∀ {rb:List Nat} {R:List (List Rat)},rb.length=R.length->(∀i (h:i<rb.length),σ rb[i]=some ⟨(pW R i).flatMap cQ,3,true⟩)->(∀x∈R,x.length=n)->∃ids,stripL (strip σ (d+1)) (rb.map fun b=>V.rs b 0 n)=some (R.flatMap P8,ids)
 |[],[],_,_,_=>⟨[],rfl⟩
 |[],_ :: _,h,_,_=>by simp at h
 |_ :: _,[],h,_,_=>by simp at h
 |b :: rb,x :: R,h,hr,hn=>by
  obtain⟨ids,hi⟩:=JF (rb:=rb) (R:=R) (d:=d) (by simpa using h) (fun i hi=>by
   have:=hr (i+1) (by simpa using hi);exact this) fun y E=>hn y (zY _ E)
  have G:σ b=some ⟨x.flatMap cQ,3,true⟩:=hr 0 (by simp);refine⟨[b]++ids,?_⟩;rw[List.map_cons,aO,tZ G (hn x zN)];simp only[zi];rw[hi];rfl
theorem GV.ahk {σ:Store} {v:V} {n d:Nat} {cs t:List V} {ids:List Nat}(h:GV σ v n cs)(G:cs.length=n)(E:stripL (strip σ d) cs=some (t,ids)):∃J,strip σ (d+1) v=some (.ts t n,J):=by
 rcases h with ⟨rfl,rfl⟩|⟨b,hn,rfl,hb⟩
 .have:cs=[]:=zZ G
  subst this;rw[bQ]at E;simp only[wC,wB]at E;obtain⟨rfl,rfl⟩:=E;exact⟨[],by rw[strip_nil]⟩
 .refine⟨b :: ids,?_⟩
  rw[d_,hb];simp only[zi,yN,yY,yZ];rw[if_pos (by omega),zk (by omega),E];rfl
theorem Z5 {σ:Store} {bt bc:Nat} {vr vb:V} {rb:List Nat} {D:TQ} {N:Nat}(h:tV σ bt bc vr vb rb D N)(hs:ShF D N):∃ids,strip σ 7 (.rp bt 0)=some (NI D N,ids):=by
 obtain⟨ids,E⟩:=JF (d:=4) h.len h.row hs.row;obtain⟨S,Y⟩:=h.r.ahk (by rw[zO,h.len]) E;have O:(iT D.B).length=D.R.length:=by rw[fZ];exact hs.fV
 obtain⟨G,s2⟩:=h.b.ahk (d:=5) (by rw[aS,O]) (kG ..);have J:strip σ 6 vb=some (LI (iT D.B),G):=by
  rw[s2];show some (V.ts _ D.R.length,G)=some (V.ts _ (iT D.B).length,G);rw[O]
 have s3:strip σ 6 (.rs bc 0 (N+1))=some (LL cQ D.c,[bc]):=tZ (d:=5) h.c hs.BN;have key:stripL (strip σ 6) [I N,vr,vb,.rs bc 0 (N+1)]=some (Am D N,[]++(S++(G++([bc]++[])))):=by
  simp only[aO,Y,J,s3,cO,bQ,zJ,zi];rfl
 exact⟨_,by rw[Lc,h.t,zi,key];rfl⟩
theorem asE(Qp:TQ->Prop) {N:Nat}(lex:Bool) {d:Nat}(hd:d=if lex=true then N+1 else 1)(hI:∀D,Qp D->ShF D N/\D.B.Nodup)(a5:∀D D',Qp D->Me N d D D'->Qp D')
  {σ:Store} {nx bt bc:Nat} {vr vb:V} {rb:List Nat} {D:TQ} {n:Nat} (b3:Qp D) (hn:VN N d n D) (h:tV σ bt bc vr vb rb D N) (b4:∀b∈bt :: bc :: (bk vr++bk vb++rb),b<nx) :
  ∃σ' nx' J D',ev Tryz.prog aU bU 140 [.rp bt 0,Bo lex] σ nx=some (Bo J,σ',nx')/\ajJ N d D J D'/\Qp D'/\tV σ' bt bc vr vb rb D' N/\nx<=nx'/\∀b,b<nx->b∉bc :: (bk vb++rb)->σ' b=σ b:=by
 rw[ak [.tmp 4] [] Tryz.func140];simp only[go_sem];generalize hL:aF _ _=y;obtain⟨x,rfl,T1,a3,aP,J,D1,rfl,t4,hR,hQ,hT,O,fr⟩:=bJ hL (fun m st=>st.T 0= .rp bt 0/\st.T 1=Bo lex/\nx<=st.nx/\(∀b,b<nx->b∉bc :: (bk vb++rb)->st.σ b=σ b)/\∃D1,Dn N d D D1/\Qp D1/\tV st.σ bt bc vr vb rb D1 N/\VN N d m D1)
  (fun x=>∃T σ' nx' J D',x=(.ret,⟨T,σ',nx'⟩)/\T 4=Bo J/\ajJ N d D J D'/\Qp D'/\tV σ' bt bc vr vb rb D' N/\nx<=nx'/\∀b,b<nx->b∉bc :: (bk vb++rb)->σ' b=σ b) (by
   clear hL;rintro m ⟨T,a3,aP⟩ ⟨t0,E,O,fr,D1,hr,hQ,hT,a7⟩;simp only at t0 E O hT;obtain⟨hS,b5⟩:=hI D1 hQ;obtain⟨ids,Y⟩:=Z5 hT hS;have a0:=hT.t;have hN:=hS.sz;refine fD ?_
   conv=>
    enter [1,r,1,1]
    simp only[go_sem,t0,E]
   generalize hL:aF _ _=z;obtain⟨x,rfl,T2,hx⟩:=aB hL N (fun k st=>st.T 0= .rp bt 0/\st.T 1=Bo lex/\st.T 6=I k/\st.σ=a3/\st.nx=aP/\((st.T 5=I (-1)/\∀j,j<k->j∉D1.B->¬Lp d (Ku D1 j))\/∃s:Nat,st.T 5=I s/\Kv N d D1 s))
    (fun x=>∃T,x=(.exit 2,⟨T,a3,aP⟩)/\T 0= .rp bt 0/\T 1=Bo lex/\((T 5=I (-1)/\∀j,j<N->j∉D1.B->¬Lp d (Ku D1 j))\/∃s:Nat,T 5=I s/\Kv N d D1 s)) (by
     clear hL;rintro k ⟨T,σ2,jo⟩ hk ⟨t0,E,t6,a1,G,h5⟩;simp only at t0 E t6 a1 G h5;subst a1 G;have f1:(k:Int)<(N:Int):=by omega
     have f3:=ah (n:=(k:Int)+1);rcases h5 with ⟨S,a2⟩|⟨s,S,hE⟩
     .have m1:(-1:Int)<0:=by decide
      have k1:=aoJ (D:=D1) (N:=N) (by have:=hS.fV;have:=hS.BO;omega) k
      by_cases hB:k∈D1.B
      .rw[vw hB]at k1
       refine .inl ⟨_,by simp only[go_sem,t0,E,S,t6,a0,Y,f1,f3,m1,k1];rfl,?_⟩;simp only[go_sem,t0,E,S];refine⟨rfl,.inl fun j hj a4=>?_⟩
       by_cases e:j=k
       .subst e;exact absurd hB a4
       .exact a2 j (by omega) a4
      .rw[vk hB]at k1
       obtain⟨z,k2,hz⟩:=asD hS b5 hk hB lex;rw[<- hd]at hz
       by_cases hp:0<z
       .refine .inl ⟨_,by simp only[go_sem,t0,E,S,t6,a0,Y,f1,f3,m1,k1,k2,hp];rfl,?_⟩
        simp only[go_sem,t0,E];exact⟨rfl,.inr ⟨k,rfl,hk,hB,hz.mp hp,a2⟩⟩
       .refine .inl ⟨_,by simp only[go_sem,t0,E,S,t6,a0,Y,f1,f3,m1,k1,k2,hp];rfl,?_⟩
        simp only[go_sem,t0,E,S];refine⟨rfl,.inl fun j hj a4=>?_⟩
        by_cases e:j=k
        .subst e;exact fun hl=>hp (hz.mpr hl)
        .exact a2 j (by omega) a4
     .have m1:¬(s:Int)<0:=by omega
      refine .inr ⟨_,by simp only[go_sem,t0,E,S,t6,a0,f1,m1];rfl,by simp,_,rfl,?_⟩;simp only[go_sem,t0,E,S];exact .inr ⟨s,rfl,hE⟩) (by
     clear hL;rintro ⟨T,σ2,jo⟩ ⟨t0,E,t6,a1,G,h5⟩;simp only at t0 E t6 a1 G h5;subst a1 G;refine⟨_,by simp only[go_sem,t0,E,t6,a0,zl];rfl,by simp,_,rfl,?_⟩;simp only[go_sem,t0,E];exact h5) (by
     simp only[go_sem,t0,E];exact .inl fun j hj=>absurd hj (zW _))
   obtain⟨rfl,t0,E,h5⟩:=hx;rcases h5 with ⟨S,a8⟩|⟨s,S,hE⟩
   .have m1:(-1:Int)<0:=by decide
    refine⟨_,by simp only[go_sem,t0,E,S,m1];rfl,.inr ⟨by simp,_,_,_,true,D1,rfl,?_⟩⟩;simp only[go_sem];exact⟨⟨hr,.inl ⟨rfl,a8⟩⟩,hQ,hT,O,fr⟩
   .have m1:¬(s:Int)<0:=by omega
    obtain⟨r,k3,hb⟩:=aoL hS hE.lt;rcases hb with ⟨rfl,hb⟩|⟨r',rfl,a9,b6,b7,b8⟩
    .have m2:(-1:Int)<0:=by decide
     refine⟨_,by simp only[go_sem,t0,E,S,m1,Y,k3,m2];rfl,.inr ⟨by simp,_,_,_,false,D1,rfl,?_⟩⟩;simp only[go_sem];exact⟨⟨hr,.inr ⟨rfl,s,hE,hb⟩⟩,hQ,hT,O,fr⟩
    .have m2:¬(r':Int)<0:=by omega
     have a6:Me N d D1 (Md D1 r' s):=⟨s,r',hE,⟨a9,b6,b7,b8⟩,rfl⟩;have b2:=a5 _ _ hQ a6;obtain⟨c0,dI,k4,MR,c2,b9⟩:=ahj hT hS (hI _ b2).1 (fun b hb=>xK (b4 b hb) O) a9 hE.lt (by grind);cases m with
     |zero=>exact absurd a7 id
     |succ m'=>
      refine⟨_,by simp only[go_sem,bM,t0,E,S,m1,Y,k3,m2,k4];rfl,.inl ⟨_,rfl,m',by omega,?_⟩⟩;simp only[go_sem,t0,E];exact⟨by omega,fun b hb hn=>(b9 b (by omega) hn).trans (fr b hb hn),_,hr.tail a6,b2,MR,a7 _ a6⟩) n (by
   simp only[go_sem];exact⟨fun _ _ _=>trivial,D,Dn.refl D,b3,h,hn⟩)
 exact⟨a3,aP,J,D1,by simp only[go_sem,t4],hR,hQ,hT,O,fr⟩
attribute [-go_sem] bK
theorem aoM {m n:Nat} {A b c:List Int}(hA:A.length=m*n)(hm:m<=1000)(hn:n<=1000) {i:Nat}(hi:i<m) :
  fn Tryz.prog conv ext 170 [.agg (jL m n A b c),I i]=some (.ts (((A.drop (i*n)).take n).flatMap cI) n):=by
 have h1:i*n<=m*n:=zG _ (by omega);have E:(i+1)*n<=m*n:=zG _ (by omega);have h3:m*n<=1000*1000:=yF hm hn;have G:IntKind.i64.wrap ((i:Int)*(n:Int))=((i*n:Nat):Int):=by rw[ah (by rw[<- yj];omega) (by rw[<- yj];omega),yj]
 have J:=ah (n:=(i:Int)+1);have O:IntKind.i64.wrap (((i:Int)+1)*(n:Int))=(((i+1)*n:Nat):Int):=by rw[show((i:Int)+1)=((i+1:Nat):Int)from rfl,ah (by rw[<- yj];omega) (by rw[<- yj];omega),yj]
 have S:((i*n:Nat):Int)<=(((i+1)*n:Nat):Int):=Int.ofNat_le.mpr (zG _ (by omega));have Y:(((i+1)*n:Nat):Int)<=((A.length:Nat):Int):=by rw[hA];exact Int.ofNat_le.mpr E
 have f6:(0:Int)<=((i*n:Nat):Int):=by omega
 have f7:(0:Int)<=(((i+1)*n:Nat):Int):=by omega
 have f8:(i+1)*n-i*n=n:=by rw[yA];omega
 have n1:i*n<=(i+1)*n:=zG _ (by omega);have n2:(i+1)*n<=A.length:=by omega
 unfold jL;rw[aH,ak [.tmp 4] [] Tryz.func170];simp only[go_sem,G,O,J,S,Y,f6,f7,f8,n1,n2];rw[Wu,pI]
def Aq(f:Nat->Int):Nat->Int
 |0=>0
 |k+1=>Aq f k+f k
def t_(A b:List Int)(m n k:Nat):List Int:=(List.range (n+m+1)).map fun j=>if j<n\/j=n+m then Aq (fun i=>cell0 A b m n i j) k else 0
def qs(z:List Int):List Rat:=z.map fun(x:Int)=>(x:Rat)
def Dq(A b:List Int)(m n k:Nat):TQ:=⟨(qB A b m n k).map qs,(List.range k).map fun i=>n+i,qs (t_ A b m n k)⟩
theorem jK(A b:List Int)(m n k:Nat):(t_ A b m n k).length=n+m+1:=by simp[t_]
theorem Z7(A b:List Int)(m n:Nat):t_ A b m n 0=List.replicate (n+m+1) 0:=by
 unfold t_ Aq;simp[List.map_const']
def ahl(A b c:List Int)(m n:Nat)(σ:Store)(nx k:Nat)(σ':Store)(nx':Nat)(bt:Nat):Prop:=∃bc vr vb rb,tV σ' bt bc vr vb rb (Dq A b m n k) (n+m)/\(∀x∈bt :: bc :: (bk vr++bk vb++rb),nx<x/\x<nx')/\∀x,x<nx->σ' x=σ x
def DF(v:V)(σ:Store)(lo nx:Nat)(L:List Rat):Prop:=(L=[]/\v= .nil)\/∃b,L≠[]/\lo<=b/\b<nx/\v= .rs b 0 L.length/\σ b=some ⟨L.flatMap cQ,3,true⟩
theorem qG {v:V} {σ:Store} {lo nx:Nat} {L:List Rat}(h:DF v σ lo nx L)(S:lo<=nx)(x:Rat)(Y:L.length<100000) :
  ∃σ',bT (upd σ nx (some ⟨cQ x,3,true⟩)) (nx+1) 3 56 v (cQ x) 1=some (.rs (nx+1) 0 (L.length+1),σ',nx+1+1)/\DF (.rs (nx+1) 0 (L.length+1)) σ' lo (nx+1+1) (L++[x])/\∀y,y<lo->σ' y=σ y:=by
 have hg:iZ cQ 3 (fun _=>v) σ nx 0 L:=by
  rcases h with ⟨rfl,rfl⟩|⟨b,G,h2,J,E,O⟩
  .exact .inl ⟨rfl,rfl⟩
  .exact .inr ⟨b,E,G,O,J⟩
 obtain⟨σ',g1,g2,g3⟩:=gY (bytes:=56) bD (fun _=>rfl) (by decide) hg x Y (by decide);refine⟨σ',g1,.inr ⟨nx+1,by simp,by omega,by omega,by rw[zo];rfl,g2⟩,fun y hy=>g3 y (by omega) fun b o l e=>?_⟩;rcases h with ⟨rfl,rfl⟩|⟨b',G,h2,J,E,O⟩
 .cases e
 .rw[E]at e;cases e;omega
theorem DI {A b:List Int} {m n i:Nat}(E:∀x∈A,-1000<=x/\x<=1000)(G:∀x∈b,-1000<=x/\x<=1000)(j:Nat):-1000<=cell0 A b m n i j/\cell0 A b m n i j<=1000:=by
 have J:=PI (b:=b) (i:=i) (n_ E (i*n+j));have O:=PI (b:=b) (i:=i) (n_ G i);unfold cell0
 split
 .omega
 .split
  .split<;>omega
  .omega
theorem abm {f:Nat->Int}(h:∀i,-1000<=f i/\f i<=1000):∀k:Nat,-(1000*(k:Int))<=Aq f k/\Aq f k<=1000*(k:Int)
 |0=>by unfold Aq;omega
 |k+1=>by
  have:=abm h k;have:=h k;unfold Aq;omega
theorem oD(z:List Int):(qs z).length=z.length:=by simp[qs]
theorem NK {z:List Int} {j:Nat}(h:j<z.length):(qs z)[j]'(by rw[oD];exact h)=((z[j]:Int):Rat):=by simp[qs]
theorem Hy(A b:List Int)(m n k:Nat) {j:Nat}(h:j<n+m+1):(t_ A b m n k)[j]'(by rw[jK];exact h)=if j<n\/j=n+m then Aq (fun i=>cell0 A b m n i j) k else 0:=by simp[t_]
theorem ahm {A b:List Int} {m n k:Nat}(E:∀x∈A,-1000<=x/\x<=1000)(G:∀x∈b,-1000<=x/\x<=1000)(J:k<=400) {j:Nat}(h:j<n+m+1):-1000000<=(t_ A b m n k)[j]'(by rw[jK];exact h)/\(t_ A b m n k)[j]'(by rw[jK];exact h)<=1000000:=by
 rw[Hy _ _ _ _ _ h];have:=abm (f:=fun i=>cell0 A b m n i j) (fun i=>DI E G j) k
 split<;>omega
theorem aoN {A b c:List Int} {m n:Nat}(hA:A.length=m*n)(hb:b.length=m)(hm:m<=400)(hn:n<=400)(b6:∀x∈A,-1000<=x/\x<=1000)(a6:∀x∈b,-1000<=x/\x<=1000)(σ:Store)(nx:Nat) :
  ∃σ' nx' bt,ev Tryz.prog aU bU 139 [.agg (jL m n A b c)] σ nx=some (.rp bt 0,σ',nx')/\ahl A b c m n σ nx m σ' nx' bt:=by
 obtain⟨N,hN⟩:∃N,N=n+m:=⟨_,rfl⟩;have f1:(n:Int)+(m:Int)=(N:Int):=by omega
 have f2:=ah (n:=(N:Int));obtain⟨s0,b7⟩:∃s0,s0=upd (upd σ nx (some ⟨jL m n A b c,0,true⟩)) (nx+1) (some ⟨[I N,.nil,.nil,.nil],0,true⟩):=⟨_,rfl⟩;have XG:∀x,x<nx->s0 x=σ x:=fun x hx=>by rw[b7,ay,ay]
 have l9:s0 nx=some ⟨jL m n A b c,0,true⟩:=by rw[b7,ay,upd_same]
 have m1:s0 (nx+1)=some ⟨[I N,.nil,.nil,.nil],0,true⟩:=by rw[b7,upd_same]
 have k0:fn Tryz.prog conv ext 144 [I 0]=some (.agg (cQ 0)):=mZ 0 (by decide) (by decide)
 unfold jL at b7⊢;rw[ak [.tmp 2] [5,30,33] Tryz.func139];simp only[go_sem,f1,f2,<- b7];generalize hL:aF _ _=y;obtain⟨x,rfl,T1,a4,aP,bc,rfl,J,G,n1,g1,g2,g3,g4,m2⟩:=aB hL (N+1) (fun j st=>st.T 1= .rp nx 0/\st.T 3= .rp (nx+1) 0/\st.T 4=I j/\nx+2<=st.nx/\st.σ nx=some ⟨jL m n A b c,0,true⟩/\(∀x,x<nx->st.σ x=σ x)/\((j=0/\st.σ (nx+1)=some ⟨[I N,.nil,.nil,.nil],0,true⟩)\/∃bc,0<j/\nx+1<bc/\bc<st.nx/\st.σ (nx+1)=some ⟨[I N,.nil,.nil,.rs bc 0 j],0,true⟩/\st.σ bc=some ⟨(List.replicate j (0:Rat)).flatMap cQ,3,true⟩))
  (fun x=>∃T a4 aP bc,x=(.exit 0,⟨T,a4,aP⟩)/\T 1= .rp nx 0/\T 3= .rp (nx+1) 0/\nx+1<bc/\bc<aP/\a4 nx=some ⟨jL m n A b c,0,true⟩/\a4 (nx+1)=some ⟨[I N,.nil,.nil,.rs bc 0 (N+1)],0,true⟩/\a4 bc=some ⟨(List.replicate (N+1) (0:Rat)).flatMap cQ,3,true⟩/\∀x,x<nx->a4 x=σ x) (by
   clear hL;rintro j ⟨T,a4,aP⟩ hj ⟨J,G,t4,b2,sn,fr,hc⟩;simp only at J G t4 b2 sn fr hc;have g1:(j:Int)<=(N:Int):=by omega
   have g3:=ah (n:=(j:Int)+1);have y1:nx+1<aP:=by omega
   have y2:nx+1<aP+1:=by omega
   have y3:aP<aP+1:=by omega
   have y4:¬nx+1=aP:=by omega
   have y5:¬nx+1=aP+1:=by omega
   have y6:(nx+1==aP)=false:=by rw[w_];omega
   have y7:(aP==nx+1)=false:=by rw[w_];omega
   have y8:nx+1<aP+1+1:=by omega
   have y9:=aI N;rcases hc with ⟨rfl,st⟩|⟨bc,m3,c1,c2,st,sc⟩
   .refine .inl ⟨_,by simp only[go_sem,J,G,t4,st,g1,g3,k0,y1,y2,y3,y4,y5,y6,y7,y8,y9];rfl,?_⟩
    simp only[go_sem,J,G];refine⟨rfl,by omega,?_,fun x hx=>?_,.inr ⟨aP+1,by omega,by omega,rfl,?_⟩⟩
    .rw[ay,ay,ay];exact sn
    .rw[ay,ay,ay];exact fr x hx
    .rw[ay,upd_same];rfl
   .have e1:=Aj (σ:=restrict (upd a4 aP (some ⟨cQ 0,3,true⟩)) [bc,aP]) (nx:=aP+1) (size:=3) (bytes:=56) (b:=bc) (len:=j) (m:=1) (row:=cQ 0) (by rw[fF,ay];exact sc) (by rw[aN bD,z_]) (by decide) (by decide) (by unfold maxLen;omega) (by omega) rfl
    have x1:bc<aP+1:=by omega
    have x2:(nx+1==bc)=false:=by rw[w_];omega
    have x3:(bc==nx+1)=false:=by rw[w_];omega
    have x4:¬nx+1=bc:=by omega
    refine .inl ⟨_,by simp only[go_sem,J,G,t4,st,g1,g3,k0,y1,y2,y3,y4,y5,y6,y7,y8,y9,e1,x1,x2,x3,x4];rfl,?_⟩;simp only[go_sem,J,G];refine⟨rfl,by omega,?_,fun x hx=>?_,.inr ⟨aP+1,by omega,by omega,by omega,rfl,?_⟩⟩
    .rw[ay,ay,ay,ay];exact sn
    .rw[ay,ay,ay,ay];exact fr x hx
    .rw[ay,upd_same,List.replicate_succ',zT];simp) (by
   clear hL;rintro ⟨T,a4,aP⟩ ⟨J,G,t4,b2,sn,fr,hc⟩;simp only at J G t4 b2 sn fr hc;rcases hc with ⟨h0,_⟩|⟨bc,m3,c1,c2,st,sc⟩
   .omega
   .have g1:¬((N+1:Nat):Int)<=(N:Int):=by omega
    refine⟨_,by simp only[go_sem,G,t4,st,g1];rfl,by simp,_,_,_,bc,rfl,?_⟩;simp only[go_sem,J,G];exact⟨c1,c2,sn,st,sc,fr⟩) (by
   simp only[go_sem];exact⟨l9,XG,.inl m1⟩)
 clear hL;have i0:ahl A b c m n σ nx 0 a4 aP (nx+1):=by
  refine⟨bc,.nil,.nil,[],⟨?_,.inl ⟨rfl,rfl⟩,fun i h=>absurd h (zW _),.inl ⟨rfl,rfl⟩,?_,rfl,?_⟩,fun x hx=>?_,m2⟩
  .rw[<- hN];exact g3
  .rw[g4]
   show _=some (Aw.mk ((qs (t_ A b m n 0)).flatMap cQ) 3 true);rw[Z7,<- hN];unfold qs;rw[List.map_replicate];rfl
  .simp only[bk,zM,xg,wM,zK,not_false_iff,true_and,List.nodup_nil,and_true]
   omega
  .simp only[bk,zM,zX,zK,or_false]at hx
   omega
 simp only[go_sem,J,G];generalize hL:aF _ _=y;obtain⟨x,rfl,T2,σ2,jo,rfl,G,hF⟩:=aB hL m (fun i st=>st.T 1= .rp nx 0/\st.T 3= .rp (nx+1) 0/\st.T 5=I i/\nx+2<=st.nx/\st.σ nx=some ⟨jL m n A b c,0,true⟩/\ahl A b c m n σ nx i st.σ st.nx (nx+1))
  (fun x=>∃T σ2 jo,x=(.exit 2,⟨T,σ2,jo⟩)/\T 3= .rp (nx+1) 0/\ahl A b c m n σ nx m σ2 jo (nx+1)) (by
   clear hL;rintro i ⟨T,σ2,jo⟩ hi ⟨J,G,S,b2,sn,bc,vr,vb,rb,hT,b8,fr⟩;simp only at J G S b2 sn hT b8 fr;unfold jL at sn;have g1:(i:Int)<(m:Int):=by omega
   have g2:=aI i;have g3:=ah (n:=(i:Int)+1);have g9:(i:Int)<(b.length:Int):=by omega
   have e2:(b.flatMap cI)[i]?=some (I (b.getD i 0)):=by
    rw[idx (by omega),zx,zy (by omega)];rfl
   have e3:=fB b i (by omega);have k1:=aoM (b:=b) (c:=c) hA (by omega) (by omega) hi;unfold jL at k1;obtain⟨R0,c9⟩:∃R0,R0=qs (row0 A b m n i):=⟨_,rfl⟩;have d0:R0.length=N+1:=by rw[c9,oD,jI,hN]
   have d1:∀j (h:j<R0.length),R0[j]=((cell0 A b m n i j:Int):Rat):=fun j h=>by
    subst c9;rw[NK (by rw[jI];omega),Af _ _ _ _ _ (by omega)]
   have d2:∀j,j<R0.length->R0.take j++[((cell0 A b m n i j:Int):Rat)]=R0.take (j+1):=fun j h=>by
    rw[yO,zy h,d1 j h];rfl
   have kI:∀j,fn Tryz.prog conv ext 144 [I (cell0 A b m n i j)]=some (.agg (cQ ((cell0 A b m n i j:Int):Rat))):=fun j=>by
    have:=DI (i:=i) (m:=m) (n:=n) b6 a6 j;exact mZ _ (by omega) (by omega)
   have d3:=Wy b i;refine fD ?_
   by_cases b9:b.getD i 0<0
   case' pos=>
    replace d3:sg b i= -1:=by unfold sg;rw[if_pos b9]
   case' neg=>
    replace d3:sg b i=1:=by unfold sg;rw[if_neg b9]
   all_goals
    conv=>
     enter [1,r,1,1]
     simp only[go_sem,J,G,S,sn,g1,g2,g9,e2,e3,k1,b9]
    generalize hL:aF _ _=z;obtain⟨x,rfl,T3,O,dI,rfl,J,G,S,t6,Y,a0,uV⟩:=aB hL n (fun k st=>st.T 1= .rp nx 0/\st.T 3= .rp (nx+1) 0/\st.T 5=I i/\st.T 6=I (sg b i)/\st.T 53= .ts (((A.drop (i*n)).take n).flatMap cI) n/\st.T 54=I n/\st.T 55=I k/\jo<=st.nx/\DF (st.T 7) st.σ jo st.nx (R0.take k)/\∀y,y<jo->st.σ y=σ2 y)
     (fun x=>∃T O dI,x=(.exit 4,⟨T,O,dI⟩)/\T 1= .rp nx 0/\T 3= .rp (nx+1) 0/\T 5=I i/\T 6=I (sg b i)/\jo<=dI/\DF (T 7) O jo dI (R0.take n)/\∀y,y<jo->O y=σ2 y) (by
      clear hL;rintro k ⟨T,O,dI⟩ hk ⟨J,G,S,t6,c0,b4,c3,Y,a0,uV⟩;simp only at J G S t6 c0 b4 c3 Y a0 uV;have f1:(k:Int)<(n:Int):=by omega
      have f2:=aI k;have f3:=ah (n:=(k:Int)+1);have q9:i*n+n<=A.length:=by
       have:(i+1)*n<=m*n:=zG _ (by omega);rw[yA]at this;omega
      have f4:(((A.drop (i*n)).take n).flatMap cI)[k]?=some (I (A.getD (i*n+k) 0)):=by
       rw[idx (by simp;omega),List.getElem_take,List.getElem_drop,zx,zy (by omega)];rfl
      have f5:=fB ((A.drop (i*n)).take n) k (by simp;omega);have ec:cell0 A b m n i k=sg b i*A.getD (i*n+k) 0:=by unfold cell0;rw[if_pos hk]
      have bd:=DI (i:=i) (m:=m) (n:=n) b6 a6 k;have k2:=kI k;rw[ec]at bd k2;have f6:=ah (n:=sg b i*A.getD (i*n+k) 0);obtain⟨kP,a1,a2,a3⟩:=qG a0 Y ((sg b i*A.getD (i*n+k) 0:Int):Rat) (by rw[zh];omega);rw[<- ec,d2 k (by omega)]at a2;refine .inl ⟨_,by simp only[go_sem,J,G,S,t6,c0,b4,c3,f1,f2,f3,f4,f5,f6,k2,a1];rfl,?_⟩;simp only[go_sem,J,G,S,t6,c0,b4];exact⟨rfl,by omega,a2,fun y hy=>(a3 y hy).trans (uV y hy)⟩) (by
      clear hL;rintro ⟨T,O,dI⟩ ⟨J,G,S,t6,c0,b4,c3,Y,a0,uV⟩;simp only at J G S t6 c0 b4 c3 Y a0 uV;refine⟨_,by simp only[go_sem,b4,c3,zl];rfl,by simp,_,_,_,rfl,?_⟩;simp only[go_sem,J,G,S,t6];exact⟨Y,a0,uV⟩) (by
      simp only[go_sem,J,G,S,d3];exact⟨.inl ⟨rfl,rfl⟩,fun _ _=>trivial⟩)
    clear hL
    conv=>
     enter [1,r,1,1]
     simp only[go_sem,J,G,S,t6]
    generalize hL:aF _ _=z;obtain⟨x,rfl,T4,kP,uP,rfl,J,G,S,t6,m4,a0,d4⟩:=aB hL m (fun k st=>st.T 1= .rp nx 0/\st.T 3= .rp (nx+1) 0/\st.T 5=I i/\st.T 6=I (sg b i)/\st.T 10=I k/\jo<=st.nx/\DF (st.T 7) st.σ jo st.nx (R0.take (n+k))/\∀y,y<jo->st.σ y=σ2 y)
     (fun x=>∃T O dI,x=(.exit 6,⟨T,O,dI⟩)/\T 1= .rp nx 0/\T 3= .rp (nx+1) 0/\T 5=I i/\T 6=I (sg b i)/\jo<=dI/\DF (T 7) O jo dI (R0.take (n+m))/\∀y,y<jo->O y=σ2 y) (by
      clear hL;rintro k ⟨T,O,dI⟩ hk ⟨J,G,S,t6,b5,Y,a0,uV⟩;simp only at J G S t6 b5 Y a0 uV;have f1:(k:Int)<(m:Int):=by omega
      have f3:=ah (n:=(k:Int)+1);have Ti:O nx=_:=(uV nx (by omega)).trans sn;have k2:=kI (n+k);have ec:cell0 A b m n i (n+k)=if k=i then 1 else 0:=by
       unfold cell0;rw[if_neg (by omega),if_pos (by omega)]
       by_cases h:k=i
       .rw[if_pos h,if_pos (by omega)]
       .rw[if_neg h,if_neg (by omega)]
      obtain⟨kP,a1,a2,a3⟩:=qG a0 Y ((cell0 A b m n i (n+k):Int):Rat) (by rw[zh];omega);rw[d2 (n+k) (by omega)]at a2
      by_cases d5:k=i
      .rw[if_pos d5]at ec
       rw[ec]at k2 a1;have c1:((k:Int)==(i:Int))=true:=by rw[d5];simp
       refine .inl ⟨_,by simp only[go_sem,J,G,S,t6,b5,Ti,f1,f3,c1,k2,a1];rfl,?_⟩;simp only[go_sem,J,G,S,t6];exact⟨rfl,by omega,a2,fun y hy=>(a3 y hy).trans (uV y hy)⟩
      .rw[if_neg d5]at ec
       rw[ec]at k2 a1;have c1:((k:Int)==(i:Int))=false:=by rw[w_];omega
       refine .inl ⟨_,by simp only[go_sem,J,G,S,t6,b5,Ti,f1,f3,c1,k2,a1];rfl,?_⟩;simp only[go_sem,J,G,S,t6];exact⟨rfl,by omega,a2,fun y hy=>(a3 y hy).trans (uV y hy)⟩) (by
      clear hL;rintro ⟨T,O,dI⟩ ⟨J,G,S,t6,b5,Y,a0,uV⟩;simp only at J G S t6 b5 Y a0 uV;have Ti:O nx=_:=(uV nx (by omega)).trans sn;refine⟨_,by simp only[go_sem,J,b5,Ti,zl];rfl,by simp,_,_,_,rfl,?_⟩;simp only[go_sem,J,G,S,t6];exact⟨Y,a0,uV⟩) (by
      simp only[go_sem,J,G,S,t6];exact⟨Y,a0,uV⟩)
    clear hL;have m5:kP nx=_:=(d4 nx (by omega)).trans sn;have ec:cell0 A b m n i (n+m)=sg b i*b.getD i 0:=by unfold cell0;rw[if_neg (by omega),if_neg (by omega)]
    have bd:=DI (i:=i) (m:=m) (n:=n) b6 a6 (n+m);have k2:=kI (n+m);obtain⟨jY,a1,a2,a3⟩:=qG a0 m4 ((cell0 A b m n i (n+m):Int):Rat) (by rw[zh];omega);have eL:(R0.take (n+m)).length=N:=by rw[zh];omega
    have eF:R0.take (n+m+1)=R0:=zk (by omega);rw[eL,d2 (n+m) (by omega),eF]at a2;rw[ec]at bd k2 a1;rw[eL]at a1;have f6:=ah (n:=sg b i*b.getD i 0)
    conv=>
     enter [1,r,1,1]
     simp only[go_sem,J,G,S,t6,m5,g1,g2,g9,e2,e3,f6,k2,a1]
    obtain⟨d6,d7,m6,e4,m7,e5,c4⟩:=hT;rw[<- hN]at d6 d7;obtain⟨bw,e6⟩:∃bw,bw=uP+1:=⟨_,rfl⟩;have e8:jY bw=some ⟨R0.flatMap cQ,3,true⟩:=by
     rcases a2 with ⟨h,_⟩|⟨b',h1,h2,h3,h4,h5⟩
     .rw[h]at d0;simp at d0
     .simp only[V.rs.injEq]at h4
      rw[e6,h4.1];exact h5
    rw[<- e6];have f5:∀y,y<jo->jY y=σ2 y:=fun y hy=>(a3 y hy).trans (d4 y hy)
    have m8:=b8 bc (by simp);obtain⟨C0,c5⟩:∃C0,C0=qs (t_ A b m n i):=⟨_,rfl⟩;obtain⟨C1,d8⟩:∃C1,C1=qs (t_ A b m n (i+1)):=⟨_,rfl⟩;have e9:C0.length=N+1:=by rw[c5,oD,jK,hN]
    have r0:C1.length=N+1:=by rw[d8,oD,jK,hN]
    have m9:σ2 bc=some ⟨C0.flatMap cQ,3,true⟩:=by rw[c5];exact m7
    clear a1 a2 a3 a0 k2 d4;generalize hL:aF _ _=z;obtain⟨x,rfl,T5,kU,E,rfl,J,G,S,t7,Ia,n0,P_⟩:=aB hL (N+1) (fun k st=>st.T 1= .rp nx 0/\st.T 3= .rp (nx+1) 0/\st.T 5=I i/\st.T 7= .rs bw 0 (N+1)/\st.T 93=I ((N+1:Nat):Int)/\st.T 94=I k/\bw+1<=st.nx/\st.σ bc=some ⟨(oC C1 C0 k).flatMap cQ,3,true⟩/\∀y,y<bw+1->y≠bc->st.σ y=jY y)
     (fun x=>∃T O dI,x=(.exit 8,⟨T,O,dI⟩)/\T 1= .rp nx 0/\T 3= .rp (nx+1) 0/\T 5=I i/\T 7= .rs bw 0 (N+1)/\bw+1<=dI/\O bc=some ⟨C1.flatMap cQ,3,true⟩/\∀y,y<bw+1->y≠bc->O y=jY y) (by
      clear hL;rintro k ⟨T,O,dI⟩ hk ⟨J,G,S,t7,a5,b3,Y,a7,uV⟩;simp only at J G S t7 a5 b3 Y a7 uV;have q1:(k:Int)<((N+1:Nat):Int):=by omega
      have q2:=aI k;have q3:=ah (n:=(k:Int)+1);have Ti:O nx=_:=(uV nx (by omega) (by omega)).trans ((f5 nx (by omega)).trans sn);have XB:O (nx+1)=_:=(uV (nx+1) (by omega) (by simp only[xg,zX,not_or]at c4;exact c4.1.1)).trans ((f5 (nx+1) (by omega)).trans d6);have f0:O bw=_:=(uV bw (by omega) (by omega)).trans e8;have hC:C1.length=C0.length:=by omega
      have c7:C1[k]'(by omega)=if k<n\/k=n+m then C0[k]'(by omega)+R0[k]'(by omega)else C0[k]'(by omega):=by
       subst d8 c5;rw[NK (by rw[jK];omega),NK (by rw[jK];omega),d1,Hy _ _ _ _ _ (by omega),Hy _ _ _ _ _ (by omega)]
       by_cases h:k<n\/k=n+m
       .rw[if_pos h,if_pos h,if_pos h]
        rw[show Aq (fun i=>cell0 A b m n i k) (i+1)=Aq (fun i=>cell0 A b m n i k) i+cell0 A b m n i k from rfl,Rat.intCast_add]
       .rw[if_neg h,if_neg h,if_neg h]
      have l0:Ln 1 (C0[k]'(by omega)):=by
       subst c5;rw[NK (by rw[jK];omega)];exact mO (ahm b6 a6 (by omega) (by omega))
      have l1:Ln 1 (R0[k]'(by omega)):=by
       rw[d1];exact mO (by have:=DI (i:=i) (m:=m) (n:=n) b6 a6 k;omega)
      have g4:=slot (c:=cQ) (s:=3) bD (oC C1 C0 k) k (by rw[kW hC (by omega)];omega);rw[Hu hC (by omega)]at g4;have g5:=aN (c:=cQ) (s:=3) bD (oC C1 C0 k);rw[kW hC (by omega),e9]at g5;have g6:k*3+3<=(N+1)*3:=by omega
      have g7:=slot (c:=cQ) (s:=3) bD R0 k (by omega);have g8:=aN (c:=cQ) (s:=3) bD R0;rw[d0]at g8;have k2:=abk (C0[k]'(by omega)) (R0[k]'(by omega)) l0 l1 (by decide);have l1:nx+1<dI:=by omega
      have l2:bc<dI:=by omega
      have l3:bw<dI:=by omega
      by_cases a8:k<n\/k=n+m
      .rw[if_pos a8]at c7
       have c6:patch ((oC C1 C0 k).flatMap cQ) (k*3) (cQ (C0[k]'(by omega)+R0[k]'(by omega)))=(oC C1 C0 (k+1)).flatMap cQ:=by
        rw[iU bD _ _ (by rw[kW hC (by omega)];omega),<- c7,Hw hC (by omega)]
       by_cases r1:k<n
       .have q4:(k:Int)<(n:Int):=by omega
        refine .inl ⟨_,by simp only[go_sem,J,G,S,t7,a5,b3,Ti,XB,a7,f0,q1,q2,q3,q4,g4,g5,g6,g7,g8,k2,c6,l1,l2,l3];rfl,?_⟩;simp only[go_sem,J,G,S,t7,a5];refine⟨rfl,Y,fun y hy hn=>?_⟩;rw[upd_ne _ _ hn];exact uV y hy hn
       .have q4:¬(k:Int)<(n:Int):=by omega
        have q5:((k:Int)==(N:Int))=true:=by rw[beq_iff_eq];omega
        refine .inl ⟨_,by simp only[go_sem,J,G,S,t7,a5,b3,Ti,XB,a7,f0,q1,q2,q3,q4,q5,g4,g5,g6,g7,g8,k2,c6,l1,l2,l3];rfl,?_⟩;simp only[go_sem,J,G,S,t7,a5];refine⟨rfl,Y,fun y hy hn=>?_⟩;rw[upd_ne _ _ hn];exact uV y hy hn
      .rw[if_neg a8]at c7
       have q4:¬(k:Int)<(n:Int):=by omega
       have q5:((k:Int)==(N:Int))=false:=by rw[w_];omega
       refine .inl ⟨_,by simp only[go_sem,J,G,S,t7,a5,b3,Ti,XB,q1,q2,q3,q4,q5];rfl,?_⟩;simp only[go_sem,J,G,S,t7,a5];refine⟨rfl,Y,?_,uV⟩;rw[<- P7 hC (by omega) c7];exact a7) (by
      clear hL;rintro ⟨T,O,dI⟩ ⟨J,G,S,t7,a5,b3,Y,a7,uV⟩;simp only at J G S t7 a5 b3 Y a7 uV;refine⟨_,by simp only[go_sem,a5,b3,zl];rfl,by simp,_,_,_,rfl,?_⟩;simp only[go_sem,J,G,S,t7];refine⟨Y,?_,uV⟩;rw[<- e9,Je (by omega)]at a7;exact a7) (by
      simp only[go_sem,J,G,S];refine⟨?_,fun _ _ _=>trivial⟩;rw[Jd,f5 bc m8.2];exact m9)
    clear hL;simp only[xg,zX,not_or]at c4;obtain⟨⟨n1,n2⟩,n3,n4⟩:=c4;have f6:∀y,y<jo->y≠bc->kU y=σ2 y:=fun y hy hn=>(P_ y (by omega) hn).trans (f5 y hy)
    have n6:kU bw=some ⟨R0.flatMap cQ,3,true⟩:=(P_ bw (by omega) (by omega)).trans e8;have f7:kU (nx+1)=some ⟨[I N,vr,vb,.rs bc 0 (N+1)],0,true⟩:=(f6 (nx+1) (by omega) n1).trans d6;have c8:kU nx=_:=(f6 nx (by omega) (by omega)).trans sn;have n7:(Dq A b m n i).R.length=i:=by unfold Dq qB;simp
    rw[n7]at d7 e4 e5;have fin:∀(σ':Store) (nx' F8 a9:Nat),E<=F8->F8<nx'->E<=a9->a9<nx'->F8≠a9->σ' (nx+1)=some ⟨[I N,.rs F8 0 (i+1),.rs a9 0 (i+1),.rs bc 0 (N+1)],0,true⟩->σ' F8=some ⟨(rb++[bw]).map fun b=>V.rs b 0 (N+1),1,true⟩->σ' a9=some ⟨(iT ((List.range (i+1)).map fun i=>n+i)).flatMap cI,1,true⟩->(∀y,y<E->y≠nx+1->y∉bk vr++bk vb->σ' y=kU y)->ahl A b c m n σ nx (i+1) σ' nx' (nx+1):=fun σ' nx' F8 a9 p1 p2 p3 p4 p5 p6 p7 p8 p9=>by
     have a8:∀y,y∈bk vr++bk vb++rb->y≠nx+1/\y≠bc/\nx<y/\y<jo:=fun y hy=>⟨fun e=>n2 (e ▸ hy),fun e=>n3 (e ▸ hy),b8 y (by simp only[zX];exact .inr (.inr hy))⟩
     have d9:(Dq A b m n (i+1)).R.length=i+1:=by unfold Dq qB;simp
     have f8:=List.nodup_append.mp n4;have f9:∀y,y<jo->y≠nx+1->y≠bc->y∉bk vr++bk vb->σ' y=σ2 y:=fun y h1 h2 h3 h4=>(p9 y (by omega) h2 h4).trans (f6 y h1 h3)
     have n8:∀j,j<i->pW (Dq A b m n (i+1)).R j=pW (Dq A b m n i).R j:=fun j hj=>by
      rw[iW (by omega),iW (by omega)];simp[Dq,qB]
     have n9:pW (Dq A b m n (i+1)).R i=R0:=by
      rw[iW (by omega),c9];simp[Dq,qB]
     refine⟨bc,.rs F8 0 (i+1),.rs a9 0 (i+1),rb++[bw],⟨by rw[<- hN];exact p6,?_,fun j hj=>?_,?_,?_,?_,?_⟩,fun x hx=>?_,fun x hx=>?_⟩
     .rw[d9,<- hN];exact .inr ⟨F8,by omega,rfl,p7⟩
     .rw[zo,yL]at hj
      by_cases e0:j<rb.length
      .rw[xu e0,n8 j (by omega)]
       have hm:=zu e0;have:=a8 rb[j] (zA _ hm);rw[f9 _ this.2.2.2 this.1 this.2.1 fun hy=>f8.2.2 _ hy _ hm rfl];exact m6 j e0
      .have:j=i:=by omega
       subst this;rw[wQ (by omega),n9];simp only[List.getElem_singleton];rw[p9 bw (by omega) (by omega) fun hy=>by have:=a8 bw (zF _ hy);omega];exact n6
     .rw[d9];exact .inr ⟨a9,by omega,rfl,p8⟩
     .rw[p9 bc (by omega) (yu n1) fun hy=>n3 (zF _ hy)]
      show _=some (Aw.mk ((qs (t_ A b m n (i+1))).flatMap cQ) 3 true);rw[<- d8];exact n0
     .rw[d9,zo,e5];rfl
     .simp only[bk,yT,yK,xg,zX,wS,zK,or_false,not_or]
      have a6:∀y,y∈rb->y<jo:=fun y hy=>(a8 y (zA _ hy)).2.2.2
      refine⟨⟨n1,by omega,by omega,fun h=>n2 (zA _ h),by omega⟩,⟨by omega,by omega,fun h=>n3 (zA _ h),by omega⟩,⟨p5,fun h=>by have:=a6 _ h;omega,by omega⟩,⟨fun h=>by have:=a6 _ h;omega,by omega⟩,?_⟩;exact List.nodup_append.mpr ⟨f8.2.1,by simp,fun x hx y hy=>by rw[List.mem_singleton.mp hy];have:=a6 _ hx;omega⟩
     .simp only[bk,yT,yK,zX,wS,zK,or_false]at hx
      rcases hx with rfl|rfl|rfl|rfl|hx|rfl
      .omega
      .omega
      .omega
      .omega
      .have:=a8 x (zA _ hx);omega
      .omega
     .rw[f9 x (by omega) (by omega) (by omega) fun hy=>by have:=a8 x (zF _ hy);omega]
      exact fr x hx
    have w1:=ah (n:=(n:Int)+(i:Int));have tB:iT ((List.range (i+1)).map fun i=>n+i)=iT ((List.range i).map fun i=>n+i)++[(n:Int)+(i:Int)]:=by
     unfold iT;rw[wZ,wY,wY];rfl
    have y1:nx<E:=by omega
    have y2:nx+1<E:=by omega
    have y3:¬nx+1=E:=by omega
    have y4:¬nx=E:=by omega
    have y5:(nx+1==E)=false:=by rw[w_];omega
    have y6:(E==nx+1)=false:=by rw[w_];omega
    have y7:bw<E:=by omega
    have y8:nx<E+1:=by omega
    have y9:nx+1<E+1:=by omega
    have Xh:¬nx+1=E+1:=by omega
    have Xi:¬nx=E+1:=by omega
    have Xj:(nx+1==E+1)=false:=by rw[w_];omega
    have g0:(E+1==nx+1)=false:=by rw[w_];omega
    have Xk:bw<E+1:=by omega
    have h6:nx<E+1+1:=by omega
    have h7:nx+1<E+1+1:=by omega
    have h8:¬nx+1=E+1+1:=by omega
    have h9:¬nx=E+1+1:=by omega
    have i1:(nx+1==E+1+1)=false:=by rw[w_];omega
    have i2:(E+1+1==nx+1)=false:=by rw[w_];omega
    have i3:bw<E+1+1:=by omega
    have i4:nx<E+1+1+1:=by omega
    have i5:nx+1<E+1+1+1:=by omega
    have i6:¬nx+1=E+1+1+1:=by omega
    have i7:¬nx=E+1+1+1:=by omega
    have i9:(nx+1==E+1+1+1)=false:=by rw[w_];omega
    have j0:(E+1+1+1==nx+1)=false:=by rw[w_];omega
    have j1:bw<E+1+1+1:=by omega
    have j2:nx<E+1+1+1+1:=by omega
    have j3:nx+1<E+1+1+1+1:=by omega
    have j4:¬nx+1=E+1+1+1+1:=by omega
    have j5:¬nx=E+1+1+1+1:=by omega
    have j6:(nx+1==E+1+1+1+1)=false:=by rw[w_];omega
    have j7:(E+1+1+1+1==nx+1)=false:=by rw[w_];omega
    have j8:bw<E+1+1+1+1:=by omega
    have j9:¬nx=nx+1:=by omega
    have k3:E+1+1<E+1+1+1:=by omega
    have k4:E<E+1:=by omega
    have k5:E+1<E+1+1:=by omega
    have k6:(nx==E)=false:=by rw[w_];omega
    have k7:(E==nx)=false:=by rw[w_];omega
    have k8:(nx==E+1)=false:=by rw[w_];omega
    have k9:(E+1==nx)=false:=by rw[w_];omega
    have l4:(nx==E+1+1)=false:=by rw[w_];omega
    have l5:(E+1+1==nx)=false:=by rw[w_];omega
    have l6:(nx==E+1+1+1)=false:=by rw[w_];omega
    have l7:(E+1+1+1==nx)=false:=by rw[w_];omega
    rcases d7 with ⟨hi0,rfl⟩|⟨br,hi0,rfl,o0⟩<;>rcases e4 with ⟨o2,rfl⟩|⟨bb,o2,rfl,o3⟩
    .have o4:rb=[]:=zZ (by omega)
     subst o4;refine⟨_,by simp only[go_sem,J,G,S,t7,f7,c8,g3,w1,y1,y2,y3,y4,y5,y6,y7,y8,y9,Xh,Xi,Xj,g0,Xk,h6,h7,h8,h9,i1,i2,i3,i4,i5,i6,i7,i9,j0,j1,j2,j3,j4,j5,j6,j7,j8,j9,k3,k4,k5,k6,k7,k8,k9,l4,l5,l6,l7];rfl,.inl ⟨_,rfl,?_⟩⟩;simp only[go_sem,J,G,S];refine⟨rfl,by omega,?_,fin _ _ (E+1) (E+1+1+1) (by omega) (by omega) (by omega) (by omega) (by omega) ?_ ?_ ?_ fun y h1 h2 _=>?_⟩
     .rw[ay,ay,ay,ay,ay,ay];exact c8
     .rw[upd_same,hi0]
     .rw[ay,ay,ay,ay,upd_same];rfl
     .rw[ay,upd_same,tB,hi0];rfl
     .rw[ay,ay,ay,ay,ay,ay]
    .omega
    .omega
    .have lr:=b8 br (by simp[bk])
     have lb:=b8 bb (by simp[bk]);simp only[bk,yT,yK,zX,not_or]at n2 n3 n4;have n5:¬br=bb:=by
      rw[xg]at n4;exact fun e=>n4.1 (by rw[e];exact zN)
     have o5:kU br=_:=(f6 br lr.2 (fun e=>n3.1 e.symm)).trans o0;have o6:kU bb=_:=(f6 bb lb.2 (fun e=>n3.2.1 e.symm)).trans o3;have o9:=kQ (σ:=upd kU E (some ⟨[V.rs bw 0 (N+1)],1,true⟩)) (nx:=E+1) (bytes:=24) (b:=br) (len:=i) (m:=1) (row:=[V.rs bw 0 (N+1)]) (by rw[ay];exact o5) (by simp;omega) rfl (by decide) (by unfold maxLen;omega) (by omega) rfl;obtain⟨vI,e7⟩:∃vI,vI=upd (upd (upd (upd kU E (some ⟨[V.rs bw 0 (N+1)],1,true⟩)) br none) (E+1) (some ⟨(rb.map fun b=>V.rs b 0 (N+1))++[V.rs bw 0 (N+1)],1,true⟩)) (nx+1) (some ⟨[I N,.rs (E+1) 0 (i+1),.rs bb 0 i,.rs bc 0 (N+1)],0,true⟩):=⟨_,rfl⟩;have o7:∀y,y<E->y≠nx+1->y≠br->vI y=kU y:=fun y h1 h2 h3=>by rw[e7,upd_ne _ _ h2,ay,upd_ne _ _ h3,ay]
     have p0:vI (nx+1)=some ⟨[I N,.rs (E+1) 0 (i+1),.rs bb 0 i,.rs bc 0 (N+1)],0,true⟩:=by rw[e7,upd_same]
     have l8:vI nx=_:=(o7 nx (by omega) (by omega) (by omega)).trans c8;have q0:vI bb=_:=(o7 bb (by omega) (by omega) (yu n5)).trans o6;have q6:((iT (Dq A b m n i).B).flatMap cI).length=i:=by rw[aS,fZ];simp[Dq]
     have q7:=kQ (σ:=restrict (upd vI (E+1+1) (some ⟨[I ((n:Int)+(i:Int))],1,true⟩)) [bb,E+1+1]) (nx:=E+1+1+1) (bytes:=8) (b:=bb) (len:=i) (m:=1) (row:=[I ((n:Int)+(i:Int))]) (by rw[fF,ay];exact q0) q6 rfl (by decide) (by unfold maxLen;omega) (by omega) rfl;have u1:¬nx+1=br:=fun e=>n2.1 e
     have u2:¬nx+1=bb:=fun e=>n2.2.1 e
     have u3:(nx+1==bb)=false:=beq_false_of_ne u2;have u4:(bb==nx+1)=false:=beq_false_of_ne (yu u2);have u5:bb<E+1+1:=by omega
     have u6:bb<E+1+1+1:=by omega
     have u7:(nx==bb)=false:=by rw[w_];omega
     have u8:(bb==nx)=false:=by rw[w_];omega
     have u9:¬nx=br:=by omega
     have q8:¬nx=bb:=by omega
     refine⟨_,by simp only[go_sem,J,G,S,t7,f7,c8,g3,w1,o9,<- e7,p0,l8,q7,u1,u2,u3,u4,u5,u6,u7,u8,u9,q8,y1,y2,y3,y4,y5,y6,y7,y8,y9,Xh,Xi,Xj,g0,Xk,h6,h7,h8,h9,i1,i2,i3,i4,i5,i6,i7,i9,j0,j1,j2,j3,j4,j5,j6,j7,j8,j9,k3,k4,k5,k6,k7,k8,k9,l4,l5,l6,l7];rfl,.inl ⟨_,rfl,?_⟩⟩;simp only[go_sem,J,G,S];refine⟨rfl,by omega,?_,fin _ _ (E+1) (E+1+1+1) (by omega) (by omega) (by omega) (by omega) (by omega) ?_ ?_ ?_ fun y h1 h2 h3=>?_⟩
     .rw[ay,ay,ay,ay];exact l8
     .rw[upd_same]
     .rw[ay,ay,ay,ay,e7,ay,upd_same,wY];rfl
     .rw[ay,upd_same,tB,zT];rfl
     .simp only[bk,yT,yK,zX,zK,or_false,not_or]at h3
      rw[upd_ne _ _ h2,ay,upd_ne _ _ h3.2,ay];exact o7 y h1 h2 h3.1) (by
   clear hL;rintro ⟨T,σ2,jo⟩ ⟨J,G,S,b2,sn,hF⟩;simp only at J G S b2 sn hF;unfold jL at sn;refine⟨_,by simp only[go_sem,J,S,sn,zl];rfl,by simp,_,_,_,rfl,?_⟩;simp only[go_sem,G];exact hF) (by
   simp only[go_sem,J,G];exact⟨by omega,g2,i0⟩)
 exact⟨σ2,jo,nx+1,by simp only[go_sem,G],hF⟩
def qQ(n:Nat)(D:TQ)(i:Nat):Prop:=n<=D.B.getD i 0->∀j,j<n->iM D.R i j=0
theorem qQ.piv {n N:Nat} {D:TQ} {i k r:Nat}(E:∀x∈D.R,x.length=N+1)(hl:D.B.length=D.R.length)(h:qQ n D r)(O:r<D.R.length)(hi:i<D.R.length)(S:k<n)(hn:n<=N)(G:r≠i):qQ n (Md D i k) r:=fun Y j hj=>by
 have J:n<=D.B.getD r 0:=by
  have:(D.B.set i k).getD r 0=D.B.getD r 0:=by
   rw[zx,zx,List.getElem?_set_ne (yu G)]
  rw[<- this];exact Y
 show iM (nU D.R i k) r j=0;rw[RD E hi O (by omega),if_neg G,h J j hj,h J k S];grind
def ED(c:List Int):List Rat:=qs c++[0]
def D2q(n:Nat)(D:TQ)(c:List Int):TQ:=⟨(pick n D.R D.B).1,(pick n D.R D.B).2,clears (ED c) (pick n D.R D.B).1 (pick n D.R D.B).2⟩
theorem adP {α:Type} {c:α->List V} {s:Nat}(hc:∀x,(c x).length=s)(xs:List α) {k:Nat}(h:k<=xs.length):(xs.flatMap c).take (k*s)=(xs.take k).flatMap c:=by
 have:=wP k xs
 conv=>lhs;rw[<- this]
 rw[zT,xO];rw[aN hc,zh,yC h]
theorem Qa {n:Nat}(x:List Rat)(b:Nat):∀ {R:List (List Rat)} {B:List Nat},B.length=R.length->pick n (R++[x]) (B++[b])=if b<n then((pick n R B).1++[x.take n++[x.getLastD 0]],(pick n R B).2++[b])else pick n R B
 |[],[],_=>by
  show(if b<n then((x.take n++[x.getLastD 0]) :: (pick n [] []).1,b :: (pick n [] []).2)else pick n [] [])=_;rfl
 |[],_ :: _,h=>by simp at h
 |_ :: _,[],h=>by simp at h
 |y :: R,d :: B,h=>by
  have E:=Qa (n:=n) x b (R:=R) (B:=B) (by simpa using h);show(if d<n then((y.take n++[y.getLastD 0]) :: (pick n (R++[x]) (B++[b])).1,d :: (pick n (R++[x]) (B++[b])).2)else pick n (R++[x]) (B++[b]))=if b<n then((if d<n then((y.take n++[y.getLastD 0]) :: (pick n R B).1,d :: (pick n R B).2)else pick n R B).1++_,(if d<n then((y.take n++[y.getLastD 0]) :: (pick n R B).1,d :: (pick n R B).2)else pick n R B).2++[b])else if d<n then((y.take n++[y.getLastD 0]) :: (pick n R B).1,d :: (pick n R B).2)else pick n R B
  rw[E]
  by_cases G:b<n<;>by_cases J:d<n<;>simp[G,J]
theorem Hz {n:Nat}:∀ {R:List (List Rat)} {B:List Nat},(pick n R B).2.length=(pick n R B).1.length
 |[],_=>by simp[pick]
 |_ :: _,[]=>by simp[pick]
 |x :: R,b :: B=>by
  have E:=Hz (n:=n) (R:=R) (B:=B);unfold pick
  split<;>simp[E]
theorem HY {n:Nat}:∀ {R:List (List Rat)} {B:List Nat},(∀x∈(pick n R B).1,∃y∈R,x=y.take n++[y.getLastD 0])/\∀b∈(pick n R B).2,b<n
 |[],_=>by simp[pick]
 |_ :: _,[]=>by simp[pick]
 |y :: R,b :: B=>by
  obtain⟨O,S⟩:=HY (n:=n) (R:=R) (B:=B);unfold pick
  split
  .refine⟨fun x E=>?_,fun d G=>?_⟩
   .rcases List.mem_cons.mp E with rfl|E
    .exact⟨y,zN,rfl⟩
    .obtain⟨z,J,e⟩:=O x E
     exact⟨z,zY _ J,e⟩
   .rcases List.mem_cons.mp G with rfl|G
    .assumption
    .exact S d G
  .refine⟨fun x E=>?_,S⟩
   obtain⟨z,J,e⟩:=O x E;exact⟨z,zY _ J,e⟩
theorem JG(x:List Rat)(b:Nat):∀ {R:List (List Rat)} {B:List Nat} {c:List Rat},B.length=R.length->clears c (R++[x]) (B++[b])=JW (clears c R B) x ((clears c R B).getD b 0)
 |[],[],_,_=>rfl
 |[],_ :: _,_,h=>by simp at h
 |_ :: _,[],_,h=>by simp at h
 |y :: R,d :: B,c,h=>JG x b (R:=R) (B:=B) (c:=JW c y (c.getD d 0)) (by simpa using h)
theorem NM {n:Nat}:∀ {R:List (List Rat)} {B:List Nat} {c:List Rat},c.length=n->(∀x∈R,x.length=n)->(clears c R B).length=n
 |[],_,_,h,_=>by unfold clears;exact h
 |_ :: _,[],_,h,_=>by unfold clears;exact h
 |x :: R,b :: B,c,h,hr=>NM (R:=R) (B:=B) (c:=JW c x (c.getD b 0)) (by rw[Ei (by rw[hr x zN,h]),h]) fun y E=>hr y (zY _ E)
theorem ahu {σ σ':Store} {bt bc br bb bw m0 N b:Nat} {vr vb:V} {rb:List Nat} {D:TQ} {x:List Rat}(h:tV σ bt bc vr vb rb D N)(hm:∀y∈bt :: bc :: (bk vr++bk vb++rb),y<m0)(p1:m0<=br)(p2:m0<=bb)(p3:m0<=bw)(p4:br≠bb)(p5:br≠bw)(p6:bb≠bw)
  (q1:σ' bt=some ⟨[I N,.rs br 0 (D.R.length+1),.rs bb 0 (D.R.length+1),.rs bc 0 (N+1)],0,true⟩) (q2:σ' br=some ⟨(rb++[bw]).map fun b=>V.rs b 0 (N+1),1,true⟩) (q3:σ' bb=some ⟨(iT (D.B++[b])).flatMap cI,1,true⟩) (q4:σ' bw=some ⟨x.flatMap cQ,3,true⟩) (fr:∀y,y<m0->y≠bt->y∉bk vr++bk vb->σ' y=σ y) :
  tV σ' bt bc (.rs br 0 (D.R.length+1)) (.rs bb 0 (D.R.length+1)) (rb++[bw]) ⟨D.R++[x],D.B++[b],D.c⟩ N:=by
 obtain⟨g1,g2,g3,g4,g5,g6,g7⟩:=h;have E:(D.R++[x]).length=D.R.length+1:=by simp
 simp only[xg,zX,not_or]at g7;obtain⟨⟨n1,n2⟩,n3,n4⟩:=g7;have Y:=List.nodup_append.mp n4;have a0:∀y,y∈bk vr++bk vb++rb->y<m0:=fun y G=>hm y (by simp only[zX];exact .inr (.inr G))
 have a2:=hm bt (by simp);have a1:=hm bc (by simp);refine⟨q1,?_,fun j hj=>?_,?_,?_,?_,?_⟩
 .show GV σ' _ (D.R++[x]).length _
  rw[E];exact .inr ⟨br,by omega,rfl,q2⟩
 .show _=some (Aw.mk ((pW (D.R++[x]) j).flatMap cQ) 3 true)
  rw[zo,yL]at hj
  by_cases J:j<rb.length
  .have e:pW (D.R++[x]) j=pW D.R j:=by rw[iW (by rw[E];omega),iW (by omega),xu (by omega)]
   rw[xu J,e];have O:=zu J;rw[fr _ (a0 _ (zA _ O)) (fun e=>n2 (e ▸ zA _ O)) fun G=>Y.2.2 _ G _ O rfl];exact g3 j J
  .have e:pW (D.R++[x]) j=x:=by
    rw[iW (by rw[E];omega),wQ (by omega)];simp
   rw[wQ (by omega),e];simp only[List.getElem_singleton];exact q4
 .show GV σ' _ (D.R++[x]).length _
  rw[E];exact .inr ⟨bb,by omega,rfl,q3⟩
 .rw[fr bc a1 (yu n1) fun G=>n3 (zF _ G)];exact g5
 .show _=(D.R++[x]).length
  rw[E,zo,g6];rfl
 .simp only[bk,yT,yK,xg,zX,wS,zK,or_false,not_or]
  have S:∀y,y∈rb->y<m0:=fun y G=>a0 y (zA _ G)
  refine⟨⟨n1,by omega,by omega,fun h=>n2 (zA _ h),by omega⟩,⟨by omega,by omega,fun h=>n3 (zA _ h),by omega⟩,⟨p4,fun h=>by have:=S _ h;omega,p5⟩,⟨fun h=>by have:=S _ h;omega,p6⟩,?_⟩;exact List.nodup_append.mpr ⟨Y.2.1,by simp,fun x hx y G=>by rw[List.mem_singleton.mp G];have:=S _ hx;omega⟩
theorem akO(Qp:TQ->Prop) {A b c:List Int} {m n N:Nat}(hc:c.length=n)(hN:N=n+m)(azr:n<=400)(hc1:∀x∈c,-1000<=x/\x<=1000)(hI:∀D,Qp D->ShF D N)
  (hpv:∀D i k,Qp D->i<D.R.length->n<=D.B.getD i 0->k<n->iM D.R i k≠0->Qp (Md D i k))
  (hcl:∀D,Qp D->(∀i,i<D.R.length->qQ n D i)->∀q,q<=(pick n D.R D.B).1.length->∀u∈clears (ED c) ((pick n D.R D.B).1.take q) ((pick n D.R D.B).2.take q),Ln 6 u)
  {σ:Store} {nx bt bc:Nat} {vr vb:V} {rb:List Nat} {D:TQ} (hQ:Qp D) (h:tV σ bt bc vr vb rb D N) (a6:∀x∈bt :: bc :: (bk vr++bk vb++rb),x<nx) :
  ∃σ' nx' n3 Y Xl Xm FW D',ev Tryz.prog aU bU 142 [.agg (jL m n A b c),.rp bt 0] σ nx=some (.rp n3 0,σ',nx')/\Qp D'/\(∀i,i<D'.R.length->qQ n D' i)/\tV σ' n3 Y Xl Xm FW (D2q n D' c) n/\(∀x∈n3 :: Y :: (bk Xl++bk Xm++FW),nx<=x/\x<nx')/\∀x,x<nx->x∉bc :: (bk vb++rb)->σ' x=σ x:=by
 have hbt:=h.t;obtain⟨s0,j1⟩:∃s0,s0=upd σ nx (some ⟨jL m n A b c,0,true⟩):=⟨_,rfl⟩;have XG:∀x,x<nx->s0 x=σ x:=fun x hx=>by rw[j1,ay]
 have s0n:s0 nx=some ⟨jL m n A b c,0,true⟩:=by rw[j1,upd_same]
 have p8:=(XG bt (a6 bt (by simp))).trans hbt;have asU:tV s0 bt bc vr vb rb D N:=by
  obtain⟨g1,g2,g3,g4,g5,g6,g7⟩:=h;have gv:∀v n cs,(∀x∈bk v,x<nx)->GV σ v n cs->GV s0 v n cs:=fun v n cs hx hg=>by
   rcases hg with hg|⟨b,q1,rfl,q3⟩
   .exact .inl hg
   .exact .inr ⟨b,q1,rfl,(XG b (hx b (by simp[bk]))).trans q3⟩
  refine⟨p8,gv _ _ _ (fun x hx=>a6 x (by simp[hx])) g2,fun i hi=>(XG _ (a6 _ (by simp[zu hi]))).trans (g3 i hi),gv _ _ _ (fun x hx=>a6 x (by simp[hx])) g4,(XG bc (a6 bc (by simp))).trans g5,g6,g7⟩
 have hlR:∀D1:TQ,tV s0 bt bc vr vb rb D1 N->D1.R.length=rb.length:=fun D1 h1=>h1.len.symm
 obtain⟨L,eL⟩:∃L,L=D.R.length:=⟨_,rfl⟩;have azs:L<=1000:=by have:=(hI D hQ).BO;omega
 have hlen:mP Tryz.prog 175 vr=some (I L):=by
  rcases h.r with ⟨q1,rfl⟩|⟨br,q1,rfl,_⟩
  .have:L=0:=by omega
   subst this;exact oN (by kernel_rfl)
  .rw[eL];exact sG (by kernel_rfl)
 unfold jL at j1⊢;rw[ak [.tmp 4] [14,15,21,22,27] Tryz.func142];simp only[go_sem,<- j1,p8,hlen];generalize hL:aF _ _=y;obtain⟨x,rfl,T1,a0,G,D1,rfl,S,O,h5,a9,i4,TF,b5,b2,j9⟩:=aB hL L (fun i st=>st.T 1= .rp bt 0/\st.T 2= .rp nx 0/\st.T 18=I L/\st.T 19=I i/\nx+1<=st.nx/\st.σ nx=some ⟨jL m n A b c,0,true⟩/\(∀x,x<nx->x∉bc :: (bk vb++rb)->st.σ x=σ x)/\∃D1,Qp D1/\D1.R.length=L/\(∀q,q<i->qQ n D1 q)/\tV st.σ bt bc vr vb rb D1 N)
  (fun x=>∃T a0 G D1,x=(.exit 0,⟨T,a0,G⟩)/\T 1= .rp bt 0/\T 2= .rp nx 0/\nx+1<=G/\a0 nx=some ⟨jL m n A b c,0,true⟩/\(∀x,x<nx->x∉bc :: (bk vb++rb)->a0 x=σ x)/\Qp D1/\(∀q,q<L->qQ n D1 q)/\tV a0 bt bc vr vb rb D1 N/\D1.R.length=L) (by
   clear hL;rintro i ⟨T,a0,G⟩ hi ⟨S,O,og,a1,h5,a9,i4,D1,TF,n4,b5,b2⟩;simp only at S O og a1 h5 a9 b2;unfold jL at a9;have g1:(i:Int)<(L:Int):=by omega
   have g2:=aI i;have g3:=ah (n:=(i:Int)+1);refine fD ?_
   conv=>
    enter [1,r,1,1]
    simp only[go_sem,S,O,og,a1,g1]
   generalize hL:aF _ _=z;obtain⟨x,rfl,T2,σ2,jo,D2,rfl,S,O,og,a1,c3,a7,Z8,c4,a8,a3,a4⟩:=aB hL n (fun j st=>st.T 1= .rp bt 0/\st.T 2= .rp nx 0/\st.T 18=I L/\st.T 19=I i/\st.T 5=I i/\st.T 6=I j/\nx+1<=st.nx/\st.σ nx=some ⟨[I m,I n,LI A,LI b,LI c],0,true⟩/\(∀x,x<nx->x∉bc :: (bk vb++rb)->st.σ x=σ x)/\∃D1,Qp D1/\D1.R.length=L/\(∀q,q<i->qQ n D1 q)/\tV st.σ bt bc vr vb rb D1 N/\(n<=D1.B.getD i 0->∀q,q<j->iM D1.R i q=0))
    (fun x=>∃T a0 G D1,x=(.exit 2,⟨T,a0,G⟩)/\T 1= .rp bt 0/\T 2= .rp nx 0/\T 18=I L/\T 19=I i/\nx+1<=G/\a0 nx=some ⟨[I m,I n,LI A,LI b,LI c],0,true⟩/\(∀x,x<nx->x∉bc :: (bk vb++rb)->a0 x=σ x)/\Qp D1/\D1.R.length=L/\(∀q,q<i+1->qQ n D1 q)/\tV a0 bt bc vr vb rb D1 N) (by
     clear hL;rintro j ⟨T,σ2,jo⟩ hj ⟨S,O,og,a1,t5,t6,c3,a7,Z8,D2,c4,a8,a3,a4,hz⟩;simp only at S O og a1 t5 t6 c3 a7 a4;have q1:(j:Int)<(n:Int):=by omega
     have q2:=aI j;have q3:=ah (n:=(j:Int)+1);have h6:=hI D2 c4;have n5:=a4.t;obtain⟨br,rfl,j2⟩:∃br,vr= .rs br 0 L/\σ2 br=some ⟨rb.map fun b=>V.rs b 0 (N+1),1,true⟩:=by
      rcases a4.r with ⟨e,_⟩|⟨br,_,e,e2⟩
      .omega
      .exact⟨br,by rw[e,a8],e2⟩
     obtain⟨bb,rfl,i5⟩:∃bb,vb= .rs bb 0 L/\σ2 bb=some ⟨(iT D2.B).flatMap cI,1,true⟩:=by
      rcases a4.b with ⟨e,_⟩|⟨bb,_,e,e2⟩
      .omega
      .exact⟨bb,by rw[e,a8],e2⟩
     have l1:nx<jo:=by omega
     have l2:bt<jo:=by have:=a6 bt (by simp);omega
     have l3:bb<jo:=by have:=a6 bb (by simp[bk]);omega
     have p9:=h6.fV;have b1:=idx (xs:=iT D2.B) (k:=i) (by rw[fZ];omega);rw[kN (by omega)]at b1
     by_cases hB:n<=D2.B.getD i 0
     .have c1:(n:Int)<=((D2.B.getD i 0:Nat):Int):=by omega
      have b3:i<rb.length:=by have:=a4.len;omega
      have r1:(rb.map fun b=>V.rs b 0 (N+1))[i]?=some (.rs rb[i] 0 (N+1)):=by rw[yX,zy b3];rfl
      have r2:=a4.row i b3;have rl:=rF h6.row (show i<D2.R.length by omega);have r3:=oZ (R:=D2.R) (i:=i) (j:=j) (by omega);have r4:=aN (c:=cQ) (s:=3) bD (pW D2.R i);rw[rl]at r4;have r5:(j:Int)<((N+1:Nat):Int):=by omega
      have r6:j*3+3<=(N+1)*3:=by omega
      have bq:Ln 6 (iM D2.R i j):=by
       rw[<- F7 (by omega)];exact h6.big _ (by rw[iW (show i<D2.R.length by omega)];exact zu _) _ (zu _)
      have k1:=F6 (iM D2.R i j) (bq.mono (by decide));have s1:=Z4 (iM D2.R i j)
      by_cases h0:iM D2.R i j=0
      .rw[vw h0,Bool.not_true]at s1
       refine .inl ⟨_,by simp only[go_sem,S,O,og,a1,t5,t6,a7,n5,a8,j2,i5,b1,g1,g2,q1,q2,q3,c1,l1,l2,l3,r1,r2,r3,r4,r5,r6,k1,s1];rfl,?_⟩;simp only[go_sem,S,O,og,a1,t5];refine⟨rfl,c3,a7,Z8,D2,c4,a8,a3,a4,fun _ q hq=>?_⟩
       by_cases e:q=j
       .subst e;exact h0
       .exact hz hB q (by omega)
      .rw[vk h0,xJ]at s1
       have q0:=hpv D2 i j c4 (by omega) hB hj h0;obtain⟨a5,J,k2,MR,h7,uV⟩:=ahj (nx:=jo) a4 h6 (hI _ q0) (fun b hb=>by have:=a6 b hb;omega) (show i<D2.R.length by omega) (show j<N by omega) h0;have hl3:(Md D2 i j).R.length=L:=(oU ..).trans a8;refine .inl ⟨_,by simp only[go_sem,bM,S,O,og,a1,t5,t6,a7,n5,a8,j2,i5,b1,g1,g2,q1,q2,q3,c1,l1,l2,l3,r1,r2,r3,r4,r5,r6,k1,s1,k2];rfl,?_⟩;simp only[go_sem,S,O,og,a1,t5];refine⟨rfl,by omega,?_,fun x hx j3=>(uV x (by omega) j3).trans (Z8 x hx j3),_,q0,hl3,fun q hq=>(a3 q hq).piv h6.row h6.fV (by omega) (by omega) hj (by omega) (by omega),MR,fun hB3=>?_⟩
       .rw[uV nx (by omega) fun hm=>by have:=a6 nx (by simp only[zX,wS]at hm⊢;rcases hm with h|h|h<;>simp[h]);omega]
        exact a7
       .have:(D2.B.set i j).getD i 0=j:=by rw[zx,List.getElem?_set_self (by omega)];rfl
        have hB4:n<=(D2.B.set i j).getD i 0:=hB3;omega
     .have c1:¬(n:Int)<=((D2.B.getD i 0:Nat):Int):=by omega
      refine .inr ⟨_,by simp only[go_sem,S,O,og,a1,t5,t6,a7,n5,a8,i5,b1,g1,g2,q1,c1,l1,l2,l3];rfl,by simp,_,_,_,D2,rfl,?_⟩;simp only[go_sem,S,O,og,a1];refine⟨c3,a7,Z8,c4,a8,fun q hq=>?_,a4⟩
      by_cases e:q=i
      .subst e;exact fun h=>absurd h hB
      .exact a3 q (by omega)) (by
     clear hL;rintro ⟨T,σ2,jo⟩ ⟨S,O,og,a1,t5,t6,c3,a7,Z8,D2,c4,a8,a3,a4,hz⟩;simp only at S O og a1 t5 t6 c3 a7 a4;have l1:nx<jo:=by omega
     refine⟨_,by simp only[go_sem,O,t6,a7,zl,l1];rfl,by simp,_,_,_,D2,rfl,?_⟩;simp only[go_sem,S,O,og,a1];refine⟨c3,a7,Z8,c4,a8,fun q hq=>?_,a4⟩
     by_cases e:q=i
     .subst e;exact hz
     .exact a3 q (by omega)) (by
     simp only[go_sem,S,O,og,a1];exact⟨h5,a9,i4,D1,TF,n4,b5,b2,fun _ q hq=>absurd hq (zW _)⟩)
   refine⟨_,by simp only[go_sem,a1,g3];rfl,.inl ⟨_,rfl,?_⟩⟩;simp only[go_sem,S,O,og];exact⟨rfl,c3,a7,Z8,D2,c4,a8,a3,a4⟩) (by
   clear hL;rintro ⟨T,a0,G⟩ ⟨S,O,og,a1,h5,a9,i4,D1,TF,n4,b5,b2⟩;simp only at S O og a1 h5 a9 b2;refine⟨_,by simp only[go_sem,og,a1,zl];rfl,by simp,_,_,_,D1,rfl,?_⟩;simp only[go_sem,S,O];exact⟨h5,a9,i4,TF,b5,b2,n4⟩) (by
   simp only[go_sem];exact⟨s0n,fun x hx _=>XG x hx,D,hQ,eL.symm,fun q hq=>absurd hq (zW _),asU⟩)
 clear hL;have kI:∀j,fn Tryz.prog conv ext 144 [I (c.getD j 0)]=some (.agg (cQ ((c.getD j 0:Int):Rat))):=fun j=>by
  have:=n_ hc1 j;exact mZ _ (by omega) (by omega)
 have k0:fn Tryz.prog conv ext 144 [I 0]=some (.agg (cQ 0)):=mZ 0 (by decide) (by decide)
 have snp:∀j,j<n->(qs c).take j++[((c.getD j 0:Int):Rat)]=(qs c).take (j+1):=fun j h=>by
  rw[yO,zy (by rw[oD];omega),NK (by omega),getD_at (by omega)];rfl
 unfold jL at a9;have d1:¬nx=G:=by omega
 simp only[go_sem,S,O,a9,d1];generalize hL:aF _ _=y;obtain⟨x,rfl,T3,a5,J,rfl,S,O,t7,h7,Ti,uV,g9⟩:=aB hL n (fun j st=>st.T 1= .rp bt 0/\st.T 2= .rp nx 0/\st.T 7= .rp G 0/\st.T 8=I j/\G<st.nx/\st.σ nx=some ⟨[I m,I n,LI A,LI b,LI c],0,true⟩/\(∀x,x<G->st.σ x=a0 x)/\((j=0/\st.σ G=some ⟨[I n,.nil,.nil,.nil],0,true⟩)\/∃bc,0<j/\G<bc/\bc<st.nx/\st.σ G=some ⟨[I n,.nil,.nil,.rs bc 0 j],0,true⟩/\st.σ bc=some ⟨((qs c).take j).flatMap cQ,3,true⟩))
  (fun x=>∃T a5 J,x=(.exit 4,⟨T,a5,J⟩)/\T 1= .rp bt 0/\T 2= .rp nx 0/\T 7= .rp G 0/\G<J/\a5 nx=some ⟨[I m,I n,LI A,LI b,LI c],0,true⟩/\(∀x,x<G->a5 x=a0 x)/\((n=0/\a5 G=some ⟨[I n,.nil,.nil,.nil],0,true⟩)\/∃bc,0<n/\G<bc/\bc<J/\a5 G=some ⟨[I n,.nil,.nil,.rs bc 0 n],0,true⟩/\a5 bc=some ⟨((qs c).take n).flatMap cQ,3,true⟩)) (by
   clear hL;rintro j ⟨T,a5,J⟩ hj ⟨S,O,t7,t8,h7,Ti,uV,g9⟩;simp only at S O t7 t8 h7 Ti uV g9;have g1:(j:Int)<(n:Int):=by omega
   have g2:=aI j;have g3:=ah (n:=(j:Int)+1);have g4:(j:Int)<(c.length:Int):=by omega
   have g5:(c.flatMap cI)[j]?=some (I (c.getD j 0)):=by
    rw[idx (by omega),zx,zy (by omega)];rfl
   have g6:=fB c j (by omega);have k1:=kI j;have hs:=snp j hj;generalize ((c.getD j 0:Int):Rat)=w at k1 hs;have y1:nx<J:=by omega
   have y2:¬nx=J:=by omega
   have y3:(nx==J)=false:=by rw[w_];omega
   have y4:(J==nx)=false:=by rw[w_];omega
   have y5:G<J:=by omega
   have y6:¬G=J:=by omega
   have y7:(G==J)=false:=by rw[w_];omega
   have y8:(J==G)=false:=by rw[w_];omega
   have y9:nx<J+1:=by omega
   have Xh:¬nx=J+1:=by omega
   have Xi:(nx==J+1)=false:=by rw[w_];omega
   have Xj:(J+1==nx)=false:=by rw[w_];omega
   have c5:G<J+1:=by omega
   have Xk:¬G=J+1:=by omega
   have c6:(G==J+1)=false:=by rw[w_];omega
   have c7:(J+1==G)=false:=by rw[w_];omega
   have c8:nx<J+1+1:=by omega
   have c9:¬nx=J+1+1:=by omega
   have d0:(nx==J+1+1)=false:=by rw[w_];omega
   have d5:(J+1+1==nx)=false:=by rw[w_];omega
   have d6:G<J+1+1:=by omega
   have d7:¬G=J+1+1:=by omega
   have d8:(G==J+1+1)=false:=by rw[w_];omega
   have d9:(J+1+1==G)=false:=by rw[w_];omega
   have e8:¬nx=G:=by omega
   have e9:¬G=nx:=by omega
   have f0:(nx==G)=false:=by rw[w_];omega
   have f4:(G==nx)=false:=by rw[w_];omega
   have f5:J<J+1:=by omega
   have f6:J+1<J+1+1:=by omega
   rcases g9 with ⟨h0,st⟩|⟨Y,hj0,c1,c2,st,sc⟩
   .have g7:(qs c).take 0=[]:=rfl
    refine .inl ⟨_,by simp only[go_sem,S,O,t7,t8,Ti,st,g1,g2,g3,g4,g5,g6,k1,y1,y2,y3,y4,y5,y6,y7,y8,y9,Xh,Xi,Xj,c5,Xk,c6,c7,c8,c9,d0,d5,d6,d7,d8,d9,e8,e9,f0,f4,f5,f6];rfl,?_⟩;simp only[go_sem,S,O,t7];refine⟨rfl,by omega,?_,fun x hx=>?_,.inr ⟨J+1,by omega,by omega,by omega,by rw[h0],?_⟩⟩
    .rw[ay,ay,ay];exact Ti
    .rw[ay,ay,ay];exact uV x hx
    .rw[ay,upd_same,<- hs,h0,g7];simp
   .have i6:=Aj (σ:=restrict (upd a5 J (some ⟨cQ w,3,true⟩)) [Y,J]) (nx:=J+1) (size:=3) (bytes:=56) (b:=Y) (len:=j) (m:=1) (row:=cQ w) (by rw[fF,ay];exact sc) (by rw[aN bD,zh,oD];omega) (by decide) (by decide) (by unfold maxLen;omega) (by omega) rfl
    have x1:Y<J+1:=by omega
    have x2:(G==Y)=false:=by rw[w_];omega
    have x3:(Y==G)=false:=by rw[w_];omega
    have x4:¬G=Y:=by omega
    have x5:(nx==Y)=false:=by rw[w_];omega
    have x6:(Y==nx)=false:=by rw[w_];omega
    have x7:¬nx=Y:=by omega
    refine .inl ⟨_,by simp only[go_sem,S,O,t7,t8,Ti,st,g1,g2,g3,g4,g5,g6,k1,i6,x1,x2,x3,x4,x5,x6,x7,y1,y2,y3,y4,y5,y6,y7,y8,y9,Xh,Xi,Xj,c5,Xk,c6,c7,c8,c9,d0,d5,d6,d7,d8,d9,e8,e9,f0,f4,f5,f6];rfl,?_⟩;simp only[go_sem,S,O,t7];refine⟨rfl,by omega,?_,fun x hx=>?_,.inr ⟨J+1,by omega,by omega,by omega,rfl,?_⟩⟩
    .rw[ay,ay,ay,ay];exact Ti
    .rw[ay,ay,ay,ay];exact uV x hx
    .rw[ay,upd_same,<- hs,zT];simp) (by
   clear hL;rintro ⟨T,a5,J⟩ ⟨S,O,t7,t8,h7,Ti,uV,g9⟩;simp only at S O t7 t8 h7 Ti uV g9;refine⟨_,by simp only[go_sem,O,t8,Ti,zl];rfl,by simp,_,_,_,rfl,?_⟩;simp only[go_sem,S,O,t7];exact⟨h7,Ti,uV,g9⟩) (by
   simp only[go_sem,S,O];refine⟨by omega,?_,fun x hx=>?_,.inl trivial⟩
   .rw[upd_ne _ _ d1];exact a9
   .rw[ay])
 clear hL;have y1:nx<J:=by omega
 have y2:¬nx=J:=by omega
 have y3:(nx==J)=false:=by rw[w_];omega
 have y4:(J==nx)=false:=by rw[w_];omega
 have y5:G<J:=by omega
 have y6:¬G=J:=by omega
 have y7:(G==J)=false:=by rw[w_];omega
 have y8:(J==G)=false:=by rw[w_];omega
 have y9:nx<J+1:=by omega
 have Xh:¬nx=J+1:=by omega
 have Xi:(nx==J+1)=false:=by rw[w_];omega
 have Xj:(J+1==nx)=false:=by rw[w_];omega
 have c5:G<J+1:=by omega
 have Xk:¬G=J+1:=by omega
 have c6:(G==J+1)=false:=by rw[w_];omega
 have c7:(J+1==G)=false:=by rw[w_];omega
 have c8:nx<J+1+1:=by omega
 have c9:¬nx=J+1+1:=by omega
 have d0:(nx==J+1+1)=false:=by rw[w_];omega
 have d5:(J+1+1==nx)=false:=by rw[w_];omega
 have d6:G<J+1+1:=by omega
 have d7:¬G=J+1+1:=by omega
 have d8:(G==J+1+1)=false:=by rw[w_];omega
 have d9:(J+1+1==G)=false:=by rw[w_];omega
 have e8:¬nx=G:=by omega
 have e9:(nx==G)=false:=by rw[w_];omega
 have f0:¬G=nx:=by omega
 have f4:(G==nx)=false:=by rw[w_];omega
 have f5:J<J+1:=by omega
 have f6:J+1<J+1+1:=by omega
 have n6:=b2.t;have ltt:=a6 bt (by simp);have i7:bt<J+1+1:=by omega
 have f7:¬bt=G:=by omega
 have f8:¬bt=J:=by omega
 have i9:¬bt=J+1:=by omega
 have hqs:(qs c).take n=qs c:=zk (by rw[oD];omega);rcases g9 with ⟨h0,st⟩|⟨Y,hj0,c1,c2,st,sc⟩
 case' inl=>
  obtain⟨kP,e4⟩:∃kP,kP=upd (upd (upd a5 J (some ⟨cQ 0,3,true⟩)) (J+1) (some ⟨cQ 0,3,true⟩)) G (some ⟨[I n,.nil,.nil,.rs (J+1) 0 1],0,true⟩):=⟨_,rfl⟩;have q8:kP G=some ⟨[I n,.nil,.nil,.rs (J+1) 0 (n+1)],0,true⟩:=by rw[e4,upd_same,h0]
  have q9:kP (J+1)=some ⟨(ED c).flatMap cQ,3,true⟩:=by
   have:c=[]:=zZ (by omega);rw[e4,ay,upd_same,this];rfl
  have j4:∀x,x<G->kP x=a0 x:=fun x hx=>by rw[e4,ay,ay,ay];exact uV x hx
  have n7:kP bt=_:=(j4 bt (by omega)).trans n6;simp only[go_sem,S,O,t7,st,k0,y1,y2,y3,y4,y5,y6,y7,y8,y9,Xh,Xi,Xj,c5,Xk,c6,c7,c8,c9,d0,d5,d6,d7,d8,d9,e8,e9,f0,f4,f5,f6,i7,f7,f8,i9,<- e4,n7,hlen]
 case' inr=>
  have i6:=Aj (σ:=restrict (upd a5 J (some ⟨cQ 0,3,true⟩)) [Y,J]) (nx:=J+1) (size:=3) (bytes:=56) (b:=Y) (len:=n) (m:=1) (row:=cQ 0) (by rw[fF,ay];exact sc) (by rw[aN bD,zh,oD];omega) (by decide) (by decide) (by unfold maxLen;omega) (by omega) rfl;have x1:Y<J+1:=by omega
  have x2:(G==Y)=false:=by rw[w_];omega
  have x3:(Y==G)=false:=by rw[w_];omega
  have x4:¬G=Y:=by omega
  have x7:¬bt=Y:=by omega
  obtain⟨kP,e4⟩:∃kP,kP=upd (upd (upd (upd a5 J (some ⟨cQ 0,3,true⟩)) Y none) (J+1) (some ⟨((qs c).take n).flatMap cQ++cQ 0,3,true⟩)) G (some ⟨[I n,.nil,.nil,.rs (J+1) 0 (n+1)],0,true⟩):=⟨_,rfl⟩;have q8:kP G=some ⟨[I n,.nil,.nil,.rs (J+1) 0 (n+1)],0,true⟩:=by rw[e4,upd_same]
  have q9:kP (J+1)=some ⟨(ED c).flatMap cQ,3,true⟩:=by
   rw[e4,ay,upd_same,hqs];unfold ED;rw[zT];simp
  have j4:∀x,x<G->kP x=a0 x:=fun x hx=>by rw[e4,ay,ay,ay,ay];exact uV x hx
  have n7:kP bt=_:=(j4 bt (by omega)).trans n6;simp only[go_sem,S,O,t7,st,k0,i6,x1,x2,x3,x4,x7,y1,y2,y3,y4,y5,y6,y7,y8,y9,Xh,Xi,Xj,c5,Xk,c6,c7,c8,c9,d0,d5,d6,d7,d8,d9,e8,e9,f0,f4,f5,f6,i7,f7,f8,i9,<- e4,n7,hlen]
 all_goals
  clear e4;have h8:=hI D1 TF;have p9:=h8.fV;have hlR:=b2.len;generalize hL:aF _ _=y;obtain⟨x,rfl,T5,jY,E,h9,j5,b8,rfl,t7,i0,Z9,BP,DJ⟩:=aB hL L (fun i st=>st.T 1= .rp bt 0/\st.T 2= .rp nx 0/\st.T 7= .rp G 0/\st.T 95=vr/\st.T 96=I L/\st.T 97=I i/\J+1<st.nx/\(∀x,x<G->st.σ x=a0 x)/\∃Xl Xm FW,tV st.σ G (J+1) Xl Xm FW ⟨(pick n (D1.R.take i) (D1.B.take i)).1,(pick n (D1.R.take i) (D1.B.take i)).2,ED c⟩ n/\∀x∈G :: (J+1) :: (bk Xl++bk Xm++FW),G<=x/\x<st.nx)
   (fun x=>∃T jY E Xl Xm FW,x=(.exit 6,⟨T,jY,E⟩)/\T 7= .rp G 0/\J+1<E/\(∀x,x<G->jY x=a0 x)/\tV jY G (J+1) Xl Xm FW ⟨(pick n D1.R D1.B).1,(pick n D1.R D1.B).2,ED c⟩ n/\∀x∈G :: (J+1) :: (bk Xl++bk Xm++FW),G<=x/\x<E) (by
    clear hL;rintro i ⟨T,jY,E⟩ hi ⟨S,O,t7,b9,b4,h4,i0,Z9,Xl,Xm,FW,BP,DJ⟩;simp only at S O t7 b9 b4 h4 i0 Z9 BP DJ;obtain⟨br,rfl,j2⟩:∃br,vr= .rs br 0 L/\a0 br=some ⟨rb.map fun b=>V.rs b 0 (N+1),1,true⟩:=by
     rcases b2.r with ⟨e,_⟩|⟨br,_,e,e2⟩
     .omega
     .exact⟨br,by rw[e,j9],e2⟩
    obtain⟨bb,rfl,i5⟩:∃bb,vb= .rs bb 0 L/\a0 bb=some ⟨(iT D1.B).flatMap cI,1,true⟩:=by
     rcases b2.b with ⟨e,_⟩|⟨bb,_,e,e2⟩
     .omega
     .exact⟨bb,by rw[e,j9],e2⟩
    have b3:i<rb.length:=by omega
    obtain⟨bi,uN⟩:∃bi,bi=rb[i]:=⟨_,rfl⟩;have lb1:=a6 br (by simp[bk]);have lb2:=a6 bb (by simp[bk]);have lb3:bi<nx:=by rw[uN];exact a6 _ (by simp[zu b3])
    have g1:(i:Int)<(L:Int):=by omega
    have g2:=aI i;have g3:=ah (n:=(i:Int)+1);have e1:jY bt=_:=(Z9 bt (by omega)).trans n6;have e2:jY br=_:=(Z9 br (by omega)).trans j2;have e3:jY bb=_:=(Z9 bb (by omega)).trans i5;have e4:jY bi=some ⟨(pW D1.R i).flatMap cQ,3,true⟩:=(Z9 bi (by omega)).trans (by rw[uN];exact b2.row i b3);have e5:jY nx=_:=(Z9 nx (by omega)).trans a9;have r1:(rb.map fun b=>V.rs b 0 (N+1))[i]?=some (.rs bi 0 (N+1)):=by rw[yX,zy b3,uN];rfl
    have b1:=idx (xs:=iT D1.B) (k:=i) (by rw[fZ];omega);rw[kN (by omega)]at b1;have i1:=Qa (n:=n) (pW D1.R i) (D1.B.getD i 0) (R:=D1.R.take i) (B:=D1.B.take i) (by rw[zh,zh,p9]);have pR:D1.R.take i++[pW D1.R i]=D1.R.take (i+1):=by rw[yO,zy (by omega),iW (by omega)];rfl
    have pB:D1.B.take i++[D1.B.getD i 0]=D1.B.take (i+1):=by rw[yO,zy (by omega),getD_at (by omega)];rfl
    rw[pR,pB]at i1;have l1:bt<E:=by omega
    have l2:bb<E:=by omega
    have l3:nx<E:=by omega
    by_cases hB:D1.B.getD i 0<n
    .rw[if_pos hB]at i1
     have c1:((D1.B.getD i 0:Nat):Int)<(n:Int):=by omega
     have rl:=rF h8.row (show i<D1.R.length by omega);obtain⟨w,ew⟩:∃w,w=(pW D1.R i).take n:=⟨_,rfl⟩;have hwl:w.length=n:=by rw[ew,zh];omega
     obtain⟨z,ez⟩:∃z,z=iM D1.R i N:=⟨_,rfl⟩;have n8:(pW D1.R i).getLastD 0=z:=by
      rw[List.getLastD_eq_getLast?,List.getLast?_eq_getElem?,rl,ez];unfold iM pW;rw[zx];rfl
     rw[<- ew,n8]at i1;have r3:=oZ (R:=D1.R) (i:=i) (j:=N) (by omega);rw[<- ez]at r3;have r4:=aN (c:=cQ) (s:=3) bD (pW D1.R i);rw[rl]at r4;have r5:(N:Int)<((N+1:Nat):Int):=by omega
     have r6:N*3+3<=(N+1)*3:=by omega
     have r7:=aI N;have r8:=aI n;have r9:(n:Int)<=((N+1:Nat):Int):=by omega
     have r0:n<=N+1:=by omega
     have s2:n*3<=(N+1)*3:=by omega
     have s4:((pW D1.R i).flatMap cQ).take (n*3)=w.flatMap cQ:=by rw[ew,adP bD _ (by omega)]
     have s5:¬n=0:=by omega
     have s6:n<=maxLen/\n*56<=140737488355328:=by unfold maxLen;omega
     have y1:nx<E:=by omega
     have y2:¬nx=E:=by omega
     have y3:(nx==E)=false:=by rw[w_];omega
     have y4:(E==nx)=false:=by rw[w_];omega
     have y5:G<E:=by omega
     have y6:¬G=E:=by omega
     have y7:(G==E)=false:=by rw[w_];omega
     have y8:(E==G)=false:=by rw[w_];omega
     have y9:bt<E:=by omega
     have Xh:¬bt=E:=by omega
     have Xi:(bt==E)=false:=by rw[w_];omega
     have Xj:(E==bt)=false:=by rw[w_];omega
     have c5:bi<E:=by omega
     have Xk:¬bi=E:=by omega
     have c6:(bi==E)=false:=by rw[w_];omega
     have c7:(E==bi)=false:=by rw[w_];omega
     have c8:nx<E+1:=by omega
     have c9:¬nx=E+1:=by omega
     have d0:(nx==E+1)=false:=by rw[w_];omega
     have d5:(E+1==nx)=false:=by rw[w_];omega
     have d6:G<E+1:=by omega
     have d7:¬G=E+1:=by omega
     have d8:(G==E+1)=false:=by rw[w_];omega
     have d9:(E+1==G)=false:=by rw[w_];omega
     have e8:bt<E+1:=by omega
     have e9:¬bt=E+1:=by omega
     have f0:(bt==E+1)=false:=by rw[w_];omega
     have f4:(E+1==bt)=false:=by rw[w_];omega
     have f5:bi<E+1:=by omega
     have f6:¬bi=E+1:=by omega
     have s7:(bi==E+1)=false:=by rw[w_];omega
     have s8:(E+1==bi)=false:=by rw[w_];omega
     have s9:nx<E+1+1:=by omega
     have t3:¬nx=E+1+1:=by omega
     have t4:(nx==E+1+1)=false:=by rw[w_];omega
     have t9:(E+1+1==nx)=false:=by rw[w_];omega
     have u0:G<E+1+1:=by omega
     have v0:¬G=E+1+1:=by omega
     have v2:(G==E+1+1)=false:=by rw[w_];omega
     have v3:(E+1+1==G)=false:=by rw[w_];omega
     have v4:bt<E+1+1:=by omega
     have v5:¬bt=E+1+1:=by omega
     have v6:(bt==E+1+1)=false:=by rw[w_];omega
     have v7:(E+1+1==bt)=false:=by rw[w_];omega
     have v8:bi<E+1+1:=by omega
     have v9:¬bi=E+1+1:=by omega
     have w2:(bi==E+1+1)=false:=by rw[w_];omega
     have w3:(E+1+1==bi)=false:=by rw[w_];omega
     have w4:nx<E+1+1+1:=by omega
     have w5:¬nx=E+1+1+1:=by omega
     have w7:(nx==E+1+1+1)=false:=by rw[w_];omega
     have w8:(E+1+1+1==nx)=false:=by rw[w_];omega
     have w9:G<E+1+1+1:=by omega
     have x0:¬G=E+1+1+1:=by omega
     have x8:(G==E+1+1+1)=false:=by rw[w_];omega
     have x9:(E+1+1+1==G)=false:=by rw[w_];omega
     have y0:bt<E+1+1+1:=by omega
     have z0:¬bt=E+1+1+1:=by omega
     have z5:(bt==E+1+1+1)=false:=by rw[w_];omega
     have z6:(E+1+1+1==bt)=false:=by rw[w_];omega
     have z7:bi<E+1+1+1:=by omega
     have z8:¬bi=E+1+1+1:=by omega
     have z9:(bi==E+1+1+1)=false:=by rw[w_];omega
     have A0:(E+1+1+1==bi)=false:=by rw[w_];omega
     have A1:nx<E+1+1+1+1:=by omega
     have A2:¬nx=E+1+1+1+1:=by omega
     have A3:(nx==E+1+1+1+1)=false:=by rw[w_];omega
     have A4:(E+1+1+1+1==nx)=false:=by rw[w_];omega
     have A5:G<E+1+1+1+1:=by omega
     have A6:¬G=E+1+1+1+1:=by omega
     have A7:(G==E+1+1+1+1)=false:=by rw[w_];omega
     have A9:(E+1+1+1+1==G)=false:=by rw[w_];omega
     have B1:bt<E+1+1+1+1:=by omega
     have B2:¬bt=E+1+1+1+1:=by omega
     have B3:(bt==E+1+1+1+1)=false:=by rw[w_];omega
     have B4:(E+1+1+1+1==bt)=false:=by rw[w_];omega
     have B5:bi<E+1+1+1+1:=by omega
     have B6:¬bi=E+1+1+1+1:=by omega
     have B7:(bi==E+1+1+1+1)=false:=by rw[w_];omega
     have B8:(E+1+1+1+1==bi)=false:=by rw[w_];omega
     have B9:nx<E+1+1+1+1+1:=by omega
     have C0:¬nx=E+1+1+1+1+1:=by omega
     have C1:(nx==E+1+1+1+1+1)=false:=by rw[w_];omega
     have C2:(E+1+1+1+1+1==nx)=false:=by rw[w_];omega
     have C3:G<E+1+1+1+1+1:=by omega
     have C4:¬G=E+1+1+1+1+1:=by omega
     have C5:(G==E+1+1+1+1+1)=false:=by rw[w_];omega
     have C6:(E+1+1+1+1+1==G)=false:=by rw[w_];omega
     have C7:bt<E+1+1+1+1+1:=by omega
     have C8:¬bt=E+1+1+1+1+1:=by omega
     have D3:(bt==E+1+1+1+1+1)=false:=by rw[w_];omega
     have D4:(E+1+1+1+1+1==bt)=false:=by rw[w_];omega
     have D5:bi<E+1+1+1+1+1:=by omega
     have D6:¬bi=E+1+1+1+1+1:=by omega
     have E0:(bi==E+1+1+1+1+1)=false:=by rw[w_];omega
     have E1:(E+1+1+1+1+1==bi)=false:=by rw[w_];omega
     have E2:nx<E+1+1+1+1+1+1:=by omega
     have E3:¬nx=E+1+1+1+1+1+1:=by omega
     have E4:(nx==E+1+1+1+1+1+1)=false:=by rw[w_];omega
     have i7:(E+1+1+1+1+1+1==nx)=false:=by rw[w_];omega
     have f7:G<E+1+1+1+1+1+1:=by omega
     have f8:¬G=E+1+1+1+1+1+1:=by omega
     have i9:(G==E+1+1+1+1+1+1)=false:=by rw[w_];omega
     have k3:(E+1+1+1+1+1+1==G)=false:=by rw[w_];omega
     have E6:bt<E+1+1+1+1+1+1:=by omega
     have E7:¬bt=E+1+1+1+1+1+1:=by omega
     have E9:(bt==E+1+1+1+1+1+1)=false:=by rw[w_];omega
     have F0:(E+1+1+1+1+1+1==bt)=false:=by rw[w_];omega
     have F1:bi<E+1+1+1+1+1+1:=by omega
     have F2:¬bi=E+1+1+1+1+1+1:=by omega
     have F3:(bi==E+1+1+1+1+1+1)=false:=by rw[w_];omega
     have k4:(E+1+1+1+1+1+1==bi)=false:=by rw[w_];omega
     have k5:¬nx=G:=by omega
     have k6:(nx==G)=false:=by rw[w_];omega
     have k7:¬G=nx:=by omega
     have F4:(G==nx)=false:=by rw[w_];omega
     have G0:¬G=bt:=by omega
     have G1:(G==bt)=false:=by rw[w_];omega
     have G3:¬G=bi:=by omega
     have G4:(G==bi)=false:=by rw[w_];omega
     have H0:¬bt=G:=by omega
     have H1:(bt==G)=false:=by rw[w_];omega
     have H2:¬bi=G:=by omega
     have H3:(bi==G)=false:=by rw[w_];omega
     have H4:E<E+1:=by omega
     have H5:¬E=E+1:=by omega
     have I0:(E==E+1)=false:=by rw[w_];omega
     have I1:(E+1==E)=false:=by rw[w_];omega
     have I2:E<E+1+1:=by omega
     have I3:¬E=E+1+1:=by omega
     have I4:(E==E+1+1)=false:=by rw[w_];omega
     have I6:(E+1+1==E)=false:=by rw[w_];omega
     have J0:E<E+1+1+1:=by omega
     have J1:¬E=E+1+1+1:=by omega
     have J2:(E==E+1+1+1)=false:=by rw[w_];omega
     have K0:(E+1+1+1==E)=false:=by rw[w_];omega
     have K1:E<E+1+1+1+1:=by omega
     have K2:¬E=E+1+1+1+1:=by omega
     have K3:(E==E+1+1+1+1)=false:=by rw[w_];omega
     have K4:(E+1+1+1+1==E)=false:=by rw[w_];omega
     have K5:E<E+1+1+1+1+1:=by omega
     have K6:¬E=E+1+1+1+1+1:=by omega
     have K7:(E==E+1+1+1+1+1)=false:=by rw[w_];omega
     have K8:(E+1+1+1+1+1==E)=false:=by rw[w_];omega
     have K9:E<E+1+1+1+1+1+1:=by omega
     have L0:¬E=E+1+1+1+1+1+1:=by omega
     have L1:(E==E+1+1+1+1+1+1)=false:=by rw[w_];omega
     have L2:(E+1+1+1+1+1+1==E)=false:=by rw[w_];omega
     have L3:E+1<E+1+1:=by omega
     have k8:¬E+1=E+1+1:=by omega
     have k9:(E+1==E+1+1)=false:=by rw[w_];omega
     have l5:(E+1+1==E+1)=false:=by rw[w_];omega
     have l6:E+1<E+1+1+1:=by omega
     have L4:¬E+1=E+1+1+1:=by omega
     have L5:(E+1==E+1+1+1)=false:=by rw[w_];omega
     have L7:(E+1+1+1==E+1)=false:=by rw[w_];omega
     have l7:E+1<E+1+1+1+1:=by omega
     have l8:¬E+1=E+1+1+1+1:=by omega
     have l9:(E+1==E+1+1+1+1)=false:=by rw[w_];omega
     have n0:(E+1+1+1+1==E+1)=false:=by rw[w_];omega
     have M0:E+1<E+1+1+1+1+1:=by omega
     have M1:¬E+1=E+1+1+1+1+1:=by omega
     have M2:(E+1==E+1+1+1+1+1)=false:=by rw[w_];omega
     have M3:(E+1+1+1+1+1==E+1)=false:=by rw[w_];omega
     have M4:E+1<E+1+1+1+1+1+1:=by omega
     have M5:¬E+1=E+1+1+1+1+1+1:=by omega
     have n1:(E+1==E+1+1+1+1+1+1)=false:=by rw[w_];omega
     have n2:(E+1+1+1+1+1+1==E+1)=false:=by rw[w_];omega
     have M6:E+1+1<E+1+1+1:=by omega
     have M7:¬E+1+1=E+1+1+1:=by omega
     have M8:(E+1+1==E+1+1+1)=false:=by rw[w_];omega
     have M9:(E+1+1+1==E+1+1)=false:=by rw[w_];omega
     have N0:E+1+1<E+1+1+1+1:=by omega
     have N1:¬E+1+1=E+1+1+1+1:=by omega
     have N2:(E+1+1==E+1+1+1+1)=false:=by rw[w_];omega
     have N3:(E+1+1+1+1==E+1+1)=false:=by rw[w_];omega
     have N4:E+1+1<E+1+1+1+1+1:=by omega
     have N5:¬E+1+1=E+1+1+1+1+1:=by omega
     have N6:(E+1+1==E+1+1+1+1+1)=false:=by rw[w_];omega
     have O0:(E+1+1+1+1+1==E+1+1)=false:=by rw[w_];omega
     have O2:E+1+1<E+1+1+1+1+1+1:=by omega
     have O3:¬E+1+1=E+1+1+1+1+1+1:=by omega
     have O5:(E+1+1==E+1+1+1+1+1+1)=false:=by rw[w_];omega
     have P0:(E+1+1+1+1+1+1==E+1+1)=false:=by rw[w_];omega
     have P1:E+1+1+1<E+1+1+1+1:=by omega
     have P2:¬E+1+1+1=E+1+1+1+1:=by omega
     have P3:(E+1+1+1==E+1+1+1+1)=false:=by rw[w_];omega
     have P4:(E+1+1+1+1==E+1+1+1)=false:=by rw[w_];omega
     have Q0:E+1+1+1<E+1+1+1+1+1:=by omega
     have Q4:¬E+1+1+1=E+1+1+1+1+1:=by omega
     have Q6:(E+1+1+1==E+1+1+1+1+1)=false:=by rw[w_];omega
     have R0:(E+1+1+1+1+1==E+1+1+1)=false:=by rw[w_];omega
     have R1:E+1+1+1<E+1+1+1+1+1+1:=by omega
     have R2:¬E+1+1+1=E+1+1+1+1+1+1:=by omega
     have R3:(E+1+1+1==E+1+1+1+1+1+1)=false:=by rw[w_];omega
     have R4:(E+1+1+1+1+1+1==E+1+1+1)=false:=by rw[w_];omega
     have R5:E+1+1+1+1<E+1+1+1+1+1:=by omega
     have R6:¬E+1+1+1+1=E+1+1+1+1+1:=by omega
     have R7:(E+1+1+1+1==E+1+1+1+1+1)=false:=by rw[w_];omega
     have R8:(E+1+1+1+1+1==E+1+1+1+1)=false:=by rw[w_];omega
     have R9:E+1+1+1+1<E+1+1+1+1+1+1:=by omega
     have S0:¬E+1+1+1+1=E+1+1+1+1+1+1:=by omega
     have S1:(E+1+1+1+1==E+1+1+1+1+1+1)=false:=by rw[w_];omega
     have S2:(E+1+1+1+1+1+1==E+1+1+1+1)=false:=by rw[w_];omega
     have S3:E+1+1+1+1+1<E+1+1+1+1+1+1:=by omega
     have S4:¬E+1+1+1+1+1=E+1+1+1+1+1+1:=by omega
     have S5:(E+1+1+1+1+1==E+1+1+1+1+1+1)=false:=by rw[w_];omega
     have S6:(E+1+1+1+1+1+1==E+1+1+1+1+1)=false:=by rw[w_];omega
     have S7:bb<E:=by omega
     have S8:¬bb=E:=by omega
     have T4:(bb==E)=false:=by rw[w_];omega
     have T7:(E==bb)=false:=by rw[w_];omega
     have T8:bb<E+1:=by omega
     have T9:¬bb=E+1:=by omega
     have U1:(bb==E+1)=false:=by rw[w_];omega
     have U4:(E+1==bb)=false:=by rw[w_];omega
     have U6:bb<E+1+1:=by omega
     have V0:¬bb=E+1+1:=by omega
     have V1:(bb==E+1+1)=false:=by rw[w_];omega
     have V2:(E+1+1==bb)=false:=by rw[w_];omega
     have V3:bb<E+1+1+1:=by omega
     have V4:¬bb=E+1+1+1:=by omega
     have V5:(bb==E+1+1+1)=false:=by rw[w_];omega
     have W0:(E+1+1+1==bb)=false:=by rw[w_];omega
     have W1:bb<E+1+1+1+1:=by omega
     have W2:¬bb=E+1+1+1+1:=by omega
     have W3:(bb==E+1+1+1+1)=false:=by rw[w_];omega
     have W4:(E+1+1+1+1==bb)=false:=by rw[w_];omega
     have W5:bb<E+1+1+1+1+1:=by omega
     have W6:¬bb=E+1+1+1+1+1:=by omega
     have W7:(bb==E+1+1+1+1+1)=false:=by rw[w_];omega
     have W8:(E+1+1+1+1+1==bb)=false:=by rw[w_];omega
     have X0:bb<E+1+1+1+1+1+1:=by omega
     have X1:¬bb=E+1+1+1+1+1+1:=by omega
     have X2:(bb==E+1+1+1+1+1+1)=false:=by rw[w_];omega
     have Y3:(E+1+1+1+1+1+1==bb)=false:=by rw[w_];omega
     have Z0:¬bb=G:=by omega
     have Z1:¬G=bb:=by omega
     have Z2:(bb==G)=false:=by rw[w_];omega
     have Z3:(G==bb)=false:=by rw[w_];omega
     obtain⟨K,eK⟩:∃K,K=(pick n (D1.R.take i) (D1.B.take i)).1.length:=⟨_,rfl⟩;have eK2:(pick n (D1.R.take i) (D1.B.take i)).2.length=K:=by rw[eK];exact Hz
     have hKL:K<=1000:=by
      have h1:=BP.len;have h2:∀(R:List (List Rat)) (B:List Nat),(pick n R B).1.length<=R.length:=by
       intro R
       induction R with
       |nil=>intro B;simp[pick]
       |cons x R ih=>
        intro B;cases B with
        |nil=>simp[pick]
        |cons b B=>unfold pick;have:=ih B;split<;>simp<;>omega
      have:=h2 (D1.R.take i) (D1.B.take i);rw[zh]at this;omega
     have aBZ:FW.length=K:=BP.len.trans eK.symm;have hb:=BP.t
     have fin:∀σ' nx',E+1+1+1+1+1+1<nx'->σ' G=some ⟨[I n,.rs (E+1+1+1+1) 0 (K+1),.rs (E+1+1+1+1+1+1) 0 (K+1),.rs (J+1) 0 (n+1)],0,true⟩->σ' (E+1+1+1+1)=some ⟨(FW++[E+1+1]).map fun b=>V.rs b 0 (n+1),1,true⟩->σ' (E+1+1+1+1+1+1)=some ⟨(iT ((pick n (D1.R.take i) (D1.B.take i)).2++[D1.B.getD i 0])).flatMap cI,1,true⟩->σ' (E+1+1)=some ⟨(w++[z]).flatMap cQ,3,true⟩->(∀y,y<E->y≠G->y∉bk Xl++bk Xm->σ' y=jY y) ->
       (∀x,x<G->σ' x=a0 x)/\∃Xl Xm FW,tV σ' G (J+1) Xl Xm FW ⟨(pick n (D1.R.take (i+1)) (D1.B.take (i+1))).1,(pick n (D1.R.take (i+1)) (D1.B.take (i+1))).2,ED c⟩ n/\∀x∈G :: (J+1) :: (bk Xl++bk Xm++FW),G<=x/\x<nx':=fun σ' nx' p0 p1 p2 p3 p4 p5=>by
      refine⟨fun x hx=>(p5 x (by omega) (by omega) fun hm=>?_).trans (Z9 x hx),.rs (E+1+1+1+1) 0 (K+1),.rs (E+1+1+1+1+1+1) 0 (K+1),FW++[E+1+1],?_,fun x hx=>?_⟩
      .have:=DJ x (by simp only[zX];exact .inr (.inr (zF _ hm)))
       omega
      .rw[i1]
       have:=ahu (x:=w++[z]) (b:=D1.B.getD i 0) BP (m0:=E) (br:=E+1+1+1+1) (bb:=E+1+1+1+1+1+1) (bw:=E+1+1) (σ':=σ') (fun y hy=>(DJ y hy).2) (by omega) (by omega) (by omega) (by omega) (by omega) (by omega)
        (by show σ' G=some (Aw.mk [_,.rs _ 0 ((pick n (D1.R.take i) (D1.B.take i)).1.length+1),.rs _ 0 ((pick n (D1.R.take i) (D1.B.take i)).1.length+1),_] _ _);rw[<- eK];exact p1) p2 p3 p4 p5
       rw[show(⟨(pick n (D1.R.take i) (D1.B.take i)).1,(pick n (D1.R.take i) (D1.B.take i)).2,ED c⟩:TQ).R.length=K from eK.symm]at this;exact this
      .simp only[bk,yT,yK,zX,wS,zK,or_false]at hx
       rcases hx with rfl|rfl|rfl|rfl|hx|rfl
       .omega
       .omega
       .omega
       .omega
       .have:=DJ x (by simp only[zX];exact .inr (.inr (zA _ hx)));omega
       .omega
     have Z6:=Aj (σ:=restrict (upd (upd jY E (some ⟨w.flatMap cQ,3,true⟩)) (E+1) (some ⟨cQ z,3,true⟩)) [E,E+1]) (nx:=E+1+1) (size:=3) (bytes:=56) (b:=E) (len:=n) (m:=1) (row:=cQ z) (by rw[fF,ay,upd_same]) (by rw[aN bD,hwl]) (by decide) (by decide) (by unfold maxLen;omega) (by omega) rfl;obtain⟨kU,e6⟩:∃kU,kU=upd (upd (upd (upd jY E (some ⟨w.flatMap cQ,3,true⟩)) (E+1) (some ⟨cQ z,3,true⟩)) E none) (E+1+1) (some ⟨w.flatMap cQ++cQ z,3,true⟩):=⟨_,rfl⟩;have o6:∀y,y<E->kU y=jY y:=fun y hy=>by rw[e6,ay,ay,ay,ay]
     have lx1:G<E:=by omega
     have w6:kU (E+1+1)=some ⟨(w++[z]).flatMap cQ,3,true⟩:=by rw[e6,upd_same,zT];simp
     have b6:kU G=_:=(o6 G lx1).trans hb;have t6:kU bt=_:=(o6 bt (by omega)).trans e1;have j6:kU bb=_:=(o6 bb (by omega)).trans e3;have gi:kU nx=_:=(o6 nx (by omega)).trans e5;have u50:G<E+1+1+1+1+1+1+1:=by omega
     have hpK:∀q,q=(pick n (D1.R.take i) (D1.B.take i)).1.length->q=K:=fun q h=>h.trans eK.symm
     rcases BP.r with ⟨j7,rfl⟩|⟨F8,j7,n9,R_⟩<;>rcases BP.b with ⟨o0,rfl⟩|⟨a2,o0,o2,Si⟩
     .have hK0:K=0:=eK.trans j7
      have ax0:FW=[]:=zZ (by omega);have hP2:(pick n (D1.R.take i) (D1.B.take i)).2=[]:=zZ (by omega);obtain⟨vI,e7⟩:∃vI,vI=upd (upd (upd kU (E+1+1+1) (some ⟨[V.rs (E+1+1) 0 (n+1)],1,true⟩)) (E+1+1+1+1) (some ⟨[V.rs (E+1+1) 0 (n+1)],1,true⟩)) G (some ⟨[I n,.rs (E+1+1+1+1) 0 1,.nil,.rs (J+1) 0 (n+1)],0,true⟩):=⟨_,rfl⟩;have b7:vI G=some ⟨[I n,.rs (E+1+1+1+1) 0 1,.nil,.rs (J+1) 0 (n+1)],0,true⟩:=by rw[e7,upd_same]
      have o7:∀y,y<E+1+1+1->y≠G->vI y=kU y:=fun y h1 h2=>by rw[e7,upd_ne _ _ h2,ay,ay]
      have o3:vI bt=_:=(o7 bt (by omega) (by omega)).trans t6;have o4:vI bb=_:=(o7 bb (by omega) (by omega)).trans j6;refine .inl ⟨_,by simp only[go_sem,S,O,t7,b9,b4,h4,e1,e2,e3,e4,e5,r1,b1,g1,g2,g3,c1,l1,l2,l3,r3,r4,r5,r6,r7,r8,r9,r0,s2,s4,s5,s6,hb,Z6,u50,<- e6,b6,t6,j6,gi,<- e7,b7,o3,o4,y1,y2,y3,y4,y5,y6,y7,y8,y9,Xh,Xi,Xj,c5,Xk,c6,c7,c8,c9,d0,d5,d6,d7,d8,d9,e8,e9,f0,f4,f5,f6,s7,s8,s9,t3,t4,t9,u0,v0,v2,v3,v4,v5,v6,v7,v8,v9,w2,w3,w4,w5,w7,w8,w9,x0,x8,x9,y0,z0,z5,z6,z7,z8,z9,A0,A1,A2,A3,A4,A5,A6,A7,A9,B1,B2,B3,B4,B5,B6,B7,B8,B9,C0,C1,C2,C3,C4,C5,C6,C7,C8,D3,D4,D5,D6,E0,E1,E2,E3,E4,i7,f7,f8,i9,k3,E6,E7,E9,F0,F1,F2,F3,k4,k5,k6,k7,F4,G0,G1,G3,G4,H0,H1,H2,H3,H4,H5,I0,I1,I2,I3,I4,I6,J0,J1,J2,K0,K1,K2,K3,K4,K5,K6,K7,K8,K9,L0,L1,L2,L3,k8,k9,l5,l6,L4,L5,L7,l7,l8,l9,n0,M0,M1,M2,M3,M4,M5,n1,n2,M6,M7,M8,M9,N0,N1,N2,N3,N4,N5,N6,O0,O2,O3,O5,P0,P1,P2,P3,P4,Q0,Q4,Q6,R0,R1,R2,R3,R4,R5,R6,R7,R8,R9,S0,S1,S2,S3,S4,S5,S6,S7,S8,T4,T7,T8,T9,U1,U4,U6,V0,V1,V2,V3,V4,V5,W0,W1,W2,W3,W4,W5,W6,W7,W8,X0,X1,X2,Y3,Z0,Z1,Z2,Z3];rfl,?_⟩;simp only[go_sem,S,O,t7,b9,b4];refine⟨rfl,by omega,fin _ _ (by omega) ?_ ?_ ?_ ?_ fun y h1 h2 _=>?_⟩
      .rw[upd_same,hK0]
      .rw[ay,ay,ay,e7,ay,upd_same,ax0];rfl
      .rw[ay,upd_same,hP2];rfl
      .rw[ay,ay,ay,o7 _ (by omega) (by omega)];exact w6
      .rw[upd_ne _ _ h2,ay,ay,o7 y (by omega) h2];exact o6 y h1
     .exact absurd o0 (by rw[j7];decide)
     .exact absurd j7 (by rw[o0];decide)
     .replace n9:Xl= .rs F8 0 K:=by rw[n9,eK]
      replace o2:Xm= .rs a2 0 K:=by rw[o2,eK]
      subst n9 o2;have nd5:=BP.nd;simp only[bk,yT,yK,xg,zX,not_or]at nd5;obtain⟨⟨m1,m2,m3,m4⟩,⟨m5,m6,m7⟩,⟨m8,m9⟩,m10,m11⟩:=nd5;have lr':=DJ F8 (by simp[bk]);have lb':=DJ a2 (by simp[bk]);have agJ:kU F8=_:=(o6 F8 lr'.2).trans R_;have agI:kU a2=_:=(o6 a2 lb'.2).trans Si;have ha2:=kQ (σ:=restrict (upd kU (E+1+1+1) (some ⟨[V.rs (E+1+1) 0 (n+1)],1,true⟩)) [F8,E+1+1+1]) (nx:=E+1+1+1+1) (bytes:=24) (b:=F8) (len:=K) (m:=1) (row:=[V.rs (E+1+1) 0 (n+1)]) (by rw[fF,ay];exact agJ) (by simp;omega) rfl (by decide) (by unfold maxLen;omega) (by omega) rfl;obtain⟨vI,e7⟩:∃vI,vI=upd (upd (upd (upd kU (E+1+1+1) (some ⟨[V.rs (E+1+1) 0 (n+1)],1,true⟩)) F8 none) (E+1+1+1+1) (some ⟨(FW.map fun b=>V.rs b 0 (n+1))++[V.rs (E+1+1) 0 (n+1)],1,true⟩)) G (some ⟨[I n,.rs (E+1+1+1+1) 0 (K+1),.rs a2 0 K,.rs (J+1) 0 (n+1)],0,true⟩):=⟨_,rfl⟩;have b7:vI G=some ⟨[I n,.rs (E+1+1+1+1) 0 (K+1),.rs a2 0 K,.rs (J+1) 0 (n+1)],0,true⟩:=by rw[e7,upd_same]
      have o7:∀y,y<E+1+1+1->y≠G->y≠F8->vI y=kU y:=fun y h1 h2 h3=>by rw[e7,upd_ne _ _ h2,ay,upd_ne _ _ h3,ay]
      have o3:vI bt=_:=(o7 bt (by omega) (by omega) (by omega)).trans t6;have o4:vI bb=_:=(o7 bb (by omega) (by omega) (by omega)).trans j6;have bb7:vI a2=_:=(o7 a2 (by omega) (yu m3) (yu m8)).trans agI;have ha3:=kQ (σ:=restrict (upd vI (E+1+1+1+1+1) (some ⟨[I ((D1.B.getD i 0:Nat):Int)],1,true⟩)) [a2,E+1+1+1+1+1]) (nx:=E+1+1+1+1+1+1) (bytes:=8) (b:=a2) (len:=K) (m:=1) (row:=[I ((D1.B.getD i 0:Nat):Int)]) (by rw[fF,ay];exact bb7) (by show((iT (pick n (D1.R.take i) (D1.B.take i)).2).flatMap cI).length=K;rw[aS,fZ];exact eK2) rfl (by decide) (by unfold maxLen;omega) (by omega) rfl;have u1:¬G=F8:=m2;have u2:¬G=a2:=m3;have u3:(G==F8)=false:=beq_false_of_ne m2;have u4:(G==a2)=false:=beq_false_of_ne m3;have u5:(F8==G)=false:=beq_false_of_ne (yu m2);have u6:(a2==G)=false:=beq_false_of_ne (yu m3);have u7:F8<E+1+1+1:=by omega
      have u8:F8<E+1+1+1+1:=by omega
      have u9:a2<E+1+1+1+1+1:=by omega
      have u10:a2<E+1+1+1+1+1+1:=by omega
      have u11:(bt==F8)=false:=by rw[w_];omega
      have u12:(bt==a2)=false:=by rw[w_];omega
      have u13:(bi==F8)=false:=by rw[w_];omega
      have u14:(bb==F8)=false:=by rw[w_];omega
      have u15:(bb==a2)=false:=by rw[w_];omega
      have u16:¬bt=F8:=by omega
      have u17:¬bb=F8:=by omega
      have u18:¬bt=a2:=by omega
      have u19:¬bb=a2:=by omega
      have u20:(F8==E)=false:=by rw[w_];omega
      have u21:(E==F8)=false:=by rw[w_];omega
      have u22:(F8==E+1)=false:=by rw[w_];omega
      have u23:(E+1==F8)=false:=by rw[w_];omega
      refine .inl ⟨_,by simp only[go_sem,S,O,t7,b9,b4,h4,e1,e2,e3,e4,e5,r1,b1,g1,g2,g3,c1,l1,l2,l3,r3,r4,r5,r6,r7,r8,r9,r0,s2,s4,s5,s6,hb,Z6,u50,<- e6,b6,t6,j6,gi,ha2,<- e7,b7,o3,o4,ha3,u1,u2,u3,u4,u5,u6,u7,u8,u9,u10,u11,u12,u13,u14,u15,u16,u17,u18,u19,u20,u21,u22,u23,y1,y2,y3,y4,y5,y6,y7,y8,y9,Xh,Xi,Xj,c5,Xk,c6,c7,c8,c9,d0,d5,d6,d7,d8,d9,e8,e9,f0,f4,f5,f6,s7,s8,s9,t3,t4,t9,u0,v0,v2,v3,v4,v5,v6,v7,v8,v9,w2,w3,w4,w5,w7,w8,w9,x0,x8,x9,y0,z0,z5,z6,z7,z8,z9,A0,A1,A2,A3,A4,A5,A6,A7,A9,B1,B2,B3,B4,B5,B6,B7,B8,B9,C0,C1,C2,C3,C4,C5,C6,C7,C8,D3,D4,D5,D6,E0,E1,E2,E3,E4,i7,f7,f8,i9,k3,E6,E7,E9,F0,F1,F2,F3,k4,k5,k6,k7,F4,G0,G1,G3,G4,H0,H1,H2,H3,H4,H5,I0,I1,I2,I3,I4,I6,J0,J1,J2,K0,K1,K2,K3,K4,K5,K6,K7,K8,K9,L0,L1,L2,L3,k8,k9,l5,l6,L4,L5,L7,l7,l8,l9,n0,M0,M1,M2,M3,M4,M5,n1,n2,M6,M7,M8,M9,N0,N1,N2,N3,N4,N5,N6,O0,O2,O3,O5,P0,P1,P2,P3,P4,Q0,Q4,Q6,R0,R1,R2,R3,R4,R5,R6,R7,R8,R9,S0,S1,S2,S3,S4,S5,S6,S7,S8,T4,T7,T8,T9,U1,U4,U6,V0,V1,V2,V3,V4,V5,W0,W1,W2,W3,W4,W5,W6,W7,W8,X0,X1,X2,Y3,Z0,Z1,Z2,Z3];rfl,?_⟩;simp only[go_sem,S,O,t7,b9,b4];refine⟨rfl,by omega,fin _ _ (by omega) ?_ ?_ ?_ ?_ fun y h1 h2 h3=>?_⟩
      .rw[upd_same]
      .rw[ay,ay,ay,ay,e7,ay,upd_same,wY];rfl
      .rw[ay,upd_same]
       show some (Aw.mk ((iT (pick n (D1.R.take i) (D1.B.take i)).2).flatMap cI++[I ((D1.B.getD i 0:Nat):Int)]) 1 true)=_;unfold iT;rw[wY,zT];rfl
      .rw[ay,ay,ay,ay,o7 _ (by omega) (by omega) (by omega)];exact w6
      .simp only[bk,yT,yK,zX,zK,or_false,not_or]at h3
       rw[upd_ne _ _ h2,ay,upd_ne _ _ h3.2,ay,o7 y (by omega) h2 h3.1];exact o6 y h1
    .rw[if_neg hB]at i1
     have c1:¬((D1.B.getD i 0:Nat):Int)<(n:Int):=by omega
     refine .inl ⟨_,by simp only[go_sem,S,O,t7,b9,b4,h4,e1,e2,e3,e5,r1,b1,g1,g2,g3,c1,l1,l2,l3];rfl,?_⟩;simp only[go_sem,S,O,t7,b9,b4];exact⟨rfl,i0,Z9,Xl,Xm,FW,by rw[i1];exact BP,DJ⟩) (by
    clear hL;rintro ⟨T,jY,E⟩ ⟨S,O,t7,b9,b4,h4,i0,Z9,Xl,Xm,FW,BP,DJ⟩;simp only at S O t7 b9 b4 h4 i0 Z9 BP DJ;refine⟨_,by simp only[go_sem,b4,h4,zl];rfl,by simp,_,_,_,Xl,Xm,FW,rfl,?_⟩;simp only[go_sem,t7];rw[zk (by omega),zk (by omega)]at BP;exact⟨i0,Z9,BP,DJ⟩) (by
    simp only[go_sem,S,O,t7];refine⟨by omega,j4,.nil,.nil,[],⟨q8,.inl ⟨rfl,rfl⟩,fun i h=>absurd h (zW _),.inl ⟨rfl,rfl⟩,q9,rfl,?_⟩,fun x hx=>?_⟩
    .simp only[bk,zM,xg,wM,zK,not_false_iff,true_and,List.nodup_nil,and_true]
     omega
    .simp only[bk,zM,zX,zK,or_false]at hx
     omega)
  clear hL;obtain⟨P,eP⟩:∃P,P=pick n D1.R D1.B:=⟨_,rfl⟩;have j8:=HY (n:=n) (R:=D1.R) (B:=D1.B);have hpl:=Hz (n:=n) (R:=D1.R) (B:=D1.B);have au5:=hcl D1 TF fun i hi=>b5 i (by omega)
  rw[<- eP]at j8 hpl BP au5;have ajZ:∀x∈P.1,x.length=n+1:=fun x hx=>by
   obtain⟨y,hy,rfl⟩:=j8.1 x hx;have:=h8.row y hy;rw[zo,zh];simp;omega
  have pln:∀x∈P.1,∀q∈x,Ln 6 q:=fun x hx q hq=>by
   obtain⟨y,hy,rfl⟩:=j8.1 x hx;have hyl:=h8.row y hy;rcases List.mem_append.mp hq with hq|hq
   .exact h8.big y hy q (wV hq)
   .rw[List.mem_singleton.mp hq,List.getLastD_eq_getLast?,List.getLast?_eq_getElem?,zy (by omega)]
    exact h8.big y hy _ (zu _)
  obtain⟨K,eK⟩:∃K,K=P.1.length:=⟨_,rfl⟩;have o5:(⟨P.1,P.2,ED c⟩:TQ).R.length=K:=eK.symm;have aoR:K<=1000:=by
   have h2:∀(R:List (List Rat)) (B:List Nat),(pick n R B).1.length<=R.length:=by
    intro R
    induction R with
    |nil=>intro B;simp[pick]
    |cons x R ih=>
     intro B;cases B with
     |nil=>simp[pick]
     |cons b B=>unfold pick;have:=ih B;split<;>simp<;>omega
   have:=h2 D1.R D1.B;rw[<- eP]at this;omega
  have o9:mP Tryz.prog 175 h9=some (I K):=by
   rcases BP.r with ⟨q1,rfl⟩|⟨br,q1,rfl,_⟩
   .rw[o5]at q1
    rw[q1];exact oN (by kernel_rfl)
   .rw[o5];exact sG (by kernel_rfl)
  have hb5:=BP.t;simp only[go_sem,t7,hb5,o9];generalize hL:aF _ _=y;obtain⟨x,rfl,T6,kU,gi,rfl,t7,Ia,P_,f9⟩:=aB hL K (fun i st=>st.T 7= .rp G 0/\st.T 157=h9/\st.T 158=I K/\st.T 159=I i/\E<=st.nx/\(∀x,x<G->st.σ x=jY x)/\tV st.σ G (J+1) h9 j5 b8 ⟨P.1,P.2,clears (ED c) (P.1.take i) (P.2.take i)⟩ n)
   (fun x=>∃T kU gi,x=(.exit 8,⟨T,kU,gi⟩)/\T 7= .rp G 0/\E<=gi/\(∀x,x<G->kU x=jY x)/\tV kU G (J+1) h9 j5 b8 ⟨P.1,P.2,clears (ED c) P.1 P.2⟩ n) (by
    clear hL;rintro i ⟨T,kU,gi⟩ hi ⟨t7,g0,i2,g8,Ia,P_,f9⟩;simp only at t7 g0 i2 g8 Ia f9;obtain⟨q1,q2,q3,q4,q5,q6,q7⟩:=f9;have hl6:b8.length=K:=q6.trans o5;rcases q2 with ⟨w0,_⟩|⟨i3,_,p6,akc⟩
    .have:P.1.length=0:=w0
     omega
    rcases q4 with ⟨w0,_⟩|⟨c0,_,p7,akd⟩
    .have:P.1.length=0:=w0
     omega
    replace p6:h9= .rs i3 0 K:=by rw[p6,eK]
    replace p7:j5= .rs c0 0 K:=by rw[p7,eK]
    subst p6 p7;have b3:i<b8.length:=by omega
    obtain⟨bi,uN⟩:∃bi,bi=b8[i]:=⟨_,rfl⟩;have XA:kU bi=some ⟨(pW P.1 i).flatMap cQ,3,true⟩:=by rw[uN];exact q3 i b3
    have q7':=q7;simp only[bk,yT,yK,xg,zX,not_or]at q7;obtain⟨⟨m1,m2,m3,m4⟩,⟨m5,m6,m7⟩,⟨m8,m9⟩,m10,m11⟩:=q7;have j0:bi∈b8:=by rw[uN];exact zu b3
    have d1:G≠bi:=fun e=>m4 (e ▸ j0)
    have d2:J+1≠bi:=fun e=>m7 (e ▸ j0)
    have d3:i3≠bi:=fun e=>m9 (e ▸ j0)
    have d4:c0≠bi:=fun e=>m10 (e ▸ j0)
    have g1:(i:Int)<(K:Int):=by omega
    have g2:=aI i;have g3:=ah (n:=(i:Int)+1);have r1:(b8.map fun b=>V.rs b 0 (n+1))[i]?=some (.rs bi 0 (n+1)):=by rw[yX,zy b3,uN];rfl
    have b1:((iT P.2).flatMap cI)[i]?=some (I ((P.2.getD i 0:Nat):Int)):=by
     rw[idx (by rw[fZ];omega),kN (by omega)]
    have l1:G<gi:=by have:=DJ G (by simp);omega
    have l2:J+1<gi:=by omega
    have l3:c0<gi:=by have:=DJ c0 (by simp[bk]);omega
    have l4:bi<gi:=by have:=DJ bi (by simp[j0]);omega
    have z1:(G==J+1)=false:=beq_false_of_ne m1;have z2:(G==bi)=false:=beq_false_of_ne d1;have z3:(c0==J+1)=false:=beq_false_of_ne (yu m6);have z4:(c0==bi)=false:=beq_false_of_ne d4;have hPi:P.2.getD i 0<n:=by rw[getD_at (by omega)];exact j8.2 _ (zu _)
    have au6:pW P.1 i∈P.1:=by rw[iW (by omega)];exact zu _
    have ax4:(ED c).length=n+1:=by unfold ED;rw[zo,oD];simp;omega
    obtain⟨s3,m3',aB7,kc,pe,f1,f2,f3⟩:=Tc (σ:=kU) (nx:=gi) (bi:=J+1) (bR:=bi) (N:=n) (k:=P.2.getD i 0) (x:=clears (ED c) (P.1.take i) (P.2.take i)) (t:=pW P.1 i) (NM ax4 fun x hx=>ajZ x (wV hx)) (ajZ _ au6) (by omega) (by omega) (au5 i (by omega)) (pln _ au6) q5 XA d2 l2 l4;have esn:JW (clears (ED c) (P.1.take i) (P.2.take i)) (pW P.1 i) ((clears (ED c) (P.1.take i) (P.2.take i)).getD (P.2.getD i 0) 0)=clears (ED c) (P.1.take (i+1)) (P.2.take (i+1)):=by
     have e1:P.1.take (i+1)=P.1.take i++[pW P.1 i]:=by rw[yO,zy (by omega),iW (by omega)];rfl
     have e2:P.2.take (i+1)=P.2.take i++[P.2.getD i 0]:=by rw[yO,zy (by omega),getD_at (by omega)];rfl
     rw[e1,e2,JG _ _ (by rw[zh,zh,hpl])]
    refine .inl ⟨_,by simp only[go_sem,t7,g0,i2,g8,q1,akc,akd,b1,r1,g1,g2,g3,l1,l2,l3,l4,z1,z2,z3,z4,kc,pe];rfl,?_⟩;simp only[go_sem,t7,g0,i2];refine⟨rfl,by omega,fun x hx=>(f3 x (by omega) (by omega)).trans (P_ x hx),⟨(f3 G l1 m1).trans q1,.inr ⟨i3,by show 0<P.1.length;omega,by show _=V.rs i3 0 P.1.length;rw[eK],(f3 i3 (by have:=DJ i3 (by simp[bk]);omega) (yu m5)).trans akc⟩,fun j hj=>?_,.inr ⟨c0,by show 0<P.1.length;omega,by show _=V.rs c0 0 P.1.length;rw[eK],(f3 c0 l3 (yu m6)).trans akd⟩,?_,q6,q7'⟩⟩
    .have hm:=zu hj
     rw[f3 _ (by have:=DJ b8[j] (by simp[hm]);omega) fun e=>m7 (e ▸ hm)];exact q3 j hj
    .rw[f1]
     show some (Aw.mk (List.flatMap cQ (JW _ _ _)) 3 true)=_;rw[esn]) (by
    clear hL;rintro ⟨T,kU,gi⟩ ⟨t7,g0,i2,g8,Ia,P_,f9⟩;simp only at t7 g0 i2 g8 Ia f9;refine⟨_,by simp only[go_sem,i2,g8,zl];rfl,by simp,_,_,_,rfl,?_⟩;simp only[go_sem,t7];rw[zk (by omega),zk (by omega)]at f9;exact⟨Ia,P_,f9⟩) (by
    simp only[go_sem,t7];have e0:clears (ED c) [] []=ED c:=by unfold clears;rfl
    rw[e0];exact⟨fun _ _=>trivial,BP⟩)
  refine⟨kU,gi,G,J+1,h9,j5,b8,D1,by simp only[go_sem,t7],TF,fun i hi=>b5 i (by omega),?_,fun x hx=>?_,fun x hx j3=>(P_ x (by omega)).trans ((Z9 x (by omega)).trans (i4 x hx j3))⟩
  .unfold D2q;rw[<- eP];exact f9
  .have:=DJ x hx;omega
end Go.Proofs.YtehdaknhabeiaaaGreat
