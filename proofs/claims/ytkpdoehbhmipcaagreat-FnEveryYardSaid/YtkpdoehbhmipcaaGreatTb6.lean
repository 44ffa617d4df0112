import Derived.Test.YtkpdoehbhmipcaaGreatTb5
set_option linter.unusedSimpArgs false
set_option linter.unusedVariables false
set_option linter.unusedSectionVars false
set_option linter.defProp false
set_option maxRecDepth 10000
set_option maxHeartbeats 4000000
open Go.Proofs.Tryz renaming prog->ZL
open Go.Proofs.Tryz
open Bool renaming and_eq_true->zA,true_and->xC,and_false->wS,false_and->ug
open Classical renaming byContradiction->zf
open Int renaming lt_irrefl->zk,toNat_natCast->zJ,natAbs_mul_self->vS
open List renaming getElem?_eq_getElem->zy,getD_eq_getElem?_getD->zx,getElem_mem->zu,length_append->zo,take_of_length_le->zl,length_take->zh,eq_nil_of_length_eq_zero->zZ,flatMap_append->zT,length_map->zS,length_drop->zO,length_cons->zH,getElem?_map->zF,mem_append_left->zD,append_nil->zC,getElem?_eq_none->z_,take_length->yg,getElem_of_mem->yZ,drop_zero->yY,length_eraseIdx_of_lt->yV,ext_getElem->yS,nil_append->yO,drop_of_length_le->xw,length_set->xu,getElem_map->xg,getElem_append_left->xY,getElem?_range->xM,map_congr_left->xG,getElem?_replicate->wZ,mem_append->wP,all_eq_true->wO,getElem_set->wF,take_append_drop->wC,mem_singleton->w_,eraseIdx_eq_take_drop_succ->vX,drop_append_of_le_length->vO,getElem_range->uZ,all_cons->uH,length_range->uF
open Nat renaming le_refl->zq,not_lt_zero->zX,le_trans->zU,mul_le_mul_right->zL,zero_add->yX,mul_one->yQ,mul_le_mul->xq,succ_mul->xk,zero_le->vV,add_mul->uz
open Ne renaming symm->yu
open Option renaming bind_some->zi,map_some->zG
open Rat renaming le_refl->vK
namespace Go.Proofs.YtkpdoehbhmipcaaGreat
open Go Go.TV Go.Lp
attribute [-go_sem] qw
theorem X6{s:Structure}(h:Aj s)(G:okStructure s){qs:List Rat}(J:qs.length=s.members.length)(O:∀q∈qs,Ln 24 q):fn ZL conv ext 114 [.agg (cStructure s),LL cQ qs]=some (Bo true):=by
 have S:=h.2.1;have E:=dK s G;rw[iD h]at E;have Y:=abv O (by omega);have c0:((qs.length:Int)==(s.members.length:Int))=true:=by rw[J];simp
 rw[m_,mg [.tmp 4] [] func114];simp only[go_sem,E,Y,c0]
theorem ae5{s:Structure}(h:Aj s)(J:okStructure s){k:Nat}(O:k<s.members.length):fn ZL conv ext 281 [.agg (cStructure s),I k]=some (.AB [I (vx s k),I (vy s k)]):=by
 have S:=h.2.1;have E:=dK s J;rw[iD h]at E;have G:=ji k 0 ((s.members.length:Int) - 1);have hb:inB k 0 ((s.members.length:Int) - 1)=true:=by unfold inB;rw[sF (by omega),sF (by omega)];rfl
 rw[hb]at G;have Y:=Us h.sg O;have w1:=ZT (n:=(s.members.length:Int) - 1);rw[m_,mg [.tmp 4,.tmp 5] [] func281];simp only[go_sem,E,G,Y,w1]
theorem ae6{s:Structure}(h:Aj s)(E:okStructure s){k:Nat}(G:k<s.members.length):fn ZL conv ext 246 [.agg (cStructure s),I k]=some (I (vx s k*vx s k+vy s k*vy s k)):=by
 have J:=ae5 h E G;have hb:=Zf h.sg k;have x2:0<=vx s k*vx s k/\vx s k*vx s k<=10000:=by
  have O:vx s k*vx s k=((vx s k).natAbs*(vx s k).natAbs:Nat):=by rw[vS]
  have S:(vx s k).natAbs*(vx s k).natAbs<=100*100:=xq (by omega) (by omega);omega
 have y2:0<=vy s k*vy s k/\vy s k*vy s k<=10000:=by
  have O:vy s k*vy s k=((vy s k).natAbs*(vy s k).natAbs:Nat):=by rw[vS]
  have S:(vy s k).natAbs*(vy s k).natAbs<=100*100:=xq (by omega) (by omega);omega
 have w1:=ZT (n:=vx s k*vx s k);have Y:=ZT (n:=vy s k*vy s k);have w3:=ZT (n:=vx s k*vx s k+vy s k*vy s k);rw[m_,mg [.tmp 4] [] func246];simp only[go_sem,J,w1,Y,w3]
theorem Uz{s:Structure}(h:Aj s)(ho:okStructure s){qs:List Rat}(hl:qs.length=s.members.length)(hL:∀q∈qs,Ln 24 q){k:Nat}(O:k<qs.length) :
  fn ZL conv ext 194 [.agg (cStructure s),LL cQ qs,I k]=some (.AB [.agg (cR (sqQ s qs[k] k)),Bo (sqQ s qs[k] k).isSome]):=by
 have a7:=h.2.1;have hb:=Zf h.sg k;have k1:=X6 h ho hl hL;have k2:=ji k 0 ((s.members.length:Int) - 1);have S:inB k 0 ((s.members.length:Int) - 1)=true:=by unfold inB;rw[sF (by omega),sF (by omega)];rfl
 rw[S]at k2;have k3:=ae6 h ho (k:=k) (by omega);have w1:=ZT (n:=(s.members.length:Int) - 1);have x2:0<=vx s k*vx s k/\vx s k*vx s k<=10000:=by
  have h1:vx s k*vx s k=((vx s k).natAbs*(vx s k).natAbs:Nat):=by rw[vS]
  have h2:(vx s k).natAbs*(vx s k).natAbs<=100*100:=xq (by omega) (by omega);omega
 have y2:0<=vy s k*vy s k/\vy s k*vy s k<=10000:=by
  have h1:vy s k*vy s k=((vy s k).natAbs*(vy s k).natAbs:Nat):=by rw[vS]
  have h2:(vy s k).natAbs*(vy s k).natAbs<=100*100:=xq (by omega) (by omega);omega
 unfold sqQ;generalize vx s k*vx s k=a at *;generalize vy s k*vy s k=b at *;have k4:=dO (a+b) (by omega) (by omega);have f1:(k:Int)<(qs.length:Int):=by omega
 have f2:=jD k;have f4:=d_ (c:=cQ) (s:=3) qG qs k O;have f5:=bZ (c:=cQ) (s:=3) qG qs;have f6:k*3+3<=qs.length*3:=by omega
 have f7:=bg (c:=cQ) (s:=3) qG (by omega) qs k O;have Y:=hL _ (zu O);obtain⟨q,eq⟩:∃q,q=qs[k]:=⟨_,rfl⟩;rw[<- eq]at f4 Y⊢;have k5:fn ZL conv ext 230 [.agg (cQ q),.agg (cQ q)]=some (.agg (cR (F7 (some q) (some q)))):=I9 (some q) (some q) (fun z E=>by cases E;exact Y) (fun z E=>by cases E;exact Y)
 obtain⟨o1,e1⟩:∃o1,o1=F7 (some q) (some q):=⟨_,rfl⟩;have E:Ln 24 ((a+b:Int):Rat):=(ru (by omega)).mono (by decide);have k6:fn ZL conv ext 230 [.agg (cR o1),.agg (cQ ((a+b:Int):Rat))]=some (.agg (cR (F7 o1 (some ((a+b:Int):Rat))))):=I9 o1 (some ((a+b:Int):Rat)) (by rw[e1];exact LQ) (fun z a1=>by cases a1;exact E)
 rw[<- e1]at k5⊢;obtain⟨o2,e2⟩:∃o2,o2=F7 o1 (some ((a+b:Int):Rat)):=⟨_,rfl⟩;rw[<- e2]at k6⊢;have k7:=apN o2 (by rw[e2];exact LQ);obtain⟨J,G⟩:∃J,J=cQ ((a+b:Int):Rat):=⟨_,rfl⟩;rw[<- G]at k4 k6;have a6:∀σ d,stripL (strip σ d) J=some (J,[]):=fun σ d=>by rw[G];exact qF σ d _
 rw[m_,mg [.cell 6 161,.tmp 7] [4] func194];simp only[go_sem,k1,k2,k3,k4,k5,k6,k7,w1,f1,f2,f4,f5,f6,f7,a6]
theorem X7{s:Structure}(h:Aj s)(ho:okStructure s){qs:List Rat}(hl:qs.length=s.members.length)(hL:∀q∈qs,Ln 24 q) :
  fn ZL conv ext 131 [.agg (cStructure s),LL cQ qs]=some (CW (G6 s qs)):=by
 have b2:=h.2.1;have k1:=X6 h ho hl hL;rw[m_,mg [.tmp 4,.tmp 5] [] func131];simp only[go_sem,k1];generalize Y:dI _ _=y;obtain⟨x,rfl,hx⟩:=oZ Y s.members.length (fun k st=>st.T 1=LL cQ qs/\st.T 2= .rp 0 0/\st.T 17=I s.members.length/\st.T 18=I k/\1<=st.nx/\st.σ 0=some ⟨cStructure s,0,true⟩/\∃xs,BK ((G6 s qs).take k)=some xs/\GK (st.T 6) st.σ 1 st.nx xs)
  (fun x=>∃T σ nx,(x=(.exit 0,⟨T,σ,nx⟩)/\∃xs,BK (G6 s qs)=some xs/\GK (T 6) σ 1 nx xs)\/(x=(.ret,⟨T,σ,nx⟩)/\T 4= .nil/\T 5=Bo false/\BK (G6 s qs)=none)) (by
   clear Y;rintro k ⟨T,σ,nx⟩ hk ⟨t1,t2,t17,S,O,s0,xs,E,hA⟩;simp only at t1 t2 t17 S O s0 hA;have g1:(k:Int)<(s.members.length:Int):=by omega
   have g2:=jD k;have g3:=ZT (n:=(k:Int)+1);have a6:k<(G6 s qs).length:=by rw[bH];omega
   have b3:xs.length=k:=by rw[dH E,zh];omega
   have G:(G6 s qs).take (k+1)=(G6 s qs).take k++[sqQ s (qs[k]'(by omega)) k]:=by rw[aH a6,acE s qs (by omega)]
   have J:=Uz h ho hl hL (k:=k) (by omega);have z1:¬nx=0:=by omega
   have z2:¬0=nx:=by omega
   cases hv:sqQ s (qs[k]'(by omega)) k with
   |none=>
    rw[hv]at J G;have J:fn ZL conv ext 194 [.agg (cStructure s),LL cQ qs,I k]=some (.AB [.agg (cR none),Bo false]):=J
    refine .inr ⟨_,by simp only[go_sem,t1,t2,t17,S,s0,g1,g2,J,z1,z2];rfl,by simp,_,_,_,.inr ⟨rfl,?_⟩⟩;simp only[go_sem];have:G6 s qs=(G6 s qs).take (k+1)++(G6 s qs).drop (k+1):=(wC _ _).symm;rw[this,G];refine dG ?_;rw[dF,E];rfl
   |some z=>
    rw[hv]at J G;have J:fn ZL conv ext 194 [.agg (cStructure s),LL cQ qs,I k]=some (.AB [.agg (cQ z),Bo true]):=J
    have a7:GK (T 6) (upd σ nx (some ⟨cQ z,0,true⟩)) 1 (nx+1) xs:=by
     rcases hA with ⟨a,b⟩|⟨b,a1,a2,a3,a4,a5⟩
     .exact .inl ⟨a,b⟩
     .exact .inr ⟨b,a1,a2,by omega,a4,by rw[Zm];exact a5⟩
    obtain⟨σ',ha,a8,fr⟩:=rG a7 (by omega) z (by omega);have f0:σ' 0=some ⟨cStructure s,0,true⟩:=by rw[fr 0 (by omega),Zm];exact s0
    refine .inl ⟨_,by simp only[go_sem,t1,t2,t17,S,s0,g1,g2,g3,J,ha,z1,z2];rfl,?_⟩;simp only[go_sem,t1,t2,t17];refine⟨rfl,f0,xs++[z],?_,a8⟩;rw[G,dF,E];rfl) (by
   rintro ⟨T,σ,nx⟩ ⟨t1,t2,t17,S,O,s0,xs,E,hA⟩;simp only at t1 t2 t17 S O s0 hA;have g1:¬(s.members.length:Int)<(s.members.length:Int):=by omega
   refine⟨_,by simp only[go_sem,t17,S,g1];rfl,by simp,_,_,_,.inl ⟨rfl,xs,?_,?_⟩⟩
   .rw[<- hl,<- bH s qs,yg]at E
    exact E
   .simp only[go_sem]
    exact hA) (by
   simp only[go_sem];exact⟨[],rfl,.inl ⟨rfl,rfl⟩⟩)
 rcases hx with ⟨T,σ,nx,⟨rfl,xs,E,hA⟩|⟨rfl,t4,t5,E⟩⟩
 .obtain⟨ids,hs⟩:∃ids,strip σ 6 (T 6)=some (LL cQ xs,ids):=by
   rcases hA with ⟨h1,h2⟩|⟨b,h1,h2,h3,h4,h5⟩
   .exact⟨[],by rw[h1,h2,aS];rfl⟩
   .rw[h4];exact⟨[b],fD h5 rfl⟩
  unfold CW;rw[E];simp only[go_sem,hs]
 .unfold CW
  rw[E];simp only[go_sem,t4,t5]
theorem acS{s:Structure}(h:Aj s)(E:okStructure s){w:List Int}(hw:AZ s.members.length w):fn ZL conv ext 99 [.agg (cStructure s),LI w]=some (Bo true):=by
 have G:=h.2.1;have k:=PZ s w E (by rw[hw.1];unfold maxLen;omega);rw[iD h,iD hw]at k;exact k
theorem X8{s:Structure}(h:Aj s)(ho:okStructure s){qs:List Rat}(hl:qs.length=s.members.length)(hL:∀q∈qs,Ln 24 q){w:List Int}(hw:AZ s.members.length w){xs:List Rat}(hq:BK (G6 s qs)=some xs) :
  fn ZL conv ext 282 [.agg (cStructure s),LL cQ qs,LI w]=some (LI (EY (DT xs w) xs.length)):=by
 have b2:=h.2.1;have k1:=X7 h ho hl hL;have k2:=acS h ho hw;unfold CW at k1;rw[hq]at k1;have b3:xs.length=s.members.length:=by rw[dH hq,bH,hl]
 rw[m_,mg [.tmp 6] [] func282];simp only[go_sem,k1,k2];generalize S:dI _ _=y;obtain⟨x,rfl,T,σ,nx,rfl,J⟩:=oZ S xs.length (fun k st=>st.T 2=LI w/\st.T 27=LL cQ xs/\st.T 28=I xs.length/\st.T 29=I k/\Grow st.T st.σ st.nx 9 (EY (DT xs w) k))
  (fun x=>∃T σ nx,x=(.exit 0,⟨T,σ,nx⟩)/\Grow T σ nx 9 (EY (DT xs w) xs.length)) (by
   clear S;rintro k ⟨T,σ,nx⟩ O ⟨t2,t27,t28,t29,J⟩;simp only at t2 t27 t28 t29 J;have g1:(k:Int)<(xs.length:Int):=by omega
   have g2:=jD k;have g3:=ZT (n:=(k:Int)+1);have g4:=d_ (c:=cQ) (s:=3) qG xs k O;have g5:=bZ (c:=cQ) (s:=3) qG xs;have g6:k*3+3<=xs.length*3:=by omega
   have g7:=bg (c:=cQ) (s:=3) qG (by omega) xs k O;have G:k<w.length:=by rw[hw.1];omega
   have a8:=kE (hw.2 _ (zu G));have a1:=idx (xs:=w) (k:=k) G;have a2:=AU w k G;have a3:(k:Int)<(w.length:Int):=by omega
   have hx:=ah1 hq _ (zu O);have E:DT xs w k=Xz xs[k] w[k]:=by
    unfold DT;rw[zx,zy O,zx,zy G];rfl
   obtain⟨x,ex⟩:∃x,x=xs[k]:=⟨_,rfl⟩;obtain⟨v,ev⟩:∃v,v=w[k]:=⟨_,rfl⟩;rw[<- ex,<- ev]at E;rw[<- ex]at g4 hx;rw[<- ev]at a1 a8;have v2:0<=v*v/\v*v<=1000000:=by
    have h1:v*v=(v.natAbs*v.natAbs:Nat):=by rw[vS]
    have h2:v.natAbs*v.natAbs<=1000*1000:=xq (by omega) (by omega);omega
   have w1:=ZT (n:=v*v);have k3:=dO (v*v) (by omega) (by omega);have k4:=amF x ((v*v:Int):Rat) hx ((ru (by omega)).mono (by decide):Ln 24 _) (by decide) (by decide) (by decide);have hle:=Zp (DT xs w) k;unfold Xz at E;obtain⟨m2,Y⟩:∃m2,m2=cQ ((v*v:Int):Rat):=⟨_,rfl⟩;obtain⟨z,ez⟩:∃z,z=Am (x.num*((v*v:Int):Rat).den) (((v*v:Int):Rat).num*x.den):=⟨_,rfl⟩;rw[<- Y]at k3 k4;rw[<- ez]at k4 E;have a6:∀σ d,stripL (strip σ d) m2=some (m2,[]):=fun σ d=>by rw[Y];exact qF σ d _
   have y1:nx<nx+1:=by omega
   have a7:=kR J (some ⟨cQ x,0,true⟩)
   by_cases hz:0<z
   .rw[sF hz]at E
    obtain⟨σ',ha,hs⟩:=kQ a7 (k:Int) (by omega);refine .inl ⟨_,by simp only[go_sem,t2,t27,t28,t29,g1,g2,g3,g4,g5,g6,g7,O,G,a1,a2,a3,w1,k3,k4,hz,ha,a6,y1];rfl,?_⟩;simp only[go_sem,t2,t27,t28];rw[Iu E];exact⟨rfl,kN hs (by simp[go_sem]) (by simp)⟩
   .rw[sD hz]at E
    refine .inl ⟨_,by simp only[go_sem,t2,t27,t28,t29,g1,g2,g3,g4,g5,g6,g7,O,G,a1,a2,a3,w1,k3,k4,hz,a6,y1];rfl,?_⟩;simp only[go_sem,t2,t27,t28];rw[Nc E];exact⟨rfl,kP (T:=T) (by simp only[go_sem]) a7⟩) (by
   rintro ⟨T,σ,nx⟩ ⟨t2,t27,t28,t29,J⟩;simp only at t2 t27 t28 t29 J;exact⟨_,by simp only[go_sem,t28,t29,zk];rfl,by simp,_,_,_,rfl,kP (T:=T) (by simp only[go_sem]) J⟩) (by
   simp only[go_sem];exact .inl ⟨by simp only[go_sem],rfl⟩)
 obtain⟨ids,hs⟩:=kM J 6;simp only[go_sem,hs]
theorem ae7{s:Structure}(h:Aj s)(G:okStructure s){qs:List Rat}(S:qs.length=s.members.length)(Y:∀q∈qs,Ln 24 q){w:List Int}(hw:AZ s.members.length w) :
  fn ZL conv ext 259 [.agg (cStructure s),LL cQ qs,LI w]=some (Bo (DU s qs w)):=by
 have E:=X7 h G S Y;have k2:=acS h G hw;unfold CW at E;unfold DU;rw[m_,mg [.tmp 6] [] func259];cases J:BK (G6 s qs)with
 |none=>
  rw[J]at E;simp only[go_sem,E]
 |some xs=>
  rw[J]at E;have k3:=X8 h G S Y hw J
  by_cases O:(EY (DT xs w) xs.length).length=0
  .have e:(((EY (DT xs w) xs.length).length:Int)==0)=true:=by rw[O];rfl
   simp only[go_sem,E,k2,k3,e,sF O]
  .have e:(((EY (DT xs w) xs.length).length:Int)==0)=false:=by rw[sG];omega
   simp only[go_sem,E,k2,k3,e,sD O]
theorem apO(n:Nat)(hn:n<=24)(σ:Store)(nx:Nat):∃v σ' nx',ev ZL pI Ad 192 [I n] σ nx=some (v,σ',nx')/\nx<=nx'/\GK v σ' nx nx' (List.replicate n (0:Rat))/\∀y,y<nx->σ' y=σ y:=by
 have E:=ji n 0 24;have hb:inB n 0 24=true:=by unfold inB;rw[sF (by omega),sF (by omega)];rfl
 rw[hb]at E;obtain⟨v,σ',nx',G,J,O,S⟩:=apJ n (by omega) σ nx;refine⟨v,σ',nx',?_,J,O,S⟩;rw[mg [.tmp 2] [] func192];simp only[go_sem,qB,E,G]
theorem aiJ{v:V}{σ:Store}{lo nx:Nat}{L:List Rat}(h:GK v σ lo nx L)(E:L≠[]):∃b,lo<=b/\b<nx/\v= .rs b 0 L.length/\σ b=some ⟨L.flatMap cQ,3,true⟩:=by
 rcases h with ⟨G,_⟩|⟨b,_,J,O,S,Y⟩
 .exact absurd G E
 .exact⟨b,J,O,S,Y⟩
theorem avU{s:Structure}(h:Aj s)(ho:okStructure s){x:Nat->Rat}(hx:∀j,j<Cc s->Ln 6 (x j)) :
  fn ZL pI Ad 130 [.agg (cStructure s),LL cQ ((List.range (Cc s)).map x)]=some (.AB [LL cQ (FQ s x),Bo true]):=by
 have e8:=h.2.1;have k1:=dK s ho;rw[iD h]at k1;have k2:=X5 h.sg;have Y:=apL hx;have a1:=oz s s.members.length;have G:=OG hx;have b5:FQ s x=Fj (cols s s.members.length) ((List.range (Cc s)).map x) s.members.length (cols s s.members.length).length:=rfl;have b6:=Ux s;have b7:=Uy s;have b8:∀c (h:c<(cols s s.members.length).length),(∃q:Nat,(cols s s.members.length)[c].1=(q:Int)/\q<s.members.length)/\((cols s s.members.length)[c].2=1\/(cols s s.members.length)[c].2= -1):=fun c h=>ou (zu h)
 have b2:((List.range (Cc s)).map x).length=(cols s s.members.length).length:=by rw[zS,uF];rfl
 rw[b5]at G⊢;obtain⟨X,eX⟩:∃X,X=(List.range (Cc s)).map x:=⟨_,rfl⟩;obtain⟨K,eK⟩:∃K,K=cols s s.members.length:=⟨_,rfl⟩;rw[<- eX]at Y G b2⊢;rw[<- eK]at k2 a1 G b6 b7 b8 b2⊢;have k3:=abv (xs:=X) (fun q hq=>(Y q hq).mono (by decide)) (by omega);obtain⟨s0,b9⟩:∃s0,s0=upd lI 0 (some ⟨cStructure s,0,true⟩):=⟨_,rfl⟩;have b0:s0 0=some ⟨cStructure s,0,true⟩:=by rw[b9,Zk]
 obtain⟨vz,e9,nz,k4,h0,e3,h1⟩:=apO s.members.length (by omega) s0 1;have c0:((X.length:Int) !=((K.map FP).length:Int))=false:=by rw[zS,b2];simp
 have el:(K.map FP).length=K.length:=zS ..;have c2:(K.map Gs).length=K.length:=zS ..;rw[m_,mg [.tmp 4,.tmp 5] [11,12] func130];simp only[go_sem,qB,k1,k2,k3,c0,<- b9,b0,k4];generalize hL:dI _ _=y;obtain⟨r,rfl,T,σ,nx,rfl,h2⟩:=oZ hL K.length (fun c st=>st.T 1=LL cQ X/\st.T 7=LI (K.map Gs)/\st.T 33=LI (K.map FP)/\st.T 34=I K.length/\st.T 35=I c/\GK (st.T 8) st.σ 1 st.nx (Fj K X s.members.length c))
  (fun r=>∃T σ nx,r=(.exit 0,⟨T,σ,nx⟩)/\GK (T 8) σ 1 nx (Fj K X s.members.length K.length)) (by
   clear hL;rintro c ⟨T,σ,nx⟩ hc ⟨t1,t7,t33,t34,t35,hA⟩;simp only at t1 t7 t33 t34 t35 hA;have g1:(c:Int)<(K.length:Int):=by omega
   have g2:=jD c;have g3:=ZT (n:=(c:Int)+1);obtain⟨⟨k,hk,c3⟩,c4⟩:=b8 c hc;have a4:=idx (xs:=K.map FP) (k:=c) (by omega);have a5:=idx (xs:=K.map Gs) (k:=c) (by omega);rw[xg,show FP K[c]=(k:Int)from hk]at a4;rw[xg]at a5;have a6:=AU (K.map FP) c (by omega);have a7:=AU (K.map Gs) c (by omega);have a8:=d_ (c:=cQ) (s:=3) qG X c (by omega);have a9:=bZ (c:=cQ) (s:=3) qG X;have c5:c*3+3<=X.length*3:=by omega
   have c7:=bg (c:=cQ) (s:=3) qG (by omega) X c (by omega);have a12:(c:Int)<(X.length:Int):=by omega
   have E:=oD K X s.members.length c;have J:=avP Y b6 b7 hc;have b3:=Y _ (zu (l:=X) (n:=c) (by omega));have O:Fj K X s.members.length (c+1)=(Fj K X s.members.length c).set k ((Fj K X s.members.length c).getD k 0+OO K[c].2 (X[c]'(by omega))):=by
    rw[Fj];have e1:K.getD c (0,0)=K[c]:=by rw[zx,zy hc];rfl
    have e2:X.getD c 0=X[c]'(by omega):=by rw[zx,zy (by omega)];rfl
    rw[e1,e2,hk,zJ]
   rw[hk,zJ]at J;obtain⟨S,e4⟩:∃S,S=X[c]'(by omega):=⟨_,rfl⟩;rw[<- e4]at a8 b3 O;obtain⟨sg,c8⟩:∃sg,sg=K[c].2:=⟨_,rfl⟩;have a5:((K.map Gs).flatMap cI)[c]?=some (I sg):=by rw[c8];exact a5
   rw[<- c8]at c4 O;obtain⟨D,eD⟩:∃D,D=Fj K X s.members.length c:=⟨_,rfl⟩;rw[<- eD]at hA E J O;obtain⟨b,e5,b4,t8,hb⟩:=aiJ hA (fun e=>by rw[e]at E;simp at E;omega);rw[E]at t8;have d0:=d_ (c:=cQ) (s:=3) qG D k (by omega);have d2:=bZ (c:=cQ) (s:=3) qG D;rw[E]at d2;have d3:k*3+3<=s.members.length*3:=by omega
   have d4:(k:Int)<(s.members.length:Int):=by omega
   have d5:=jD k;obtain⟨d,ed⟩:∃d,d=D.getD k 0:=⟨_,rfl⟩;have d1:((D.flatMap cQ).drop (k*3)).take 3=cQ d:=by
    rw[d0,ed,zx,zy (by omega)];rfl
   rw[<- ed]at J O;have n1:¬(0:Int)< -1:=by decide
   have n0:(0:Int)<1:=by decide
   have c9:∀q σ d,stripL (strip σ d) (cQ q)=some (cQ q,[]):=fun q σ d=>qF σ d q
   have fin:∀(v:Rat),v=d+OO sg S->GK (V.rs b 0 s.members.length) (upd σ b (some ⟨(D.set k v).flatMap cQ,3,true⟩)) 1 nx (Fj K X s.members.length (c+1)):=fun v hv=>by
    rw[O,<- hv];refine .inr ⟨b,fun e=>?_,e5,b4,by rw[xu,E],by rw[Zk]⟩;have:=congrArg List.length e;rw[xu,E]at this;have:s.members.length=0:=this;omega
   rcases c4 with rfl|rfl
   .have k5:=dM d S J b3 (by decide)
    have c6:patch (D.flatMap cQ) (k*3) (cQ (d+S))=(D.set k (d+S)).flatMap cQ:=iF qG _ _ (by omega) _;refine .inl ⟨_,by simp only[go_sem,t1,t7,t8,t33,t34,t35,hb,b4,g1,g2,g3,a4,a5,a6,a7,a8,a9,c5,c7,a12,hc,el,c2,d1,d2,d3,d4,d5,c3,n0,k5,c6,c9];rfl,?_⟩;simp only[go_sem,t1,t7,t8,t33,t34,t35];exact⟨rfl,fin _ rfl⟩
   .have k5:=aiF d S J b3 (by decide)
    have c6:patch (D.flatMap cQ) (k*3) (cQ (d-S))=(D.set k (d-S)).flatMap cQ:=iF qG _ _ (by omega) _;refine .inl ⟨_,by simp only[go_sem,t1,t7,t8,t33,t34,t35,hb,b4,g1,g2,g3,a4,a5,a6,a7,a8,a9,c5,c7,a12,hc,el,c2,d1,d2,d3,d4,d5,c3,n1,k5,c6,c9];rfl,?_⟩;simp only[go_sem,t1,t7,t8,t33,t34,t35];refine⟨rfl,fin _ ?_⟩;show d-S=d+ -S;grind) (by
   clear hL;rintro ⟨T,σ,nx⟩ ⟨t1,t7,t33,t34,t35,hA⟩;simp only at t1 t7 t33 t34 t35 hA;refine⟨_,by simp only[go_sem,t34,t35,zk];rfl,by simp,_,_,_,rfl,?_⟩;simp only[go_sem];exact hA) (by
   simp only[go_sem,el];exact e3)
 have k6:=abv (xs:=Fj K X s.members.length K.length) (fun q hq=>(G q hq).mono (by decide)) (by rw[oD];omega);obtain⟨D,eD⟩:∃D,D=Fj K X s.members.length K.length:=⟨_,rfl⟩;rw[<- eD]at h2 k6⊢;rcases h2 with ⟨h3,h4⟩|⟨b,h3,h4,h5,h6,h7⟩
 .rw[h3]at k6⊢
  have k6:fn ZL conv ext 174 [.ts [] 0]=some (Bo true):=k6
  simp only[go_sem,h4,k6];rfl
 .have e6:=fun d=>fD (d:=d) h7 rfl
  have e7:∀t,∃wr,behind σ [b] t b=some ⟨D.flatMap cQ,3,wr⟩:=fun t=>Ua h7
  have e0:∀t d,strip (behind σ [b] t) (d+1) (.rs b 0 D.length)=some (LL cQ D,[b]):=fun t d=>by
   obtain⟨wr,hw⟩:=e7 t;rw[aQ,hw];have a1:=bZ (c:=cQ) (s:=3) qG D;simp only[zi,yX,yY,a1,zq,if_true];rw[zl (by omega),QI];rfl
  simp only[go_sem,h6,e6,k6,e0]
theorem X9{s:Structure}(h:Aj s)(G:okStructure s){l:List Int}(E:Ai s.joints.length l):fn ZL conv ext 98 [.agg (cStructure s),LI l]=some (Bo true):=by
 have J:=h.1;have k:=abR s l G (by rw[E.1];unfold maxLen;omega);rw[iD h,iD E]at k;exact k
theorem X_{s:Structure}(h:Aj s)(S:okStructure s){l:List Int}(hl:Ai s.joints.length l) :
  (∃qs,qs.length=s.members.length/\(∀q∈qs,Ln 24 q)/\fn ZL pI Ad 58 [.agg (cStructure s),LI l]=some (.AB [LL cQ qs,Bo true])/\fn ZL pI Ad 76 [.agg (cStructure s),LI l]=some (.AB [LL cQ qs,Bo true]) /\
   ∃x:Nat->Rat,(EH s l).Best x/\(∀j,j<Cc s->Ln 6 (x j))/\qs=FQ s x/\∃T,(EH s l).Good T/\x=Bj (EH s l).m T) \/
  (fn ZL pI Ad 58 [.agg (cStructure s),LI l]=some UL/\fn ZL pI Ad 76 [.agg (cStructure s),LI l]=some UL/\((EH s l).None\/(EH s l).Open)):=by
 have Pj:=h.1;have hb:∀x∈l,-100<=x/\x<=100:=fun x J=>kE (hl.2 x J)
 obtain⟨r,k1,hr⟩:=IV S (l:=l) (by rw[hl.1];unfold maxLen;omega);obtain⟨r0,Y,a6⟩:=alZ h.sg hb;have k3:=aiE h.sg hl.1 hb;have k4:=X9 h S hl;unfold CO at Y k3;have n2:((2:Int) !=0)=true:=by decide
 have n3:((3:Int) !=0)=true:=by decide
 have n0:((0:Int) !=0)=false:=by decide
 have a1:r=UL/\((EH s l).None\/(EH s l).Open)\/∃x:Nat->Rat,(EH s l).Best x/\(∀j,j<Cc s->Ln 24 (x j))/\r=CW (Gh (cols s s.members.length) ((List.range (Cc s)).map x) s.members.length (Cc s)):=by
  rcases hr with ⟨hn,_⟩|⟨_,_,hr⟩
  .exact absurd ⟨h,hl⟩ hn
  .exact hr
 have no:(EH s l).None\/(EH s l).Open->fn ZL pI Ad 58 [.agg (cStructure s),LI l]=some UL:=fun hn=>by
  rcases a1 with ⟨e,_⟩|⟨x,J,_⟩
  .rw[k1,e]
  .rcases hn with hn|hn
   .exact absurd hn J.WH
   .exact absurd hn (fun S=>I8 J S)
 rcases a6 with ⟨O,hn⟩|⟨O,hn⟩|⟨x,J,E,a8,O,hT⟩
 .refine .inr ⟨no (.inl hn),?_,.inl hn⟩
  rw[O]at Y;unfold UL;rw[m_,mg [.tmp 4,.tmp 5] [] func76];simp only[go_sem,Y,k3,k4,n2,n3]
 .refine .inr ⟨no (.inr hn),?_,.inr hn⟩
  rw[O]at Y;unfold UL;rw[m_,mg [.tmp 4,.tmp 5] [] func76];simp only[go_sem,Y,k3,k4,n2,n3]
 .have hn:(EH s l).n=Cc s:=rfl
  rw[hn]at E O;refine .inl ⟨FQ s x,Rf s x,fun q hq=>(OG E q hq).mono (by decide),?_,?_,x,J,E,rfl,hT⟩
  .rcases a1 with ⟨_,G⟩|⟨x',a7,_,e⟩
   .rcases G with G|G
    .exact absurd G J.WH
    .exact absurd G (fun S=>I8 J S)
   .have eX:(List.range (Cc s)).map x'=(List.range (Cc s)).map x:=xG fun j hj=>a7.eq J j (List.mem_range.mp hj)
    rw[k1,e,eX];unfold CW;rw[aiG E]
  .have k5:=avU h S E
   obtain⟨X,eX⟩:∃X,X=(List.range (Cc s)).map x:=⟨_,rfl⟩;obtain⟨v,ev⟩:∃v,v=ob (Cc s) (EH s l).c x:=⟨_,rfl⟩;have O:r0= .agg (I 0 :: LL cQ X :: cQ v):=by rw[eX,ev];exact O
   rw[O]at Y;rw[<- eX]at k5;rw[m_,mg [.tmp 4,.tmp 5] [] func76];have g1:(I 0 :: LL cQ X :: cQ v).length=5:=rfl;have g2:(I 0 :: LL cQ X :: cQ v).all qI=true:=rfl;have g3:(I 0 :: LL cQ X :: cQ v)[0]?=some (I 0):=rfl;have g4:(I 0 :: LL cQ X :: cQ v)[1]?=some (LL cQ X):=rfl;have g5:(I 0 :: LL cQ X :: cQ v).take 5=I 0 :: LL cQ X :: cQ v:=rfl;simp only[go_sem,Y,k3,k4,g1,g2,g3,g4,g5,k5,n0]
theorem aiK{s:Structure}(h:Aj s)(ho:okStructure s){l w:List Int}(hl:Ai s.joints.length l)(hw:AZ s.members.length w) :
  ∃b,fn ZL pI Ad 18 [.agg (cStructure s),LI l,LI w]=some (Bo b)/\fn ZL pI Ad 159 [.agg (cStructure s),LI l,LI w]=some (Bo b):=by
 rcases X_ h ho hl with ⟨qs,O,S,G,J,_⟩|⟨G,J,_⟩
 .have Y:=JM h ho O S hw
  have k4:=ae7 h ho O S hw;refine⟨DU s qs w,?_,?_⟩
  .cases hb:DU s qs w with
   |true=>
    rw[hb]at Y;have E:fn ZL pI Ad 14 [.agg (cStructure s),LI l,LI w]=some (.AB [LL cQ qs,Bo true]):=by
     rw[m_,mg [.tmp 6,.tmp 7] [] func14];simp only[go_sem,G,Y]
    rw[m_,mg [.tmp 6] [] func18];simp only[go_sem,E]
   |false=>
    rw[hb]at Y;have E:fn ZL pI Ad 14 [.agg (cStructure s),LI l,LI w]=some (.AB [.ts [] 0,Bo false]):=by
     rw[m_,mg [.tmp 6,.tmp 7] [] func14];simp only[go_sem,G,Y]
    rw[m_,mg [.tmp 6] [] func18];simp only[go_sem,E]
  .cases hb:DU s qs w with
   |true=>
    rw[hb]at k4;have E:fn ZL pI Ad 217 [.agg (cStructure s),LI l,LI w]=some (.AB [LL cQ qs,Bo true]):=by
     rw[m_,mg [.tmp 6,.tmp 7] [] func217];simp only[go_sem,J,k4]
    rw[m_,mg [.tmp 6] [] func159];simp only[go_sem,E]
   |false=>
    rw[hb]at k4;have E:fn ZL pI Ad 217 [.agg (cStructure s),LI l,LI w]=some (.AB [.ts [] 0,Bo false]):=by
     rw[m_,mg [.tmp 6,.tmp 7] [] func217];simp only[go_sem,J,k4]
    rw[m_,mg [.tmp 6] [] func159];simp only[go_sem,E]
 .refine⟨false,?_,?_⟩
  .have G:fn ZL pI Ad 58 [.agg (cStructure s),LI l]=some (.AB [.ts [] 0,Bo false]):=G
   have E:fn ZL pI Ad 14 [.agg (cStructure s),LI l,LI w]=some (.AB [.ts [] 0,Bo false]):=by
    rw[m_,mg [.tmp 6,.tmp 7] [] func14];simp only[go_sem,G]
   rw[m_,mg [.tmp 6] [] func18];simp only[go_sem,E]
  .have J:fn ZL pI Ad 76 [.agg (cStructure s),LI l]=some (.AB [.ts [] 0,Bo false]):=J
   have E:fn ZL pI Ad 217 [.agg (cStructure s),LI l,LI w]=some (.AB [.ts [] 0,Bo false]):=by
    rw[m_,mg [.tmp 6,.tmp 7] [] func217];simp only[go_sem,J]
   rw[m_,mg [.tmp 6] [] func159];simp only[go_sem,E]
theorem avV(k j:Nat):fn ZL conv ext 144 [.ts [I k] 1,I j]=some (Bo (decide (j=k))):=by
 rw[m_,mg [.tmp 4] [] func144];simp only[go_sem];generalize E:dI _ _=y;obtain⟨x,rfl,J⟩:=oZ E 1 (fun i st=>st.T 1=I j/\st.T 7= .ts [I k] 1/\st.T 8=I 1/\st.T 9=I i/\(i=1->j≠k))
  (fun x=>∃T σ nx,(x=(.exit 0,⟨T,σ,nx⟩)/\j≠k)\/(x=(.ret,⟨T,σ,nx⟩)/\T 4=Bo true/\j=k)) (by
   clear E;rintro i ⟨T,σ,nx⟩ hi ⟨t1,t7,t8,t9,h⟩;simp only at t1 t7 t8 t9;have:i=0:=by omega
   subst this;have t9:T 9=I 0:=t9;have f1:(0:Int)<1:=by decide
   have f3:=ZT (n:=(0:Int)+1);have f0:(0:Int)<=0:=by decide
   have f4:([I (k:Int)]:List V)[Int.toNat 0]?=some (I k):=rfl
   by_cases e:j=k
   .have G:((k:Int)==(j:Int))=true:=by rw[e];simp
    refine .inr ⟨_,by simp only[go_sem,t1,t7,t8,t9,f0,f1,f4,G];rfl,by simp,_,_,_,.inr ⟨rfl,by simp only[go_sem],e⟩⟩
   .have G:((k:Int)==(j:Int))=false:=by rw[sG];omega
    refine .inl ⟨_,by simp only[go_sem,t1,t7,t8,t9,f0,f1,f3,f4,G];rfl,?_⟩;simp only[go_sem,t1,t7,t8];exact⟨rfl,fun _=>e⟩) (by
   clear E;rintro ⟨T,σ,nx⟩ ⟨t1,t7,t8,t9,h⟩;simp only at t1 t7 t8 t9;have t9:T 9=I 1:=t9;have f1:¬(1:Int)<1:=by decide
   exact⟨_,by simp only[go_sem,t8,t9,f1];rfl,by simp,_,_,_,.inl ⟨rfl,h rfl⟩⟩) (by
   simp only[go_sem];exact fun h=>absurd h (by decide))
 obtain⟨T,σ,nx,⟨rfl,hm⟩|⟨rfl,t4,hm⟩⟩:=J
 .rw[sD hm]
  simp only[go_sem]
 .rw[sF hm]
  simp only[go_sem,t4]
theorem aiL{s:Structure}(h:Aj s)(k:Nat)(hk:k<s.members.length):fn ZL conv ext 216 [.agg (cStructure s),.ts [I k] 1]=some (.agg (cStructure (del s k))):=by
 have b7:=h.2.1;have Pj:=h.1;have b8:0<s.joints.length:=by
  have:=h.sg.mr k hk;obtain⟨r1,r2,_⟩:=this;omega
 have z1:¬s.joints.length=0:=by omega
 have s1:s.joints.length<=maxLen/\s.joints.length*40<=140737488355328:=by unfold maxLen;omega
 have s2:=KA s.joints;have s3:=Gf s.joints;rw[m_,mg [.cell 4 36] [] func216];simp only[go_sem,z1,s1,s2,s3];generalize hL:dI _ _=y;obtain⟨x,rfl,T,σ,nx,rfl,t4,t5,E,w,S,Y,J,G,hw⟩:=oZ hL s.members.length (fun j st=>st.T 1= .ts [I k] 1/\st.T 4= .rp 1 0/\st.T 5= .rp 3 0/\st.T 14=LL cMember s.members/\st.T 15=I s.members.length/\st.T 16=I j/\3<st.nx/\∃w,st.σ 1=some ⟨[.nil,.nil],0,true⟩/\st.σ 2=some ⟨s.joints.flatMap cJoint,4,true⟩/\st.σ 3=some ⟨[.rs 2 0 s.joints.length,w],0,true⟩/\Cb cMember 3 (fun _=>w) st.σ st.nx 0 (DI s.members k j)/\∀b o l,w= .rs b o l->3<b)
  (fun x=>∃T σ nx,x=(.exit 0,⟨T,σ,nx⟩)/\T 4= .rp 1 0/\T 5= .rp 3 0/\3<nx/\∃w,σ 1=some ⟨[.nil,.nil],0,true⟩/\σ 2=some ⟨s.joints.flatMap cJoint,4,true⟩/\σ 3=some ⟨[.rs 2 0 s.joints.length,w],0,true⟩/\Cb cMember 3 (fun _=>w) σ nx 0 (DI s.members k s.members.length)/\∀b o l,w= .rs b o l->3<b) (by
   clear hL;rintro j ⟨T,σ,nx⟩ hj ⟨t1,t4,t5,t14,t15,t16,E,w,S,Y,J,G,hw⟩;simp only at t1 t4 t5 t14 t15 t16 E S Y J G;have f1:(j:Int)<(s.members.length:Int):=by omega
   have f2:=jD j;have f3:=ZT (n:=(j:Int)+1);have f4:=Ik s.members j hj;have f5:=E_ s.members;have f6:j*3+3<=s.members.length*3:=by omega
   have f9:=Il s.members j hj;have k2:=avV k j;have hle:=XF s.members k j;have y1:¬3=nx:=by omega
   have y2:¬nx=3:=by omega
   obtain⟨m1,em⟩:∃m1,m1=s.members[j]:=⟨_,rfl⟩;rw[<- em]at f4
   by_cases O:j=k
   .rw[sF O]at k2
    refine .inl ⟨_,by simp only[go_sem,t1,t4,t5,t14,t15,t16,f1,f2,f3,f4,f5,f6,f9,hj,k2];rfl,?_⟩;simp only[go_sem,t1,t4,t5,t14,t15];have ek:DI s.members k (j+1)=DI s.members k j:=by subst O;exact acH hj
    rw[ek];refine⟨rfl,by omega,w,?_,?_,?_,kX G _,hw⟩
    .rw[Zm];exact S
    .rw[Zm];exact Y
    .rw[Zm];exact J
   .rw[sD O]at k2
    have a6:=kX G (some ⟨cMember m1,0,true⟩);obtain⟨σ',ha,hs,a7⟩:=kW (c:=cMember) (s:=3) (bytes:=24) (fun _=>rfl) (fun _=>rfl) (by decide) a6 m1 (by omega) (by decide);have q1:∀q,q<nx->(∀b o l,w= .rs b o l->q≠b)->σ' q=σ q:=fun q hq a8=>by
     rw[a7 q (by omega) (fun b o l h=>a8 b o l h),Zm]
    have q3:σ' 3=some ⟨[.rs 2 0 s.joints.length,w],0,true⟩:=by rw[q1 3 E (fun b o l h e=>by have:=hw b o l h;omega)];exact J
    have q2:σ' 2=some ⟨s.joints.flatMap cJoint,4,true⟩:=by rw[q1 2 (by omega) (fun b o l h e=>by have:=hw b o l h;omega)];exact Y
    have b2:σ' 1=some ⟨[.nil,.nil],0,true⟩:=by rw[q1 1 (by omega) (fun b o l h e=>by have:=hw b o l h;omega)];exact S
    refine .inl ⟨_,by simp only[go_sem,t1,t4,t5,t14,t15,t16,f1,f2,f3,f4,f5,f6,f9,hj,k2,y1,y2,J,ha,q3];rfl,?_⟩;simp only[go_sem,t1,t4,t5,t14,t15];rw[XE hj O,<- em];refine⟨rfl,by omega,_,?_,?_,rfl,?_,?_⟩
    .exact b2
    .exact q2
    .refine .inr ⟨nx+1+1,by rw[zo];rfl,by simp,?_,by omega⟩
     rw[Zm];exact hs
    .intro b o l hb
     cases hb;omega) (by
   clear hL;rintro ⟨T,σ,nx⟩ ⟨t1,t4,t5,t14,t15,t16,E,w,S,Y,J,G,hw⟩;simp only at t1 t4 t5 t14 t15 t16 E S Y J G;exact⟨_,by simp only[go_sem,t15,t16,zk];rfl,by simp,_,_,_,rfl,by simp only[go_sem,t4],by simp only[go_sem,t5],E,w,S,Y,J,G,hw⟩) (by
   simp only[go_sem];exact⟨_,rfl,.inl ⟨rfl,rfl⟩,fun b o l h=>by cases h⟩)
 have ek:DI s.members k s.members.length=(del s k).members:=by
  unfold DI del;rw[yg]
 rw[ek]at G;have cw:qI w=true:=by
  rcases G with ⟨a,_⟩|⟨b,a,_⟩
  .have a:w= .nil:=a
   rw[a];rfl
  .have a:w= .rs b 0 _:=a
   rw[a];rfl
 obtain⟨Ht,b3⟩:∃Ht,stripL (strip (upd σ 1 (some ⟨[.rs 2 0 s.joints.length,w],0,true⟩)) 6) [.rs 2 0 s.joints.length,w]=some ([LL cJoint s.joints,LL cMember (del s k).members],Ht):=by
  have b4:strip (upd σ 1 (some ⟨[.rs 2 0 s.joints.length,w],0,true⟩)) 6 (.rs 2 0 s.joints.length)=some (LL cJoint s.joints,[2]):=by
   rw[aQ,Zl _ _ (by decide),Y];simp only[zi,yX,yY,s3,zq,if_true];rw[zl (by omega),aW (fun x=>by rw[ah,aP,ah,aP,ah,aP,ah,aP,aX];rfl)];rfl
  have b5:Cb cMember 3 (fun _=>w) (upd σ 1 (some ⟨[.rs 2 0 s.joints.length,w],0,true⟩)) nx 0 (del s k).members:=by
   rcases G with ⟨a,b⟩|⟨b,a1,a2,a3,a4⟩
   .exact .inl ⟨a,b⟩
   .exact .inr ⟨b,a1,a2,by rw[Zl _ _ (by have:=hw _ _ _ a1;omega)];exact a3,a4⟩
  obtain⟨is,b6⟩:=kS (c:=cMember) (s:=3) (fun _=>rfl) 5 (fun x=>by rw[ah,aP,ah,aP,ah,aP,aX];rfl) b5;refine⟨[2]++(is++[]),?_⟩;rw[ah,b4,ah,b6,aX];rfl
 simp only[go_sem,t4,t5,S,J,b3,cw];rfl
theorem OH{s:Structure}(h:Aj s)(E:okStructure s){l w:List Int}(G:Ai s.joints.length l)(hw:AZ s.members.length w) :
  fn ZL pI Ad 159 [.agg (cStructure s),LI l,LI w]=some (Bo (pb (Df s l w))):=by
 obtain⟨b,k,J⟩:=aiK h E G hw;rw[J];cases b with
 |true=>
  have:Df s l w:=k;rw[iD this]
 |false=>
  have:¬Df s l w:=fun e=>by unfold Df at e;rw[k]at e;cases e
  rw[iE this]
theorem Ya{s:Structure}(h:Aj s)(ho:okStructure s){l w:List Int}(hl:Ai s.joints.length l)(hw:AZ s.members.length w) :
  fn ZL pI Ad 158 [.agg (cStructure s),LI l,LI w]=some (Bo (F9 s l w)):=by
 have k1:=OH h ho hl hw;have b9:=h.2.1;have Pj:=h.1;have O:=hw.1;unfold F9;rw[m_,mg [.tmp 6] [6] func158];cases hs:pb (Df s l w)with
 |false=>
  rw[hs]at k1;simp only[go_sem,k1]
 |true=>
  rw[hs]at k1;simp only[go_sem,k1];generalize hL:dI _ _=y;obtain⟨x,rfl,hx⟩:=oZ hL s.members.length (fun j st=>st.T 1=LI l/\st.T 2=LI w/\st.T 3= .rp 0 0/\st.T 16=I s.members.length/\st.T 17=I j/\0<st.nx/\st.σ 0=some ⟨cStructure s,0,true⟩/\upto s l w j=true)
   (fun x=>∃T σ nx,(x=(.exit 0,⟨T,σ,nx⟩)/\upto s l w s.members.length=true)\/(x=(.ret,⟨T,σ,nx⟩)/\T 6=Bo false/\upto s l w s.members.length=false)) (by
    clear hL;rintro j ⟨T,σ,nx⟩ hj ⟨t1,t2,t3,t16,t17,a7,J,hu⟩;simp only at t1 t2 t3 t16 t17 a7 J;have f1:(j:Int)<(s.members.length:Int):=by omega
    have f2:=jD j;have f3:=ZT (n:=(j:Int)+1);have k2:=aiL h j hj;obtain⟨S,eS⟩:∃S,S=del s j:=⟨_,rfl⟩;rw[<- eS]at k2;have hlen:(w.eraseIdx j).length=s.members.length-1:=by rw[yV (by omega),O]
    have b7:S.joints=s.joints:=by rw[eS];rfl
    have b8:S.members.length=s.members.length-1:=by
     rw[eS];unfold del;exact yV hj
    have k5:=OH (s:=S) (l:=l) (w:=w.eraseIdx j) (by rw[eS];exact ah7 h j) (by rw[eS];exact acG ho j) (by rw[b7];exact hl) (by rw[b8];exact QM hw hj);have us:=upto_succ s l w j;rw[<- eS]at us;have a8:w.eraseIdx j=w.take j++w.drop (j+1):=vX ..;have e1:(w.flatMap cI).take j=(w.take j).flatMap cI:=qJ ..;have e2:((w.flatMap cI).drop (j+1)).take (s.members.length - (j+1))=(w.drop (j+1)).flatMap cI:=by
     have:(w.flatMap cI).drop (j+1)=(w.drop (j+1)).flatMap cI:=by rw[jM,<- List.map_drop,<- jM]
     rw[this,zl (by rw[qL,zO];omega)]
    have i2:((j:Int)+1).toNat=j+1:=by omega
    have i1:(0:Int)<=(j:Int)+1:=by omega
    have i4:j+1<=s.members.length:=hj;have i5:j<=s.members.length:=by omega
    have c1:=qM (w.take j);have l1:(w.take j).length=j:=by rw[zh];omega
    have l2:(w.drop (j+1)).length=s.members.length - (j+1):=by rw[zO];omega
    have c2:=qM (w.drop (j+1));have y1:nx<nx+1:=by omega
    by_cases b5:j=0
    .have z0:(j=0)=True:=eq_true b5
     have w0:w.take j=[]:=by rw[b5];rfl
     by_cases b6:j+1=s.members.length
     .have m1:(s.members.length - (j+1)=0)=True:=eq_true (by omega)
      have Yb:w.eraseIdx j=[]:=zZ (by omega);obtain⟨σ2,Y⟩:∃σ2,σ2=σ:=⟨_,rfl⟩;have b2:σ2 0=some ⟨cStructure s,0,true⟩:=by rw[Y];exact J
      obtain⟨E,e3⟩:∃E,E=upd σ2 (nx) (some ⟨[I j],1,flat 7 (.agg (cStructure S))⟩):=⟨_,rfl⟩;have b3:E 0=some ⟨cStructure s,0,true⟩:=by rw[e3,Zm];exact b2
      have st:∀d,strip E (d+1) .nil=some (LI (w.eraseIdx j),[]):=fun d=>by rw[Yb,aS];rfl
      cases G:pb (Df S l (w.eraseIdx j))with
      |true=>
       rw[G]at k5 us;refine .inl ⟨_,by simp only[go_sem,t1,t2,t3,t16,t17,J,O,f1,f2,f3,e1,e2,i1,i2,i4,i5,c1,c2,l1,l2,k2,k5,st,y1,z0,m1,<- Y,b2,<- e3,b3];rfl,?_⟩;simp only[go_sem,t1,t2,t3,t16,b3];exact⟨rfl,by omega,by rw[us,hu];rfl⟩
      |false=>
       rw[G]at k5;refine .inr ⟨_,by simp only[go_sem,t1,t2,t3,t16,t17,J,O,f1,f2,f3,e1,e2,i1,i2,i4,i5,c1,c2,l1,l2,k2,k5,st,y1,z0,m1,<- Y,b2,<- e3,b3];rfl,by simp,_,_,_,.inr ⟨rfl,by simp only[go_sem],?_⟩⟩;rw[eS]at G;exact Zi hj G
     .have m1:¬s.members.length - (j+1)=0:=by omega
      have Yb:w.eraseIdx j=w.drop (j+1):=by rw[a8,w0,yO]
      have s1:s.members.length - (j+1)<=maxLen/\(s.members.length - (j+1))*8<=140737488355328:=by unfold maxLen;omega
      obtain⟨σ2,Y⟩:∃σ2,σ2=upd σ nx (some ⟨(w.drop (j+1)).flatMap cI,1,true⟩):=⟨_,rfl⟩;have b2:σ2 0=some ⟨cStructure s,0,true⟩:=by rw[Y,Zm];exact J
      have x2:nx<nx+1+1:=by omega
      obtain⟨E,e3⟩:∃E,E=upd σ2 (nx+1) (some ⟨[I j],1,flat 7 (.agg (cStructure S))⟩):=⟨_,rfl⟩;have b3:E 0=some ⟨cStructure s,0,true⟩:=by rw[e3,Zm];exact b2
      have st:∀d,strip E (d+1) (.rs nx 0 (s.members.length - (j+1)))=some (LI (w.eraseIdx j),[nx]):=fun d=>by rw[Yb];exact kD (by rw[e3,Zm,Y,Zk]) (by omega) d
      cases G:pb (Df S l (w.eraseIdx j))with
      |true=>
       rw[G]at k5 us;refine .inl ⟨_,by simp only[go_sem,t1,t2,t3,t16,t17,J,O,f1,f2,f3,e1,e2,i1,i2,i4,i5,c1,c2,l1,l2,k2,k5,st,y1,z0,m1,s1,<- Y,x2,b2,<- e3,b3];rfl,?_⟩;simp only[go_sem,t1,t2,t3,t16,b3];exact⟨rfl,by omega,by rw[us,hu];rfl⟩
      |false=>
       rw[G]at k5;refine .inr ⟨_,by simp only[go_sem,t1,t2,t3,t16,t17,J,O,f1,f2,f3,e1,e2,i1,i2,i4,i5,c1,c2,l1,l2,k2,k5,st,y1,z0,m1,s1,<- Y,x2,b2,<- e3,b3];rfl,by simp,_,_,_,.inr ⟨rfl,by simp only[go_sem],?_⟩⟩;rw[eS]at G;exact Zi hj G
    .have z0:¬j=0:=b5
     have s1:j<=maxLen/\j*8<=140737488355328:=by unfold maxLen;omega
     by_cases b6:j+1=s.members.length
     .have m1:s.members.length - (j+1)=0:=by omega
      have w0:w.drop (j+1)=[]:=xw (by omega);have Yb:w.eraseIdx j=w.take j:=by rw[a8,w0,zC]
      obtain⟨σ2,Y⟩:∃σ2,σ2=upd σ nx (some ⟨(w.take j).flatMap cI,1,true⟩):=⟨_,rfl⟩;have b2:σ2 0=some ⟨cStructure s,0,true⟩:=by rw[Y,Zm];exact J
      have a1:=NV (restrict σ2 [nx]) (nx+1) 1 8 nx 0 j [] (B:=⟨(w.take j).flatMap cI,1,true⟩) (by rw[fJ,Y,Zk]);have x2:nx<nx+1+1:=by omega
      obtain⟨E,e3⟩:∃E,E=upd σ2 (nx+1) (some ⟨[I j],1,flat 7 (.agg (cStructure S))⟩):=⟨_,rfl⟩;have b3:E 0=some ⟨cStructure s,0,true⟩:=by rw[e3,Zm];exact b2
      have st:∀d,strip E (d+1) (.rs nx 0 j)=some (LI (w.eraseIdx j),[nx]):=fun d=>by rw[Yb];exact kD (by rw[e3,Zm,Y,Zk]) (by omega) d
      cases G:pb (Df S l (w.eraseIdx j))with
      |true=>
       rw[G]at k5 us;refine .inl ⟨_,by simp only[go_sem,t1,t2,t3,t16,t17,J,O,f1,f2,f3,e1,e2,i1,i2,i4,i5,c1,c2,l1,l2,k2,k5,st,y1,z0,m1,s1,<- Y,a1,x2,b2,<- e3,b3];rfl,?_⟩;simp only[go_sem,t1,t2,t3,t16,b3];exact⟨rfl,by omega,by rw[us,hu];rfl⟩
      |false=>
       rw[G]at k5;refine .inr ⟨_,by simp only[go_sem,t1,t2,t3,t16,t17,J,O,f1,f2,f3,e1,e2,i1,i2,i4,i5,c1,c2,l1,l2,k2,k5,st,y1,z0,m1,s1,<- Y,a1,x2,b2,<- e3,b3];rfl,by simp,_,_,_,.inr ⟨rfl,by simp only[go_sem],?_⟩⟩;rw[eS]at G;exact Zi hj G
     .have m1:¬s.members.length - (j+1)=0:=by omega
      obtain⟨a6,e5⟩:∃a6,a6=upd σ nx (some ⟨(w.take j).flatMap cI,1,true⟩):=⟨_,rfl⟩;have a1:=rC (σ:=restrict a6 [nx]) (nx:=nx+1) (bytes:=8) (b:=nx) (len:=j) (m:=s.members.length - (j+1)) (row:=(w.drop (j+1)).flatMap cI) (B:=⟨(w.take j).flatMap cI,1,true⟩) (by rw[fJ,e5,Zk]) (by show((w.take j).flatMap cI).length=_;rw[qL,l1]) rfl m1 (by unfold maxLen;omega) (by omega) c2;obtain⟨σ2,Y⟩:∃σ2,σ2=Aa [nx] (nx+1) (nx+1+1) a6 (upd (upd (restrict a6 [nx]) nx none) (nx+1) (some ⟨(w.take j).flatMap cI++(w.drop (j+1)).flatMap cI,1,true⟩)):=⟨_,rfl⟩;have b2:σ2 0=some ⟨cStructure s,0,true⟩:=by
       rw[Y];unfold Aa;rw[sJ (by simp;omega),e5,Zm];exact J
      have b4:σ2 (nx+1)=some ⟨(w.take j).flatMap cI++(w.drop (j+1)).flatMap cI,1,true⟩:=by
       rw[Y];unfold Aa;rw[sH (.inr ⟨zq _,by omega⟩),Zk]
      have x2:nx+1<nx+1+1:=by omega
      have x3:nx+1<nx+1+1+1:=by omega
      obtain⟨E,e3⟩:∃E,E=upd σ2 (nx+1+1) (some ⟨[I j],1,flat 7 (.agg (cStructure S))⟩):=⟨_,rfl⟩;have b3:E 0=some ⟨cStructure s,0,true⟩:=by rw[e3,Zm];exact b2
      have st:∀d,strip E (d+1) (.rs (nx+1) 0 (j+(s.members.length - (j+1))))=some (LI (w.eraseIdx j),[nx+1]):=fun d=>kD (by rw[e3,Zm,b4,<- zT,<- a8]) (by omega) d
      cases G:pb (Df S l (w.eraseIdx j))with
      |true=>
       rw[G]at k5 us;refine .inl ⟨_,by simp only[go_sem,t1,t2,t3,t16,t17,J,O,f1,f2,f3,e1,e2,i1,i2,i4,i5,c1,c2,l1,l2,k2,k5,st,y1,z0,m1,s1,<- Y,<- e5,a1,x2,x3,b2,<- e3,b3];rfl,?_⟩;simp only[go_sem,t1,t2,t3,t16,b3];exact⟨rfl,by omega,by rw[us,hu];rfl⟩
      |false=>
       rw[G]at k5;refine .inr ⟨_,by simp only[go_sem,t1,t2,t3,t16,t17,J,O,f1,f2,f3,e1,e2,i1,i2,i4,i5,c1,c2,l1,l2,k2,k5,st,y1,z0,m1,s1,<- Y,<- e5,a1,x2,x3,b2,<- e3,b3];rfl,by simp,_,_,_,.inr ⟨rfl,by simp only[go_sem],?_⟩⟩;rw[eS]at G;exact Zi hj G) (by
    rintro ⟨T,σ,nx⟩ ⟨t1,t2,t3,t16,t17,a7,J,hu⟩;simp only at t1 t2 t3 t16 t17 a7 J;exact⟨_,by simp only[go_sem,t16,t17,zk];rfl,by simp,_,_,_,.inl ⟨rfl,hu⟩⟩) (by
    simp only[go_sem];rfl)
  obtain⟨T,σ,nx,⟨rfl,hu⟩|⟨rfl,t6,hu⟩⟩:=hx
  .rw[hu]
   simp only[go_sem]
  .rw[hu]
   simp only[go_sem,t6]
theorem Yc(t:Stance)(G:okStance t)(strict:Bool):fn ZL pI Ad 102 [.agg (cStance t),Bo strict]=some (Bo (Gi t strict)):=by
 have E:=P6 t G;unfold Gi;rw[m_,mg [.tmp 4] [] func102];cases hs:Cj t with
 |false=>
  rw[hs]at E;simp only[go_sem,E]
 |true=>
  rw[hs]at E;obtain⟨J,O,S⟩:=bG hs;have Y:=Ya J G.2.1 O S;have k3:=OH J G.2.1 O S;cases strict with
  |true=>simp only[go_sem,E,Y]
  |false=>simp only[go_sem,E,k3]
theorem apP(y:Yard)(ho:okYard y)(KX:y.stances.length<=6):fn ZL pI Ad 56 [.agg (cYard y)]=some (LL DJ (Ac y)):=by
 have b2:=dJ y;rw[m_,mg [.tmp 2] [] func56];simp only[go_sem];generalize G:dI _ _=z;obtain⟨r,rfl,T',σ',nx',rfl,E⟩:=oZ G y.stances.length (fun k s=>1<=s.nx/\s.T 1= .rp 0 0/\s.T 8=LL cStance y.stances/\s.T 9=I y.stances.length/\s.T 10=I k/\s.σ 0=some ⟨cYard y,0,true⟩/\Cb DJ 1 s.T s.σ s.nx 3 ((Ac y).take k)/\∀b o l,s.T 3= .rs b o l->1<=b)
  (fun r=>∃T σ nx',r=(.exit 0,⟨T,σ,nx'⟩)/\Cb DJ 1 T σ nx' 3 (Ac y)) (by
   clear G;rintro k ⟨T,σ,m⟩ J ⟨hm,t1,t8,t9,t10,hs,E,hb⟩;simp only at hm t1 t8 t9 t10 hs E hb;have O:k<(Ac y).length:=by omega
   have f1:(k:Int)<(y.stances.length:Int):=by omega
   have f2:=jD k;have f3:=ZT (n:=(k:Int)+1);have f4:=aao y.stances k J;have f5:=MV y.stances;have f6:k*5+5<=y.stances.length*5:=by omega
   have f9:=aap y.stances k J;have S:=Yc y.stances[k] (ho.1.1 _ (zu J)) y.strict;have es:(Ac y)[k]=Gi y.stances[k] y.strict:=by simp[Ac]
   have z1:¬0=m:=by omega
   have z2:¬m=0:=by omega
   obtain⟨t,et⟩:∃t,t=y.stances[k]:=⟨_,rfl⟩;rw[<- et]at f4 S es;obtain⟨Y,eb⟩:∃Y,Y=Gi t y.strict:=⟨_,rfl⟩;rw[<- eb]at S es;have a1:=kX E (some ⟨cStance t,0,true⟩);obtain⟨σ',ha,a6,a7⟩:=kW (c:=DJ) (s:=1) (bytes:=1) (fun _=>rfl) (fun _=>rfl) (by decide) a1 Y (by rw[zh];omega) (by decide);have q0:σ' 0=some ⟨cYard y,0,true⟩:=by rw[a7 0 (by omega) (fun b o l h e=>by have:=hb b o l h;omega),Zm];exact hs
   refine .inl ⟨_,by simp only[go_sem,t1,t8,t9,t10,hs,f1,f2,f3,f4,f5,f6,f9,S,ha,z1,z2];rfl,?_⟩;simp only[go_sem,t1,t8,t9];rw[aH O,es];refine⟨rfl,q0,kT a6 (by simp only[go_sem,zo]) (by simp),fun b o l h=>by(cases h;omega)⟩) (by
   clear G;rintro ⟨T,σ,m⟩ ⟨hm,t1,t8,t9,t10,hs,E,hb⟩;simp only at hm t1 t8 t9 t10 hs E hb;rw[zl (by omega)]at E;exact⟨_,by simp only[go_sem,t9,t10,zk];rfl,by simp,_,_,_,rfl,Xr (by simp only[go_sem]) E⟩) (by
   simp only[go_sem];exact⟨.inl ⟨by simp only[go_sem],rfl⟩,fun b o l h=>by cases h⟩)
 obtain⟨ids,a8⟩:=kS (c:=DJ) (s:=1) (fun _=>rfl) 6 (fun x=>by rw[ah,aP,aX];rfl) E;simp only[go_sem,a8]
end Go.Proofs.YtkpdoehbhmipcaaGreat
namespace Go.Proofs.YtkpdoehbhmipcaaGreat
open Go Go.TV
theorem Yd{E:Array Edge}{ids:List Nat}:∀ {acc:List (Nat×Bool×List Nat)},(acc.all fun p=> !p.2.1)=true->okG E false ids acc=true
 |[],_=>rfl
 |p :: acc,h=>by
  rw[uH,zA]at h;have G:p.2.1=false:=by simpa using h.1
  unfold okG;rw[G,Yd h.2];rfl
theorem I_{E:Array Edge}{ids:List Nat}{acc:List (Nat×Bool×List Nat)}(h:(acc.all fun p=> !p.2.1)=true):okF E acc false ids=true:=by
 cases ids with
 |nil=>rfl
 |cons b G=>exact Yd h
open Go.Plan
attribute [-go_sem] qw
noncomputable def endsB(y:Yard)(fr to:Int):Bool:=pb (Ak y) && (inB fr 0 ((y.stances.length:Int) - 1) && inB to 0 ((y.stances.length:Int) - 1))
theorem UA{y:Yard}{fr to:Int}(hp:BI y fr to=true):endsB y fr to=true:=by
 unfold BI at hp;simp only[zA,decide_eq_true_eq]at hp;obtain⟨E,⟨J,O⟩,G⟩:=hp;obtain⟨⟨t0,t1⟩,_⟩:=Ud G;unfold endsB inB;rw[E,sF (by omega),sF (by omega),sF (by omega),sF (by omega)];rfl
theorem OI{y:Yard}{fr to:Int}(E:endsB y fr to=true):Ak y/\∃a t:Nat,fr=(a:Int)/\to=(t:Int)/\a<y.stances.length/\t<y.stances.length:=by
 unfold endsB at E;simp only[zA]at E;obtain⟨O,G,J⟩:=E;have G:=kE G;have J:=kE J;exact⟨iw O,fr.toNat,to.toNat,by omega,by omega,by omega,by omega⟩
noncomputable def Ed(y:Yard)(fr:Int):List Int:=if(endsB y fr fr && Dj (Ac y) fr.toNat)=true then EY (fun i=>decide (0<=dst (Dw y) (Dj (Ac y)) i fr.toNat)) y.stances.length else []
theorem abx(y:Yard)(fr:Int):(Ed y fr).length<=1000000:=by
 unfold Ed
 split
 .rename_i h
  rw[zA]at h;obtain⟨E,_⟩:=OI h.1;exact zU (Zp _ _) (by have:=E.1;omega)
 .exact vV _
def UC(y:Yard)(a c:Int):Bool:=y.moves.any fun m=>(m.fr==a) && (m.to==c)
noncomputable def EC(y:Yard)(plan:List Int)(k:Nat):Bool:=inB (plan.getD k 0) 0 ((y.stances.length:Int) - 1) && (Dj (Ac y) (plan.getD k 0).toNat && (decide (k=0)||UC y (plan.getD (k-1) 0) (plan.getD k 0)))
noncomputable def GU(y:Yard)(plan:List Int):Bool:=pb (Ak y) && (decide (plan≠[]) && (List.range plan.length).all (EC y plan))
theorem avW(y:Yard)(hg:Ak y)(a c:Int):fn ZL conv ext 57 [.agg (cYard y),I a,I c]=some (Bo (UC y a c)):=by
 have a6:=hg.2.1;unfold UC;rw[m_,mg [.tmp 6] [] func57];simp only[go_sem];generalize S:dI _ _=z;obtain⟨x,rfl,hx⟩:=oZ S y.moves.length (fun j st=>st.T 1=I a/\st.T 2=I c/\st.T 10=LL cMove y.moves/\st.T 11=I y.moves.length/\st.T 12=I j/\∀i (h:i<y.moves.length),i<j->((y.moves[i].fr==a) && (y.moves[i].to==c))=false)
  (fun x=>∃T σ nx,(x=(.exit 0,⟨T,σ,nx⟩)/\(y.moves.any fun m=>(m.fr==a) && (m.to==c))=false)\/(x=(.ret,⟨T,σ,nx⟩)/\T 6=Bo true/\(y.moves.any fun m=>(m.fr==a) && (m.to==c))=true)) (by
   clear S;rintro j ⟨T,σ,nx⟩ Y ⟨t1,t2,t10,t11,t12,E⟩;simp only at t1 t2 t10 t11 t12;have g1:(j:Int)<(y.moves.length:Int):=by omega
   have g2:=jD j;have g3:=ZT (n:=(j:Int)+1);have g4:=aas y.moves j Y;have g5:=Ku y.moves;have g6:j*2+2<=y.moves.length*2:=by omega
   have g9:=aat y.moves j Y;obtain⟨m,J⟩:∃m,m=y.moves[j]:=⟨_,rfl⟩;rw[<- J]at g4;have y1:nx<nx+1:=by omega
   cases G:(m.fr==a)with
   |false=>
    refine .inl ⟨_,by simp only[go_sem,t1,t2,t10,t11,t12,g1,g2,g3,g4,g5,g6,g9,y1,G];rfl,?_⟩;simp only[go_sem,t1,t2,t10,t11];refine⟨rfl,fun i hi a1=>?_⟩
    by_cases e:i=j
    .subst e;rw[<- J,G];rfl
    .exact E i hi (by omega)
   |true=>cases O:(m.to==c)with
    |false=>
     refine .inl ⟨_,by simp only[go_sem,t1,t2,t10,t11,t12,g1,g2,g3,g4,g5,g6,g9,y1,G,O];rfl,?_⟩;simp only[go_sem,t1,t2,t10,t11];refine⟨rfl,fun i hi a1=>?_⟩
     by_cases e:i=j
     .subst e;rw[<- J,O,wS]
     .exact E i hi (by omega)
    |true=>
     refine .inr ⟨_,by simp only[go_sem,t1,t2,t10,t11,t12,g1,g2,g4,g5,g6,g9,y1,G,O];rfl,by simp,_,_,_,.inr ⟨rfl,by simp only[go_sem],?_⟩⟩;rw[List.any_eq_true];exact⟨m,by rw[J];exact zu Y,by rw[G,O];rfl⟩) (by
   clear S;rintro ⟨T,σ,nx⟩ ⟨t1,t2,t10,t11,t12,E⟩;simp only at t1 t2 t10 t11 t12;refine⟨_,by simp only[go_sem,t11,t12,zk];rfl,by simp,_,_,_,.inl ⟨rfl,?_⟩⟩;rw[List.any_eq_false];intro m hm;obtain⟨i,hi,rfl⟩:=yZ hm;rw[E i hi hi];simp) (by
   simp only[go_sem];exact fun i _ h=>absurd h (zX _))
 obtain⟨T,σ,nx,⟨rfl,hm⟩|⟨rfl,t6,hm⟩⟩:=hx
 .rw[hm]
  simp only[go_sem]
 .rw[hm]
  simp only[go_sem,t6]
theorem JW{p:Nat->Bool}{n:Nat}(h:∀i,i<n->p i=true):(List.range n).all p=true:=by
 rw[wO];exact fun i hi=>h i (List.mem_range.mp hi)
theorem Ja{p:Nat->Bool}{n k:Nat}(E:k<n)(h:p k=false):(List.range n).all p=false:=by
 rw[List.all_eq_false];exact⟨k,List.mem_range.mpr E,by rw[h];simp⟩
theorem al1(y:Yard)(ho:okYard y)(plan:List Int)(a8:plan.length<=1048576):fn ZL pI Ad 13 [.agg (cYard y),LI plan]=some (Bo (GU y plan)):=by
 have k1:=abS y ho;unfold GU;rw[m_,mg [.tmp 4] [] func13];cases hg:pb (Ak y)with
 |false=>
  rw[hg]at k1;simp only[go_sem,k1,ug]
 |true=>
  rw[hg]at k1;have hG:=iw hg;have KX:=hG.1
  by_cases a1:plan=[]
  .subst a1
   have e0:((([]:List Int).length:Int)==0)=true:=rfl;simp only[go_sem,k1,e0];simp
  have b2:plan.length≠0:=fun e=>a1 (zZ e)
  have e0:((plan.length:Int)==0)=false:=by rw[sG];omega
  rw[sF a1,xC,xC];have k2:=apP y ho KX;have hS:=dJ y;simp only[go_sem,k1,e0,k2];generalize hL:dI _ _=z;obtain⟨x,rfl,hx⟩:=oZ hL plan.length (fun k st=>st.T 1=LI plan/\st.T 2= .rp 0 0/\st.T 5=LL DJ (Ac y)/\st.T 18=LI plan/\st.T 19=I plan.length/\st.T 20=I k/\0<st.nx/\st.σ 0=some ⟨cYard y,0,true⟩/\∀i,i<k->EC y plan i=true)
   (fun x=>∃T σ nx,(x=(.exit 0,⟨T,σ,nx⟩)/\(List.range plan.length).all (EC y plan)=true)\/(x=(.ret,⟨T,σ,nx⟩)/\T 4=Bo false/\(List.range plan.length).all (EC y plan)=false)) (by
    clear hL;rintro k ⟨T,σ,nx⟩ S ⟨t1,t2,t5,O,t19,t20,G,J,Y⟩;simp only at t1 t2 t5 O t19 t20 G J;have g1:(k:Int)<(plan.length:Int):=by omega
    have g2:=jD k;have g3:=ZT (n:=(k:Int)+1);have g4:=idx (xs:=plan) (k:=k) S;have g5:=AU plan k S;have gd:plan.getD k 0=plan[k]:=by rw[zx,zy S];rfl
    obtain⟨p,ep⟩:∃p,p=plan[k]:=⟨_,rfl⟩;rw[<- ep]at g4 gd;have k3:=ji p 0 ((y.stances.length:Int) - 1);have w1:=ZT (n:=(y.stances.length:Int) - 1);have E:EC y plan k=(inB p 0 ((y.stances.length:Int) - 1) && (Dj (Ac y) p.toNat && (decide (k=0)||UC y (plan.getD (k-1) 0) p))):=by unfold EC;rw[gd]
    have no:EC y plan k=false->(List.range plan.length).all (EC y plan)=false:=fun h=>Ja S h
    cases hb:inB p 0 ((y.stances.length:Int) - 1)with
    |false=>
     rw[hb]at k3 E;refine .inr ⟨_,by simp only[go_sem,t1,t2,t5,O,t19,t20,hS,g1,g2,g4,g5,S,k3,w1];rfl,by simp,_,_,_,.inr ⟨rfl,by simp only[go_sem],no (by rw[E];rfl)⟩⟩
    |true=>
    rw[hb]at k3 E;have hr:=kE hb;obtain⟨j,rfl⟩:∃j:Nat,p=(j:Int):=⟨p.toNat,by omega⟩;rw[zJ]at E;have hj:j<y.stances.length:=by omega
    have a6:j<(Ac y).length:=by omega
    have j1:(j:Int)<(y.stances.length:Int):=by omega
    have j2:=jD j;have j3:((Ac y).flatMap DJ)[j]?=some (Bo (Dj (Ac y) j)):=by rw[rF a6];exact cu (fun b=>Bo b) (Ac y) j a6
    have j5:=aaG (Ac y) j a6;cases hs:Dj (Ac y) j with
    |false=>
     rw[hs]at E j3;refine .inr ⟨_,by simp only[go_sem,t1,t2,t5,O,t19,t20,hS,g1,g2,g4,g5,S,k3,w1,j1,j2,j3,j5,hj];rfl,by simp,_,_,_,.inr ⟨rfl,by simp only[go_sem],no (by rw[E];rfl)⟩⟩
    |true=>
    rw[hs]at E j3
    by_cases h0:k=0
    .rw[sF h0]at E
     have i0:¬(0:Int)<(k:Int):=by omega
     refine .inl ⟨_,by simp only[go_sem,t1,t2,t5,O,t19,t20,hS,g1,g2,g3,g4,g5,S,k3,w1,j1,j2,j3,j5,hj,i0];rfl,?_⟩;simp only[go_sem,t1,t2,t5,O,t19];refine⟨rfl,G,J,fun i hi=>?_⟩
     by_cases e:i=k
     .rw[e,E];rfl
     .exact Y i (by omega)
    .have i0:(0:Int)<(k:Int):=by omega
     rw[sD h0,Bool.false_or]at E;have i1:=ZT (n:=(k:Int) - 1);have i2:(k:Int) - 1=((k-1:Nat):Int):=by omega
     have i3:=idx (xs:=plan) (k:=k-1) (by omega);have i4:((k-1:Nat):Int)<(plan.length:Int):=by omega
     have i5:(0:Int)<=((k-1:Nat):Int):=by omega
     have i6:k-1<plan.length:=by omega
     rw[i2]at i1;have a7:plan.getD (k-1) 0=plan[k-1]'(by omega):=by rw[zx,zy (by omega)];rfl
     obtain⟨q,eq⟩:∃q,q=plan[k-1]'(by omega):=⟨_,rfl⟩;rw[<- eq]at i3 a7;rw[a7]at E;have k4:=avW y hG q (j:Int);cases hm:UC y q (j:Int)with
     |false=>
      rw[hm]at E k4;refine .inr ⟨_,by simp only[go_sem,t1,t2,t5,O,t19,t20,J,G,hS,g1,g2,g4,g5,S,k3,w1,j1,j2,j3,j5,hj,i0,i1,i2,i3,i4,i5,i6,k4];rfl,by simp,_,_,_,.inr ⟨rfl,by simp only[go_sem],no (by rw[E];rfl)⟩⟩
     |true=>
      rw[hm]at E k4;refine .inl ⟨_,by simp only[go_sem,t1,t2,t5,O,t19,t20,J,G,hS,g1,g2,g3,g4,g5,S,k3,w1,j1,j2,j3,j5,hj,i0,i1,i2,i3,i4,i5,i6,k4];rfl,?_⟩;simp only[go_sem,t1,t2,t5,O,t19];refine⟨rfl,G,J,fun i hi=>?_⟩
      by_cases e:i=k
      .rw[e,E];rfl
      .exact Y i (by omega)) (by
    clear hL;rintro ⟨T,σ,nx⟩ ⟨t1,t2,t5,O,t19,t20,G,J,Y⟩;simp only at t1 t2 t5 O t19 t20 G J;exact⟨_,by simp only[go_sem,t19,t20,zk];rfl,by simp,_,_,_,.inl ⟨rfl,JW Y⟩⟩) (by
    simp only[go_sem];exact fun i h=>absurd h (zX _))
  obtain⟨T,σ,nx,⟨rfl,hm⟩|⟨rfl,t4,hm⟩⟩:=hx
  .rw[hm]
   simp only[go_sem]
  .rw[hm]
   simp only[go_sem,t4]
theorem aiM(xs:List TV.Move)(m:TV.Move)(h:xs.length<=maxLen):fn ZL conv ext 55 [LL cMove xs,.agg (cMove m)]=some (Bo (xs.any fun o=>(o.fr==m.fr) && (o.to==m.to))):=by
 have G:=P7 xs m h;have e:(xs.any fun o=>(o.fr==m.fr) && (o.to==m.to))=decide (0<=ix (BF m) xs):=by
  by_cases c:ix (BF m) xs<0
  .rw[sD (by omega),List.any_eq_false]
   intro o E;have:=(Kr _ _).mp c o E;unfold BF at this;rw[BEq.comm (a:=o.fr),BEq.comm (a:=o.to),this];simp
  .rw[sF (by omega),List.any_eq_true]
   refine zf fun hn=>c ((Kr _ _).mpr fun o E=>?_)
   cases hs:BF m o with
   |false=>rfl
   |true=>
    unfold BF at hs;exact absurd ⟨o,E,by rw[BEq.comm (a:=o.fr),BEq.comm (a:=o.to)];exact hs⟩ hn
 rw[e,m_,mg [.tmp 4] [] func55]
 by_cases c:(0:Int)<=ix (BF m) xs
 .rw[sF c]
  simp only[go_sem,G,c]
 .rw[sD c]
  simp only[go_sem,G,c]
theorem al2(y:Yard)(ho:okYard y)(plan:List Int)(b2:plan.length<=1048576):fn ZL Du EZ 12 [.agg (cYard y),LI plan]=some (Bo (GU y plan)):=by
 have k1:=Lh y ho;unfold GU;rw[m_,mg [.tmp 4] [] func12];cases hg:pb (Ak y)with
 |false=>
  rw[hg]at k1;simp only[go_sem,k1,ug]
 |true=>
  rw[hg]at k1;have hG:=iw hg;have KX:=hG.1;have b3:=hG.2.1
  by_cases a1:plan=[]
  .subst a1
   have e0:((([]:List Int).length:Int)==0)=true:=rfl;simp only[go_sem,k1,e0];simp
  have b4:plan.length≠0:=fun e=>a1 (zZ e)
  have e0:((plan.length:Int)==0)=false:=by rw[sG];omega
  rw[sF a1,xC,xC];have k2:=ah8 y ho KX;have hS:=dJ y;obtain⟨wr,a8⟩:∃wr,wr=flat 7 (LL DJ (Ac y)):=⟨_,rfl⟩;simp only[go_sem,k1,e0,k2];generalize hL:dI _ _=z;obtain⟨x,rfl,hx⟩:=oZ hL plan.length (fun k st=>st.T 1=LI plan/\st.T 2= .rp 0 0/\st.T 5=LL DJ (Ac y)/\st.T 17=LI plan/\st.T 18=I plan.length/\st.T 19=I k/\0<st.nx/\st.σ 0=some ⟨cYard y,0,wr⟩/\∀i,i<k->EC y plan i=true)
   (fun x=>∃T σ nx,(x=(.exit 0,⟨T,σ,nx⟩)/\(List.range plan.length).all (EC y plan)=true)\/(x=(.ret,⟨T,σ,nx⟩)/\T 4=Bo false/\(List.range plan.length).all (EC y plan)=false)) (by
    clear hL;rintro k ⟨T,σ,nx⟩ S ⟨t1,t2,t5,t17,O,t19,G,J,Y⟩;simp only at t1 t2 t5 t17 O t19 G J;have g1:(k:Int)<(plan.length:Int):=by omega
    have g2:=jD k;have g3:=ZT (n:=(k:Int)+1);have g4:=idx (xs:=plan) (k:=k) S;have g5:=AU plan k S;have gd:plan.getD k 0=plan[k]:=by rw[zx,zy S];rfl
    obtain⟨p,ep⟩:∃p,p=plan[k]:=⟨_,rfl⟩;rw[<- ep]at g4 gd;have E:EC y plan k=(inB p 0 ((y.stances.length:Int) - 1) && (Dj (Ac y) p.toNat && (decide (k=0)||UC y (plan.getD (k-1) 0) p))):=by unfold EC;rw[gd]
    have no:EC y plan k=false->(List.range plan.length).all (EC y plan)=false:=fun h=>Ja S h
    by_cases c1:p<0
    .have hb:inB p 0 ((y.stances.length:Int) - 1)=false:=by unfold inB;rw[sD (by omega)];rfl
     rw[hb]at E;refine .inr ⟨_,by simp only[go_sem,t1,t2,t5,t17,O,t19,hS,g1,g2,g4,g5,S,c1];rfl,by simp,_,_,_,.inr ⟨rfl,by simp only[go_sem],no (by rw[E];rfl)⟩⟩
    by_cases c2:(y.stances.length:Int)<=p
    .have hb:inB p 0 ((y.stances.length:Int) - 1)=false:=by unfold inB;rw[sD (p:=p<=_) (by omega),wS]
     rw[hb]at E;refine .inr ⟨_,by simp only[go_sem,t1,t2,t5,t17,O,t19,hS,g1,g2,g4,g5,S,c1,c2];rfl,by simp,_,_,_,.inr ⟨rfl,by simp only[go_sem],no (by rw[E];rfl)⟩⟩
    have hb:inB p 0 ((y.stances.length:Int) - 1)=true:=by unfold inB;rw[sF (by omega),sF (by omega)];rfl
    rw[hb]at E;obtain⟨j,rfl⟩:∃j:Nat,p=(j:Int):=⟨p.toNat,by omega⟩;rw[zJ]at E;have hj:j<y.stances.length:=by omega
    have a6:j<(Ac y).length:=by omega
    have j1:(j:Int)<(y.stances.length:Int):=by omega
    have j2:=jD j;have j3:((Ac y).flatMap DJ)[j]?=some (Bo (Dj (Ac y) j)):=by rw[rF a6];exact cu (fun b=>Bo b) (Ac y) j a6
    have j5:=aaG (Ac y) j a6;cases hs:Dj (Ac y) j with
    |false=>
     rw[hs]at E j3;refine .inr ⟨_,by simp only[go_sem,t1,t2,t5,t17,O,t19,hS,g1,g2,g4,g5,S,c1,c2,j1,j2,j3,j5,hj];rfl,by simp,_,_,_,.inr ⟨rfl,by simp only[go_sem],no (by rw[E];rfl)⟩⟩
    |true=>
    rw[hs]at E j3
    by_cases h0:k=0
    .rw[sF h0]at E
     have i0:¬(0:Int)<(k:Int):=by omega
     refine .inl ⟨_,by simp only[go_sem,t1,t2,t5,t17,O,t19,hS,g1,g2,g3,g4,g5,S,c1,c2,j1,j2,j3,j5,hj,i0];rfl,?_⟩;simp only[go_sem,t1,t2,t5,t17,O];refine⟨rfl,G,J,fun i hi=>?_⟩
     by_cases e:i=k
     .rw[e,E];rfl
     .exact Y i (by omega)
    .have i0:(0:Int)<(k:Int):=by omega
     rw[sD h0,Bool.false_or]at E;have i1:=ZT (n:=(k:Int) - 1);have i2:(k:Int) - 1=((k-1:Nat):Int):=by omega
     have i3:=idx (xs:=plan) (k:=k-1) (by omega);have i4:((k-1:Nat):Int)<(plan.length:Int):=by omega
     have i5:(0:Int)<=((k-1:Nat):Int):=by omega
     have i6:k-1<plan.length:=by omega
     rw[i2]at i1;have a7:plan.getD (k-1) 0=plan[k-1]'(by omega):=by rw[zx,zy (by omega)];rfl
     obtain⟨q,eq⟩:∃q,q=plan[k-1]'(by omega):=⟨_,rfl⟩;rw[<- eq]at i3 a7;rw[a7]at E;have k4:fn ZL conv ext 55 [LL cMove y.moves,.agg [I q,I j]]=some (Bo (UC y q (j:Int))):=aiM y.moves ⟨q,(j:Int)⟩ (by unfold maxLen;omega)
     cases hm:UC y q (j:Int)with
     |false=>
      rw[hm]at E k4;refine .inr ⟨_,by simp only[go_sem,t1,t2,t5,t17,O,t19,J,G,hS,g1,g2,g4,g5,S,c1,c2,j1,j2,j3,j5,hj,i0,i1,i2,i3,i4,i5,i6,k4];rfl,by simp,_,_,_,.inr ⟨rfl,by simp only[go_sem],no (by rw[E];rfl)⟩⟩
     |true=>
      rw[hm]at E k4;refine .inl ⟨_,by simp only[go_sem,t1,t2,t5,t17,O,t19,J,G,hS,g1,g2,g3,g4,g5,S,c1,c2,j1,j2,j3,j5,hj,i0,i1,i2,i3,i4,i5,i6,k4];rfl,?_⟩;simp only[go_sem,t1,t2,t5,t17,O];refine⟨rfl,G,J,fun i hi=>?_⟩
      by_cases e:i=k
      .rw[e,E];rfl
      .exact Y i (by omega)) (by
    clear hL;rintro ⟨T,σ,nx⟩ ⟨t1,t2,t5,t17,O,t19,G,J,Y⟩;simp only at t1 t2 t5 t17 O t19 G J;exact⟨_,by simp only[go_sem,O,t19,zk];rfl,by simp,_,_,_,.inl ⟨rfl,JW Y⟩⟩) (by
    simp only[go_sem];exact⟨by rw[a8],fun i h=>absurd h (zX _)⟩)
  obtain⟨T,σ,nx,⟨rfl,hm⟩|⟨rfl,t4,hm⟩⟩:=hx
  .rw[hm]
   simp only[go_sem]
  .rw[hm]
   simp only[go_sem,t4]
def OQ(n:Nat)(all:List Nat):List Bool:=(List.range n).map fun i=>decide (i∈all)
theorem mF(n:Nat)(all:List Nat):(OQ n all).length=n:=by simp[OQ]
theorem apR{n:Nat}{all:List Nat}{i:Nat}(h:i<n):((OQ n all).flatMap DJ)[i]?=some (Bo (decide (i∈all))):=by
 rw[cu (fun b=>Bo b) (OQ n all) i (by rw[mF];exact h)];simp[OQ]
theorem acT(n:Nat)(all:List Nat)(c:Nat):((OQ n all).flatMap DJ).set c (Bo true)=(OQ n (all++[c])).flatMap DJ:=by
 rw[SK];congr 1;refine yS (by simp[OQ]) fun i G J=>?_
 rw[wF];simp only[OQ,xg,uZ,wP,w_]
 by_cases e:c=i
 .subst e;simp
 .rw[sJ e]
  have:¬i=c:=fun E=>e E.symm
  simp[this]
theorem acU(n:Nat):rep n [Bo false]=(OQ n []).flatMap DJ:=by
 rw[QN];congr 1;unfold OQ;refine yS (by simp) fun i E G=>by simp
theorem Px{T:Nat->V}{σ:Store}{nx t O:Nat}{l:List Int}(h:BL T σ nx t O l)(x:Int)(hl:l.length<100000) :
  ∃σ',Ag (upd σ nx (some ⟨[I x],1,true⟩)) (nx+1) 1 8 (T t) [I x] 1=some (.rs (nx+1) 0 (l.length+1),σ',nx+1+1)/\σ' (nx+1)=some ⟨(l++[x]).flatMap cI,1,true⟩/\∀q,q<nx->(∀b o l,T t= .rs b o l->b≠q)->σ' q=σ q:=by
 obtain⟨b,off,cells,J,S,h3,Y,h5,h6⟩:=h;have hm:l.length+1<=maxLen:=by unfold maxLen;omega
 have E:(cells.flatMap cI).length=cells.length:=qL cells;refine⟨upd (upd (upd σ nx (some ⟨[I x],1,true⟩)) b none) (nx+1) (some ⟨(cells.flatMap cI).drop off++[I x],1,true⟩),?_,?_,fun q hq G=>?_⟩
 .rw[J,qw,Zm,S]
  simp only[zi];rw[sJ (by decide),sJ (by rw[E];omega),sH ⟨by rw[E];omega,trivial,hm,by omega,rfl⟩]
 .rw[Zk]
  have:(cells.flatMap cI).drop off=l.flatMap cI:=by rw[jM,<- List.map_drop,<- jM,Y]
  rw[this,zT];rfl
 .rw[Zm,Zl _ _ (yu (G _ _ _ J)),Zm]
theorem al3(y:Yard)(ho:okYard y)(fr:Int)(nx:Nat):∃v c5 nI ids,ev ZL Du EZ 11 [.agg (cYard y),I fr] lI nx=some (v,c5,nI)/\nx<=nI/\Own c5 1 v (LI (Ed y fr)) ids/\∀b∈ids,nx<=b/\b<nI:=by
 have k1:=Lh y ho;have c6:endsB y fr fr=false->Ed y fr=[]:=fun h=>by unfold Ed;rw[h,ug,sJ (by simp)]
 rw[mg [.tmp 4] [] func11];cases hg:pb (Ak y)with
 |false=>
  rw[hg]at k1;rw[c6 (by unfold endsB;rw[hg];rfl)];simp only[go_sem,k1];exact⟨_,_,_,[],rfl,by omega,iO _ _,by simp⟩
 |true=>
  rw[hg]at k1;have hG:=iw hg;have KX:=hG.1
  by_cases c1:fr<0
  .rw[c6 (by unfold endsB inB;rw[sD (p:=0<=fr) (by omega)];simp)]
   simp only[go_sem,k1,c1];exact⟨_,_,_,[],rfl,by omega,iO _ _,by simp⟩
  by_cases c2:(y.stances.length:Int)<=fr
  .rw[c6 (by unfold endsB inB;rw[sD (p:=fr<=_) (by omega)];simp)]
   simp only[go_sem,k1,c1,c2];exact⟨_,_,_,[],rfl,by omega,iO _ _,by simp⟩
  obtain⟨a,rfl⟩:∃a:Nat,fr=(a:Int):=⟨fr.toNat,by omega⟩;have ha:a<y.stances.length:=by omega
  have he:endsB y a a=true:=by unfold endsB inB;rw[hg,sF (by omega),sF (by omega)];rfl
  have k2:=ah8 y ho KX;have hS:=dJ y;have f1:(a:Int)<(y.stances.length:Int):=by omega
  have f2:=jD a;have b5:a<(Ac y).length:=by omega
  have f3:((Ac y).flatMap DJ)[a]?=some (Bo (Dj (Ac y) a)):=by rw[rF b5];exact cu (fun b=>Bo b) (Ac y) a b5
  have f5:=aaG (Ac y) a b5;unfold Ed;rw[he,xC,zJ];cases hs:Dj (Ac y) a with
  |false=>
   rw[hs]at f3;rw[sJ (by simp)];simp only[go_sem,k1,c1,c2,k2,hS,f1,f2,f3,f5,ha];exact⟨_,_,_,[],rfl,by omega,iO _ _,by simp⟩
  |true=>
  rw[hs]at f3;rw[sH rfl];obtain⟨S,eS⟩:∃S,S=Ac y:=⟨_,rfl⟩;obtain⟨wr,h5⟩:∃wr,wr=flat 7 (LL DJ (Ac y)):=⟨_,rfl⟩;have m1:(0:Int)<=(y.stances.length:Int):=by omega
  have m2:1*(y.stances.length:Int)<=281474976710656:=by omega
  have m3:(y.stances.length:Int)<=9223372036854775807:=by omega
  have e0:(rep y.stances.length [Bo false]).set a (Bo true)=(OQ y.stances.length [a]).flatMap DJ:=by rw[acU,acT];rfl
  have e1:(rep y.stances.length [Bo false]).length=y.stances.length:=by rw[acU,Iw,mF,yQ]
  rw[<- eS]at hS b5 f3 f5 k2 hs h5⊢;have z1:nx+1<nx+1+1:=by omega
  have z2:¬nx=nx+1:=by omega
  have z3:¬nx+1=nx:=by omega
  have b6:∀i,Dj S i=true->i<y.stances.length:=fun i hi=>by have:=rE hi;omega
  simp only[go_sem,k1,c1,c2,k2,hS,f1,f2,f3,f5,ha,m1,m2,m3,e0,e1,z1,z2,z3];generalize hL:dI _ _=w
  obtain⟨x,rfl,T,σ,nx',rfl,G,t6,all,J,c4⟩:=jQ hL (fun m st=>st.T 2= .rp nx 0/\st.T 5=LL DJ S/\st.T 6= .rs (nx+1) 0 y.stances.length/\nx+1<st.nx/\(∃wr,st.σ nx=some ⟨cYard y,0,wr⟩)/\∃all p,Fwd (Dw y) (Dj S) a all p/\p<=all.length/\m+p=y.stances.length/\st.σ (nx+1)=some ⟨(OQ y.stances.length all).flatMap DJ,1,true⟩ /\
    ((p=all.length/\st.T 7= .ts [] 0)\/(p<all.length/\BL st.T st.σ st.nx 7 (nx+1) (Af (all.drop p))/\∀b o l,st.T 7= .rs b o l->b≠nx)))
   (fun x=>∃T σ nx',x=(.exit 0,⟨T,σ,nx'⟩)/\nx+1<nx'/\T 6= .rs (nx+1) 0 y.stances.length/\∃all,σ (nx+1)=some ⟨(OQ y.stances.length all).flatMap DJ,1,true⟩/\∀i,i∈all↔0<=dst (Dw y) (Dj S) i a) (by
    clear hL;rintro m ⟨T,σ,BX⟩ ⟨t2,t5,t6,G,⟨j3,Y⟩,all,p,hB,hp,hm,J,hq⟩;simp only at t2 t5 t6 G Y J hq;rcases hq with ⟨rfl,t7⟩|⟨hp,hq,a7⟩
    .exact .inr ⟨_,by simp only[go_sem,t7];rfl,by simp,_,_,_,rfl,G,by simp only[go_sem,t6],all,J,fun i=>hB.fin (zq _) i⟩
    .have h6:=hB.bound b6
     obtain⟨h,eh⟩:∃h,h=all[p]:=⟨_,rfl⟩;have b2:=hq;rw[Zz all hp,<- eh]at b2;obtain⟨b,off,cells,q1,q2,q3,q4,q5,q6⟩:=b2;have q7:=gK q4;have p1:((h:Int) :: Af (all.drop (p+1))).length=all.length-p:=by rw[zH,Zy,zO];omega
     rw[p1]at q1;have p2:(0:Int)<((all.length-p:Nat):Int):=by omega
     have p3:0<all.length-p:=by omega
     have p4:(0:Int)<=0:=by omega
     have p5:(0:Int).toNat=0:=rfl;have k4:=ah9 y hG (h:Int);rw[QO]at k4;have b7:=JO Y (LI (Af (nexts y h)));obtain⟨Qq,e3⟩:∃Qq,Qq=behind σ [nx] (LI (Af (nexts y h))):=⟨_,rfl⟩;rw[<- e3]at b7;have h7:∃wr,Qq nx=some ⟨cYard y,0,wr⟩:=⟨_,by rw[b7,Zk]⟩;have h8:Qq (nx+1)=some ⟨(OQ y.stances.length all).flatMap DJ,1,true⟩:=by rw[b7,Zm];exact J
     have h9:BL T Qq BX 7 (nx+1) (Af (all.drop p)):=by
      obtain⟨b',off',E,a1,a2,a3,a4,a5,a6⟩:=hq;exact⟨b',off',E,a1,by rw[b7,Zl _ _ (a7 _ _ _ a1)];exact a2,a3,a4,a5,a6⟩
     refine bC ?_
     conv=>
      enter [1,r,1,1]
      simp only[go_sem,t2,t5,t6,Y,q1,q2,q7,p2,p3,p4,p5,k4,Zy,<- e3]
     generalize hL:dI _ _=w
     obtain⟨r,rfl,T1,σ',Au,rfl,t2,t5,t6,G,Wj,O,e4,e5,e6,e7,i0,i1,c7⟩:=oZ hL (nexts y h).length (fun j st=>st.T 2= .rp nx 0/\st.T 5=LL DJ S/\st.T 6= .rs (nx+1) 0 y.stances.length/\st.T 46=LI (Af (nexts y h))/\st.T 47=I (nexts y h).length/\st.T 48=I j/\nx+1<st.nx/\(∃wr,st.σ nx=some ⟨cYard y,0,wr⟩) /\
       ∃all,Fwd (Dw y) (Dj S) a all p/\∃hp:p<all.length,h=all[p]/\st.σ (nx+1)=some ⟨(OQ y.stances.length all).flatMap DJ,1,true⟩/\BL st.T st.σ st.nx 7 (nx+1) (Af (all.drop p))/\(∀b o l,st.T 7= .rs b o l->b≠nx)/\∀i (hi:i<(nexts y h).length),i<j->Dj S (nexts y h)[i]=true->(nexts y h)[i]∈all)
      (fun r=>∃T σ Au,r=(.exit 2,⟨T,σ,Au⟩)/\T 2= .rp nx 0/\T 5=LL DJ S/\T 6= .rs (nx+1) 0 y.stances.length/\nx+1<Au/\(∃wr,σ nx=some ⟨cYard y,0,wr⟩) /\
       ∃all,Fwd (Dw y) (Dj S) a all p/\∃hp:p<all.length,h=all[p]/\σ (nx+1)=some ⟨(OQ y.stances.length all).flatMap DJ,1,true⟩/\BL T σ Au 7 (nx+1) (Af (all.drop p))/\(∀b o l,T 7= .rs b o l->b≠nx)/\∀i (hi:i<(nexts y h).length),Dj S (nexts y h)[i]=true->(nexts y h)[i]∈all) (by
       clear hL;rintro j ⟨T,σ,BX⟩ hj ⟨t2,t5,t6,t46,t47,t48,G,⟨b4,Y⟩,all,hB,hp,eh,J,hq,a7,hd⟩;simp only at t2 t5 t6 t46 t47 t48 G Y J hq a7;have h6:=hB.bound b6;have j4:=XP y h;have g1:(j:Int)<((nexts y h).length:Int):=by omega
       have g2:=jD j;have g3:=ZT (n:=(j:Int)+1);have g4:=QS (nexts y h) hj;have g5:=Zy (nexts y h);have g6:(Af (nexts y h)).flatMap cI≠[]:=fun e=>by
        have h2:=qL (Af (nexts y h));rw[e,g5]at h2;have h2:0=(nexts y h).length:=h2;omega
       have hc:=XO hj;have b8:Dw y h (nexts y h)[j]=true:=by
        have:=zu hj;exact(List.mem_filter.mp this).2
       obtain⟨c,ec⟩:∃c,c=(nexts y h)[j]:=⟨_,rfl⟩;rw[<- ec]at g4 hc b8;have ic:(c:Int)<(y.stances.length:Int):=by omega
       have c8:=jD c;have c9:c<S.length:=by omega
       have v3:(S.flatMap DJ)[c]?=some (Bo (Dj S c)):=by rw[rF c9];exact cu (fun b=>Bo b) S c c9
       have v5:=aaG S c c9;have fl:=apR (n:=y.stances.length) (all:=all) hc;have i2:((OQ y.stances.length all).flatMap DJ).length=y.stances.length:=by rw[Iw,mF,yQ]
       have next:∀a8:List Nat,(∀i,i∈all->i∈a8)->(Dj S c=true->c∈a8)->∀i (hi:i<(nexts y h).length),i<j+1->Dj S (nexts y h)[i]=true->(nexts y h)[i]∈a8:=fun a8 h1 h2 i hi j5 hl=>by
        by_cases e:i=j
        .subst e
         rw[<- ec]at hl⊢;exact h2 hl
        .exact h1 _ (hd i hi (by omega) hl)
       cases b9:Dj S c with
       |false=>
        rw[b9]at v3;refine .inl ⟨_,by simp only[go_sem,t2,t5,t6,t46,t47,t48,g1,g2,g3,g4,g5,g6,hj,ic,c8,hS,hc,v3,v5];rfl,?_⟩;simp only[go_sem,t2,t5,t6,t46,t47];exact⟨rfl,G,⟨b4,Y⟩,all,hB,hp,eh,J,gQ hq (by simp only[go_sem]) (zq _),a7,next all (fun _ h=>h) (fun h=>by rw[b9]at h;cases h)⟩
       |true=>
        rw[b9]at v3
        by_cases hm:c∈all
        .rw[sF hm]at fl
         refine .inl ⟨_,by simp only[go_sem,t2,t5,t6,t46,t47,t48,g1,g2,g3,g4,g5,g6,hj,ic,c8,hS,hc,v3,v5,J,fl];rfl,?_⟩;simp only[go_sem,t2,t5,t6,t46,t47];exact⟨rfl,G,⟨b4,Y⟩,all,hB,hp,eh,J,gQ hq (by simp only[go_sem]) (zq _),a7,next all (fun _ h=>h) (fun _=>hm)⟩
        .rw[sD hm]at fl
         have c0:=hB.add hp hm b9 (by rw[<- eh];exact b8);have st:=acT y.stances.length all c;obtain⟨σ2,Ep⟩:∃σ2,σ2=upd σ (nx+1) (some ⟨(OQ y.stances.length (all++[c])).flatMap DJ,1,true⟩):=⟨_,rfl⟩;have c3:BL T σ2 BX 7 (nx+1) (Af (all.drop p)):=by rw[Ep];exact QL hq _
         have b3:σ2 nx=some ⟨cYard y,0,b4⟩:=by rw[Ep,Zm];exact Y
         have b2:=hq;rw[Zz all hp,<- eh]at b2;obtain⟨b,off,cells,q1,q2,q3,q4,q5,q6⟩:=b2;have p1:((h:Int) :: Af (all.drop (p+1))).length=all.length-p:=by rw[zH,Zy,zO];omega
         rw[p1]at q1;obtain⟨e8,e2,i3,hf⟩:=Px c3 (c:Int) (by rw[Zy,zO];omega);rw[Zy,zO]at e2;have i4:e8 (nx+1)=σ2 (nx+1):=hf _ (by omega) (fun b' o l e=>by rw[q1]at e;cases e;exact q6);have i5:e8 nx=some ⟨cYard y,0,b4⟩:=by rw[hf _ (by omega) a7];exact b3
         rw[q1]at e2;refine .inl ⟨_,by simp only[go_sem,t2,t5,t6,t46,t47,t48,g1,g2,g3,g4,g5,g6,hj,ic,c8,hS,hc,v3,v5,J,fl,i2,G,st,<- Ep,q1,e2];rfl,?_⟩;simp only[go_sem,t2,t5,t6,t46,t47];have i6:p<(all++[c]).length:=by rw[zo];omega
         refine⟨rfl,by omega,⟨b4,i5⟩,all++[c],c0,i6,by rw[xY hp];exact eh,?_,?_,fun b o l hb=>by(cases hb;omega),next (all++[c]) (fun i h=>zD _ h) (fun _=>by simp)⟩
         .rw[i4,Ep,Zk]
         .have ed:Af ((all++[c]).drop p)=Af (all.drop p)++[(c:Int)]:=by
           rw[vO (by omega)];simp[Af]
          rw[ed];refine gJ (b:=BX+1) ?_ i3 (by omega) (by omega);rw[zo,Zy,zO];simp only[go_sem]) (by
       clear hL;rintro ⟨T,σ,BX⟩ ⟨t2,t5,t6,t46,t47,t48,G,Y,all,hB,hp,eh,J,hq,a7,hd⟩;simp only at t2 t5 t6 t46 t47 t48 G Y J hq a7;exact⟨_,by simp only[go_sem,t47,t48,zk];rfl,by simp,_,_,_,rfl,by simp only[go_sem,t2],by simp only[go_sem,t5],by simp only[go_sem,t6],G,Y,all,hB,hp,eh,J,gQ hq (by simp only[go_sem]) (zq _),by simpa only[go_sem]using a7,fun i hi=>hd i hi hi⟩) (by
       simp only[go_sem,t2,t5,t6];exact⟨G,h7,all,hB,hp,eh,h8,gQ h9 (by simp only[go_sem]) (zq _),a7,fun i hi h0=>absurd h0 (zX _)⟩)
     have c0:=e4.next e5 fun i hi b8=>by
      have i7:i∈nexts y h:=by
       unfold nexts;rw[List.mem_filter,List.mem_range];exact⟨b6 i hi,by rw[e6];exact b8⟩
      obtain⟨j,hj,ej⟩:=yZ i7;rw[<- ej]at hi⊢;exact c7 j hj hi
     have j6:=e4.bound b6;have c3:=i0;rw[Zz O e5,<- e6]at c3;obtain⟨b',off',E,r1,r2,r3,r4,r5,r6⟩:=c3;have i9:((h:Int) :: Af (O.drop (p+1))).length=O.length-p:=by rw[zH,Zy,zO];omega
     rw[i9]at r1 r3;have j0:=i1 _ _ _ r1;have r7:((E.flatMap cI)).length=E.length:=qL _;have r8:off'+(O.length-p)<=E.length:=by omega
     have r9:1<=O.length-p:=by omega
     have e9:¬(1:Nat)=0:=by decide
     have h3:(0:Int)<=1:=by decide
     have h4:(1:Int).toNat=1:=rfl
     by_cases hl:O.length-p=1
     .rw[hl]at r1 r8
      refine⟨_,by simp only[go_sem,r1,r2,r7,r8,e9,h3,h4,zq];rfl,.inl ⟨_,rfl,m-1,by omega,?_⟩⟩;simp only[go_sem,t2,t5,t6];exact⟨G,Wj,O,p+1,c0,by omega,by omega,e7,.inl (by omega)⟩
     .have j1:¬1=O.length-p:=fun e=>hl e.symm
      refine⟨_,by simp only[go_sem,r1,r2,r7,r8,r9,e9,h3,h4,j1];rfl,.inl ⟨_,rfl,m-1,by omega,?_⟩⟩;simp only[go_sem,t2,t5,t6];refine⟨G,Wj,O,p+1,c0,by omega,by omega,e7,.inr ⟨by omega,⟨b',off'+1,E,?_,r2,?_,Ot r4,r5,r6⟩,fun b o l hb=>by(cases hb;exact j0)⟩⟩
      .simp only[go_sem]
       rw[Zy,zO];congr 1
      .rw[Zy,zO];omega) y.stances.length (by
    simp only[go_sem];refine⟨by omega,⟨_,by rw[Zm,Zm,Zk]⟩,[a],0,aeM hs,by simp,by omega,?_,.inr ⟨by simp,?_,fun b o l hb=>by(cases hb;omega)⟩⟩
    .rw[Zm,Zk]
    .refine gJ (b:=nx+1+1) (by simp only[go_sem];rfl) ?_ (by omega) (by omega)
     simp only[go_sem];rfl)
  clear hL;obtain⟨v,c5,nI,ids,k3,hn,o1,hi⟩:=ab1 (OQ y.stances.length all) (by rw[mF];omega) nx';have g1:=fun d=>o1.gather (d':=d+1) (by omega)
  rw[mF]at o1;have e:EY (fun i=>(OQ y.stances.length all)[i]?==some true) y.stances.length=EY (fun i=>decide (0<=dst (Dw y) (Dj S) i a)) y.stances.length:=Qg fun i hi=>by
   simp only[OQ,zF,xM hi,zG]
   by_cases h:i∈all
   .rw[sF h,sF ((c4 i).mp h)];rfl
   .rw[sD h,sD (fun h'=>h ((c4 i).mpr h'))];rfl
  rw[e]at o1;have j2:=fun d=>XM J (mF y.stances.length all) d
  simp only[go_sem,t6,j2,k3,g1];exact⟨v,_,nI,ids,rfl,by omega,o1.join fun b hb=>(hi b hb).1,fun b hb=>by have:=hi b hb;omega⟩
open Go.Lp
theorem apS{nm E:Nat}(r D G:Nat->Rat)(v:Rat)(O:E<nm)(h:∀k,k<nm->G k=if E=k then D k+v else D k):sm (fun k=>r k*G k) nm=sm (fun k=>r k*D k) nm+r E*v:=by
 have e:sm (fun k=>r k*G k) nm=sm (fun k=>r k*D k+(if E=k then r k*v else 0)) nm:=bU fun k J=>by
  rw[h k J]
  by_cases c:E=k
  .rw[sH c,sH c];grind
  .rw[sJ c,sJ c];grind
 rw[e,bY];congr 1;rw[bP O fun j _ S=>sJ (fun e=>S e.symm),sH rfl]
section
variable {K:List (Int×Int)} {X:List Rat} {nm:Nat}
theorem acV{c:Nat}(E:(K.getD c (0,0)).1.toNat<nm)(k:Nat):(Fj K X nm (c+1)).getD k 0=if(K.getD c (0,0)).1.toNat=k then(Fj K X nm c).getD k 0+OO (K.getD c (0,0)).2 (X.getD c 0)else(Fj K X nm c).getD k 0:=by
 rw[Fj,kY _ _ _ _ _ (by rw[oD];exact E)]
 by_cases e:(K.getD c (0,0)).1.toNat=k
 .rw[sH e,sH e,e]
 .rw[sJ e,sJ e]
theorem aiN(E:∀c,c<K.length->(K.getD c (0,0)).1.toNat<nm)(r:Nat->Rat):∀C,C<=K.length->sm (fun c=>r (K.getD c (0,0)).1.toNat *OO (K.getD c (0,0)).2 (X.getD c 0)) C=sm (fun k=>r k*(Fj K X nm C).getD k 0) nm
 |0,_=>by
  rw[bK (n:=nm) fun k G=>by
   rw[Fj,zx,wZ,sH G];show r k*0=0;grind]
  rfl
 |C+1,hC=>by
  have J:=aiN E r C (by omega);rw[apS r (fun k=>(Fj K X nm C).getD k 0) _ _ (E C (by omega)) fun k _=>acV (E C (by omega)) k];rw[<- J];rfl
theorem amL{M:Nat}{Δ:Rat}(E:∀c,c<K.length->(K.getD c (0,0)).1.toNat<nm)(G:∀c,c<K.length->ZB M (X.getD c 0*Δ)):∀C,C<=K.length->∀k,k<nm->ZB (Uu K k C*M) ((Fj K X nm C).getD k 0*Δ)
 |0,_,k,hkn=>⟨0,by
   rw[Fj,zx,wZ,sH hkn];show(0:Rat)*Δ=_;grind,by simp⟩
 |C+1,hC,k,hkn=>by
  have J:=amL E G C (by omega) k hkn;have S:K.getD C (0,0)=K[C]'(by omega):=by rw[zx,zy (by omega)];rfl
  rw[acV (E C (by omega)) k,JV (show C<K.length by omega) k];have O:=G C (by omega);have hs:ZB M (OO (K.getD C (0,0)).2 (X.getD C 0)*Δ):=by
   unfold OO
   split
   .have:-(X.getD C 0)*Δ= -(X.getD C 0*Δ):=by grind
    rw[this];exact O.neg
   .exact O
  rw[S]at hs⊢
  by_cases e:(K[C]'(by omega)).1.toNat=k
  .rw[sH e,sH e,uz,Nat.one_mul]
   have:((Fj K X nm C).getD k 0+OO (K[C]'(by omega)).2 (X.getD C 0))*Δ=(Fj K X nm C).getD k 0*Δ+OO (K[C]'(by omega)).2 (X.getD C 0)*Δ:=by grind
   rw[this];exact J.add hs
  .rw[sJ e,sJ e]
   exact J
end
theorem al4{s:Int}(h:s=1\/s= -1)(x:Rat):OO s x=(s:Rat)*x:=by
 rcases h with rfl|rfl
 .show x=((1:Int):Rat)*x
  grind
 .show -x=((-1:Int):Rat)*x
  grind
theorem UD(s:Structure):∀c,c<(cols s s.members.length).length->((cols s s.members.length).getD c (0,0)).1.toNat<s.members.length:=fun c h=>by
 rw[zx,zy h];exact Uy s c h
theorem Ye{s:Structure}{l:List Int}{x:Nat->Rat}(hx:(EH s l).F x){i:Nat}(hi:i<JK s) :
  sm (fun k=>(((BO s (free s).length).getD i []).getD k 0:Rat)*(FQ s x).getD k 0) s.members.length=((GI s l).getD i 0:Int):=by
 have hF:=hx.1 i hi;obtain⟨R,eR⟩:∃R,R=(BO s (free s).length).getD i []:=⟨_,rfl⟩;have S:=ny s;have J:i<(BO s (free s).length).length:=by rw[S];exact hi
 have a6:(cols s s.members.length).length=Cc s:=rfl;have hA:∀c,c<Cc s->(OM s).getD (i*Cc s+c) 0=((cols s s.members.length).getD c (0,0)).2*R.getD ((cols s s.members.length).getD c (0,0)).1.toNat 0:=fun c hc=>by
  unfold OM;rw[zx,mG (fun r:List Int=>(cols s s.members.length).map fun p=>p.2*r.getD p.1.toNat 0) (C:=Cc s) (fun _=>by rw[zS];rfl) _ J hc,zF,zy (by omega),eR];rw[zx (l:=BO s _),zy J,zx (l:=cols s _),zy (show c<(cols s s.members.length).length by omega)];rfl
 have G:=aiN (K:=cols s s.members.length) (X:=(List.range (Cc s)).map x) (nm:=s.members.length) (UD s) (fun k=>((R.getD k 0:Int):Rat)) (Cc s) (zq _);have hD:Fj (cols s s.members.length) ((List.range (Cc s)).map x) s.members.length (Cc s)=FQ s x:=rfl;rw[hD]at G;rw[<- eR,<- G];have E:sm (fun j=>(((sg (GI s l) i*(OM s).getD (i*Cc s+j) 0:Int)):Rat)*x j) (Cc s)=((sg (GI s l) i*(GI s l).getD i 0:Int):Rat):=hF;have Y:sg (GI s l) i=1\/sg (GI s l) i= -1:=by unfold sg;split<;>simp
 have e2:sm (fun j=>(((sg (GI s l) i*(OM s).getD (i*Cc s+j) 0:Int)):Rat)*x j) (Cc s)=(sg (GI s l) i:Rat)*sm (fun c=>((R.getD ((cols s s.members.length).getD c (0,0)).1.toNat 0:Int):Rat)*OO ((cols s s.members.length).getD c (0,0)).2 (((List.range (Cc s)).map x).getD c 0)) (Cc s):=by
  rw[<- bT];refine bU fun c hc=>?_
  have O:c<(cols s s.members.length).length:=by omega
  have a1:=(ou (zu O)).2;have e3:(cols s s.members.length).getD c (0,0)=(cols s s.members.length)[c]:=by rw[zx,zy O];rfl
  have e4:((List.range (Cc s)).map x).getD c 0=x c:=by rw[zx,zF,xM hc];rfl
  rw[hA c hc,e4,e3,al4 a1]
  push_cast
  grind
 rw[e2]at E;rcases Y with h1|h1
 .rw[h1]at E
  push_cast at E
  grind
 .rw[h1]at E
  push_cast at E
  grind
theorem JX{α β:Type}(f g:β->α)(d:α):∀(E:List β) {t:Nat} (G:t<E.length),(E.flatMap fun j=>[f j,g j]).getD (2*t) d=f E[t]/\(E.flatMap fun j=>[f j,g j]).getD (2*t+1) d=g E[t]
 |j :: E,0,_=>⟨rfl,rfl⟩
 |j :: E,t+1,G=>by
  have J:=JX f g d E (t:=t) (by simpa using G);exact J
theorem fZ(f:Nat->Int){n k:Nat}(h:k<n):((List.range n).map f).getD k 0=f k:=by
 rw[zx,zF,xM h];rfl
theorem aby{s:Structure}{l:List Int}{x:Nat->Rat}(O:(EH s l).F x){t:Nat}(S:t<(free s).length) :
  sm (fun k=>((eX s (free s)[t] k:Int):Rat)*(FQ s x).getD k 0) s.members.length=((-l.getD (2*(free s)[t].toNat) 0:Int):Rat) /\
  sm (fun k=>((eY s (free s)[t] k:Int):Rat)*(FQ s x).getD k 0) s.members.length=((-l.getD (2*(free s)[t].toNat+1) 0:Int):Rat):=by
 have Y:=JX (fun j=>(List.range s.members.length).map (eX s j)) (fun j=>(List.range s.members.length).map (eY s j)) [] (free s) S;have h2:=JX (fun j:Int=> -l.getD (2*j.toNat) 0) (fun j=> -l.getD (2*j.toNat+1) 0) 0 (free s) S;have e1:BO s (free s).length=(free s).flatMap fun j=>[(List.range s.members.length).map (eX s j),(List.range s.members.length).map (eY s j)]:=by unfold BO;rw[yg];rfl
 have E:=Ye O (i:=2*t) (by unfold JK;omega);have G:=Ye O (i:=2*t+1) (by unfold JK;omega);unfold GI at E G;rw[e1,Y.1,h2.1]at E;rw[e1,Y.2,h2.2]at G;constructor
 .rw[<- E]
  exact bU fun k J=>by rw[fZ _ J]
 .rw[<- G]
  exact bU fun k J=>by rw[fZ _ J]
structure Cd (s:Structure) (q:List Rat) (Δ:Rat):Prop where
 d:ZB BM Δ
 nz:Δ≠0
 q:∀k,k<s.members.length->ZB (2*BM) (q.getD k 0*Δ)
theorem al5{m:Nat}(h:m<=12):fact 1000 m<=BM:=by
 have:=Q5 (K:=0) (m:=m) (by decide) h;omega
theorem al6{s:Structure}(h:SG s){l:List Int}(hb:∀x∈l,-100<=x/\x<=100){T:Tab}(E:(EH s l).Good T):∃Δ,Cd s (FQ s (Bj (EH s l).m T)) Δ:=by
 have hp:=avM h hb;have hw:Whole (EH s l) 1000:=gY hp;have hm:(EH s l).m<=12:=hp.hm;have J:=al5 hm;have O:ZB BM (Lp.Ci (EH s l).m fun q=>(EH s l).A (T.B q)):=(E.ed.EM E.ok.bn hw.A).mono J;have S:∀i,i<(EH s l).m->ZB BM (T.b i*Lp.Ci (EH s l).m fun q=>(EH s l).A (T.B q)):=fun i hi=>(E.ed.FC E.ok.bn hw.A hw.w hi).mono J
 refine⟨_,O,E.ed.ind,fun k Y=>?_⟩;have hX:∀c,c<(cols s s.members.length).length->ZB BM (((List.range (Cc s)).map (Bj (EH s l).m T)).getD c 0*Lp.Ci (EH s l).m fun q=>(EH s l).A (T.B q)):=fun c hc=>by
  have e4:((List.range (Cc s)).map (Bj (EH s l).m T)).getD c 0=Bj (EH s l).m T c:=by rw[zx,zF,xM (show c<Cc s from hc)];rfl
  rw[e4]
  by_cases G:basic (EH s l).m T c
  .obtain⟨i,hi,e⟩:=G
   rw[<- e,ql E.ok hi];exact S i hi
  .rw[qj G]
   exact⟨0,by grind,by simp⟩
 have h1:=amL (K:=cols s s.members.length) (nm:=s.members.length) (UD s) hX (Cc s) (zq _) k Y;refine h1.mono ?_;have h2:=zU (LV (cols s s.members.length) k (Cc s)) (Ux s k);exact zL _ h2
theorem ZB.cast{z:Int}{M:Nat}(h:z.natAbs<=M):ZB M (z:Rat):=⟨z,rfl,h⟩
theorem acW{Δ q:Rat}{M:Nat}(G:ZB BM Δ)(J:Δ≠0)(h:ZB M (q*Δ))(O:BM<=M)(E:M<=1000000000*BM):Ln 7 q:=by
 have:=bJ (G.mono O) J h;have hb:ln (1000000000*BM)<=7:=jZ.mpr (by decide+kernel);exact⟨zU (jY (zU this.1 E)) hb,zU (jY (zU this.2 E)) hb⟩
def sX(s:Structure)(q:List Rat)(j:Int)(n:Nat):Rat:=sm (fun k=>((eX s j k:Int):Rat)*q.getD k 0) n
def sY(s:Structure)(q:List Rat)(j:Int)(n:Nat):Rat:=sm (fun k=>((eY s j k:Int):Rat)*q.getD k 0) n
theorem UE(s:Structure)(q:List Rat)(j:Int)(n:Nat):sX s q j (n+1)=sX s q j n+q.getD n 0*((eX s j n:Int):Rat):=by
 unfold sX;show sm _ n+_=_;grind
theorem UF(s:Structure)(q:List Rat)(j:Int)(n:Nat):sY s q j (n+1)=sY s q j n+q.getD n 0*((eY s j n:Int):Rat):=by
 unfold sY;show sm _ n+_=_;grind
section
variable {s:Structure} {q:List Rat} {Δ:Rat}
theorem Cd.term(hc:Cd s q Δ){k:Nat}(E:k<s.members.length){z:Int}(G:z.natAbs<=100):ZB (200*BM) (((z:Int):Rat)*q.getD k 0*Δ):=by
 have:((z:Int):Rat)*q.getD k 0*Δ=((z:Int):Rat)*(q.getD k 0*Δ):=by grind
 rw[this];exact((ZB.cast G).mul (hc.q k E)).mono (by omega)
theorem Cd.sum(hc:Cd s q Δ){e:Nat->Int}(E:∀k,(e k).natAbs<=100):∀n,n<=s.members.length->ZB (n*(200*BM)) (sm (fun k=>((e k:Int):Rat)*q.getD k 0) n*Δ)
 |0,_=>⟨0,by show(0:Rat)*Δ=_;grind,by simp⟩
 |n+1,hn=>by
  have G:=hc.sum E n (by omega);have J:=hc.term (k:=n) (by omega) (E n);have:sm (fun k=>((e k:Int):Rat)*q.getD k 0) (n+1)*Δ=sm (fun k=>((e k:Int):Rat)*q.getD k 0) n*Δ+((e n:Int):Rat)*q.getD n 0*Δ:=by
   show(sm _ n+_)*Δ=_;grind
  rw[this];exact(G.add J).mono (by generalize 200*BM=B;rw[xk];omega)
theorem amM{s:Structure}(h:SG s)(j:Int)(k:Nat):(eX s j k).natAbs<=100/\(eY s j k).natAbs<=100:=by
 have:=ayT h j k;omega
theorem Cd.LnX(hc:Cd s q Δ)(h:SG s)(j:Int){n:Nat}(hn:n<=s.members.length):Ln 7 (sX s q j n):=by
 have E:=h.nm;have G:=hc.sum (e:=eX s j) (fun k=>(amM h j k).1) n hn;have J:0<BM:=by decide+kernel
 refine acW (M:=n*(200*BM)+BM) hc.d hc.nz (G.mono (by omega)) (by omega) ?_;have:n*(200*BM)<=8*(200*BM):=zL _ (by omega);omega
theorem Cd.LnY(hc:Cd s q Δ)(h:SG s)(j:Int){n:Nat}(hn:n<=s.members.length):Ln 7 (sY s q j n):=by
 have E:=h.nm;have G:=hc.sum (e:=eY s j) (fun k=>(amM h j k).2) n hn;have J:0<BM:=by decide+kernel
 refine acW (M:=n*(200*BM)+BM) hc.d hc.nz (G.mono (by omega)) (by omega) ?_;have:n*(200*BM)<=8*(200*BM):=zL _ (by omega);omega
theorem Cd.LnT(hc:Cd s q Δ){k:Nat}(E:k<s.members.length){z:Int}(G:z.natAbs<=100):Ln 7 (q.getD k 0*((z:Int):Rat)):=by
 have J:0<BM:=by decide+kernel
 have e:q.getD k 0*((z:Int):Rat)=((z:Int):Rat)*q.getD k 0:=by grind
 rw[e];exact acW (M:=200*BM) hc.d hc.nz (hc.term E G) (by omega) (by omega)
theorem Cd.LnQ(hc:Cd s q Δ){k:Nat}(E:k<s.members.length):Ln 7 (q.getD k 0):=by
 have G:0<BM:=by decide+kernel
 exact acW (M:=2*BM) hc.d hc.nz (hc.q k E) (by omega) (by omega)
end
theorem avZ{s:Structure}(h:SG s){q:List Rat}{Δ:Rat}(hl:q.length=s.members.length)(hc:Cd s q Δ)(j:Int) :
  fn ZL pI Ad 109 [.tp (cStructure s) 0,LL cF q,I j]=some (.AB [.tp (cQ (sX s q j s.members.length)) 0,.tp (cQ (sY s q j s.members.length)) 0]):=by
 have b7:=h.nm;have k0:=jr 0 (by decide) (by decide);have k0:fn ZL conv ext 112 [I 0]=some (.tp (cQ 0) 0):=k0
 rw[m_,mg [.tmp 6,.tmp 7] [] func109];simp only[go_sem,k0];generalize hL:dI _ _=y;obtain⟨x,rfl,T,σ,nx,rfl,t8,t9⟩:=oZ hL s.members.length (fun k st=>st.T 0= .tp (cStructure s) 0/\st.T 1=LL cF q/\st.T 2=I j/\st.T 8= .tp (cQ (sX s q j k)) 0/\st.T 9= .tp (cQ (sY s q j k)) 0/\st.T 19=LL cMember s.members/\st.T 20=I s.members.length/\st.T 21=I k)
  (fun x=>∃T σ nx,x=(.exit 0,⟨T,σ,nx⟩)/\T 8= .tp (cQ (sX s q j s.members.length)) 0/\T 9= .tp (cQ (sY s q j s.members.length)) 0) (by
   clear hL;rintro k ⟨T,σ,nx⟩ Y ⟨t0,t1,t2,t8,t9,t19,t20,t21⟩;simp only at t0 t1 t2 t8 t9 t19 t20 t21;have g1:(k:Int)<(s.members.length:Int):=by omega
   have g2:=jD k;have g3:=ZT (n:=(k:Int)+1);have g4:=Ik s.members k Y;rw[jJ Y]at g4;have g5:=E_ s.members;have g6:k*3+3<=s.members.length*3:=by omega
   have g9:=Il s.members k Y;have k1:=TS h Y;have hv:=Zf h k;have a8:=qO q (k:=k) (by omega);have a9:(q.flatMap cF).length=q.length:=qN q;have a6:(k:Int)<(q.length:Int):=by omega
   have JY:q.flatMap cF≠[]:=fun e=>by rw[e]at a9;have:q.length=0:=a9.symm;omega
   have a7:k<q.length:=by omega
   have b2:q.getD k 0=q[k]'(by omega):=by rw[zx,zy (by omega)];rfl
   have hX:=hc.LnX h j (n:=k) (by omega);have hY:=hc.LnY h j (n:=k) (by omega);have G:=hc.LnX h j (n:=k+1) (by omega);have J:=hc.LnY h j (n:=k+1) (by omega);have hQ:=hc.LnQ Y;rw[UE]at G;rw[UF]at J;have sx:=UE s q j k;have sy:=UF s q j k
   have key:∀u v:Int,u.natAbs<=100->v.natAbs<=100->u=eX s j k->v=eY s j k ->
     fn ZL conv ext 112 [I u]=some (.tp (cQ ((u:Int):Rat)) 0)/\fn ZL conv ext 112 [I v]=some (.tp (cQ ((v:Int):Rat)) 0) /\
     fn ZL pI Ad 169 [.tp (cQ (q[k]'(by omega))) 0,.tp (cQ ((u:Int):Rat)) 0]=some (.tp (cQ (q[k]'(by omega)*((u:Int):Rat))) 0)/\fn ZL pI Ad 169 [.tp (cQ (q[k]'(by omega))) 0,.tp (cQ ((v:Int):Rat)) 0]=some (.tp (cQ (q[k]'(by omega)*((v:Int):Rat))) 0) /\
     fn ZL pI Ad 111 [.tp (cQ (sX s q j k)) 0,.tp (cQ (q[k]'(by omega)*((u:Int):Rat))) 0]=some (.tp (cQ (sX s q j (k+1))) 0)/\fn ZL pI Ad 111 [.tp (cQ (sY s q j k)) 0,.tp (cQ (q[k]'(by omega)*((v:Int):Rat))) 0]=some (.tp (cQ (sY s q j (k+1))) 0):=by
    intro u v hu hv b3 b4;have tu:=hc.LnT Y hu;have tv:=hc.LnT Y hv;rw[b2]at tu tv hQ G J sx sy;rw[<- b3]at G sx;rw[<- b4]at J sy;refine⟨jr u (by omega) (by omega),jr v (by omega) (by omega),?_,?_,?_,?_⟩
    .have:=ald (a:=some (q[k]'(by omega))) (b:=some ((u:Int):Rat)) (fun z E=>by cases E;exact hQ.mono (by decide)) (fun z E=>by cases E;exact(ru (by omega)).mono (by decide))
     rw[show F7 (some (q[k]'(by omega))) (some ((u:Int):Rat))=some (q[k]'(by omega)*((u:Int):Rat))from mO (tu.mono (by decide))]at this;exact this
    .have:=ald (a:=some (q[k]'(by omega))) (b:=some ((v:Int):Rat)) (fun z E=>by cases E;exact hQ.mono (by decide)) (fun z E=>by cases E;exact(ru (by omega)).mono (by decide))
     rw[show F7 (some (q[k]'(by omega))) (some ((v:Int):Rat))=some (q[k]'(by omega)*((v:Int):Rat))from mO (tv.mono (by decide))]at this;exact this
    .have:=aeN (a:=some (sX s q j k)) (b:=some (q[k]'(by omega)*((u:Int):Rat))) (fun z E=>by cases E;exact hX.mono (by decide)) (fun z E=>by cases E;exact tu.mono (by decide))
     rw[show ahN (some (sX s q j k)) (some (q[k]'(by omega)*((u:Int):Rat)))=some (sX s q j k+q[k]'(by omega)*((u:Int):Rat))from mO (G.mono (by decide)),<- sx]at this;exact this
    .have:=aeN (a:=some (sY s q j k)) (b:=some (q[k]'(by omega)*((v:Int):Rat))) (fun z E=>by cases E;exact hY.mono (by decide)) (fun z E=>by cases E;exact tv.mono (by decide))
     rw[show ahN (some (sY s q j k)) (some (q[k]'(by omega)*((v:Int):Rat)))=some (sY s q j k+q[k]'(by omega)*((v:Int):Rat))from mO (J.mono (by decide)),<- sy]at this;exact this
   have st1:∀(z:Rat) σ d,strip σ d (.tp (cQ z) 0)=some (.tp (cQ z) 0,[]):=fun z σ d=>by rw[aN]
   have y1:nx<nx+1:=by omega
   by_cases S:j=(mem s k).a
   .have O:(j==(mem s k).a)=true:=by simpa using S
    have ex:eX s j k=vx s k:=by unfold eX;rw[sH S]
    have ey:eY s j k=vy s k:=by unfold eY;rw[sH S]
    obtain⟨m1,m2,m3,m4,m5,m6⟩:=key (vx s k) (vy s k) (by omega) (by omega) ex.symm ey.symm;obtain⟨U,eU⟩:∃U,U=cQ ((vx s k:Int):Rat):=⟨_,rfl⟩;obtain⟨V,eV⟩:∃V,V=cQ ((vy s k:Int):Rat):=⟨_,rfl⟩;rw[<- eU]at m1 m3;rw[<- eV]at m2 m4;refine .inl ⟨_,by simp only[go_sem,t0,t1,t2,t8,t9,t19,t20,t21,g1,g2,g3,g4,g5,g6,g9,k1,a8,a9,a6,JY,a7,O,y1,m1,m2,m3,m4,m5,m6,st1];rfl,?_⟩;simp only[go_sem,t0,t1,t2,t19,t20];rfl
   .have O:(j==(mem s k).a)=false:=by simpa using S
    by_cases cb:j=(mem s k).b
    .have a1:(j==(mem s k).b)=true:=by simpa using cb
     have ex:eX s j k=0-vx s k:=by unfold eX;rw[sJ S,sH cb];omega
     have ey:eY s j k=0-vy s k:=by unfold eY;rw[sJ S,sH cb];omega
     have w1:=ZT (n:=0-vx s k);have w2:=ZT (n:=0-vy s k);obtain⟨m1,m2,m3,m4,m5,m6⟩:=key (0-vx s k) (0-vy s k) (by omega) (by omega) ex.symm ey.symm;obtain⟨U,eU⟩:∃U,U=cQ ((0-vx s k:Int):Rat):=⟨_,rfl⟩;obtain⟨V,eV⟩:∃V,V=cQ ((0-vy s k:Int):Rat):=⟨_,rfl⟩;rw[<- eU]at m1 m3;rw[<- eV]at m2 m4;refine .inl ⟨_,by simp only[go_sem,t0,t1,t2,t8,t9,t19,t20,t21,g1,g2,g3,g4,g5,g6,g9,k1,a8,a9,a6,JY,a7,O,a1,y1,w1,w2,m1,m2,m3,m4,m5,m6,st1];rfl,?_⟩;simp only[go_sem,t0,t1,t2,t19,t20];rfl
    .have a1:(j==(mem s k).b)=false:=by simpa using cb
     have ex:eX s j k=0:=by unfold eX;rw[sJ S,sJ cb]
     have ey:eY s j k=0:=by unfold eY;rw[sJ S,sJ cb]
     have b5:sX s q j (k+1)=sX s q j k:=by rw[sx,ex];show _+_*((0:Int):Rat)=_;grind
     have b6:sY s q j (k+1)=sY s q j k:=by rw[sy,ey];show _+_*((0:Int):Rat)=_;grind
     refine .inl ⟨_,by simp only[go_sem,t0,t1,t2,t8,t9,t19,t20,t21,g1,g2,g3,g4,g5,g6,g9,k1,O,a1,y1];rfl,?_⟩;simp only[go_sem,t0,t1,t2,t8,t9,t19,t20];rw[b5,b6];exact⟨rfl,rfl,rfl⟩) (by
   clear hL;rintro ⟨T,σ,nx⟩ ⟨t0,t1,t2,t8,t9,t19,t20,t21⟩;simp only at t0 t1 t2 t8 t9 t19 t20 t21;exact⟨_,by simp only[go_sem,t20,t21,zk];rfl,by simp,_,_,_,rfl,by simp only[go_sem,t8],by simp only[go_sem,t9]⟩) (by
   simp only[go_sem];exact⟨rfl,rfl⟩)
 simp only[go_sem,t8,t9]
theorem av1(x y:Operand)(row:List V)(off:Nat):Aw ZL .neq 148 x y (.tp row off) (.sc (.pointer none))=some (Bo true):=by
 unfold Aw;simp only[toVal,Tryz.underlying148];rfl
attribute [go_sem] av1
theorem acX(z:Rat)(h:z=0):fn ZL conv ext 110 [.tp (cQ z) 0]=some (Bo true):=by
 have k:=amg z;have e:Am z.num 0=0:=by rw[h];rfl
 rw[e]at k;have E:((0:Int)==0)=true:=rfl;rw[m_,mg [.tmp 2] [] func110];simp only[go_sem,k,E]
structure EqP (s:Structure) (l:List Int) (q:List Rat):Prop where
 len:q.length=s.members.length
 L:∀z∈q,Ln 24 z
 cd:∃Δ,Cd s q Δ
 bal:∀t (h:t<(free s).length),sX s q (free s)[t] s.members.length=((-l.getD (2*(free s)[t].toNat) 0:Int):Rat)/\sY s q (free s)[t] s.members.length=((-l.getD (2*(free s)[t].toNat+1) 0:Int):Rat)
 av2:∀k,k<s.members.length->(mem s k).kind=1->0<=q.getD k 0
 amN:∀k,k<s.members.length->(mem s k).kind=2->q.getD k 0<=0
section
variable {K:List (Int×Int)} {X:List Rat} {nm:Nat}
theorem aiP(E:∀c,c<K.length->(K.getD c (0,0)).1.toNat<nm)(G:∀c,0<=X.getD c 0){k:Nat}(hs:∀c,c<K.length->(K.getD c (0,0)).1.toNat=k->(K.getD c (0,0)).2=1):∀C,C<=K.length->0<=(Fj K X nm C).getD k 0
 |0,_=>by
  rw[Fj,zx,wZ]
  split<;>exact vK
 |C+1,hC=>by
  have J:=aiP E G hs C (by omega);rw[acV (E C (by omega)) k]
  split
  .rename_i e
   rw[hs C (by omega) e];have:=G C;show 0<=_+X.getD C 0;grind
  .exact J
theorem aiQ(E:∀c,c<K.length->(K.getD c (0,0)).1.toNat<nm)(G:∀c,0<=X.getD c 0){k:Nat}(hs:∀c,c<K.length->(K.getD c (0,0)).1.toNat=k->(K.getD c (0,0)).2= -1):∀C,C<=K.length->(Fj K X nm C).getD k 0<=0
 |0,_=>by
  rw[Fj,zx,wZ]
  split<;>exact vK
 |C+1,hC=>by
  have J:=aiQ E G hs C (by omega);rw[acV (E C (by omega)) k]
  split
  .rename_i e
   rw[hs C (by omega) e];have:=G C;show _+ -X.getD C 0<=0;grind
  .exact J
end
theorem Ri{s:Structure}{n:Nat}{p:Int×Int}(h:p∈cols s n):((mem s p.1.toNat).kind=1->p.2=1)/\((mem s p.1.toNat).kind=2->p.2= -1):=by
 unfold cols at h;obtain⟨k,-,h⟩:=List.mem_flatMap.mp h;unfold ET at h;rcases List.mem_append.mp h with h|h
 .split at h
  .cases h
  .rename_i c
   rw[List.mem_singleton.mp h];exact⟨fun _=>rfl,fun e=>absurd (by simpa using e) c⟩
 .split at h
  .cases h
  .rename_i c
   rw[List.mem_singleton.mp h];exact⟨fun e=>absurd (by simpa using e) c,fun _=>rfl⟩
theorem apT{s:Structure}(h:SG s){l:List Int}(hb:∀x∈l,-100<=x/\x<=100){x:Nat->Rat}(J:(EH s l).Best x)(S:∀j,j<Cc s->Ln 6 (x j))(Y:∃T,(EH s l).Good T/\x=Bj (EH s l).m T):EqP s l (FQ s x):=by
 have O:∀c,0<=((List.range (Cc s)).map x).getD c 0:=fun c=>by
  rw[zx,zF]
  by_cases hc:c<Cc s
  .rw[xM hc];exact J.1.2 c hc
  .rw[z_ (by simp;omega)];exact vK
 have E:∀c,c<(cols s s.members.length).length->(cols s s.members.length).getD c (0,0)∈cols s s.members.length:=fun c hc=>by
  rw[zx,zy hc];exact zu hc
 refine⟨Rf s x,fun z hz=>(OG S z hz).mono (by decide),?_,fun t ht=>aby J.1 ht,fun k hk e=>?_,fun k hk e=>?_⟩
 .obtain⟨T,hg,rfl⟩:=Y
  exact al6 h hb hg
 .exact aiP (UD s) O (fun c hc G=>(Ri (E c hc)).1 (by rw[G];exact e)) _ (zq _)
 .exact aiQ (UD s) O (fun c hc G=>(Ri (E c hc)).2 (by rw[G];exact e)) _ (zq _)
theorem Jb{X:Rat}{v:Int}(h:X=((-v:Int):Rat)):X+((v:Int):Rat)=0:=by
 rw[h]
 push_cast
 grind
theorem Yf{s:Structure}(h:Aj s)(ho:okStructure s){l:List Int}(hl:Ai s.joints.length l){q:List Rat}(S:EqP s l q):fn ZL pI Ad 59 [.agg (cStructure s),LI l,LL cQ q]=some (Bo true):=by
 have a1:=h.2.1;have Pj:=h.1;have a6:=lS s;have k1:=je h ho S.len S.L;have k2:=PY (cStructure s) 0 s.joints l rfl (by omega) (by rw[hl.1];unfold maxLen;omega);rw[iD hl]at k2;have k3:=kH h.sg;obtain⟨Δ,hc⟩:=S.cd;have hb:∀x∈l,-100<=x/\x<=100:=fun x hx=>kE (hl.2 x hx)
 have Y:∀i,-100<=l.getD i 0/\l.getD i 0<=100:=fun i=>by
  rw[zx]
  by_cases hi:i<l.length
  .rw[zy hi];exact hb _ (zu hi)
  .rw[z_ (by omega)];simp
 rw[m_,mg [.tmp 6] [] func59];simp only[go_sem,k1,k2,k3];generalize hL:dI _ _=y;obtain⟨x,rfl,T,σ,nx,rfl⟩:=oZ hL (free s).length (fun k st=>st.T 1=LI l/\st.T 3= .rp 0 0/\st.T 7=LL cF q/\st.T 25=LI (free s)/\st.T 26=I (free s).length/\st.T 27=I k/\0<st.nx/\∃wr,st.σ 0=some ⟨cStructure s,0,wr⟩)
  (fun x=>∃T σ nx,x=(.exit 0,⟨T,σ,nx⟩)) (by
   clear hL;rintro k ⟨T,σ,nx⟩ hk ⟨t1,t3,t7,t25,t26,t27,G,wr,E⟩;simp only at t1 t3 t7 t25 t26 t27 G E;obtain⟨j,ej,hj⟩:=Ut hk;have g1:(k:Int)<((free s).length:Int):=by omega
   have g2:=jD k;have g3:=ZT (n:=(k:Int)+1);have g4:=idx (xs:=free s) (k:=k) hk;rw[ej]at g4;have g5:=AU (free s) k hk;have k4:=avZ h.sg S.len hc (j:Int);have J:=S.bal k hk;rw[ej,zJ]at J;have w1:=ZT (n:=2*(j:Int));have w2:=ZT (n:=2*(j:Int)+1);have e1:2*(j:Int)=((2*j:Nat):Int):=by omega
   have e2:((2*j:Nat):Int)+1=((2*j+1:Nat):Int):=by omega
   rw[e1]at w1 w2;rw[e2]at w2;have a7:=hl.1;have i1:((2*j:Nat):Int)<(l.length:Int):=by omega
   have i2:((2*j+1:Nat):Int)<(l.length:Int):=by omega
   have i3:(0:Int)<=((2*j:Nat):Int):=by omega
   have i4:(0:Int)<=((2*j+1:Nat):Int):=by omega
   have i5:=idx (xs:=l) (k:=2*j) (by omega);have i6:=idx (xs:=l) (k:=2*j+1) (by omega);rw[<- lF (by omega) 0]at i5 i6;have i7:=AU l (2*j) (by omega);have b1:=Y (2*j);have b2:=Y (2*j+1);have z1:=Jb J.1;have z2:=Jb J.2;have hX:=hc.LnX h.sg (j:Int) (n:=s.members.length) (zq _);have hY:=hc.LnY h.sg (j:Int) (n:=s.members.length) (zq _);obtain⟨u,eu⟩:∃u,u=l.getD (2*j) 0:=⟨_,rfl⟩;obtain⟨v,ev⟩:∃v,v=l.getD (2*j+1) 0:=⟨_,rfl⟩;rw[<- eu]at i5 b1 z1;rw[<- ev]at i6 b2 z2;obtain⟨P,eP⟩:∃P,P=sX s q (j:Int) s.members.length:=⟨_,rfl⟩;obtain⟨Q,eQ⟩:∃Q,Q=sY s q (j:Int) s.members.length:=⟨_,rfl⟩;rw[<- eP]at k4 z1 hX;rw[<- eQ]at k4 z2 hY;have m1:=jr u (by omega) (by omega);have m2:=jr v (by omega) (by omega);have lz:Ln 24 (0:Rat):=(ru (z:=0) (by decide)).mono (by decide);have m3:fn ZL pI Ad 111 [.tp (cQ P) 0,.tp (cQ ((u:Int):Rat)) 0]=some (.tp (cQ (P+((u:Int):Rat))) 0):=by
    have:=aeN (a:=some P) (b:=some ((u:Int):Rat)) (fun z O=>by cases O;exact hX.mono (by decide)) (fun z O=>by cases O;exact(ru (by omega)).mono (by decide));rw[show ahN (some P) (some ((u:Int):Rat))=some (P+((u:Int):Rat))from mO (by rw[z1];exact lz)]at this;exact this
   have m4:fn ZL pI Ad 111 [.tp (cQ Q) 0,.tp (cQ ((v:Int):Rat)) 0]=some (.tp (cQ (Q+((v:Int):Rat))) 0):=by
    have:=aeN (a:=some Q) (b:=some ((v:Int):Rat)) (fun z O=>by cases O;exact hY.mono (by decide)) (fun z O=>by cases O;exact(ru (by omega)).mono (by decide));rw[show ahN (some Q) (some ((v:Int):Rat))=some (Q+((v:Int):Rat))from mO (by rw[z2];exact lz)]at this;exact this
   have m5:=acX (P+((u:Int):Rat)) z1;have m6:=acX (Q+((v:Int):Rat)) z2;obtain⟨U,eU⟩:∃U,U=cQ ((u:Int):Rat):=⟨_,rfl⟩;obtain⟨V,eV⟩:∃V,V=cQ ((v:Int):Rat):=⟨_,rfl⟩;rw[<- eU]at m1 m3;rw[<- eV]at m2 m4;have st1:∀(z:Rat) σ d,strip σ d (.tp (cQ z) 0)=some (.tp (cQ z) 0,[]):=fun z σ d=>by rw[aN]
   refine .inl ⟨_,by simp only[go_sem,t1,t3,t7,t25,t26,t27,E,G,g1,g2,g3,g4,g5,hk,k4,e1,e2,w1,w2,i1,i2,i3,i4,i5,i6,i7,m1,m2,m3,m4,m5,m6,st1];rfl,?_⟩;simp only[go_sem,t1,t3,t7,t25,t26,G]
   first
   |exact⟨rfl,_,JO E _ ▸ Zk _ _ _⟩
   |exact⟨rfl,Ua E⟩
   |trace_state) (by
   clear hL;rintro ⟨T,σ,nx⟩ ⟨t1,t3,t7,t25,t26,t27,G,E⟩;simp only at t1 t3 t7 t25 t26 t27 G E;exact⟨_,by simp only[go_sem,t26,t27,zk];rfl,by simp,_,_,_,rfl⟩) (by
   simp only[go_sem]
   first
   |exact⟨_,rfl⟩
   |trace_state)
 simp only[go_sem]
theorem aiR{z:Rat}(h:0<=z):¬Am z.num 0<0:=by
 have E:0<=z.num:=Rat.num_nonneg.mpr h;unfold Am;rw[sJ (by omega)]
 split<;>decide
theorem aiS{z:Rat}(h:z<=0):¬0<Am z.num 0:=by
 have E:0<=(-z).num:=Rat.num_nonneg.mpr (by grind);have G:z.num<=0:=by rw[Rat.neg_num]at E;omega
 unfold Am
 by_cases c:z.num<0
 .rw[sH c];decide
 .rw[sJ c,sH (by omega)];decide
theorem ae8{s:Structure}(h:Aj s)(ho:okStructure s){l:List Int}{q:List Rat}(Y:EqP s l q):fn ZL pI Ad 60 [.agg (cStructure s),LL cQ q]=some (Bo true):=by
 have a6:=h.2.1;have k1:=je h ho Y.len Y.L;rw[m_,mg [.tmp 4] [] func60];simp only[go_sem,k1];generalize hL:dI _ _=y;obtain⟨x,rfl,T,σ,nx,rfl⟩:=oZ hL s.members.length (fun k st=>st.T 5=LL cF q/\st.T 18=LL cMember s.members/\st.T 19=I s.members.length/\st.T 20=I k)
  (fun x=>∃T σ nx,x=(.exit 0,⟨T,σ,nx⟩)) (by
   clear hL;rintro k ⟨T,σ,nx⟩ hk ⟨t5,G,t19,t20⟩;simp only at t5 G t19 t20;have g1:(k:Int)<(s.members.length:Int):=by omega
   have g2:=jD k;have g3:=ZT (n:=(k:Int)+1);have g4:=Ik s.members k hk;rw[jJ hk]at g4;have g5:=E_ s.members;have g6:k*3+3<=s.members.length*3:=by omega
   have g9:=Il s.members k hk;have a7:=Y.len;have a8:=qO q (k:=k) (by omega);have a9:(q.flatMap cF).length=q.length:=qN q;have O:(k:Int)<(q.length:Int):=by omega
   have JY:q.flatMap cF≠[]:=fun e=>by rw[e]at a9;have:q.length=0:=a9.symm;omega
   have S:k<q.length:=by omega
   have a1:q.getD k 0=q[k]'(by omega):=by rw[zx,zy (by omega)];rfl
   have hr:=Y.av2 k hk;have hs:=Y.amN k hk;rw[a1]at hr hs;obtain⟨z,ez⟩:∃z,z=q[k]'(by omega):=⟨_,rfl⟩;rw[<- ez]at a8 hr hs;have k2:=amg z;have y1:nx<nx+1:=by omega
   by_cases c1:(mem s k).kind=1
   .have J:((mem s k).kind==1)=true:=by simpa using c1
    have E:((mem s k).kind==2)=false:=by rw[c1];rfl
    have n1:=aiR (hr c1);refine .inl ⟨_,by simp only[go_sem,t5,G,t19,t20,g1,g2,g3,g4,g5,g6,g9,a8,a9,O,JY,S,k2,J,E,n1,y1];rfl,?_⟩;simp only[go_sem,t5,G,t19]
    try rfl
   .have J:((mem s k).kind==1)=false:=by simpa using c1
    by_cases c2:(mem s k).kind=2
    .have E:((mem s k).kind==2)=true:=by simpa using c2
     have n1:=aiS (hs c2);refine .inl ⟨_,by simp only[go_sem,t5,G,t19,t20,g1,g2,g3,g4,g5,g6,g9,a8,a9,O,JY,S,k2,J,E,n1,y1];rfl,?_⟩;simp only[go_sem,t5,G,t19]
     try rfl
    .have E:((mem s k).kind==2)=false:=by simpa using c2
     refine .inl ⟨_,by simp only[go_sem,t5,G,t19,t20,g1,g2,g3,g4,g5,g6,g9,a8,a9,O,JY,S,k2,J,E,y1];rfl,?_⟩;simp only[go_sem,t5,G,t19]
     try rfl) (by
   clear hL;rintro ⟨T,σ,nx⟩ ⟨t5,G,t19,t20⟩;simp only at t5 G t19 t20;exact⟨_,by simp only[go_sem,t19,t20,zk];rfl,by simp,_,_,_,rfl⟩) (by
   simp only[go_sem])
 simp only[go_sem]
theorem OJ{s:Structure}(h:Aj s)(E:okStructure s){l:List Int}(J:Ai s.joints.length l){q:List Rat}(G:EqP s l q):fn ZL pI Ad 15 [.agg (cStructure s),LI l,LL cQ q]=some (Bo true):=by
 have O:=Yf h E J G;have S:=ae8 h E G;rw[m_,mg [.tmp 6] [] func15];simp only[go_sem,O,S]
theorem aiT{s:Structure}(h:Aj s)(O:okStructure s){l w:List Int}(S:Ai s.joints.length l)(hw:AZ s.members.length w)(hs:Df s l w) :
  ∃q,EqP s l q/\fn ZL pI Ad 14 [.agg (cStructure s),LI l,LI w]=some (.AB [LL cQ q,Bo true])/\fn ZL pI Ad 17 [.agg (cStructure s),LL cQ q,LI w]=some (Bo true)/\fn ZL pI Ad 15 [.agg (cStructure s),LI l,LL cQ q]=some (Bo true):=by
 have hb:∀x∈l,-100<=x/\x<=100:=fun x Y=>kE (S.2 x Y)
 unfold Df at hs;rcases X_ h O S with ⟨qs,a1,a6,E,-,x,Y,h6,e,hT⟩|⟨E,-,-⟩
 .have hE:EqP s l qs:=by rw[e];exact apT h.sg hb Y h6 hT
  have G:=JM h O a1 a6 hw;cases J:DU s qs w with
  |true=>
   rw[J]at G;refine⟨qs,hE,?_,G,OJ h O S hE⟩;rw[m_,mg [.tmp 6,.tmp 7] [] func14];simp only[go_sem,E,G]
  |false=>
   exfalso;rw[J]at G;have k5:fn ZL pI Ad 14 [.agg (cStructure s),LI l,LI w]=some (.AB [.ts [] 0,Bo false]):=by
    rw[m_,mg [.tmp 6,.tmp 7] [] func14];simp only[go_sem,E,G]
   have k6:fn ZL pI Ad 18 [.agg (cStructure s),LI l,LI w]=some (Bo false):=by
    rw[m_,mg [.tmp 6] [] func18];simp only[go_sem,k5]
   rw[k6]at hs;cases hs
 .exfalso
  have E:fn ZL pI Ad 58 [.agg (cStructure s),LI l]=some (.AB [.ts [] 0,Bo false]):=E;have k5:fn ZL pI Ad 14 [.agg (cStructure s),LI l,LI w]=some (.AB [.ts [] 0,Bo false]):=by
   rw[m_,mg [.tmp 6,.tmp 7] [] func14];simp only[go_sem,E]
  have k6:fn ZL pI Ad 18 [.agg (cStructure s),LI l,LI w]=some (Bo false):=by
   rw[m_,mg [.tmp 6] [] func18];simp only[go_sem,k5]
  rw[k6]at hs;cases hs
theorem gy{y:Yard}{fr to:Int}(G:BI y fr to=true):Ak y/\∃a t d:Nat,fr=(a:Int)/\to=(t:Int)/\a<y.stances.length/\t<y.stances.length/\dst (Dw y) (Dj (Ac y)) t a=(d:Int)/\Dh y fr to=Af ((List.range (d+1)).map (TT (Dw y) (dst (Dw y) (Dj (Ac y)) t) y.stances.length a)):=by
 obtain⟨O,a,t,rfl,rfl,ha,S⟩:=OI (UA G);have es:Pv y (Ac y) (t:Int)=dst (Dw y) (Dj (Ac y)) t:=by funext i;unfold Pv;rw[sH ⟨by omega,by omega⟩,zJ]
 have E:=G;unfold BI at E;simp only[zA,decide_eq_true_eq]at E;rw[es,zJ]at E;obtain⟨d,J⟩:∃d:Nat,dst (Dw y) (Dj (Ac y)) t a=(d:Int):=⟨(dst (Dw y) (Dj (Ac y)) t a).toNat,by omega⟩;refine⟨O,a,t,d,rfl,rfl,ha,S,J,?_⟩;unfold Dh;rw[sH G,es,zJ];unfold plan;rw[J,zJ]
theorem al7{y:Yard}{fr to:Int}(G:BI y fr to=true):Dh y fr to≠[]/\∀k (h:k<(Dh y fr to).length),∃i:Nat,(Dh y fr to)[k]=(i:Int)/\∃hi:i<y.stances.length,Gi y.stances[i] y.strict=true:=by
 obtain⟨hG,a,t,d,rfl,rfl,ha,ht,O,e⟩:=gy G;have E:∀i,Dj (Ac y) i=true->i<y.stances.length:=fun i hi=>by have:=rE hi;rw[dJ]at this;exact this
 rw[e];refine⟨fun h=>by
  have:=congrArg List.length h;simp[Af]at this,fun k Y=>?_⟩
 have a1:k<d+1:=by simpa[Af]using Y
 refine⟨TT (Dw y) (dst (Dw y) (Dj (Ac y)) t) y.stances.length a k,by simp[Af],?_⟩;have h1:=jv E (mv:=Dw y) (to:=t) (a:=a) k (by rw[O];omega);have J:=(Ob (mv:=Dw y) (al:=Dj (Ac y)) (to:=t) (i:=TT (Dw y) (dst (Dw y) (Dj (Ac y)) t) y.stances.length a k) (by rw[h1,O];omega)).1;have S:=E _ J;refine⟨S,?_⟩;rw[rF (by rw[dJ];exact S)]at J
 simpa[Ac]using J
theorem Yg{y:Yard}{fr to:Int}(a1:BI y fr to=true):GU y (Dh y fr to)=true:=by
 obtain⟨hG,a,t,d,rfl,rfl,ha,ht,hd,e⟩:=gy a1;have J:∀i,Dj (Ac y) i=true->i<y.stances.length:=fun i hi=>by have:=rE hi;rw[dJ]at this;exact this
 obtain⟨at_,O⟩:∃at_,at_=TT (Dw y) (dst (Dw y) (Dj (Ac y)) t) y.stances.length a:=⟨_,rfl⟩;have Y:∀k:Nat,k<=d->dst (Dw y) (Dj (Ac y)) t (at_ k)=(d:Int) - k:=fun k S=>by
  have:=jv J (mv:=Dw y) (to:=t) (a:=a) k (by rw[hd];omega);rw[hd]at this;rw[O];exact this
 have E:∀k:Nat,k<=d->Dj (Ac y) (at_ k)=true:=fun k S=>(Ob (mv:=Dw y) (al:=Dj (Ac y)) (to:=t) (i:=at_ k) (by rw[Y k S];omega)).1
 have a6:∀k:Nat,k+1<=d->Dw y (at_ k) (at_ (k+1))=true:=fun k S=>by
  have h1:=(aa3 J (mv:=Dw y) (to:=t) (a:=at_ k) (by rw[Y k (by omega)];omega)).2.1;have h2:at_ (k+1)=Jc (Dw y) (dst (Dw y) (Dj (Ac y)) t) y.stances.length (at_ k):=by rw[O];rfl
  rw[h2];exact h1
 have G:∀k:Nat,k<=d->(Dh y (a:Int) (t:Int)).getD k 0=((at_ k:Nat):Int):=fun k S=>by
  rw[e,<- O,zx];unfold Af;rw[zF,zF,xM (by omega)];rfl
 have hlen:(Dh y (a:Int) (t:Int)).length=d+1:=by rw[e];simp[Af]
 have a7:Dh y (a:Int) (t:Int)≠[]:=fun h=>by rw[h]at hlen;simp at hlen
 unfold GU;rw[iD hG,sF a7,xC,xC];refine JW fun k S=>?_
 rw[hlen]at S;unfold EC;have hr:=J _ (E k (by omega));rw[G k (by omega),zJ,E k (by omega)];have hb:inB ((at_ k:Nat):Int) 0 ((y.stances.length:Int) - 1)=true:=by unfold inB;rw[sF (by omega),sF (by omega)];rfl
 rw[hb,xC,xC]
 by_cases h0:k=0
 .rw[sF h0];rfl
 .rw[G (k-1) (by omega)]
  have:=a6 (k-1) (by omega);rw[show k-1+1=k by omega]at this;have h2:UC y ((at_ (k-1):Nat):Int) ((at_ k:Nat):Int)=true:=this;rw[h2,Bool.or_true]
theorem abA{t:Stance}{strict:Bool}(h:Gi t strict=true):Aj t.st/\Ai t.st.joints.length t.load/\AZ t.st.members.length t.limits/\Df t.st t.load t.limits/\∀k,k<t.st.members.length->(strict=true->fn ZL pI Ad 18 [.agg (cStructure (del t.st k)),LI t.load,LI (t.limits.eraseIdx k)]=some (Bo true)):=by
 unfold Gi at h;rw[zA]at h;obtain⟨J,O,S⟩:=bG h.1;cases strict with
 |false=>
  have E:pb (Df t.st t.load t.limits)=true:=h.2;exact⟨J,O,S,iw E,fun k Y e=>by cases e⟩
 |true=>
  have E:F9 t.st t.load t.limits=true:=h.2;unfold F9 at E;rw[zA]at E;refine⟨J,O,S,iw E.1,fun k Y _=>?_⟩;have G:=E.2;unfold upto at G;rw[wO]at G;exact iw (G k (List.mem_range.mpr Y))
theorem ae9{s:Structure}(h:Aj s)(ho:okStructure s){l:List Int}{q:List Rat}(Y:EqP s l q):fn ZL conv ext 62 [.agg (cStructure s),LL cQ q]=some (Bo true):=by
 have a7:=h.2.1;have k1:=X6 h ho Y.len Y.L;rw[m_,mg [.tmp 4] [] func62];simp only[go_sem,k1];generalize hL:dI _ _=y;obtain⟨x,rfl,T,σ,nx,rfl⟩:=oZ hL s.members.length (fun k st=>st.T 1=LL cQ q/\st.T 13=LL cMember s.members/\st.T 14=I s.members.length/\st.T 15=I k)
  (fun x=>∃T σ nx,x=(.exit 0,⟨T,σ,nx⟩)) (by
   clear hL;rintro k ⟨T,σ,nx⟩ hk ⟨t1,t13,t14,t15⟩;simp only at t1 t13 t14 t15;have g1:(k:Int)<(s.members.length:Int):=by omega
   have g2:=jD k;have g3:=ZT (n:=(k:Int)+1);have g4:=Ik s.members k hk;rw[jJ hk]at g4;have g5:=E_ s.members;have g6:k*3+3<=s.members.length*3:=by omega
   have g9:=Il s.members k hk;have b2:=Y.len;have E:k<q.length:=by omega
   have a8:=d_ (c:=cQ) (s:=3) (fun _=>rfl) q k E;have a9:=QH q;have O:(k:Int)<(q.length:Int):=by omega
   have S:k*3+3<=q.length*3:=by omega
   have JY:=bg (c:=cQ) (s:=3) (fun _=>rfl) (by omega) q k E;have a6:q.getD k 0=q[k]'(by omega):=by rw[zx,zy (by omega)];rfl
   have hr:=Y.av2 k hk;have hs:=Y.amN k hk;have a1:=Y.L _ (zu E);rw[a6]at hr hs;obtain⟨z,ez⟩:∃z,z=q[k]'(by omega):=⟨_,rfl⟩;rw[<- ez]at a8 hr hs a1;have k2:=dL z a1;have y1:nx<nx+1:=by omega
   by_cases c1:(mem s k).kind=1
   .have J:((mem s k).kind==1)=true:=by simpa using c1
    have G:((mem s k).kind==2)=false:=by rw[c1];rfl
    have n1:=aiR (hr c1);refine .inl ⟨_,by simp only[go_sem,t1,t13,t14,t15,g1,g2,g3,g4,g5,g6,g9,a8,a9,O,S,JY,E,k2,J,G,n1,y1];rfl,?_⟩;simp only[go_sem,t1,t13,t14]
    try rfl
   .have J:((mem s k).kind==1)=false:=by simpa using c1
    by_cases c2:(mem s k).kind=2
    .have G:((mem s k).kind==2)=true:=by simpa using c2
     have n1:=aiS (hs c2);refine .inl ⟨_,by simp only[go_sem,t1,t13,t14,t15,g1,g2,g3,g4,g5,g6,g9,a8,a9,O,S,JY,E,k2,J,G,n1,y1];rfl,?_⟩;simp only[go_sem,t1,t13,t14]
     try rfl
    .have G:((mem s k).kind==2)=false:=by simpa using c2
     refine .inl ⟨_,by simp only[go_sem,t1,t13,t14,t15,g1,g2,g3,g4,g5,g6,g9,a8,a9,O,S,JY,E,k2,J,G,y1];rfl,?_⟩;simp only[go_sem,t1,t13,t14]
     try rfl) (by
   clear hL;rintro ⟨T,σ,nx⟩ ⟨t1,t13,t14,t15⟩;simp only at t1 t13 t14 t15;exact⟨_,by simp only[go_sem,t14,t15,zk];rfl,by simp,_,_,_,rfl⟩) (by
   simp only[go_sem])
 simp only[go_sem]
theorem al8{s:Structure}(h:Aj s)(ho:okStructure s){l:List Int}{q:List Rat}(hq:EqP s l q)(j:Nat)(hj:j<s.joints.length):fn ZL conv ext 175 [.agg (cStructure s),LL cQ q,I j]=some (.AB [LL cQ [sX s q j s.members.length,sY s q j s.members.length],Bo true]):=by
 have b9:=h.2.1;have Pj:=h.1;have hg:=h.sg;have k1:=X6 h ho hq.len hq.L;have k2:=ji (j:Int) 0 ((s.joints.length:Int) - 1);have b3:inB (j:Int) 0 ((s.joints.length:Int) - 1)=true:=by unfold inB;simp;omega
 rw[b3]at k2;have w0:=ZT (n:=(s.joints.length:Int) - 1);have k0:=dO 0 (by decide) (by decide);obtain⟨Δ,hc⟩:=hq.cd;rw[m_,mg [.tmp 6,.tmp 7] [] func175];simp only[go_sem,k1,k2,w0,k0];generalize hL:dI _ _=y;obtain⟨x,rfl,T,σ,nx,rfl,t8,t9,E,b1,G⟩:=oZ hL s.members.length (fun k st=>st.T 1=LL cQ q/\st.T 2=I j/\st.T 3= .rp 0 0/\st.T 8= .rp 1 0/\st.T 9= .rp 2 0/\st.T 30=LL cMember s.members/\st.T 31=I s.members.length/\st.T 32=I k/\2<st.nx/\st.σ 0=some ⟨cStructure s,0,true⟩/\st.σ 1=some ⟨cQ (sX s q j k),0,true⟩/\st.σ 2=some ⟨cQ (sY s q j k),0,true⟩)
  (fun x=>∃T σ nx,x=(.exit 0,⟨T,σ,nx⟩)/\T 8= .rp 1 0/\T 9= .rp 2 0/\2<nx/\σ 1=some ⟨cQ (sX s q j s.members.length),0,true⟩/\σ 2=some ⟨cQ (sY s q j s.members.length),0,true⟩) (by
   clear hL;rintro k ⟨T,σ,nx⟩ hk ⟨t1,t2,t3,t8,t9,t30,t31,t32,E,b0,b1,G⟩;simp only at t1 t2 t3 t8 t9 t30 t31 t32 E b0 b1 G;have g1:(k:Int)<(s.members.length:Int):=by omega
   have g2:=jD k;have g3:=ZT (n:=(k:Int)+1);have g4:=Ik s.members k hk;rw[jJ hk]at g4;have g5:=E_ s.members;have g6:k*3+3<=s.members.length*3:=by omega
   have g9:=Il s.members k hk;have k3:=Us hg hk;have hv:=Zf hg k;have c0:=hq.len;have J:k<q.length:=by omega
   have a8:=d_ (c:=cQ) (s:=3) (fun _=>rfl) q k J;have a9:=QH q;have a6:(k:Int)<(q.length:Int):=by omega
   have a7:k*3+3<=q.length*3:=by omega
   have JY:=bg (c:=cQ) (s:=3) (fun _=>rfl) (by omega) q k J;have b4:q.getD k 0=q[k]'(by omega):=by rw[zx,zy (by omega)];rfl
   have hX:=hc.LnX hg (j:Int) (n:=k) (by omega);have hY:=hc.LnY hg (j:Int) (n:=k) (by omega);have hQ:=hc.LnQ hk;have sx:=UE s q j k;have sy:=UF s q j k
   have key:∀u v:Int,u.natAbs<=100->v.natAbs<=100->u=eX s j k->v=eY s j k ->
     fn ZL conv ext 133 [I u]=some (.agg (cQ ((u:Int):Rat)))/\fn ZL conv ext 133 [I v]=some (.agg (cQ ((v:Int):Rat))) /\
     fn ZL conv ext 230 [.agg (cQ (q[k]'(by omega))),.agg (cQ ((u:Int):Rat))]=some (.agg (cQ (q[k]'(by omega)*((u:Int):Rat))))/\fn ZL conv ext 230 [.agg (cQ (q[k]'(by omega))),.agg (cQ ((v:Int):Rat))]=some (.agg (cQ (q[k]'(by omega)*((v:Int):Rat)))) /\
     fn ZL conv ext 176 [.agg (cQ (sX s q j k)),.agg (cQ (q[k]'(by omega)*((u:Int):Rat)))]=some (.agg (cQ (sX s q j (k+1))))/\fn ZL conv ext 176 [.agg (cQ (sY s q j k)),.agg (cQ (q[k]'(by omega)*((v:Int):Rat)))]=some (.agg (cQ (sY s q j (k+1)))):=by
    intro u v hu hv b5 b6;have tu:=hc.LnT hk hu;have tv:=hc.LnT hk hv;rw[b4]at tu tv hQ sx sy;rw[<- b5]at sx;rw[<- b6]at sy;refine⟨dO u (by omega) (by omega),dO v (by omega) (by omega),?_,?_,?_,?_⟩
    .have:=I9 (some (q[k]'(by omega))) (some ((u:Int):Rat)) (fun z hz=>by cases hz;exact hQ.mono (by decide)) (fun z hz=>by cases hz;exact(ru (by omega)).mono (by decide))
     rw[show F7 (some (q[k]'(by omega))) (some ((u:Int):Rat))=some (q[k]'(by omega)*((u:Int):Rat))from mO (tu.mono (by decide))]at this;exact this
    .have:=I9 (some (q[k]'(by omega))) (some ((v:Int):Rat)) (fun z hz=>by cases hz;exact hQ.mono (by decide)) (fun z hz=>by cases hz;exact(ru (by omega)).mono (by decide))
     rw[show F7 (some (q[k]'(by omega))) (some ((v:Int):Rat))=some (q[k]'(by omega)*((v:Int):Rat))from mO (tv.mono (by decide))]at this;exact this
    .rw[sx];exact dM _ _ hX tu (by decide)
    .rw[sy];exact dM _ _ hY tv (by decide)
   have y1:nx<nx+1:=by omega
   have y2:1<nx+1:=by omega
   have y3:2<nx+1:=by omega
   have z0:¬nx=0:=by omega
   have z1:¬nx=1:=by omega
   have z2:¬nx=2:=by omega
   have z3:¬0=nx:=by omega
   have z4:¬1=nx:=by omega
   have z5:¬2=nx:=by omega
   by_cases S:(j:Int)=(mem s k).a
   .have O:((j:Int)==(mem s k).a)=true:=by simpa using S
    have ex:eX s j k=vx s k:=by unfold eX;rw[sH S]
    have ey:eY s j k=vy s k:=by unfold eY;rw[sH S]
    obtain⟨m1,m2,m3,m4,m5,m6⟩:=key (vx s k) (vy s k) (by omega) (by omega) ex.symm ey.symm;refine .inl ⟨_,by simp only[go_sem,t1,t2,t3,t8,t9,t30,t31,t32,b0,b1,G,g1,g2,g3,g4,g5,g6,g9,k3,a8,a9,a6,a7,JY,J,O,y1,y2,y3,z0,z1,z2,z3,z4,z5,m1,m2,m3,m4,m5,m6];rfl,?_⟩;simp only[go_sem,t1,t2,t3,t8,t9,t30,t31,b0,z0,z1,z2,z3,z4,z5]
    try trivial
   .have O:((j:Int)==(mem s k).a)=false:=by simpa using S
    by_cases cb:(j:Int)=(mem s k).b
    .have a1:((j:Int)==(mem s k).b)=true:=by simpa using cb
     have ex:eX s j k=0-vx s k:=by unfold eX;rw[sJ S,sH cb];omega
     have ey:eY s j k=0-vy s k:=by unfold eY;rw[sJ S,sH cb];omega
     have w1:=ZT (n:=0-vx s k);have w2:=ZT (n:=0-vy s k);obtain⟨m1,m2,m3,m4,m5,m6⟩:=key (0-vx s k) (0-vy s k) (by omega) (by omega) ex.symm ey.symm;refine .inl ⟨_,by simp only[go_sem,t1,t2,t3,t8,t9,t30,t31,t32,b0,b1,G,g1,g2,g3,g4,g5,g6,g9,k3,a8,a9,a6,a7,JY,J,O,a1,w1,w2,y1,y2,y3,z0,z1,z2,z3,z4,z5,m1,m2,m3,m4,m5,m6];rfl,?_⟩;simp only[go_sem,t1,t2,t3,t8,t9,t30,t31,b0,z0,z1,z2,z3,z4,z5]
     try trivial
    .have a1:((j:Int)==(mem s k).b)=false:=by simpa using cb
     have ex:eX s j k=0:=by unfold eX;rw[sJ S,sJ cb]
     have ey:eY s j k=0:=by unfold eY;rw[sJ S,sJ cb]
     have b7:sX s q j (k+1)=sX s q j k:=by rw[sx,ex];show _+_*((0:Int):Rat)=_;grind
     have b8:sY s q j (k+1)=sY s q j k:=by rw[sy,ey];show _+_*((0:Int):Rat)=_;grind
     refine .inl ⟨_,by simp only[go_sem,t1,t2,t3,t8,t9,t30,t31,t32,b0,b1,G,g1,g2,g3,g4,g5,g6,g9,k3,O,a1,y1,y2,y3,z0,z1,z2,z3,z4,z5];rfl,?_⟩;simp only[go_sem,t1,t2,t3,t8,t9,t30,t31,b0,b1,G,b7,b8,z0,z1,z2,z3,z4,z5]
     try trivial) (by
   clear hL;rintro ⟨T,σ,nx⟩ ⟨t1,t2,t3,t8,t9,t30,t31,t32,E,b0,b1,G⟩;simp only at t1 t2 t3 t8 t9 t30 t31 t32 E b0 b1 G;exact⟨_,by simp only[go_sem,t31,t32,zk];rfl,by simp,_,_,_,rfl,by simp only[go_sem,t8],by simp only[go_sem,t9],E,b1,G⟩) (by
   simp only[go_sem];exact⟨rfl,rfl⟩)
 have o1:=JQ _ ((hc.LnX hg (j:Int) (n:=s.members.length) (zq _)).mono (by decide:7<=24));have o2:=JQ _ ((hc.LnY hg (j:Int) (n:=s.members.length) (zq _)).mono (by decide:7<=24));have y1:1<nx:=by omega
 have y2:2<nx:=by omega
 obtain⟨X,eX⟩:∃X,X=sX s q (j:Int) s.members.length:=⟨_,rfl⟩;obtain⟨Y,eY⟩:∃Y,Y=sY s q (j:Int) s.members.length:=⟨_,rfl⟩;rw[<- eX]at b1 o1;rw[<- eY]at G o2;rw[<- eX,<- eY];have r1:(if 3<=(rep 2 [V.sc (Value.bool false),V.nil,V.nil]).length then if 6<=(patch (rep 2 [V.sc (Value.bool false),V.nil,V.nil]) 0 (cQ X)).length then some (patch (patch (rep 2 [V.sc (Value.bool false),V.nil,V.nil]) 0 (cQ X)) 3 (cQ Y))else none else none)=some (cQ X++cQ Y):=rfl;have r2:∀d,strip (upd σ nx (some ⟨cQ X++cQ Y,3,true⟩)) (d+3) (.rs nx 0 2)=some (LL cQ [X,Y],[nx]):=fun d=>by
  rw[aQ,Zk];rfl
 simp only[go_sem,t8,t9,b1,G,o1,o2,y1,y2,r1,r2]
theorem apU{s:Structure}(h:Aj s)(ho:okStructure s){l:List Int}(hl:Ai s.joints.length l){q:List Rat}(hq:EqP s l q)(j:Nat)(hj:j<s.joints.length) :
  fn ZL conv ext 116 [.agg (cStructure s),LI l,LL cQ q,I j]=some (.AB [LL cQ [sX s q j s.members.length+((l.getD (2*j) 0:Int):Rat),sY s q j s.members.length+((l.getD (2*j+1) 0:Int):Rat)],Bo true]):=by
 have Pj:=h.1;have hg:=h.sg;have G:=al8 h ho hq j hj;obtain⟨Δ,hc⟩:=hq.cd;have J:=hc.LnX hg (j:Int) (n:=s.members.length) (zq _);have O:=hc.LnY hg (j:Int) (n:=s.members.length) (zq _);have a6:=hl.1;have hb:∀x∈l,-100<=x/\x<=100:=fun x hx=>kE (hl.2 x hx)
 have E:∀i,-100<=l.getD i 0/\l.getD i 0<=100:=fun i=>by
  rw[zx]
  by_cases hi:i<l.length
  .rw[zy hi];exact hb _ (zu hi)
  .rw[z_ (by omega)];simp
 have b1:=E (2*j);have b2:=E (2*j+1);have w1:=ZT (n:=2*(j:Int));have S:=ZT (n:=2*(j:Int)+1);have e1:2*(j:Int)=((2*j:Nat):Int):=by omega
 have e2:((2*j:Nat):Int)+1=((2*j+1:Nat):Int):=by omega
 rw[e1]at w1 S;rw[e2]at S;have i1:((2*j:Nat):Int)<(l.length:Int):=by omega
 have i2:((2*j+1:Nat):Int)<(l.length:Int):=by omega
 have i3:(0:Int)<=((2*j:Nat):Int):=by omega
 have i4:(0:Int)<=((2*j+1:Nat):Int):=by omega
 have i5:=idx (xs:=l) (k:=2*j) (by omega);have i6:=idx (xs:=l) (k:=2*j+1) (by omega);rw[<- lF (by omega) 0]at i5 i6;have i7:=AU l (2*j) (by omega);obtain⟨u,eu⟩:∃u,u=l.getD (2*j) 0:=⟨_,rfl⟩;obtain⟨v,ev⟩:∃v,v=l.getD (2*j+1) 0:=⟨_,rfl⟩;rw[<- eu]at i5 b1;rw[<- ev]at i6 b2;rw[<- eu,<- ev];obtain⟨X,eX⟩:∃X,X=sX s q (j:Int) s.members.length:=⟨_,rfl⟩;obtain⟨Y,eY⟩:∃Y,Y=sY s q (j:Int) s.members.length:=⟨_,rfl⟩;rw[<- eX]at G J;rw[<- eY]at G O;rw[<- eX,<- eY];have m1:=dO u (by omega) (by omega);have m2:=dO v (by omega) (by omega);have lu:Ln 7 ((u:Int):Rat):=(ru (by omega)).mono (by decide);have lv:Ln 7 ((v:Int):Rat):=(ru (by omega)).mono (by decide);have m3:=dM X _ J lu (by decide);have m4:=dM Y _ O lv (by decide);have t0:Int.toNat 0=0:=rfl;have t1:Int.toNat 1=1:=rfl;have p1:(0:Int)<2:=by decide
 have p5:(0:Int)<=1:=by decide
 have p2:(1:Int)<2:=by decide
 have p3:(0:Int)<((2:Nat):Int):=by decide
 have p4:(1:Int)<((2:Nat):Int):=by decide
 have c0:((cQ X++cQ Y).drop 0).take 3=cQ X:=rfl;have a1:(cQ X++cQ Y).take 3=cQ X:=rfl;have c1:((cQ X++cQ Y).drop 3).take 3=cQ Y:=rfl;have cl:(cQ X++cQ Y).length=6:=rfl;have n1:¬cQ X++cQ Y=[]:=fun e=>by unfold cQ at e;cases e
 have lX:=N_ J lu;have lY:=N_ O lv;have o1:=JQ _ (lX.mono (by decide:7+7+1<=24));have o2:=JQ _ (lY.mono (by decide:7+7+1<=24));have r1:∀X Y:Rat,(if 3<=(rep 2 [V.sc (Value.bool false),V.nil,V.nil]).length then if 6<=(patch (rep 2 [V.sc (Value.bool false),V.nil,V.nil]) 0 (cQ X)).length then some (patch (patch (rep 2 [V.sc (Value.bool false),V.nil,V.nil]) 0 (cQ X)) 3 (cQ Y))else none else none)=some (cQ X++cQ Y):=fun X Y=>rfl
 have r2:∀(X Y:Rat) σ nx d,strip (upd σ nx (some ⟨cQ X++cQ Y,3,true⟩)) (d+3) (.rs nx 0 2)=some (LL cQ [X,Y],[nx]):=fun X Y σ nx d=>by
  rw[aQ,Zk];rfl
 rw[m_,mg [.tmp 8,.tmp 9] [] func116];simp only[go_sem,G,t0,t1,n1,p5,p1,p2,p3,p4,c0,a1,c1,cl,w1,S,e1,e2,r1,r2,o1,o2,i1,i2,i3,i4,i5,i6,i7,m1,m2,m3,m4]
theorem Yh{s:Structure}(h:Aj s)(Y:okStructure s){l:List Int}(hl:Ai s.joints.length l){q:List Rat}(O:EqP s l q):fn ZL conv ext 61 [.agg (cStructure s),LI l,LL cQ q]=some (Bo true):=by
 have a7:=h.2.1;have Pj:=h.1;have a8:=lS s;have k1:=X6 h Y O.len O.L;have k2:=X9 h Y hl;have k3:=X4 h.sg;rw[m_,mg [.tmp 6] [] func61];simp only[go_sem,k1,k2,k3];generalize hL:dI _ _=y;obtain⟨x,rfl,T,σ,nx,rfl⟩:=oZ hL (free s).length (fun k st=>st.T 1=LI l/\st.T 2=LL cQ q/\st.T 3= .rp 0 0/\st.T 22=LI (free s)/\st.T 23=I (free s).length/\st.T 24=I k/\0<st.nx/\st.σ 0=some ⟨cStructure s,0,true⟩)
  (fun x=>∃T σ nx,x=(.exit 0,⟨T,σ,nx⟩)) (by
   clear hL;rintro k ⟨T,σ,nx⟩ S ⟨t1,t2,t3,t22,t23,t24,G,E⟩;simp only at t1 t2 t3 t22 t23 t24 G E;obtain⟨j,ej,hj⟩:=Ut S;have g1:(k:Int)<((free s).length:Int):=by omega
   have g2:=jD k;have g3:=ZT (n:=(k:Int)+1);have g4:=idx (xs:=free s) (k:=k) S;rw[ej]at g4;have g5:=AU (free s) k S;have k4:=apU h Y hl O j hj;have J:=O.bal k S;rw[ej,zJ]at J;rw[Jb J.1,Jb J.2]at k4;obtain⟨Z,eZ⟩:∃Z:Rat,Z=0:=⟨_,rfl⟩;have hZ:Ln 24 Z:=by rw[eZ];exact(ru (z:=0) (by omega)).mono (by decide)
   have k5:=dL Z hZ;rw[show Am Z.num 0=0 by rw[eZ];rfl]at k5;rw[<- eZ]at k4;have t0:Int.toNat 0=0:=rfl;have a1:Int.toNat 1=1:=rfl;have p1:(0:Int)<2:=by decide
   have p5:(0:Int)<=1:=by decide
   have p2:(1:Int)<2:=by decide
   have c0:((cQ Z++cQ Z).drop 0).take 3=cQ Z:=rfl;have a6:(cQ Z++cQ Z).take 3=cQ Z:=rfl;have c1:((cQ Z++cQ Z).drop 3).take 3=cQ Z:=rfl;have cl:(cQ Z++cQ Z).length=6:=rfl;have n1:¬cQ Z++cQ Z=[]:=fun e=>by unfold cQ at e;cases e
   have n0:((0:Int) !=0)=false:=by decide
   refine .inl ⟨_,by simp only[go_sem,t1,t2,t3,t22,t23,t24,E,g1,g2,g3,g4,g5,k4,k5,t0,a1,p1,p2,p5,c0,a6,c1,cl,n1,n0];rfl,?_⟩;simp only[go_sem,t1,t2,t3,t22,t23]
   first
    |exact⟨rfl,G,E⟩
    |exact⟨G,E⟩) (by
   clear hL;rintro ⟨T,σ,nx⟩ ⟨t1,t2,t3,t22,t23,t24,G,E⟩;simp only at t1 t2 t3 t22 t23 t24 G E;exact⟨_,by simp only[go_sem,t23,t24,zk];rfl,by simp,_,_,_,rfl⟩) (by
   simp only[go_sem]
   try rfl)
 simp only[go_sem]
theorem OL{s:Structure}(h:Aj s)(E:okStructure s){l:List Int}(J:Ai s.joints.length l){q:List Rat}(G:EqP s l q):fn ZL conv ext 16 [.agg (cStructure s),LI l,LL cQ q]=some (Bo true):=by
 have O:=Yh h E J G;have S:=ae9 h E G;rw[m_,mg [.tmp 6] [] func16];simp only[go_sem,O,S]
end Go.Proofs.YtkpdoehbhmipcaaGreat
/- What a plan begins and ends with; what can be reached. -/
namespace Go.Proofs.YtkpdoehbhmipcaaGreat
open Go Go.TV Go.Plan
theorem abB{y:Yard}{a t:Nat}(G:Ak y)(E:BI y (a:Int) (t:Int)=false)(ha:a<y.stances.length)(O:t<y.stances.length):(t:Int)∉Ed y (a:Int):=fun hm=>by
 unfold Ed at hm
 split at hm
 .rw[acJ]at hm
  have J:0<=dst (Dw y) (Dj (Ac y)) t (a:Int).toNat:=by simpa using hm.2
  have es:Pv y (Ac y) (t:Int)=dst (Dw y) (Dj (Ac y)) t:=by funext i;unfold Pv;rw[sH ⟨by omega,by omega⟩,zJ]
  unfold BI at E;rw[iD G,es]at E;rw[sF J,sF (p:=(0:Int)<=(a:Int)) (by omega),sF (p:=(a:Int)<_) (by omega)]at E;cases E
 .cases hm
theorem ae_{y:Yard}{fr to:Int}(E:BI y fr to=true):to∈Ed y fr:=by
 obtain⟨G,a,t,d,rfl,rfl,ha,J,S,-⟩:=gy E;have O:=(Ob (mv:=Dw y) (al:=Dj (Ac y)) (to:=t) (i:=a) (by omega)).1;have hb:inB (a:Int) 0 ((y.stances.length:Int) - 1)=true:=by unfold inB;rw[sF (by omega),sF (by omega)];rfl
 unfold Ed endsB;rw[iD G,hb,zJ,O,sH (show(true && (true && true) && true)=true from rfl),acJ];exact⟨J,sF (by omega)⟩
theorem ae'{y:Yard}{fr to:Int}(E:BI y fr to=true):∃h:0<(Dh y fr to).length,(Dh y fr to)[0]=fr/\(Dh y fr to)[(Dh y fr to).length-1]=to:=by
 obtain⟨Y,a,t,d,rfl,rfl,ha,ht,J,e⟩:=gy E;have G:∀i,Dj (Ac y) i=true->i<y.stances.length:=fun i hi=>by have:=rE hi;rw[dJ]at this;exact this
 have O:=jv G (mv:=Dw y) (to:=t) (a:=a) d (by rw[J];omega);have S:=(ahF (mv:=Dw y) (al:=Dj (Ac y)) (to:=t) (i:=TT (Dw y) (dst (Dw y) (Dj (Ac y)) t) y.stances.length a d) (by rw[O,J];omega)).1;refine⟨by rw[e];simp[Af],?_,?_⟩
 .simp[e,Af,TT]
 .simp[e,Af,S]
end Go.Proofs.YtkpdoehbhmipcaaGreat
