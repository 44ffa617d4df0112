import Derived.Test.YtjknobpihkmilaaGreatTb2
set_option linter.unusedSimpArgs false
set_option linter.unusedVariables false
set_option linter.unusedSectionVars false
set_option linter.defProp false
set_option maxRecDepth 10000
set_option maxHeartbeats 4000000
open Go.Proofs.Tryz renaming prog->gu
open Go.Proofs.Tryz
open Bool renaming false_eq_true->yR,not_false->vH
open Classical renaming byContradiction->zh
open Int renaming mul_le_mul_of_nonneg_right->zf,lt_irrefl->zX,mul_le_mul_of_nonneg_left->zO,mul_add->yE,le_of_lt->xu,le_refl->xg,natCast_mul->xQ,natAbs_natCast->xP,tmod_eq_emod_of_nonneg->xE,tdiv_eq_ediv_of_nonneg->xC,mul_nonneg->wU,mul_assoc->wB,toNat_of_nonneg->vw,natAbs_neg->vg,mul_zero->vT,sub_mul->vK,mul_sub->vJ,mul_lt_mul_of_pos_right->um
open List renaming getElem?_eq_getElem->zy,getD_eq_getElem?_getD->zx,getElem_mem->zq,length_append->zo,take_of_length_le->zk,getElem?_append_left->zZ,length_take->zY,length_drop->zW,mem_cons_of_mem->zU,getElem?_append_right->zS,mem_cons->zQ,flatMap_cons->zJ,mem_cons_self->zH,not_mem_nil->zG,append_assoc->zF,flatMap_append->zC,length_map->zB,append_nil->zA,getElem?_map->yg,getElem?_eq_none->yZ,length_eraseIdx_of_lt->yY,drop_zero->yX,take_length->yV,length_singleton->yT,drop_eq_getElem_cons->yQ,ext_getElem->yP,length_set->yO,length_replicate->yM,replicate_succ->yL,getElem_of_mem->yK,getElem_append_left->yH,getElem?_drop->yG,drop_of_length_le->yD,mem_singleton->yC,set_append_right->yA,getElem?_take->xk,take_left'->xZ,cons_append->xY,map_congr_left->xX,map_cons->xJ,all_cons->xH,all_nil->xG,take_add_one->wz,getElem?_range->wu,drop_append_of_le_length->wo,getElem_set->wX,all_eq_true->wW,getElem_map->wL,take_append_drop->wJ,replicate_append_replicate->wG,mem_of_mem_eraseIdx->wE,take_append_of_le_length->w_,getElem_cons_zero->vX,set_cons_zero->vV,range_succ->vS,getElem_append_right->vN,set_eq_take_append_cons_drop->vM,eraseIdx_eq_take_drop_succ->uz,mem_append->uq,eraseIdx_sublist->uo
open Nat renaming le_refl->zu,le_trans->zL,not_lt_zero->zK,zero_add->yu,mul_one->yj,sub_self->yh,mul_le_mul_right->yc,min_eq_left->yB,lt_of_lt_of_le->xq,succ_mul->wY,zero_le->wM,lt_or_eq_of_le->wK,mul_le_mul->wH,le_of_lt_succ->wC,div_div_eq_div_mul->vZ,add_comm->vU,div_le_self->uw
open Ne renaming symm->yS
open Option renaming bind_some->zl,map_some->zT,getD_some->yJ
open Rat renaming mul_nonneg->xw,intCast_neg->wP,le_of_lt->wF,div_def->vY,intCast_mul->vP,mul_zero->vB
open Option.some renaming injEq->uj
open Prod.mk renaming injEq->uh
namespace Go.Lp
def Zr(d:Nat)(w:Nat->Rat):Prop:=∀q,q<d->w q=0
def Lp:Nat->(Nat->Rat)->Prop
 |0,_=>False
 |d+1,w=>Lp d w\/(Zr d w/\0<w d)
def Nn(d:Nat)(w:Nat->Rat):Prop:=Lp d w\/Zr d w
theorem Zr.succ{d:Nat}{w:Nat->Rat}:Zr (d+1) w↔Zr d w/\w d=0 :=
 ⟨fun h=>⟨fun q G=>h q (by omega),h d (by omega)⟩,fun h q G=>by
  rcases wK (wC G)with E|E
  .exact h.1 q E
  .rw[E];exact h.2⟩
theorem Lp.Fp{w:Nat->Rat}:∀ {d:Nat},Lp d w->¬Zr d w
 |0,h,_=>h
 |d+1,h,E=>by
  have E:=Zr.succ.mp E;rcases h with h|⟨_,h⟩
  .exact h.Fp E.1
  .have:=E.2;grind
theorem WZ(w:Nat->Rat):∀d,Lp d w\/Zr d w\/Lp d (fun q=> -w q)
 |0=> .inr (.inl fun q E=>by omega)
 |d+1=>by
  rcases WZ w d with h|h|h
  .exact .inl (.inl h)
  .by_cases G:w d=0
   .exact .inr (.inl (Zr.succ.mpr ⟨h,G⟩))
   .by_cases hp:0<w d
    .exact .inl (.inr ⟨h,hp⟩)
    .exact .inr (.inr (.inr ⟨fun q E=>by show -w q=0;rw[h q E];rfl,by show 0< -w d;grind⟩))
  .exact .inr (.inr (.inl h))
theorem Lp.congr{w v:Nat->Rat}:∀ {d:Nat},(∀q,q<d->w q=v q)->Lp d w->Lp d v
 |0,_,h=>h
 |d+1,e,h=>by
  rcases h with h|⟨G,J⟩
  .exact .inl (Lp.congr (fun q E=>e q (by omega)) h)
  .exact .inr ⟨fun q E=>by rw[<- e q (by omega)];exact G q E,by rw[<- e d (by omega)];exact J⟩
theorem Zr.congr{d:Nat}{w v:Nat->Rat}(e:∀q,q<d->w q=v q)(h:Zr d w):Zr d v:=fun q E=>by rw[<- e q E];exact h q E
theorem Zr.add{d:Nat}{w v:Nat->Rat}(h:Zr d w)(G:Zr d v):Zr d fun q=>w q+v q:=fun q E=>by
 show w q+v q=0;rw[h q E,G q E];grind
theorem Lp.Fq{w v:Nat->Rat}:∀ {d:Nat},Lp d w->Zr d v->Lp d fun q=>w q+v q
 |d+1,h,E=>by
  have E:=Zr.succ.mp E;rcases h with h|⟨G,J⟩
  .exact .inl (h.Fq E.1)
  .exact .inr ⟨G.add E.1,by show 0<w d+v d;rw[E.2];grind⟩
theorem Lp.add{w v:Nat->Rat}:∀ {d:Nat},Lp d w->Lp d v->Lp d fun q=>w q+v q
 |d+1,h,G=>by
  rcases h with h|⟨J,S⟩<;>rcases G with G|⟨E,O⟩
  .exact .inl (h.add G)
  .exact .inl (h.Fq E)
  .exact .inl ((G.Fq J).congr fun q _=>by grind)
  .exact .inr ⟨J.add E,by show 0<w d+v d;grind⟩
theorem Nn.add{d:Nat}{w v:Nat->Rat}(h:Nn d w)(E:Nn d v):Nn d fun q=>w q+v q:=by
 rcases h with h|h<;>rcases E with E|E
 .exact .inl (h.add E)
 .exact .inl (h.Fq E)
 .exact .inl ((E.Fq h).congr fun q _=>by grind)
 .exact .inr (h.add E)
theorem Lp.abV{d:Nat}{w v:Nat->Rat}(h:Lp d w)(E:Nn d v):Lp d fun q=>w q+v q:=by
 rcases E with E|E
 .exact h.add E
 .exact h.Fq E
theorem Lp.smul{w:Nat->Rat}{a:Rat}(ha:0<a):∀ {d:Nat},Lp d w->Lp d fun q=>a*w q
 |d+1,h=>by
  rcases h with h|⟨E,G⟩
  .exact .inl (h.smul ha)
  .exact .inr ⟨fun q J=>by show a*w q=0;rw[E q J];grind,Rat.mul_pos ha G⟩
theorem Zr.smul{d:Nat}{w:Nat->Rat}(a:Rat)(h:Zr d w):Zr d fun q=>a*w q:=fun q E=>by show a*w q=0;rw[h q E];grind
theorem Nn.smul{d:Nat}{w:Nat->Rat}{a:Rat}(ha:0<=a)(h:Nn d w):Nn d fun q=>a*w q:=by
 by_cases E:a=0
 .subst E;exact .inr fun q _=>by show 0*w q=0;grind
 .rcases h with h|h
  .exact .inl (h.smul (by grind))
  .exact .inr (h.smul a)
theorem LG{d:Nat}{w:Nat->Rat}(h:¬Lp d w):Nn d fun q=> -w q:=by
 rcases WZ w d with E|E|E
 .exact absurd E h
 .exact .inr fun q G=>by show -w q=0;rw[E q G];rfl
 .exact .inl E
theorem LH{d:Nat}{w:Nat->Rat}(h:Nn d fun q=> -w q):¬Lp d w:=fun hp=>by
 have E:=hp.abV h;exact E.Fp fun q _=>by show w q+ -w q=0;grind
theorem Nn.sum{d:Nat}{f:Nat->Nat->Rat}:∀ {n:Nat},(∀j,j<n->Nn d fun q=>f q j)->Nn d fun q=>sm (f q) n
 |0,_=> .inr fun q _=>rfl
 |n+1,h=>(Nn.sum fun j E=>h j (by omega)).add (h n (by omega))
theorem ah3{d n:Nat}{f:Nat->Nat->Rat}(h:Lp d fun q=>sm (f q) n):∃j,j<n/\Lp d fun q=>f q j:=by
 refine zh fun hn=>LH ?_ h
 have E:Nn d fun q=>sm (fun j=> -f q j) n:=Nn.sum fun j G=>LG fun hp=>hn ⟨j,G,hp⟩
 refine E.imp (Lp.congr fun q _=>?_) (Zr.congr fun q _=>?_)
 all_goals
  show sm (fun j=> -f q j) n= -sm (f q) n;have:=jv (-1) (f q) n;rw[show(fun j=> -f q j)=fun j=> -1*f q j by funext j;grind,this];grind
def gv(m:Nat)(T:Tab)(C:Nat->Nat->Rat)(j:Nat):Nat->Rat:=fun q=>gm m T (C q) j
structure Enters (m n d:Nat) (C:Nat->Nat->Rat) (Fr:Nat->Prop) (T:Tab) (s:Nat):Prop where
 lt:s<n
 fr:Fr s
 non:¬basic m T s
 pos:Lp d (gv m T C s)
 low:∀j,j<s->Fr j->¬basic m T j->¬Lp d (gv m T C j)
structure Leaves (m:Nat) (T:Tab) (s r:Nat):Prop where
 lt:r<m
 pos:0<T.e r s
 low:∀i,i<m->0<T.e i s->T.b r*T.e i s<=T.b i*T.e r s
 tie:∀i,i<m->0<T.e i s->T.b r*T.e i s=T.b i*T.e r s->T.B r<=T.B i
def Step(m n d:Nat)(C:Nat->Nat->Rat)(Fr:Nat->Prop)(T T':Tab):Prop:=∃s r,Enters m n d C Fr T s/\Leaves m T s r/\T'=piv T r s
section
variable {m n d:Nat} {C:Nat->Nat->Rat} {Fr:Nat->Prop}
theorem LJ{T:Tab}(h:Ok m n T){r s:Nat}(S:r<m)(hs:s<n)(E:Ok m n (piv T r s))(hp:0<T.e r s)(c:Nat->Rat):zz m (piv T r s) c=zz m T c+T.b r / T.e r s*gm m T c s:=by
 have O:T.e r s≠0:=by grind
 rw[<- WY E c,nM ((NY S O _).mp (tX E))];congr 1;have Y:(piv T r s).B r=s:=by simp[piv]
 have hb:eU m (piv T r s) s=T.b r / T.e r s:=by
  have:=Gn E S;rw[Y]at this;rw[this];simp[piv]
 unfold ob;rw[jq hs fun j hj G=>?_,hb,Rat.mul_comm]
 by_cases J:basic m T j
 .obtain⟨i,hi,rfl⟩:=J
  rw[J7 h c hi,Rat.zero_mul]
 .rw[tY,vB]
  rintro ⟨i,hi,e⟩;simp only[piv]at e
  split at e
  .exact G e.symm
  .exact J ⟨i,hi,e⟩
theorem tV{T:Tab}{r s:Nat}(G:r<m)(j:Nat):basic m (piv T r s) j↔j=s\/∃i,i<m/\i≠r/\T.B i=j:=by
 constructor
 .rintro ⟨i,hi,e⟩
  simp only[piv]at e
  split at e
  .exact .inl e.symm
  .rename_i E;exact .inr ⟨i,hi,E,e⟩
 .rintro (rfl|⟨i,hi,E,e⟩)
  .exact⟨r,G,by simp[piv]⟩
  .exact⟨i,hi,by simp[piv,E,e]⟩
theorem abW{T:Tab}(h:Ok m n T){r s:Nat}(O:r<m)(E:T.b r=0)(j:Nat):eU m (piv T r s) j=eU m T j:=by
 unfold eU;refine jw fun i hi=>?_
 by_cases e:i=r
 .subst e
  have G:(piv T i s).b i=0:=by
   simp only[piv,if_true,E];rw[vY];grind
  rw[G,E];simp
 .have G:(piv T r s).b i=T.b i:=by
   simp only[piv,ug e,E];rw[vY];grind
  have J:(piv T r s).B i=T.B i:=by simp only[piv,ug e]
  rw[G,J]
def dir(m:Nat)(T:Tab)(s:Nat)(j:Nat):Rat:=(if j=s then 1 else 0) - sm (fun i=>if T.B i=j then T.e i s else 0) m
theorem IW{T:Tab}{s:Nat}(hs:¬basic m T s):dir m T s s=1:=by
 unfold dir;rw[uf rfl,jo fun i hi=>ug fun e=>hs ⟨i,hi,e⟩];grind
theorem QU{T:Tab}(h:Ok m n T){s:Nat}(hs:¬basic m T s){i:Nat}(hi:i<m):dir m T s (T.B i)= -T.e i s:=by
 unfold dir;rw[ug fun e=>hs ⟨i,hi,e⟩,jq hi fun k G E=>ug fun e=>E (h.inj G hi e),uf rfl];grind
theorem rC{T:Tab}{s j:Nat}(G:¬basic m T j)(E:j≠s):dir m T s j=0:=by
 unfold dir;rw[ug E,jo fun i hi=>ug fun e=>G ⟨i,hi,e⟩];grind
theorem Ea{T:Tab}(h:Ok m n T){s:Nat}(hs:s<n)(G:¬basic m T s)(a:Rat):WX m n T fun j=>eU m T j+a*dir m T s j:=fun i hi=>by
 have O:sm (fun j=>T.e i j*(eU m T j+a*dir m T s j)) n=sm (fun j=>T.e i j*eU m T j) n+a*sm (fun j=>T.e i j*dir m T s j) n:=by
  rw[<- jv,<- kC];exact jw fun j _=>by grind
 have S:sm (fun j=>T.e i j*dir m T s j) n=0:=by
  have q:sm (fun j=>T.e i j*dir m T s j) n=sm (fun j=>if j=s then T.e i j else 0) n-sm (fun j=>if j=T.B i then T.e i s else 0) n:=by
   rw[<- IU];refine jw fun j Y=>?_
   by_cases hb:basic m T j
   .obtain⟨k,J,rfl⟩:=hb
    rw[QU h G J,h.un i k hi J,ug fun e=>G ⟨k,J,e⟩]
    by_cases e:i=k
    .subst e;rw[uf rfl,uf rfl];grind
    .rw[ug e,ug fun q=>e (h.inj J hi q).symm];grind
   .have E:¬j=T.B i:=fun e=>hb ⟨i,hi,e.symm⟩
    by_cases e:j=s
    .subst e;rw[IW hb,uf rfl,ug E];grind
    .rw[rC hb e,ug e,ug E];grind
  rw[q,jq hs fun j _ E=>ug E,jq (h.bn i hi) fun j _ E=>ug E];simp only[if_true];grind
 rw[O,tX h i hi,S];grind
end
end Go.Lp
namespace Go.Lp
section
variable {m n d:Nat} {C:Nat->Nat->Rat} {Fr:Nat->Prop}
theorem Step.ok{T T':Tab}(h:Ok m n T)(hs:Step m n d C Fr T T'):Ok m n T':=by
 obtain⟨s,r,G,E,rfl⟩:=hs;exact ah2 h E.lt G.lt E.pos fun i hi hp=>E.low i hi hp
structure Chain (m n d:Nat) (C:Nat->Nat->Rat) (Fr:Nat->Prop) (f:Nat->Tab) (s r:Nat->Nat) (a b:Nat):Prop where
 ok:∀i,a<=i->i<=b->Ok m n (f i)
 en:∀i,a<=i->i<b->Enters m n d C Fr (f i) (s i)
 lv:∀i,a<=i->i<b->Leaves m (f i) (s i) (r i)
 nx:∀i,a<=i->i<b->f (i+1)=piv (f i) (r i) (s i)
variable {f:Nat->Tab} {s r:Nat->Nat} {a b:Nat}
def zv(m:Nat)(T:Tab)(C:Nat->Nat->Rat):Nat->Rat:=fun q=>zz m T (C q)
theorem Chain.mono(h:Chain m n d C Fr f s r a b){i j:Nat}(ha:a<=i)(J:i<=j)(hb:j<=b):Nn d fun q=>zv m (f j) C q-zv m (f i) C q:=by
 induction j with
 |zero=>obtain rfl:i=0:=by omega
        exact .inr fun q _=>by show _ - _=_;grind
 |succ j O=>
  by_cases e:i=j+1
  .subst e;exact .inr fun q _=>by show _ - _=_;grind
  .have S:=O (by omega) (by omega)
   have E:=h.ok j (by omega) (by omega);have G:=h.ok (j+1) (by omega) (by omega);have en:=h.en j (by omega) (by omega);have lv:=h.lv j (by omega) (by omega);rw[h.nx j (by omega) (by omega)]at G⊢;have Y:0<=(f j).b (r j) / (f j).e (r j) (s j):=by
    rw[vY];exact xw (E.nb _ lv.lt) (wF (Rat.inv_pos.mpr lv.pos))
   have h2:=Nn.smul (d:=d) (w:=gv m (f j) C (s j)) Y (.inl en.pos);have h3:=S.add h2;refine h3.imp (Lp.congr fun q _=>?_) (Zr.congr fun q _=>?_)
   all_goals
    have:=LJ E lv.lt en.lt G lv.pos (C q);unfold zv gv;rw[this];grind
theorem Chain.flat(h:Chain m n d C Fr f s r a b)(O:Zr d fun q=>zv m (f b) C q-zv m (f a) C q){i:Nat}(ha:a<=i)(hb:i<b):(f i).b (r i)=0:=by
 have E:=h.ok i ha (by omega);have G:=h.ok (i+1) (by omega) (by omega);have en:=h.en i ha hb;have lv:=h.lv i ha hb;refine zh fun h0=>?_
 have J:0<(f i).b (r i) / (f i).e (r i) (s i):=by
  rw[vY];have:=E.nb _ lv.lt;exact Rat.mul_pos (by grind) (Rat.inv_pos.mpr lv.pos)
 have S:=h.mono (zu a) ha (by omega);have Y:=h.mono (i:=i+1) (j:=b) (by omega) (by omega) (zu _);have h3:=(Lp.smul (d:=d) (w:=gv m (f i) C (s i)) J en.pos).abV (S.add Y);refine h3.Fp (O.congr fun q _=>?_);rw[h.nx i ha hb]at G⊢;have:=LJ E lv.lt en.lt G lv.pos (C q);unfold zv gv at *;rw[this];grind
theorem Chain.still(h:Chain m n d C Fr f s r a b)(E:Zr d fun q=>zv m (f b) C q-zv m (f a) C q){i:Nat}(ha:a<=i)(hb:i<=b)(j:Nat):eU m (f i) j=eU m (f a) j:=by
 induction i with
 |zero=>obtain rfl:a=0:=by omega
        rfl
 |succ i G=>
  by_cases e:a=i+1
  .rw[e]
  .rw[h.nx i (by omega) (by omega),abW (h.ok i (by omega) (by omega)) (h.lv i (by omega) (by omega)).lt (h.flat E (by omega) (by omega))]
   exact G (by omega) (by omega)
theorem Chain.QV(h:Chain m n d C Fr f s r a b){j:Nat}(E:∀i,a<=i->i<b->s i≠j){i k:Nat}(ha:a<=i)(O:i<=k)(hb:k<=b)(J:¬basic m (f i) j):¬basic m (f k) j:=by
 induction k with
 |zero=>obtain rfl:i=0:=by omega
        exact J
 |succ k S=>
  by_cases e:i=k+1
  .rw[<- e];exact J
  .have Y:=S (by omega) (by omega)
   rw[h.nx k (by omega) (by omega),tV (h.lv k (by omega) (by omega)).lt];rintro (G|⟨q,hq,_,G⟩)
   .exact E k (by omega) (by omega) G.symm
   .exact Y ⟨q,hq,G⟩
theorem Chain.IX(h:Chain m n d C Fr f s r a b){j:Nat}(E:∀i,a<=i->i<b->(f i).B (r i)≠j){i k:Nat}(ha:a<=i)(O:i<=k)(hb:k<=b)(J:basic m (f i) j):basic m (f k) j:=by
 induction k with
 |zero=>obtain rfl:i=0:=by omega
        exact J
 |succ k S=>
  by_cases e:i=k+1
  .rw[<- e];exact J
  .have Y:=S (by omega) (by omega)
   rw[h.nx k (by omega) (by omega),tV (h.lv k (by omega) (by omega)).lt];obtain⟨q,hq,G⟩:=Y;refine .inr ⟨q,hq,fun e=>?_,G⟩;rw[e]at G;exact E k (by omega) (by omega) G
theorem greatest{p:Nat->Prop}{N:Nat}(G:∀j,p j->j<N){j:Nat}(J:p j):∃t,p t/\∀k,p k->k<=t:=by
 induction N generalizing j with
 |zero=>exact absurd (G j J) (by omega)
 |succ N O=>
  by_cases h:p N
  .exact⟨N,h,fun k E=>by have:=G k E;omega⟩
  .exact O (fun k E=>by
    have:=G k E;have:k≠N:=fun e=>h (e ▸ E)
    omega) J
theorem Fv(h:Chain m n d C Fr f s r a b){i k:Nat}(ha:a<=i)(E:i<=k)(hb:k<=b)(x:Nat->Rat):WX m n (f k) x↔WX m n (f i) x:=by
 induction k with
 |zero=>obtain rfl:i=0:=by omega
        exact Iff.rfl
 |succ k G=>
  by_cases e:i=k+1
  .rw[<- e]
  .have lv:=h.lv k (by omega) (by omega)
   have hp:=lv.pos;rw[h.nx k (by omega) (by omega),NY lv.lt (by grind)];exact G (by omega) (by omega)
theorem abX(h:Chain m n d C Fr f s r a b)(h6:a<b)(c0:∀j,j<n->(basic m (f a) j↔basic m (f b) j)):False:=by
 have a7:∀i,a<=i->i<=b->∀j,basic m (f i) j->j<n:=fun i ha hb j S=>by
  obtain⟨q,hq,rfl⟩:=S;exact(h.ok i ha hb).bn q hq
 have b5:∀j,(basic m (f a) j↔basic m (f b) j):=fun j=>
  ⟨fun S=>(c0 j (a7 a (zu _) (by omega) j S)).mp S,fun S=>(c0 j (a7 b (by omega) (zu _) j S)).mpr S⟩
 have c2:=h.ok a (zu _) (by omega);have c3:=h.ok b (by omega) (zu _);have b6:∀j,j<n->eU m (f b) j=eU m (f a) j:=Vl c2 ((Fv h (zu _) (by omega) (zu _) _).mp (tX c3)) fun j _ S=>tY fun hb=>S ((b5 j).mpr hb)
 have hz:Zr d fun q=>zv m (f b) C q-zv m (f a) C q:=fun q _=>by
  show zz m (f b) (C q) - zz m (f a) (C q)=0;rw[<- WY c3,<- WY c2];have:ob n (C q) (eU m (f b))=ob n (C q) (eU m (f a)):=jw fun j S=>by rw[b6 j S]
  rw[this];grind
 obtain⟨t,⟨u,G,b7,c4⟩,b4⟩:=greatest (p:=fun j=>∃i,a<=i/\i<b/\s i=j) (N:=n) (fun j ⟨i,h1,h2,h3⟩=>h3 ▸ (h.en i h1 h2).lt) (j:=s a) ⟨a,zu _,h6,rfl⟩;have Y:=h.en u G b7;rw[c4]at Y;have h7:=h.ok u G (by omega);obtain⟨v,J,b8,a8⟩:∃v,a<=v/\v<b/\(f v).B (r v)=t:=by
  refine zh fun hn=>Y.non ?_
  have E:∀i,a<=i->i<b->(f i).B (r i)≠t:=fun i h1 h2 h3=>hn ⟨i,h1,h2,h3⟩
  have h1:basic m (f (u+1)) t:=by
   rw[h.nx u G b7,tV (h.lv u G b7).lt];exact .inl c4.symm
  have h2:=h.IX E (i:=u+1) (k:=b) (by omega) (by omega) (zu _) h1;exact h.IX E (zu a) G (by omega) ((b5 t).mpr h2)
 have env:=h.en v J b8;have a6:=h.lv v J b8;have a1:=h.ok v J (by omega);have h8:∀j,basic m (f v) j->¬basic m (f u) j->∃i,a<=i/\i<b/\s i=j:=fun j hv hu=>by
  refine zh fun hn=>?_
  have E:∀i,a<=i->i<b->s i≠j:=fun i h1 h2 h3=>hn ⟨i,h1,h2,h3⟩
  have h1:=h.QV E G (by omega) (zu b) hu;have h2:=h.QV E (zu a) J (by omega) fun hb=>h1 ((b5 j).mp hb)
  exact h2 hv
 have zero:∀ {i:Nat},i<m->¬basic m (f u) ((f v).B i)->(f v).b i=0:=fun {i} hi hu=>by
  rw[<- Gn a1 hi,h.still hz J (by omega),<- h.still hz G (by omega)];exact tY hu
 have c5:=Ea a1 env.lt env.non 1;have c6:=tX a1;have c7:∀x,WX m n (f v) x->WX m n (f u) x:=fun x hx=>by
  rcases Nat.le_total u v with b9|b9
  .exact(Fv h G b9 (by omega) x).mp hx
  .exact(Fv h J b9 (by omega) x).mpr hx
 have key:∀q,gm m (f v) (C q) (s v)=sm (fun j=>gm m (f u) (C q) j*dir m (f v) (s v) j) n:=fun q=>by
  have h9:∀T,ob n (gm m T (C q)) (fun j=>eU m (f v) j+1*dir m (f v) (s v) j)=ob n (gm m T (C q)) (eU m (f v))+ob n (gm m T (C q)) (dir m (f v) (s v)):=fun T=>by
   unfold ob;rw[<- kC];exact jw fun j _=>by grind
  have e1:=nM (c:=C q) c5;have e2:=nM (c:=C q) c6;have e3:=nM (c:=C q) (c7 _ c5);have e4:=nM (c:=C q) (c7 _ c6);rw[h9]at e1 e3;have e5:ob n (gm m (f v) (C q)) (dir m (f v) (s v))=gm m (f v) (C q) (s v):=by
   unfold ob;rw[jq env.lt fun j S E=>?_,IW env.non,Rat.mul_one]
   by_cases hb:basic m (f v) j
   .obtain⟨i,hi,rfl⟩:=hb
    rw[J7 a1 _ hi,Rat.zero_mul]
   .rw[rC hb E,vB]
  have e6:ob n (gm m (f u) (C q)) (dir m (f v) (s v))=sm (fun j=>gm m (f u) (C q) j*dir m (f v) (s v) j) n:=rfl;rw[<- e6,<- e5];grind
 have c8:Lp d fun q=>sm (fun j=>gm m (f u) (C q) j*dir m (f v) (s v) j) n:=env.pos.congr fun q _=>key q
 obtain⟨j,S,O⟩:=ah3 c8;have c9:dir m (f v) (s v) j≠0:=fun e=>O.Fp fun q _=>by show _*_=(0:Rat);rw[e,vB]
 have b3:¬basic m (f u) j:=by
  rintro ⟨i,hi,rfl⟩;exact O.Fp fun q _=>by show _*_=(0:Rat);rw[J7 h7 _ hi,Rat.zero_mul]
 by_cases e0:basic m (f v) j
 .obtain⟨i,hi,rfl⟩:=e0
  rw[QU a1 env.non hi]at O c9;obtain⟨w,e7,e8,e9⟩:=h8 _ ⟨i,hi,rfl⟩ b3;have hle:=b4 _ ⟨w,e7,e8,e9⟩
  by_cases h0:(f v).B i=t
  ·-- t itself
   have i0:i=r v:=a1.inj hi a6.lt (h0.trans a8.symm);subst i0;have hp:=a6.pos;refine LH (w:=fun q=>gm m (f u) (C q) ((f v).B (r v))* -(f v).e (r v) (s v)) ?_ O;rw[h0]at *;have:=Nn.smul (d:=d) (wF hp) (.inl Y.pos);exact this.imp (Lp.congr fun q _=>by unfold gv;grind) (Zr.congr fun q _=>by unfold gv;grind)
  .have a7:(f v).B i<t:=by omega
   have i1:Fr ((f v).B i):=by have:=(h.en w e7 e8).fr;rwa [e9]at this
   have h4:=Y.low _ a7 i1 b3;have hp:0<(f v).e i (s v):=by
    refine zh fun hq=>h4 ?_
    have h5:0< -(f v).e i (s v):=by grind
    have:=Lp.smul (d:=d) (Rat.inv_pos.mpr h5) O;exact this.congr fun q _=>by unfold gv;grind
   have b1:=zero hi b3;have b2:=zero a6.lt (by rw[a8];exact Y.non);have:=a6.tie i hi hp (by rw[b1,b2];grind);rw[a8]at this;omega
 .have i2:j=s v:=zh fun E=>c9 (rC e0 E)
  subst i2;rw[IW env.non]at O;have hle:=b4 _ ⟨v,J,b8,rfl⟩;have E:s v≠t:=fun e=>env.non (by rw[e,<- a8];exact⟨r v,a6.lt,rfl⟩)
  exact Y.low _ (by omega) env.fr b3 (O.congr fun q _=>by unfold gv;grind)
end
end Go.Lp
namespace Go.Lp
def code(p:Nat->Bool):Nat->Nat
 |0=>0
 |n+1=>code p n+(if p n then 2^n else 0)
theorem G_(p:Nat->Bool):∀n,code p n<2^n
 |0=>by simp[code]
 |n+1=>by
  have:=G_ p n;unfold code;rw[Nat.pow_succ]
  split<;>omega
theorem code_inj{p q:Nat->Bool}:∀ {n:Nat},code p n=code q n->∀j,j<n->p j=q j
 |0,_,j,hj=>by omega
 |n+1,h,j,hj=>by
  have S:=G_ p n;have Y:=G_ q n;unfold code at h;have G:p n=q n:=by
   cases hp:p n<;>cases J:q n
   .rfl
   .simp only[hp,J,yR,if_false,if_true]at h;omega
   .simp only[hp,J,yR,if_false,if_true]at h;omega
   .rfl
  have O:code p n=code q n:=by rw[G]at h;omega
  rcases wK (wC hj)with E|E
  .exact code_inj O j E
  .rw[E];exact G
theorem abZ:∀(N:Nat) (g:Nat->Nat),(∀i,i<=N->g i<N)->∃i j,i<j/\j<=N/\g i=g j
 |0,g,h=>absurd (h 0 (zu _)) (by omega)
 |N+1,g,h=>by
  by_cases hc:∃i,i<=N/\g i=g (N+1)
  .obtain⟨i,hi,e⟩:=hc
   exact⟨i,N+1,by omega,zu _,e⟩
  .have hl:=h (N+1) (zu _)
   have E:∀i,i<=N->g i≠g (N+1):=fun i hi e=>hc ⟨i,hi,e⟩
   obtain⟨i,j,G,O,e⟩:=abZ N (fun i=>if g i=N then g (N+1)else g i) (fun i hi=>by
    have S:=h i (by omega);have Y:=E i hi;show(if g i=N then g (N+1)else g i)<N
    split<;>omega)
   refine⟨i,j,G,by omega,?_⟩;have S:=E i (by omega);have Y:=E j O;have J:(if g i=N then g (N+1)else g i)=(if g j=N then g (N+1)else g j):=e
   split at J<;>split at J<;>omega
section
variable {m n d:Nat} {C:Nat->Nat->Rat} {Fr:Nat->Prop}
def ab1(m n d:Nat)(C:Nat->Nat->Rat)(Fr:Nat->Prop):Nat->Tab->Prop
 |0,_=>False
 |k+1,T=>∀T',Step m n d C Fr T T'->ab1 m n d C Fr k T'
theorem QW:∀ {k:Nat} {T:Tab},¬ab1 m n d C Fr k T->∃f:Nat->Tab,f 0=T/\∀i,i<k->Step m n d C Fr (f i) (f (i+1))
 |0,T,_=>⟨fun _=>T,rfl,fun i h=>by omega⟩
 |k+1,T,h=>by
  unfold ab1 at h;obtain⟨T',E⟩:=Classical.not_forall.mp h;obtain⟨G,J⟩:=Classical.not_imp.mp E;obtain⟨f,O,S⟩:=QW J;refine⟨fun i=>if i=0 then T else f (i-1),rfl,fun i hi=>?_⟩;cases i with
  |zero=>simpa[O]using G
  |succ i=>simpa using S i (by omega)
theorem agV{T:Tab}(h:Ok m n T):ab1 m n d C Fr (2^n) T:=by
 refine zh fun hn=>?_
 obtain⟨f,Y,hs⟩:=QW hn;have J:∀i,i<=2^n->Ok m n (f i):=fun i=>by
  induction i with
  |zero=>intro _;rw[Y];exact h
  |succ i ih=>intro hi;exact(hs i (by omega)).ok (ih (by omega))
 have:∃E:Nat->Nat×Nat,∀i,i<2^n->Enters m n d C Fr (f i) (E i).1/\Leaves m (f i) (E i).1 (E i).2/\f (i+1)=piv (f i) (E i).2 (E i).1:=by
  refine⟨fun i=>if hi:i<2^n then ⟨(hs i hi).choose,(hs i hi).choose_spec.choose⟩else(0,0),fun i hi=>?_⟩;simp only[dif_pos hi];exact(hs i hi).choose_spec.choose_spec
 obtain⟨E,G⟩:=this;have dec:∀i,∃p:Nat->Bool,∀j,p j=true↔basic m (f i) j:=fun i=>by
  refine⟨fun j=>@decide (basic m (f i) j) (Classical.propDecidable _),fun j=>?_⟩;simp
 obtain⟨i,j,O,hj,e⟩:=abZ (2^n) (fun i=>code (dec i).choose n) (fun i _=>G_ _ _);have hb:∀k,k<n->(basic m (f i) k↔basic m (f j) k):=fun k hk=>by
  rw[<- (dec i).choose_spec k,<- (dec j).choose_spec k,code_inj e k hk]
 exact abX (m:=m) (n:=n) (d:=d) (C:=C) (Fr:=Fr) (f:=f) (s:=fun i=>(E i).1) (r:=fun i=>(E i).2) (a:=i) (b:=j)
  ⟨fun k _ S=>J k (by omega),fun k _ S=>(G k (by omega)).1,fun k _ S=>(G k (by omega)).2.1,fun k _ S=>(G k (by omega)).2.2⟩ O hb
def ab2(m n:Nat)(T:Tab)(x:Nat->Rat):Prop:=WX m n T x/\∀j,j<n->0<=x j
theorem ab3{T:Tab}(h:Ok m n T):ab2 m n T (eU m T):=⟨tX h,fun j _=>IV h j⟩
theorem optimal{T:Tab}(Y:Ok m n T)(E:∀j,j<n->Fr j->¬basic m T j->¬Lp d (gv m T C j)){x:Nat->Rat}(O:ab2 m n T x)(G:∀j,j<n->¬Fr j->¬basic m T j->x j=0) :
  Nn d fun q=>zz m T (C q) - ob n (C q) x:=by
 have h1:Nn d fun q=>sm (fun j=> -(gm m T (C q) j*x j)) n:=Nn.sum fun j J=>by
  by_cases hb:basic m T j
  .obtain⟨i,hi,rfl⟩:=hb
   exact .inr fun q _=>by show -(gm m T (C q) (T.B i)*x (T.B i))=0;rw[J7 Y _ hi];grind
  .by_cases S:Fr j
   .have:=Nn.smul (d:=d) (O.2 j J) (LG (E j J S hb))
    exact this.imp (Lp.congr fun q _=>by unfold gv;grind) (Zr.congr fun q _=>by unfold gv;grind)
   .exact .inr fun q _=>by show -(gm m T (C q) j*x j)=0;rw[G j J S hb];grind
 refine h1.imp (Lp.congr fun q _=>?_) (Zr.congr fun q _=>?_)
 all_goals
  have e1:=nM (c:=C q) O.1;have e2:=jv (-1) (fun j=>gm m T (C q) j*x j) n;have e3:sm (fun j=> -(gm m T (C q) j*x j)) n=sm (fun j=> -1*(gm m T (C q) j*x j)) n:=jw fun j _=>by grind
  show sm (fun j=> -(gm m T (C q) j*x j)) n=_;rw[e3,e2,e1];unfold ob;grind
theorem unbounded{T:Tab}(h:Ok m n T){s:Nat}(hs:s<n)(E:¬basic m T s)(J:∀i,i<m->T.e i s<=0)(c:Nat->Rat)(a:Rat)(ha:0<=a) :
  ∃x,ab2 m n T x/\ob n c x=zz m T c+a*gm m T c s:=by
 refine⟨fun j=>eU m T j+a*dir m T s j,⟨Ea h hs E a,fun j O=>?_⟩,?_⟩
 .show 0<=eU m T j+a*dir m T s j
  by_cases hb:basic m T j
  .obtain⟨i,hi,rfl⟩:=hb
   rw[QU h E hi,Gn h hi];have S:=h.nb i hi;have Y:=xw ha (show 0<= -T.e i s by have:=J i hi;grind);grind
  .by_cases e:j=s
   .subst e;rw[IW E,tY hb];grind
   .rw[rC hb e,tY hb];grind
 .rw[nM (Ea h hs E a)]
  congr 1;unfold ob;rw[jq hs fun j O G=>?_]
  .show gm m T c s*(eU m T s+a*dir m T s s)=_
   rw[IW E,tY E];grind
  .by_cases hb:basic m T j
   .obtain⟨i,hi,rfl⟩:=hb
    rw[J7 h _ hi,Rat.zero_mul]
   .show gm m T c j*(eU m T j+a*dir m T s j)=0
    rw[rC hb G,tY hb];grind
end
end Go.Lp
namespace Go.Lp
def sg(k:Nat):Rat:=if k%2=0 then 1 else -1
theorem afx(k:Nat):sg (k+1)= -sg k:=by
 unfold sg
 by_cases h:k%2=0
 .rw[uf h,ug (by omega)]
 .rw[ug h,uf (by omega)];rfl
def rem(i:Nat)(V:Nat->Nat->Rat):Nat->Nat->Rat:=fun p=>V (if p<i then p else p+1)
def put(V:Nat->Nat->Rat)(p:Nat)(u:Nat->Rat):Nat->Nat->Rat:=fun q=>if q=p then u else V q
def gZ:Nat->(Nat->Nat->Rat)->Rat
 |0,_=>1
 |m+1,V=>sm (fun i=>sg (i+m)*V i m*gZ m (rem i V)) (m+1)
theorem rM:∀ {m:Nat} {V W:Nat->Nat->Rat},(∀i k,i<m->k<m->V i k=W i k)->gZ m V=gZ m W
 |0,_,_,_=>rfl
 |m+1,V,W,h=>by
  unfold gZ;refine jw fun i hi=>?_
  rw[h i m hi (by omega),rM (m:=m) (V:=rem i V) (W:=rem i W) fun p k hp E=>?_];unfold rem;exact h _ k (by split<;>omega) (by omega)
theorem lJ(V:Nat->Nat->Rat)(p:Nat)(u:Nat->Rat):rem p (put V p u)=rem p V:=by
 funext q;unfold rem put;rw[ug]
 split<;>omega
theorem lK{V:Nat->Nat->Rat}{i p:Nat}(u:Nat->Rat)(h:i≠p):rem i (put V p u)=put (rem i V) (if p<i then p else p-1) u:=by
 funext q;unfold rem put
 by_cases e:(if q<i then q else q+1)=p
 .rw[uf e,uf]
  split at e<;>split<;>omega
 .have E:¬q=(if p<i then p else p-1):=by split at e<;>split<;>omega
  rw[ug e,ug E]
theorem He:∀ {m:Nat} (V:Nat->Nat->Rat) {p:Nat} (_:p<m) (a b:Rat) (u w:Nat->Rat),gZ m (put V p fun k=>a*u k+b*w k)=a*gZ m (put V p u)+b*gZ m (put V p w)
 |m+1,V,p,hp,a,b,u,w=>by
  unfold gZ;rw[<- jv,<- jv,<- kC];refine jw fun i hi=>?_
  by_cases e:i=p
  .subst e
   rw[lJ,lJ,lJ];simp only[put,if_true];grind
  .rw[lK _ e,lK _ e,lK _ e,He (m:=m) (rem i V) (by split<;>omega) a b u w]
   simp only[put,ug e];grind
theorem lX(V:Nat->Nat->Rat)(p:Nat):put V p (V p)=V:=by
 funext q;unfold put
 split
 .rename_i h;rw[h]
 .rfl
theorem lZ(V:Nat->Nat->Rat){p q:Nat}(h:p≠q)(u w:Nat->Rat):put (put V p u) q w=put (put V q w) p u:=by
 funext i;unfold put
 by_cases e:i=q
 .subst e;rw[uf rfl,ug (yS h),uf rfl]
 .rw[ug e,ug e]
theorem NZ(m:Nat)(V:Nat->Nat->Rat){p:Nat}(hp:p<m)(u w:Nat->Rat):gZ m (put V p fun k=>u k+w k)=gZ m (put V p u)+gZ m (put V p w):=by
 have:=He V hp 1 1 u w;rw[Rat.one_mul,Rat.one_mul]at this;rw[<- this];congr 2;funext k;grind
theorem Hf:∀ {m:Nat} {V:Nat->Nat->Rat} {p:Nat},p+1<m->(∀k,k<m->V p k=V (p+1) k)->gZ m V=0
 |m+1,V,p,hp,h=>by
  unfold gZ;have other:∀i,i<m+1->i≠p->i≠p+1->sg (i+m)*V i m*gZ m (rem i V)=0:=fun i hi J Y=>by
   have:gZ m (rem i V)=0:=by
    by_cases a1:i<p
    .refine Hf (p:=p-1) (by omega) fun k hk=>?_
     unfold rem;rw[ug (by omega),ug (by omega)];have:=h k (by omega);rw[show p-1+1=p by omega];exact this
    .refine Hf (p:=p) (by omega) fun k hk=>?_
     unfold rem;rw[uf (by omega),uf (by omega)];exact h k (by omega)
   rw[this,vB]
  have G:∀(f:Nat->Rat) (n:Nat),p+1<n->(∀i,i<n->i≠p->i≠p+1->f i=0)->sm f n=f p+f (p+1):=by
   intro f n hn hz;have e:sm f n=sm (fun i=>if i=p then f i else 0) n+sm (fun i=>if i=p+1 then f i else 0) n:=by
    rw[<- kC];refine jw fun i hi=>?_
    by_cases O:i=p
    .rw[uf O,ug (by omega)];grind
    .rw[ug O]
     by_cases S:i=p+1
     .rw[uf S];grind
     .rw[ug S,hz i hi O S];grind
   rw[e,jq (k:=p) (by omega) fun i _ E=>ug E,jq (k:=p+1) hn fun i _ E=>ug E,uf rfl,uf rfl]
  rw[G _ _ hp other];have hm:gZ m (rem p V)=gZ m (rem (p+1) V):=rM fun q k hq hk=>by
   unfold rem
   by_cases J:q<p
   .rw[uf J,uf (by omega)]
   .rw[ug J]
    by_cases Y:q=p
    .subst Y;rw[uf (by omega)];exact(h k (by omega)).symm
    .rw[ug (by omega)]
  rw[hm,h m (by omega),show p+1+m=p+m+1 by omega,afx];grind
theorem ab4{m:Nat}{V:Nat->Nat->Rat}{p:Nat}(hp:p+1<m)(u w:Nat->Rat):gZ m (put (put V p u) (p+1) w)= -gZ m (put (put V p w) (p+1) u):=by
 have E:p≠p+1:=by omega
 have z:∀x:Nat->Rat,gZ m (put (put V p x) (p+1) x)=0:=fun x=>Hf hp fun k _=>by
  unfold put;rw[ug E,uf rfl,uf rfl]
 have h:=z fun k=>u k+w k
 rw[NZ m _ hp,lZ _ E,NZ m _ (by omega),lZ _ E,NZ m _ (by omega),lZ _ (yS E),lZ _ (yS E),lZ _ (yS E) ,lZ _ (yS E)]at h;have:=z u;have:=z w;grind
theorem put_eq(V:Nat->Nat->Rat)(p q:Nat):put (put V p (V p)) q (V q)=V:=by rw[lX,lX]
theorem N7{m:Nat}:∀(g:Nat) {V:Nat->Nat->Rat} {p:Nat},p+1+g<m->(∀k,k<m->V p k=V (p+1+g) k)->gZ m V=0
 |0,V,p,hp,h=>Hf hp h
 |g+1,V,p,hp,h=>by
  have e:=ab4 (m:=m) (V:=V) (p:=p+1+g) (by omega) (V (p+1+g)) (V (p+1+g+1));rw[put_eq]at e;rw[e,N7 g (p:=p) (by omega) fun k E=>?_]
  .rfl
  .have G:p≠p+1+g+1:=by omega
   have J:p≠p+1+g:=by omega
   have O:p+1+g≠p+1+g+1:=by omega
   unfold put;rw[ug G,ug J,ug O,uf rfl];exact h k E
theorem ah4{m:Nat}{V:Nat->Nat->Rat}{p q:Nat}(hp:p<m)(O:q<m)(E:p≠q)(h:∀k,k<m->V p k=V q k):gZ m V=0:=by
 rcases Nat.lt_or_gt_of_ne E with G|G
 .exact N7 (q-p-1) (p:=p) (by omega) fun k J=>by rw[show p+1+(q-p-1)=q by omega];exact h k J
 .exact N7 (p-q-1) (p:=q) (by omega) fun k J=>by rw[show q+1+(p-q-1)=p by omega];exact(h k J).symm
theorem W9{m:Nat}(V:Nat->Nat->Rat){p:Nat}(hp:p<m)(c:Nat->Rat)(W:Nat->Nat->Rat):∀n,gZ m (put V p fun k=>sm (fun j=>c j*W j k) n)=sm (fun j=>c j*gZ m (put V p (W j))) n
 |0=>by
  have h:=He V hp 0 0 (fun _=>0) (fun _=>0);have e:(fun k:Nat=>(0:Rat)*(fun _:Nat=>(0:Rat)) k+0*(fun _:Nat=>(0:Rat)) k)=fun k=>sm (fun j=>c j*W j k) 0:=by funext k;unfold sm;grind
  rw[e]at h;rw[h];unfold sm;grind
 |n+1=>by
  have h:=He V hp 1 (c n) (fun k=>sm (fun j=>c j*W j k) n) (W n);have e:(fun k:Nat=>(1:Rat)*(fun k=>sm (fun j=>c j*W j k) n) k+c n*W n k)=fun k=>sm (fun j=>c j*W j k) (n+1):=by funext k;show 1*sm _ n+_=sm _ n+_;grind
  rw[e,W9 V hp c W n]at h;rw[h];show _=sm _ n+_;grind
theorem N8{m:Nat}(V:Nat->Nat->Rat){i:Nat}(hi:i<m)(c:Nat->Rat)(w:Nat->Rat)(hw:∀k,k<m->w k=sm (fun p=>c p*V p k) m):gZ m (put V i w)=c i*gZ m V:=by
 have e:gZ m (put V i w)=gZ m (put V i fun k=>sm (fun p=>c p*V p k) m):=rM fun q k _ G=>by
  unfold put
  split
  .exact hw k G
  .rfl
 rw[e,W9 V hi c V,jq hi fun p hp E=>?_,lX];rw[ah4 (p:=i) (q:=p) hi hp (yS E) fun k _=>?_,vB];unfold put;rw[uf rfl,ug E]
def OZ(q:Rat):Prop:=∃z:Int,q=z
theorem OZ.add{a b:Rat}(h:OZ a)(E:OZ b):OZ (a+b):=by
 obtain⟨x,rfl⟩:=h;obtain⟨y,rfl⟩:=E;exact⟨x+y,by simp⟩
theorem OZ.mul{a b:Rat}(h:OZ a)(E:OZ b):OZ (a*b):=by
 obtain⟨x,rfl⟩:=h;obtain⟨y,rfl⟩:=E;exact⟨x*y,by simp⟩
theorem OZ.sum{f:Nat->Rat}:∀ {n:Nat},(∀j,j<n->OZ (f j))->OZ (sm f n)
 |0,_=>⟨0,rfl⟩
 |n+1,h=>(OZ.sum fun j E=>h j (by omega)).add (h n (by omega))
theorem ah5(k:Nat):OZ (sg k):=by
 unfold sg
 split
 .exact⟨1,rfl⟩
 .exact⟨-1,rfl⟩
theorem agW:∀ {m:Nat} {V:Nat->Nat->Rat},(∀i k,i<m->k<m->OZ (V i k))->OZ (gZ m V)
 |0,_,_=>⟨1,rfl⟩
 |m+1,V,h=>OZ.sum fun i hi=>((ah5 _).mul (h i m hi (by omega))).mul (agW fun p k hp E=>h _ k (by split<;>omega) (by omega))
def Bd(M a:Rat):Prop:=-M<=a/\a<=M
theorem Bd.mul{M N a b:Rat}(h:Bd M a)(E:Bd N b):Bd (M*N) (a*b):=by
 obtain⟨G,J⟩:=h;obtain⟨O,S⟩:=E;have Y:0<=M:=by grind
 have e1:=xw (show 0<=M-a by grind) (show 0<=N-b by grind);have e2:=xw (show 0<=M+a by grind) (show 0<=N+b by grind);have e3:=xw (show 0<=M-a by grind) (show 0<=N+b by grind);have e4:=xw (show 0<=M+a by grind) (show 0<=N-b by grind);constructor<;>grind
theorem Bd.sum{f:Nat->Rat}{M:Rat}:∀ {n:Nat},(∀j,j<n->Bd M (f j))->Bd (n*M) (sm f n)
 |0,_=>by
  have e:((0:Nat):Rat)*M=0:=by simp
  unfold Bd sm;rw[e];constructor<;>decide
 |n+1,h=>by
  have E:=Bd.sum (n:=n) fun j G=>h j (by omega)
  have J:=h n (by omega);unfold Bd at *;have e:((n+1:Nat):Rat)*M=n*M+M:=by simp;grind
  rw[e];unfold sm;constructor<;>grind
theorem ak9(k:Nat):Bd 1 (sg k):=by
 unfold sg Bd
 split<;>constructor<;>decide
def fact(M:Nat):Nat->Nat
 |0=>1
 |m+1=>(m+1)*(M*fact M m)
theorem ab5:∀ {m:Nat} {V:Nat->Nat->Rat} {M:Nat},(∀i k,i<m->k<m->Bd M (V i k))->Bd (fact M m) (gZ m V)
 |0,_,_,_=>by unfold Bd fact gZ;constructor<;>decide
 |m+1,V,M,h=>by
  have E:=Bd.sum (n:=m+1) (f:=fun i=>sg (i+m)*V i m*gZ m (rem i V)) (M:=1*M*fact M m) fun i hi=>((ak9 _).mul (h i m hi (by omega))).mul (ab5 fun p k hp G=>h _ k (by split<;>omega) (by omega))
  have e:((m+1:Nat):Rat)*(1*M*fact M m)=(fact M (m+1):Nat):=by
   show _=(((m+1)*(M*fact M m):Nat):Rat);rw[Rat.natCast_mul,Rat.natCast_mul];grind
  rw[e]at E;exact E
theorem N9:∀m,gZ m (fun i k=>if i=k then 1 else 0)=1
 |0=>rfl
 |m+1=>by
  unfold gZ;rw[jq (k:=m) (by omega) fun i hi E=>by show sg (i+m)*(if i=m then 1 else 0)*_=0;rw[ug E];grind];show sg (m+m)*(if m=m then 1 else 0)*_=1;rw[uf rfl];have e:gZ m (rem m fun i k=>if i=k then(1:Rat)else 0)=gZ m (fun i k=>if i=k then 1 else 0):=rM fun i k hi G=>by
   unfold rem;rw[uf hi]
  rw[e,N9 m];unfold sg;rw[uf (by omega)];grind
end Go.Lp
namespace Go.Lp
structure S_ (m n:Nat) (A:Nat->Nat->Rat) (w:Nat->Rat) (T:Tab):Prop where
 col:∀j k,j<n->k<m->A j k=sm (fun p=>T.e p j*A (T.B p) k) m
 rhs:∀k,k<m->w k=sm (fun p=>T.b p*A (T.B p) k) m
 ind:gZ m (fun p=>A (T.B p))≠0
section
variable {m n:Nat} {A:Nat->Nat->Rat} {w:Nat->Rat} {T:Tab}
theorem ab6{m r:Nat}(G:r<m)(f g u:Nat->Rat)(t v:Rat)(J:f r=g r*t)(O:sm (fun p=>g p*u p) m=v) :
  sm (fun p=>(if p=r then t else f p-g p*t)*(if p=r then v else u p)) m=sm (fun p=>f p*u p) m:=by
 have e:sm (fun p=>(if p=r then t else f p-g p*t)*(if p=r then v else u p)) m=sm (fun p=>f p*u p) m-t*sm (fun p=>g p*u p) m+sm (fun p=>if p=r then t*v else 0) m:=by
  rw[<- jv,<- IU,<- kC];refine jw fun p _=>?_
  by_cases h:p=r
  .subst h;simp only[if_true,J];grind
  .simp only[ug h];grind
 rw[e,O,jq G fun p _ E=>ug E,uf rfl];grind
theorem S_.piv(h:S_ m n A w T){r s:Nat}(J:r<m)(hs:s<n)(hp:T.e r s≠0):S_ m n A w (piv T r s):=by
 have key:∀(f:Nat->Rat) (k:Nat),k<m->sm (fun p=>(if p=r then f r / T.e r s else f p-T.e p s*(f r / T.e r s))*A (if p=r then s else T.B p) k) m=sm (fun p=>f p*A (T.B p) k) m:=fun f k E=>by
  rw[<- ab6 J f (fun p=>T.e p s) (fun p=>A (T.B p) k) (f r / T.e r s) (A s k) (by grind) (h.col s k hs E).symm];refine jw fun p _=>?_
  by_cases e:p=r
  .subst e;simp only[if_true]
  .simp only[ug e]
 refine⟨fun j k O E=>?_,fun k E=>?_,?_⟩
 .rw[h.col j k O E,<- key (fun p=>T.e p j) k E]
  rfl
 .rw[h.rhs k E,<- key T.b k E]
  rfl
 .have e:(fun p=>A ((Lp.piv T r s).B p))=put (fun p=>A (T.B p)) r (A s):=by
   funext p k;unfold put Lp.piv;simp only
   by_cases e:p=r
   .rw[uf e,uf e]
   .rw[ug e,ug e]
  rw[e,N8 (fun p=>A (T.B p)) J (fun p=>T.e p s) (A s) fun k E=>h.col s k hs E];intro S;rcases Rat.mul_eq_zero.mp S with G|G
  .exact hp G
  .exact h.ind G
theorem S_.ent(h:S_ m n A w T){i j:Nat}(hi:i<m)(E:j<n):T.e i j*gZ m (fun p=>A (T.B p))=gZ m (put (fun p=>A (T.B p)) i (A j)) :=
 (N8 (fun p=>A (T.B p)) hi (fun p=>T.e p j) (A j) fun k G=>h.col j k E G).symm
theorem S_.right(h:S_ m n A w T){i:Nat}(hi:i<m):T.b i*gZ m (fun p=>A (T.B p))=gZ m (put (fun p=>A (T.B p)) i w) :=
 (N8 (fun p=>A (T.B p)) hi T.b w fun k E=>h.rhs k E).symm
theorem S_.W_(h:S_ m n A w T){r s:Nat}(E:r<m)(hs:s<n):gZ m (fun p=>A ((Lp.piv T r s).B p))=T.e r s*gZ m (fun p=>A (T.B p)):=by
 have e:(fun p=>A ((Lp.piv T r s).B p))=put (fun p=>A (T.B p)) r (A s):=by
  funext p k;unfold put Lp.piv;simp only
  by_cases e:p=r
  .rw[uf e,uf e]
  .rw[ug e,ug e]
 rw[e,N8 (fun p=>A (T.B p)) E (fun p=>T.e p s) (A s) fun k G=>h.col s k hs G]
end
def ZB(M:Nat)(q:Rat):Prop:=∃z:Int,q=z/\z.natAbs<=M
theorem ZB.of{M:Nat}{q:Rat}(h:OZ q)(E:Bd M q):ZB M q:=by
 obtain⟨z,rfl⟩:=h;refine⟨z,rfl,?_⟩;obtain⟨G,J⟩:=E;have O:z<=(M:Int):=by exact_mod_cast J
 have S:-(M:Int)<=z:=by
  have:((-(M:Int):Int):Rat)<=z:=by rw[wP];exact G
  exact_mod_cast this
 omega
theorem ZB.isZ{M:Nat}{q:Rat}(h:ZB M q):OZ q:=let ⟨z,e,_⟩:=h;⟨z,e⟩
theorem ZB.bd{M:Nat}{q:Rat}(h:ZB M q):Bd M q:=by
 obtain⟨z,rfl,h⟩:=h;have E:-(M:Int)<=z:=by omega
 have G:z<=(M:Int):=by omega
 constructor
 .have:((-(M:Int):Int):Rat)<=z:=by exact_mod_cast E
  rw[wP]at this;exact this
 .exact_mod_cast G
theorem IZ{m M:Nat}{V:Nat->Nat->Rat}(h:∀i k,i<m->k<m->ZB M (V i k)):ZB (fact M m) (gZ m V) :=
 .of (agW fun i k hi E=>(h i k hi E).isZ) (ab5 fun i k hi E=>(h i k hi E).bd)
section
variable {m n M:Nat} {A:Nat->Nat->Rat} {w:Nat->Rat} {T:Tab}
theorem S_.IZ(J:S_ m n A w T)(E:∀i,i<m->T.B i<n)(hA:∀j k,j<n->k<m->ZB M (A j k)):ZB (fact M m) (gZ m fun p=>A (T.B p)) :=
 Lp.IZ fun i k hi G=>hA _ k (E i hi) G
theorem S_.ab7(h:S_ m n A w T)(J:∀i,i<m->T.B i<n)(hA:∀j k,j<n->k<m->ZB M (A j k)){i j:Nat}(hi:i<m)(E:j<n):ZB (fact M m) (T.e i j*gZ m fun p=>A (T.B p)):=by
 rw[h.ent hi E];refine Lp.IZ fun p k hp G=>?_
 unfold put
 split
 .exact hA j k E G
 .exact hA _ k (J p hp) G
theorem S_.QX(h:S_ m n A w T)(G:∀i,i<m->T.B i<n)(hA:∀j k,j<n->k<m->ZB M (A j k))(hw:∀k,k<m->ZB M (w k)){i:Nat}(hi:i<m):ZB (fact M m) (T.b i*gZ m fun p=>A (T.B p)):=by
 rw[h.right hi];refine Lp.IZ fun p k hp E=>?_
 unfold put
 split
 .exact hw k E
 .exact hA _ k (G p hp) E
end
end Go.Lp
namespace Go.Lp
theorem Xa{m n:Nat}{T:Tab}(h:Ok m n T){r s:Nat}(S:r<m)(hs:s<n)(Y:T.e r s≠0)(h0:T.b r=0):Ok m n (piv T r s):=by
 refine⟨fun i hi=>?_,fun i k hi O=>?_,fun i hi=>?_⟩
 .simp only[piv]
  split
  .exact hs
  .exact h.bn i hi
 .have u1:=h.un i k hi O
  have J:=h.un r k S O;simp only[piv]
  by_cases G:k=r
  .subst G
   rw[uf rfl]
   by_cases E:i=k
   .rw[uf E,uf E];grind
   .rw[ug E,ug E];grind
  .rw[ug G]
   rw[ug (yS G)]at J
   by_cases E:i=r
   .subst E
    rw[uf rfl,ug (yS G),J];grind
   .rw[ug E,u1,J];grind
 .simp only[piv,h0]
  have e:(0:Rat) / T.e r s=0:=by rw[vY];grind
  rw[e];have:=h.nb i hi
  split
  .exact Rat.le_refl
  .grind
structure Prog where
 m:Nat
 n:Nat
 a:Nat->Nat->Rat
 w:Nat->Rat
 c:Nat->Rat
namespace Prog
variable (p:Prog)
def N:Nat:=p.n+p.m
def A(j k:Nat):Rat:=if j<p.n then p.a j k else if k+p.n=j then 1 else 0
def T0:Tab:=⟨fun i j=>p.A j i,p.w,fun i=>i+p.n⟩
def F(x:Nat->Rat):Prop:=(∀k,k<p.m->sm (fun j=>p.a j k*x j) p.n=p.w k)/\∀j,j<p.n->0<=x j
def C(q:Nat)(j:Nat):Rat:=if q=0 then(if j<p.n then p.c j else 0)else if j+1=q/\j<p.n then -1 else 0
def c1(j:Nat):Rat:=if j<p.n then 0 else -1
def None:Prop:=∀x,¬p.F x
def Open:Prop:=∀a:Rat,∃x,p.F x/\a<=ob p.n p.c x
def Best(x:Nat->Rat):Prop:=p.F x/\∀y,p.F y->Nn (p.n+1) fun q=>ob p.n (p.C q) x-ob p.n (p.C q) y
structure Good (T:Tab):Prop where
 ok:Ok p.m p.N T
 ed:S_ p.m p.N p.A p.w T
 sol:∀x,WX p.m p.N T x↔WX p.m p.N p.T0 x
structure Out (T:Tab):Prop where
 z:∀i,i<p.m->p.n<=T.B i->T.b i=0/\∀j,j<p.n->T.e i j=0
variable {p:Prog}
theorem BQ{i k:Nat}:p.A (i+p.n) k=if k=i then 1 else 0:=by
 unfold A;rw[ug (by omega)]
 by_cases h:k=i
 .rw[uf h,uf (by omega)]
 .rw[ug h,ug (by omega)]
theorem ak_(hw:∀k,k<p.m->0<=p.w k):p.Good p.T0:=by
 refine⟨⟨fun i hi=>?_,fun i k hi G=>?_,fun i hi=>hw i hi⟩,⟨fun j k J G=>?_,fun k G=>?_,?_⟩,fun x=>Iff.rfl⟩
 .show i+p.n<p.n+p.m;omega
 .exact BQ
 .show p.A j k=sm (fun q=>p.A j q*p.A (q+p.n) k) p.m
  rw[jq (k:=k) G fun q _ E=>by rw[BQ,ug (yS E)];grind];rw[BQ,uf rfl];grind
 .show p.w k=sm (fun q=>p.w q*p.A (q+p.n) k) p.m
  rw[jq (k:=k) G fun q _ E=>by rw[BQ,ug (yS E)];grind];rw[BQ,uf rfl];grind
 .have e:gZ p.m (fun q=>p.A (q+p.n))=gZ p.m fun i k=>if i=k then 1 else 0:=rM fun i k _ _=>by
   rw[BQ]
   by_cases h:i=k
   .rw[uf h,uf h.symm]
   .rw[ug h,ug (yS h)]
  show gZ p.m (fun q=>p.A (q+p.n))≠0;rw[e,N9];decide
theorem Good.piv{T:Tab}(h:p.Good T){r s:Nat}(J:r<p.m)(hs:s<p.N)(E:T.e r s≠0)(G:Ok p.m p.N (Lp.piv T r s)):p.Good (Lp.piv T r s) :=
 ⟨G,h.ed.piv J hs E,fun x=>(NY J E x).trans (h.sol x)⟩
theorem Good.step{d:Nat}{C:Nat->Nat->Rat}{Fr:Nat->Prop}{T T':Tab}(h:p.Good T)(hs:Step p.m p.N d C Fr T T'):p.Good T':=by
 have E:=hs.ok h.ok;obtain⟨s,r,J,G,rfl⟩:=hs;exact h.piv G.lt J.lt (by have:=G.pos;grind) E
theorem Good.anG{T:Tab}(h:p.Good T){r s:Nat}(G:r<p.m)(hs:s<p.N)(E:T.e r s≠0)(J:T.b r=0):p.Good (Lp.piv T r s) :=
 h.piv G hs E (Xa h.ok G hs E J)
def ext(p:Prog)(x:Nat->Rat)(j:Nat):Rat:=if j<p.n then x j else 0
theorem I4(f:Nat->Rat)(n:Nat):∀m,sm f (n+m)=sm f n+sm (fun i=>f (n+i)) m
 |0=>by show sm f n=sm f n+0;grind
 |m+1=>by
  show sm f (n+m)+f (n+m)=sm f n+(sm _ m+f (n+m));rw[I4 f n m];grind
theorem ak'(x:Nat->Rat):WX p.m p.N p.T0 x↔∀k,k<p.m->sm (fun j=>p.a j k*x j) p.n+x (p.n+k)=p.w k:=by
 refine forall_congr' fun k=>?_
 have G:k<p.m->sm (fun j=>p.T0.e k j*x j) p.N=sm (fun j=>p.a j k*x j) p.n+x (p.n+k):=fun G=>by
  unfold N;rw[I4];congr 1
  .exact jw fun j O=>by show p.A j k*x j=_;unfold A;rw[uf O]
  .rw[jq (k:=k) G fun i _ J=>by
    show p.A (p.n+i) k*_=0;rw[vU,BQ,ug (yS J)];grind]
   show p.A (p.n+k) k*_=_;rw[vU,BQ,uf rfl];grind
 constructor
 .intro h E
  rw[<- G E];exact h E
 .intro h E
  rw[G E];exact h E
theorem QY{T:Tab}(h:p.Good T){x:Nat->Rat}(G:p.F x):ab2 p.m p.N T (p.ext x):=by
 refine⟨(h.sol _).mpr ((ak' _).mpr fun k J=>?_),fun j _=>?_⟩
 .rw[<- G.1 k J]
  have e:p.ext x (p.n+k)=0:=by unfold ext;rw[ug (by omega)]
  rw[e,jw (g:=fun j=>p.a j k*x j) fun j E=>by unfold ext;rw[uf E]];grind
 .unfold ext
  split
  .rename_i E;exact G.2 j E
  .exact Rat.le_refl
theorem LK{T:Tab}(h:p.Good T){x:Nat->Rat}(E:ab2 p.m p.N T x)(J:∀k,k<p.m->x (p.n+k)=0):p.F x:=by
 refine⟨fun k G=>?_,fun j O=>E.2 j (by unfold N;omega)⟩;have:=(ak' x).mp ((h.sol x).mp E.1) k G;rw[J k G]at this;grind
theorem Out.eU{T:Tab}(h:p.Good T)(E:p.Out T){k:Nat}(G:k<p.m):eU p.m T (p.n+k)=0:=by
 by_cases hb:basic p.m T (p.n+k)
 .obtain⟨i,hi,e⟩:=hb
  rw[<- e,Gn h.ok hi];exact(E.z i hi (by omega)).1
 .exact tY hb
theorem Out.F{T:Tab}(h:p.Good T)(E:p.Out T):p.F (Lp.eU p.m T):=LK h (ab3 h.ok) fun _ G=>E.eU h G
theorem Out.piv{T:Tab}(J:p.Out T){r s:Nat}(O:T.B r<p.n)(hs:s<p.n):p.Out (Lp.piv T r s):=by
 refine⟨fun i hi E=>?_⟩;simp only[Lp.piv]at E⊢
 by_cases e:i=r
 .rw[uf e]at E;omega
 .rw[ug e]at E
  obtain⟨S,G⟩:=J.z i hi E;rw[ug e,S,G s hs];refine⟨by grind,fun j Y=>?_⟩;rw[ug e,G j Y];grind
theorem ab8{c:Nat->Rat}(hc:∀j,p.n<=j->c j=0)(x:Nat->Rat):ob p.N c x=ob p.n c x:=by
 unfold ob N;rw[I4,jo (f:=fun i=>c (p.n+i)*x (p.n+i)) fun i _=>by rw[hc _ (by omega)];grind];grind
theorem agX(q:Nat){j:Nat}(E:p.n<=j):p.C q j=0:=by
 unfold C
 split
 .rw[ug (by omega)]
 .rw[ug (by omega)]
theorem afy(c x:Nat->Rat):ob p.n c (p.ext x)=ob p.n c x:=jw fun j E=>by unfold ext;rw[uf E]
theorem ala(x:Nat->Rat):ob p.n (p.C 0) x=ob p.n p.c x:=jw fun j E=>by unfold C;rw[uf rfl,uf E]
theorem Nn.first{d:Nat}{v:Nat->Rat}(h:Nn (d+1) v):0<=v 0:=by
 have key:∀d,Lp (d+1) v->0<=v 0:=by
  intro d
  induction d with
  |zero=>
   rintro (h|⟨_,h⟩)
   .exact h.elim
   .exact wF h
  |succ d E=>
   rintro (h|⟨h,_⟩)
   .exact E h
   .rw[h 0 (by omega)];exact Rat.le_refl
 rcases h with h|h
 .exact key d h
 .rw[h 0 (by omega)];exact Rat.le_refl
theorem phase1{T:Tab}(h:p.Good T){Fr:Nat->Prop}(S:∀j,j<p.n->Fr j)(G:∀j,j<p.N->Fr j->¬basic p.m T j->¬Lp 1 (gv p.m T (fun _=>p.c1) j)) :
  (∀i,i<p.m->p.n<=T.B i->T.b i=0)\/p.None:=by
 by_cases Y:∀i,i<p.m->p.n<=T.B i->T.b i=0
 .exact .inl Y
 .refine .inr fun x hx=>Y fun i hi hB=>?_
  have h1:=optimal h.ok G (QY h hx) (fun j _ hn _=>by unfold ext;rw[ug fun hj=>hn (S j hj)]);have h2:=Nn.first h1;have e:ob p.N p.c1 (p.ext x)=0:=jo fun j _=>by
   unfold c1 ext
   split<;>grind
  simp only[e]at h2;have h3:zz p.m T p.c1= -sm (fun i=>if p.n<=T.B i then T.b i else 0) p.m:=by
   unfold zz;have:=jv (-1) (fun i=>if p.n<=T.B i then T.b i else 0) p.m;have e2:-sm (fun i=>if p.n<=T.B i then T.b i else 0) p.m= -1*sm (fun i=>if p.n<=T.B i then T.b i else 0) p.m:=by grind
   rw[e2,<- this];refine jw fun i _=>?_
   unfold c1
   by_cases J:T.B i<p.n
   .rw[uf J,ug (by omega)];grind
   .rw[ug J,uf (by omega)];grind
  have h4:∀E i,i<E->E<=p.m->(if p.n<=T.B i then T.b i else 0)<=sm (fun i=>if p.n<=T.B i then T.b i else 0) E:=by
   intro E
   induction E with
   |zero=>intro i hi;omega
   |succ E ih=>
    intro i hi hm;have O:∀q,q<p.m->0<=(if p.n<=T.B q then T.b q else 0):=fun q J=>by
     split
     .exact h.ok.nb q J
     .exact Rat.le_refl
    show _<=sm _ E+_
    by_cases e:i=E
    .subst e
     have:=jr (f:=fun i=>if p.n<=T.B i then T.b i else 0) (n:=i) fun q J=>O q (by omega)
     grind
    .have h5:=ih i (by omega) (by omega)
     have h6:=O E (by omega);grind
  have h5:=h4 p.m i hi (zu _);rw[uf hB]at h5;have h6:=h.ok.nb i hi;grind
theorem afz{T:Tab}(h:p.Good T){Fr:Nat->Prop}(G:∀j,j<p.n->Fr j)(E:∀j,j<p.N->Fr j->¬basic p.m T j->¬Lp 1 (gv p.m T (fun _=>p.c1) j)){i:Nat}(hi:i<p.m)(O:p.n<=T.B i)(hb:T.b i≠0):p.None:=by
 rcases phase1 h G E with J|J
 .exact absurd (J i hi O) hb
 .exact J
theorem afA{T:Tab}(h:p.Good T){s:Nat}(hs:s<p.N)(E:¬basic p.m T s)(hp:Lp 1 (gv p.m T (fun _=>p.c1) s)):¬∀i,i<p.m->T.e i s<=0:=fun S=>by
 have Y:0<gm p.m T p.c1 s:=by
  rcases hp with hp|⟨_,hp⟩
  .exact hp.elim
  .exact hp
 have hle:∀x,(∀j,j<p.N->0<=x j)->ob p.N p.c1 x<=0:=fun x G=>by
  have:=jr (f:=fun j=> -(p.c1 j*x j)) (n:=p.N) fun j hj=>by
   have:=G j hj;unfold c1
   split<;>grind
  have e:=jv (-1) (fun j=>p.c1 j*x j) p.N;have J:sm (fun j=> -(p.c1 j*x j)) p.N=sm (fun j=> -1*(p.c1 j*x j)) p.N:=jw fun j _=>by grind
  unfold ob;rw[J,e]at this;grind
 have ha:0<=(1-zz p.m T p.c1) / gm p.m T p.c1 s\/True:=.inr trivial;obtain⟨x,G,e⟩:=unbounded h.ok hs E S p.c1 ((1-zz p.m T p.c1) / gm p.m T p.c1 s) (by
  have h0:=hle _ (fun j _=>IV h.ok j);rw[WY h.ok]at h0;rw[vY];exact xw (by grind) (wF (Rat.inv_pos.mpr Y)))
 have O:=hle x G.2;rw[e]at O;have J:(1-zz p.m T p.c1) / gm p.m T p.c1 s*gm p.m T p.c1 s=1-zz p.m T p.c1:=by grind
 rw[J]at O;grind
theorem QZ{T:Tab}(h:p.Good T)(ho:p.Out T){s:Nat}(hs:s<p.n)(G:¬basic p.m T s)(hg:0<gm p.m T (p.C 0) s)(IY:∀i,i<p.m->T.e i s<=0):p.Open:=fun a=>by
 have key:∀b:Rat,0<=b->p.F fun j=>Lp.eU p.m T j+b*dir p.m T s j:=fun b hb=>by
  have O:s<p.N:=by unfold N;omega
  refine LK h ⟨Ea h.ok O G b,fun j S=>?_⟩ fun k hk=>?_
  .show 0<=Lp.eU p.m T j+b*dir p.m T s j
   by_cases E:basic p.m T j
   .obtain⟨i,hi,rfl⟩:=E
    rw[QU h.ok G hi,Gn h.ok hi];have h1:=h.ok.nb i hi;have h2:=xw hb (show 0<= -T.e i s by have:=IY i hi;grind);grind
   .by_cases e:j=s
    .subst e;rw[IW G,tY E];grind
    .rw[rC E e,tY E];grind
  .show Lp.eU p.m T (p.n+k)+b*dir p.m T s (p.n+k)=0
   rw[ho.eU h hk]
   by_cases E:basic p.m T (p.n+k)
   .obtain⟨i,hi,e⟩:=E
    rw[<- e,QU h.ok G hi,(ho.z i hi (by omega)).2 s hs];grind
   .rw[rC E (by omega)];grind
 have J:∀b:Rat,ob p.n p.c (fun j=>Lp.eU p.m T j+b*dir p.m T s j)=zz p.m T (p.C 0)+b*gm p.m T (p.C 0) s:=fun b=>by
  have O:s<p.N:=by unfold N;omega
  rw[<- ala,<- ab8 (fun j S=>agX 0 S),nM (Ea h.ok O G b)];congr 1;unfold ob;rw[jq O fun j S Y=>?_]
  .show gm p.m T (p.C 0) s*(Lp.eU p.m T s+b*dir p.m T s s)=_
   rw[IW G,tY G];grind
  .by_cases E:basic p.m T j
   .obtain⟨i,hi,rfl⟩:=E
    rw[J7 h.ok _ hi,Rat.zero_mul]
   .show gm p.m T (p.C 0) j*(Lp.eU p.m T j+b*dir p.m T s j)=0
    rw[rC E Y,tY E];grind
 by_cases a1:a<=zz p.m T (p.C 0)
 .refine⟨_,key 0 Rat.le_refl,?_⟩
  rw[J];grind
 .refine⟨_,key ((a-zz p.m T (p.C 0)) / gm p.m T (p.C 0) s) ?_,?_⟩
  .rw[vY]
   exact xw (by grind) (wF (Rat.inv_pos.mpr hg))
  .rw[J]
   have e2:(a-zz p.m T (p.C 0)) / gm p.m T (p.C 0) s*gm p.m T (p.C 0) s=a-zz p.m T (p.C 0):=by grind
   rw[e2];grind
structure Ai (p:Prog) (q:Nat) (v:Nat->Rat) (Fr:Nat->Prop) (T:Tab):Prop where
 top:∀y,p.F y->Nn q (fun i=>v i-ob p.n (p.C i) y)/\(Zr q (fun i=>v i-ob p.n (p.C i) y)->∀j,j<p.n->¬Fr j->y j=0)
 all:∀y,p.F y->(∀j,j<p.n->¬Fr j->y j=0)->∀i,i<q->ob p.n (p.C i) y=v i
 non:∀j,j<p.n->¬Fr j->¬basic p.m T j
 inn:∀j,Fr j->j<p.n
theorem stage0{T:Tab}:Ai p 0 (fun _=>0) (fun j=>j<p.n) T :=
 ⟨fun y _=>⟨.inr fun q G=>by omega,fun _ j E hn=>absurd E hn⟩,fun y _ _ i hi=>by omega,fun j E hn=>absurd E hn,fun _ h=>h⟩
theorem Ai.step{q d:Nat}{v:Nat->Rat}{Fr:Nat->Prop}{C:Nat->Nat->Rat}{T T':Tab}(h:Ai p q v Fr T)(hs:Step p.m p.N d C Fr T T'):Ai p q v Fr T':=by
 obtain⟨s,r,E,G,rfl⟩:=hs;refine⟨h.top,h.all,fun j J hn hb=>?_,h.inn⟩;rcases (tV G.lt j).mp hb with rfl|⟨i,hi,_,e⟩
 .exact hn E.fr
 .exact h.non j J hn ⟨i,hi,e⟩
theorem Ai.next{q:Nat}{v:Nat->Rat}{Fr Fr':Nat->Prop}{T:Tab}(hg:p.Good T)(ho:p.Out T)(h:Ai p q v Fr T)
  (a1:∀j,j<p.n->Fr j->¬basic p.m T j->¬0<gm p.m T (p.C q) j) (J:∀j,j<p.n->(Fr' j↔Fr j/\(basic p.m T j\/¬gm p.m T (p.C q) j<0))) (a7:∀j,Fr' j->j<p.n) :
  Ai p (q+1) (fun i=>if i=q then zz p.m T (p.C q)else v i) Fr' T:=by
 have val:∀y,p.F y->ob p.n (p.C q) y=zz p.m T (p.C q)+sm (fun j=>gm p.m T (p.C q) j*p.ext y j) p.N:=fun y O=>by
  rw[<- afy,<- ab8 fun j E=>agX q E,nM (QY hg O).1];rfl
 have vq:∀i,i<q->(if i=q then zz p.m T (p.C q)else v i)=v i:=fun i hi=>ug (by omega)
 have term:∀y,p.F y->(∀j,j<p.n->¬Fr j->y j=0)->∀j,gm p.m T (p.C q) j*p.ext y j<=0:=fun y O S j=>by
  unfold ext
  split
  .rename_i E
   by_cases G:Fr j
   .by_cases hb:basic p.m T j
    .obtain⟨i,hi,rfl⟩:=hb
     rw[J7 hg.ok _ hi];grind
    .have Y:=a1 j E G hb
     have h2:=O.2 j E;have:=xw (show 0<= -gm p.m T (p.C q) j by grind) h2;grind
   .rw[S j E G];grind
  .grind
 refine⟨fun y O=>?_,fun y O S i hi=>?_,fun j E hn=>?_,a7⟩
 .obtain⟨Y,h2⟩:=h.top y O
  rcases Y with Y|Y
  .have h3:Lp q fun i=>(if i=q then zz p.m T (p.C q)else v i) - ob p.n (p.C i) y:=Y.congr fun i hi=>by rw[vq i hi]
   exact⟨.inl (.inl h3),fun S=>absurd (Zr.succ.mp S).1 h3.Fp⟩
  .have S:=h2 Y
   have h3:Zr q fun i=>(if i=q then zz p.m T (p.C q)else v i) - ob p.n (p.C i) y:=Y.congr fun i hi=>by rw[vq i hi]
   have b5:=jr (f:=fun j=> -(gm p.m T (p.C q) j*p.ext y j)) (n:=p.N) fun j _=>by have:=term y O S j;grind
   have e:=jv (-1) (fun j=>gm p.m T (p.C q) j*p.ext y j) p.N;have e2:sm (fun j=> -(gm p.m T (p.C q) j*p.ext y j)) p.N=sm (fun j=> -1*(gm p.m T (p.C q) j*p.ext y j)) p.N:=jw fun j _=>by grind
   have hv:=val y O;have hd:(if q=q then zz p.m T (p.C q)else v q) - ob p.n (p.C q) y=sm (fun j=> -(gm p.m T (p.C q) j*p.ext y j)) p.N:=by
    rw[uf rfl,hv,e2,e];grind
   by_cases h0:sm (fun j=> -(gm p.m T (p.C q) j*p.ext y j)) p.N=0
   .refine⟨.inr (Zr.succ.mpr ⟨h3,by show(if q=q then zz p.m T (p.C q)else v q) - ob p.n (p.C q) y=0;rw[hd];exact h0⟩),fun _ j E hn=>?_⟩
    by_cases G:Fr j
    .have a8:¬basic p.m T j/\gm p.m T (p.C q) j<0:=by
      refine⟨fun hb=>hn ((J j E).mpr ⟨G,.inl hb⟩),?_⟩;refine zh fun b2=>hn ((J j E).mpr ⟨G,.inr b2⟩)
     have each:∀N (f:Nat->Rat),(∀j,0<=f j)->sm f N=0->∀j,j<N->f j=0:=by
      intro N f G
      induction N with
      |zero=>intro _ j E;omega
      |succ N ih=>
       intro h0 j E;have h4:=jr (f:=f) (n:=N) fun j _=>G j
       have h5:=G N;have h6:sm f N+f N=0:=h0
       by_cases e:j=N
       .subst e;grind
       .exact ih (by grind) j (by omega)
     have h4:=each p.N _ (fun j=>by have:=term y O S j;grind) h0 j (by unfold N;omega);have h5:gm p.m T (p.C q) j*y j=0:=by
      have:p.ext y j=y j:=by unfold ext;rw[uf E]
      rw[this]at h4;grind
     rcases Rat.mul_eq_zero.mp h5 with h6|h6
     .have:=a8.2;grind
     .exact h6
    .exact S j E G
   .have a6:0<sm (fun j=> -(gm p.m T (p.C q) j*p.ext y j)) p.N:=by grind
    refine⟨.inl (.inr ⟨h3,by show 0<(if q=q then zz p.m T (p.C q)else v q) - ob p.n (p.C q) y;rw[hd];exact a6⟩),fun b3=>?_⟩;have:(if q=q then zz p.m T (p.C q)else v q) - ob p.n (p.C q) y=0:=(Zr.succ.mp b3).2;rw[hd]at this;exact absurd this h0
 .have b4:∀j,j<p.n->¬Fr j->y j=0:=fun j E hn=>S j E fun G=>hn ((J j E).mp G).1
  by_cases e:i=q
  .subst e
   rw[uf rfl,val y O,jo fun j _=>?_]
   .grind
   .unfold ext
    split
    .rename_i E
     by_cases G:Fr' j
     .obtain⟨Y,h2⟩:=(J j E).mp G
      rcases h2 with ⟨i,hi,rfl⟩|h2
      .rw[J7 hg.ok _ hi];grind
      .by_cases hb:basic p.m T j
       .obtain⟨i,hi,rfl⟩:=hb
        rw[J7 hg.ok _ hi];grind
       .have h3:=a1 j E Y hb
        have:gm p.m T (p.C i) j=0:=by grind
        rw[this];grind
     .rw[S j E G];grind
    .grind
  .rw[vq i (by omega)]
   exact h.all y O b4 i (by omega)
 .intro hb
  by_cases G:Fr j
  .exact hn ((J j E).mpr ⟨G,.inl hb⟩)
  .exact h.non j E G hb
theorem Ai.best{v:Nat->Rat}{Fr:Nat->Prop}{T:Tab}(O:p.Good T)(S:p.Out T)(h:Ai p (p.n+1) v Fr T):p.Best (Lp.eU p.m T):=by
 have G:=S.F O;refine⟨G,fun y Y=>?_⟩;have J:=h.all _ G fun j hj hn=>tY (h.non j hj hn)
 exact(h.top y Y).1.imp (Lp.congr fun q E=>by rw[J q E]) (Zr.congr fun q E=>by rw[J q E])
end Prog
end Go.Lp
namespace Go.Lp
structure TZ where
 R:List (List Int)
 cu:Int
 B:List Nat
 fr:List Bool
def vI(R:List (List Int))(i:Nat):List Int:=R.getD i []
def en(R:List (List Int))(i j:Nat):Int:=(vI R i).getD j 0
def AU(p f b:Int)(x y:List Int):List Int:=List.zipWith (fun u v=>(u*p-f*v).tdiv b) x y
def dD(R:List (List Int))(r k:Nat)(b:Int):List (List Int):=R.mapIdx fun i x=>if i=r then x else AU (en R r k) (x.getD k 0) b x (vI R r)
def negR(R:List (List Int)):List (List Int):=R.map fun x=>x.map fun z=> -z
def BR(D:TZ)(r k:Nat):TZ :=
 if 0<en D.R r k then ⟨dD D.R r k D.cu,en D.R r k,D.B.set r k,D.fr⟩else ⟨negR (dD D.R r k D.cu),-en D.R r k,D.B.set r k,D.fr⟩
theorem kP{R:List (List Int)}{i:Nat}(h:i<R.length):vI R i=R[i]:=by unfold vI;rw[zx,zy h];rfl
theorem mG(R:List (List Int))(r k:Nat)(b:Int):(dD R r k b).length=R.length:=by unfold dD;rw[List.length_mapIdx]
theorem I5(R:List (List Int)):(negR R).length=R.length:=by unfold negR;rw[zB]
theorem ab9(R:List (List Int))(i j:Nat):en (negR R) i j= -en R i j:=by
 unfold en vI negR;rw[zx,zx,zx,zx,yg];cases R[i]? with
 |none=>simp
 |some x=>
  simp only[zT,yJ,yg];cases x[j]?<;>simp
theorem Gq(R:List (List Int))(r k j:Nat)(b:Int):en (dD R r k b) r j=en R r j:=by
 unfold en vI dD;simp only[zx,List.getElem?_mapIdx];cases R[r]?<;>simp
theorem ab_{R:List (List Int)}{r k i j:Nat}{b:Int}{n:Nat}(hn:∀x∈R,x.length=n)(hi:i<R.length)(G:r<R.length)(Y:j<n)(E:i≠r):en (dD R r k b) i j=(en R i j*en R r k-en R i k*en R r j).tdiv b:=by
 have J:vI (dD R r k b) i=AU (en R r k) (en R i k) b (vI R i) (vI R r):=by
  show(dD R r k b).getD i []=_;unfold dD;rw[zx,List.getElem?_mapIdx,zy hi];simp only[zT,yJ,ug E];unfold en;rw[kP hi]
 have l1:(vI R i).length=n:=by rw[kP hi];exact hn _ (zq hi)
 have l2:(vI R r).length=n:=by rw[kP G];exact hn _ (zq G)
 have key:∀(x y:List Int) (f:Int->Int->Int),j<x.length->j<y.length->(List.zipWith f x y).getD j 0=f (x.getD j 0) (y.getD j 0):=fun x y f O S=>by
  rw[zx,zx,zx,List.getElem?_zipWith,zy O,zy S];rfl
 show(vI (dD R r k b) i).getD j 0=_;rw[J];unfold AU;rw[key _ _ _ (by omega) (by omega)];rfl
structure Vw (p:Prog) (T:Tab) (D:TZ) (ι:List Nat):Prop where
 len:ι.length=D.R.length
 gq:D.B.length=D.R.length
 row:∀x∈D.R,x.length=p.N+1
 lt:∀r∈ι,r<p.m
 nd:ι.Nodup
 ent:∀i j,i<D.R.length->j<p.N->(en D.R i j:Rat)=D.cu*T.e (ι.getD i 0) j
 rhs:∀i,i<D.R.length->(en D.R i p.N:Rat)=D.cu*T.b (ι.getD i 0)
 eU:∀i,i<D.R.length->D.B.getD i 0=T.B (ι.getD i 0)
 pos:0<D.cu
 gZ:(D.cu:Rat)=Lp.gZ p.m (fun q=>p.A (T.B q))\/(D.cu:Rat)= -Lp.gZ p.m (fun q=>p.A (T.B q))
 hid:∀r,r<p.m->r∉ι->p.n<=T.B r/\T.b r=0/\∀j,j<p.n->T.e r j=0
structure Whole (p:Prog) (M:Nat):Prop where
 one:1<=M
 a:∀j k,j<p.n->k<p.m->ZB M (p.a j k)
 w:∀k,k<p.m->ZB M (p.w k)
theorem Whole.A{p:Prog}{M:Nat}(h:Whole p M)(j k:Nat)(E:j<p.N)(G:k<p.m):ZB M (p.A j k):=by
 unfold Prog.A
 split
 .rename_i J;exact h.a j k J G
 .split
  .exact⟨1,rfl,h.one⟩
  .exact⟨0,rfl,wM _⟩
section
variable {p:Prog} {T:Tab} {D:TZ} {ι:List Nat} {M:Nat}
theorem pK{l:List Nat}{i:Nat}(h:i<l.length):l.getD i 0∈l:=by
 rw[zx,zy h];exact zq h
theorem getD_inj{l:List Nat}(hn:l.Nodup){i k:Nat}(hi:i<l.length)(E:k<l.length)(e:l.getD i 0=l.getD k 0):i=k:=by
 rw[zx,zx,zy hi,zy E]at e;exact(List.getElem_inj hn).mp e
theorem nT{l:List Nat}{r:Nat}(h:r∈l):∃i,i<l.length/\l.getD i 0=r:=by
 obtain⟨i,hi,e⟩:=List.mem_iff_getElem.mp h;exact⟨i,hi,by rw[zx,zy hi];exact e⟩
theorem Vw.io(h:Vw p T D ι){i:Nat}(hi:i<D.R.length):ι.getD i 0<p.m:=h.lt _ (pK (by rw[h.len];exact hi))
theorem I7{M:Nat}{b q d:Rat}(hb:b=d\/b= -d)(h:ZB M (q*d)):ZB M (b*q):=by
 obtain⟨z,e,E⟩:=h;rcases hb with rfl|rfl
 .exact⟨z,by rw[<- e];grind,E⟩
 .exact⟨-z,by rw[wP,<- e];grind,by omega⟩
theorem ZB.int{M:Nat}{z:Int}(h:ZB M (z:Rat)):z.natAbs<=M:=by
 obtain⟨y,e,h⟩:=h;have:z=y:=by exact_mod_cast e
 rw[this];exact h
theorem Vw.bound(h:Vw p T D ι)(E:p.Good T)(hw:Whole p M):(∀i j,i<D.R.length->j<=p.N->(en D.R i j).natAbs<=fact M p.m)/\D.cu.natAbs<=fact M p.m:=by
 refine⟨fun i j hi O=>ZB.int ?_,ZB.int ?_⟩
 .by_cases e:j=p.N
  .subst e
   rw[h.rhs i hi];exact I7 h.gZ (E.ed.QX E.ok.bn hw.A hw.w (h.io hi))
  .rw[h.ent i j hi (by omega)]
   exact I7 h.gZ (E.ed.ab7 E.ok.bn hw.A (h.io hi) (by omega))
 .obtain⟨z,e,J⟩:=E.ed.IZ E.ok.bn hw.A
  rcases h.gZ with G|G
  .rw[G];exact⟨z,e,J⟩
  .rw[G];exact⟨-z,by rw[wP,e],by omega⟩
theorem Vw.ne(h:Vw p T D ι):(D.cu:Rat)≠0:=by
 have:=h.pos;intro e;have:D.cu=0:=by exact_mod_cast e
 omega
theorem Vw.pos'(h:Vw p T D ι):(0:Rat)<D.cu:=by have:=h.pos;exact_mod_cast this
theorem Y7{X b z:Int}(hb:b≠0)(h:X=b*z):X.tdiv b=z:=by rw[h,Int.mul_tdiv_cancel_left _ hb]
theorem Vw.cell(h:Vw p T D ι){r k:Nat}(hg:p.Good T)(hw:Whole p M)(O:r<D.R.length)(S:k<p.N)(E:en D.R r k≠0)(G:Ok p.m p.N (piv T (ι.getD r 0) k)) :
  (∀i j,i<D.R.length->i≠r->j<p.N->((en D.R i j*en D.R r k-en D.R i k*en D.R r j).tdiv D.cu:Rat)=en D.R r k*(piv T (ι.getD r 0) k).e (ι.getD i 0) j) /\
  (∀i,i<D.R.length->i≠r->((en D.R i p.N*en D.R r k-en D.R i k*en D.R r p.N).tdiv D.cu:Rat)=en D.R r k*(piv T (ι.getD r 0) k).b (ι.getD i 0)):=by
 have hb:=h.ne;have a1:D.cu≠0:=by have:=h.pos;omega
 have hp:(en D.R r k:Rat)≠0:=fun e=>E (by exact_mod_cast e)
 have ep:=h.ent r k O S;have he:T.e (ι.getD r 0) k≠0:=fun e=>hp (by rw[ep,e];grind)
 have Y:=hg.piv (h.io O) S he G;have hd:=hg.ed.W_ (h.io O) S;have neq:∀i,i<D.R.length->i≠r->¬ι.getD i 0=ι.getD r 0:=fun i hi E e=>E (getD_inj h.nd (by rw[h.len];exact hi) (by rw[h.len];exact O) e)
 have fin:∀(x f y xx ff yy:Rat),x=D.cu*xx->f=D.cu*ff->y=D.cu*yy->x*en D.R r k-f*y=D.cu*(en D.R r k*(xx-ff*(yy / T.e (ι.getD r 0) k))):=fun x f y xx ff yy h1 h2 h3=>by
  subst h1 h2 h3;rw[ep];grind
 have whole:∀q:Rat,ZB (fact M p.m) (q*Lp.gZ p.m fun i=>p.A ((piv T (ι.getD r 0) k).B i))->∃z:Int,(en D.R r k:Rat)*q=z:=fun q hq=>by
  rw[hd]at hq;have:ZB (fact M p.m) ((T.e (ι.getD r 0) k*q)*Lp.gZ p.m fun i=>p.A (T.B i)):=by
   obtain⟨z,e,hz⟩:=hq;exact⟨z,by rw[<- e];grind,hz⟩
  obtain⟨z,e,_⟩:=I7 h.gZ this;exact⟨z,by rw[<- e,ep];grind⟩
 have close:∀(X:Int) (q:Rat),(X:Rat)=D.cu*(en D.R r k*q)->(∃z:Int,(en D.R r k:Rat)*q=z)->((X.tdiv D.cu:Int):Rat)=en D.R r k*q:=fun X q hX ⟨z,hz⟩=>by
  have:X=D.cu*z:=by
   rw[hz]at hX
   exact_mod_cast hX
  rw[Y7 a1 this,hz]
 refine⟨fun i j hi J hj=>?_,fun i hi J=>?_⟩
 .refine close _ _ ?_ (whole _ (Y.ed.ab7 G.bn hw.A (h.io hi) hj))
  rw[Rat.intCast_sub,vP,vP,fin _ _ _ _ _ _ (h.ent i j hi hj) (h.ent i k hi S) (h.ent r j O hj)];simp only[piv,ug (neq i hi J)]
 .refine close _ _ ?_ (whole _ (Y.ed.QX G.bn hw.A hw.w (h.io hi)))
  rw[Rat.intCast_sub,vP,vP,fin _ _ _ _ _ _ (h.rhs i hi) (h.ent i k hi S) (h.rhs r O)];simp only[piv,ug (neq i hi J)]
theorem Q5{l:List Nat}{r k i:Nat}(hi:i<l.length):(l.set r k).getD i 0=if i=r then k else l.getD i 0:=by
 rw[zx,List.getElem?_set,zx]
 by_cases h:r=i
 .subst h;rw[uf rfl,uf hi,uf rfl];rfl
 .rw[ug h,ug (yS h)]
theorem I8{R:List (List Int)}{n:Nat}(h:∀x∈R,x.length=n){r k:Nat}(E:r<R.length)(b:Int):∀x∈dD R r k b,x.length=n:=fun x G=>by
 unfold dD at G;obtain⟨i,hi,rfl⟩:=List.mem_mapIdx.mp G
 split
 .exact h _ (zq hi)
 .unfold AU
  rw[List.length_zipWith,h _ (zq hi),kP E,h _ (zq E)];omega
theorem Vw.piv(h:Vw p T D ι){r k:Nat}(hg:p.Good T)(hw:Whole p M)(J:r<D.R.length)(hk:k<p.N)(O:en D.R r k≠0)(a6:Ok p.m p.N (piv T (ι.getD r 0) k))(hh:k<p.n\/∀r',r'<p.m->r'∈ι) :
  Vw p (Lp.piv T (ι.getD r 0) k) (BR D r k) ι:=by
 obtain⟨c1,c2⟩:=h.cell hg hw J hk O a6;have hp:(en D.R r k:Rat)≠0:=fun e=>O (by exact_mod_cast e)
 have ep:=h.ent r k J hk;have he:T.e (ι.getD r 0) k≠0:=fun e=>hp (by rw[ep,e];grind)
 have hd:=hg.ed.W_ (h.io J) hk;have neq:∀i,i<D.R.length->i≠r->¬ι.getD i 0=ι.getD r 0:=fun i hi O e=>O (getD_inj h.nd (by rw[h.len];exact hi) (by rw[h.len];exact J) e)
 have E:∀i j,i<D.R.length->j<p.N->(en (dD D.R r k D.cu) i j:Rat)=en D.R r k*(Lp.piv T (ι.getD r 0) k).e (ι.getD i 0) j:=fun i j hi S=>by
  by_cases e:i=r
  .subst e
   rw[Gq,h.ent i j hi S,ep];simp only[Lp.piv,if_true];grind
  .rw[ab_ h.row hi J (by omega) e]
   exact c1 i j hi e S
 have Rh:∀i,i<D.R.length->(en (dD D.R r k D.cu) i p.N:Rat)=en D.R r k*(Lp.piv T (ι.getD r 0) k).b (ι.getD i 0):=fun i hi=>by
  by_cases e:i=r
  .subst e
   rw[Gq,h.rhs i hi,ep];simp only[Lp.piv,if_true];grind
  .rw[ab_ h.row hi J (by omega) e]
   exact c2 i hi e
 have hB:∀i,i<D.R.length->(D.B.set r k).getD i 0=(Lp.piv T (ι.getD r 0) k).B (ι.getD i 0):=fun i hi=>by
  rw[Q5 (by rw[h.gq];exact hi)];simp only[Lp.piv]
  by_cases e:i=r
  .subst e;rw[uf rfl,uf rfl]
  .rw[ug e,ug (neq i hi e),h.eU i hi]
 have hid:∀q,q<p.m->q∉ι->p.n<=(Lp.piv T (ι.getD r 0) k).B q/\(Lp.piv T (ι.getD r 0) k).b q=0/\∀j,j<p.n->(Lp.piv T (ι.getD r 0) k).e q j=0:=fun q hq hn=>by
  rcases hh with hh|hh
  .obtain⟨Y,h2,h3⟩:=h.hid q hq hn
   have a7:¬q=ι.getD r 0:=fun e=>hn (by rw[e];exact pK (by rw[h.len];exact J))
   simp only[Lp.piv,ug a7,h2,h3 k hh];refine⟨Y,by grind,fun j S=>?_⟩;rw[h3 j S];grind
  .exact absurd (hh q hq) hn
 have a1:(en D.R r k:Rat)=Lp.gZ p.m (fun q=>p.A ((Lp.piv T (ι.getD r 0) k).B q))\/(en D.R r k:Rat)= -Lp.gZ p.m (fun q=>p.A ((Lp.piv T (ι.getD r 0) k).B q)):=by
  rw[hd,ep];rcases h.gZ with Y|Y<;>rw[Y]
  .exact .inl (by grind)
  .exact .inr (by grind)
 unfold BR
 by_cases G:0<en D.R r k
 .rw[uf G]
  exact⟨by rw[h.len];exact(mG ..).symm,by show(D.B.set r k).length=(dD D.R r k D.cu).length;rw[yO,mG];exact h.gq,I8 h.row J _,h.lt,h.nd,
   fun i j hi S=>E i j (by rw[mG]at hi;exact hi) S,fun i hi=>Rh i (by rw[mG]at hi;exact hi),fun i hi=>hB i (by rw[mG]at hi;exact hi),G,a1,hid⟩
 .rw[ug G]
  have hl:(negR (dD D.R r k D.cu)).length=D.R.length:=by rw[I5,mG]
  refine⟨by rw[h.len];exact hl.symm,by show(D.B.set r k).length=(negR (dD D.R r k D.cu)).length;rw[yO,hl];exact h.gq,fun x hx=>?_,h.lt,h.nd,
   fun i j hi S=>?_,fun i hi=>?_,fun i hi=>hB i (by rw[hl]at hi;exact hi),by show 0< -en D.R r k;omega,?_,hid⟩
  .unfold negR at hx
   obtain⟨y,hy,rfl⟩:=List.mem_map.mp hx;rw[zB];exact I8 h.row J _ y hy
  .show((en (negR (dD D.R r k D.cu)) i j:Int):Rat)=((-en D.R r k:Int):Rat)*_
   rw[ab9,wP,wP,E i j (by rw[hl]at hi;exact hi) S];grind
  .show((en (negR (dD D.R r k D.cu)) i p.N:Int):Rat)=((-en D.R r k:Int):Rat)*_
   rw[ab9,wP,wP,Rh i (by rw[hl]at hi;exact hi)];grind
  .show((-en D.R r k:Int):Rat)=_\/((-en D.R r k:Int):Rat)=_
   rw[wP];rcases a1 with Y|Y<;>rw[Y]
   .exact .inr rfl
   .exact .inl (by grind)
end
end Go.Lp
namespace Go.Lp
def sl(f:Nat->Rat):List Nat->Rat
 |[]=>0
 |r :: l=>f r+sl f l
theorem Q7{f g:Nat->Rat}:∀ {l:List Nat},(∀r∈l,f r=g r)->sl f l=sl g l
 |[],_=>rfl
 |r :: l,h=>by unfold sl;rw[h r zH,Q7 fun q E=>h q (zU _ E)]
theorem agY{m:Nat}:∀ {l:List Nat} {f:Nat->Rat},l.Nodup->(∀r∈l,r<m)->(∀r,r<m->r∉l->f r=0)->sl f l=sm f m
 |[],f,_,_,hz=>(jo fun r E=>hz r E zG).symm
 |a :: l,f,hn,hl,hz=>by
  rw[List.nodup_cons]at hn;have ha:=hl a zH;have J:=agY (m:=m) (l:=l) (f:=fun r=>if r=a then 0 else f r) hn.2 (fun r E=>hl r (zU _ E)) fun r E O=>by
   show(if r=a then(0:Rat)else f r)=0
   split
   .rfl
   .rename_i e;exact hz r E (by simp[e,O])
  have S:sl (fun r=>if r=a then 0 else f r) l=sl f l:=Q7 fun r E=>ug (fun e:r=a=>hn.1 (e ▸ E))
  have Y:sm f m=sm (fun r=>if r=a then 0 else f r) m+sm (fun r=>if r=a then f r else 0) m:=by
   rw[<- kC];refine jw fun r _=>?_
   by_cases e:r=a
   .rw[uf e,uf e];grind
   .rw[ug e,ug e];grind
  show f a+sl f l=_;rw[Y,<- J,S,jq ha fun r _ G=>ug G,uf rfl];grind
def Aa(o:Nat->Int)(k:Nat):List (List Int)->List Nat->Int
 |x :: R,b :: B=>Aa o k R B-x.getD k 0*o b
 |_,_=>0
def dB(D:TZ)(o:Nat->Int)(k:Nat):Int:=D.cu*o k+Aa o k D.R D.B
structure Eb (n:Nat) (D:TZ) (o:Nat->Int) (s:Nat):Prop where
 lt:s<n
 fr:D.fr.getD s false=true
 non:s∉D.B
 pos:0<dB D o s
 low:∀j,j<s->D.fr.getD j false=true->j∉D.B->¬0<dB D o j
structure Xb (n:Nat) (D:TZ) (s r:Nat):Prop where
 lt:r<D.R.length
 pos:0<en D.R r s
 low:∀i,i<D.R.length->0<en D.R i s->en D.R r n*en D.R i s<=en D.R i n*en D.R r s
 tie:∀i,i<D.R.length->0<en D.R i s->en D.R r n*en D.R i s=en D.R i n*en D.R r s->D.B.getD r 0<=D.B.getD i 0
def AV(n:Nat)(o:Nat->Int)(D E:TZ):Prop:=∃s r,Eb n D o s/\Xb n D s r/\E=BR D r s
def Ec(n:Nat)(o:Nat->Int):Nat->TZ->Prop
 |0,_=>False
 |k+1,D=>∀E,AV n o D E->Ec n o k E
section
variable {p:Prog} {T:Tab} {D:TZ} {ι:List Nat} {M:Nat} {o:Nat->Int}
theorem Q8(b:Rat)(k:Nat)(f:Nat->Rat)(B:Nat->Nat):∀(R:List (List Int)) (E:List Nat) (l:List Nat),l.length=R.length->E.length=R.length ->
  (∀i,i<R.length->(en R i k:Rat)=b*f (l.getD i 0))->(∀i,i<R.length->E.getD i 0=B (l.getD i 0)) ->
  (Aa o k R E:Rat)= -(b*sl (fun r=>f r*o (B r)) l)
 |[],E,l,h1,h2,_,_=>by
  cases l with
  |nil=>simp[Aa,sl]
  |cons a l=>simp at h1
 |x :: R,[],l,_,h2,_,_=>by simp at h2
 |x :: R,b' :: E,[],h1,_,_,_=>by simp at h1
 |x :: R,b' :: E,a :: l,h1,h2,h3,h4=>by
  have G:=h3 0 (by simp);have J:b'=B a:=h4 0 (by simp);have O:(x.getD k 0:Rat)=b*f a:=G;have S:=Q8 b k f B R E l (by simpa using h1) (by simpa using h2) (fun i hi=>h3 (i+1) (by simpa using hi)) (fun i hi=>h4 (i+1) (by simpa using hi));show((Aa o k R E-x.getD k 0*o b':Int):Rat)= -(b*(f a*o (B a)+sl _ l));rw[Rat.intCast_sub,vP,S,O,J];grind
theorem Vw.gain(h:Vw p T D ι){k:Nat}(E:k<p.N)(G:∀r,r<p.m->r∉ι->T.e r k*o (T.B r)=0):(dB D o k:Rat)=D.cu*gm p.m T (fun j=>o j) k:=by
 unfold dB;rw[Rat.intCast_add,vP,Q8 D.cu k (fun r=>T.e r k) T.B D.R D.B ι h.len h.gq (fun i hi=>h.ent i k hi E) h.eU,agY h.nd h.lt G];unfold gm;grind
theorem Vw.mem(h:Vw p T D ι){s:Nat}(E:s<p.n\/∀r',r'<p.m->r'∈ι):s∈D.B↔basic p.m T s:=by
 constructor
 .intro hs
  obtain⟨i,hi,e⟩:=nT hs;rw[h.gq]at hi;exact⟨_,h.io hi,by rw[<- h.eU i hi,e]⟩
 .rintro ⟨r,G,rfl⟩
  have hm:r∈ι:=by
   refine zh fun hn=>?_
   rcases E with E|E
   .have:=(h.hid r G hn).1;omega
   .exact hn (E r G)
  obtain⟨i,hi,rfl⟩:=nT hm;rw[h.len]at hi;rw[<- h.eU i hi];exact pK (by rw[h.gq];exact hi)
theorem Vw.sign(h:Vw p T D ι){i k:Nat}(hi:i<D.R.length)(J:k<p.N):(0<en D.R i k↔0<T.e (ι.getD i 0) k)/\(en D.R i k=0↔T.e (ι.getD i 0) k=0):=by
 have e:=h.ent i k hi J;have hb:=h.pos';have hp:(0:Rat)<en D.R i k↔0<en D.R i k:=by
  constructor
  .intro h;exact_mod_cast h
  .intro h;exact_mod_cast h
 refine⟨?_,?_⟩
 .rw[<- hp,e]
  constructor
  .intro E
   refine zh fun G=>?_
   have:=xw (wF hb) (show 0<= -T.e (ι.getD i 0) k by grind);grind
  .intro E;exact Rat.mul_pos hb E
 .constructor
  .intro E
   have:(en D.R i k:Rat)=0:=by rw[E];rfl
   rw[e]at this;rcases Rat.mul_eq_zero.mp this with G|G
   .exact absurd G h.ne
   .exact G
  .intro E
   have:(en D.R i k:Rat)=0:=by rw[e,E];grind
   exact_mod_cast this
theorem Vw.agZ(h:Vw p T D ι){i:Nat}(hi:i<D.R.length):en D.R i p.N=0↔T.b (ι.getD i 0)=0:=by
 have e:=h.rhs i hi;constructor
 .intro E
  have:(en D.R i p.N:Rat)=0:=by rw[E];rfl
  rw[e]at this;rcases Rat.mul_eq_zero.mp this with G|G
  .exact absurd G h.ne
  .exact G
 .intro E
  have:(en D.R i p.N:Rat)=0:=by rw[e,E];grind
  exact_mod_cast this
theorem Vw.nonneg(h:Vw p T D ι)(E:Ok p.m p.N T){i:Nat}(hi:i<D.R.length):0<=en D.R i p.N:=by
 have e:=h.rhs i hi;have:(0:Rat)<=en D.R i p.N:=by rw[e];exact xw (wF h.pos') (E.nb _ (h.io hi))
 exact_mod_cast this
theorem Vw.leaves(h:Vw p T D ι){s r:Nat}(hs:s<p.N)(J:s<p.n\/∀r',r'<p.m->r'∈ι)(G:Xb p.N D s r):Leaves p.m T s (ι.getD r 0):=by
 have seen:∀i,i<p.m->0<T.e i s->∃q,q<D.R.length/\ι.getD q 0=i:=fun i hi hp=>by
  have hm:i∈ι:=by
   refine zh fun hn=>?_
   rcases J with J|J
   .have:=(h.hid i hi hn).2.2 s J;grind
   .exact hn (J i hi)
  obtain⟨q,E,e⟩:=nT hm;exact⟨q,by rw[<- h.len];exact E,e⟩
 have S:(0:Rat)<D.cu*D.cu:=Rat.mul_pos h.pos' h.pos';have val:∀i q,i<D.R.length->q<D.R.length->((en D.R i p.N*en D.R q s:Int):Rat)=D.cu*D.cu*(T.b (ι.getD i 0)*T.e (ι.getD q 0) s):=fun i q hi E=>by
  rw[vP,h.rhs i hi,h.ent q s E hs];grind
 refine⟨h.io G.lt,(h.sign G.lt hs).1.mp G.pos,fun i hi hp=>?_,fun i hi hp Y=>?_⟩
 .obtain⟨q,E,rfl⟩:=seen i hi hp
  have h1:=G.low q E ((h.sign E hs).1.mpr hp);have O:((en D.R r p.N*en D.R q s:Int):Rat)<=((en D.R q p.N*en D.R r s:Int):Rat):=by exact_mod_cast h1
  rw[val r q G.lt E,val q r E G.lt]at O;exact Rat.le_of_mul_le_mul_left O S
 .obtain⟨q,E,rfl⟩:=seen i hi hp
  rw[<- h.eU r G.lt,<- h.eU q E];refine G.tie q E ((h.sign E hs).1.mpr hp) ?_;have O:((en D.R r p.N*en D.R q s:Int):Rat)=((en D.R q p.N*en D.R r s:Int):Rat):=by rw[val r q G.lt E,val q r E G.lt,Y]
  exact_mod_cast O
structure Fit (p:Prog) (T:Tab) (ι:List Nat) (o:Nat->Int) (fr:List Bool):Prop where
 obj:∀r,r<p.m->r∉ι->∀k,k<p.N->fr.getD k false=true->T.e r k*o (T.B r)=0
 col:∀k,fr.getD k false=true->k<p.n\/∀r',r'<p.m->r'∈ι
theorem pW(h:Vw p T D ι){k:Nat}(G:k<p.N)(J:∀r,r<p.m->r∉ι->T.e r k*o (T.B r)=0):(0<dB D o k↔0<gm p.m T (fun j=>o j) k)/\(dB D o k<0↔gm p.m T (fun j=>o j) k<0):=by
 have e:=h.gain G J;have hb:=h.pos';have c1:(0:Rat)<dB D o k↔0<dB D o k:=⟨fun h=>by exact_mod_cast h,fun h=>by exact_mod_cast h⟩;have O:(dB D o k:Rat)<0↔dB D o k<0:=⟨fun h=>by exact_mod_cast h,fun h=>by exact_mod_cast h⟩;rw[<- c1,<- O,e];generalize gm p.m T (fun j=>(o j:Rat)) k=g;constructor<;>constructor
 .intro E
  refine zh fun S=>?_
  have:=xw (wF hb) (show 0<= -g by grind);grind
 .intro E;exact Rat.mul_pos hb E
 .intro E
  refine zh fun S=>?_
  have:=xw (wF hb) (show 0<=g by grind);grind
 .intro E
  have:=Rat.mul_pos hb (show 0< -g by grind);grind
theorem lp1{v:Nat->Rat}:Lp 1 v↔0<v 0:=by
 constructor
 .rintro (h|⟨_,h⟩)
  .exact h.elim
  .exact h
 .intro h;exact .inr ⟨fun q E=>absurd E (zK q),h⟩
theorem Vw.step(h:Vw p T D ι)(hg:p.Good T)(hw:Whole p M)(J:Fit p T ι o D.fr){S:TZ}(hs:AV p.N o D S) :
  ∃T',Step p.m p.N 1 (fun _ j=>o j) (fun j=>D.fr.getD j false=true) T T'/\Vw p T' S ι/\S.fr=D.fr:=by
 obtain⟨s,r,E,Y,rfl⟩:=hs;have hl:=h.leaves E.lt (J.col s E.fr) Y;have a1:Enters p.m p.N 1 (fun _ j=>o j) (fun j=>D.fr.getD j false=true) T s:=by
  refine⟨E.lt,E.fr,fun hb=>E.non ((h.mem (J.col s E.fr)).mpr hb),lp1.mpr ((pW h E.lt fun r hr hn=>J.obj r hr hn s E.lt E.fr).1.mp E.pos),fun j hj G hb hp=>?_⟩;exact E.low j hj G (fun hm=>hb ((h.mem (J.col j G)).mp hm)) ((pW h (by have:=E.lt;omega) fun r hr hn=>J.obj r hr hn j (by have:=E.lt;omega) G).1.mpr (lp1.mp hp))
 have O:Step p.m p.N 1 (fun _ j=>o j) (fun j=>D.fr.getD j false=true) T (Lp.piv T (ι.getD r 0) s):=⟨s,_,a1,hl,rfl⟩;refine⟨_,O,h.piv hg hw Y.lt E.lt (by have:=Y.pos;omega) (O.ok hg.ok) (J.col s E.fr),?_⟩;unfold BR
 split<;>rfl
theorem Fit.step{T':Tab}(E:Fit p T ι o D.fr)(h:Vw p T D ι)(h':Vw p T' D ι\/True)(hs:∃s r,r∈ι/\D.fr.getD s false=true/\s<p.N/\T'=Lp.piv T r s):Fit p T' ι o D.fr:=by
 obtain⟨s,r,Y,G,a1,rfl⟩:=hs;refine⟨fun q J hn k hk O=>?_,E.col⟩;rcases E.col s G with hs|hs
 .have h1:=E.obj q J hn k hk O
  have h2:=(h.hid q J hn).2.2 s hs;have S:¬q=r:=fun e=>hn (e ▸ Y)
  simp only[Lp.piv,ug S,h2];have:T.e q k-0*(T.e r k / T.e r s)=T.e q k:=by grind
  rw[this];exact h1
 .exact absurd (hs q J) hn
theorem Vw.ah6(hw:Whole p M):∀ {k:Nat} {T:Tab} {D:TZ},Vw p T D ι->p.Good T->Fit p T ι o D.fr->ab1 p.m p.N 1 (fun _ j=>o j) (fun j=>D.fr.getD j false=true) k T->Ec p.N o k D
 |0,_,_,_,_,_,h=>h
 |k+1,T,D,h,hg,hf,hn=>fun D' hs=>by
  obtain⟨T',G,h2,Y⟩:=h.step hg hw hf hs;have J:Fit p T' ι o D'.fr:=by
   rw[Y];obtain⟨s,r,g1,g2,g3⟩:=hs;refine hf.step h (.inr trivial) ?_;obtain⟨s',r',O,S,q3⟩:=G;have e:=h.leaves g1.lt (hf.col s g1.fr) g2;refine⟨s',r',?_,O.fr,O.lt,q3⟩;refine zh fun E=>?_
   rcases hf.col s' O.fr with hc|hc
   .have:=(h.hid r' S.lt E).2.2 s' hc
    have:=S.pos;grind
   .exact E (hc r' S.lt)
  exact Vw.ah6 hw h2 (hg.step G) J (by rw[Y];exact hn T' G)
end
end Go.Lp
namespace Go.Lp
inductive AX (n:Nat) (o:Nat->Int):TZ->TZ->Prop
 |refl (D:TZ):AX n o D D
 |tail {D D1 D2:TZ}:AX n o D D1->AV n o D1 D2->AX n o D D2
def frZ(n:Nat)(o:Nat->Int)(D:TZ)(fr:List Bool):Prop:=fr.length=D.fr.length/\∀j,j<n->(fr.getD j false=true↔D.fr.getD j false=true/\(j∈D.B\/¬dB D o j<0))
def N_(n:Nat)(o:Nat->Int)(D:TZ)(E:Bool)(G:TZ):Prop :=
 ∃D1,AX n o D D1/\((E=true/\(∀j,j<n->D1.fr.getD j false=true->j∉D1.B->¬0<dB D1 o j)/\∃fr,frZ n o D1 fr/\G={ D1 with fr:=fr }) \/
  (E=false/\G=D1/\∃s,Eb n D1 o s/\∀i,i<D1.R.length->¬0<en D1.R i s))
section
variable {p:Prog} {T:Tab} {D:TZ} {ι:List Nat} {M:Nat} {o:Nat->Int}
theorem AX.run(hw:Whole p M){D D1:TZ}(hr:AX p.N o D D1){T:Tab}(h:Vw p T D ι)(hg:p.Good T)(hf:Fit p T ι o D.fr){Q:Tab->Prop}(hQ:Q T)
  (hs:∀T T',p.Good T->Q T->Step p.m p.N 1 (fun _ j=>o j) (fun j=>D.fr.getD j false=true) T T'->Q T') :
  ∃E,Vw p E D1 ι/\p.Good E/\Fit p E ι o D1.fr/\Q E/\D1.fr=D.fr:=by
 induction hr with
 |refl=>exact⟨T,h,hg,hf,hQ,rfl⟩
 |tail h1 h2 ih=>
  obtain⟨E,O,S,Y,k4,J⟩:=ih;obtain⟨T2,g1,g2,g3⟩:=O.step S hw Y h2;rw[J]at g1;refine⟨T2,g2,S.step g1,?_,hs _ _ S k4 g1,g3.trans J⟩;rw[g3];refine Y.step O (.inr trivial) ?_;rw[J];obtain⟨s',r',q1,q2,q3⟩:=g1;refine⟨s',r',?_,q1.fr,q1.lt,q3⟩;refine zh fun G=>?_
  rcases Y.col s' (by rw[J];exact q1.fr)with hc|hc
  .have:=(O.hid r' q2.lt G).2.2 s' hc
   have:=q2.pos;grind
  .exact G (hc r' q2.lt)
theorem Vw.frame(h:Vw p T D ι)(fr:List Bool):Vw p T { D with fr:=fr } ι:=⟨h.len,h.gq,h.row,h.lt,h.nd,h.ent,h.rhs,h.eU,h.pos,h.gZ,h.hid⟩
def o1(n:Nat)(j:Nat):Int:=if j<n then 0 else -1
theorem ag0:(fun j=>((o1 p.n j:Int):Rat))=p.c1:=by
 funext j;unfold o1 Prog.c1
 split<;>rfl
def Zero(p:Prog)(T:Tab):Prop:=∀r,r<p.m->p.n<=T.B r->T.b r=0
theorem Y8(hw:Whole p M){D J:TZ}{a7:Bool}(hm:N_ p.N (o1 p.n) D a7 J)(h:Vw p p.T0 D ι)(hg:p.Good p.T0)(E:∀r,r<p.m->r∈ι)(a8:∀j,D.fr.getD j false=true↔j<p.n) :
  ∃T,Vw p T J ι/\p.Good T/\((∀i,i<J.R.length->p.n<=J.B.getD i 0->¬0<en J.R i p.N)->Zero p T)/\((∃i,i<J.R.length/\p.n<=J.B.getD i 0/\0<en J.R i p.N)->p.None):=by
 obtain⟨D1,h1,h2⟩:=hm;have hf:Fit p p.T0 ι (o1 p.n) D.fr:=⟨fun r O hn=>absurd (E r O) hn,fun k _=> .inr E⟩;obtain⟨Y,G,k2,k3,_,k5⟩:=h1.run hw h hg hf (Q:=fun _=>True) trivial (fun _ _ _ _ _=>trivial);have hN:∀j,j<p.n->j<p.N:=fun j hj=>by unfold Prog.N;omega
 have a1:∀k,k<p.N->∀r,r<p.m->r∉ι->Y.e r k*o1 p.n (Y.B r)=0:=fun k _ r O hn=>absurd (E r O) hn
 rcases h2 with ⟨_,h2,fr,_,rfl⟩|⟨_,_,s,h3,h4⟩
 .have a6:∀j,j<p.N->j<p.n->¬basic p.m Y j->¬Lp 1 (gv p.m Y (fun _=>p.c1) j):=fun j hj S hb hp=>by
   refine h2 j hj (by rw[k5];exact(a8 j).mpr S) (fun hm=>hb ((G.mem (.inr E)).mp hm)) ?_;refine(pW G hj (a1 j hj)).1.mpr ?_;rw[ag0];exact lp1.mp hp
  refine⟨Y,G.frame fr,k2,fun hz r O hB=>?_,?_⟩
  .obtain⟨i,hi,rfl⟩:=nT (E r O)
   rw[G.len]at hi;refine(G.agZ hi).mp ?_;have h5:=hz i hi (by show p.n<=D1.B.getD i 0;rw[G.eU i hi];exact hB);have h6:=G.nonneg k2.ok hi;have:¬0<en D1.R i p.N:=h5;omega
  .rintro ⟨i,hi,hB,hp⟩
   have hB:p.n<=D1.B.getD i 0:=hB;rw[G.eU i hi]at hB;refine Prog.afz k2 (Fr:=fun j=>j<p.n) (fun _ h=>h) (fun j hj S hb=>a6 j hj S hb) (G.io hi) hB fun e=>?_
   have:=(G.agZ hi).mpr e;have hp:0<en D1.R i p.N:=hp;omega
 .exfalso
  have hs:=h3.lt;have b3:=h3.fr;have b2:¬basic p.m Y s:=fun hb=>h3.non ((G.mem (.inr E)).mpr hb)
  refine Prog.afA k2 hs b2 ?_ fun r O=>?_
  .refine lp1.mpr ?_
   have:=(pW G hs (a1 s hs)).1.mp h3.pos;rw[ag0]at this;exact this
  .obtain⟨i,hi,rfl⟩:=nT (E r O)
   rw[G.len]at hi;refine Rat.not_lt.mp fun hp=>h4 i hi ((G.sign hi hs).1.mpr hp)
theorem Zero.piv(G:Zero p T){r s:Nat}(J:r<p.m)(O:T.b r=0)(hs:s<p.n):Zero p (Lp.piv T r s):=fun q S E=>by
 simp only[Lp.piv]at E⊢
 by_cases e:q=r
 .rw[uf e]at E;omega
 .rw[ug e]at E
  rw[ug e,O,G q S E];rw[vY];grind
theorem Y9(hw:Whole p M)(h:Vw p T D ι)(J:p.Good T)(Y:Zero p T){i k:Nat}(hi:i<D.R.length)(hB:p.n<=D.B.getD i 0)(hk:k<p.n)(G:en D.R i k≠0) :
  Vw p (Lp.piv T (ι.getD i 0) k) (BR D i k) ι/\p.Good (Lp.piv T (ι.getD i 0) k)/\Zero p (Lp.piv T (ι.getD i 0) k):=by
 have E:k<p.N:=by unfold Prog.N;omega
 have O:T.b (ι.getD i 0)=0:=Y _ (h.io hi) (by rw[<- h.eU i hi];exact hB);have he:T.e (ι.getD i 0) k≠0:=fun e=>G ((h.sign hi E).2.mpr e)
 have S:=Xa J.ok (h.io hi) E he O;exact⟨h.piv J hw hi E G S (.inl hk),J.anG (h.io hi) E he O,Y.piv (h.io hi) O hk⟩
theorem pO{α:Type}(d:α)(l:List α)(i j:Nat):(l.eraseIdx i).getD j d=l.getD (if j<i then j else j+1) d:=by
 simp only[zx,List.getElem?_eraseIdx]
 split<;>rfl
theorem Vm(h:Vw p T D ι)(hz:Zero p T){i:Nat}(hi:i<D.R.length)(hB:p.n<=D.B.getD i 0)(O:∀k,k<p.n->en D.R i k=0) :
  Vw p T { D with R:=D.R.eraseIdx i,B:=D.B.eraseIdx i } (ι.eraseIdx i):=by
 have S:(D.R.eraseIdx i).length=D.R.length-1:=yY hi;have sh:∀j,j<D.R.length-1->(if j<i then j else j+1)<D.R.length:=fun j E=>by split<;>omega
 have G:∀j k,en (D.R.eraseIdx i) j k=en D.R (if j<i then j else j+1) k:=fun j k=>by
  unfold en vI;rw[pO]
 refine⟨?_,?_,fun x hx=>h.row x (wE hx),fun r hr=>h.lt r (wE hr),h.nd.sublist (uo ..),fun j k E hk=>?_,fun j E=>?_,fun j E=>?_,h.pos,h.gZ,fun r hr hn=>?_⟩
 .show(ι.eraseIdx i).length=(D.R.eraseIdx i).length
  rw[S,yY (by rw[h.len];exact hi),h.len]
 .show(D.B.eraseIdx i).length=(D.R.eraseIdx i).length
  rw[S,yY (by rw[h.gq];exact hi),h.gq]
 .show(en (D.R.eraseIdx i) j k:Rat)=_
  rw[G,pO];exact h.ent _ k (sh j (by rw[<- S];exact E)) hk
 .show(en (D.R.eraseIdx i) j p.N:Rat)=_
  rw[G,pO];exact h.rhs _ (sh j (by rw[<- S];exact E))
 .show(D.B.eraseIdx i).getD j 0=_
  rw[pO,pO];exact h.eU _ (sh j (by rw[<- S];exact E))
 .by_cases hm:r∈ι
  .obtain⟨q,hq,rfl⟩:=nT hm
   have a1:q=i:=by
    refine zh fun a6=>hn ?_
    have a7:q<D.R.length:=by rw[<- h.len];exact hq
    have e:(ι.eraseIdx i).getD (if q<i then q else q-1) 0=ι.getD q 0:=by
     rw[pO]
     by_cases J:q<i
     .rw[uf J,uf J]
     .rw[ug J,ug (by omega),show q-1+1=q by omega]
    rw[<- e];refine pK ?_;rw[yY (by rw[h.len];exact hi),h.len]
    split<;>omega
   subst a1;have Y:p.n<=T.B (ι.getD q 0):=by rw[<- h.eU q hi];exact hB
   refine⟨Y,hz _ hr Y,fun j E=>?_⟩;exact(h.sign hi (by unfold Prog.N;omega)).2.mp (O j E)
  .exact h.hid r hr hm
theorem Y_(h:Vw p T D ι)(E:∀i,i<D.R.length->D.B.getD i 0<p.n):p.Out T:=⟨fun r G hn=>by
 by_cases hm:r∈ι
 .obtain⟨i,hi,rfl⟩:=nT hm
  rw[h.len]at hi;have:=E i hi;rw[h.eU i hi]at this;omega
 .exact(h.hid r G hm).2⟩
def oq(n:Nat)(c:Nat->Int)(q j:Nat):Int:=if q=0 then(if j<n then c j else 0)else if j+1=q/\j<n then -1 else 0
theorem anH{c:Nat->Int}(hc:∀j,j<p.n->p.c j=c j)(q:Nat):(fun j=>((oq p.n c q j:Int):Rat))=p.C q:=by
 funext j;unfold oq Prog.C
 split
 .split
  .rename_i E;rw[hc j E]
  .rfl
 .split<;>rfl
theorem ah8(h:Vw p T D ι){c:Nat->Int}{q:Nat}{fr:List Bool}(E:∀j,fr.getD j false=true->j<p.n):Fit p T ι (oq p.n c q) fr :=
 ⟨fun r G hn k _ _=>by
  have O:=(h.hid r G hn).1;have:oq p.n c q (T.B r)=0:=by
   unfold oq
   split
   .rw[ug (by omega)]
   .rw[ug (by omega)]
  rw[this];grind,fun k J=> .inl (E k J)⟩
theorem Za(hw:Whole p M){c:Nat->Int}(hc:∀j,j<p.n->p.c j=c j){q:Nat}{v:Nat->Rat}{D D':TZ}{O:Bool}(hm:N_ p.N (oq p.n c q) D O D')(h:Vw p T D ι)(hg:p.Good T)(ho:p.Out T)
  (hs:p.Ai q v (fun j=>D.fr.getD j false=true) T) (hlen:D.fr.length<=p.N) :
  ∃T',Vw p T' D' ι/\p.Good T'/\p.Out T'/\D'.fr.length=D.fr.length/\((O=true/\p.Ai (q+1) (fun i=>if i=q then zz p.m T' (p.C q)else v i) (fun j=>D'.fr.getD j false=true) T') \/
   (O=false/\∃s,s<p.n/\¬basic p.m T' s/\0<gm p.m T' (p.C q) s/\∀i,i<p.m->T'.e i s<=0)):=by
 obtain⟨D1,h1,h2⟩:=hm;have hf:Fit p T ι (oq p.n c q) D.fr:=ah8 h fun j E=>hs.inn j E
 obtain⟨T1,G,k2,k3,⟨k4,k6⟩,S⟩:=h1.run hw h hg hf (Q:=fun T=>p.Out T/\p.Ai q v (fun j=>D.fr.getD j false=true) T) ⟨ho,hs⟩ (fun T T' _ J a6=>by
  refine⟨?_,J.2.step a6⟩;obtain⟨s,r,g1,g2,rfl⟩:=a6
  by_cases hB:T.B r<p.n
  .exact J.1.piv hB (J.2.inn s g1.fr)
  .have:=(J.1.z r g2.lt (by omega)).2 s (J.2.inn s g1.fr)
   have:=g2.pos;grind)
 have Y:∀k,k<p.N->(0<dB D1 (oq p.n c q) k↔0<gm p.m T1 (p.C q) k)/\(dB D1 (oq p.n c q) k<0↔gm p.m T1 (p.C q) k<0):=fun k hk=>by
  have:=pW (o:=oq p.n c q) G hk fun r hr hn=>by
   have h1:=(G.hid r hr hn).1;have:oq p.n c q (T1.B r)=0:=by
    unfold oq
    split
    .rw[ug (by omega)]
    .rw[ug (by omega)]
   rw[this];grind
  rw[anH hc]at this;exact this
 have hN:∀j,j<p.n->j<p.N:=fun j E=>by unfold Prog.N;omega
 refine⟨T1,?_⟩;rcases h2 with ⟨e,h2,fr,⟨a7,a8⟩,rfl⟩|⟨e,rfl,s,h3,h4⟩
 .refine⟨G.frame fr,k2,k4,by show fr.length=_;rw[a7,S],.inl ⟨e,?_⟩⟩
  refine Prog.Ai.next (Fr':=fun j=>fr.getD j false=true) k2 k4 k6 (fun j E b2 hb hp=>?_) (fun j E=>?_) (fun j E=>?_)
  .exact h2 j (hN j E) (by rw[S];exact b2) (fun hm=>hb ((G.mem (.inl E)).mp hm)) ((Y j (hN j E)).1.mpr hp)
  .rw[a8 j (hN j E),S,G.mem (.inl E),(Y j (hN j E)).2]
  .by_cases b3:j<p.N
   .have:=((a8 j b3).mp E).1
    rw[S]at this;exact k6.inn j this
   .exfalso
    have E:fr.getD j false=true:=E;rw[zx,yZ (by rw[a7,S];omega)]at E;cases E
 .refine⟨G,k2,k4,by rw[S],.inr ⟨e,s,?_⟩⟩
  have a1:s<p.n:=k6.inn s (by rw[<- S];exact h3.fr);refine⟨a1,fun hb=>h3.non ((G.mem (.inl a1)).mpr hb),(Y s h3.lt).1.mp h3.pos,fun i hi=>?_⟩
  by_cases hm:i∈ι
  .obtain⟨q',J,rfl⟩:=nT hm
   rw[G.len]at J;exact Rat.not_lt.mp fun hp=>h4 q' J ((G.sign J h3.lt).1.mpr hp)
  .rw[(G.hid i hi hm).2.2 s a1];exact Rat.le_refl
theorem read(h:Vw p T D ι)(E:p.Good T){i:Nat}(hi:i<D.R.length):(en D.R i p.N:Rat) / D.cu=eU p.m T (D.B.getD i 0):=by
 rw[h.rhs i hi,h.eU i hi,Gn E.ok (h.io hi)];have:=h.ne;grind
theorem Q9(h:Vw p T D ι){j:Nat}(E:j<p.n)(hn:j∉D.B):eU p.m T j=0:=tY fun hb=>hn ((h.mem (.inl E)).mpr hb)
end
end Go.Lp
namespace Go.Lp
section
variable {p:Prog} {T:Tab} {M K:Nat} {c:Nat->Rat}
end
structure TQ where
 R:List (List Rat)
 B:List Nat
 c:List Rat
def enq(R:List (List Rat))(i j:Nat):Rat:=(R.getD i []).getD j 0
structure Vq (p:Prog) (n':Nat) (C:Nat->Rat) (T:Tab) (D:TQ) (ι:List Nat):Prop where
 len:ι.length=D.R.length
 gq:D.B.length=D.R.length
 aqy:D.c.length=n'+1
 row:∀x∈D.R,x.length=n'+1
 lt:∀r∈ι,r<p.m
 nd:ι.Nodup
 le:n'<=p.N
 ent:∀i j,i<D.R.length->j<n'->enq D.R i j=T.e (ι.getD i 0) j
 rhs:∀i,i<D.R.length->enq D.R i n'=T.b (ι.getD i 0)
 eU:∀i,i<D.R.length->D.B.getD i 0=T.B (ι.getD i 0)
 cost:∀j,j<n'->D.c.getD j 0=gm p.m T C j
 val:D.c.getD n' 0= -zz p.m T C
 hid:∀r,r<p.m->r∉ι->n'<=T.B r/\T.b r=0/\∀j,j<n'->T.e r j=0
section
variable {p:Prog} {T:Tab} {D:TQ} {ι:List Nat} {n':Nat} {C:Nat->Rat}
end
end Go.Lp
namespace Go.Lp
section
variable {p:Prog} {T:Tab} {D:TQ} {ι:List Nat} {M n' d:Nat} {C:Nat->Nat->Rat}
def pick(n:Nat):List (List Rat)->List Nat->List (List Rat)×List Nat
 |x :: R,b :: B=>if b<n then((x.take n++[x.getLastD 0]) :: (pick n R B).1,b :: (pick n R B).2)else pick n R B
 |_,_=>([],[])
end
end Go.Lp
namespace Go.Lp
section
variable {p:Prog} {T:Tab} {D:TQ} {ι:List Nat} {M n' d:Nat}
end
end Go.Lp
namespace Go.Proofs.YtjknobpihkmilaaGreat
open Go Go.TV
theorem ale{U V v1 top P g Vr Ur:Int}(hg:0<=g)(G:0<=P)(J:V=v1*P+Vr)(E:0<=Vr)(O:U=top*P+Ur)(S:Ur<P)(h:top<(g+1)*v1):U<(g+1)*V:=by
 have Y:(top+1)*P<=(g+1)*v1*P:=zf (by omega) G;have h2:0<=(g+1)*Vr:=wU (by omega) E;subst J O;rw[yE,<- wB];rw[Int.add_mul top]at Y;omega
theorem afB{U V g B:Int}(E:0<=V)(h:U<V*B)(G:B<=g):U<g*V:=by
 have:=zf G E;rw[Int.mul_comm V B]at h;omega
theorem ah9{U V v1 v2 top rest E P g B Vr Ur:Int}(J:0<=g)(O:0<=P)(S:V=(v1*B+v2)*P+Vr)(G:0<=Vr)(Y:U=(top*B+E)*P+Ur)(a1:Ur<P)(hr:rest=top-g*v1)(h:rest*B+E<g*v2):U<g*V:=by
 have e:g*(v1*B+v2)=g*v1*B+g*v2:=by rw[yE,wB]
 have e2:rest*B=top*B-g*v1*B:=by rw[hr,vK]
 have h1:(top*B+E+1)*P<=g*(v1*B+v2)*P:=zf (by omega) O;have h2:0<=g*Vr:=wU J G;subst S Y;rw[yE,<- wB];rw[Int.add_mul (top*B+E)]at h1;omega
theorem alg{U V v1 v2 top rest E P g B Vr Ur:Int}(Y:0<=g)(G:g<=B)(hB:0<=B)(J:0<=P)(O:1<=v1)(a1:0<=v2)(hV:V=(v1*B+v2)*P+Vr)(a6:0<=Vr)(S:Vr<=P)(hU:U=(top*B+E)*P+Ur)(a7:0<=Ur)(hr:rest=top-g*v1)(h:g*v2<=rest*B+E):(g-1)*V<=U:=by
 have e:g*(v1*B+v2)=g*v1*B+g*v2:=by rw[yE,wB]
 have e2:rest*B=top*B-g*v1*B:=by rw[hr,vK]
 have h1:g*(v1*B+v2)*P<=(top*B+E)*P:=zf (by omega) J;have h2:g*Vr<=B*P:=Int.le_trans (zO S Y) (zf G J);have h3:1*B<=v1*B:=zf O hB;have h4:B*P<=(v1*B+v2)*P:=zf (by omega) J;have e3:g*V=g*(v1*B+v2)*P+g*Vr:=by rw[hV,yE,wB]
 rw[vK,Int.one_mul,e3];omega
theorem ah_{U V v1 v2 top rest E P g B Vr Ur:Int}(Y:0<=g)(J:g<=B)(S:0<=B)(G:0<=P)(a1:v2<B)(hV:V=(v1*B+v2)*P+Vr)(a6:Vr<=P)(hU:U=(top*B+E)*P+Ur)(a7:0<=Ur)(O:0<=E)(hr:rest=top-g*v1)(h:B<=rest):g*V<=U:=by
 have h1:v2*P+P<=B*P:=by
  have:=zf (c:=P) (show v2+1<=B by omega) G;rw[Int.add_mul]at this;omega
 have h2:g*(v2*P+Vr)<=B*(B*P):=Int.le_trans (zO (show v2*P+Vr<=B*P by omega) Y) (zf J (wU S G));have h3:g*v1*(B*P)<=(top-B)*(B*P):=zf (by omega) (wU S G);have h4:0<=E*P:=wU O G;have e1:g*V=g*v1*(B*P)+g*(v2*P+Vr):=by rw[hV];grind
 have e2:U=top*(B*P)+E*P+Ur:=by rw[hU];grind
 rw[vK]at h3;omega
theorem ace{U V g:Int}(E:U<(g+1)*V)(G:(g-1)*V<=U):(0<=U-g*V/\U-g*V<V)\/(U-g*V<0/\0<=U - (g-1)*V/\U - (g-1)*V<V):=by
 rw[Int.add_mul]at E;have e:(g-1)*V=g*V-V:=by rw[vK];omega
 rw[e]at G⊢;omega
theorem Q_{lo t P X:Int}(G:0<=lo)(J:lo<P)(O:0<=X)(S:X<P)(e:X=lo+P*t):t=0:=by
 have E:0<P:=by omega
 rcases Int.lt_trichotomy t 0 with h|h|h
 .have:=zO (show t<= -1 by omega) (xu E)
  omega
 .exact h
 .have:=zO (show 1<=t by omega) (xu E)
  omega
theorem afC{lo t P X:Int}(G:0<=lo)(J:lo<P)(O:-P<=X)(S:X<0)(e:X=lo+P*t):t= -1:=by
 have E:0<P:=by omega
 rcases Int.lt_trichotomy t (-1)with h|h|h
 .have:=zO (show t<= -2 by omega) (xu E)
  omega
 .exact h
 .have:=zO (show 0<=t by omega) (xu E)
  omega
theorem Zb{u g n c:Int}(hu:0<=u/\u<1000000000)(E:0<=g/\g<1000000000)(hn:0<=n/\n<1000000000)(hc:0<=c/\c<=1000000000) :
  -999999999000000001<=u-g*n-c/\u-g*n-c<1000000000/\0<=g*n/\g*n<=999999998000000001:=by
 have G:g*n<=999999999*999999999:=Int.le_trans (zf (show g<=999999999 by omega) hn.1) (zO (by omega) (by decide));have J:=wU E.1 hn.1;omega
theorem acg{b1:Int}(Y:0<b1)(h1:b1<1000000000):1<=1000000000 / (b1+1)/\1000000000 / (b1+1)*(b1+1)<=1000000000/\500000000<=b1*(1000000000 / (b1+1))/\1000000000 / (b1+1)<=500000000:=by
 have G:1<=1000000000 / (b1+1):=(Int.le_ediv_iff_mul_le (by omega)).mpr (by omega);have hm:1000000000 / (b1+1)*(b1+1)<=1000000000:=Int.ediv_mul_le _ (by omega);have J:=Int.lt_ediv_add_one_mul_self 1000000000 (show 0<b1+1 by omega);refine⟨G,hm,?_,?_⟩
 .generalize 1000000000 / (b1+1)=q at *
  have e1:q*(b1+1)=q*b1+q:=by rw[yE,Int.mul_one]
  have e2:(q+1)*(b1+1)=q*b1+q+b1+1:=by rw[Int.add_mul];omega
  rw[Int.mul_comm b1 q]
  by_cases h:q<=b1
  .have O:1*b1<=q*b1:=zf G (by omega)
   by_cases h4:q+b1+1<=500000000
   .omega
   .by_cases E:2<=q
    .have:2*b1<=q*b1:=zf E (by omega)
     by_cases h6:250000000<=b1
     .omega
     .omega
    .have:q=1:=by omega
     subst this;omega
  .have O:b1*q≥b1*(b1+1):=zO (by omega) (by omega)
   have S:1*q<=b1*q:=zf (by omega) (by omega);rw[Int.mul_comm b1 q]at S
   by_cases E:2<=b1
   .have:q*2<=q*b1:=zO E (by omega)
    omega
   .have:b1=1:=by omega
    subst this;omega
 .have:=zO (show 2<=b1+1 by omega) (show 0<=1000000000 / (b1+1) by omega)
  omega
def Ac:FuncId->Conv:=fun f=>if f∈([179,205]:List Nat)then .own else if f∈([208,206,207]:List Nat)then .inl else .FX
abbrev Zc:List Nat:=[176,179,205,208,206,207]
noncomputable def Ed:Ext:=fun f=>if f∈Zc then none else some fun args σ nx=>ev gu conv ext f args σ nx
theorem ah':DI gu Ed:=fun f g h args σ nx v σ' nx' E=>by
 unfold Ed at h
 split at h
 .cases h
 .cases h
  exact qM (by kernel_rfl) abq f args σ nx v σ' nx' E
theorem alh{f:FuncId}(h:List.contains Zc f=false):¬f∈Zc:=fun e=>by
 rw[List.contains_iff_mem.mpr e]at h;cases h
theorem fnO{f:FuncId}(h:List.contains Zc f=false)(ts:List V):fn gu Ac Ed f ts=fn gu conv ext f ts:=by
 rw[qB,qB,qN (g:=fun args σ nx=>ev gu conv ext f args σ nx) (by unfold Ed;rw[ug (alh h)])]
theorem cvO{f:FuncId}(h:List.contains Zc f=false):Ac f= .FX:=by
 have E:=alh h;unfold Ac;simp only[Zc,zQ,zG,or_false,not_or]at E;simp only[zQ,zG,or_false,E,if_false]
theorem ach:Ac 179= .own:=id rfl
theorem aci:Ac 205= .own:=id rfl
theorem afD:Ac 208= .inl:=id rfl
theorem afE:Ac 206= .inl:=id rfl
theorem afF:Ac 207= .inl:=id rfl
attribute [go_sem] fnO cvO ach aci afD afE afF
theorem Xc{σ:Store}{nx b:Nat}{xs:List Int}(hb:σ b=some ⟨xs.flatMap cI,1,true⟩)(ha:Short xs):ev gu Ac Ed 208 [.rs b 0 xs.length] σ nx=some (.rs b 0 (eH xs).length,σ,nx):=by
 unfold Short at ha;rw[qO [.tmp 2] [] func208];simp only[go_sem];generalize hL:aA _ _=y;obtain⟨r,rfl,T',rfl,S⟩:=nY hL (fun k st=>∃T,st=⟨T,σ,nx⟩/\T 0= .rs b 0 k/\k<=xs.length/\eH (xs.take k)=eH xs) (fun r=>∃T,r=(.exit 0,⟨T,σ,nx⟩)/\T 0= .rs b 0 (eH xs).length) (by
  clear hL;rintro k _ ⟨T,rfl,G,hk,E⟩;cases k with
  |zero=>
   have f0:¬(0:Int)<0:=by decide
   refine .inr ⟨_,by simp only[go_sem,G,f0];rfl,by simp,_,rfl,?_⟩;simp only[go_sem,G];rw[<- E];rfl
  |succ k=>
   have J:k<xs.length:=by omega
   have f0:(0:Int)<((k+1:Nat):Int):=by omega
   have e5:((k+1:Nat):Int) - 1=(k:Int):=by omega
   have e2:=iF (n:=(k:Int));have f1:=nP k;have f2:(k:Int)<((k+1:Nat):Int):=by omega
   have f6:=idx J;have f7:k<=k+1:=by omega
   have f8:k<=xs.length:=by omega
   rw[jJ J,Fa]at E
   by_cases O:xs[k]=0
   .have Y:(xs[k]==(0:Int))=true:=by simpa using O
    rw[uf O]at E;refine .inl ⟨_,by simp only[go_sem,G,hb,f0,e5,e2,f1,f2,f6,f7,f8,Y,wM];rfl,k,by omega,_,rfl,?_,by omega,E⟩;simp only[go_sem]
   .have Y:(xs[k]==(0:Int))=false:=by simpa using O
    rw[ug O]at E;refine .inr ⟨_,by simp only[go_sem,G,hb,f0,e5,e2,f1,f2,f6,f7,Y];rfl,by simp,_,rfl,?_⟩;simp only[go_sem];rw[G,<- E];simp;omega) xs.length ⟨_,rfl,by simp only[go_sem],zu _,by rw[yV]⟩
 simp only[go_sem,S]
theorem acj(m n:Nat)(hm:ln m<=1000000)(hn:ln n<=1000000)(zm:m≠0)(zn:n≠0)(nx:Nat):∃b3 P,ev gu Ac Ed 179 [LI (dg m),LI (dg n)] aG nx=some (.rs nx 0 (ln (m*n)),b3,nx+1)/\b3 nx=some ⟨P.flatMap cI,1,true⟩/\P.length=ln m+ln n/\Dg P/\vl P=(m*n:Nat):=by
 unfold ln at hm hn;rw[qO [.tmp 4] [] func179];have cm:((((dg m).length:Nat):Int)==0)=false:=by rw[uZ];have:=uD (rH zm);omega
 have cn:((((dg n).length:Nat):Int)==0)=false:=by rw[uZ];have:=uD (rH zn);omega
 have pn:0<(dg n).length:=List.length_pos_iff.mpr (rH zn);obtain⟨e1,e2,e3⟩:=nX (k:=(dg m).length+(dg n).length) (by omega);have e0:((dg m).length:Int)+((dg n).length:Int)=(((dg m).length+(dg n).length:Nat):Int):=by omega
 have e4:=iF (n:=(((dg m).length+(dg n).length:Nat):Int)) (by omega) (by omega);simp only[go_sem,cm,cn,e0,e1,e2,e3,e4];generalize hL:aA _ _=y;obtain⟨r,rfl,T',σ',P,rfl,S,E,hP,hd,hv⟩:=rP hL (dg m).length (fun k st=>st.T 1=LI (dg n)/\st.T 5= .rs nx 0 ((dg m).length+(dg n).length)/\st.T 26=LI (dg m)/\st.T 27=I (dg m).length/\st.T 28=I k/\st.nx=nx+1/\∃P,st.σ nx=some ⟨Cm P ((dg m).length-k),1,true⟩/\P.length=k+(dg n).length/\Dg P/\vl P=vl ((dg m).take k)*n)
  (fun r=>∃T σ P,r=(.exit 0,⟨T,σ,nx+1⟩)/\T 5= .rs nx 0 ((dg m).length+(dg n).length)/\σ nx=some ⟨P.flatMap cI,1,true⟩/\P.length=(dg m).length+(dg n).length/\Dg P/\vl P=(m*n:Nat)) (by
   clear hL;rintro k ⟨T,σ,CO⟩ b2 ⟨Y,S,Dk,G,J,O,P,E,hP,hd,hv⟩;simp only at Y S Dk G J O E;subst O;have f1:(k:Int)<((dg m).length:Int):=by omega
   have f2:=nP k;have f3:=iF (n:=(k:Int)+1);have f5:=iI (dg m) k b2;have f6:=idx b2;obtain⟨x,hx⟩:∃x,x=(dg m)[k]:=⟨_,rfl⟩;have xr:=(rJ m).get b2;rw[<- hx]at f6 xr;have v1:=iL b2;rw[<- hx]at v1;obtain⟨g,hg⟩:∃g,(dg m).length-k=g+1:=⟨(dg m).length-k-1,by omega⟩;have b4:(dg m).length - (k+1)=g:=by omega
   rw[hg]at E;refine ji ?_
   conv=>
    enter [1,r,1,1]
    simp only[go_sem,Y,S,Dk,G,J,f1,f2,f5,f6]
   generalize hL:aA _ _=z;obtain⟨r,rfl,T',σ',c,W,rfl,Y,S,h6,h8,Dk,G,J,E,hW,hd,hv,a1,a6⟩:=rP hL (dg n).length (fun j st=>st.T 1=LI (dg n)/\st.T 5= .rs nx 0 ((dg m).length+(dg n).length)/\st.T 6=I k/\st.T 7=I x/\st.T 26=LI (dg m)/\st.T 27=I (dg m).length/\st.T 28=I k/\st.T 33=LI (dg n)/\st.T 34=I (dg n).length/\st.T 35=I j/\st.nx=nx+1/\∃c W,st.T 8=I c/\st.σ nx=some ⟨Cm W (g+1),1,true⟩/\W.length=k+(dg n).length/\Dg W/\vl W+bp (k+j)*c=vl ((dg m).take k)*n+bp k*(x*vl ((dg n).take j))/\0<=c/\c<1000000000)
    (fun r=>∃T σ c W,r=(.exit 2,⟨T,σ,nx+1⟩)/\T 1=LI (dg n)/\T 5= .rs nx 0 ((dg m).length+(dg n).length)/\T 6=I k/\T 8=I c/\T 26=LI (dg m)/\T 27=I (dg m).length/\T 28=I k/\σ nx=some ⟨Cm W (g+1),1,true⟩/\W.length=k+(dg n).length/\Dg W/\vl W+bp (k+(dg n).length)*c=vl ((dg m).take k)*n+bp k*(x*n)/\0<=c/\c<1000000000) (by
     clear hL;rintro j ⟨T,σ,CO⟩ hj ⟨Y,S,h6,h7,Dk,G,J,a7,Y1,a8,O,c,W,h8,E,hW,hd,hv,a1,a6⟩;simp only at Y S h6 h7 h8 Dk G J a7 Y1 a8 O E;subst O;have g1:(j:Int)<((dg n).length:Int):=by omega
     have g2:=nP j;have g3:=iF (n:=(j:Int)+1);have g5:=iI (dg n) j hj;have g6:=idx hj;obtain⟨b,hb⟩:∃b,b=(dg n)[j]:=⟨_,rfl⟩;have br:=(rJ n).get hj;rw[<- hb]at g6 br;have v2:=iL hj;rw[<- hb]at v2;have p0:(k:Int)+(j:Int)=((k+j:Nat):Int):=by omega
     have p1:=iF (n:=((k+j:Nat):Int));have p2:(0:Int)<=((k+j:Nat):Int):=by omega
     have p3:((k+j:Nat):Int)<(((dg m).length+(dg n).length:Nat):Int):=by omega
     have p4:k+j<W.length:=by omega
     have p5:=WR (o:=W) (g+1) p4;have p6:k+j<(Cm W (g+1)).length:=by rw[qK];omega
     obtain⟨w,hw⟩:∃w,w=W[k+j]:=⟨_,rfl⟩;have wr:=hd.get p4;rw[<- hw]at p5 wr;have mm:=WS (x:=x) (y:=b) (c:=c) (w:=w) xr br ⟨a1,a6⟩ wr;have w1:=iF (n:=x*b);have w2:=iF (n:=w+x*b);have w3:=iF (n:=w+x*b+c);obtain⟨q1,q2⟩:=jH (n:=w+x*b+c) (by omega);have w4:=iF (n:=(w+x*b+c) / 1000000000);have c6:=IQ (g+1) ((w+x*b+c)%1000000000) p4;have vs:=abL p4 ((w+x*b+c)%1000000000);rw[<- hw]at vs;refine .inl ⟨_,by simp only[go_sem,Y,S,h6,h7,h8,Dk,G,J,a7,Y1,a8,E,g1,g2,g3,g5,g6,p0,p1,p2,p3,p5,p6,w1,w2,w3,w4,q1,q2,c6];rfl,?_⟩;simp only[go_sem,Y,S,h6,h7,Dk,G,J,a7,Y1];refine⟨rfl,_,_,rfl,rfl,by rw[yO];exact hW,hd.set _ (by omega) (by omega),?_,by omega,by omega⟩;rw[vs,show k+(j+1)=k+j+1 by omega,tH,Ll (c:=c) (x:=x) (b:=b) (by omega) hv (.inr trivial),v2,Vd];grind) (by
     clear hL;rintro ⟨T,σ,CO⟩ ⟨Y,S,h6,h7,Dk,G,J,a7,Y1,a8,O,c,W,h8,E,hW,hd,hv,a1,a6⟩;simp only at Y S h6 h7 h8 Dk G J a7 Y1 a8 O E;subst O;rw[yV,iR]at hv;refine⟨_,by simp only[go_sem,Y1,a8,zX];rfl,by simp,_,_,c,W,rfl,?_⟩;simp only[go_sem,Y,S,h6,h8,Dk,G,J];exact⟨E,hW,hd,hv,a1,a6⟩) (by
     simp only[go_sem,Y,S,Dk,G,J];exact⟨0,P,rfl,E,hP,hd,by rw[vT,hv];simp[vl],xg _,by decide⟩)
   have p0:(k:Int)+((dg n).length:Int)=((k+(dg n).length:Nat):Int):=by omega
   have p1:=iF (n:=((k+(dg n).length:Nat):Int)) (by omega) (by omega);have p2:(0:Int)<=((k+(dg n).length:Nat):Int):=by omega
   have p3:((k+(dg n).length:Nat):Int)<(((dg m).length+(dg n).length:Nat):Int):=by omega
   have p6:k+(dg n).length<(Cm W (g+1)).length:=by rw[qK];omega
   have c6:=qJ W g c hW;refine⟨_,by simp only[go_sem,Y,S,h6,h8,Dk,G,J,E,f3,p0,p1,p2,p3,p6,c6];rfl,.inl ⟨_,rfl,?_⟩⟩;simp only[go_sem,Y,S,Dk,G,b4];refine⟨rfl,_,rfl,by simp[hW];omega,hd.snoc a1 a6,?_⟩;rw[iO,hW,hv,v1];grind) (by
   clear hL;rintro ⟨T,σ,CO⟩ ⟨Y,S,Dk,G,J,O,P,E,hP,hd,hv⟩;simp only at Y S Dk G J O E;subst O;rw[yh,qL]at E;refine⟨_,by simp only[go_sem,G,J,zX];rfl,by simp,_,_,P,rfl,by simp only[go_sem,S],E,hP,hd,?_⟩;rw[hv,yV,iR,xQ]) (by
   simp only[go_sem];refine⟨List.replicate (dg n).length 0,?_,by simp,fun x hx=>by rw[List.mem_replicate]at hx;omega,(abJ _).trans (by simp[vl])⟩;congr 2;unfold Cm;rw[show List.flatMap cI (List.replicate (dg n).length 0)=rep (dg n).length [I 0] by unfold rep;rw[List.flatMap_replicate]];unfold rep;rw[<- List.flatten_append,wG,vU])
 have ht:=Xc (σ:=σ') (nx:=nx+1) (b:=nx) (xs:=P) E (by unfold Short;omega);rw[uI hd hv,hP]at ht;refine⟨σ',P,by simp only[go_sem,sG,S,ht];rfl,E,hP,hd,hv⟩
theorem acn(n d:Nat)(hl:(dg n).length<=1000000)(h0:d≠0)(hd:d<1000000000)(nx:Nat):∃a1,ev gu Ac Ed 205 [LI (dg n),I d] aG nx=some (.dF [.rs nx 0 (ln (n / d)),I (n%d:Nat)],a1,nx+1)/\a1 nx=some ⟨(pad (n / d) (dg n).length).flatMap cI,1,true⟩:=by
 have e1:(8:Int)*((dg n).length:Int)<=281474976710656:=by omega
 have e2:((dg n).length:Int)<=9223372036854775807:=by omega
 have e3:(0:Int)<=((dg n).length:Int):=by omega
 have e4:=iF (n:=((dg n).length:Int) - 1);rw[qO [.tmp 4,.tmp 5] [7] func205];simp only[go_sem,e1,e2,e3,e4];generalize hL:aA _ _=y;obtain⟨r,rfl,T',σ',rfl,h6,h7,E⟩:=nY hL (fun m st=>st.T 0=LI (dg n)/\st.T 1=I d/\st.T 6= .rs nx 0 (dg n).length/\st.T 8=I ((m:Int) - 1)/\st.T 7=I (n / 1000000000^m%d:Nat)/\m<=(dg n).length/\st.nx=nx+1/\st.σ nx=some ⟨rep m [I 0]++((pad (n / d) (dg n).length).drop m).flatMap cI,1,true⟩)
  (fun r=>∃T σ,r=(.exit 0,⟨T,σ,nx+1⟩)/\T 6= .rs nx 0 (dg n).length/\T 7=I (n%d:Nat)/\σ nx=some ⟨(pad (n / d) (dg n).length).flatMap cI,1,true⟩) (by
   clear hL;rintro m ⟨T,σ,CO⟩ ⟨t0,t1,t6,t8,t7,hm,G,E⟩;simp only at t0 t1 t6 t8 t7 G E;subst G;have G:nx<nx+1:=by omega
   cases m with
   |zero=>
    have a6:¬(0:Int)<=0-1:=by omega
    rw[Nat.pow_zero,Nat.div_one]at t7;refine .inr ⟨_,by simp only[go_sem,t8,a6];rfl,by simp,_,_,rfl,by simp only[go_sem,t6],by simp only[go_sem,t7],?_⟩;rw[E,yX];rfl
   |succ m=>
    have J:m<(dg n).length:=by omega
    have e5:((m+1:Nat):Int) - 1=(m:Int):=by omega
    rw[e5]at t8;have f0:=nP m;have f3:(m:Int)<((dg n).length:Int):=by omega
    have f5:=iI (dg n) m J;have f6:=idx J;rw[Va J]at f6;have a7:=rE n m;have O:=abC (n:=n / d) (k:=(dg n).length) J;have hq:n / d / 1000000000^m=n / 1000000000^m / d:=by rw[vZ,vZ,Nat.mul_comm]
    rw[hq]at O;have hle:n / 1000000000^m<=n:=uw _ _;obtain⟨u,hu⟩:∃u,n / 1000000000^(m+1)=u:=⟨_,rfl⟩;obtain⟨w,S⟩:∃w,n / 1000000000^m=w:=⟨_,rfl⟩;rw[hu]at t7;rw[hu,S]at a7;rw[S]at f6 O hle;have hw:w%1000000000<1000000000:=Nat.mod_lt _ (by decide);have hr:u%d<d:=Nat.mod_lt _ (by omega);have hx:u%d*1000000000+w%1000000000<d*1000000000:=by omega
    have Y:w=d*1000000000*(u / d)+(u%d*1000000000+w%1000000000):=by
     have:=Nat.div_add_mod u d;have h3:d*(u / d)*1000000000=d*1000000000*(u / d):=by rw[Nat.mul_right_comm]
     omega
    obtain⟨x,a8⟩:∃x,u%d*1000000000+w%1000000000=x:=⟨_,rfl⟩;rw[a8]at Y hx;have b2:w / d%1000000000=x / d:=by
     have h1:w / d=1000000000*(u / d)+x / d:=by
      rw[Y,Nat.mul_assoc,vU,Nat.add_mul_div_left _ _ (by omega),vU]
     have h2:x / d<1000000000:=Nat.div_lt_of_lt_mul hx;rw[h1];generalize x / d=q at h2⊢;generalize u / d=p;omega
    have b3:w%d=x%d:=by
     rw[Y,Nat.mul_assoc,vU,Nat.add_mul_mod_self_left]
    have f7:=iF (n:=(m:Int) - 1);have f8:=iF (n:=((u%d:Nat):Int)*1000000000);have g9:((u%d:Nat):Int)*1000000000+((w%1000000000:Nat):Int)=(x:Int):=by omega
    have f9:=iF (n:=(x:Int));have c1:¬(d:Int)=0:=by omega
    have c2:(x:Int).tdiv (d:Int)=((x / d:Nat):Int):=by rw[xC (by omega)];rfl
    have c3:(x:Int).tmod (d:Int)=((x%d:Nat):Int):=by rw[xE (by omega)];rfl
    have b4:x / d<=x:=uw _ _;have c4:=iF (n:=((x / d:Nat):Int));have c5:m<(rep (m+1) [I 0]++((pad (n / d) (dg n).length).drop (m+1)).flatMap cI).length:=by rw[zo,lG];simp;omega
    have c6:=NM m (I 0) (I (x / d:Nat)) (((pad (n / d) (dg n).length).drop (m+1)).flatMap cI);refine .inl ⟨_,by simp only[go_sem,t0,t1,t6,t8,t7,E,f0,f3,f5,f6,f7,f8,f9,g9,c1,c2,c3,c4,c5,c6,G];rfl,m,by omega,?_⟩;simp only[go_sem,t0,t1,t6];refine⟨by rw[S,b3],by omega,?_⟩;rw[O,b2];rfl) (dg n).length ⟨by simp only[go_sem],by simp only[go_sem],by simp only[go_sem],by simp only[go_sem],by simp only[go_sem,IL,Nat.zero_mod],zu _,by simp only[go_sem],by simp only[go_sem];rw[yD (by rw[NK];exact zu _)];simp⟩
 have pl:(pad (n / d) (dg n).length).length=(dg n).length:=NK _ _;have ht:=Xc (σ:=σ') (nx:=nx+1) (b:=nx) (xs:=pad (n / d) (dg n).length) E (by unfold Short;omega)
 rw[QN _ _ (Nat.lt_of_le_of_lt (uw _ _) (by
   have:=IL n;exact(Nat.div_eq_zero_iff_lt (Nat.pow_pos (by decide))).mp this)),pl]at ht
 refine⟨σ',by simp only[go_sem,sG,h6,h7,ht];rfl,E⟩
theorem Rf{σ:Store}{b:Nat}{B:Option BZ}(h:σ b=B):upd σ b B=σ:=by
 funext i;unfold upd
 split
 .rename_i e;subst e;exact h.symm
 .rfl
def lay(U:List Int)(j:Nat)(o:List Int):List Int:=U.take j++(o++U.drop (j+o.length))
theorem o7{U:List Int}{j:Nat}{o:List Int}(h:j+o.length<=U.length):(lay U j o).length=U.length:=by
 unfold lay;simp only[zo,zY,zW];omega
theorem Xd(U:List Int)(j:Nat):lay U j []=U:=by unfold lay;simp
theorem Hg{U:List Int}{j k:Nat}{o:List Int}(E:o.length=k)(h:j+k<U.length):(lay U j o)[j+k]'(by rw[o7 (by omega)];exact h)=U[j+k]:=by
 subst E;have e:(lay U j o)[j+o.length]?=U[j+o.length]?:=by
  unfold lay;rw[zS (by simp;omega),zS (by simp;omega),yG];congr 1;simp;omega
 rw[zy (by rw[o7 (by omega)];exact h),zy h]at e;exact Option.some.inj e
theorem o8{U:List Int}{j k:Nat}{o:List Int}(E:o.length=k)(h:j+k<U.length)(y:Int):(lay U j o).set (j+k) y=lay U j (o++[y]):=by
 subst E;unfold lay;rw[yA _ _ (by simp;omega),yA _ _ (by simp;omega)];have G:j+o.length - (U.take j).length-o.length=0:=by simp;omega
 rw[G,yQ h,vV];simp only[zo,yT,zF,List.singleton_append];rw[show j+(o.length+1)=j+o.length+1 by omega]
theorem Zd{lo c g x n v:Int}{P:Int}{E c':Int}(G:E=x-c+1000000000*c')(J:lo+P*(-c)=v):lo+P*E+1000000000*P*(-c')=v+P*x:=by
 subst G;rw[<- J];grind
theorem ali{σ:Store}{nx bu bv:Nat}{U W:List Int}{j n:Nat}{g:Int}{L:Nat}{B:BZ}(c0:n<L)(hu:σ bu=some ⟨U.flatMap cI,1,true⟩)(hv:σ bv=some B)(b9:bu≠bv)(hW:∀k (h:k<W.length),B.cells[k]?=some (I W[k]))(hn:W.length=n)
  (hj:j+n<U.length) (hl:U.length<=3000000) (dU:Dg U) (dW:Dg W) (hg:0<=g/\g<1000000000) :
  ∃lo t,ev gu Ac Ed 206 [.rs bu j L,.rs bv 0 n,I g] σ nx=some (Bo (decide (t<0)),upd σ bu (some ⟨(lay U j (lo++[t])).flatMap cI,1,true⟩),nx)/\lo.length=n/\Dg lo/\vl lo+bp n*t=vl ((U.drop j).take n)+bp n*U[j+n] - g*vl W/\-1000000000<=t/\t<=1000000000:=by
 have b2:∀(x:Option BZ),upd σ bu x bv=some B:=fun x=>by rw[iY _ _ (yS b9)];exact hv
 have b3:∀(x:Option BZ),upd σ bu x bu=x:=fun x=>iW _ _ _
 rw[qO [.tmp 6] [] func206];simp only[go_sem];generalize hL:aA _ _=y;obtain⟨r,rfl,T',lo,c,rfl,h0,h1,h7,E,J8,G,hc⟩:=rP hL n (fun k st=>st.T 0= .rs bu j L/\st.T 1= .rs bv 0 n/\st.T 2=I g/\st.T 11= .rs bv 0 n/\st.T 12=I n/\st.T 13=I k/\st.nx=nx/\∃lo c,st.T 7=I c/\st.σ=upd σ bu (some ⟨(lay U j lo).flatMap cI,1,true⟩)/\lo.length=k/\Dg lo/\vl lo+bp k*(-c)=vl ((U.drop j).take k) - g*vl (W.take k)/\0<=c/\c<=1000000000)
  (fun r=>∃T lo c,r=(.exit 0,⟨T,upd σ bu (some ⟨(lay U j lo).flatMap cI,1,true⟩),nx⟩)/\T 0= .rs bu j L/\T 1= .rs bv 0 n/\T 7=I c/\lo.length=n/\Dg lo/\vl lo+bp n*(-c)=vl ((U.drop j).take n) - g*vl W/\0<=c/\c<=1000000000) (by
   clear hL;rintro k ⟨T,σ',nx'⟩ c2 ⟨h0,h1,h2,O,J,Y,a6,lo,c,h7,a7,E,J8,G,b4,b5⟩;simp only at h0 h1 h2 h7 O J Y a6 a7;subst a6 a7;have f1:(k:Int)<(n:Int):=by omega
   have f2:=nP k;have f3:=iF (n:=(k:Int)+1);have b6:k<W.length:=by omega
   have S:=hW k b6;obtain⟨m,hm⟩:∃m,m=W[k]:=⟨_,rfl⟩;have mr:=dW.get b6;rw[<- hm]at S mr;have a1:j+k<U.length:=by omega
   have f4:(k:Int)<(L:Int):=by omega
   obtain⟨u,b7⟩:∃u,u=U[j+k]:=⟨_,rfl⟩;have ur:=dU.get a1;have Bf:=idx (xs:=lay U j lo) (k:=j+k) (by rw[o7 (by omega)];exact a1);rw[Hg E a1]at Bf;rw[<- b7]at ur Bf;have c5:j+k<(lay U j lo).length:=by rw[o7 (by omega)];exact a1
   have v1:vl ((U.drop j).take (k+1))=vl ((U.drop j).take k)+bp k*u:=by
    rw[iL (by rw[zW];omega),List.getElem_drop,b7]
   have v2:vl (W.take (k+1))=vl (W.take k)+bp k*m:=by rw[iL b6,hm]
   obtain⟨q1,q2,q3,q4⟩:=Zb ur hg mr ⟨b4,b5⟩;have w1:=iF (n:=g*m);have w2:=iF (n:=u-g*m);have w3:=iF (n:=u-g*m-c);have fin:∀x' c':Int,x'=(u-g*m) - c+1000000000*c'->vl lo+bp k*x'+bp (k+1)*(-c')=vl ((U.drop j).take (k+1)) - g*vl (W.take (k+1)):=fun x' c' hx=>by
    rw[tH,Zd (c:=c) (g:=g) (n:=m) hx G,v1,v2];grind
   by_cases a8:u-g*m-c<0
   .obtain⟨x,b8⟩:∃x,x=u-g*m-c:=⟨_,rfl⟩
    rw[<- b8]at a8 q1 q2 w3;have w4:=iF (n:=999999999-x);have t1:(999999999-x).tdiv 1000000000=(999999999-x) / 1000000000:=xC (by omega);have w5:=iF (n:=(999999999-x) / 1000000000);have w6:=iF (n:=(999999999-x) / 1000000000*1000000000);have w7:=iF (n:=x+(999999999-x) / 1000000000*1000000000);have c6:=sQ (lay U j lo) (j+k) (x+(999999999-x) / 1000000000*1000000000);rw[o8 E a1]at c6;refine .inl ⟨_,by simp only[go_sem,h0,h1,h2,h7,O,J,Y,b2,b3,S,Bf,f1,f2,f3,f4,c5,w1,w2,<- b8,w3,a8,w4,t1,w5,w6,w7,ND,c6,iV];rfl,?_⟩;simp only[go_sem,h0,h1,h2,O,J];refine⟨rfl,_,_,rfl,rfl,by simp[E],J8.snoc (by omega) (by omega),?_,by omega,by omega⟩;rw[iO,E];exact fin _ _ (by omega)
   .have c6:=sQ (lay U j lo) (j+k) (u-g*m-c)
    rw[o8 E a1]at c6;refine .inl ⟨_,by simp only[go_sem,h0,h1,h2,h7,O,J,Y,b2,b3,S,Bf,f1,f2,f3,f4,c5,w1,w2,w3,a8,c6,iV];rfl,?_⟩;simp only[go_sem,h0,h1,h2,O,J];refine⟨rfl,_,_,rfl,rfl,by simp[E],J8.snoc (by omega) (by omega),?_,by omega,by omega⟩;rw[iO,E];exact fin _ 0 (by omega)) (by
   clear hL;rintro ⟨T,σ',nx'⟩ ⟨h0,h1,h2,O,J,Y,a6,lo,c,h7,a7,E,J8,G,b4,b5⟩;simp only at h0 h1 h2 h7 O J Y a6 a7;subst a6 a7;rw[zk (l:=W) (by omega)]at G;refine⟨_,by simp only[go_sem,J,Y,zX];rfl,by simp,_,lo,c,rfl,by simp only[go_sem,h0],by simp only[go_sem,h1],by simp only[go_sem,h7],E,J8,G,b4,b5⟩) (by
   simp only[go_sem];exact⟨[],0,rfl,by rw[Xd,Rf hu],rfl,Dg.nil,by simp[vl],xg _,by decide⟩)
 have f1:=nP n;have f2:(n:Int)<(L:Int):=by omega
 have Bf:=idx (xs:=lay U j lo) (k:=j+n) (by rw[o7 (by omega)];exact hj);rw[Hg E hj]at Bf;have c5:j+n<(lay U j lo).length:=by rw[o7 (by omega)];exact hj
 have ur:=dU.get hj;have w1:=iF (n:=U[j+n] - c);have c6:=sQ (lay U j lo) (j+n) (U[j+n] - c);rw[o8 E hj]at c6;have c7:=idx (xs:=lay U j (lo++[U[j+n] - c])) (k:=j+n) (by rw[o7 (by simp;omega)];exact hj);have e7:(lay U j (lo++[U[j+n] - c]))[j+n]'(by rw[o7 (by simp;omega)];exact hj)=U[j+n] - c:=by
  have:(lay U j (lo++[U[j+n] - c]))[j+n]?=some (U[j+n] - c):=by
   rw[<- o8 E hj,List.getElem?_set_self (by rw[o7 (by omega)];exact hj)]
  rw[zy (by rw[o7 (by simp;omega)];exact hj)]at this;exact Option.some.inj this
 rw[e7]at c7;refine⟨lo,U[j+n] - c,by simp only[go_sem,h0,h1,h7,b2,b3,f1,f2,Bf,c5,w1,c6,c7,iV],E,J8,?_,by omega,by omega⟩;rw[vJ];have:bp n* -c= -(bp n*c):=by rw[Int.mul_neg]
 omega
theorem alk{σ:Store}{nx J bv:Nat}{U W:List Int}{j n:Nat}{t:Int}{L:Nat}{B:BZ}(b7:n<L)(hu:σ J=some ⟨U.flatMap cI,1,true⟩)(hv:σ bv=some B)(b6:J≠bv)(hW:∀k (h:k<W.length),B.cells[k]?=some (I W[k]))(hn:W.length=n)
  (hj:j+n<U.length) (hl:U.length<=3000000) (dU:∀k (h:k<U.length),k<j+n->0<=U[k]/\U[k]<1000000000) (hU:U[j+n]=t) (ht:-1000000000<=t/\t<=1000000000) (dW:Dg W) :
  ∃lo c,ev gu Ac Ed 207 [.rs J j L,.rs bv 0 n] σ nx=some (.dF [],upd σ J (some ⟨(lay U j (lo++[t+c])).flatMap cI,1,true⟩),nx)/\lo.length=n/\Dg lo/\vl lo+bp n*c=vl ((U.drop j).take n)+vl W/\0<=c/\c<=1:=by
 have a8:∀(x:Option BZ),upd σ J x bv=some B:=fun x=>by rw[iY _ _ (yS b6)];exact hv
 have b2:∀(x:Option BZ),upd σ J x J=x:=fun x=>iW _ _ _
 rw[qO [] [] func207];simp only[go_sem];generalize hL:aA _ _=y;obtain⟨r,rfl,T',lo,c,rfl,h0,h1,h4,E,J8,G,hc⟩:=rP hL n (fun k st=>st.T 0= .rs J j L/\st.T 1= .rs bv 0 n/\st.T 8= .rs bv 0 n/\st.T 9=I n/\st.T 10=I k/\st.nx=nx/\∃lo c,st.T 4=I c/\st.σ=upd σ J (some ⟨(lay U j lo).flatMap cI,1,true⟩)/\lo.length=k/\Dg lo/\vl lo+bp k*c=vl ((U.drop j).take k)+vl (W.take k)/\0<=c/\c<=1)
  (fun r=>∃T lo c,r=(.exit 0,⟨T,upd σ J (some ⟨(lay U j lo).flatMap cI,1,true⟩),nx⟩)/\T 0= .rs J j L/\T 1= .rs bv 0 n/\T 4=I c/\lo.length=n/\Dg lo/\vl lo+bp n*c=vl ((U.drop j).take n)+vl W/\0<=c/\c<=1) (by
   clear hL;rintro k ⟨T,σ',nx'⟩ b8 ⟨h0,h1,h8,h9,O,S,lo,c,h4,Y,E,J8,G,b3,b4⟩;simp only at h0 h1 h4 h8 h9 O S Y;subst S Y;have f1:(k:Int)<(n:Int):=by omega
   have f2:=nP k;have f3:=iF (n:=(k:Int)+1);have a7:k<W.length:=by omega
   have a1:=hW k a7;obtain⟨m,hm⟩:∃m,m=W[k]:=⟨_,rfl⟩;have mr:=dW.get a7;rw[<- hm]at a1 mr;have a6:j+k<U.length:=by omega
   have f4:(k:Int)<(L:Int):=by omega
   obtain⟨u,b5⟩:∃u,u=U[j+k]:=⟨_,rfl⟩;have ur:=dU (j+k) a6 (by omega);have Bf:=idx (xs:=lay U j lo) (k:=j+k) (by rw[o7 (by omega)];exact a6);rw[Hg E a6]at Bf;rw[<- b5]at ur Bf;have c5:j+k<(lay U j lo).length:=by rw[o7 (by omega)];exact a6
   have v1:vl ((U.drop j).take (k+1))=vl ((U.drop j).take k)+bp k*u:=by
    rw[iL (by rw[zW];omega),List.getElem_drop,b5]
   have v2:vl (W.take (k+1))=vl (W.take k)+bp k*m:=by rw[iL a7,hm]
   have w1:=iF (n:=u+m);have w2:=iF (n:=u+m+c);obtain⟨q1,q2⟩:=jH (n:=u+m+c) (by omega);have w3:=iF (n:=(u+m+c) / 1000000000);have c6:=sQ (lay U j lo) (j+k) ((u+m+c)%1000000000);rw[o8 E a6]at c6;refine .inl ⟨_,by simp only[go_sem,h0,h1,h4,h8,h9,O,a8,b2,a1,Bf,f1,f2,f3,f4,c5,w1,w2,w3,q1,q2,ND,c6,iV];rfl,?_⟩;simp only[go_sem,h0,h1,h8,h9];refine⟨rfl,_,_,rfl,rfl,by simp[E],J8.snoc (by omega) (by omega),?_,by omega,by omega⟩;rw[iO,E,tH,v1,v2,sF (n:=u+m+c) (by omega),yE,yE];omega) (by
   clear hL;rintro ⟨T,σ',nx'⟩ ⟨h0,h1,h8,h9,O,S,lo,c,h4,Y,E,J8,G,b3,b4⟩;simp only at h0 h1 h4 h8 h9 O S Y;subst S Y;rw[zk (l:=W) (by omega)]at G;refine⟨_,by simp only[go_sem,h9,O,zX];rfl,by simp,_,lo,c,rfl,by simp only[go_sem,h0],by simp only[go_sem,h1],by simp only[go_sem,h4],E,J8,G,b3,b4⟩) (by
   simp only[go_sem];exact⟨[],0,rfl,by rw[Xd,Rf hu],rfl,Dg.nil,by simp[vl],xg _,by decide⟩)
 have f1:=nP n;have f2:(n:Int)<(L:Int):=by omega
 have Bf:=idx (xs:=lay U j lo) (k:=j+n) (by rw[o7 (by omega)];exact hj);rw[Hg E hj,hU]at Bf;have c5:j+n<(lay U j lo).length:=by rw[o7 (by omega)];exact hj
 have w1:=iF (n:=t+c);have c6:=sQ (lay U j lo) (j+n) (t+c);rw[o8 E hj]at c6;exact⟨lo,c,by simp only[go_sem,h0,h1,h4,a8,b2,f1,f2,Bf,c5,w1,c6,iV],E,J8,G,hc⟩
theorem m_{xs:List Int}{n:Nat}(h:Dg xs)(G:vl xs=n):(xs.flatMap cI).take (ln n)=(dg n).flatMap cI/\ln n<=xs.length:=by
 obtain⟨r,E⟩:=Gm xs;rw[uI h G]at E;have J:(dg n).length=ln n:=rfl;refine⟨?_,?_⟩
 .rw[sO]
  conv=>lhs;rw[E]
  rw[<- J,xZ];rfl
 .rw[E,zo];omega
theorem aco{n:Nat}(J:2<=ln n):∃(b1 s:Nat) (h:ln n-1<(dg n).length),(dg n)[ln n-1]=(b1:Int)/\0<b1/\b1<1000000000/\s=1000000000 / (b1+1)/\1<=s/\s<1000000000/\ln (n*s)=ln n/\bp (ln n-1)*500000000<=(n*s:Nat):=by
 have hl:(dg n).length=ln n:=rfl;have h:ln n-1<(dg n).length:=by omega
 have hd:=(rJ n).get h;obtain⟨b1,E⟩:∃b1:Nat,(dg n)[ln n-1]=(b1:Int):=⟨((dg n)[ln n-1]).toNat,by omega⟩;have a1:n≠0:=fun e=>by rw[e,G8]at J;omega
 have G:(n:Int)=vl ((dg n).take (ln n-1))+bp (ln n-1)*b1:=by
  have:=iL h;rw[show ln n-1+1=(dg n).length by omega,yV,iR,E]at this;exact this
 have O:=iQ ((rJ n).take (ln n-1));rw[zY,yB (by omega)]at O;have Y:=iP ((rJ n).take (ln n-1));have hP:=tJ (ln n-1);have S:0<b1:=by
  rcases Nat.eq_zero_or_pos b1 with e|e
  .subst e
   rw[show((0:Nat):Int)=0 from rfl,vT]at G;have:=(o_ (n:=n) (k:=ln n-1)).mpr (by omega);omega
  .exact e
 rw[E]at hd;obtain⟨k1,k2,k3,k4⟩:=acg (b1:=b1) (by omega) (by omega);have hs:((1000000000 / (b1+1):Nat):Int)=1000000000 / ((b1:Int)+1):=by simp
 rw[<- hs]at k1 k2 k3 k4;refine⟨b1,1000000000 / (b1+1),h,E,S,by omega,rfl,by omega,by omega,?_,?_⟩
 .refine Nat.le_antisymm (o_.mpr ?_) ?_
  .have e:bp (ln n)=bp (ln n-1)*1000000000:=by
    have:=tH (ln n-1);rw[show ln n-1+1=ln n by omega]at this;rw[this,Int.mul_comm]
   have h1:(n:Int)<bp (ln n-1)*(b1+1):=by rw[yE];omega
   rw[xQ,e];generalize ((1000000000 / (b1+1):Nat):Int)=s at *;have J:(n:Int)*s<bp (ln n-1)*(b1+1)*s:=um h1 (by omega);have h3:bp (ln n-1)*((b1+1)*s)<=bp (ln n-1)*1000000000:=zO (by rw[Int.mul_comm];exact k2) (by omega);rw[<- wB]at h3;omega
  .exact ny (Nat.le_mul_of_pos_right _ (by omega))
 .rw[xQ]
  generalize ((1000000000 / (b1+1):Nat):Int)=s at *;have h1:bp (ln n-1)*b1*s<=(n:Int)*s:=zf (by omega) (by omega);have J:bp (ln n-1)*500000000<=bp (ln n-1)*(b1*s):=zO k3 (by omega);rw[<- wB]at J;omega
theorem alm{σ:Store}{nx b:Nat}{P:List Int}{N:Nat}(hb:σ b=some ⟨P.flatMap cI,1,true⟩)(S:b<nx)(hd:Dg P)(hv:vl P=N)(hN:N≠0)(hl:P.length<=1000000+1000000)(hp:P.length<=ln N+1) :
  ∃G σ' nx',bC σ nx 1 8 (.rs b 0 (ln N)) [I 0] 1=some (.rs G 0 (ln N+1),σ',nx')/\σ' G=some ⟨(dg N++[0]).flatMap cI,1,true⟩/\nx<=nx'/\(G=b\/G=nx)/\G<nx'/\∀c,c<nx->¬c=b->σ' c=σ c:=by
 obtain⟨r,O⟩:=Gm P;rw[uI hd hv]at O;have J:(dg N).length=ln N:=rfl;have hle:P.length=ln N+r.length:=by rw[O,zo,J]
 have cell:∀xs:List Int,(xs.flatMap cI).length=xs.length:=sS;unfold bC;simp only[hb];rw[ug (by decide)]
 by_cases h:r=[]
 .subst h
  have hP:P=dg N:=by rw[O];simp
  have a1:P.length=ln N:=by rw[hle];rfl
  rw[ug (by rw[cell];omega),uf (by
   refine⟨by rw[cell];omega,by simp,by unfold maxLen;omega,by omega,by simp[aJ]⟩)]
  refine⟨nx,_,nx+1,rfl,?_,by omega,.inr rfl,by omega,fun c hc E=>?_⟩
  .rw[iW,hP,zC];rfl
  .rw[iZ,iY _ _ E]
 .have Y:r.length=1:=by
   have:=List.length_pos_iff.mpr h;omega
  rw[uf (by rw[cell];omega),uf ⟨by simp,by simp,by simp[aJ]⟩];refine⟨b,_,nx,rfl,?_,zu _,.inl rfl,S,fun c _ E=>iY _ _ E⟩;rw[iW];congr 2;show(P.flatMap cI).set (0+ln N*1) (I 0)=_;rw[yu,yj,sQ];congr 1;obtain⟨x,hx⟩:∃x,r=[x]:=List.length_eq_one_iff.mp Y;subst hx
  conv=>lhs;rw[O]
  rw[<- J,yA _ _ (zu _),yh];rfl
theorem window{U W:List Int}{j e:Nat}{V:Int}(E:Dg U)(hW:W.length=e+2)(G:Dg W)(J:vl W=V)(O:j+(e+2)<U.length)(a1:vl (U.drop (j+1))<V) :
  vl (U.drop j)=vl ((U.drop j).take (e+2))+bp (e+2)*U[j+(e+2)]/\vl (U.drop j)<V*1000000000 /\
  (∃Ur,0<=Ur/\Ur<bp e/\vl (U.drop j)=((U[j+(e+2)]*1000000000+U[j+e+1])*1000000000+U[j+e])*bp e+Ur) /\
  (∃Vr,0<=Vr/\Vr<bp e/\V=(W[e+1]*1000000000+W[e])*bp e+Vr)/\U[j+(e+2)]<=W[e+1]/\vl (U.drop (j+(e+2)+1))=0:=by
 have a6:V<bp (e+2):=by rw[<- J,<- hW];exact iQ G
 have d1:=WQ (xs:=U) (k:=j) (by omega);have u0:=E.get (k:=j) (by omega);have X2:vl (U.drop j)<V*1000000000:=by omega
 have hl:(U.drop j).length=U.length-j:=zW;have S:=iM (U.drop j) (k:=e+2) (by omega);rw[List.drop_drop]at S;have Y:=WQ (xs:=U) (k:=j+(e+2)) O;have un:=E.get O;have lo0:=iP ((E.drop j).take (e+2));have hi0:=iP (E.drop (j+(e+2)+1));have hi:vl (U.drop (j+(e+2)+1))=0:=by
  rcases Int.lt_trichotomy (vl (U.drop (j+(e+2)+1))) 0 with h|h|h
  .omega
  .exact h
  .exfalso
   have h1:bp (e+2)*1000000000<=bp (e+2)*vl (U.drop (j+(e+2))):=zO (by omega) (xu (tJ _));have h2:V*1000000000<=bp (e+2)*1000000000:=zf (by omega) (by decide);omega
 rw[hi]at Y;have s3:vl (U.drop j)=vl ((U.drop j).take (e+2))+bp (e+2)*U[j+(e+2)]:=by rw[S,Y];simp
 have g:∀ {xs:List Int} (h:e+1<xs.length),vl (xs.take (e+2))=vl (xs.take e)+bp e*xs[e]+bp e*1000000000*xs[e+1]:=fun {xs} h=>by
  rw[iL (k:=e+1) h,iL (k:=e) (by omega),tH];grind
 have g1:=g (xs:=U.drop j) (by omega);simp only[List.getElem_drop]at g1;have e1:U[j+(e+1)]=U[j+e+1]:=rfl;rw[e1]at g1;have g2:=g (xs:=W) (by omega);rw[zk (by omega),J]at g2;have b2:bp (e+2)=bp e*1000000000*1000000000:=by rw[tH,tH];grind
 have rU:=iQ ((E.drop j).take e);rw[zY,hl,yB (by omega)]at rU;have rV:=iQ (G.take e);rw[zY,yB (by omega)]at rV;refine⟨s3,X2,⟨_,iP ((E.drop j).take e),rU,?_⟩,⟨_,iP (G.take e),rV,?_⟩,?_,hi⟩
 .rw[s3,g1,b2];grind
 .rw[g2];grind
 .have w1:=G.get (k:=e) (by omega)
  have w2:=G.get (k:=e+1) (by omega);refine Int.not_lt.mp fun h=>?_
  have h1:bp (e+2)*(W[e+1]+1)<=bp (e+2)*U[j+(e+2)]:=zO (by omega) (xu (tJ _));have h2:bp e*W[e]<=bp e*999999999:=zO (by omega) (xu (tJ _));have h3:V<bp e*1000000000*(W[e+1]+1):=by rw[g2,yE];omega
  have h4:V*1000000000<bp (e+2)*(W[e+1]+1):=by
   rw[b2];have:=um h3 (show(0:Int)<1000000000 by decide);have e:bp e*1000000000*(W[e+1]+1)*1000000000=bp e*1000000000*1000000000*(W[e+1]+1):=by grind
   omega
  omega
theorem afG{U a b:List Int}{j:Nat}(h:a.length=b.length)(G:j+a.length<=U.length):lay (lay U j a) j b=lay U j b:=by
 unfold lay;have E:(U.take j).length=j:=by rw[zY];omega
 rw[xZ E];congr 2;rw[<- zF,List.drop_left' (by rw[zo,E,h]),h]
theorem Ri{U a:List Int}{j:Nat}(E:j+a.length<=U.length):(lay U j a).drop j=a++U.drop (j+a.length):=by
 unfold lay;exact List.drop_left' (by rw[zY];omega)
theorem Rj{U a:List Int}{j:Nat}(E:j+a.length<=U.length):(lay U j a).take j=U.take j:=by
 unfold lay;exact xZ (by rw[zY];omega)
theorem aia{U a:List Int}{j:Nat}(h:Dg U)(E:Dg a):Dg (lay U j a):=(h.take _).app (E.app (h.drop _))
theorem acp{U:List Int}{j n:Nat}{L Q:List Int}{q V N:Int}(hj:j+(n+1)<=U.length)(O:L.length=n)(E:vl (U.drop (j+n+1))=0)(S:vl L=vl (U.drop j) - q*V)(Y:vl U+V*(bp (j+1)*vl Q)=N) :
  vl ((lay U j (L++[0])).drop j)=vl L/\vl (lay U j (L++[0]))+V*(bp j*vl (q :: Q))=N:=by
 have hl:(L++[0]).length=n+1:=by simp[O]
 have G:vl ((lay U j (L++[0])).drop j)=vl L:=by
  rw[Ri (by omega),Vf,iO,hl,show j+(n+1)=j+n+1 by omega,E];simp
 refine⟨G,?_⟩;have J:=iM (lay U j (L++[0])) (k:=j) (by rw[o7 (by omega)];omega);rw[Rj (by omega),G]at J;have h3:=iM U (k:=j) (by omega);rw[J,S,<- Y,h3,tH];show _+bp j*_+V*(bp j*(q+1000000000*vl Q))=_;grind
theorem Ze(f:V->Option (List Nat))(h:∀x,f (I x)=some [])(xs:List Int):bM f (xs.flatMap cI)=some []:=by
 induction xs with
 |nil=>rfl
 |cons x xs E=>
  show bM f (I x :: xs.flatMap cI)=_;rw[D9,h,E];rfl
theorem pR{σ:Store}{b off len:Nat}{xs:List Int}(d:Nat)(h:σ b=some ⟨xs.flatMap cI,1,true⟩):gather σ (d+1) (.rs b off len)=some [b]:=by
 have e:gather σ (d+1) (.rs b off len)=match σ b with
   |some B=>match bM (gather σ d) B.cells with
    |some ids=>some (b :: ids)
    |none=>none
   |none=>none:=rfl
 rw[e,h];simp only;rw[Ze _ (fun x=>Lu σ d _)]
theorem afH{σ:Store}{b E j:Nat}{xs:List Int}(h:σ b=some ⟨xs.flatMap cI,1,true⟩)(J:xs.length=E)(O:j<E) :
  ((σ b).bind fun B=>if j<=E/\B.st=1/\E<=B.cells.length then if j=0 then some (V.rs b 0 E)else if j=E then some (V.ts [] 0)else some (V.rs b j (E-j))else none)=some (.rs b j (E-j)):=by
 rw[h];simp only[zl,sS,J];rw[uf ⟨by omega,trivial,zu _⟩]
 by_cases G:j=0
 .subst G;rw[uf rfl];rfl
 .rw[ug G,ug (by omega)]
theorem afI{b E j l:Nat}(J:l=E)(O:j<E) :
  (if j<=E/\E<=l then if j=0 then some (V.rs b 0 E)else if j=E then some (V.ts [] 0)else some (V.rs b j (E-j))else none)=some (.rs b j (E-j)):=by
 subst J;rw[uf ⟨by omega,zu _⟩]
 by_cases G:j=0
 .subst G;rw[uf rfl];rfl
 .rw[ug G,ug (by omega)]
theorem after_take{U lo:List Int}{j e:Nat}{X g tt G:Int}(a6:lo.length=e+2)(J8:Dg lo)(E:vl lo+bp (e+2)*tt=X-g*G)(gh:X<(g+1)*G)(gl:(g-1)*G<=X)(dV:G<bp (e+2))(V0:0<G)(g0:0<=g)(X0:0<=X) :
  (tt=0/\vl lo=X-g*G/\vl lo<G)\/(tt= -1/\0<=g-1/\∀(J:List Int) (cc:Int),J.length=e+2->Dg J->vl J+bp (e+2)*cc=vl lo+G->cc=1/\vl J=X - (g-1)*G/\vl J<G):=by
 have O:=iQ J8;rw[a6]at O;have S:=iP J8;rcases ace gh gl with ⟨z1,z2⟩|⟨z1,z2,z3⟩
 .have a1:tt=0:=Q_ S O z1 (by omega) E.symm
  subst a1;rw[vT,Int.add_zero]at E;exact .inl ⟨rfl,E,by omega⟩
 .have e1:(g-1)*G=g*G-G:=by rw[vK,Int.one_mul]
  rw[e1]at z2 z3⊢;have a1:tt= -1:=afC S O (by omega) z1 E.symm;subst a1;have g1:0<=g-1:=by
   refine Int.not_lt.mp fun h=>?_
   have:g=0:=by omega
   subst this;omega
  refine .inr ⟨rfl,g1,fun J cc h1 h2 h3=>?_⟩;have Y:=iQ h2;rw[h1]at Y;have e2:bp (e+2)*(cc-1)=bp (e+2)*cc-bp (e+2):=by rw[vJ,Int.mul_one]
  have e3:bp (e+2)* -1= -bp (e+2):=by rw[Int.mul_neg,Int.mul_one]
  rw[e3]at E;have a7:cc-1=0:=Q_ (X:=X - (g*G-G)) (iP h2) Y z2 (by omega) (by rw[e2];omega);have:cc=1:=by omega
  subst this;rw[Int.mul_one]at h3;exact⟨rfl,by omega,by omega⟩
theorem afJ{U lo:List Int}{j e lu:Nat}(dU:Dg U)(lU:U.length=lu)(a7:j+(e+2)<U.length)(G:lo.length=e+2)(J8:Dg lo) :
  ∃E,lay U j (lo++[-1])=E/\E.length=lu/\(∃h:j+(e+2)<E.length,E[j+(e+2)]= -1)/\(∀k (h:k<E.length),k<j+(e+2)->0<=E[k]/\E[k]<1000000000)/\(E.drop j).take (e+2)=lo /\
   ∀Y:List Int,Y.length=e+2->lay E j (Y++[0])=lay U j (Y++[0]):=by
 have O:(lo++[-1]).length=e+3:=by simp[G]
 have J:(lay U j (lo++[-1])).drop j=lo++[-1]++U.drop (j+(e+3)):=by rw[Ri (by omega),O]
 have a1:(lay U j (lo++[-1])).take j=U.take j:=by rw[Rj (by omega)]
 have a6:(lay U j (lo++[-1])).length=lu:=by rw[o7 (by omega)];exact lU
 refine⟨_,rfl,a6,⟨by omega,?_⟩,fun k hk a8=>?_,by rw[J,zF,xZ G],fun Y h=>?_⟩
 .have:((lay U j (lo++[-1])).drop j)[e+2]?=some (-1):=by
   rw[J,zF,zS (by omega),G,yh];rfl
  rw[yG,zy (by omega)]at this;exact Option.some.inj this
 .by_cases S:k<j
  .have:((lay U j (lo++[-1])).take j)[k]?=some (lay U j (lo++[-1]))[k]:=by rw[List.getElem?_take_of_lt S,zy hk]
   rw[a1,List.getElem?_take_of_lt S,zy (by omega)]at this;rw[<- Option.some.inj this];exact dU.get (by omega)
  .have:((lay U j (lo++[-1])).drop j)[k-j]?=some (lay U j (lo++[-1]))[k]:=by
    rw[yG];have e2:j+(k-j)=k:=by omega
    rw[e2,zy hk]
   rw[J,zF,zZ (by omega),zy (by omega)]at this;rw[<- Option.some.inj this];exact J8.get (by omega)
 .exact afG (by rw[O];simp[h]) (by omega)
theorem Rk{U Q E:List Int}{j e S:Nat}{q X G N:Int}(dU:Dg U)(dQ:Dg Q)(lU:U.length=S)(a6:j+(e+2)<U.length)(lQ:Q.length+(j+1)=S - (e+2))(a1:vl (U.drop (j+(e+2)+1))=0)(eX:X=vl (U.drop j))(J:vl U+G*(bp (j+1)*vl Q)=N)
  (h1:E.length=e+2) (h2:Dg E) (h3:0<=q) (h4:q<1000000000) (h5:vl E=X-q*G) (h6:vl E<G) :
  ∃O Y,(lay U j (E++[0]))=O/\I q :: Q.flatMap cI=Y.flatMap cI/\Dg O/\Dg Y/\O.length=S/\Y.length+j=S - (e+2)/\vl (O.drop j)<G/\vl O+G*(bp j*vl Y)=N:=by
 rw[eX]at h5;obtain⟨y1,y2⟩:=acp (U:=U) (j:=j) (n:=e+2) (L:=E) (Q:=Q) (q:=q) (by omega) h1 a1 h5 J;have hl:(E++[0]).length=e+3:=by simp[h1]
 refine⟨_,q :: Q,rfl,rfl,aia dU (h2.snoc (by decide) (by decide)),fun x hx=>?_,by rw[o7 (by omega)];exact lU,by simp;omega,by rw[y1];exact h6,y2⟩;rcases List.mem_cons.mp hx with rfl|hx
 .exact⟨h3,h4⟩
 .exact dQ x hx
theorem Oa(n k:Nat):Dg (pad n k):=fun x E=>by
 unfold pad at E;obtain⟨i,_,rfl⟩:=List.mem_map.mp E;omega
theorem acr(n k:Nat)(h:n<1000000000^k):vl (pad n k)=n:=by
 have E:=QN k n h;rw[WO (Oa n k)]at E;have G:=congrArg vl E;rw[iR,iR,vw (iP (Oa n k))]at G;exact G
theorem LM{s:Nat}(E:1<=s)(h:s<1000000000):LI (dg s)= .ts [I s] 1:=by rw[rG (by omega) h];rfl
theorem aln(m n:Nat)(hm:ln m<=1000000)(h2:2<=ln n)(hle:n<=m):fn gu Ac Ed 176 [LI (dg m),LI (dg n)]=some (.dF [LI (dg (m / n)),LI (dg (m%n))]):=by
 obtain⟨b1,s,hb,m9,u6,u7,hs,n0,j9,k0,k6⟩:=aco h2;have u9:(dg n).length=ln n:=rfl;have v6:(dg m).length=ln m:=rfl;have n1:ln n<=ln m:=ny hle;have n2:m≠0:=fun e=>by rw[e,G8]at n1;omega
 have v7:n≠0:=fun e=>by rw[e,G8]at h2;omega
 have k1:=oV m n (by omega) (by omega);have hc:¬jI m n<0:=by unfold jI;rw[ug (by omega)];split<;>decide
 have c1:(((dg n).length:Int)==1)=false:=by rw[uZ];omega
 have v8:ln s=1:=by
  have:=ng j9;have:=abK (n:=s) (by omega);omega
 obtain⟨n3,P1,t1,k9,w7,n4,n5⟩:=acj m s hm (by omega) n2 (by omega) 1;rw[LM n0 j9]at t1;have w8:m*s≠0:=Nat.mul_ne_zero n2 (by omega);have w9:ln m<=ln (m*s):=ny (Nat.le_mul_of_pos_right _ (by omega));have x0:ln (m*s)<=ln m+1:=by have:=Fb m s;omega
 obtain⟨O1,ea⟩:∃O1,O1=upd (eG 1 (upd aG 0 (some ⟨[I s],1,true⟩)) n3 [1]) 2 (some ⟨[I 0],1,true⟩):=⟨_,rfl⟩;have n6:O1 1=some ⟨P1.flatMap cI,1,true⟩:=by
  rw[ea,iY _ _ (by decide),oH (by decide) (by simp)];exact k9
 have n7:O1 0=some ⟨[I s],1,true⟩:=by
  rw[ea,iY _ _ (by decide),oG (by decide)];exact iW _ _ _
 obtain⟨bu,JQ,nb,ga,gb,gn,D6,x3,n8⟩:=alm (nx:=3) n6 (by decide) n4 n5 w8 (by omega) (by omega);have l5:JQ 0=some ⟨[I s],1,true⟩:=by rw[n8 0 (by decide) (by decide)];exact n7
 obtain⟨σ2,P2,t2,l6,x4,n9,o0⟩:=acj n s (by omega) (by omega) v7 (by omega) nb;rw[LM n0 j9,k0]at t2;obtain⟨e,he⟩:∃e,ln n=e+2:=⟨ln n-2,by omega⟩;obtain⟨O,x7⟩:∃O,O=ln (m*s)+1:=⟨_,rfl⟩;obtain⟨Ob,ec⟩:∃Ob,Ob=eG nb JQ σ2 [nb]:=⟨_,rfl⟩;have o2:Ob nb=some ⟨P2.flatMap cI,1,true⟩:=by rw[ec,oH (by omega) (by simp)];exact l6
 have o3:Ob 0=some ⟨[I s],1,true⟩:=by rw[ec,oG (by omega)];exact l5
 have o4:Ob bu=some ⟨(dg (m*s)++[0]).flatMap cI,1,true⟩:=by rw[ec,oG x3];exact gb
 obtain⟨W,eW⟩:∃W,W=dg (n*s):=⟨_,rfl⟩;have k4:W.length=e+2:=by rw[eW];show ln (n*s)=_;rw[k0,he]
 have dW:Dg W:=by rw[eW];exact rJ _
 have vW:vl W=(n*s:Nat):=by rw[eW];exact iR _
 have k5:∀k (h:k<W.length),(P2.flatMap cI)[k]?=some (I W[k]):=fun k h=>by
  obtain⟨p1,p2⟩:=m_ n9 o0;have:((P2.flatMap cI).take (ln (n*s)))[k]?=some (I W[k]):=by rw[p1,<- eW];exact idx h
  rw[List.getElem?_take_of_lt (by rw[k0];omega)]at this;exact this
 have big:bp (e+1)*500000000<=(n*s:Nat):=by
  have h:=k6;rw[he]at h;exact h
 have hP:=tJ e;obtain⟨Vn,eV⟩:∃Vn:Int,Vn=(n*s:Nat):=⟨_,rfl⟩;rw[<- eV]at big vW;have x8:0<Vn:=by have:=tJ (e+1);omega
 have dV:=iQ dW;rw[k4,vW]at dV;have x9:500000000<=W[e+1]:=by
  have g1:=iL (xs:=W) (k:=e+1) (by omega);rw[zk (by omega),vW]at g1;have g2:=iQ (dW.take (e+1));rw[zY,yB (by omega)]at g2;refine Int.not_lt.mp fun h=>?_
  have:bp (e+1)*(W[e+1]+1)<=bp (e+1)*500000000:=zO (by omega) (xu (tJ _));rw[yE]at this;omega
 have y0:=dW.get (k:=e+1) (by omega);have h5:=dW.get (k:=e) (by omega);obtain⟨v1,o5⟩:∃v1,v1=W[e+1]:=⟨_,rfl⟩;obtain⟨v2,o6⟩:∃v2,v2=W[e]:=⟨_,rfl⟩;have e2:=k5 (e+1) (by omega);have e6:=k5 e (by omega);rw[<- o5]at x9 y0 e2;rw[<- o6]at h5 e6;have i0:(0:Int)<=((dg n).length:Int) - 1:=by omega
 have i1:=iF (n:=((ln n-1:Nat):Int));have i2:((dg n).length:Int) - 1=((ln n-1:Nat):Int):=by omega
 have i3:((ln n-1:Nat):Int)<((dg n).length:Int):=by omega
 have p0:(0:Int)<=((ln n-1:Nat):Int):=by omega
 have i4:=iI (dg n) (ln n-1) hb;have i5:=idx hb;rw[m9]at i5;have i6:=iF (n:=(b1:Int)+1);have i7:¬((b1:Int)+1)=0:=by omega
 have i8:(1000000000:Int).tdiv ((b1:Int)+1)=(s:Int):=by
  rw[xC (by decide),hs];simp
 have i9:=iF (n:=(s:Int));have j1:¬(((O:Nat):Int)<=((dg m).length:Int)):=by omega
 have j2:((O:Nat):Int) - ((e+2:Nat):Int)=((O - (e+2):Nat):Int):=by omega
 have j3:=iF (n:=((O - (e+2):Nat):Int)) (by omega) (by omega);obtain⟨j4,j5,j6⟩:=nX (k:=O - (e+2)) (by omega);have j7:=iF (n:=((O - (e+2):Nat):Int) - 1) (by omega) (by omega);have p3:bC O1 3 1 8 (.rs 1 0 (ln (m*s))) [I 0] 1=some (.rs bu 0 O,JQ,nb):=by rw[ga,x7]
 have gg:=pR (σ:=n3) (b:=1) (off:=0) (len:=ln (m*s)) 6 k9;have p4:=pR (σ:=σ2) (b:=nb) (off:=0) (len:=e+2) 6 l6;rw[he]at t2;have j8:(dg n).length=e+2:=by omega
 have BG:((O1 2).bind fun B=>if 1<=B.cells.length then some (List.take 1 B.cells,1)else none)=some ([I 0],1):=by
  rw[ea,iW];rfl
 rw[qB,qO [.tmp 4,.tmp 5] [15,16,17,25] func176];simp only[go_sem,k1,hc,c1,i0,i1,i2,i3,p0,i4,i5,i6,i7,i8,i9,t1,gg,<- ea,BG,p3,l5,t2,p4,<- ec];generalize hL:aA _ _=y;obtain⟨r,rfl,T1,rfl,q0,q8,q9,l7⟩:=nY hL (fun _ st=>st.T 0=LI (dg m)/\st.T 8= .rs 0 0 1/\st.T 9= .rs bu 0 O/\st.T 10= .rs nb 0 (e+2)/\st.σ=Ob/\st.nx=nb+1)
  (fun r=>∃T,r=(.exit 0,⟨T,Ob,nb+1⟩)/\T 0=LI (dg m)/\T 8= .rs 0 0 1/\T 9= .rs bu 0 O/\T 10= .rs nb 0 (e+2)) (by
   clear hL;rintro k ⟨T,σ,nx⟩ ⟨h0,h8,h9,p5,h6,e1⟩;simp only at h0 h8 h9 p5 h6 e1;subst h6 e1;refine .inr ⟨_,by simp only[go_sem,h0,h9,j1];rfl,by simp,_,rfl,?_⟩;simp only[go_sem,h0,h8,h9,p5]) 0 (by simp only[go_sem])
 simp only[go_sem,q0,q8,q9,l7,j2,j3,j4,j5,j6,j7];obtain⟨S,y7⟩:∃S,S=nb+1:=⟨_,rfl⟩;have E0:O<=1000002:=by omega
 generalize hL:aA _ _=y
 obtain⟨r,rfl,T1,e7,U,Q,rfl,p8,p9,E,Y,sU,s0,sq,dU,dQ,lU,lQ,c9,e0⟩:=nY hL (fun mm st=>st.T 8= .rs 0 0 1/\st.T 9= .rs bu 0 O/\st.T 10= .rs nb 0 (e+2)/\st.T 11=I ((e+2:Nat):Int)/\st.T 12= .rs S 0 (O - (e+2))/\st.T 13=I ((mm:Int) - 1)/\st.nx=S+1/\mm<=O - (e+2) /\
   ∃U Q,st.σ bu=some ⟨U.flatMap cI,1,true⟩/\st.σ nb=some ⟨P2.flatMap cI,1,true⟩/\st.σ 0=some ⟨[I s],1,true⟩/\st.σ S=some ⟨rep mm [I 0]++Q.flatMap cI,1,true⟩/\Dg U/\Dg Q/\U.length=O/\Q.length+mm=O - (e+2)/\vl (U.drop mm)<Vn/\vl U+Vn*(bp mm*vl Q)=(m*s:Nat))
  (fun r=>∃T σ U Q,r=(.exit 2,⟨T,σ,S+1⟩)/\T 8= .rs 0 0 1/\T 9= .rs bu 0 O/\T 10= .rs nb 0 (e+2)/\T 12= .rs S 0 (O - (e+2))/\σ bu=some ⟨U.flatMap cI,1,true⟩/\σ 0=some ⟨[I s],1,true⟩/\σ S=some ⟨Q.flatMap cI,1,true⟩/\Dg U/\Dg Q/\U.length=O/\Q.length=O - (e+2)/\vl U<Vn/\vl U+Vn*vl Q=(m*s:Nat)) (by
   clear hL;clear i0 i1 i2 i3 p0 i4 i5 i6 i7 i8 i9 j1 j2 j3 j4 j5 j6 j7 j8 gg p4 BG ga p3 n8 k9 w7 n4 n5 t1 t2 l6 x4 n9 o0 n7 n6 ea l5 o3 o4 o2 ec w9 x0 v8 c1 hc k1 k6 hs u7 u6 m9 v6 u9 n1 q0 q8 q9 l7 big eW;rintro mm ⟨T,σ,nx⟩ ⟨p8,p9,E,G,Y,J,e1,D5,U,Q,sU,sV,s0,sq,dU,dQ,lU,lQ,c9,e0⟩;simp only at p8 p9 E G Y J e1 sU sV s0 sq;subst e1;cases mm with
   |zero=>
    have f0:¬(0:Int)<=((0:Nat):Int) - 1:=by omega
    refine .inr ⟨_,by simp only[go_sem,J,f0];rfl,by simp,_,σ,U,Q,rfl,?_⟩;simp only[go_sem,p8,p9,E,Y];refine⟨sU,s0,?_,dU,dQ,lU,by omega,by rw[yX]at c9;exact c9,by rw[<- e0,NQ,Int.one_mul]⟩;rw[sq];rfl
   |succ j=>
    have e5:((j+1:Nat):Int) - 1=(j:Int):=by omega
    rw[e5]at J;have e3:j+(e+2)<U.length:=by omega
    obtain⟨x1,x2,⟨Ur,p6,y8,xU⟩,⟨Vr,p7,q5,xV⟩,x5,x6⟩:=window (W:=W) (V:=Vn) dU k4 dW vW e3 c9;have r1:=dU.get e3;have r2:=dU.get (k:=j+e+1) (by omega);have r3:=dU.get (k:=j+e) (by omega);have q6:=idx e3;have q7:=idx (xs:=U) (k:=j+e+1) (by omega);have e8:=idx (xs:=U) (k:=j+e) (by omega);obtain⟨un,r4⟩:∃un,un=U[j+(e+2)]:=⟨_,rfl⟩;obtain⟨u1,y9⟩:∃u1,u1=U[j+e+1]:=⟨_,rfl⟩;obtain⟨u2,z6⟩:∃u2,u2=U[j+e]:=⟨_,rfl⟩;rw[<- r4]at x1 xU x5 r1 q6;rw[<- y9]at xU r2 q7;rw[<- z6]at xU r3 e8;rw[<- o5]at xV x5;rw[<- o6]at xV;obtain⟨top,r5⟩:∃top,top=un*1000000000+u1:=⟨_,rfl⟩;rw[<- r5]at xU;have tb:top<=v1*1000000000+999999999:=by
     have:=zf x5 (show(0:Int)<=1000000000 by decide);omega
    have t0:0<=top:=by omega
    obtain⟨X,eX⟩:∃X,X=vl (U.drop j):=⟨_,rfl⟩;rw[<- eX]at x1 x2 xU;have P0:0<=bp e:=xu (tJ e);have d1:bu<S+1:=by omega
    have d2:nb<S+1:=by omega
    have a0:(j:Int)+((e+2:Nat):Int)=((j+(e+2):Nat):Int):=by omega
    have a1:=iF (n:=((j+(e+2):Nat):Int)) (by omega) (by omega);have a2:(0:Int)<=((j+(e+2):Nat):Int):=by omega
    have a3:((j+(e+2):Nat):Int)<(O:Int):=by omega
    have a4:((j+(e+2):Nat):Int) - 1=((j+e+1:Nat):Int):=by omega
    have a5:=iF (n:=((j+e+1:Nat):Int));have a6:(0:Int)<=((j+e+1:Nat):Int):=by omega
    have a7:((j+e+1:Nat):Int)<(O:Int):=by omega
    have a8:=iF (n:=un*1000000000);have a9:=iF (n:=top);have b0:=nP j;have e9:((e+2:Nat):Int) - 1=((e+1:Nat):Int):=by omega
    have b2:=iF (n:=((e+1:Nat):Int));have b3:(0:Int)<=((e+1:Nat):Int):=by omega
    have b4:((e+1:Nat):Int)<((e+2:Nat):Int):=by omega
    have b5:¬v1=0:=by omega
    have b6:top.tdiv v1=top / v1:=xC t0;have b7:top.tmod v1=top%v1:=xE t0;have z7:0<=top / v1:=Int.ediv_nonneg t0 (by omega);have z8:top / v1<=1000000001:=by
     refine Int.le_of_lt_add_one (Int.ediv_lt_of_lt_mul (by omega) ?_);have:1000000002*v1=v1*1000000000+2*v1:=by omega
     show top<1000000002*v1;omega
    have b8:=iF (n:=top / v1);have m0:=Int.emod_nonneg top (show v1≠0 by omega);have m1:=Int.emod_lt_of_pos top (show 0<v1 by omega);have b9:=iF (n:=top%v1);have A0:top%v1=top-top / v1*v1:=by have:=Int.emod_def top v1;rw[Int.mul_comm]at this;exact this
    have hi0:X<(top / v1+1)*Vn:=by
     refine ale (v1:=v1) (top:=top) (P:=bp e*1000000000) (Vr:=v2*bp e+Vr) (Ur:=u2*bp e+Ur) z7 (by omega) ?_ ?_ ?_ ?_ ?_
     .rw[xV];grind
     .have:=wU h5.1 P0;omega
     .rw[xU];grind
     .have:u2*bp e<=999999999*bp e:=zf (by omega) P0
      omega
     .rw[Int.add_mul];omega
    have c0:((j+(e+2):Nat):Int) - 2=((j+e:Nat):Int):=by omega
    have h7:=iF (n:=((j+e:Nat):Int));have c2:(0:Int)<=((j+e:Nat):Int):=by omega
    have c3:((j+e:Nat):Int)<(O:Int):=by omega
    have c4:((e+2:Nat):Int) - 2=(e:Int):=by omega
    have c5:=iF (n:=(e:Int));have c6:=nP e;have c7:(e:Int)<((e+2:Nat):Int):=by omega
    refine ji ?_
    conv=>
     enter [1,r,1,1]
     simp only[go_sem,p8,p9,E,G,Y,J,sU,sV,d1,d2,q6,q7,e2,a0,a1,a2,a3,a4,a5,a6,a7,a8,a9,b0,e9,b2,b3,b4,b5,b6,b7,b8,b9,<- r5]
    generalize hL:aA _ _=z
    obtain⟨r,rfl,T1,g,rfl,p8,p9,E,G,Y,J,c8,g0,gB,gh,gl⟩:=nY hL (fun k st=>st.T 8= .rs 0 0 1/\st.T 9= .rs bu 0 O/\st.T 10= .rs nb 0 (e+2)/\st.T 11=I ((e+2:Nat):Int)/\st.T 12= .rs S 0 (O - (e+2))/\st.T 13=I j/\st.σ=σ/\st.nx=S+1 /\
      ∃g rest,st.T 15=I g/\st.T 16=I rest/\g=(k:Int)/\g<=1000000001/\X<(g+1)*Vn/\rest=top-g*v1/\0<=rest/\rest<1000000000)
     (fun r=>∃T g,r=(.exit 4,⟨T,σ,S+1⟩)/\T 8= .rs 0 0 1/\T 9= .rs bu 0 O/\T 10= .rs nb 0 (e+2)/\T 11=I ((e+2:Nat):Int)/\T 12= .rs S 0 (O - (e+2))/\T 13=I j/\T 15=I g/\0<=g/\g<1000000000/\X<(g+1)*Vn/\(g-1)*Vn<=X) (by
      clear hL;rintro k ⟨T,σ',nx⟩ ⟨p8,p9,E,G,Y,J,h6,e1,g,rest,c8,h4,E1,A1,gh,hr,r0,rB⟩;simp only at p8 p9 E G Y J c8 h4 h6 e1;subst h6 e1;have gm:g*v2<=1000000001*999999999/\0<=g*v2:=by
       refine⟨Int.le_trans (zf A1 h5.1) (zO (by omega) (by decide)),wU (by omega) h5.1⟩
      have z1:=iF (n:=g*v2);have z2:=iF (n:=rest*1000000000);have z3:=iF (n:=rest*1000000000+u2);have z4:=iF (n:=g-1);have z5:=iF (n:=rest+v1);have go:(1000000000<=g\/rest*1000000000+u2<g*v2)->X<g*Vn/\1<=g:=by
       rintro (h|h)
       .exact⟨afB (by omega) x2 h,by omega⟩
       .refine⟨ah9 (by omega) P0 xV p7 xU y8 hr h,?_⟩
        refine Int.not_lt.mp fun E2=>?_
        have:g=0:=by omega
        subst this;omega
      have fin:X<g*Vn->1<=g->rest+v1=top - (g-1)*v1/\X<(g-1+1)*Vn:=fun h _=>by
       refine⟨by rw[vK];omega,by rw[Int.sub_add_cancel];exact h⟩
      have cut:X<g*Vn->1<=g->1000000000<=rest+v1->g-1<1000000000/\(g-1-1)*Vn<=X:=fun h h1 A2=>by
       obtain⟨q1,q2⟩:=fin h h1;have q3:g-1<1000000000:=by
        refine Int.not_le.mp fun hn=>?_
        have:1000000000*v1<=(g-1)*v1:=zf hn (by omega);omega
       have q4:=ah_ (g:=g-1) (by omega) (xu q3) (by decide) P0 (by omega) xV (xu q5) xU p6 (by omega) q1 A2;refine⟨q3,?_⟩;rw[vK (g-1),Int.one_mul];omega
      by_cases hB:1000000000<=g
      .obtain⟨y1,y2⟩:=go (.inl hB)
       obtain⟨y3,y4⟩:=fin y1 y2
       by_cases hE:1000000000<=rest+v1
       .obtain⟨y5,y6⟩:=cut y1 y2 hE
        refine .inr ⟨_,by simp only[go_sem,p9,E,G,J,c8,h4,sU,sV,d1,d2,e8,e2,e6,a0,a1,a2,b0,e9,b2,b3,b4,c0,h7,c2,c3,c4,c5,c6,c7,z1,z2,z3,z4,z5,hB,hE];rfl,by simp,_,g-1,rfl,?_⟩;simp only[go_sem,p8,p9,E,G,Y,J];exact⟨by omega,y5,y4,y6⟩
       .refine .inl ⟨_,by simp only[go_sem,p9,E,G,J,c8,h4,sU,sV,d1,d2,e8,e2,e6,a0,a1,a2,b0,e9,b2,b3,b4,c0,h7,c2,c3,c4,c5,c6,c7,z1,z2,z3,z4,z5,hB,hE];rfl,k-1,by omega,?_⟩
        simp only[go_sem,p8,p9,E,G,Y,J];exact⟨_,_,rfl,rfl,by omega,by omega,y4,y3,by omega,by omega⟩
      .by_cases hC:rest*1000000000+u2<g*v2
       .obtain⟨y1,y2⟩:=go (.inr hC)
        obtain⟨y3,y4⟩:=fin y1 y2
        by_cases hE:1000000000<=rest+v1
        .obtain⟨y5,y6⟩:=cut y1 y2 hE
         refine .inr ⟨_,by simp only[go_sem,p9,E,G,J,c8,h4,sU,sV,d1,d2,e8,e2,e6,a0,a1,a2,b0,e9,b2,b3,b4,c0,h7,c2,c3,c4,c5,c6,c7,z1,z2,z3,z4,z5,hB,hC,hE];rfl,by simp,_,g-1,rfl,?_⟩;simp only[go_sem,p8,p9,E,G,Y,J];exact⟨by omega,y5,y4,y6⟩
        .refine .inl ⟨_,by simp only[go_sem,p9,E,G,J,c8,h4,sU,sV,d1,d2,e8,e2,e6,a0,a1,a2,b0,e9,b2,b3,b4,c0,h7,c2,c3,c4,c5,c6,c7,z1,z2,z3,z4,z5,hB,hC,hE];rfl,k-1,by omega,?_⟩
         simp only[go_sem,p8,p9,E,G,Y,J];exact⟨_,_,rfl,rfl,by omega,by omega,y4,y3,by omega,by omega⟩
       .refine .inr ⟨_,by simp only[go_sem,p9,E,G,J,c8,h4,sU,sV,d1,d2,e8,e2,e6,a0,a1,a2,b0,e9,b2,b3,b4,c0,h7,c2,c3,c4,c5,c6,c7,z1,z2,z3,z4,z5,hB,hC];rfl,by simp,_,g,rfl,?_⟩
        simp only[go_sem,p8,p9,E,G,Y,J,c8];refine⟨by omega,by omega,gh,?_⟩;exact alg (by omega) (by omega) (by decide) P0 (by omega) h5.1 xV p7 (xu q5) xU p6 hr (by omega)) (top / v1).toNat (by
      simp only[go_sem,p8,p9,E,G,Y,J];exact⟨_,_,rfl,rfl,by omega,z8,hi0,A0,m0,by omega⟩)
    have l8:bu≠nb:=by omega
    have k7:¬S=bu:=by omega
    obtain⟨lo,tt,k2,l9,J8,k8,E3,E4⟩:=ali (nx:=S+1) (L:=O-j) (n:=e+2) (g:=g) (by omega) sU sV l8 k5 k4 e3 (by omega) dU dW ⟨g0,gB⟩;rw[<- r4,vW,<- x1]at k8;have X0:0<=X:=by rw[eX];exact iP (dU.drop j)
    have r6:=afH sU lU (show j<O by omega);have r7:∀x,upd σ bu x S=some ⟨rep (j+1) [I 0]++Q.flatMap cI,1,true⟩:=fun x=>by rw[iY _ _ k7];exact sq
    have r8:∀x,upd σ bu x nb=some ⟨P2.flatMap cI,1,true⟩:=fun x=>by rw[iY _ _ (yS l8)];exact sV
    have r9:∀x y,upd (upd σ bu x) S y bu=x:=fun x y=>by rw[iY _ _ (yS k7),iW]
    have s1:∀x y,upd (upd σ bu x) S y nb=some ⟨P2.flatMap cI,1,true⟩:=fun x y=>by rw[iZ];exact r8 x
    have s2:∀x y,upd (upd σ bu x) S y 0=some ⟨[I s],1,true⟩:=fun x y=>by rw[iZ,iZ];exact s0
    have l1:(j:Int)<((O - (e+2):Nat):Int):=by omega
    have l2:j<(rep (j+1) [I 0]++Q.flatMap cI).length:=by rw[zo,lG];simp;omega
    have l3:=iF (n:=(j:Int) - 1);have w0:=iF (n:=g-1);have A3:g-1<1000000000:=by omega
    have jl:j<O - (e+2):=by omega
    have s3:j<=O - (e+2):=by omega
    have s4:j<j+1:=by omega
    have A4:e+2<O-j:=by omega
    rcases after_take (U:=U) (j:=j) l9 J8 k8 gh gl dV x8 g0 X0 with ⟨m2,z1,z2⟩|⟨m2,g1,z3⟩
    .subst m2
     have dc:decide ((0:Int)<0)=false:=by decide
     rw[dc]at k2;have l4:=NM j (I 0) (I g) (Q.flatMap cI);obtain⟨U',Q',m3,m4,w1,w2,w3,w4,w5,w6⟩:=Rk dU dQ lU e3 lQ x6 eX e0 l9 J8 g0 gB z1 z2;rw[m3]at k2;rw[m4]at l4;refine⟨_,by simp only[go_sem,r6,sG,p8,p9,E,G,Y,J,c8,k2,b0,l1,l2,l3,l4,r7];rfl,.inl ⟨_,rfl,j,s4,?_⟩⟩;simp only[go_sem,p8,p9,E,G,Y];exact⟨s3,U',Q',r9 _ _,s1 _ _,s2 _ _,rfl,w1,w2,w3,w4,w5,w6⟩
    .subst m2
     have dc:decide ((-1:Int)<0)=true:=by decide
     rw[dc]at k2;obtain⟨U1,A5,A6,⟨A7,A9⟩,B1,B2,ll⟩:=afJ dU lU e3 l9 J8;rw[A5]at k2;obtain⟨s5,cc,k3,m5,s6,j0,_,_⟩:=alk (σ:=upd σ bu (some ⟨U1.flatMap cI,1,true⟩)) (nx:=S+1) (L:=O-j) (n:=e+2) (t:=-1) A4 (iW _ _ _) (r8 _) l8 k5 k4 A7 (by omega) B1 A9 (by decide) dW;rw[B2,vW]at j0;obtain⟨B3,z4,z5⟩:=z3 s5 cc m5 s6 j0;subst B3;have B4:(-1:Int)+1=0:=by decide
     rw[B4,ll s5 m5,iV]at k3;have B5:=afI (b:=bu) A6 (show j<O by omega);have l4:=NM j (I 0) (I (g-1)) (Q.flatMap cI);obtain⟨U',Q',m3,m4,w1,w2,w3,w4,w5,w6⟩:=Rk dU dQ lU e3 lQ x6 eX e0 m5 s6 g1 A3 z4 z5;rw[m3]at k3;rw[m4]at l4;refine⟨_,by simp only[go_sem,r6,B5,sG,p8,p9,E,G,Y,J,c8,k2,k3,w0,b0,l1,l2,l3,l4,r7];rfl,.inl ⟨_,rfl,j,s4,?_⟩⟩;simp only[go_sem,p8,p9,E,G,Y];exact⟨s3,U',Q',r9 _ _,s1 _ _,s2 _ _,rfl,w1,w2,w3,w4,w5,w6⟩) (O - (e+2)) (by
    clear hL;simp only[go_sem,q8,q9,l7];rw[<- y7];have B6:¬bu=S:=by omega
    have B7:¬nb=S:=by omega
    refine⟨rfl,rfl,dg (m*s)++[0],[],?_,?_,?_,by rw[iW];simp,(rJ _).snoc (by decide) (by decide),Dg.nil,by rw[zo];show ln (m*s)+1=O;omega,by simp,?_,?_⟩
    .rw[iY _ _ B6];exact o4
    .rw[iY _ _ B7];exact o2
    .exact o3
    .have E6:(dg (m*s)).length=ln (m*s):=rfl
     rw[wo (by omega),iO,vT,Int.add_zero];have:=iQ ((rJ (m*s)).drop (O - (e+2)));rw[zW,show(dg (m*s)).length - (O - (e+2))=e+1 by omega]at this;have h3:=tJ (e+1);omega
    .rw[iO,iR];simp[vl])
 obtain⟨R,eR⟩:∃R:Nat,(R:Int)=vl U:=⟨(vl U).toNat,vw (iP dU)⟩;obtain⟨Qn,eQ⟩:∃Qn:Nat,(Qn:Int)=vl Q:=⟨(vl Q).toNat,vw (iP dQ)⟩;rw[<- eR,<- eQ,eV]at e0;rw[<- eR,eV]at c9;have s7:n*s*Qn+R=m*s:=by
  have h:((R+n*s*Qn:Nat):Int)=((m*s:Nat):Int):=by
   rw[Int.natCast_add,xQ (n*s) Qn];exact e0
  have:=Int.ofNat_inj.mp h;omega
 have m6:R<n*s:=Int.ofNat_lt.mp c9;have m7:0<s:=by omega
 have hq:Qn=m / n:=by
  rw[<- Nat.mul_div_mul_right m n m7,<- s7,Nat.mul_add_div (Nat.mul_pos (by omega) m7),Nat.div_eq_of_lt m6];rfl
 have hr:R=m%n*s:=by
  rw[<- Nat.mul_mod_mul_right,<- s7,Nat.mul_add_mod_self_left,Nat.mod_eq_of_lt m6]
 have B8:R / s=m%n:=by rw[hr,Nat.mul_div_cancel _ m7]
 have lR:ln R<=1000002:=zL (m_ dU eR.symm).2 (by omega);have E7:n*s<=m*s:=yc _ hle;have E9:ln R<=1000000:=by
  have h1:=ny (Nat.le_of_lt m6);rw[k0]at h1;omega
 obtain⟨B9,t3,s8⟩:=acn R s (by show ln R<=_;omega) (by omega) j9 (S+1);have C0:=pR (off:=0) (len:=ln (R / s)) 5 s8;have s9:=Xc (σ:=restrict e7 [bu]) (nx:=S+1) (b:=bu) (xs:=U) (by rw[lC];exact sU) (by unfold Short;omega);rw[uI (n:=R) dU eR.symm,lU,show(dg R).length=ln R from rfl]at s9;have pr:aQ [bu] (S+1) (S+1) e7 (restrict e7 [bu])=e7:=by
  funext i;unfold aQ restrict
  by_cases h:i=bu
  .subst h;simp
  .rw[ug (by simp only[yC,h,false_or];omega)]
 obtain⟨C1,C2⟩:=m_ dU eR.symm;have d1:bu<S+1:=by omega
 have d0:0<S+1:=by omega
 have st1:strip e7 (6+1) (.rs bu 0 (ln R))=some (LI (dg R),[bu]):=by
  rw[jR,sU];simp only[zl,yj,yu,yX,sS];rw[uf C2,C1,gJ];rfl
 obtain⟨e4,m8⟩:∃e4,e4=D8 (S+1) (S+1+1) e7 B9 [S+1]:=⟨_,rfl⟩;have u0:e4 S=some ⟨Q.flatMap cI,1,true⟩:=by rw[m8,abR (by omega)];exact sq
 have C3:e4 (S+1)=some ⟨(pad (R / s) (dg R).length).flatMap cI,1,true⟩:=by rw[m8,agT (by omega) (by omega) (by simp)];exact s8
 have u5:=Xc (σ:=e4) (nx:=S+1+1) (b:=S) (xs:=Q) u0 (by unfold Short;omega);rw[uI (n:=Qn) dQ eQ.symm,lQ,show(dg Qn).length=ln Qn from rfl]at u5;obtain⟨C4,C5⟩:=m_ dQ eQ.symm;have C6:strip e4 (5+1) (.rs S 0 (ln Qn))=some (LI (dg Qn),[S]):=by
  rw[jR,u0];simp only[zl,yj,yu,yX,sS];rw[uf C5,C4,gJ];rfl
 have C7:strip e4 (5+1) (.rs (S+1) 0 (ln (R / s)))=some (LI (dg (R / s)),[S+1]):=by
  obtain⟨C8,D3⟩:=m_ (xs:=pad (R / s) (dg R).length) (n:=R / s) (Oa _ _) (acr _ _ (Nat.lt_of_le_of_lt (uw _ _) abE));rw[jR,C3];simp only[zl,yj,yu,yX,sS];rw[uf D3,C8,gJ];rfl
 have z0:(0:Int)<=0:=by decide
 have z1:(0:Int)<1:=by decide
 have z3:(0:Int).toNat=0:=id rfl;have D4:(bu==0)=false:=by rw[uZ];omega
 rw[<- hq,<- B8];simp only[go_sem,sG,p8,p9,E,Y,sU,s0,s9,pr,d1,d0,st1,t3,C0,<- m8,u5,C6,C7,z0,z1,z3,D4]
theorem acs(m:Nat)(h:ln m<=1000000):fn gu conv ext 64 [LI (dg m)]=some (LI (dg m)):=U7 (dg m) (by show ln m<=_;omega)
theorem acu(m n:Nat)(hm:ln m<=1000000)(S:n≠0)(hn:ln n<=1000000):fn gu Ac Ed 176 [LI (dg m),LI (dg n)]=some (.dF [LI (dg (m / n)),LI (dg (m%n))]):=by
 by_cases E:m<n
 .have G:=oV m n hm hn
  have k2:=acs m hm;have hc:jI m n= -1:=by unfold jI;rw[uf E]
  have m1:(-1:Int)<0:=by decide
  rw[hc]at G;rw[Nat.div_eq_of_lt E,Nat.mod_eq_of_lt E,rD];rw[qB,qO [.tmp 4,.tmp 5] [15,16,17,25] func176]
  (simp only[go_sem,G,k2,m1])<;>rfl
 by_cases h2:2<=ln n
 .exact aln m n hm h2 (by omega)
 have hp:=abK S;have J:n<1000000000:=by
  have:=(o_ (n:=n) (k:=1)).mp (by omega);have e:bp 1=1000000000:=by decide
  rw[e]at this;omega
 have G:=oV m n hm hn;have hc:¬jI m n<0:=by unfold jI;rw[ug E];split<;>decide
 obtain⟨Y,t3,O⟩:=acn m n hm S J 0;have a1:=pR (off:=0) (len:=ln (m / n)) 5 O;have hr:m%n<n:=Nat.mod_lt _ (by omega);have k4:=ahU (m%n) (by omega);have w1:=iE (n:=((m%n:Nat):Int)) (by omega) (by omega);have z1:(0:Int)<1:=by decide
 have z2:(0:Int)<=0:=by decide
 have z3:(0:Int).toNat=0:=id rfl;obtain⟨a6,a7⟩:=m_ (xs:=pad (m / n) (dg m).length) (n:=m / n) (Oa _ _) (acr _ _ (Nat.lt_of_le_of_lt (uw _ _) abE));have st:strip (eG 0 aG Y [0]) (5+1) (.rs 0 0 (ln (m / n)))=some (LI (dg (m / n)),[0]):=by
  rw[jR,oH (by decide) (by simp),O];simp only[zl,yj,yu,yX,sS];rw[uf a7,a6,gJ];rfl
 rw[rG S J]at G⊢;have a8:fn gu conv ext 175 [LI (dg m),.ts [I n] 1]=some (I (jI m n)):=G
 rw[qB,qO [.tmp 4,.tmp 5] [15,16,17,25] func176];simp only[go_sem,a8,hc,z1,z2,z3,t3,a1,w1,k4,st]
abbrev aii:List Nat:=[3,4,5,8,9,12,13,14,15,17,18,19,23,31,36,37,40,41,52,53,65,72,75,91,103,107,109,113,114,128,137,143,144,145,146,147,149,152,153,163,165,170,173,174,183,185,186,188,197,204,211,217,219,223]
def aY:FuncId->Conv:=fun f=>if f∈([]:List Nat)then .own else if f∈([143,144,170,173,185,186,188,217,219,197,223]:List Nat)then .inl else .FX
noncomputable def bY:Ext:=fun f=>if f=176 then some (fun args σ nx=>ev gu Ac Ed 176 args σ nx)else if f∈aii then none else some fun args σ nx=>ev gu conv ext f args σ nx
theorem aij:DI gu bY:=fun f g h args σ nx v σ' nx' E=>by
 unfold bY at h
 split at h
 .rename_i G
  subst G;cases h;exact qM (by kernel_rfl) ah' 176 args σ nx v σ' nx' E
 .split at h
  .cases h
  .cases h
   exact qM (by kernel_rfl) abq f args σ nx v σ' nx' E
theorem fnL{f:FuncId}(h:(f==176||List.contains aii f)=false)(ts:List V):fn gu aY bY f ts=fn gu conv ext f ts:=by
 rw[Bool.or_eq_false_iff]at h;have E:¬f=176:=fun e=>by subst e;simp at h
 have G:¬f∈aii:=fun e=>by rw[List.contains_iff_mem.mpr e]at h;cases h.2
 rw[qB,qB,qN (g:=fun args σ nx=>ev gu conv ext f args σ nx) (by unfold bY;rw[ug E,ug G])]
theorem qC(ts:List V):fn gu aY bY 176 ts=fn gu Ac Ed 176 ts:=by
 rw[qB,qB,qN (g:=fun args σ nx=>ev gu Ac Ed 176 args σ nx) (by unfold bY;rw[uf rfl])]
abbrev aH(n:Nat):Prop:=∀ts:List V,fn gu aY bY n ts=fn gu conv ext n ts
theorem aik:aH 6/\aH 7/\aH 10/\aH 11/\aH 16/\aH 20/\aH 21/\aH 26/\aH 27/\aH 28/\aH 29/\aH 30/\aH 32/\aH 33/\aH 34/\aH 35/\aH 38/\aH 44/\aH 45/\aH 46/\aH 47/\aH 48/\aH 58/\aH 59:=by and_intros<;>exact fnL rfl
theorem ail:aH 60/\aH 61/\aH 62/\aH 63/\aH 64/\aH 73/\aH 74/\aH 77/\aH 78/\aH 79/\aH 80/\aH 81/\aH 82/\aH 83/\aH 84/\aH 96/\aH 97/\aH 98/\aH 99/\aH 100/\aH 101/\aH 102/\aH 108/\aH 110:=by and_intros<;>exact fnL rfl
theorem ain:aH 111/\aH 112/\aH 115/\aH 116/\aH 117/\aH 118/\aH 119/\aH 120/\aH 121/\aH 122/\aH 123/\aH 135/\aH 136/\aH 148/\aH 150/\aH 151/\aH 154/\aH 155/\aH 156/\aH 157/\aH 158/\aH 159/\aH 160/\aH 168:=by and_intros<;>exact fnL rfl
theorem aio:aH 169/\aH 171/\aH 172/\aH 175/\aH 177/\aH 178/\aH 179/\aH 180/\aH 181/\aH 182/\aH 184/\aH 203/\aH 205/\aH 206/\aH 207/\aH 208/\aH 209/\aH 210/\aH 228/\aH 229/\aH 244:=by and_intros<;>exact fnL rfl
abbrev ak(n:Nat):Prop:=aY n= .FX
abbrev Hl(n:Nat):Prop:=aY n= .inl
theorem aip:ak 3/\ak 6/\ak 7/\ak 8/\ak 9/\ak 10/\ak 11/\ak 12/\ak 13/\ak 14/\ak 15/\ak 16/\ak 17/\ak 20/\ak 21/\ak 26/\ak 27/\ak 28/\ak 29/\ak 30/\ak 31/\ak 32/\ak 33/\ak 34:=by and_intros<;>exact rfl
theorem aiq:ak 35/\ak 36/\ak 37/\ak 38/\ak 40/\ak 44/\ak 45/\ak 46/\ak 47/\ak 48/\ak 58/\ak 59/\ak 60/\ak 61/\ak 62/\ak 63/\ak 64/\ak 65/\ak 72/\ak 73/\ak 74/\ak 75/\ak 77/\ak 78:=by and_intros<;>exact rfl
theorem air:ak 79/\ak 80/\ak 81/\ak 82/\ak 83/\ak 84/\ak 96/\ak 97/\ak 98/\ak 99/\ak 100/\ak 101/\ak 102/\ak 103/\ak 107/\ak 108/\ak 109/\ak 110/\ak 111/\ak 112/\ak 113/\ak 114/\ak 115/\ak 116:=by and_intros<;>exact rfl
theorem ais:ak 117/\ak 118/\ak 119/\ak 120/\ak 121/\ak 122/\ak 123/\ak 135/\ak 136/\ak 137/\Hl 143/\Hl 144/\ak 145/\ak 146/\ak 147/\ak 148/\ak 149/\ak 150/\ak 151/\ak 152/\ak 153/\ak 154/\ak 155/\ak 156:=by and_intros<;>exact rfl
theorem ait:ak 157/\ak 158/\ak 159/\ak 160/\ak 168/\ak 169/\Hl 170/\ak 171/\ak 172/\Hl 173/\ak 174/\ak 175/\ak 176/\ak 177/\ak 178/\ak 179/\ak 180/\ak 181/\ak 182/\ak 183/\ak 184/\ak 203/\ak 204/\ak 205:=by and_intros<;>exact rfl
theorem aiu:ak 206/\ak 207/\ak 208/\ak 209/\ak 210/\ak 211/\ak 228/\ak 229/\ak 244:=by and_intros<;>exact rfl
attribute [go_sem] qC aik ail ain aio
attribute [go_sem] aip aiq air ais ait aiu
theorem Xe(m n:Nat)(hm:ln m<=1000000)(E:n≠0)(hn:ln n<=1000000):fn gu aY bY 176 [LI (dg m),LI (dg n)]=some (.dF [LI (dg (m / n)),LI (dg (m%n))]):=by
 rw[qC,acu m n hm E hn]
theorem Rl(m n:Nat)(hm:ln m<=1000000)(hn:ln n<=1000000):fn gu aY bY 174 [LI (dg m),LI (dg n)]=some (LI (dg (Nat.gcd m n))):=by
 have ho:=Xe;rw[qB,qO [.tmp 4] [] func174];simp only[go_sem];generalize hL:aA _ _=y;obtain⟨r,rfl,T',rfl,E⟩:=nY hL (fun b st=>st.nx=0/\st.σ=aG/\ln b<=1000000/\∃a:Nat,ln a<=1000000/\st.T 0=LI (dg a)/\st.T 1=LI (dg b)/\Nat.gcd a b=Nat.gcd m n)
  (fun r=>∃T,r=(.exit 0,⟨T,aG,0⟩)/\T 0=LI (dg (Nat.gcd m n))) (by
   clear hL;rintro b ⟨T,σ,nx⟩ ⟨G,J,hb,a,ha,E,S,Y⟩;simp only at G J E S;subst G J
   by_cases hz:b=0
   .subst hz
    rw[rD]at S;have a1:T 1= .ts [] 0:=S;have f0:¬(0:Int)<0:=by decide
    rw[Nat.gcd_zero_right]at Y;exact .inr ⟨_,by simp only[go_sem,a1,f0];rfl,by simp,_,rfl,by simp only[go_sem,E,Y]⟩
   .have f0:(0:Int)<((dg b).length:Int):=by have:=List.length_pos_iff.mpr (rH hz);omega
    have k1:=ho a b ha hz hb;rw[qC]at k1;have O:a%b<b:=Nat.mod_lt _ (by omega);refine .inl ⟨_,by simp only[go_sem,E,S,f0,k1];rfl,a%b,O,?_⟩;simp only[go_sem];refine⟨zL (ny (Nat.le_of_lt O)) hb,b,hb,rfl,?_⟩;rw[<- Y,Nat.gcd_comm a b,Nat.gcd_rec b a,Nat.gcd_comm]) n ⟨rfl,rfl,hn,m,hm,by simp only[go_sem],by simp only[go_sem],rfl⟩
 simp only[go_sem,E]
theorem acv(x y:Int):gQ (decide (x<0) !=decide (y<0)) (x.natAbs / y.natAbs)=x.tdiv y:=by
 obtain⟨a,ha|ha⟩:=Int.eq_nat_or_neg x<;>obtain⟨b,hb|hb⟩:=Int.eq_nat_or_neg y<;>subst ha hb
 .have E:decide ((a:Int)<0)=false:=by simp
  have G:decide ((b:Int)<0)=false:=by simp
  rw[E,G,xP,xP];unfold gQ;simp[Int.ofNat_tdiv]
 .by_cases h:b=0
  .subst h;simp[gQ]
  .have E:decide ((a:Int)<0)=false:=by simp
   have G:decide (-(b:Int)<0)=true:=by simp;omega
   rw[E,G,xP,vg,xP,Int.tdiv_neg];unfold gQ;simp[Int.ofNat_tdiv]
 .by_cases h:a=0
  .subst h;simp[gQ]
  .have E:decide (-(a:Int)<0)=true:=by simp;omega
   have G:decide ((b:Int)<0)=false:=by simp
   rw[E,G,xP,vg,xP,Int.neg_tdiv];unfold gQ;simp[Int.ofNat_tdiv]
 .by_cases h:a=0
  .subst h;simp[gQ]
  .by_cases hb:b=0
   .subst hb;simp[gQ]
   .have E:decide (-(a:Int)<0)=true:=by simp;omega
    have G:decide (-(b:Int)<0)=true:=by simp;omega
    rw[E,G,vg,vg,xP,xP,Int.neg_tdiv,Int.tdiv_neg,Int.neg_neg];unfold gQ;simp[Int.ofNat_tdiv]
theorem I9(x y:Int)(J:ln x.natAbs<=1000000)(O:ln y.natAbs<=1000000)(S:y≠0):fn gu aY bY 204 [.agg (cZ x),.agg (cZ y)]=some (.agg (cZ (x.tdiv y))):=by
 have E:=Xe x.natAbs y.natAbs J (by omega) O;rw[qC]at E;have G:=oN (decide (x<0) !=decide (y<0)) (x.natAbs / y.natAbs);rw[acv]at G;have e:∀a b:Bool,(!a==b)=(a !=b):=by decide
 unfold cZ at *;rw[qB,qO [.cell 4 171] [] func204];simp only[go_sem,E,G,e]
theorem afL(n:Nat)(hn:ln n<=1000000):fn gu conv ext 175 [LI (dg n),.ts [I 1] 1]=some (I (jI n 1)):=by
 have:=oV n 1 hn (by show ln 1<=_;rw[show ln 1=1 by unfold ln;rw[rG (d:=1) (by decide) (by decide)];rfl];decide);rw[rG (d:=1) (by decide) (by decide)]at this;exact this
theorem afM(neg:Bool)(m n:Nat)(hm:ln m<=1000000)(h0:n≠0)(hn:ln n<=1000000) :
  fn gu aY bY 145 [.agg [Bo (neg && decide (0<(dg m).length)),LI (dg m)],LI (dg n)]=some (.tp (ae1 neg m n) 0):=by
 have J:Nat.gcd m n≠0:=fun e=>h0 (Nat.eq_zero_of_gcd_eq_zero_right e)
 have S:Nat.gcd m n<=n:=Nat.gcd_le_right _ (by omega);have E:ln (Nat.gcd m n)<=1000000:=zL (ny S) hn;have Y:=Rl m n hm hn;have k2:=afL (Nat.gcd m n) E;have k3:=Xe m (Nat.gcd m n) hm J E;have k4:=Xe n (Nat.gcd m n) hn J E;rw[qC]at k3 k4;have k5:=fun b=>WL b (dg (m / Nat.gcd m n))
 have hc:=ae0 (n:=Nat.gcd m n);unfold ae1;rw[qB,qO [.tmp 4] [] func145]
 by_cases O:m=0
 .subst O
  rw[Nat.gcd_zero_left,Nat.zero_div,Nat.div_self (by omega),rD,rG (d:=1) (by decide) (by decide)]
  (simp only[go_sem])<;>rfl
 .have lz:(((dg m).length:Int)==0)=false:=by rw[uZ];have:=uD (rH O);omega
  have lp:0<(dg m).length:=List.length_pos_iff.mpr (rH O);have a1:m / Nat.gcd m n≠0:=by
   have:=Nat.div_pos (Nat.gcd_le_left n (Nat.pos_of_ne_zero O)) (by omega);omega
  have lq:0<(dg (m / Nat.gcd m n)).length:=List.length_pos_iff.mpr (rH a1)
  by_cases G:Nat.gcd m n=1
  .rw[uY G]at hc
   simp only[G,Nat.div_one]at Y k2 hc⊢
   (simp only[go_sem,lz,lp,Y,k2,hc])<;>rfl
  .rw[uX G]at hc
   (simp only[go_sem,lz,lp,lq,Y,k2,hc,k3,k4,k5])<;>rfl
theorem I_(z:Int)(d:Nat)(G:ln z.natAbs<=1000000)(E:d≠0)(J:ln d<=1000000):fn gu aY bY 145 [.agg (cZ z),LI (dg d)]=some (.tp (cQ (mkRat z d)) 0):=by
 have k:=afM (decide (z<0)) z.natAbs d G E J;rw[<- abO,WT,<- ak3 z E]at k;exact k
def Ln(k:Nat)(q:Rat):Prop:=ln q.num.natAbs<=k/\ln q.den<=k
theorem Ln.mono{k l:Nat}{q:Rat}(h:Ln k q)(E:k<=l):Ln l q:=⟨zL h.1 E,zL h.2 E⟩
theorem LP{x y:Rat}{k l:Nat}(h:Ln k x)(E:Ln l y):ln (x.num*y.den).natAbs<=k+l:=by
 rw[Int.natAbs_mul,xP];have:=Fb x.num.natAbs y.den;have:=h.1;have:=E.2;omega
theorem Xf{x y:Rat}{k l:Nat}(h:Ln k x)(E:Ln l y):ln (x.den*y.den)<=k+l:=by
 have:=Fb x.den y.den;have:=h.2;have:=E.2;omega
theorem Oc(x y:Int):ln (x+y).natAbs<=max (ln x.natAbs) (ln y.natAbs)+1 :=
 zL (ny (Int.natAbs_add_le x y)) (ahY _ _)
theorem Xg(x y:Int):ln (x-y).natAbs<=max (ln x.natAbs) (ln y.natAbs)+1:=by
 have:=Oc x (-y);rw[vg,<- Int.sub_eq_add_neg]at this;exact this
theorem acw(x y:Rat)(E:Ln 1000 x)(G:Ln 1000 y):fn gu aY bY 146 [.tp (cQ x) 0,.tp (cQ y) 0]=some (.tp (cQ (x+y)) 0):=by
 have n1:=LP E G;have n2:=LP G E;have n3:=Oc (x.num*y.den) (y.num*x.den);have O:=DZ x y.den (by have:=E.1;omega) (by have:=G.2;omega);have S:=DZ y x.den (by have:=G.1;omega) (by have:=E.2;omega);have Y:=abP (x.num*y.den) (y.num*x.den) (by omega) (by omega);have k4:=G9 x.den y.den (by have:=E.2;omega) (by have:=G.2;omega);have J:=I_ (x.num*y.den+y.num*x.den) (x.den*y.den) (by omega) (dd0 x y) (by have:=Xf E G;omega);rw[<- Rat.add_def']at J;unfold cQ at *;unfold cZ at *;rw[qB,qO [.tmp 4] [] func146];simp only[go_sem,O,S,Y,k4,J]
theorem Xh(x y:Rat)(E:Ln 1000 x)(G:Ln 1000 y):fn gu aY bY 147 [.tp (cQ x) 0,.tp (cQ y) 0]=some (.tp (cQ (x*y)) 0):=by
 have Y:ln (x.num*y.num).natAbs<=2000:=by
  rw[Int.natAbs_mul];have:=Fb x.num.natAbs y.num.natAbs;have:=E.1;have:=G.1;omega
 have O:=oZ x.num y.num (by have:=E.1;omega) (by have:=G.1;omega);have S:=G9 x.den y.den (by have:=E.2;omega) (by have:=G.2;omega);have J:=I_ (x.num*y.num) (x.den*y.den) (by omega) (dd0 x y) (by have:=Xf E G;omega);rw[<- Rat.mul_def']at J;unfold cQ at *;unfold cZ at *;rw[qB,qO [.tmp 4] [] func147];simp only[go_sem,O,S,J]
def Fz(q:Rat):Option Rat:=if ln q.num.natAbs<=24/\ln q.den<=24 then some q else none
theorem alu(q:Rat)(h:Ln 100000 q):fn gu conv ext 182 [.tp (cQ q) 0]=some (pQ (Fz q)):=by
 have hb:((dg q.num.natAbs).length:Int)<=100000:=Int.ofNat_le.mpr h.1;have O:((dg q.den).length:Int)<=100000:=Int.ofNat_le.mpr h.2;unfold Fz;rw[qB,qO [.tmp 2] [] func182]
 by_cases E:ln q.num.natAbs<=24
 .have c1:¬(24:Int)<((dg q.num.natAbs).length:Int):=by unfold ln at E;omega
  by_cases G:ln q.den<=24
  .have J:¬(24:Int)<((dg q.den).length:Int):=by unfold ln at G;omega
   rw[uf ⟨E,G⟩];unfold cQ pQ
   (simp only[go_sem,c1,J])<;>rfl
  .have J:(24:Int)<((dg q.den).length:Int):=by unfold ln at G;omega
   rw[ug fun h=>G h.2];unfold cQ pQ
   (simp only[go_sem,c1,J])<;>rfl
 .have c1:(24:Int)<((dg q.num.natAbs).length:Int):=by unfold ln at E;omega
  rw[ug fun h=>E h.1];unfold cQ pQ
  (simp only[go_sem,c1])<;>rfl
open Go.Lp
abbrev Dl(b:Bool):List V:=[Bo b]
def Vo(x:List Int):List V:=[LL cZ x]
def Aj(B:List Nat):List Int:=B.map fun(n:Nat)=>(n:Int)
def Rn(D:TZ)(N:Nat):List V:=[LL Vo D.R,Bo (decide (D.cu<0)),LI (dg D.cu.natAbs),LI (Aj D.B),I N,LL Dl D.fr]
def acy(D:TZ)(N:Nat):V:=.tp (Rn D N) 0
structure Ro (D:TZ) (N:Nat):Prop where
 row:∀x∈D.R,x.length=N+1
 gq:D.B.length=D.R.length
 Ja:D.R.length<=1000
 Rq:D.fr.length=N
 sz:N<=1000
 big:∀i j,i<D.R.length->j<=N->ln (en D.R i j).natAbs<=50
 cu:ln D.cu.natAbs<=50
 inB:∀i,i<D.R.length->D.B.getD i 0<N
theorem jE(B:List Nat):(Aj B).length=B.length:=by simp[Aj]
theorem jF{B:List Nat}{i:Nat}(h:i<B.length):(Aj B)[i]'(by rw[jE];exact h)=((B.getD i 0:Nat):Int):=by
 simp only[Aj,wL];rw[zx,zy h];rfl
theorem Jb(o:Nat->Int)(k:Nat)(x:List Int)(b:Nat):∀(R:List (List Int)) (B:List Nat),R.length=B.length->Aa o k (R++[x]) (B++[b])=Aa o k R B-x.getD k 0*o b
 |[],[],_=>by show(0:Int) - _=0 - _;rfl
 |[],_ :: _,h=>by simp at h
 |_ :: _,[],h=>by simp at h
 |y :: R,c :: B,h=>by
  show Aa o k (R++[x]) (B++[b]) - _=Aa o k R B - _ - _;rw[Jb o k x b R B (by simpa using h)];omega
theorem Vp(o:Nat->Int)(k:Nat){R:List (List Int)}{B:List Nat}{i:Nat}(h:i<R.length)(E:B.length=R.length) :
  Aa o k (R.take (i+1)) (B.take (i+1))=Aa o k (R.take i) (B.take i) - en R i k*o (B.getD i 0):=by
 rw[wz,wz,zy h,zy (by omega)];simp only[Option.toList];rw[Jb _ _ _ _ _ _ (by rw[zY,zY,E])];congr 1;have G:R[i].getD k 0=en R i k:=by unfold en;rw[kP h]
 have J:B[i]'(by omega)=B.getD i 0:=by rw[zx,zy (by omega)];rfl
 rw[G,J]
theorem nk(x y:Int):ln (x*y).natAbs<=ln x.natAbs+ln y.natAbs:=by rw[Int.natAbs_mul];exact Fb _ _
theorem Rt(z:Int):(dS z 0==0)=decide (z=0):=by
 unfold dS
 by_cases h:z<0
 .rw[uf h,uX (by omega)];rfl
 .rw[ug h]
  by_cases E:z=0
  .rw[uf E,uY E];rfl
  .rw[ug E,uX E];rfl
theorem Vs(z:Int):(dS z 0 !=0)= !decide (z=0):=by rw[<- Rt];rfl
theorem Ee(z:Int):dS z 0<=0↔¬0<z:=by
 unfold dS
 by_cases h:z<0
 .rw[uf h];constructor
  .intro _;omega
  .intro _;decide
 .rw[ug h]
  by_cases E:z=0
  .rw[uf E];constructor
   .intro _;omega
   .intro _;decide
  .rw[ug E];constructor
   .intro h;exact absurd h (by decide)
   .intro _;omega
theorem cmp_neg(z:Int):dS z 0<0↔z<0:=by
 unfold dS
 by_cases h:z<0
 .rw[uf h];constructor
  .intro _;exact h
  .intro _;decide
 .rw[ug h]
  by_cases E:z=0
  .rw[uf E];constructor
   .intro h;exact absurd h (by decide)
   .intro _;omega
  .rw[ug E];constructor
   .intro h;exact absurd h (by decide)
   .intro _;omega
theorem sJ(z:Int):(cZ z).length=2:=rfl
theorem Oe(z:Int):(cZ z).take 2=cZ z:=rfl
theorem Ru(z:Int):(cZ z).all aJ=true:=rfl
theorem Rx(a b:Int):patch (cZ a) 0 (cZ b)=cZ b:=rfl
theorem Ry(σ:Store)(d:Nat)(z:Int):stripL (strip σ d) (cZ z)=some (cZ z,[]):=by
 unfold cZ;rw[jd,jQ,jd,jM,jX];rfl
theorem Jc(σ:Store)(d:Nat)(q:Rat):stripL (strip σ d) (cQ q)=some (cQ q,[]):=by
 unfold cQ;rw[jd,jQ,jd,jM,jd,jM,jX];rfl
attribute [go_sem] Ry Jc
theorem Jd{R:List (List Int)}{i:Nat}(h:i<R.length):(R.flatMap Vo)[i]?=some (LL cZ (vI R i)):=by
 have:=kF (fun x=>LL cZ x) R i h;rw[kP h];exact this
theorem sD{R:List (List Int)}{i j n:Nat}(hn:∀x∈R,x.length=n)(h:i<R.length)(E:j<n):(((vI R i).flatMap cZ).drop (j*2)).take 2=cZ (en R i j):=by
 have G:(vI R i).length=n:=by rw[kP h];exact hn _ (zq h)
 rw[kG sJ (vI R i) j (by omega)];unfold en;rw[zx,zy (by omega)];rfl
theorem ag1(D:TZ)(N:Nat)(h:Ro D N)(o:List Int)(ho:o.length=N)(b2:∀x∈o,-1000000<=x/\x<=1000000)(k:Nat)(hk:k<N) :
  fn gu conv ext 171 [acy D N,LI o,I k]=some (I (dS (dB D (fun j=>o.getD j 0) k) 0)):=by
 have hN:=h.sz;have a8:∀j (hj:j<o.length),o[j]=o.getD j 0:=fun j hj=>by rw[zx,zy hj];rfl
 have ob:∀j,j<N->-1000000<=o.getD j 0/\o.getD j 0<=1000000:=fun j hj=>by rw[<- a8 j (by omega)];exact b2 _ (zq (by omega))
 have a6:∀j,j<N->ln (o.getD j 0).natAbs<=1:=fun j hj=>ng (by have:=ob j hj;omega)
 have a1:=nP k;have a2:(k:Int)<(o.length:Int):=by omega
 have a3:=iI o k (by omega);have a4:=idx (xs:=o) (k:=k) (by omega);rw[a8 k (by omega)]at a4;have b5:=ob k hk;have k1:=oU (o.getD k 0) (by omega) (by omega);have k2:=oZ D.cu (o.getD k 0) (by have:=h.cu;omega) (by have:=a6 k hk;omega);have tl:(Aj D.B).length=D.R.length:=by rw[jE];exact h.gq
 unfold acy Rn;rw[qB,qO [.tmp 6] [1,6] func171];unfold cZ at k1 k2;simp only[go_sem,a1,a2,a3,a4,k1,k2];generalize hL:aA _ _=y
 obtain⟨r,rfl,T',σ',nx',b,rfl,Y,E⟩:=rP hL D.R.length (fun i st=>st.T 0= .tp (Rn D N) 0/\st.T 1=LI o/\st.T 2=I k/\st.T 23=LI (Aj D.B)/\st.T 24=I D.R.length/\st.T 25=I i/\st.T 7= .rp 0 0/\0<st.nx /\
   ∃g,st.σ 0=some ⟨cZ g,0,true⟩/\g=D.cu*o.getD k 0+Aa (fun j=>o.getD j 0) k (D.R.take i) (D.B.take i)/\ln g.natAbs<=60+i)
  (fun r=>∃T σ nx b,r=(.exit 0,⟨T,σ,nx⟩)/\T 7= .rp b 0/\σ b=some ⟨cZ (dB D (fun j=>o.getD j 0) k),0,true⟩) (by
   clear hL;rintro i ⟨T,σ,nx⟩ hi ⟨h0,h1,h2,J,G,O,Y,S,g,E,hg,b3⟩;simp only at h0 h1 h2 J G O Y S E;have hb:=h.inB i hi;have f1:(i:Int)<(D.R.length:Int):=by omega
   have f2:=nP i;have f3:=iF (n:=(i:Int)+1) (by have:=h.Ja;omega) (by have:=h.Ja;omega);have f5:=iI (Aj D.B) i (by omega);have f6:=idx (xs:=Aj D.B) (k:=i) (by omega);rw[jF (by have:=h.gq;omega)]at f6;obtain⟨b,eb⟩:∃b,b=D.B.getD i 0:=⟨_,rfl⟩;rw[<- eb]at f6 hb;have f7:=nP b;have f8:(b:Int)<(o.length:Int):=by omega
   have f9:=idx (xs:=o) (k:=b) (by omega);rw[a8 b (by omega)]at f9;have b6:=ob b hb;have r1:=Jd hi;have r2:=kE (c:=Vo) (s:=1) (fun _=>rfl) (by omega) D.R i hi;have r3:(vI D.R i).length=N+1:=by rw[kP hi];exact h.row _ (zq hi)
   have r4:(k:Int)<((N+1:Nat):Int):=by omega
   have r5:=sD h.row hi (show k<N+1 by omega);have r6:=kE (c:=cZ) (s:=2) sJ (by omega) (vI D.R i) k (by omega);have r7:=kD (c:=cZ) (s:=2) sJ (vI D.R i);rw[r3]at r7;have r8:k*2+2<=(N+1)*2:=by omega
   have s1:=oO (en D.R i k);have a7:=Vp (fun j=>o.getD j 0) k hi h.gq;rw[<- eb]at a7
   by_cases z1:o.getD b 0=0
   .have c1:(o.getD b 0 !=(0:Int))=false:=by rw[z1];rfl
    refine .inl ⟨_,by simp only[go_sem,h0,h1,h2,J,G,O,Y,E,f1,f2,f3,f5,f6,f7,f8,f9,a3,c1,tl];rfl,?_⟩;simp only[go_sem,h0,h1,h2,J,G,Y,tl];refine⟨rfl,S,g,E,?_,by omega⟩;rw[hg,a7,z1];simp
   .have c1:(o.getD b 0 !=(0:Int))=true:=bne_iff_ne.mpr z1
    have c2:=Vs (en D.R i k);have b4:=h.big i k hi (by omega);unfold Rn at h0
    by_cases z2:en D.R i k=0
    .rw[uY z2,Bool.not_true]at c2
     refine .inl ⟨_,by simp only[go_sem,h0,h1,h2,J,G,O,Y,E,f1,f2,f3,f5,f6,f7,f8,f9,a1,a3,c1,c2,tl,r1,r2,r3,r4,r5,r6,r7,r8,s1];rfl,?_⟩;simp only[go_sem,h0,h1,h2,J,G,Y,tl];refine⟨rfl,rfl,S,g,E,?_,by omega⟩;rw[hg,a7,z2];simp
    .rw[uX z2,vH]at c2
     have k3:=oU (o.getD b 0) (by omega) (by omega);have k4:=oZ (en D.R i k) (o.getD b 0) (by omega) (by have:=a6 b hb;omega);have hm:=nk (en D.R i k) (o.getD b 0);have hs:=Xg g (en D.R i k*o.getD b 0);have b7:=h.Ja;have b8:=a6 b hb;have k5:=WU g (en D.R i k*o.getD b 0) (by omega) (by omega);have e1:=Ru (g-en D.R i k*o.getD b 0);refine .inl ⟨_,by simp only[go_sem,h0,h1,h2,J,G,O,Y,E,f1,f2,f3,f5,f6,f7,f8,f9,a1,a3,c1,c2,tl,r1,r2,r3,r4,r5,r6,r7,r8,s1,k3,k4,k5,S,sJ,e1,Oe,Rx];rfl,?_⟩;simp only[go_sem,h0,h1,h2,J,G,Y,tl];refine⟨rfl,rfl,S,_,rfl,?_,by omega⟩;rw[hg,a7];omega) (by
   clear hL;rintro ⟨T,σ,nx⟩ ⟨h0,h1,h2,J,G,O,Y,S,g,E,hg,b3⟩;simp only at h0 h1 h2 J G O Y S E;rw[zk (zu _),zk (Nat.le_of_eq h.gq)]at hg;refine⟨_,by simp only[go_sem,G,O,zX];rfl,by simp,_,_,_,0,rfl,?_,?_⟩
   .simp only[go_sem,Y]
   .rw[E,hg];rfl) (by
   simp only[go_sem,tl];refine⟨rfl,_,rfl,by simp[Aa],?_⟩;have:=nk D.cu (o.getD k 0);have:=a6 k hk;have:=h.cu;omega)
 have k9:=oO (dB D (fun j=>o.getD j 0) k);simp only[go_sem,Y,E,sJ,Oe,zu,k9]
theorem Rz{S E O G Y J:Int}(hr:0<G)(hi:0<E)(hj:0<J)(h1:S*G<O*E)(h2:O*J<=Y*G):S*J<Y*E:=by
 have e1:S*G*J<O*E*J:=um h1 hj;have e2:O*J*E<=Y*G*E:=zf h2 (xu hi);refine Int.lt_of_mul_lt_mul_right (a:=G) ?_ (xu hr);have e3:S*J*G=S*G*J:=by grind
 have e4:Y*E*G=Y*G*E:=by grind
 have e5:O*E*J=O*J*E:=by grind
 omega
theorem RD{Y E O J S G:Int}(hr:0<J)(hi:0<E)(hj:0<G)(h1:Y*J=O*E)(h2:O*G<=S*J):Y*G<=S*E/\(Y*G=S*E->O*G=S*J):=by
 have e3:Y*G*J=Y*J*G:=by grind
 have e4:S*E*J=S*J*E:=by grind
 have e5:O*E*G=O*G*E:=by grind
 have e6:Y*J*G=O*E*G:=by rw[h1]
 refine⟨?_,fun h=>?_⟩
 .refine Int.le_of_mul_le_mul_right (a:=J) ?_ hr
  have e2:O*G*E<=S*J*E:=zf h2 (xu hi);omega
 .have:O*G*E=S*J*E:=by rw[<- e4,<- h,e3,e6,e5]
  exact Int.eq_of_mul_eq_mul_right (by omega) this
def nI(D:TZ)(N k i:Nat)(r:Int):Prop :=
 (r= -1/\∀j,j<i->¬0<en D.R j k)\/∃r':Nat,r=r'/\r'<i/\0<en D.R r' k/\(∀j,j<i->0<en D.R j k->en D.R r' N*en D.R j k<=en D.R j N*en D.R r' k) /\
  ∀j,j<i->0<en D.R j k->en D.R r' N*en D.R j k=en D.R j N*en D.R r' k->D.B.getD r' 0<=D.B.getD j 0
theorem nI.skip{D:TZ}{N k i:Nat}{r:Int}(h:nI D N k i r)(hn:¬0<en D.R i k):nI D N k (i+1) r:=by
 rcases h with ⟨rfl,h⟩|⟨r',rfl,S,G,J,O⟩
 .exact .inl ⟨rfl,fun j E=>by
   by_cases e:j=i
   .subst e;exact hn
   .exact h j (by omega)⟩
 .exact .inr ⟨r',rfl,by omega,G,fun j E hp=>J j (by
   by_cases e:j=i
   .subst e;exact absurd hp hn
   .omega) hp,fun j E hp=>O j (by
   by_cases e:j=i
   .subst e;exact absurd hp hn
   .omega) hp⟩
theorem nI.first{D:TZ}{N k i:Nat}(h:nI D N k i (-1))(hp:0<en D.R i k):nI D N k (i+1) i:=by
 rcases h with ⟨_,h⟩|⟨r',e,_⟩
 .exact .inr ⟨i,rfl,by omega,hp,fun j G E=>by
   by_cases e:j=i
   .subst e;exact xg _
   .exact absurd E (h j (by omega)),fun j G E _=>by
   by_cases e:j=i
   .subst e;exact zu _
   .exact absurd E (h j (by omega))⟩
 .omega
theorem nI.less{D:TZ}{N k i r:Nat}(h:nI D N k i r)(hp:0<en D.R i k)(hc:en D.R i N*en D.R r k<en D.R r N*en D.R i k):nI D N k (i+1) i:=by
 rcases h with ⟨e,_⟩|⟨r',e,S,G,J,Y⟩
 .omega
 .have:r=r':=by omega
  subst this;refine .inr ⟨i,rfl,by omega,hp,fun j O E=>?_,fun j O E he=>?_⟩
  .by_cases e:j=i
   .subst e;exact xg _
   .exact xu (Rz G hp E hc (J j (by omega) E))
  .by_cases e:j=i
   .subst e;exact zu _
   .have:=Rz G hp E hc (J j (by omega) E)
    omega
theorem nI.same{D:TZ}{N k i r:Nat}(h:nI D N k i r)(hp:0<en D.R i k)(hc:en D.R i N*en D.R r k=en D.R r N*en D.R i k)(hB:D.B.getD i 0<D.B.getD r 0):nI D N k (i+1) i:=by
 rcases h with ⟨e,_⟩|⟨r',e,h1,G,J,O⟩
 .omega
 .have:r=r':=by omega
  subst this;refine .inr ⟨i,rfl,by omega,hp,fun j S E=>?_,fun j S E Y=>?_⟩
  .by_cases e:j=i
   .subst e;exact xg _
   .exact(RD G hp E hc (J j (by omega) E)).1
  .by_cases e:j=i
   .subst e;exact zu _
   .have:=O j (by omega) E ((RD G hp E hc (J j (by omega) E)).2 Y)
    omega
theorem nI.keep{D:TZ}{N k i r:Nat}(h:nI D N k i r)(hc:en D.R r N*en D.R i k<=en D.R i N*en D.R r k)(J:en D.R r N*en D.R i k=en D.R i N*en D.R r k->D.B.getD r 0<=D.B.getD i 0):nI D N k (i+1) r:=by
 rcases h with ⟨e,_⟩|⟨r',e,h1,O,S,Y⟩
 .omega
 .have:r=r':=by omega
  subst this;refine .inr ⟨r,rfl,by omega,O,fun j hj E=>?_,fun j hj E G=>?_⟩
  .by_cases e:j=i
   .subst e;exact hc
   .exact S j (by omega) E
  .by_cases e:j=i
   .subst e;exact J G
   .exact Y j (by omega) E G
theorem Vt(x y:Int):(x<y/\dS x y= -1)\/(x=y/\dS x y=0)\/(y<x/\dS x y=1):=by
 unfold dS
 by_cases h:x<y
 .exact .inl ⟨h,uf h⟩
 .rw[ug h]
  by_cases E:x=y
  .exact .inr (.inl ⟨E,uf E⟩)
  .exact .inr (.inr ⟨by omega,ug E⟩)
theorem acz(D:TZ)(N:Nat)(h:Ro D N)(k:Nat)(hk:k<N) :
  ∃r,fn gu conv ext 172 [acy D N,I k]=some (I r)/\nI D N k D.R.length r:=by
 have hN:=h.sz;have hR:=h.Ja;have a1:=nP k;have tl:(Aj D.B).length=D.R.length:=by rw[jE];exact h.gq
 have a7:∀i,i<D.R.length->(vI D.R i).length=N+1:=fun i hi=>by rw[kP hi];exact h.row _ (zq hi)
 have r4:(k:Int)<((N+1:Nat):Int):=by omega
 have r8:k*2+2<=(N+1)*2:=by omega
 have n4:(N:Int)<((N+1:Nat):Int):=by omega
 have n8:N*2+2<=(N+1)*2:=by omega
 have n0:=nP N;have m1:(-1:Int)<0:=by decide
 have m2:¬(1:Int)<0:=by decide
 have m3:¬(0:Int)<0:=by decide
 have m4:((0:Int)==0)=true:=by decide
 have m5:((1:Int)==0)=false:=by decide
 unfold acy Rn;rw[qB,qO [.tmp 4] [8,9] func172];simp only[go_sem];generalize hL:aA _ _=y;obtain⟨x,rfl,T',σ',nx',r,rfl,O,hb⟩:=rP hL D.R.length (fun i st=>st.T 0= .tp (Rn D N) 0/\st.T 1=I k/\st.T 12=LL Vo D.R/\st.T 13=I D.R.length/\st.T 14=I i/\∃r,st.T 5=I r/\nI D N k i r)
  (fun x=>∃T σ nx r,x=(.exit 0,⟨T,σ,nx⟩)/\T 5=I r/\nI D N k D.R.length r) (by
   clear hL;rintro i ⟨T,σ,nx⟩ hi ⟨J,S,G,E,Gl,r,O,hb⟩;simp only at J S G E Gl O;have f1:(i:Int)<(D.R.length:Int):=by omega
   have f2:=nP i;have f3:=iF (n:=(i:Int)+1);have r1:=Jd hi;have r2:=kE (c:=Vo) (s:=1) (fun _=>rfl) (by omega) D.R i hi;have r3:=a7 i hi;have r5:=sD h.row hi (show k<N+1 by omega);have r6:=kE (c:=cZ) (s:=2) sJ (by omega) (vI D.R i) k (by omega);have r7:=kD (c:=cZ) (s:=2) sJ (vI D.R i);rw[r3]at r7;have s1:=oO (en D.R i k)
   by_cases hp:0<en D.R i k
   .have c1:¬dS (en D.R i k) 0<=0:=fun e=>(Ee _).mp e hp
    rcases hb with ⟨rfl,hb⟩|⟨r',rfl,b5,b6,b7,b8⟩
    .refine .inl ⟨_,by simp only[go_sem,J,S,G,E,Gl,O,f1,f2,f3,r1,r2,r3,r4,r5,r6,r7,r8,s1,a1,c1,m1];rfl,?_⟩
     simp only[go_sem,J,S,G,E];exact⟨rfl,i,rfl,nI.first (.inl ⟨rfl,hb⟩) hp⟩
    .have a6:nI D N k i r':=.inr ⟨r',rfl,b5,b6,b7,b8⟩
     have Y:r'<D.R.length:=by omega
     have q0:¬(r':Int)<0:=by omega
     have q1:(r':Int)<(D.R.length:Int):=by omega
     have q2:(0:Int)<=(r':Int):=by omega
     have q3:=Jd Y;have q4:=a7 r' Y;have q5:=sD h.row Y (show k<N+1 by omega);have q6:=kE (c:=cZ) (s:=2) sJ (by omega) (vI D.R r') k (by omega);have q7:=kD (c:=cZ) (s:=2) sJ (vI D.R r');rw[q4]at q7;have q8:=sD h.row hi (show N<N+1 by omega);have q9:=sD h.row Y (show N<N+1 by omega);have b1:=h.big i N hi (zu _);have b2:=h.big r' k Y (by omega);have b3:=h.big r' N Y (zu _);have b4:=h.big i k hi (by omega);have k1:=oZ (en D.R i N) (en D.R r' k) (by omega) (by omega);have k2:=oZ (en D.R r' N) (en D.R i k) (by omega) (by omega);have l1:=nk (en D.R i N) (en D.R r' k);have l2:=nk (en D.R r' N) (en D.R i k);have k3:=Lm (en D.R i N*en D.R r' k) (en D.R r' N*en D.R i k) (by omega) (by omega);have t1:=iI (Aj D.B) i (by omega);have t2:=idx (xs:=Aj D.B) (k:=i) (by omega);rw[jF (by have:=h.gq;omega)]at t2;have t3:=idx (xs:=Aj D.B) (k:=r') (by omega);rw[jF (by have:=h.gq;omega)]at t3;unfold Rn at J;rcases Vt (en D.R i N*en D.R r' k) (en D.R r' N*en D.R i k)with ⟨hc,e⟩|⟨hc,e⟩|⟨hc,e⟩
     .rw[e]at k3
      refine .inl ⟨_,by simp only[go_sem,J,S,G,E,Gl,O,f1,f2,f3,r1,r2,r3,r4,r5,r6,r7,r8,s1,a1,c1,q0,q1,q2,q3,q4,q5,q6,q7,q8,q9,n0,n4,n8,k1,k2,k3,m1];rfl,?_⟩;simp only[go_sem,J,S,G,E];exact⟨rfl,rfl,i,rfl,a6.less hp hc⟩
     .rw[e]at k3
      by_cases hB:D.B.getD i 0<D.B.getD r' 0
      .have a8:((D.B.getD i 0:Nat):Int)<((D.B.getD r' 0:Nat):Int):=by omega
       refine .inl ⟨_,by simp only[go_sem,J,S,G,E,Gl,O,f1,f2,f3,r1,r2,r3,r4,r5,r6,r7,r8,s1,a1,c1,q0,q1,q2,q3,q4,q5,q6,q7,q8,q9,n0,n4,n8,k1,k2,k3,m3,m4,t1,t2,t3,tl,a8];rfl,?_⟩;simp only[go_sem,J,S,G,E];exact⟨rfl,rfl,i,rfl,a6.same hp hc hB⟩
      .have a8:¬((D.B.getD i 0:Nat):Int)<((D.B.getD r' 0:Nat):Int):=by omega
       refine .inl ⟨_,by simp only[go_sem,J,S,G,E,Gl,O,f1,f2,f3,r1,r2,r3,r4,r5,r6,r7,r8,s1,a1,c1,q0,q1,q2,q3,q4,q5,q6,q7,q8,q9,n0,n4,n8,k1,k2,k3,m3,m4,t1,t2,t3,tl,a8];rfl,?_⟩;simp only[go_sem,J,S,G,E,O];exact⟨rfl,rfl,r',rfl,a6.keep (by omega) fun _=>by omega⟩
     .rw[e]at k3
      refine .inl ⟨_,by simp only[go_sem,J,S,G,E,Gl,O,f1,f2,f3,r1,r2,r3,r4,r5,r6,r7,r8,s1,a1,c1,q0,q1,q2,q3,q4,q5,q6,q7,q8,q9,n0,n4,n8,k1,k2,k3,m2,m5];rfl,?_⟩;simp only[go_sem,J,S,G,E,O];exact⟨rfl,rfl,r',rfl,a6.keep (by omega) fun e=>by omega⟩
   .have c1:dS (en D.R i k) 0<=0:=(Ee _).mpr hp
    refine .inl ⟨_,by simp only[go_sem,J,S,G,E,Gl,O,f1,f2,f3,r1,r2,r3,r4,r5,r6,r7,r8,s1,a1,c1];rfl,?_⟩;simp only[go_sem,J,S,G,E,O];exact⟨rfl,r,rfl,hb.skip hp⟩) (by
   clear hL;rintro ⟨T,σ,nx⟩ ⟨J,S,G,E,Gl,r,O,hb⟩;simp only at J S G E Gl O;refine⟨_,by simp only[go_sem,E,Gl,zX];rfl,by simp,_,_,_,r,rfl,?_,hb⟩;simp only[go_sem,O]) (by
   simp only[go_sem];exact⟨rfl,-1,rfl,.inl ⟨rfl,fun j hj=>by omega⟩⟩)
 exact⟨r,by simp only[go_sem,O],hb⟩
def zc(p:Int×Bool):List V:=[Bo (decide (p.1<0)),if p.2=true then .nil else LI (dg p.1.natAbs)]
theorem iC(p:Int×Bool):(zc p).length=2:=rfl
theorem Xi(z:Int):zc (z,false)=cZ z:=rfl
theorem h_(σ:Store)(d:Nat){p:Int×Bool}(h:p.2=true->p.1=0):stripL (strip σ d) (zc p)=some (cZ p.1,[]):=by
 obtain⟨z,b⟩:=p;cases b with
 |false=>exact Ry σ d z
 |true=>
  have:z=0:=h rfl;subst this;unfold zc;rw[jd,jQ,uf rfl,jd,jS,jX];show some ([Bo (decide ((0:Int)<0)),V.ts [] 0],[]++([]++[]))=_;unfold cZ;rw[Int.natAbs_zero,rD];rfl
theorem acA(p:Int×Bool):(zc p).all aJ=true:=by
 unfold zc;cases p.2<;>rfl
theorem acB(a b:V)(p:Int×Bool):patch [a,b] 0 (zc p)=zc p:=rfl
theorem afN(p:Int×Bool):(zc p).take 2=zc p:=rfl
theorem Zf(a b:V)(z:Int):patch [a,b] 0 (cZ z)=cZ z:=rfl
attribute [go_sem] iC acA acB afN sJ Ru Oe Rx Zf
def Ak(σ:Store)(b:Nat)(E:List Int):Prop:=∃L:List (Int×Bool),σ b=some ⟨L.flatMap zc,2,true⟩/\L.map (·.1)=E/\∀p∈L,p.2=true->p.1=0
theorem Ak.congr{σ σ':Store}{b:Nat}{E:List Int}(h:Ak σ b E)(e:σ' b=σ b):Ak σ' b E:=by
 obtain⟨L,G,J⟩:=h;exact⟨L,by rw[e];exact G,J⟩
theorem mO{α:Type}{c:α->List V}{s:Nat}(hc:∀x,(c x).length=s)(xs:List α)(k:Nat)(h:k<xs.length)(y:α):patch (xs.flatMap c) (k*s) (c y)=(xs.set k y).flatMap c:=by
 have E:=kD hc xs;have hle:(k+1)*s<=xs.length*s:=yc _ h;rw[wY]at hle;rw[mQ _ _ _ (by rw[E,hc];exact hle),hc];have G:(xs.flatMap c).take (k*s)=(xs.take k).flatMap c:=by
  have:=wJ k xs
  conv=>lhs;rw[<- this]
  rw[zC,xZ];rw[kD hc,zY,yB (by omega)]
 have J:(xs.flatMap c).drop (k*s+s)=(xs.drop (k+1)).flatMap c:=by rw[<- wY];exact KY hc xs (k+1)
 rw[G,J,vM,uf h,zC,zJ,zF]
def newR(W:List Int)(L:List (Int×Bool))(c:Nat):List (Int×Bool):=(W.take c).map (fun z=>(z,false))++L.drop c
theorem FC(W:List Int)(L:List (Int×Bool)):newR W L 0=L:=by simp[newR]
theorem nO{W:List Int}{L:List (Int×Bool)}(h:W.length=L.length){c:Nat}(hc:c<=L.length):(newR W L c).length=L.length:=by
 unfold newR;simp;omega
theorem RF{W:List Int}{L:List (Int×Bool)}(h:W.length=L.length){c:Nat}(hc:c<L.length):(newR W L c)[c]'(by rw[nO h (by omega)];exact hc)=L[c]:=by
 have:(newR W L c)[c]?=L[c]?:=by
  unfold newR;rw[zS (by simp;omega),yG];congr 1;simp;omega
 rw[zy (by rw[nO h (by omega)];exact hc),zy hc]at this;exact Option.some.inj this
theorem Je{W:List Int}{L:List (Int×Bool)}(h:W.length=L.length){c:Nat}(hc:c<L.length):(newR W L c).set c (W[c],false)=newR W L (c+1):=by
 unfold newR;have E:((W.take c).map fun z=>(z,false)).length=c:=by simp;omega
 rw[yA _ _ (by omega),E,yh,yQ hc,vV,wz,zy (by omega),List.map_append,zF];rfl
theorem LQ{W:List Int}{L:List (Int×Bool)}(h:W.length=L.length):newR W L L.length=W.map fun z=>(z,false):=by
 unfold newR;rw[zk (by omega),yD (zu _),zA]
theorem RG{σ:Store}{b:Nat}{W:List Int}{L:List (Int×Bool)}(h:W.length=L.length)(hb:σ b=some ⟨(newR W L L.length).flatMap zc,2,true⟩):Ak σ b W:=by
 refine⟨_,hb,?_,?_⟩
 .rw[LQ h,List.map_map]
  exact List.map_id'' (fun _=>rfl) W
 .rw[LQ h]
  intro p hp;obtain⟨z,_,rfl⟩:=List.mem_map.mp hp;intro e;cases e
structure gV (σ:Store) (bt br bb bf:Nat) (rb:List Nat) (D:TZ) (N:Nat):Prop where
 t:σ bt=some ⟨[.rs br 0 D.R.length,Bo (decide (D.cu<0)),LI (dg D.cu.natAbs),.rs bb 0 D.R.length,I N,.rs bf 0 N],0,true⟩
 r:∃ex,σ br=some ⟨rb.map (fun b=>V.rs b 0 (N+1))++ex,1,true⟩
 row:∀i (h:i<rb.length),Ak σ rb[i] (vI D.R i)
 b:∃ex,σ bb=some ⟨(Aj D.B).flatMap cI++ex,1,true⟩
 f:σ bf=some ⟨D.fr.flatMap Dl,1,true⟩
 len:rb.length=D.R.length
 nd:(bt :: br :: bb :: bf :: rb).Nodup
theorem Xj{R:List (List Int)}{r k j:Nat}{b:Int}(h:j<R.length):vI (dD R r k b) j=if j=r then vI R j else AU (en R r k) (en R j k) b (vI R j) (vI R r):=by
 show(dD R r k b).getD j []=_;unfold dD;rw[zx,List.getElem?_mapIdx,zy h];simp only[zT,yJ];rw[kP h]
 split
 .rfl
 .unfold en;rw[kP h]
theorem Vu(p f b:Int){x y:List Int}(h:x.length=y.length):(AU p f b x y).length=x.length:=by unfold AU;rw[List.length_zipWith,h,Nat.min_self]
theorem Vx(p f b:Int){x y:List Int}{c:Nat}(h:c<x.length)(E:c<y.length):(AU p f b x y)[c]'(by unfold AU;rw[List.length_zipWith];omega)=(x[c]*p-f*y[c]).tdiv b:=by
 unfold AU;rw[List.getElem_zipWith]
theorem LU{L:List (Int×Bool)}{E:List Int}(h:L.map (·.1)=E){c:Nat}(hc:c<E.length):∃G:c<L.length,(L[c]'G).1=E[c]:=by
 subst h;exact⟨by simpa using hc,by simp⟩
theorem nd4{bt br bb bf:Nat}{rb:List Nat}(h:(bt :: br :: bb :: bf :: rb).Nodup):bt≠br/\bt≠bb/\bt≠bf/\br≠bb/\br≠bf/\bb≠bf/\(∀b∈rb,b≠bt/\b≠br/\b≠bb/\b≠bf)/\rb.Nodup:=by
 simp only[List.nodup_cons,zQ,not_or]at h;obtain⟨⟨J,O,S,Y⟩,⟨h5,h6,h7⟩,⟨h8,h9⟩,E,G⟩:=h;refine⟨J,O,S,h5,h6,h8,fun b hb=>⟨fun e=>Y (e ▸ hb),fun e=>h7 (e ▸ hb),fun e=>h9 (e ▸ hb),fun e=>E (e ▸ hb)⟩,G⟩
theorem lM{rb:List Nat}{ex:List V}{n i:Nat}(h:i<rb.length):(rb.map (fun b=>V.rs b 0 n)++ex)[i]?=some (.rs rb[i] 0 n):=by
 rw[zZ (by simpa using h),yg,zy h];rfl
def BU(R:List (List Int))(P:List (List Int))(i j:Nat):List Int:=if j<i then vI P j else vI R j
theorem acC{u p f v:Int}(hu:ln u.natAbs<=50)(hp:ln p.natAbs<=50)(E:ln f.natAbs<=50)(G:ln v.natAbs<=50) :
  ln (u*p).natAbs<=1000000/\ln (f*v).natAbs<=1000000/\ln (u*p-f*v).natAbs<=1000000:=by
 have J:=nk u p;have O:=nk f v;have S:=Xg (u*p) (f*v);omega
theorem acD{σ:Store}{nx bt br bb bf:Nat}{rb:List Nat}{D:TZ}{N:Nat}(h:gV σ bt br bb bf rb D N)(hs:Ro D N)(c7:∀b∈bt :: br :: bb :: bf :: rb,b<nx){r k:Nat}(hr:r<D.R.length)(hk:k<N)(hp:en D.R r k≠0)(i1:D.cu≠0) :
  ∃σ' nx',ev gu aY bY 173 [.rp bt 0,I r,I k] σ nx=some (.dF [],σ',nx')/\gV σ' bt br bb bf rb (BR D r k) N/\nx<=nx'/\∀b,b<nx->b≠bt->b≠bb->b∉rb->σ' b=σ b:=by
 obtain⟨n1,n2,n3,n4,n5,n6,n7,n8⟩:=nd4 h.nd;have hN:=hs.sz;have hR:=hs.Ja;obtain⟨J9,e8⟩:=h.r;obtain⟨Ho,m9⟩:=h.b;have e9:=h.t;have hlen:=h.len;have i2:=c7 bt (by simp);have i3:=c7 br (by simp);have n0:=c7 bb (by simp);have n9:=c7 bf (by simp);have Og:∀j (E:j<rb.length),rb[j]<nx:=fun j E=>c7 _ (by simp[zq E])
 have h4:r<rb.length:=by omega
 obtain⟨bR,c8⟩:∃bR,bR=rb[r]:=⟨_,rfl⟩;have o0:bR<nx:=by rw[c8];exact Og r h4
 have nR:=n7 bR (by rw[c8];exact zq h4);obtain⟨Lr,i4,j7,o5⟩:=h.row r h4;rw[<- c8]at i4;have J:∀j,j<D.R.length->(vI D.R j).length=N+1:=fun j E=>by rw[kP E];exact hs.row _ (zq E)
 have Vy:Lr.length=N+1:=by have:=congrArg List.length j7;rw[zB,J r hr]at this;exact this
 have ent:∀j c (E:j<D.R.length) (hc:c<N+1),(vI D.R j)[c]'(by rw[J j E];exact hc)=en D.R j c:=fun j c E hc=>by
  unfold en;rw[zx,zy];rfl
 have c9:∀c (hc:c<N+1),(Lr[c]'(by omega)).1=en D.R r c:=fun c hc=>by
  obtain⟨_,e⟩:=LU j7 (c:=c) (by rw[J r hr];exact hc);rw[e,ent r c hr hc]
 have lz:∀c (hc:c<Lr.length),(Lr[c]).2=true->(Lr[c]).1=0:=fun c hc=>o5 _ (zq hc)
 have a1:=nP r;have a2:(r:Int)<(D.R.length:Int):=by omega
 have a3:=nP k;have a4:(k:Int)<((N+1:Nat):Int):=by omega
 have a5:=lM (ex:=J9) (n:=N+1) h4;rw[<- c8]at a5;have a6:=kG (c:=zc) (s:=2) iC Lr k (by omega);have a7:=kD (c:=zc) (s:=2) iC Lr;rw[Vy]at a7;have a8:k*2+2<=(N+1)*2:=by omega
 obtain⟨sp,h5⟩:∃sp,sp=upd σ nx (some ⟨zc Lr[k],0,true⟩):=⟨_,rfl⟩;have c3:∀b,b<nx->sp b=σ b:=fun b hb=>by rw[h5,iZ]
 have j8:sp nx=some ⟨zc Lr[k],0,true⟩:=by rw[h5,iW]
 have j9:=(c3 bt i2).trans e9;have k0:=(c3 br i3).trans e8;rw[qO [] [10,12,13] func173];simp only[go_sem,e9,e8,i4,a1,a2,a3,a4,a5,a6,a7,a8,iC,iV,<- h5,j9,k0];generalize hL:aA _ _=y;have P0:=mG D.R r k D.cu
 obtain⟨x,rfl,T1,b9,aO,rfl,t0,t1,t2,t7,p5,c4,k7,FD⟩:=rP hL D.R.length (fun i st=>st.T 0= .rp bt 0/\st.T 1=I r/\st.T 2=I k/\st.T 6= .rs bR 0 (N+1)/\st.T 7= .rp nx 0/\st.T 30= .rs br 0 D.R.length/\st.T 31=I D.R.length/\st.T 32=I i/\nx<st.nx/\st.σ nx=some ⟨zc Lr[k],0,true⟩/\st.σ bR=some ⟨Lr.flatMap zc,2,true⟩ /\
   (∀j (E:j<rb.length),Ak st.σ rb[j] (BU D.R (dD D.R r k D.cu) i j))/\∀b,b<nx->b∉rb->st.σ b=σ b)
  (fun x=>∃T σ' nx',x=(.exit 0,⟨T,σ',nx'⟩)/\T 0= .rp bt 0/\T 1=I r/\T 2=I k/\T 7= .rp nx 0/\nx<nx'/\σ' nx=some ⟨zc Lr[k],0,true⟩/\(∀j (E:j<rb.length),Ak σ' rb[j] (vI (dD D.R r k D.cu) j))/\∀b,b<nx->b∉rb->σ' b=σ b) (by
   clear hL;rintro i ⟨T,σ',nx'⟩ hi ⟨t0,t1,t2,t6,t7,t30,t31,t32,Y,sn,sR,rows,frame⟩;simp only at t0 t1 t2 t6 t7 t30 t31 t32 Y sn;have f1:(i:Int)<(D.R.length:Int):=by omega
   have f2:=nP i;have f3:=iF (n:=(i:Int)+1);have b2:i<rb.length:=by omega
   obtain⟨S,Jf⟩:∃S,S=rb[i]:=⟨_,rfl⟩;have p6:S<nx:=by rw[Jf];exact Og i b2
   have ni:=n7 S (by rw[Jf];exact zq b2);have f5:=lM (ex:=J9) (n:=N+1) b2;rw[<- Jf]at f5;have h6:σ' br=_:=(frame br i3 fun e=>(n7 br e).2.1 rfl).trans e8
   by_cases i5:i=r
   .have c1:((i:Int)==(r:Int))=true:=by rw[i5];simp
    refine .inl ⟨_,by simp only[go_sem,t0,t1,t2,t6,t7,t30,t31,t32,h6,f1,f2,f3,f5,c1];rfl,?_⟩;simp only[go_sem,t0,t1,t2,t6,t7,t30,t31];refine⟨rfl,Y,sn,sR,fun j E=>?_,frame⟩;have b4:=rows j E;unfold BU at b4⊢
    by_cases b5:j<i
    .rw[uf b5]at b4
     rw[uf (by omega)];exact b4
    .rw[ug b5]at b4
     by_cases p7:j=i
     .rw[uf (by omega),Xj (by omega),uf (by omega)]
      exact b4
     .rw[ug (by omega)]
      exact b4
   .have c1:((i:Int)==(r:Int))=false:=by rw[uZ];omega
    have k8:S≠bR:=fun e=>i5 (by rw[Jf,c8]at e;exact(List.getElem_inj n8).mp e)
    obtain⟨G,Oh,CX,Oi⟩:=rows i b2;have h7:σ' S=some ⟨G.flatMap zc,2,true⟩:=by rw[Jf];exact Oh
    have e0:BU D.R (dD D.R r k D.cu) i i=vI D.R i:=by unfold BU;rw[ug (by omega)]
    rw[e0]at CX;have GU:G.length=N+1:=by have:=congrArg List.length CX;rw[zB,J i hi]at this;exact this
    have h9:∀c (hc:c<N+1),(G[c]'(by omega)).1=en D.R i c:=fun c hc=>by
     obtain⟨_,e⟩:=LU CX (c:=c) (by rw[J i hi];exact hc);rw[e,ent i c hi hc]
    have iz:∀c (hc:c<G.length),(G[c]).2=true->(G[c]).1=0:=fun c hc=>Oi _ (zq hc)
    have b6:=kG (c:=zc) (s:=2) iC G k (by omega);have b7:=kD (c:=zc) (s:=2) iC G;rw[GU]at b7;obtain⟨s6,i6⟩:∃s6,s6=upd σ' nx' (some ⟨zc G[k],0,true⟩):=⟨_,rfl⟩;have b8:∀b,b<nx'->s6 b=σ' b:=fun b hb=>by rw[i6,iZ]
    have o6:s6 nx'=some ⟨zc G[k],0,true⟩:=by rw[i6,iW]
    obtain⟨W,eW⟩:∃W,W=AU (en D.R r k) (en D.R i k) D.cu (vI D.R i) (vI D.R r):=⟨_,rfl⟩;have p0:W.length=N+1:=by rw[eW,Vu _ _ _ (by rw[J i hi,J r hr]),J i hi]
    have Zg:W.length=G.length:=by omega
    have i7:∀c (hc:c<N+1),W[c]'(by omega)=(en D.R i c*en D.R r k-en D.R i k*en D.R r c).tdiv D.cu:=fun c hc=>by
     subst eW;rw[Vx _ _ _ (by rw[J i hi];exact hc) (by rw[J r hr];exact hc),ent i c hi hc,ent r c hr hc]
    refine ji ?_
    conv=>
     enter [1,r,1,1]
     simp only[go_sem,t0,t1,t2,t6,t7,t30,t31,t32,h6,f1,f2,f5,c1,h7,a3,a4,a8,b6,b7,iV,<- i6]
    generalize hL:aA _ _=z
    obtain⟨x,rfl,T1,σ2,BH,rfl,t0,t1,t2,t6,t7,t30,t31,t32,p8,Ce,BG⟩:=rP hL (N+1) (fun c st=>st.T 0= .rp bt 0/\st.T 1=I r/\st.T 2=I k/\st.T 6= .rs bR 0 (N+1)/\st.T 7= .rp nx 0/\st.T 30= .rs br 0 D.R.length/\st.T 31=I D.R.length/\st.T 32=I i/\st.T 9= .rs S 0 (N+1)/\st.T 10= .rp nx' 0/\st.T 45=I ((N+1:Nat):Int)/\st.T 46=I c/\nx'<st.nx /\
      (∀b,b<=nx'->b≠S->st.σ b=s6 b)/\st.σ S=some ⟨(newR W G c).flatMap zc,2,true⟩)
     (fun x=>∃T Vz k9,x=(.exit 2,⟨T,Vz,k9⟩)/\T 0= .rp bt 0/\T 1=I r/\T 2=I k/\T 6= .rs bR 0 (N+1)/\T 7= .rp nx 0/\T 30= .rs br 0 D.R.length/\T 31=I D.R.length/\T 32=I i/\nx'<k9/\(∀b,b<=nx'->b≠S->Vz b=s6 b)/\Ak Vz S W) (by
      clear hL;rintro c ⟨T,σ2,m0⟩ hc ⟨t0,t1,t2,t6,t7,t30,t31,t32,t9,t10,t45,t46,b3,Ce,BG⟩;simp only at t0 t1 t2 t6 t7 t30 t31 t32 t9 t10 t45 t46 b3 BG;have g1:(c:Int)<((N+1:Nat):Int):=by omega
      have g2:=nP c;have g3:=iF (n:=(c:Int)+1);have g4:=kG (c:=zc) (s:=2) iC (newR W G c) c (by rw[nO Zg (by omega)];omega);rw[RF Zg (by omega)]at g4;have g5:=kD (c:=zc) (s:=2) iC (newR W G c);rw[nO Zg (by omega),GU]at g5;have g6:c*2+2<=(N+1)*2:=by omega
      have g7:=kG (c:=zc) (s:=2) iC Lr c (by omega);have z1:∀σ d,stripL (strip σ d) (zc G[c])=some (cZ (en D.R i c),[]):=fun σ d=>by rw[h_ σ d (iz c (by omega)),h9 c (by omega)]
      have z2:∀σ d,stripL (strip σ d) (zc Lr[k])=some (cZ (en D.R r k),[]):=fun σ d=>by rw[h_ σ d (lz k (by omega)),c9 k (by omega)]
      have z3:∀σ d,stripL (strip σ d) (zc G[k])=some (cZ (en D.R i k),[]):=fun σ d=>by rw[h_ σ d (iz k (by omega)),h9 k (by omega)]
      have z4:∀σ d,stripL (strip σ d) (zc Lr[c])=some (cZ (en D.R r c),[]):=fun σ d=>by rw[h_ σ d (lz c (by omega)),c9 c (by omega)]
      have e1:σ2 bt=_:=(Ce bt (by omega) (yS ni.1)).trans ((b8 bt (by omega)).trans ((frame bt i2 fun e=>(n7 bt e).1 rfl).trans e9));have e3:σ2 nx=_:=(Ce nx (by omega) (by omega)).trans ((b8 nx (by omega)).trans sn);have e4:σ2 nx'=_:=(Ce nx' (zu _) (by omega)).trans o6;have e5:σ2 bR=_:=(Ce bR (by omega) (yS k8)).trans ((b8 bR (by omega)).trans sR);have d1:¬bt=m0:=by omega
      have d3:¬nx=m0:=by omega
      have d4:¬nx'=m0:=by omega
      have d5:¬bR=m0:=by omega
      have d6:¬S=m0:=by omega
      have l1:bt<m0+1:=by omega
      have l3:nx<m0+1:=by omega
      have l4:nx'<m0+1:=by omega
      have l5:bR<m0+1:=by omega
      have l6:S<m0+1:=by omega
      have l7:m0<m0+1:=by omega
      have l8:S<m0:=by omega
      have l9:nx<m0:=by omega
      have i9:nx'<m0:=by omega
      have j0:bR<m0:=by omega
      have j1:bt<m0:=by omega
      have u1:=hs.big i c (by omega) (by omega);have u2:=hs.big r k hr (by omega);have u3:=hs.big i k (by omega) (by omega);have u4:=hs.big r c hr (by omega);obtain⟨v1,v2,v3⟩:=acC (u:=en D.R i c) (p:=en D.R r k) (f:=en D.R i k) (v:=en D.R r c) u1 u2 u3 u4;have k1:=oZ (en D.R i c) (en D.R r k) (by omega) (by omega);have k2:=oO (en D.R i k);have k3:=oO (en D.R r c);have k4:=oZ (en D.R i k) (en D.R r c) (by omega) (by omega);have k5:=WU (en D.R i c*en D.R r k) (en D.R i k*en D.R r c) v1 v2;have s2:=Vs (en D.R i k);have s3:=Vs (en D.R r c);have p9:=hs.cu;have fin:∀y:Int,y=W[c]'(by omega)->patch ((newR W G c).flatMap zc) (c*2) (cZ y)=(newR W G (c+1)).flatMap zc:=fun y hy=>by
       rw[<- Xi,mO iC _ _ (by rw[nO Zg (by omega)];omega),hy,Je Zg (by omega)]
      have wv:=i7 c hc
      by_cases j2:en D.R i k=0
      .rw[uY j2,Bool.not_true]at s2
       have k6:fn gu aY bY 204 [.agg (cZ (en D.R i c*en D.R r k)),.agg [Bo (decide (D.cu<0)),LI (dg D.cu.natAbs)]]=_:=I9 (en D.R i c*en D.R r k) D.cu v1 (by omega) i1;have c6:=fin ((en D.R i c*en D.R r k).tdiv D.cu) (by rw[wv,j2,Int.zero_mul,Int.sub_zero]);refine .inl ⟨_,by simp only[go_sem,t0,t1,t2,t6,t7,t9,t10,t45,t46,BG,e1,e3,e4,e5,a3,a4,a8,g1,g2,g3,g4,g5,g6,g7,z1,z2,z3,z4,d1,d3,d4,d5,d6,l1,l3,l4,l5,l6,l7,l8,l9,i9,j0,j1,k1,k2,s2,k6,c6,iV];rfl,?_⟩;simp only[go_sem,t0,t1,t2,t6,t7,t30,t31,t32,t9,t10,t45];refine⟨rfl,by omega,fun b hb O=>?_⟩;rw[iY _ _ O,iZ];exact Ce b hb O
      .rw[uX j2,vH]at s2
       by_cases j3:en D.R r c=0
       .rw[uY j3,Bool.not_true]at s3
        have k6:fn gu aY bY 204 [.agg (cZ (en D.R i c*en D.R r k)),.agg [Bo (decide (D.cu<0)),LI (dg D.cu.natAbs)]]=_:=I9 (en D.R i c*en D.R r k) D.cu v1 (by omega) i1;have c6:=fin ((en D.R i c*en D.R r k).tdiv D.cu) (by rw[wv,j3,vT,Int.sub_zero]);refine .inl ⟨_,by simp only[go_sem,t0,t1,t2,t6,t7,t9,t10,t45,t46,BG,e1,e3,e4,e5,a3,a4,a7,a8,g1,g2,g3,g4,g5,g6,g7,z1,z2,z3,z4,d1,d3,d4,d5,d6,l1,l3,l4,l5,l6,l7,l8,l9,i9,j0,j1,k1,k2,s2,k3,s3,k6,c6,iV];rfl,?_⟩;simp only[go_sem,t0,t1,t2,t6,t7,t30,t31,t32,t9,t10,t45];refine⟨rfl,by omega,fun b hb O=>?_⟩;rw[iY _ _ O,iZ];exact Ce b hb O
       .rw[uX j3,vH]at s3
        have k6:fn gu aY bY 204 [.agg (cZ (en D.R i c*en D.R r k-en D.R i k*en D.R r c)),.agg [Bo (decide (D.cu<0)),LI (dg D.cu.natAbs)]]=_:=I9 (en D.R i c*en D.R r k-en D.R i k*en D.R r c) D.cu v3 (by omega) i1;have c6:=fin ((en D.R i c*en D.R r k-en D.R i k*en D.R r c).tdiv D.cu) wv.symm;refine .inl ⟨_,by simp only[go_sem,t0,t1,t2,t6,t7,t9,t10,t45,t46,BG,e1,e3,e4,e5,a3,a4,a7,a8,g1,g2,g3,g4,g5,g6,g7,z1,z2,z3,z4,d1,d3,d4,d5,d6,l1,l3,l4,l5,l6,l7,l8,l9,i9,j0,j1,k1,k2,s2,k3,s3,k4,k5,k6,c6,iV];rfl,?_⟩;simp only[go_sem,t0,t1,t2,t6,t7,t30,t31,t32,t9,t10,t45];refine⟨rfl,by omega,fun b hb O=>?_⟩;rw[iY _ _ O,iZ];exact Ce b hb O) (by
      clear hL;rintro ⟨T,σ2,m0⟩ ⟨t0,t1,t2,t6,t7,t30,t31,t32,t9,t10,t45,t46,b3,Ce,BG⟩;simp only at t0 t1 t2 t6 t7 t30 t31 t32 t9 t10 t45 t46 b3 BG;refine⟨_,by simp only[go_sem,t45,t46,zX];rfl,by simp,_,_,_,rfl,?_⟩;simp only[go_sem,t0,t1,t2,t6,t7,t30,t31,t32];exact⟨b3,Ce,RG Zg (by rw[GU];exact BG)⟩) (by
      simp only[go_sem,t0,t1,t2,t6,t7,t30,t31,t32];refine⟨by omega,fun _ _ _=>trivial,?_⟩;rw[FC,b8 S (by omega)];exact h7)
    refine⟨_,by simp only[go_sem,t32,f3];rfl,.inl ⟨_,rfl,?_⟩⟩;simp only[go_sem,t0,t1,t2,t6,t7,t30,t31];refine⟨rfl,by omega,?_,?_,fun j E=>?_,fun b hb hn=>?_⟩
    .exact(Ce nx (by omega) (by omega)).trans ((b8 nx (by omega)).trans sn)
    .exact(Ce bR (by omega) (yS k8)).trans ((b8 bR (by omega)).trans sR)
    .by_cases b5:j=i
     .subst b5
      rw[<- Jf];unfold BU;rw[uf (by omega),Xj (by omega),ug i5,<- eW];exact BG
     .have O:rb[j]≠S:=fun e=>b5 (by rw[Jf]at e;exact(List.getElem_inj n8).mp e)
      have:=Og j E;have e2:BU D.R (dD D.R r k D.cu) (i+1) j=BU D.R (dD D.R r k D.cu) i j:=by
       unfold BU
       by_cases hq:j<i
       .rw[uf hq,uf (by omega)]
       .rw[ug hq,ug (by omega)]
      rw[e2];exact(rows j E).congr ((Ce _ (by omega) O).trans (b8 _ (by omega)))
    .exact(Ce b (by omega) fun e=>hn (by rw[e,Jf];exact zq b2)).trans ((b8 b (by omega)).trans (frame b hb hn))) (by
   clear hL;rintro ⟨T,σ',nx'⟩ ⟨t0,t1,t2,t6,t7,t30,t31,t32,Y,sn,sR,rows,frame⟩;simp only at t0 t1 t2 t6 t7 t30 t31 t32 Y sn;refine⟨_,by simp only[go_sem,t31,t32,zX];rfl,by simp,_,_,_,rfl,?_⟩;simp only[go_sem,t0,t1,t2,t7];refine⟨Y,sn,fun j E=>?_,frame⟩;have:=rows j E;unfold BU at this;rw[uf (by omega)]at this;exact this) (by
   simp only[go_sem];refine⟨by omega,j8,(c3 bR o0).trans i4,fun j E=>?_,fun b hb _=>c3 b hb⟩;unfold BU;rw[ug (by omega)];exact(h.row j E).congr (c3 _ (Og j E)))
 have p1:zc Lr[k]=cZ (en D.R r k):=by
  have e1:=c9 k (by omega);have e2:=lz k (by omega);generalize Lr[k]=q at e1 e2;obtain⟨z,b⟩:=q;simp only at e1 e2;subst e1;cases b with
  |false=>rfl
  |true=>exact absurd (e2 rfl) hp
 rw[p1]at c4;obtain⟨p,ep⟩:∃p,p=en D.R r k:=⟨_,rfl⟩;rw[<- ep]at c4 hp;have e1:b9 bt=_:=(FD bt i2 fun e=>(n7 bt e).1 rfl).trans e9;have e2:b9 bb=_:=(FD bb n0 fun e=>(n7 bb e).2.2.1 rfl).trans m9;have e3:b9 br=_:=(FD br i3 fun e=>(n7 br e).2.1 rfl).trans e8;have e4:b9 bf=_:=(FD bf n9 fun e=>(n7 bf e).2.2.2 rfl).trans h.f;have hB:(Aj D.B).length=D.R.length:=by rw[jE];exact hs.gq
 have m1:r<((Aj D.B).flatMap cI++Ho).length:=by rw[zo,sS];omega
 have m2:((Aj D.B).flatMap cI++Ho).set r (I k)=(Aj (D.B.set r k)).flatMap cI++Ho:=by
  rw[List.set_append_left _ _ (by rw[sS];omega),sQ];unfold Aj;rw[List.map_set]
 have m3:∀a b c d e f:V,patch [a,b,c,d,e,f] 1 (cZ p)=[a,Bo (decide (p<0)),LI (dg p.natAbs),d,e,f]:=fun _ _ _ _ _ _=>rfl
 have m4:∀a b c d e f:V,patch [a,b,c,d,e,f] 1 (cZ (-p))=[a,Bo (decide (-p<0)),LI (dg (-p).natAbs),d,e,f]:=fun _ _ _ _ _ _=>rfl
 have d1:¬bt=nx:=by omega
 have d2:¬bb=nx:=by omega
 have d3:¬nx=bt:=by omega
 have d4:¬nx=bb:=by omega
 have d5:¬bb=bt:=fun e=>n2 e.symm
 have d6:¬bt=bb:=n2;have d7:¬br=bt:=fun e=>n1 e.symm
 have d8:¬br=bb:=n4;have k1:=oO p;obtain⟨s1,c5⟩:∃s1,s1=upd (upd b9 bt (some ⟨[.rs br 0 D.R.length,Bo (decide (p<0)),LI (dg p.natAbs),.rs bb 0 D.R.length,I N,.rs bf 0 N],0,true⟩)) bb (some ⟨(Aj (D.B.set r k)).flatMap cI++Ho,1,true⟩):=⟨_,rfl⟩;have l2:s1 bt=some ⟨[.rs br 0 D.R.length,Bo (decide (p<0)),LI (dg p.natAbs),.rs bb 0 D.R.length,I N,.rs bf 0 N],0,true⟩:=by rw[c5,iY _ _ d6,iW]
 have c0:∀b,b≠bt->b≠bb->s1 b=b9 b:=fun b h1 h2=>by rw[c5,iY _ _ h2,iY _ _ h1]
 have m5:s1 bb=some ⟨(Aj (D.B.set r k)).flatMap cI++Ho,1,true⟩:=by rw[c5,iW]
 have j4:s1 nx=some ⟨cZ p,0,true⟩:=(c0 nx d3 d4).trans c4;have m6:s1 br=_:=(c0 br d7 d8).trans e3;have m7:∀j (E:j<rb.length),s1 rb[j]=b9 rb[j]:=fun j E=>by
  have:=n7 rb[j] (zq E);exact c0 _ this.1 this.2.2.1
 have pz:BR D r k=if 0<p then ⟨dD D.R r k D.cu,p,D.B.set r k,D.fr⟩else ⟨negR (dD D.R r k D.cu),-p,D.B.set r k,D.fr⟩:=by unfold BR;rw[ep]
 by_cases i0:0<p
 .have c1:dS p 0=1:=by unfold dS;rw[ug (by omega),ug (by omega)]
  rw[c1]at k1;have c2:(0:Int)<1:=by decide
  refine⟨s1,aO,by simp only[go_sem,t0,t1,t2,t7,e1,e2,c4,a1,a2,m1,m2,m3,d1,d2,d3,d4,d5,d6,k1,c2,<- c5,j4],?_,by omega,fun b hb h1 h2 h3=>by rw[c0 b h1 h2];exact FD b hb h3⟩;rw[pz,uf i0];have pl:(dD D.R r k D.cu).length=D.R.length:=P0;refine⟨by show s1 bt=some ⟨[.rs br 0 (dD D.R r k D.cu).length,_,_,.rs bb 0 (dD D.R r k D.cu).length,_,_],0,true⟩;rw[pl];exact l2,⟨J9,m6⟩,fun j E=>(k7 j E).congr (m7 j E),⟨Ho,m5⟩,?_,by show rb.length=(dD D.R r k D.cu).length;omega,h.nd⟩;rw[c0 bf (yS n3) (yS n6)];exact e4
 .have c1:dS p 0= -1:=by unfold dS;rw[uf (by omega)]
  rw[c1]at k1;have c2:¬(0:Int)< -1:=by decide
  have k2:=oP p;obtain⟨s2,h8⟩:∃s2,s2=upd s1 bt (some ⟨[.rs br 0 D.R.length,Bo (decide (-p<0)),LI (dg (-p).natAbs),.rs bb 0 D.R.length,I N,.rs bf 0 N],0,true⟩):=⟨_,rfl⟩;have m8:s2 bt=some ⟨[.rs br 0 D.R.length,Bo (decide (-p<0)),LI (dg (-p).natAbs),.rs bb 0 D.R.length,I N,.rs bf 0 N],0,true⟩:=by rw[h8,iW]
  have e6:∀b,b≠bt->s2 b=s1 b:=fun b h1=>by rw[h8,iY _ _ h1]
  have j5:s2 br=_:=(e6 br d7).trans m6;have pl:(dD D.R r k D.cu).length=D.R.length:=P0;have p2:∀x∈dD D.R r k D.cu,x.length=N+1:=I8 hs.row hr _;have nl:(negR (dD D.R r k D.cu)).length=D.R.length:=by rw[I5,pl]
  have j6:∀j,j<D.R.length->(vI (dD D.R r k D.cu) j).length=N+1:=fun j E=>by rw[kP (by omega)];exact p2 _ (zq (by omega))
  have p3:∀j,j<D.R.length->vI (negR (dD D.R r k D.cu)) j=(vI (dD D.R r k D.cu) j).map fun z=> -z:=fun j E=>by
   rw[kP (by omega),kP (by omega)];unfold negR;rw[wL]
  have p4:∀b,b<nx->b≠bt->b≠bb->b∉rb->s2 b=σ b:=fun b h0 h1 h2 h3=>by rw[e6 b h1,c0 b h1 h2];exact FD b h0 h3
  rw[<- and_true (∃σ' nx',_)];refine⟨?_,trivial⟩;simp only[go_sem,t0,t1,t2,t7,e1,e2,c4,a1,a2,m1,m2,m3,d1,d2,d3,d4,d5,d6,k1,c2,<- c5,j4,l2,k2,m4,<- h8,m8,j5];clear k1 k2 m3 m4 c5 h8 c4 e1 e2 e3 j4 j8 c3 h5 t0 t1 t2 t7 j9 k0 a5 a6 a7;generalize hL:aA _ _=y;obtain⟨x,rfl,T2,σ2,rfl,B_,Jg⟩:=rP hL D.R.length (fun i st=>st.T 107= .rs br 0 D.R.length/\st.T 108=I D.R.length/\st.T 109=I i/\st.nx=aO/\(∀j (E:j<rb.length),Ak st.σ rb[j] (BU (dD D.R r k D.cu) (negR (dD D.R r k D.cu)) i j))/\∀b,b∉rb->st.σ b=s2 b)
   (fun x=>∃T σ',x=(.exit 4,⟨T,σ',aO⟩)/\(∀j (E:j<rb.length),Ak σ' rb[j] (vI (negR (dD D.R r k D.cu)) j))/\∀b,b∉rb->σ' b=s2 b) (by
    clear hL;rintro i ⟨T,σ',nx'⟩ hi ⟨t0,t1,t2,Y,rows,frame⟩;simp only at t0 t1 t2 Y;subst Y;have f1:(i:Int)<(D.R.length:Int):=by omega
    have f2:=nP i;have f3:=iF (n:=(i:Int)+1);have b2:i<rb.length:=by omega
    obtain⟨S,Jf⟩:∃S,S=rb[i]:=⟨_,rfl⟩;have ni:=n7 S (by rw[Jf];exact zq b2);have f5:=lM (ex:=J9) (n:=N+1) b2;rw[<- Jf]at f5;have h6:σ' br=_:=(frame br fun e=>(n7 br e).2.1 rfl).trans j5;obtain⟨G,Oh,CX,Oi⟩:=rows i b2;have h7:σ' S=some ⟨G.flatMap zc,2,true⟩:=by rw[Jf];exact Oh
    have e0:BU (dD D.R r k D.cu) (negR (dD D.R r k D.cu)) i i=vI (dD D.R r k D.cu) i:=by unfold BU;rw[ug (by omega)]
    rw[e0]at CX;have GU:G.length=N+1:=by have:=congrArg List.length CX;rw[zB,j6 i hi]at this;exact this
    have iz:∀c (hc:c<G.length),(G[c]).2=true->(G[c]).1=0:=fun c hc=>Oi _ (zq hc)
    obtain⟨W,eW⟩:∃W,W=(vI (dD D.R r k D.cu) i).map fun z=> -z:=⟨_,rfl⟩
    have p0:W.length=N+1:=by rw[eW,zB,j6 i hi]
    have Zg:W.length=G.length:=by omega
    have i7:∀c (hc:c<N+1),W[c]'(by omega)= -(G[c]'(by omega)).1:=fun c hc=>by
     subst eW;obtain⟨_,e⟩:=LU CX (c:=c) (by rw[j6 i hi];exact hc);rw[wL,e]
    refine ji ?_
    conv=>
     enter [1,r,1,1]
     simp only[go_sem,t0,t1,t2,h6,f1,f2,f5]
    generalize hL:aA _ _=z
    obtain⟨x,rfl,T1,σ2,rfl,t0,t1,t2,Ce,BG⟩:=rP hL (N+1) (fun c st=>st.T 107= .rs br 0 D.R.length/\st.T 108=I D.R.length/\st.T 109=I i/\st.T 14= .rs S 0 (N+1)/\st.T 114=I ((N+1:Nat):Int)/\st.T 115=I c/\st.nx=nx' /\
      (∀b,b≠S->st.σ b=σ' b)/\st.σ S=some ⟨(newR W G c).flatMap zc,2,true⟩)
     (fun x=>∃T Vz,x=(.exit 6,⟨T,Vz,nx'⟩)/\T 107= .rs br 0 D.R.length/\T 108=I D.R.length/\T 109=I i/\(∀b,b≠S->Vz b=σ' b)/\Ak Vz S W) (by
      clear hL;rintro c ⟨T,σ2,m0⟩ hc ⟨t0,t1,t2,t14,Zh,e7,b3,Ce,BG⟩;simp only at t0 t1 t2 t14 Zh e7 b3 BG;subst b3;have g1:(c:Int)<((N+1:Nat):Int):=by omega
      have g2:=nP c;have g3:=iF (n:=(c:Int)+1);have g4:=kG (c:=zc) (s:=2) iC (newR W G c) c (by rw[nO Zg (by omega)];omega);rw[RF Zg (by omega)]at g4;have g5:=kD (c:=zc) (s:=2) iC (newR W G c);rw[nO Zg (by omega),GU]at g5;have g6:c*2+2<=(N+1)*2:=by omega
      have z1:∀σ d,stripL (strip σ d) (zc G[c])=some (cZ (G[c]).1,[]):=fun σ d=>h_ σ d (iz c (by omega))
      have k1:=oP (G[c]).1;have c6:patch ((newR W G c).flatMap zc) (c*2) (cZ (-(G[c]).1))=(newR W G (c+1)).flatMap zc:=by
       rw[<- Xi,mO iC _ _ (by rw[nO Zg (by omega)];omega),<- i7 c hc,Je Zg (by omega)]
      refine .inl ⟨_,by simp only[go_sem,t0,t1,t2,t14,Zh,e7,BG,g1,g2,g3,g4,g5,g6,z1,k1,c6];rfl,?_⟩;simp only[go_sem,t0,t1,t2,t14,Zh];refine⟨rfl,fun b O=>?_⟩;rw[iY _ _ O];exact Ce b O) (by
      clear hL;rintro ⟨T,σ2,m0⟩ ⟨t0,t1,t2,t14,Zh,e7,b3,Ce,BG⟩;simp only at t0 t1 t2 t14 Zh e7 b3 BG;subst b3;refine⟨_,by simp only[go_sem,Zh,e7,zX];rfl,by simp,_,_,rfl,?_⟩;simp only[go_sem,t0,t1,t2];exact⟨Ce,RG Zg (by rw[GU];exact BG)⟩) (by
      simp only[go_sem,t0,t1,t2];refine⟨fun _ _=>trivial,?_⟩;rw[FC];exact h7)
    refine⟨_,by simp only[go_sem,t2,f3];rfl,.inl ⟨_,rfl,?_⟩⟩;simp only[go_sem,t0,t1];refine⟨rfl,fun j E=>?_,fun b hn=>?_⟩
    .by_cases b5:j=i
     .subst b5
      rw[<- Jf];unfold BU;rw[uf (by omega),p3 j (by omega),<- eW];exact BG
     .have O:rb[j]≠S:=fun e=>b5 (by rw[Jf]at e;exact(List.getElem_inj n8).mp e)
      have e2:BU (dD D.R r k D.cu) (negR (dD D.R r k D.cu)) (i+1) j=BU (dD D.R r k D.cu) (negR (dD D.R r k D.cu)) i j:=by
       unfold BU
       by_cases hq:j<i
       .rw[uf hq,uf (by omega)]
       .rw[ug hq,ug (by omega)]
      rw[e2];exact(rows j E).congr (Ce _ O)
    .exact(Ce b fun e=>hn (by rw[e,Jf];exact zq b2)).trans (frame b hn)) (by
    clear hL;rintro ⟨T,σ',nx'⟩ ⟨t0,t1,t2,Y,rows,frame⟩;simp only at t0 t1 t2 Y;subst Y;refine⟨_,by simp only[go_sem,t1,t2,zX];rfl,by simp,_,_,rfl,fun j E=>?_,frame⟩;have:=rows j E;unfold BU at this;rw[uf (by omega)]at this;exact this) (by
    simp only[go_sem];refine⟨fun j E=>?_,fun _ _=>trivial⟩;unfold BU;rw[ug (by omega)];exact(k7 j E).congr ((e6 _ (n7 _ (zq E)).1).trans (m7 j E)))
  refine⟨σ2,aO,by simp only[go_sem],?_,by omega,fun b hb h1 h2 h3=>by rw[Jg b h3];exact p4 b hb h1 h2 h3⟩;rw[pz,ug i0];have o1:bt∉rb:=fun e=>(n7 bt e).1 rfl
  have o2:br∉rb:=fun e=>(n7 br e).2.1 rfl
  have o3:bb∉rb:=fun e=>(n7 bb e).2.2.1 rfl
  have o4:bf∉rb:=fun e=>(n7 bf e).2.2.2 rfl
  refine⟨by show σ2 bt=some ⟨[.rs br 0 (negR (dD D.R r k D.cu)).length,_,_,.rs bb 0 (negR (dD D.R r k D.cu)).length,_,_],0,true⟩;rw[nl,Jg bt o1];exact m8,⟨J9,by rw[Jg br o2];exact j5⟩,B_,⟨Ho,by rw[Jg bb o3,e6 bb d5];exact m5⟩,?_,by show rb.length=(negR (dD D.R r k D.cu)).length;omega,h.nd⟩;rw[Jg bf o4,e6 bf (yS n3),c0 bf (yS n3) (yS n6)];exact e4
theorem jg{f:V->Option (V×List Nat)}:∀ {a b E b':List V} {i j:List Nat},stripL f a=some (E,i)->stripL f b=some (b',j)->stripL f (a++b)=some (E++b',i++j)
 |[],b,E,b',i,j,h,h'=>by
  rw[jX]at h;simp only[uj,uh]at h;obtain⟨rfl,rfl⟩:=h;exact h'
 |v :: a,b,E,b',i,j,h,h'=>by
  rw[jd]at h;cases G:f v with
  |none=>rw[G]at h;cases h
  |some p=>
   cases ha:stripL f a with
   |none=>rw[G,ha]at h;cases h
   |some q=>
    rw[G,ha]at h;simp only[zl,zT,uj,uh]at h;obtain⟨rfl,rfl⟩:=h;rw[xY,jd,G,jg ha h'];simp
theorem RH(σ:Store)(d:Nat):∀L:List (Int×Bool),(∀p∈L,p.2=true->p.1=0)->stripL (strip σ d) (L.flatMap zc)=some ((L.map (·.1)).flatMap cZ,[])
 |[],_=>rfl
 |p :: L,h=>by
  rw[zJ,xJ,zJ];have:=jg (h_ σ d (h p zH)) (RH σ d L fun q E=>h q (zU _ E));exact this
theorem Zi{σ:Store}{b n:Nat}{G:List Int}(h:Ak σ b G)(J:G.length=n)(d:Nat):strip σ (d+1) (.rs b 0 n)=some (LL cZ G,[b]):=by
 obtain⟨L,Y,O,h3⟩:=h;have S:L.length=n:=by rw[<- J,<- O,zB]
 have E:=kD (c:=zc) (s:=2) iC L;rw[jR,Y];simp only[zl,yu,yX];rw[uf (by rw[E,S];exact zu _),zk (by rw[E,S];exact zu _),RH σ d L h3,O];show some (V.ts _ n,[b])=_;rw[<- J]
theorem Jh{σ:Store}{n d:Nat}:∀ {rb:List Nat} {R:List (List Int)},rb.length=R.length->(∀i (h:i<rb.length),Ak σ rb[i] (vI R i))->(∀x∈R,x.length=n)->∃ids,stripL (strip σ (d+1)) (rb.map fun b=>V.rs b 0 n)=some (R.flatMap Vo,ids)
 |[],[],_,_,_=>⟨[],rfl⟩
 |[],_ :: _,h,_,_=>by simp at h
 |_ :: _,[],h,_,_=>by simp at h
 |b :: rb,x :: R,h,hr,hn=>by
  obtain⟨ids,hi⟩:=Jh (rb:=rb) (R:=R) (d:=d) (by simpa using h) (fun i hi=>by
   have:=hr (i+1) (by simpa using hi);exact this) fun y E=>hn y (zU _ E)
  have G:Ak σ b x:=hr 0 (by simp);refine⟨[b]++ids,?_⟩;rw[xJ,jd,Zi G (hn x zH) d];simp only[zl];rw[hi];rfl
theorem acF(σ:Store)(d:Nat)(E:List Bool):stripL (strip σ d) (E.flatMap Dl)=some (E.flatMap Dl,[]) :=
 jW (fun b=>by rw[jd,jQ,jX];rfl) E
def Xk:=kD (c:=Dl) (s:=1) (fun _=>rfl)
theorem LV{σ:Store}{bt br bb bf:Nat}{rb:List Nat}{D:TZ}{N:Nat}(h:gV σ bt br bb bf rb D N)(hs:Ro D N):∃ids,strip σ 7 (.rp bt 0)=some (acy D N,ids):=by
 obtain⟨J9,G⟩:=h.r;obtain⟨Ho,J⟩:=h.b;obtain⟨ids,E⟩:=Jh (d:=4) h.len h.row hs.row;have O:(Aj D.B).length=D.R.length:=by rw[jE];exact hs.gq
 have Y:strip σ 6 (.rs br 0 D.R.length)=some (LL Vo D.R,br :: ids):=by
  rw[jR,G];simp only[zl,yj,yu,yX];rw[uf (by rw[zo,zB,h.len];omega),xZ (by rw[zB,h.len]),E];rfl
 have s2:strip σ 6 (.rs bb 0 D.R.length)=some (LI (Aj D.B),[bb]):=by
  rw[jR,J];simp only[zl,yj,yu,yX];rw[uf (by rw[zo,sS,O];omega),xZ (by rw[sS,O]),gJ,<- O];rfl
 have S:(D.fr.flatMap Dl).length=N:=by rw[Xk,yj,hs.Rq]
 have s3:strip σ 6 (.rs bf 0 N)=some (LL Dl D.fr,[bf]):=by
  rw[jR,h.f];simp only[zl,yj,yu,yX];rw[uf (by rw[S];exact zu _),zk (by rw[S];exact zu _),acF];show some (V.ts _ N,[bf])=_;rw[<- hs.Rq]
 have key:stripL (strip σ 6) [.rs br 0 D.R.length,Bo (decide (D.cu<0)),LI (dg D.cu.natAbs),.rs bb 0 D.R.length,I N,.rs bf 0 N]=some (Rn D N,(br :: ids)++([]++([]++([bb]++([]++([bf]++[])))))):=by
  simp only[jd,Y,s2,s3,jQ,jM,jX,zT,zl];rfl
 exact⟨_,by rw[Qr,h.t,zl,key];rfl⟩
theorem Gs{σ:Store}{bt br bb bf:Nat}{rb:List Nat}{D:TZ}{N:Nat}(h:gV σ bt br bb bf rb D N)(hs:Ro D N)(d:Nat):strip σ (d+1) (.rs bb 0 D.R.length)=some (LI (Aj D.B),[bb]):=by
 obtain⟨J,E⟩:=h.b;have G:(Aj D.B).length=D.R.length:=by rw[jE];exact hs.gq
 rw[jR,E];simp only[zl,yj,yu,yX];rw[uf (by rw[zo,sS,G];omega),xZ (by rw[sS,G]),gJ,<- G];rfl
theorem an5(xs:List Int)(m:Int)(h:xs.length<=1000000):fn gu conv ext 136 [LI xs,I m]=some (I (ix (fun x=>m==x) xs)):=by
 rw[qB,qO [.tmp 4] [] func136];simp only[go_sem];generalize Y:aA _ _=y;obtain⟨r,rfl,hr⟩:=rP Y xs.length (fun k st=>st.T 0=LI xs/\st.T 1=I m/\st.T 7=I xs.length/\st.T 8=I k/\∀i (h:i<xs.length),i<k->(m==xs[i])=false)
  (fun r=>(∃T σ nx,r=(.exit 0,⟨T,σ,nx⟩)/\ix (fun x=>m==x) xs= -1)\/(∃T σ nx,r=(.ret,⟨T,σ,nx⟩)/\T 4=I (ix (fun x=>m==x) xs))) (by
   clear Y;rintro k ⟨T,σ,nx⟩ E ⟨O,S,G,J,hi⟩;simp only at O S G J;have f1:(k:Int)<(xs.length:Int):=by omega
   have f2:=nP k;have f3:=iF (n:=(k:Int)+1);have f5:=iI xs k E;have f6:=idx E;cases hp:(m==xs[k])with
   |true=>
    refine .inr ⟨_,by simp only[go_sem,O,S,G,J,f1,f2,f5,f6,hp];rfl,by simp,.inr ⟨_,_,_,rfl,?_⟩⟩;simp only[go_sem];rw[DW E hi hp]
   |false=>
    refine .inl ⟨_,by simp only[go_sem,O,S,G,J,f1,f2,f3,f5,f6,hp];rfl,?_⟩;simp only[go_sem,O,S,G];exact⟨rfl,oJ E hi hp⟩) (by
   clear Y;rintro ⟨T,σ,nx⟩ ⟨O,S,G,J,hi⟩;simp only at G J;exact⟨_,by simp only[go_sem,G,J,zX];rfl,by simp,.inl ⟨_,_,_,rfl,oK fun i h=>hi i h h⟩⟩) (by
   simp only[go_sem];exact fun i _ h=>absurd h (zK _))
 rcases hr with ⟨T,σ,nx,rfl,hx⟩|⟨T,σ,nx,rfl,hx⟩
 .simp only[go_sem,hx]
 .simp only[go_sem,hx]
theorem aiC(xs:List Int)(m:Int)(h:xs.length<=1000000):fn gu conv ext 102 [LI xs,I m]=some (Bo (decide (m∈xs))):=by
 have E:=an5 xs m h;have e:decide (0<=ix (fun x=>m==x) xs)=decide (m∈xs):=by
  rw[decide_eq_decide];constructor
  .intro J
   refine zh fun hn=>?_
   have:=(Gh (fun x=>m==x) xs).mpr fun x G=>by
    rw[uZ];intro e;subst e;exact hn G
   omega
  .intro hm
   refine Int.not_lt.mp fun hn=>?_
   have:=(Gh (fun x=>m==x) xs).mp hn m hm;simp at this
 rw[qB,qO [.tmp 4] [] func102]
 by_cases hc:0<=ix (fun x=>m==x) xs
 .rw[uY hc]at e
  simp only[go_sem,E,hc,<- e]
 .rw[uX hc]at e
  simp only[go_sem,E,hc,<- e]
theorem Hq{B:List Nat}{k:Nat}:(k:Int)∈Aj B↔k∈B:=by
 unfold Aj;rw[List.mem_map];constructor
 .rintro ⟨j,E,e⟩
  have:j=k:=by omega
  subst this;exact E
 .intro h;exact⟨k,h,rfl⟩
def Aq(D:TZ)(o:Nat->Int)(j:Nat):Bool:=D.fr.getD j false && !(!decide (j∈D.B) && decide (dB D o j<0))
def J_(D:TZ)(o:Nat->Int)(k:Nat):List Bool:=(List.range D.fr.length).map fun j=>if j<k then Aq D o j else D.fr.getD j false
theorem pY(D:TZ)(o:Nat->Int)(k:Nat):(J_ D o k).length=D.fr.length:=by simp[J_]
theorem pq(D:TZ)(o:Nat->Int){k j:Nat}(h:j<D.fr.length):(J_ D o k)[j]'(by rw[pY];exact h)=if j<k then Aq D o j else D.fr.getD j false:=by
 simp[J_]
theorem acG(D:TZ)(o:Nat->Int):J_ D o 0=D.fr:=by
 apply yP
 .rw[pY]
 .intro i G E
  rw[pq D o E,ug (by omega),zx,zy E];rfl
theorem Xl(D:TZ)(o:Nat->Int){k:Nat}(h:k<D.fr.length):(J_ D o k).set k (Aq D o k)=J_ D o (k+1):=by
 apply yP
 .rw[yO,pY,pY]
 .intro i J E
  rw[pY]at E;rw[wX,pq D o E,pq D o E]
  by_cases e:k=i
  .subst e;rw[uf rfl,uf (by omega)]
  .rw[ug e]
   by_cases G:i<k
   .rw[uf G,uf (by omega)]
   .rw[ug G,ug (by omega)]
theorem acH(D:TZ)(o:Nat->Int){k:Nat}(h:k<D.fr.length)(hb:Aq D o k=D.fr.getD k false):J_ D o k=J_ D o (k+1):=by
 rw[<- Xl D o h,hb];apply yP
 .rw[yO]
 .intro i E G
  rw[wX]
  split
  .rename_i e;subst e;rw[pq D o h,ug (by omega)]
  .rfl
theorem alC(D:TZ)(o:Nat->Int){N:Nat}(h:D.fr.length=N):frZ N o D (J_ D o N):=by
 refine⟨pY D o N,fun j E=>?_⟩;have e:(J_ D o N).getD j false=Aq D o j:=by
  rw[zx,zy (by rw[pY];omega),yJ,pq D o (by omega),uf E]
 rw[e];unfold Aq;cases D.fr.getD j false with
 |false=>simp
 |true=>
  by_cases hb:j∈D.B<;>by_cases G:dB D o j<0<;>simp[hb,G]
theorem Oj(xs:List Bool)(k:Nat)(b:Bool):(xs.flatMap Dl).set k (Bo b)=(xs.set k b).flatMap Dl:=by
 induction xs generalizing k with
 |nil=>rfl
 |cons x xs E=>
  cases k with
  |zero=>rfl
  |succ k=>
   show Bo x :: (xs.flatMap Dl).set k (Bo b)=Bo x :: (xs.set k b).flatMap Dl;rw[E]
theorem Ro.free{D:TZ}{N:Nat}(h:Ro D N){fr:List Bool}(E:fr.length=N):Ro { D with fr:=fr } N:=⟨h.row,h.gq,h.Ja,E,h.sz,h.big,h.cu,h.inB⟩
theorem gV.free{σ σ':Store}{bt br bb bf:Nat}{rb:List Nat}{D:TZ}{N:Nat}(h:gV σ bt br bb bf rb D N){fr:List Bool}(O:σ' bf=some ⟨fr.flatMap Dl,1,true⟩)(E:∀b,b≠bf->σ' b=σ b):gV σ' bt br bb bf rb { D with fr:=fr } N:=by
 obtain⟨n1,n2,S,n4,Y,n6,n7,n8⟩:=nd4 h.nd;obtain⟨J9,G⟩:=h.r;obtain⟨Ho,J⟩:=h.b;exact⟨(E bt S).trans h.t,⟨J9,(E br Y).trans G⟩,fun i hi=>(h.row i hi).congr (E _ (n7 _ (zq hi)).2.2.2),⟨Ho,(E bb n6).trans J⟩,O,h.len,h.nd⟩
theorem oQ{σ:Store}{b:Nat}{xs:List Int}(h:σ b=some ⟨xs.flatMap cI,1,true⟩){n:Nat}(hn:xs.length=n)(d:Nat):strip σ (d+1) (.rs b 0 n)=some (LI xs,[b]):=by
 rw[jR,h];simp only[zl,yj,yu,yX,sS];rw[uf (by omega),zk (by rw[sS];omega),gJ];show some (V.ts _ n,[b])=_;rw[<- hn]
def Obj(o:List Int)(N:Nat):Prop:=o.length=N/\∀x∈o,-1000000<=x/\x<=1000000
abbrev oF(o:List Int)(j:Nat):Int:=o.getD j 0
theorem alD(Qp:TZ->Prop){N:Nat}{o:List Int}(hI:∀D,Qp D->Ro D N/\0<D.cu)(c4:∀D D',Qp D->AV N (oF o) D D'->Qp D')(ho:Obj o N)
  {σ:Store} {nx bt br bb bf bo:Nat} {rb:List Nat} {D:TZ} {n:Nat} (e9:Qp D) (hn:Ec N (oF o) n D) (h:gV σ bt br bb bf rb D N) (h0:∀b∈bt :: br :: bb :: bf :: rb,b<nx) (e2:σ bo=some ⟨o.flatMap cI,1,true⟩) (e3:bo<nx) (h4:bo∉bt :: br :: bb :: bf :: rb) :
  ∃σ' nx' e4 D',ev gu aY bY 144 [.rp bt 0,.rs bo 0 N] σ nx=some (Bo e4,σ',nx')/\N_ N (oF o) D e4 D'/\gV σ' bt br bb bf rb D' N/\nx<=nx'/\∀b,b<nx->b∉bt :: bb :: bf :: rb->σ' b=σ b:=by
 have c3:=ho.1;have c5:bo∉bt :: bb :: bf :: rb:=fun e=>h4 (by
  simp only[zQ]at e⊢;rcases e with e|e|e|e<;>simp[e])
 rw[qO [.tmp 4] [] func144];simp only[go_sem];generalize hL:aA _ _=y
 obtain⟨x,rfl,hx⟩:=nY hL (fun m st=>st.T 0= .rp bt 0/\st.T 1= .rs bo 0 N/\nx<=st.nx/\(∀b,b<nx->b∉bt :: bb :: bf :: rb->st.σ b=σ b)/\∃D1,AX N (oF o) D D1/\Qp D1/\gV st.σ bt br bb bf rb D1 N /\
   ((st.T 5=Bo true/\∃m',m=m'+1/\Ec N (oF o) m' D1)\/(st.T 5=Bo false/\∀j,j<N->D1.fr.getD j false=true->j∉D1.B->¬0<dB D1 (oF o) j)))
  (fun x=>∃T σ' nx',nx<=nx'/\(∀b,b<nx->b∉bt :: bb :: bf :: rb->σ' b=σ b)/\∃D1,AX N (oF o) D D1/\Qp D1/\gV σ' bt br bb bf rb D1 N /\
   ((x=(.ret,⟨T,σ',nx'⟩)/\T 4=Bo false/\∃s,Eb N D1 (oF o) s/\∀i,i<D1.R.length->¬0<en D1.R i s)\/(x=(.exit 0,⟨T,σ',nx'⟩)/\T 0= .rp bt 0/\T 1= .rs bo 0 N/\∀j,j<N->D1.fr.getD j false=true->j∉D1.B->¬0<dB D1 (oF o) j))) (by
   clear hL;rintro m ⟨T,O,aO⟩ ⟨t0,t1,S,fr,D1,hr,a8,hT,h5⟩;simp only at t0 t1 S hT h5;obtain⟨hS,e5⟩:=hI D1 a8;have a7:=hT.t;rcases h5 with ⟨t5,m',rfl,e6⟩|⟨t5,b7⟩
   .have hlen:=hT.len
    obtain⟨n1,n2,n3,n4,n5,n6,n7,n8⟩:=nd4 hT.nd;have h6:=hS.sz;have c8:O bo=_:=(fr bo e3 c5).trans e2;obtain⟨ids,b4⟩:=LV hT hS;have a6:=Gs hT hS 6;have b5:=oQ c8 c3 6;have Tc:=hT.f;refine ji ?_
    conv=>
     enter [1,r,1,1]
     simp only[go_sem,t0,t1,t5,a7]
    generalize hL:aA _ _=z;obtain⟨x,rfl,T1,σ2,BH,E,hx⟩:=rP hL N (fun k st=>st.T 0= .rp bt 0/\st.T 1= .rs bo 0 N/\st.T 5=Bo false/\st.T 13=I N/\st.T 14=I k/\st.σ=O/\st.nx=aO/\∀j,j<k->D1.fr.getD j false=true->j∉D1.B->¬0<dB D1 (oF o) j)
     (fun x=>∃T σ2 BH,aO<=BH/\((x=(.exit 2,⟨T,σ2,BH⟩)/\T 0= .rp bt 0/\T 1= .rs bo 0 N/\T 5=Bo false/\σ2=O/\∀j,j<N->D1.fr.getD j false=true->j∉D1.B->¬0<dB D1 (oF o) j) \/
      (x=(.exit 2,⟨T,σ2,BH⟩)/\T 0= .rp bt 0/\T 1= .rs bo 0 N/\T 5=Bo true/\∃D2,AV N (oF o) D1 D2/\gV σ2 bt br bb bf rb D2 N/\∀b,b<aO->b∉bt :: bb :: bf :: rb->σ2 b=O b) \/
      (x=(.ret,⟨T,σ2,BH⟩)/\T 4=Bo false/\σ2=O/\∃s,Eb N D1 (oF o) s/\∀i,i<D1.R.length->¬0<en D1.R i s))) (by
      clear hL;rintro k ⟨T,σ2,BH⟩ hk ⟨t0,t1,t5,t13,t14,b8,E,a1⟩;simp only at t0 t1 t5 t13 t14 b8 E;subst b8 E;have f1:(k:Int)<(N:Int):=by omega
      have f2:=nP k;have f3:=iF (n:=(k:Int)+1);have b6:k<D1.fr.length:=by rw[hS.Rq];exact hk
      have f4:=kF Bo D1.fr k b6;have b2:(D1.fr.flatMap Dl)[k]?=some (Bo (D1.fr.getD k false)):=by
       rw[zx,zy b6];exact f4
      have k1:=aiC (Aj D1.B) k (by rw[jE,hS.gq];have:=hS.Ja;omega);have k2:=ag1 D1 N hS o c3 ho.2 k hk;have step:∀(b9:¬(D1.fr.getD k false=true/\k∉D1.B/\0<dB D1 (oF o) k)),∀j,j<k+1->D1.fr.getD j false=true->j∉D1.B->¬0<dB D1 (oF o) j:=fun b9 j hj h1 h2 h3=>by
       by_cases e:j=k
       .subst e;exact b9 ⟨h1,h2,h3⟩
       .exact a1 j (by omega) h1 h2 h3
      cases G:D1.fr.getD k false with
      |false=>
       rw[G]at b2;refine .inl ⟨_,by simp only[go_sem,t0,t1,t5,t13,t14,a7,Tc,f1,f2,f3,b2];rfl,?_⟩;simp only[go_sem,t0,t1,t5,t13];exact⟨rfl,step fun h=>by rw[G]at h;cases h.1⟩
      |true=>
       rw[G]at b2
       by_cases hm:k∈D1.B
       .rw[uY (Hq.mpr hm)]at k1
        refine .inl ⟨_,by simp only[go_sem,t0,t1,t5,t13,t14,a7,Tc,f1,f2,f3,b2,a6,k1];rfl,?_⟩;simp only[go_sem,t0,t1,t5,t13];exact⟨rfl,step fun h=>h.2.1 hm⟩
       .rw[uX (mt Hq.mp hm)]at k1
        by_cases hg:0<dB D1 (oF o) k
        .have c1:¬dS (dB D1 (oF o) k) 0<=0:=fun e=>(Ee _).mp e hg
         have b3:Eb N D1 (oF o) k:=⟨hk,G,hm,hg,fun j hj=>a1 j hj⟩;obtain⟨r,k3,hb⟩:=acz D1 N hS k hk;rcases hb with ⟨rfl,hb⟩|⟨r',rfl,e7,h7,h8,h9⟩
         .have c2:(-1:Int)<0:=by decide
          refine .inr ⟨_,by simp only[go_sem,t0,t1,t5,t13,t14,a7,Tc,f1,f2,f3,b2,a6,k1,b4,b5,k2,c1,k3,c2];rfl,by simp,_,_,_,zu _,.inr (.inr ⟨rfl,?_⟩)⟩;simp only[go_sem];exact⟨k,b3,hb⟩
         .have c2:¬(r':Int)<0:=by omega
          obtain⟨i3,GV,k4,VA,i0,i1⟩:=acD hT hS (fun b hb=>xq (h0 b hb) S) e7 hk (by omega) (by omega);refine .inr ⟨_,by simp only[go_sem,sG,t0,t1,t5,t13,t14,a7,Tc,f1,f2,f3,b2,a6,k1,b4,b5,k2,c1,k3,c2,k4];rfl,by simp,_,_,_,i0,.inr (.inl ⟨rfl,?_⟩)⟩;simp only[go_sem,t0,t1];refine⟨_,⟨k,r',b3,⟨e7,h7,fun i hi hp=>h8 i hi hp,fun i hi hp he=>h9 i hi hp he⟩,rfl⟩,VA,fun b hb Y=>?_⟩;simp only[zQ,not_or]at Y;exact i1 b hb Y.1 Y.2.1 Y.2.2.2
        .have c1:dS (dB D1 (oF o) k) 0<=0:=(Ee _).mpr hg
         refine .inl ⟨_,by simp only[go_sem,t0,t1,t5,t13,t14,a7,Tc,f1,f2,f3,b2,a6,k1,b4,b5,k2,c1];rfl,?_⟩;simp only[go_sem,t0,t1,t5,t13];exact⟨rfl,step fun h=>hg h.2.2⟩) (by
      clear hL;rintro ⟨T,σ2,BH⟩ ⟨t0,t1,t5,t13,t14,b8,E,a1⟩;simp only at t0 t1 t5 t13 t14 b8 E;subst b8 E;refine⟨_,by simp only[go_sem,t13,t14,zX];rfl,by simp,_,_,_,zu _,.inl ⟨rfl,?_⟩⟩;simp only[go_sem,t0,t1,t5];exact a1) (by
      simp only[go_sem,t0,t1];exact fun j hj=>absurd hj (zK j))
    rcases hx with ⟨rfl,t0,t1,t5,rfl,a1⟩|⟨rfl,t0,t1,t5,D2,c9,c0,e0⟩|⟨rfl,t4,rfl,IY⟩
    .refine⟨_,by simp only[go_sem],.inl ⟨⟨T1,_,BH⟩,rfl,m',by omega,t0,t1,zL S E,fr,D1,hr,a8,hT,.inr ⟨t5,a1⟩⟩⟩
    .cases m' with
     |zero=>exact absurd e6 id
     |succ e8=>
      refine⟨_,by simp only[go_sem],.inl ⟨⟨T1,_,BH⟩,rfl,e8+1,by omega,t0,t1,zL S E,fun b hb Y=>?_,D2,hr.tail c9,c4 _ _ a8 c9,c0,.inl ⟨t5,e8,rfl,e6 D2 c9⟩⟩⟩;exact(e0 b (xq hb S) Y).trans (fr b hb Y)
    .refine⟨_,by simp only[go_sem],.inr ⟨by simp,_,_,BH,zL S E,fr,D1,hr,a8,hT,.inl ⟨rfl,t4,IY⟩⟩⟩
   .refine .inr ⟨_,by simp only[go_sem,t5];rfl,by simp,_,O,aO,S,fr,D1,hr,a8,hT,.inr ⟨rfl,?_⟩⟩
    simp only[go_sem,t0,t1];exact b7) (n+1) (by
   simp only[go_sem];exact⟨fun _ _ _=>trivial,D,AX.refl D,e9,h,.inl ⟨n,rfl,hn⟩⟩)
 obtain⟨T1,O,aO,S,fr,D1,hr,a8,hT,hx⟩:=hx;obtain⟨hS,e5⟩:=hI D1 a8;rcases hx with ⟨rfl,t4,s,b3,IY⟩|⟨rfl,t0,t1,b7⟩
 .exact⟨O,aO,false,D1,by simp only[go_sem,t4],⟨D1,hr,.inr ⟨rfl,rfl,s,b3,IY⟩⟩,hT,S,fr⟩
 .have a7:=hT.t
  have hlen:=hT.len;obtain⟨n1,n2,n3,n4,n5,n6,n7,n8⟩:=nd4 hT.nd;have h6:=hS.sz;simp only[go_sem,t0,a7];generalize hL:aA _ _=z;obtain⟨x,rfl,T2,σ2,rfl,e0,J⟩:=rP hL N (fun k st=>st.T 0= .rp bt 0/\st.T 1= .rs bo 0 N/\st.T 53=I N/\st.T 54=I k/\st.nx=aO/\st.σ bf=some ⟨(J_ D1 (oF o) k).flatMap Dl,1,true⟩/\∀b,b≠bf->st.σ b=O b)
   (fun x=>∃T σ2,x=(.exit 4,⟨T,σ2,aO⟩)/\σ2 bf=some ⟨(J_ D1 (oF o) N).flatMap Dl,1,true⟩/\∀b,b≠bf->σ2 b=O b) (by
    clear hL;rintro k ⟨T,σ2,BH⟩ hk ⟨t0,t1,t53,t54,E,Tc,J⟩;simp only at t0 t1 t53 t54 E Tc;subst E;have hl:(J_ D1 (oF o) k).length=N:=by rw[pY];exact hS.Rq
    have c0:=hT.free Tc J;have e1:=hS.free hl;have Ji:=c0.t;obtain⟨ids,b4⟩:=LV c0 e1;have a6:=Gs c0 e1 6;have c8:σ2 bo=_:=(J bo fun e=>c5 (by simp[e])).trans ((fr bo e3 c5).trans e2);have b5:=oQ c8 c3 6;have f1:(k:Int)<(N:Int):=by omega
    have f2:=nP k;have f3:=iF (n:=(k:Int)+1);have b6:k<D1.fr.length:=by rw[hS.Rq];exact hk
    have f4:((J_ D1 (oF o) k).flatMap Dl)[k]?=some (Bo (D1.fr.getD k false)):=by
     rw[kF Bo (J_ D1 (oF o) k) k (by omega),pq _ _ b6,ug (by omega)]
    have f5:k<((J_ D1 (oF o) k).flatMap Dl).length:=by rw[Xk,hl];omega
    have k1:=aiC (Aj D1.B) k (by rw[jE,hS.gq];have:=hS.Ja;omega);have k2:=ag1 _ N e1 o c3 ho.2 k hk;have eg:dB { D1 with fr:=J_ D1 (oF o) k } (fun j=>o.getD j 0) k=dB D1 (oF o) k:=rfl;rw[eg]at k2;simp only at Ji a6;have keep:Aq D1 (oF o) k=D1.fr.getD k false->σ2 bf=some ⟨(J_ D1 (oF o) (k+1)).flatMap Dl,1,true⟩:=fun h=>by rw[<- acH _ _ b6 h];exact Tc
    cases G:D1.fr.getD k false with
    |false=>
     rw[G]at f4;refine .inl ⟨_,by simp only[go_sem,t0,t1,t53,t54,Ji,Tc,f1,f2,f3,f4];rfl,?_⟩;simp only[go_sem,t0,t1,t53];exact⟨rfl,keep (by unfold Aq;rw[G];rfl),J⟩
    |true=>
     rw[G]at f4
     by_cases hm:k∈D1.B
     .rw[uY (Hq.mpr hm)]at k1
      refine .inl ⟨_,by simp only[go_sem,t0,t1,t53,t54,Ji,Tc,f1,f2,f3,f4,a6,k1];rfl,?_⟩;simp only[go_sem,t0,t1,t53];exact⟨rfl,keep (by unfold Aq;rw[G,uY hm];rfl),J⟩
     .rw[uX (mt Hq.mp hm)]at k1
      by_cases hg:dB D1 (oF o) k<0
      .have c1:dS (dB D1 (oF o) k) 0<0:=(cmp_neg _).mpr hg
       have c6:=Oj (J_ D1 (oF o) k) k false;have c7:=Xl D1 (oF o) b6;have i2:Aq D1 (oF o) k=false:=by unfold Aq;rw[G,uX hm,uY hg];rfl
       rw[i2]at c7;rw[c7]at c6;refine .inl ⟨_,by simp only[go_sem,t0,t1,t53,t54,Ji,Tc,f1,f2,f3,f4,f5,a6,k1,b4,b5,k2,c1,c6];rfl,?_⟩;simp only[go_sem,t0,t1,t53];refine⟨rfl,fun b hb=>?_⟩;rw[iY _ _ hb];exact J b hb
      .have c1:¬dS (dB D1 (oF o) k) 0<0:=fun e=>hg ((cmp_neg _).mp e)
       refine .inl ⟨_,by simp only[go_sem,t0,t1,t53,t54,Ji,Tc,f1,f2,f3,f4,a6,k1,b4,b5,k2,c1];rfl,?_⟩;simp only[go_sem,t0,t1,t53];exact⟨rfl,keep (by unfold Aq;rw[G,uX hm,uX hg];rfl),J⟩) (by
    clear hL;rintro ⟨T,σ2,BH⟩ ⟨t0,t1,t53,t54,E,Tc,J⟩;simp only at t0 t1 t53 t54 E Tc;subst E;exact⟨_,by simp only[go_sem,t53,t54,zX];rfl,by simp,_,_,rfl,Tc,J⟩) (by
    simp only[go_sem,t0,t1];refine⟨?_,fun _ _=>trivial⟩;rw[acG];exact hT.f)
  refine⟨σ2,aO,true,_,by simp only[go_sem],⟨D1,hr,.inl ⟨rfl,b7,J_ D1 (oF o) N,alC _ _ hS.Rq,rfl⟩⟩,hT.free e0 J,S,fun b hb Y=>?_⟩;rw[J b fun e=>Y (by simp[e])];exact fr b hb Y
section
variable {P:Program} {conv:FuncId->Conv} {call:TV.Call} (d:Option Tmp) (ty:TypeId) (ps:String) (af:Array Edge) (gd:Option (Nat×Bool)) (T:Nat->V) (σ:Store) (nx:Nat)
theorem VB(t:TypeId)(x:Operand)(lo hi E:Option Operand):aP conv T σ ⟨d,.slice t x lo hi E,ty,ps,af,gd⟩=aS (val T x):=rfl
theorem afP(t:TypeId)(x:Operand)(lo hi E:Option Operand):writer conv ⟨d,.slice t x lo hi E,ty,ps,af,gd⟩=false:=rfl
theorem IG(s x:Operand)(ts:Array TypeId):writer conv ⟨d,.call ⟨.builtin .append,#[s,x],ts⟩,ty,ps,af,gd⟩=true:=rfl
def Ol(P:Program)(σ:Store)(nx:Nat)(t:TypeId)(lo hi E:Option V):V->Option V
 | .rs b off len=>if b<nx then bK P t (.rs b off len) lo hi E σ else none
 |v=>if((aS v).all fun b=>decide (b<nx))=true then bK P t v lo hi E (restrict σ (aS v))else none
theorem Zj(t:TypeId)(x:Operand)(lo hi E:Option Operand):aZ P conv call ⟨d,.slice t x lo hi E,ty,ps,af,gd⟩ T σ nx=(Ol P σ nx t (lo.map (val T)) (hi.map (val T)) (E.map (val T)) (val T x)).map (·,σ,nx):=by
 rw[qZ (F:=aS (val T x)) T σ nx rfl (fun _=>rfl)];show(if((aS (val T x)).all fun b=>decide (b<nx))=true then match(bK P t (val T x) (lo.map (val T)) (hi.map (val T)) (E.map (val T)) (restrict σ (aS (val T x)))).map (·,restrict σ (aS (val T x)),nx)with|some (v,σ1,aO)=>some (v,aQ (aS (val T x)) nx aO σ σ1,aO)|none=>none else none)=_;generalize val T x=v;have gen:(if((aS v).all fun b=>decide (b<nx))=true then match(bK P t v (lo.map (val T)) (hi.map (val T)) (E.map (val T)) (restrict σ (aS v))).map (·,restrict σ (aS v),nx)with|some (w,σ1,aO)=>some (w,aQ (aS v) nx aO σ σ1,aO)|none=>none else none)=(if((aS v).all fun b=>decide (b<nx))=true then bK P t v (lo.map (val T)) (hi.map (val T)) (E.map (val T)) (restrict σ (aS v))else none).map (·,σ,nx):=by
  split
  .cases bK P t v (lo.map (val T)) (hi.map (val T)) (E.map (val T)) (restrict σ (aS v))with
   |none=>rfl
   |some w=>simp only[zT,mW]
  .rfl
 rw[gen];cases v with
 |rs b off len=>
  have key:bK P t (.rs b off len) (lo.map (val T)) (hi.map (val T)) (E.map (val T)) (restrict σ [b])=bK P t (.rs b off len) (lo.map (val T)) (hi.map (val T)) (E.map (val T)) σ:=by
   unfold bK restrict;simp
  simp only[aS,xH,xG,Bool.and_true,decide_eq_true_eq,Ol,key]
 |_=>rfl
theorem Zk(t:TypeId)(lo hi E:Option V)(b off len:Nat):Ol P σ nx t lo hi E (.rs b off len)=if b<nx then bK P t (.rs b off len) lo hi E σ else none:=rfl
def alE(F:List Nat)(σ:Store)(nx:Nat):FU->FU
 |some (v,σ1,aO)=>some (v,aQ F nx aO σ σ1,aO)
 |none=>none
theorem Zm(F:List Nat)(v:V)(E:Store)(G:Nat):alE F σ nx (some (v,E,G))=some (v,aQ F nx G σ E,G):=rfl
end
attribute [go_sem] VB afP Gg IG Zj Zk IE Zm wM
theorem ku(σ:Store)(b:Nat):restrict σ [b,b] b=σ b:=by unfold restrict;simp
theorem Ko(σ:Store)(b nx:Nat)(x:Option BZ):aQ [b,b] nx nx σ (upd (restrict σ [b,b]) b x)=upd σ b x:=by
 funext i;unfold aQ upd restrict
 by_cases h:i=b
 .simp[h]
 .rw[ug (by simp only[zQ,zG,or_false,or_self,h,false_or];omega),ug h]
theorem lC(σ:Store)(b:Nat):restrict σ [b] b=σ b:=by unfold restrict;simp
theorem u_(σ:Store)(nx size bytes b off len:Nat)(row:List V)(m:Nat):bC σ nx size bytes (.rs b off len) row m=(σ b).bind fun B=>if m=0 then some (.rs b off len,σ,nx)else
      if off+(len+m)*size<=B.cells.length then
    if B.wr=true/\B.st=size/\row.all aJ=true then some (.rs b off (len+m),upd σ b (some { B with cells:=patch B.cells (off+len*size) row }),nx)else none
      else if off+len*size=B.cells.length/\B.st=size/\len+m<=maxLen/\(len+m)*bytes<=140737488355328/\row.all aJ=true then
    some (.rs nx 0 (len+m),upd (upd σ b none) nx (some ⟨B.cells.drop off++row,size,B.wr⟩),nx+1)
      else none:=by
 cases h:σ b with
 |none=>simp only[bC,h];rfl
 |some B=>simp only[bC,h];rfl
theorem VD(σ:Store)(b nx:Nat):aQ [b] nx nx σ (restrict σ [b])=σ:=by
 funext i;unfold aQ restrict
 by_cases h:i=b
 .simp[h]
 .rw[ug (by simp only[yC,h,false_or];omega)]
theorem acI(σ:Store)(nx size bytes b off len:Nat)(row:List V){B:BZ}(h:σ b=some B):bC σ nx size bytes (.rs b off len) row 0=some (.rs b off len,σ,nx):=by
 unfold bC;simp only[h,if_true]
theorem aiG{σ:Store}{nx bytes b len m:Nat}{row cells:List V}(h:σ b=some ⟨cells,1,true⟩)(hm:m≠0)(G:len+m<=cells.length)(E:row.all aJ=true) :
  bC σ nx 1 bytes (.rs b 0 len) row m=some (.rs b 0 (len+m),upd σ b (some ⟨patch cells len row,1,true⟩),nx):=by
 unfold bC;simp only[h];rw[ug hm,uf (by omega),uf ⟨by trivial,by trivial,E⟩];simp
attribute [go_sem] ku lC u_ Ko VD
theorem mP(L ex:List V){i m:Nat}(hm:L.length=m)(hi:i<m)(J:m - (i+1)≠0):∃E,patch (L++ex) i (L.drop (i+1))=L.eraseIdx i++E:=by
 have G:(L.drop (i+1)).length=m - (i+1):=by rw[zW,hm]
 rw[mQ _ _ _ (by rw[G,zo,hm];omega)];refine⟨(L++ex).drop (i+(m - (i+1))),?_⟩;rw[G,w_ (by omega),uz]
theorem Jj(L ex:List V){i:Nat}(h:i+1=L.length):∃E,L++ex=L.eraseIdx i++E:=by
 refine⟨L.drop i++ex,?_⟩;rw[uz,yD (l:=L) (i:=i+1) (by omega),zA,<- zF,wJ]
theorem nV{α β:Type}(f:α->β)(l:List α)(i:Nat):(l.map f).eraseIdx i=(l.eraseIdx i).map f:=by
 induction l generalizing i with
 |nil=>rfl
 |cons a l E=>cases i with
  |zero=>rfl
  |succ i=>show f a :: (l.map f).eraseIdx i=_;rw[E];rfl
def LW(D:TZ)(i:Nat):TZ:={ D with R:=D.R.eraseIdx i,B:=D.B.eraseIdx i }
theorem gV.dropped{σ σ':Store}{bt br bb bf:Nat}{rb:List Nat}{D:TZ}{N i:Nat}(h:gV σ bt br bb bf rb D N)(hi:i<D.R.length)(a1:D.B.length=D.R.length)
  (ht:σ' bt=some ⟨[.rs br 0 (D.R.length-1),Bo (decide (D.cu<0)),LI (dg D.cu.natAbs),.rs bb 0 (D.R.length-1),I N,.rs bf 0 N],0,true⟩)
  (E:∃ex,σ' br=some ⟨(rb.map (fun b=>V.rs b 0 (N+1))).eraseIdx i++ex,1,true⟩) (hb:∃ex,σ' bb=some ⟨((Aj D.B).flatMap cI).eraseIdx i++ex,1,true⟩) (Y:∀b,b≠bt->b≠br->b≠bb->σ' b=σ b) :
  gV σ' bt br bb bf (rb.eraseIdx i) (LW D i) N:=by
 obtain⟨n1,n2,n3,n4,n5,n6,n7,n8⟩:=nd4 h.nd;have hl:(D.R.eraseIdx i).length=D.R.length-1:=yY hi;have hlen:=h.len;obtain⟨G,E⟩:=E;obtain⟨J,hb⟩:=hb;refine⟨?_,⟨G,?_⟩,fun j O=>?_,⟨J,?_⟩,?_,?_,?_⟩
 .show σ' bt=some ⟨[.rs br 0 (D.R.eraseIdx i).length,_,_,.rs bb 0 (D.R.eraseIdx i).length,_,_],0,true⟩
  rw[hl];exact ht
 .rw[E,nV]
 .have a6:j<rb.length-1:=by rw[yY (by omega)]at O;exact O
  have e:vI (D.R.eraseIdx i) j=vI D.R (if j<i then j else j+1):=by
   unfold vI;rw[pO]
  show Ak σ' (rb.eraseIdx i)[j] (vI (D.R.eraseIdx i) j);have S:(if j<i then j else j+1)<rb.length:=by split<;>omega
  have e2:(rb.eraseIdx i)[j]=rb[if j<i then j else j+1]:=by
   have:(rb.eraseIdx i)[j]?=rb[if j<i then j else j+1]?:=by
    rw[List.getElem?_eraseIdx];split<;>rfl
   rw[zy O,zy S]at this;exact Option.some.inj this
  rw[e,e2];have hn:=n7 _ (zq S);exact(h.row _ S).congr (Y _ hn.1 hn.2.1 hn.2.2.1)
 .rw[hb]
  have:((Aj D.B).flatMap cI).eraseIdx i=(Aj (D.B.eraseIdx i)).flatMap cI:=by
   have e1:∀xs:List Int,xs.flatMap cI=xs.map I:=fun xs=>by
    induction xs with
    |nil=>rfl
    |cons x xs ih=>rw[zJ,ih];rfl
   rw[e1,e1,nV];unfold Aj;rw[nV]
  rw[this];rfl
 .rw[Y bf (yS n3) (yS n5) (yS n6)];exact h.f
 .show(rb.eraseIdx i).length=(D.R.eraseIdx i).length
  rw[hl,yY (by omega),hlen]
 .exact h.nd.sublist ((((uo rb i).cons_cons bf).cons_cons bb).cons_cons br|>.cons_cons bt)
theorem aiH(Qp:TZ->Prop){N n:Nat}(hQ:∀D,Qp D->Ro D N/\0<D.cu)(h8:n<=N)(h1:∀D i k,Qp D->i<D.R.length->n<=D.B.getD i 0->k<n->en D.R i k≠0->Qp (BR D i k))
  (h2:∀D i,Qp D->i<D.R.length->n<=D.B.getD i 0->(∀k,k<n->en D.R i k=0)->Qp (LW D i))
  {σ:Store} {nx bt br bb bf:Nat} {rb:List Nat} {D:TZ} (hD:Qp D) (h:gV σ bt br bb bf rb D N) (e3:∀b∈bt :: br :: bb :: bf :: rb,b<nx) :
  ∃σ' nx' O D',ev gu aY bY 170 [.rp bt 0,I n] σ nx=some (.dF [],σ',nx')/\gV σ' bt br bb bf O D' N/\nx<=nx'/\Qp D'/\(∀i,i<D'.R.length->D'.B.getD i 0<n)/\O.Sublist rb/\∀b,b<nx->b∉bt :: br :: bb :: rb->σ' b=σ b:=by
 rw[qO [] [10,11] func170];simp only[go_sem];generalize hL:aA _ _=y;obtain⟨x,rfl,T',σ',nx',O,D',rfl,hT,Y,e4,c4,G,a7⟩:=nY hL (fun m st=>st.T 0= .rp bt 0/\st.T 1=I n/\nx<=st.nx/\∃i O D',st.T 4=I ((i:Nat):Int)/\m+i=D'.R.length/\gV st.σ bt br bb bf O D' N/\Qp D'/\(∀j,j<i->D'.B.getD j 0<n)/\O.Sublist rb/\∀b,b<nx->b∉bt :: br :: bb :: rb->st.σ b=σ b)
  (fun x=>∃T σ' nx' O D',x=(.exit 0,⟨T,σ',nx'⟩)/\gV σ' bt br bb bf O D' N/\nx<=nx'/\Qp D'/\(∀i,i<D'.R.length->D'.B.getD i 0<n)/\O.Sublist rb/\∀b,b<nx->b∉bt :: br :: bb :: rb->σ' b=σ b) (by
   clear hL;rintro m ⟨T,a1,aO⟩ ⟨t0,t1,Y,i,S,D1,t4,h9,hT,b5,a6,G,a7⟩;simp only at t0 t1 t4 Y hT;obtain⟨hS,h7⟩:=hQ D1 b5;have a8:=hT.t;have hR:=hS.Ja;have hlen:=hT.len;obtain⟨J9,b3⟩:=hT.r;obtain⟨Ho,b4⟩:=hT.b;have hB:(Aj D1.B).length=D1.R.length:=by rw[jE];exact hS.gq
   have b2:∀b∈bt :: br :: bb :: bf :: S,b<aO:=fun b hb=>by
    refine xq (e3 b ?_) Y;simp only[zQ]at hb⊢;rcases hb with h|h|h|h|h
    .exact .inl h
    .exact .inr (.inl h)
    .exact .inr (.inr (.inl h))
    .exact .inr (.inr (.inr (.inl h)))
    .exact .inr (.inr (.inr (.inr (G.subset h))))
   obtain⟨n1,n2,n3,n4,n5,n6,n7,n8⟩:=nd4 hT.nd
   by_cases hi:i<D1.R.length
   .have f1:(i:Int)<(D1.R.length:Int):=by omega
    have f2:=nP i;have f3:=iF (n:=(i:Int)+1);have f4:((Aj D1.B).flatMap cI++Ho)[i]?=some (I ((D1.B.getD i 0:Nat):Int)):=by
     rw[zZ (by rw[sS];omega),idx (by omega),jF (by have:=hS.gq;omega)]
    by_cases hb:D1.B.getD i 0<n
    .have f5:((D1.B.getD i 0:Nat):Int)<(n:Int):=by omega
     refine .inl ⟨_,by simp only[go_sem,t0,t1,t4,a8,b4,f1,f2,f3,f4,f5];rfl,m-1,by omega,?_⟩;simp only[go_sem,t0,t1];refine⟨Y,i+1,S,D1,rfl,by omega,hT,b5,fun j hj=>?_,G,a7⟩
     by_cases e:j=i
     .subst e;exact hb
     .exact a6 j (by omega)
    .have f5:¬((D1.B.getD i 0:Nat):Int)<(n:Int):=by omega
     have c5:i<S.length:=by omega
     have f6:=lM (ex:=J9) (n:=N+1) c5;obtain⟨bi,Jf⟩:∃bi,bi=S[i]:=⟨_,rfl⟩;rw[<- Jf]at f6;obtain⟨Li,Oh,CX,Oi⟩:=hT.row i c5;have c6:a1 bi=some ⟨Li.flatMap zc,2,true⟩:=by rw[Jf];exact Oh
     have rl:(vI D1.R i).length=N+1:=by rw[kP hi];exact hS.row _ (zq hi)
     have GU:Li.length=N+1:=by have:=congrArg List.length CX;rw[zB,rl]at this;exact this
     have b7:=kD (c:=zc) (s:=2) iC Li;rw[GU]at b7;refine ji ?_
     conv=>
      enter [1,r,1,1]
      simp only[go_sem,t0,t1,t4,a8,b4,f1,f2,f4,f5]
     generalize hL:aA _ _=z;obtain⟨x,rfl,T1,k,rfl,t0,t1,t4,t5,i0,hz,c7⟩:=nY hL (fun q st=>st.T 0= .rp bt 0/\st.T 1=I n/\st.T 4=I i/\st.σ=a1/\st.nx=aO/\∃k,st.T 5=I ((k:Nat):Int)/\q+k=n/\∀j,j<k->en D1.R i j=0)
      (fun x=>∃T k,x=(.exit 2,⟨T,a1,aO⟩)/\T 0= .rp bt 0/\T 1=I n/\T 4=I i/\T 5=I ((k:Nat):Int)/\k<=n/\(∀j,j<k->en D1.R i j=0)/\(k<n->en D1.R i k≠0)) (by
       clear hL;rintro q ⟨T,σ2,BH⟩ ⟨t0,t1,t4,c8,c9,k,t5,i1,hz⟩;simp only at t0 t1 t4 t5 c8 c9;subst c8 c9
       by_cases hk:k<n
       .have g1:(k:Int)<(n:Int):=by omega
        have g2:=nP k;have i2:=hS.sz;have g3:=iF (n:=(k:Int)+1);have g4:=kG (c:=zc) (s:=2) iC Li k (by omega);have g5:k*2+2<=(N+1)*2:=by omega
        have g6:(k:Int)<((N+1:Nat):Int):=by omega
        obtain⟨hq,e⟩:=LU CX (c:=k) (by rw[rl];omega);have e2:(vI D1.R i)[k]'(by rw[rl];omega)=en D1.R i k:=by
         unfold en;rw[zx,zy];rfl
        have z1:∀σ d,stripL (strip σ d) (zc Li[k])=some (cZ (en D1.R i k),[]):=fun σ d=>by
         rw[h_ σ d (Oi _ (zq hq)),e,e2]
        have k1:=oO (en D1.R i k);have c1:=Rt (en D1.R i k)
        by_cases b8:en D1.R i k=0
        .rw[uY b8]at c1
         refine .inl ⟨_,by simp only[go_sem,t0,t1,t4,t5,a8,b3,c6,f1,f2,f6,g1,g2,g3,g4,g5,g6,b7,z1,k1,c1];rfl,q-1,by omega,?_⟩;simp only[go_sem,t0,t1,t4];refine⟨k+1,rfl,by omega,fun j hj=>?_⟩
         by_cases e:j=k
         .subst e;exact b8
         .exact hz j (by omega)
        .rw[uX b8]at c1
         refine .inr ⟨_,by simp only[go_sem,t0,t1,t4,t5,a8,b3,c6,f1,f2,f6,g1,g2,g3,g4,g5,g6,b7,z1,k1,c1];rfl,by simp,_,k,rfl,?_⟩;simp only[go_sem,t0,t1,t4,t5];exact⟨by omega,hz,fun _=>b8⟩
       .have g1:¬(k:Int)<(n:Int):=by omega
        refine .inr ⟨_,by simp only[go_sem,t1,t5,g1];rfl,by simp,_,k,rfl,?_⟩;simp only[go_sem,t0,t1,t4,t5];exact⟨by omega,hz,fun h=>absurd h hk⟩) n (by
       simp only[go_sem,t0,t1,t4];exact⟨0,rfl,by omega,fun j hj=>absurd hj (zK j)⟩)
     by_cases hk:k<n
     .have g1:(k:Int)<(n:Int):=by omega
      obtain⟨i3,GV,k4,VA,i4,e5⟩:=acD hT hS b2 hi (by omega) (c7 hk) (by omega);have b9:=h1 D1 i k b5 hi (by omega) hk (c7 hk);have c0:(BR D1 i k).R.length=D1.R.length:=by
       unfold BR
       split
       .exact mG ..
       .show(negR _).length=_;rw[I5,mG]
      have e6:(BR D1 i k).B=D1.B.set i k:=by unfold BR;split<;>rfl
      refine⟨_,by simp only[go_sem,sG,t0,t1,t4,t5,g1,f3,k4];rfl,.inl ⟨_,rfl,m-1,by omega,?_⟩⟩;simp only[go_sem,t0,t1];refine⟨by omega,i+1,S,_,rfl,by omega,VA,b9,fun j hj=>?_,G,fun b b6 E=>?_⟩
      .rw[e6,Q5 (by have:=hS.gq;omega)]
       by_cases e:j=i
       .rw[uf e];exact hk
       .rw[ug e];exact a6 j (by omega)
      .simp only[zQ,not_or]at E
       exact(e5 b (by omega) E.1 E.2.2.1 fun e=>E.2.2.2 (G.subset e)).trans (a7 b b6 (by simp only[zQ,not_or];exact E))
     .have g1:¬(k:Int)<(n:Int):=by omega
      have hzero:∀j,j<n->en D1.R i j=0:=fun j hj=>hz j (by omega)
      have b9:=h2 D1 i b5 hi (by omega) hzero;have g2:(0:Int)<=(i:Int)+1:=by omega
      have e0:D1.B.length=D1.R.length:=hS.gq;have h3:restrict a1 [br,br] br=_:=(ku a1 br).trans b3;have h4:restrict a1 [bb,bb] bb=_:=(ku a1 bb).trans b4;have p1:bt<aO:=b2 bt (by simp);have p2:br<aO:=b2 br (by simp);have p3:bb<aO:=b2 bb (by simp);have p4:(i:Int)+1<=(D1.R.length:Int):=by omega
      have p5:(i:Int)<=(D1.R.length:Int):=by omega
      have q0:(S.map (fun b=>V.rs b 0 (N+1))).length=D1.R.length:=by rw[zB,hlen]
      have q1:i<=(S.map (fun b=>V.rs b 0 (N+1))++J9).length:=by rw[zo,q0];omega
      have q2:D1.R.length<=(S.map (fun b=>V.rs b 0 (N+1))++J9).length:=by rw[zo,q0];omega
      have q3:i<=((Aj D1.B).flatMap cI++Ho).length:=by rw[zo,sS];omega
      have q4:D1.R.length<=((Aj D1.B).flatMap cI++Ho).length:=by rw[zo,sS];omega
      have q5:((i:Int)+1).toNat=i+1:=by omega
      have c0:(LW D1 i).R.length=D1.R.length-1:=yY hi;have w1:(bt==br)=false:=beq_eq_false_iff_ne.mpr n1;have w2:(br==bt)=false:=beq_eq_false_iff_ne.mpr (yS n1);have w3:(bt==bb)=false:=beq_eq_false_iff_ne.mpr n2;have w4:(bb==bt)=false:=beq_eq_false_iff_ne.mpr (yS n2);have v1:¬bb=bt:=yS n2;have v2:¬bb=br:=yS n4;have v3:¬br=bt:=yS n1
      by_cases J:i+1=D1.R.length
      .have q6:i+1<=D1.R.length:=by omega
       have q7:¬D1.R.length=0:=by omega
       refine⟨_,by simp only[go_sem,t0,t1,t4,t5,g1,g2,f1,f2,f3,a8,b3,b4,h3,h4,q1,q2,q3,q4,q5,q6,q7,J,v1,v2,v3,w1,w2,w3,w4,p1,p2,p3,p4,p5,n1,n2,n3,n4,n5,n6];rfl,.inl ⟨_,rfl,m-1,by omega,?_⟩⟩;simp only[go_sem,t0,t1,t4];refine⟨Y,i,S.eraseIdx i,LW D1 i,rfl,by rw[c0];omega,?_,b9,fun j hj=>?_,(uo S i).trans G,fun b b6 E=>?_⟩
       .refine gV.dropped hT hi e0 (by rw[iW,<- J];rfl)
         (by
          obtain⟨e1,he⟩:=Jj (S.map (fun b=>V.rs b 0 (N+1))) J9 (i:=i) (by rw[q0];exact J);exact⟨e1,by rw[iY _ _ v3,b3,he]⟩)
         (by
          obtain⟨e1,he⟩:=Jj ((Aj D1.B).flatMap cI) Ho (i:=i) (by rw[sS,hB];exact J);exact⟨e1,by rw[iY _ _ v1,b4,he]⟩) fun b c1 c2 c3=>iY _ _ c1
       .show(D1.B.eraseIdx i).getD j 0<n
        rw[pO,uf hj];exact a6 j hj
       .simp only[zQ,not_or]at E
        rw[iY _ _ E.1];exact a7 b b6 (by simp only[zQ,not_or];exact E)
      .have q6:i+1<=D1.R.length:=by omega
       have q7:¬D1.R.length - (i+1)=0:=by omega
       have q8:i+(D1.R.length - (i+1))<=(S.map (fun b=>V.rs b 0 (N+1))++J9).length:=by rw[zo,q0];omega
       have q9:i+(D1.R.length - (i+1))<=((Aj D1.B).flatMap cI++Ho).length:=by rw[zo,sS];omega
       have e7:i+1+(D1.R.length - (i+1))<=(S.map (fun b=>V.rs b 0 (N+1))++J9).length:=by rw[zo,q0];omega
       have e8:i+1+(D1.R.length - (i+1))<=((Aj D1.B).flatMap cI++Ho).length:=by rw[zo,sS];omega
       have e9:((S.map (fun b=>V.rs b 0 (N+1))++J9).drop (i+1)).take (D1.R.length - (i+1))=(S.map (fun b=>V.rs b 0 (N+1))).drop (i+1):=by
        rw[wo (by rw[q0];omega),w_ (by rw[zW,q0];omega),zk (by rw[zW,q0];omega)]
       have h0:(((Aj D1.B).flatMap cI++Ho).drop (i+1)).take (D1.R.length - (i+1))=((Aj D1.B).flatMap cI).drop (i+1):=by
        rw[wo (by rw[sS];omega),w_ (by rw[zW,sS];omega),zk (by rw[zW,sS];omega)]
       have h5:((S.map (fun b=>V.rs b 0 (N+1))).drop (i+1)).all aJ=true:=by
        rw[wW];intro v hv;obtain⟨b,-,rfl⟩:=List.mem_map.mp (List.mem_of_mem_drop hv);rfl
       have h6:(((Aj D1.B).flatMap cI).drop (i+1)).all aJ=true:=by
        rw[wW];intro v hv;obtain⟨b,-,hv⟩:=List.mem_flatMap.mp (List.mem_of_mem_drop hv);rw[List.mem_singleton.mp hv];rfl
       refine⟨_,by simp only[go_sem,t0,t1,t4,t5,g1,g2,f1,f2,f3,a8,b3,b4,h3,h4,q1,q2,q3,q4,q5,q6,q7,q8,q9,e7,e8,e9,h0,h5,h6,J,v1,v2,v3,w1,w2,w3,w4,p1,p2,p3,p4,p5,n1,n2,n3,n4,n5,n6];rfl,.inl ⟨_,rfl,m-1,by omega,?_⟩⟩;simp only[go_sem,t0,t1,t4];refine⟨Y,i,S.eraseIdx i,LW D1 i,rfl,by rw[c0];omega,?_,b9,fun j hj=>?_,(uo S i).trans G,fun b b6 E=>?_⟩
       .refine gV.dropped hT hi e0 ?_ ?_ ?_ fun b c1 c2 c3=>by rw[iY _ _ c1,iY _ _ c3,iY _ _ c1,iY _ _ c2]
        .rw[iW,show i+(D1.R.length - (i+1))=D1.R.length-1 by omega]
        .obtain⟨e1,he⟩:=mP (S.map (fun b=>V.rs b 0 (N+1))) J9 (i:=i) q0 hi q7
         exact⟨e1,by rw[iY _ _ v3,iY _ _ n4,iY _ _ v3,iW,he]⟩
        .obtain⟨e1,he⟩:=mP ((Aj D1.B).flatMap cI) Ho (i:=i) (by rw[sS,hB]) hi q7
         exact⟨e1,by rw[iY _ _ v1,iW,he]⟩
       .show(D1.B.eraseIdx i).getD j 0<n
        rw[pO,uf hj];exact a6 j hj
       .simp only[zQ,not_or]at E
        rw[iY _ _ E.1,iY _ _ E.2.2.1,iY _ _ E.1,iY _ _ E.2.1];exact a7 b b6 (by simp only[zQ,not_or];exact E)
   .have f1:¬(i:Int)<(D1.R.length:Int):=by omega
    refine .inr ⟨_,by simp only[go_sem,t0,t4,a8,f1];rfl,by simp,_,a1,aO,S,D1,rfl,hT,Y,b5,fun j hj=>a6 j (by omega),G,a7⟩) D.R.length (by
   simp only[go_sem];exact⟨0,rb,D,rfl,by omega,h,hD,fun j hj=>absurd hj (zK j),List.Sublist.refl _,fun _ _ _=>trivial⟩)
 exact⟨σ',nx',O,D',by simp only[go_sem],hT,Y,e4,c4,G,a7⟩
section
variable {P:Program} {conv:FuncId->Conv} {call:TV.Call} (d:Option Tmp) (ty:TypeId) (ps:String) (af:Array Edge) (gd:Option (Nat×Bool)) (T:Nat->V) (σ:Store) (nx:Nat)
theorem Jk(t:TypeId)(l c:Operand):aP conv T σ ⟨d,.makeSlice t l c,ty,ps,af,gd⟩=[]:=rfl
theorem RI(t:TypeId)(l c:Operand):writer conv ⟨d,.makeSlice t l c,ty,ps,af,gd⟩=false:=rfl
theorem Kq(t:TypeId)(l c:Operand):aZ P conv call ⟨d,.makeSlice t l c,ty,ps,af,gd⟩ T σ nx=AB P t (val T l) (val T c) σ nx:=by
 generalize E:AB P t (val T l) (val T c) (fun _=>none) nx=r;have key:∀σ,AB P t (val T l) (val T c) σ nx=(r.map fun p=>((p.2.1 nx).elim ([],0,p.1) fun B=>(B.cells,B.st,p.1))).map fun p=>(p.2.2,bG σ nx p.1 p.2.1,nx+1):=fun σ=>by
  rw[<- E];unfold AB
  split
  .split
   .split
    .split
     .simp only[zT,bG,iW];rfl
     .rfl
    .rfl
   .rfl
  .rfl
 have:=DL (P:=P) (conv:=conv) (call:=call) (o:=⟨d,.makeSlice t l c,ty,ps,af,gd⟩) T σ nx rfl fun σ=>(DJ d ty ps af gd T σ nx t l c).trans (key σ)
 exact this.trans (key σ).symm
theorem GX(t:TypeId)(x:Operand)(h:(aN P t).slice=true)(E:(aN P t).PK=true)(hs:(aN P t).CW=1)(G:(aN P t).BD.length=1)(hc:aJ (val T x)=true) :
  aZ P conv call ⟨d,.buildSlice t 1 #[(0,x)],ty,ps,af,gd⟩ T σ nx=some (.rs nx 0 1,upd σ nx (some ⟨[val T x],1,true⟩),nx+1):=by
 have:=DL (P:=P) (conv:=conv) (call:=call) (o:=⟨d,.buildSlice t 1 #[(0,x)],ty,ps,af,gd⟩) (m:=some ([val T x],1,V.rs nx 0 1)) T σ nx rfl fun σ=>nC d ty ps af gd T σ nx t x h E hs G hc
 exact this
theorem Zn(t:TypeId)(lo hi E:Option V)(row:List V)(len:Nat):Ol P σ nx t lo hi E (.ts row len)=bK P t (.ts row len) lo hi E σ:=by
 show(if(([]:List Nat).all fun b=>decide (b<nx))=true then bK P t (.ts row len) lo hi E (restrict σ [])else none)=_;rw[xG,uf rfl];unfold bK;rfl
end
attribute [go_sem] Zn Jk RI Kq GX
theorem acJ(xs:List Int):∀k,(xs.flatMap cI).drop k=(xs.drop k).flatMap cI:=by
 induction xs with
 |nil=>intro k;simp
 |cons x xs E=>intro k;cases k with
  |zero=>rfl
  |succ k=>exact E k
def Af(m n:Nat)(A b c:List Int):List V:=[I m,I n,LI A,LI b,LI c]
theorem alF{m n:Nat}{A b c:List Int}(hA:A.length=m*n)(hm:m<=1000)(hn:n<=1000){i:Nat}(hi:i<m) :
  fn gu conv ext 168 [.tp (Af m n A b c) 0,I i]=some (.ts (((A.drop (i*n)).take n).flatMap cI) n):=by
 have J:i*n<=m*n:=yc _ (by omega);have O:(i+1)*n<=m*n:=yc _ (by omega);have S:m*n<=1000*1000:=wH hm hn;have E:(i:Int)*(n:Int)=((i*n:Nat):Int):=by push_cast;rfl
 have G:((i:Int)+1)*(n:Int)=(((i+1)*n:Nat):Int):=by push_cast;rfl
 have f1:=iF (n:=((i*n:Nat):Int));have f2:=iF (n:=(((i+1)*n:Nat):Int)) (by omega) (by omega);have f3:=iF (n:=(i:Int)+1);have f4:i*n<=(i+1)*n:=yc _ (by omega);have f5:(i+1)*n<=A.length:=by omega
 have f6:(0:Int)<=((i*n:Nat):Int):=by omega
 have f7:(0:Int)<=(((i+1)*n:Nat):Int):=by omega
 have f8:(i+1)*n-i*n=n:=by rw[wY];omega
 unfold Af;rw[qB,qO [.tmp 4] [] func168];simp only[go_sem,E,G,f1,f2,f3,f4,f5,f6,f7,f8];rw[acJ,sO]
theorem lD(σ:Store)(b x:Nat):restrict σ [b,x] b=σ b:=by unfold restrict;simp
theorem Ef(σ:Store)(b x:Nat):restrict σ [b,x] x=σ x:=by unfold restrict;simp
theorem Zo(σ:Store)(b x nx:Nat)(v:Option BZ):aQ [b,x] nx (nx+1) σ (upd (upd (restrict σ [b,x]) b none) nx v)=upd (upd σ b none) nx v:=by
 funext i;unfold aQ upd restrict
 by_cases h:i=nx
 .subst h;simp
 .by_cases E:i=b
  .subst E;simp[h]
  .by_cases G:i=x
   .subst G;simp[h,E]
   .rw[ug (by simp only[zQ,zG,or_false];omega),ug h,ug E]
theorem VE(σ:Store)(x nx:Nat)(v:Option BZ):aQ [x] nx (nx+1) σ (upd (restrict σ [x]) nx v)=upd σ nx v:=by
 funext i;unfold aQ upd restrict
 by_cases h:i=nx
 .subst h;simp
 .by_cases E:i=x
  .subst E;simp[h]
  .rw[ug (by simp only[zQ,zG,or_false];omega),ug h]
attribute [go_sem] lD Ef Zo VE
def pm{α:Type}(f g:Nat->α)(k N:Nat):List α:=(List.range N).map fun j=>if j<k then f j else g j
theorem mD{α:Type}(f g:Nat->α)(k N:Nat):(pm f g k N).length=N:=by simp[pm]
theorem Om{α:Type}(f g:Nat->α){k N j:Nat}(h:j<N):(pm f g k N)[j]'(by rw[mD];exact h)=if j<k then f j else g j:=by simp[pm]
theorem Jl{α:Type}(f g:Nat->α){k N:Nat}(h:k<N):(pm f g k N).set k (f k)=pm f g (k+1) N:=by
 apply yP
 .rw[yO,mD,mD]
 .intro j J E
  rw[mD]at E;rw[wX,Om _ _ E,Om _ _ E]
  by_cases e:k=j
  .subst e;rw[uf rfl,uf (by omega)]
  .rw[ug e]
   by_cases G:j<k
   .rw[uf G,uf (by omega)]
   .rw[ug G,ug (by omega)]
theorem Oo{α:Type}(f g:Nat->α){k N:Nat}(h:f k=g k):pm f g k N=pm f g (k+1) N:=by
 apply yP
 .rw[mD,mD]
 .intro j J E
  rw[mD]at E;rw[Om _ _ E,Om _ _ E]
  by_cases G:j<k
  .rw[uf G,uf (by omega)]
  .rw[ug G]
   by_cases e:j=k
   .subst e;rw[uf (by omega),h]
   .rw[ug (by omega)]
theorem Eh{α:Type}(f g:Nat->α)(N:Nat):pm f g 0 N=(List.range N).map g:=by simp[pm]
theorem Oq{α:Type}(f g:Nat->α)(N:Nat):pm f g N N=(List.range N).map f:=by
 unfold pm;apply xX;intro j E;rw[uf (List.mem_range.mp E)]
theorem VF(l:List Bool){N:Nat}(h:l.length=N):((List.range N).map fun j=>l.getD j false)=l:=by
 apply yP
 .simp[h]
 .intro j G E
  simp[zx,zy E]
theorem lS{α:Type}(a:α)(N:Nat):((List.range N).map fun _=>a)=List.replicate N a:=by
 rw[List.map_const',List.length_range]
theorem lH(N:Nat)(x:Int):rep N [I x]=(List.replicate N x).flatMap cI:=by
 induction N with
 |zero=>rfl
 |succ N E=>rw[lF,E,yL];rfl
theorem acK(N:Nat)(x:Bool):rep N [Bo x]=(List.replicate N x).flatMap Dl:=by
 induction N with
 |zero=>rfl
 |succ N E=>rw[lF,E,yL];rfl
def sg(b:List Int)(i:Nat):Int:=if b.getD i 0<0 then -1 else 1
def cell0(A b:List Int)(m n i j:Nat):Int:=if j<n then sg b i*A.getD (i*n+j) 0 else if j<n+m then(if j=n+i then 1 else 0)else sg b i*b.getD i 0
def row0(A b:List Int)(m n i:Nat):List Int:=(List.range (n+m+1)).map fun j=>cell0 A b m n i j
def Ei(A b:List Int)(m n k:Nat):List (List Int):=(List.range k).map fun i=>row0 A b m n i
def VG(m n:Nat):List Bool:=(List.range (n+m)).map fun j=>decide (j<n)
def D0(A b:List Int)(m n k:Nat):TZ:={ R:=Ei A b m n k,cu:=1,B:=(List.range k).map fun i=>n+i,fr:=VG m n }
theorem kY(A b:List Int)(m n i:Nat):(row0 A b m n i).length=n+m+1:=by simp[row0]
theorem Ej(A b:List Int)(m n i:Nat){j:Nat}(h:j<n+m+1):(row0 A b m n i)[j]'(by rw[kY];exact h)=cell0 A b m n i j:=by simp[row0]
def BX(A b:List Int)(m n i k:Nat):List (Int×Bool):=newR (row0 A b m n i) (List.replicate (n+m+1) (0,true)) k
theorem Zp(A b:List Int)(m n i:Nat):(BX A b m n i 0).flatMap zc=rep (n+m+1) [Bo false,.nil]:=by
 unfold BX;rw[FC];generalize n+m+1=q
 induction q with
 |zero=>rfl
 |succ q E=>rw[yL,lF,zJ,E];rfl
theorem t_(A b:List Int)(m n i:Nat){k:Nat}(E:k<=n+m+1):(BX A b m n i k).length=n+m+1:=by
 unfold BX;rw[nO (by rw[kY,yM]) (by rw[yM];exact E),yM]
theorem acL(A b:List Int)(m n i:Nat){k:Nat}(E:k<n+m+1):(BX A b m n i k).set k (cell0 A b m n i k,false)=BX A b m n i (k+1):=by
 unfold BX;rw[<- Je (by rw[kY,yM]) (c:=k) (by rw[yM];exact E),Ej _ _ _ _ _ E]
theorem LY(A b:List Int){m n i:Nat}(hi:i<m):let L:=((BX A b m n i n).set (n+i) (1,false)).set (n+m) (sg b i*b.getD i 0,false)
  L.map (·.1)=row0 A b m n i/\∀p∈L,p.2=true->p.1=0:=by
 intro L;have hl:L.length=n+m+1:=by simp only[L,yO];exact t_ _ _ _ _ _ (by omega)
 have hg:∀j (h:j<n+m+1),L[j]'(by rw[hl];exact h)=if j<n then(cell0 A b m n i j,false)else if j=n+m then(sg b i*b.getD i 0,false)else if j=n+i then(1,false)else(0,true):=fun j h=>by
  have e:(BX A b m n i n)[j]'(by rw[t_ _ _ _ _ _ (by omega)];exact h)=if j<n then(cell0 A b m n i j,false)else(0,true):=by
   have:(BX A b m n i n)[j]?=some (if j<n then(cell0 A b m n i j,false)else(0,true)):=by
    unfold BX newR;have J:(((row0 A b m n i).take n).map fun z=>(z,false)).length=n:=by rw[zB,zY,kY];omega
    by_cases O:j<n
    .rw[zZ (by rw[J];exact O),uf O,yg,xk,uf O,zy (by rw[kY];omega),Ej _ _ _ _ _ (by omega)]
     rfl
    .rw[zS (by rw[J];omega),J,yG,ug O,List.getElem?_replicate,uf (by omega)]
   rw[zy (by rw[t_ _ _ _ _ _ (by omega)];exact h)]at this;exact Option.some.inj this
  simp only[L,wX,e]
  by_cases E:j<n
  .rw[ug (by omega),ug (by omega),uf E,uf E]
  .by_cases Y:j=n+m
   .rw[uf Y.symm,ug E,uf Y]
   .rw[ug (yS Y),ug E,ug Y]
    by_cases h3:j=n+i
    .rw[uf h3.symm,ug E,uf h3]
    .rw[ug (yS h3),ug E,ug h3]
 refine⟨yP (by rw[zB,hl,kY]) fun j E Y=>?_,fun p hp G=>?_⟩
 .rw[zB,hl]at E
  rw[wL,hg j E,Ej _ _ _ _ _ E]
  by_cases c1:j<n
  .rw[uf c1]
  .rw[ug c1]
   unfold cell0;rw[ug c1]
   by_cases c2:j=n+m
   .rw[uf c2,ug (by omega)]
   .rw[ug c2,uf (show j<n+m by omega)]
    by_cases S:j=n+i
    .rw[uf S,uf S]
    .rw[ug S,ug S]
 .obtain⟨j,O,rfl⟩:=yK hp
  rw[hl]at O;rw[hg j O]at G⊢
  by_cases c1:j<n
  .rw[uf c1]at G;cases G
  .rw[ug c1]at G⊢
   by_cases c2:j=n+m
   .rw[uf c2]at G;cases G
   .rw[ug c2]at G⊢
    by_cases S:j=n+i
    .rw[uf S]at G;cases G
    .rw[ug S]
def Made(A b:List Int)(m n:Nat)(CO:Nat)(σ:Store)(nx bt bf k:Nat):Prop :=
 ∃E G br bb rb,σ bt=some ⟨[E,Bo false,LI (dg 1),G,I ((n+m:Nat):Int),.rs bf 0 (n+m)],0,true⟩ /\
  ((k=0/\E= .nil/\G= .nil/\rb=[])\/(0<k/\E= .rs br 0 k/\G= .rs bb 0 k/\σ br=some ⟨rb.map fun b=>V.rs b 0 (n+m+1),1,true⟩/\σ bb=some ⟨(Aj ((List.range k).map fun i=>n+i)).flatMap cI,1,true⟩/\br≠bb/\br∉bt :: bf :: rb/\bb∉bt :: bf :: rb/\CO<=br/\br<nx/\CO<=bb/\bb<nx)) /\
  rb.length=k/\(∀i (h:i<rb.length),Ak σ rb[i] (row0 A b m n i))/\(bt :: bf :: rb).Nodup/\(∀x∈bt :: bf :: rb,CO<=x/\x<nx)/\σ bf=some ⟨(List.replicate (n+m) false).flatMap Dl,1,true⟩
theorem LZ{A b:List Int}{m n nx:Nat}{S σ':Store}{E i:Nat}{rb:List Nat}{L:List (Int×Bool)}(hi:i<m)(Y:rb.length=i)(a1:∀j (h:j<rb.length),Ak S rb[j] (row0 A b m n j))(G:((nx+1) :: nx :: rb).Nodup)(O:∀x∈(nx+1) :: nx :: rb,nx<=x/\x<E)
  (a7:S nx=some ⟨(List.replicate (n+m) false).flatMap Dl,1,true⟩) (hL:L.map (·.1)=row0 A b m n i/\∀p∈L,p.2=true->p.1=0)
  (ht:σ' (nx+1)=some ⟨[.rs (E+1+1) 0 (i+1),Bo false,LI (dg 1),.rs (E+1+1+1+1) 0 (i+1),I ((n+m:Nat):Int),.rs nx 0 (n+m)],0,true⟩)
  (hr:σ' (E+1+1)=some ⟨rb.map (fun b=>V.rs b 0 (n+m+1))++[.rs E 0 (n+m+1)],1,true⟩)
  (hb:σ' (E+1+1+1+1)=some ⟨(Aj ((List.range i).map fun i=>n+i)).flatMap cI++[I ((n+i:Nat):Int)],1,true⟩)
  (J:σ' E=some ⟨L.flatMap zc,2,true⟩) (ho:∀x∈nx :: rb,σ' x=S x):Made A b m n nx σ' (E+1+1+1+1+1) (nx+1) nx (i+1):=by
 have a6:∀x∈rb,x≠nx+1/\x≠nx/\nx<=x/\x<E:=fun x J=>by
  have h:=O x (by simp[J]);refine⟨fun e=>?_,fun e=>?_,h.1,h.2⟩
  .subst e;simp at G;exact G.1 J
  .subst e;simp at G;exact G.2.1 J
 have a8:=O (nx+1) (by simp);refine⟨_,_,E+1+1,E+1+1+1+1,rb++[E],ht,.inr ⟨by omega,rfl,rfl,?_,?_,by omega,?_,?_,by omega,by omega,by omega,by omega⟩,by simp[Y],fun j hj=>?_,?_,fun x J=>?_,?_⟩
 .rw[hr,List.map_append];rfl
 .rw[hb,vS,List.map_append]
  unfold Aj;rw[List.map_append,zC];rfl
 .simp only[zQ,uq,zG,or_false,not_or]
  exact⟨by omega,by omega,fun h=>by have:=a6 _ h;omega,by omega⟩
 .simp only[zQ,uq,zG,or_false,not_or]
  exact⟨by omega,by omega,fun h=>by have:=a6 _ h;omega,by omega⟩
 .by_cases h:j<rb.length
  .rw[yH h]
   exact(a1 j h).congr (ho _ (zU _ (zq h)))
  .have:j=i:=by rw[zo,yT]at hj;omega
   subst this;rw[vN (by omega)];simp only[Y,yh,vX];exact⟨L,J,hL.1,hL.2⟩
 .rw[<- xY,<- xY]
  rw[List.nodup_append];refine⟨G,by simp,fun x J y hy=>?_⟩;rw[List.mem_singleton.mp hy];have:=O x J;omega
 .rw[<- xY,<- xY,uq]at J
  rcases J with h|h
  .have:=O x h;omega
  .rw[List.mem_singleton.mp h];omega
 .rw[ho nx (by simp)];exact a7
def Z9(m n:Nat):List Int:=(List.range (n+m)).map fun j=>if j<n then 0 else -1
theorem afQ(m n:Nat):Obj (Z9 m n) (n+m):=⟨by simp[Z9],fun x E=>by
 obtain⟨j,-,rfl⟩:=List.mem_map.mp E
 split<;>omega⟩
theorem Xm{N:Nat}{o:Nat->Int}{Q:TZ->Prop}(h:∀D E,Q D->AV N o D E->Q E){D E:TZ}(G:AX N o D E):Q D->Q E:=by
 induction G with
 |refl=>exact id
 |tail Y J O=>exact fun S=>h _ _ (O S) J
theorem ag4{N:Nat}{o:Nat->Int}{Q:TZ->Prop}(h:∀D E,Q D->AV N o D E->Q E){D E:TZ}{G:Bool}(hm:N_ N o D G E)(O:Q D):∃D1 fr,Q D1/\E={ D1 with fr:=fr }/\fr.length=D1.fr.length:=by
 obtain⟨D1,S,J|J⟩:=hm
 .obtain⟨-,-,fr,Y,rfl⟩:=J
  exact⟨D1,fr,Xm h S O,rfl,Y.1⟩
 .obtain⟨-,rfl,-⟩:=J
  exact⟨E,E.fr,Xm h S O,rfl,rfl⟩
def afR(Q2:TZ->Prop)(A b:List Int)(m n:Nat)(σ:Store)(nx:Nat)(r:V×Store×Nat):Prop :=
 ∃σ' nx',nx<=nx'/\(∀x,x<nx->σ' x=σ x)/\∃D1 E,N_ (n+m) (oF (Z9 m n)) (D0 A b m n m) E D1 /\
  ((r=(.dF [.sc (.pointer none),Bo false],σ',nx')/\∃i,i<D1.R.length/\n<=D1.B.getD i 0/\0<en D1.R i (n+m)) \/
   (∃bt br bb bf rb D2,r=(.dF [.rp bt 0,Bo true],σ',nx')/\(∀i,i<D1.R.length->n<=D1.B.getD i 0->¬0<en D1.R i (n+m))/\gV σ' bt br bb bf rb D2 (n+m)/\Q2 D2/\(∀i,i<D2.R.length->D2.B.getD i 0<n)/\∀x∈bt :: br :: bb :: bf :: rb,nx<=x/\x<nx'))
theorem aiI(Q1 Q2:TZ->Prop){A b c:List Int}{m n:Nat}(hA:A.length=m*n)(hb:b.length=m)(G:0<m)(hm:m<=400)(hn:n<=400)(m7:∀x∈A,-1000000<=x/\x<=1000000)(m8:∀x∈b,-1000000<=x/\x<=1000000)
  (h5:∀D,Q1 D->Ro D (n+m)/\0<D.cu) (e8:∀D D',Q1 D->AV (n+m) (oF (Z9 m n)) D D'->Q1 D') (i6:Q1 (D0 A b m n m)) {K:Nat} (m9:Ec (n+m) (oF (Z9 m n)) K (D0 A b m n m))
  (n0:∀D,Q2 D->Ro D (n+m)/\0<D.cu) (h1:∀D i k,Q2 D->i<D.R.length->n<=D.B.getD i 0->k<n->en D.R i k≠0->Q2 (BR D i k))
  (n9:∀D i,Q2 D->i<D.R.length->n<=D.B.getD i 0->(∀k,k<n->en D.R i k=0)->Q2 (LW D i))
  (j6:∀D1 e9,N_ (n+m) (oF (Z9 m n)) (D0 A b m n m) e9 D1->(∀i,i<D1.R.length->n<=D1.B.getD i 0->¬0<en D1.R i (n+m))->Q2 { D1 with fr:=VG m n })
  (σ:Store) (nx:Nat):∃r,ev gu aY bY 143 [.tp (Af m n A b c) 0] σ nx=some r/\afR Q2 A b m n σ nx r:=by
 obtain⟨N,hN⟩:∃N,N=n+m:=⟨_,rfl⟩;have f1:(n:Int)+(m:Int)=(N:Int):=by omega
 have f2:=iF (n:=(N:Int));have f3:=nP N;have f4:1*(N:Int)<=281474976710656:=by omega
 have f5:(N:Int)<=9223372036854775807:=by omega
 have k1:fn gu conv ext 154 [I 1]=some (.agg [Bo false,LI (dg 1)]):=oU 1 (by decide) (by decide)
 unfold Af;rw[qO [.tmp 2,.tmp 3] [15,18,24,38] func143];simp only[go_sem,f1,f2,f3,f4,f5,k1];generalize hL:aA _ _=y;obtain⟨x,rfl,T1,S,E,rfl,t0,t4,t5,s6,o0,hM⟩:=rP hL m (fun i st=>st.T 0= .tp (Af m n A b c) 0/\st.T 4=I N/\st.T 5= .rp (nx+1) 0/\st.T 34=I m/\st.T 35=I i/\nx<=st.nx/\(∀x,x<nx->st.σ x=σ x)/\Made A b m n nx st.σ st.nx (nx+1) nx i)
  (fun x=>∃T S E,x=(.exit 0,⟨T,S,E⟩)/\T 0= .tp (Af m n A b c) 0/\T 4=I N/\T 5= .rp (nx+1) 0/\nx<=E/\(∀x,x<nx->S x=σ x)/\Made A b m n nx S E (nx+1) nx m) (by
   clear hL;rintro i ⟨T,S,E⟩ hi ⟨t0,t4,t5,t34,t35,h6,e5,hM⟩;simp only at t0 t4 t5 t34 t35 h6 e5 hM;have g1:(i:Int)<(m:Int):=by omega
   have g2:=nP i;have g3:=iF (n:=(i:Int)+1);unfold Af at t0;have g4:=iF (n:=(N:Int)+1);have g5:(0:Int)<=(N:Int)+1:=by omega
   have g6:32*((N:Int)+1)<=281474976710656:=by omega
   have g7:(N:Int)+1<=9223372036854775807:=by omega
   have g8:((N:Int)+1).toNat=N+1:=by omega
   have g9:(i:Int)<(b.length:Int):=by omega
   have g10:(b.flatMap cI)[i]?=some (I (b.getD i 0)):=by
    rw[idx (by omega),zx,zy (by omega)];rfl
   have g11:=iI b i (by omega);have bl:(b.flatMap cI).length=b.length:=sS b;have s8:-1000000<=b.getD i 0/\b.getD i 0<=1000000:=by
    rw[zx,zy (by omega)];exact m8 _ (zq (by omega))
   have k2:=alF (b:=b) (c:=c) hA (by omega) (by omega) hi;unfold Af at k2;obtain⟨Rw,i7⟩:∃Rw,Rw=(A.drop (i*n)).take n:=⟨_,rfl⟩;rw[<- i7]at k2;have h1:(i+1)*n<=m*n:=yc _ (by omega);rw[wY]at h1;have h7:Rw.length=n:=by rw[i7,zY,zW];omega
   have o2:∀j (h:j<n),Rw[j]'(by omega)=A.getD (i*n+j) 0:=fun j h=>by
    subst i7;rw[List.getElem_take,List.getElem_drop,zx,zy (by omega)];rfl
   have o3:∀j (h:j<n),-1000000<=A.getD (i*n+j) 0/\A.getD (i*n+j) 0<=1000000:=fun j h=>by
    rw[zx,zy (by omega)];exact m7 _ (zq (by omega))
   obtain⟨s,hs,j7⟩:∃s,s=sg b i/\((b.getD i 0<0/\s= -1)\/(¬b.getD i 0<0/\s=1)):=by
    refine⟨_,rfl,?_⟩;unfold sg
    by_cases h:b.getD i 0<0
    .exact .inl ⟨h,uf h⟩
    .exact .inr ⟨h,ug h⟩
   have j8:s=1\/s= -1:=by rcases j7 with ⟨_,h⟩|⟨_,h⟩<;>simp[h]
   refine ji ?_;rcases j7 with ⟨h8,j9⟩|⟨h8,j9⟩
   all_goals
    conv=>
     enter [1,r,1,1]
     simp only[go_sem,t0,t4,t5,t34,t35,g1,g2,g3,g4,g5,g6,g7,g8,g9,g10,g11,bl,h8,k2]
    generalize hL:aA _ _=z;obtain⟨x,rfl,T1,rfl,t0,t4,t5,t6,t7,t8,t34,t35⟩:=rP hL n (fun j st=>st.T 0= .tp (Af m n A b c) 0/\st.T 4=I N/\st.T 5= .rp (nx+1) 0/\st.T 6=I i/\st.T 7= .rs E 0 (N+1)/\st.T 8=I s/\st.T 34=I m/\st.T 35=I i/\st.T 51= .ts (Rw.flatMap cI) n/\st.T 52=I n/\st.T 53=I j/\st.nx=E+1/\st.σ=upd S E (some ⟨(BX A b m n i j).flatMap zc,2,true⟩))
     (fun x=>∃T,x=(.exit 2,⟨T,upd S E (some ⟨(BX A b m n i n).flatMap zc,2,true⟩),E+1⟩)/\T 0= .tp (Af m n A b c) 0/\T 4=I N/\T 5= .rp (nx+1) 0/\T 6=I i/\T 7= .rs E 0 (N+1)/\T 8=I s/\T 34=I m/\T 35=I i) (by
      clear hL;rintro j ⟨T,σ2,m0⟩ hj ⟨t0,t4,t5,t6,t7,t8,t34,t35,t51,t52,t53,G,Y⟩;simp only at t0 t4 t5 t6 t7 t8 t34 t35 t51 t52 t53 G Y;subst G Y;have a1:(j:Int)<(n:Int):=by omega
      have a2:=nP j;have a3:=iF (n:=(j:Int)+1);have a4:(Rw.flatMap cI)[j]?=some (I (A.getD (i*n+j) 0)):=by rw[idx (by omega),o2 j hj]
      have a12:=iI Rw j (by omega);have a5:(Rw.flatMap cI).length=n:=by rw[sS,h7]
      have J:=o3 j hj;obtain⟨x,ex⟩:∃x,x=A.getD (i*n+j) 0:=⟨_,rfl⟩;rw[<- ex]at a4 J;have o4:-1000000<=s*x/\s*x<=1000000:=by rcases j8 with h|h<;>rw[h]<;>omega
      have a6:=iF (n:=s*x);have a7:=oU (s*x) (by omega) (by omega);have a8:=kD (c:=zc) (s:=2) iC (BX A b m n i j);rw[t_ _ _ _ _ _ (by omega),<- hN]at a8;have a9:(j:Int)<((N+1:Nat):Int):=by omega
      have h9:j*2+2<=(N+1)*2:=by omega
      have i0:patch ((BX A b m n i j).flatMap zc) (j*2) (cZ (s*x))=(BX A b m n i (j+1)).flatMap zc:=by
       rw[<- Xi,mO iC _ _ (by rw[t_ _ _ _ _ _ (by omega)];omega),<- acL _ _ _ _ _ (by omega)];congr 3;unfold cell0;rw[uf hj,<- ex,hs]
      refine .inl ⟨_,by simp only[go_sem,t0,t4,t5,t6,t7,t8,t34,t35,t51,t52,t53,a1,a2,a3,a4,a5,a6,a7,a8,a9,h9,i0,a12];rfl,?_⟩;simp only[go_sem,t0,t4,t5,t6,t7,t8,t34,t35,t51,t52,t53];rfl) (by
      rintro ⟨T,σ2,m0⟩ ⟨t0,t4,t5,t6,t7,t8,t34,t35,t51,t52,t53,G,Y⟩;simp only at t0 t4 t5 t6 t7 t8 t34 t35 t51 t52 t53 G Y;subst G Y;have a1:¬(n:Int)<(n:Int):=by omega
      refine⟨_,by simp only[go_sem,t52,t53,a1];rfl,by simp,_,rfl,?_⟩;simp only[go_sem,t0,t4,t5,t6,t7,t8,t34,t35]) (by
      simp only[go_sem,Zp,<- hN,j9,Af,t0,t4,t5,t34,t35])
    clear hL;obtain⟨L2,i1⟩:∃L2,L2=(BX A b m n i n).set (n+i) (1,false):=⟨_,rfl⟩;obtain⟨L3,i2⟩:∃L3,L3=L2.set (n+m) (s*b.getD i 0,false):=⟨_,rfl⟩;have i9:=t_ A b m n i (k:=n) (by omega);have j0:L2.length=n+m+1:=by rw[i1,yO];exact i9
    have s9:L3.length=n+m+1:=by rw[i2,yO];exact j0
    have d1:patch ((BX A b m n i n).flatMap zc) ((n+i)*2) [Bo false,LI (dg 1)]=L2.flatMap zc:=by
     rw[i1,<- mO iC _ _ (by rw[i9];omega)];rfl
    have d2:patch (L2.flatMap zc) (N*2) (cZ (s*b.getD i 0))=L3.flatMap zc:=by
     rw[i2,hN,<- mO iC _ _ (by rw[j0];omega),<- Xi]
    have d3:=kD (c:=zc) (s:=2) iC (BX A b m n i n);rw[i9,<- hN]at d3;have d4:=kD (c:=zc) (s:=2) iC L2;rw[j0,<- hN]at d4;have o4:-1000000<=s*b.getD i 0/\s*b.getD i 0<=1000000:=by rcases j8 with h|h<;>rw[h]<;>omega
    have a1:=iF (n:=s*b.getD i 0);have a2:=oU (s*b.getD i 0) (by omega) (by omega);have a3:(n:Int)+(i:Int)=((n+i:Nat):Int):=by omega
    have a4:=iF (n:=((n+i:Nat):Int));have a5:((n+i:Nat):Int)<((N+1:Nat):Int):=by omega
    have a6:(0:Int)<=((n+i:Nat):Int):=by omega
    have a7:(N:Int)<((N+1:Nat):Int):=by omega
    have a8:(n+i)*2+2<=(N+1)*2:=by omega
    have a9:N*2+2<=(N+1)*2:=by omega
    have h9:E<E+1:=by omega
    obtain⟨rV,bV,br,bb,rb,e6,c6,h0,e0,c3,c4,i3⟩:=hM;have u0:nx+1<E:=(c4 _ (by simp)).2;have i0:¬nx+1=E:=by omega
    have a12:¬nx+1=E+1:=by omega
    have k0:¬nx+1=E+1+1:=by omega
    have k3:¬nx+1=E+1+1+1:=by omega
    have k4:¬nx+1=E+1+1+1+1:=by omega
    have k5:nx+1<E+1+1:=by omega
    have k6:nx+1<E+1+1+1:=by omega
    have k7:nx+1<E+1+1+1+1:=by omega
    have k8:1<=maxLen:=by decide
    have a24:nx+1<E+1+1+1+1+1:=by omega
    have k9:E+1+1+1<E+1+1+1+1:=by omega
    have l1:E+1+1<E+1+1+1:=by omega
    have l2:E+1<E+1+1:=by omega
    have a20:¬E+1=nx+1:=by omega
    have a21:¬E+1+1=nx+1:=by omega
    have l3:¬E+1+1+1=nx+1:=by omega
    have i4:¬E+1+1+1+1=nx+1:=by omega
    unfold Af at t0;rcases c6 with ⟨hi0,rfl,rfl,rfl⟩|⟨hk,rfl,rfl,j1,j2,O,VH,VI,l4,j3,l5,j4⟩
    .refine⟨_,by simp only[go_sem,t0,t4,t5,t6,t7,t8,t34,t35,e6,k1,f3,g1,g2,g3,g9,g10,g11,bl,d1,d2,d3,d4,a1,a2,a3,a4,a5,a6,a7,a8,a9,h9,i0,a12,k0,k3,k4,k5,k6,k7,k8,a20,a21,l3,i4,a24,k9,l1,l2];rfl,.inl ⟨_,rfl,?_⟩⟩
     simp only[go_sem,t0,t4,t5,t34,t35];refine⟨rfl,rfl,by omega,fun x J=>?_,LZ (L:=L3) hi h0 e0 c3 c4 i3 (by rw[i2,i1,hs];exact LY A b hi) ?_ ?_ ?_ ?_ fun x J=>?_⟩
     .rw[iZ,iZ,iZ,iZ,iZ,iZ,iZ]
      exact e5 x J
     .rw[iW,hi0]
     .rw[iY _ _ a21,iZ,iZ,iY _ _ a21,iW,hN];rfl
     .rw[iY _ _ i4,iW,hi0];rfl
     .rw[iZ,iZ,iZ,iZ,iZ,iZ,iW]
     .rw[List.mem_singleton.mp J]
      rw[iZ,iZ,iZ,iZ,iZ,iZ,iZ]
    .have b1:(rb.map fun b=>V.rs b 0 (n+m+1)).length=i:=by rw[zB,h0]
     have b2:((Aj ((List.range i).map fun i=>n+i)).flatMap cI).length=i:=by rw[sS,jE];simp
     have b3:¬i+1<=i:=by omega
     have b4:i+1<=maxLen:=by unfold maxLen;omega
     have b5:(i+1)*24<=140737488355328:=by omega
     have b6:(i+1)*8<=140737488355328:=by omega
     have b7:¬br=E:=by omega
     have b8:¬br=E+1:=by omega
     have b9:¬bb=E:=by omega
     have o5:¬bb=E+1:=by omega
     have o6:¬bb=E+1+1:=by omega
     have p0:¬bb=E+1+1+1:=by omega
     have l6:¬bb=nx+1:=fun e=>VI (by simp[e])
     have l7:¬br=nx+1:=fun e=>VH (by simp[e])
     have p1:¬bb=br:=yS O;have p2:¬nx+1=br:=yS l7;have p3:¬nx+1=bb:=yS l6;have p4:bb<E+1+1+1:=by omega
     have p5:bb<E+1+1+1+1:=by omega
     refine⟨_,by simp only[go_sem,t0,t4,t5,t6,t7,t8,t34,t35,e6,k1,f3,g1,g2,g3,g9,g10,g11,bl,d1,d2,d3,d4,a1,a2,a3,a4,a5,a6,a7,a8,a9,h9,i0,a12,k0,k3,k4,k5,k6,k7,k8,a20,a21,l3,i4,a24,k9,l1,l2,j1,j2,b1,b2,b3,b4,b5,b6,b7,b8,b9,o5,o6,p0,l6,l7,p1,p2,p3,p4,p5];rfl,.inl ⟨_,rfl,?_⟩⟩;simp only[go_sem,t0,t4,t5,t34,t35];refine⟨rfl,rfl,by omega,fun x J=>?_,LZ (L:=L3) hi h0 e0 c3 c4 i3 (by rw[i2,i1,hs];exact LY A b hi) ?_ ?_ ?_ ?_ fun x J=>?_⟩
     .repeat rw[iZ]
      exact e5 x J
     .rw[iW]
     .rw[iY _ _ a21,iZ,iZ,iZ,iY _ _ a21,iW,hN]
     .rw[iY _ _ i4,iW]
     .repeat rw[iZ]
      rw[iW]
     .have u1:=c4 x (zU _ J)
      have e1:x≠nx+1:=fun e=>by subst e;exact(List.nodup_cons.mp c3).1 J
      have e2:x≠br:=fun e=>by subst e;exact VH (zU _ J)
      have e3:x≠bb:=fun e=>by subst e;exact VI (zU _ J)
      repeat rw[iZ]) (by
   rintro ⟨T,S,E⟩ ⟨t0,t4,t5,t34,t35,h6,e5,hM⟩;simp only at t0 t4 t5 t34 t35 h6 e5 hM;have g1:¬(m:Int)<(m:Int):=by omega
   refine⟨_,by simp only[go_sem,t34,t35,g1];rfl,by simp,_,_,_,rfl,?_⟩;exact⟨t0,t4,t5,h6,e5,hM⟩) (by
   simp only[go_sem];refine⟨rfl,by omega,fun x J=>?_,?_⟩
   .rw[iZ,iZ]
   .refine⟨.nil,.nil,0,0,[],?_,.inl ⟨rfl,rfl,rfl,rfl⟩,rfl,fun i h=>absurd h (zK _),by simp,by simp;omega,?_⟩
    .rw[iW,hN]
    .rw[iZ,iW,<- hN,<- acK])
 clear hL;obtain⟨rV,bV,br,bb,rb,e6,c6,h0,e0,c3,c4,i3⟩:=hM;obtain⟨-,rfl,rfl,j1,j2,O,VH,VI,l4,j3,l5,j4⟩:0<m/\rV= .rs br 0 m/\bV= .rs bb 0 m/\S br=some ⟨rb.map fun b=>V.rs b 0 (n+m+1),1,true⟩/\S bb=some ⟨(Aj ((List.range m).map fun i=>n+i)).flatMap cI,1,true⟩/\br≠bb/\br∉(nx+1) :: nx :: rb/\bb∉(nx+1) :: nx :: rb/\nx<=br/\br<E/\nx<=bb/\bb<E:=by
  rcases c6 with ⟨h,_⟩|h
  .omega
  .exact h
 have u2:nx+1<E:=(c4 _ (by simp)).2;have c1:8*(N:Int)<=281474976710656:=by omega
 unfold Af at t0;rw[<- hN]at e6;simp only[go_sem,t0,t4,t5,f2,f3,c1,f5];generalize hL:aA _ _=z
 obtain⟨x,rfl,T2,σ2,rfl,t0,t4,t5,t11,p6,p7,h2⟩:=rP hL N (fun k st=>st.T 0= .tp (Af m n A b c) 0/\st.T 4=I N/\st.T 5= .rp (nx+1) 0/\st.T 11= .rs E 0 N/\st.T 117=I N/\st.T 118=I k/\st.nx=E+1 /\
   st.σ nx=some ⟨(pm (fun j=>decide (j<n)) (fun _=>false) k N).flatMap Dl,1,true⟩/\st.σ E=some ⟨(pm (fun j=>if j<n then(0:Int)else -1) (fun _=>0) k N).flatMap cI,1,true⟩/\∀x,x<E->x≠nx->st.σ x=S x)
  (fun x=>∃T σ2,x=(.exit 4,⟨T,σ2,E+1⟩)/\T 0= .tp (Af m n A b c) 0/\T 4=I N/\T 5= .rp (nx+1) 0/\T 11= .rs E 0 N /\
   σ2 nx=some ⟨(VG m n).flatMap Dl,1,true⟩/\σ2 E=some ⟨(Z9 m n).flatMap cI,1,true⟩/\∀x,x<E->x≠nx->σ2 x=S x) (by
   clear hL;rintro k ⟨T,σ2,m0⟩ hk ⟨t0,t4,t5,t11,t117,Zq,G,hf,ho,hs⟩;simp only at t0 t4 t5 t11 t117 Zq G hf ho hs;subst G;have g1:(k:Int)<(N:Int):=by omega
   have g2:=nP k;have g3:=iF (n:=(k:Int)+1);have Ji:=(hs (nx+1) (by omega) (by omega)).trans e6;have q1:nx+1<E+1:=by omega
   have q2:nx<E+1:=by omega
   have q3:¬nx+1=nx:=by omega
   have q4:¬nx=nx+1:=by omega
   have q5:¬E=nx:=by omega
   have q6:((pm (fun j=>decide (j<n)) (fun _=>false) k N).flatMap Dl).length=N:=by rw[Xk,mD,yj]
   have q7:((pm (fun j=>if j<n then(0:Int)else -1) (fun _=>0) k N).flatMap cI).length=N:=by rw[sS,mD]
   have q8:k+1<=N:=hk;unfold Af at t0;have e1:∀bb,bb=decide (k<n)->((pm (fun j=>decide (j<n)) (fun _=>false) k N).flatMap Dl).set k (Bo bb)=(pm (fun j=>decide (j<n)) (fun _=>false) (k+1) N).flatMap Dl:=fun bb h=>by
    rw[Oj,h,Jl (fun j=>decide (j<n)) (fun _=>false) hk]
   by_cases c7:k<n
   .have g4:(k:Int)<(n:Int):=by omega
    have g5:¬(n:Int)<=(k:Int):=by omega
    have e2:=e1 true (by rw[uY c7]);have e3:=Oo (fun j=>if j<n then(0:Int)else -1) (fun _=>0) (k:=k) (N:=N) (by simp only[uf c7]);refine .inl ⟨_,by simp only[go_sem,t0,t4,t5,t11,t117,Zq,Ji,hf,ho,hk,g1,g2,g3,g4,g5,q1,q2,q3,q4,q5,q6,q7,q8,e2];rfl,?_⟩;simp only[go_sem,t0,t4,t5,t11,t117,q5];exact⟨rfl,rfl,by rw[ho,e3],fun x J O=>by rw[iY _ _ O];exact hs x J O⟩
   .have g4:¬(k:Int)<(n:Int):=by omega
    have g5:(n:Int)<=(k:Int):=by omega
    have e2:=e1 false (by rw[uX c7]);have e3:((pm (fun j=>if j<n then(0:Int)else -1) (fun _=>0) k N).flatMap cI).set k (I (-1))=(pm (fun j=>if j<n then(0:Int)else -1) (fun _=>0) (k+1) N).flatMap cI:=by
     rw[sQ,<- Jl (fun j=>if j<n then(0:Int)else -1) (fun _=>0) hk];simp only[ug c7]
    refine .inl ⟨_,by simp only[go_sem,t0,t4,t5,t11,t117,Zq,Ji,hf,ho,hk,g1,g2,g3,g4,g5,q1,q2,q3,q4,q5,q6,q7,q8,e2,e3];rfl,?_⟩;simp only[go_sem,t0,t4,t5,t11,t117,q5];refine⟨rfl,rfl,?_,fun x J O=>?_⟩
    .rw[iZ,iW]
    .rw[iZ,iY _ _ O];exact hs x J O) (by
   rintro ⟨T,σ2,m0⟩ ⟨t0,t4,t5,t11,t117,Zq,G,hf,ho,hs⟩;simp only at t0 t4 t5 t11 t117 Zq G hf ho hs;subst G;have g1:¬(N:Int)<(N:Int):=by omega
   refine⟨_,by simp only[go_sem,t117,Zq,g1];rfl,by simp,_,_,rfl,?_⟩;simp only[go_sem,t0,t4,t5,t11];rw[Oq]at hf ho;unfold VG Z9;rw[<- hN];exact⟨hf,ho,hs⟩) (by
   simp only[go_sem,t0,t4,t5];refine⟨rfl,?_,?_,fun x J _=>?_⟩
   .rw[iZ,Eh,lS,hN];exact i3
   .rw[Eh,lS,<- lH]
   .rw[iZ])
 clear hL;have c8:∀x∈(nx+1) :: br :: bb :: nx :: rb,nx<=x/\x<E:=fun x J=>by
  simp only[zQ]at J;rcases J with h|h|h|h|h
  .exact c4 x (by simp[h])
  .subst h;exact⟨l4,j3⟩
  .subst h;exact⟨l5,j4⟩
  .exact c4 x (by simp[h])
  .exact c4 x (by simp[h])
 have l8:((nx+1) :: br :: bb :: nx :: rb).Nodup:=by
  simp only[List.nodup_cons,zQ,not_or]at c3 VH VI⊢;exact⟨⟨fun e=>VH.1 e.symm,fun e=>VI.1 e.symm,c3.1.1,c3.1.2⟩,⟨O,VH.2.1,VH.2.2⟩,⟨VI.2.1,VI.2.2⟩,c3.2.1,c3.2.2⟩
 have hT:gV σ2 (nx+1) br bb nx rb (D0 A b m n m) (n+m):=by
  obtain⟨n1,n2,n3,n4,n5,n6,n7,n8⟩:=nd4 l8;have h7:(D0 A b m n m).R.length=m:=by simp[D0,Ei]
  refine⟨?_,⟨[],?_⟩,fun i hi=>?_,⟨[],?_⟩,p6,by rw[h7,h0],l8⟩
  .rw[h2 (nx+1) (by omega) (by omega),e6,h7,hN];rfl
  .rw[h2 br j3 n5,j1,zA]
  .have p8:=zq hi
   have:=c8 rb[i] (by simp);have e:vI (D0 A b m n m).R i=row0 A b m n i:=by
    unfold D0 Ei vI;rw[zx,yg,wu (by omega)];rfl
   rw[e];exact(e0 i hi).congr (h2 _ this.2 (n7 _ p8).2.2.2)
  .rw[h2 bb j4 n6,j2,zA];rfl
 obtain⟨u5,u6⟩:=h5 _ i6;obtain⟨c9,GV,e9,D1,ke,c5,VA,s7,p9⟩:=alD Q1 h5 e8 (afQ m n) i6 m9 hT (nx:=E+1) (fun x J=>by have:=c8 x J;omega) p7 (by omega) (fun J=>by have:=c8 E J;omega);rw[<- hN]at ke;obtain⟨q0,l9,m1,rfl,r0⟩:=ag4 e8 c5 i6;have e7:=(h5 _ m1).1.free (fr:=l9) (by rw[r0];exact(h5 _ m1).1.Rq);obtain⟨D1,r1⟩:∃D1:TZ,D1={ q0 with fr:=l9 }:=⟨_,rfl⟩;rw[<- r1]at VA c5 e7;have VJ:=VA.t;have f13:nx+1<GV:=by omega
 simp only[go_sem,sG,t0,t4,t5,t11,ke,VJ,f13];generalize hL:aA _ _=z;obtain⟨n1,n2,n3,n4,n5,n6,n7,n8⟩:=nd4 VA.nd;have u7:=e7.Ja;have r2:=VA.len;obtain⟨J9,m2⟩:=VA.r;obtain⟨Ho,j5⟩:=VA.b;have u9:(Aj D1.B).length=D1.R.length:=by rw[jE];exact e7.gq
 obtain⟨x,rfl,J⟩:=rP hL D1.R.length (fun i st=>st.T 0= .tp (Af m n A b c) 0/\st.T 4=I N/\st.T 5= .rp (nx+1) 0/\st.T 149= .rs bb 0 D1.R.length/\st.T 150=I D1.R.length/\st.T 151=I i/\st.σ=c9/\st.nx=GV/\∀j,j<i->n<=D1.B.getD j 0->¬0<en D1.R j (n+m))
  (fun x=>∃T,(x=(.exit 6,⟨T,c9,GV⟩)/\T 0= .tp (Af m n A b c) 0/\T 5= .rp (nx+1) 0/\∀j,j<D1.R.length->n<=D1.B.getD j 0->¬0<en D1.R j (n+m)) \/
   (x=(.ret,⟨T,c9,GV⟩)/\T 2= .sc (.pointer none)/\T 3=Bo false/\∃i,i<D1.R.length/\n<=D1.B.getD i 0/\0<en D1.R i (n+m))) (by
   clear hL;rintro i ⟨T,A_,BJ⟩ hi ⟨t0,t4,t5,RJ,Ot,VK,Y,h3,c0⟩;simp only at t0 t4 t5 RJ Ot VK Y h3;subst Y h3;have g1:(i:Int)<(D1.R.length:Int):=by omega
   have g2:=nP i;have g3:=iF (n:=(i:Int)+1);have g4:((Aj D1.B).flatMap cI++Ho)[i]?=some (I ((D1.B.getD i 0:Nat):Int)):=by
    rw[zZ (by rw[sS];omega),idx (by omega),jF (by have:=e7.gq;omega)]
   unfold Af at t0;have next:∀(hn:n<=D1.B.getD i 0->¬0<en D1.R i (n+m)),∀j,j<i+1->n<=D1.B.getD j 0->¬0<en D1.R j (n+m):=fun hn j hj h=>by
    by_cases e:j=i
    .subst e;exact hn h
    .exact c0 j (by omega) h
   by_cases m3:n<=D1.B.getD i 0
   .have g5:(n:Int)<=((D1.B.getD i 0:Nat):Int):=by omega
    have m4:i<rb.length:=by omega
    have f6:=lM (ex:=J9) (n:=n+m+1) m4;obtain⟨bi,Jf⟩:∃bi,bi=rb[i]:=⟨_,rfl⟩;rw[<- Jf]at f6;obtain⟨Li,Oh,CX,Oi⟩:=VA.row i m4;have m5:A_ bi=some ⟨Li.flatMap zc,2,true⟩:=by rw[Jf];exact Oh
    have rl:(vI D1.R i).length=n+m+1:=by rw[kP hi];exact e7.row _ (zq hi)
    have GU:Li.length=n+m+1:=by have:=congrArg List.length CX;rw[zB,rl]at this;exact this
    have b7:=kD (c:=zc) (s:=2) iC Li;rw[GU]at b7;have g6:=kG (c:=zc) (s:=2) iC Li N (by omega);have g7:N*2+2<=(n+m+1)*2:=by omega
    have g8:(N:Int)<((n+m+1:Nat):Int):=by omega
    obtain⟨hq,e⟩:=LU CX (c:=N) (by rw[rl];omega);have e2:(vI D1.R i)[N]'(by rw[rl];omega)=en D1.R i (n+m):=by
     unfold en;rw[zx,zy (by rw[rl];omega)];simp only[hN];rfl
    have z1:∀σ d,stripL (strip σ d) (zc Li[N])=some (cZ (en D1.R i (n+m)),[]):=fun σ d=>by
     rw[h_ σ d (Oi _ (zq hq)),e,e2]
    have k1:=oO (en D1.R i (n+m));have c1:=Ee (en D1.R i (n+m))
    by_cases e4:0<en D1.R i (n+m)
    .have c2:0<dS (en D1.R i (n+m)) 0:=by
      have:=mt c1.mp (fun h=>h e4);omega
     refine .inr ⟨_,by simp only[go_sem,t0,t4,t5,RJ,Ot,VK,VJ,j5,m2,m5,f3,f6,g1,g2,g3,g4,g5,g6,g7,g8,b7,z1,k1,c2];rfl,by simp,_,.inr ⟨rfl,?_⟩⟩;simp only[go_sem];exact⟨i,hi,m3,e4⟩
    .have c2:¬0<dS (en D1.R i (n+m)) 0:=by
      have:=c1.mpr e4;omega
     refine .inl ⟨_,by simp only[go_sem,t0,t4,t5,RJ,Ot,VK,VJ,j5,m2,m5,f3,f6,g1,g2,g3,g4,g5,g6,g7,g8,b7,z1,k1,c2];rfl,?_⟩;simp only[go_sem,t0,t4,t5,RJ,Ot];exact⟨rfl,rfl,next fun _=>e4⟩
   .have g5:¬(n:Int)<=((D1.B.getD i 0:Nat):Int):=by omega
    refine .inl ⟨_,by simp only[go_sem,t0,t4,t5,RJ,Ot,VK,j5,g1,g2,g3,g4,g5];rfl,?_⟩;simp only[go_sem,t0,t4,t5,RJ,Ot];exact⟨rfl,rfl,next fun h=>absurd h m3⟩) (by
   rintro ⟨T,A_,BJ⟩ ⟨t0,t4,t5,RJ,Ot,VK,Y,h3,c0⟩;simp only at t0 t4 t5 RJ Ot VK Y h3;subst Y h3;have g1:¬(D1.R.length:Int)<(D1.R.length:Int):=by omega
   refine⟨_,by simp only[go_sem,Ot,VK,g1];rfl,by simp,_,.inl ⟨rfl,?_⟩⟩;simp only[go_sem,t0,t5];exact c0) (by
   simp only[go_sem,t0,t4,t5];exact fun j hj=>absurd hj (zK j))
 clear hL;have i5:∀x,x<nx->c9 x=σ x:=fun x J=>by
  have e1:=p9 x (by omega) (fun h=>by
   have:=c8 x (by simp only[zQ]at h⊢;rcases h with h|h|h|h<;>simp[h]);omega)
  rw[e1,h2 x (by omega) (by omega),o0 x J]
 rcases J with ⟨T3,⟨rfl,t0,t5,c0⟩|⟨rfl,t2,t3,hi⟩⟩
 .unfold Af at t0
  have r3:=VA.f;have r4:D1.fr.length=N:=by rw[e7.Rq,hN]
  have f14:nx<GV:=by omega
  simp only[go_sem,t0,t5,VJ,f13];generalize hL:aA _ _=z
  obtain⟨x,rfl,T4,A_,rfl,t0,t5,r5,h4⟩:=rP hL N (fun k st=>st.T 0= .tp (Af m n A b c) 0/\st.T 5= .rp (nx+1) 0/\st.T 181=I N/\st.T 182=I k/\st.nx=GV /\
    st.σ nx=some ⟨(pm (fun j=>decide (j<n)) (fun j=>D1.fr.getD j false) k N).flatMap Dl,1,true⟩/\∀x,x≠nx->st.σ x=c9 x)
   (fun x=>∃T A_,x=(.exit 8,⟨T,A_,GV⟩)/\T 0= .tp (Af m n A b c) 0/\T 5= .rp (nx+1) 0/\A_ nx=some ⟨(VG m n).flatMap Dl,1,true⟩/\∀x,x≠nx->A_ x=c9 x) (by
    clear hL;rintro k ⟨T,A_,m0⟩ hk ⟨t0,t5,RN,t182,G,hf,hs⟩;simp only at t0 t5 RN t182 G hf hs;subst G;have g1:(k:Int)<(N:Int):=by omega
    have g2:=nP k;have g3:=iF (n:=(k:Int)+1);have m6:=(hs (nx+1) (by omega)).trans VJ;have q3:¬nx+1=nx:=by omega
    have q4:¬nx=nx+1:=by omega
    have q6:((pm (fun j=>decide (j<n)) (fun j=>D1.fr.getD j false) k N).flatMap Dl).length=N:=by rw[Xk,mD,yj]
    have q8:k+1<=N:=hk;have q9:(k:Int)<((n+m:Nat):Int):=by omega
    unfold Af at t0;have e1:∀bb,bb=decide (k<n)->((pm (fun j=>decide (j<n)) (fun j=>D1.fr.getD j false) k N).flatMap Dl).set k (Bo bb)=(pm (fun j=>decide (j<n)) (fun j=>D1.fr.getD j false) (k+1) N).flatMap Dl:=fun bb h=>by
     rw[Oj,h,Jl (fun j=>decide (j<n)) (fun j=>D1.fr.getD j false) hk]
    by_cases c7:k<n
    .have g4:(k:Int)<(n:Int):=by omega
     have e2:=e1 true (by rw[uY c7]);refine .inl ⟨_,by simp only[go_sem,t0,t5,RN,t182,m6,hf,hk,g1,g2,g3,g4,f13,f14,q3,q4,q6,q8,q9,e2];rfl,?_⟩;simp only[go_sem,t0,t5,RN];exact⟨rfl,rfl,fun x O=>by rw[iY _ _ O];exact hs x O⟩
    .have g4:¬(k:Int)<(n:Int):=by omega
     have e2:=e1 false (by rw[uX c7]);refine .inl ⟨_,by simp only[go_sem,t0,t5,RN,t182,m6,hf,hk,g1,g2,g3,g4,f13,f14,q3,q4,q6,q8,q9,e2];rfl,?_⟩;simp only[go_sem,t0,t5,RN];exact⟨rfl,rfl,fun x O=>by rw[iY _ _ O];exact hs x O⟩) (by
    rintro ⟨T,A_,m0⟩ ⟨t0,t5,RN,t182,G,hf,hs⟩;simp only at t0 t5 RN t182 G hf hs;subst G;have g1:¬(N:Int)<(N:Int):=by omega
    refine⟨_,by simp only[go_sem,RN,t182,g1];rfl,by simp,_,_,rfl,?_⟩;simp only[go_sem,t0,t5];rw[Oq]at hf;unfold VG;rw[<- hN];exact⟨hf,hs⟩) (by
    simp only[go_sem,t0,t5,<- hN];refine⟨rfl,?_⟩;rw[Eh,VF _ r4];exact⟨r3,fun _ _=>trivial⟩)
  clear hL;have r6:=VA.free (fr:=VG m n) (σ':=A_) r5 h4;obtain⟨Cb,r7,r8,D5,r9,s1,v6,s2,s3,s4,s5⟩:=aiH Q2 n0 (Nat.le_add_right n m) h1 n9 (j6 D1 e9 c5 c0) r6 (nx:=GV) (fun x J=>by have:=c8 x J;omega);unfold Af at t0;refine⟨_,by simp only[go_sem,sG,t0,t5,r9];rfl,?_⟩;refine⟨Cb,r7,by omega,fun x J=>?_,D1,e9,c5,.inr ⟨nx+1,br,bb,nx,r8,D5,rfl,c0,s1,s2,s3,fun x J=>?_⟩⟩
  .rw[s5 x (by omega) (fun h=>by
    have:=c8 x (by simp only[zQ]at h⊢;rcases h with h|h|h|h<;>simp[h]);omega),h4 x (by omega),i5 x J]
  .have:=c8 x (by
    simp only[zQ]at J⊢;rcases J with h|h|h|h|h
    .exact .inl h
    .exact .inr (.inl h)
    .exact .inr (.inr (.inl h))
    .exact .inr (.inr (.inr (.inl h)))
    .exact .inr (.inr (.inr (.inr (s4.subset h)))))
   omega
 .refine⟨_,by simp only[go_sem,t2,t3],c9,GV,by omega,i5,D1,e9,c5,.inl ⟨rfl,hi⟩⟩
def g_(A b c:List Int)(m n:Nat):Prog:=⟨m,n,fun j k=>((sg b k*A.getD (k*n+j) 0:Int):Rat),fun k=>((sg b k*b.getD k 0:Int):Rat),fun j=>((c.getD j 0:Int):Rat)⟩
structure GY (A b c:List Int) (m n:Nat):Prop where
 hA:A.length=m*n
 hb:b.length=m
 hc:c.length=n
 m0:0<m
 hm:m<=12
 hn:n<=16
 bA:∀x∈A,-1000<=x/\x<=1000
 bb:∀x∈b,-1000<=x/\x<=1000
 bc:∀x∈c,-1000<=x/\x<=1000
theorem Hr{l:List Int}(h:∀x∈l,-1000<=x/\x<=1000)(i:Nat):-1000<=l.getD i 0/\l.getD i 0<=1000:=by
 rw[zx]
 by_cases hi:i<l.length
 .rw[zy hi];exact h _ (zq hi)
 .rw[yZ (by omega)];simp
theorem acM(b:List Int)(i:Nat):sg b i=1\/sg b i= -1:=by
 unfold sg;split<;>simp
theorem ag5{b:List Int}{i:Nat}{x:Int}(h:-1000<=x/\x<=1000):(sg b i*x).natAbs<=1000:=by
 rcases acM b i with e|e<;>rw[e]<;>omega
theorem Zt(b:List Int)(i:Nat):0<=sg b i*b.getD i 0:=by
 unfold sg
 split<;>omega
section
variable {A b c:List Int} {m n:Nat}
theorem lg(h:GY A b c m n):Whole (g_ A b c m n) 1000 :=
 ⟨by decide,fun j k _ _=>⟨_,rfl,ag5 (Hr h.bA _)⟩,fun k _=>⟨_,rfl,ag5 (Hr h.bb _)⟩⟩
theorem Em:(g_ A b c m n).Good (g_ A b c m n).T0:=Prog.ak_ fun k _=>by
 show(0:Rat)<=((sg b k*b.getD k 0:Int):Rat)
 exact_mod_cast Zt b k
theorem Ou:∀m,m<=12->ln (fact 1000 m)<=m+1
 |0,_=>by show ln 1<=1;exact ng (by decide)
 |m+1,h=>by
  show ln ((m+1)*(1000*fact 1000 m))<=_;rw[<- Nat.mul_assoc];have E:=Fb ((m+1)*1000) (fact 1000 m);have G:=Ou m (by omega);have J:ln ((m+1)*1000)<=1:=ng (by omega);omega
theorem RP{i j k:Nat}(hi:i<k)(E:j<n+m+1):en (Ei A b m n k) i j=cell0 A b m n i j:=by
 have e:vI (Ei A b m n k) i=row0 A b m n i:=by
  unfold Ei vI;rw[zx,yg,wu hi];rfl
 unfold en;rw[e,zx,zy (by rw[kY];exact E),Ej _ _ _ _ _ E];rfl
theorem lN{k i:Nat}(h:i<k):(List.range k).getD i 0=i:=by
 rw[zx,wu h];rfl
theorem view0:Vw (g_ A b c m n) (g_ A b c m n).T0 (D0 A b m n m) (List.range m):=by
 have E:(D0 A b m n m).R.length=m:=by simp[D0,Ei]
 have Y:∀i,i<m->(D0 A b m n m).B.getD i 0=n+i:=fun i hi=>by
  unfold D0;rw[zx,yg,wu hi];rfl
 refine⟨by rw[E];simp,by rw[E];simp[D0],fun x hx=>?_,fun r J=>List.mem_range.mp J,List.nodup_range,fun i j hi hj=>?_,fun i hi=>?_,fun i hi=>?_,Int.zero_lt_one,.inl ?_,fun r J hn=>absurd (List.mem_range.mpr J) hn⟩
 .obtain⟨i,-,rfl⟩:=List.mem_map.mp hx
  rw[kY];rfl
 .rw[E]at hi
  have O:j<n+m:=hj;rw[lN hi];show((en (Ei A b m n m) i j:Int):Rat)=((1:Int):Rat)*(g_ A b c m n).A j i;rw[RP hi (by omega)];unfold cell0 Prog.A;show _=((1:Int):Rat)*(if j<n then _ else if i+n=j then 1 else 0)
  by_cases G:j<n
  .rw[uf G,uf G]
   show((sg b i*A.getD (i*n+j) 0:Int):Rat)=((1:Int):Rat)*((sg b i*A.getD (i*n+j) 0:Int):Rat);generalize ((sg b i*A.getD (i*n+j) 0:Int):Rat)=q;have:((1:Int):Rat)=1:=rfl;rw[this];grind
  .rw[ug G,ug G,uf O]
   by_cases S:j=n+i
   .rw[uf S,uf (by omega)];decide+kernel
   .rw[ug S,ug (by omega)];decide+kernel
 .rw[E]at hi
  rw[lN hi];show((en (Ei A b m n m) i (n+m):Int):Rat)=((1:Int):Rat)*((sg b i*b.getD i 0:Int):Rat);rw[RP hi (by omega)];unfold cell0;rw[ug (by omega),ug (by omega)];generalize ((sg b i*b.getD i 0:Int):Rat)=q;have:((1:Int):Rat)=1:=rfl;rw[this];grind
 .rw[E]at hi
  rw[lN hi,Y i hi];show n+i=i+n;omega
 .show((1:Int):Rat)=Lp.gZ m fun q=>(g_ A b c m n).A (q+n)
  have:=N9 m;rw[<- show Lp.gZ m (fun i k=>if i=k then(1:Rat)else 0)=Lp.gZ m fun q=>(g_ A b c m n).A (q+n)from rM fun i k _ _=>by
   have e:=Prog.BQ (p:=g_ A b c m n) (i:=i) (k:=k);rw[show(g_ A b c m n).A (i+n) k=(g_ A b c m n).A (i+(g_ A b c m n).n) k from rfl,e]
   by_cases h:i=k
   .rw[uf h,uf h.symm]
   .rw[ug h,ug (yS h)],this]
  rfl
theorem acN{p:Prog}{T:Tab}{D:TZ}{ι:List Nat}(h:Vw p T D ι):D.R.length<=p.m:=by
 rw[<- h.len];have G:ι ⊆ List.range p.m:=fun r J=>List.mem_range.mpr (h.lt r J)
 have E:=h.nd.length_le_of_subset G;rw[List.length_range]at E;exact E
theorem afU(hp:GY A b c m n){T:Tab}{D:TZ}{ι:List Nat}(h:Vw (g_ A b c m n) T D ι)(E:(g_ A b c m n).Good T):(∀i j,i<D.R.length->j<=n+m->ln (en D.R i j).natAbs<=13)/\ln D.cu.natAbs<=13:=by
 obtain⟨G,J⟩:=h.bound E (lg hp);have hm:=hp.hm;have O:=Ou m hm;have e:fact 1000 (g_ A b c m n).m=fact 1000 m:=rfl;refine⟨fun i j hi S=>?_,?_⟩
 .have:=ny (G i j hi S)
  rw[e]at this;omega
 .have:=ny J
  rw[e]at this;omega
theorem En(hp:GY A b c m n){T:Tab}{D:TZ}{ι:List Nat}(h:Vw (g_ A b c m n) T D ι)(E:(g_ A b c m n).Good T)(G:D.fr.length=n+m):Ro D (n+m)/\0<D.cu:=by
 obtain⟨J,O⟩:=h.bound E (lg hp);have S:=acN h;have hm:=hp.hm;have hn:=hp.hn;have Y:D.R.length<=m:=S;have a1:=Ou m hm;refine⟨⟨h.row,h.gq,by omega,G,by omega,fun i j hi hj=>?_,?_,fun i hi=>?_⟩,h.pos⟩
 .have:=ny (J i j hi hj)
  have e:fact 1000 (g_ A b c m n).m=fact 1000 m:=rfl;rw[e]at this;omega
 .have:=ny O
  have e:fact 1000 (g_ A b c m n).m=fact 1000 m:=rfl;rw[e]at this;omega
 .rw[h.eU i hi]
  exact E.ok.bn _ (h.io hi)
end
theorem Gt{o E:Nat->Int}(k:Nat):∀(R:List (List Int)) (B:List Nat),(∀x∈B,o x=E x)->Aa o k R B=Aa E k R B
 |[],_,_=>by simp[Aa]
 |_ :: _,[],_=>by simp[Aa]
 |x :: R,y :: B,h=>by
  unfold Aa;rw[Gt k R B fun z G=>h z (zU _ G),h y (by simp)]
theorem pX{o E:Nat->Int}{D:TZ}{N k:Nat}(h:∀j,j<N->o j=E j)(G:k<N)(J:∀x∈D.B,x<N):dB D o k=dB D E k:=by
 unfold dB;rw[h k G,Gt k D.R D.B fun x O=>h x (J x O)]
theorem jk{o G:Nat->Int}{N:Nat}(h:∀j,j<N->o j=G j){D J:TZ}(O:∀x∈D.B,x<N)(hs:AV N o D J):AV N G D J:=by
 obtain⟨s,r,E,S,Y⟩:=hs;refine⟨s,r,⟨E.lt,E.fr,E.non,?_,fun j hj hf hm=>?_⟩,S,Y⟩
 .rw[<- pX h E.lt O];exact E.pos
 .rw[<- pX h (by have:=E.lt;omega) O];exact E.low j hj hf hm
theorem Jm{o J:Nat->Int}{N:Nat}(h:∀j,j<N->J j=o j){Q:TZ->Prop}(O:∀D,Q D->∀x∈D.B,x<N)(E:∀D G,Q D->AV N J D G->Q G):∀ {k:Nat} {D:TZ},Q D->Ec N o k D->Ec N J k D
 |0,_,_,hn=>hn
 |k+1,D,hq,hn=>fun G hs=>Jm h O E (E D G hq hs) (hn G (jk h (O D hq) hs))
theorem Zu{o o':Nat->Int}{N:Nat}(h:∀j,j<N->o j=o' j){Q:TZ->Prop}(hQ:∀D,Q D->∀x∈D.B,x<N)(a1:∀D G,Q D->AV N o D G->Q G){D G:TZ}{J:Bool}(hq:Q D)(hm:N_ N o D J G):N_ N o' D J G:=by
 obtain⟨D1,hr,O⟩:=hm;have S:AX N o' D D1/\Q D1:=by
  clear O
  induction hr with
  |refl=>exact⟨.refl _,hq⟩
  |tail O Y ih=>exact⟨.tail ih.1 (jk h (hQ _ ih.2) Y),a1 _ _ ih.2 Y⟩
 have hB:=hQ _ S.2;refine⟨D1,S.1,?_⟩;rcases O with ⟨e,O,fr,⟨a6,a7⟩,h3⟩|⟨e,Y,s,h3,h4⟩
 .refine .inl ⟨e,fun j E hf hm=>?_,fr,⟨a6,fun j E=>?_⟩,h3⟩
  .rw[<- pX h E hB];exact O j E hf hm
  .rw[<- pX h E hB];exact a7 j E
 .refine .inr ⟨e,Y,s,⟨h3.lt,h3.fr,h3.non,?_,fun j E hf hm=>?_⟩,h4⟩
  .rw[<- pX h h3.lt hB];exact h3.pos
  .rw[<- pX h (by have:=h3.lt;omega) hB];exact h3.low j E hf hm
theorem Jo{D:TZ}{N:Nat}(h:Ro D N):∀x∈D.B,x<N:=fun x E=>by
 obtain⟨i,hi,e⟩:=nT E;rw[<- e];exact h.inB i (by rw[<- h.gq];exact hi)
def Ht(m n:Nat)(c:List Int)(q:Nat):List Int:=(List.range (n+m)).map (oq n (fun j=>c.getD j 0) q)
theorem RQ(f:Nat->Int){N:Nat}{j:Nat}(E:j<N):oF ((List.range N).map f) j=f j:=by
 unfold oF;rw[zx,yg,wu E];rfl
theorem alM(m n:Nat)(c:List Int)(q:Nat):oF (Ht m n c q)=oq n (fun j=>c.getD j 0) q:=by
 funext j
 by_cases E:j<n+m
 .exact RQ _ E
 .unfold oF Ht oq
  rw[zx,yZ (by simp;omega)]
  split
  .rw[ug (by omega)];rfl
  .rw[ug (by omega)];rfl
theorem Ov{m n:Nat}{c:List Int}(h:∀x∈c,-1000<=x/\x<=1000)(q:Nat):Obj (Ht m n c q) (n+m):=⟨by simp[Ht],fun x E=>by
 obtain⟨j,-,rfl⟩:=List.mem_map.mp E;have:=Hr h j;unfold oq;simp only
 split
 .split<;>omega
 .split<;>omega⟩
section
variable {A b c:List Int} {m n:Nat}
def QA(A b c:List Int)(m n:Nat)(D:TZ):Prop:=D.fr=VG m n/\∃T,Vw (g_ A b c m n) T D (List.range m)/\(g_ A b c m n).Good T
def QB(A b c:List Int)(m n:Nat)(D:TZ):Prop:=D.fr=VG m n/\∃T ι,Vw (g_ A b c m n) T D ι/\(g_ A b c m n).Good T/\Zero (g_ A b c m n) T
theorem Ox(m n:Nat):(VG m n).length=n+m:=by simp[VG]
theorem Xn(m n j:Nat):(VG m n).getD j false=true↔j<n:=by
 unfold VG;rw[zx,yg]
 by_cases h:j<n+m
 .rw[wu h];simp
 .rw[yZ (by simp;omega)];simp;omega
theorem Jp(m n:Nat):∀j,j<n+m->oF (Z9 m n) j=o1 n j:=fun j E=>RQ _ E
theorem alN{T:Tab}(o:Nat->Int)(fr:List Bool):Fit (g_ A b c m n) T (List.range m) o fr:=⟨fun r E hn=>absurd (List.mem_range.mpr E) hn,fun _ _=> .inr fun r E=>List.mem_range.mpr E⟩
theorem Oy(hp:GY A b c m n){D:TZ}(h:QA A b c m n D):Ro D (n+m)/\0<D.cu:=by
 obtain⟨E,T,G,J⟩:=h;exact En hp G J (by rw[E];exact Ox m n)
theorem aiM(hp:GY A b c m n){D:TZ}(h:QB A b c m n D):Ro D (n+m)/\0<D.cu:=by
 obtain⟨E,T,ι,G,J,_⟩:=h;exact En hp G J (by rw[E];exact Ox m n)
theorem acO(hp:GY A b c m n){D E:TZ}(h:QA A b c m n D)(hs:AV (n+m) (o1 n) D E):QA A b c m n E:=by
 obtain⟨J,T,O,G⟩:=h;obtain⟨T',g1,g2,g3⟩:=O.step G (lg hp) (alN (o1 n) D.fr) hs;exact⟨g3.trans J,T',g2,G.step g1⟩
theorem Oz(hp:GY A b c m n){D E:TZ}(h:QA A b c m n D)(hs:AV (n+m) (oF (Z9 m n)) D E):QA A b c m n E :=
 acO hp h (jk (Jp m n) (Jo (Oy hp h).1) hs)
theorem OA:QA A b c m n (D0 A b m n m):=⟨rfl,_,view0,Em⟩
theorem afV(hp:GY A b c m n):∃K,Ec (n+m) (oF (Z9 m n)) K (D0 A b m n m) :=
 ⟨_,Jm (Jp m n) (fun D h=>Jo (Oy hp h).1) (fun D E h hs=>Oz hp h hs) OA
  (Vw.ah6 (o:=o1 n) (lg hp) view0 Em (alN (o1 n) _) (agV Em.ok))⟩
def aob(A b c:List Int)(m n:Nat)(σ:Store)(nx:Nat)(r:V×Store×Nat):Prop :=
 ∃σ' nx',nx<=nx'/\(∀x,x<nx->σ' x=σ x) /\
  ((r=(.dF [.sc (.pointer none),Bo false],σ',nx')/\(g_ A b c m n).None) \/
   (∃bt br bb bf rb D T ι,r=(.dF [.rp bt 0,Bo true],σ',nx')/\gV σ' bt br bb bf rb D (n+m)/\D.fr=VG m n/\Vw (g_ A b c m n) T D ι/\(g_ A b c m n).Good T/\(g_ A b c m n).Out T/\(∀x∈D.B,x<n)/\∀x∈bt :: br :: bb :: bf :: rb,nx<=x/\x<nx'))
theorem afW(hp:GY A b c m n)(σ:Store)(nx:Nat):∃r,ev gu aY bY 143 [.tp (Af m n A b c) 0] σ nx=some r/\aob A b c m n σ nx r:=by
 obtain⟨K,hK⟩:=afV hp;have hN:(g_ A b c m n).N=n+m:=rfl;have first:∀D1 E,N_ (n+m) (oF (Z9 m n)) (D0 A b m n m) E D1->∃T,Vw (g_ A b c m n) T D1 (List.range m)/\(g_ A b c m n).Good T/\((∀i,i<D1.R.length->n<=D1.B.getD i 0->¬0<en D1.R i (n+m))->Zero (g_ A b c m n) T)/\((∃i,i<D1.R.length/\n<=D1.B.getD i 0/\0<en D1.R i (n+m))->(g_ A b c m n).None):=fun D1 E hm=>
  Y8 (p:=g_ A b c m n) (lg hp) (Zu (Jp m n) (fun D h=>Jo (Oy hp h).1) (fun D D' h hs=>Oz hp h hs) OA hm) view0 Em (fun r hr=>List.mem_range.mpr hr) (Xn m n)
 obtain⟨r,h1,σ',nx',h2,h3,D1,E,h4,S⟩:=aiI (QA A b c m n) (QB A b c m n) (c:=c) hp.hA hp.hb hp.m0 (by have:=hp.hm;omega) (by have:=hp.hn;omega) (fun x G=>by have:=hp.bA x G;omega) (fun x G=>by have:=hp.bb x G;omega)
  (fun D h=>Oy hp h) (fun D D' h hs=>Oz hp h hs) OA hK (fun D h=>aiM hp h)
  (fun D i k h hi Y hk a1=>by
   obtain⟨J,T,ι,v1,v2,v3⟩:=h;obtain⟨g1,g2,g3⟩:=Y9 (lg hp) v1 v2 v3 hi Y hk a1;refine⟨?_,_,_,g1,g2,g3⟩;rw[<- J];unfold BR;split<;>rfl)
  (fun D i h hi Y hz=>by
   obtain⟨J,T,ι,v1,v2,v3⟩:=h;exact⟨J,T,_,Vm v1 v3 hi Y hz,v2,v3⟩)
  (fun D1 E hm O=>by
   obtain⟨T,v1,v2,v3,_⟩:=first D1 E hm
   exact⟨rfl,T,_,v1.frame _,v2,v3 O⟩) σ nx
 refine⟨r,h1,σ',nx',h2,h3,?_⟩;obtain⟨T,v1,v2,v3,v4⟩:=first D1 E h4
 rcases S with ⟨rfl,S⟩|⟨bt,br,bb,bf,rb,D2,rfl,S,h6,⟨J,T2,a6,w1,w2,w3⟩,h8,h9⟩
 .exact .inl ⟨rfl,v4 S⟩
 .exact .inr ⟨bt,br,bb,bf,rb,D2,T2,a6,rfl,h6,J,w1,w2,Y_ w1 h8,fun x G=>by
   obtain⟨i,hi,e⟩:=nT G;rw[<- e];exact h8 i (by rw[<- w1.gq];exact hi),h9⟩
end
end Go.Proofs.YtjknobpihkmilaaGreat
