import Derived.Test.YtkpdoehbhmipcaaGreatTb1
import Derived.SizedLaws
import Derived.ChangeArms
import Derived.Deep.Slices
import Derived.OpenShut
import Derived.ChangeOld
import Derived.Laws.StructEq
import Derived.Shelf.Strings.OnBuilder
import Derived.Test.YtkpdoehbhmipcaaGreatProg
import Derived.KernelRfl
set_option linter.unusedSimpArgs false
set_option linter.unusedVariables false
set_option linter.unusedSectionVars false
set_option linter.defProp false
set_option maxRecDepth 10000
set_option maxHeartbeats 4000000
open Go.Proofs.Tryz renaming prog->Ze
open Go.Proofs.Tryz
open Array renaming length_toList->yX,getElem?_toList->xk
open Bool renaming and_eq_true->yc,false_eq_true->yD,not_false->wY,and_false->wJ,true_and->vw,not_eq_true'->vZ,not_true->vN,false_and->uj
open Classical renaming byContradiction->zf
open Int renaming lt_irrefl->zk,mul_le_mul_of_nonneg_right->zS,mul_le_mul_of_nonneg_left->zG,natCast_mul->zC,toNat_natCast->yS,tdiv_eq_ediv_of_nonneg->yQ,mul_add->xu,le_refl->xW,tmod_eq_emod_of_nonneg->xM,mul_zero->wB,mul_sub->vF,mul_assoc->uq,add_zero->uX,sub_mul->uM
open List renaming getElem?_eq_getElem->zy,getElem_mem->zu,take_of_length_le->zo,length_append->zl,length_take->zh,eq_nil_of_length_eq_zero->zZ,mem_cons_of_mem->zY,getElem?_append_left->zW,length_map->zV,flatMap_append->zT,mem_cons_self->zQ,flatMap_cons->zO,getElem?_append_right->zN,append_nil->zM,not_mem_nil->zJ,append_assoc->zF,length_cons->zB,mem_append_right->zA,getElem?_map->z_,drop_zero->yw,mem_append_left->yh,getElem?_eq_none->yg,take_length->yZ,cons_append->yY,getElem_of_mem->yV,drop_eq_getElem_cons->yU,take_add_one->yN,nil_append->yL,length_set->yK,length_singleton->yH,replicate_succ->xg,drop_of_length_le->xZ,map_congr_left->xO,mem_of_mem_take->xH,map_cons->x9,length_nil->wz,take_left'->wu,getElem?_toArray->wo,getElem?_cons_zero->wZ,size_toArray->wR,take_append_drop->wQ,mem_singleton->wF,flatMap_nil->wE,set_cons_zero->wC,all_nil->vP,getElem_take->uw,all_cons->uT,length_range->uS,set_eq_take_append_cons_drop->uN,drop_drop->uK,getElem?_cons_succ->tu
open Nat renaming le_refl->zq,not_lt_zero->zU,le_trans->zL,mul_le_mul_right->zK,zero_add->yu,sub_self->yP,mul_one->yO,succ_mul->yG,lt_or_eq_of_le->yC,le_of_lt_succ->yA,min_eq_left->xY,lt_of_lt_of_le->xR,div_le_self->xP,div_div_eq_div_mul->xE,div_one->xC,mul_comm->wW,add_comm->wV,mod_eq_of_lt->wO,le_max_right->wM,add_assoc->wK,mod_lt->vk,le_max_left->vY,add_mul->vT,zero_le->vS,mul_assoc->vM,div_eq_of_lt->vK,zero_mul->vC,pow_succ->vB,add_zero->uY,mul_le_mul_left->uF,div_lt_self->tq,le_mul_of_pos_left->tN
open Option renaming bind_some->zi,map_some->zH,getD_some->yB
open Option.some renaming injEq->tC
open Prod.mk renaming injEq->t_
namespace Go.TV
open Go.RowKit
set_option linter.unusedVariables false
set_option linter.unusedSimpArgs false
variable [Known]
def CLe(c c':Call):Prop:=∀f args σ nx r,c f args σ nx=some r->c' f args σ nx=some r
section
variable {P:Program} {conv:FuncId->Conv}
theorem I9{c c':Call}(h:CLe c c'){f:FuncId}{args:List V}{σ:Store}{nx:Nat}{r:V×Store×Nat}(e:BR conv c f args σ nx=some r):BR conv c' f args σ nx=some r:=by
 unfold BR at *
 split at e
 .exact h _ _ _ _ _ e
 .split at e
  .rename_i ts ids G
   try simp only[G]
   cases E:c f ts lI 0 with
   |none=>rw[E]at e;cases e
   |some q=>rw[E]at e;rw[h _ _ _ _ _ E];exact e
  .cases e
 .split at e
  .rename_i ts ids G
   try simp only[G]
   cases E:c f ts lI nx with
   |none=>rw[E]at e;cases e
   |some q=>rw[E]at e;rw[h _ _ _ _ _ E];exact e
  .cases e
theorem QT{c c':Call}{o:Oper}{T:Nat->V}{σ:Store}{nx:Nat}{r:V×Store×Nat}(h:∀f args σ r,BR conv c f args σ nx=some r->BR conv c' f args σ nx=some r)(e:Aq P conv c o T σ nx=some r):Aq P conv c' o T σ nx=some r:=by
 obtain⟨dst,op,type,pos,after,guard⟩:=o;cases op<;>simp only[Aq]at e⊢ <;>first|exact e|skip
 rename_i E;obtain⟨callee,args,ts⟩:=E;cases callee with
 |value f=>
  simp only at e⊢
  split at e
  .rename_i G
   try simp only[G]
   exact h _ _ _ _ e
  .cases e
 |builtin b=>exact e
 |invoke r m=>exact e
theorem Yp{c:Call}{o:Oper}{T:Nat->V}{σ:Store}{nx:Nat}{r:V×Store×Nat}(e:Aq P conv c o T σ nx=some r) :
  (∀c',Aq P conv c' o T σ nx=some r)\/∃f args,BR conv c f args σ nx=some r/\∀c',BR conv c' f args σ nx=some r->Aq P conv c' o T σ nx=some r:=by
 obtain⟨dst,op,type,pos,after,guard⟩:=o;cases op<;>simp only[Aq]at e⊢ <;>first|exact .inl fun _=>e|skip
 rename_i E;obtain⟨callee,args,ts⟩:=E;cases callee with
 |value f=>
  simp only at e⊢
  split at e
  .rename_i G
   try simp only[G]
   exact .inr ⟨_,_,e,fun c' h=>h⟩
  .cases e
 |builtin b=>exact .inl fun _=>e
 |invoke r m=>exact .inl fun _=>e
theorem UD{c c':Call}(h:CLe c c'){o:Oper}{T:Nat->V}{σ:Store}{nx:Nat}{r:V×Store×Nat}(e:Af P conv c o T σ nx=some r):Af P conv c' o T σ nx=some r:=by
 unfold Af at *
 split at e
 .rename_i F G
  try simp only[G]
  split at e
  .rename_i J
   rw[sZ J];cases E:Aq P conv c o T (restrict σ F) nx with
   |none=>rw[E]at e;cases e
   |some q=>rw[E]at e;rw[QT (fun f args σ r=>I9 h) E];exact e
  .cases e
 .cases e
theorem nS{c c':Call}(h:CLe c c'){ops:Array Oper}:∀(l:List Oper) (s s':St),BK P conv c ops l s=some s'->BK P conv c' ops l s=some s'
 |[],s,s',e=>e
 |o :: l,s,s',e=>by
  unfold BK at *
  split at e
  .rename_i E
   try simp only[E]
   cases G:Aq P conv c o s.T s.σ s.nx with
   |none=>rw[G]at e;cases e
   |some q=>
    rw[G]at e;rw[QT (fun f args σ r=>I9 h) G];exact nS h l _ _ e
  .rename_i E
   try simp only[E]
   exact nS h l _ _ e
  .cases e
theorem nV{c c':Call}(h:CLe c c'){ops:Array Oper}:∀(l:List Oper) (s:St) (r:St×List (List Nat)),Ba P conv c ops l s=some r->Ba P conv c' ops l s=some r
 |[],s,r,e=>e
 |o :: l,s,r,e=>by
  unfold Ba at *
  split at e
  .rename_i G
   try simp only[G]
   cases J:Af P conv c o s.T s.σ s.nx with
   |none=>rw[J]at e;cases e
   |some q=>
    rw[J]at e;rw[UD h J];simp only at e⊢;cases E:Ba P conv c ops l ⟨CP s.T o.dst q.1,q.2.1,q.2.2⟩with
    |none=>rw[E]at e;cases e
    |some O=>rw[E]at e;rw[nV h l _ _ E];exact e
  .rename_i G
   try simp only[G]
   cases E:Ba P conv c ops l ⟨CP s.T o.dst (.Au []),s.σ,s.nx⟩with
   |none=>rw[E]at e;cases e
   |some O=>rw[E]at e;rw[nV h l _ _ E];exact e
  .cases e
theorem Pe{c c':Call}(h:CLe c c'){ops:Array Oper}{s s':St}(e:B_ P conv c ops s=some s'):B_ P conv c' ops s=some s':=by
 unfold B_ at *
 split at e
 .rename_i G
  rw[sZ G];cases E:Ba P conv c ops ops.toList s with
  |none=>rw[E]at e;cases e
  |some q=>rw[E]at e;rw[nV h _ _ _ E];exact e
 .cases e
noncomputable def gI(body:St->Option (Ex×St))(s:St):Option (Ex×St) :=
 open Classical in if h:∃r,∃n,BI body n s=some r then some h.choose else none
theorem JO{body:St->Option (Ex×St)}:∀(n:Nat) (s:St) (r:Ex×St),BI body n s=some r->BI body (n+1) s=some r
 |0,s,r,h=>by cases h
 |n+1,s,r,h=>by
  unfold BI at h⊢
  split at h
  .exact JO n _ r h
  .exact h
theorem Eu{body:St->Option (Ex×St)}{n m:Nat}(E:n<=m){s:St}{r:Ex×St}(h:BI body n s=some r):BI body m s=some r:=by
 induction E with
 |refl=>exact h
 |step _ G=>exact JO _ _ _ G
theorem ng{body:St->Option (Ex×St)}{s:St}{r:Ex×St}:gI body s=some r↔∃n,BI body n s=some r:=by
 unfold gI;constructor
 .intro h
  split at h
  .rename_i hex
   simp only[tC]at h;subst h;exact hex.choose_spec
  .cases h
 .rintro ⟨n,hn⟩
  have hex:∃r,∃n,BI body n s=some r:=⟨r,n,hn⟩;rw[dif_pos hex];obtain⟨m,hm⟩:=hex.choose_spec;have G:=Eu (vY n m) hn;have E:=Eu (wM n m) hm;rw[G]at E;exact E.symm
theorem nk(body:St->Option (Ex×St))(s:St):gI body s=match body s with
  |some (.norm,s')=>gI body s'
  |r=>r:=by
 apply Option.ext;intro r;rw[ng];constructor
 .rintro ⟨n,hn⟩
  cases n with
  |zero=>cases hn
  |succ n=>
   unfold BI at hn;cases hb:body s with
   |none=>rw[hb]at hn;cases hn
   |some q=>
    rw[hb]at hn;obtain⟨ex,G⟩:=q;cases ex with
    |norm=>exact ng.2 ⟨n,hn⟩
    |exit id=>exact hn
    |ret=>exact hn
 .intro h
  split at h
  .rename_i s' hb
   obtain⟨n,hn⟩:=ng.1 h;exact⟨n+1,by unfold BI;simp only[hb];exact hn⟩
  .rename_i E
   refine⟨1,?_⟩;unfold BI
   split
   .rename_i s' hb;exact absurd hb (E s')
   .exact h
noncomputable def Ak(P:Program)(conv:FuncId->Conv)(call:Call):Code->St->Option (Ex×St)
 | .skip,s=>some (.norm,s)
 | .region _ ops draw,s=>match(if draw then B_ P conv call ops s else BK P conv call ops ops.toList s)with
  |some s'=>some (.norm,s')
  |none=>none
 | .seq a b,s=>match Ak P conv call a s with
  |some (.norm,s')=>Ak P conv call b s'
  |r=>r
 | .cond c a b,s=>match val s.T c with
  | .sc (.bool true)=>Ak P conv call a s
  | .sc (.bool false)=>Ak P conv call b s
  |_=>none
 | .block id c,s=>match Ak P conv call c s with
  |some (.exit j,s')=>if j=id then some (.norm,s')else some (.exit j,s')
  |r=>r
 | .loop c,s=>gI (Ak P conv call c) s
 | .exit id,s=>some (.exit id,s)
 | .ret,s=>some (.ret,s)
 |_,_=>none
theorem nZ{b b':St->Option (Ex×St)}(h:∀s r,b s=some r->b' s=some r):∀(n:Nat) (s:St) (r:Ex×St),BI b n s=some r->BI b' n s=some r
 |0,s,r,e=>by cases e
 |n+1,s,r,e=>by
  unfold BI at *
  split at e
  .rename_i s' hb;simp only[h _ _ hb];exact nZ h n s' r e
  .cases E:b s with
   |none=>rw[E]at e;cases e
   |some q=>
    rw[E]at e;rw[h _ _ E];obtain⟨ex,J⟩:=q;cases ex with
    |norm=>rename_i G;exact absurd E (G J)
    |exit id=>exact e
    |ret=>exact e
theorem oG{c c':Call}(h:CLe c c'){n m:Nat}(S:n<=m):∀(G:Code) (s:St) (r:Ex×St),wI P conv c n G s=some r->wI P conv c' m G s=some r:=by
 intro G
 induction G with
 |region id ops draw=>
  intro s r e;simp only[wI]at *;cases draw with
  |true=>
   simp only[if_true]at *;cases E:B_ P conv c ops s with
   |none=>rw[E]at e;cases e
   |some q=>rw[E]at e;rw[Pe h E];exact e
  |false=>
   simp only[yD,if_false]at *;cases E:BK P conv c ops ops.toList s with
   |none=>rw[E]at e;cases e
   |some q=>rw[E]at e;rw[nS h _ _ _ E];exact e
 |seq a b J O=>
  intro s r e;simp only[wI]at *;cases E:wI P conv c n a s with
  |none=>rw[E]at e;cases e
  |some q=>
   rw[E]at e;rw[J _ _ E];obtain⟨ex,s1⟩:=q;cases ex<;>first|exact O _ _ e|exact e
 |cond v a b J O=>
  intro s r e;simp only[wI]at *
  split at e
  .exact J _ _ e
  .exact O _ _ e
  .cases e
 |block id G Y=>
  intro s r e;simp only[wI]at *;cases E:wI P conv c n G s with
  |none=>rw[E]at e;cases e
  |some q=>rw[E]at e;rw[Y _ _ E];exact e
 |loop G Y=>
  intro s r e;simp only[wI]at *;exact Eu S (nZ (fun s r=>Y s r) n s r e)
 |skip=>intro s r e;exact e
 |exit id=>intro s r e;exact e
 |ret=>intro s r e;exact e
 |_=>intro s r e;simp only[wI]at e;cases e
theorem Yq{c c':Call}(h:CLe c c'){n:Nat}:∀(G:Code) (s:St) (r:Ex×St),wI P conv c n G s=some r->Ak P conv c' G s=some r:=by
 intro G
 induction G with
 |region id ops draw=>
  intro s r e;simp only[wI,Ak]at *;cases draw with
  |true=>
   simp only[if_true]at *;cases E:B_ P conv c ops s with
   |none=>rw[E]at e;cases e
   |some q=>rw[E]at e;rw[Pe h E];exact e
  |false=>
   simp only[yD,if_false]at *;cases E:BK P conv c ops ops.toList s with
   |none=>rw[E]at e;cases e
   |some q=>rw[E]at e;rw[nS h _ _ _ E];exact e
 |seq a b J O=>
  intro s r e;simp only[wI,Ak]at *;cases E:wI P conv c n a s with
  |none=>rw[E]at e;cases e
  |some q=>
   rw[E]at e;rw[J _ _ E];obtain⟨ex,s1⟩:=q;cases ex<;>first|exact O _ _ e|exact e
 |cond v a b J O=>
  intro s r e;simp only[wI,Ak]at *
  split at e
  .rename_i S;simp only[S];exact J _ _ e
  .rename_i S;simp only[S];exact O _ _ e
  .cases e
 |block id G Y=>
  intro s r e;simp only[wI,Ak]at *;cases E:wI P conv c n G s with
  |none=>rw[E]at e;cases e
  |some q=>rw[E]at e;rw[Y _ _ E];exact e
 |loop G Y=>
  intro s r e;simp only[wI,Ak]at *;exact ng.2 ⟨n,nZ (fun s r=>Y s r) n s r e⟩
 |skip=>intro s r e;exact e
 |exit id=>intro s r e;exact e
 |ret=>intro s r e;exact e
 |_=>intro s r e;simp only[wI]at e;cases e
def Chain(C:Nat->Call):Prop:=∀k,CLe (C k) (C (k+1))
theorem Chain.le{C:Nat->Call}(h:Chain C){k m:Nat}(E:k<=m):CLe (C k) (C m):=by
 induction E with
 |refl=>exact fun _ _ _ _ _ e=>e
 |step _ G=>exact fun f args σ nx r e=>h _ f args σ nx r (G f args σ nx r e)
noncomputable def sup(C:Nat->Call):Call:=fun f args σ nx=>
 open Classical in if h:∃r,∃k,C k f args σ nx=some r then some h.choose else none
theorem ak{C:Nat->Call}(E:Chain C){f:FuncId}{args:List V}{σ:Store}{nx:Nat}{r:V×Store×Nat}:sup C f args σ nx=some r↔∃k,C k f args σ nx=some r:=by
 unfold sup;constructor
 .intro h
  split at h
  .rename_i hex
   simp only[tC]at h;subst h;exact hex.choose_spec
  .cases h
 .rintro ⟨n,hn⟩
  have hex:∃r,∃k,C k f args σ nx=some r:=⟨r,n,hn⟩;rw[dif_pos hex];obtain⟨m,hm⟩:=hex.choose_spec;have J:=E.le (vY n m) _ _ _ _ _ hn;have G:=E.le (wM n m) _ _ _ _ _ hm;rw[J]at G;exact G.symm
theorem Yr{C:Nat->Call}(G:Chain C){f:FuncId}{args:List V}{σ:Store}{nx:Nat}{r:V×Store×Nat}(e:BR conv (sup C) f args σ nx=some r):∃k,BR conv (C k) f args σ nx=some r:=by
 unfold BR at *
 split at e
 .exact(ak G).1 e
 .split at e
  .rename_i ts ids J
   try simp only[J]
   cases E:sup C f ts lI 0 with
   |none=>rw[E]at e;cases e
   |some q=>
    obtain⟨k,O⟩:=(ak G).1 E;rw[E]at e;exact⟨k,by rw[O];exact e⟩
  .cases e
 .split at e
  .rename_i ts ids J
   try simp only[J]
   cases E:sup C f ts lI nx with
   |none=>rw[E]at e;cases e
   |some q=>
    obtain⟨k,O⟩:=(ak G).1 E;rw[E]at e;exact⟨k,by rw[O];exact e⟩
  .cases e
theorem UE{C:Nat->Call}(E:Chain C){o:Oper}{T:Nat->V}{σ:Store}{nx:Nat}{r:V×Store×Nat}(e:Aq P conv (sup C) o T σ nx=some r):∃k,Aq P conv (C k) o T σ nx=some r:=by
 rcases Yp e with h|⟨f,args,G,J⟩
 .exact⟨0,h _⟩
 .obtain⟨k,O⟩:=Yr E G
  exact⟨k,J _ O⟩
theorem acs{C:Nat->Call}(G:Chain C){o:Oper}{T:Nat->V}{σ:Store}{nx:Nat}{r:V×Store×Nat}(e:Af P conv (sup C) o T σ nx=some r):∃k,Af P conv (C k) o T σ nx=some r:=by
 unfold Af at *
 split at e
 .rename_i F J
  try simp only[J]
  split at e
  .rename_i O
   simp only[O,if_true];cases E:Aq P conv (sup C) o T (restrict σ F) nx with
   |none=>rw[E]at e;cases e
   |some q=>
    obtain⟨k,S⟩:=UE G E;rw[E]at e;exact⟨k,by rw[S];exact e⟩
  .cases e
 .cases e
theorem I_{C:Nat->Call}(E:Chain C){ops:Array Oper}:∀(l:List Oper) (s s':St),BK P conv (sup C) ops l s=some s'->∃k,BK P conv (C k) ops l s=some s'
 |[],s,s',e=>⟨0,e⟩
 |o :: l,s,s',e=>by
  unfold BK at e
  split at e
  .rename_i G
   cases J:Aq P conv (sup C) o s.T s.σ s.nx with
   |none=>rw[J]at e;cases e
   |some q=>
    rw[J]at e;obtain⟨k,O⟩:=UE E J;obtain⟨m,hm⟩:=I_ E l _ _ e;refine⟨max k m,?_⟩;unfold BK;simp only[G,QT (fun f args σ r=>I9 (E.le (vY k m))) O];exact nS (E.le (wM k m)) _ _ _ hm
  .rename_i G
   obtain⟨m,hm⟩:=I_ E l _ _ e;exact⟨m,by unfold BK;simp only[G];exact hm⟩
  .cases e
theorem nU{C:Nat->Call}(G:Chain C){ops:Array Oper}:∀(l:List Oper) (s:St) (r:St×List (List Nat)),Ba P conv (sup C) ops l s=some r->∃k,Ba P conv (C k) ops l s=some r
 |[],s,r,e=>⟨0,e⟩
 |o :: l,s,r,e=>by
  unfold Ba at e
  split at e
  .rename_i J
   cases O:Af P conv (sup C) o s.T s.σ s.nx with
   |none=>rw[O]at e;cases e
   |some q=>
    rw[O]at e;simp only at e;cases E:Ba P conv (sup C) ops l ⟨CP s.T o.dst q.1,q.2.1,q.2.2⟩with
    |none=>rw[E]at e;cases e
    |some S=>
     rw[E]at e;obtain⟨k,Y⟩:=acs G O;obtain⟨m,hm⟩:=nU G l _ _ E;refine⟨max k m,?_⟩;unfold Ba;simp only[J,UD (G.le (vY k m)) Y,nV (G.le (wM k m)) _ _ _ hm];exact e
  .rename_i J
   cases E:Ba P conv (sup C) ops l ⟨CP s.T o.dst (.Au []),s.σ,s.nx⟩with
   |none=>rw[E]at e;cases e
   |some S=>
    rw[E]at e;obtain⟨m,hm⟩:=nU G l _ _ E;refine⟨m,?_⟩;unfold Ba;simp only[J,hm];exact e
  .cases e
theorem Yt{C:Nat->Call}(G:Chain C){ops:Array Oper}{s s':St}(e:B_ P conv (sup C) ops s=some s'):∃k,B_ P conv (C k) ops s=some s':=by
 unfold B_ at *
 split at e
 .rename_i J
  simp only[J,if_true];cases E:Ba P conv (sup C) ops ops.toList s with
  |none=>rw[E]at e;cases e
  |some q=>
   obtain⟨k,O⟩:=nU G _ _ _ E;rw[E]at e;exact⟨k,by rw[O];exact e⟩
 .cases e
theorem LX{B:Nat->St->Option (Ex×St)}{b:St->Option (Ex×St)}(E:∀k m,k<=m->∀s r,B k s=some r->B m s=some r)(h:∀s r,b s=some r->∃k,B k s=some r) :
  ∀(n:Nat) (s:St) (r:Ex×St),BI b n s=some r->∃k,BI (B k) n s=some r
 |0,s,r,e=>by cases e
 |n+1,s,r,e=>by
  unfold BI at e
  split at e
  .rename_i s' hb
   obtain⟨k,G⟩:=h _ _ hb;obtain⟨m,hm⟩:=LX E h n s' r e;refine⟨max k m,?_⟩;unfold BI;simp only[E k _ (vY k m) _ _ G];exact nZ (E m _ (wM k m)) n s' r hm
  .rename_i J
   obtain⟨k,G⟩:=h _ _ e;refine⟨k,?_⟩;unfold BI;rw[G];obtain⟨ex,O⟩:=r;cases ex with
   |norm=>exact absurd e (J O)
   |exit id=>rfl
   |ret=>rfl
theorem UF{C:Nat->Call}(Y:Chain C):∀(J:Code) (s:St) (r:Ex×St),Ak P conv (sup C) J s=some r->∃k,wI P conv (C k) k J s=some r:=by
 intro J
 induction J with
 |region id ops draw=>
  intro s r e;simp only[wI,Ak]at *;cases draw with
  |true=>
   simp only[if_true]at *;cases E:B_ P conv (sup C) ops s with
   |none=>rw[E]at e;cases e
   |some q=>obtain⟨k,G⟩:=Yt Y E;rw[E]at e;exact⟨k,by rw[G];exact e⟩
  |false=>
   simp only[yD,if_false]at *;cases E:BK P conv (sup C) ops ops.toList s with
   |none=>rw[E]at e;cases e
   |some q=>obtain⟨k,G⟩:=I_ Y _ _ _ E;rw[E]at e;exact⟨k,by rw[G];exact e⟩
 |seq a b O S=>
  intro s r e;simp only[wI,Ak]at *;cases E:Ak P conv (sup C) a s with
  |none=>rw[E]at e;cases e
  |some q=>
   rw[E]at e;obtain⟨k,G⟩:=O _ _ E;obtain⟨ex,s1⟩:=q;cases ex with
   |norm=>
    obtain⟨m,hm⟩:=S _ _ e;exact⟨max k m,by rw[oG (Y.le (vY k m)) (vY k m) _ _ _ G];exact oG (Y.le (wM k m)) (wM k m) _ _ _ hm⟩
   |exit id=>exact⟨k,by rw[G];exact e⟩
   |ret=>exact⟨k,by rw[G];exact e⟩
 |cond v a b O S=>
  intro s r e;simp only[wI,Ak]at *
  split at e
  .rename_i hv;simp only[hv];exact O _ _ e
  .rename_i hv;simp only[hv];exact S _ _ e
  .cases e
 |block id J ih=>
  intro s r e;simp only[wI,Ak]at *;cases E:Ak P conv (sup C) J s with
  |none=>rw[E]at e;cases e
  |some q=>obtain⟨k,G⟩:=ih _ _ E;rw[E]at e;exact⟨k,by rw[G];exact e⟩
 |loop J ih=>
  intro s r e;simp only[wI,Ak]at *;obtain⟨n,hn⟩:=ng.1 e;obtain⟨k,G⟩:=LX (B:=fun k=>wI P conv (C k) k J) (fun k m a1 s r=>oG (Y.le a1) a1 J s r) (fun s r h=>ih s r h) n s r hn;refine⟨max n k,?_⟩;exact Eu (vY n k) (nZ (fun s r=>oG (Y.le (wM n k)) (wM n k) J s r) n s r G)
 |skip=>intro s r e;exact⟨0,e⟩
 |exit id=>intro s r e;exact⟨0,e⟩
 |ret=>intro s r e;exact⟨0,e⟩
 |_=>intro s r e;simp only[Ak]at e;cases e
theorem acu{c c':Call}(h:CLe c c'){n m:Nat}(E:n<=m){fn:Func}{body:Code}{args:List V}{σ:Store}{nx:Nat}{r:V×Store×Nat}(e:Gg P conv c n fn body args σ nx=some r):Gg P conv c' m fn body args σ nx=some r:=by
 unfold Gg at *;cases G:wI P conv c n body ⟨Dl args,σ,nx⟩with
 |none=>rw[G]at e;cases e
 |some q=>rw[G]at e;rw[oG h E _ _ _ G];exact e
theorem oC(ext:Ext):Chain (evF P conv ext):=by
 intro k
 induction k with
 |zero=>intro f args σ nx r e;cases e
 |succ k G=>
  intro f args σ nx r e;unfold evF at e⊢
  split at e
  .exact e
  .rename_i J
   split at e
   .rename_i fn O
    try simp only[J]
    split at e
    .rename_i body hb
     try simp only[hb]
     split at e
     .rename_i E
      rw[sZ E];exact acu G (Nat.le_succ k) e
     .cases e
    .cases e
   .cases e
noncomputable def ev(P:Program)(conv:FuncId->Conv)(ext:Ext):Call:=sup (evF P conv ext)
theorem nH(hm:P.follows .mixedOrders=true){ext:Ext}(E:Hw P ext):Dp P (ev P conv ext):=fun f args σ nx v σ' nx' h=>by
 obtain⟨k,G⟩:=(ak (oC ext)).1 h;exact O_ hm E k f args σ nx v σ' nx' G
noncomputable def UG(P:Program)(conv:FuncId->Conv)(call:Call)(rs:List ResultVar)(body:Code)(s:St):JG :=
 match Ak P conv call body s with
 |some (.norm,st)=>match Ac P st.T st.σ rs with
  |some vs=>some (oneOf vs,st.σ,st.nx)
  |none=>none
 |some (.ret,st)=>match Ac P st.T st.σ rs with
  |some vs=>some (oneOf vs,st.σ,st.nx)
  |none=>none
 |_=>none
theorem nJ{ext:Ext}{f:FuncId}{g:List V->Store->Nat->JG}(G:ext f=some g)(args:List V)(σ:Store)(nx:Nat):ev P conv ext f args σ nx=g args σ nx:=by
 apply Option.ext;intro r;unfold ev;rw[ak (oC ext)];constructor
 .rintro ⟨k,E⟩
  cases k with
  |zero=>cases E
  |succ k=>unfold evF at E;simpa only[G]using E
 .intro h
  exact⟨1,by unfold evF;simpa only[G]using h⟩
theorem alV{ext:Ext}{f:FuncId}{fn:Func}{body:Code}{rs:List ResultVar}(O:ext f=none)(S:P.funcs[f]?=some fn)(hb:fn.body=some body)(Y:fn.results.toList=rs){args:List V}(J:Uu fn body args.length=true)(σ:Store)(nx:Nat) :
  ev P conv ext f args σ nx=UG P conv (ev P conv ext) rs body ⟨Dl args,σ,nx⟩:=by
 apply Option.ext;intro r;unfold ev;rw[ak (oC ext)];constructor
 .rintro ⟨k,E⟩
  cases k with
  |zero=>cases E
  |succ k=>
   unfold evF at E;simp only[O,S,hb,J,if_true]at E;unfold Gg at E;unfold UG;cases G:wI P conv (evF P conv ext k) k body ⟨Dl args,σ,nx⟩with
   |none=>rw[G]at E;cases E
   |some q=>
    rw[G]at E;rw[Yq (c':=sup (evF P conv ext)) (fun f args σ nx r e=>(ak (oC ext)).2 ⟨k,e⟩) _ _ _ G,<- Y];exact E
 .intro h
  unfold UG at h;cases G:Ak P conv (sup (evF P conv ext)) body ⟨Dl args,σ,nx⟩with
  |none=>rw[G]at h;cases h
  |some q=>
   rw[G]at h;obtain⟨k,E⟩:=UF (oC ext) _ _ _ G;refine⟨k+1,?_⟩;unfold evF;simp only[O,S,hb,J,if_true];unfold Gg;rw[E,Y];exact h
end
end Go.TV
namespace Go.TV
set_option linter.unusedVariables false
set_option linter.unusedSimpArgs false
variable [Known]
structure TyI where
 ok:Bool
 agg:Bool
 size:Nat
 zero:List V
 slice:Bool
 str:Bool
 ptr:Bool
 Gu:Nat
 QU:Nat
 DY:List V
 QV:Bool
 aeY:List (Nat×Nat×Option Bool)
 plc:List (Nat×Nat)
 bok:Bool
 u8:Bool
def zeroV(i:TypeInfo):List V :=
 match i.zero with
 |some z=>if z.cells.size=i.size then z.cells.toList.map BG else []
 |none=>[]
def Ja(i:TypeInfo):Bool :=
 match i.zero with
 |some z=>z.cells.size=i.size
 |none=>false
def ap8(P:Program)(t:TypeId):Option Bool:=(P.underlying t).map Gz
def vI(P:Program)(t:TypeId):TyI :=
 match P.info? t,P.underlying t with
 |some i,some d=>
  let e:=match d with
   | .slice e=>P.info? e
   |_=>none
  {ok:=true,agg:=Gz d,size:=i.size,zero:=if Ja i then zeroV i else [],slice:=d matches .slice _,str:=d matches .string,ptr:=d matches .pointer _,
   Gu:=(e.map (·.size)).getD 0,QU:=(e.map (·.bytes)).getD 0,DY:=(e.map zeroV).getD [],QV:=(e.map Ja).getD false,
   aeY:=match d with
    | .struct fs=>fs.toList.map fun f=>(f.offset,((P.info? f.type).map (·.size)).getD 0,(ap8 P f.type))
    |_=>[]
   plc:=match d with
    | .struct fs=>((uI P (fs.mapM fun f=>do pure (f.offset,<- sizeOf f.type))).map (·.toList)).getD []
    |_=>[]
   bok:=match d with
    | .struct fs=>(uI P (fs.mapM fun f=>do pure (f.offset,<- sizeOf f.type))).isSome && Ja i
    |_=>false
   u8:=match d with
    | .slice e=>(P.underlying e matches some (.int .u8)) && ((P.info? e).map (·.size))==some 1
    |_=>false }
 |_,_=>⟨false,false,0,[],false,false,false,0,0,[],false,[],[],false,false⟩
section
variable {P:Program} {conv:FuncId->Conv} {call:Call} {σ:Store} {nx:Nat}
theorem aK{t:TypeId}(h:(vI P t).ok=true):∃i d,P.info? t=some i/\P.underlying t=some d/\(vI P t).agg=Gz d/\(vI P t).size=i.size:=by
 unfold vI at h⊢;cases hi:P.info? t with
 |none=>simp[hi]at h
 |some i=>
  cases E:P.underlying t with
  |none=>simp[hi,E]at h
  |some d=>exact⟨i,d,rfl,rfl,rfl,rfl⟩
theorem aJ{t:TypeId}(h:(vI P t).slice=true)(E:(vI P t).QV=true):∃e i z,P.underlying t=some (.slice e)/\P.info? e=some i/\i.zero=some z/\z.cells.size=i.size/\(vI P t).Gu=i.size/\(vI P t).QU=i.bytes/\(vI P t).DY=z.cells.toList.map BG:=by
 unfold vI at h E⊢;cases hi:P.info? t with
 |none=>simp[hi]at h
 |some i=>
  cases O:P.underlying t with
  |none=>simp[hi,O]at h
  |some d=>
   simp only[hi,O]at h E⊢;cases d<;>simp at h;rename_i e;simp only at E⊢;cases G:P.info? e with
   |none=>simp[G]at E
   |some S=>
    simp only[G,zH,yB]at E⊢;unfold Ja at E;cases J:S.zero with
    |none=>simp[J]at E
    |some z=>
     simp only[J,decide_eq_true_eq]at E;exact⟨e,S,z,rfl,G,J,E,rfl,rfl,by simp[zeroV,J,E]⟩
theorem acv{t:TypeId}{row:List V}{off:Nat}(h:(vI P t).ok=true)(J:(vI P t).agg=false):AP P σ t (.tp row off)=row[off]?:=by
 obtain⟨i,d,O,S,E,Y⟩:=aK h;rw[J]at E;unfold AP;simp only[O,S,<- E,yD,if_false,Dj]
 by_cases G:off<row.length
 .rw[sZ (by omega),zy G]
  have:(row.drop off).take 1=[row[off]]:=by
   rw[yU G];rfl
  rw[this]
 .rw[su (by omega),yg (by omega)]
theorem Yu{t:TypeId}{row:List V}{off:Nat}(h:(vI P t).ok=true)(G:(vI P t).agg=true):AP P σ t (.tp row off)=if off+(vI P t).size<=row.length then some (.agg ((row.drop off).take (vI P t).size))else none:=by
 obtain⟨i,d,J,O,E,S⟩:=aK h;rw[G]at E;unfold AP;simp only[J,O,<- E,if_true,Dj,S]
 split<;>rfl
theorem acw{t:TypeId}{b off:Nat}(h:(vI P t).ok=true)(J:(vI P t).agg=false):AP P σ t (.rp b off)=(σ b).bind fun B=>B.cells[off]?:=by
 obtain⟨i,d,O,S,E,Y⟩:=aK h;rw[J]at E;unfold AP;simp only[O,S,<- E,yD,if_false,Dj];cases σ b with
 |none=>rfl
 |some B=>
  simp only[zi]
  by_cases G:off<B.cells.length
  .rw[sZ (by omega),zy G]
   have:(B.cells.drop off).take 1=[B.cells[off]]:=by
    rw[yU G];rfl
   rw[this]
  .rw[su (by omega),yg (by omega)]
theorem Yv{t:TypeId}{b off:Nat}(h:(vI P t).ok=true)(G:(vI P t).agg=true):AP P σ t (.rp b off)=(σ b).bind fun B=>if off+(vI P t).size<=B.cells.length then some (.agg ((B.cells.drop off).take (vI P t).size))else none:=by
 obtain⟨i,d,J,O,E,S⟩:=aK h;rw[G]at E;unfold AP;simp only[J,O,<- E,if_true,Dj,S];cases σ b with
 |none=>rfl
 |some B=>simp only[zi];split<;>rfl
theorem Yw{t:TypeId}{b off:Nat}{v:V}(h:(vI P t).ok=true)(hc:qI v=true)(hs:(vI P t).size=1):C_ P σ t (.rp b off) v=(σ b).bind fun B=>if B.wr=true/\off<B.cells.length then some (upd σ b (some { B with cells:=B.cells.set off v }))else none:=by
 obtain⟨i,d,G,O,S,E⟩:=aK h;rw[hs]at E;have J:cellsOfV v=some [v]:=by cases v<;>simp_all [cellsOfV,qI]
 unfold C_;simp only[G,J,<- E,yH,uT,vP,hc,Bool.and_true,and_true,true_and,patch];cases σ b with
 |none=>rfl
 |some B=>simp only[zi];rfl
theorem UH{t:TypeId}{b off:Nat}{vs:List V}(h:(vI P t).ok=true):C_ P σ t (.rp b off) (.agg vs)=(σ b).bind fun B=>if B.wr=true/\vs.length=(vI P t).size/\off+vs.length<=B.cells.length/\vs.all qI=true then some (upd σ b (some { B with cells:=patch B.cells off vs }))else none:=by
 obtain⟨i,d,E,J,O,G⟩:=aK h;unfold C_;simp only[E,G,cellsOfV];cases σ b with
 |none=>rfl
 |some B=>simp only[zi]
theorem Pg{t:TypeId}{f:Nat}(h:(vI P t).ok=true) :
  (∃fields fd,P.underlying t=some (.struct fields)/\fields[f]?=some fd/\(vI P t).aeY[f]?=some (fd.offset,((P.info? fd.type).map (·.size)).getD 0,ap8 P fd.type)) \/
  ((vI P t).aeY[f]?=none/\∀fields,P.underlying t=some (.struct fields)->fields[f]?=none):=by
 obtain⟨i,d,G,J,O,S⟩:=aK h;unfold vI;simp only[G,J];cases d<;>try (refine .inr ⟨rfl,fun fields e=>by cases e⟩)
 rename_i fs;simp only[z_,xk];cases E:fs[f]? with
 |none=>exact .inr ⟨rfl,fun fields e=>by cases e;exact E⟩
 |some fd=>exact .inl ⟨fs,fd,rfl,E,rfl⟩
theorem Yx{t:TypeId}{row:List V}{off f:Nat}(h:(vI P t).ok=true):Bq P t (.tp row off) f=((vI P t).aeY[f]?).bind fun p=>if p.2.1=0 then none else some (.tp row (off+p.1)):=by
 rcases Pg (f:=f) h with ⟨fields,fd,E,G,J⟩|⟨E,G⟩
 .unfold Bq
  simp only[E,G,J,zi];cases P.info? fd.type<;>rfl
 .unfold Bq
  rw[E];cases hu:P.underlying t with
  |none=>rfl
  |some d=>cases d<;>first|(simp;done)|(rename_i fs;simp[G fs hu])
theorem Yy{t:TypeId}{b off f:Nat}(h:(vI P t).ok=true):Bq P t (.rp b off) f=((vI P t).aeY[f]?).bind fun p=>if p.2.1=0 then none else some (.rp b (off+p.1)):=by
 rcases Pg (f:=f) h with ⟨fields,fd,E,G,J⟩|⟨E,G⟩
 .unfold Bq
  simp only[E,G,J,zi];cases P.info? fd.type<;>rfl
 .unfold Bq
  rw[E];cases hu:P.underlying t with
  |none=>rfl
  |some d=>cases d<;>first|(simp;done)|(rename_i fs;simp[G fs hu])
theorem Yz{t:TypeId}{row:List V}{len:Nat}{k:IntKind}{i:Int}(h:(vI P t).slice=true)(E:(vI P t).QV=true):BU P t (.ts row len) (.sc (.int k i))=if 0<=i/\i<len/\row≠[]then some (.tp row (i.toNat *(vI P t).Gu))else none:=by
 obtain⟨e,S,z,G,J,_,_,O,_,_⟩:=aJ h E;unfold BU;simp only[G,J,O]
theorem YA{t:TypeId}{b off len:Nat}{k:IntKind}{i:Int}(h:(vI P t).slice=true)(E:(vI P t).QV=true):BU P t (.rs b off len) (.sc (.int k i))=if 0<=i/\i<len then some (.rp b (off+i.toNat *(vI P t).Gu))else none:=by
 obtain⟨e,S,z,G,J,_,_,O,_,_⟩:=aJ h E;unfold BU;simp only[G,J,O]
theorem acy{t:TypeId}{l c:Int}(h:(vI P t).slice=true)(J:(vI P t).QV=true)(E:decide ((vI P t).Gu<1000000)=true):Ez P t (.sc (.int .i64 l)) (.sc (.int .i64 c)) σ nx=
  if 0<=l/\l<=c/\((vI P t).QU:Int)*c<=281474976710656/\c<=9223372036854775807/\0<(vI P t).Gu then some (.rs nx 0 l.toNat,Aj σ nx (rep l.toNat (vI P t).DY) (vI P t).Gu,nx+1)else none:=by
 obtain⟨e,ei,z,O,S,Y,h4,G,h6,h7⟩:=aJ h J;unfold Ez;rw[decide_eq_true_eq]at E;simp only[G]at E;simp only[O,S,Y,G,h6,h7,h4,and_true,E]
theorem oH{t:TypeId}{len:Nat}{parts:List (Nat×V)}(h:(vI P t).slice=true)(G:(vI P t).QV=true):BJ P t len parts σ nx=
  if len=0 then some (.nil,σ,nx)else if 0<(vI P t).Gu/\len*(vI P t).Gu<=1000 then
   match Ce (fun j=>some (j*(vI P t).Gu,(vI P t).Gu)) (rep len (vI P t).DY) parts with
   |some cells=>some (.rs nx 0 len,Aj σ nx cells (vI P t).Gu,nx+1)
   |none=>none
  else none:=by
 obtain⟨e,E,z,J,O,S,Y,h5,h6,h7⟩:=aJ h G;unfold BJ;simp only[J,O,S,h5,h6,h7,Y,and_true];cases Ce (fun j=>some (j*E.size,E.size)) (rep len (z.cells.toList.map BG)) parts<;>rfl
theorem YB{t:TypeId}{parts:List (Nat×V)}(h:(vI P t).bok=true):FH P t parts=(Ce (fun i=>(vI P t).plc[i]?) (vI P t).zero parts).map .agg:=by
 unfold vI at h⊢;cases hi:P.info? t with
 |none=>simp[hi]at h
 |some i=>
  cases G:P.underlying t with
  |none=>simp[hi,G]at h
  |some d=>
   simp only[hi,G]at h⊢;cases d<;>simp only[yD]at h;rename_i fs;rw[yc]at h;obtain⟨O,E⟩:=h;simp only[E,if_true];cases hm:uI P (fs.mapM fun f=>do pure (f.offset,<- sizeOf f.type))with
   |none=>rw[hm]at O;cases O
   |some a=>
    unfold Ja at E;cases J:i.zero with
    |none=>simp[J]at E
    |some z=>
     simp only[J,decide_eq_true_eq]at E;unfold FH places;simp only[hi,G,hm,zH,yB,J,zeroV,E,if_true,xk]
theorem UJ{t:TypeId}{s x:V}(h:(vI P t).slice=true)(J:(vI P t).QV=true)(hs:decide (0<(vI P t).Gu)=true)(E:decide ((vI P t).Gu<1000000)=true):Dt P #[t,t] s x σ nx=
  (rowOf σ (vI P t).Gu x).bind fun p=>Ae σ nx (vI P t).Gu (vI P t).QU s p.1 p.2:=by
 obtain⟨e,O,z,S,Y,h3,h4,G,h6,h7⟩:=aJ h J;rw[G]at hs E;simp only[decide_eq_true_eq]at hs E;unfold Dt;simp only[wo,wZ,tu,S,beq_self_eq_true,Y,h3,G,h6,h4,hs,E,and_self,if_true];cases rowOf σ O.size x<;>rfl
def LY(σ:Store)(nx:Nat)(row:List V)(m:Nat):V->JG
 | .rs b off len=>if min m len=0 then some (.sc (.int .i64 0),σ,nx)else(σ b).bind fun B=>
   if B.wr=true/\off+min m len<=B.cells.length/\(row.take (min m len)).all qI=true then
    some (.sc (.int .i64 (min m len:Nat)),upd σ b (some { B with cells:=patch B.cells off (row.take (min m len)) }),nx)else none
 | .nil=>some (.sc (.int .i64 0),σ,nx)
 |_=>none
def Ew(σ:Store)(nx:Nat)(z:List V):V->JG
 | .rs b off len=>if len=0 then some (.Au [],σ,nx)else(σ b).bind fun B=>
   if B.wr=true/\off+len<=B.cells.length/\(rep len z).all qI=true then
    some (.Au [],upd σ b (some { B with cells:=patch B.cells off (rep len z) }),nx)else none
 | .nil=>some (.Au [],σ,nx)
 | .ts _ len=>if len=0 then some (.Au [],σ,nx)else none
 |_=>none
theorem acz{t t2:TypeId}{d x:V}(h:(vI P t).slice=true)(E:(vI P t).QV=true)(hs:(vI P t).Gu=1):GN P #[t,t2] d x σ nx=(rowOf σ 1 x).bind fun p=>LY σ nx p.1 p.2 d:=by
 obtain⟨e,S,z,G,J,Y,h4,O,h6,h7⟩:=aJ h E;rw[O]at hs;unfold GN LY;simp only[wo,wZ,G,J];cases rowOf σ 1 x with
 |none=>rfl
 |some p=>
  obtain⟨row,m⟩:=p;simp only[hs,wR,zB,wz,zi];rw[sZ ⟨trivial,trivial⟩];cases d<;>try rfl
  rename_i b off len;simp only
  split
  .rfl
  .cases σ b<;>rfl
theorem YC{t:TypeId}{d:V}(h:(vI P t).slice=true)(E:(vI P t).QV=true)(hs:(vI P t).Gu=1):FI P #[t] d σ nx=Ew σ nx (vI P t).DY d:=by
 obtain⟨e,ei,z,G,J,O,S,Y,h6,h7⟩:=aJ h E;rw[Y]at hs;unfold FI Ew;rw[h7];simp only[wo,wZ,G,J,O,S,hs];rw[sZ ⟨trivial,trivial⟩];cases d<;>try rfl
 rename_i b off len;simp only
 split
 .rfl
 .cases σ b<;>rfl
theorem UK{t:TypeId}{row:List V}{len:Nat}(h:(vI P t).slice=true):Dw P t (.ts row len)=some (.sc (.int .i64 len)):=by
 unfold vI at h;cases hi:P.info? t with
 |none=>simp[hi]at h
 |some i=>
  cases E:P.underlying t with
  |none=>simp[hi,E]at h
  |some d=>simp only[hi,E]at h;cases d<;>simp at h;simp[Dw,E]
theorem ny{t:TypeId}{b off len:Nat}(h:(vI P t).slice=true):Dw P t (.rs b off len)=some (.sc (.int .i64 len)):=by
 unfold vI at h;cases hi:P.info? t with
 |none=>simp[hi]at h
 |some i=>
  cases E:P.underlying t with
  |none=>simp[hi,E]at h
  |some d=>simp only[hi,E]at h;cases d<;>simp at h;simp[Dw,E]
theorem o_{t:TypeId}(h:(vI P t).slice=true):Dw P t .nil=some (.sc (.int .i64 0)):=by
 unfold vI at h;cases hi:P.info? t with
 |none=>simp[hi]at h
 |some i=>
  cases E:P.underlying t with
  |none=>simp[hi,E]at h
  |some d=>simp only[hi,E]at h;cases d<;>simp at h;simp[Dw,E]
theorem KN{t:TypeId}(h:(vI P t).str=true):P.underlying t=some .string:=by
 unfold vI at h;cases hi:P.info? t with
 |none=>simp[hi]at h
 |some i=>
  cases E:P.underlying t with
  |none=>simp[hi,E]at h
  |some d=>simp only[hi,E]at h;cases d<;>simp at h;rfl
theorem acA{t:TypeId}{s:ByteArray}(h:(vI P t).str=true):Dw P t (.sc (.string s))=some (.sc (.int .i64 s.size)):=by
 simp[Dw,KN h]
theorem acB{t:TypeId}{s:ByteArray}{k:IntKind}{i:Int}(h:(vI P t).str=true):Gt P t (.sc (.string s)) (.sc (.int k i))=(if 0<=i then s[i.toNat]? else none).map fun b=> .sc (.int .u8 b.toNat):=by
 unfold Gt;simp only[KN h]
 split<;>rename_i e<;>rw[e]<;>rfl
theorem UL{t:TypeId}{s:ByteArray}{lo hi:Option V}(h:(vI P t).str=true):AL P t (.sc (.string s)) lo hi none σ=(bnd lo 0).bind fun l=>(bnd hi s.size).bind fun h=>if l<=h/\h<=s.size then some (.sc (.string (s.extract l h)))else none:=by
 unfold AL;simp only[KN h];cases bnd lo 0<;>cases bnd hi s.size<;>rfl
theorem YD{t:TypeId}{row:List V}{len:Nat}{lo hi:Option V}(h:(vI P t).slice=true)(E:(vI P t).QV=true):AL P t (.ts row len) lo hi none σ=(bnd lo 0).bind fun l=>(bnd hi len).bind fun h=>if l<=h/\h<=len then some (.ts ((row.drop (l*(vI P t).Gu)).take ((h-l)*(vI P t).Gu)) (h-l))else none:=by
 obtain⟨e,S,z,G,J,Y,h4,O,h6,h7⟩:=aJ h E;unfold AL;simp only[G,J,O];cases bnd lo 0<;>cases bnd hi len<;>rfl
theorem YE{t:TypeId}{b off len:Nat}{lo hi:Option V}(h:(vI P t).slice=true)(E:(vI P t).QV=true):AL P t (.rs b off len) lo hi none σ=(bnd lo 0).bind fun l=>(bnd hi len).bind fun h=>(σ b).bind fun B=>
  if l<=h/\0<(vI P t).Gu/\B.st=(vI P t).Gu/\off+h*(vI P t).Gu<=B.cells.length then
   if l=0 then some (.rs b off h)else if l=h then some (.ts [] 0)else some (.rs b (off+l*(vI P t).Gu) (h-l))else none:=by
 obtain⟨e,S,z,G,J,Y,h4,O,h6,h7⟩:=aJ h E;unfold AL;simp only[G,J,O];cases bnd lo 0<;>cases bnd hi len<;>cases σ b<;>rfl
theorem aeZ(v:Value):toVal (.sc v)=some v:=rfl
section
variable {t:TypeId} {x y:Operand} {k:IntKind} {a b:Int}
theorem amr:AB P .add t x y (.sc (.int k a)) (.sc (.int k b))=some (.sc (.int k (k.wrap (a+b)))):=by
 simp only[AB,toVal,eqGuard_add,binOp_add,Op.intArith];rfl
theorem ams:AB P .sub t x y (.sc (.int k a)) (.sc (.int k b))=some (.sc (.int k (k.wrap (a-b)))):=by
 simp only[AB,toVal,eqGuard_sub,binOp_sub,Op.intArith];rfl
theorem amu:AB P .mul t x y (.sc (.int k a)) (.sc (.int k b))=some (.sc (.int k (k.wrap (a*b)))):=by
 simp only[AB,toVal,eqGuard_mul,binOp_mul,Op.intArith];rfl
theorem amv(h:b≠0):AB P .quo t x y (.sc (.int k a)) (.sc (.int k b))=some (.sc (.int k (k.wrap (a.tdiv b)))):=by
 simp only[AB,toVal,eqGuard_quo,binOp_quo,Op.intDiv,su h];rfl
theorem amw(h:b≠0):AB P .rem t x y (.sc (.int k a)) (.sc (.int k b))=some (.sc (.int k (a.tmod b))):=by
 simp only[AB,toVal,eqGuard_rem,binOp_rem,Op.intDiv,su h];rfl
theorem amx:AB P .eql t x y (.sc (.int k a)) (.sc (.int k b))=some (.sc (.bool (a==b))):=by
 simp only[AB,toVal,eqGuard_at_int,binOp_eql];rfl
theorem amy:AB P .neq t x y (.sc (.int k a)) (.sc (.int k b))=some (.sc (.bool (a !=b))):=by
 simp only[AB,toVal,eqGuard_at_int,binOp_neq];rfl
theorem amA:AB P .lss t x y (.sc (.int k a)) (.sc (.int k b))=some (.sc (.bool (decide (a<b)))):=by
 simp only[AB,toVal,eqGuard_lss,binOp_lss];rfl
theorem amB:AB P .leq t x y (.sc (.int k a)) (.sc (.int k b))=some (.sc (.bool (decide (a<=b)))):=by
 simp only[AB,toVal,eqGuard_leq,binOp_leq];rfl
theorem amC:AB P .gtr t x y (.sc (.int k a)) (.sc (.int k b))=some (.sc (.bool (decide (b<a)))):=by
 simp only[AB,toVal,eqGuard_gtr,binOp_gtr];rfl
theorem amD:AB P .geq t x y (.sc (.int k a)) (.sc (.int k b))=some (.sc (.bool (decide (b<=a)))):=by
 simp only[AB,toVal,eqGuard_geq,binOp_geq];rfl
theorem amE{p:Bool}:Ya P .not (.sc (.bool p))=some (.sc (.bool !p)):=rfl
theorem amF:Ya P .neg (.sc (.int k a))=some (.sc (.int k (k.wrap (0-a)))):=rfl
end
end
end Go.TV
namespace Go.TV
set_option linter.unusedVariables false
set_option linter.unusedSimpArgs false
variable [Known]
section
variable {P:Program} {conv:FuncId->Conv} {call:Call}
def ae0(P:Program)(conv:FuncId->Conv)(call:Call)(ops:Array Oper)(rest:List Oper)(T:Nat->V)(d:Option Tmp):JG->Option St
 |some (v,σ,nx)=>BK P conv call ops rest ⟨CP T d v,σ,nx⟩
 |none=>none
def aiO(P:Program)(conv:FuncId->Conv)(call:Call)(ops:Array Oper)(rest:List Oper)(o:Oper)(s:St):Option Bool->Option St
 |some true=>ae0 P conv call ops rest s.T o.dst (Aq P conv call o s.T s.σ s.nx)
 |some false=>BK P conv call ops rest ⟨CP s.T o.dst (.Au []),s.σ,s.nx⟩
 |none=>none
theorem acC(ops:Array Oper)(s:St):BK P conv call ops [] s=some s:=rfl
theorem YF(ops:Array Oper)(d:Option Tmp)(op:Op)(ty:TypeId)(ps:String)(af:Array Edge)(rest:List Oper)(T:Nat->V)(σ:Store)(nx:Nat) :
  BK P conv call ops (⟨d,op,ty,ps,af,none⟩ :: rest) ⟨T,σ,nx⟩=ae0 P conv call ops rest T d (Aq P conv call ⟨d,op,ty,ps,af,none⟩ T σ nx):=by
 show(match Aq P conv call ⟨d,op,ty,ps,af,none⟩ T σ nx with|some (v,σ',nx')=>_|none=>none)=_;cases Aq P conv call ⟨d,op,ty,ps,af,none⟩ T σ nx<;>rfl
theorem UM(ops:Array Oper)(d:Option Tmp)(op:Op)(ty:TypeId)(ps:String)(af:Array Edge)(g:Nat×Bool)(rest:List Oper)(T:Nat->V)(σ:Store)(nx:Nat) :
  BK P conv call ops (⟨d,op,ty,ps,af,some g⟩ :: rest) ⟨T,σ,nx⟩=aiO P conv call ops rest ⟨d,op,ty,ps,af,some g⟩ ⟨T,σ,nx⟩ (AX ops T ⟨d,op,ty,ps,af,some g⟩):=by
 show(match AX ops T ⟨d,op,ty,ps,af,some g⟩with|some true=>_|some false=>_|none=>none)=_;cases AX ops T ⟨d,op,ty,ps,af,some g⟩with
 |none=>rfl
 |some b=>
  cases b with
  |false=>rfl
  |true=>
   simp only[aiO];cases Aq P conv call ⟨d,op,ty,ps,af,some g⟩ T σ nx<;>rfl
theorem acD(ops:Array Oper)(rest:List Oper)(T:Nat->V)(d:Tmp)(v:V)(σ:Store)(nx:Nat):ae0 P conv call ops rest T (some d) (some (v,σ,nx))=BK P conv call ops rest ⟨upd T d v,σ,nx⟩:=rfl
theorem acE(ops:Array Oper)(rest:List Oper)(T:Nat->V)(v:V)(σ:Store)(nx:Nat):ae0 P conv call ops rest T none (some (v,σ,nx))=BK P conv call ops rest ⟨T,σ,nx⟩:=rfl
theorem acF(ops:Array Oper)(rest:List Oper)(d:Option Tmp)(op:Op)(ty:TypeId)(ps:String)(af:Array Edge)(g:Option (Nat×Bool))(T:Nat->V)(σ:Store)(nx:Nat) :
  aiO P conv call ops rest ⟨d,op,ty,ps,af,g⟩ ⟨T,σ,nx⟩ (some true)=ae0 P conv call ops rest T d (Aq P conv call ⟨d,op,ty,ps,af,g⟩ T σ nx):=rfl
theorem YG(ops:Array Oper)(rest:List Oper)(d:Tmp)(op:Op)(ty:TypeId)(ps:String)(af:Array Edge)(g:Option (Nat×Bool))(T:Nat->V)(σ:Store)(nx:Nat) :
  aiO P conv call ops rest ⟨some d,op,ty,ps,af,g⟩ ⟨T,σ,nx⟩ (some false)=BK P conv call ops rest ⟨upd T d (.Au []),σ,nx⟩:=rfl
def QW(want:Bool):V->Option Bool
 | .sc (.bool b)=>some (b==want)
 | .Au []=>some false
 |_=>none
theorem QX(ops:Array Oper)(d:Option Tmp)(op:Op)(ty:TypeId)(ps:String)(af:Array Edge)(j:Nat)(want:Bool)(T:Nat->V) :
  AX ops T ⟨d,op,ty,ps,af,some (j,want)⟩=match(ops[j]?).bind (·.dst)with|some d=>QW want (T d)|none=>some false:=by
 unfold AX QW;rfl
theorem UN(want b:Bool):QW want (.sc (.bool b))=some (b==want):=rfl
theorem QY(want:Bool):QW want (.Au [])=some false:=rfl
theorem aiP(T:Nat->V)(t:Tmp):val T (.tmp t)=T t:=rfl
theorem acG(T:Nat->V)(v:Value):val T (.const v)=Gy v:=rfl
theorem ae1(T:Nat->V)(f:FuncId):val T (.func f)= .clo f []:=rfl
section
variable (d:Option Tmp) (ty:TypeId) (ps:String) (af:Array Edge) (gd:Option (Nat×Bool)) (T:Nat->V) (σ:Store) (nx:Nat)
theorem aiQ(x:Operand):Aq P conv call ⟨d,.move x,ty,ps,af,gd⟩ T σ nx=some (val T x,σ,nx):=rfl
theorem acH(x:Operand):Aq P conv call ⟨d,.assign x,ty,ps,af,gd⟩ T σ nx=some (val T x,σ,nx):=rfl
def aa2(a b:V):V->Option V
 | .sc (.bool t)=>some (if t then a else b)
 |_=>none
theorem aa3(c a b:Operand):Aq P conv call ⟨d,.pick c a b,ty,ps,af,gd⟩ T σ nx=(aa2 (val T a) (val T b) (val T c)).map (·,σ,nx):=by
 simp only[Aq];unfold aa2
 split<;>simp_all
theorem YH(a b:V)(t:Bool):aa2 a b (.sc (.bool t))=some (if t then a else b):=rfl
theorem ap9:isB []=false:=id rfl
theorem ap_(v:V):isB [v]=false:=id rfl
theorem ap'(u v w:V)(l:List V):isB (u :: v :: w :: l)=false:=id rfl
theorem amG(v w:V):isB [v,w]=(isP v && isN w):=id rfl
theorem aiR:isP .nil=false:=id rfl
theorem aiS(k:IntKind)(n:Int):isP (.sc (.int k n))=false:=id rfl
theorem ae2(b:Bool):isP (.sc (.bool b))=false:=id rfl
theorem YI(b:ByteArray):isP (.sc (.string b))=false:=id rfl
theorem ae3:isP (.sc (.pointer none))=true:=id rfl
theorem aiT:isN .nil=true:=id rfl
theorem amH(v:Value):isN (.sc v)=false:=id rfl
theorem UO(t:TypeId)(h:(vI P t).ok=true)(E:decide ((vI P t).zero.length=(vI P t).size)=true)(J:decide (0<(vI P t).size)=true)(hb:isB (vI P t).zero=false):Aq P conv call ⟨d,.alloc t,ty,ps,af,gd⟩ T σ nx=some (.rp nx 0,Aj σ nx (vI P t).zero 0,nx+1):=by
 obtain⟨i,Y,O,S,h3,h4⟩:=aK h;simp only[Aq,O];unfold vI at E J hb⊢;simp only[O,S,decide_eq_true_eq]at E J hb⊢;unfold Ja zeroV at *;cases G:i.zero with
 |none=>simp[G]at E;omega
 |some z=>
  simp only[G]at E hb⊢
  by_cases hs:z.cells.size=i.size
  .simp only[hs,decide_true,if_true]at hb
   simp[hs,O5,hb]
  .simp[hs]at E;omega
theorem ae4(t:TypeId)(x:Operand):Aq P conv call ⟨d,.box t x,ty,ps,af,gd⟩ T σ nx=(cellsOfV (val T x)).map fun cs=>(.rp nx 0,Aj σ nx cs 0,nx+1):=by
 simp only[Aq];cases cellsOfV (val T x)<;>rfl
theorem ae5(t:TypeId)(parts:Array (Nat×Operand)):Aq P conv call ⟨d,.build t parts,ty,ps,af,gd⟩ T σ nx=(FH P t (parts.toList.map fun p=>(p.1,val T p.2))).map (·,σ,nx):=rfl
theorem jB(t:TypeId)(len:Nat)(parts:Array (Nat×Operand))(h:(decide (len=0) && !parts.isEmpty)=false):Aq P conv call ⟨d,.buildSlice t len parts,ty,ps,af,gd⟩ T σ nx=BJ P t len (parts.toList.map fun p=>(p.1,val T p.2)) σ nx:=by
 simp only[Aq,h,yD,if_false]
theorem aiU(t:TypeId)(a:Operand):Aq P conv call ⟨d,.load t a,ty,ps,af,gd⟩ T σ nx=(AP P σ t (val T a)).map (·,σ,nx):=rfl
theorem ae6(t:TypeId)(a x:Operand):Aq P conv call ⟨d,.store t a x,ty,ps,af,gd⟩ T σ nx=(C_ P σ t (val T a) (val T x)).map (.Au [],·,nx):=rfl
def ae7:V->Option V
 | .tp row off=>some (.tp row off)
 | .rp b off=>some (.rp b off)
 |_=>none
theorem JQ(x:Operand):Aq P conv call ⟨d,.nilCheck x,ty,ps,af,gd⟩ T σ nx=(ae7 (val T x)).map (·,σ,nx):=by
 simp only[Aq];unfold ae7
 split<;>simp_all
theorem aiV(row:List V)(off:Nat):ae7 (.tp row off)=some (.tp row off):=rfl
theorem aiW(b off:Nat):ae7 (.rp b off)=some (.rp b off):=rfl
theorem ae8(op:BinOp)(t:TypeId)(x y:Operand)(E:TypeId):Aq P conv call ⟨d,.binOp op t x y E,ty,ps,af,gd⟩ T σ nx=(AB P op t x y (val T x) (val T y)).map (·,σ,nx):=rfl
theorem aiX(op:UnOp)(t:TypeId)(x:Operand):Aq P conv call ⟨d,.unOp op t x,ty,ps,af,gd⟩ T σ nx=(Ya P op (val T x)).map (·,σ,nx):=rfl
theorem YJ(s e:TypeId)(x:Operand):Aq P conv call ⟨d,.convert s e x,ty,ps,af,gd⟩ T σ nx=(BL P s e (val T x) σ).map (·,σ,nx):=rfl
theorem UQ(f:FuncId)(cap:Array Operand):Aq P conv call ⟨d,.makeFunc (.func f) #[] cap,ty,ps,af,gd⟩ T σ nx=some (.clo f (cap.toList.map (val T)),σ,nx):=rfl
theorem Hy(t:TypeId)(l c:Operand):Aq P conv call ⟨d,.makeSlice t l c,ty,ps,af,gd⟩ T σ nx=Ez P t (val T l) (val T c) σ nx:=rfl
theorem ae9(t:TypeId)(x:Operand)(lo hi E:Option Operand):Aq P conv call ⟨d,.slice t x lo hi E,ty,ps,af,gd⟩ T σ nx=(AL P t (val T x) (lo.map (val T)) (hi.map (val T)) (E.map (val T)) σ).map (·,σ,nx):=rfl
theorem QZ(t:TypeId)(x:Operand)(f:Nat):Aq P conv call ⟨d,.fieldAddr t x f,ty,ps,af,gd⟩ T σ nx=(Bq P t (val T x) f).map (·,σ,nx):=rfl
theorem ae_(t:TypeId)(x:Operand)(f:Nat):Aq P conv call ⟨d,.field t x f,ty,ps,af,gd⟩ T σ nx=(KL P t (val T x) f).map (·,σ,nx):=rfl
theorem Q5(t:TypeId)(x i:Operand):Aq P conv call ⟨d,.indexAddr t x i,ty,ps,af,gd⟩ T σ nx=(BU P t (val T x) (val T i)).map (·,σ,nx):=rfl
theorem ae'(t:TypeId)(x i:Operand):Aq P conv call ⟨d,.index t x i,ty,ps,af,gd⟩ T σ nx=(Gt P t (val T x) (val T i)).map (·,σ,nx):=rfl
def aiY(i:Nat):V->Option V
 | .Au vs=>vs[i]?
 |_=>none
theorem LZ(x:Operand)(i:Nat):Aq P conv call ⟨d,.extract x i,ty,ps,af,gd⟩ T σ nx=(aiY i (val T x)).map (·,σ,nx):=by
 simp only[Aq];unfold aiY
 split<;>simp_all
theorem afa(i:Nat)(vs:List V):aiY i (.Au vs)=vs[i]?:=rfl
def afb(conv:FuncId->Conv)(call:Call)(args:List V)(σ:Store)(nx:Nat):V->JG
 | .clo g cs=>BR conv call g (args++cs) σ nx
 |_=>none
theorem KO(f:Operand)(args:Array Operand)(ts:Array TypeId):Aq P conv call ⟨d,.call ⟨.value f,args,ts⟩,ty,ps,af,gd⟩ T σ nx=afb conv call (args.toList.map (val T)) σ nx (val T f):=by
 simp only[Aq];unfold afb;rfl
theorem qN(args:List V)(σ:Store)(nx:Nat)(g:FuncId)(cs:List V):afb conv call args σ nx (.clo g cs)=BR conv call g (args++cs) σ nx:=rfl
theorem amI(x:Operand)(t:TypeId):Aq P conv call ⟨d,.call ⟨.builtin .len,#[x],#[t]⟩,ty,ps,af,gd⟩ T σ nx=(Dw P t (val T x)).map (·,σ,nx):=rfl
theorem aiZ(a x:Operand)(t u:TypeId):Aq P conv call ⟨d,.call ⟨.builtin .copy,#[a,x],#[t,u]⟩,ty,ps,af,gd⟩ T σ nx=GN P #[t,u] (val T a) (val T x) σ nx:=rfl
theorem afc(a:Operand)(t:TypeId):Aq P conv call ⟨d,.call ⟨.builtin .clear,#[a],#[t]⟩,ty,ps,af,gd⟩ T σ nx=FI P #[t] (val T a) σ nx:=rfl
theorem Ph(a x:Operand)(t u:TypeId):Aq P conv call ⟨d,.call ⟨.builtin .append,#[a,x],#[t,u]⟩,ty,ps,af,gd⟩ T σ nx=Dt P #[t,u] (val T a) (val T x) σ nx:=rfl
end
def UR:Option St->Option (Ex×St)
 |some s=>some (.norm,s)
 |none=>none
theorem YK(s:St):UR (some s)=some (.norm,s):=rfl
def Jb(id:Nat):Option (Ex×St)->Option (Ex×St)
 |some (.exit j,s)=>if j=id then some (.norm,s)else some (.exit j,s)
 |r=>r
theorem UU(id:Nat)(s:St):Jb id (some (.norm,s))=some (.norm,s):=rfl
theorem YL(id:Nat)(s:St):Jb id (some (.ret,s))=some (.ret,s):=rfl
theorem UW(id j:Nat)(s:St):Jb id (some (.exit j,s))=if j=id then some (.norm,s)else some (.exit j,s):=rfl
noncomputable def afd(body:St->Option (Ex×St)):Option (Ex×St)->Option (Ex×St)
 |some (.norm,s)=>gI body s
 |r=>r
theorem YM(body:St->Option (Ex×St))(s:St):afd body (some (.norm,s))=gI body s:=rfl
theorem acI(body:St->Option (Ex×St))(s:St):afd body (some (.ret,s))=some (.ret,s):=rfl
theorem YN(body:St->Option (Ex×St))(i:Nat)(s:St):afd body (some (.exit i,s))=some (.exit i,s):=rfl
def acJ(P:Program)(rs:List ResultVar):Option (Ex×St)->JG
 |some (.norm,st)=>(Ac P st.T st.σ rs).map fun vs=>(oneOf vs,st.σ,st.nx)
 |some (.ret,st)=>(Ac P st.T st.σ rs).map fun vs=>(oneOf vs,st.σ,st.nx)
 |_=>none
theorem UY(rs:List ResultVar)(body:Code)(s:St):UG P conv call rs body s=acJ P rs (Ak P conv call body s):=by
 unfold UG acJ;cases Ak P conv call body s with
 |none=>rfl
 |some q=>
  obtain⟨e,st⟩:=q;cases e<;>simp only<;>cases Ac P st.T st.σ rs<;>rfl
theorem acK(rs:List ResultVar)(T:Nat->V)(σ:Store)(nx:Nat):acJ P rs (some (.norm,⟨T,σ,nx⟩))=(Ac P T σ rs).map fun vs=>(oneOf vs,σ,nx):=rfl
theorem afe(rs:List ResultVar)(T:Nat->V)(σ:Store)(nx:Nat):acJ P rs (some (.ret,⟨T,σ,nx⟩))=(Ac P T σ rs).map fun vs=>(oneOf vs,σ,nx):=rfl
theorem aff(T:Nat->V)(σ:Store)(t:Tmp):Ac P T σ [.tmp t]=some [T t]:=rfl
theorem ai0(T:Nat->V)(σ:Store):Ac P T σ []=some []:=rfl
theorem afg(T:Nat->V)(σ:Store)(t u:Tmp):Ac P T σ [.tmp t,.tmp u]=some [T t,T u]:=rfl
theorem afh(T:Nat->V)(σ:Store)(t u v:Tmp):Ac P T σ [.tmp t,.tmp u,.tmp v]=some [T t,T u,T v]:=rfl
theorem acL(T:Nat->V)(σ:Store)(a:Tmp)(t:TypeId):Ac P T σ [.cell a t]=(AP P σ t (T a)).map fun v=>[v]:=by
 simp only[Ac];cases AP P σ t (T a)<;>rfl
theorem acM(v:V):oneOf [v]=v:=rfl
theorem acN(u v:V):oneOf [u,v]= .Au [u,v]:=rfl
theorem UZ(u v w:V):oneOf [u,v,w]= .Au [u,v,w]:=rfl
theorem YO:oneOf []= .Au []:=rfl
theorem acO(l:List V)(i:Nat):Dl l i=(l[i]?).getD (.Au []):=rfl
theorem acP(k:IntKind)(n:Int):Gy (.int k n)= .sc (.int k n):=rfl
theorem YP(b:Bool):Gy (.bool b)= .sc (.bool b):=rfl
theorem Q7(s:ByteArray):Gy (.string s)= .sc (.string s):=rfl
theorem YQ:Gy (.pointer none)= .sc (.pointer none):=rfl
theorem YR:Gy (.slice none 0 0)= .nil:=rfl
theorem acQ(l:List Value):Gy (.agg l.toArray)= .agg (l.map BG):=rfl
end
end Go.TV
namespace Go.TV
set_option linter.unusedVariables false
set_option linter.unusedSimpArgs false
variable [Known]
section
variable {P:Program} {conv:FuncId->Conv} {call:Call}
def CQ(P:Program)(conv:FuncId->Conv)(call:Call)(ops:Array Oper):List Oper->St->Option St
 |[],s=>some s
 |o :: rest,s=>match AX ops s.T o with
  |some true=>match Af P conv call o s.T s.σ s.nx with
   |some (v,σ',nx')=>CQ P conv call ops rest ⟨CP s.T o.dst v,σ',nx'⟩
   |none=>none
  |some false=>CQ P conv call ops rest ⟨CP s.T o.dst (.Au []),s.σ,s.nx⟩
  |none=>none
theorem Jc(ops:Array Oper):∀(l:List Oper) (s:St),CQ P conv call ops l s=(Ba P conv call ops l s).map (·.1)
 |[],s=>rfl
 |o :: l,s=>by
  unfold CQ Ba;cases AX ops s.T o with
  |none=>rfl
  |some b=>
   cases b with
   |true=>
    simp only;cases Af P conv call o s.T s.σ s.nx with
    |none=>rfl
    |some q=>
     obtain⟨v,σ',nx'⟩:=q;simp only;rw[Jc ops l];cases Ba P conv call ops l ⟨CP s.T o.dst v,σ',nx'⟩<;>rfl
   |false=>
    simp only;rw[Jc ops l];cases Ba P conv call ops l ⟨CP s.T o.dst (.Au []),s.σ,s.nx⟩<;>rfl
def Jd(conv:FuncId->Conv)(ops:Array Oper):Bool:=Ut ops && (GU conv ops.toList).isEmpty
theorem Q8{ops:Array Oper}(h:Jd conv ops=true)(s:St):B_ P conv call ops s=CQ P conv call ops ops.toList s:=by
 unfold Jd at h;rw[yc]at h;have hw:GU conv ops.toList=[]:=by simpa using h.2
 unfold B_;rw[sZ h.1,Jc,hw];cases Ba P conv call ops ops.toList s with
 |none=>rfl
 |some q=>obtain⟨s',fs⟩:=q;rfl
def Hz(af:Array Edge)(i:Nat):Bool:=af.any fun e=>Region.binds .any e && e.on==i
def okG(af:Array Edge)(w:Bool)(ids:List Nat):List (Nat×Bool×List Nat)->Bool
 |[]=>true
 |p :: acc=>(if(w||p.2.1)=true then(if Hz af p.1=true then true else p.2.2.all fun b=> !ids.contains b)else true) && okG af w ids acc
def okF(af:Array Edge)(acc:List (Nat×Bool×List Nat))(w:Bool):List Nat->Bool
 |[]=>true
 |b :: bs=>okG af w (b :: bs) acc
def U0(acc:List (Nat×Bool×List Nat))(k:Nat)(w:Bool):List Nat->List (Nat×Bool×List Nat)
 |[]=>acc
 |b :: bs=>acc++[(k,w,b :: bs)]
def CS(P:Program)(conv:FuncId->Conv)(call:Call)(ops:Array Oper):List Oper->Nat->List (Nat×Bool×List Nat)->St->Option St
 |[],_,_,s=>some s
 |o :: rest,k,acc,s=>match AX ops s.T o with
  |some true=>if okF o.after acc (writer conv o) (yI conv s.T s.σ o)=true then(match Af P conv call o s.T s.σ s.nx with
   |some (v,σ',nx')=>CS P conv call ops rest (k+1) (U0 acc k (writer conv o) (yI conv s.T s.σ o)) ⟨CP s.T o.dst v,σ',nx'⟩
   |none=>none)else none
  |some false=>CS P conv call ops rest (k+1) acc ⟨CP s.T o.dst (.Au []),s.σ,s.nx⟩
  |none=>none
def Apart(l:List Oper)(E:List (Bool×List Nat)):Prop:=∀(i j:Nat) o p q,i<j->l[j]?=some o->E[i]?=some p->E[j]?=some q->(q.1||p.1)=true->E5 o i≠true->∀b∈p.2,b∉q.2
def Told(E:List (Bool×List Nat))(acc:List (Nat×Bool×List Nat)):Prop:=∀(i:Nat) p,E[i]?=some p->p.2≠[]->(i,p.1,p.2)∈acc
theorem U2{af:Array Edge}{w:Bool}{ids:List Nat}:∀ {acc:List (Nat×Bool×List Nat)},okG af w ids acc=true->∀p∈acc,(w||p.2.1)=true->Hz af p.1≠true->∀b∈p.2.2,b∉ids
 |[],_,p,E,_,_,_,_=>by cases E
 |q :: acc,h,p,E,hw,he,b,hb=>by
  unfold okG at h;rw[yc]at h;rcases List.mem_cons.mp E with rfl|E
  .have G:=h.1
   rw[sZ hw,su he]at G;have:=List.all_eq_true.mp G b hb
   simpa using this
  .exact U2 h.2 p E hw he b hb
theorem L6{l:List Oper}{o:Oper}{O:List (Bool×List Nat)}{acc:List (Nat×Bool×List Nat)}{w:Bool}{ids:List Nat}(hl:l.length=O.length)(h:Apart l O)(ht:Told O acc)(ho:okF o.after acc w ids=true):Apart (l++[o]) (O++[(w,ids)]):=by
 intro i j o' p q S E Y G hw he b hb J;rcases Nat.lt_trichotomy j O.length with hj|hj|hj
 .rw[zW hj]at G
  rw[zW (by omega)]at Y;rw[zW (by omega)]at E;exact h i j o' p q S E Y G hw he b hb J
 .subst hj
  rw[zN (zq _),yP]at G;simp only[wZ,tC]at G;subst G;rw[zW S]at Y;rw[zN (by omega),hl,yP]at E;simp only[wZ,tC]at E;subst E;cases ids with
  |nil=>cases J
  |cons c cs=>exact U2 ho _ (ht i p Y (fun e=>by rw[e]at hb;cases hb)) hw he b hb J
 .rw[yg (by simp;omega)]at G
  cases G
theorem Pj{G:List (Bool×List Nat)}{acc:List (Nat×Bool×List Nat)}(Y:Told G acc)(w:Bool)(ids:List Nat):Told (G++[(w,ids)]) (U0 acc G.length w ids):=by
 intro i p E J;have O:∀x,x∈acc->x∈U0 acc G.length w ids:=fun x S=>by cases ids with
  |nil=>exact S
  |cons c cs=>exact yh _ S
 rcases Nat.lt_trichotomy i G.length with hi|hi|hi
 .rw[zW hi]at E
  exact O _ (Y i p E J)
 .subst hi
  rw[zN (zq _),yP]at E;simp only[wZ,tC]at E;subst E;cases ids with
  |nil=>exact absurd rfl J
  |cons c cs=>exact zA _ (by simp)
 .rw[yg (by simp;omega)]at E
  cases E
theorem nT(ops:Array Oper):∀(l pre:List Oper) (k:Nat) (E:List (Bool×List Nat)) (acc:List (Nat×Bool×List Nat)) (s s':St),k=E.length->pre.length=E.length->Apart pre E->Told E acc->CS P conv call ops l k acc s=some s' ->
  ∃fs,Ba P conv call ops l s=some (s',fs)/\fs.length=l.length/\Apart (pre++l) (E++(l.zip fs).map fun p=>(writer conv p.1,p.2))
 |[],pre,k,E,acc,s,s',hk,hl,ha,ht,h=>by
  unfold CS at h;cases h;exact⟨[],rfl,rfl,by simpa using ha⟩
 |o :: l,pre,k,E,acc,s,s',hk,hl,ha,ht,h=>by
  unfold CS at h;unfold Ba;cases hw:AX ops s.T o with
  |none=>rw[hw]at h;cases h
  |some b=>
   rw[hw]at h;cases b with
   |true=>
    simp only at h⊢
    by_cases G:okF o.after acc (writer conv o) (yI conv s.T s.σ o)=true
    .rw[sZ G]at h
     cases Y:Af P conv call o s.T s.σ s.nx with
     |none=>rw[Y]at h;cases h
     |some q=>
      obtain⟨v,σ',nx'⟩:=q;rw[Y]at h;subst hk;obtain⟨fs,J,O,S⟩:=nT ops l (pre++[o]) _ (E++[(writer conv o,yI conv s.T s.σ o)]) _ _ s' (by simp) (by simp[hl]) (L6 hl ha ht G) (Pj ht _ _) h;refine⟨yI conv s.T s.σ o :: fs,?_,by simp[O],by simpa using S⟩;simp only;rw[J]
    .rw[su G]at h;cases h
   |false=>
    simp only at h⊢;subst hk;obtain⟨fs,J,O,S⟩:=nT ops l (pre++[o]) _ (E++[(writer conv o,[])]) _ _ s' (by simp) (by simp[hl]) (L6 hl ha ht rfl) (Pj ht _ []) h;refine⟨[] :: fs,?_,by simp[O],by simpa using S⟩;rw[J]
theorem OE{l:List Oper}{fs:List (List Nat)}(hl:fs.length=l.length)(h:Apart l ((l.zip fs).map fun p=>(writer conv p.1,p.2))):QN fs (GU conv l)=true:=by
 unfold QN;refine List.all_eq_true.mpr ?_;rintro ⟨i,j⟩ hm;unfold GU at hm;simp only[List.mem_flatMap,List.mem_filterMap]at hm;obtain⟨⟨o,j'⟩,hj,⟨p,i'⟩,hi,E⟩:=hm;simp only at E
 split at E
 .cases E
 .rename_i a1
  split at E
  .rename_i a6
   simp only[tC,t_]at E;obtain⟨rfl,rfl⟩:=E;have a7:=List.mem_zipIdx' hj;have a8:=List.mem_zipIdx' hi;obtain⟨G,J⟩:=a7;obtain⟨b2,O⟩:=a8;simp only[zh]at b2;refine List.all_eq_true.mpr fun b hb=>?_
   have S:i'<fs.length:=by omega
   have Y:j'<fs.length:=by omega
   rw[zy S,yB]at hb;rw[zy Y,yB];have hz:∀(k:Nat) (h1:k<l.length) (h2:k<fs.length),((l.zip fs).map fun p=>(writer conv p.1,p.2))[k]?=some (writer conv l[k],fs[k]):=by
    intro k h1 h2;rw[z_,zy (by simp;omega)];simp
   have:=h i' j' o _ _ (by omega) (by rw[zy G,J]) (hz i' (by omega) S) (hz j' G Y) (by
    rw[uw]at O;rw[<- J,<- O];exact a6) a1 b hb
   simpa using this
  .cases E
def L8(P:Program)(conv:FuncId->Conv)(call:Call)(ops:Array Oper)(s0:St):Option St->Option St
 |some s=>some s
 |none=>B_ P conv call ops s0
theorem afi{ops:Array Oper}(G:Ut ops=true)(s:St):L8 P conv call ops s (CS P conv call ops ops.toList 0 [] s)=B_ P conv call ops s:=by
 cases h:CS P conv call ops ops.toList 0 [] s with
 |none=>rfl
 |some s'=>
  obtain⟨fs,J,O,S⟩:=nT ops ops.toList [] 0 [] [] s s' rfl rfl (by intro i j o p q _ _ E;simp at E) (by intro i p E;simp at E) h;unfold L8 B_;rw[sZ G,J];simp only;rw[sZ (OE O (by simpa using S))]
def BD(conv:FuncId->Conv)(ex:List Nat):Code->Bool
 | .region id ops draw=> !draw||(ex.contains id && Ut ops)||Jd conv ops
 | .seq a b=>BD conv ex a && BD conv ex b
 | .cond _ a b=>BD conv ex a && BD conv ex b
 | .block _ c=>BD conv ex c
 | .loop c=>BD conv ex c
 |_=>true
noncomputable def FX(P:Program)(conv:FuncId->Conv)(call:Call)(ex:List Nat):Code->St->Option (Ex×St)
 | .skip,s=>some (.norm,s)
 | .region id ops draw,s=>UR (if draw then(if id∈ex then L8 P conv call ops s (CS P conv call ops ops.toList 0 [] s)else CQ P conv call ops ops.toList s)else BK P conv call ops ops.toList s)
 | .seq a b,s=>match FX P conv call ex a s with
  |some (.norm,s')=>FX P conv call ex b s'
  |r=>r
 | .cond c a b,s=>match val s.T c with
  | .sc (.bool true)=>FX P conv call ex a s
  | .sc (.bool false)=>FX P conv call ex b s
  |_=>none
 | .block id c,s=>Jb id (FX P conv call ex c s)
 | .loop c,s=>gI (FX P conv call ex c) s
 | .exit id,s=>some (.exit id,s)
 | .ret,s=>some (.ret,s)
 |_,_=>none
theorem afj{ex:List Nat}:∀(c:Code),BD conv ex c=true->∀s,Ak P conv call c s=FX P conv call ex c s:=by
 intro c
 induction c with
 |region id ops draw=>
  intro h s;simp only[BD,FX,Ak]at *;cases draw with
  |false=>simp only[yD,if_false];cases BK P conv call ops ops.toList s<;>rfl
  |true=>
   simp only[if_true]
   by_cases hid:id∈ex
   .rw[sZ hid]
    by_cases O:Ut ops=true
    .rw[afi O];cases B_ P conv call ops s<;>rfl
    .have J:Jd conv ops=true:=by simpa[O]using h
     unfold Jd at J;rw[yc]at J;exact absurd J.1 O
   .rw[su hid]
    have J:Jd conv ops=true:=by simpa[hid]using h
    rw[Q8 J];cases CQ P conv call ops ops.toList s<;>rfl
 |seq a b E G=>
  intro h s;simp only[BD,yc]at h;simp only[FX,Ak];rw[E h.1];cases FX P conv call ex a s with
  |none=>rfl
  |some q=>obtain⟨e,s'⟩:=q;cases e<;>first|exact G h.2 s'|rfl
 |cond v a b E G=>
  intro h s;simp only[BD,yc]at h;simp only[FX,Ak,E h.1,G h.2]
  all_goals rfl
 |block id c S=>
  intro h s;simp only[BD]at h;simp only[FX,Ak,Jb];rw[S h]
  all_goals rfl
 |loop c S=>
  intro h s;simp only[BD]at h;simp only[FX,Ak];rw[show Ak P conv call c=FX P conv call ex c from funext (S h)]
 |_=>intro h s;rfl
noncomputable def sK(P:Program)(conv:FuncId->Conv)(call:Call)(ex:List Nat)(b:Code):Option (Ex×St)->Option (Ex×St)
 |some (.norm,s)=>FX P conv call ex b s
 |r=>r
variable {ex:List Nat}
theorem aqa(a b:Code)(s:St):FX P conv call ex (.seq a b) s=sK P conv call ex b (FX P conv call ex a s):=by
 show(match FX P conv call ex a s with|some (.norm,s')=>FX P conv call ex b s'|r=>r)=_;unfold sK;rfl
theorem ai1(b:Code)(s:St):sK P conv call ex b (some (.norm,s))=FX P conv call ex b s:=rfl
theorem amJ(b:Code)(s:St):sK P conv call ex b (some (.ret,s))=some (.ret,s):=rfl
theorem ai2(b:Code)(i:Nat)(s:St):sK P conv call ex b (some (.exit i,s))=some (.exit i,s):=rfl
theorem afk(id:Nat)(l:List Oper)(s:St):FX P conv call ex (.region id l.toArray false) s=UR (BK P conv call l.toArray l s):=rfl
theorem amK(id:Nat)(l:List Oper)(s:St):FX P conv call [] (.region id l.toArray true) s=UR (CQ P conv call l.toArray l s):=rfl
theorem amL(s:St):FX P conv call ex .skip s=some (.norm,s):=rfl
theorem aqb(s:St):FX P conv call ex .ret s=some (.ret,s):=rfl
theorem amM(i:Nat)(s:St):FX P conv call ex (.exit i) s=some (.exit i,s):=rfl
noncomputable def cK(P:Program)(conv:FuncId->Conv)(call:Call)(ex:List Nat)(a b:Code)(s:St):V->Option (Ex×St)
 | .sc (.bool true)=>FX P conv call ex a s
 | .sc (.bool false)=>FX P conv call ex b s
 |_=>none
theorem amN(c:Operand)(a b:Code)(T:Nat->V)(σ:Store)(nx:Nat):FX P conv call ex (.cond c a b) ⟨T,σ,nx⟩=cK P conv call ex a b ⟨T,σ,nx⟩ (val T c):=by
 show(match val T c with| .sc (.bool true)=>_| .sc (.bool false)=>_|_=>none)=_;unfold cK;rfl
theorem ai3(a b:Code)(s:St):cK P conv call ex a b s (.sc (.bool true))=FX P conv call ex a s:=rfl
theorem afl(a b:Code)(s:St):cK P conv call ex a b s (.sc (.bool false))=FX P conv call ex b s:=rfl
theorem ai4(id:Nat)(c:Code)(s:St):FX P conv call ex (.block id c) s=Jb id (FX P conv call ex c s):=rfl
theorem amO(c:Code)(s:St):FX P conv call ex (.loop c) s=gI (FX P conv call ex c) s:=rfl
theorem awx{ext:Ext}{f:FuncId}{fn:Func}{body:Code}{rs:List ResultVar}(ex:List Nat)(G:ext f=none)(J:P.funcs[f]?=some fn)(hb:fn.body=some body)(O:fn.results.toList=rs){args:List V}(E:Uu fn body args.length=true)(S:BD conv ex body=true)(σ:Store)(nx:Nat) :
  ev P conv ext f args σ nx=acJ P rs (FX P conv (ev P conv ext) ex body ⟨Dl args,σ,nx⟩):=by
 rw[alV G J hb O E,UY,afj body S]
theorem nK{ext:Ext}{f:FuncId}{fn:Func}{body:Code}(rs:List ResultVar)(ex:List Nat)(G:P.funcs[f]?=some fn)(J:ext f=none:=by rfl)(hb:fn.body=some body:=by rfl)(O:fn.results.toList=rs:=by rfl){args:List V}(E:Uu fn body args.length=true:=by kernel_rfl)(S:BD conv ex body=true:=by kernel_rfl)(σ:Store)(nx:Nat) :
  ev P conv ext f args σ nx=acJ P rs (FX P conv (ev P conv ext) ex body ⟨Dl args,σ,nx⟩):=by
 rw[alV J G hb O E,UY,afj body S]
theorem YS(ops:Array Oper)(s0 s:St):L8 P conv call ops s0 (some s)=some s:=rfl
def JR(P:Program)(conv:FuncId->Conv)(call:Call)(id:Nat)(l:List Oper)(s:St):List Nat->Option St
 |[]=>CQ P conv call l.toArray l s
 |i :: ex=>if id=i then L8 P conv call l.toArray s (CS P conv call l.toArray l 0 [] s)else JR P conv call id l s ex
theorem U3(id:Nat)(l:List Oper)(s:St):∀ex:List Nat,JR P conv call id l s ex=if id∈ex then L8 P conv call l.toArray s (CS P conv call l.toArray l 0 [] s)else CQ P conv call l.toArray l s
 |[]=>by simp[JR]
 |i :: ex=>by
  unfold JR;rw[U3 id l s ex]
  by_cases h:id=i
  .rw[sZ h,sZ (by simp[h])]
  .rw[su h]
   by_cases E:id∈ex
   .rw[sZ E,sZ (by simp[E])]
   .rw[su E,su (by simp[h,E])]
theorem ai5(i:Nat)(ex:List Nat)(id:Nat)(l:List Oper)(s:St):FX P conv call (i :: ex) (.region id l.toArray true) s=UR (JR P conv call id l s (i :: ex)):=by
 rw[U3];rfl
theorem acR(id:Nat)(l:List Oper)(s:St):JR P conv call id l s []=CQ P conv call l.toArray l s:=rfl
theorem YT(id:Nat)(l:List Oper)(s:St)(i:Nat)(ex:List Nat):JR P conv call id l s (i :: ex)=if id=i then L8 P conv call l.toArray s (CS P conv call l.toArray l 0 [] s)else JR P conv call id l s ex:=rfl
def U5(P:Program)(conv:FuncId->Conv)(call:Call)(ops:Array Oper)(rest:List Oper)(k:Nat)(acc:List (Nat×Bool×List Nat))(T:Nat->V)(d:Option Tmp):JG->Option St
 |some (v,σ,nx)=>CS P conv call ops rest k acc ⟨CP T d v,σ,nx⟩
 |none=>none
def aa4(P:Program)(conv:FuncId->Conv)(call:Call)(ops:Array Oper)(rest:List Oper)(k:Nat)(acc:List (Nat×Bool×List Nat))(o:Oper)(s:St):Option Bool->Option St
 |some true=>if okF o.after acc (writer conv o) (yI conv s.T s.σ o)=true then U5 P conv call ops rest (k+1) (U0 acc k (writer conv o) (yI conv s.T s.σ o)) s.T o.dst (Af P conv call o s.T s.σ s.nx)else none
 |some false=>CS P conv call ops rest (k+1) acc ⟨CP s.T o.dst (.Au []),s.σ,s.nx⟩
 |none=>none
theorem YU(ops:Array Oper)(k:Nat)(acc:List (Nat×Bool×List Nat))(s:St):CS P conv call ops [] k acc s=some s:=rfl
theorem U7(ops:Array Oper)(k:Nat)(acc:List (Nat×Bool×List Nat))(d:Option Tmp)(op:Op)(ty:TypeId)(ps:String)(af:Array Edge)(rest:List Oper)(T:Nat->V)(σ:Store)(nx:Nat) :
  CS P conv call ops (⟨d,op,ty,ps,af,none⟩ :: rest) k acc ⟨T,σ,nx⟩=if okF af acc (writer conv ⟨d,op,ty,ps,af,none⟩) (yI conv T σ ⟨d,op,ty,ps,af,none⟩)=true then U5 P conv call ops rest (k+1) (U0 acc k (writer conv ⟨d,op,ty,ps,af,none⟩) (yI conv T σ ⟨d,op,ty,ps,af,none⟩)) T d (Af P conv call ⟨d,op,ty,ps,af,none⟩ T σ nx)else none:=by
 show(if okF af acc (writer conv ⟨d,op,ty,ps,af,none⟩) (yI conv T σ ⟨d,op,ty,ps,af,none⟩)=true then(match Af P conv call ⟨d,op,ty,ps,af,none⟩ T σ nx with|some (v,σ',nx')=>_|none=>none)else none)=_;cases Af P conv call ⟨d,op,ty,ps,af,none⟩ T σ nx<;>rfl
theorem Q9(ops:Array Oper)(k:Nat)(acc:List (Nat×Bool×List Nat))(d:Option Tmp)(op:Op)(ty:TypeId)(ps:String)(af:Array Edge)(g:Nat×Bool)(rest:List Oper)(T:Nat->V)(σ:Store)(nx:Nat) :
  CS P conv call ops (⟨d,op,ty,ps,af,some g⟩ :: rest) k acc ⟨T,σ,nx⟩=aa4 P conv call ops rest k acc ⟨d,op,ty,ps,af,some g⟩ ⟨T,σ,nx⟩ (AX ops T ⟨d,op,ty,ps,af,some g⟩):=by
 show(match AX ops T ⟨d,op,ty,ps,af,some g⟩with|some true=>_|some false=>_|none=>none)=_;cases AX ops T ⟨d,op,ty,ps,af,some g⟩with
 |none=>rfl
 |some b=>
  cases b with
  |false=>rfl
  |true=>
   simp only[aa4];cases Af P conv call ⟨d,op,ty,ps,af,some g⟩ T σ nx<;>rfl
theorem YV(ops:Array Oper)(rest:List Oper)(k:Nat)(acc:List (Nat×Bool×List Nat))(T:Nat->V)(d:Tmp)(v:V)(σ:Store)(nx:Nat):U5 P conv call ops rest k acc T (some d) (some (v,σ,nx))=CS P conv call ops rest k acc ⟨upd T d v,σ,nx⟩:=rfl
theorem YW(ops:Array Oper)(rest:List Oper)(k:Nat)(acc:List (Nat×Bool×List Nat))(T:Nat->V)(v:V)(σ:Store)(nx:Nat):U5 P conv call ops rest k acc T none (some (v,σ,nx))=CS P conv call ops rest k acc ⟨T,σ,nx⟩:=rfl
theorem YX(ops:Array Oper)(rest:List Oper)(k:Nat)(acc:List (Nat×Bool×List Nat))(d:Option Tmp)(op:Op)(ty:TypeId)(ps:String)(af:Array Edge)(g:Option (Nat×Bool))(T:Nat->V)(σ:Store)(nx:Nat) :
  aa4 P conv call ops rest k acc ⟨d,op,ty,ps,af,g⟩ ⟨T,σ,nx⟩ (some true)=if okF af acc (writer conv ⟨d,op,ty,ps,af,g⟩) (yI conv T σ ⟨d,op,ty,ps,af,g⟩)=true then U5 P conv call ops rest (k+1) (U0 acc k (writer conv ⟨d,op,ty,ps,af,g⟩) (yI conv T σ ⟨d,op,ty,ps,af,g⟩)) T d (Af P conv call ⟨d,op,ty,ps,af,g⟩ T σ nx)else none:=rfl
theorem U8(ops:Array Oper)(rest:List Oper)(k:Nat)(acc:List (Nat×Bool×List Nat))(d:Tmp)(op:Op)(ty:TypeId)(ps:String)(af:Array Edge)(g:Option (Nat×Bool))(T:Nat->V)(σ:Store)(nx:Nat) :
  aa4 P conv call ops rest k acc ⟨some d,op,ty,ps,af,g⟩ ⟨T,σ,nx⟩ (some false)=CS P conv call ops rest (k+1) acc ⟨upd T d (.Au []),σ,nx⟩:=rfl
theorem ai6(af:Array Edge)(acc:List (Nat×Bool×List Nat))(w:Bool):okF af acc w []=true:=id rfl
theorem afm(af:Array Edge)(acc:List (Nat×Bool×List Nat))(w:Bool)(b:Nat)(E:List Nat):okF af acc w (b :: E)=okG af w (b :: E) acc:=id rfl
theorem ai7(af:Array Edge)(w:Bool)(ids:List Nat):okG af w ids []=true:=id rfl
theorem afn(af:Array Edge)(w:Bool)(ids:List Nat)(i:Nat)(v:Bool)(E:List Nat)(acc:List (Nat×Bool×List Nat)):okG af w ids ((i,v,E) :: acc)=((if(w||v)=true then(if Hz af i=true then true else E.all fun b=> !ids.contains b)else true) && okG af w ids acc):=id rfl
theorem afo(acc:List (Nat×Bool×List Nat))(k:Nat)(w:Bool):U0 acc k w []=acc:=id rfl
theorem acS(acc:List (Nat×Bool×List Nat))(k:Nat)(w:Bool)(b:Nat)(E:List Nat):U0 acc k w (b :: E)=acc++[(k,w,b :: E)]:=id rfl
theorem acT(i:Nat):Hz #[] i=false:=by simp[Hz]
theorem YZ(e:Edge)(es:List Edge)(i:Nat):Hz (e :: es).toArray i=if(e.on==i)=true then(if Region.binds .any e=true then true else Hz es.toArray i)else Hz es.toArray i:=by
 unfold Hz;rw[List.any_toArray,List.any_toArray,List.any_cons];cases e.on==i<;>cases Region.binds .any e<;>simp
theorem Y0(i:Nat):Region.binds .any ⟨i,.data⟩=true:=id rfl
theorem U9(i:Nat):Region.binds .any ⟨i,.phase⟩=true:=id rfl
theorem U_(i:Nat):Region.binds .any ⟨i,.chain⟩=true:=id rfl
theorem Va(i:Nat):Region.binds .any ⟨i,.guard⟩=true:=id rfl
theorem Y1(i:Nat)(d:Departure):Region.binds .any ⟨i,.textOnly d⟩=false:=id rfl
theorem afp(i:Nat)(d:Departure):Region.binds .any ⟨i,.gcOnly d⟩=false:=id rfl
section
variable (d:Option Tmp) (ty:TypeId) (ps:String) (af:Array Edge) (gd:Option (Nat×Bool)) (T:Nat->V) (σ:Store)
theorem ai8(t:TypeId)(a x:Operand):writer conv ⟨d,.store t a x,ty,ps,af,gd⟩=true:=id rfl
theorem Y2(t:TypeId)(a x:Operand):yI conv T σ ⟨d,.store t a x,ty,ps,af,gd⟩=zI (val T a):=rfl
theorem acU(t:TypeId)(a:Operand):yI conv T σ ⟨d,.load t a,ty,ps,af,gd⟩=zI (val T a):=rfl
theorem amP(t:TypeId)(a:Operand):writer conv ⟨d,.load t a,ty,ps,af,gd⟩=false:=id rfl
theorem ai9(b off:Nat):zI (.rp b off)=[b]:=rfl
theorem ai_(b off len:Nat):zI (.rs b off len)=[b]:=rfl
theorem ai'(row:List V)(off:Nat):zI (.tp row off)=[]:=rfl
theorem aja(row:List V)(off:Nat):zI (.ts row off)=[]:=rfl
theorem ajb(v:Value):zI (.sc v)=[]:=rfl
theorem afq:zI .nil=[]:=rfl
theorem afr(vs:List V):zI (.agg vs)=[]:=rfl
theorem acV(x:Operand):yI conv T σ ⟨d,.move x,ty,ps,af,gd⟩=[]:=rfl
theorem amQ(x:Operand):writer conv ⟨d,.move x,ty,ps,af,gd⟩=false:=id rfl
theorem Vb(x:Operand):yI conv T σ ⟨d,.assign x,ty,ps,af,gd⟩=[]:=rfl
theorem afs(x:Operand):writer conv ⟨d,.assign x,ty,ps,af,gd⟩=false:=id rfl
theorem acW(c a b:Operand):yI conv T σ ⟨d,.pick c a b,ty,ps,af,gd⟩=[]:=rfl
theorem amR(c a b:Operand):writer conv ⟨d,.pick c a b,ty,ps,af,gd⟩=false:=id rfl
theorem OG(x:Operand):yI conv T σ ⟨d,.nilCheck x,ty,ps,af,gd⟩=[]:=rfl
theorem Y3(x:Operand):writer conv ⟨d,.nilCheck x,ty,ps,af,gd⟩=false:=id rfl
theorem Y4(op:BinOp)(t:TypeId)(x y:Operand)(E:TypeId):yI conv T σ ⟨d,.binOp op t x y E,ty,ps,af,gd⟩=[]:=rfl
theorem ajc(op:BinOp)(t:TypeId)(x y:Operand)(E:TypeId):writer conv ⟨d,.binOp op t x y E,ty,ps,af,gd⟩=false:=id rfl
theorem acX(op:UnOp)(t:TypeId)(x:Operand):yI conv T σ ⟨d,.unOp op t x,ty,ps,af,gd⟩=[]:=rfl
theorem amS(op:UnOp)(t:TypeId)(x:Operand):writer conv ⟨d,.unOp op t x,ty,ps,af,gd⟩=false:=id rfl
theorem L9(t:TypeId)(x:Operand)(f:Nat):yI conv T σ ⟨d,.fieldAddr t x f,ty,ps,af,gd⟩=[]:=rfl
theorem Vd(t:TypeId)(x:Operand)(f:Nat):writer conv ⟨d,.fieldAddr t x f,ty,ps,af,gd⟩=false:=id rfl
theorem Y5(t:TypeId)(x:Operand)(f:Nat):yI conv T σ ⟨d,.field t x f,ty,ps,af,gd⟩=[]:=rfl
theorem ajd(t:TypeId)(x:Operand)(f:Nat):writer conv ⟨d,.field t x f,ty,ps,af,gd⟩=false:=id rfl
theorem L_(t:TypeId)(x i:Operand):yI conv T σ ⟨d,.indexAddr t x i,ty,ps,af,gd⟩=[]:=rfl
theorem Ve(t:TypeId)(x i:Operand):writer conv ⟨d,.indexAddr t x i,ty,ps,af,gd⟩=false:=id rfl
theorem Y6(t:TypeId)(x i:Operand):yI conv T σ ⟨d,.index t x i,ty,ps,af,gd⟩=[]:=rfl
theorem aje(t:TypeId)(x i:Operand):writer conv ⟨d,.index t x i,ty,ps,af,gd⟩=false:=id rfl
theorem Q_(x:Operand)(i:Nat):yI conv T σ ⟨d,.extract x i,ty,ps,af,gd⟩=[]:=rfl
theorem acY(x:Operand)(i:Nat):writer conv ⟨d,.extract x i,ty,ps,af,gd⟩=false:=id rfl
theorem aft(x:Operand)(t:TypeId):yI conv T σ ⟨d,.call ⟨.builtin .len,#[x],#[t]⟩,ty,ps,af,gd⟩=[]:=rfl
theorem aqc(x:Operand)(t:TypeId):writer conv ⟨d,.call ⟨.builtin .len,#[x],#[t]⟩,ty,ps,af,gd⟩=false:=id rfl
theorem Y7(t:TypeId)(parts:Array (Nat×Operand)):yI conv T σ ⟨d,.build t parts,ty,ps,af,gd⟩=[]:=rfl
theorem ajf(t:TypeId)(parts:Array (Nat×Operand)):writer conv ⟨d,.build t parts,ty,ps,af,gd⟩=false:=id rfl
theorem OH(f:FuncId)(cap:Array Operand):yI conv T σ ⟨d,.makeFunc (.func f) #[] cap,ty,ps,af,gd⟩=[]:=rfl
theorem Y8(f:FuncId)(cap:Array Operand):writer conv ⟨d,.makeFunc (.func f) #[] cap,ty,ps,af,gd⟩=false:=id rfl
theorem Y9(t:TypeId):yI conv T σ ⟨d,.alloc t,ty,ps,af,gd⟩=[]:=rfl
theorem ajg(t:TypeId):writer conv ⟨d,.alloc t,ty,ps,af,gd⟩=false:=id rfl
theorem afu(t:TypeId)(x:Operand):yI conv T σ ⟨d,.box t x,ty,ps,af,gd⟩=[]:=rfl
theorem aqd(t:TypeId)(x:Operand):writer conv ⟨d,.box t x,ty,ps,af,gd⟩=false:=id rfl
theorem amT{g:FuncId}(h:conv g= .JJ)(args:Array Operand)(ts:Array TypeId):writer conv ⟨d,.call ⟨.value (.func g),args,ts⟩,ty,ps,af,gd⟩=false:=by unfold writer;simp only[h]
theorem mQ{g:FuncId}(h:conv g≠ .inl)(args:Array Operand)(ts:Array TypeId):Dc conv T σ ⟨d,.call ⟨.value (.func g),args,ts⟩,ty,ps,af,gd⟩=(stripL (strip σ depth) (args.toList.map (val T))).map (·.2):=by
 simp only[Dc,val,zM,O9];cases hc:conv g with
 |inl=>exact absurd hc h
 |own=>cases stripL (strip σ depth) (args.toList.map (val T))<;>rfl
 |JJ=>cases stripL (strip σ depth) (args.toList.map (val T))<;>rfl
theorem acZ{g:FuncId}(h:conv g= .JJ)(args:Array Operand)(ts:Array TypeId):yI conv T σ ⟨d,.call ⟨.value (.func g),args,ts⟩,ty,ps,af,gd⟩=((stripL (strip σ depth) (args.toList.map (val T))).map (·.2)).getD []:=by
 unfold yI;rw[mQ d ty ps af gd T σ (by rw[h];exact fun e=>by cases e)]
end
def Vf(P:Program)(conv:FuncId->Conv)(call:Call)(ops:Array Oper)(rest:List Oper)(T:Nat->V)(d:Option Tmp):JG->Option St
 |some (v,σ,nx)=>CQ P conv call ops rest ⟨CP T d v,σ,nx⟩
 |none=>none
def aa5(P:Program)(conv:FuncId->Conv)(call:Call)(ops:Array Oper)(rest:List Oper)(o:Oper)(s:St):Option Bool->Option St
 |some true=>Vf P conv call ops rest s.T o.dst (Af P conv call o s.T s.σ s.nx)
 |some false=>CQ P conv call ops rest ⟨CP s.T o.dst (.Au []),s.σ,s.nx⟩
 |none=>none
theorem Y_(ops:Array Oper)(s:St):CQ P conv call ops [] s=some s:=rfl
theorem Vg(ops:Array Oper)(d:Option Tmp)(op:Op)(ty:TypeId)(ps:String)(af:Array Edge)(rest:List Oper)(T:Nat->V)(σ:Store)(nx:Nat) :
  CQ P conv call ops (⟨d,op,ty,ps,af,none⟩ :: rest) ⟨T,σ,nx⟩=Vf P conv call ops rest T d (Af P conv call ⟨d,op,ty,ps,af,none⟩ T σ nx):=by
 show(match Af P conv call ⟨d,op,ty,ps,af,none⟩ T σ nx with|some (v,σ',nx')=>_|none=>none)=_;cases Af P conv call ⟨d,op,ty,ps,af,none⟩ T σ nx<;>rfl
theorem Rf(ops:Array Oper)(d:Option Tmp)(op:Op)(ty:TypeId)(ps:String)(af:Array Edge)(g:Nat×Bool)(rest:List Oper)(T:Nat->V)(σ:Store)(nx:Nat) :
  CQ P conv call ops (⟨d,op,ty,ps,af,some g⟩ :: rest) ⟨T,σ,nx⟩=aa5 P conv call ops rest ⟨d,op,ty,ps,af,some g⟩ ⟨T,σ,nx⟩ (AX ops T ⟨d,op,ty,ps,af,some g⟩):=by
 show(match AX ops T ⟨d,op,ty,ps,af,some g⟩with|some true=>_|some false=>_|none=>none)=_;cases AX ops T ⟨d,op,ty,ps,af,some g⟩with
 |none=>rfl
 |some b=>
  cases b with
  |false=>rfl
  |true=>
   simp only[aa5];cases Af P conv call ⟨d,op,ty,ps,af,some g⟩ T σ nx<;>rfl
theorem Za(ops:Array Oper)(rest:List Oper)(T:Nat->V)(d:Tmp)(v:V)(σ:Store)(nx:Nat):Vf P conv call ops rest T (some d) (some (v,σ,nx))=CQ P conv call ops rest ⟨upd T d v,σ,nx⟩:=rfl
theorem Zb(ops:Array Oper)(rest:List Oper)(T:Nat->V)(v:V)(σ:Store)(nx:Nat):Vf P conv call ops rest T none (some (v,σ,nx))=CQ P conv call ops rest ⟨T,σ,nx⟩:=rfl
theorem Zc(ops:Array Oper)(rest:List Oper)(d:Option Tmp)(op:Op)(ty:TypeId)(ps:String)(af:Array Edge)(g:Option (Nat×Bool))(T:Nat->V)(σ:Store)(nx:Nat) :
  aa5 P conv call ops rest ⟨d,op,ty,ps,af,g⟩ ⟨T,σ,nx⟩ (some true)=Vf P conv call ops rest T d (Af P conv call ⟨d,op,ty,ps,af,g⟩ T σ nx):=rfl
theorem Vh(ops:Array Oper)(rest:List Oper)(d:Tmp)(op:Op)(ty:TypeId)(ps:String)(af:Array Edge)(g:Option (Nat×Bool))(T:Nat->V)(σ:Store)(nx:Nat) :
  aa5 P conv call ops rest ⟨some d,op,ty,ps,af,g⟩ ⟨T,σ,nx⟩ (some false)=CQ P conv call ops rest ⟨upd T d (.Au []),σ,nx⟩:=rfl
theorem Zd{σ:Store}{nx:Nat}{cells:List V}{st:Nat}:xI [] nx (nx+1) σ (Aj (restrict σ []) nx cells st)=Aj σ nx cells st:=by
 funext b;unfold xI Aj upd restrict
 by_cases h:b=nx
 .subst h;simp
 .rw[su (by simp;omega),su h]
section
variable (d:Option Tmp) (ty:TypeId) (ps:String) (af:Array Edge) (gd:Option (Nat×Bool)) (T:Nat->V) (σ:Store) (nx:Nat)
omit d ty ps af gd T σ nx in
theorem Je(T:Nat->V)(o:Oper)(v:V):keeps conv T o [] v=true:=by
 obtain⟨dst,op,type,pos,after,guard⟩:=o;cases op<;>simp only[keeps];rename_i c;obtain⟨callee,args,ts⟩:=c;cases callee with
 |value f=>
  cases E:val T f<;>simp only[E];rename_i g cs;cases hc:conv g<;>simp
 |builtin b=>rfl
 |invoke r m=>rfl
theorem nX{o:Oper}{F:List Nat}(E:Dc conv T σ o=some F)(G:∀v,keeps conv T o F v=true):Af P conv call o T σ nx=if(F.all fun b=>decide (b<nx))=true then match Aq P conv call o T (restrict σ F) nx with|some (v,σ1,oI)=>some (v,xI F nx oI σ σ1,oI)|none=>none else none:=by
 unfold Af;simp only[E,G,if_true];cases Aq P conv call o T (restrict σ F) nx with
 |none=>rfl
 |some r=>rfl
theorem KP{o:Oper}(E:Dc conv T σ o=some []){v:V}(h:∀σ,Aq P conv call o T σ nx=some (v,σ,nx)):Af P conv call o T σ nx=some (v,σ,nx):=by
 rw[nX T σ nx E (Je T o)];simp only[vP,if_true,h];rw[iT]
theorem jC{o:Oper}(E:Dc conv T σ o=some []){m:Option V}(h:∀σ,Aq P conv call o T σ nx=m.map (·,σ,nx)):Af P conv call o T σ nx=m.map (·,σ,nx):=by
 cases m with
 |some v=>exact KP T σ nx E h
 |none=>
  rw[nX T σ nx E (Je T o)];simp only[vP,if_true,h,Option.map_none]
theorem HY{o:Oper}(E:Dc conv T σ o=some []){m:Option (List V×Nat×V)}(h:∀σ,Aq P conv call o T σ nx=m.map fun p=>(p.2.2,Aj σ nx p.1 p.2.1,nx+1)):Af P conv call o T σ nx=m.map fun p=>(p.2.2,Aj σ nx p.1 p.2.1,nx+1):=by
 rw[nX T σ nx E (Je T o)];simp only[vP,if_true,h];cases m with
 |none=>rfl
 |some p=>simp only[zH];rw[Zd]
theorem afv(x:Operand):Af P conv call ⟨d,.move x,ty,ps,af,gd⟩ T σ nx=some (val T x,σ,nx):=KP T σ nx rfl fun _=>rfl
theorem ZA(x:Operand):Af P conv call ⟨d,.assign x,ty,ps,af,gd⟩ T σ nx=some (val T x,σ,nx):=KP T σ nx rfl fun _=>rfl
theorem afw(c a b:Operand):Af P conv call ⟨d,.pick c a b,ty,ps,af,gd⟩ T σ nx=(aa2 (val T a) (val T b) (val T c)).map (·,σ,nx):=jC T σ nx rfl fun σ=>aa3 d ty ps af gd T σ nx c a b
theorem Ri(x:Operand):Af P conv call ⟨d,.nilCheck x,ty,ps,af,gd⟩ T σ nx=(ae7 (val T x)).map (·,σ,nx):=jC T σ nx rfl fun σ=>JQ d ty ps af gd T σ nx x
theorem ac0(op:BinOp)(t:TypeId)(x y:Operand)(E:TypeId):Af P conv call ⟨d,.binOp op t x y E,ty,ps,af,gd⟩ T σ nx=(AB P op t x y (val T x) (val T y)).map (·,σ,nx):=jC T σ nx rfl fun _=>rfl
theorem afx(op:UnOp)(t:TypeId)(x:Operand):Af P conv call ⟨d,.unOp op t x,ty,ps,af,gd⟩ T σ nx=(Ya P op (val T x)).map (·,σ,nx):=jC T σ nx rfl fun _=>rfl
theorem OI(t:TypeId)(x:Operand)(f:Nat):Af P conv call ⟨d,.fieldAddr t x f,ty,ps,af,gd⟩ T σ nx=(Bq P t (val T x) f).map (·,σ,nx):=jC T σ nx rfl fun _=>rfl
theorem OJ(t:TypeId)(x i:Operand):Af P conv call ⟨d,.indexAddr t x i,ty,ps,af,gd⟩ T σ nx=(BU P t (val T x) (val T i)).map (·,σ,nx):=jC T σ nx rfl fun _=>rfl
theorem Vj(x:Operand)(i:Nat):Af P conv call ⟨d,.extract x i,ty,ps,af,gd⟩ T σ nx=(aiY i (val T x)).map (·,σ,nx):=jC T σ nx rfl fun σ=>LZ d ty ps af gd T σ nx x i
theorem ajh(x:Operand)(t:TypeId):Af P conv call ⟨d,.call ⟨.builtin .len,#[x],#[t]⟩,ty,ps,af,gd⟩ T σ nx=(Dw P t (val T x)).map (·,σ,nx):=jC T σ nx rfl fun _=>rfl
theorem ac1(t:TypeId)(parts:Array (Nat×Operand)):Af P conv call ⟨d,.build t parts,ty,ps,af,gd⟩ T σ nx=(FH P t (parts.toList.map fun p=>(p.1,val T p.2))).map (·,σ,nx):=jC T σ nx rfl fun _=>rfl
theorem ac2(t:TypeId)(h:(vI P t).ok=true)(E:decide ((vI P t).zero.length=(vI P t).size)=true)(G:decide (0<(vI P t).size)=true)(hb:isB (vI P t).zero=false):Af P conv call ⟨d,.alloc t,ty,ps,af,gd⟩ T σ nx=some (.rp nx 0,Aj σ nx (vI P t).zero 0,nx+1) :=
 HY (m:=some ((vI P t).zero,0,.rp nx 0)) T σ nx rfl fun σ=>UO d ty ps af gd T σ nx t h E G hb
theorem aji(t:TypeId)(x:Operand):Af P conv call ⟨d,.box t x,ty,ps,af,gd⟩ T σ nx=(cellsOfV (val T x)).map fun cs=>(.rp nx 0,Aj σ nx cs 0,nx+1):=by
 have:=HY (P:=P) (conv:=conv) (call:=call) (o:=⟨d,.box t x,ty,ps,af,gd⟩) (m:=(cellsOfV (val T x)).map fun cs=>(cs,0,V.rp nx 0)) T σ nx rfl fun σ=>by rw[ae4];cases cellsOfV (val T x)<;>rfl
 rw[this];cases cellsOfV (val T x)<;>rfl
def Mc(P:Program)(σ:Store)(nx:Nat)(t:TypeId):V->Option V
 | .rp b off=>if b<nx then AP P σ t (.rp b off)else none
 |v=>AP P σ t v
theorem afy(t:TypeId)(a:Operand):Af P conv call ⟨d,.load t a,ty,ps,af,gd⟩ T σ nx=(Mc P σ nx t (val T a)).map (·,σ,nx):=by
 have key:∀b off,AP P (restrict σ [b]) t (.rp b off)=AP P σ t (.rp b off):=fun b off=>by
  unfold AP Dj restrict;simp
 rw[nX (F:=zI (val T a)) T σ nx rfl (fun _=>rfl)];show(if((zI (val T a)).all fun b=>decide (b<nx))=true then match(AP P (restrict σ (zI (val T a))) t (val T a)).map (·,restrict σ (zI (val T a)),nx)with|some (v,σ1,oI)=>some (v,xI (zI (val T a)) nx oI σ σ1,oI)|none=>none else none)=_;cases E:val T a with
 |rp b off=>
  simp only[zI,uT,vP,Bool.and_true,decide_eq_true_eq,Mc,key]
  by_cases hb:b<nx
  .rw[sZ hb,sZ hb]
   cases AP P σ t (.rp b off)with
   |none=>rfl
   |some v=>simp only[zH,iU]
  .rw[su hb,su hb];rfl
 |tp row off=>
  simp only[zI,vP,if_true,Mc];have:AP P (restrict σ []) t (.tp row off)=AP P σ t (.tp row off):=by unfold AP Dj;rfl
  rw[this];cases AP P σ t (.tp row off)with
  |none=>rfl
  |some v=>simp only[zH,iT]
 |rs b off len=>
  have e:∀σ,AP P σ t (.rs b off len)=none:=fun σ=>by unfold AP Dj;split<;>simp
  simp only[Mc,e,Option.map_none]
  split<;>rfl
 |_=>
  simp only[zI,vP,if_true,Mc];unfold AP Dj;cases P.info? t<;>cases P.underlying t<;>simp
theorem afz(σ:Store)(nx:Nat)(t:TypeId)(row:List V)(off:Nat):Mc P σ nx t (.tp row off)=AP P σ t (.tp row off):=rfl
theorem afA(σ:Store)(nx:Nat)(t:TypeId)(b off:Nat):Mc P σ nx t (.rp b off)=if b<nx then AP P σ t (.rp b off)else none:=rfl
def Rj(P:Program)(σ:Store)(nx:Nat)(t:TypeId)(v:V):V->Option Store
 | .rp b off=>if b<nx then C_ P σ t (.rp b off) v else none
 |_=>none
theorem ac3(t:TypeId)(a x:Operand):Af P conv call ⟨d,.store t a x,ty,ps,af,gd⟩ T σ nx=(Rj P σ nx t (val T x) (val T a)).map (.Au [],·,nx):=by
 rw[nX (F:=zI (val T a)) T σ nx rfl (fun _=>rfl)];show(if((zI (val T a)).all fun b=>decide (b<nx))=true then match(C_ P (restrict σ (zI (val T a))) t (val T a) (val T x)).map (V.Au [],·,nx)with|some (v,σ1,oI)=>some (v,xI (zI (val T a)) nx oI σ σ1,oI)|none=>none else none)=_;cases G:val T a with
 |rp b off=>
  simp only[zI,uT,vP,Bool.and_true,decide_eq_true_eq,Rj]
  by_cases hb:b<nx
  .rw[sZ hb,sZ hb]
   unfold C_;have J:restrict σ [b] b=σ b:=by unfold restrict;simp
   cases P.info? t with
   |none=>rfl
   |some i=>
    cases cellsOfV (val T x)with
    |none=>rfl
    |some vs=>
     simp only[J];cases σ b with
     |none=>rfl
     |some B=>
      by_cases hc:B.wr=true/\vs.length=i.size/\off+vs.length<=B.cells.length/\vs.all qI=true
      .simp only[sZ hc,zH]
       congr 2;congr 1;funext c;unfold xI upd restrict
       by_cases E:c=b
       .subst E;simp
       .rw[su (by simp[E]),su E]
      .simp only[su hc,Option.map_none]
  .rw[su hb,su hb];rfl
 |_=>
  simp only[Rj];have:C_ P (restrict σ (zI (val T a))) t (val T a) (val T x)=none:=by
   rw[G];unfold C_;cases P.info? t<;>cases cellsOfV (val T x)<;>rfl
  rw[G]at this;rw[this];simp
theorem ac4(σ:Store)(nx:Nat)(t:TypeId)(v:V)(b off:Nat):Rj P σ nx t v (.rp b off)=if b<nx then C_ P σ t (.rp b off) v else none:=rfl
end
end
end Go.TV
namespace Go.TV
set_option linter.unusedVariables false
set_option linter.unusedSimpArgs false
variable [Known]
noncomputable def fn(P:Program)(conv:FuncId->Conv)(ext:Ext)(f:FuncId)(ts:List V):Option V :=
 match ev P conv ext f ts lI 0 with
 |some (v,σ1,_)=>(strip σ1 depth v).map (·.1)
 |none=>none
section
variable {P:Program} {conv:FuncId->Conv} {ext:Ext}
def behind(σ:Store)(ids:List Nat)(t:V):Store:=if ids.isEmpty||flat depth t then σ else DF σ ids
theorem Vk{f:FuncId}(h:conv f= .JJ)(args:List V)(σ:Store)(nx:Nat):BR conv (ev P conv ext) f args σ nx=
  (stripL (strip σ depth) args).bind fun p=>(fn P conv ext f p.1).map fun t=>(t,behind σ p.2 t,nx):=by
 unfold BR fn behind;rw[h];simp only;cases stripL (strip σ depth) args with
 |none=>rfl
 |some p=>
  obtain⟨ts,ids⟩:=p;simp only[zi];cases ev P conv ext f ts lI 0 with
  |none=>rfl
  |some q=>
   obtain⟨v,E,n⟩:=q;simp only;cases strip E depth v with
   |none=>rfl
   |some r=>
    obtain⟨t,j⟩:=r;simp only[zH]
    split<;>rfl
theorem ZC(σ:Store)(t:V):behind σ [] t=σ:=rfl
theorem ac5(σ:Store)(ids:List Nat)(v:Value):behind σ ids (.sc v)=σ:=by
 unfold behind depth flat;simp
theorem Vl(σ:Store)(ids:List Nat)(v w:Value):behind σ ids (.Au [.sc v,.sc w])=σ:=by
 have:flat depth (.Au [.sc v,.sc w])=true:=rfl;unfold behind;rw[this];simp
theorem qM{call:Call}{f:FuncId}(h:conv f= .inl)(args:List V)(σ:Store)(nx:Nat):BR conv call f args σ nx=call f args σ nx:=by
 unfold BR;rw[h]
theorem Vm{call:Call}{f:FuncId}(h:conv f= .own)(args:List V)(σ:Store)(nx:Nat):BR conv call f args σ nx=
  (stripL (strip σ depth) args).bind fun p=>(call f p.1 lI nx).bind fun q=>(gather q.2.1 depth q.1).map fun ids=>(q.1,CV nx σ q.2.1 ids,q.2.2):=by
 unfold BR;rw[h];simp only;cases stripL (strip σ depth) args with
 |none=>rfl
 |some p=>
  simp only[zi];cases call f p.1 lI nx with
  |none=>rfl
  |some q=>
   simp only[zi];cases gather q.2.1 depth q.1<;>rfl
theorem bP(f:V->Option (V×List Nat)):stripL f []=some ([],[]):=rfl
theorem bU(f:V->Option (V×List Nat))(v:V)(vs:List V):stripL f (v :: vs)=(f v).bind fun p=>(stripL f vs).map fun q=>(p.1 :: q.1,p.2++q.2):=by
 show(match f v,stripL f vs with|some (t,i),some (ts,j)=>some (t :: ts,i++j)|_,_=>none)=_;cases f v<;>cases stripL f vs<;>rfl
theorem bC(σ:Store)(d:Nat)(v:Value):strip σ d (.sc v)=some (.sc v,[]):=by cases d<;>rfl
theorem bF(σ:Store)(d:Nat):strip σ d .nil=some (.ts [] 0,[]):=by cases d<;>rfl
theorem ay(σ:Store)(d:Nat)(row:List V)(off:Nat):strip σ d (.tp row off)=some (.tp row off,[]):=by cases d<;>rfl
theorem au(σ:Store)(d:Nat)(row:List V)(len:Nat):strip σ d (.ts row len)=some (.ts row len,[]):=by cases d<;>rfl
theorem bJ(σ:Store)(d:Nat)(vs:List V):strip σ (d+1) (.agg vs)=(stripL (strip σ d) vs).map fun p=>(.agg p.1,p.2):=by
 show(match stripL (strip σ d) vs with|some (ts,ids)=>some (V.agg ts,ids)|none=>none)=_;cases stripL (strip σ d) vs<;>rfl
theorem ac6(σ:Store)(d:Nat)(vs:List V):strip σ (d+1) (.Au vs)=(stripL (strip σ d) vs).map fun p=>(.Au p.1,p.2):=by
 show(match stripL (strip σ d) vs with|some (ts,ids)=>some (V.Au ts,ids)|none=>none)=_;cases stripL (strip σ d) vs<;>rfl
theorem ac7(σ:Store)(d:Nat)(f:FuncId)(vs:List V):strip σ (d+1) (.clo f vs)=(stripL (strip σ d) vs).map fun p=>(.clo f p.1,p.2):=by
 show(match stripL (strip σ d) vs with|some (ts,ids)=>some (V.clo f ts,ids)|none=>none)=_;cases stripL (strip σ d) vs<;>rfl
theorem Md(σ:Store)(d b off:Nat):strip σ (d+1) (.rp b off)=(σ b).bind fun B=>(stripL (strip σ d) B.cells).map fun p=>(.tp p.1 off,b :: p.2):=by
 show(match σ b with|some B=>(match stripL (strip σ d) B.cells with|some (ts,ids)=>some (V.tp ts off,b :: ids)|none=>none)|none=>none)=_;cases σ b with
 |none=>rfl
 |some B=>simp only[zi];cases stripL (strip σ d) B.cells<;>rfl
theorem bD(σ:Store)(d b off len:Nat):strip σ (d+1) (.rs b off len)=(σ b).bind fun B=>if off+len*B.st<=B.cells.length then(stripL (strip σ d) ((B.cells.drop off).take (len*B.st))).map fun p=>(.ts p.1 len,b :: p.2)else none:=by
 show(match σ b with|some B=>(if off+len*B.st<=B.cells.length then(match stripL (strip σ d) ((B.cells.drop off).take (len*B.st))with|some (ts,ids)=>some (V.ts ts len,b :: ids)|none=>none)else none)|none=>none)=_;cases σ b with
 |none=>rfl
 |some B=>
  simp only[zi]
  split
  .cases stripL (strip σ d) ((B.cells.drop off).take (len*B.st))<;>rfl
  .rfl
def Vo(ids:List Nat)(t:V)(σ:Store)(nx:Nat):JG:=if(ids.isEmpty||flat depth t)=true then some (t,σ,nx)else none
theorem ac8(t:V)(σ:Store)(nx:Nat):Vo [] t σ nx=some (t,σ,nx):=rfl
theorem afB(ids:List Nat)(v:Value)(σ:Store)(nx:Nat):Vo ids (.sc v) σ nx=some (.sc v,σ,nx):=by
 unfold Vo depth flat;simp
theorem afC{d:Option Tmp}{ty:TypeId}{ps:String}{O:Array Edge}{S:Option (Nat×Bool)}{T:Nat->V}{σ:Store}{nx:Nat}{g:FuncId}(h:conv g= .JJ)(args:Array Operand)(ts:Array TypeId) :
  Af P conv (ev P conv ext) ⟨d,.call ⟨.value (.func g),args,ts⟩,ty,ps,O,S⟩ T σ nx=(stripL (strip σ depth) (args.toList.map (val T))).bind fun p=>if(p.2.all fun b=>decide (b<nx))=true then(fn P conv ext g p.1).bind fun t=>Vo p.2 t σ nx else none:=by
 unfold Af;rw[mQ d ty ps O S T σ (by rw[h];exact fun e=>by cases e)];cases Y:stripL (strip σ depth) (args.toList.map (val T))with
 |none=>rfl
 |some p=>
  obtain⟨us,ids⟩:=p;simp only[zH,zi]
  by_cases E:(ids.all fun b=>decide (b<nx))=true
  .rw[sZ E,sZ E]
   have e:=KO (P:=P) (conv:=conv) (call:=ev P conv ext) d ty ps O S T (restrict σ ids) nx (.func g) args ts;rw[e];have G:stripL (strip (restrict σ ids) depth) (args.toList.map (val T))=some (us,ids) :=
    bY (fun v t i h hi=>bH _ v t i h fun b hb=>by unfold restrict;rw[sZ (hi b hb)]) Y
   simp only[val,qN,zM,Vk h,G,zi];cases fn P conv ext g us with
   |none=>rfl
   |some t=>
    simp only[zH,zi,keeps,val,h,Vo,behind]
    by_cases J:(ids.isEmpty||flat depth t)=true
    .rw[sZ J,sZ J,sZ J,iU]
    .rw[su J,su J]
  .rw[su E,su E]
end
abbrev I(n:Int):V:=.sc (.int .i64 n)
abbrev Bo(b:Bool):V:=.sc (.bool b)
abbrev Sg(s:ByteArray):V:=.sc (.string s)
abbrev L(xs:List Int):V:=.ts (xs.map I) xs.length
theorem jL(n:Nat):(0:Int)<=(n:Int):=by omega
theorem Zl{n:Int}(E:-9223372036854775808<=n:=by omega)(G:n<=9223372036854775807:=by omega):IntKind.i64.wrap n=n:=by
 rw[IntKind.wrap_i64];omega
end Go.TV
namespace Go.TV
variable [Known]
attribute [go_sem low] jB
attribute [go_sem] YS ai5 acR YT YU U7 Q9 YV YW YX U8 ai6 afm ai7 afn afo acS acT YZ Y0 U9 U_ Va Y1 afp ai8 Y2 acU amP ai9 ai_ ai' aja ajb afq afr acV amQ Vb afs acW amR OG Y3 Y4 ajc acX amS L9 Vd Y5 ajd L_ Ve Y6 aje Q_ acY aft aqc Y7 ajf OH Y8 Y9 ajg afu aqd amT acZ List.contains_cons List.contains_nil Bool.or_false Bool.false_or Bool.true_or Nat.reduceBEq acC YF UM acD acE acF YG QX UN QY aiP acG ae1 aiQ acH aa3 YH UO ap9 ap_ ap' amG aiR aiS ae2 YI ae3 aiT amH uj wJ vw ae4 ae5 aiU ae6 JQ aiV aiW ae8 aiX YJ UQ Hy ae9 QZ ae_ Q5 ae' LZ afa KO qN amI Ph aiZ afc acz YC YK UU YL UW YM acI YN acK afe ai0 aff afg afh acL YO acM acN UZ acO acP YP Q7 YQ YR acQ aqa ai1 amJ ai2 afk amK amL aqb amM amN ai3 afl ai4 amO Y_ Vg Rf Za Zb Zc Vh afv ZA afw Ri ac0 afx OI OJ Vj ajh ac1 ac2 aji afy afz afA ac3 ac4 afC ac8 afB yB Option.getD_none acv Yu acw Yv Yw UH Yx Yy Yz YA acy oH YB UJ UK ny o_ acA acB UL YD YE amr ams amu amv amw amx amy amA amB amC amD amE amF Vk ZC ac5 Vl bP bU bC bF ay au bJ ac6 ac7 Md bD aF aG ne_eq wZ tu yB zH zi wo not_false_eq_true reduceCtorEq beq_self_eq_true if_true if_false yD x9 List.map_nil yL yY Nat.reduceEqDiff decide_true decide_false vw uj vN wY Bool.and_true Bool.or_true wJ bnd and_true true_and
end Go.TV
namespace Go.TV
variable [Known]
theorem je{body:St->Option (Ex×St)}{E:St}{x:Option (Ex×St)}(S:gI body E=x)(J:Nat->St->Prop)(post:Ex×St->Prop)
  (step:∀n st,J n st->(∃G,body st=some (.norm,G)/\∃m,m<n/\J m G)\/(∃r,body st=some r/\(∀s,r≠(.norm,s))/\post r)) (n:Nat) (Y:J n E):∃r,x=some r/\post r:=by
 subst S
 induction n using Nat.strongRecOn generalizing E with
 |_ n ih=>
  rcases step n E Y with ⟨G,O,m,hm,hJ⟩|⟨r,O,h2,h3⟩
  .obtain⟨r,hr,hp⟩:=ih m hm hJ
   exact⟨r,by rw[nk,O];exact hr,hp⟩
  .refine⟨r,?_,h3⟩
   rw[nk,O];obtain⟨e,s⟩:=r;cases e with
   |norm=>exact absurd rfl (h2 s)
   |exit i=>rfl
   |ret=>rfl
end Go.TV
namespace Go.TV
open Go.ChangeShapes Go.WideShapes Go.RowKit
set_option linter.unusedVariables false
variable [Known]
def start(W:World):Sit:=⟨fun k _=>k<W.heap.size,fun _=>none,W⟩
theorem ac9(W:World)(E:Kn (start W)):Inv (start W) lI:=Inv.none _ (fun _ _ h=>h) E
structure OpensV {α:Type} (P:Program) (t:TypeId) (c:α->List V) (ok:α->Prop):Prop where
 out:∀ {H:Type} {enc:TypeId×Value->H} {W:World} {base:Nat} {spare:Nat->Bool} {held:Bool} {fuel:Nat} {cs:List Value} {y:DataW H×List MemPlace},
  DataW.trod enc P W base spare held fuel t cs=some y->(∀n∈DataW.weights P t y.1,n<=reachBytes)->∃x,VRs (start W) (c x) cs/\ok x
theorem H6{s:Sit}{v:V}{x:Value}(h:VR s v x):VRs s [v] [x]:=by
 unfold VRs;exact⟨x,[],rfl,h,by unfold VRs;rfl⟩
theorem opensV_int{P:Program}{t:TypeId}{k:IntKind}(E:P.underlying t=some (.int k)):OpensV P t (fun n:Int=>[.sc (.int k n)]) (fun n=>(Lit.int k n).wf=true) :=
 ⟨fun h _=>by
  obtain⟨n,rfl,_,hw⟩:=DataW.trod_int E h;exact⟨n,H6 (sH rfl),hw⟩⟩
theorem opensV_bool{P:Program}{t:TypeId}(E:P.underlying t=some .bool):OpensV P t (fun b:Bool=>[.sc (.bool b)]) (fun _=>True) :=
 ⟨fun h _=>by
  obtain⟨b,rfl,_⟩:=DataW.trod_bool E h;exact⟨b,H6 (sH rfl),trivial⟩⟩
theorem opensV_string{P:Program}{t:TypeId}(E:P.underlying t=some .string):OpensV P t (fun s:ByteArray=>[.sc (.string s)]) (fun s=>s.size<=140737488351232) :=
 ⟨fun h hw=>by
  obtain⟨s,rfl,rfl,_⟩:=DataW.trod_string E h;refine⟨s,H6 (sH rfl),?_⟩;have:=hw s.data.toList.length (by simp[DataW.weights]);rw[yX]at this;exact this⟩
theorem Zn{H:Type}{P:Program}{e:TypeId}:∀ {l:List (DataW H)} {d:DataW H},d∈l->∀n∈d.weights P e,n∈DataW.weightsAll P e l
 |c :: l,d,E,n,hn=>by
  unfold DataW.weightsAll;rcases List.mem_cons.1 E with rfl|E
  .exact yh _ hn
  .exact zA _ (Zn E n hn)
theorem JU{α:Type}{p:Nat->α->Prop}:∀n,(∀i,i<n->∃x,p i x)->∃l:List α,l.length=n/\∀i x,l[i]?=some x->p i x
 |0,_=>⟨[],rfl,fun i x h=>by simp at h⟩
 |n+1,h=>by
  obtain⟨l,J,O⟩:=JU n (fun i hi=>h i (by omega));obtain⟨x,S⟩:=h n (by omega);refine⟨l++[x],by simp[J],fun i y E=>?_⟩;rcases Nat.lt_or_ge i n with hi|hi
  .rw[zW (by omega)]at E
   exact O i y E
  .rw[zN (by omega),J]at E
   have G:i-n=0:=by
    rcases Nat.eq_zero_or_pos (i-n)with G|G
    .exact G
    .rw[yg (by simp;omega)]at E
     cases E
   rw[G]at E;have:x=y:=by simpa using E
   subst this;have:i=n:=by omega
   subst this;exact S
theorem H7{s:Sit}{α:Type}{c:α->List V}{k size:Nat}(hc:∀x,(c x).length=size):∀(xs:List α) (o:Nat),(∀i x,xs[i]?=some x->DV s (c x) k (o+i*size))->DV s (xs.flatMap c) k o
 |[],o,_=>by rw[wE];unfold DV;trivial
 |x :: xs,o,h=>by
  rw[zO];have G:=h 0 x rfl;rw[vC,uY]at G;have J:=H7 hc xs (o+size) (fun i y O=>by
   have:=h (i+1) y (by simpa using O);rw[vT,Nat.one_mul]at this
   rwa [show o+size+i*size=o+(i*size+size) by omega])
  have app:∀(a b:List V) (o:Nat),DV s a k o->DV s b k (o+a.length)->DV s (a++b) k o:=by
   intro a
   induction a with
   |nil=>intro b o _ hb;simpa using hb
   |cons v a S=>
    intro b o E hb;rw[yY];unfold DV at E⊢;refine⟨E.1,E.2.1,S b (o+1) E.2.2 ?_⟩
    rwa [show o+1+a.length=o+(v :: a).length by simp;omega]
  exact app _ _ o G (by rw[hc];exact J)
theorem opensV_slice{P:Program}{t e:TypeId}{α:Type}{c:α->List V}{ok:α->Prop}{B size:Nat}(ht:P.underlying t=some (.slice e))(hd:OpensV P e c ok)(E:∀x,(c x).length=size)(hc:P.cellsOf e=size)(hB:P.bytesOf e=B) :
  OpensV P t (fun xs:List α=>[.ts (xs.flatMap c) xs.length]) (fun xs=>(∀x∈xs,ok x)/\xs.length*B<=140737488351232/\xs.length<=maxLen) :=
 ⟨fun {H enc W base spare held fuel cs y} h hw=>by
  rcases Go.Deep.open_slice ht h with ⟨rfl,rfl⟩|⟨a,len,cap,m,n,D,Pl,rfl,_,hl,hm,b3,rfl,Y⟩
  .exact⟨[],H6 (by unfold VR;exact⟨none,0,rfl,zq _,.inl rfl⟩),fun x Y=>by simp at Y,by simp,vS _⟩
  .have c3:len<=m:=by rw[b3];split<;>omega
   simp only[DataW.weights,ht,zV,uS]at hw;obtain⟨xs,a1,G⟩:=JU (p:=fun i x=>∃J:List Value,J.length=size/\VRs (start W) (c x) J/\ok x/\∀(j:Nat) (u:Value),J[j]?=some u->W.cell? (a.add (i*size+j))=some u) len (fun i hi=>by
    obtain⟨b4,a6,b5⟩:=Y i (by omega);obtain⟨x,hK,b6⟩:=hd.out b5 (fun k hk=>hw k (zY _ (yh _ (Zn (d:=D i) (List.mem_map.2 ⟨i,List.mem_range.2 hi,rfl⟩) k hk))));obtain⟨_,b7,b8⟩:=World.cells?_some a6;refine⟨x,b4,by rw[<- rY hK,E],hK,b6,fun j u hu=>?_⟩;have hj:j<P.cellsOf e:=by rw[<- b7];exact(List.getElem?_eq_some_iff.1 hu).1
    have:=b8 j hj;rw[hc,Go.Deep.add_add]at this;rw[this,hu])
   have hlen:len<=9223372036854775807:=by
    unfold maxLen at hm;omega
   refine⟨xs,H6 ?_,fun x b9=>?_,?_,by omega⟩
   .unfold VR
    refine⟨some a,cap,by rw[a1],by omega,?_⟩
    by_cases O:xs.flatMap c=[]
    .exact .inl O
    .obtain⟨x0,c0⟩:∃x0,xs[0]?=some x0:=by
      cases xs with
      |nil=>exact absurd rfl O
      |cons x0 r=>exact⟨x0,rfl⟩
     have S:a.spot=none/\a.block<W.heap.size:=by
      obtain⟨J,k1,k2,k3,k4⟩:=G 0 x0 c0;have a7:J≠[]:=by
       rintro rfl;have:size=0:=by simpa using k1.symm
       apply O;rw[List.flatMap_eq_nil_iff];intro x _;exact zZ (by rw[E,this])
      cases J with
      |nil=>exact absurd rfl a7
      |cons u r=>
       have:=k4 0 u rfl;rw[vC,yu]at this;have c2:a.add 0=a:=by simp[Addr.add]
       rw[c2]at this;refine⟨?_,World.block_lt_of_cell? W a this⟩;unfold World.cell? at this
       split at this
       .split at this
        .cases this
        .rename_i hs;simpa using hs
       .cases this
     obtain⟨a8,b2⟩:=S;obtain⟨ab,ao,c4⟩:=a;simp only at a8 b2;subst a8;refine .inr ⟨ab,ao,rfl,H7 E xs ao fun i x Y=>Hg fun j v hv=>⟨b2,?_⟩⟩;obtain⟨J,k1,k2,k3,k4⟩:=G i x Y;obtain⟨u,hu,hr⟩:=rZ k2 hv;refine⟨u,?_,hr⟩;have:=k4 j u hu;rw[Addr.add_lit]at this;rw[wK];exact this
   .obtain⟨i,hi⟩:=List.mem_iff_getElem?.1 b9
    obtain⟨_,_,_,h3,_⟩:=G i x hi;exact h3
   .have:=hw _ zQ
    rw[hB]at this;rw[a1];exact zL (zK _ (by omega)) this⟩
structure KQ {α:Type} (P:Program) (fs:List Field) (off sz:Nat) (c:α->List V) (ok:α->Prop):Prop where
 out:∀ {H:Type} {enc:TypeId×Value->H} {W:World} {base:Nat} {spare:Nat->Bool} {held:Bool} {n:Nat} {cs:List Value} {xs:List (DataW H×List MemPlace)},
  xs.length=fs.length->(∀(i:Nat) (f:Field),fs[i]?=some f->DataW.trod enc P W base spare held n f.type ((cs.drop f.offset).take (P.cellsOf f.type))=xs[i]?) ->
  (∀n∈DataW.weightsEach P (fs.map (·.type)) (xs.map (·.1)),n<=reachBytes)->∃x,VRs (start W) (c x) ((cs.drop off).take sz)/\ok x
theorem opensVF_one{P:Program}{f:Field}{off sz:Nat}{α:Type}{c:α->List V}{ok:α->Prop}{t:TypeId}(S:f.offset=off)(G:f.type=t)(h:OpensV P t c ok)(hc:P.cellsOf t=sz):KQ P [f] off sz c ok :=
 ⟨fun {H enc W base spare held n cs xs} Y hx hw=>by
  match xs,Y with
  |[y],_=>
   have J:=hx 0 f rfl;rw[G]at J;obtain⟨x,O,E⟩:=h.out (y:=y) (by simpa using J) (fun n hn=>hw n (by simp[DataW.weightsEach,G];exact hn));rw[S,hc]at O;exact⟨x,O,E⟩⟩
theorem opensVF_cons{P:Program}{f:Field}{fs:List Field}{off off' sz E:Nat}{α β:Type}{a:α->List V}{b:β->List V}{G:α->Prop}{J:β->Prop}{t:TypeId}(ho:f.offset=off)(hf:f.type=t)(h:OpensV P t a G)(hc:P.cellsOf t=sz)
  (hr:KQ P fs off' E b J) (O:off'=off+sz):KQ P (f :: fs) off (sz+E) (fun x:α×β=>a x.1++b x.2) (fun x=>G x.1/\J x.2) :=
 ⟨fun {H enc W base spare held n cs xs} S hx hw=>by
  match xs,S with
  |y :: ys,S=>
   have h0:=hx 0 f rfl;rw[hf]at h0;obtain⟨x,hK,Y⟩:=h.out (y:=y) (by simpa using h0) (fun n hn=>hw n (by simp only[x9,DataW.weightsEach,hf];exact yh _ hn));obtain⟨z,hZ,a1⟩:=hr.out (cs:=cs) (xs:=ys) (by simpa using S) (fun i g hg=>hx (i+1) g hg) (fun n hn=>hw n (by simp only[x9,DataW.weightsEach];exact zA _ hn));rw[ho,hc]at hK;rw[O,<- uK]at hZ;refine⟨(x,z),?_,Y,a1⟩;rw[List.take_add];exact sD hK hZ⟩
theorem opensV_struct{P:Program}{t:TypeId}{fs:Array Field}{α:Type}{c:α->List V}{ok:α->Prop}{sz:Nat}(G:P.underlying t=some (.struct fs))(h:KQ P fs.toList 0 sz c ok)(hc:P.cellsOf t=sz):OpensV P t c ok :=
 ⟨fun {H enc W base spare held fuel cs y} O hw=>by
  obtain⟨xs,n,_,rfl,S,Y,hx⟩:=DataW.trod_struct G O;simp only[DataW.weights,G]at hw;obtain⟨x,J,E⟩:=h.out (cs:=cs) (xs:=xs) (by simpa using Y) (fun i f hf=>hx i f (by simpa using hf)) hw;rw[yw,zo (by omega)]at J;exact⟨x,J,E⟩⟩
theorem opensV_iso{P:Program}{t:TypeId}{α β:Type}{c:α->List V}{ok:α->Prop}(f:β->α)(g:α->β)(G:∀x,f (g x)=x)(h:OpensV P t c ok):OpensV P t (fun y=>c (f y)) (fun y=>ok (f y)) :=
 ⟨fun J hw=>by
  obtain⟨x,O,E⟩:=h.out J hw;exact⟨g x,by show VRs _ (c (f (g x))) _;rw[G];exact O,by show ok (f (g x));rw[G];exact E⟩⟩
theorem opensV_param{P:Program}{t:TypeId}{α:Type}{c:α->List V}{ok:α->Prop}(h:OpensV P t c ok){H:Type}{enc:TypeId×Value->H}{W:World}{base:Nat}{spare:Nat->Bool}{held:Bool}{v:Value}{y:DataW H}{p:List MemPlace}
  (S:DataW.Trod enc P W base spare held t v y p) {ts:List TypeId} {O:List (DataW H)} {j:Nat} (E:(DataW.weightsEach P ts O).all (·<=reachBytes)=true) (G:ts[j]?=some t) (J:O[j]?=some y) :
  ∃x,VRs (start W) (c x) v.cells.toList/\ok x:=by
 obtain⟨fuel,Y⟩:=S;exact h.out Y (fun n hn=>by
  have:=List.all_eq_true.1 E n (DataW.weights_mem_each G J n hn)
  simpa using this)
theorem VR_cell{s:Sit}{v:V}{x:Value}(hc:x.cells=#[x])(h:VRs s [v] x.cells.toList):VR s v x:=by
 rw[hc]at h;unfold VRs at h;obtain⟨y,G,e,E,_⟩:=h;simp only[List.cons.injEq]at e;rw[e.1];exact E
theorem VR_aggv{s:Sit}{vs:List V}{cs:Array Value}(h:VRs s vs (Value.agg cs).cells.toList):VR s (.agg vs) (.agg cs):=by
 unfold VR;exact⟨cs,rfl,h⟩
theorem calls_of_fn{P:Program}{conv:FuncId->Conv}{ext:Ext}(hm:P.follows .mixedOrders=true)(S:Hw P ext){f:FuncId}{args:List V}{E:List Value}{W:World}(Y:Kn (start W))(hv:VRs (start W) args E)(h:fn P conv ext f args=some (.sc (.bool true))) :
  Calls P f E.toArray W (fun e w'=>e= .returned (.bool true)/\Below W.heap.size W w'):=by
 unfold fn at h
 split at h
 .rename_i v G n J
  obtain⟨p,hp,e⟩:=Am h;obtain⟨_,_,Ye⟩:=nH hm S _ _ _ _ _ _ _ J;refine(Ye (start W) E (ac9 W Y) (fun _ _ _=>rfl) hv).mono ?_;rintro e' w' ⟨s',x,rfl,rfl,O⟩;refine⟨?_,O.Uc.below⟩;have:=b_ O.inv depth v p.1 p.2 x _ hp O.vr (pG s' G p.2);rw[e]at this;unfold VR at this;rw[this.1]
 .cases h
end Go.TV
namespace Go.TV
variable [Known]
theorem nO{α β:Type}{P:Program}(m:Sem α)(f:α->Sem β):uI P (m>>=f)=(uI P m).bind fun a=>uI P (f a):=by
 show uI P (m.bind f)=_
 induction m with
 |pure a=>rfl
 |program k E=>exact E P
 |mark m k E=>exact E
 |_=>rfl
theorem JV{α:Type}{P:Program}(a:α):uI P (pure a:Sem α)=some a:=rfl
theorem nM{P:Program}:uI P program=some P:=rfl
theorem Me{α:Type}{P:Program}(c:Prop)[Decidable c](a b:Sem α):uI P (if c then a else b)=if c then uI P a else uI P b:=by split<;>rfl
theorem oK{P:Program}{t:TypeId}{d:TypeDesc}(h:P.underlying t=some d):uI P (underlying t)=some d:=by
 unfold underlying;rw[nO,nM];simp only[zi,h];rfl
theorem oM{P:Program}(d:Nat)(t:TypeId)(k E:IntKind)(a b:Int)(h:P.underlying t=some (.int E)):uI P (Op.equalIn (d+1) t (.int k a) (.int k b))=some (a==b):=by
 unfold Op.equalIn;rw[nO,oK h];simp only[zi,if_true];rfl
theorem H8{P:Program}(d:Nat)(t:TypeId)(xs E:Array Value)(G:P.underlying t=some (.struct (P.fieldsOf t)))(O:P.stoodInHeld t=false) :
  uI P (Op.equalIn (d+1) t (.agg xs) (.agg E))=uI P (Op.eqFields d xs E (P.fieldsOf t).toList):=by
 unfold Op.equalIn;rw[nO,oK G];simp only[zi,nO,nM,O,yD,if_false,JV];rw[<- Array.forIn_toList];generalize (P.fieldsOf t).toList=fs;clear G
 induction fs with
 |nil=>rfl
 |cons f fs J=>
  simp only[List.forIn_cons,Op.eqFields,nO,Me]
  split
  .cases uI P (part f.type xs f.offset)with
   |none=>rfl
   |some a=>
    cases uI P (part f.type E f.offset)with
    |none=>rfl
    |some b=>
     simp only[zi];cases uI P (Op.equalIn d f.type a b)with
     |none=>rfl
     |some r=>
      cases r
      .rfl
      .exact J
  .exact J
theorem oL {P:Program} {d:Nat} {xs E:Array Value} {f:Field} {fs:List Field} {a b:Value} {r:Bool} (hn:f.name ≠ "_") (G:uI P (part f.type xs f.offset) = some a) (hb:uI P (part f.type E f.offset) = some b) (J:uI P (Op.equalIn d f.type a b) = some r) :
  uI P (Op.eqFields d xs E (f :: fs))=if r=true then uI P (Op.eqFields d xs E fs)else some false:=by
 conv=>lhs;rw[Op.eqFields]
 rw[sZ hn,nO,G];simp only[zi,nO,hb,J,Me];cases r<;>rfl
theorem ZE{P:Program}{t:TypeId}{x y:Operand}{cs G:List V}{us vs:List Value}{r:Bool}{fs:Array Field}(hm:P.eqGuardType P.depth t=false)(J:P.underlying t=some (.struct fs))(O:P.stoodInHeld t=false)
  (hu:EP cs=some us) (S:EP G=some vs) (h:uI P (Op.eqFields 9999 us.toArray vs.toArray fs.toList)=some r):AB P .eql t x y (.agg cs) (.agg G)=some (.sc (.bool r)):=by
 have E:P.fieldsOf t=fs:=by unfold Program.fieldsOf;rw[J]
 have Y:uI P (eqGuard .eql t x y (.agg us.toArray) (.agg vs.toArray))=some ():=by
  unfold eqGuard;rw[su (by simp)];simp only[nO,nM,zi,hm,wY,if_true];rfl
 have he:uI P (binOp .eql t (.agg us.toArray) (.agg vs.toArray))=some (Value.bool r):=by
  have h1:binOp .eql t (.agg us.toArray) (.agg vs.toArray)=(Op.equal t (.agg us.toArray) (.agg vs.toArray)>>=fun b=>pure (Value.bool b)):=by simp only[binOp]
  have h2:uI P (Op.equal t (.agg us.toArray) (.agg vs.toArray))=some r:=(H8 9999 t _ _ (by rw[E];exact J) O).trans (by rw[E];exact h);rw[h1,nO,h2];rfl
 simp only[AB,toVal,hu,S,zH,nO,Y,he,zi];rfl
end Go.TV
namespace Go.TV
variable [Known]
open Go.RowKit
section
variable {P:Program} {conv:FuncId->Conv} {call:Call}
theorem Rk{t e:TypeId}{x y:Operand}{p:Option Addr}{len cap:Nat}(h:P.underlying t=some (.slice e))(w:World) :
  ((do eqGuard .eql t x y (.slice p len cap) (.slice none 0 0);binOp .eql t (.slice p len cap) (.slice none 0 0)):Sem Value).run P w= .ok (.bool p.isNone) w:=by
 refine fJ _ ?_ w;rw[nO,eqGuard_at_slice];simp only[JV,zi];have E:binOp .eql t (.slice p len cap) (.slice none 0 0)=(Op.equal t (.slice p len cap) (.slice none 0 0)>>=fun b=>pure (Value.bool b)):=by simp only[binOp]
 rw[E,nO];have G:uI P (Op.equal t (.slice p len cap) (.slice none 0 0))=some p.isNone:=by
  show uI P (Op.equalIn (9999+1) t _ _)=_;unfold Op.equalIn;rw[nO,oK h];simp only[zi];cases p<;>rfl
 rw[G];rfl
theorem MB(hc:Dp P call)(hm:P.follows .mixedOrders=true){f:FuncId}{fn:Func}{A B C D:Code}{id t u:Nat}{o1:Oper}{ty yt E e:TypeId}{ps:String}{af:Array Edge}(hf:P.funcs[f]?=some fn)
  (hb:fn.body=some (.seq A (.seq (.seq (.region id #[o1,⟨some t,.binOp .eql ty (.tmp u) (.const (.slice none 0 0)) yt,E,ps,af,none⟩] false) (.cond (.tmp t) B C)) D)))
  (c6:P.underlying ty=some (.slice e)) {n:Nat} {args:List V}
  (b4:Uu fn (.seq A (.seq (.seq (.region id #[o1,⟨some t,.binOp .eql ty (.tmp u) (.const (.slice none 0 0)) yt,E,ps,af,none⟩] false) (.cond (.tmp t) B C)) D)) args.length=true)
  {σ σ':Store} {nx nx':Nat} {vs:List V} {st1:St} (hA:wI P conv call n A ⟨Dl args,σ,nx⟩=some (.norm,st1)) {T2:Nat->V}
  (hg:o1.guard=none) {v1:V} (h1:Aq P conv call o1 st1.T st1.σ st1.nx=some (v1,st1.σ,st1.nx)) (c7:T2=CP st1.T o1.dst v1) {row:List V} {len:Nat} (hu:T2 u= .ts row len)
  (S:∀b:Bool,(b=true->row=[])->∃ex O,wI P conv call n (.seq (.cond (.tmp t) B C) D) ⟨upd T2 t (.sc (.bool b)),st1.σ,st1.nx⟩=some (ex,O)/\(ex= .norm\/ex= .ret)/\Ac P O.T O.σ fn.results.toList=some vs/\O.σ=σ'/\O.nx=nx') :
  D9 P f args σ nx (oneOf vs) σ' nx':=by
 unfold Uu at b4;simp only[yc,decide_eq_true_eq,vZ]at b4;obtain⟨⟨b5,h7⟩,b3⟩:=b4;simp only[EC,yc]at b3;obtain⟨c8,⟨c9,e0,e2⟩,e3⟩:=b3;have e4:=oD hc n A _ _ _ hA;obtain⟨h8,h9,e5,_,_,_,i0⟩:=S false (fun h=>by cases h);have i1:st1.nx<=nx':=by have:=oD hc n _ _ _ _ e5;simp only at this;omega
 have b8:∀o∈[o1,(⟨some t,.binOp .eql ty (.tmp u) (.const (.slice none 0 0)) yt,E,ps,af,none⟩:Oper)],∀d,o.dst=some d->d<fn.ntmps:=fun o ho d e6=>by
  have:=Array.all_eq_true'.1 c9 o (by simpa using ho);rw[e6]at this
  simpa using this
 refine⟨by simp only at e4;omega,⟨fn,hf,by rw[hb];rfl,b5⟩,fun s h6 hi e7 Y=>?_⟩;have hl:=rY Y;refine calls_of_wp hf hb ?_;refine wp_seq (pW hc hm (nt:=fn.ntmps) (Kw:=nx') (s0:=s) (Ci:=σ) (Gh:=nx) n A ⟨Dl args,σ,nx⟩ st1 .norm _ hA c8 (by omega) (fun s1 a1 b6=>?_) s _
  ⟨hi,aa1 Y _,by simp;omega,rfl,.refl s σ,.refl s nx nx,e7,zq _⟩)
 refine wp_seq (wp_seq (wp_region ?_));show wpOps P _ _ [0,1] a1 s1.w;have hw:∀(o:Oper) (tm:Array Value),o.guard=none->Region.wanted o (yielded #[o1,(⟨some t,.binOp .eql ty (.tmp u) (.const (.slice none 0 0)) yt,E,ps,af,none⟩:Oper)] tm)=true:=fun o tm h=>by unfold Region.wanted;rw[h]
 rw[wpOps_cons];unfold wpOp;rw[show(#[o1,(⟨some t,.binOp .eql ty (.tmp u) (.const (.slice none 0 0)) yt,E,ps,af,none⟩:Oper)])[0]?=some o1 from rfl];simp only[hw o1 _ hg,if_true];refine .inl (LP hc h1 b6.inv b6.tr (fun i h1 h2=>absurd h2 (by omega)) fun s2 x2 e8=>?_);have a6:=b6.step e8 (zq _) (b8 o1 (by simp));rw[<- c7]at a6;generalize a1.put o1.dst x2=a2 at a6⊢;rw[wpOps_cons];unfold wpOp;rw[show(#[o1,(⟨some t,.binOp .eql ty (.tmp u) (.const (.slice none 0 0)) yt,E,ps,af,none⟩:Oper)])[1]?=some ⟨some t,.binOp .eql ty (.tmp u) (.const (.slice none 0 0)) yt,E,ps,af,none⟩from rfl];simp only[hw ⟨some t,.binOp .eql ty (.tmp u) (.const (.slice none 0 0)) yt,E,ps,af,none⟩ _ rfl,if_true];have hx:=a6.tr u;rw[hu]at hx;unfold VR at hx;obtain⟨p,cap,e9,_,b9⟩:=hx;refine .inl (Zm (w':=s2.w) (x:=.bool p.isNone) ?_ ?_)
 .have he:execOp a2.eval ⟨some t,.binOp .eql ty (.tmp u) (.const (.slice none 0 0)) yt,E,ps,af,none⟩=(do pure (.value (<- (do eqGuard .eql ty (.tmp u) (.const (.slice none 0 0)) (a2.tmps.getD u undef) (.slice none 0 0);binOp .eql ty (a2.tmps.getD u undef) (.slice none 0 0)))):Sem Next):=rfl
  rw[he,e9];simp only[Sem.run_bind,Sem.run_pure];have:=Rk (P:=P) (x:=.tmp u) (y:=.const (.slice none 0 0)) (p:=p) (len:=len) (cap:=cap) c6 s2.w;simp only[Sem.run_bind]at this;rw[this];rfl
 .obtain⟨ex,O,J,hex,c0,h0,b2⟩:=S p.isNone (fun hp=>by
   rcases b9 with h|⟨k,o,h,_⟩
   .exact h
   .rw[h]at hp;cases hp)
  have G:Yi fn.ntmps nx' s σ nx (upd T2 t (.sc (.bool p.isNone))) st1.σ st1.nx s2 (a2.put (some t) (.bool p.isNone)) :=
   a6.step (Out.same a6.inv (by unfold VR;exact⟨rfl,rfl⟩)) (zq _) (b8 ⟨some t,.binOp .eql ty (.tmp u) (.const (.slice none 0 0)) yt,E,ps,af,none⟩ (by simp))
  simp only[wpOps];show Code.wp P (Code.cond (.tmp t) B C) _ _ _;have fin:∀s3 a3,Yi fn.ntmps nx' s σ nx O.T O.σ O.nx s3 a3->bodyPost P fn (fun e w'=>∃s' x,s'.w=w'/\e= .returned x/\Out s σ nx s' (oneOf vs) x σ' nx') (QS ex) a3 s3.w:=fun s3 a3 G=>by
   obtain⟨xs,g1,g2⟩:=gJ G.inv G.tr fn.results.toList vs c0;have c2:(results fn a3.tmps).run P s3.w= .ok (if h:xs.toArray.size=1 then xs.toArray[0]else .tuple xs.toArray) s3.w:=by
    rw[LW];have e1:fn.results=fn.results.toList.toArray:=by simp
    rw[e1,List.mapM_toArray];simp only[Sem.run_bind,Sem.run_map,g1,Result.andThen_ok,Sem.run_pure]
   have a7:bodyPost P fn (fun e w'=>∃s' x,s'.w=w'/\e= .returned x/\Out s σ nx s' (oneOf vs) x σ' nx') .normal a3 s3.w:=by
    subst h0 b2;exact⟨G.defers,_,c2,s3,_,rfl,rfl,⟨UC g2,G.inv,G.Uc,G.dom⟩⟩
   rcases hex with rfl|rfl
   .exact a7
   .exact a7
  simp only[wI]at J;have c3:EC fn.ntmps (Code.cond (.tmp t) B C)=true:=by simp only[EC,yc];exact⟨e0,e2⟩
  have a8:∀st e c4,(match val (St.T st) (.tmp t)with| .sc (.bool true)=>wI P conv call n B st| .sc (.bool false)=>wI P conv call n C st|_=>none)=some (e,c4)->wI P conv call n (.cond (.tmp t) B C) st=some (e,c4):=fun _ _ _ h=>h
  split at J
  .rename_i c5 h3
   have h4:=oD hc n D _ _ _ J;refine pW hc hm (Kw:=nx') n (.cond (.tmp t) B C) ⟨upd T2 t (.sc (.bool p.isNone)),st1.σ,st1.nx⟩ c5 .norm _ (a8 _ _ _ h3) c3 (zL h4 (Nat.le_of_eq b2)) (fun s3 a3 b7=>?_) s2 _ G;exact pW hc hm (Kw:=nx') n D c5 O ex _ J e3 (Nat.le_of_eq b2) fin s3 a3 b7
  .rename_i r h5
   refine pW hc hm (Kw:=nx') n (.cond (.tmp t) B C) ⟨upd T2 t (.sc (.bool p.isNone)),st1.σ,st1.nx⟩ O ex _ (a8 _ _ _ J) c3 (Nat.le_of_eq b2) (fun s3 a3 b7=>?_) s2 _ G;cases ex with
   |norm=>exact absurd J (h5 O)
   |exit id=>rcases hex with h|h<;>cases h
   |ret=>exact fin s3 a3 b7
end
instance (priority:=low) apB:Known:=⟨[]⟩
end Go.TV
/- strings.Join as the shelf's contract tells it. -/
namespace Go.TV
open Go.RowKit
set_option linter.unusedVariables false
variable [Known]
def strs:List V->Option (List ByteArray)
 |[]=>some []
 | .sc (.string x) :: r=>(strs r).map (x :: ·)
 |_ :: _=>none
def BX(xs:List ByteArray)(sep:ByteArray):ByteArray:=⟨(Lib.join (xs.map (·.data.toList)) sep.data.toList).toArray⟩
def Vp:List V->Store->Nat->Option (V×Store×Nat)
 |[.ts row len,.sc (.string sep)],σ,nx=>match strs row with
  |some xs=>if xs.length=len/\len<=140737488355328/\(BX xs sep).size<=140737488355328 then some (.sc (.string (BX xs sep)),σ,nx)else none
  |none=>none
 |_,_,_=>none
theorem Vs(xs:List ByteArray)(sep:ByteArray):(BX xs sep).size=(Lib.join (xs.map (·.data.toList)) sep.data.toList).length:=by
 show(List.toArray _).size=_;exact wR
theorem ac_{v:V}{r:List V}{xs:List ByteArray}(h:strs (v :: r)=some xs):∃x E,v= .sc (.string x)/\strs r=some E/\xs=x :: E:=by
 unfold strs at h
 split at h
 .rename_i e;cases e
 .rename_i x r' e
  cases e;cases G:strs r with
  |none=>rw[G]at h;cases h
  |some E=>rw[G]at h;cases h;exact⟨x,E,rfl,rfl,rfl⟩
 .cases h
theorem Vt{s:Sit}{k:Nat}:∀ {row:List V} {xs:List ByteArray} {o:Nat},strs row=some xs->DV s row k o->∀(j:Nat) x,xs[j]?=some x->s.w.cell? ⟨k,o+j,none⟩=some (.string x)
 |[],xs,o,h,_,j,x,hj=>by cases h;simp at hj
 |v :: r,xs,o,h,hr,j,x,hj=>by
  obtain⟨y,O,rfl,G,rfl⟩:=ac_ h;unfold DV at hr;obtain⟨_,⟨c,hc,E⟩,J⟩:=hr;unfold VR at E;cases j with
  |zero=>
   have:y=x:=by simpa using hj
   subst this;rw[uY,hc,E.1]
  |succ j=>
   have:=Vt G J j x (by simpa using hj);rw[show o+(j+1)=o+1+j by omega];exact this
theorem ZF{P:Program}{ρ:Go.Shelf.Ren}(L:Go.Proofs.Lays.n156 P ρ)(X:Go.Proofs.Builder.Extra P ρ){f:FuncId}(hf:ρ.f 156=f)(G:callable P f)(args:List V)(σ:Store)(nx:Nat)(v:V)(σ':Store)(nx':Nat)(h:Vp args σ nx=some (v,σ',nx')):D9 P f args σ nx v σ' nx':=by
 subst hf;unfold Vp at h
 split at h
 .rename_i _ _ row len sep
  split at h
  .rename_i xs J
   split at h
   .rename_i hc
    obtain⟨hl,h1,h2⟩:=hc;subst hl;simp only[tC,t_]at h;obtain⟨rfl,rfl,rfl⟩:=h;refine⟨zq _,G,fun s a7 hi a8 O=>?_⟩;unfold VRs at O;obtain⟨x1,ys,rfl,S,O⟩:=O;unfold VRs at O;obtain⟨x2,zs,rfl,Y,hz⟩:=O;unfold VRs at hz;subst hz;unfold VR at S Y;obtain⟨a,cap,rfl,a1,E⟩:=S;obtain⟨rfl,-⟩:=Y;have hv:∀s:Sit,VR s (.sc (.string (BX xs sep))) (.string (BX xs sep)):=fun s=>by unfold VR;exact⟨rfl,rfl⟩
    rcases E with rfl|⟨k,o,rfl,E⟩
    .cases J
     exact(Go.Proofs.Any.strings_Join_none L X a cap sep s.w).mono fun e w' ⟨he,hw⟩=>⟨s,_,hw.symm,he,Out.same hi (hv s)⟩
    .cases row with
     |nil=>
      cases J;exact(Go.Proofs.Any.strings_Join_none L X _ cap sep s.w).mono fun e w' ⟨he,hw⟩=>⟨s,_,hw.symm,he,Out.same hi (hv s)⟩
     |cons v0 r0=>
      have hk:k<s.w.heap.size:=by
       have h3:=E;unfold DV at h3;exact hi.zb k o h3.1
      have a6:(Lib.join (xs.map (·.data.toList)) sep.data.toList).length<=140737488355328:=by
       have:(BX xs sep).size=(Lib.join (xs.map (·.data.toList)) sep.data.toList).length:=Vs xs sep;omega
      refine(Go.Proofs.Any.strings_Join L X k o cap xs sep s.w (fun j x hj=>?_) hk h1 a1 a6).mono fun e w' ⟨he,hb⟩=>?_
      .exact Vt (s:=s.nb) J E j x hj
      .obtain⟨_,h5,h6⟩:=hi.grow hb
       exact⟨{ s with w:=w' },_,rfl,he,hv _,h5,h6,fun _ hd=> .inl hd⟩
   .cases h
  .cases h
 .cases h
abbrev JW(x:ByteArray):List V:=[.sc (.string x)]
theorem ac'(xs:List ByteArray):strs (xs.flatMap JW)=some xs:=by
 induction xs with
 |nil=>rfl
 |cons x xs E=>
  show(strs (xs.flatMap JW)).map (x :: ·)=_;rw[E];rfl
theorem kH(xs:List ByteArray)(sep:ByteArray):(BX xs sep).data.toList=Lib.join (xs.map (·.data.toList)) sep.data.toList:=by unfold BX;simp
theorem MC{a b:ByteArray}(h:a.data.toList=b.data.toList):a=b:=by
 cases a;cases b;have E:=Array.toList_inj.mp h;simp only at E;subst E;rfl
theorem ZG(a b:ByteArray):(a++b).data.toList=a.data.toList++b.data.toList:=by simp[ByteArray.data_append]
theorem ZH(xs:List ByteArray)(sep:ByteArray):BX (xs.take 0) sep=ByteArray.empty:=by
 apply MC;rw[kH,List.take_zero];rfl
theorem Vu(xs:List ByteArray)(sep:ByteArray)(h:0<xs.length):BX (xs.take (0+1)) sep=xs[0]:=by
 apply MC;rw[kH];cases xs with
 |nil=>simp at h
 |cons x r=>simp[Lib.join_one]
theorem ZI(xs:List ByteArray)(sep:ByteArray){k:Nat}(G:k≠0)(h:k<xs.length):BX (xs.take (k+1)) sep=BX (xs.take k) sep++sep++xs[k]:=by
 apply MC;rw[ZG,ZG,kH,kH];cases xs with
 |nil=>simp at h
 |cons x r=>
  obtain⟨k,rfl⟩:∃j,k=j+1:=⟨k-1,by omega⟩;have E:k<r.length:=by simpa using h
  rw[List.take_succ_cons,List.take_succ_cons,x9,x9,Lib.join_cons,Lib.join_cons,List.map_take,List.map_take,
   Lib.joinTail_take_succ _ _ k (r[k].data.toList) (by rw[z_,zy E];rfl)]
  simp
theorem ajj(xs:List ByteArray)(m:Nat)(h:∀x∈xs,x.size<=m):Lib.lens (xs.map (·.data.toList))<=xs.length*m:=by
 induction xs with
 |nil=>simp[Lib.lens]
 |cons x r E=>
  have G:=E fun y J=>h y (zY _ J)
  have O:=h x zQ;have S:x.data.toList.length=x.size:=yX;simp only[Lib.lens,x9,List.sum_cons,zB,yG]at G⊢;omega
theorem MF(xs:List ByteArray)(sep:ByteArray)(m:Nat)(h:∀x∈xs,x.size<=m):(BX xs sep).size<=xs.length*(m+sep.size):=by
 have e:(BX xs sep).size=(Lib.join (xs.map (·.data.toList)) sep.data.toList).length:=Vs xs sep;rw[e];cases xs with
 |nil=>simp[Lib.join_nil]
 |cons x r=>
  have E:=ajj (x :: r) m h;rw[x9,Lib.join_length];rw[x9]at E;have G:sep.data.toList.length=sep.size:=yX;rw[G,zV,Nat.mul_add];have:sep.size*r.length<=(x :: r).length*sep.size:=by rw[wW];exact zK _ (by simp)
  omega
end Go.TV
namespace Go.TV
structure Joint where
 name:ByteArray
 x:Int
 y:Int
 fixed:Bool
structure Member where
 a:Int
 b:Int
 kind:Int
structure Structure where
 joints:List Joint
 members:List Member
structure Stance where
 name:ByteArray
 st:Structure
 load:List Int
 limits:List Int
structure Move where
 fr:Int
 to:Int
structure Yard where
 stances:List Stance
 moves:List Move
 strict:Bool
abbrev cI(n:Int):List V:=[I n]
abbrev cJoint(j:Joint):List V:=[Sg j.name,I j.x,I j.y,Bo j.fixed]
abbrev cMember(m:Member):List V:=[I m.a,I m.b,I m.kind]
abbrev LL{α:Type}(c:α->List V)(xs:List α):V:=.ts (xs.flatMap c) xs.length
abbrev LI(xs:List Int):V:=.ts (xs.flatMap cI) xs.length
abbrev cStructure(s:Structure):List V:=[LL cJoint s.joints,LL cMember s.members]
abbrev cStance(t:Stance):List V:=[Sg t.name,LL cJoint t.st.joints,LL cMember t.st.members,LI t.load,LI t.limits]
abbrev cMove(m:Move):List V:=[I m.fr,I m.to]
abbrev cYard(y:Yard):List V:=[LL cStance y.stances,LL cMove y.moves,Bo y.strict]
def okI(n:Int):Prop:=(Lit.int .i64 n).wf=true
def okS(s:ByteArray):Prop:=s.size<=140737488351232
def okL{α:Type}(B:Nat)(ok:α->Prop)(xs:List α):Prop:=(∀x∈xs,ok x)/\xs.length*B<=140737488351232/\xs.length<=maxLen
def okJoint(j:Joint):Prop:=okS j.name/\okI j.x/\okI j.y/\True
def okMember(m:Member):Prop:=okI m.a/\okI m.b/\okI m.kind
def okStructure(s:Structure):Prop:=okL 40 okJoint s.joints/\okL 24 okMember s.members
def okStance(t:Stance):Prop:=okS t.name/\okStructure t.st/\okL 8 okI t.load/\okL 8 okI t.limits
def okMove(m:Move):Prop:=okI m.fr/\okI m.to
def okYard(y:Yard):Prop:=okL 112 okStance y.stances/\okL 16 okMove y.moves/\True
end Go.TV
namespace Go.TV
theorem mW{P:Program}{conv:FuncId->Conv}{ext:Ext}(f:FuncId)(ts:List V):fn P conv ext f ts=(ev P conv ext f ts lI 0).bind fun q=>(strip q.2.1 depth q.1).map (·.1):=by
 unfold fn;cases ev P conv ext f ts lI 0 with
 |none=>rfl
 |some q=>rfl
section
variable (v:Value) (row:List V) (a b c:Nat) (f:FuncId) (vs:List V)
theorem ada:qI (.sc v)=true:=id rfl
theorem ZJ:qI .nil=true:=id rfl
theorem adb:qI (.tp row a)=true:=id rfl
theorem ade:qI (.ts row a)=true:=id rfl
theorem adf:qI (.rp a b)=true:=id rfl
theorem adg:qI (.rs a b c)=true:=id rfl
theorem ZK:qI (.clo f vs)=true:=id rfl
theorem adh:cellsOfV (.agg vs)=some vs:=id rfl
theorem afE:cellsOfV (.sc v)=some [.sc v]:=id rfl
theorem adi:cellsOfV .nil=some [.nil]:=id rfl
theorem afF:cellsOfV (.tp row a)=some [.tp row a]:=id rfl
theorem afG:cellsOfV (.ts row a)=some [.ts row a]:=id rfl
theorem afH:cellsOfV (.rp a b)=some [.rp a b]:=id rfl
theorem afI:cellsOfV (.rs a b c)=some [.rs a b c]:=id rfl
theorem adk:cellsOfV (.clo f vs)=some [.clo f vs]:=id rfl
theorem MG(pl:Nat->Option (Nat×Nat))(cells:List V):Ce pl cells []=some cells:=rfl
theorem Jf(pl:Nat->Option (Nat×Nat))(cells:List V)(i:Nat)(v:V)(rest:List (Nat×V)):Ce pl cells ((i,v) :: rest)=(pl i).bind fun p=>(cellsOfV v).bind fun vs=>if vs.length=p.2/\p.1+vs.length<=cells.length then Ce pl (patch cells p.1 vs) rest else none:=by
 show(match pl i,cellsOfV v with|some (off,size),some vs=>_|_,_=>none)=_;cases pl i<;>cases cellsOfV v<;>rfl
theorem iP(cells:List V)(off:Nat)(v:V):patch cells off [v]=cells.set off v:=rfl
theorem adl(u:V)(cells:List V)(off:Nat):patch (u :: cells) off []=(u :: cells).take off++[]++(u :: cells).drop (off+0):=rfl
theorem Jg(u:V)(cells:List V)(off:Nat)(v w:V)(vs:List V):patch (u :: cells) off (v :: w :: vs)=(u :: cells).take off++(v :: w :: vs)++(u :: cells).drop (off+(v :: w :: vs).length):=rfl
end
attribute [go_sem] ada ZJ adb ade adf adg ZK adh afE adi afF afG afH afI adk MG Jf iP adl Jg
attribute [go_sem] depth zM zO wE Aj wC List.set_cons_succ zB wz yK Nat.reduceAdd Nat.reduceLT Nat.reduceLeDiff uT vP yu uY yw List.drop_succ_cons List.take_succ_cons List.take_zero Nat.reduceMul vC Nat.one_mul yO BG
end Go.TV
namespace Go.TV
section
variable {α:Type} {c:α->List V} {s:Nat}
theorem dN(hc:∀x,(c x).length=s)(xs:List α):(xs.flatMap c).length=xs.length*s:=by
 induction xs with
 |nil=>simp
 |cons x xs E=>rw[zO,zl,E,hc,zB,yG,wV]
theorem Pm(hc:∀x,(c x).length=s)(xs:List α)(k:Nat):(xs.flatMap c).drop (k*s)=(xs.drop k).flatMap c:=by
 induction xs generalizing k with
 |nil=>simp
 |cons x xs E=>
  cases k with
  |zero=>simp
  |succ k=>
   rw[zO,yG,wV,<- uK];rw[show s=(c x).length from(hc x).symm,List.drop_left,hc x,E,List.drop_succ_cons]
theorem dS(hc:∀x,(c x).length=s)(xs:List α)(k:Nat)(h:k<xs.length):((xs.flatMap c).drop (k*s)).take s=c xs[k]:=by
 rw[Pm hc,yU h,zO,show s=(c xs[k]).length from(hc _).symm,List.take_left]
theorem dR(c:α->V)(xs:List α)(k:Nat)(h:k<xs.length):(xs.flatMap fun x=>[c x])[k]?=some (c xs[k]):=by
 induction xs generalizing k with
 |nil=>cases h
 |cons x xs E=>
  cases k with
  |zero=>rfl
  |succ k=>exact E k (by simpa using h)
theorem dO(hc:∀x,(c x).length=s)(hs:0<s)(xs:List α)(k:Nat)(h:k<xs.length):xs.flatMap c≠[]:=by
 intro e;have:=dN hc xs;rw[e]at this;have E:0<xs.length*s:=Nat.mul_pos (by omega) hs;simp at this;omega
def mix(c:α->List V)(z:List V)(xs:List α)(n k:Nat):List V:=(xs.take k).flatMap c++rep (n-k) z
theorem gW(n:Nat)(z:List V):(rep n z).length=n*z.length:=by simp[rep]
theorem jO(c:α->List V)(z:List V)(xs:List α)(n:Nat):rep n z=mix c z xs n 0:=by simp[mix]
theorem jR(c:α->List V)(z:List V)(xs:List α):mix c z xs xs.length xs.length=xs.flatMap c:=by simp[mix,rep]
theorem jQ(hc:∀x,(c x).length=s){z:List V}(E:z.length=s)(xs:List α)(k:Nat)(h:k<=xs.length):(mix c z xs xs.length k).length=xs.length*s:=by
 unfold mix;rw[zl,dN hc,gW,E,zh,xY h,<- vT];congr 1;omega
theorem gV(n:Nat)(z:List V):rep (n+1) z=z++rep n z:=by simp[rep,xg]
theorem adn(hc:∀x,(c x).length=s){z:List V}(G:z.length=s)(xs:List α)(k:Nat)(h:k<xs.length) :
  (mix c z xs xs.length k).take (k*s)++c xs[k]++(mix c z xs xs.length k).drop (k*s+s)=mix c z xs xs.length (k+1):=by
 have E:((xs.take k).flatMap c).length=k*s:=by rw[dN hc,zh,xY (by omega)]
 have J:xs.length-k=(xs.length - (k+1))+1:=by omega
 unfold mix;rw[wu E,<- uK,List.drop_left' E,J,gV,List.drop_left' G,yN,zy h];simp only[zT,Option.toList_some,zO,wE,zM,zF]
theorem jP(hc:∀x,(c x).length=s){z:List V}(E:z.length=s)(xs:List α)(k:Nat)(h:k<xs.length) :
  patch (mix c z xs xs.length k) (k*s) (c xs[k])=mix c z xs xs.length (k+1):=by
 have J:=adn hc E xs k h;have O:∀(cells:List V) (off:Nat) (vs:List V),vs.length=s->(s=1->off<cells.length)->patch cells off vs=cells.take off++vs++cells.drop (off+s):=by
  intro cells off vs G hs;unfold patch
  split
  .rename_i v
   have:s=1:=by simpa using G.symm
   subst this;rw[uN,sZ (hs rfl)];simp
  .rw[G]
 rw[O _ _ _ (hc _) (fun e=>?_),J];rw[jQ hc E xs k (by omega),e];omega
theorem Rl{c:α->V}{z:V}(xs:List α)(k:Nat)(h:k<xs.length) :
  (mix (fun x=>[c x]) [z] xs xs.length k).set k (c xs[k])=mix (fun x=>[c x]) [z] xs xs.length (k+1):=by
 have:=jP (c:=fun x=>[c x]) (s:=1) (fun _=>rfl) (z:=[z]) rfl xs k h
 rwa [yO]at this
theorem bg(f:V->Option (V×List Nat))(a b:List V)(E:stripL f a=some (a,[]))(hb:stripL f b=some (b,[])):stripL f (a++b)=some (a++b,[]):=by
 induction a with
 |nil=>exact hb
 |cons v a ih=>
  rw[bU]at E;rw[yY,bU];cases J:f v with
  |none=>rw[J]at E;cases E
  |some p=>
   rw[J]at E;cases G:stripL f a with
   |none=>rw[G]at E;cases E
   |some q=>
    rw[G]at E;simp only[zi,zH,tC,t_,List.cons.injEq,List.append_eq_nil_iff]at E;obtain⟨⟨O,S⟩,Y,e4⟩:=E;obtain⟨p1,p2⟩:=p;obtain⟨q1,q2⟩:=q;simp only at O S Y e4;subst O S Y e4;rw[ih G];simp
theorem bM{f:V->Option (V×List Nat)}(h:∀x,stripL f (c x)=some (c x,[]))(xs:List α):stripL f (xs.flatMap c)=some (xs.flatMap c,[]):=by
 induction xs with
 |nil=>rfl
 |cons x xs E=>rw[zO];exact bg f _ _ (h x) E
end
section
variable {P:Program} {t:TypeId} {x y:Operand}
theorem ajk{a b:ByteArray}:AB P .eql t x y (.sc (.string a)) (.sc (.string b))=some (.sc (.bool (a.toList==b.toList))):=by
 simp only[AB,toVal,eqGuard_at_string,binOp_string_eql];rfl
theorem ajl{a b:ByteArray}:AB P .neq t x y (.sc (.string a)) (.sc (.string b))=some (.sc (.bool !(a.toList==b.toList))):=by
 simp only[AB,toVal,eqGuard_at_string,binOp_string_neq];rfl
theorem nN{a b:Bool}(h:P.underlying t=some .bool)(f:Bool->Value):uI P ((Op.equal t (.bool a) (.bool b)).bind fun r=>pure (f r))=some (f (a==b)):=by
 show uI P ((Op.equalIn (9999+1) t _ _).bind fun r=>pure (f r))=_;unfold Op.equalIn underlying;show uI P (.program fun p=>_)=_;simp only[uI];have pb:∀ {β E:Type} (a:β) (f:β->Sem E),(Sem.pure a).bind f=f a:=fun _ _=>rfl
 have G:∀ {β E:Type} (a:β) (f:β->Sem E),(pure a:Sem β).bind f=f a:=fun _ _=>rfl
 simp only[h,pb,G];rfl
theorem ajm{a b:Bool}(h:P.underlying t=some .bool):AB P .eql t x y (.sc (.bool a)) (.sc (.bool b))=some (.sc (.bool (a==b))):=by
 simp only[AB,toVal,eqGuard_at_bool,pure_bind,binOp];first|(erw[nN h (fun r=> .bool r)];rfl)|(erw[nN h (fun r=> .bool !r)];rfl)
theorem ajn{a b:Bool}(h:P.underlying t=some .bool):AB P .neq t x y (.sc (.bool a)) (.sc (.bool b))=some (.sc (.bool !(a==b))):=by
 simp only[AB,toVal,eqGuard_at_bool,pure_bind,binOp];first|(erw[nN h (fun r=> .bool r)];rfl)|(erw[nN h (fun r=> .bool !r)];rfl)
end
attribute [go_sem] ajk ajl ajm ajn bne_self_eq_false BEq.rfl
theorem pJ{body:St->Option (Ex×St)}{G:St}{x:Option (Ex×St)}(S:gI body G=x)(N:Nat)(J:Nat->St->Prop)(post:Ex×St->Prop)
  (step:∀k st,k<N->J k st->(∃E,body st=some (.norm,E)/\J (k+1) E)\/(∃r,body st=some r/\(∀s,r≠(.norm,s))/\post r))
  (last:∀st,J N st->∃r,body st=some r/\(∀s,r≠(.norm,s))/\post r) (h0:J 0 G):∃r,x=some r/\post r:=by
 refine je S (fun n st=>n<=N/\J (N-n) st) post ?_ N ⟨zq _,by rwa [yP]⟩;rintro n st ⟨hn,O⟩;cases n with
 |zero=>exact .inr (last st O)
 |succ n=>
  rcases step _ st (by omega) O with ⟨E,Y,h2⟩|h
  .exact .inl ⟨E,Y,n,by omega,by omega,by rwa [show N-n=N - (n+1)+1 by omega]⟩
  .exact .inr h
theorem aC{α:Type}(σ:Nat->α)(b:Nat)(x y:α):upd (upd σ b x) b y=upd σ b y:=by
 funext i;unfold upd
 split<;>rfl
theorem amU:(false==true)=false:=id rfl
theorem amV:(true==false)=false:=id rfl
attribute [go_sem] amU amV Option.map_none aC List.isEmpty_nil Int.cast_ofNat_Int yS
theorem Vx{P:Program}{t:TypeId}{lo hi:Option V}{σ:Store}(h:(vI P t).slice=true)(E:(vI P t).QV=true):AL P t .nil lo hi none σ=(bnd lo 0).bind fun l=>(bnd hi 0).bind fun h=>if l<=h/\h<=0 then some .nil else none:=by
 obtain⟨e,O,z,G,J,S,Y,h5,h6,h7⟩:=aJ h E;unfold AL;simp only[G,J];cases bnd lo 0<;>cases bnd hi 0<;>rfl
theorem ajo(σ:Store)(s:Nat):rowOf σ s .nil=some ([],0):=rfl
theorem amW(σ:Store)(s:Nat)(row:List V)(len:Nat):rowOf σ s (.ts row len)=if row.length=len*s then some (row,len)else none:=rfl
theorem amX(σ:Store)(s b off len:Nat):rowOf σ s (.rs b off len)=(σ b).bind fun B=>if off+len*s<=B.cells.length then some ((B.cells.drop off).take (len*s),len)else none:=by
 show(match σ b with|some B=>_|none=>none)=_;cases σ b<;>rfl
theorem rJ(σ:Store)(nx size bytes:Nat)(row:List V)(m:Nat):Ae σ nx size bytes .nil row m=if m=0 then some (.nil,σ,nx)else if m<=maxLen/\m*bytes<=140737488355328 then some (.rs nx 0 m,Aj σ nx row size,nx+1)else none:=rfl
theorem rP{σ:Store}{nx bytes b len m:Nat}{B:FU}{row:List V}(hb:σ b=some B)(E:B.cells.length=len)(hs:B.st=1)(hm:m≠0)(G:len+m<=maxLen)(J:(len+m)*bytes<=140737488355328)(O:row.all qI=true) :
  Ae σ nx 1 bytes (.rs b 0 len) row m=some (.rs nx 0 (len+m),upd (upd σ b none) nx (some ⟨B.cells++row,1,B.wr⟩),nx+1):=by
 unfold Ae;simp only[hb,hm,if_false,E,hs,G,J,O];rw[su (by omega),sZ (by simp)];simp
theorem Rn:¬(1000000000:Int)=0:=by decide
attribute [go_sem] Rn
theorem jA{P:Program}{conv:FuncId->Conv}{call:Call}(d:Option Tmp)(ty:TypeId)(ps:String)(E:Array Edge)(G:Option (Nat×Bool))(T:Nat->V)(σ:Store)(nx:Nat)(t:TypeId)(h:(vI P t).slice=true)(J:(vI P t).QV=true):Aq P conv call ⟨d,.buildSlice t 0 #[],ty,ps,E,G⟩ T σ nx=some (.nil,σ,nx):=by
 rw[jB d ty ps E G T σ nx t 0 #[] (by rfl)];have:=oH (P:=P) (t:=t) (len:=0) (parts:=([]:List (Nat×V))) (σ:=σ) (nx:=nx) h J
 simpa using this
theorem j_{P:Program}{conv:FuncId->Conv}{call:Call}(d:Option Tmp)(ty:TypeId)(ps:String)(G:Array Edge)(J:Option (Nat×Bool))(T:Nat->V)(σ:Store)(nx:Nat)(t:TypeId)(x:Operand)(h:(vI P t).slice=true)(S:(vI P t).QV=true)(hs:(vI P t).Gu=1)(Y:(vI P t).DY.length=1)(hc:qI (val T x)=true) :
  Aq P conv call ⟨d,.buildSlice t 1 #[(0,x)],ty,ps,G,J⟩ T σ nx=some (.rs nx 0 1,upd σ nx (some ⟨[val T x],1,true⟩),nx+1):=by
 rw[jB d ty ps G J T σ nx t 1 _ (by rfl),oH h S,su (by decide),hs,sZ (by decide)];have hv:cellsOfV (val T x)=some [val T x]:=by generalize val T x=v at *;cases v<;>simp_all [cellsOfV,qI]
 have O:(rep 1 (vI P t).DY).length=1:=by rw[gW,Y]
 have E:(rep 1 (vI P t).DY).set 0 (val T x)=[val T x]:=by
  generalize rep 1 (vI P t).DY=l at *
  match l,O with
  |[a],_=>rfl
 show(match Ce (fun j=>some (j*1,1)) (rep 1 (vI P t).DY) [(0,val T x)]with|some cells=>some (V.rs nx 0 1,Aj σ nx cells 1,nx+1)|none=>none)=_;rw[Jf];simp only[zi,hv,yH,O,vC,yu,zq,and_self,if_true,iP,E,MG];rfl
attribute [go_sem] jA j_ Vx ajo amW amX rJ Nat.sub_zero List.isEmpty_cons
def Grow(T:Nat->V)(σ:Store)(nx t:Nat)(acc:List Int):Prop:=(T t= .nil/\acc=[])\/∃b,T t= .rs b 0 acc.length/\acc≠[]/\σ b=some ⟨acc.flatMap cI,1,true⟩/\b<nx
theorem jE:1<=maxLen:=by decide
attribute [go_sem] jE
theorem qW(xs:List Int):(xs.flatMap cI).length=xs.length:=by rw[dN (c:=cI) (s:=1) (fun _=>rfl),yO]
theorem lC{T:Nat->V}{σ:Store}{nx t:Nat}{acc:List Int}(G:Grow T σ nx t acc)(x:Int)(S:acc.length<17592186044415) :
  ∃σ',Ae (upd σ nx (some ⟨[I x],1,true⟩)) (nx+1) 1 8 (T t) [I x] 1=some (.rs (nx+1) 0 (acc.length+1),σ',nx+1+1)/\σ' (nx+1)=some ⟨(acc++[x]).flatMap cI,1,true⟩:=by
 have hm:acc.length+1<=maxLen:=by unfold maxLen;omega
 rcases G with ⟨E,rfl⟩|⟨b,E,J,hb,O⟩
 .refine⟨_,by rw[E,rJ,su (by decide),sZ (by decide)];rfl,?_⟩
  simp[Aj,upd]
 .refine⟨_,by rw[E,rP (B:=⟨acc.flatMap cI,1,true⟩) (by rw[aH];exact hb) (qW acc) rfl (by decide) hm (by omega) rfl],?_⟩
  simp[upd]
theorem kZ{T:Nat->V}{σ':Store}{nx t:Nat}{acc:List Int}(h:σ' (nx+1)=some ⟨acc.flatMap cI,1,true⟩)(G:T t= .rs (nx+1) 0 acc.length)(E:acc≠[]):Grow T σ' (nx+1+1) t acc:=.inr ⟨nx+1,G,E,h,by omega⟩
theorem ku{T T':Nat->V}{σ:Store}{nx t E:Nat}{acc:List Int}(h:T' E=T t)(G:Grow T σ nx t acc):Grow T' σ nx E acc:=by
 unfold Grow at *;rw[h];exact G
theorem Vy(f:V->Option (V×List Nat))(h:∀n,f (I n)=some (I n,[]))(xs:List Int):stripL f (xs.flatMap cI)=some (xs.flatMap cI,[]) :=
 bM (fun x=>by rw[bU,h,bP];rfl) xs
theorem kY{T:Nat->V}{σ:Store}{nx t:Nat}{acc:List Int}(G:Grow T σ nx t acc)(d:Nat):∃ids,strip σ (d+1) (T t)=some (LI acc,ids):=by
 rcases G with ⟨E,rfl⟩|⟨b,E,J,hb,O⟩
 .exact⟨[],by rw[E,bF];rfl⟩
 .refine⟨[b],?_⟩
  .rw[E,bD,hb]
   simp only[zi,qW,yO,yu,zq,if_true,yw];rw[zo (by rw[qW];exact zq _),Vy _ (fun n=>bC _ _ _)];rfl
theorem qR(xs:List Int):(xs.flatMap cI).take xs.length=xs.flatMap cI:=zo (by rw[qW];exact zq _)
theorem CZ(σ:Store)(d:Nat)(xs:List Int):stripL (strip σ d) (xs.flatMap cI)=some (xs.flatMap cI,[]):=Vy _ (fun n=>bC _ _ _) xs
theorem qX(xs:List Int):(xs.flatMap cI).all qI=true:=by
 induction xs with
 |nil=>rfl
 |cons x xs E=>rw[zO];simp[qI]
attribute [go_sem] xW qW qR CZ qX zq
theorem MH{P:Program}{conv:FuncId->Conv}{call:Call}(d:Option Tmp)(ty:TypeId)(ps:String)(G:Array Edge)(J:Option (Nat×Bool))(T:Nat->V)(σ:Store)(nx:Nat)(t:TypeId)(x y z:Operand)(h:(vI P t).slice=true)(O:(vI P t).QV=true)(hs:(vI P t).Gu=1)(S:(vI P t).DY.length=1)(Y:qI (val T x)=true)(hy:qI (val T y)=true)(hw:qI (val T z)=true) :
  Aq P conv call ⟨d,.buildSlice t 3 #[(0,x),(1,y),(2,z)],ty,ps,G,J⟩ T σ nx=some (.rs nx 0 3,upd σ nx (some ⟨[val T x,val T y,val T z],1,true⟩),nx+1):=by
 rw[jB d ty ps G J T σ nx t 3 _ (by rfl),oH h O,su (by decide),hs,sZ (by decide)];have E:∀v,qI v=true->cellsOfV v=some [v]:=by intro v E;cases v<;>simp_all [cellsOfV,qI]
 have hr:(rep 3 (vI P t).DY).length=3:=by rw[gW,S]
 obtain⟨a,b,c,e⟩:∃a b c,rep 3 (vI P t).DY=[a,b,c]:=by
  generalize rep 3 (vI P t).DY=l at *
  match l,hr with
  |[a,b,c],_=>exact⟨a,b,c,rfl⟩
 show(match Ce (fun j=>some (j*1,1)) (rep 3 (vI P t).DY) [(0,val T x),(1,val T y),(2,val T z)]with|some cells=>some (V.rs nx 0 3,Aj σ nx cells 1,nx+1)|none=>none)=_;rw[e];simp[Jf,MG,E _ Y,E _ hy,E _ hw,iP,Aj]
attribute [go_sem] MH
theorem afJ{P:Program}(T:Nat->V)(σ:Store)(t:Tmp)(r:ResultVar)(rs:List ResultVar):Ac P T σ (.tmp t :: r :: rs)=(Ac P T σ (r :: rs)).map fun vs=>T t :: vs:=by
 rw[Ac];cases Ac P T σ (r :: rs)<;>rfl
theorem ado{P:Program}(T:Nat->V)(σ:Store)(a:Tmp)(t:TypeId)(r:ResultVar)(rs:List ResultVar):Ac P T σ (.cell a t :: r :: rs)=(AP P σ t (T a)).bind fun v=>(Ac P T σ (r :: rs)).map fun vs=>v :: vs:=by
 rw[Ac];cases AP P σ t (T a)<;>cases Ac P T σ (r :: rs)<;>rfl
attribute [go_sem] afJ ado
theorem ZL{P:Program}{s e:TypeId}{G E k:IntKind}{n:Int}{σ:Store}(hs:P.underlying s=some (.int G))(J:P.underlying e=some (.int E)):BL P s e (.sc (.int k n)) σ=some (.sc (.int E (E.wrap n))):=by
 have h:uI P (convert s e (.int k n))=some (.int E (E.wrap n)):=by
  unfold convert;rw[nO,oK hs];simp only[zi];rw[nO,oK J];rfl
 simp only[BL,toVal,h,zi];rfl
theorem Zk{n:Int}(J:0<=n)(O:n<=18446744073709551615):IntKind.u64.wrap n=n:=by
 unfold IntKind.wrap;have E:IntKind.u64.signed=false:=by decide
 have G:IntKind.u64.bits=64:=by decide
 simp only[E,G,uj];rw[su (by simp)];omega
section
variable {P:Program} {t:TypeId} {x y:Operand}
end
def ajp:V->Bool
 | .sc _=>true
 |_=>false
theorem ajq(v:Value):ajp (.sc v)=true:=id rfl
theorem Vz{P:Program}{conv:FuncId->Conv}{call:Call}(d:Option Tmp)(ty:TypeId)(ps:String)(G:Array Edge)(J:Option (Nat×Bool))(T:Nat->V)(σ:Store)(nx:Nat)(s e:TypeId)(x:Operand)(E:ajp (val T x)=true) :
  Af P conv call ⟨d,.convert s e x,ty,ps,G,J⟩ T σ nx=(BL P s e (val T x) lI).map (·,σ,nx):=by
 obtain⟨u,hu⟩:∃u,val T x= .sc u:=by
  cases O:val T x<;>rw[O]at E<;>first|exact⟨_,rfl⟩|cases E
 refine jC T σ nx (by show some (zI (val T x))=some [];rw[hu];rfl) fun σ=>?_
 show(BL P s e (val T x) σ).map _=_;rw[hu];rfl
attribute [go_sem] ajq Vz
theorem cu{b:Option (Ex×St)}{J:St->Prop}{post:Ex×St->Prop}(h:∃x,b=some x/\((∃E,x=(.norm,E)/\J E)\/((∀s,x≠(.norm,s))/\post x))):(∃E,b=some (.norm,E)/\J E)\/(∃r,b=some r/\(∀s,r≠(.norm,s))/\post r):=by
 obtain⟨x,rfl,⟨E,rfl,h⟩|⟨G,O⟩⟩:=h
 .exact .inl ⟨E,rfl,h⟩
 .exact .inr ⟨x,rfl,G,O⟩
theorem ajr{P:Program}{conv:FuncId->Conv}{call:Call}{d:Option Tmp}{ty:TypeId}{ps:String}{E:Array Edge}{G:Option (Nat×Bool)}{T:Nat->V}{σ:Store}{nx:Nat}{g:FuncId}(h:conv g= .inl)(args:Array Operand)(ts:Array TypeId) :
  Af P conv call ⟨d,.call ⟨.value (.func g),args,ts⟩,ty,ps,E,G⟩ T σ nx=if(((args.toList.map (val T)).flatMap DX).all fun b=>decide (b<nx))=true then
   (call g (args.toList.map (val T)) (restrict σ ((args.toList.map (val T)).flatMap DX)) nx).map fun r=>(r.1,xI ((args.toList.map (val T)).flatMap DX) nx r.2.2 σ r.2.1,r.2.2)else none:=by
 have J:Dc conv T σ (⟨d,.call ⟨.value (.func g),args,ts⟩,ty,ps,E,G⟩:Oper)=some ((args.toList.map (val T)).flatMap DX):=by
  simp only[Dc,val,h,wE,zM]
 rw[nX T σ nx J (fun v=>by simp only[keeps,val,h])]
 split
 .have e:=KO (P:=P) (conv:=conv) (call:=call) d ty ps E G T (restrict σ ((args.toList.map (val T)).flatMap DX)) nx (.func g) args ts
  rw[e];simp only[val,qN,zM,qM h];cases call g (args.toList.map (val T)) (restrict σ ((args.toList.map (val T)).flatMap DX)) nx<;>rfl
 .rfl
theorem aqf{conv:FuncId->Conv}{d:Option Tmp}{ty:TypeId}{ps:String}{E:Array Edge}{G:Option (Nat×Bool)}{g:FuncId}(h:conv g= .inl)(args:Array Operand)(ts:Array TypeId):writer conv ⟨d,.call ⟨.value (.func g),args,ts⟩,ty,ps,E,G⟩=true:=by unfold writer;simp only[h]
theorem afK{conv:FuncId->Conv}{d:Option Tmp}{ty:TypeId}{ps:String}{E:Array Edge}{G:Option (Nat×Bool)}{T:Nat->V}{σ:Store}{g:FuncId}(h:conv g= .inl)(args:Array Operand)(ts:Array TypeId):yI conv T σ ⟨d,.call ⟨.value (.func g),args,ts⟩,ty,ps,E,G⟩=(args.toList.map (val T)).flatMap DX:=by
 simp only[yI,Dc,val,h,wE,zM,yB]
theorem afL(v:Value):DX (.sc v)=[]:=rfl
theorem afM(b off:Nat):DX (.rp b off)=[b]:=rfl
theorem afN(b off len:Nat):DX (.rs b off len)=[b]:=rfl
theorem afO(row:List V)(len:Nat):DX (.ts row len)=[]:=rfl
theorem afP(row:List V)(off:Nat):DX (.tp row off)=[]:=rfl
theorem adp:DX .nil=[]:=rfl
theorem adq(vs:List V):DX (.agg vs)=vs.flatMap zI:=rfl
theorem gQ(σ:Store)(b:Nat):restrict σ [b] b=σ b:=by unfold restrict;simp
attribute [go_sem] ajr aqf afK afL afM afN afO afP adp adq gQ
theorem jD{P:Program}{conv:FuncId->Conv}{call:Call}{d:Option Tmp}{ty:TypeId}{ps:String}{E:Array Edge}{G:Option (Nat×Bool)}{T:Nat->V}{σ:Store}{nx:Nat}(a x:Operand)(t u:TypeId) :
  Af P conv call ⟨d,.call ⟨.builtin .append,#[a,x],#[t,u]⟩,ty,ps,E,G⟩ T σ nx=if((zI (val T a)++zI (val T x)).all fun b=>decide (b<nx))=true then
   (Dt P #[t,u] (val T a) (val T x) (restrict σ (zI (val T a)++zI (val T x))) nx).map fun r=>(r.1,xI (zI (val T a)++zI (val T x)) nx r.2.2 σ r.2.1,r.2.2)else none:=by
 have J:Dc conv T σ (⟨d,.call ⟨.builtin .append,#[a,x],#[t,u]⟩,ty,ps,E,G⟩:Oper)=some (zI (val T a)++zI (val T x)):=by
  simp[Dc]
 rw[nX T σ nx J (fun v=>rfl)]
 split
 .rw[Ph]
  cases Dt P #[t,u] (val T a) (val T x) (restrict σ (zI (val T a)++zI (val T x))) nx<;>rfl
 .rfl
theorem MI{conv:FuncId->Conv}{d:Option Tmp}{ty:TypeId}{ps:String}{E:Array Edge}{G:Option (Nat×Bool)}(args:Array Operand)(ts:Array TypeId):writer conv ⟨d,.call ⟨.builtin .append,args,ts⟩,ty,ps,E,G⟩=true:=id rfl
theorem mV{conv:FuncId->Conv}{d:Option Tmp}{ty:TypeId}{ps:String}{E:Array Edge}{G:Option (Nat×Bool)}{T:Nat->V}{σ:Store}(a x:Operand)(ts:Array TypeId):yI conv T σ ⟨d,.call ⟨.builtin .append,#[a,x],ts⟩,ty,ps,E,G⟩=zI (val T a)++zI (val T x):=by
 simp[yI,Dc]
theorem Ky{P:Program}{conv:FuncId->Conv}{call:Call}(d:Option Tmp)(ty:TypeId)(ps:String)(E:Array Edge)(G:Option (Nat×Bool))(T:Nat->V)(σ:Store)(nx:Nat)(t:TypeId)(h:(vI P t).slice=true)(J:(vI P t).QV=true):Af P conv call ⟨d,.buildSlice t 0 #[],ty,ps,E,G⟩ T σ nx=some (.nil,σ,nx) :=
 KP T σ nx rfl fun σ=>jA d ty ps E G T σ nx t h J
theorem Ro{conv:FuncId->Conv}{d:Option Tmp}{ty:TypeId}{ps:String}{E:Array Edge}{G:Option (Nat×Bool)}(t:TypeId)(n:Nat)(parts:Array (Nat×Operand)):writer conv ⟨d,.buildSlice t n parts,ty,ps,E,G⟩=false:=id rfl
theorem Kz{conv:FuncId->Conv}{d:Option Tmp}{ty:TypeId}{ps:String}{E:Array Edge}{G:Option (Nat×Bool)}{T:Nat->V}{σ:Store}(t:TypeId)(n:Nat)(parts:Array (Nat×Operand)):yI conv T σ ⟨d,.buildSlice t n parts,ty,ps,E,G⟩=[]:=rfl
theorem adr(σ:Store)(nx:Nat)(x:Option FU):xI [] nx (nx+1) σ (upd (restrict σ []) nx x)=upd σ nx x:=by
 funext i;unfold xI upd restrict
 by_cases h:i=nx
 .simp[h]
 .rw[su (by simp only[zJ,false_or];omega),su h]
attribute [go_sem] jD MI mV Ky Ro Kz adr iT zM
theorem MJ:∀(ids:List Nat) (σ:Store) (b:Nat),ids.contains b=false->DF σ ids b=σ b
 |[],σ,b,_=>rfl
 |i :: ids,σ,b,h=>by
  rw[List.contains_cons,Bool.or_eq_false_iff]at h;have E:b≠i:=by simpa using h.1
  unfold DF;rw[MJ ids _ b h.2,aG _ _ E]
theorem qy{σ:Store}{ids:List Nat}{t:V}{b:Nat}(h:ids.contains b=false):behind σ ids t b=σ b:=by
 unfold behind
 split
 .rfl
 .exact MJ ids σ b h
attribute [go_sem] qy
end Go.TV
namespace Go.TV
theorem ajs{P:Program}{t:TypeId}{x y:Operand}{a b:ByteArray}(h:a.size+b.size<=9223372036854775807):AB P .add t x y (.sc (.string a)) (.sc (.string b))=some (.sc (.string (a++b))):=by
 have hm:IntKind.i64.max=9223372036854775807:=rfl;have:Op.stringOp .add a b=(pure (.string (a++b)):Sem Value):=by
  unfold Op.stringOp;rw[su (by rw[hm];omega)]
 simp only[AB,toVal,eqGuard_add];show(uI P (Op.stringOp .add a b)).bind _=_;rw[this];rfl
theorem ads:BH []=some []:=rfl
theorem ZM(n:Int)(vs:List V):BH (.sc (.int .u8 n) :: vs)=if 0<=n/\n<256 then(BH vs).map (UInt8.ofNat n.toNat :: ·)else none:=rfl
theorem amY{P:Program}{t:TypeId}(h:(vI P t).u8=true):∃e i,P.underlying t=some (.slice e)/\P.underlying e=some (.int .u8)/\P.info? e=some i/\i.size=1:=by
 unfold vI at h;cases hi:P.info? t with
 |none=>simp[hi]at h
 |some i=>
  cases J:P.underlying t with
  |none=>simp[hi,J]at h
  |some d=>
   simp only[hi,J]at h;cases d<;>simp at h;rename_i e;obtain⟨O,E⟩:=h;have S:P.underlying e=some (.int .u8):=by
    revert O
    cases P.underlying e with
    |none=>simp
    |some d=>cases d<;>simp;rename_i k;cases k<;>simp
   cases G:P.info? e with
   |none=>simp[G]at E
   |some j=>simp[G]at E;exact⟨e,j,rfl,S,G,E⟩
theorem aqg{P:Program}{s d:TypeId}(hs:(vI P s).u8=true)(E:(vI P d).str=true)(b off len:Nat)(σ:Store):BL P s d (.rs b off len) σ=(rowOf σ 1 (.rs b off len)).bind fun p=>(BH p.1).map fun l=> .sc (.string ⟨l.toArray⟩):=by
 obtain⟨e,i,G,J,O,S⟩:=amY hs;unfold BL;simp only[toVal,G,KN E,J,O,S,if_true];cases rowOf σ 1 (.rs b off len)with
 |none=>rfl
 |some p=>obtain⟨r,n⟩:=p;rfl
attribute [go_sem] ajs ads ZM aqg
def mTd(n:Nat)(acc:ByteArray):ByteArray:=if h:n=0 then acc else mTd (n / 10) (⟨#[UInt8.ofNat (48+n%10)]⟩++acc)
termination_by n
decreasing_by omega
def mT(n:Nat):ByteArray:=⟨#[109]⟩++mTd n ⟨#[]⟩
theorem VA(a b:ByteArray):(a++b).size=a.size+b.size:=ByteArray.size_append
theorem afQ(n:Nat)(acc:ByteArray):(mTd n acc).size<=acc.size+n:=by
 fun_induction mTd n acc with
 |case1=>omega
 |case2 n acc h E=>
  rw[VA]at E;have:(⟨#[UInt8.ofNat (48+n%10)]⟩:ByteArray).size=1:=rfl;omega
end Go.TV
namespace Go.Proofs.YtkpdoehbhmipcaaGreat
open Go Go.TV
instance known0:Known:=⟨[]⟩
theorem kn0(W:World):Kn (TV.start W):=fun p E=>absurd E zJ
def conv:FuncId->Conv:=fun f=>if f∈([]:List Nat)then .own else if f∈([]:List Nat)then .inl else .JJ
abbrev dI(n:Nat):Prop:=conv n= .JJ
theorem aqh:dI 4/\dI 5/\dI 7/\dI 8/\dI 12/\dI 13/\dI 14/\dI 17/\dI 18/\dI 19/\dI 20/\dI 21/\dI 22/\dI 23/\dI 24/\dI 25/\dI 26/\dI 27/\dI 28/\dI 29/\dI 30/\dI 31/\dI 32/\dI 33:=by and_intros<;>exact rfl
theorem aqi:dI 34/\dI 45/\dI 46/\dI 47/\dI 48/\dI 49/\dI 50/\dI 52/\dI 55/\dI 56/\dI 57/\dI 58/\dI 63/\dI 64/\dI 65/\dI 66/\dI 67/\dI 68/\dI 69/\dI 70/\dI 71/\dI 72/\dI 73/\dI 74:=by and_intros<;>exact rfl
theorem aqj:dI 75/\dI 76/\dI 77/\dI 78/\dI 79/\dI 80/\dI 81/\dI 82/\dI 83/\dI 91/\dI 92/\dI 93/\dI 94/\dI 95/\dI 96/\dI 97/\dI 98/\dI 99/\dI 101/\dI 102/\dI 103/\dI 104/\dI 105/\dI 106:=by and_intros<;>exact rfl
theorem aqk:dI 107/\dI 108/\dI 111/\dI 112/\dI 114/\dI 115/\dI 117/\dI 118/\dI 119/\dI 120/\dI 121/\dI 125/\dI 126/\dI 127/\dI 128/\dI 129/\dI 130/\dI 131/\dI 132/\dI 133/\dI 134/\dI 135/\dI 136/\dI 137:=by and_intros<;>exact rfl
theorem aql:dI 138/\dI 139/\dI 140/\dI 141/\dI 144/\dI 149/\dI 150/\dI 151/\dI 152/\dI 153/\dI 154/\dI 155/\dI 157/\dI 158/\dI 159/\dI 160/\dI 161/\dI 162/\dI 163/\dI 164/\dI 165/\dI 166/\dI 167/\dI 168:=by and_intros<;>exact rfl
theorem aqm:dI 169/\dI 170/\dI 171/\dI 172/\dI 173/\dI 174/\dI 176/\dI 177/\dI 178/\dI 179/\dI 180/\dI 183/\dI 184/\dI 185/\dI 186/\dI 187/\dI 188/\dI 189/\dI 190/\dI 191/\dI 192/\dI 193/\dI 194/\dI 195:=by and_intros<;>exact rfl
theorem aqn:dI 196/\dI 197/\dI 198/\dI 199/\dI 200/\dI 201/\dI 202/\dI 205/\dI 206/\dI 207/\dI 208/\dI 209/\dI 210/\dI 211/\dI 214/\dI 215/\dI 216/\dI 217/\dI 218/\dI 219/\dI 220/\dI 221/\dI 222/\dI 223:=by and_intros<;>exact rfl
theorem aqo:dI 224/\dI 225/\dI 226/\dI 227/\dI 228/\dI 229/\dI 230/\dI 231/\dI 232/\dI 233/\dI 234/\dI 235/\dI 236/\dI 239/\dI 240/\dI 241/\dI 242/\dI 243/\dI 244/\dI 245/\dI 246/\dI 247/\dI 248/\dI 249:=by and_intros<;>exact rfl
theorem aqp:dI 250/\dI 255/\dI 256/\dI 257/\dI 258/\dI 259/\dI 260/\dI 261/\dI 262/\dI 263/\dI 264/\dI 265/\dI 266/\dI 267/\dI 268/\dI 269/\dI 270/\dI 271/\dI 272/\dI 273/\dI 274/\dI 275/\dI 276/\dI 277:=by and_intros<;>exact rfl
theorem aqr:dI 278/\dI 279/\dI 280/\dI 281/\dI 282/\dI 283/\dI 284/\dI 285/\dI 286/\dI 287/\dI 288/\dI 289/\dI 290/\dI 291/\dI 292/\dI 293/\dI 294:=by and_intros<;>exact rfl
attribute [go_sem] aqh aqi aqj aqk aql aqm aqn aqo aqp aqr
theorem ty2:vI Ze 2=⟨true,false,1,[.sc (.int .i64 0)],false,false,false,0,0,[],false,[],[],false,false⟩:=by kernel_rfl
theorem ty3:vI Ze 3=vI Ze 2:=by kernel_rfl
theorem ty4:vI Ze 4=⟨true,false,1,[.sc (.bool false)],false,false,false,0,0,[],false,[],[],false,false⟩:=by kernel_rfl
theorem ty5:vI Ze 5=⟨true,false,1,[.sc (.int .u8 0)],false,false,false,0,0,[],false,[],[],false,false⟩:=by kernel_rfl
theorem ty7:vI Ze 7=⟨true,true,4,[.sc (.int .i64 0),.sc (.int .i64 0),.sc (.bool false),.sc (.int .u8 0)],false,false,false,0,0,[],false,[(0,1,some false),(1,1,some false),(2,1,some false),(3,1,some false)],[(0,1),(1,1),(2,1),(3,1)],true,false⟩:=by kernel_rfl
theorem ty9:vI Ze 9=⟨true,false,1,[.sc (.string ByteArray.empty)],false,true,false,0,0,[],false,[],[],false,false⟩:=by kernel_rfl
theorem awz:vI Ze 12=⟨true,false,1,[.sc (.int .u64 0)],false,false,false,0,0,[],false,[],[],false,false⟩:=by kernel_rfl
theorem awC:vI Ze 13=⟨true,true,2,[.sc (.string ByteArray.empty),.sc (.int .u64 0)],false,false,false,0,0,[],false,[(0,1,some false),(1,1,some false)],[(0,1),(1,1)],true,false⟩:=by kernel_rfl
theorem awD:vI Ze 21=⟨true,false,1,[.sc (.int .i32 0)],false,false,false,0,0,[],false,[],[],false,false⟩:=by kernel_rfl
theorem awE:vI Ze 22=⟨true,false,1,[.nil],true,false,false,5,112,[.sc (.string ByteArray.empty),.nil,.nil,.nil,.nil],true,[],[],false,false⟩:=by kernel_rfl
theorem awF:vI Ze 23=⟨true,false,1,[.nil],true,false,false,2,16,[.sc (.int .i64 0),.sc (.int .i64 0)],true,[],[],false,false⟩:=by kernel_rfl
theorem awG:vI Ze 24=⟨true,true,3,[.nil,.nil,.sc (.bool false)],false,false,false,0,0,[],false,[(0,1,some false),(1,1,some false),(2,1,some false)],[(0,1),(1,1),(2,1)],true,false⟩:=by kernel_rfl
theorem awH:vI Ze 25=vI Ze 24:=by kernel_rfl
theorem awI:vI Ze 27=⟨true,false,1,[.nil],true,false,false,1,8,[.sc (.int .i64 0)],true,[],[],false,false⟩:=by kernel_rfl
theorem awJ:vI Ze 33=⟨true,false,1,[.nil],true,false,false,4,40,[.sc (.string ByteArray.empty),.sc (.int .i64 0),.sc (.int .i64 0),.sc (.bool false)],true,[],[],false,false⟩:=by kernel_rfl
theorem awK:vI Ze 34=⟨true,false,1,[.nil],true,false,false,3,24,[.sc (.int .i64 0),.sc (.int .i64 0),.sc (.int .i64 0)],true,[],[],false,false⟩:=by kernel_rfl
theorem awL:vI Ze 35=⟨true,true,2,[.nil,.nil],false,false,false,0,0,[],false,[(0,1,some false),(1,1,some false)],[(0,1),(1,1)],true,false⟩:=by kernel_rfl
theorem awM:vI Ze 36=vI Ze 35:=by kernel_rfl
theorem awN:vI Ze 37=⟨true,true,5,[.sc (.string ByteArray.empty),.nil,.nil,.nil,.nil],false,false,false,0,0,[],false,[(0,1,some false),(1,2,some true),(3,1,some false),(4,1,some false)],[(0,1),(1,2),(3,1),(4,1)],true,false⟩:=by kernel_rfl
theorem awO:vI Ze 38=vI Ze 37:=by kernel_rfl
theorem awP:vI Ze 39=⟨true,false,1,[.nil],true,false,false,3,56,[.sc (.bool false),.nil,.nil],true,[],[],false,false⟩:=by kernel_rfl
theorem awQ:vI Ze 47=vI Ze 22:=by kernel_rfl
theorem awR:vI Ze 48=vI Ze 23:=by kernel_rfl
theorem awS:vI Ze 49=vI Ze 24:=by kernel_rfl
theorem awT:vI Ze 50=vI Ze 24:=by kernel_rfl
theorem awU:vI Ze 58=vI Ze 33:=by kernel_rfl
theorem awV:vI Ze 59=vI Ze 34:=by kernel_rfl
theorem awW:vI Ze 60=vI Ze 35:=by kernel_rfl
theorem awX:vI Ze 61=vI Ze 35:=by kernel_rfl
theorem awY:vI Ze 62=vI Ze 37:=by kernel_rfl
theorem awZ:vI Ze 63=vI Ze 37:=by kernel_rfl
theorem aw0:vI Ze 71=⟨true,false,1,[.nil],true,false,false,3,32,[.sc (.string ByteArray.empty),.sc (.int .i64 0),.sc (.int .i64 0)],true,[],[],false,false⟩:=by kernel_rfl
theorem aw1:vI Ze 73=⟨true,false,1,[.nil],true,false,false,1,24,[.nil],true,[],[],false,false⟩:=by kernel_rfl
theorem aw2:vI Ze 76=vI Ze 71:=by kernel_rfl
theorem aw3:vI Ze 86=⟨true,true,2,[.sc (.int .i64 0),.sc (.int .i64 0)],false,false,false,0,0,[],false,[(0,1,some false),(1,1,some false)],[(0,1),(1,1)],true,false⟩:=by kernel_rfl
theorem aw4:vI Ze 87=vI Ze 86:=by kernel_rfl
theorem aw5:vI Ze 91=⟨true,false,1,[.nil],true,false,false,1,1,[.sc (.bool false)],true,[],[],false,false⟩:=by kernel_rfl
theorem aqs:vI Ze 100=⟨true,false,1,[.sc (.pointer none)],false,false,true,0,0,[],false,[],[],false,false⟩:=by kernel_rfl
theorem aqt:vI Ze 102=⟨true,true,4,[.sc (.string ByteArray.empty),.sc (.int .i64 0),.sc (.int .i64 0),.sc (.bool false)],false,false,false,0,0,[],false,[(0,1,some false),(1,1,some false),(2,1,some false),(3,1,some false)],[(0,1),(1,1),(2,1),(3,1)],true,false⟩:=by kernel_rfl
theorem aqu:vI Ze 103=vI Ze 102:=by kernel_rfl
theorem aqv:vI Ze 104=⟨true,true,3,[.sc (.int .i64 0),.sc (.int .i64 0),.sc (.int .i64 0)],false,false,false,0,0,[],false,[(0,1,some false),(1,1,some false),(2,1,some false)],[(0,1),(1,1),(2,1)],true,false⟩:=by kernel_rfl
theorem aqw:vI Ze 105=vI Ze 104:=by kernel_rfl
theorem aqx:vI Ze 108=⟨true,false,1,[.nil],true,false,false,1,16,[.sc (.string ByteArray.empty)],true,[],[],false,false⟩:=by kernel_rfl
theorem aqy:vI Ze 122=⟨true,true,3,[.sc (.string ByteArray.empty),.sc (.int .i64 0),.sc (.int .i64 0)],false,false,false,0,0,[],false,[(0,1,some false),(1,1,some false),(2,1,some false)],[(0,1),(1,1),(2,1)],true,false⟩:=by kernel_rfl
theorem aqz:vI Ze 123=vI Ze 122:=by kernel_rfl
theorem aqA:vI Ze 125=vI Ze 122:=by kernel_rfl
theorem aqB:vI Ze 135=vI Ze 100:=by kernel_rfl
theorem aqC:vI Ze 138=⟨true,false,1,[.nil],true,false,false,1,8,[.sc (.pointer none)],true,[],[],false,false⟩:=by kernel_rfl
theorem aqD:vI Ze 141=⟨true,true,5,[.sc (.int .i64 0),.sc (.int .i64 0),.nil,.nil,.nil],false,false,false,0,0,[],false,[(0,1,some false),(1,1,some false),(2,1,some false),(3,1,some false),(4,1,some false)],[(0,1),(1,1),(2,1),(3,1),(4,1)],true,false⟩:=by kernel_rfl
theorem aqE:vI Ze 142=vI Ze 141:=by kernel_rfl
theorem aqF:vI Ze 148=vI Ze 100:=by kernel_rfl
theorem aqG:vI Ze 158=⟨true,true,2,[.sc (.bool false),.nil],false,false,false,0,0,[],false,[(0,1,some false),(1,1,some false)],[(0,1),(1,1)],true,false⟩:=by kernel_rfl
theorem aqH:vI Ze 159=vI Ze 158:=by kernel_rfl
theorem aqI:vI Ze 160=⟨true,true,3,[.sc (.bool false),.nil,.nil],false,false,false,0,0,[],false,[(0,2,some true),(2,1,some false)],[(0,2),(2,1)],true,false⟩:=by kernel_rfl
theorem aqJ:vI Ze 161=vI Ze 160:=by kernel_rfl
theorem aqK:vI Ze 164=vI Ze 86:=by kernel_rfl
theorem aqL:vI Ze 165=vI Ze 100:=by kernel_rfl
theorem aqM:vI Ze 166=⟨true,false,1,[.nil],true,false,false,1,1,[.sc (.int .u8 0)],true,[],[],false,true⟩:=by kernel_rfl
theorem aqN:vI Ze 167=⟨true,true,2,[.sc (.pointer none),.nil],false,false,false,0,0,[],false,[(0,1,some false),(1,1,some false)],[(0,1),(1,1)],true,false⟩:=by kernel_rfl
theorem aqO:vI Ze 168=vI Ze 167:=by kernel_rfl
theorem aqP:vI Ze 178=⟨true,true,5,[.sc (.int .i64 0),.nil,.sc (.bool false),.nil,.nil],false,false,false,0,0,[],false,[(0,1,some false),(1,1,some false),(2,3,some true)],[(0,1),(1,1),(2,3)],true,false⟩:=by kernel_rfl
theorem aqQ:vI Ze 179=vI Ze 178:=by kernel_rfl
theorem aqR:vI Ze 202=vI Ze 12:=by kernel_rfl
theorem aqS:vI Ze 207=vI Ze 100:=by kernel_rfl
theorem aqT:vI Ze 208=vI Ze 23:=by kernel_rfl
theorem aqU:vI Ze 212=vI Ze 86:=by kernel_rfl
theorem aqV:vI Ze 213=vI Ze 86:=by kernel_rfl
theorem aqW:vI Ze 220=vI Ze 160:=by kernel_rfl
theorem aqX:vI Ze 221=vI Ze 160:=by kernel_rfl
theorem aqY:vI Ze 229=vI Ze 100:=by kernel_rfl
theorem aqZ:vI Ze 231=vI Ze 102:=by kernel_rfl
theorem aq0:vI Ze 232=vI Ze 100:=by kernel_rfl
theorem aq1:vI Ze 235=vI Ze 73:=by kernel_rfl
theorem aq2:vI Ze 236=⟨true,true,4,[.sc (.int .i64 0),.nil,.nil,.nil],false,false,false,0,0,[],false,[(0,1,some false),(1,1,some false),(2,1,some false),(3,1,some false)],[(0,1),(1,1),(2,1),(3,1)],true,false⟩:=by kernel_rfl
theorem aq3:vI Ze 237=vI Ze 236:=by kernel_rfl
theorem aq4:vI Ze 251=vI Ze 104:=by kernel_rfl
theorem aq5:vI Ze 259=⟨true,false,1,[.sc (.int .u32 0)],false,false,false,0,0,[],false,[],[],false,false⟩:=by kernel_rfl
theorem aq6:vI Ze 262=vI Ze 12:=by kernel_rfl
theorem aq7:vI Ze 266=vI Ze 100:=by kernel_rfl
theorem aq8:vI Ze 269=vI Ze 73:=by kernel_rfl
theorem aq9:vI Ze 270=⟨true,true,6,[.nil,.sc (.bool false),.nil,.nil,.sc (.int .i64 0),.nil],false,false,false,0,0,[],false,[(0,1,some false),(1,2,some true),(3,1,some false),(4,1,some false),(5,1,some false)],[(0,1),(1,2),(3,1),(4,1),(5,1)],true,false⟩:=by kernel_rfl
theorem aq_:vI Ze 271=vI Ze 270:=by kernel_rfl
theorem ara:vI Ze 274=⟨true,false,1,[.nil],true,false,false,2,32,[.sc (.bool false),.nil],true,[],[],false,false⟩:=by kernel_rfl
theorem arb:vI Ze 308=⟨true,true,4,[.sc (.pointer none),.sc (.pointer none),.sc (.pointer none),.sc (.string ByteArray.empty)],false,false,false,0,0,[],false,[(0,1,some false),(1,1,some false),(2,1,some false),(3,1,some false)],[(0,1),(1,1),(2,1),(3,1)],true,false⟩:=by kernel_rfl
theorem ard:vI Ze 310=⟨true,true,0,[],false,false,false,0,0,[],false,[],[],false,false⟩:=by kernel_rfl
theorem arf:vI Ze 311=⟨true,true,0,[],false,false,false,0,0,[],false,[(0,0,some true)],[(0,0)],true,false⟩:=by kernel_rfl
attribute [go_sem] ty2 ty3 ty4 ty5 ty7 ty9 awz awC awD awE awF awG awH awI awJ awK awL awM awN awO awP awQ awR awS awT awU awV awW awX awY awZ aw0 aw1 aw2 aw3 aw4 aw5 aqs aqt aqu aqv aqw aqx aqy aqz aqA aqB aqC aqD aqE aqF aqG aqH aqI aqJ aqK aqL aqM aqN aqO aqP aqQ aqR aqS aqT aqU aqV aqW aqX aqY aqZ aq0 aq1 aq2 aq3 aq4 aq5 aq6 aq7 aq8 aq9 aq_ ara arb ard arf
def VB:Go.Shelf.Ren:=⟨fun|156=>71|165=>122|166=>123|169=>124|240=>181|241=>182|276=>237|277=>238|n=>n,fun|0=>0|3=>3|4=>4|5=>5|9=>9|20=>20|31=>108|37=>166|70=>165|72=>168|75=>171|76=>172|80=>174|127=>229|164=>282|n=>n,fun n=>n⟩
theorem lays156:Lays.n156 Ze VB:={ mixed:=by kernel_rfl,f156:=by kernel_rfl,f165:=by kernel_rfl,f166:=by kernel_rfl,f169:=by kernel_rfl,f240:=by kernel_rfl,f241:=by kernel_rfl,f276:=by kernel_rfl,f277:=by kernel_rfl,t0:=Tryz.underlying0,a0:=Tryz.isAgg0,z0:=Tryz.sizeOf0,v0:=Tryz.zeroValue0,t3:=Tryz.underlying3,a3:=Tryz.isAgg3,z3:=Tryz.sizeOf3,v3:=Tryz.zeroValue3,t4:=Tryz.underlying4,a4:=Tryz.isAgg4,z4:=Tryz.sizeOf4,v4:=Tryz.zeroValue4,t9:=Tryz.underlying9,a9:=Tryz.isAgg9,z9:=Tryz.sizeOf9,v9:=Tryz.zeroValue9,t20:=Tryz.underlying20,a20:=Tryz.isAgg20,z20:=Tryz.sizeOf20,v20:=Tryz.zeroValue20,t31:=Tryz.underlying108,a31:=Tryz.isAgg108,z31:=Tryz.sizeOf108,v31:=Tryz.zeroValue108,t37:=Tryz.underlying166,a37:=Tryz.isAgg166,z37:=Tryz.sizeOf166,v37:=Tryz.zeroValue166,t70:=Tryz.underlying165,a70:=Tryz.isAgg165,z70:=Tryz.sizeOf165,v70:=Tryz.zeroValue165,t72:=Tryz.underlying168,a72:=Tryz.isAgg168,z72:=Tryz.sizeOf168,v72:=Tryz.zeroValue168,t75:=Tryz.underlying171,a75:=Tryz.isAgg171,z75:=Tryz.sizeOf171,v75:=Tryz.zeroValue171,t76:=Tryz.underlying172,a76:=Tryz.isAgg172,z76:=Tryz.sizeOf172,v76:=Tryz.zeroValue172,t127:=Tryz.underlying229,a127:=Tryz.isAgg229,z127:=Tryz.sizeOf229,v127:=Tryz.zeroValue229,t164:=Tryz.underlying282,a164:=Tryz.isAgg282,z164:=Tryz.sizeOf282,v164:=Tryz.zeroValue282 }
theorem amZ:Builder.Extra Ze VB:={ sizeBuilder:=by kernel_rfl,liesBuilder:=by kernel_rfl,t5:=Tryz.underlying5,a5:=Tryz.isAgg5,z5:=Tryz.sizeOf5,v5:=Tryz.zeroValue5,infoByte:=by kernel_rfl,cellsByte:=by kernel_rfl,sizeByte:=by kernel_rfl,neB5:=by decide }
def am0:Ext:=fun f=>if f=71 then some Vp else none
theorem am1:Hw Ze am0:=fun f g h args σ nx v σ' nx' E=>by
 unfold am0 at h
 split at h
 .rename_i G
  subst G;cases h;exact ZF lays156 amZ rfl ⟨_,func71,by kernel_rfl,by kernel_rfl⟩ args σ nx v σ' nx' E
 .cases h
def E8:List V->Store->Nat->Option (V×Store×Nat)
 |[.ts row len],σ,nx=>if row.length=len/\len<=17592186044000/\row.all qI=true then(if len=0 then some (.nil,σ,nx)else some (.rs nx 0 len,Aj σ nx row 1,nx+1))else none
 |_,_,_=>none
theorem qB(args:List V)(σ:Store)(nx:Nat)(v:V)(σ':Store)(nx':Nat)(h:E8 args σ nx=some (v,σ',nx')):D9 Ze 215 args σ nx v σ' nx':=by
 unfold E8 at h
 split at h
 .rename_i row len
  split at h
  .rename_i hc
   obtain⟨G,hs,J⟩:=hc;refine MB (call:=fun _ _ _ _=>none) (conv:=fun _=> .JJ) (fun _ _ _ _ _ _ _ h=>by cases h) (by kernel_rfl) func215 rfl Tryz.underlying27 (n:=0) (by kernel_rfl) (st1:=⟨upd (Dl [.ts row len]) 2 .nil,σ,nx⟩) (T2:=upd (upd (Dl [.ts row len]) 2 .nil) 3 (.ts row len)) (v1:=.ts row len) (row:=row) (len:=len) (vs:=[v]) ?_ rfl ?_ rfl ?_ ?_
   .rfl
   .rfl
   .rfl
   .intro b hb
    cases b with
    |true=>
     have O:=hb rfl;subst O;have E:len=0:=by simpa using G.symm
     subst E;simp only[if_true,tC,t_]at h;obtain⟨rfl,rfl,rfl⟩:=h;exact⟨.ret,_,rfl,.inr rfl,rfl,rfl,rfl⟩
    |false=>
     by_cases E:len=0
     .subst E
      have O:row=[]:=zZ G;subst O;simp only[if_true,tC,t_]at h;obtain⟨rfl,rfl,rfl⟩:=h;refine⟨.ret,?_,?_,.inr rfl,?_,?_,?_⟩
      .exact⟨upd (upd (upd (upd (upd (upd (upd (upd (Dl [.ts [] 0]) 2 .nil) 3 (.ts [] 0)) 4 (.sc (.bool false))) 5 .nil) 6 (.ts [] 0)) 7 .nil) 2 .nil) 2 .nil,σ,nx⟩
      .simp only[wI,go_sem]
      .rfl
      .rfl
      .rfl
     .rw[su E]at h
      simp only[tC,t_]at h;obtain⟨rfl,rfl,rfl⟩:=h;have S:len<=maxLen/\len*8<=140737488355328:=by unfold maxLen;omega
      refine⟨.ret,?_,?_,.inr rfl,?_,?_,?_⟩
      .exact⟨upd (upd (upd (upd (upd (upd (upd (Dl [.ts row len]) 2 .nil) 3 (.ts row len)) 4 (.sc (.bool false))) 5 .nil) 6 (.ts row len)) 7 (.rs nx 0 len)) 2 (.rs nx 0 len),Aj σ nx row 1,nx+1⟩
      .simp only[wI,go_sem,G,E,S]
      .rfl
      .rfl
      .rfl
  .cases h
 .cases h
def ext:Ext:=fun f=>if f=215 then some E8 else am0 f
theorem afR:Hw Ze ext:=fun f g h args σ nx v σ' nx' E=>by
 unfold ext at h
 split at h
 .rename_i G
  subst G;cases h;exact qB args σ nx v σ' nx' E
 .exact am1 f g h args σ nx v σ' nx' E
theorem ZN(xs:List Int)(h:xs.length<=17592186044000):fn Ze conv ext 215 [LI xs]=some (LI xs):=by
 have G:E8 [LI xs] lI 0=if xs.length=0 then some (.nil,lI,0)else some (.rs 0 0 xs.length,Aj lI 0 (xs.flatMap cI) 1,0+1):=by
  show(if(xs.flatMap cI).length=xs.length/\xs.length<=17592186044000/\(xs.flatMap cI).all qI=true then _ else none)=_;rw[sZ ⟨qW xs,h,qX xs⟩]
 rw[mW,nJ (g:=E8) rfl,G]
 by_cases E:xs.length=0
 .rw[sZ E]
  have:xs=[]:=zZ E;subst this
  (simp only[go_sem])<;>rfl
 .rw[su E]
  simp only[go_sem]
theorem u4:Ze.underlying 4=some .bool:=Tryz.underlying4
attribute [go_sem] u4
theorem ajt(j:Joint):fn Ze conv ext 199 [.agg (cJoint j)]=some (.agg (cJoint j)):=by
 rw[mW,nK [.cell 2 103] [] func199];simp only[go_sem]
theorem afS(j:Member):fn Ze conv ext 200 [.agg (cMember j)]=some (.agg (cMember j)):=by
 rw[mW,nK [.cell 2 105] [] func200];simp only[go_sem]
theorem am2(j:TV.Move):fn Ze conv ext 121 [.agg (cMove j)]=some (.agg (cMove j)):=by
 rw[mW,nK [.cell 2 87] [] func121];simp only[go_sem]
abbrev afT:List V:=[I 0,I 0]
abbrev ZO:List V:=[Sg ByteArray.empty,I 0,I 0,Bo false]
abbrev Rq:List V:=[I 0,I 0,I 0]
abbrev ES:List V:=[Sg ByteArray.empty,.nil,.nil,.nil,.nil]
theorem aju(x:Joint):fn Ze conv ext 201 [.agg (cJoint x),.agg (cJoint x)]=some (Bo true):=by
 rw[mW,nK [.tmp 4] [] func201];simp only[go_sem]
theorem afU(x:Member):fn Ze conv ext 202 [.agg (cMember x),.agg (cMember x)]=some (Bo true):=by
 rw[mW,nK [.tmp 4] [] func202];simp only[go_sem]
theorem am3(x:TV.Move):fn Ze conv ext 125 [.agg (cMove x),.agg (cMove x)]=some (Bo true):=by
 rw[mW,nK [.tmp 4] [] func125];simp only[go_sem]
def ZP:=dS (c:=cMove) (s:=2) (fun _=>rfl)
def ZQ:=dO (c:=cMove) (s:=2) (fun _=>rfl) (by omega)
def JX:=dN (c:=cMove) (s:=2) (fun _=>rfl)
theorem ajv(xs:List TV.Move)(h:xs.length<=maxLen):fn Ze conv ext 73 [LL cMove xs,LL cMove xs]=some (Bo true):=by
 have e2:(xs.length:Int)<=9223372036854775807:=by unfold maxLen at h;omega
 rw[mW,nK [.tmp 4] [] func73];simp only[go_sem];generalize Y:gI _ _=y;obtain⟨r,rfl,T',rfl⟩:=pJ Y xs.length (fun k st=>st.nx=0/\st.σ=lI/\st.T 0=LL cMove xs/\st.T 1=LL cMove xs/\st.T 5=I k)
  (fun r=>∃T,r=(.exit 0,⟨T,lI,0⟩)) (by
   clear Y;rintro k ⟨T,σ,nx⟩ J ⟨hn,E,G,O,S⟩;simp only at hn E G O S;subst hn E;have f1:(k:Int)<(xs.length:Int):=by omega
   have f2:=jL k;have f3:=Zl (n:=(k:Int)+1);have f4:=ZP xs k J;have f5:=JX xs;have f6:k*2+2<=xs.length*2:=by omega
   have f9:=ZQ xs k J;refine .inl ⟨_,by simp only[go_sem,G,O,S,f1,f2,f3,f4,f5,f6,f9,am3];rfl,?_⟩;simp only[go_sem,G,O];rfl) (by
   clear Y;rintro ⟨T,σ,nx⟩ ⟨hn,E,G,O,S⟩;simp only at hn E G O S;subst hn E;exact⟨_,by simp only[go_sem,G,S,zk];rfl,by simp,_,rfl⟩) (by
   (simp only[go_sem])<;>trivial)
 simp only[go_sem]
def GX:=dS (c:=cJoint) (s:=4) (fun _=>rfl)
def Jh:=dO (c:=cJoint) (s:=4) (fun _=>rfl) (by omega)
def ED:=dN (c:=cJoint) (s:=4) (fun _=>rfl)
theorem afV(xs:List Joint)(h:xs.length<=maxLen):fn Ze conv ext 138 [LL cJoint xs,LL cJoint xs]=some (Bo true):=by
 have e2:(xs.length:Int)<=9223372036854775807:=by unfold maxLen at h;omega
 rw[mW,nK [.tmp 4] [] func138];simp only[go_sem];generalize Y:gI _ _=y;obtain⟨r,rfl,T',rfl⟩:=pJ Y xs.length (fun k st=>st.nx=0/\st.σ=lI/\st.T 0=LL cJoint xs/\st.T 1=LL cJoint xs/\st.T 5=I k)
  (fun r=>∃T,r=(.exit 0,⟨T,lI,0⟩)) (by
   clear Y;rintro k ⟨T,σ,nx⟩ J ⟨hn,E,G,O,S⟩;simp only at hn E G O S;subst hn E;have f1:(k:Int)<(xs.length:Int):=by omega
   have f2:=jL k;have f3:=Zl (n:=(k:Int)+1);have f4:=GX xs k J;have f5:=ED xs;have f6:k*4+4<=xs.length*4:=by omega
   have f9:=Jh xs k J;refine .inl ⟨_,by simp only[go_sem,G,O,S,f1,f2,f3,f4,f5,f6,f9,aju];rfl,?_⟩;simp only[go_sem,G,O];rfl) (by
   clear Y;rintro ⟨T,σ,nx⟩ ⟨hn,E,G,O,S⟩;simp only at hn E G O S;subst hn E;exact⟨_,by simp only[go_sem,G,S,zk];rfl,by simp,_,rfl⟩) (by
   (simp only[go_sem])<;>trivial)
 simp only[go_sem]
def KA:=dS (c:=cMember) (s:=3) (fun _=>rfl)
def KC:=dO (c:=cMember) (s:=3) (fun _=>rfl) (by omega)
def FV:=dN (c:=cMember) (s:=3) (fun _=>rfl)
theorem adt(xs:List Member)(h:xs.length<=maxLen):fn Ze conv ext 139 [LL cMember xs,LL cMember xs]=some (Bo true):=by
 have e2:(xs.length:Int)<=9223372036854775807:=by unfold maxLen at h;omega
 rw[mW,nK [.tmp 4] [] func139];simp only[go_sem];generalize Y:gI _ _=y;obtain⟨r,rfl,T',rfl⟩:=pJ Y xs.length (fun k st=>st.nx=0/\st.σ=lI/\st.T 0=LL cMember xs/\st.T 1=LL cMember xs/\st.T 5=I k)
  (fun r=>∃T,r=(.exit 0,⟨T,lI,0⟩)) (by
   clear Y;rintro k ⟨T,σ,nx⟩ J ⟨hn,E,G,O,S⟩;simp only at hn E G O S;subst hn E;have f1:(k:Int)<(xs.length:Int):=by omega
   have f2:=jL k;have f3:=Zl (n:=(k:Int)+1);have f4:=KA xs k J;have f5:=FV xs;have f6:k*3+3<=xs.length*3:=by omega
   have f9:=KC xs k J;refine .inl ⟨_,by simp only[go_sem,G,O,S,f1,f2,f3,f4,f5,f6,f9,afU];rfl,?_⟩;simp only[go_sem,G,O];rfl) (by
   clear Y;rintro ⟨T,σ,nx⟩ ⟨hn,E,G,O,S⟩;simp only at hn E G O S;subst hn E;exact⟨_,by simp only[go_sem,G,S,zk];rfl,by simp,_,rfl⟩) (by
   (simp only[go_sem])<;>trivial)
 simp only[go_sem]
def Aw:=dO (c:=cI) (s:=1) (fun _=>rfl) (by omega)
theorem Rt(xs:List Int)(h:xs.length<=maxLen):fn Ze conv ext 26 [LI xs,LI xs]=some (Bo true):=by
 have e2:(xs.length:Int)<=9223372036854775807:=by unfold maxLen at h;omega
 rw[mW,nK [.tmp 4] [] func26];simp only[go_sem];generalize Y:gI _ _=y;obtain⟨r,rfl,T',rfl⟩:=pJ Y xs.length (fun k st=>st.nx=0/\st.σ=lI/\st.T 0=LI xs/\st.T 1=LI xs/\st.T 5=I k)
  (fun r=>∃T,r=(.exit 0,⟨T,lI,0⟩)) (by
   clear Y;rintro k ⟨T,σ,nx⟩ J ⟨hn,E,G,O,S⟩;simp only at hn E G O S;subst hn E;have f1:(k:Int)<(xs.length:Int):=by omega
   have f2:=jL k;have f3:=Zl (n:=(k:Int)+1);have f4:(xs.flatMap cI)[k]?=some (I xs[k]):=dR I xs k J;have f9:=Aw xs k J;refine .inl ⟨_,by simp only[go_sem,G,O,S,f1,f2,f3,f4,f9];rfl,?_⟩;simp only[go_sem,G,O];rfl) (by
   clear Y;rintro ⟨T,σ,nx⟩ ⟨hn,E,G,O,S⟩;simp only at hn E G O S;subst hn E;exact⟨_,by simp only[go_sem,G,S,zk];rfl,by simp,_,rfl⟩) (by
   (simp only[go_sem])<;>trivial)
 simp only[go_sem]
theorem VD(x:Structure)(h:okStructure x):fn Ze conv ext 82 [.agg (cStructure x),.agg (cStructure x)]=some (Bo true):=by
 have E:=afV _ h.1.2.2;have G:=adt _ h.2.2.2;rw[mW,nK [.tmp 4] [] func82];simp only[go_sem,E,G]
theorem VE(x:Stance)(h:okStance x):fn Ze conv ext 31 [.agg (cStance x),.agg (cStance x)]=some (Bo true):=by
 have E:=VD _ h.2.1;have G:=Rt _ h.2.2.1.2.2;have J:=Rt _ h.2.2.2.2.2;rw[mW,nK [.tmp 4] [] func31];simp only[go_sem,E,G,J]
def MK:=dS (c:=cStance) (s:=5) (fun _=>rfl)
def ML:=dO (c:=cStance) (s:=5) (fun _=>rfl) (by omega)
def Gi:=dN (c:=cStance) (s:=5) (fun _=>rfl)
theorem adu(xs:List Stance)(h':okL 112 okStance xs):fn Ze conv ext 72 [LL cStance xs,LL cStance xs]=some (Bo true):=by
 have e2:(xs.length:Int)<=9223372036854775807:=by have h:=h'.2.2;unfold maxLen at h;omega
 rw[mW,nK [.tmp 4] [] func72];simp only[go_sem];generalize Y:gI _ _=y;obtain⟨r,rfl,T',rfl⟩:=pJ Y xs.length (fun k st=>st.nx=0/\st.σ=lI/\st.T 0=LL cStance xs/\st.T 1=LL cStance xs/\st.T 5=I k)
  (fun r=>∃T,r=(.exit 0,⟨T,lI,0⟩)) (by
   clear Y;rintro k ⟨T,σ,nx⟩ G ⟨hn,E,J,O,S⟩;simp only at hn E J O S;subst hn E;have f1:(k:Int)<(xs.length:Int):=by omega
   have f2:=jL k;have f3:=Zl (n:=(k:Int)+1);have f4:=MK xs k G;have f5:=Gi xs;have f6:k*5+5<=xs.length*5:=by omega
   have f9:=ML xs k G;have f10:=VE xs[k] (h'.1 _ (zu G));refine .inl ⟨_,by simp only[go_sem,J,O,S,f1,f2,f3,f4,f5,f6,f9,f10];rfl,?_⟩;simp only[go_sem,J,O];rfl) (by
   clear Y;rintro ⟨T,σ,nx⟩ ⟨hn,E,J,O,S⟩;simp only at hn E J O S;subst hn E;exact⟨_,by simp only[go_sem,J,S,zk];rfl,by simp,_,rfl⟩) (by
   (simp only[go_sem])<;>trivial)
 simp only[go_sem]
theorem am4(x:Yard)(h:okYard x):fn Ze conv ext 25 [.agg (cYard x),.agg (cYard x)]=some (Bo true):=by
 have E:=adu _ h.1;have G:=ajv _ h.2.1.2.2;rw[mW,nK [.tmp 4] [] func25];simp only[go_sem,E,G]
def Szd(r left n:Int):Prop:=r= -1\/(0<=r/\r+n<=left)
theorem afW(xs:List Int)(left:Int)(h:okL 8 okI xs)(J:0<=left)(O:left<=1048576):∃r,fn Ze conv ext 75 [LI xs,I left]=some (I r)/\Szd r left xs.length:=by
 have S:((xs.length:Nat):Int)<=140737488351232:=by have:=h.2.1;omega
 have E:=Zl (n:=left - (xs.length:Int))
 by_cases G:left - (xs.length:Int)<0
 .refine⟨-1,?_,.inl rfl⟩
  rw[mW,nK [.tmp 4] [] func75];simp only[go_sem,E,G]
 .refine⟨left-xs.length,?_,.inr ⟨by omega,by omega⟩⟩
  rw[mW,nK [.tmp 4] [] func75];simp only[go_sem,E,G]
theorem adv(xs:List Member)(left:Int)(h:okL 24 okMember xs)(J:0<=left)(O:left<=1048576):∃r,fn Ze conv ext 127 [LL cMember xs,I left]=some (I r)/\Szd r left xs.length:=by
 have S:((xs.length:Nat):Int)<=140737488351232:=by have:=h.2.1;omega
 have E:=Zl (n:=left - (xs.length:Int))
 by_cases G:left - (xs.length:Int)<0
 .refine⟨-1,?_,.inl rfl⟩
  rw[mW,nK [.tmp 4] [] func127];simp only[go_sem,E,G]
 .refine⟨left-xs.length,?_,.inr ⟨by omega,by omega⟩⟩
  rw[mW,nK [.tmp 4] [] func127];simp only[go_sem,E,G]
theorem ajw(xs:List TV.Move)(left:Int)(h:okL 16 okMove xs)(J:0<=left)(O:left<=1048576):∃r,fn Ze conv ext 67 [LL cMove xs,I left]=some (I r)/\Szd r left xs.length:=by
 have S:((xs.length:Nat):Int)<=140737488351232:=by have:=h.2.1;omega
 have E:=Zl (n:=left - (xs.length:Int))
 by_cases G:left - (xs.length:Int)<0
 .refine⟨-1,?_,.inl rfl⟩
  rw[mW,nK [.tmp 4] [] func67];simp only[go_sem,E,G]
 .refine⟨left-xs.length,?_,.inr ⟨by omega,by omega⟩⟩
  rw[mW,nK [.tmp 4] [] func67];simp only[go_sem,E,G]
theorem ajx(x:Joint)(left:Int)(h:okJoint x)(J:0<=left)(O:left<=1048576):∃r,fn Ze conv ext 183 [.agg (cJoint x),I left]=some (I r)/\Szd r left x.name.size:=by
 have S:((x.name.size:Nat):Int)<=140737488351232:=by have:=h.1;unfold okS at this;omega
 have E:=Zl (n:=left - (x.name.size:Int))
 by_cases G:left - (x.name.size:Int)<0
 .refine⟨-1,?_,.inl rfl⟩
  rw[mW,nK [.tmp 4] [] func183];simp only[go_sem,E,G]
 .refine⟨left-x.name.size,?_,.inr ⟨by omega,by omega⟩⟩
  rw[mW,nK [.tmp 4] [] func183];simp only[go_sem,E,G]
theorem afX(xs:List Joint)(left:Int)(h:okL 40 okJoint xs)(g0:0<=left)(g1:left<=1048576):∃r,fn Ze conv ext 126 [LL cJoint xs,I left]=some (I r)/\Szd r left xs.length:=by
 have e1:((xs.length:Nat):Int)<=140737488351232:=by have:=h.2.1;omega
 have e2:=Zl (n:=left - (xs.length:Int))
 by_cases hl:left - (xs.length:Int)<0
 .refine⟨-1,?_,.inl rfl⟩
  rw[mW,nK [.tmp 4] [] func126];simp only[go_sem,e2,hl]
 .suffices hz:∃r,fn Ze conv ext 126 [LL cJoint xs,I left]=some (I r)/\Szd r (left-xs.length) 0 by
   obtain⟨r,E,h2⟩:=hz;exact⟨r,E,h2.imp id fun h=>⟨h.1,by have:=h.2;omega⟩⟩
  rw[mW,nK [.tmp 4] [] func126];simp only[go_sem,e2,hl];generalize hL:gI _ _=y;obtain⟨r,rfl,hr⟩:=pJ hL xs.length (fun k st=>st.nx=0/\st.σ=lI/\st.T 0=LL cJoint xs/\st.T 5=I k/\∃l,st.T 1=I l/\0<=l/\l<=left-xs.length)
   (fun r=>(∃T l,r=(.exit 0,⟨T,lI,0⟩)/\T 1=I l/\0<=l/\l<=left-xs.length)\/(∃T,r=(.ret,⟨T,lI,0⟩)/\T 4=I (-1))) (by
    clear hL;rintro k ⟨T,σ,nx⟩ J ⟨hn,G,O,Y,l,E,S,a1⟩;simp only at hn G O E Y;subst hn G;have f1:(k:Int)<(xs.length:Int):=by omega
    have f2:=jL k;have f3:=Zl (n:=(k:Int)+1);have f4:=GX xs k J;have f5:=ED xs;have f6:k*4+4<=xs.length*4:=by omega
    have f9:=Jh xs k J;obtain⟨q,f10,f11⟩:=ajx xs[k] l (h.1 _ (zu J)) S (by omega)
    by_cases hq:q<0
    .refine .inr ⟨_,by simp only[go_sem,O,E,Y,f1,f2,f3,f4,f5,f6,f9,f10,hq];rfl,by simp,.inr ⟨_,rfl,?_⟩⟩
     simp only[go_sem]
    .have f12:q<=l:=by rcases f11 with h|⟨_,h⟩<;>omega
     refine .inl ⟨_,by simp only[go_sem,O,E,Y,f1,f2,f3,f4,f5,f6,f9,f10,hq];rfl,?_⟩;simp only[go_sem,O];exact⟨rfl,q,rfl,by omega,by omega⟩) (by
    clear hL;rintro ⟨T,σ,nx⟩ ⟨hn,G,O,Y,l,E,S,a1⟩;simp only at hn G O E Y;subst hn G;refine⟨_,by simp only[go_sem,O,Y,zk];rfl,by simp,.inl ⟨_,l,rfl,?_,S,a1⟩⟩;simp only[go_sem,E]) (by
    simp only[go_sem];exact⟨_,rfl,by omega,by omega⟩)
  rcases hr with ⟨T,l,rfl,E,h2,h3⟩|⟨T,rfl,E⟩
  .refine⟨l,?_,.inr ⟨h2,by omega⟩⟩
   simp only[go_sem,E]
  .refine⟨-1,?_,.inl rfl⟩
   simp only[go_sem,E]
theorem VF(x:Structure)(left:Int)(h:okStructure x)(O:0<=left)(S:left<=1048576):∃r,fn Ze conv ext 74 [.agg (cStructure x),I left]=some (I r)/\Szd r left (x.joints.length+x.members.length):=by
 obtain⟨a,E,a2⟩:=afX x.joints left h.1 O S
 by_cases G:a<0
 .refine⟨-1,?_,.inl rfl⟩
  rw[mW,nK [.tmp 4] [] func74];simp only[go_sem,E,G]
 .rcases a2 with a2|⟨_,a2⟩
  .omega
  obtain⟨b,b1,J⟩:=adv x.members a h.2 (by omega) (by omega)
  by_cases hb:b<0
  .refine⟨-1,?_,.inl rfl⟩
   rw[mW,nK [.tmp 4] [] func74];simp only[go_sem,E,G,b1,hb]
  .rcases J with J|⟨_,J⟩
   .omega
   refine⟨b,?_,.inr ⟨by omega,by omega⟩⟩;rw[mW,nK [.tmp 4] [] func74];simp only[go_sem,E,G,b1,hb]
theorem VG(x:Stance)(left:Int)(h:okStance x)(h0:0<=left)(h1:left<=1048576):∃r,fn Ze conv ext 27 [.agg (cStance x),I left]=some (I r)/\Szd r left (x.name.size+x.st.joints.length+x.st.members.length+x.load.length+x.limits.length):=by
 have e1:((x.name.size:Nat):Int)<=140737488351232:=by have:=h.1;unfold okS at this;omega
 have E:=Zl (n:=left - (x.name.size:Int))
 by_cases G:left - (x.name.size:Int)<0
 .refine⟨-1,?_,.inl rfl⟩
  rw[mW,nK [.tmp 4] [] func27];simp only[go_sem,E,G]
 obtain⟨a,J,a2⟩:=VF x.st (left-x.name.size) h.2.1 (by omega) (by omega)
 by_cases O:a<0
 .refine⟨-1,?_,.inl rfl⟩
  rw[mW,nK [.tmp 4] [] func27];simp only[go_sem,E,G,J,O]
 rcases a2 with a2|⟨_,a2⟩
 .omega
 obtain⟨b,b1,S⟩:=afW x.load a h.2.2.1 (by omega) (by omega)
 by_cases hb:b<0
 .refine⟨-1,?_,.inl rfl⟩
  rw[mW,nK [.tmp 4] [] func27];simp only[go_sem,E,G,J,O,b1,hb]
 rcases S with S|⟨_,S⟩
 .omega
 obtain⟨d,d1,d2⟩:=afW x.limits b h.2.2.2 (by omega) (by omega)
 by_cases Y:d<0
 .refine⟨-1,?_,.inl rfl⟩
  rw[mW,nK [.tmp 4] [] func27];simp only[go_sem,E,G,J,O,b1,hb,d1,Y]
 rcases d2 with d2|⟨_,d2⟩
 .omega
 refine⟨d,?_,.inr ⟨by omega,by omega⟩⟩;rw[mW,nK [.tmp 4] [] func27];simp only[go_sem,E,G,J,O,b1,hb,d1,Y]
def ET(s:Stance):Prop:=s.st.joints.length<=1048576/\s.st.members.length<=1048576/\s.load.length<=1048576/\s.limits.length<=1048576
theorem adw(xs:List Stance)(left:Int)(h:okL 112 okStance xs)(g0:0<=left)(g1:left<=1048576):∃r,fn Ze conv ext 66 [LL cStance xs,I left]=some (I r)/\Szd r left xs.length/\(0<=r->∀i (h:i<xs.length),ET xs[i]):=by
 have e1:((xs.length:Nat):Int)<=140737488351232:=by have:=h.2.1;omega
 have e2:=Zl (n:=left - (xs.length:Int))
 by_cases hl:left - (xs.length:Int)<0
 .refine⟨-1,?_,.inl rfl,fun h=>absurd h (by decide)⟩
  rw[mW,nK [.tmp 4] [] func66];simp only[go_sem,e2,hl]
 .suffices hz:∃r,fn Ze conv ext 66 [LL cStance xs,I left]=some (I r)/\Szd r (left-xs.length) 0/\(0<=r->∀i (h:i<xs.length),ET xs[i]) by
   obtain⟨r,E,h2,h3⟩:=hz;exact⟨r,E,h2.imp id fun h=>⟨h.1,by have:=h.2;omega⟩,h3⟩
  rw[mW,nK [.tmp 4] [] func66];simp only[go_sem,e2,hl];generalize hL:gI _ _=y;obtain⟨r,rfl,hr⟩:=pJ hL xs.length (fun k st=>st.nx=0/\st.σ=lI/\st.T 0=LL cStance xs/\st.T 5=I k/\∃l,st.T 1=I l/\0<=l/\l<=left-xs.length/\∀i (h:i<xs.length),i<k->ET xs[i])
   (fun r=>(∃T l,r=(.exit 0,⟨T,lI,0⟩)/\T 1=I l/\0<=l/\l<=left-xs.length/\∀i (h:i<xs.length),ET xs[i])\/(∃T,r=(.ret,⟨T,lI,0⟩)/\T 4=I (-1))) (by
    clear hL;rintro k ⟨T,σ,nx⟩ O ⟨hn,G,S,J,l,E,Y,a6,a1⟩;simp only at hn G S E J;subst hn G;have f1:(k:Int)<(xs.length:Int):=by omega
    have f2:=jL k;have f3:=Zl (n:=(k:Int)+1);have f4:=MK xs k O;have f5:=Gi xs;have f6:k*5+5<=xs.length*5:=by omega
    have f9:=ML xs k O;obtain⟨q,f10,f11⟩:=VG xs[k] l (h.1 _ (zu O)) Y (by omega)
    by_cases hq:q<0
    .refine .inr ⟨_,by simp only[go_sem,S,E,J,f1,f2,f3,f4,f5,f6,f9,f10,hq];rfl,by simp,.inr ⟨_,rfl,?_⟩⟩
     simp only[go_sem]
    .have f12:q<=l:=by rcases f11 with h|⟨_,h⟩<;>omega
     refine .inl ⟨_,by simp only[go_sem,S,E,J,f1,f2,f3,f4,f5,f6,f9,f10,hq];rfl,?_⟩;simp only[go_sem,S];refine⟨rfl,q,rfl,by omega,by omega,fun i hi a7=>?_⟩
     by_cases hk:i<k
     .exact a1 i hi hk
     .have:i=k:=by omega
      subst this;rcases f11 with h|⟨_,h⟩
      .omega
      .refine⟨?_,?_,?_,?_⟩<;>omega) (by
    clear hL;rintro ⟨T,σ,nx⟩ ⟨hn,G,S,J,l,E,Y,a6,a1⟩;simp only at hn G S E J;subst hn G;refine⟨_,by simp only[go_sem,S,J,zk];rfl,by simp,.inl ⟨_,l,rfl,?_,Y,a6,fun i hi=>a1 i hi hi⟩⟩;simp only[go_sem,E]) (by
    simp only[go_sem];exact⟨_,rfl,by omega,by omega,fun i _ h=>absurd h (zU _)⟩)
  rcases hr with ⟨T,l,rfl,E,h2,h3,J⟩|⟨T,rfl,E⟩
  .refine⟨l,?_,.inr ⟨h2,by omega⟩,fun _=>J⟩
   simp only[go_sem,E]
  .refine⟨-1,?_,.inl rfl,fun h=>absurd h (by decide)⟩
   simp only[go_sem,E]
theorem am5(x:Yard)(left:Int)(h:okYard x)(O:0<=left)(S:left<=1048576):∃r,fn Ze conv ext 20 [.agg (cYard x),I left]=some (I r)/\Szd r left (x.stances.length+x.moves.length)/\(0<=r->∀i (h:i<x.stances.length),ET x.stances[i]):=by
 obtain⟨a,E,a2,a3⟩:=adw x.stances left h.1 O S
 by_cases G:a<0
 .refine⟨-1,?_,.inl rfl,fun h=>absurd h (by decide)⟩
  rw[mW,nK [.tmp 4] [] func20];simp only[go_sem,E,G]
 rcases a2 with a2|⟨_,a2⟩
 .omega
 obtain⟨b,b1,J⟩:=ajw x.moves a h.2.1 (by omega) (by omega)
 by_cases hb:b<0
 .refine⟨-1,?_,.inl rfl,fun h=>absurd h (by decide)⟩
  rw[mW,nK [.tmp 4] [] func20];simp only[go_sem,E,G,b1,hb]
 rcases J with J|⟨_,J⟩
 .omega
 refine⟨b,?_,.inr ⟨by omega,by omega⟩,fun _=>a3 (by omega)⟩;rw[mW,nK [.tmp 4] [] func20];simp only[go_sem,E,G,b1,hb]
def ix{α:Type}(p:α->Bool)(xs:List α):Int:=if xs.findIdx p<xs.length then xs.findIdx p else -1
theorem kL{α:Type}{p:α->Bool}{xs:List α}{k:Nat}(E:k<xs.length)(G:∀i (h:i<xs.length),i<k->p xs[i]=false)(h:p xs[k]=true):ix p xs=k:=by
 have:xs.findIdx p=k:=(List.findIdx_eq E).mpr ⟨h,fun j J=>G j (by omega) J⟩;unfold ix;rw[this,sZ E]
theorem kK{α:Type}{p:α->Bool}{xs:List α}(E:∀i (h:i<xs.length),p xs[i]=false):ix p xs= -1:=by
 have:xs.findIdx p=xs.length:=List.findIdx_eq_length.mpr fun x G=>by
  obtain⟨i,hi,rfl⟩:=yV G;exact E i hi
 unfold ix;rw[this,su (Nat.lt_irrefl _)]
theorem kJ{α:Type}{p:α->Bool}{xs:List α}{k:Nat}(O:k<xs.length)(J:∀i (h:i<xs.length),i<k->p xs[i]=false)(h:p xs[k]=false):∀i (h:i<xs.length),i<k+1->p xs[i]=false:=by
 intro i hi E;rcases yC (yA E)with G|G
 .exact J i hi G
 .subst G;exact h
theorem VH(xs:List Stance)(c:V)(g:FuncId)(p:Stance->Bool)(t:V)(h:xs.length<=maxLen)(hc:conv g= .JJ)(ht:strip lI 7 t=some (t,[]))(hg:∀x∈xs,fn Ze conv ext g [.agg (cStance x),t]=some (Bo (p x))) :
  fn Ze conv ext 95 [LL cStance xs,.clo g [t]]=some (I (ix p xs)):=by
 have e2:(xs.length:Int)<=9223372036854775807:=by unfold maxLen at h;omega
 rw[mW,nK [.tmp 4] [] func95];simp only[go_sem];generalize hL:gI _ _=y;obtain⟨r,rfl,hr⟩:=pJ hL xs.length (fun k st=>st.nx=0/\st.σ=lI/\st.T 0=LL cStance xs/\st.T 1= .clo g [t]/\st.T 7=I xs.length/\st.T 8=I k/\∀i (h:i<xs.length),i<k->p xs[i]=false)
  (fun r=>(∃T,r=(.exit 0,⟨T,lI,0⟩)/\ix p xs= -1)\/(∃T,r=(.ret,⟨T,lI,0⟩)/\T 4=I (ix p xs))) (by
   clear hL;rintro k ⟨T,σ,nx⟩ E ⟨hn,G,S,J,O,Y,hi⟩;simp only at hn G S J O Y;subst hn G;have f1:(k:Int)<(xs.length:Int):=by omega
   have f2:=jL k;have f3:=Zl (n:=(k:Int)+1);have f4:=MK xs k E;have f5:=Gi xs;have f6:k*5+5<=xs.length*5:=by omega
   have f9:=ML xs k E;have f10:=hg xs[k] (zu E);cases hp:p xs[k]with
   |true=>
    rw[hp]at f10;refine .inr ⟨_,by simp only[go_sem,S,J,O,Y,f1,f2,f4,f5,f6,f9,f10,hc,ht];rfl,by simp,.inr ⟨_,rfl,?_⟩⟩;simp only[go_sem];rw[kL E hi hp]
   |false=>
    rw[hp]at f10;refine .inl ⟨_,by simp only[go_sem,S,J,O,Y,f1,f2,f3,f4,f5,f6,f9,f10,hc,ht];rfl,?_⟩;simp only[go_sem,S,J,O];exact⟨rfl,kJ E hi hp⟩) (by
   clear hL;rintro ⟨T,σ,nx⟩ ⟨hn,G,S,J,O,Y,hi⟩;simp only at hn G S J O Y;subst hn G;exact⟨_,by simp only[go_sem,O,Y,zk];rfl,by simp,.inl ⟨_,rfl,kK fun i h=>hi i h h⟩⟩) (by
   simp only[go_sem];exact fun i _ h=>absurd h (zU _))
 rcases hr with ⟨T,rfl,J⟩|⟨T,rfl,J⟩
 .simp only[go_sem,J]
 .simp only[go_sem,J]
theorem ZR(xs:List Joint)(c:V)(g:FuncId)(p:Joint->Bool)(t:V)(h:xs.length<=maxLen)(hc:conv g= .JJ)(ht:strip lI 7 t=some (t,[]))(hg:∀x∈xs,fn Ze conv ext g [.agg (cJoint x),t]=some (Bo (p x))) :
  fn Ze conv ext 256 [LL cJoint xs,.clo g [t]]=some (I (ix p xs)):=by
 have e2:(xs.length:Int)<=9223372036854775807:=by unfold maxLen at h;omega
 rw[mW,nK [.tmp 4] [] func256];simp only[go_sem];generalize hL:gI _ _=y;obtain⟨r,rfl,hr⟩:=pJ hL xs.length (fun k st=>st.nx=0/\st.σ=lI/\st.T 0=LL cJoint xs/\st.T 1= .clo g [t]/\st.T 7=I xs.length/\st.T 8=I k/\∀i (h:i<xs.length),i<k->p xs[i]=false)
  (fun r=>(∃T,r=(.exit 0,⟨T,lI,0⟩)/\ix p xs= -1)\/(∃T,r=(.ret,⟨T,lI,0⟩)/\T 4=I (ix p xs))) (by
   clear hL;rintro k ⟨T,σ,nx⟩ E ⟨hn,G,S,J,O,Y,hi⟩;simp only at hn G S J O Y;subst hn G;have f1:(k:Int)<(xs.length:Int):=by omega
   have f2:=jL k;have f3:=Zl (n:=(k:Int)+1);have f4:=GX xs k E;have f5:=ED xs;have f6:k*4+4<=xs.length*4:=by omega
   have f9:=Jh xs k E;have f10:=hg xs[k] (zu E);cases hp:p xs[k]with
   |true=>
    rw[hp]at f10;refine .inr ⟨_,by simp only[go_sem,S,J,O,Y,f1,f2,f4,f5,f6,f9,f10,hc,ht];rfl,by simp,.inr ⟨_,rfl,?_⟩⟩;simp only[go_sem];rw[kL E hi hp]
   |false=>
    rw[hp]at f10;refine .inl ⟨_,by simp only[go_sem,S,J,O,Y,f1,f2,f3,f4,f5,f6,f9,f10,hc,ht];rfl,?_⟩;simp only[go_sem,S,J,O];exact⟨rfl,kJ E hi hp⟩) (by
   clear hL;rintro ⟨T,σ,nx⟩ ⟨hn,G,S,J,O,Y,hi⟩;simp only at hn G S J O Y;subst hn G;exact⟨_,by simp only[go_sem,O,Y,zk];rfl,by simp,.inl ⟨_,rfl,kK fun i h=>hi i h h⟩⟩) (by
   simp only[go_sem];exact fun i _ h=>absurd h (zU _))
 rcases hr with ⟨T,rfl,J⟩|⟨T,rfl,J⟩
 .simp only[go_sem,J]
 .simp only[go_sem,J]
theorem VI(xs:List Member)(c:V)(g:FuncId)(p:Member->Bool)(t:V)(h:xs.length<=maxLen)(hc:conv g= .JJ)(ht:strip lI 7 t=some (t,[]))(hg:∀x∈xs,fn Ze conv ext g [.agg (cMember x),t]=some (Bo (p x))) :
  fn Ze conv ext 258 [LL cMember xs,.clo g [t]]=some (I (ix p xs)):=by
 have e2:(xs.length:Int)<=9223372036854775807:=by unfold maxLen at h;omega
 rw[mW,nK [.tmp 4] [] func258];simp only[go_sem];generalize hL:gI _ _=y;obtain⟨r,rfl,hr⟩:=pJ hL xs.length (fun k st=>st.nx=0/\st.σ=lI/\st.T 0=LL cMember xs/\st.T 1= .clo g [t]/\st.T 7=I xs.length/\st.T 8=I k/\∀i (h:i<xs.length),i<k->p xs[i]=false)
  (fun r=>(∃T,r=(.exit 0,⟨T,lI,0⟩)/\ix p xs= -1)\/(∃T,r=(.ret,⟨T,lI,0⟩)/\T 4=I (ix p xs))) (by
   clear hL;rintro k ⟨T,σ,nx⟩ E ⟨hn,G,S,J,O,Y,hi⟩;simp only at hn G S J O Y;subst hn G;have f1:(k:Int)<(xs.length:Int):=by omega
   have f2:=jL k;have f3:=Zl (n:=(k:Int)+1);have f4:=KA xs k E;have f5:=FV xs;have f6:k*3+3<=xs.length*3:=by omega
   have f9:=KC xs k E;have f10:=hg xs[k] (zu E);cases hp:p xs[k]with
   |true=>
    rw[hp]at f10;refine .inr ⟨_,by simp only[go_sem,S,J,O,Y,f1,f2,f4,f5,f6,f9,f10,hc,ht];rfl,by simp,.inr ⟨_,rfl,?_⟩⟩;simp only[go_sem];rw[kL E hi hp]
   |false=>
    rw[hp]at f10;refine .inl ⟨_,by simp only[go_sem,S,J,O,Y,f1,f2,f3,f4,f5,f6,f9,f10,hc,ht];rfl,?_⟩;simp only[go_sem,S,J,O];exact⟨rfl,kJ E hi hp⟩) (by
   clear hL;rintro ⟨T,σ,nx⟩ ⟨hn,G,S,J,O,Y,hi⟩;simp only at hn G S J O Y;subst hn G;exact⟨_,by simp only[go_sem,O,Y,zk];rfl,by simp,.inl ⟨_,rfl,kK fun i h=>hi i h h⟩⟩) (by
   simp only[go_sem];exact fun i _ h=>absurd h (zU _))
 rcases hr with ⟨T,rfl,J⟩|⟨T,rfl,J⟩
 .simp only[go_sem,J]
 .simp only[go_sem,J]
theorem indexInt(xs:List Int)(c:V)(g:FuncId)(p:Int->Bool)(h:xs.length<=maxLen)(hc:conv g= .JJ)(hg:∀x∈xs,fn Ze conv ext g [I x]=some (Bo (p x))) :
  fn Ze conv ext 137 [LI xs,.clo g []]=some (I (ix p xs)):=by
 have e2:(xs.length:Int)<=9223372036854775807:=by unfold maxLen at h;omega
 rw[mW,nK [.tmp 4] [] func137];simp only[go_sem];generalize hL:gI _ _=y;obtain⟨r,rfl,hr⟩:=pJ hL xs.length (fun k st=>st.nx=0/\st.σ=lI/\st.T 0=LI xs/\st.T 1= .clo g []/\st.T 7=I xs.length/\st.T 8=I k/\∀i (h:i<xs.length),i<k->p xs[i]=false)
  (fun r=>(∃T,r=(.exit 0,⟨T,lI,0⟩)/\ix p xs= -1)\/(∃T,r=(.ret,⟨T,lI,0⟩)/\T 4=I (ix p xs))) (by
   clear hL;rintro k ⟨T,σ,nx⟩ E ⟨hn,G,S,J,O,Y,hi⟩;simp only at hn G S J O Y;subst hn G;have f1:(k:Int)<(xs.length:Int):=by omega
   have f2:=jL k;have f3:=Zl (n:=(k:Int)+1);have f4:(xs.flatMap cI)[k]?=some (I xs[k]):=dR I xs k E;have f9:=Aw xs k E;have f10:=hg xs[k] (zu E);cases hp:p xs[k]with
   |true=>
    rw[hp]at f10;refine .inr ⟨_,by simp only[go_sem,S,J,O,Y,f1,f2,f4,f9,f10,hc];rfl,by simp,.inr ⟨_,rfl,?_⟩⟩;simp only[go_sem];rw[kL E hi hp]
   |false=>
    rw[hp]at f10;refine .inl ⟨_,by simp only[go_sem,S,J,O,Y,f1,f2,f3,f4,f9,f10,hc];rfl,?_⟩;simp only[go_sem,S,J,O];exact⟨rfl,kJ E hi hp⟩) (by
   clear hL;rintro ⟨T,σ,nx⟩ ⟨hn,G,S,J,O,Y,hi⟩;simp only at hn G S J O Y;subst hn G;exact⟨_,by simp only[go_sem,O,Y,zk];rfl,by simp,.inl ⟨_,rfl,kK fun i h=>hi i h h⟩⟩) (by
   simp only[go_sem];exact fun i _ h=>absurd h (zU _))
 rcases hr with ⟨T,rfl,J⟩|⟨T,rfl,J⟩
 .simp only[go_sem,J]
 .simp only[go_sem,J]
theorem JY{α:Type}(p:α->Bool)(xs:List α):ix p xs<0↔∀x∈xs,p x=false:=by
 unfold ix
 by_cases h:xs.findIdx p<xs.length
 .rw[sZ h]
  refine⟨fun E=>absurd E (by omega),fun E=>?_⟩;have:=List.findIdx_eq_length.mpr E;omega
 .rw[su h]
  exact⟨fun _=>List.findIdx_eq_length.mp (Nat.le_antisymm (List.findIdx_le_length) (by omega)),fun _=>by omega⟩
theorem adx(xs:List Member)(g:FuncId)(p:Member->Bool)(t:V)(h:xs.length<=maxLen)(hc:conv g= .JJ)(G:strip lI 7 t=some (t,[]))(E:strip lI 6 t=some (t,[]))(J:∀x∈xs,fn Ze conv ext g [.agg (cMember x),t]=some (Bo (p x))) :
  fn Ze conv ext 207 [LL cMember xs,.clo g [t]]=some (Bo (decide (0<=ix p xs))):=by
 have O:=VI xs (.clo g [t]) g p t h hc G J;rw[mW,nK [.tmp 4] [] func207];simp only[go_sem,O,G,E]
theorem ZT(xs:List Int)(g:FuncId)(p:Int->Bool)(h:xs.length<=maxLen)(hc:conv g= .JJ)(E:∀x∈xs,fn Ze conv ext g [I x]=some (Bo (p x))) :
  fn Ze conv ext 152 [LI xs,.clo g []]=some (Bo (decide (0<=ix p xs))):=by
 have G:=indexInt xs (.clo g []) g p h hc E;rw[mW,nK [.tmp 4] [] func152];simp only[go_sem,G]
noncomputable def pb(p:Prop):Bool:=@decide p (Classical.propDecidable p)
theorem iL{p:Prop}(h:p):pb p=true:=by unfold pb;exact(@decide_eq_true_iff p (Classical.propDecidable p)).mpr h
theorem iM{p:Prop}(h:¬p):pb p=false:=by unfold pb;exact(@decide_eq_false_iff_not p (Classical.propDecidable p)).mpr h
theorem Pn{p:Prop}{b:Bool}(h:b=true↔p):b=pb p:=by
 cases b with
 |true=>exact(iL (h.mp rfl)).symm
 |false=>exact(iM (fun E=>by cases h.mpr E)).symm
theorem MN{p:Prop}(h:pb p=true):p:=by
 unfold pb at h;exact(@decide_eq_true_iff p (Classical.propDecidable p)).mp h
def inB(n a b:Int):Bool:=decide (a<=n) && decide (n<=b)
theorem kE(n a b:Int):fn Ze conv ext 50 [I n,I a,I b]=some (Bo (inB n a b)):=by
 unfold inB;rw[mW,nK [.tmp 6] [] func50]
 by_cases h:a<=n<;>simp only[go_sem,h]
theorem ajy(n:Int):fn Ze conv ext 167 [I n]=some (Bo (inB n (-100) 100)):=by
 unfold inB;rw[mW,nK [.tmp 2] [] func167]
 by_cases h:-100<=n<;>simp only[go_sem,h]
theorem ajz(n:Int):fn Ze conv ext 154 [I n]=some (Bo (inB n (0) 1000)):=by
 unfold inB;rw[mW,nK [.tmp 2] [] func154]
 by_cases h:0<=n<;>simp only[go_sem,h]
theorem aa6(n:Int):fn Ze conv ext 255 [I n]=some (Bo (inB n (-50) 50)):=by
 unfold inB;rw[mW,nK [.tmp 2] [] func255]
 by_cases h:-50<=n<;>simp only[go_sem,h]
def D_(b:UInt8):Bool:=decide (97<=(b.toNat:Int)) && decide ((b.toNat:Int)<=122)
def EF(b:UInt8):Bool:=decide (48<=(b.toNat:Int)) && decide ((b.toNat:Int)<=57)
theorem afY(b:UInt8):fn Ze conv ext 149 [.sc (.int .u8 b.toNat)]=some (Bo (D_ b)):=by
 unfold D_;rw[mW,nK [.tmp 2] [] func149]
 by_cases h:97<=(b.toNat:Int)<;>simp only[go_sem,h]
theorem isDigit(b:UInt8):fn Ze conv ext 150 [.sc (.int .u8 b.toNat)]=some (Bo (EF b)):=by
 unfold EF;rw[mW,nK [.tmp 2] [] func150]
 by_cases h:48<=(b.toNat:Int)<;>simp only[go_sem,h]
def Ei(k:Nat)(b:UInt8):Prop:=D_ b=true\/(k≠0/\EF b=true)
def D8(s:ByteArray):Prop:=(∀k b,s[k]?=some b->Ei k b)/\1<=s.size/\s.size<=8
theorem afZ{s:ByteArray}{k:Nat}(h:k<s.size):∃b,s[k]?=some b:=⟨s[k],by simp[h]⟩
theorem aa7{s:ByteArray}{k:Nat}{b:UInt8}(h:s[k]?=some b):k<s.size:=by
 by_cases E:k<s.size
 .exact E
 .simp[E]at h
theorem MO{s:ByteArray}(h:∀i b,s[i]?=some b->Ei i b):pb (D8 s)=inB s.size 1 8:=by
 unfold inB
 by_cases E:(1:Int)<=s.size
 .by_cases G:(s.size:Int)<=8
  .rw[iL ⟨h,by omega,by omega⟩,sS E,sS G];rfl
  .rw[iM (fun hn=>G (by have:=hn.2.2;omega)),sS E,sQ G];rfl
 .rw[iM (fun hn=>E (by have:=hn.2.1;omega)),sQ E];rfl
theorem qC{s:ByteArray}{k:Nat}{b:UInt8}(hi:∀i b,i<k->s[i]?=some b->Ei i b)(hb:s[k]?=some b)(h:Ei k b):∀i b,i<k+1->s[i]?=some b->Ei i b:=by
 intro i c E hc;rcases yC (yA E)with G|G
 .exact hi i c G hc
 .subst G
  rw[hb]at hc;cases hc;exact h
theorem jJ{k:Nat}{b:UInt8}(J:D_ b=false)(E:k=0\/EF b=false):¬Ei k b:=by
 rintro (h|⟨h,G⟩)
 .rw[J]at h;cases h
 .rcases E with E|E
  .exact h E
  .rw[E]at G;cases G
theorem jw{b:UInt8}(h:¬(97<=(b.toNat:Int))):D_ b=false:=by unfold D_;rw[sQ h];rfl
theorem MP{b:UInt8}(h:¬((b.toNat:Int)<=122)):D_ b=false:=by unfold D_;rw[sQ h,wJ]
theorem ady{b:UInt8}(h:(b.toNat:Int)<48):EF b=false:=by unfold EF;rw[sQ (by omega)];rfl
theorem Po{b:UInt8}(h:57<(b.toNat:Int)):EF b=false:=by unfold EF;rw[sQ (p:=(b.toNat:Int)<=57) (by omega),wJ]
theorem adz{b:UInt8}(h:¬(b.toNat:Int)<48)(E:¬57<(b.toNat:Int)):EF b=true:=by unfold EF;rw[sS (by omega),sS (by omega)];rfl
theorem aa8(s:ByteArray)(hs:okS s):fn Ze conv ext 97 [Sg s]=some (Bo (pb (D8 s))):=by
 have e2:(s.size:Int)<=9223372036854775807:=by unfold okS at hs;omega
 rw[mW,nK [.tmp 2] [] func97];simp only[go_sem];generalize Y:gI _ _=y;obtain⟨r,rfl,hr⟩:=pJ Y s.size (fun k st=>st.nx=0/\st.σ=lI/\st.T 0=Sg s/\st.T 3=I k/\∀i b,i<k->s[i]?=some b->Ei i b)
  (fun r=>(∃T,r=(.exit 0,⟨T,lI,0⟩)/\T 0=Sg s/\∀i b,s[i]?=some b->Ei i b)\/(∃T,r=(.ret,⟨T,lI,0⟩)/\T 2=Bo false/\¬D8 s)) (by
   clear Y;rintro k ⟨T,σ,nx⟩ a1 ⟨hn,G,E,J,hi⟩;simp only at hn G E J;subst hn G;have f1:(k:Int)<(s.size:Int):=by omega
   have f2:=jL k;have f3:=Zl (n:=(k:Int)+1);obtain⟨b,f4⟩:=afZ a1;have no:¬Ei k b->¬D8 s:=fun h hn=>h (hn.1 k b f4)
   by_cases c1:97<=(b.toNat:Int)
   .by_cases S:(b.toNat:Int)<=122
    .refine .inl ⟨_,by simp only[go_sem,E,J,f1,f2,f3,f4,c1,S];rfl,?_⟩
     simp only[go_sem,E];exact⟨rfl,qC hi f4 (.inl (by unfold D_;rw[sS c1,sS S];rfl))⟩
    .have d1:¬(b.toNat:Int)<48:=by omega
     have d2:57<(b.toNat:Int):=by omega
     by_cases O:k=0
     .have f0:((k:Int)==0)=true:=by subst O;rfl
      exact .inr ⟨_,by simp only[go_sem,E,J,f1,f2,f4,c1,S,f0];rfl,by simp,.inr ⟨_,rfl,by simp only[go_sem],no (jJ (MP S) (.inl O))⟩⟩
     .have f0:((k:Int)==0)=false:=by simpa using O
      exact .inr ⟨_,by simp only[go_sem,E,J,f1,f2,f4,c1,S,f0,d1,d2];rfl,by simp,.inr ⟨_,rfl,by simp only[go_sem],no (jJ (MP S) (.inr (Po d2)))⟩⟩
   .by_cases O:k=0
    .have f0:((k:Int)==0)=true:=by subst O;rfl
     exact .inr ⟨_,by simp only[go_sem,E,J,f1,f2,f4,c1,f0];rfl,by simp,.inr ⟨_,rfl,by simp only[go_sem],no (jJ (jw c1) (.inl O))⟩⟩
    .have f0:((k:Int)==0)=false:=by simpa using O
     by_cases d1:(b.toNat:Int)<48
     .exact .inr ⟨_,by simp only[go_sem,E,J,f1,f2,f4,c1,f0,d1];rfl,by simp,.inr ⟨_,rfl,by simp only[go_sem],no (jJ (jw c1) (.inr (ady d1)))⟩⟩
     .by_cases d2:57<(b.toNat:Int)
      .exact .inr ⟨_,by simp only[go_sem,E,J,f1,f2,f4,c1,f0,d1,d2];rfl,by simp,.inr ⟨_,rfl,by simp only[go_sem],no (jJ (jw c1) (.inr (Po d2)))⟩⟩
      .refine .inl ⟨_,by simp only[go_sem,E,J,f1,f2,f3,f4,c1,f0,d1,d2];rfl,?_⟩
       simp only[go_sem,E];exact⟨rfl,qC hi f4 (.inr ⟨O,adz d1 d2⟩)⟩) (by
   clear Y;rintro ⟨T,σ,nx⟩ ⟨hn,G,E,J,hi⟩;simp only at hn G E J;subst hn G;refine⟨_,by simp only[go_sem,E,J,zk];rfl,by simp,.inl ⟨_,rfl,?_,fun i b h=>hi i b (aa7 h) h⟩⟩;simp only[go_sem,E]) (by
   simp only[go_sem];exact fun i b h=>absurd h (zU _))
 rcases hr with ⟨T,rfl,E,h1⟩|⟨T,rfl,E,h1⟩
 .have:=kE s.size 1 8
  simp only[go_sem,E,MO h1,this]
 .simp only[go_sem,E,iM h1]
theorem toList_empty(s:ByteArray):(s.toList==({ data:=#[] }:ByteArray).toList)=decide (s.size=0):=by
 have e:(s.toList=[])=(s.size=0):=by
  rw[ByteArray.toList_eq];refine propext ⟨fun h=>?_,fun h=>zZ (by rw[yX];exact h)⟩;have:=congrArg List.length h;rw[yX]at this;exact this
 have E:({ data:=#[] }:ByteArray).toList=[]:=ByteArray.toList_mk [];rw[E]
 by_cases h:s.size=0
 .rw[e.mpr h,sS h];rfl
 .rw[sQ h]
  cases G:s.toList with
  |nil=>exact absurd (e.mp G) h
  |cons a l=>rfl
theorem aa9(s:ByteArray)(hs:okS s):fn Ze conv ext 92 [Sg s]=some (Bo (pb (D8 s))):=by
 have e2:(s.size:Int)<=9223372036854775807:=by unfold okS at hs;omega
 rw[mW,nK [.tmp 2] [] func92];simp only[go_sem];generalize hL:gI _ _=y;obtain⟨r,rfl,hr⟩:=pJ hL s.size (fun k st=>st.nx=0/\st.σ=lI/\st.T 0=Sg s/\st.T 5=I s.size/\st.T 6=I k/\∀i b,i<k->s[i]?=some b->Ei i b)
  (fun r=>(∃T,r=(.exit 0,⟨T,lI,0⟩)/\T 0=Sg s/\∀i b,s[i]?=some b->Ei i b)\/(∃T,r=(.ret,⟨T,lI,0⟩)/\T 2=Bo false/\¬D8 s)) (by
   clear hL;rintro k ⟨T,σ,nx⟩ a1 ⟨hn,G,E,J,O,hi⟩;simp only at hn G E J O;subst hn G;have f1:(k:Int)<(s.size:Int):=by omega
   have f2:=jL k;have f3:=Zl (n:=(k:Int)+1);obtain⟨b,f4⟩:=afZ a1;have no:¬Ei k b->¬D8 s:=fun h hn=>h (hn.1 k b f4)
   have g1:=afY b;have g2:=isDigit b;cases Y:D_ b with
   |true=>
    rw[Y]at g1;refine .inl ⟨_,by simp only[go_sem,E,O,J,f1,f2,f3,f4,g1];rfl,?_⟩;simp only[go_sem,E,J];exact⟨rfl,qC hi f4 (.inl Y)⟩
   |false=>
    rw[Y]at g1
    by_cases S:k=0
    .have f0:((k:Int)==0)=true:=by subst S;rfl
     exact .inr ⟨_,by simp only[go_sem,E,O,J,f1,f2,f4,g1,f0];rfl,by simp,.inr ⟨_,rfl,by simp only[go_sem],no (jJ Y (.inl S))⟩⟩
    .have f0:((k:Int)==0)=false:=by simpa using S
     cases hd:EF b with
     |true=>
      rw[hd]at g2;refine .inl ⟨_,by simp only[go_sem,E,O,J,f1,f2,f3,f4,g1,g2,f0];rfl,?_⟩;simp only[go_sem,E,J];exact⟨rfl,qC hi f4 (.inr ⟨S,hd⟩)⟩
     |false=>
      rw[hd]at g2;exact .inr ⟨_,by simp only[go_sem,E,O,J,f1,f2,f4,g1,g2,f0];rfl,by simp,.inr ⟨_,rfl,by simp only[go_sem],no (jJ Y (.inr hd))⟩⟩) (by
   clear hL;rintro ⟨T,σ,nx⟩ ⟨hn,G,E,J,O,hi⟩;simp only at hn G E J O;subst hn G;refine⟨_,by simp only[go_sem,E,O,J,zk];rfl,by simp,.inl ⟨_,rfl,?_,fun i b h=>hi i b (aa7 h) h⟩⟩;simp only[go_sem,E]) (by
   simp only[go_sem];exact fun i b h=>absurd h (zU _))
 rcases hr with ⟨T,rfl,E,h1⟩|⟨T,rfl,E,h1⟩
 .have he:=toList_empty s
  rw[MO h1];unfold inB
  by_cases S:s.size=0
  .have:¬(1:Int)<=s.size:=by omega
   rw[sS S]at he;simp only[go_sem,E,this,he]
  .have:(1:Int)<=s.size:=by omega
   rw[sQ S]at he;simp only[go_sem,E,this,he]
 .simp only[go_sem,E,iM h1]
noncomputable def Ej(j:Joint):Bool:=pb (D8 j.name) && (inB j.x (-50) 50 && inB j.y (-50) 50)
theorem af0(j:Joint)(h:okJoint j):fn Ze conv ext 210 [.agg (cJoint j)]=some (Bo (Ej j)):=by
 have t1:=aa8 j.name h.1;have t2:=kE j.x (-50) 50;have t3:=kE j.y (-50) 50;unfold Ej;generalize pb (D8 j.name)=b1 at *;generalize inB j.x (-50) 50=E at *;generalize inB j.y (-50) 50=G at *;rw[mW,nK [.tmp 2] [] func210];cases b1<;>cases E<;>simp only[go_sem,t1,t2,t3]
theorem af2(j:Joint)(h:okJoint j):fn Ze conv ext 205 [.agg (cJoint j)]=some (Bo (Ej j)):=by
 have t1:=aa9 j.name h.1;have t2:=aa6 j.x;have t3:=aa6 j.y;unfold Ej;generalize pb (D8 j.name)=b1 at *;generalize inB j.x (-50) 50=E at *;generalize inB j.y (-50) 50=G at *;rw[mW,nK [.tmp 2] [] func205];cases b1<;>cases E<;>simp only[go_sem,t1,t2,t3]
abbrev isNamed(name:ByteArray)(s:Stance):Bool:=s.name.toList==name.toList
abbrev Bz(name:ByteArray)(s:Joint):Bool:=s.name.toList==name.toList
theorem Ji(name:ByteArray)(s:Stance):fn Ze conv ext 96 [.agg (cStance s),.tp [Sg name] 0]=some (Bo (isNamed name s)):=by
 rw[mW,nK [.tmp 3] [] func96];simp only[go_sem]
theorem Ru(y:Yard)(name:ByteArray)(h:y.stances.length<=maxLen):fn Ze conv ext 46 [.agg (cYard y),Sg name]=some (I (ix (isNamed name) y.stances)):=by
 have E:=VH y.stances (.tp [Sg name] 0) 96 (isNamed name) (.tp [Sg name] 0) h (by rfl) (by rfl) (fun x _=>Ji name x);rw[mW,nK [.tmp 4] [] func46];simp only[go_sem,E]
theorem Rx(y:Yard)(name:ByteArray)(h:y.stances.length<=maxLen):fn Ze conv ext 49 [.agg (cYard y),Sg name]=some (I (ix (isNamed name) y.stances)):=by
 have e2:(y.stances.length:Int)<=9223372036854775807:=by unfold maxLen at h;omega
 rw[mW,nK [.tmp 4] [] func49];simp only[go_sem];generalize hL:gI _ _=z;generalize a1:y.stances=xs at *;obtain⟨r,rfl,hr⟩:=pJ hL xs.length (fun k st=>st.T 1=Sg name/\st.T 8=LL cStance xs/\st.T 9=I xs.length/\st.T 10=I k/\∀i (h:i<xs.length),i<k->isNamed name xs[i]=false)
  (fun r=>(∃st,r=(.exit 0,st)/\ix (isNamed name) xs= -1)\/(∃st,r=(.ret,st)/\st.T 4=I (ix (isNamed name) xs))) (by
   clear hL;rintro k ⟨T,σ,nx⟩ J ⟨G,S,O,E,hi⟩;simp only at G S O E;have f1:(k:Int)<(xs.length:Int):=by omega
   have f2:=jL k;have f3:=Zl (n:=(k:Int)+1);have f4:=MK xs k J;have f5:=Gi xs;have f6:k*5+5<=xs.length*5:=by omega
   have f9:=ML xs k J;cases Y:isNamed name xs[k]with
   |true=>
    refine .inr ⟨_,by simp only[go_sem,G,S,O,E,f1,f2,f4,f5,f6,f9,Y];rfl,by simp,.inr ⟨_,rfl,?_⟩⟩;simp only[go_sem];rw[kL J hi Y]
   |false=>
    refine .inl ⟨_,by simp only[go_sem,G,S,O,E,f1,f2,f3,f4,f5,f6,f9,Y];rfl,?_⟩;simp only[go_sem,G,S,O];exact⟨rfl,kJ J hi Y⟩) (by
   clear hL;rintro ⟨T,σ,nx⟩ ⟨G,S,O,E,hi⟩;simp only at G S O E;exact⟨_,by simp only[go_sem,O,E,zk];rfl,by simp,.inl ⟨_,rfl,kK fun i h=>hi i h h⟩⟩) (by
   simp only[go_sem];exact fun i _ h=>absurd h (zU _))
 rcases hr with ⟨⟨T,σ,nx⟩,rfl,G⟩|⟨⟨T,σ,nx⟩,rfl,G⟩
 .simp only[go_sem,G]
 .simp only at G
  simp only[go_sem,G]
theorem KD(name:ByteArray)(s:Joint):fn Ze conv ext 257 [.agg (cJoint s),.tp [Sg name] 0]=some (Bo (Bz name s)):=by
 rw[mW,nK [.tmp 3] [] func257];simp only[go_sem]
theorem VJ(y:Structure)(name:ByteArray)(h:y.joints.length<=maxLen):fn Ze conv ext 206 [.agg (cStructure y),Sg name]=some (I (ix (Bz name) y.joints)):=by
 have E:=ZR y.joints (.tp [Sg name] 0) 257 (Bz name) (.tp [Sg name] 0) h (by rfl) (by rfl) (fun x _=>KD name x);rw[mW,nK [.tmp 4] [] func206];simp only[go_sem,E]
theorem VK(y:Structure)(name:ByteArray)(h:y.joints.length<=maxLen):fn Ze conv ext 211 [.agg (cStructure y),Sg name]=some (I (ix (Bz name) y.joints)):=by
 have e2:(y.joints.length:Int)<=9223372036854775807:=by unfold maxLen at h;omega
 rw[mW,nK [.tmp 4] [] func211];simp only[go_sem];generalize hL:gI _ _=z;generalize a1:y.joints=xs at *;obtain⟨r,rfl,hr⟩:=pJ hL xs.length (fun k st=>st.T 1=Sg name/\st.T 8=LL cJoint xs/\st.T 9=I xs.length/\st.T 10=I k/\∀i (h:i<xs.length),i<k->Bz name xs[i]=false)
  (fun r=>(∃st,r=(.exit 0,st)/\ix (Bz name) xs= -1)\/(∃st,r=(.ret,st)/\st.T 4=I (ix (Bz name) xs))) (by
   clear hL;rintro k ⟨T,σ,nx⟩ J ⟨G,S,O,E,hi⟩;simp only at G S O E;have f1:(k:Int)<(xs.length:Int):=by omega
   have f2:=jL k;have f3:=Zl (n:=(k:Int)+1);have f4:=GX xs k J;have f5:=ED xs;have f6:k*4+4<=xs.length*4:=by omega
   have f9:=Jh xs k J;cases Y:Bz name xs[k]with
   |true=>
    refine .inr ⟨_,by simp only[go_sem,G,S,O,E,f1,f2,f4,f5,f6,f9,Y];rfl,by simp,.inr ⟨_,rfl,?_⟩⟩;simp only[go_sem];rw[kL J hi Y]
   |false=>
    refine .inl ⟨_,by simp only[go_sem,G,S,O,E,f1,f2,f3,f4,f5,f6,f9,Y];rfl,?_⟩;simp only[go_sem,G,S,O];exact⟨rfl,kJ J hi Y⟩) (by
   clear hL;rintro ⟨T,σ,nx⟩ ⟨G,S,O,E,hi⟩;simp only at G S O E;exact⟨_,by simp only[go_sem,O,E,zk];rfl,by simp,.inl ⟨_,rfl,kK fun i h=>hi i h h⟩⟩) (by
   simp only[go_sem];exact fun i _ h=>absurd h (zU _))
 rcases hr with ⟨⟨T,σ,nx⟩,rfl,G⟩|⟨⟨T,σ,nx⟩,rfl,G⟩
 .simp only[go_sem,G]
 .simp only at G
  simp only[go_sem,G]
def VL(a b:Joint):Bool:=(!(a.x==b.x)|| !(a.y==b.y)) && !(a.fixed && b.fixed)
def Gj(n:Nat)(m:Member):Prop:=0<=m.a/\m.a<n/\0<=m.b/\m.b<n/\1<=m.kind/\m.kind<=3
noncomputable def OL(E:List Joint)(m:Member):Bool:=pb (Gj E.length m/\∀a b,E[m.a.toNat]?=some a->E[m.b.toNat]?=some b->VL a b=true)
theorem jW{E:List Joint}{m:Member}(h:¬Gj E.length m):OL E m=false:=iM fun hn=>h hn.1
theorem Jj{E:List Joint}{m:Member}(h:Gj E.length m){a b:Joint}(G:E[m.a.toNat]?=some a)(hb:E[m.b.toNat]?=some b):OL E m=VL a b:=by
 refine(Pn ⟨fun O=>⟨h,fun c d hc J=>?_⟩,fun hn=>hn.2 a b G hb⟩).symm;rw[G]at hc;rw[hb]at J;cases hc;cases J;exact O
set_option maxRecDepth 100000 in
theorem adA(row:List V)(off:Nat)(E:List Joint)(m:Member)(G:row[off]?=some (LL cJoint E))(hl:E.length<=maxLen):fn Ze conv ext 209 [.tp row off,.agg (cMember m)]=some (Bo (OL E m)):=by
 rw[mW,nK [.tmp 4] [4] func209]
 by_cases c1:m.a<0
 .rw[jW (fun h=>by have:=h.1;omega)]
  simp only[go_sem,G,c1]
 by_cases J:(E.length:Int)<=m.a
 .rw[jW (fun h=>by have:=h.2.1;omega)]
  simp only[go_sem,G,c1,J]
 by_cases O:m.b<0
 .rw[jW (fun h=>by have:=h.2.2.1;omega)]
  simp only[go_sem,G,c1,J,O]
 by_cases S:(E.length:Int)<=m.b
 .rw[jW (fun h=>by have:=h.2.2.2.1;omega)]
  simp only[go_sem,G,c1,J,O,S]
 by_cases Y:m.kind<1
 .rw[jW (fun h=>by have:=h.2.2.2.2.1;omega)]
  simp only[go_sem,G,c1,J,O,S,Y]
 by_cases c6:3<m.kind
 .rw[jW (fun h=>by have:=h.2.2.2.2.2;omega)]
  simp only[go_sem,G,c1,J,O,S,Y,c6]
 have a1:0<=m.a:=by omega
 have a2:m.a<E.length:=by omega
 have b1:0<=m.b:=by omega
 have b2:m.b<E.length:=by omega
 have a3:m.a.toNat<E.length:=by omega
 have b3:m.b.toNat<E.length:=by omega
 rw[Jj ⟨a1,a2,b1,b2,by omega,by omega⟩ (zy a3) (zy b3)];have f4:=GX E _ a3;have g4:=GX E _ b3;have f5:=ED E;have f6:m.a.toNat *4+4<=E.length*4:=by omega
 have g6:m.b.toNat *4+4<=E.length*4:=by omega
 have f9:=Jh E _ a3;generalize E[m.a.toNat]=a at *;generalize E[m.b.toNat]=b at *;unfold VL;cases hx:(a.x==b.x)<;>cases hy:(a.y==b.y)<;>cases ha:a.fixed<;>cases hb:b.fixed<;>
  (simp only[go_sem,G,c1,J,O,S,Y,c6,a1,a2,b1,b2,f4,g4,f5,f6,g6,f9,hx,hy,ha,hb,bne])<;>rfl
def Ag(s:Structure):Prop:=s.joints.length<=6/\s.members.length<=8/\(∀i (h:i<s.joints.length),Ej s.joints[i]=true/\ix (Bz s.joints[i].name) s.joints=i)/\∀m∈s.members,OL s.joints m=true
theorem Jk(s:Structure)(m:Member)(E:s.joints.length<=maxLen):fn Ze conv ext 208 [.agg (cMember m),.tp (cStructure s) 0]=some (Bo (!OL s.joints m)):=by
 have G:=adA (cStructure s) 0 s.joints m rfl E;rw[mW,nK [.tmp 3] [] func208];simp only[go_sem,G]
theorem H9(s:Structure)(h:okStructure s):fn Ze conv ext 151 [.agg (cStructure s)]=some (Bo (pb (Ag s))):=by
 have e2:(s.joints.length:Int)<=9223372036854775807:=by have:=h.1.2.1;omega
 have hm:=adx s.members 208 (fun m=> !OL s.joints m) (.tp (cStructure s) 0) h.2.2.2 (by rfl) (by rfl) (by rfl) (fun x _=>Jk s x h.1.2.2);rw[mW,nK [.tmp 2] [] func151]
 by_cases c1:(6:Int)<s.joints.length
 .rw[iM (fun hn=>by have:=hn.1;omega)]
  simp only[go_sem,c1]
 by_cases c2:(8:Int)<s.members.length
 .rw[iM (fun hn=>by have:=hn.2.1;omega)]
  simp only[go_sem,c1,c2]
 simp only[go_sem,c1,c2];generalize hL:gI _ _=y;obtain⟨r,rfl,hr⟩:=pJ hL s.joints.length (fun k st=>0<st.nx/\st.σ 0=some ⟨cStructure s,0,true⟩/\st.T 1= .rp 0 0/\st.T 16=LL cJoint s.joints/\st.T 17=I s.joints.length/\st.T 18=I k/\∀i (h:i<s.joints.length),i<k->Ej s.joints[i]=true/\ix (Bz s.joints[i].name) s.joints=i)
  (fun r=>(∃T σ nx,r=(.exit 0,⟨T,σ,nx⟩)/\σ 0=some ⟨cStructure s,0,true⟩/\T 1= .rp 0 0/\∀i (h:i<s.joints.length),Ej s.joints[i]=true/\ix (Bz s.joints[i].name) s.joints=i)\/(∃T σ nx,r=(.ret,⟨T,σ,nx⟩)/\T 2=Bo false/\¬Ag s)) (by
   clear hL;rintro k ⟨T,σ,nx⟩ S ⟨hn,E,Y,J,G,O,hi⟩;simp only at hn E Y J G O;have f1:(k:Int)<(s.joints.length:Int):=by omega
   have f2:=jL k;have f3:=Zl (n:=(k:Int)+1);have f4:=GX s.joints k S;have f5:=ED s.joints;have f6:k*4+4<=s.joints.length*4:=by omega
   have f9:=Jh s.joints k S;have t1:=af2 s.joints[k] (h.1.1 _ (zu S));have t2:=VJ s s.joints[k].name h.1.2.2;have nz:¬0=nx:=by omega
   cases hj:Ej s.joints[k]with
   |false=>
    rw[hj]at t1;refine .inr ⟨_,by simp only[go_sem,Y,J,G,O,f1,f2,f4,f5,f6,f9,t1,nz];rfl,by simp,.inr ⟨_,_,_,rfl,?_,fun hn=>?_⟩⟩
    .simp only[go_sem]
    .have:=(hn.2.2.1 k S).1
     rw[hj]at this;cases this
   |true=>
    rw[hj]at t1
    by_cases hk:ix (Bz s.joints[k].name) s.joints=k
    .rw[hk]at t2
     refine .inl ⟨_,by simp only[go_sem,Y,J,G,O,E,f1,f2,f3,f4,f5,f6,f9,t1,t2,nz];rfl,?_⟩;simp only[go_sem,Y,J,G,E,nz];refine⟨by omega,rfl,fun i a1 a6=>?_⟩;rcases yC (yA a6)with q|q
     .exact hi i a1 q
     .subst q;exact⟨hj,hk⟩
    .have a7:(ix (Bz s.joints[k].name) s.joints !=(k:Int))=true:=by simpa using hk
     refine .inr ⟨_,by simp only[go_sem,Y,J,G,O,E,f1,f2,f4,f5,f6,f9,t1,t2,a7,nz];rfl,by simp,.inr ⟨_,_,_,rfl,?_,fun hn=>hk (hn.2.2.1 k S).2⟩⟩;simp only[go_sem]) (by
   clear hL;rintro ⟨T,σ,nx⟩ ⟨hn,E,Y,J,G,O,hi⟩;simp only at hn E Y J G O;exact⟨_,by simp only[go_sem,G,O,zk];rfl,by simp,.inl ⟨_,_,_,rfl,E,by simp only[go_sem,Y],fun i h=>hi i h h⟩⟩) (by
   simp only[go_sem];exact fun i _ h=>absurd h (zU _))
 rcases hr with ⟨T,σ,nx,rfl,E,Y,hj⟩|⟨T,σ,nx,rfl,h2,hn⟩
 .have:pb (Ag s)= !decide (0<=ix (fun m=> !OL s.joints m) s.members):=by
   refine(Pn ?_).symm;rw[vZ,decide_eq_false_iff_not,Int.not_le,JY];exact⟨fun hq=>⟨by omega,by omega,hj,fun m hm=>by simpa using hq m hm⟩,fun hq m hm=>by simp[hq.2.2.2 m hm]⟩
  rw[this];simp only[go_sem,E,Y,hm]
 .simp only[go_sem,h2,iM hn]
theorem kT{n a b:Int}(h:inB n a b=false):¬(a<=n/\n<=b):=by
 unfold inB at h;intro hn;rw[sS hn.1,sS hn.2]at h;cases h
theorem kS{n a b:Int}(h:inB n a b=true):a<=n/\n<=b:=by
 unfold inB at h;rw[yc,decide_eq_true_eq,decide_eq_true_eq]at h;exact h
theorem fA(s:Structure)(h:okStructure s):fn Ze conv ext 155 [.agg (cStructure s)]=some (Bo (pb (Ag s))):=by
 have e2:(s.joints.length:Int)<=9223372036854775807:=by have:=h.1.2.1;omega
 have e3:(s.members.length:Int)<=9223372036854775807:=by have:=h.2.2.1;omega
 rw[mW,nK [.tmp 2] [] func155]
 by_cases c1:(6:Int)<s.joints.length
 .rw[iM (fun hn=>by have:=hn.1;omega)]
  simp only[go_sem,c1]
 by_cases c2:(8:Int)<s.members.length
 .rw[iM (fun hn=>by have:=hn.2.1;omega)]
  simp only[go_sem,c1,c2]
 simp only[go_sem,c1,c2];generalize hL:gI _ _=y;obtain⟨r,rfl,hr⟩:=pJ hL s.joints.length (fun k st=>0<st.nx/\st.σ 0=some ⟨cStructure s,0,true⟩/\st.T 1= .rp 0 0/\st.T 21=LL cJoint s.joints/\st.T 22=I s.joints.length/\st.T 23=I k/\∀i (h:i<s.joints.length),i<k->Ej s.joints[i]=true/\ix (Bz s.joints[i].name) s.joints=i)
  (fun r=>(∃T σ nx,r=(.exit 0,⟨T,σ,nx⟩)/\0<nx/\σ 0=some ⟨cStructure s,0,true⟩/\T 1= .rp 0 0/\∀i (h:i<s.joints.length),Ej s.joints[i]=true/\ix (Bz s.joints[i].name) s.joints=i)\/(∃T σ nx,r=(.ret,⟨T,σ,nx⟩)/\T 2=Bo false/\¬Ag s)) (by
   clear hL;rintro k ⟨T,σ,nx⟩ O ⟨hn,E,G,a7,Y,a8,hi⟩;simp only at hn E G a7 Y a8;have f1:(k:Int)<(s.joints.length:Int):=by omega
   have f2:=jL k;have f3:=Zl (n:=(k:Int)+1);have f4:=GX s.joints k O;have f5:=ED s.joints;have f6:k*4+4<=s.joints.length*4:=by omega
   have f9:=Jh s.joints k O;have t1:=af0 s.joints[k] (h.1.1 _ (zu O));have t2:=VK s s.joints[k].name h.1.2.2;have nz:¬0=nx:=by omega
   cases hj:Ej s.joints[k]with
   |false=>
    rw[hj]at t1;refine .inr ⟨_,by simp only[go_sem,G,a7,Y,a8,f1,f2,f4,f5,f6,f9,t1,nz];rfl,by simp,.inr ⟨_,_,_,rfl,?_,fun hn=>?_⟩⟩
    .simp only[go_sem]
    .have:=(hn.2.2.1 k O).1
     rw[hj]at this;cases this
   |true=>
    rw[hj]at t1
    by_cases hk:ix (Bz s.joints[k].name) s.joints=k
    .rw[hk]at t2
     refine .inl ⟨_,by simp only[go_sem,G,a7,Y,a8,E,f1,f2,f3,f4,f5,f6,f9,t1,t2,nz];rfl,?_⟩;simp only[go_sem,G,a7,Y,E,nz];refine⟨by omega,rfl,fun i b4 b5=>?_⟩;rcases yC (yA b5)with q|q
     .exact hi i b4 q
     .subst q;exact⟨hj,hk⟩
    .have b9:(ix (Bz s.joints[k].name) s.joints !=(k:Int))=true:=by simpa using hk
     refine .inr ⟨_,by simp only[go_sem,G,a7,Y,a8,E,f1,f2,f4,f5,f6,f9,t1,t2,b9,nz];rfl,by simp,.inr ⟨_,_,_,rfl,?_,fun hn=>hk (hn.2.2.1 k O).2⟩⟩;simp only[go_sem]) (by
   clear hL;rintro ⟨T,σ,nx⟩ ⟨hn,E,G,a7,Y,a8,hi⟩;simp only at hn E G a7 Y a8;exact⟨_,by simp only[go_sem,Y,a8,zk];rfl,by simp,.inl ⟨_,_,_,rfl,hn,E,by simp only[go_sem,G],fun i h=>hi i h h⟩⟩) (by
   simp only[go_sem];exact fun i _ h=>absurd h (zU _))
 rcases hr with ⟨T,σ,nx,rfl,c0,E,G,hj⟩|⟨T,σ,nx,rfl,h2,hn⟩
 .clear hL
  have e4:=Zl (n:=(s.joints.length:Int) - 1);simp only[go_sem,E,G,e4];generalize hL:gI _ _=y;obtain⟨r,rfl,hr⟩:=pJ hL s.members.length (fun k st=>0<st.nx/\st.σ 0=some ⟨cStructure s,0,true⟩/\st.T 1= .rp 0 0/\st.T 5=I ((s.joints.length:Int) - 1)/\st.T 45=LL cMember s.members/\st.T 46=I s.members.length/\st.T 47=I k/\∀i (h:i<s.members.length),i<k->OL s.joints s.members[i]=true)
   (fun r=>(∃T σ nx,r=(.exit 2,⟨T,σ,nx⟩)/\∀i (h:i<s.members.length),OL s.joints s.members[i]=true)\/(∃T σ nx,r=(.ret,⟨T,σ,nx⟩)/\T 2=Bo false/\¬Ag s)) (by
    clear hL;rintro k ⟨T,σ,nx⟩ O ⟨hn,E,G,h5,a6,J,S,hi⟩;simp only at hn E G h5 a6 J S;have f1:(k:Int)<(s.members.length:Int):=by omega
    have f2:=jL k;have f3:=Zl (n:=(k:Int)+1);have f4:=KA s.members k O;have f5:=FV s.members;have f6:k*3+3<=s.members.length*3:=by omega
    have f9:=KC s.members k O;have no:OL s.joints s.members[k]=false->¬Ag s:=fun hb hn=>by
     rw[hn.2.2.2 _ (zu O)]at hb;cases hb
    obtain⟨m,b8⟩:∃m,m=s.members[k]:=⟨_,rfl⟩;rw[<- b8]at f4 no;have t1:=kE m.a 0 ((s.joints.length:Int) - 1);have t2:=kE m.b 0 ((s.joints.length:Int) - 1);have t3:=kE m.kind 1 3;have nz:¬0=nx:=by omega
    cases ha:inB m.a 0 ((s.joints.length:Int) - 1)with
    |false=>
     rw[ha]at t1;refine .inr ⟨_,by simp only[go_sem,G,h5,a6,J,S,E,f1,f2,f4,f5,f6,f9,t1,nz];rfl,by simp,.inr ⟨_,_,_,rfl,by simp only[go_sem],no (jW fun hm=>?_)⟩⟩;exact kT ha ⟨hm.1,by have:=hm.2.1;omega⟩
    |true=>
    rw[ha]at t1;cases hb:inB m.b 0 ((s.joints.length:Int) - 1)with
    |false=>
     rw[hb]at t2;refine .inr ⟨_,by simp only[go_sem,G,h5,a6,J,S,E,f1,f2,f4,f5,f6,f9,t1,t2,nz];rfl,by simp,.inr ⟨_,_,_,rfl,by simp only[go_sem],no (jW fun hm=>?_)⟩⟩;exact kT hb ⟨hm.2.2.1,by have:=hm.2.2.2.1;omega⟩
    |true=>
    rw[hb]at t2;cases hc:inB m.kind 1 3 with
    |false=>
     rw[hc]at t3;refine .inr ⟨_,by simp only[go_sem,G,h5,a6,J,S,E,f1,f2,f4,f5,f6,f9,t1,t2,t3,nz];rfl,by simp,.inr ⟨_,_,_,rfl,by simp only[go_sem],no (jW fun hm=>?_)⟩⟩;exact kT hc ⟨hm.2.2.2.2.1,hm.2.2.2.2.2⟩
    |true=>
    rw[hc]at t3;have qa:=kS ha;have qb:=kS hb;have qc:=kS hc;have a1:0<=m.a:=qa.1;have a2:m.a<s.joints.length:=by omega
    have b1:0<=m.b:=qb.1;have b2:m.b<s.joints.length:=by omega
    have a3:m.a.toNat<s.joints.length:=by omega
    have b3:m.b.toNat<s.joints.length:=by omega
    have hp:=Jj ⟨a1,a2,b1,b2,qc.1,qc.2⟩ (zy a3) (zy b3);have k4:=GX s.joints _ a3;have g4:=GX s.joints _ b3;have k5:=ED s.joints;have k6:m.a.toNat *4+4<=s.joints.length*4:=by omega
    have g6:m.b.toNat *4+4<=s.joints.length*4:=by omega
    have k9:=Jh s.joints _ a3;generalize s.joints[m.a.toNat]=a at *;generalize s.joints[m.b.toNat]=b at *;unfold VL at hp;have n1:¬nx=nx+1:=by omega
    have n2:¬nx=nx+1+1:=by omega
    have n3:¬nx+1=nx+1+1:=by omega
    have n4:¬0=nx+1:=by omega
    have n5:¬0=nx+1+1:=by omega
    cases hx:(a.x==b.x)<;>cases hy:(a.y==b.y)<;>cases b6:a.fixed<;>cases b7:b.fixed<;>simp only[hx,hy,b6,b7,vN,wY,Bool.or_true,Bool.true_or,Bool.or_false,Bool.and_true,wJ,vw,uj]at hp<;>
    first
    |(refine .inl ⟨_,by simp only[go_sem,G,h5,a6,J,S,E,f1,f2,f3,f4,f5,f6,f9,t1,t2,t3,nz,a1,a2,b1,b2,k4,g4,k5,k6,g6,k9,n1,n2,n3,n4,n5,hx,hy,b6,b7];rfl,?_⟩
      simp only[go_sem,G,h5,a6,J,E,nz,n4,n5];refine⟨by omega,rfl,fun i b4 b5=>?_⟩;rcases yC (yA b5)with q|q
      .exact hi i b4 q
      .subst q;rw[<- b8];exact hp)
    |exact .inr ⟨_,by simp only[go_sem,G,h5,a6,J,S,E,f1,f2,f4,f5,f6,f9,t1,t2,t3,nz,a1,a2,b1,b2,k4,g4,k5,k6,g6,k9,n1,n2,n3,n4,n5,hx,hy,b6,b7];rfl,by simp,.inr ⟨_,_,_,rfl,by simp only[go_sem],no hp⟩⟩) (by
    clear hL;rintro ⟨T,σ,nx⟩ ⟨hn,E,G,h5,a6,J,S,hi⟩;simp only at hn E G J S;exact⟨_,by simp only[go_sem,J,S,zk];rfl,by simp,.inl ⟨_,_,_,rfl,fun i h=>hi i h h⟩⟩) (by
    simp only[go_sem,G,E];exact⟨c0,fun i _ h=>absurd h (zU _)⟩)
  rcases hr with ⟨T,σ,nx,rfl,hm⟩|⟨T,σ,nx,rfl,h2,hn⟩
  .have:Ag s:=⟨by omega,by omega,hj,fun m c3=>by obtain⟨i,hi,rfl⟩:=yV c3;exact hm i hi⟩
   simp only[go_sem,iL this]
  .simp only[go_sem,h2,iM hn]
 .simp only[go_sem,h2,iM hn]
def Ai(n:Nat)(l:List Int):Prop:=l.length=2*n/\∀x∈l,inB x (-100) 100=true
def Bc(n:Nat)(l:List Int):Prop:=l.length=n/\∀x∈l,inB x 0 1000=true
theorem OM(x:Int):fn Ze conv ext 166 [I x]=some (Bo (!inB x (-100) 100)):=by
 have E:=ajy x;rw[mW,nK [.tmp 2] [] func166];simp only[go_sem,E]
theorem KE(x:Int):fn Ze conv ext 153 [I x]=some (Bo (!inB x 0 1000)):=by
 have E:=ajz x;rw[mW,nK [.tmp 2] [] func153];simp only[go_sem,E]
theorem adB(row:List V)(off:Nat)(E:List Joint)(l:List Int)(S:row[off]?=some (LL cJoint E))(hj:E.length<=140737488351232)(hl:l.length<=maxLen):fn Ze conv ext 107 [.tp row off,LI l]=some (Bo (pb (Ai E.length l))):=by
 have Y:=Zl (n:=2*(E.length:Int));have h1:=ZT l 166 (fun x=> !inB x (-100) 100) hl (by rfl) (fun x _=>OM x);rw[mW,nK [.tmp 4] [] func107]
 by_cases J:(l.length:Int)=2*(E.length:Int)
 .have G:((l.length:Int)==2*(E.length:Int))=true:=by simpa using J
  have:pb (Ai E.length l)= !decide (0<=ix (fun x=> !inB x (-100) 100) l):=by
   refine(Pn ?_).symm;rw[vZ,decide_eq_false_iff_not,Int.not_le,JY];exact⟨fun O=>⟨by omega,fun m hm=>by simpa using O m hm⟩,fun O m hm=>by simp[O.2 m hm]⟩
  rw[this];simp only[go_sem,S,Y,h1,G]
 .have G:((l.length:Int)==2*(E.length:Int))=false:=by simpa using J
  rw[iM (fun hn=>J (by have:=hn.1;omega))];simp only[go_sem,S,Y,G]
theorem JZ(row:List V)(off:Nat)(G:List Member)(l:List Int)(S:row[off+1]?=some (LL cMember G))(Y:l.length<=maxLen):fn Ze conv ext 94 [.tp row off,LI l]=some (Bo (pb (Bc G.length l))):=by
 have h1:=ZT l 153 (fun x=> !inB x 0 1000) Y (by rfl) (fun x _=>KE x);rw[mW,nK [.tmp 4] [] func94]
 by_cases J:(l.length:Int)=(G.length:Int)
 .have E:((l.length:Int)==(G.length:Int))=true:=by simpa using J
  have:pb (Bc G.length l)= !decide (0<=ix (fun x=> !inB x 0 1000) l):=by
   refine(Pn ?_).symm;rw[vZ,decide_eq_false_iff_not,Int.not_le,JY];exact⟨fun O=>⟨by omega,fun m hm=>by simpa using O m hm⟩,fun O m hm=>by simp[O.2 m hm]⟩
  rw[this];simp only[go_sem,S,h1,E]
 .have E:((l.length:Int)==(G.length:Int))=false:=by simpa using J
  rw[iM (fun hn=>J (by have:=hn.1;omega))];simp only[go_sem,S,E]
theorem aa_(s:Structure)(l:List Int)(h:okStructure s)(E:l.length<=maxLen):fn Ze conv ext 93 [.agg (cStructure s),LI l]=some (Bo (pb (Ag s) && pb (Ai s.joints.length l))):=by
 have G:=H9 s h;have J:=adB (cStructure s) 0 s.joints l rfl (by have:=h.1.2.1;omega) E;rw[mW,nK [.tmp 4] [] func93];generalize pb (Ag s)=b at *;cases b<;>simp only[go_sem,G,J]
theorem Ry(s:Structure)(l:List Int)(h:okStructure s)(hl:l.length<=maxLen):fn Ze conv ext 98 [.agg (cStructure s),LI l]=some (Bo (pb (Ag s) && pb (Ai s.joints.length l))):=by
 have h1:=fA s h;have e2:(l.length:Int)<=9223372036854775807:=by unfold maxLen at hl;omega
 have e1:=Zl (n:=2*(s.joints.length:Int)) (by have:=h.1.2.1;have:=h.2.2.1;omega) (by have:=h.1.2.1;have:=h.2.2.1;omega);rw[mW,nK [.tmp 4] [] func98];generalize pb (Ag s)=b at *;cases b with
 |false=>simp only[go_sem,h1]
 |true=>
 by_cases h2:(l.length:Int)=2*(s.joints.length:Int)
 .have S:((l.length:Int) !=2*(s.joints.length:Int))=false:=by simpa using h2
  simp only[go_sem,h1,e1,S];generalize hL:gI _ _=y;obtain⟨r,rfl,hr⟩:=pJ hL l.length (fun k st=>st.T 19=LI l/\st.T 20=I l.length/\st.T 21=I k/\∀i (h:i<l.length),i<k->inB l[i] (-100) 100=true)
   (fun r=>(∃T σ nx,r=(.exit 0,⟨T,σ,nx⟩)/\Ai s.joints.length l)\/(∃T σ nx,r=(.ret,⟨T,σ,nx⟩)/\T 4=Bo false/\¬Ai s.joints.length l)) (by
    clear hL;rintro k ⟨T,σ,nx⟩ Y ⟨G,E,J,hi⟩;simp only at G E J;have f1:(k:Int)<(l.length:Int):=by omega
    have f2:=jL k;have f3:=Zl (n:=(k:Int)+1);have f4:(l.flatMap cI)[k]?=some (I l[k]):=dR I l k Y;have f9:=Aw l k Y;have t1:=kE l[k] (-100) 100;cases hb:inB l[k] (-100) 100 with
    |true=>
     rw[hb]at t1;refine .inl ⟨_,by simp only[go_sem,G,E,J,f1,f2,f3,f4,f9,t1];rfl,?_⟩;simp only[go_sem,G,E];refine⟨rfl,fun i O a1=>?_⟩;rcases yC (yA a1)with q|q
     .exact hi i O q
     .subst q;exact hb
    |false=>
     rw[hb]at t1;refine .inr ⟨_,by simp only[go_sem,G,E,J,f1,f2,f4,f9,t1];rfl,by simp,.inr ⟨_,_,_,rfl,by simp only[go_sem],fun hn=>?_⟩⟩;have:=hn.2 _ (zu Y);rw[hb]at this;cases this) (by
    clear hL;rintro ⟨T,σ,nx⟩ ⟨G,E,J,hi⟩;simp only at G E J;exact⟨_,by simp only[go_sem,E,J,zk];rfl,by simp,.inl ⟨_,_,_,rfl,by omega,fun x hx=>by obtain⟨i,O,rfl⟩:=yV hx;exact hi i O O⟩⟩) (by
    simp only[go_sem];exact fun i _ h=>absurd h (zU _))
  rcases hr with ⟨T,σ,nx,rfl,hm⟩|⟨T,σ,nx,rfl,h2,hn⟩
  .simp only[go_sem,iL hm]
  .simp only[go_sem,h2,iM hn]
 .have S:((l.length:Int) !=2*(s.joints.length:Int))=true:=by simpa using h2
  rw[iM (p:=Ai s.joints.length l) (fun hn=>h2 (by have:=hn.1;omega))];simp only[go_sem,h1,e1,S]
theorem Pq(s:Structure)(l:List Int)(h:okStructure s)(hl:l.length<=maxLen):fn Ze conv ext 99 [.agg (cStructure s),LI l]=some (Bo (pb (Ag s) && pb (Bc s.members.length l))):=by
 have h1:=fA s h;have e2:(l.length:Int)<=9223372036854775807:=by unfold maxLen at hl;omega
 have e1:=Zl (n:=(s.members.length:Int)) (by have:=h.1.2.1;have:=h.2.2.1;omega) (by have:=h.1.2.1;have:=h.2.2.1;omega);rw[mW,nK [.tmp 4] [] func99];generalize pb (Ag s)=b at *;cases b with
 |false=>simp only[go_sem,h1]
 |true=>
 by_cases h2:(l.length:Int)=(s.members.length:Int)
 .have S:((l.length:Int) !=(s.members.length:Int))=false:=by simpa using h2
  simp only[go_sem,h1,e1,S];generalize hL:gI _ _=y;obtain⟨r,rfl,hr⟩:=pJ hL l.length (fun k st=>st.T 18=LI l/\st.T 19=I l.length/\st.T 20=I k/\∀i (h:i<l.length),i<k->inB l[i] 0 1000=true)
   (fun r=>(∃T σ nx,r=(.exit 0,⟨T,σ,nx⟩)/\Bc s.members.length l)\/(∃T σ nx,r=(.ret,⟨T,σ,nx⟩)/\T 4=Bo false/\¬Bc s.members.length l)) (by
    clear hL;rintro k ⟨T,σ,nx⟩ Y ⟨G,E,J,hi⟩;simp only at G E J;have f1:(k:Int)<(l.length:Int):=by omega
    have f2:=jL k;have f3:=Zl (n:=(k:Int)+1);have f4:(l.flatMap cI)[k]?=some (I l[k]):=dR I l k Y;have f9:=Aw l k Y;have t1:=kE l[k] 0 1000;cases hb:inB l[k] 0 1000 with
    |true=>
     rw[hb]at t1;refine .inl ⟨_,by simp only[go_sem,G,E,J,f1,f2,f3,f4,f9,t1];rfl,?_⟩;simp only[go_sem,G,E];refine⟨rfl,fun i O a1=>?_⟩;rcases yC (yA a1)with q|q
     .exact hi i O q
     .subst q;exact hb
    |false=>
     rw[hb]at t1;refine .inr ⟨_,by simp only[go_sem,G,E,J,f1,f2,f4,f9,t1];rfl,by simp,.inr ⟨_,_,_,rfl,by simp only[go_sem],fun hn=>?_⟩⟩;have:=hn.2 _ (zu Y);rw[hb]at this;cases this) (by
    clear hL;rintro ⟨T,σ,nx⟩ ⟨G,E,J,hi⟩;simp only at G E J;exact⟨_,by simp only[go_sem,E,J,zk];rfl,by simp,.inl ⟨_,_,_,rfl,by omega,fun x hx=>by obtain⟨i,O,rfl⟩:=yV hx;exact hi i O O⟩⟩) (by
    simp only[go_sem];exact fun i _ h=>absurd h (zU _))
  rcases hr with ⟨T,σ,nx,rfl,hm⟩|⟨T,σ,nx,rfl,h2,hn⟩
  .simp only[go_sem,iL hm]
  .simp only[go_sem,h2,iM hn]
 .have S:((l.length:Int) !=(s.members.length:Int))=true:=by simpa using h2
  rw[iM (p:=Bc s.members.length l) (fun hn=>h2 (by have:=hn.1;omega))];simp only[go_sem,h1,e1,S]
noncomputable def BQ(t:Stance):Bool:=pb (D8 t.name) && ((pb (Ag t.st) && pb (Ai t.st.joints.length t.load)) && pb (Bc t.st.members.length t.limits))
theorem Jl(t:Stance)(h:okStance t):fn Ze conv ext 45 [.agg (cStance t)]=some (Bo (BQ t)):=by
 have E:=aa9 t.name h.1;have G:=aa_ t.st t.load h.2.1 h.2.2.1.2.2;have J:=JZ (cStance t) 1 t.st.members t.limits rfl h.2.2.2.2.2;unfold BQ;generalize pb (D8 t.name)=b1 at *;generalize (pb (Ag t.st) && pb (Ai t.st.joints.length t.load))=O at *;rw[mW,nK [.tmp 2] [] func45];cases b1<;>cases O<;>simp only[go_sem,E,G,J]
theorem Jm(t:Stance)(h:okStance t):fn Ze conv ext 48 [.agg (cStance t)]=some (Bo (BQ t)):=by
 have E:=aa8 t.name h.1;have G:=Ry t.st t.load h.2.1 h.2.2.1.2.2;have J:=Pq t.st t.limits h.2.1 h.2.2.2.2.2;unfold BQ;generalize pb (D8 t.name)=b1 at *;generalize pb (Ag t.st)=O at *;generalize pb (Ai t.st.joints.length t.load)=S at *;rw[mW,nK [.tmp 2] [] func48];cases b1<;>cases O<;>cases S<;>simp only[go_sem,E,G,J]
set_option maxRecDepth 100000 in
theorem ajA(x y:Operand)(a b c d:Int):AB Ze .eql 87 x y (.agg [I a,I b]) (.agg [I c,I d])=some (Bo ((a==c) && (b==d))):=by
 refine ZE (us:=[.int .i64 a,.int .i64 b]) (vs:=[.int .i64 c,.int .i64 d]) (by kernel_rfl) Tryz.underlying87 (by kernel_rfl) rfl rfl ?_;refine(oL (a:=.int .i64 a) (b:=.int .i64 c) (r:=a==c) (by decide) (by kernel_rfl) (by kernel_rfl) (oM _ _ _ _ _ _ Tryz.underlying3)).trans ?_;cases (a==c)
 .rfl
 .refine(oL (a:=.int .i64 b) (b:=.int .i64 d) (r:=b==d) (by decide) (by kernel_rfl) (by kernel_rfl) (oM _ _ _ _ _ _ Tryz.underlying3)).trans ?_
  cases (b==d)<;>rfl
attribute [go_sem] ajA
def BF(m o:TV.Move):Bool:=(m.fr==o.fr) && (m.to==o.to)
theorem MQ(m o:TV.Move):BF m o=BF o m:=by
 unfold BF;rw[Bool.beq_comm (a:=m.fr),Bool.beq_comm (a:=m.to)]
theorem Pv(xs:List TV.Move)(m:TV.Move)(h:xs.length<=maxLen):fn Ze conv ext 47 [LL cMove xs,.agg (cMove m)]=some (I (ix (BF m) xs)):=by
 have e2:(xs.length:Int)<=9223372036854775807:=by unfold maxLen at h;omega
 rw[mW,nK [.tmp 4] [] func47];simp only[go_sem];generalize hL:gI _ _=y;obtain⟨r,rfl,hr⟩:=pJ hL xs.length (fun k st=>0<st.nx/\st.σ 0=some ⟨cMove m,0,true⟩/\st.T 0=LL cMove xs/\st.T 3= .rp 0 0/\st.T 7=I xs.length/\st.T 8=I k/\∀i (h:i<xs.length),i<k->BF m xs[i]=false)
  (fun r=>(∃T σ nx,r=(.exit 0,⟨T,σ,nx⟩)/\ix (BF m) xs= -1)\/(∃T σ nx,r=(.ret,⟨T,σ,nx⟩)/\T 4=I (ix (BF m) xs))) (by
   clear hL;rintro k ⟨T,σ,nx⟩ G ⟨hn,E,h0,J,O,S,hi⟩;simp only at hn E h0 J O S;have f1:(k:Int)<(xs.length:Int):=by omega
   have f2:=jL k;have f3:=Zl (n:=(k:Int)+1);have f4:=ZP xs k G;have f5:=JX xs;have f6:k*2+2<=xs.length*2:=by omega
   have f9:=ZQ xs k G;cases Y:BF m xs[k]with
   |true=>
    refine .inr ⟨_,by unfold BF at Y;simp only[go_sem,h0,J,O,S,hn,E,f1,f2,f4,f5,f6,f9,Y];rfl,by simp,.inr ⟨_,_,_,rfl,?_⟩⟩;simp only[go_sem];rw[kL G hi Y]
   |false=>
    refine .inl ⟨_,by unfold BF at Y;simp only[go_sem,h0,J,O,S,hn,E,f1,f2,f3,f4,f5,f6,f9,Y];rfl,?_⟩;simp only[go_sem,h0,J,O,E];exact⟨hn,rfl,kJ G hi Y⟩) (by
   clear hL;rintro ⟨T,σ,nx⟩ ⟨hn,E,h0,J,O,S,hi⟩;simp only at O S;exact⟨_,by simp only[go_sem,O,S,zk];rfl,by simp,.inl ⟨_,_,_,rfl,kK fun i h=>hi i h h⟩⟩) (by
   simp only[go_sem];exact fun i _ h=>absurd h (zU _))
 rcases hr with ⟨T,σ,nx,rfl,J⟩|⟨T,σ,nx,rfl,J⟩
 .simp only[go_sem,J]
 .simp only[go_sem,J]
def CX(n:Nat)(m:TV.Move):Prop:=0<=m.fr/\m.fr<n/\0<=m.to/\m.to<n/\m.fr≠m.to
def AY(y:Yard):Prop:=y.stances.length<=6/\y.moves.length<=12/\(∀i (h:i<y.stances.length),BQ y.stances[i]=true/\ix (isNamed y.stances[i].name) y.stances=i)/\∀i (h:i<y.moves.length),CX y.stances.length y.moves[i]/\ix (BF y.moves[i]) y.moves=i
theorem ajB(s:Yard)(h:okYard s):fn Ze conv ext 7 [.agg (cYard s)]=some (Bo (pb (AY s))):=by
 have e2:(s.stances.length:Int)<=9223372036854775807:=by have:=h.1.2.1;omega
 have e3:(s.moves.length:Int)<=9223372036854775807:=by have:=h.2.1.2.1;omega
 rw[mW,nK [.tmp 2] [] func7]
 by_cases c1:(6:Int)<s.stances.length
 .rw[iM (fun hn=>by have:=hn.1;omega)]
  simp only[go_sem,c1]
 by_cases c2:(12:Int)<s.moves.length
 .rw[iM (fun hn=>by have:=hn.2.1;omega)]
  simp only[go_sem,c1,c2]
 simp only[go_sem,c1,c2];generalize hL:gI _ _=y;obtain⟨r,rfl,hr⟩:=pJ hL s.stances.length (fun k st=>0<st.nx/\st.σ 0=some ⟨cYard s,0,true⟩/\st.T 1= .rp 0 0/\st.T 20=LL cStance s.stances/\st.T 21=I s.stances.length/\st.T 22=I k/\st.T 3=I s.stances.length/\∀i (h:i<s.stances.length),i<k->BQ s.stances[i]=true/\ix (isNamed s.stances[i].name) s.stances=i)
  (fun r=>(∃T σ nx,r=(.exit 0,⟨T,σ,nx⟩)/\0<nx/\σ 0=some ⟨cYard s,0,true⟩/\T 1= .rp 0 0/\T 3=I s.stances.length/\∀i (h:i<s.stances.length),BQ s.stances[i]=true/\ix (isNamed s.stances[i].name) s.stances=i)\/(∃T σ nx,r=(.ret,⟨T,σ,nx⟩)/\T 2=Bo false/\¬AY s)) (by
   clear hL;rintro k ⟨T,σ,nx⟩ S ⟨hn,E,J,a6,a1,a7,h3,hi⟩;simp only at hn E J a6 a1 a7 h3;have f1:(k:Int)<(s.stances.length:Int):=by omega
   have f2:=jL k;have f3:=Zl (n:=(k:Int)+1);have f4:=MK s.stances k S;have f5:=Gi s.stances;have f6:k*5+5<=s.stances.length*5:=by omega
   have f9:=ML s.stances k S;have t1:=Jl s.stances[k] (h.1.1 _ (zu S));have t2:=Ru s s.stances[k].name h.1.2.2;have nz:¬0=nx:=by omega
   cases hj:BQ s.stances[k]with
   |false=>
    rw[hj]at t1;refine .inr ⟨_,by simp only[go_sem,J,a6,a1,a7,f1,f2,f4,f5,f6,f9,t1,nz];rfl,by simp,.inr ⟨_,_,_,rfl,?_,fun hn=>?_⟩⟩
    .simp only[go_sem]
    .have:=(hn.2.2.1 k S).1
     rw[hj]at this;cases this
   |true=>
    rw[hj]at t1
    by_cases hk:ix (isNamed s.stances[k].name) s.stances=k
    .rw[hk]at t2
     refine .inl ⟨_,by simp only[go_sem,J,a6,a1,a7,E,f1,f2,f3,f4,f5,f6,f9,t1,t2,nz];rfl,?_⟩;simp only[go_sem,J,a6,a1,E,nz,h3];refine⟨by omega,rfl,fun i b2 b3=>?_⟩;rcases yC (yA b3)with q|q
     .exact hi i b2 q
     .subst q;exact⟨hj,hk⟩
    .have b6:(ix (isNamed s.stances[k].name) s.stances !=(k:Int))=true:=by simpa using hk
     refine .inr ⟨_,by simp only[go_sem,J,a6,a1,a7,E,f1,f2,f4,f5,f6,f9,t1,t2,b6,nz];rfl,by simp,.inr ⟨_,_,_,rfl,?_,fun hn=>hk (hn.2.2.1 k S).2⟩⟩;simp only[go_sem]) (by
   clear hL;rintro ⟨T,σ,nx⟩ ⟨hn,E,J,a6,a1,a7,h3,hi⟩;simp only at hn E J a6 a1 a7 h3;exact⟨_,by simp only[go_sem,a1,a7,zk];rfl,by simp,.inl ⟨_,_,_,rfl,hn,E,by simp only[go_sem,J],by simp only[go_sem,h3],fun i h=>hi i h h⟩⟩) (by
   simp only[go_sem];exact fun i _ h=>absurd h (zU _))
 rcases hr with ⟨T,σ,nx,rfl,b7,E,J,h3,hj⟩|⟨T,σ,nx,rfl,h2,hn⟩
 .clear hL
  simp only[go_sem,E,J];generalize hL:gI _ _=y;obtain⟨r,rfl,hr⟩:=pJ hL s.moves.length (fun k st=>0<st.nx/\st.σ 0=some ⟨cYard s,0,true⟩/\st.T 1= .rp 0 0/\st.T 3=I s.stances.length/\st.T 40=LL cMove s.moves/\st.T 41=I s.moves.length/\st.T 42=I k/\∀i (h:i<s.moves.length),i<k->CX s.stances.length s.moves[i]/\ix (BF s.moves[i]) s.moves=i)
   (fun r=>(∃T σ nx,r=(.exit 2,⟨T,σ,nx⟩)/\∀i (h:i<s.moves.length),CX s.stances.length s.moves[i]/\ix (BF s.moves[i]) s.moves=i)\/(∃T σ nx,r=(.ret,⟨T,σ,nx⟩)/\T 2=Bo false/\¬AY s)) (by
    clear hL;rintro k ⟨T,σ,nx⟩ S ⟨hn,E,J,h5,Y,G,O,hi⟩;simp only at hn E J h5 Y G O;have f1:(k:Int)<(s.moves.length:Int):=by omega
    have f2:=jL k;have f3:=Zl (n:=(k:Int)+1);have f4:=ZP s.moves k S;have f5:=JX s.moves;have f6:k*2+2<=s.moves.length*2:=by omega
    have f9:=ZQ s.moves k S;have no:¬CX s.stances.length s.moves[k]->¬AY s:=fun hb hn=>hb (hn.2.2.2 k S).1
    have b5:¬ix (BF s.moves[k]) s.moves=k->¬AY s:=fun hb hn=>hb (hn.2.2.2 k S).2
    have done:CX s.stances.length s.moves[k]->ix (BF s.moves[k]) s.moves=k->∀i (h:i<s.moves.length),i<k+1->CX s.stances.length s.moves[i]/\ix (BF s.moves[i]) s.moves=i:=fun g1 g2 i b2 b3=>by
     rcases yC (yA b3)with q|q
     .exact hi i b2 q
     .subst q;exact⟨g1,g2⟩
    have nz:¬0=nx:=by omega
    have t1:=Pv s.moves s.moves[k] h.2.1.2.2;generalize b9:ix (BF s.moves[k]) s.moves=ii at t1 b5 done;obtain⟨m,b8⟩:∃m,m=s.moves[k]:=⟨_,rfl⟩;rw[<- b8]at f4 no done t1
    by_cases c1:m.fr<0
    .refine .inr ⟨_,by simp only[go_sem,J,h5,Y,G,O,E,f1,f2,f4,f5,f6,f9,nz,c1];rfl,by simp,.inr ⟨_,_,_,rfl,by simp only[go_sem],no fun hm=>?_⟩⟩
     have:=hm.1;omega
    by_cases c2:(s.stances.length:Int)<=m.fr
    .refine .inr ⟨_,by simp only[go_sem,J,h5,Y,G,O,E,f1,f2,f4,f5,f6,f9,nz,c1,c2];rfl,by simp,.inr ⟨_,_,_,rfl,by simp only[go_sem],no fun hm=>?_⟩⟩
     have:=hm.2.1;omega
    by_cases c3:m.to<0
    .refine .inr ⟨_,by simp only[go_sem,J,h5,Y,G,O,E,f1,f2,f4,f5,f6,f9,nz,c1,c2,c3];rfl,by simp,.inr ⟨_,_,_,rfl,by simp only[go_sem],no fun hm=>?_⟩⟩
     have:=hm.2.2.1;omega
    by_cases c4:(s.stances.length:Int)<=m.to
    .refine .inr ⟨_,by simp only[go_sem,J,h5,Y,G,O,E,f1,f2,f4,f5,f6,f9,nz,c1,c2,c3,c4];rfl,by simp,.inr ⟨_,_,_,rfl,by simp only[go_sem],no fun hm=>?_⟩⟩
     have:=hm.2.2.2.1;omega
    by_cases c5:m.fr=m.to
    .have a8:(m.fr==m.to)=true:=by simpa using c5
     exact .inr ⟨_,by simp only[go_sem,J,h5,Y,G,O,E,f1,f2,f4,f5,f6,f9,nz,c1,c2,c3,c4,a8];rfl,by simp,.inr ⟨_,_,_,rfl,by simp only[go_sem],no fun hm=>hm.2.2.2.2 c5⟩⟩
    have a8:(m.fr==m.to)=false:=by simpa using c5
    by_cases c6:ii=k
    .have b4:(ii !=(k:Int))=false:=by simpa using c6
     refine .inl ⟨_,by simp only[go_sem,J,h5,Y,G,O,E,f1,f2,f3,f4,f5,f6,f9,nz,c1,c2,c3,c4,a8,b4,t1];rfl,?_⟩;simp only[go_sem,J,h5,Y,G,E,nz];exact⟨by omega,rfl,done ⟨by omega,by omega,by omega,by omega,c5⟩ c6⟩
    .have b4:(ii !=(k:Int))=true:=by simpa using c6
     exact .inr ⟨_,by simp only[go_sem,J,h5,Y,G,O,E,f1,f2,f4,f5,f6,f9,nz,c1,c2,c3,c4,a8,b4,t1];rfl,by simp,.inr ⟨_,_,_,rfl,by simp only[go_sem],b5 c6⟩⟩) (by
    clear hL;rintro ⟨T,σ,nx⟩ ⟨hn,E,J,h5,Y,G,O,hi⟩;simp only at hn E J G O;exact⟨_,by simp only[go_sem,G,O,zk];rfl,by simp,.inl ⟨_,_,_,rfl,fun i h=>hi i h h⟩⟩) (by
    simp only[go_sem,J,E,h3];exact⟨b7,fun i _ h=>absurd h (zU _)⟩)
  rcases hr with ⟨T,σ,nx,rfl,hm⟩|⟨T,σ,nx,rfl,h2,hn⟩
  .have:AY s:=⟨by omega,by omega,hj,hm⟩
   simp only[go_sem,iL this]
  .simp only[go_sem,h2,iM hn]
 .simp only[go_sem,h2,iM hn]
theorem adC{α:Type}{p:α->Bool}{xs:List α}{k:Nat}(h:ix p xs=k)(i:Nat)(hi:i<xs.length)(E:i<k):p xs[i]=false:=by
 unfold ix at h
 split at h
 .have:i<xs.findIdx p:=by omega
  simpa using List.not_of_lt_findIdx this
 .omega
theorem ajC(s:Yard)(h:okYard s):fn Ze conv ext 8 [.agg (cYard s)]=some (Bo (pb (AY s))):=by
 have e2:(s.stances.length:Int)<=9223372036854775807:=by have:=h.1.2.1;omega
 have e3:(s.moves.length:Int)<=9223372036854775807:=by have:=h.2.1.2.1;omega
 rw[mW,nK [.tmp 2] [] func8]
 by_cases c1:(6:Int)<s.stances.length
 .rw[iM (fun hn=>by have:=hn.1;omega)]
  simp only[go_sem,c1]
 by_cases c2:(12:Int)<s.moves.length
 .rw[iM (fun hn=>by have:=hn.2.1;omega)]
  simp only[go_sem,c1,c2]
 simp only[go_sem,c1,c2];generalize hL:gI _ _=y;obtain⟨r,rfl,hr⟩:=pJ hL s.stances.length (fun k st=>0<st.nx/\st.σ 0=some ⟨cYard s,0,true⟩/\st.T 1= .rp 0 0/\st.T 21=LL cStance s.stances/\st.T 22=I s.stances.length/\st.T 23=I k/\∀i (h:i<s.stances.length),i<k->BQ s.stances[i]=true/\ix (isNamed s.stances[i].name) s.stances=i)
  (fun r=>(∃T σ nx,r=(.exit 0,⟨T,σ,nx⟩)/\0<nx/\σ 0=some ⟨cYard s,0,true⟩/\T 1= .rp 0 0/\∀i (h:i<s.stances.length),BQ s.stances[i]=true/\ix (isNamed s.stances[i].name) s.stances=i)\/(∃T σ nx,r=(.ret,⟨T,σ,nx⟩)/\T 2=Bo false/\¬AY s)) (by
   clear hL;rintro k ⟨T,σ,nx⟩ Y ⟨hn,E,S,a7,a6,a8,hi⟩;simp only at hn E S a7 a6 a8;have f1:(k:Int)<(s.stances.length:Int):=by omega
   have f2:=jL k;have f3:=Zl (n:=(k:Int)+1);have f4:=MK s.stances k Y;have f5:=Gi s.stances;have f6:k*5+5<=s.stances.length*5:=by omega
   have f9:=ML s.stances k Y;have t1:=Jm s.stances[k] (h.1.1 _ (zu Y));have t2:=Rx s s.stances[k].name h.1.2.2;have nz:¬0=nx:=by omega
   cases hj:BQ s.stances[k]with
   |false=>
    rw[hj]at t1;refine .inr ⟨_,by simp only[go_sem,S,a7,a6,a8,f1,f2,f4,f5,f6,f9,t1,nz];rfl,by simp,.inr ⟨_,_,_,rfl,?_,fun hn=>?_⟩⟩
    .simp only[go_sem]
    .have:=(hn.2.2.1 k Y).1
     rw[hj]at this;cases this
   |true=>
    rw[hj]at t1
    by_cases hk:ix (isNamed s.stances[k].name) s.stances=k
    .rw[hk]at t2
     refine .inl ⟨_,by simp only[go_sem,S,a7,a6,a8,E,f1,f2,f3,f4,f5,f6,f9,t1,t2,nz];rfl,?_⟩;simp only[go_sem,S,a7,a6,E,nz];refine⟨by omega,rfl,fun i a1 b2=>?_⟩;rcases yC (yA b2)with q|q
     .exact hi i a1 q
     .subst q;exact⟨hj,hk⟩
    .have c6:(ix (isNamed s.stances[k].name) s.stances !=(k:Int))=true:=by simpa using hk
     refine .inr ⟨_,by simp only[go_sem,S,a7,a6,a8,E,f1,f2,f4,f5,f6,f9,t1,t2,c6,nz];rfl,by simp,.inr ⟨_,_,_,rfl,?_,fun hn=>hk (hn.2.2.1 k Y).2⟩⟩;simp only[go_sem]) (by
   clear hL;rintro ⟨T,σ,nx⟩ ⟨hn,E,S,a7,a6,a8,hi⟩;simp only at hn E S a7 a6 a8;exact⟨_,by simp only[go_sem,a6,a8,zk];rfl,by simp,.inl ⟨_,_,_,rfl,hn,E,by simp only[go_sem,S],fun i h=>hi i h h⟩⟩) (by
   simp only[go_sem];exact fun i _ h=>absurd h (zU _))
 rcases hr with ⟨T,σ,nx,rfl,c7,E,S,hj⟩|⟨T,σ,nx,rfl,h2,hn⟩
 .clear hL
  have e4:=Zl (n:=(s.stances.length:Int) - 1);simp only[go_sem,E,S,e4];generalize hL:gI _ _=y;obtain⟨r,rfl,hr⟩:=pJ hL s.moves.length (fun k st=>0<st.nx/\st.σ 0=some ⟨cYard s,0,true⟩/\st.T 1= .rp 0 0/\st.T 5=I ((s.stances.length:Int) - 1)/\st.T 45=LL cMove s.moves/\st.T 46=I s.moves.length/\st.T 47=I k/\∀i (h:i<s.moves.length),i<k->CX s.stances.length s.moves[i]/\ix (BF s.moves[i]) s.moves=i)
   (fun r=>(∃T σ nx,r=(.exit 2,⟨T,σ,nx⟩)/\∀i (h:i<s.moves.length),CX s.stances.length s.moves[i]/\ix (BF s.moves[i]) s.moves=i)\/(∃T σ nx,r=(.ret,⟨T,σ,nx⟩)/\T 2=Bo false/\¬AY s)) (by
    clear hL;rintro k ⟨T,σ,nx⟩ Y ⟨hn,E,S,h5,O,G,J,hi⟩;simp only at hn E S h5 O G J;have f1:(k:Int)<(s.moves.length:Int):=by omega
    have f2:=jL k;have f3:=Zl (n:=(k:Int)+1);have f4:=ZP s.moves k Y;have f5:=JX s.moves;have f6:k*2+2<=s.moves.length*2:=by omega
    have f9:=ZQ s.moves k Y;have no:¬CX s.stances.length s.moves[k]->¬AY s:=fun hb hn=>hb (hn.2.2.2 k Y).1
    have c0:∀i (h:i<s.moves.length),i<k->BF s.moves[i] s.moves[k]=true->¬AY s:=fun i a1 b2 hb hn=>by
     have:=adC (hn.2.2.2 k Y).2 i a1 b2;rw[MQ,hb]at this;cases this
    have done:CX s.stances.length s.moves[k]->(∀i (h:i<s.moves.length),i<k->BF s.moves[i] s.moves[k]=false)->∀i (h:i<s.moves.length),i<k+1->CX s.stances.length s.moves[i]/\ix (BF s.moves[i]) s.moves=i:=fun g1 g2 i a1 b2=>by
     rcases yC (yA b2)with q|q
     .exact hi i a1 q
     .subst q
      exact⟨g1,kL a1 (fun j hj c8=>by rw[MQ];exact g2 j hj c8) (by unfold BF;simp)⟩
    have nz:¬0=nx:=by omega
    obtain⟨m,c9⟩:∃m,m=s.moves[k]:=⟨_,rfl⟩;rw[<- c9]at f4 no c0 done;have t1:=kE m.fr 0 ((s.stances.length:Int) - 1);have t2:=kE m.to 0 ((s.stances.length:Int) - 1);cases ha:inB m.fr 0 ((s.stances.length:Int) - 1)with
    |false=>
     rw[ha]at t1;refine .inr ⟨_,by simp only[go_sem,S,h5,O,G,J,E,f1,f2,f4,f5,f6,f9,nz,t1];rfl,by simp,.inr ⟨_,_,_,rfl,by simp only[go_sem],no fun hm=>?_⟩⟩;exact kT ha ⟨hm.1,by have:=hm.2.1;omega⟩
    |true=>
    rw[ha]at t1;cases hb:inB m.to 0 ((s.stances.length:Int) - 1)with
    |false=>
     rw[hb]at t2;refine .inr ⟨_,by simp only[go_sem,S,h5,O,G,J,E,f1,f2,f4,f5,f6,f9,nz,t1,t2];rfl,by simp,.inr ⟨_,_,_,rfl,by simp only[go_sem],no fun hm=>?_⟩⟩;exact kT hb ⟨hm.2.2.1,by have:=hm.2.2.2.1;omega⟩
    |true=>
    rw[hb]at t2
    by_cases c5:m.fr=m.to
    .have b7:(m.fr==m.to)=true:=by simpa using c5
     exact .inr ⟨_,by simp only[go_sem,S,h5,O,G,J,E,f1,f2,f4,f5,f6,f9,nz,t1,t2,b7];rfl,by simp,.inr ⟨_,_,_,rfl,by simp only[go_sem],no fun hm=>hm.2.2.2.2 c5⟩⟩
    have b7:(m.fr==m.to)=false:=by simpa using c5
    have qa:=kS ha;have qb:=kS hb;have c3:CX s.stances.length m:=⟨by omega,by omega,by omega,by omega,c5⟩;have g12:k<=s.moves.length:=by omega
    have g11:(s.moves.flatMap cMove).take (k*2)=(s.moves.take k).flatMap cMove:=by
     have e:=congrArg (fun l=>l.take (k*2)) (congrArg (fun l:List TV.Move=>l.flatMap cMove) (wQ k s.moves)).symm;simp only[zT]at e;rw[e,wu];rw[JX,zh,xY g12]
    refine cu ?_
    conv=>
     enter [1,x,1,1]
     simp only[go_sem,S,h5,O,G,J,E,f1,f2,f4,f5,f6,f9,nz,t1,t2,b7,g11,g12,Nat.sub_zero,vS]
    generalize hL:gI _ _=z;obtain⟨r,rfl,hr⟩:=pJ hL k (fun j st=>nx<st.nx/\st.σ 0=some ⟨cYard s,0,true⟩/\st.σ nx=some ⟨cMove m,0,true⟩/\st.T 1= .rp 0 0/\st.T 5=I ((s.stances.length:Int) - 1)/\st.T 7= .rp nx 0/\st.T 45=LL cMove s.moves/\st.T 46=I s.moves.length/\st.T 47=I k/\st.T 74= .ts ((s.moves.take k).flatMap cMove) k/\st.T 75=I k/\st.T 76=I j/\∀i (h:i<s.moves.length),i<j->BF s.moves[i] m=false)
     (fun r=>(∃T' σ' nx',r=(.exit 4,⟨T',σ',nx'⟩)/\0<nx'/\σ' 0=some ⟨cYard s,0,true⟩/\T' 1= .rp 0 0/\T' 5=I ((s.stances.length:Int) - 1)/\T' 45=LL cMove s.moves/\T' 46=I s.moves.length/\T' 47=I k/\∀i (h:i<s.moves.length),i<k->BF s.moves[i] m=false)\/(∃T' σ' nx',r=(.ret,⟨T',σ',nx'⟩)/\T' 2=Bo false/\¬AY s)) (by
      clear hL;rintro j ⟨T',σ',nx'⟩ e0 ⟨hn,E,b4,S,h5,h7,O,G,J,b5,b3,b6,b8⟩;simp only at hn E b4 S h5 h7 O G J b5 b3 b6;have hl:(s.moves.take k).length=k:=by rw[zh,xY g12]
      have f1:(j:Int)<(k:Int):=by omega
      have f2:=jL j;have f3:=Zl (n:=(j:Int)+1);have f4:=ZP (s.moves.take k) j (by omega);rw[uw]at f4;have f5:=JX (s.moves.take k);rw[hl]at f5;have f6:j*2+2<=k*2:=by omega
      have f9:=ZQ (s.moves.take k) j (by omega);have q1:¬nx=nx':=by omega
      have q2:¬0=nx':=by omega
      have e1:j<s.moves.length:=by omega
      cases hp:BF s.moves[j] m with
      |true=>
       have b9:=hp;unfold BF at hp;exact .inr ⟨_,by simp only[go_sem,S,h5,h7,O,G,J,b5,b3,b6,E,b4,f1,f2,f4,f5,f6,f9,q1,q2,hp];rfl,by simp,.inr ⟨_,_,_,rfl,by simp only[go_sem],c0 j e1 e0 b9⟩⟩
      |false=>
       have b9:=hp;unfold BF at hp;refine .inl ⟨_,by simp only[go_sem,S,h5,h7,O,G,J,b5,b3,b6,E,b4,f1,f2,f3,f4,f5,f6,f9,q1,q2,hp];rfl,?_⟩;simp only[go_sem,S,h5,h7,O,G,J,b5,b3,E,b4,q1,q2];refine⟨by omega,rfl,fun i a1 b2=>?_⟩;rcases yC (yA b2)with q|q
       .exact b8 i a1 q
       .subst q;exact b9) (by
      clear hL;rintro ⟨T',σ',nx'⟩ ⟨hn,E,b4,S,h5,h7,O,G,J,b5,b3,b6,b8⟩;simp only at hn E b4 S h5 h7 O G J b5 b3 b6;refine⟨_,by simp only[go_sem,b3,b6,zk];rfl,by simp,.inl ⟨_,_,_,rfl,by omega,E,?_,?_,?_,?_,?_,b8⟩⟩<;>simp only[go_sem,S,h5,O,G,J]) (by
      simp only[go_sem,S,h5,O,G,J,E,nz];exact⟨by omega,fun i _ h=>absurd h (zU _)⟩)
    rcases hr with ⟨T',σ',nx',rfl,e5,e6,e7,e8,e9,h0,c4,a1⟩|⟨T',σ',nx',rfl,h3,h4⟩
    .refine⟨_,by simp only[go_sem,c4,f3];rfl,.inl ⟨_,rfl,?_⟩⟩
     simp only[go_sem,e7,e8,e9,h0,e6];exact⟨e5,rfl,done c3 a1⟩
    .exact⟨_,by simp only[go_sem];rfl,.inr ⟨by simp,.inr ⟨_,_,_,rfl,h3,h4⟩⟩⟩) (by
    clear hL;rintro ⟨T,σ,nx⟩ ⟨hn,E,S,h5,O,G,J,hi⟩;simp only at hn E S G J;exact⟨_,by simp only[go_sem,G,J,zk];rfl,by simp,.inl ⟨_,_,_,rfl,fun i h=>hi i h h⟩⟩) (by
    simp only[go_sem,S,E];exact⟨c7,fun i _ h=>absurd h (zU _)⟩)
  rcases hr with ⟨T,σ,nx,rfl,hm⟩|⟨T,σ,nx,rfl,h2,hn⟩
  .have:AY s:=⟨by omega,by omega,hj,hm⟩
   simp only[go_sem,iL this]
  .simp only[go_sem,h2,iM hn]
 .simp only[go_sem,h2,iM hn]
def dg(n:Nat):List Int:=if n=0 then []else((n%1000000000:Nat):Int) :: dg (n / 1000000000)
termination_by n
decreasing_by exact tq (by omega) (by decide)
theorem oQ:dg 0=[]:=by unfold dg;rfl
theorem oV{n:Nat}(h:n≠0):dg n=((n%1000000000:Nat):Int) :: dg (n / 1000000000):=by rw[dg,su h]
theorem aa'{k m n:Nat}(h:1000000000^k*m<=n)(hm:1<=m)(hn:n<=18446744073709551615):k<=2:=by
 rcases Nat.lt_or_ge k 3 with E|E
 .omega
 .have:=Nat.pow_le_pow_right (n:=1000000000) (by decide) E
  have G:1000000000^k*1<=1000000000^k*m:=uF _ hm;have J:(1000000000:Nat)^3=1000000000000000000000000000:=by decide
  omega
theorem MR(n:Nat)(hn:n<=9223372036854775807):fn Ze conv ext 250 [I n]=some (LI (dg n)):=by
 rw[mW,nK [.tmp 2] [] func250];simp only[go_sem];generalize hL:gI _ _=y;obtain⟨r,rfl,T',σ',nx',rfl,hr⟩:=je hL (fun m st=>st.T 0=I m/\∃acc,Grow st.T st.σ st.nx 3 acc/\dg n=acc++dg m/\1000000000^acc.length*m<=n)
  (fun r=>∃T σ nx,r=(.exit 0,⟨T,σ,nx⟩)/\Grow T σ nx 3 (dg n)) (by
   clear hL;rintro m ⟨T,σ,nx⟩ ⟨G,acc,E,J,O⟩;simp only at G E
   by_cases hm:m=0
   .subst hm
    have f0:¬(0:Int)<0:=by omega
    refine .inr ⟨_,by simp only[go_sem,G,f0];rfl,by simp,_,_,_,rfl,?_⟩;rw[oQ,zM]at J;rw[J]
    simpa only[Grow,go_sem]using E
   .have f0:(0:Int)<(m:Int):=by omega
    have hk:=aa' O (by omega) (by omega);have a6:m<=n:=zL (tN _ (Nat.pow_pos (by decide))) O;have f1:(m:Int).tmod 1000000000=((m%1000000000:Nat):Int):=by rw[xM (by omega)];omega
    have f2:IntKind.i64.wrap ((m:Int).tdiv 1000000000)=((m / 1000000000:Nat):Int):=by
     rw[yQ (by omega)];rw[Zl];omega
    have S:dg n=(acc++[((m%1000000000:Nat):Int)])++dg (m / 1000000000):=by rw[J,oV hm];simp
    have Y:1000000000^(acc++[((m%1000000000:Nat):Int)]).length*(m / 1000000000)<=n:=by
     rw[zl,yH,vB,vM];exact zL (uF _ (Nat.mul_div_le _ _)) O
    have a1:m / 1000000000<m:=tq (by omega) (by decide);obtain⟨σ',ha,hs⟩:=lC E ((m%1000000000:Nat):Int) (by omega);refine .inl ⟨_,by simp only[go_sem,G,f0,f1,f2,ha];rfl,_,a1,?_,_,?_,S,Y⟩
    .simp only[go_sem]
    .exact kZ hs (by simp[go_sem]) (by simp)) n ⟨by simp only[go_sem],[],.inl ⟨by simp only[go_sem],rfl⟩,rfl,by simp⟩
 obtain⟨ids,h1⟩:=kY hr 6;simp only[go_sem,h1]
def Short(xs:List Int):Prop:=xs.length<=17592186044000
theorem idx{xs:List Int}{k:Nat}(h:k<xs.length):(xs.flatMap cI)[k]?=some (I xs[k]):=dR I xs k h
theorem qU(xs:List Int)(k:Nat):(xs.flatMap cI).take k=(xs.take k).flatMap cI:=by
 induction xs generalizing k with
 |nil=>simp
 |cons x xs E=>
  cases k with
  |zero=>rfl
  |succ k=>simp[E]
def AZ(a:List Int):List Int:=(a.reverse.dropWhile (·=0)).reverse
theorem aN(a:List Int)(x:Int):AZ (a++[x])=if x=0 then AZ a else a++[x]:=by
 unfold AZ;simp only[List.reverse_append,List.reverse_cons,List.reverse_nil,yL,List.singleton_append,List.dropWhile_cons,decide_eq_true_eq]
 split<;>simp
theorem aZ{a:List Int}{k:Nat}(h:k<a.length):a.take (k+1)=a.take k++[a[k]]:=by rw[yN,zy h];rfl
theorem cO(a:List Int)(ha:Short a):fn Ze conv ext 249 [LI a]=some (LI (AZ a)):=by
 unfold Short at ha;rw[mW,nK [.tmp 2] [] func249];simp only[go_sem];generalize hL:gI _ _=y;obtain⟨r,rfl,T',k,rfl,E,J,S,O⟩:=je hL (fun k st=>st.nx=0/\st.σ=lI/\st.T 0=LI a/\st.T 3=I k/\k<=a.length/\AZ a=AZ (a.take k))
  (fun r=>∃T k,r=(.exit 0,⟨T,lI,0⟩)/\T 0=LI a/\T 3=I (k:Nat)/\k<=a.length/\AZ a=a.take k) (by
   clear hL;rintro k ⟨T,σ,nx⟩ ⟨hn,Y,E,J,S,O⟩;simp only at hn Y E J;subst hn Y;cases k with
   |zero=>
    have f0:¬(0:Int)<0:=by omega
    refine .inr ⟨_,by simp only[go_sem,E,J,f0];rfl,by simp,_,0,rfl,by simp only[go_sem,E],by simp only[go_sem,J],S,?_⟩;rw[O];rfl
   |succ k=>
    have G:k<a.length:=by omega
    have f0:(0:Int)<((k+1:Nat):Int):=by omega
    have f1:=Zl (n:=((k+1:Nat):Int) - 1);have f2:((k+1:Nat):Int) - 1=(k:Int):=by omega
    have f3:(k:Int)<(a.length:Int):=by omega
    have f4:=jL k;have f5:=Aw a k G;have f6:=idx G;rw[f2]at f1;rw[aZ G,aN]at O
    by_cases hx:a[k]=0
    .have fx:(a[k]==(0:Int))=true:=by simpa using hx
     rw[sZ hx]at O;refine .inl ⟨_,by simp only[go_sem,E,J,f0,f1,f2,f3,f4,f5,f6,fx];rfl,k,by omega,?_⟩;simp only[go_sem,E];exact⟨by omega,O⟩
    .have fx:(a[k]==(0:Int))=false:=by simpa using hx
     rw[su hx]at O;refine .inr ⟨_,by simp only[go_sem,E,J,f0,f1,f2,f3,f4,f5,f6,fx];rfl,by simp,_,k+1,rfl,by simp only[go_sem,E],by simp only[go_sem,J],S,?_⟩;rw[O,aZ G]) a.length ⟨rfl,rfl,by simp only[go_sem],by simp only[go_sem],zq _,by rw[yZ]⟩
 have g1:=jL k;have g2:(a.take k).length=k:=by rw[zh,xY S]
 simp only[go_sem,E,J,g1,S,vS,qU,O];show _=some (V.ts _ (List.take k a).length);rw[g2]
theorem scap(a:List Int)(E:Short a)(h:(AZ a).length<=60):fn Ze conv ext 248 [LI a]=some (LI (AZ a)):=by
 have G:=cO a E;have J:¬(60:Int)<((AZ a).length:Int):=by omega
 rw[mW,nK [.tmp 2] [] func248];simp only[go_sem,G,J]
theorem ajD(a:List Int):(AZ a).length<=a.length:=by
 unfold AZ;rw[List.length_reverse];exact zL (List.dropWhile_suffix _).length_le (by rw[List.length_reverse];exact zq _)
theorem af5(neg:Bool)(a:List Int)(G:Short a)(h:(AZ a).length<=60):fn Ze conv ext 196 [Bo neg,LI a]=some (.agg [Bo (neg && decide (0<(AZ a).length)),LI (AZ a)]):=by
 have E:=scap a G h;rw[mW,nK [.cell 4 159] [] func196];generalize AZ a=m at *;cases m with
 |nil=>cases neg<;>simp only[go_sem,E]<;>rfl
 |cons x m=>
  have J:(m.length+1)<=maxLen/\(m.length+1)*8<=140737488355328:=by simp only[zB]at h;unfold maxLen;omega
  have O:¬(m.length+1=0):=by omega
  have S:(0:Int)<((m.length+1:Nat):Int):=by omega
  have Y:0<m.length+1:=by omega
  cases neg<;>simp only[go_sem,E,J,O,S,Y]<;>rfl
theorem aQ(d:Int)(xs:List Int):AZ (d :: xs)=if AZ xs=[]then(if d=0 then []else [d])else d :: AZ xs:=by
 unfold AZ;rw[List.reverse_cons,List.dropWhile_append]
 by_cases h:(xs.reverse.dropWhile fun x=>decide (x=0))=[]
 .rw[h]
  simp only[List.isEmpty_nil,if_true,List.reverse_nil,List.dropWhile_cons,List.dropWhile_nil,decide_eq_true_eq]
  split<;>simp_all
 .rw[su (by simpa using h),su (by simpa using h)]
  simp
theorem oZ{n:Nat}(h:n≠0):dg n≠[]:=by rw[oV h];simp
theorem aP(n:Nat):AZ (dg n)=dg n:=by
 induction n using Nat.strongRecOn with
 |_ n G=>
  by_cases h:n=0
  .subst h;rw[oQ];rfl
  .rw[oV h,aQ,G _ (tq (by omega) (by decide))]
   by_cases E:n / 1000000000=0
   .rw[E,oQ,sZ rfl,su (by omega)]
   .rw[su (oZ E)]
theorem ZU(k:Nat):∀n:Nat,n<1000000000^k->(dg n).length<=k:=by
 induction k with
 |zero=>intro n h;have:n=0:=by simpa using h
        subst this;rw[oQ];exact zq _
 |succ k G=>
  intro n h
  by_cases E:n=0
  .subst E;rw[oQ];exact vS _
  .rw[oV E,zB]
   have:n / 1000000000<1000000000^k:=Nat.div_lt_of_lt_mul (by rw[vB,wW]at h;exact h);have:=G _ this;omega
theorem oS{n:Nat}(h:n<=9223372036854775807):(dg n).length<=3:=ZU 3 n (by omega)
theorem ZV(n:Nat):∀x∈dg n,0<=x/\x<=999999999:=by
 induction n using Nat.strongRecOn with
 |_ n G=>
  intro x E
  by_cases h:n=0
  .subst h;rw[oQ]at E;cases E
  .rw[oV h]at E
   rcases List.mem_cons.mp E with rfl|E
   .omega
   .exact G _ (tq (by omega) (by decide)) x E
def Cb(a:List Int):Prop:=(∀x∈a,inB x 0 999999999=true)/\a.length<=60/\AZ a=a
theorem ZW{n:Nat}(h:n<=9223372036854775807):Cb (dg n) :=
 ⟨fun x E=>by have:=ZV n x E;unfold inB;rw[sS this.1,sS this.2];rfl,by have:=oS h;omega,aP n⟩
theorem Jo{a:List Int}(h:a≠[]):AZ a=a↔a[a.length-1]'(by have:=List.length_pos_iff.mpr h;omega)≠0:=by
 rcases List.eq_nil_or_concat a with rfl|⟨b,x,e⟩
 .exact absurd rfl h
 .rw[List.concat_eq_append]at e
  subst e;rw[aN];have:(b++[x])[(b++[x]).length-1]'(by simp)=x:=by simp
  rw[this]
  by_cases E:x=0
  .rw[sZ E]
   refine⟨fun e=>?_,fun e=>absurd E e⟩;have:=congrArg List.length e;have G:=ajD b;rw[zl,yH]at this;omega
  .rw[su E];exact⟨fun _=>E,fun _=>rfl⟩
theorem Rz(a:List Int)(ha:Short a):fn Ze conv ext 233 [LI a]=some (Bo (pb (Cb a))):=by
 unfold Short at ha;rw[mW,nK [.tmp 2] [] func233];simp only[go_sem];generalize hL:gI _ _=y;obtain⟨r,rfl,hr⟩:=pJ hL a.length (fun k st=>st.nx=0/\st.σ=lI/\st.T 0=LI a/\st.T 5=LI a/\st.T 6=I a.length/\st.T 7=I k/\∀i (h:i<a.length),i<k->inB a[i] 0 999999999=true)
  (fun r=>(∃T,r=(.exit 0,⟨T,lI,0⟩)/\T 0=LI a/\∀x∈a,inB x 0 999999999=true)\/(∃T,r=(.ret,⟨T,lI,0⟩)/\T 2=Bo false/\¬Cb a)) (by
   clear hL;rintro k ⟨T,σ,nx⟩ a1 ⟨hn,O,S,G,E,J,hi⟩;simp only at hn O S G E J;subst hn O;have f1:(k:Int)<(a.length:Int):=by omega
   have f2:=jL k;have f3:=Zl (n:=(k:Int)+1);have f4:=idx a1;have f9:=Aw a k a1;have t1:=kE a[k] 0 999999999;cases hb:inB a[k] 0 999999999 with
   |true=>
    rw[hb]at t1;refine .inl ⟨_,by simp only[go_sem,S,G,E,J,f1,f2,f3,f4,f9,t1];rfl,?_⟩;simp only[go_sem,S,G,E];refine⟨rfl,fun i Y a7=>?_⟩;rcases yC (yA a7)with q|q
    .exact hi i Y q
    .subst q;exact hb
   |false=>
    rw[hb]at t1;refine .inr ⟨_,by simp only[go_sem,G,E,J,f1,f2,f4,f9,t1];rfl,by simp,.inr ⟨_,rfl,by simp only[go_sem],fun hn=>?_⟩⟩;have:=hn.1 _ (zu a1);rw[hb]at this;cases this) (by
   clear hL;rintro ⟨T,σ,nx⟩ ⟨hn,O,S,G,E,J,hi⟩;simp only at hn O S G E J;subst hn O;exact⟨_,by simp only[go_sem,E,J,zk];rfl,by simp,.inl ⟨_,rfl,by simp only[go_sem,S],fun x hx=>by obtain⟨i,Y,rfl⟩:=yV hx;exact hi i Y Y⟩⟩) (by
   simp only[go_sem];exact fun i _ h=>absurd h (zU _))
 rcases hr with ⟨T,rfl,S,hm⟩|⟨T,rfl,h2,hn⟩
 .by_cases hl:(a.length:Int)<=60
  .by_cases hz:a=[]
   .subst hz
    have:Cb []:=⟨by simp,by simp,rfl⟩;have a8:(0:Int)<=60:=by decide
    simp only[go_sem,S,iL this,a8]
   .have b2:((a.length:Int)==0)=false:=by simpa using hz
    have a6:0<a.length:=List.length_pos_iff.mpr hz;have f1:=Zl (n:=(a.length:Int) - 1);have f2:(0:Int)<=(a.length:Int) - 1:=by omega
    have f3:(a.length:Int) - 1<(a.length:Int):=by omega
    have f4:((a.length:Int) - 1).toNat=a.length-1:=by omega
    have f5:=idx (xs:=a) (k:=a.length-1) (by omega);have f9:=Aw a 0 a6;have hg:pb (Cb a)=(a[a.length-1] !=0):=by
     refine(Pn ?_).symm;rw[bne_iff_ne,<- Jo hz];exact⟨fun h=>⟨hm,by omega,h⟩,fun h=>h.2.2⟩
    rw[hg];simp only[go_sem,S,hl,b2,f1,f2,f3,f4,f5,f9]
  .rw[iM (fun hn:Cb a=>hl (by have:=hn.2.1;omega))]
   simp only[go_sem,S,hl]
 .simp only[go_sem,h2,iM hn]
theorem Px(neg:Bool)(a:List Int)(G:Short a):fn Ze conv ext 232 [.agg [Bo neg,LI a]]=some (Bo (pb (Cb a) && (!neg||decide (0<a.length)))):=by
 have J:=Rz a G;rw[mW,nK [.tmp 2] [] func232];generalize pb (Cb a)=b at *;cases b<;>cases neg<;>simp only[go_sem,J]
 by_cases h:0<a.length
 .have E:(0:Int)<(a.length:Int):=by omega
  simp only[h,E]
 .have E:¬(0:Int)<(a.length:Int):=by omega
  simp only[h,E]
theorem ari(a:List Int)(J:Short a):fn Ze conv ext 234 [LI a]=some (Bo (decide (a=[1]))):=by
 unfold Short at J;have G:(0:Int)<1:=by decide
 have z2:(0:Int)<=0:=by decide
 have z3:(0:Int).toNat=0:=id rfl;rw[mW,nK [.tmp 2] [] func234]
 match a with
 |[]=>(simp only[go_sem])<;>rfl
 |[x]=>
  by_cases E:x=1
  .subst E;(simp only[go_sem,G,z2,z3])<;>rfl
  .have:(x==(1:Int))=false:=by simpa using E
   simp only[go_sem,this,G,z2,z3];simp[E]
 |x :: y :: l=>
  have:(((l.length+1+1:Nat):Int)==1)=false:=by rw[sW];omega
  simp only[go_sem,this];simp
theorem RD(n j:Nat):(dg n).drop j=dg (n / 1000000000^j):=by
 induction j generalizing n with
 |zero=>simp
 |succ j E=>
  by_cases h:n=0
  .subst h;rw[Nat.zero_div,oQ];rfl
  .rw[oV h,List.drop_succ_cons,E,xE,vB,wW]
theorem oh{n j:Nat}(h:j<(dg n).length):(dg n)[j]=((n / 1000000000^j%1000000000:Nat):Int):=by
 have E:=yU h;rw[RD]at E;have G:n / 1000000000^j≠0:=fun e=>by rw[e,oQ]at E;cases E
 rw[oV G]at E;exact(List.cons.inj E).1.symm
theorem ou(n:Nat):n / 1000000000^(dg n).length=0:=by
 have h:=RD n (dg n).length;rw[List.drop_length]at h;exact zf fun hn=>oZ hn h.symm
theorem oU(n j:Nat):n / 1000000000^(j+1)*1000000000+n / 1000000000^j%1000000000=n / 1000000000^j:=by
 rw[vB,<- xE];omega
theorem VN{n:Nat}(h:n<=9223372036854775807):Short (dg n):=by have:=oS h;unfold Short;omega
theorem ajE(a b:List Int)(h:a.length<b.length)(hb:Short b):fn Ze conv ext 247 [LI a,LI b]=some (I (-1)):=by
 unfold Short at hb;have c1:((a.length:Int) !=(b.length:Int))=true:=by rw[bne_iff_ne];omega
 have E:(a.length:Int)<(b.length:Int):=by omega
 rw[mW,nK [.tmp 4] [] func247];simp only[go_sem,c1,E]
theorem Py(n:Nat)(hn:n<1000000000000000000):fn Ze conv ext 276 [LI (dg n)]=some (.Au [I n,Bo true]):=by
 have hs:=VN (n:=n) (by omega);have Y:=Rz (dg n) hs;rw[iL (ZW (by omega))]at Y;have a1:(dg n).length<=2:=ZU 2 n (by omega);have h2:fn Ze conv ext 247 [LI (dg n),.ts [I 854775807,I 223372036,I 9] 3]=some (I (-1)):=ajE (dg n) [854775807,223372036,9] (by simp;omega) (by unfold Short;simp)
 have c0:¬(0:Int)< -1:=by decide
 have e1:=Zl (n:=((dg n).length:Int) - 1);rw[mW,nK [.tmp 2,.tmp 3] [] func276];simp only[go_sem,Y,h2,c0,e1];generalize hL:gI _ _=y;obtain⟨r,rfl,T',σ',nx',rfl,G⟩:=je hL (fun m st=>st.T 0=LI (dg n)/\st.T 5=I ((m:Int) - 1)/\st.T 4=I (n / 1000000000^m:Nat)/\m<=(dg n).length)
  (fun r=>∃T σ nx,r=(.exit 0,⟨T,σ,nx⟩)/\T 4=I n) (by
   clear hL;rintro m ⟨T,σ,nx⟩ ⟨J,O,G,hm⟩;simp only at J O G;cases m with
   |zero=>
    have f0:¬(0:Int)<=((0:Nat):Int) - 1:=by omega
    have S:¬(0:Int)<=0-1:=by omega
    rw[Nat.pow_zero,xC]at G;exact .inr ⟨_,by simp only[go_sem,J,O,f0,S];rfl,by simp,_,_,_,rfl,by simp only[go_sem,G]⟩
   |succ m=>
    have E:m<(dg n).length:=by omega
    have e5:((m+1:Nat):Int) - 1=(m:Int):=by omega
    rw[e5]at O;have f0:=jL m;have f3:(m:Int)<((dg n).length:Int):=by omega
    have f5:=Aw (dg n) m E;have f6:=idx E;rw[oh E]at f6;have hd:=oU n m;have hle:n / 1000000000^m<=n:=xP _ _;generalize n / 1000000000^(m+1)=u at *;generalize hw:n / 1000000000^m=w at *;have f7:=Zl (n:=(m:Int) - 1);have f8:=Zl (n:=(u:Int)*1000000000);have f9:=Zl (n:=(u:Int)*1000000000+((w%1000000000:Nat):Int));refine .inl ⟨_,by simp only[go_sem,J,O,G,f0,f3,f5,f6,f7,f8,f9];rfl,m,by omega,?_⟩;simp only[go_sem,J];refine⟨?_,by omega⟩;congr 3;omega) (dg n).length ⟨by simp only[go_sem],by simp only[go_sem],by simp only[go_sem,ou],zq _⟩
 simp only[go_sem,G]
theorem am7(x y:Nat)(hx:x<=9223372036854775807)(hy:y<=9223372036854775807):fn Ze conv ext 277 [I x,I y]=some (LI (dg (Nat.gcd x y))):=by
 rw[mW,nK [.tmp 4] [] func277];simp only[go_sem];generalize hL:gI _ _=w;obtain⟨r,rfl,T',rfl,E⟩:=je hL (fun b st=>st.nx=0/\st.σ=lI/\∃a:Nat,st.T 0=I a/\st.T 1=I b/\a<=9223372036854775807/\b<=9223372036854775807/\Nat.gcd a b=Nat.gcd x y)
  (fun r=>∃T,r=(.exit 0,⟨T,lI,0⟩)/\T 0=I (Nat.gcd x y:Nat)) (by
   clear hL;rintro b ⟨T,σ,nx⟩ ⟨hn,G,a,E,J,ha,hb,O⟩;simp only at hn G E J;subst hn G;cases b with
   |zero=>
    have f0:¬(0:Int)<0:=by omega
    refine .inr ⟨_,by simp only[go_sem,E,J,f0];rfl,by simp,_,rfl,?_⟩;rw[Nat.gcd_zero_right]at O;simp only[go_sem,E,O]
   |succ b=>
    have f0:(0:Int)<((b+1:Nat):Int):=by omega
    have f1:¬((b+1:Nat):Int)=0:=by omega
    have f2:(a:Int).tmod ((b+1:Nat):Int)=((a%(b+1):Nat):Int):=by rw[xM (by omega)];rfl
    have S:a%(b+1)<b+1:=vk a (Nat.succ_pos b);refine .inl ⟨_,by simp only[go_sem,E,J,f0,f1,f2];rfl,a%(b+1),S,?_⟩;simp only[go_sem];refine⟨b+1,rfl,hb,by omega,?_⟩;rw[<- O,Nat.gcd_comm a (b+1),Nat.gcd_rec (b+1) a,Nat.gcd_comm]) y ⟨rfl,rfl,x,by simp only[go_sem],by simp only[go_sem],hx,hy,rfl⟩
 have Y:Nat.gcd x y<=9223372036854775807:=by
  rcases Nat.eq_zero_or_pos x with h|h
  .subst h;rw[Nat.gcd_zero_left];exact hy
  .exact zL (Nat.gcd_le_left _ h) hx
 have h3:=MR (Nat.gcd x y) Y;simp only[go_sem,E,h3]
theorem rM{xs:List Int}(h:xs≠[]):¬xs.length=0:=fun e=>h (zZ e)
def pad(n k:Nat):List Int:=(List.range k).map fun j=>((n / 1000000000^j%1000000000:Nat):Int)
theorem iV(n k:Nat):(pad n k).length=k:=by simp[pad]
theorem ajG(n k j:Nat)(h:j<(pad n k).length):(pad n k)[j]=((n / 1000000000^j%1000000000:Nat):Int):=by simp[pad]
theorem af6(n k:Nat):pad n (k+1)=((n%1000000000:Nat):Int) :: pad (n / 1000000000) k:=by
 unfold pad;rw[List.range_succ_eq_map,x9,List.map_map];congr 1
 .rw[Nat.pow_zero,xC]
 .refine xO fun j _=>?_
  show(((n / 1000000000^(j+1)%1000000000:Nat)):Int)=_;rw[xE,vB,wW]
theorem H_(k:Nat):∀n:Nat,n<1000000000^k->AZ (pad n k)=dg n:=by
 induction k with
 |zero=>
  intro n h;have:n=0:=by simpa using h
  subst this;rw[oQ];rfl
 |succ k J=>
  intro n h;have:n / 1000000000<1000000000^k:=Nat.div_lt_of_lt_mul (by rw[vB,wW]at h;exact h);rw[af6,aQ,J _ this]
  by_cases E:n=0
  .subst E
   rw[Nat.zero_div,oQ,sZ rfl,sZ (by decide)]
  .rw[oV E]
   by_cases G:n / 1000000000=0
   .rw[G,oQ,sZ rfl,su (by omega)]
   .rw[su (oZ G)]
theorem KR(j:Nat)(z v:V)(r:List V):(rep (j+1) [z]++r).set j v=rep j [z]++v :: r:=by
 induction j with
 |zero=>rfl
 |succ j E=>
  have G:rep (j+1+1) [z]=z :: rep (j+1) [z]:=gV _ _;have J:rep (j+1) [z]=z :: rep j [z]:=gV _ _;rw[G];show z :: ((rep (j+1) [z]++r).set j v)=rep (j+1) [z]++v :: r;rw[E,J];rfl
theorem VO{n k m:Nat}(h:m<k):(pad n k).drop m=((n / 1000000000^m%1000000000:Nat):Int) :: (pad n k).drop (m+1):=by
 rw[yU (by rw[iV];exact h),ajG]
theorem ajH(n d:Nat)(hl:(dg n).length<=1000000)(h0:d≠0)(hd:d<1000000000):fn Ze conv ext 292 [LI (dg n),I d]=some (.Au [LI (dg (n / d)),I (n%d:Nat)]):=by
 have e1:(8:Int)*((dg n).length:Int)<=281474976710656:=by omega
 have e2:((dg n).length:Int)<=9223372036854775807:=by omega
 have e3:(0:Int)<=((dg n).length:Int):=by omega
 have e4:=Zl (n:=((dg n).length:Int) - 1);have Y:=cO (pad (n / d) (dg n).length) (by unfold Short;rw[iV];omega);rw[H_]at Y;rw[mW,nK [.tmp 4,.tmp 5] [] func292];simp only[go_sem,e1,e2,e3,e4];generalize hL:gI _ _=y;obtain⟨r,rfl,T',σ',nx',rfl,h6,h7,E⟩:=je hL (fun m st=>st.T 0=LI (dg n)/\st.T 1=I d/\st.T 6= .rs 0 0 (dg n).length/\st.T 8=I ((m:Int) - 1)/\st.T 7=I (n / 1000000000^m%d:Nat)/\m<=(dg n).length/\st.σ 0=some ⟨rep m [I 0]++((pad (n / d) (dg n).length).drop m).flatMap cI,1,true⟩)
  (fun r=>∃T σ nx,r=(.exit 0,⟨T,σ,nx⟩)/\T 6= .rs 0 0 (dg n).length/\T 7=I (n%d:Nat)/\σ 0=some ⟨(pad (n / d) (dg n).length).flatMap cI,1,true⟩) (by
   clear hL;rintro m ⟨T,σ,nx⟩ ⟨t0,t1,t6,t8,t7,hm,E⟩;simp only at t0 t1 t6 t8 t7 E;cases m with
   |zero=>
    have a1:¬(0:Int)<=0-1:=by omega
    rw[Nat.pow_zero,xC]at t7;refine .inr ⟨_,by simp only[go_sem,t8,a1];rfl,by simp,_,_,_,rfl,by simp only[go_sem,t6],by simp only[go_sem,t7],?_⟩;rw[E,yw];rfl
   |succ m=>
    have G:m<(dg n).length:=by omega
    have e5:((m+1:Nat):Int) - 1=(m:Int):=by omega
    rw[e5]at t8;have f0:=jL m;have f3:(m:Int)<((dg n).length:Int):=by omega
    have f5:=Aw (dg n) m G;have f6:=idx G;rw[oh G]at f6;have a6:=oU n m;have J:=VO (n:=n / d) (k:=(dg n).length) G;have hq:n / d / 1000000000^m=n / 1000000000^m / d:=by rw[xE,xE,wW]
    rw[hq]at J;have hle:n / 1000000000^m<=n:=xP _ _;obtain⟨u,hu⟩:∃u,n / 1000000000^(m+1)=u:=⟨_,rfl⟩;obtain⟨w,O⟩:∃w,n / 1000000000^m=w:=⟨_,rfl⟩;rw[hu]at t7;rw[hu,O]at a6;rw[O]at f6 J hle;have hw:w%1000000000<1000000000:=vk _ (by decide);have hr:u%d<d:=vk _ (by omega);have hx:u%d*1000000000+w%1000000000<d*1000000000:=by omega
    have S:w=d*1000000000*(u / d)+(u%d*1000000000+w%1000000000):=by
     have:=Nat.div_add_mod u d;have h3:d*(u / d)*1000000000=d*1000000000*(u / d):=by rw[Nat.mul_right_comm]
     omega
    obtain⟨x,a7⟩:∃x,u%d*1000000000+w%1000000000=x:=⟨_,rfl⟩;rw[a7]at S hx;have a8:w / d%1000000000=x / d:=by
     have h1:w / d=1000000000*(u / d)+x / d:=by
      rw[S,vM,wV,Nat.add_mul_div_left _ _ (by omega),wV]
     have h2:x / d<1000000000:=Nat.div_lt_of_lt_mul hx;rw[h1];generalize x / d=q at h2⊢;generalize u / d=p;omega
    have b2:w%d=x%d:=by
     rw[S,vM,wV,Nat.add_mul_mod_self_left]
    have f7:=Zl (n:=(m:Int) - 1);have f8:=Zl (n:=((u%d:Nat):Int)*1000000000);have g9:((u%d:Nat):Int)*1000000000+((w%1000000000:Nat):Int)=(x:Int):=by omega
    have f9:=Zl (n:=(x:Int));have c1:¬(d:Int)=0:=by omega
    have c2:(x:Int).tdiv (d:Int)=((x / d:Nat):Int):=by rw[yQ (by omega)];rfl
    have c3:(x:Int).tmod (d:Int)=((x%d:Nat):Int):=by rw[xM (by omega)];rfl
    have b4:x / d<=x:=xP _ _;have c4:=Zl (n:=((x / d:Nat):Int));have c5:m<(rep (m+1) [I 0]++((pad (n / d) (dg n).length).drop (m+1)).flatMap cI).length:=by rw[zl,gW];simp;omega
    have c6:=KR m (I 0) (I (x / d:Nat)) (((pad (n / d) (dg n).length).drop (m+1)).flatMap cI);refine .inl ⟨_,by simp only[go_sem,t0,t1,t6,t8,t7,E,f0,f3,f5,f6,f7,f8,f9,g9,c1,c2,c3,c4,c5,c6];rfl,m,by omega,?_⟩;simp only[go_sem,t0,t1,t6];refine⟨by rw[O,b2],by omega,?_⟩;rw[J,a8];rfl) (dg n).length ⟨by simp only[go_sem],by simp only[go_sem],by simp only[go_sem],by simp only[go_sem],by simp only[go_sem,ou,Nat.zero_mod],zq _,by simp only[go_sem];rw[xZ (by rw[iV];exact zq _)];simp⟩
 .have b3:fn Ze conv ext 249 [.ts ((pad (n / d) (dg n).length).flatMap cI) (dg n).length]=some (LI (dg (n / d))):=by
   have hl:(pad (n / d) (dg n).length).length=(dg n).length:=iV _ _;unfold LI at Y;rw[hl]at Y;exact Y
  have pl:(pad (n / d) (dg n).length).length=(dg n).length:=iV _ _;have tk:List.take (dg n).length ((pad (n / d) (dg n).length).flatMap cI)=(pad (n / d) (dg n).length).flatMap cI:=by
   have:=qR (pad (n / d) (dg n).length)
   rwa [pl]at this
  simp only[go_sem,h6,h7,E,pl,tk,b3]
 .exact Nat.lt_of_le_of_lt (xP _ _) (by
   have:=ou n;exact(Nat.div_eq_zero_iff_lt (Nat.pow_pos (by decide))).mp this)
theorem oW{d:Nat}(E:d≠0)(h:d<1000000000):dg d=[(d:Int)]:=by
 rw[oV E,vK h,oQ,wO h]
theorem Pz(n:Nat):(dg n=[1])↔n=1:=by
 constructor
 .intro h
  by_cases E:n=0
  .subst E;rw[oQ]at h;cases h
  .rw[oV E]at h
   obtain⟨J,G⟩:=List.cons.inj h;have:n / 1000000000=0:=zf fun hn=>oZ hn G
   omega
 .rintro rfl;rw[oW (by decide) (by decide)];rfl
theorem abb(neg:Bool)(a:List Int):fn Ze conv ext 227 [Bo neg,LI a]=some (.agg [Bo (neg && decide (0<a.length)),LI a]):=by
 rw[mW,nK [.cell 4 159] [] func227]
 by_cases h:0<a.length
 .have E:(0:Int)<(a.length:Int):=by omega
  cases neg<;>simp only[go_sem,h,E]
 .have E:¬(0:Int)<(a.length:Int):=by omega
  cases neg<;>simp only[go_sem,h,E]
theorem u3:Ze.underlying 3=some (.int .i64):=Tryz.underlying3
theorem arj:Ze.underlying 262=some (.int .u64):=Tryz.underlying262
theorem aw_(k:IntKind)(n:Int)(σ:Store):BL Ze 3 262 (.sc (.int k n)) σ=some (.sc (.int .u64 (IntKind.u64.wrap n))):=ZL u3 arj
theorem aw'(k:IntKind)(n:Int)(σ:Store):BL Ze 262 3 (.sc (.int k n)) σ=some (.sc (.int .i64 (IntKind.i64.wrap n))):=ZL arj u3
attribute [go_sem] aw_ aw'
theorem RG(n:Nat)(hn:n<=18446744073709551615):fn Ze conv ext 228 [.sc (.int .u64 n)]=some (LI (dg n)):=by
 rw[mW,nK [.tmp 2] [] func228];simp only[go_sem];generalize hL:gI _ _=y;obtain⟨r,rfl,T',σ',nx',rfl,hr⟩:=je hL (fun m st=>st.T 0= .sc (.int .u64 m)/\∃acc,Grow st.T st.σ st.nx 3 acc/\dg n=acc++dg m/\1000000000^acc.length*m<=n)
  (fun r=>∃T σ nx,r=(.exit 0,⟨T,σ,nx⟩)/\Grow T σ nx 3 (dg n)) (by
   clear hL;rintro m ⟨T,σ,nx⟩ ⟨G,acc,E,J,O⟩;simp only at G E
   by_cases hm:m=0
   .subst hm
    have f0:¬(0:Int)<0:=by omega
    refine .inr ⟨_,by simp only[go_sem,G,f0];rfl,by simp,_,_,_,rfl,?_⟩;rw[oQ,zM]at J;rw[J]
    simpa only[Grow,go_sem]using E
   .have f0:(0:Int)<(m:Int):=by omega
    have hk:=aa' O (by omega) (by omega);have a6:m<=n:=zL (tN _ (Nat.pow_pos (by decide))) O;have f1:(m:Int).tmod 1000000000=((m%1000000000:Nat):Int):=by rw[xM (by omega)];omega
    have f2:IntKind.u64.wrap ((m:Int).tdiv 1000000000)=((m / 1000000000:Nat):Int):=by
     rw[yQ (by omega)];rw[Zk (by omega) (by omega)];omega
    have f3:=Zl (n:=((m%1000000000:Nat):Int));have S:dg n=(acc++[((m%1000000000:Nat):Int)])++dg (m / 1000000000):=by rw[J,oV hm];simp
    have Y:1000000000^(acc++[((m%1000000000:Nat):Int)]).length*(m / 1000000000)<=n:=by
     rw[zl,yH,vB,vM];exact zL (uF _ (Nat.mul_div_le _ _)) O
    have a1:m / 1000000000<m:=tq (by omega) (by decide);obtain⟨σ',ha,hs⟩:=lC E ((m%1000000000:Nat):Int) (by omega);refine .inl ⟨_,by simp only[go_sem,G,f0,f1,f2,f3,ha];rfl,_,a1,?_,_,?_,S,Y⟩
    .simp only[go_sem]
    .exact kZ hs (by simp[go_sem]) (by simp)) n ⟨by simp only[go_sem],[],.inl ⟨by simp only[go_sem],rfl⟩,rfl,by simp⟩
 obtain⟨ids,h1⟩:=kY hr 6;simp only[go_sem,h1]
theorem am_(n:Nat)(hn:n<=9223372036854775807):fn Ze conv ext 228 [.sc (.int .u64 n)]=some (LI (dg n)):=RG n (by omega)
theorem ZX(x:Int):fn Ze conv ext 294 [I x]=some (Bo (!inB x 0 999999999)):=by
 rw[mW,nK [.tmp 2] [] func294]
 by_cases h:x<0
 .have:inB x 0 999999999=false:=by unfold inB;rw[sQ (by omega)];rfl
  rw[this];simp only[go_sem,h]
 .have:inB x 0 999999999=decide (x<=999999999):=by unfold inB;rw[sS (by omega),vw]
  rw[this]
  by_cases E:1000000000<=x
  .rw[sQ (by omega)]
   simp only[go_sem,h,E]
  .rw[sS (by omega)]
   simp only[go_sem,h,E]
theorem af7(a:List Int)(ha:Short a):fn Ze conv ext 289 [LI a]=some (Bo (pb (Cb a))):=by
 unfold Short at ha;have hc:=ZT a 294 (fun x=> !inB x 0 999999999) (by unfold maxLen;omega) (by rfl) (fun x _=>ZX x);rw[mW,nK [.tmp 2] [] func289]
 by_cases S:(60:Int)<(a.length:Int)
 .rw[iM (fun hn:Cb a=>by have:=hn.2.1;omega)]
  simp only[go_sem,S]
 have hg:(AZ a=a)->pb (Cb a)= !decide (0<=ix (fun x=> !inB x 0 999999999) a):=fun Y=>by
  refine(Pn ?_).symm;rw[vZ,decide_eq_false_iff_not,Int.not_le,JY];exact⟨fun hq=>⟨fun x hx=>by simpa using hq x hx,by omega,Y⟩,fun hq m hm=>by simp[hq.1 m hm]⟩
 by_cases G:a=[]
 .have Y:AZ a=a:=by rw[G];rfl
  rw[hg Y];subst G;have:¬(0:Int)<0:=by decide
  have a1:¬(60:Int)<0:=by decide
  have a6:fn Ze conv ext 152 [.ts [] 0,.clo 294 []]=some (Bo (decide (0<=ix (fun x=> !inB x 0 999999999) []))):=hc
  simp only[go_sem,this,a1,a6]
 .have J:0<a.length:=List.length_pos_iff.mpr G
  have c0:(0:Int)<(a.length:Int):=by omega
  have f1:=Zl (n:=(a.length:Int) - 1);have f2:(0:Int)<=(a.length:Int) - 1:=by omega
  have f3:(a.length:Int) - 1<(a.length:Int):=by omega
  have f4:((a.length:Int) - 1).toNat=a.length-1:=by omega
  have f5:=idx (xs:=a) (k:=a.length-1) (by omega);have f9:=Aw a 0 J
  by_cases O:a[a.length-1]=0
  .have E:(a[a.length-1]==(0:Int))=true:=by simpa using O
   rw[iM (fun hn:Cb a=>(Jo G).mp hn.2.2 O)];simp only[go_sem,S,c0,f1,f2,f3,f4,f5,f9,E]
  .have E:(a[a.length-1]==(0:Int))=false:=by simpa using O
   rw[hg ((Jo G).mpr O)];simp only[go_sem,S,c0,f1,f2,f3,f4,f5,f9,E,hc]
theorem adD(neg:Bool)(a:List Int)(J:Short a):fn Ze conv ext 288 [.agg [Bo neg,LI a]]=some (Bo (pb (Cb a) && !(neg && decide (a=[])))):=by
 have G:=af7 a J;rw[mW,nK [.tmp 2] [] func288];generalize pb (Cb a)=b at *
 by_cases h:a=[]
 .subst h
  have E:fn Ze conv ext 289 [.ts [] 0]=some (Bo b):=G
  cases b<;>cases neg<;>simp only[go_sem,E]<;>rfl
 .have O:((a.length:Int)==0)=false:=by simpa using h
  rw[sQ h];cases b<;>cases neg<;>simp only[go_sem,G,O]<;>rfl
def AU(m n:Nat):Int:=if m<n then -1 else if m=n then 0 else 1
theorem af8{n:Nat}:n<1000000000^(dg n).length:=(Nat.div_eq_zero_iff_lt (Nat.pow_pos (by decide))).mp (ou n)
theorem ark{n k:Nat}(h:k<(dg n).length):1000000000^k<=n:=by
 have E:=RD n k;rw[yU h]at E;have G:n / 1000000000^k≠0:=fun e=>by rw[e,oQ]at E;cases E
 exact zf fun hn=>G (vK (by omega))
theorem og{m n:Nat}(h:(dg m).length<(dg n).length):m<n:=xR af8 (ark h)
theorem jd{m n j:Nat}(E:m / 1000000000^(j+1)=n / 1000000000^(j+1))(G:m / 1000000000^j%1000000000<n / 1000000000^j%1000000000):m<n:=by
 have a:=oU m j;have b:=oU n j;rw[E]at a;have:m / 1000000000^j<n / 1000000000^j:=by omega
 exact zf fun hn=>by
  have:=Nat.div_le_div_right (c:=1000000000^j) (show n<=m by omega);omega
theorem kW(m n:Nat)(l1:(dg m).length<=1000000)(l2:(dg n).length<=1000000):fn Ze conv ext 236 [LI (dg m),LI (dg n)]=some (I (AU m n)):=by
 rw[mW,nK [.tmp 4] [] func236]
 by_cases hl:(dg m).length=(dg n).length
 .have c1:(((dg m).length:Int) !=((dg n).length:Int))=false:=by rw[hl];simp
  have e1:=Zl (n:=((dg m).length:Int) - 1);simp only[go_sem,c1,e1];generalize hL:gI _ _=y;obtain⟨r,rfl,hr⟩:=je hL (fun k st=>st.nx=0/\st.σ=lI/\st.T 0=LI (dg m)/\st.T 1=LI (dg n)/\st.T 5=I ((k:Int) - 1)/\k<=(dg m).length/\m / 1000000000^k=n / 1000000000^k)
   (fun r=>(∃T,r=(.exit 0,⟨T,lI,0⟩)/\m=n)\/(∃T,r=(.ret,⟨T,lI,0⟩)/\T 4=I (AU m n))) (by
    clear hL;rintro k ⟨T,σ,nx⟩ ⟨a1,a6,h0,h1,h5,hk,he⟩;simp only at a1 a6 h0 h1 h5;subst a1 a6;cases k with
    |zero=>
     have a7:¬(0:Int)<=0-1:=by omega
     rw[Nat.pow_zero,xC,xC]at he;exact .inr ⟨_,by simp only[go_sem,h5,a7];rfl,by simp,.inl ⟨_,rfl,he⟩⟩
    |succ k=>
     have E:k<(dg m).length:=by omega
     have G:k<(dg n).length:=by omega
     have e5:((k+1:Nat):Int) - 1=(k:Int):=by omega
     rw[e5]at h5;have f0:=jL k;have f3:(k:Int)<((dg m).length:Int):=by omega
     have S:(k:Int)<((dg n).length:Int):=by omega
     have f5:=Aw (dg m) k E;have Y:=Aw (dg n) k G;have f6:=idx E;have O:=idx G;rw[oh E]at f6;rw[oh G]at O;have f7:=Zl (n:=(k:Int) - 1)
     by_cases q1:((m / 1000000000^k%1000000000:Nat):Int)<((n / 1000000000^k%1000000000:Nat):Int)
     .have J:m<n:=jd he (by omega)
      have hc:AU m n= -1:=by unfold AU;rw[sZ J]
      exact .inr ⟨_,by simp only[go_sem,h0,h1,h5,f0,f3,S,f5,Y,f6,O,q1];rfl,by simp,.inr ⟨_,rfl,by simp only[go_sem,hc]⟩⟩
     .by_cases q2:((n / 1000000000^k%1000000000:Nat):Int)<((m / 1000000000^k%1000000000:Nat):Int)
      .have J:n<m:=jd he.symm (by omega)
       have hc:AU m n=1:=by unfold AU;rw[su (by omega),su (by omega)]
       exact .inr ⟨_,by simp only[go_sem,h0,h1,h5,f0,f3,S,f5,Y,f6,O,q1,q2];rfl,by simp,.inr ⟨_,rfl,by simp only[go_sem,hc]⟩⟩
      .have a8:m / 1000000000^k=n / 1000000000^k:=by
        have a:=oU m k;have b:=oU n k;rw[he]at a;omega
       refine .inl ⟨_,by simp only[go_sem,h0,h1,h5,f0,f3,S,f5,Y,f6,O,f7,q1,q2];rfl,k,by omega,?_⟩;simp only[go_sem,h0,h1];exact⟨by omega,a8⟩) (dg m).length ⟨rfl,rfl,by simp only[go_sem],by simp only[go_sem],by simp only[go_sem],zq _,by rw[ou,hl,ou]⟩
  rcases hr with ⟨T,rfl,h⟩|⟨T,rfl,h⟩
  .have hc:AU m n=0:=by unfold AU;rw[su (by omega),sZ h]
   simp only[go_sem,hc]
  .simp only[go_sem,h]
 .have c1:(((dg m).length:Int) !=((dg n).length:Int))=true:=by rw[bne_iff_ne];omega
  by_cases E:((dg m).length:Int)<((dg n).length:Int)
  .have J:m<n:=og (by omega)
   have hc:AU m n= -1:=by unfold AU;rw[sZ J]
   simp only[go_sem,c1,E,hc]
  .have J:n<m:=og (by omega)
   have hc:AU m n=1:=by unfold AU;rw[su (by omega),su (by omega)]
   simp only[go_sem,c1,E,hc]
theorem af9(m n:Nat)(hm:m<=9223372036854775807)(hn:n<=9223372036854775807):fn Ze conv ext 236 [LI (dg m),LI (dg n)]=some (I (AU m n)) :=
 kW m n (by have:=oS hm;omega) (by have:=oS hn;omega)
theorem abd(a:List Int)(ha:Short a):fn Ze conv ext 272 [LI a]=some (LI (AZ a)):=by
 unfold Short at ha;rw[mW,nK [.tmp 2] [] func272];simp only[go_sem];generalize hL:gI _ _=y;obtain⟨r,rfl,T',rfl,S⟩:=je hL (fun k st=>∃T,st=⟨T,lI,0⟩/\T 0=LI (a.take k)/\k<=a.length/\AZ (a.take k)=AZ a) (fun r=>∃T,r=(.exit 0,⟨T,lI,0⟩)/\T 0=LI (AZ a)) (by
  clear hL;rintro k _ ⟨T,rfl,Y,hk,G⟩;have hl:(a.take k).length=k:=by rw[zh,xY hk]
  cases k with
  |zero=>
   have E:T 0= .ts [] 0:=Y;have f0:¬(0:Int)<0:=by decide
   refine .inr ⟨_,by simp only[go_sem,E,f0];rfl,by simp,_,rfl,?_⟩;simp only[go_sem,E];rw[<- G];rfl
  |succ k=>
   have J:k<a.length:=by omega
   have E:T 0= .ts ((a.take (k+1)).flatMap cI) (k+1):=by rw[Y];show V.ts _ (a.take (k+1)).length=_;rw[hl]
   have f0:(0:Int)<((k+1:Nat):Int):=by omega
   have e5:((k+1:Nat):Int) - 1=(k:Int):=by omega
   have e2:=Zl (n:=(k:Int));have f1:=jL k;have f2:(k:Int)<((k+1:Nat):Int):=by omega
   have f5:=Aw (a.take (k+1)) k (by omega);have f6:=idx (xs:=a.take (k+1)) (k:=k) (by omega);rw[uw]at f6;have f7:k<=k+1:=by omega
   have a1:((a.take (k+1)).flatMap cI).take k=(a.take k).flatMap cI:=by rw[qU,List.take_take,xY f7]
   rw[aZ J,aN]at G
   by_cases O:a[k]=0
   .have fx:(a[k]==(0:Int))=true:=by simpa using O
    rw[sZ O]at G;refine .inl ⟨_,by simp only[go_sem,E,f0,e5,e2,f1,f2,f5,f6,f7,a1,fx,vS];rfl,k,by omega,_,rfl,?_,by omega,G⟩;simp only[go_sem];show _=V.ts _ (a.take k).length;rw[zh,xY (by omega)]
   .have fx:(a[k]==(0:Int))=false:=by simpa using O
    rw[su O]at G;refine .inr ⟨_,by simp only[go_sem,E,f0,e5,e2,f1,f2,f5,f6,f7,fx];rfl,by simp,_,rfl,?_⟩;simp only[go_sem];rw[Y,<- G,aZ J]) a.length ⟨_,rfl,by simp only[go_sem];rw[yZ],zq _,by rw[yZ]⟩
 simp only[go_sem,S]
theorem ajJ{n:Nat}:(AU n 1==0)=decide (n=1):=by
 unfold AU
 by_cases h:n<1
 .rw[sZ h,sQ (by omega)];rfl
 .rw[su h]
  by_cases E:n=1
  .rw[sZ E,sS E];rfl
  .rw[su E,sQ E];rfl
theorem arl(n:Nat)(hn:n<=9223372036854775807):fn Ze conv ext 236 [LI (dg n),.ts [I 1] 1]=some (I (AU n 1)):=by
 have:=af9 n 1 hn (by decide);rw[oW (d:=1) (by decide) (by decide)]at this;exact this
def adE(neg:Bool)(m n:Nat):List V:=[Bo (neg && decide (0<(dg (m / Nat.gcd m n)).length)),LI (dg (m / Nat.gcd m n)),LI (dg (n / Nat.gcd m n))]
theorem ana{P:Program}{t e:TypeId}{x y:Operand}{row:List V}{off:Nat}(h:P.underlying t=some (.pointer e)):AB P .eql t x y (.tp row off) (.sc (.pointer none))=some (Bo false):=by
 simp only[AB,toVal,h];rfl
theorem ptrEq(x y:Operand)(row:List V)(off:Nat):AB Ze .eql 148 x y (.tp row off) (.sc (.pointer none))=some (Bo false):=ana Tryz.underlying148
attribute [go_sem] ptrEq
theorem anb(b:Bool)(xs:List Int)(E:xs.length<=60):fn Ze conv ext 223 [.agg [Bo b,LI xs]]=some (.agg [Bo b,LI xs]):=by
 have c1:¬(60:Int)<(xs.length:Int):=by omega
 have k:=ZN xs (by omega);rw[mW,nK [.cell 2 159] [] func223];simp only[go_sem,c1,k]
theorem anc(b:Bool)(xs E:List Int)(O:xs.length<=24)(S:E.length<=24):fn Ze conv ext 164 [.tp [Bo b,LI xs,LI E] 0]=some (.agg [Bo b,LI xs,LI E]):=by
 have G:=anb b xs (by omega);have J:=ZN E (by omega);rw[mW,nK [.cell 2 161] [] func164];simp only[go_sem,G,J]
theorem u8t:Ze.underlying 5=some (.int .u8):=Tryz.underlying5
def vl:List Int->Int
 |[]=>0
 |x :: xs=>x+1000000000*vl xs
def bp(n:Nat):Int:=1000000000^n
theorem RH:bp 0=1:=rfl
theorem ql(n:Nat):bp (n+1)=1000000000*bp n:=by unfold bp;rw[Int.pow_succ,Int.mul_comm]
theorem qm(n:Nat):0<bp n:=Int.pow_pos (by decide)
theorem RI(m n:Nat):bp (m+n)=bp m*bp n:=by unfold bp;rw[Int.pow_add]
theorem qp(n:Nat):bp n=((1000000000^n:Nat):Int):=by unfold bp;rw[Int.natCast_pow];rfl
def Dg(xs:List Int):Prop:=∀x∈xs,0<=x/\x<1000000000
theorem Dg.nil:Dg []:=fun x h=>by cases h
theorem Dg.cons{x:Int}{xs:List Int}(h:Dg (x :: xs)):(0<=x/\x<1000000000)/\Dg xs:=⟨h x zQ,fun y E=>h y (zY _ E)⟩
theorem Dg.app{xs E:List Int}(h:Dg xs)(G:Dg E):Dg (xs++E):=fun x J=>(List.mem_append.mp J).elim (h x) (G x)
theorem Dg.snoc{xs:List Int}{y:Int}(h:Dg xs)(G:0<=y)(J:y<1000000000):Dg (xs++[y]):=h.app fun x E=>by
 rw[wF]at E;subst E;exact⟨G,J⟩
theorem Dg.take{xs:List Int}(h:Dg xs)(n:Nat):Dg (xs.take n):=fun x E=>h x (xH E)
theorem Dg.drop{xs:List Int}(h:Dg xs)(n:Nat):Dg (xs.drop n):=fun x E=>h x (List.mem_of_mem_drop E)
theorem Dg.get{xs:List Int}(h:Dg xs){k:Nat}(E:k<xs.length):0<=xs[k]/\xs[k]<1000000000:=h _ (zu E)
theorem oz(n:Nat):Dg (dg n):=fun x E=>by have:=ZV n x E;omega
theorem Zx(n:Nat):vl (dg n)=n:=by
 induction n using Nat.strongRecOn with
 |_ n E=>
  by_cases h:n=0
  .subst h;rw[oQ];rfl
  .rw[oV h]
   show _+1000000000*vl _=_;rw[E _ (tq (by omega) (by decide))];omega
theorem ZY(xs E:List Int):vl (xs++E)=vl xs+bp xs.length*vl E:=by
 induction xs with
 |nil=>simp[vl,RH]
 |cons x xs G=>
  rw[yY,zB,ql];show _+1000000000*vl _=(_+1000000000*vl xs)+_;rw[G,xu,uq];omega
theorem Zu(xs:List Int)(y:Int):vl (xs++[y])=vl xs+bp xs.length*y:=by
 rw[ZY];simp[vl]
theorem Zv{xs:List Int}(h:Dg xs):0<=vl xs:=by
 induction xs with
 |nil=>exact xW _
 |cons x xs E=>
  have:=h.cons;have:=E this.2;show 0<=x+1000000000*vl xs;omega
theorem Zw{xs:List Int}(h:Dg xs):vl xs<bp xs.length:=by
 induction xs with
 |nil=>exact qm 0
 |cons x xs E=>
  have:=h.cons;have:=E this.2;rw[zB,ql];show x+1000000000*vl xs<_;omega
theorem abe{xs:List Int}(h:Dg xs):AZ xs=dg (vl xs).toNat:=by
 induction xs with
 |nil=>show AZ []=dg 0;rw[oQ];rfl
 |cons x xs J=>
  have E:=h.cons;have h2:=Zv E.2;have O:vl (x :: xs)=x+1000000000*vl xs:=rfl;rw[aQ,J E.2,O]
  by_cases S:vl xs=0
  .rw[S,show(0:Int).toNat=0 from rfl,oQ,sZ rfl]
   by_cases G:x=0
   .subst G;rw[sZ rfl,wB,uX]
    show _=dg 0;rw[oQ]
   .rw[su G,wB,uX,oW (by omega) (by omega)]
    rw[Int.toNat_of_nonneg (by omega)]
  .rw[su (oZ (by omega)),oV (n:=(x+1000000000*vl xs).toNat) (by omega)]
   have Y:(((x+1000000000*vl xs).toNat%1000000000:Nat):Int)=x:=by omega
   have e2:(x+1000000000*vl xs).toNat / 1000000000=(vl xs).toNat:=by omega
   rw[Y,e2]
theorem Cj{xs:List Int}{n:Nat}(h:Dg xs)(E:vl xs=n):AZ xs=dg n:=by rw[abe h,E];rfl
theorem Z4(n:Nat):vl (List.replicate n 0)=0:=by
 induction n with
 |zero=>rfl
 |succ n E=>rw[xg];show 0+1000000000*vl _=0;rw[E];rfl
theorem Zq{xs:List Int}{k:Nat}(h:k<xs.length):vl (xs.take (k+1))=vl (xs.take k)+bp k*xs[k]:=by
 rw[aZ h,Zu,zh,xY (by omega)]
theorem abf{xs:List Int}{k:Nat}(h:k<xs.length):vl (xs.drop k)=xs[k]+1000000000*vl (xs.drop (k+1)):=by
 rw[yU h];rfl
theorem Zt(xs:List Int){k:Nat}(h:k<=xs.length):vl xs=vl (xs.take k)+bp k*vl (xs.drop k):=by
 have:=ZY (xs.take k) (xs.drop k);rw[wQ,zh,xY h]at this;exact this
def ln(n:Nat):Nat:=(dg n).length
theorem jg:ln 0=0:=by unfold ln;rw[oQ];rfl
theorem jr{n k:Nat}:ln n<=k↔(n:Int)<bp k:=by
 constructor
 .intro h
  have E:=Zw (oz n);rw[Zx]at E;have G:bp (dg n).length<=bp k:=by
   rw[qp,qp];exact Int.ofNat_le.mpr (Nat.pow_le_pow_right (by decide) h)
  omega
 .intro h
  rw[qp]at h;exact ZU k n (Int.ofNat_lt.mp h)
theorem jq{m n:Nat}(h:m<=n):ln m<=ln n:=by
 have:=(jr (n:=n)).mp (zq _);exact jr.mpr (by omega)
theorem jo(m n:Nat):ln (m*n)<=ln m+ln n:=by
 refine jr.mpr ?_;rw[RI,zC];have E:=(jr (n:=m)).mp (zq _);have G:=(jr (n:=n)).mp (zq _);have J:(m:Int)*n<=(bp (ln m) - 1)*n:=zS (by omega) (by omega);have O:=qm (ln m);have S:(bp (ln m) - 1)*n<=(bp (ln m) - 1)*(bp (ln n) - 1):=zG (by omega) (by omega);have Y:(bp (ln m) - 1)*(bp (ln n) - 1)=bp (ln m)*bp (ln n) - bp (ln m) - bp (ln n)+1:=by
  rw[uM,vF];omega
 have h7:=qm (ln n);omega
theorem ane(m n:Nat):ln (m+n)<=max (ln m) (ln n)+1:=by
 refine jr.mpr ?_;rw[ql];have E:=(jr (n:=m) (k:=max (ln m) (ln n))).mp (vY _ _);have G:=(jr (n:=n) (k:=max (ln m) (ln n))).mp (wM _ _);omega
theorem ji{n:Nat}(h:n≠0):0<ln n:=List.length_pos_iff.mpr (oZ h)
theorem jh{n:Nat}(h:n<1000000000):ln n<=1:=jr.mpr (by show(n:Int)<1000000000;omega)
theorem anf{n:Nat}(h:n<=9223372036854775807):ln n<=3:=oS h
theorem dX{n:Nat}(h:ln n<=1000000):Short (dg n):=by unfold ln at h;unfold Short;omega
end Go.Proofs.YtkpdoehbhmipcaaGreat
