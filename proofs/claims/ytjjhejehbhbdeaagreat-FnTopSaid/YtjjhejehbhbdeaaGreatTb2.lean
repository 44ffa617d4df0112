import Derived.Test.YtjjhejehbhbdeaaGreatTb1
import Derived.SizedLaws
import Derived.ChangeArms
import Derived.Deep.Slices
import Derived.OpenShut
import Derived.ChangeOld
import Derived.Laws.StructEq
import Derived.Test.YtjjhejehbhbdeaaGreatProg
import Derived.KernelRfl
set_option linter.unusedSimpArgs false
set_option linter.unusedVariables false
set_option linter.unusedSectionVars false
set_option linter.defProp false
set_option maxRecDepth 10000
set_option maxHeartbeats 4000000
open Go.Proofs.Tryz renaming prog->ZK
open Go.Proofs.Tryz
open Array renaming length_toList->yK,getElem?_toList->xP
open Bool renaming and_eq_true->zD,false_eq_true->xu,and_false->wS,true_and->wQ,not_false->vZ,not_eq_true'->vJ,not_true->uz,false_and->uo,and_true->uJ
open Classical renaming byContradiction->zh
open Int renaming lt_irrefl->zi,mul_le_mul_of_nonneg_right->zO,toNat_natCast->zA,mul_le_mul_of_nonneg_left->z_,natCast_mul->yg,tdiv_eq_ediv_of_nonneg->xq,mul_add->xR,le_refl->xJ,tmod_eq_emod_of_nonneg->wu,le_of_lt->wY,natAbs_natCast->wU,natAbs_neg->vY,mul_zero->vT,mul_nonneg->vK,mul_sub->uZ,mul_assoc->uU,toNat_of_nonneg->uS,natAbs_mul->uQ,add_zero->uO,sub_mul->uD
open List renaming getElem?_eq_getElem->zy,getElem_mem->zu,length_append->zo,take_of_length_le->zl,length_take->zf,eq_nil_of_length_eq_zero->zZ,mem_cons_of_mem->zY,length_cons->zW,getElem?_append_left->zV,flatMap_append->zS,length_map->zQ,getElem?_append_right->zM,mem_cons_self->zL,flatMap_cons->zJ,not_mem_nil->zH,getElem?_map->zF,append_nil->zC,mem_append_left->zB,getElem?_eq_none->yw,mem_append_right->yj,getElem_of_mem->yc,drop_zero->yZ,take_length->yX,length_nil->yV,length_singleton->yU,cons_append->yS,length_set->yP,nil_append->yM,drop_eq_getElem_cons->yL,take_add_one->yJ,drop_of_length_le->xk,mem_singleton->xY,replicate_succ->xX,set_append_right->xH,map_congr_left->xG,getElem?_toArray->wO,getElem?_cons_zero->wL,mem_of_mem_take->wJ,flatMap_nil->w_,replicate_append_replicate->vk,size_toArray->vX,all_nil->vU,all_cons->vO,set_cons_zero->um,take_append_drop->uj,mem_or_eq_of_mem_set->ug,map_cons->uK,length_range->uH,getElem?_cons_succ->tJ
open Nat renaming le_refl->zq,not_lt_zero->zU,le_trans->zT,mul_le_mul_right->zK,zero_add->yY,sub_self->yQ,mul_one->yO,succ_mul->xg,lt_of_lt_of_le->xK,min_eq_left->xC,div_le_self->xA,lt_or_eq_of_le->wW,div_div_eq_div_mul->wV,le_of_lt_succ->wM,add_comm->wH,mul_comm->wE,mod_eq_of_lt->wC,le_max_right->wB,add_assoc->vw,zero_le->vg,add_mul->vP,mod_lt->vM,le_max_left->vH,div_one->vC,mul_assoc->uw,div_eq_of_lt->uq,zero_mul->uY,pow_succ->uX,add_zero->u_,mul_le_mul_left->tV,div_lt_self->tH,le_mul_of_pos_left->t_
open Option renaming bind_some->zk,map_some->zG,getD_some->xE
open Rat renaming div_def->vB
open Option.some renaming injEq->sS
open Prod.mk renaming injEq->sQ
namespace Go.TV
open Go.RowKit
set_option linter.unusedVariables false
set_option linter.unusedSimpArgs false
variable [Known]
def CLe(c c':Call):Prop:=∀f args σ nx r,c f args σ nx=some r->c' f args σ nx=some r
section
variable {P:Program} {conv:FuncId->Conv}
theorem Jm{c c':Call}(h:CLe c c'){f:FuncId}{args:List V}{σ:Store}{nx:Nat}{r:V×Store×Nat}(e:CB conv c f args σ nx=some r):CB conv c' f args σ nx=some r:=by
 unfold CB at *
 split at e
 .exact h _ _ _ _ _ e
 .split at e
  .rename_i ts ids G
   try simp only[G]
   cases E:c f ts pI 0 with
   |none=>rw[E]at e;cases e
   |some q=>rw[E]at e;rw[h _ _ _ _ _ E];exact e
  .cases e
 .split at e
  .rename_i ts ids G
   try simp only[G]
   cases E:c f ts pI nx with
   |none=>rw[E]at e;cases e
   |some q=>rw[E]at e;rw[h _ _ _ _ _ E];exact e
  .cases e
theorem RZ{c c':Call}{o:Oper}{T:Nat->V}{σ:Store}{nx:Nat}{r:V×Store×Nat}(h:∀f args σ r,CB conv c f args σ nx=some r->CB conv c' f args σ nx=some r)(e:AP P conv c o T σ nx=some r):AP P conv c' o T σ nx=some r:=by
 obtain⟨dst,op,type,pos,after,guard⟩:=o;cases op<;>simp only[AP]at e⊢ <;>first|exact e|skip
 rename_i E;obtain⟨callee,args,ts⟩:=E;cases callee with
 |value f=>
  simp only at e⊢
  split at e
  .rename_i G
   try simp only[G]
   exact h _ _ _ _ e
  .cases e
 |builtin b=>exact e
 |invoke r m=>exact e
theorem YI{c:Call}{o:Oper}{T:Nat->V}{σ:Store}{nx:Nat}{r:V×Store×Nat}(e:AP P conv c o T σ nx=some r) :
  (∀c',AP P conv c' o T σ nx=some r)\/∃f args,CB conv c f args σ nx=some r/\∀c',CB conv c' f args σ nx=some r->AP P conv c' o T σ nx=some r:=by
 obtain⟨dst,op,type,pos,after,guard⟩:=o;cases op<;>simp only[AP]at e⊢ <;>first|exact .inl fun _=>e|skip
 rename_i E;obtain⟨callee,args,ts⟩:=E;cases callee with
 |value f=>
  simp only at e⊢
  split at e
  .rename_i G
   try simp only[G]
   exact .inr ⟨_,_,e,fun c' h=>h⟩
  .cases e
 |builtin b=>exact .inl fun _=>e
 |invoke r m=>exact .inl fun _=>e
theorem Vs{c c':Call}(h:CLe c c'){o:Oper}{T:Nat->V}{σ:Store}{nx:Nat}{r:V×Store×Nat}(e:Aq P conv c o T σ nx=some r):Aq P conv c' o T σ nx=some r:=by
 unfold Aq at *
 split at e
 .rename_i F G
  try simp only[G]
  split at e
  .rename_i J
   rw[sN J];cases E:AP P conv c o T (restrict σ F) nx with
   |none=>rw[E]at e;cases e
   |some q=>rw[E]at e;rw[RZ (fun f args σ r=>Jm h) E];exact e
  .cases e
 .cases e
theorem nH{c c':Call}(h:CLe c c'){ops:Array Oper}:∀(l:List Oper) (s s':St),B_ P conv c ops l s=some s'->B_ P conv c' ops l s=some s'
 |[],s,s',e=>e
 |o :: l,s,s',e=>by
  unfold B_ at *
  split at e
  .rename_i E
   try simp only[E]
   cases G:AP P conv c o s.T s.σ s.nx with
   |none=>rw[G]at e;cases e
   |some q=>
    rw[G]at e;rw[RZ (fun f args σ r=>Jm h) G];exact nH h l _ _ e
  .rename_i E
   try simp only[E]
   exact nH h l _ _ e
  .cases e
theorem nM{c c':Call}(h:CLe c c'){ops:Array Oper}:∀(l:List Oper) (s:St) (r:St×List (List Nat)),BG P conv c ops l s=some r->BG P conv c' ops l s=some r
 |[],s,r,e=>e
 |o :: l,s,r,e=>by
  unfold BG at *
  split at e
  .rename_i G
   try simp only[G]
   cases J:Aq P conv c o s.T s.σ s.nx with
   |none=>rw[J]at e;cases e
   |some q=>
    rw[J]at e;rw[Vs h J];simp only at e⊢;cases E:BG P conv c ops l ⟨C9 s.T o.dst q.1,q.2.1,q.2.2⟩with
    |none=>rw[E]at e;cases e
    |some O=>rw[E]at e;rw[nM h l _ _ E];exact e
  .rename_i G
   try simp only[G]
   cases E:BG P conv c ops l ⟨C9 s.T o.dst (.Bf []),s.σ,s.nx⟩with
   |none=>rw[E]at e;cases e
   |some O=>rw[E]at e;rw[nM h l _ _ E];exact e
  .cases e
theorem P_{c c':Call}(h:CLe c c'){ops:Array Oper}{s s':St}(e:CS P conv c ops s=some s'):CS P conv c' ops s=some s':=by
 unfold CS at *
 split at e
 .rename_i G
  rw[sN G];cases E:BG P conv c ops ops.toList s with
  |none=>rw[E]at e;cases e
  |some q=>rw[E]at e;rw[nM h _ _ _ E];exact e
 .cases e
noncomputable def jI(body:St->Option (Ex×St))(s:St):Option (Ex×St) :=
 open Classical in if h:∃r,∃n,BU body n s=some r then some h.choose else none
theorem Kr{body:St->Option (Ex×St)}:∀(n:Nat) (s:St) (r:Ex×St),BU body n s=some r->BU body (n+1) s=some r
 |0,s,r,h=>by cases h
 |n+1,s,r,h=>by
  unfold BU at h⊢
  split at h
  .exact Kr n _ r h
  .exact h
theorem EM{body:St->Option (Ex×St)}{n m:Nat}(E:n<=m){s:St}{r:Ex×St}(h:BU body n s=some r):BU body m s=some r:=by
 induction E with
 |refl=>exact h
 |step _ G=>exact Kr _ _ _ G
theorem nS{body:St->Option (Ex×St)}{s:St}{r:Ex×St}:jI body s=some r↔∃n,BU body n s=some r:=by
 unfold jI;constructor
 .intro h
  split at h
  .rename_i hex
   simp only[sS]at h;subst h;exact hex.choose_spec
  .cases h
 .rintro ⟨n,hn⟩
  have hex:∃r,∃n,BU body n s=some r:=⟨r,n,hn⟩;rw[dif_pos hex];obtain⟨m,hm⟩:=hex.choose_spec;have G:=EM (vH n m) hn;have E:=EM (wB n m) hm;rw[G]at E;exact E.symm
theorem MP(body:St->Option (Ex×St))(s:St):jI body s=match body s with
  |some (.norm,s')=>jI body s'
  |r=>r:=by
 apply Option.ext;intro r;rw[nS];constructor
 .rintro ⟨n,hn⟩
  cases n with
  |zero=>cases hn
  |succ n=>
   unfold BU at hn;cases hb:body s with
   |none=>rw[hb]at hn;cases hn
   |some q=>
    rw[hb]at hn;obtain⟨ex,G⟩:=q;cases ex with
    |norm=>exact nS.2 ⟨n,hn⟩
    |exit id=>exact hn
    |ret=>exact hn
 .intro h
  split at h
  .rename_i s' hb
   obtain⟨n,hn⟩:=nS.1 h;exact⟨n+1,by unfold BU;simp only[hb];exact hn⟩
  .rename_i E
   refine⟨1,?_⟩;unfold BU
   split
   .rename_i s' hb;exact absurd hb (E s')
   .exact h
noncomputable def AB(P:Program)(conv:FuncId->Conv)(call:Call):Code->St->Option (Ex×St)
 | .skip,s=>some (.norm,s)
 | .region _ ops draw,s=>match(if draw then CS P conv call ops s else B_ P conv call ops ops.toList s)with
  |some s'=>some (.norm,s')
  |none=>none
 | .seq a b,s=>match AB P conv call a s with
  |some (.norm,s')=>AB P conv call b s'
  |r=>r
 | .cond c a b,s=>match val s.T c with
  | .sc (.bool true)=>AB P conv call a s
  | .sc (.bool false)=>AB P conv call b s
  |_=>none
 | .block id c,s=>match AB P conv call c s with
  |some (.exit j,s')=>if j=id then some (.norm,s')else some (.exit j,s')
  |r=>r
 | .loop c,s=>jI (AB P conv call c) s
 | .exit id,s=>some (.exit id,s)
 | .ret,s=>some (.ret,s)
 |_,_=>none
theorem nP{b b':St->Option (Ex×St)}(h:∀s r,b s=some r->b' s=some r):∀(n:Nat) (s:St) (r:Ex×St),BU b n s=some r->BU b' n s=some r
 |0,s,r,e=>by cases e
 |n+1,s,r,e=>by
  unfold BU at *
  split at e
  .rename_i s' hb;simp only[h _ _ hb];exact nP h n s' r e
  .cases E:b s with
   |none=>rw[E]at e;cases e
   |some q=>
    rw[E]at e;rw[h _ _ E];obtain⟨ex,J⟩:=q;cases ex with
    |norm=>rename_i G;exact absurd E (G J)
    |exit id=>exact e
    |ret=>exact e
theorem nZ{c c':Call}(h:CLe c c'){n m:Nat}(O:n<=m):∀(cd:Code) (s:St) (r:Ex×St),Ad P conv c n cd s=some r->Ad P conv c' m cd s=some r:=by
 intro cd
 induction cd with
 |region id ops draw=>
  intro s r e;simp only[Ad]at *;cases draw with
  |true=>
   simp only[if_true]at *;cases E:CS P conv c ops s with
   |none=>rw[E]at e;cases e
   |some q=>rw[E]at e;rw[P_ h E];exact e
  |false=>
   simp only[xu,if_false]at *;cases E:B_ P conv c ops ops.toList s with
   |none=>rw[E]at e;cases e
   |some q=>rw[E]at e;rw[nH h _ _ _ E];exact e
 |seq a b G J=>
  intro s r e;simp only[Ad]at *;cases E:Ad P conv c n a s with
  |none=>rw[E]at e;cases e
  |some q=>
   rw[E]at e;rw[G _ _ E];obtain⟨ex,Y⟩:=q;cases ex<;>first|exact J _ _ e|exact e
 |cond v a b G J=>
  intro s r e;simp only[Ad]at *
  split at e
  .exact G _ _ e
  .exact J _ _ e
  .cases e
 |block id cd S=>
  intro s r e;simp only[Ad]at *;cases E:Ad P conv c n cd s with
  |none=>rw[E]at e;cases e
  |some q=>rw[E]at e;rw[S _ _ E];exact e
 |loop cd S=>
  intro s r e;simp only[Ad]at *;exact EM O (nP (fun s r=>S s r) n s r e)
 |skip=>intro s r e;exact e
 |exit id=>intro s r e;exact e
 |ret=>intro s r e;exact e
 |_=>intro s r e;simp only[Ad]at e;cases e
theorem YJ{c c':Call}(h:CLe c c'){n:Nat}:∀(cd:Code) (s:St) (r:Ex×St),Ad P conv c n cd s=some r->AB P conv c' cd s=some r:=by
 intro cd
 induction cd with
 |region id ops draw=>
  intro s r e;simp only[Ad,AB]at *;cases draw with
  |true=>
   simp only[if_true]at *;cases E:CS P conv c ops s with
   |none=>rw[E]at e;cases e
   |some q=>rw[E]at e;rw[P_ h E];exact e
  |false=>
   simp only[xu,if_false]at *;cases E:B_ P conv c ops ops.toList s with
   |none=>rw[E]at e;cases e
   |some q=>rw[E]at e;rw[nH h _ _ _ E];exact e
 |seq a b G J=>
  intro s r e;simp only[Ad,AB]at *;cases E:Ad P conv c n a s with
  |none=>rw[E]at e;cases e
  |some q=>
   rw[E]at e;rw[G _ _ E];obtain⟨ex,Y⟩:=q;cases ex<;>first|exact J _ _ e|exact e
 |cond v a b G J=>
  intro s r e;simp only[Ad,AB]at *
  split at e
  .rename_i O;simp only[O];exact G _ _ e
  .rename_i O;simp only[O];exact J _ _ e
  .cases e
 |block id cd S=>
  intro s r e;simp only[Ad,AB]at *;cases E:Ad P conv c n cd s with
  |none=>rw[E]at e;cases e
  |some q=>rw[E]at e;rw[S _ _ E];exact e
 |loop cd S=>
  intro s r e;simp only[Ad,AB]at *;exact nS.2 ⟨n,nP (fun s r=>S s r) n s r e⟩
 |skip=>intro s r e;exact e
 |exit id=>intro s r e;exact e
 |ret=>intro s r e;exact e
 |_=>intro s r e;simp only[Ad]at e;cases e
def Chain(C:Nat->Call):Prop:=∀k,CLe (C k) (C (k+1))
theorem Chain.le{C:Nat->Call}(h:Chain C){k m:Nat}(E:k<=m):CLe (C k) (C m):=by
 induction E with
 |refl=>exact fun _ _ _ _ _ e=>e
 |step _ G=>exact fun f args σ nx r e=>h _ f args σ nx r (G f args σ nx r e)
noncomputable def sup(C:Nat->Call):Call:=fun f args σ nx=>
 open Classical in if h:∃r,∃k,C k f args σ nx=some r then some h.choose else none
theorem aJ{C:Nat->Call}(E:Chain C){f:FuncId}{args:List V}{σ:Store}{nx:Nat}{r:V×Store×Nat}:sup C f args σ nx=some r↔∃k,C k f args σ nx=some r:=by
 unfold sup;constructor
 .intro h
  split at h
  .rename_i hex
   simp only[sS]at h;subst h;exact hex.choose_spec
  .cases h
 .rintro ⟨n,hn⟩
  have hex:∃r,∃k,C k f args σ nx=some r:=⟨r,n,hn⟩;rw[dif_pos hex];obtain⟨m,hm⟩:=hex.choose_spec;have J:=E.le (vH n m) _ _ _ _ _ hn;have G:=E.le (wB n m) _ _ _ _ _ hm;rw[J]at G;exact G.symm
theorem YK{C:Nat->Call}(G:Chain C){f:FuncId}{args:List V}{σ:Store}{nx:Nat}{r:V×Store×Nat}(e:CB conv (sup C) f args σ nx=some r):∃k,CB conv (C k) f args σ nx=some r:=by
 unfold CB at *
 split at e
 .exact(aJ G).1 e
 .split at e
  .rename_i ts ids J
   try simp only[J]
   cases E:sup C f ts pI 0 with
   |none=>rw[E]at e;cases e
   |some q=>
    obtain⟨k,O⟩:=(aJ G).1 E;rw[E]at e;exact⟨k,by rw[O];exact e⟩
  .cases e
 .split at e
  .rename_i ts ids J
   try simp only[J]
   cases E:sup C f ts pI nx with
   |none=>rw[E]at e;cases e
   |some q=>
    obtain⟨k,O⟩:=(aJ G).1 E;rw[E]at e;exact⟨k,by rw[O];exact e⟩
  .cases e
theorem Vt{C:Nat->Call}(E:Chain C){o:Oper}{T:Nat->V}{σ:Store}{nx:Nat}{r:V×Store×Nat}(e:AP P conv (sup C) o T σ nx=some r):∃k,AP P conv (C k) o T σ nx=some r:=by
 rcases YI e with h|⟨f,args,G,J⟩
 .exact⟨0,h _⟩
 .obtain⟨k,O⟩:=YK E G
  exact⟨k,J _ O⟩
theorem adg{C:Nat->Call}(G:Chain C){o:Oper}{T:Nat->V}{σ:Store}{nx:Nat}{r:V×Store×Nat}(e:Aq P conv (sup C) o T σ nx=some r):∃k,Aq P conv (C k) o T σ nx=some r:=by
 unfold Aq at *
 split at e
 .rename_i F J
  try simp only[J]
  split at e
  .rename_i O
   simp only[O,if_true];cases E:AP P conv (sup C) o T (restrict σ F) nx with
   |none=>rw[E]at e;cases e
   |some q=>
    obtain⟨k,S⟩:=Vt G E;rw[E]at e;exact⟨k,by rw[S];exact e⟩
  .cases e
 .cases e
theorem Jo{C:Nat->Call}(E:Chain C){ops:Array Oper}:∀(l:List Oper) (s s':St),B_ P conv (sup C) ops l s=some s'->∃k,B_ P conv (C k) ops l s=some s'
 |[],s,s',e=>⟨0,e⟩
 |o :: l,s,s',e=>by
  unfold B_ at e
  split at e
  .rename_i G
   cases J:AP P conv (sup C) o s.T s.σ s.nx with
   |none=>rw[J]at e;cases e
   |some q=>
    rw[J]at e;obtain⟨k,O⟩:=Vt E J;obtain⟨m,hm⟩:=Jo E l _ _ e;refine⟨max k m,?_⟩;unfold B_;simp only[G,RZ (fun f args σ r=>Jm (E.le (vH k m))) O];exact nH (E.le (wB k m)) _ _ _ hm
  .rename_i G
   obtain⟨m,hm⟩:=Jo E l _ _ e;exact⟨m,by unfold B_;simp only[G];exact hm⟩
  .cases e
theorem nK{C:Nat->Call}(G:Chain C){ops:Array Oper}:∀(l:List Oper) (s:St) (r:St×List (List Nat)),BG P conv (sup C) ops l s=some r->∃k,BG P conv (C k) ops l s=some r
 |[],s,r,e=>⟨0,e⟩
 |o :: l,s,r,e=>by
  unfold BG at e
  split at e
  .rename_i J
   cases O:Aq P conv (sup C) o s.T s.σ s.nx with
   |none=>rw[O]at e;cases e
   |some q=>
    rw[O]at e;simp only at e;cases E:BG P conv (sup C) ops l ⟨C9 s.T o.dst q.1,q.2.1,q.2.2⟩with
    |none=>rw[E]at e;cases e
    |some S=>
     rw[E]at e;obtain⟨k,Y⟩:=adg G O;obtain⟨m,hm⟩:=nK G l _ _ E;refine⟨max k m,?_⟩;unfold BG;simp only[J,Vs (G.le (vH k m)) Y,nM (G.le (wB k m)) _ _ _ hm];exact e
  .rename_i J
   cases E:BG P conv (sup C) ops l ⟨C9 s.T o.dst (.Bf []),s.σ,s.nx⟩with
   |none=>rw[E]at e;cases e
   |some S=>
    rw[E]at e;obtain⟨m,hm⟩:=nK G l _ _ E;refine⟨m,?_⟩;unfold BG;simp only[J,hm];exact e
  .cases e
theorem YL{C:Nat->Call}(G:Chain C){ops:Array Oper}{s s':St}(e:CS P conv (sup C) ops s=some s'):∃k,CS P conv (C k) ops s=some s':=by
 unfold CS at *
 split at e
 .rename_i J
  simp only[J,if_true];cases E:BG P conv (sup C) ops ops.toList s with
  |none=>rw[E]at e;cases e
  |some q=>
   obtain⟨k,O⟩:=nK G _ _ _ E;rw[E]at e;exact⟨k,by rw[O];exact e⟩
 .cases e
theorem MQ{B:Nat->St->Option (Ex×St)}{b:St->Option (Ex×St)}(E:∀k m,k<=m->∀s r,B k s=some r->B m s=some r)(h:∀s r,b s=some r->∃k,B k s=some r) :
  ∀(n:Nat) (s:St) (r:Ex×St),BU b n s=some r->∃k,BU (B k) n s=some r
 |0,s,r,e=>by cases e
 |n+1,s,r,e=>by
  unfold BU at e
  split at e
  .rename_i s' hb
   obtain⟨k,G⟩:=h _ _ hb;obtain⟨m,hm⟩:=MQ E h n s' r e;refine⟨max k m,?_⟩;unfold BU;simp only[E k _ (vH k m) _ _ G];exact nP (E m _ (wB k m)) n s' r hm
  .rename_i J
   obtain⟨k,G⟩:=h _ _ e;refine⟨k,?_⟩;unfold BU;rw[G];obtain⟨ex,O⟩:=r;cases ex with
   |norm=>exact absurd e (J O)
   |exit id=>rfl
   |ret=>rfl
theorem Vu{C:Nat->Call}(S:Chain C):∀(cd:Code) (s:St) (r:Ex×St),AB P conv (sup C) cd s=some r->∃k,Ad P conv (C k) k cd s=some r:=by
 intro cd
 induction cd with
 |region id ops draw=>
  intro s r e;simp only[Ad,AB]at *;cases draw with
  |true=>
   simp only[if_true]at *;cases E:CS P conv (sup C) ops s with
   |none=>rw[E]at e;cases e
   |some q=>obtain⟨k,G⟩:=YL S E;rw[E]at e;exact⟨k,by rw[G];exact e⟩
  |false=>
   simp only[xu,if_false]at *;cases E:B_ P conv (sup C) ops ops.toList s with
   |none=>rw[E]at e;cases e
   |some q=>obtain⟨k,G⟩:=Jo S _ _ _ E;rw[E]at e;exact⟨k,by rw[G];exact e⟩
 |seq a b J O=>
  intro s r e;simp only[Ad,AB]at *;cases E:AB P conv (sup C) a s with
  |none=>rw[E]at e;cases e
  |some q=>
   rw[E]at e;obtain⟨k,G⟩:=J _ _ E;obtain⟨ex,s1⟩:=q;cases ex with
   |norm=>
    obtain⟨m,hm⟩:=O _ _ e;exact⟨max k m,by rw[nZ (S.le (vH k m)) (vH k m) _ _ _ G];exact nZ (S.le (wB k m)) (wB k m) _ _ _ hm⟩
   |exit id=>exact⟨k,by rw[G];exact e⟩
   |ret=>exact⟨k,by rw[G];exact e⟩
 |cond v a b J O=>
  intro s r e;simp only[Ad,AB]at *
  split at e
  .rename_i hv;simp only[hv];exact J _ _ e
  .rename_i hv;simp only[hv];exact O _ _ e
  .cases e
 |block id cd ih=>
  intro s r e;simp only[Ad,AB]at *;cases E:AB P conv (sup C) cd s with
  |none=>rw[E]at e;cases e
  |some q=>obtain⟨k,G⟩:=ih _ _ E;rw[E]at e;exact⟨k,by rw[G];exact e⟩
 |loop cd ih=>
  intro s r e;simp only[Ad,AB]at *;obtain⟨n,hn⟩:=nS.1 e;obtain⟨k,G⟩:=MQ (B:=fun k=>Ad P conv (C k) k cd) (fun k m Y s r=>nZ (S.le Y) Y cd s r) (fun s r h=>ih s r h) n s r hn;refine⟨max n k,?_⟩;exact EM (vH n k) (nP (fun s r=>nZ (S.le (wB n k)) (wB n k) cd s r) n s r G)
 |skip=>intro s r e;exact⟨0,e⟩
 |exit id=>intro s r e;exact⟨0,e⟩
 |ret=>intro s r e;exact⟨0,e⟩
 |_=>intro s r e;simp only[AB]at e;cases e
theorem adh{c c':Call}(h:CLe c c'){n m:Nat}(E:n<=m){fn:Func}{body:Code}{args:List V}{σ:Store}{nx:Nat}{r:V×Store×Nat}(e:GK P conv c n fn body args σ nx=some r):GK P conv c' m fn body args σ nx=some r:=by
 unfold GK at *;cases G:Ad P conv c n body ⟨DJ args,σ,nx⟩with
 |none=>rw[G]at e;cases e
 |some q=>rw[G]at e;rw[nZ h E _ _ _ G];exact e
theorem nX(ext:Ext):Chain (evF P conv ext):=by
 intro k
 induction k with
 |zero=>intro f args σ nx r e;cases e
 |succ k G=>
  intro f args σ nx r e;unfold evF at e⊢
  split at e
  .exact e
  .rename_i J
   split at e
   .rename_i fn O
    try simp only[J]
    split at e
    .rename_i body hb
     try simp only[hb]
     split at e
     .rename_i E
      rw[sN E];exact adh G (Nat.le_succ k) e
     .cases e
    .cases e
   .cases e
noncomputable def ev(P:Program)(conv:FuncId->Conv)(ext:Ext):Call:=sup (evF P conv ext)
theorem mY(hm:P.follows .mixedOrders=true){ext:Ext}(E:Kq P ext):DL P (ev P conv ext):=fun f args σ nx v σ' nx' h=>by
 obtain⟨k,G⟩:=(aJ (nX ext)).1 h;exact P9 hm E k f args σ nx v σ' nx' G
noncomputable def Vx(P:Program)(conv:FuncId->Conv)(call:Call)(rs:List ResultVar)(body:Code)(s:St):J6 :=
 match AB P conv call body s with
 |some (.norm,st)=>match Ai P st.T st.σ rs with
  |some vs=>some (oneOf vs,st.σ,st.nx)
  |none=>none
 |some (.ret,st)=>match Ai P st.T st.σ rs with
  |some vs=>some (oneOf vs,st.σ,st.nx)
  |none=>none
 |_=>none
theorem mZ{ext:Ext}{f:FuncId}{g:List V->Store->Nat->J6}(G:ext f=some g)(args:List V)(σ:Store)(nx:Nat):ev P conv ext f args σ nx=g args σ nx:=by
 apply Option.ext;intro r;unfold ev;rw[aJ (nX ext)];constructor
 .rintro ⟨k,E⟩
  cases k with
  |zero=>cases E
  |succ k=>unfold evF at E;simpa only[G]using E
 .intro h
  exact⟨1,by unfold evF;simpa only[G]using h⟩
theorem amy{ext:Ext}{f:FuncId}{fn:Func}{body:Code}{rs:List ResultVar}(O:ext f=none)(S:P.funcs[f]?=some fn)(hb:fn.body=some body)(Y:fn.results.toList=rs){args:List V}(J:Vh fn body args.length=true)(σ:Store)(nx:Nat) :
  ev P conv ext f args σ nx=Vx P conv (ev P conv ext) rs body ⟨DJ args,σ,nx⟩:=by
 apply Option.ext;intro r;unfold ev;rw[aJ (nX ext)];constructor
 .rintro ⟨k,E⟩
  cases k with
  |zero=>cases E
  |succ k=>
   unfold evF at E;simp only[O,S,hb,J,if_true]at E;unfold GK at E;unfold Vx;cases G:Ad P conv (evF P conv ext k) k body ⟨DJ args,σ,nx⟩with
   |none=>rw[G]at E;cases E
   |some q=>
    rw[G]at E;rw[YJ (c':=sup (evF P conv ext)) (fun f args σ nx r e=>(aJ (nX ext)).2 ⟨k,e⟩) _ _ _ G,<- Y];exact E
 .intro h
  unfold Vx at h;cases G:AB P conv (sup (evF P conv ext)) body ⟨DJ args,σ,nx⟩with
  |none=>rw[G]at h;cases h
  |some q=>
   rw[G]at h;obtain⟨k,E⟩:=Vu (nX ext) _ _ _ G;refine⟨k+1,?_⟩;unfold evF;simp only[O,S,hb,J,if_true];unfold GK;rw[E,Y];exact h
end
end Go.TV
namespace Go.TV
set_option linter.unusedVariables false
set_option linter.unusedSimpArgs false
variable [Known]
structure TyI where
 ok:Bool
 agg:Bool
 size:Nat
 zero:List V
 slice:Bool
 str:Bool
 ptr:Bool
 G6:Nat
 R_:Nat
 Eh:List V
 Si:Bool
 afu:List (Nat×Nat×Option Bool)
 plc:List (Nat×Nat)
 bok:Bool
 u8:Bool
def zeroV(i:TypeInfo):List V :=
 match i.zero with
 |some z=>if z.cells.size=i.size then z.cells.toList.map BQ else []
 |none=>[]
def Jp(i:TypeInfo):Bool :=
 match i.zero with
 |some z=>z.cells.size=i.size
 |none=>false
def aqP(P:Program)(t:TypeId):Option Bool:=(P.underlying t).map Hg
def Ae(P:Program)(t:TypeId):TyI :=
 match P.info? t,P.underlying t with
 |some i,some d=>
  let e:=match d with
   | .slice e=>P.info? e
   |_=>none
  {ok:=true,agg:=Hg d,size:=i.size,zero:=if Jp i then zeroV i else [],slice:=d matches .slice _,str:=d matches .string,ptr:=d matches .pointer _,
   G6:=(e.map (·.size)).getD 0,R_:=(e.map (·.bytes)).getD 0,Eh:=(e.map zeroV).getD [],Si:=(e.map Jp).getD false,
   afu:=match d with
    | .struct fs=>fs.toList.map fun f=>(f.offset,((P.info? f.type).map (·.size)).getD 0,(aqP P f.type))
    |_=>[]
   plc:=match d with
    | .struct fs=>((xI P (fs.mapM fun f=>do pure (f.offset,<- sizeOf f.type))).map (·.toList)).getD []
    |_=>[]
   bok:=match d with
    | .struct fs=>(xI P (fs.mapM fun f=>do pure (f.offset,<- sizeOf f.type))).isSome && Jp i
    |_=>false
   u8:=match d with
    | .slice e=>(P.underlying e matches some (.int .u8)) && ((P.info? e).map (·.size))==some 1
    |_=>false }
 |_,_=>⟨false,false,0,[],false,false,false,0,0,[],false,[],[],false,false⟩
section
variable {P:Program} {conv:FuncId->Conv} {call:Call} {σ:Store} {nx:Nat}
theorem Zn{t:TypeId}(h:(Ae P t).ok=true):∃i d,P.info? t=some i/\P.underlying t=some d/\(Ae P t).agg=Hg d/\(Ae P t).size=i.size:=by
 unfold Ae at h⊢;cases hi:P.info? t with
 |none=>simp[hi]at h
 |some i=>
  cases E:P.underlying t with
  |none=>simp[hi,E]at h
  |some d=>exact⟨i,d,rfl,rfl,rfl,rfl⟩
theorem Zm{t:TypeId}(h:(Ae P t).slice=true)(E:(Ae P t).Si=true):∃e i z,P.underlying t=some (.slice e)/\P.info? e=some i/\i.zero=some z/\z.cells.size=i.size/\(Ae P t).G6=i.size/\(Ae P t).R_=i.bytes/\(Ae P t).Eh=z.cells.toList.map BQ:=by
 unfold Ae at h E⊢;cases hi:P.info? t with
 |none=>simp[hi]at h
 |some i=>
  cases O:P.underlying t with
  |none=>simp[hi,O]at h
  |some d=>
   simp only[hi,O]at h E⊢;cases d<;>simp at h;rename_i e;simp only at E⊢;cases G:P.info? e with
   |none=>simp[G]at E
   |some S=>
    simp only[G,zG,xE]at E⊢;unfold Jp at E;cases J:S.zero with
    |none=>simp[J]at E
    |some z=>
     simp only[J,decide_eq_true_eq]at E;exact⟨e,S,z,rfl,G,J,E,rfl,rfl,by simp[zeroV,J,E]⟩
theorem adi{t:TypeId}{row:List V}{off:Nat}(h:(Ae P t).ok=true)(ha:(Ae P t).agg=false):A8 P σ t (.tp row off)=row[off]?:=by
 obtain⟨i,d,J,O,E,S⟩:=Zn h;rw[ha]at E;unfold A8;simp only[J,O,<- E,xu,if_false,DC]
 by_cases G:off<row.length
 .rw[sN (by omega),zy G]
  have:(row.drop off).take 1=[row[off]]:=by
   rw[yL G];rfl
  rw[this]
 .rw[sO (by omega),yw (by omega)]
theorem YM{t:TypeId}{row:List V}{off:Nat}(h:(Ae P t).ok=true)(ha:(Ae P t).agg=true):A8 P σ t (.tp row off)=if off+(Ae P t).size<=row.length then some (.agg ((row.drop off).take (Ae P t).size))else none:=by
 obtain⟨i,d,G,J,E,O⟩:=Zn h;rw[ha]at E;unfold A8;simp only[G,J,<- E,if_true,DC,O]
 split<;>rfl
theorem adk{t:TypeId}{b off:Nat}(h:(Ae P t).ok=true)(ha:(Ae P t).agg=false):A8 P σ t (.rp b off)=(σ b).bind fun B=>B.cells[off]?:=by
 obtain⟨i,d,J,O,E,S⟩:=Zn h;rw[ha]at E;unfold A8;simp only[J,O,<- E,xu,if_false,DC];cases σ b with
 |none=>rfl
 |some B=>
  simp only[zk]
  by_cases G:off<B.cells.length
  .rw[sN (by omega),zy G]
   have:(B.cells.drop off).take 1=[B.cells[off]]:=by
    rw[yL G];rfl
   rw[this]
  .rw[sO (by omega),yw (by omega)]
theorem YN{t:TypeId}{b off:Nat}(h:(Ae P t).ok=true)(ha:(Ae P t).agg=true):A8 P σ t (.rp b off)=(σ b).bind fun B=>if off+(Ae P t).size<=B.cells.length then some (.agg ((B.cells.drop off).take (Ae P t).size))else none:=by
 obtain⟨i,d,G,J,E,O⟩:=Zn h;rw[ha]at E;unfold A8;simp only[G,J,<- E,if_true,DC,O];cases σ b with
 |none=>rfl
 |some B=>simp only[zk];split<;>rfl
theorem YO{t:TypeId}{b off:Nat}{v:V}(h:(Ae P t).ok=true)(hc:vI v=true)(hs:(Ae P t).size=1):Du P σ t (.rp b off) v=(σ b).bind fun B=>if B.wr=true/\off<B.cells.length then some (upd σ b (some { B with cells:=B.cells.set off v }))else none:=by
 obtain⟨i,d,G,O,S,E⟩:=Zn h;rw[hs]at E;have J:cellsOfV v=some [v]:=by cases v<;>simp_all [cellsOfV,vI]
 unfold Du;simp only[G,J,<- E,yU,vO,vU,hc,uJ,and_true,true_and,patch];cases σ b with
 |none=>rfl
 |some B=>simp only[zk];rfl
theorem Vy{t:TypeId}{b off:Nat}{vs:List V}(h:(Ae P t).ok=true):Du P σ t (.rp b off) (.agg vs)=(σ b).bind fun B=>if B.wr=true/\vs.length=(Ae P t).size/\off+vs.length<=B.cells.length/\vs.all vI=true then some (upd σ b (some { B with cells:=patch B.cells off vs }))else none:=by
 obtain⟨i,d,E,J,O,G⟩:=Zn h;unfold Du;simp only[E,G,cellsOfV];cases σ b with
 |none=>rfl
 |some B=>simp only[zk]
theorem Qa{t:TypeId}{f:Nat}(h:(Ae P t).ok=true) :
  (∃fields fd,P.underlying t=some (.struct fields)/\fields[f]?=some fd/\(Ae P t).afu[f]?=some (fd.offset,((P.info? fd.type).map (·.size)).getD 0,aqP P fd.type)) \/
  ((Ae P t).afu[f]?=none/\∀fields,P.underlying t=some (.struct fields)->fields[f]?=none):=by
 obtain⟨i,d,J,O,S,Y⟩:=Zn h;unfold Ae;simp only[J,O];cases d<;>try (refine .inr ⟨rfl,fun fields e=>by cases e⟩)
 rename_i E;simp only[zF,xP];cases G:E[f]? with
 |none=>exact .inr ⟨rfl,fun fields e=>by cases e;exact G⟩
 |some fd=>exact .inl ⟨E,fd,rfl,G,rfl⟩
theorem YP{t:TypeId}{row:List V}{off f:Nat}(h:(Ae P t).ok=true):BK P t (.tp row off) f=((Ae P t).afu[f]?).bind fun p=>if p.2.1=0 then none else some (.tp row (off+p.1)):=by
 rcases Qa (f:=f) h with ⟨fields,fd,E,G,J⟩|⟨E,G⟩
 .unfold BK
  simp only[E,G,J,zk];cases P.info? fd.type<;>rfl
 .unfold BK
  rw[E];cases hu:P.underlying t with
  |none=>rfl
  |some d=>cases d<;>first|(simp;done)|(rename_i O;simp[G O hu])
theorem YQ{t:TypeId}{b off f:Nat}(h:(Ae P t).ok=true):BK P t (.rp b off) f=((Ae P t).afu[f]?).bind fun p=>if p.2.1=0 then none else some (.rp b (off+p.1)):=by
 rcases Qa (f:=f) h with ⟨fields,fd,E,G,J⟩|⟨E,G⟩
 .unfold BK
  simp only[E,G,J,zk];cases P.info? fd.type<;>rfl
 .unfold BK
  rw[E];cases hu:P.underlying t with
  |none=>rfl
  |some d=>cases d<;>first|(simp;done)|(rename_i O;simp[G O hu])
theorem YR{t:TypeId}{row:List V}{len:Nat}{k:IntKind}{i:Int}(h:(Ae P t).slice=true)(E:(Ae P t).Si=true):CJ P t (.ts row len) (.sc (.int k i))=if 0<=i/\i<len/\row≠[]then some (.tp row (i.toNat *(Ae P t).G6))else none:=by
 obtain⟨e,S,z,G,J,_,_,O,_,_⟩:=Zm h E;unfold CJ;simp only[G,J,O]
theorem YS{t:TypeId}{b off len:Nat}{k:IntKind}{i:Int}(h:(Ae P t).slice=true)(E:(Ae P t).Si=true):CJ P t (.rs b off len) (.sc (.int k i))=if 0<=i/\i<len then some (.rp b (off+i.toNat *(Ae P t).G6))else none:=by
 obtain⟨e,S,z,G,J,_,_,O,_,_⟩:=Zm h E;unfold CJ;simp only[G,J,O]
theorem adl{t:TypeId}{l c:Int}(h:(Ae P t).slice=true)(J:(Ae P t).Si=true)(E:decide ((Ae P t).G6<1000000)=true):ER P t (.sc (.int .i64 l)) (.sc (.int .i64 c)) σ nx=
  if 0<=l/\l<=c/\((Ae P t).R_:Int)*c<=281474976710656/\c<=9223372036854775807/\0<(Ae P t).G6 then some (.rs nx 0 l.toNat,AA σ nx (rep l.toNat (Ae P t).Eh) (Ae P t).G6,nx+1)else none:=by
 obtain⟨e,ei,z,O,S,Y,h4,G,h6,h7⟩:=Zm h J;unfold ER;rw[decide_eq_true_eq]at E;simp only[G]at E;simp only[O,S,Y,G,h6,h7,h4,and_true,E]
theorem ng{t:TypeId}{len:Nat}{parts:List (Nat×V)}(h:(Ae P t).slice=true)(G:(Ae P t).Si=true):BX P t len parts σ nx=
  if len=0 then some (.nil,σ,nx)else if 0<(Ae P t).G6/\len*(Ae P t).G6<=1000 then
   match CV (fun j=>some (j*(Ae P t).G6,(Ae P t).G6)) (rep len (Ae P t).Eh) parts with
   |some cells=>some (.rs nx 0 len,AA σ nx cells (Ae P t).G6,nx+1)
   |none=>none
  else none:=by
 obtain⟨e,E,z,J,O,S,Y,h5,h6,h7⟩:=Zm h G;unfold BX;simp only[J,O,S,h5,h6,h7,Y,and_true];cases CV (fun j=>some (j*E.size,E.size)) (rep len (z.cells.toList.map BQ)) parts<;>rfl
theorem YT{t:TypeId}{parts:List (Nat×V)}(h:(Ae P t).bok=true):F9 P t parts=(CV (fun i=>(Ae P t).plc[i]?) (Ae P t).zero parts).map .agg:=by
 unfold Ae at h⊢;cases hi:P.info? t with
 |none=>simp[hi]at h
 |some i=>
  cases G:P.underlying t with
  |none=>simp[hi,G]at h
  |some d=>
   simp only[hi,G]at h⊢;cases d<;>simp only[xu]at h;rename_i S;rw[zD]at h;obtain⟨O,E⟩:=h;simp only[E,if_true];cases hm:xI P (S.mapM fun f=>do pure (f.offset,<- sizeOf f.type))with
   |none=>rw[hm]at O;cases O
   |some a=>
    unfold Jp at E;cases J:i.zero with
    |none=>simp[J]at E
    |some z=>
     simp only[J,decide_eq_true_eq]at E;unfold F9 places;simp only[hi,G,hm,zG,xE,J,zeroV,E,if_true,xP]
theorem Vz{t:TypeId}{s x:V}(h:(Ae P t).slice=true)(J:(Ae P t).Si=true)(hs:decide (0<(Ae P t).G6)=true)(E:decide ((Ae P t).G6<1000000)=true):DN P #[t,t] s x σ nx=
  (rowOf σ (Ae P t).G6 x).bind fun p=>Aj σ nx (Ae P t).G6 (Ae P t).R_ s p.1 p.2:=by
 obtain⟨e,O,z,S,Y,h3,h4,G,h6,h7⟩:=Zm h J;rw[G]at hs E;simp only[decide_eq_true_eq]at hs E;unfold DN;simp only[wO,wL,tJ,S,beq_self_eq_true,Y,h3,G,h6,h4,hs,E,and_self,if_true];cases rowOf σ O.size x<;>rfl
def Hu(σ:Store)(nx:Nat)(row:List V)(m:Nat):V->J6
 | .rs b off len=>if min m len=0 then some (.sc (.int .i64 0),σ,nx)else(σ b).bind fun B=>
   if B.wr=true/\off+min m len<=B.cells.length/\(row.take (min m len)).all vI=true then
    some (.sc (.int .i64 (min m len:Nat)),upd σ b (some { B with cells:=patch B.cells off (row.take (min m len)) }),nx)else none
 | .nil=>some (.sc (.int .i64 0),σ,nx)
 |_=>none
def Gg(σ:Store)(nx:Nat)(z:List V):V->J6
 | .rs b off len=>if len=0 then some (.Bf [],σ,nx)else(σ b).bind fun B=>
   if B.wr=true/\off+len<=B.cells.length/\(rep len z).all vI=true then
    some (.Bf [],upd σ b (some { B with cells:=patch B.cells off (rep len z) }),nx)else none
 | .nil=>some (.Bf [],σ,nx)
 | .ts _ len=>if len=0 then some (.Bf [],σ,nx)else none
 |_=>none
theorem adn{t E:TypeId}{d x:V}(h:(Ae P t).slice=true)(G:(Ae P t).Si=true)(hs:(Ae P t).G6=1):GI P #[t,E] d x σ nx=(rowOf σ 1 x).bind fun p=>Hu σ nx p.1 p.2 d:=by
 obtain⟨e,Y,z,J,O,h3,h4,S,h6,h7⟩:=Zm h G;rw[S]at hs;unfold GI Hu;simp only[wO,wL,J,O];cases rowOf σ 1 x with
 |none=>rfl
 |some p=>
  obtain⟨row,m⟩:=p;simp only[hs,vX,zW,yV,zk];rw[sN ⟨trivial,trivial⟩];cases d<;>try rfl
  rename_i b off len;simp only
  split
  .rfl
  .cases σ b<;>rfl
theorem YU{t:TypeId}{d:V}(h:(Ae P t).slice=true)(E:(Ae P t).Si=true)(hs:(Ae P t).G6=1):Gf P #[t] d σ nx=Gg σ nx (Ae P t).Eh d:=by
 obtain⟨e,ei,z,G,J,O,S,Y,h6,h7⟩:=Zm h E;rw[Y]at hs;unfold Gf Gg;rw[h7];simp only[wO,wL,G,J,O,S,hs];rw[sN ⟨trivial,trivial⟩];cases d<;>try rfl
 rename_i b off len;simp only
 split
 .rfl
 .cases σ b<;>rfl
theorem VA{t:TypeId}{row:List V}{len:Nat}(h:(Ae P t).slice=true):DR P t (.ts row len)=some (.sc (.int .i64 len)):=by
 unfold Ae at h;cases hi:P.info? t with
 |none=>simp[hi]at h
 |some i=>
  cases E:P.underlying t with
  |none=>simp[hi,E]at h
  |some d=>simp only[hi,E]at h;cases d<;>simp at h;simp[DR,E]
theorem nT{t:TypeId}{b off len:Nat}(h:(Ae P t).slice=true):DR P t (.rs b off len)=some (.sc (.int .i64 len)):=by
 unfold Ae at h;cases hi:P.info? t with
 |none=>simp[hi]at h
 |some i=>
  cases E:P.underlying t with
  |none=>simp[hi,E]at h
  |some d=>simp only[hi,E]at h;cases d<;>simp at h;simp[DR,E]
theorem nU{t:TypeId}(h:(Ae P t).slice=true):DR P t .nil=some (.sc (.int .i64 0)):=by
 unfold Ae at h;cases hi:P.info? t with
 |none=>simp[hi]at h
 |some i=>
  cases E:P.underlying t with
  |none=>simp[hi,E]at h
  |some d=>simp only[hi,E]at h;cases d<;>simp at h;simp[DR,E]
theorem Lm{t:TypeId}(h:(Ae P t).str=true):P.underlying t=some .string:=by
 unfold Ae at h;cases hi:P.info? t with
 |none=>simp[hi]at h
 |some i=>
  cases E:P.underlying t with
  |none=>simp[hi,E]at h
  |some d=>simp only[hi,E]at h;cases d<;>simp at h;rfl
theorem ado{t:TypeId}{s:ByteArray}(h:(Ae P t).str=true):DR P t (.sc (.string s))=some (.sc (.int .i64 s.size)):=by
 simp[DR,Lm h]
theorem adp{t:TypeId}{s:ByteArray}{k:IntKind}{i:Int}(h:(Ae P t).str=true):G5 P t (.sc (.string s)) (.sc (.int k i))=(if 0<=i then s[i.toNat]? else none).map fun b=> .sc (.int .u8 b.toNat):=by
 unfold G5;simp only[Lm h]
 split<;>rename_i e<;>rw[e]<;>rfl
theorem VB{t:TypeId}{s:ByteArray}{lo hi:Option V}(h:(Ae P t).str=true):AX P t (.sc (.string s)) lo hi none σ=(bnd lo 0).bind fun l=>(bnd hi s.size).bind fun h=>if l<=h/\h<=s.size then some (.sc (.string (s.extract l h)))else none:=by
 unfold AX;simp only[Lm h];cases bnd lo 0<;>cases bnd hi s.size<;>rfl
theorem YV{t:TypeId}{row:List V}{len:Nat}{lo hi:Option V}(h:(Ae P t).slice=true)(E:(Ae P t).Si=true):AX P t (.ts row len) lo hi none σ=(bnd lo 0).bind fun l=>(bnd hi len).bind fun h=>if l<=h/\h<=len then some (.ts ((row.drop (l*(Ae P t).G6)).take ((h-l)*(Ae P t).G6)) (h-l))else none:=by
 obtain⟨e,S,z,G,J,Y,h4,O,h6,h7⟩:=Zm h E;unfold AX;simp only[G,J,O];cases bnd lo 0<;>cases bnd hi len<;>rfl
theorem YW{t:TypeId}{b off len:Nat}{lo hi:Option V}(h:(Ae P t).slice=true)(E:(Ae P t).Si=true):AX P t (.rs b off len) lo hi none σ=(bnd lo 0).bind fun l=>(bnd hi len).bind fun h=>(σ b).bind fun B=>
  if l<=h/\0<(Ae P t).G6/\B.st=(Ae P t).G6/\off+h*(Ae P t).G6<=B.cells.length then
   if l=0 then some (.rs b off h)else if l=h then some (.ts [] 0)else some (.rs b (off+l*(Ae P t).G6) (h-l))else none:=by
 obtain⟨e,S,z,G,J,Y,h4,O,h6,h7⟩:=Zm h E;unfold AX;simp only[G,J,O];cases bnd lo 0<;>cases bnd hi len<;>cases σ b<;>rfl
theorem afv(v:Value):toVal (.sc v)=some v:=rfl
section
variable {t:TypeId} {x y:Operand} {k:IntKind} {a b:Int}
theorem am':Aw P .add t x y (.sc (.int k a)) (.sc (.int k b))=some (.sc (.int k (k.wrap (a+b)))):=by
 simp only[Aw,toVal,eqGuard_add,binOp_add,Op.intArith];rfl
theorem ana:Aw P .sub t x y (.sc (.int k a)) (.sc (.int k b))=some (.sc (.int k (k.wrap (a-b)))):=by
 simp only[Aw,toVal,eqGuard_sub,binOp_sub,Op.intArith];rfl
theorem anb:Aw P .mul t x y (.sc (.int k a)) (.sc (.int k b))=some (.sc (.int k (k.wrap (a*b)))):=by
 simp only[Aw,toVal,eqGuard_mul,binOp_mul,Op.intArith];rfl
theorem anc(h:b≠0):Aw P .quo t x y (.sc (.int k a)) (.sc (.int k b))=some (.sc (.int k (k.wrap (a.tdiv b)))):=by
 simp only[Aw,toVal,eqGuard_quo,binOp_quo,Op.intDiv,sO h];rfl
theorem ane(h:b≠0):Aw P .rem t x y (.sc (.int k a)) (.sc (.int k b))=some (.sc (.int k (a.tmod b))):=by
 simp only[Aw,toVal,eqGuard_rem,binOp_rem,Op.intDiv,sO h];rfl
theorem anf:Aw P .eql t x y (.sc (.int k a)) (.sc (.int k b))=some (.sc (.bool (a==b))):=by
 simp only[Aw,toVal,eqGuard_at_int,binOp_eql];rfl
theorem ang:Aw P .neq t x y (.sc (.int k a)) (.sc (.int k b))=some (.sc (.bool (a !=b))):=by
 simp only[Aw,toVal,eqGuard_at_int,binOp_neq];rfl
theorem anh:Aw P .lss t x y (.sc (.int k a)) (.sc (.int k b))=some (.sc (.bool (decide (a<b)))):=by
 simp only[Aw,toVal,eqGuard_lss,binOp_lss];rfl
theorem ani:Aw P .leq t x y (.sc (.int k a)) (.sc (.int k b))=some (.sc (.bool (decide (a<=b)))):=by
 simp only[Aw,toVal,eqGuard_leq,binOp_leq];rfl
theorem anj:Aw P .gtr t x y (.sc (.int k a)) (.sc (.int k b))=some (.sc (.bool (decide (b<a)))):=by
 simp only[Aw,toVal,eqGuard_gtr,binOp_gtr];rfl
theorem ank:Aw P .geq t x y (.sc (.int k a)) (.sc (.int k b))=some (.sc (.bool (decide (b<=a)))):=by
 simp only[Aw,toVal,eqGuard_geq,binOp_geq];rfl
theorem anl{p:Bool}:Yt P .not (.sc (.bool p))=some (.sc (.bool !p)):=rfl
theorem anm:Yt P .neg (.sc (.int k a))=some (.sc (.int k (k.wrap (0-a)))):=rfl
end
end
end Go.TV
namespace Go.TV
set_option linter.unusedVariables false
set_option linter.unusedSimpArgs false
variable [Known]
section
variable {P:Program} {conv:FuncId->Conv} {call:Call}
def afw(P:Program)(conv:FuncId->Conv)(call:Call)(ops:Array Oper)(rest:List Oper)(T:Nat->V)(d:Option Tmp):J6->Option St
 |some (v,σ,nx)=>B_ P conv call ops rest ⟨C9 T d v,σ,nx⟩
 |none=>none
def ajk(P:Program)(conv:FuncId->Conv)(call:Call)(ops:Array Oper)(rest:List Oper)(o:Oper)(s:St):Option Bool->Option St
 |some true=>afw P conv call ops rest s.T o.dst (AP P conv call o s.T s.σ s.nx)
 |some false=>B_ P conv call ops rest ⟨C9 s.T o.dst (.Bf []),s.σ,s.nx⟩
 |none=>none
theorem adq(ops:Array Oper)(s:St):B_ P conv call ops [] s=some s:=rfl
theorem YX(ops:Array Oper)(d:Option Tmp)(op:Op)(ty:TypeId)(ps:String)(af:Array Edge)(rest:List Oper)(T:Nat->V)(σ:Store)(nx:Nat) :
  B_ P conv call ops (⟨d,op,ty,ps,af,none⟩ :: rest) ⟨T,σ,nx⟩=afw P conv call ops rest T d (AP P conv call ⟨d,op,ty,ps,af,none⟩ T σ nx):=by
 show(match AP P conv call ⟨d,op,ty,ps,af,none⟩ T σ nx with|some (v,σ',nx')=>_|none=>none)=_;cases AP P conv call ⟨d,op,ty,ps,af,none⟩ T σ nx<;>rfl
theorem VD(ops:Array Oper)(d:Option Tmp)(op:Op)(ty:TypeId)(ps:String)(af:Array Edge)(g:Nat×Bool)(rest:List Oper)(T:Nat->V)(σ:Store)(nx:Nat) :
  B_ P conv call ops (⟨d,op,ty,ps,af,some g⟩ :: rest) ⟨T,σ,nx⟩=ajk P conv call ops rest ⟨d,op,ty,ps,af,some g⟩ ⟨T,σ,nx⟩ (Bq ops T ⟨d,op,ty,ps,af,some g⟩):=by
 show(match Bq ops T ⟨d,op,ty,ps,af,some g⟩with|some true=>_|some false=>_|none=>none)=_;cases Bq ops T ⟨d,op,ty,ps,af,some g⟩with
 |none=>rfl
 |some b=>
  cases b with
  |false=>rfl
  |true=>
   simp only[ajk];cases AP P conv call ⟨d,op,ty,ps,af,some g⟩ T σ nx<;>rfl
theorem adr(ops:Array Oper)(rest:List Oper)(T:Nat->V)(d:Tmp)(v:V)(σ:Store)(nx:Nat):afw P conv call ops rest T (some d) (some (v,σ,nx))=B_ P conv call ops rest ⟨upd T d v,σ,nx⟩:=rfl
theorem ads(ops:Array Oper)(rest:List Oper)(T:Nat->V)(v:V)(σ:Store)(nx:Nat):afw P conv call ops rest T none (some (v,σ,nx))=B_ P conv call ops rest ⟨T,σ,nx⟩:=rfl
theorem adt(ops:Array Oper)(rest:List Oper)(d:Option Tmp)(op:Op)(ty:TypeId)(ps:String)(af:Array Edge)(g:Option (Nat×Bool))(T:Nat->V)(σ:Store)(nx:Nat) :
  ajk P conv call ops rest ⟨d,op,ty,ps,af,g⟩ ⟨T,σ,nx⟩ (some true)=afw P conv call ops rest T d (AP P conv call ⟨d,op,ty,ps,af,g⟩ T σ nx):=rfl
theorem YZ(ops:Array Oper)(rest:List Oper)(d:Tmp)(op:Op)(ty:TypeId)(ps:String)(af:Array Edge)(g:Option (Nat×Bool))(T:Nat->V)(σ:Store)(nx:Nat) :
  ajk P conv call ops rest ⟨some d,op,ty,ps,af,g⟩ ⟨T,σ,nx⟩ (some false)=B_ P conv call ops rest ⟨upd T d (.Bf []),σ,nx⟩:=rfl
def Sj(want:Bool):V->Option Bool
 | .sc (.bool b)=>some (b==want)
 | .Bf []=>some false
 |_=>none
theorem Sl(ops:Array Oper)(d:Option Tmp)(op:Op)(ty:TypeId)(ps:String)(af:Array Edge)(j:Nat)(want:Bool)(T:Nat->V) :
  Bq ops T ⟨d,op,ty,ps,af,some (j,want)⟩=match(ops[j]?).bind (·.dst)with|some d=>Sj want (T d)|none=>some false:=by
 unfold Bq Sj;rfl
theorem VE(want b:Bool):Sj want (.sc (.bool b))=some (b==want):=rfl
theorem Sm(want:Bool):Sj want (.Bf [])=some false:=rfl
theorem ajl(T:Nat->V)(t:Tmp):val T (.tmp t)=T t:=rfl
theorem adu(T:Nat->V)(v:Value):val T (.const v)=He v:=rfl
theorem afx(T:Nat->V)(f:FuncId):val T (.func f)= .clo f []:=rfl
section
variable (d:Option Tmp) (ty:TypeId) (ps:String) (af:Array Edge) (gd:Option (Nat×Bool)) (T:Nat->V) (σ:Store) (nx:Nat)
theorem ajm(x:Operand):AP P conv call ⟨d,.move x,ty,ps,af,gd⟩ T σ nx=some (val T x,σ,nx):=rfl
theorem adv(x:Operand):AP P conv call ⟨d,.assign x,ty,ps,af,gd⟩ T σ nx=some (val T x,σ,nx):=rfl
def abM(a b:V):V->Option V
 | .sc (.bool t)=>some (if t then a else b)
 |_=>none
theorem abN(c a b:Operand):AP P conv call ⟨d,.pick c a b,ty,ps,af,gd⟩ T σ nx=(abM (val T a) (val T b) (val T c)).map (·,σ,nx):=by
 simp only[AP];unfold abM
 split<;>simp_all
theorem Y0(a b:V)(t:Bool):abM a b (.sc (.bool t))=some (if t then a else b):=rfl
theorem aqQ:isB []=false:=id rfl
theorem aqR(v:V):isB [v]=false:=id rfl
theorem aqS(u v w:V)(l:List V):isB (u :: v :: w :: l)=false:=id rfl
theorem ano(v w:V):isB [v,w]=(isP v && isN w):=id rfl
theorem ajn:isP .nil=false:=id rfl
theorem ajo(k:IntKind)(n:Int):isP (.sc (.int k n))=false:=id rfl
theorem afy(b:Bool):isP (.sc (.bool b))=false:=id rfl
theorem Y1(b:ByteArray):isP (.sc (.string b))=false:=id rfl
theorem afz:isP (.sc (.pointer none))=true:=id rfl
theorem ajp:isN .nil=true:=id rfl
theorem anp(v:Value):isN (.sc v)=false:=id rfl
theorem VF(t:TypeId)(h:(Ae P t).ok=true)(E:decide ((Ae P t).zero.length=(Ae P t).size)=true)(J:decide (0<(Ae P t).size)=true)(hb:isB (Ae P t).zero=false):AP P conv call ⟨d,.alloc t,ty,ps,af,gd⟩ T σ nx=some (.rp nx 0,AA σ nx (Ae P t).zero 0,nx+1):=by
 obtain⟨i,Y,O,S,h3,h4⟩:=Zn h;simp only[AP,O];unfold Ae at E J hb⊢;simp only[O,S,decide_eq_true_eq]at E J hb⊢;unfold Jp zeroV at *;cases G:i.zero with
 |none=>simp[G]at E;omega
 |some z=>
  simp only[G]at E hb⊢
  by_cases hs:z.cells.size=i.size
  .simp only[hs,decide_true,if_true]at hb
   simp[hs,PZ,hb]
  .simp[hs]at E;omega
theorem afA(t:TypeId)(x:Operand):AP P conv call ⟨d,.box t x,ty,ps,af,gd⟩ T σ nx=(cellsOfV (val T x)).map fun cs=>(.rp nx 0,AA σ nx cs 0,nx+1):=by
 simp only[AP];cases cellsOfV (val T x)<;>rfl
theorem afB(t:TypeId)(parts:Array (Nat×Operand)):AP P conv call ⟨d,.build t parts,ty,ps,af,gd⟩ T σ nx=(F9 P t (parts.toList.map fun p=>(p.1,val T p.2))).map (·,σ,nx):=rfl
theorem iT(t:TypeId)(len:Nat)(parts:Array (Nat×Operand))(h:(decide (len=0) && !parts.isEmpty)=false):AP P conv call ⟨d,.buildSlice t len parts,ty,ps,af,gd⟩ T σ nx=BX P t len (parts.toList.map fun p=>(p.1,val T p.2)) σ nx:=by
 simp only[AP,h,xu,if_false]
theorem ajq(t:TypeId)(a:Operand):AP P conv call ⟨d,.load t a,ty,ps,af,gd⟩ T σ nx=(A8 P σ t (val T a)).map (·,σ,nx):=rfl
theorem afC(t:TypeId)(a x:Operand):AP P conv call ⟨d,.store t a x,ty,ps,af,gd⟩ T σ nx=(Du P σ t (val T a) (val T x)).map (.Bf [],·,nx):=rfl
def afD:V->Option V
 | .tp row off=>some (.tp row off)
 | .rp b off=>some (.rp b off)
 |_=>none
theorem Kt(x:Operand):AP P conv call ⟨d,.nilCheck x,ty,ps,af,gd⟩ T σ nx=(afD (val T x)).map (·,σ,nx):=by
 simp only[AP];unfold afD
 split<;>simp_all
theorem ajr(row:List V)(off:Nat):afD (.tp row off)=some (.tp row off):=rfl
theorem ajs(b off:Nat):afD (.rp b off)=some (.rp b off):=rfl
theorem afE(op:BinOp)(t:TypeId)(x y:Operand)(E:TypeId):AP P conv call ⟨d,.binOp op t x y E,ty,ps,af,gd⟩ T σ nx=(Aw P op t x y (val T x) (val T y)).map (·,σ,nx):=rfl
theorem ajt(op:UnOp)(t:TypeId)(x:Operand):AP P conv call ⟨d,.unOp op t x,ty,ps,af,gd⟩ T σ nx=(Yt P op (val T x)).map (·,σ,nx):=rfl
theorem Y2(s e:TypeId)(x:Operand):AP P conv call ⟨d,.convert s e x,ty,ps,af,gd⟩ T σ nx=(BA P s e (val T x) σ).map (·,σ,nx):=rfl
theorem VG(f:FuncId)(cap:Array Operand):AP P conv call ⟨d,.makeFunc (.func f) #[] cap,ty,ps,af,gd⟩ T σ nx=some (.clo f (cap.toList.map (val T)),σ,nx):=rfl
theorem Ih(t:TypeId)(l c:Operand):AP P conv call ⟨d,.makeSlice t l c,ty,ps,af,gd⟩ T σ nx=ER P t (val T l) (val T c) σ nx:=rfl
theorem afF(t:TypeId)(x:Operand)(lo hi E:Option Operand):AP P conv call ⟨d,.slice t x lo hi E,ty,ps,af,gd⟩ T σ nx=(AX P t (val T x) (lo.map (val T)) (hi.map (val T)) (E.map (val T)) σ).map (·,σ,nx):=rfl
theorem Sr(t:TypeId)(x:Operand)(f:Nat):AP P conv call ⟨d,.fieldAddr t x f,ty,ps,af,gd⟩ T σ nx=(BK P t (val T x) f).map (·,σ,nx):=rfl
theorem afG(t:TypeId)(x:Operand)(f:Nat):AP P conv call ⟨d,.field t x f,ty,ps,af,gd⟩ T σ nx=(Ll P t (val T x) f).map (·,σ,nx):=rfl
theorem Sv(t:TypeId)(x i:Operand):AP P conv call ⟨d,.indexAddr t x i,ty,ps,af,gd⟩ T σ nx=(CJ P t (val T x) (val T i)).map (·,σ,nx):=rfl
theorem afH(t:TypeId)(x i:Operand):AP P conv call ⟨d,.index t x i,ty,ps,af,gd⟩ T σ nx=(G5 P t (val T x) (val T i)).map (·,σ,nx):=rfl
def aju(i:Nat):V->Option V
 | .Bf vs=>vs[i]?
 |_=>none
theorem MR(x:Operand)(i:Nat):AP P conv call ⟨d,.extract x i,ty,ps,af,gd⟩ T σ nx=(aju i (val T x)).map (·,σ,nx):=by
 simp only[AP];unfold aju
 split<;>simp_all
theorem afI(i:Nat)(vs:List V):aju i (.Bf vs)=vs[i]?:=rfl
def afJ(conv:FuncId->Conv)(call:Call)(args:List V)(σ:Store)(nx:Nat):V->J6
 | .clo g cs=>CB conv call g (args++cs) σ nx
 |_=>none
theorem Ls(f:Operand)(args:Array Operand)(ts:Array TypeId):AP P conv call ⟨d,.call ⟨.value f,args,ts⟩,ty,ps,af,gd⟩ T σ nx=afJ conv call (args.toList.map (val T)) σ nx (val T f):=by
 simp only[AP];unfold afJ;rfl
theorem qE(args:List V)(σ:Store)(nx:Nat)(g:FuncId)(cs:List V):afJ conv call args σ nx (.clo g cs)=CB conv call g (args++cs) σ nx:=rfl
theorem anq(x:Operand)(t:TypeId):AP P conv call ⟨d,.call ⟨.builtin .len,#[x],#[t]⟩,ty,ps,af,gd⟩ T σ nx=(DR P t (val T x)).map (·,σ,nx):=rfl
theorem ajv(a x:Operand)(t u:TypeId):AP P conv call ⟨d,.call ⟨.builtin .copy,#[a,x],#[t,u]⟩,ty,ps,af,gd⟩ T σ nx=GI P #[t,u] (val T a) (val T x) σ nx:=rfl
theorem afK(a:Operand)(t:TypeId):AP P conv call ⟨d,.call ⟨.builtin .clear,#[a],#[t]⟩,ty,ps,af,gd⟩ T σ nx=Gf P #[t] (val T a) σ nx:=rfl
theorem Qb(a x:Operand)(t u:TypeId):AP P conv call ⟨d,.call ⟨.builtin .append,#[a,x],#[t,u]⟩,ty,ps,af,gd⟩ T σ nx=DN P #[t,u] (val T a) (val T x) σ nx:=rfl
end
def VH:Option St->Option (Ex×St)
 |some s=>some (.norm,s)
 |none=>none
theorem Y3(s:St):VH (some s)=some (.norm,s):=rfl
def Jq(id:Nat):Option (Ex×St)->Option (Ex×St)
 |some (.exit j,s)=>if j=id then some (.norm,s)else some (.exit j,s)
 |r=>r
theorem VI(id:Nat)(s:St):Jq id (some (.norm,s))=some (.norm,s):=rfl
theorem Y4(id:Nat)(s:St):Jq id (some (.ret,s))=some (.ret,s):=rfl
theorem VJ(id j:Nat)(s:St):Jq id (some (.exit j,s))=if j=id then some (.norm,s)else some (.exit j,s):=rfl
noncomputable def afL(body:St->Option (Ex×St)):Option (Ex×St)->Option (Ex×St)
 |some (.norm,s)=>jI body s
 |r=>r
theorem Y5(body:St->Option (Ex×St))(s:St):afL body (some (.norm,s))=jI body s:=rfl
theorem adw(body:St->Option (Ex×St))(s:St):afL body (some (.ret,s))=some (.ret,s):=rfl
theorem Y6(body:St->Option (Ex×St))(i:Nat)(s:St):afL body (some (.exit i,s))=some (.exit i,s):=rfl
def adx(P:Program)(rs:List ResultVar):Option (Ex×St)->J6
 |some (.norm,st)=>(Ai P st.T st.σ rs).map fun vs=>(oneOf vs,st.σ,st.nx)
 |some (.ret,st)=>(Ai P st.T st.σ rs).map fun vs=>(oneOf vs,st.σ,st.nx)
 |_=>none
theorem VK(rs:List ResultVar)(body:Code)(s:St):Vx P conv call rs body s=adx P rs (AB P conv call body s):=by
 unfold Vx adx;cases AB P conv call body s with
 |none=>rfl
 |some q=>
  obtain⟨e,st⟩:=q;cases e<;>simp only<;>cases Ai P st.T st.σ rs<;>rfl
theorem ady(rs:List ResultVar)(T:Nat->V)(σ:Store)(nx:Nat):adx P rs (some (.norm,⟨T,σ,nx⟩))=(Ai P T σ rs).map fun vs=>(oneOf vs,σ,nx):=rfl
theorem afM(rs:List ResultVar)(T:Nat->V)(σ:Store)(nx:Nat):adx P rs (some (.ret,⟨T,σ,nx⟩))=(Ai P T σ rs).map fun vs=>(oneOf vs,σ,nx):=rfl
theorem afN(T:Nat->V)(σ:Store)(t:Tmp):Ai P T σ [.tmp t]=some [T t]:=rfl
theorem ajw(T:Nat->V)(σ:Store):Ai P T σ []=some []:=rfl
theorem afO(T:Nat->V)(σ:Store)(t u:Tmp):Ai P T σ [.tmp t,.tmp u]=some [T t,T u]:=rfl
theorem afP(T:Nat->V)(σ:Store)(t u v:Tmp):Ai P T σ [.tmp t,.tmp u,.tmp v]=some [T t,T u,T v]:=rfl
theorem adz(T:Nat->V)(σ:Store)(a:Tmp)(t:TypeId):Ai P T σ [.cell a t]=(A8 P σ t (T a)).map fun v=>[v]:=by
 simp only[Ai];cases A8 P σ t (T a)<;>rfl
theorem adA(v:V):oneOf [v]=v:=rfl
theorem adB(u v:V):oneOf [u,v]= .Bf [u,v]:=rfl
theorem VL(u v w:V):oneOf [u,v,w]= .Bf [u,v,w]:=rfl
theorem Y7:oneOf []= .Bf []:=rfl
theorem adC(l:List V)(i:Nat):DJ l i=(l[i]?).getD (.Bf []):=rfl
theorem adD(k:IntKind)(n:Int):He (.int k n)= .sc (.int k n):=rfl
theorem Y8(b:Bool):He (.bool b)= .sc (.bool b):=rfl
theorem Sz(s:ByteArray):He (.string s)= .sc (.string s):=rfl
theorem Y9:He (.pointer none)= .sc (.pointer none):=rfl
theorem Y_:He (.slice none 0 0)= .nil:=rfl
theorem adE(l:List Value):He (.agg l.toArray)= .agg (l.map BQ):=rfl
end
end Go.TV
namespace Go.TV
set_option linter.unusedVariables false
set_option linter.unusedSimpArgs false
variable [Known]
section
variable {P:Program} {conv:FuncId->Conv} {call:Call}
def C_(P:Program)(conv:FuncId->Conv)(call:Call)(ops:Array Oper):List Oper->St->Option St
 |[],s=>some s
 |o :: rest,s=>match Bq ops s.T o with
  |some true=>match Aq P conv call o s.T s.σ s.nx with
   |some (v,σ',nx')=>C_ P conv call ops rest ⟨C9 s.T o.dst v,σ',nx'⟩
   |none=>none
  |some false=>C_ P conv call ops rest ⟨C9 s.T o.dst (.Bf []),s.σ,s.nx⟩
  |none=>none
theorem Jr(ops:Array Oper):∀(l:List Oper) (s:St),C_ P conv call ops l s=(BG P conv call ops l s).map (·.1)
 |[],s=>rfl
 |o :: l,s=>by
  unfold C_ BG;cases Bq ops s.T o with
  |none=>rfl
  |some b=>
   cases b with
   |true=>
    simp only;cases Aq P conv call o s.T s.σ s.nx with
    |none=>rfl
    |some q=>
     obtain⟨v,σ',nx'⟩:=q;simp only;rw[Jr ops l];cases BG P conv call ops l ⟨C9 s.T o.dst v,σ',nx'⟩<;>rfl
   |false=>
    simp only;rw[Jr ops l];cases BG P conv call ops l ⟨C9 s.T o.dst (.Bf []),s.σ,s.nx⟩<;>rfl
def Js(conv:FuncId->Conv)(ops:Array Oper):Bool:=Vg ops && (Ht conv ops.toList).isEmpty
theorem SA{ops:Array Oper}(h:Js conv ops=true)(s:St):CS P conv call ops s=C_ P conv call ops ops.toList s:=by
 unfold Js at h;rw[zD]at h;have hw:Ht conv ops.toList=[]:=by simpa using h.2
 unfold CS;rw[sN h.1,Jr,hw];cases BG P conv call ops ops.toList s with
 |none=>rfl
 |some q=>obtain⟨s',E⟩:=q;rfl
def Ii(af:Array Edge)(i:Nat):Bool:=af.any fun e=>Region.binds .any e && e.on==i
def okG(af:Array Edge)(w:Bool)(ids:List Nat):List (Nat×Bool×List Nat)->Bool
 |[]=>true
 |p :: acc=>(if(w||p.2.1)=true then(if Ii af p.1=true then true else p.2.2.all fun b=> !ids.contains b)else true) && okG af w ids acc
def okF(af:Array Edge)(acc:List (Nat×Bool×List Nat))(w:Bool):List Nat->Bool
 |[]=>true
 |b :: bs=>okG af w (b :: bs) acc
def VN(acc:List (Nat×Bool×List Nat))(k:Nat)(w:Bool):List Nat->List (Nat×Bool×List Nat)
 |[]=>acc
 |b :: bs=>acc++[(k,w,b :: bs)]
def Dc(P:Program)(conv:FuncId->Conv)(call:Call)(ops:Array Oper):List Oper->Nat->List (Nat×Bool×List Nat)->St->Option St
 |[],_,_,s=>some s
 |o :: rest,k,acc,s=>match Bq ops s.T o with
  |some true=>if okF o.after acc (writer conv o) (Af conv s.T s.σ o)=true then(match Aq P conv call o s.T s.σ s.nx with
   |some (v,σ',nx')=>Dc P conv call ops rest (k+1) (VN acc k (writer conv o) (Af conv s.T s.σ o)) ⟨C9 s.T o.dst v,σ',nx'⟩
   |none=>none)else none
  |some false=>Dc P conv call ops rest (k+1) acc ⟨C9 s.T o.dst (.Bf []),s.σ,s.nx⟩
  |none=>none
def Apart(l:List Oper)(E:List (Bool×List Nat)):Prop:=∀(i j:Nat) o p q,i<j->l[j]?=some o->E[i]?=some p->E[j]?=some q->(q.1||p.1)=true->FM o i≠true->∀b∈p.2,b∉q.2
def Told(E:List (Bool×List Nat))(acc:List (Nat×Bool×List Nat)):Prop:=∀(i:Nat) p,E[i]?=some p->p.2≠[]->(i,p.1,p.2)∈acc
theorem VO{af:Array Edge}{w:Bool}{ids:List Nat}:∀ {acc:List (Nat×Bool×List Nat)},okG af w ids acc=true->∀p∈acc,(w||p.2.1)=true->Ii af p.1≠true->∀b∈p.2.2,b∉ids
 |[],_,p,hp,_,_,_,_=>by cases hp
 |q :: acc,h,p,hp,hw,he,b,hb=>by
  unfold okG at h;rw[zD]at h;rcases List.mem_cons.mp hp with rfl|hp
  .have E:=h.1
   rw[sN hw,sO he]at E;have:=List.all_eq_true.mp E b hb
   simpa using this
  .exact VO h.2 p hp hw he b hb
theorem MS{l:List Oper}{o:Oper}{O:List (Bool×List Nat)}{acc:List (Nat×Bool×List Nat)}{w:Bool}{ids:List Nat}(hl:l.length=O.length)(h:Apart l O)(ht:Told O acc)(ho:okF o.after acc w ids=true):Apart (l++[o]) (O++[(w,ids)]):=by
 intro i j o' p q S E hp G hw he b hb J;rcases Nat.lt_trichotomy j O.length with Y|Y|Y
 .rw[zV Y]at G
  rw[zV (by omega)]at hp;rw[zV (by omega)]at E;exact h i j o' p q S E hp G hw he b hb J
 .subst Y
  rw[zM (zq _),yQ]at G;simp only[wL,sS]at G;subst G;rw[zV S]at hp;rw[zM (by omega),hl,yQ]at E;simp only[wL,sS]at E;subst E;cases ids with
  |nil=>cases J
  |cons c cs=>exact VO ho _ (ht i p hp (fun e=>by rw[e]at hb;cases hb)) hw he b hb J
 .rw[yw (by simp;omega)]at G
  cases G
theorem Qc{E:List (Bool×List Nat)}{acc:List (Nat×Bool×List Nat)}(S:Told E acc)(w:Bool)(ids:List Nat):Told (E++[(w,ids)]) (VN acc E.length w ids):=by
 intro i p hp G;have J:∀x,x∈acc->x∈VN acc E.length w ids:=fun x O=>by cases ids with
  |nil=>exact O
  |cons c cs=>exact zB _ O
 rcases Nat.lt_trichotomy i E.length with hi|hi|hi
 .rw[zV hi]at hp
  exact J _ (S i p hp G)
 .subst hi
  rw[zM (zq _),yQ]at hp;simp only[wL,sS]at hp;subst hp;cases ids with
  |nil=>exact absurd rfl G
  |cons c cs=>exact yj _ (by simp)
 .rw[yw (by simp;omega)]at hp
  cases hp
theorem nJ(ops:Array Oper):∀(l pre:List Oper) (k:Nat) (E:List (Bool×List Nat)) (acc:List (Nat×Bool×List Nat)) (s s':St),k=E.length->pre.length=E.length->Apart pre E->Told E acc->Dc P conv call ops l k acc s=some s' ->
  ∃G,BG P conv call ops l s=some (s',G)/\G.length=l.length/\Apart (pre++l) (E++(l.zip G).map fun p=>(writer conv p.1,p.2))
 |[],pre,k,E,acc,s,s',hk,hl,ha,ht,h=>by
  unfold Dc at h;cases h;exact⟨[],rfl,rfl,by simpa using ha⟩
 |o :: l,pre,k,E,acc,s,s',hk,hl,ha,ht,h=>by
  unfold Dc at h;unfold BG;cases hw:Bq ops s.T o with
  |none=>rw[hw]at h;cases h
  |some b=>
   rw[hw]at h;cases b with
   |true=>
    simp only at h⊢
    by_cases J:okF o.after acc (writer conv o) (Af conv s.T s.σ o)=true
    .rw[sN J]at h
     cases hr:Aq P conv call o s.T s.σ s.nx with
     |none=>rw[hr]at h;cases h
     |some q=>
      obtain⟨v,σ',nx'⟩:=q;rw[hr]at h;subst hk;obtain⟨G,O,S,Y⟩:=nJ ops l (pre++[o]) _ (E++[(writer conv o,Af conv s.T s.σ o)]) _ _ s' (by simp) (by simp[hl]) (MS hl ha ht J) (Qc ht _ _) h;refine⟨Af conv s.T s.σ o :: G,?_,by simp[S],by simpa using Y⟩;simp only;rw[O]
    .rw[sO J]at h;cases h
   |false=>
    simp only at h⊢;subst hk;obtain⟨G,O,S,Y⟩:=nJ ops l (pre++[o]) _ (E++[(writer conv o,[])]) _ _ s' (by simp) (by simp[hl]) (MS hl ha ht rfl) (Qc ht _ []) h;refine⟨[] :: G,?_,by simp[S],by simpa using Y⟩;rw[O]
theorem Pe{l:List Oper}{E:List (List Nat)}(hl:E.length=l.length)(h:Apart l ((l.zip E).map fun p=>(writer conv p.1,p.2))):RV E (Ht conv l)=true:=by
 unfold RV;refine List.all_eq_true.mpr ?_;rintro ⟨i,j⟩ hm;unfold Ht at hm;simp only[List.mem_flatMap,List.mem_filterMap]at hm;obtain⟨⟨o,j'⟩,hj,⟨p,i'⟩,hi,G⟩:=hm;simp only at G
 split at G
 .cases G
 .rename_i a1
  split at G
  .rename_i a2
   simp only[sS,sQ]at G;obtain⟨rfl,rfl⟩:=G;have a3:=List.mem_zipIdx' hj;have a4:=List.mem_zipIdx' hi;obtain⟨J,O⟩:=a3;obtain⟨a5,S⟩:=a4;simp only[zf]at a5;refine List.all_eq_true.mpr fun b hb=>?_
   have Y:i'<E.length:=by omega
   have a0:j'<E.length:=by omega
   rw[zy Y,xE]at hb;rw[zy a0,xE];have hz:∀(k:Nat) (h1:k<l.length) (h2:k<E.length),((l.zip E).map fun p=>(writer conv p.1,p.2))[k]?=some (writer conv l[k],E[k]):=by
    intro k h1 h2;rw[zF,zy (by simp;omega)];simp
   have:=h i' j' o _ _ (by omega) (by rw[zy J,O]) (hz i' (by omega) Y) (hz j' J a0) (by
    rw[List.getElem_take]at S;rw[<- O,<- S];exact a2) a1 b hb
   simpa using this
  .cases G
def MV(P:Program)(conv:FuncId->Conv)(call:Call)(ops:Array Oper)(s0:St):Option St->Option St
 |some s=>some s
 |none=>CS P conv call ops s0
theorem afQ{ops:Array Oper}(E:Vg ops=true)(s:St):MV P conv call ops s (Dc P conv call ops ops.toList 0 [] s)=CS P conv call ops s:=by
 cases h:Dc P conv call ops ops.toList 0 [] s with
 |none=>rfl
 |some s'=>
  obtain⟨S,G,J,O⟩:=nJ ops ops.toList [] 0 [] [] s s' rfl rfl (by intro i j o p q _ _ hp;simp at hp) (by intro i p hp;simp at hp) h;unfold MV CS;rw[sN E,G];simp only;rw[sN (Pe J (by simpa using O))]
def BO(conv:FuncId->Conv)(ex:List Nat):Code->Bool
 | .region id ops draw=> !draw||(ex.contains id && Vg ops)||Js conv ops
 | .seq a b=>BO conv ex a && BO conv ex b
 | .cond _ a b=>BO conv ex a && BO conv ex b
 | .block _ c=>BO conv ex c
 | .loop c=>BO conv ex c
 |_=>true
noncomputable def Gs(P:Program)(conv:FuncId->Conv)(call:Call)(ex:List Nat):Code->St->Option (Ex×St)
 | .skip,s=>some (.norm,s)
 | .region id ops draw,s=>VH (if draw then(if id∈ex then MV P conv call ops s (Dc P conv call ops ops.toList 0 [] s)else C_ P conv call ops ops.toList s)else B_ P conv call ops ops.toList s)
 | .seq a b,s=>match Gs P conv call ex a s with
  |some (.norm,s')=>Gs P conv call ex b s'
  |r=>r
 | .cond c a b,s=>match val s.T c with
  | .sc (.bool true)=>Gs P conv call ex a s
  | .sc (.bool false)=>Gs P conv call ex b s
  |_=>none
 | .block id c,s=>Jq id (Gs P conv call ex c s)
 | .loop c,s=>jI (Gs P conv call ex c) s
 | .exit id,s=>some (.exit id,s)
 | .ret,s=>some (.ret,s)
 |_,_=>none
theorem afR{ex:List Nat}:∀(c:Code),BO conv ex c=true->∀s,AB P conv call c s=Gs P conv call ex c s:=by
 intro c
 induction c with
 |region id ops draw=>
  intro h s;simp only[BO,Gs,AB]at *;cases draw with
  |false=>simp only[xu,if_false];cases B_ P conv call ops ops.toList s<;>rfl
  |true=>
   simp only[if_true]
   by_cases hid:id∈ex
   .rw[sN hid]
    by_cases O:Vg ops=true
    .rw[afQ O];cases CS P conv call ops s<;>rfl
    .have J:Js conv ops=true:=by simpa[O]using h
     unfold Js at J;rw[zD]at J;exact absurd J.1 O
   .rw[sO hid]
    have J:Js conv ops=true:=by simpa[hid]using h
    rw[SA J];cases C_ P conv call ops ops.toList s<;>rfl
 |seq a b E G=>
  intro h s;simp only[BO,zD]at h;simp only[Gs,AB];rw[E h.1];cases Gs P conv call ex a s with
  |none=>rfl
  |some q=>obtain⟨e,s'⟩:=q;cases e<;>first|exact G h.2 s'|rfl
 |cond v a b E G=>
  intro h s;simp only[BO,zD]at h;simp only[Gs,AB,E h.1,G h.2]
  all_goals rfl
 |block id c S=>
  intro h s;simp only[BO]at h;simp only[Gs,AB,Jq];rw[S h]
  all_goals rfl
 |loop c S=>
  intro h s;simp only[BO]at h;simp only[Gs,AB];rw[show AB P conv call c=Gs P conv call ex c from funext (S h)]
 |_=>intro h s;rfl
noncomputable def sK(P:Program)(conv:FuncId->Conv)(call:Call)(ex:List Nat)(b:Code):Option (Ex×St)->Option (Ex×St)
 |some (.norm,s)=>Gs P conv call ex b s
 |r=>r
variable {ex:List Nat}
theorem aqT(a b:Code)(s:St):Gs P conv call ex (.seq a b) s=sK P conv call ex b (Gs P conv call ex a s):=by
 show(match Gs P conv call ex a s with|some (.norm,s')=>Gs P conv call ex b s'|r=>r)=_;unfold sK;rfl
theorem ajx(b:Code)(s:St):sK P conv call ex b (some (.norm,s))=Gs P conv call ex b s:=rfl
theorem anr(b:Code)(s:St):sK P conv call ex b (some (.ret,s))=some (.ret,s):=rfl
theorem ajy(b:Code)(i:Nat)(s:St):sK P conv call ex b (some (.exit i,s))=some (.exit i,s):=rfl
theorem afS(id:Nat)(l:List Oper)(s:St):Gs P conv call ex (.region id l.toArray false) s=VH (B_ P conv call l.toArray l s):=rfl
theorem ant(id:Nat)(l:List Oper)(s:St):Gs P conv call [] (.region id l.toArray true) s=VH (C_ P conv call l.toArray l s):=rfl
theorem anu(s:St):Gs P conv call ex .skip s=some (.norm,s):=rfl
theorem aqU(s:St):Gs P conv call ex .ret s=some (.ret,s):=rfl
theorem anv(i:Nat)(s:St):Gs P conv call ex (.exit i) s=some (.exit i,s):=rfl
noncomputable def cK(P:Program)(conv:FuncId->Conv)(call:Call)(ex:List Nat)(a b:Code)(s:St):V->Option (Ex×St)
 | .sc (.bool true)=>Gs P conv call ex a s
 | .sc (.bool false)=>Gs P conv call ex b s
 |_=>none
theorem anw(c:Operand)(a b:Code)(T:Nat->V)(σ:Store)(nx:Nat):Gs P conv call ex (.cond c a b) ⟨T,σ,nx⟩=cK P conv call ex a b ⟨T,σ,nx⟩ (val T c):=by
 show(match val T c with| .sc (.bool true)=>_| .sc (.bool false)=>_|_=>none)=_;unfold cK;rfl
theorem ajz(a b:Code)(s:St):cK P conv call ex a b s (.sc (.bool true))=Gs P conv call ex a s:=rfl
theorem afT(a b:Code)(s:St):cK P conv call ex a b s (.sc (.bool false))=Gs P conv call ex b s:=rfl
theorem ajA(id:Nat)(c:Code)(s:St):Gs P conv call ex (.block id c) s=Jq id (Gs P conv call ex c s):=rfl
theorem anx(c:Code)(s:St):Gs P conv call ex (.loop c) s=jI (Gs P conv call ex c) s:=rfl
theorem awZ{ext:Ext}{f:FuncId}{fn:Func}{body:Code}{rs:List ResultVar}(ex:List Nat)(G:ext f=none)(J:P.funcs[f]?=some fn)(hb:fn.body=some body)(O:fn.results.toList=rs){args:List V}(E:Vh fn body args.length=true)(S:BO conv ex body=true)(σ:Store)(nx:Nat) :
  ev P conv ext f args σ nx=adx P rs (Gs P conv (ev P conv ext) ex body ⟨DJ args,σ,nx⟩):=by
 rw[amy G J hb O E,VK,afR body S]
theorem mg{ext:Ext}{f:FuncId}{fn:Func}{body:Code}(rs:List ResultVar)(ex:List Nat)(G:P.funcs[f]?=some fn)(J:ext f=none:=by rfl)(hb:fn.body=some body:=by rfl)(O:fn.results.toList=rs:=by rfl){args:List V}(E:Vh fn body args.length=true:=by kernel_rfl)(S:BO conv ex body=true:=by kernel_rfl)(σ:Store)(nx:Nat) :
  ev P conv ext f args σ nx=adx P rs (Gs P conv (ev P conv ext) ex body ⟨DJ args,σ,nx⟩):=by
 rw[amy J G hb O E,VK,afR body S]
theorem ZA(ops:Array Oper)(s0 s:St):MV P conv call ops s0 (some s)=some s:=rfl
def Ku(P:Program)(conv:FuncId->Conv)(call:Call)(id:Nat)(l:List Oper)(s:St):List Nat->Option St
 |[]=>C_ P conv call l.toArray l s
 |i :: ex=>if id=i then MV P conv call l.toArray s (Dc P conv call l.toArray l 0 [] s)else Ku P conv call id l s ex
theorem VP(id:Nat)(l:List Oper)(s:St):∀ex:List Nat,Ku P conv call id l s ex=if id∈ex then MV P conv call l.toArray s (Dc P conv call l.toArray l 0 [] s)else C_ P conv call l.toArray l s
 |[]=>by simp[Ku]
 |i :: ex=>by
  unfold Ku;rw[VP id l s ex]
  by_cases h:id=i
  .rw[sN h,sN (by simp[h])]
  .rw[sO h]
   by_cases E:id∈ex
   .rw[sN E,sN (by simp[E])]
   .rw[sO E,sO (by simp[h,E])]
theorem ajB(i:Nat)(ex:List Nat)(id:Nat)(l:List Oper)(s:St):Gs P conv call (i :: ex) (.region id l.toArray true) s=VH (Ku P conv call id l s (i :: ex)):=by
 rw[VP];rfl
theorem adF(id:Nat)(l:List Oper)(s:St):Ku P conv call id l s []=C_ P conv call l.toArray l s:=rfl
theorem ZC(id:Nat)(l:List Oper)(s:St)(i:Nat)(ex:List Nat):Ku P conv call id l s (i :: ex)=if id=i then MV P conv call l.toArray s (Dc P conv call l.toArray l 0 [] s)else Ku P conv call id l s ex:=rfl
def VQ(P:Program)(conv:FuncId->Conv)(call:Call)(ops:Array Oper)(rest:List Oper)(k:Nat)(acc:List (Nat×Bool×List Nat))(T:Nat->V)(d:Option Tmp):J6->Option St
 |some (v,σ,nx)=>Dc P conv call ops rest k acc ⟨C9 T d v,σ,nx⟩
 |none=>none
def abO(P:Program)(conv:FuncId->Conv)(call:Call)(ops:Array Oper)(rest:List Oper)(k:Nat)(acc:List (Nat×Bool×List Nat))(o:Oper)(s:St):Option Bool->Option St
 |some true=>if okF o.after acc (writer conv o) (Af conv s.T s.σ o)=true then VQ P conv call ops rest (k+1) (VN acc k (writer conv o) (Af conv s.T s.σ o)) s.T o.dst (Aq P conv call o s.T s.σ s.nx)else none
 |some false=>Dc P conv call ops rest (k+1) acc ⟨C9 s.T o.dst (.Bf []),s.σ,s.nx⟩
 |none=>none
theorem ZE(ops:Array Oper)(k:Nat)(acc:List (Nat×Bool×List Nat))(s:St):Dc P conv call ops [] k acc s=some s:=rfl
theorem VT(ops:Array Oper)(k:Nat)(acc:List (Nat×Bool×List Nat))(d:Option Tmp)(op:Op)(ty:TypeId)(ps:String)(af:Array Edge)(rest:List Oper)(T:Nat->V)(σ:Store)(nx:Nat) :
  Dc P conv call ops (⟨d,op,ty,ps,af,none⟩ :: rest) k acc ⟨T,σ,nx⟩=if okF af acc (writer conv ⟨d,op,ty,ps,af,none⟩) (Af conv T σ ⟨d,op,ty,ps,af,none⟩)=true then VQ P conv call ops rest (k+1) (VN acc k (writer conv ⟨d,op,ty,ps,af,none⟩) (Af conv T σ ⟨d,op,ty,ps,af,none⟩)) T d (Aq P conv call ⟨d,op,ty,ps,af,none⟩ T σ nx)else none:=by
 show(if okF af acc (writer conv ⟨d,op,ty,ps,af,none⟩) (Af conv T σ ⟨d,op,ty,ps,af,none⟩)=true then(match Aq P conv call ⟨d,op,ty,ps,af,none⟩ T σ nx with|some (v,σ',nx')=>_|none=>none)else none)=_;cases Aq P conv call ⟨d,op,ty,ps,af,none⟩ T σ nx<;>rfl
theorem SB(ops:Array Oper)(k:Nat)(acc:List (Nat×Bool×List Nat))(d:Option Tmp)(op:Op)(ty:TypeId)(ps:String)(af:Array Edge)(g:Nat×Bool)(rest:List Oper)(T:Nat->V)(σ:Store)(nx:Nat) :
  Dc P conv call ops (⟨d,op,ty,ps,af,some g⟩ :: rest) k acc ⟨T,σ,nx⟩=abO P conv call ops rest k acc ⟨d,op,ty,ps,af,some g⟩ ⟨T,σ,nx⟩ (Bq ops T ⟨d,op,ty,ps,af,some g⟩):=by
 show(match Bq ops T ⟨d,op,ty,ps,af,some g⟩with|some true=>_|some false=>_|none=>none)=_;cases Bq ops T ⟨d,op,ty,ps,af,some g⟩with
 |none=>rfl
 |some b=>
  cases b with
  |false=>rfl
  |true=>
   simp only[abO];cases Aq P conv call ⟨d,op,ty,ps,af,some g⟩ T σ nx<;>rfl
theorem ZF(ops:Array Oper)(rest:List Oper)(k:Nat)(acc:List (Nat×Bool×List Nat))(T:Nat->V)(d:Tmp)(v:V)(σ:Store)(nx:Nat):VQ P conv call ops rest k acc T (some d) (some (v,σ,nx))=Dc P conv call ops rest k acc ⟨upd T d v,σ,nx⟩:=rfl
theorem ZG(ops:Array Oper)(rest:List Oper)(k:Nat)(acc:List (Nat×Bool×List Nat))(T:Nat->V)(v:V)(σ:Store)(nx:Nat):VQ P conv call ops rest k acc T none (some (v,σ,nx))=Dc P conv call ops rest k acc ⟨T,σ,nx⟩:=rfl
theorem ZH(ops:Array Oper)(rest:List Oper)(k:Nat)(acc:List (Nat×Bool×List Nat))(d:Option Tmp)(op:Op)(ty:TypeId)(ps:String)(af:Array Edge)(g:Option (Nat×Bool))(T:Nat->V)(σ:Store)(nx:Nat) :
  abO P conv call ops rest k acc ⟨d,op,ty,ps,af,g⟩ ⟨T,σ,nx⟩ (some true)=if okF af acc (writer conv ⟨d,op,ty,ps,af,g⟩) (Af conv T σ ⟨d,op,ty,ps,af,g⟩)=true then VQ P conv call ops rest (k+1) (VN acc k (writer conv ⟨d,op,ty,ps,af,g⟩) (Af conv T σ ⟨d,op,ty,ps,af,g⟩)) T d (Aq P conv call ⟨d,op,ty,ps,af,g⟩ T σ nx)else none:=rfl
theorem VU(ops:Array Oper)(rest:List Oper)(k:Nat)(acc:List (Nat×Bool×List Nat))(d:Tmp)(op:Op)(ty:TypeId)(ps:String)(af:Array Edge)(g:Option (Nat×Bool))(T:Nat->V)(σ:Store)(nx:Nat) :
  abO P conv call ops rest k acc ⟨some d,op,ty,ps,af,g⟩ ⟨T,σ,nx⟩ (some false)=Dc P conv call ops rest (k+1) acc ⟨upd T d (.Bf []),σ,nx⟩:=rfl
theorem ajC(af:Array Edge)(acc:List (Nat×Bool×List Nat))(w:Bool):okF af acc w []=true:=id rfl
theorem afU(af:Array Edge)(acc:List (Nat×Bool×List Nat))(w:Bool)(b:Nat)(E:List Nat):okF af acc w (b :: E)=okG af w (b :: E) acc:=id rfl
theorem ajD(af:Array Edge)(w:Bool)(ids:List Nat):okG af w ids []=true:=id rfl
theorem afV(af:Array Edge)(w:Bool)(ids:List Nat)(i:Nat)(v:Bool)(js:List Nat)(acc:List (Nat×Bool×List Nat)):okG af w ids ((i,v,js) :: acc)=((if(w||v)=true then(if Ii af i=true then true else js.all fun b=> !ids.contains b)else true) && okG af w ids acc):=id rfl
theorem afW(acc:List (Nat×Bool×List Nat))(k:Nat)(w:Bool):VN acc k w []=acc:=id rfl
theorem adG(acc:List (Nat×Bool×List Nat))(k:Nat)(w:Bool)(b:Nat)(E:List Nat):VN acc k w (b :: E)=acc++[(k,w,b :: E)]:=id rfl
theorem adH(i:Nat):Ii #[] i=false:=by simp[Ii]
theorem ZI(e:Edge)(es:List Edge)(i:Nat):Ii (e :: es).toArray i=if(e.on==i)=true then(if Region.binds .any e=true then true else Ii es.toArray i)else Ii es.toArray i:=by
 unfold Ii;rw[List.any_toArray,List.any_toArray,List.any_cons];cases e.on==i<;>cases Region.binds .any e<;>simp
theorem ZJ(i:Nat):Region.binds .any ⟨i,.data⟩=true:=id rfl
theorem VW(i:Nat):Region.binds .any ⟨i,.phase⟩=true:=id rfl
theorem VX(i:Nat):Region.binds .any ⟨i,.chain⟩=true:=id rfl
theorem VY(i:Nat):Region.binds .any ⟨i,.guard⟩=true:=id rfl
theorem Z7(i:Nat)(d:Departure):Region.binds .any ⟨i,.textOnly d⟩=false:=id rfl
theorem afX(i:Nat)(d:Departure):Region.binds .any ⟨i,.gcOnly d⟩=false:=id rfl
section
variable (d:Option Tmp) (ty:TypeId) (ps:String) (af:Array Edge) (gd:Option (Nat×Bool)) (T:Nat->V) (σ:Store)
theorem ajE(t:TypeId)(a x:Operand):writer conv ⟨d,.store t a x,ty,ps,af,gd⟩=true:=id rfl
theorem Z8(t:TypeId)(a x:Operand):Af conv T σ ⟨d,.store t a x,ty,ps,af,gd⟩=Aa (val T a):=rfl
theorem adI(t:TypeId)(a:Operand):Af conv T σ ⟨d,.load t a,ty,ps,af,gd⟩=Aa (val T a):=rfl
theorem anz(t:TypeId)(a:Operand):writer conv ⟨d,.load t a,ty,ps,af,gd⟩=false:=id rfl
theorem ajF(b off:Nat):Aa (.rp b off)=[b]:=rfl
theorem ajG(b off len:Nat):Aa (.rs b off len)=[b]:=rfl
theorem ajH(row:List V)(off:Nat):Aa (.tp row off)=[]:=rfl
theorem ajI(row:List V)(off:Nat):Aa (.ts row off)=[]:=rfl
theorem ajJ(v:Value):Aa (.sc v)=[]:=rfl
theorem afY:Aa .nil=[]:=rfl
theorem afZ(vs:List V):Aa (.agg vs)=[]:=rfl
theorem adJ(x:Operand):Af conv T σ ⟨d,.move x,ty,ps,af,gd⟩=[]:=rfl
theorem anA(x:Operand):writer conv ⟨d,.move x,ty,ps,af,gd⟩=false:=id rfl
theorem VZ(x:Operand):Af conv T σ ⟨d,.assign x,ty,ps,af,gd⟩=[]:=rfl
theorem af0(x:Operand):writer conv ⟨d,.assign x,ty,ps,af,gd⟩=false:=id rfl
theorem adK(c a b:Operand):Af conv T σ ⟨d,.pick c a b,ty,ps,af,gd⟩=[]:=rfl
theorem anB(c a b:Operand):writer conv ⟨d,.pick c a b,ty,ps,af,gd⟩=false:=id rfl
theorem Pg(x:Operand):Af conv T σ ⟨d,.nilCheck x,ty,ps,af,gd⟩=[]:=rfl
theorem Z9(x:Operand):writer conv ⟨d,.nilCheck x,ty,ps,af,gd⟩=false:=id rfl
theorem Z_(op:BinOp)(t:TypeId)(x y:Operand)(E:TypeId):Af conv T σ ⟨d,.binOp op t x y E,ty,ps,af,gd⟩=[]:=rfl
theorem ajK(op:BinOp)(t:TypeId)(x y:Operand)(E:TypeId):writer conv ⟨d,.binOp op t x y E,ty,ps,af,gd⟩=false:=id rfl
theorem adL(op:UnOp)(t:TypeId)(x:Operand):Af conv T σ ⟨d,.unOp op t x,ty,ps,af,gd⟩=[]:=rfl
theorem anC(op:UnOp)(t:TypeId)(x:Operand):writer conv ⟨d,.unOp op t x,ty,ps,af,gd⟩=false:=id rfl
theorem MW(t:TypeId)(x:Operand)(f:Nat):Af conv T σ ⟨d,.fieldAddr t x f,ty,ps,af,gd⟩=[]:=rfl
theorem V3(t:TypeId)(x:Operand)(f:Nat):writer conv ⟨d,.fieldAddr t x f,ty,ps,af,gd⟩=false:=id rfl
theorem aac(t:TypeId)(x:Operand)(f:Nat):Af conv T σ ⟨d,.field t x f,ty,ps,af,gd⟩=[]:=rfl
theorem ajL(t:TypeId)(x:Operand)(f:Nat):writer conv ⟨d,.field t x f,ty,ps,af,gd⟩=false:=id rfl
theorem MX(t:TypeId)(x i:Operand):Af conv T σ ⟨d,.indexAddr t x i,ty,ps,af,gd⟩=[]:=rfl
theorem V6(t:TypeId)(x i:Operand):writer conv ⟨d,.indexAddr t x i,ty,ps,af,gd⟩=false:=id rfl
theorem aad(t:TypeId)(x i:Operand):Af conv T σ ⟨d,.index t x i,ty,ps,af,gd⟩=[]:=rfl
theorem ajM(t:TypeId)(x i:Operand):writer conv ⟨d,.index t x i,ty,ps,af,gd⟩=false:=id rfl
theorem SC(x:Operand)(i:Nat):Af conv T σ ⟨d,.extract x i,ty,ps,af,gd⟩=[]:=rfl
theorem adM(x:Operand)(i:Nat):writer conv ⟨d,.extract x i,ty,ps,af,gd⟩=false:=id rfl
theorem af2(x:Operand)(t:TypeId):Af conv T σ ⟨d,.call ⟨.builtin .len,#[x],#[t]⟩,ty,ps,af,gd⟩=[]:=rfl
theorem aqV(x:Operand)(t:TypeId):writer conv ⟨d,.call ⟨.builtin .len,#[x],#[t]⟩,ty,ps,af,gd⟩=false:=id rfl
theorem aae(t:TypeId)(parts:Array (Nat×Operand)):Af conv T σ ⟨d,.build t parts,ty,ps,af,gd⟩=[]:=rfl
theorem ajN(t:TypeId)(parts:Array (Nat×Operand)):writer conv ⟨d,.build t parts,ty,ps,af,gd⟩=false:=id rfl
theorem Ph(f:FuncId)(cap:Array Operand):Af conv T σ ⟨d,.makeFunc (.func f) #[] cap,ty,ps,af,gd⟩=[]:=rfl
theorem aaf(f:FuncId)(cap:Array Operand):writer conv ⟨d,.makeFunc (.func f) #[] cap,ty,ps,af,gd⟩=false:=id rfl
theorem aag(t:TypeId):Af conv T σ ⟨d,.alloc t,ty,ps,af,gd⟩=[]:=rfl
theorem ajO(t:TypeId):writer conv ⟨d,.alloc t,ty,ps,af,gd⟩=false:=id rfl
theorem af4(t:TypeId)(x:Operand):Af conv T σ ⟨d,.box t x,ty,ps,af,gd⟩=[]:=rfl
theorem aqW(t:TypeId)(x:Operand):writer conv ⟨d,.box t x,ty,ps,af,gd⟩=false:=id rfl
theorem anD{g:FuncId}(h:conv g= .KQ)(args:Array Operand)(ts:Array TypeId):writer conv ⟨d,.call ⟨.value (.func g),args,ts⟩,ty,ps,af,gd⟩=false:=by unfold writer;simp only[h]
theorem lZ{g:FuncId}(h:conv g≠ .inl)(args:Array Operand)(ts:Array TypeId):Dv conv T σ ⟨d,.call ⟨.value (.func g),args,ts⟩,ty,ps,af,gd⟩=(stripL (strip σ depth) (args.toList.map (val T))).map (·.2):=by
 simp only[Dv,val,zC,P8];cases hc:conv g with
 |inl=>exact absurd hc h
 |own=>cases stripL (strip σ depth) (args.toList.map (val T))<;>rfl
 |KQ=>cases stripL (strip σ depth) (args.toList.map (val T))<;>rfl
theorem adN{g:FuncId}(h:conv g= .KQ)(args:Array Operand)(ts:Array TypeId):Af conv T σ ⟨d,.call ⟨.value (.func g),args,ts⟩,ty,ps,af,gd⟩=((stripL (strip σ depth) (args.toList.map (val T))).map (·.2)).getD []:=by
 unfold Af;rw[lZ d ty ps af gd T σ (by rw[h];exact fun e=>by cases e)]
end
def V7(P:Program)(conv:FuncId->Conv)(call:Call)(ops:Array Oper)(rest:List Oper)(T:Nat->V)(d:Option Tmp):J6->Option St
 |some (v,σ,nx)=>C_ P conv call ops rest ⟨C9 T d v,σ,nx⟩
 |none=>none
def abP(P:Program)(conv:FuncId->Conv)(call:Call)(ops:Array Oper)(rest:List Oper)(o:Oper)(s:St):Option Bool->Option St
 |some true=>V7 P conv call ops rest s.T o.dst (Aq P conv call o s.T s.σ s.nx)
 |some false=>C_ P conv call ops rest ⟨C9 s.T o.dst (.Bf []),s.σ,s.nx⟩
 |none=>none
theorem aah(ops:Array Oper)(s:St):C_ P conv call ops [] s=some s:=rfl
theorem V8(ops:Array Oper)(d:Option Tmp)(op:Op)(ty:TypeId)(ps:String)(af:Array Edge)(rest:List Oper)(T:Nat->V)(σ:Store)(nx:Nat) :
  C_ P conv call ops (⟨d,op,ty,ps,af,none⟩ :: rest) ⟨T,σ,nx⟩=V7 P conv call ops rest T d (Aq P conv call ⟨d,op,ty,ps,af,none⟩ T σ nx):=by
 show(match Aq P conv call ⟨d,op,ty,ps,af,none⟩ T σ nx with|some (v,σ',nx')=>_|none=>none)=_;cases Aq P conv call ⟨d,op,ty,ps,af,none⟩ T σ nx<;>rfl
theorem SE(ops:Array Oper)(d:Option Tmp)(op:Op)(ty:TypeId)(ps:String)(af:Array Edge)(g:Nat×Bool)(rest:List Oper)(T:Nat->V)(σ:Store)(nx:Nat) :
  C_ P conv call ops (⟨d,op,ty,ps,af,some g⟩ :: rest) ⟨T,σ,nx⟩=abP P conv call ops rest ⟨d,op,ty,ps,af,some g⟩ ⟨T,σ,nx⟩ (Bq ops T ⟨d,op,ty,ps,af,some g⟩):=by
 show(match Bq ops T ⟨d,op,ty,ps,af,some g⟩with|some true=>_|some false=>_|none=>none)=_;cases Bq ops T ⟨d,op,ty,ps,af,some g⟩with
 |none=>rfl
 |some b=>
  cases b with
  |false=>rfl
  |true=>
   simp only[abP];cases Aq P conv call ⟨d,op,ty,ps,af,some g⟩ T σ nx<;>rfl
theorem aai(ops:Array Oper)(rest:List Oper)(T:Nat->V)(d:Tmp)(v:V)(σ:Store)(nx:Nat):V7 P conv call ops rest T (some d) (some (v,σ,nx))=C_ P conv call ops rest ⟨upd T d v,σ,nx⟩:=rfl
theorem aaj(ops:Array Oper)(rest:List Oper)(T:Nat->V)(v:V)(σ:Store)(nx:Nat):V7 P conv call ops rest T none (some (v,σ,nx))=C_ P conv call ops rest ⟨T,σ,nx⟩:=rfl
theorem aak(ops:Array Oper)(rest:List Oper)(d:Option Tmp)(op:Op)(ty:TypeId)(ps:String)(af:Array Edge)(g:Option (Nat×Bool))(T:Nat->V)(σ:Store)(nx:Nat) :
  abP P conv call ops rest ⟨d,op,ty,ps,af,g⟩ ⟨T,σ,nx⟩ (some true)=V7 P conv call ops rest T d (Aq P conv call ⟨d,op,ty,ps,af,g⟩ T σ nx):=rfl
theorem V9(ops:Array Oper)(rest:List Oper)(d:Tmp)(op:Op)(ty:TypeId)(ps:String)(af:Array Edge)(g:Option (Nat×Bool))(T:Nat->V)(σ:Store)(nx:Nat) :
  abP P conv call ops rest ⟨some d,op,ty,ps,af,g⟩ ⟨T,σ,nx⟩ (some false)=C_ P conv call ops rest ⟨upd T d (.Bf []),σ,nx⟩:=rfl
theorem aal{σ:Store}{nx:Nat}{cells:List V}{st:Nat}:zI [] nx (nx+1) σ (AA (restrict σ []) nx cells st)=AA σ nx cells st:=by
 funext b;unfold zI AA upd restrict
 by_cases h:b=nx
 .subst h;simp
 .rw[sO (by simp;omega),sO h]
section
variable (d:Option Tmp) (ty:TypeId) (ps:String) (af:Array Edge) (gd:Option (Nat×Bool)) (T:Nat->V) (σ:Store) (nx:Nat)
omit d ty ps af gd T σ nx in
theorem Jt(T:Nat->V)(o:Oper)(v:V):keeps conv T o [] v=true:=by
 obtain⟨dst,op,type,pos,after,guard⟩:=o;cases op<;>simp only[keeps];rename_i c;obtain⟨callee,args,ts⟩:=c;cases callee with
 |value f=>
  cases E:val T f<;>simp only[E];rename_i g cs;cases hc:conv g<;>simp
 |builtin b=>rfl
 |invoke r m=>rfl
theorem nN{o:Oper}{F:List Nat}(E:Dv conv T σ o=some F)(G:∀v,keeps conv T o F v=true):Aq P conv call o T σ nx=if(F.all fun b=>decide (b<nx))=true then match AP P conv call o T (restrict σ F) nx with|some (v,σ1,qI)=>some (v,zI F nx qI σ σ1,qI)|none=>none else none:=by
 unfold Aq;simp only[E,G,if_true];cases AP P conv call o T (restrict σ F) nx with
 |none=>rfl
 |some r=>rfl
theorem Lu{o:Oper}(E:Dv conv T σ o=some []){v:V}(h:∀σ,AP P conv call o T σ nx=some (v,σ,nx)):Aq P conv call o T σ nx=some (v,σ,nx):=by
 rw[nN T σ nx E (Jt T o)];simp only[vU,if_true,h];rw[iG]
theorem iU{o:Oper}(E:Dv conv T σ o=some []){m:Option V}(h:∀σ,AP P conv call o T σ nx=m.map (·,σ,nx)):Aq P conv call o T σ nx=m.map (·,σ,nx):=by
 cases m with
 |some v=>exact Lu T σ nx E h
 |none=>
  rw[nN T σ nx E (Jt T o)];simp only[vU,if_true,h,Option.map_none]
theorem Ij{o:Oper}(E:Dv conv T σ o=some []){m:Option (List V×Nat×V)}(h:∀σ,AP P conv call o T σ nx=m.map fun p=>(p.2.2,AA σ nx p.1 p.2.1,nx+1)):Aq P conv call o T σ nx=m.map fun p=>(p.2.2,AA σ nx p.1 p.2.1,nx+1):=by
 rw[nN T σ nx E (Jt T o)];simp only[vU,if_true,h];cases m with
 |none=>rfl
 |some p=>simp only[zG];rw[aal]
theorem af5(x:Operand):Aq P conv call ⟨d,.move x,ty,ps,af,gd⟩ T σ nx=some (val T x,σ,nx):=Lu T σ nx rfl fun _=>rfl
theorem aam(x:Operand):Aq P conv call ⟨d,.assign x,ty,ps,af,gd⟩ T σ nx=some (val T x,σ,nx):=Lu T σ nx rfl fun _=>rfl
theorem af6(c a b:Operand):Aq P conv call ⟨d,.pick c a b,ty,ps,af,gd⟩ T σ nx=(abM (val T a) (val T b) (val T c)).map (·,σ,nx):=iU T σ nx rfl fun σ=>abN d ty ps af gd T σ nx c a b
theorem SH(x:Operand):Aq P conv call ⟨d,.nilCheck x,ty,ps,af,gd⟩ T σ nx=(afD (val T x)).map (·,σ,nx):=iU T σ nx rfl fun σ=>Kt d ty ps af gd T σ nx x
theorem adO(op:BinOp)(t:TypeId)(x y:Operand)(E:TypeId):Aq P conv call ⟨d,.binOp op t x y E,ty,ps,af,gd⟩ T σ nx=(Aw P op t x y (val T x) (val T y)).map (·,σ,nx):=iU T σ nx rfl fun _=>rfl
theorem af7(op:UnOp)(t:TypeId)(x:Operand):Aq P conv call ⟨d,.unOp op t x,ty,ps,af,gd⟩ T σ nx=(Yt P op (val T x)).map (·,σ,nx):=iU T σ nx rfl fun _=>rfl
theorem Pj(t:TypeId)(x:Operand)(f:Nat):Aq P conv call ⟨d,.fieldAddr t x f,ty,ps,af,gd⟩ T σ nx=(BK P t (val T x) f).map (·,σ,nx):=iU T σ nx rfl fun _=>rfl
theorem Pm(t:TypeId)(x i:Operand):Aq P conv call ⟨d,.indexAddr t x i,ty,ps,af,gd⟩ T σ nx=(CJ P t (val T x) (val T i)).map (·,σ,nx):=iU T σ nx rfl fun _=>rfl
theorem V_(x:Operand)(i:Nat):Aq P conv call ⟨d,.extract x i,ty,ps,af,gd⟩ T σ nx=(aju i (val T x)).map (·,σ,nx):=iU T σ nx rfl fun σ=>MR d ty ps af gd T σ nx x i
theorem ajP(x:Operand)(t:TypeId):Aq P conv call ⟨d,.call ⟨.builtin .len,#[x],#[t]⟩,ty,ps,af,gd⟩ T σ nx=(DR P t (val T x)).map (·,σ,nx):=iU T σ nx rfl fun _=>rfl
theorem adP(t:TypeId)(parts:Array (Nat×Operand)):Aq P conv call ⟨d,.build t parts,ty,ps,af,gd⟩ T σ nx=(F9 P t (parts.toList.map fun p=>(p.1,val T p.2))).map (·,σ,nx):=iU T σ nx rfl fun _=>rfl
theorem adQ(t:TypeId)(h:(Ae P t).ok=true)(E:decide ((Ae P t).zero.length=(Ae P t).size)=true)(G:decide (0<(Ae P t).size)=true)(hb:isB (Ae P t).zero=false):Aq P conv call ⟨d,.alloc t,ty,ps,af,gd⟩ T σ nx=some (.rp nx 0,AA σ nx (Ae P t).zero 0,nx+1) :=
 Ij (m:=some ((Ae P t).zero,0,.rp nx 0)) T σ nx rfl fun σ=>VF d ty ps af gd T σ nx t h E G hb
theorem ajQ(t:TypeId)(x:Operand):Aq P conv call ⟨d,.box t x,ty,ps,af,gd⟩ T σ nx=(cellsOfV (val T x)).map fun cs=>(.rp nx 0,AA σ nx cs 0,nx+1):=by
 have:=Ij (P:=P) (conv:=conv) (call:=call) (o:=⟨d,.box t x,ty,ps,af,gd⟩) (m:=(cellsOfV (val T x)).map fun cs=>(cs,0,V.rp nx 0)) T σ nx rfl fun σ=>by rw[afA];cases cellsOfV (val T x)<;>rfl
 rw[this];cases cellsOfV (val T x)<;>rfl
def MZ(P:Program)(σ:Store)(nx:Nat)(t:TypeId):V->Option V
 | .rp b off=>if b<nx then A8 P σ t (.rp b off)else none
 |v=>A8 P σ t v
theorem af8(t:TypeId)(a:Operand):Aq P conv call ⟨d,.load t a,ty,ps,af,gd⟩ T σ nx=(MZ P σ nx t (val T a)).map (·,σ,nx):=by
 have key:∀b off,A8 P (restrict σ [b]) t (.rp b off)=A8 P σ t (.rp b off):=fun b off=>by
  unfold A8 DC restrict;simp
 rw[nN (F:=Aa (val T a)) T σ nx rfl (fun _=>rfl)];show(if((Aa (val T a)).all fun b=>decide (b<nx))=true then match(A8 P (restrict σ (Aa (val T a))) t (val T a)).map (·,restrict σ (Aa (val T a)),nx)with|some (v,σ1,qI)=>some (v,zI (Aa (val T a)) nx qI σ σ1,qI)|none=>none else none)=_;cases E:val T a with
 |rp b off=>
  simp only[Aa,vO,vU,uJ,decide_eq_true_eq,MZ,key]
  by_cases hb:b<nx
  .rw[sN hb,sN hb]
   cases A8 P σ t (.rp b off)with
   |none=>rfl
   |some v=>simp only[zG,iH]
  .rw[sO hb,sO hb];rfl
 |tp row off=>
  simp only[Aa,vU,if_true,MZ];have:A8 P (restrict σ []) t (.tp row off)=A8 P σ t (.tp row off):=by unfold A8 DC;rfl
  rw[this];cases A8 P σ t (.tp row off)with
  |none=>rfl
  |some v=>simp only[zG,iG]
 |rs b off len=>
  have e:∀σ,A8 P σ t (.rs b off len)=none:=fun σ=>by unfold A8 DC;split<;>simp
  simp only[MZ,e,Option.map_none]
  split<;>rfl
 |_=>
  simp only[Aa,vU,if_true,MZ];unfold A8 DC;cases P.info? t<;>cases P.underlying t<;>simp
theorem af9(σ:Store)(nx:Nat)(t:TypeId)(row:List V)(off:Nat):MZ P σ nx t (.tp row off)=A8 P σ t (.tp row off):=rfl
theorem af_(σ:Store)(nx:Nat)(t:TypeId)(b off:Nat):MZ P σ nx t (.rp b off)=if b<nx then A8 P σ t (.rp b off)else none:=rfl
def SI(P:Program)(σ:Store)(nx:Nat)(t:TypeId)(v:V):V->Option Store
 | .rp b off=>if b<nx then Du P σ t (.rp b off) v else none
 |_=>none
theorem adR(t:TypeId)(a x:Operand):Aq P conv call ⟨d,.store t a x,ty,ps,af,gd⟩ T σ nx=(SI P σ nx t (val T x) (val T a)).map (.Bf [],·,nx):=by
 rw[nN (F:=Aa (val T a)) T σ nx rfl (fun _=>rfl)];show(if((Aa (val T a)).all fun b=>decide (b<nx))=true then match(Du P (restrict σ (Aa (val T a))) t (val T a) (val T x)).map (V.Bf [],·,nx)with|some (v,σ1,qI)=>some (v,zI (Aa (val T a)) nx qI σ σ1,qI)|none=>none else none)=_;cases G:val T a with
 |rp b off=>
  simp only[Aa,vO,vU,uJ,decide_eq_true_eq,SI]
  by_cases hb:b<nx
  .rw[sN hb,sN hb]
   unfold Du;have J:restrict σ [b] b=σ b:=by unfold restrict;simp
   cases P.info? t with
   |none=>rfl
   |some i=>
    cases cellsOfV (val T x)with
    |none=>rfl
    |some vs=>
     simp only[J];cases σ b with
     |none=>rfl
     |some B=>
      by_cases hc:B.wr=true/\vs.length=i.size/\off+vs.length<=B.cells.length/\vs.all vI=true
      .simp only[sN hc,zG]
       congr 2;congr 1;funext c;unfold zI upd restrict
       by_cases E:c=b
       .subst E;simp
       .rw[sO (by simp[E]),sO E]
      .simp only[sO hc,Option.map_none]
  .rw[sO hb,sO hb];rfl
 |_=>
  simp only[SI];have:Du P (restrict σ (Aa (val T a))) t (val T a) (val T x)=none:=by
   rw[G];unfold Du;cases P.info? t<;>cases cellsOfV (val T x)<;>rfl
  rw[G]at this;rw[this];simp
theorem adS(σ:Store)(nx:Nat)(t:TypeId)(v:V)(b off:Nat):SI P σ nx t v (.rp b off)=if b<nx then Du P σ t (.rp b off) v else none:=rfl
end
end
end Go.TV
namespace Go.TV
set_option linter.unusedVariables false
set_option linter.unusedSimpArgs false
variable [Known]
noncomputable def fn(P:Program)(conv:FuncId->Conv)(ext:Ext)(f:FuncId)(ts:List V):Option V :=
 match ev P conv ext f ts pI 0 with
 |some (v,σ1,_)=>(strip σ1 depth v).map (·.1)
 |none=>none
section
variable {P:Program} {conv:FuncId->Conv} {ext:Ext}
def behind(σ:Store)(ids:List Nat)(t:V):Store:=if ids.isEmpty||flat depth t then σ else DF σ ids
theorem Wh{f:FuncId}(h:conv f= .KQ)(args:List V)(σ:Store)(nx:Nat):CB conv (ev P conv ext) f args σ nx=
  (stripL (strip σ depth) args).bind fun p=>(fn P conv ext f p.1).map fun t=>(t,behind σ p.2 t,nx):=by
 unfold CB fn behind;rw[h];simp only;cases stripL (strip σ depth) args with
 |none=>rfl
 |some p=>
  obtain⟨ts,ids⟩:=p;simp only[zk];cases ev P conv ext f ts pI 0 with
  |none=>rfl
  |some q=>
   obtain⟨v,E,n⟩:=q;simp only;cases strip E depth v with
   |none=>rfl
   |some r=>
    obtain⟨t,j⟩:=r;simp only[zG]
    split<;>rfl
theorem aan(σ:Store)(t:V):behind σ [] t=σ:=rfl
theorem adT(σ:Store)(ids:List Nat)(v:Value):behind σ ids (.sc v)=σ:=by
 unfold behind depth flat;simp
theorem Wi(σ:Store)(ids:List Nat)(v w:Value):behind σ ids (.Bf [.sc v,.sc w])=σ:=by
 have:flat depth (.Bf [.sc v,.sc w])=true:=rfl;unfold behind;rw[this];simp
theorem qC{call:Call}{f:FuncId}(h:conv f= .inl)(args:List V)(σ:Store)(nx:Nat):CB conv call f args σ nx=call f args σ nx:=by
 unfold CB;rw[h]
theorem Wj{call:Call}{f:FuncId}(h:conv f= .own)(args:List V)(σ:Store)(nx:Nat):CB conv call f args σ nx=
  (stripL (strip σ depth) args).bind fun p=>(call f p.1 pI nx).bind fun q=>(gather q.2.1 depth q.1).map fun ids=>(q.1,Di nx σ q.2.1 ids,q.2.2):=by
 unfold CB;rw[h];simp only;cases stripL (strip σ depth) args with
 |none=>rfl
 |some p=>
  simp only[zk];cases call f p.1 pI nx with
  |none=>rfl
  |some q=>
   simp only[zk];cases gather q.2.1 depth q.1<;>rfl
theorem aX(f:V->Option (V×List Nat)):stripL f []=some ([],[]):=rfl
theorem ak(f:V->Option (V×List Nat))(v:V)(vs:List V):stripL f (v :: vs)=(f v).bind fun p=>(stripL f vs).map fun q=>(p.1 :: q.1,p.2++q.2):=by
 show(match f v,stripL f vs with|some (t,i),some (ts,j)=>some (t :: ts,i++j)|_,_=>none)=_;cases f v<;>cases stripL f vs<;>rfl
theorem aP(σ:Store)(d:Nat)(v:Value):strip σ d (.sc v)=some (.sc v,[]):=by cases d<;>rfl
theorem aS(σ:Store)(d:Nat):strip σ d .nil=some (.ts [] 0,[]):=by cases d<;>rfl
theorem aN(σ:Store)(d:Nat)(row:List V)(off:Nat):strip σ d (.tp row off)=some (.tp row off,[]):=by cases d<;>rfl
theorem aK(σ:Store)(d:Nat)(row:List V)(len:Nat):strip σ d (.ts row len)=some (.ts row len,[]):=by cases d<;>rfl
theorem Qd(σ:Store)(d:Nat)(vs:List V):strip σ (d+1) (.agg vs)=(stripL (strip σ d) vs).map fun p=>(.agg p.1,p.2):=by
 show(match stripL (strip σ d) vs with|some (ts,ids)=>some (V.agg ts,ids)|none=>none)=_;cases stripL (strip σ d) vs<;>rfl
theorem adU(σ:Store)(d:Nat)(vs:List V):strip σ (d+1) (.Bf vs)=(stripL (strip σ d) vs).map fun p=>(.Bf p.1,p.2):=by
 show(match stripL (strip σ d) vs with|some (ts,ids)=>some (V.Bf ts,ids)|none=>none)=_;cases stripL (strip σ d) vs<;>rfl
theorem adV(σ:Store)(d:Nat)(f:FuncId)(vs:List V):strip σ (d+1) (.clo f vs)=(stripL (strip σ d) vs).map fun p=>(.clo f p.1,p.2):=by
 show(match stripL (strip σ d) vs with|some (ts,ids)=>some (V.clo f ts,ids)|none=>none)=_;cases stripL (strip σ d) vs<;>rfl
theorem M_(σ:Store)(d b off:Nat):strip σ (d+1) (.rp b off)=(σ b).bind fun B=>(stripL (strip σ d) B.cells).map fun p=>(.tp p.1 off,b :: p.2):=by
 show(match σ b with|some B=>(match stripL (strip σ d) B.cells with|some (ts,ids)=>some (V.tp ts off,b :: ids)|none=>none)|none=>none)=_;cases σ b with
 |none=>rfl
 |some B=>simp only[zk];cases stripL (strip σ d) B.cells<;>rfl
theorem aQ(σ:Store)(d b off len:Nat):strip σ (d+1) (.rs b off len)=(σ b).bind fun B=>if off+len*B.st<=B.cells.length then(stripL (strip σ d) ((B.cells.drop off).take (len*B.st))).map fun p=>(.ts p.1 len,b :: p.2)else none:=by
 show(match σ b with|some B=>(if off+len*B.st<=B.cells.length then(match stripL (strip σ d) ((B.cells.drop off).take (len*B.st))with|some (ts,ids)=>some (V.ts ts len,b :: ids)|none=>none)else none)|none=>none)=_;cases σ b with
 |none=>rfl
 |some B=>
  simp only[zk]
  split
  .cases stripL (strip σ d) ((B.cells.drop off).take (len*B.st))<;>rfl
  .rfl
def Wn(ids:List Nat)(t:V)(σ:Store)(nx:Nat):J6:=if(ids.isEmpty||flat depth t)=true then some (t,σ,nx)else none
theorem adW(t:V)(σ:Store)(nx:Nat):Wn [] t σ nx=some (t,σ,nx):=rfl
theorem af'(ids:List Nat)(v:Value)(σ:Store)(nx:Nat):Wn ids (.sc v) σ nx=some (.sc v,σ,nx):=by
 unfold Wn depth flat;simp
theorem aga{d:Option Tmp}{ty:TypeId}{ps:String}{O:Array Edge}{S:Option (Nat×Bool)}{T:Nat->V}{σ:Store}{nx:Nat}{g:FuncId}(h:conv g= .KQ)(args:Array Operand)(ts:Array TypeId) :
  Aq P conv (ev P conv ext) ⟨d,.call ⟨.value (.func g),args,ts⟩,ty,ps,O,S⟩ T σ nx=(stripL (strip σ depth) (args.toList.map (val T))).bind fun p=>if(p.2.all fun b=>decide (b<nx))=true then(fn P conv ext g p.1).bind fun t=>Wn p.2 t σ nx else none:=by
 unfold Aq;rw[lZ d ty ps O S T σ (by rw[h];exact fun e=>by cases e)];cases Y:stripL (strip σ depth) (args.toList.map (val T))with
 |none=>rfl
 |some p=>
  obtain⟨us,ids⟩:=p;simp only[zG,zk]
  by_cases E:(ids.all fun b=>decide (b<nx))=true
  .rw[sN E,sN E]
   have e:=Ls (P:=P) (conv:=conv) (call:=ev P conv ext) d ty ps O S T (restrict σ ids) nx (.func g) args ts;rw[e];have G:stripL (strip (restrict σ ids) depth) (args.toList.map (val T))=some (us,ids) :=
    au (fun v t i h hi=>aU _ v t i h fun b hb=>by unfold restrict;rw[sN (hi b hb)]) Y
   simp only[val,qE,zC,Wh h,G,zk];cases fn P conv ext g us with
   |none=>rfl
   |some t=>
    simp only[zG,zk,keeps,val,h,Wn,behind]
    by_cases J:(ids.isEmpty||flat depth t)=true
    .rw[sN J,sN J,sN J,iH]
    .rw[sO J,sO J]
  .rw[sO E,sO E]
end
abbrev I(n:Int):V:=.sc (.int .i64 n)
abbrev Bo(b:Bool):V:=.sc (.bool b)
abbrev Sg(s:ByteArray):V:=.sc (.string s)
abbrev L(xs:List Int):V:=.ts (xs.map I) xs.length
theorem jC(n:Nat):(0:Int)<=(n:Int):=by omega
theorem ZR{n:Int}(E:-9223372036854775808<=n:=by omega)(G:n<=9223372036854775807:=by omega):IntKind.i64.wrap n=n:=by
 rw[IntKind.wrap_i64];omega
end Go.TV
namespace Go.TV
variable [Known]
attribute [go_sem low] iT
attribute [go_sem] ZA ajB adF ZC ZE VT SB ZF ZG ZH VU ajC afU ajD afV afW adG adH ZI ZJ VW VX VY Z7 afX ajE Z8 adI anz ajF ajG ajH ajI ajJ afY afZ adJ anA VZ af0 adK anB Pg Z9 Z_ ajK adL anC MW V3 aac ajL MX V6 aad ajM SC adM af2 aqV aae ajN Ph aaf aag ajO af4 aqW anD adN List.contains_cons List.contains_nil Bool.or_false Bool.false_or Bool.true_or Nat.reduceBEq adq YX VD adr ads adt YZ Sl VE Sm ajl adu afx ajm adv abN Y0 VF aqQ aqR aqS ano ajn ajo afy Y1 afz ajp anp uo wS wQ afA afB ajq afC Kt ajr ajs afE ajt Y2 VG Ih afF Sr afG Sv afH MR afI Ls qE anq Qb ajv afK adn YU Y3 VI Y4 VJ Y5 adw Y6 ady afM ajw afN afO afP adz Y7 adA adB VL adC adD Y8 Sz Y9 Y_ adE aqT ajx anr ajy afS ant anu aqU anv anw ajz afT ajA anx aah V8 SE aai aaj aak V9 af5 aam af6 SH adO af7 Pj Pm V_ ajP adP adQ ajQ af8 af9 af_ adR adS aga adW af' xE Option.getD_none adi YM adk YN YO Vy YP YQ YR YS adl ng YT Vz VA nT nU ado adp VB YV YW am' ana anb anc ane anf ang anh ani anj ank anl anm Wh aan adT Wi aX ak aP aS aN aK Qd adU adV M_ aQ Zi Zj ne_eq wL tJ xE zG zk wO not_false_eq_true reduceCtorEq beq_self_eq_true if_true if_false xu uK List.map_nil yM yS Nat.reduceEqDiff decide_true decide_false wQ uo uz vZ uJ Bool.or_true wS bnd and_true true_and
end Go.TV
namespace Go.TV
variable [Known]
theorem jP{body:St->Option (Ex×St)}{E:St}{x:Option (Ex×St)}(S:jI body E=x)(J:Nat->St->Prop)(post:Ex×St->Prop)
  (step:∀n st,J n st->(∃G,body st=some (.norm,G)/\∃m,m<n/\J m G)\/(∃r,body st=some r/\(∀s,r≠(.norm,s))/\post r)) (n:Nat) (Y:J n E):∃r,x=some r/\post r:=by
 subst S
 induction n using Nat.strongRecOn generalizing E with
 |_ n ih=>
  rcases step n E Y with ⟨G,O,m,hm,hJ⟩|⟨r,O,h2,h3⟩
  .obtain⟨r,hr,hp⟩:=ih m hm hJ
   exact⟨r,by rw[MP,O];exact hr,hp⟩
  .refine⟨r,?_,h3⟩
   rw[MP,O];obtain⟨e,s⟩:=r;cases e with
   |norm=>exact absurd rfl (h2 s)
   |exit i=>rfl
   |ret=>rfl
end Go.TV
namespace Go.TV
open Go.ChangeShapes Go.WideShapes Go.RowKit
set_option linter.unusedVariables false
variable [Known]
def start(W:World):Sit:=⟨fun k _=>k<W.heap.size,fun _=>none,W⟩
theorem adX(W:World)(E:Kn (start W)):Inv (start W) pI:=Inv.none _ (fun _ _ h=>h) E
structure OpensV {α:Type} (P:Program) (t:TypeId) (c:α->List V) (ok:α->Prop):Prop where
 out:∀ {H:Type} {enc:TypeId×Value->H} {W:World} {base:Nat} {spare:Nat->Bool} {held:Bool} {fuel:Nat} {cs:List Value} {y:DataW H×List MemPlace},
  DataW.trod enc P W base spare held fuel t cs=some y->(∀n∈DataW.weights P t y.1,n<=reachBytes)->∃x,VRs (start W) (c x) cs/\ok x
theorem SK{s:Sit}{v:V}{x:Value}(h:VR s v x):VRs s [v] [x]:=by
 unfold VRs;exact⟨x,[],rfl,h,by unfold VRs;rfl⟩
theorem opensV_int{P:Program}{t:TypeId}{k:IntKind}(E:P.underlying t=some (.int k)):OpensV P t (fun n:Int=>[.sc (.int k n)]) (fun n=>(Lit.int k n).wf=true) :=
 ⟨fun h _=>by
  obtain⟨n,rfl,_,hw⟩:=DataW.trod_int E h;exact⟨n,SK (rZ rfl),hw⟩⟩
theorem ZU{H:Type}{P:Program}{e:TypeId}:∀ {l:List (DataW H)} {d:DataW H},d∈l->∀n∈d.weights P e,n∈DataW.weightsAll P e l
 |c :: l,d,E,n,hn=>by
  unfold DataW.weightsAll;rcases List.mem_cons.1 E with rfl|E
  .exact zB _ hn
  .exact yj _ (ZU E n hn)
theorem Kv{α:Type}{p:Nat->α->Prop}:∀n,(∀i,i<n->∃x,p i x)->∃l:List α,l.length=n/\∀i x,l[i]?=some x->p i x
 |0,_=>⟨[],rfl,fun i x h=>by simp at h⟩
 |n+1,h=>by
  obtain⟨l,J,hp⟩:=Kv n (fun i hi=>h i (by omega));obtain⟨x,O⟩:=h n (by omega);refine⟨l++[x],by simp[J],fun i y E=>?_⟩;rcases Nat.lt_or_ge i n with hi|hi
  .rw[zV (by omega)]at E
   exact hp i y E
  .rw[zM (by omega),J]at E
   have G:i-n=0:=by
    rcases Nat.eq_zero_or_pos (i-n)with G|G
    .exact G
    .rw[yw (by simp;omega)]at E
     cases E
   rw[G]at E;have:x=y:=by simpa using E
   subst this;have:i=n:=by omega
   subst this;exact O
theorem Ik{s:Sit}{α:Type}{c:α->List V}{k size:Nat}(hc:∀x,(c x).length=size):∀(xs:List α) (o:Nat),(∀i x,xs[i]?=some x->Ez s (c x) k (o+i*size))->Ez s (xs.flatMap c) k o
 |[],o,_=>by rw[w_];unfold Ez;trivial
 |x :: xs,o,h=>by
  rw[zJ];have E:=h 0 x rfl;rw[uY,u_]at E;have G:=Ik hc xs (o+size) (fun i y J=>by
   have:=h (i+1) y (by simpa using J);rw[vP,Nat.one_mul]at this
   rwa [show o+size+i*size=o+(i*size+size) by omega])
  have app:∀(a b:List V) (o:Nat),Ez s a k o->Ez s b k (o+a.length)->Ez s (a++b) k o:=by
   intro a
   induction a with
   |nil=>intro b o _ hb;simpa using hb
   |cons v a O=>
    intro b o ha hb;rw[yS];unfold Ez at ha⊢;refine⟨ha.1,ha.2.1,O b (o+1) ha.2.2 ?_⟩
    rwa [show o+1+a.length=o+(v :: a).length by simp;omega]
  exact app _ _ o E (by rw[hc];exact G)
theorem opensV_slice{P:Program}{t e:TypeId}{α:Type}{c:α->List V}{ok:α->Prop}{B size:Nat}(ht:P.underlying t=some (.slice e))(hd:OpensV P e c ok)(E:∀x,(c x).length=size)(hc:P.cellsOf e=size)(hB:P.bytesOf e=B) :
  OpensV P t (fun xs:List α=>[.ts (xs.flatMap c) xs.length]) (fun xs=>(∀x∈xs,ok x)/\xs.length*B<=140737488351232/\xs.length<=maxLen) :=
 ⟨fun {H enc W base spare held fuel cs y} h hw=>by
  rcases Go.Deep.open_slice ht h with ⟨rfl,rfl⟩|⟨a,len,cap,m,n,D,Pl,rfl,_,hl,hm,a5,rfl,Y⟩
  .exact⟨[],SK (by unfold VR;exact⟨none,0,rfl,zq _,.inl rfl⟩),fun x Y=>by simp at Y,by simp,vg _⟩
  .have b6:len<=m:=by rw[a5];split<;>omega
   simp only[DataW.weights,ht,zQ,uH]at hw;obtain⟨xs,a0,G⟩:=Kv (p:=fun i x=>∃J:List Value,J.length=size/\VRs (start W) (c x) J/\ok x/\∀(j:Nat) (u:Value),J[j]?=some u->W.cell? (a.add (i*size+j))=some u) len (fun i hi=>by
    obtain⟨a6,a1,a7⟩:=Y i (by omega);obtain⟨x,hK,a8⟩:=hd.out a7 (fun k hk=>hw k (zY _ (zB _ (ZU (d:=D i) (List.mem_map.2 ⟨i,List.mem_range.2 hi,rfl⟩) k hk))));obtain⟨_,a9,b2⟩:=World.cells?_some a1;refine⟨x,a6,by rw[<- rO hK,E],hK,a8,fun j u hu=>?_⟩;have hj:j<P.cellsOf e:=by rw[<- a9];exact(List.getElem?_eq_some_iff.1 hu).1
    have:=b2 j hj;rw[hc,Go.Deep.add_add]at this;rw[this,hu])
   have hlen:len<=9223372036854775807:=by
    unfold maxLen at hm;omega
   refine⟨xs,SK ?_,fun x b3=>?_,?_,by omega⟩
   .unfold VR
    refine⟨some a,cap,by rw[a0],by omega,?_⟩
    by_cases O:xs.flatMap c=[]
    .exact .inl O
    .obtain⟨x0,b4⟩:∃x0,xs[0]?=some x0:=by
      cases xs with
      |nil=>exact absurd rfl O
      |cons x0 r=>exact⟨x0,rfl⟩
     have S:a.spot=none/\a.block<W.heap.size:=by
      obtain⟨J,k1,k2,k3,k4⟩:=G 0 x0 b4;have a2:J≠[]:=by
       rintro rfl;have:size=0:=by simpa using k1.symm
       apply O;rw[List.flatMap_eq_nil_iff];intro x _;exact zZ (by rw[E,this])
      cases J with
      |nil=>exact absurd rfl a2
      |cons u r=>
       have:=k4 0 u rfl;rw[uY,yY]at this;have b5:a.add 0=a:=by simp[Addr.add]
       rw[b5]at this;refine⟨?_,World.block_lt_of_cell? W a this⟩;unfold World.cell? at this
       split at this
       .split at this
        .cases this
        .rename_i hs;simpa using hs
       .cases this
     obtain⟨a3,a4⟩:=S;obtain⟨ab,ao,b7⟩:=a;simp only at a3 a4;subst a3;refine .inr ⟨ab,ao,rfl,Ik E xs ao fun i x Y=>H9 fun j v hv=>⟨a4,?_⟩⟩;obtain⟨J,k1,k2,k3,k4⟩:=G i x Y;obtain⟨u,hu,hr⟩:=rP k2 hv;refine⟨u,?_,hr⟩;have:=k4 j u hu;rw[Addr.add_lit]at this;rw[vw];exact this
   .obtain⟨i,hi⟩:=List.mem_iff_getElem?.1 b3
    obtain⟨_,_,_,h3,_⟩:=G i x hi;exact h3
   .have:=hw _ zL
    rw[hB]at this;rw[a0];exact zT (zK _ (by omega)) this⟩
theorem opensV_param{P:Program}{t:TypeId}{α:Type}{c:α->List V}{ok:α->Prop}(h:OpensV P t c ok){H:Type}{enc:TypeId×Value->H}{W:World}{base:Nat}{spare:Nat->Bool}{held:Bool}{v:Value}{y:DataW H}{p:List MemPlace}
  (S:DataW.Trod enc P W base spare held t v y p) {ts:List TypeId} {O:List (DataW H)} {j:Nat} (E:(DataW.weightsEach P ts O).all (·<=reachBytes)=true) (G:ts[j]?=some t) (J:O[j]?=some y) :
  ∃x,VRs (start W) (c x) v.cells.toList/\ok x:=by
 obtain⟨fuel,Y⟩:=S;exact h.out Y (fun n hn=>by
  have:=List.all_eq_true.1 E n (DataW.weights_mem_each G J n hn)
  simpa using this)
theorem VR_cell{s:Sit}{v:V}{x:Value}(hc:x.cells=#[x])(h:VRs s [v] x.cells.toList):VR s v x:=by
 rw[hc]at h;unfold VRs at h;obtain⟨y,G,e,E,_⟩:=h;simp only[List.cons.injEq]at e;rw[e.1];exact E
theorem calls_of_fn{P:Program}{conv:FuncId->Conv}{ext:Ext}(hm:P.follows .mixedOrders=true)(S:Kq P ext){f:FuncId}{args:List V}{E:List Value}{W:World}(Y:Kn (start W))(hv:VRs (start W) args E)(h:fn P conv ext f args=some (.sc (.bool true))) :
  Calls P f E.toArray W (fun e w'=>e= .returned (.bool true)/\Below W.heap.size W w'):=by
 unfold fn at h
 split at h
 .rename_i v G n J
  obtain⟨p,hp,e⟩:=AU h;obtain⟨_,_,Yx⟩:=mY hm S _ _ _ _ _ _ _ J;refine(Yx (start W) E (adX W Y) (fun _ _ _=>rfl) hv).mono ?_;rintro e' w' ⟨s',x,rfl,rfl,O⟩;refine⟨?_,O.Jg.below⟩;have:=aO O.inv depth v p.1 p.2 x _ hp O.vr (oW s' G p.2);rw[e]at this;unfold VR at this;rw[this.1]
 .cases h
end Go.TV
namespace Go.TV
variable [Known]
theorem nD{α β:Type}{P:Program}(m:Sem α)(f:α->Sem β):xI P (m>>=f)=(xI P m).bind fun a=>xI P (f a):=by
 show xI P (m.bind f)=_
 induction m with
 |pure a=>rfl
 |program k E=>exact E P
 |mark m k E=>exact E
 |_=>rfl
theorem Kw{α:Type}{P:Program}(a:α):xI P (pure a:Sem α)=some a:=rfl
theorem n_{P:Program}:xI P program=some P:=rfl
theorem Na{α:Type}{P:Program}(c:Prop)[Decidable c](a b:Sem α):xI P (if c then a else b)=if c then xI P a else xI P b:=by split<;>rfl
theorem o_{P:Program}{t:TypeId}{d:TypeDesc}(h:P.underlying t=some d):xI P (underlying t)=some d:=by
 unfold underlying;rw[nD,n_];simp only[zk,h];rfl
theorem o8{P:Program}(d:Nat)(t:TypeId)(k E:IntKind)(a b:Int)(h:P.underlying t=some (.int E)):xI P (Op.equalIn (d+1) t (.int k a) (.int k b))=some (a==b):=by
 unfold Op.equalIn;rw[nD,o_ h];simp only[zk,if_true];rfl
theorem Il{P:Program}(d:Nat)(t:TypeId)(xs E:Array Value)(G:P.underlying t=some (.struct (P.fieldsOf t)))(hp:P.stoodInHeld t=false) :
  xI P (Op.equalIn (d+1) t (.agg xs) (.agg E))=xI P (Op.eqFields d xs E (P.fieldsOf t).toList):=by
 unfold Op.equalIn;rw[nD,o_ G];simp only[zk,nD,n_,hp,xu,if_false,Kw];rw[<- Array.forIn_toList];generalize (P.fieldsOf t).toList=J;clear G
 induction J with
 |nil=>rfl
 |cons f J O=>
  simp only[List.forIn_cons,Op.eqFields,nD,Na]
  split
  .cases xI P (part f.type xs f.offset)with
   |none=>rfl
   |some a=>
    cases xI P (part f.type E f.offset)with
    |none=>rfl
    |some b=>
     simp only[zk];cases xI P (Op.equalIn d f.type a b)with
     |none=>rfl
     |some r=>
      cases r
      .rfl
      .exact O
  .exact O
theorem o9 {P:Program} {d:Nat} {xs E:Array Value} {f:Field} {G:List Field} {a b:Value} {r:Bool} (hn:f.name ≠ "_") (ha:xI P (part f.type xs f.offset) = some a) (hb:xI P (part f.type E f.offset) = some b) (J:xI P (Op.equalIn d f.type a b) = some r) :
  xI P (Op.eqFields d xs E (f :: G))=if r=true then xI P (Op.eqFields d xs E G)else some false:=by
 conv=>lhs;rw[Op.eqFields]
 rw[sN hn,nD,ha];simp only[zk,nD,hb,J,Na];cases r<;>rfl
theorem aao{P:Program}{t:TypeId}{x y:Operand}{cs J:List V}{us vs:List Value}{r:Bool}{G:Array Field}(hm:P.eqGuardType P.depth t=false)(O:P.underlying t=some (.struct G))(hp:P.stoodInHeld t=false)
  (hu:Fq cs=some us) (S:Fq J=some vs) (h:xI P (Op.eqFields 9999 us.toArray vs.toArray G.toList)=some r):Aw P .eql t x y (.agg cs) (.agg J)=some (.sc (.bool r)):=by
 have E:P.fieldsOf t=G:=by unfold Program.fieldsOf;rw[O]
 have Y:xI P (eqGuard .eql t x y (.agg us.toArray) (.agg vs.toArray))=some ():=by
  unfold eqGuard;rw[sO (by simp)];simp only[nD,n_,zk,hm,vZ,if_true];rfl
 have he:xI P (binOp .eql t (.agg us.toArray) (.agg vs.toArray))=some (Value.bool r):=by
  have h1:binOp .eql t (.agg us.toArray) (.agg vs.toArray)=(Op.equal t (.agg us.toArray) (.agg vs.toArray)>>=fun b=>pure (Value.bool b)):=by simp only[binOp]
  have h2:xI P (Op.equal t (.agg us.toArray) (.agg vs.toArray))=some r:=(Il 9999 t _ _ (by rw[E];exact O) hp).trans (by rw[E];exact h);rw[h1,nD,h2];rfl
 simp only[Aw,toVal,hu,S,zG,nD,Y,he,zk];rfl
end Go.TV
namespace Go.TV
variable [Known]
open Go.RowKit
section
variable {P:Program} {conv:FuncId->Conv} {call:Call}
theorem SL{t e:TypeId}{x y:Operand}{p:Option Addr}{len cap:Nat}(h:P.underlying t=some (.slice e))(w:World) :
  ((do eqGuard .eql t x y (.slice p len cap) (.slice none 0 0);binOp .eql t (.slice p len cap) (.slice none 0 0)):Sem Value).run P w= .ok (.bool p.isNone) w:=by
 refine dR _ ?_ w;rw[nD,eqGuard_at_slice];simp only[Kw,zk];have E:binOp .eql t (.slice p len cap) (.slice none 0 0)=(Op.equal t (.slice p len cap) (.slice none 0 0)>>=fun b=>pure (Value.bool b)):=by simp only[binOp]
 rw[E,nD];have G:xI P (Op.equal t (.slice p len cap) (.slice none 0 0))=some p.isNone:=by
  show xI P (Op.equalIn (9999+1) t _ _)=_;unfold Op.equalIn;rw[nD,o_ h];simp only[zk];cases p<;>rfl
 rw[G];rfl
theorem Nb(hc:DL P call)(hm:P.follows .mixedOrders=true){f:FuncId}{fn:Func}{A B C D:Code}{id t u:Nat}{o1:Oper}{ty yt E e:TypeId}{ps:String}{af:Array Edge}(hf:P.funcs[f]?=some fn)
  (hb:fn.body=some (.seq A (.seq (.seq (.region id #[o1,⟨some t,.binOp .eql ty (.tmp u) (.const (.slice none 0 0)) yt,E,ps,af,none⟩] false) (.cond (.tmp t) B C)) D)))
  (c2:P.underlying ty=some (.slice e)) {n:Nat} {args:List V}
  (a8:Vh fn (.seq A (.seq (.seq (.region id #[o1,⟨some t,.binOp .eql ty (.tmp u) (.const (.slice none 0 0)) yt,E,ps,af,none⟩] false) (.cond (.tmp t) B C)) D)) args.length=true)
  {σ σ':Store} {nx nx':Nat} {vs:List V} {st1:St} (hA:Ad P conv call n A ⟨DJ args,σ,nx⟩=some (.norm,st1)) {T2:Nat->V}
  (hg:o1.guard=none) {v1:V} (h1:AP P conv call o1 st1.T st1.σ st1.nx=some (v1,st1.σ,st1.nx)) (c3:T2=C9 st1.T o1.dst v1) {row:List V} {len:Nat} (hu:T2 u= .ts row len)
  (S:∀b:Bool,(b=true->row=[])->∃ex O,Ad P conv call n (.seq (.cond (.tmp t) B C) D) ⟨upd T2 t (.sc (.bool b)),st1.σ,st1.nx⟩=some (ex,O)/\(ex= .norm\/ex= .ret)/\Ai P O.T O.σ fn.results.toList=some vs/\O.σ=σ'/\O.nx=nx') :
  EL P f args σ nx (oneOf vs) σ' nx':=by
 unfold Vh at a8;simp only[zD,decide_eq_true_eq,vJ]at a8;obtain⟨⟨a9,e0⟩,a7⟩:=a8;simp only[ES,zD]at a7;obtain⟨c4,⟨c5,c6,c7⟩,c8⟩:=a7;have c9:=nY hc n A _ _ _ hA;obtain⟨e2,e3,d0,_,_,_,e4⟩:=S false (fun h=>by cases h);have e5:st1.nx<=nx':=by have:=nY hc n _ _ _ _ d0;simp only at this;omega
 have b4:∀o∈[o1,(⟨some t,.binOp .eql ty (.tmp u) (.const (.slice none 0 0)) yt,E,ps,af,none⟩:Oper)],∀d,o.dst=some d->d<fn.ntmps:=fun o ho d d1=>by
  have:=Array.all_eq_true'.1 c5 o (by simpa using ho);rw[d1]at this
  simpa using this
 refine⟨by simp only at c9;omega,⟨fn,hf,by rw[hb];rfl,a9⟩,fun s d9 hi d2 Y=>?_⟩;have hl:=rO Y;refine calls_of_wp hf hb ?_;refine wp_seq (pF hc hm (nt:=fn.ntmps) (KR:=nx') (s0:=s) (Gz:=σ) (GL:=nx) n A ⟨DJ args,σ,nx⟩ st1 .norm _ hA c4 (by omega) (fun s1 a1 b2=>?_) s _
  ⟨hi,abL Y _,by simp;omega,rfl,.refl s σ,.refl s nx nx,d2,zq _⟩)
 refine wp_seq (wp_seq (wp_region ?_));show wpOps P _ _ [0,1] a1 s1.w;have hw:∀(o:Oper) (tm:Array Value),o.guard=none->Region.wanted o (yielded #[o1,(⟨some t,.binOp .eql ty (.tmp u) (.const (.slice none 0 0)) yt,E,ps,af,none⟩:Oper)] tm)=true:=fun o tm h=>by unfold Region.wanted;rw[h]
 rw[wpOps_cons];unfold wpOp;rw[show(#[o1,(⟨some t,.binOp .eql ty (.tmp u) (.const (.slice none 0 0)) yt,E,ps,af,none⟩:Oper)])[0]?=some o1 from rfl];simp only[hw o1 _ hg,if_true];refine .inl (MJ hc h1 b2.inv b2.tr (fun i h1 h2=>absurd h2 (by omega)) fun s2 x2 d3=>?_);have a0:=b2.step d3 (zq _) (b4 o1 (by simp));rw[<- c3]at a0;generalize a1.put o1.dst x2=a2 at a0⊢;rw[wpOps_cons];unfold wpOp;rw[show(#[o1,(⟨some t,.binOp .eql ty (.tmp u) (.const (.slice none 0 0)) yt,E,ps,af,none⟩:Oper)])[1]?=some ⟨some t,.binOp .eql ty (.tmp u) (.const (.slice none 0 0)) yt,E,ps,af,none⟩from rfl];simp only[hw ⟨some t,.binOp .eql ty (.tmp u) (.const (.slice none 0 0)) yt,E,ps,af,none⟩ _ rfl,if_true];have hx:=a0.tr u;rw[hu]at hx;unfold VR at hx;obtain⟨p,cap,d4,_,b5⟩:=hx;refine .inl (ZT (w':=s2.w) (x:=.bool p.isNone) ?_ ?_)
 .have he:execOp a2.eval ⟨some t,.binOp .eql ty (.tmp u) (.const (.slice none 0 0)) yt,E,ps,af,none⟩=(do pure (.value (<- (do eqGuard .eql ty (.tmp u) (.const (.slice none 0 0)) (a2.tmps.getD u undef) (.slice none 0 0);binOp .eql ty (a2.tmps.getD u undef) (.slice none 0 0)))):Sem Next):=rfl
  rw[he,d4];simp only[Sem.run_bind,Sem.run_pure];have:=SL (P:=P) (x:=.tmp u) (y:=.const (.slice none 0 0)) (p:=p) (len:=len) (cap:=cap) c2 s2.w;simp only[Sem.run_bind]at this;rw[this];rfl
 .obtain⟨ex,O,J,hex,b6,d5,a6⟩:=S p.isNone (fun hp=>by
   rcases b5 with h|⟨k,o,h,_⟩
   .exact h
   .rw[h]at hp;cases hp)
  have G:YB fn.ntmps nx' s σ nx (upd T2 t (.sc (.bool p.isNone))) st1.σ st1.nx s2 (a2.put (some t) (.bool p.isNone)) :=
   a0.step (Out.same a0.inv (by unfold VR;exact⟨rfl,rfl⟩)) (zq _) (b4 ⟨some t,.binOp .eql ty (.tmp u) (.const (.slice none 0 0)) yt,E,ps,af,none⟩ (by simp))
  simp only[wpOps];show Code.wp P (Code.cond (.tmp t) B C) _ _ _;have fin:∀s3 a3,YB fn.ntmps nx' s σ nx O.T O.σ O.nx s3 a3->bodyPost P fn (fun e w'=>∃s' x,s'.w=w'/\e= .returned x/\Out s σ nx s' (oneOf vs) x σ' nx') (RY ex) a3 s3.w:=fun s3 a3 G=>by
   obtain⟨xs,g1,g2⟩:=fD G.inv G.tr fn.results.toList vs b6;have b7:(results fn a3.tmps).run P s3.w= .ok (if h:xs.toArray.size=1 then xs.toArray[0]else .tuple xs.toArray) s3.w:=by
    rw[MO];have e1:fn.results=fn.results.toList.toArray:=by simp
    rw[e1,List.mapM_toArray];simp only[Sem.run_bind,Sem.run_map,g1,Result.andThen_ok,Sem.run_pure]
   have a4:bodyPost P fn (fun e w'=>∃s' x,s'.w=w'/\e= .returned x/\Out s σ nx s' (oneOf vs) x σ' nx') .normal a3 s3.w:=by
    subst d5 a6;exact⟨G.defers,_,b7,s3,_,rfl,rfl,⟨Vp g2,G.inv,G.Jg,G.dom⟩⟩
   rcases hex with rfl|rfl
   .exact a4
   .exact a4
  simp only[Ad]at J;have b8:ES fn.ntmps (Code.cond (.tmp t) B C)=true:=by simp only[ES,zD];exact⟨c6,c7⟩
  have a5:∀st e b9,(match val (St.T st) (.tmp t)with| .sc (.bool true)=>Ad P conv call n B st| .sc (.bool false)=>Ad P conv call n C st|_=>none)=some (e,b9)->Ad P conv call n (.cond (.tmp t) B C) st=some (e,b9):=fun _ _ _ h=>h
  split at J
  .rename_i c0 d6
   have d7:=nY hc n D _ _ _ J;refine pF hc hm (KR:=nx') n (.cond (.tmp t) B C) ⟨upd T2 t (.sc (.bool p.isNone)),st1.σ,st1.nx⟩ c0 .norm _ (a5 _ _ _ d6) b8 (zT d7 (Nat.le_of_eq a6)) (fun s3 a3 b3=>?_) s2 _ G;exact pF hc hm (KR:=nx') n D c0 O ex _ J c8 (Nat.le_of_eq a6) fin s3 a3 b3
  .rename_i r d8
   refine pF hc hm (KR:=nx') n (.cond (.tmp t) B C) ⟨upd T2 t (.sc (.bool p.isNone)),st1.σ,st1.nx⟩ O ex _ (a5 _ _ _ J) b8 (Nat.le_of_eq a6) (fun s3 a3 b3=>?_) s2 _ G;cases ex with
   |norm=>exact absurd J (d8 O)
   |exit id=>rcases hex with h|h<;>cases h
   |ret=>exact fin s3 a3 b3
end
instance (priority:=low) aqe:Known:=⟨[]⟩
end Go.TV
namespace Go.TV
structure Dk where
 name:ByteArray
 x:Int
 y:Int
 fixed:Bool
structure Member where
 a:Int
 b:Int
 kind:Int
structure Structure where
 bI:List Dk
 members:List Member
structure Dp where
 name:ByteArray
 st:Structure
 load:List Int
 limits:List Int
structure Move where
 fr:Int
 to:Int
structure Cm where
 aI:List Dp
 moves:List Move
 strict:Bool
abbrev cI(n:Int):List V:=[I n]
abbrev Ag(j:Dk):List V:=[Sg j.name,I j.x,I j.y,Bo j.fixed]
abbrev Ac(m:Member):List V:=[I m.a,I m.b,I m.kind]
abbrev LL{α:Type}(c:α->List V)(xs:List α):V:=.ts (xs.flatMap c) xs.length
abbrev LI(xs:List Int):V:=.ts (xs.flatMap cI) xs.length
abbrev iI(s:Structure):List V:=[LL Ag s.bI,LL Ac s.members]
abbrev Au(t:Dp):List V:=[Sg t.name,LL Ag t.st.bI,LL Ac t.st.members,LI t.load,LI t.limits]
abbrev Dl(m:Move):List V:=[I m.fr,I m.to]
abbrev AQ(y:Cm):List V:=[LL Au y.aI,LL Dl y.moves,Bo y.strict]
def okI(n:Int):Prop:=(Lit.int .i64 n).wf=true
def okS(s:ByteArray):Prop:=s.size<=140737488351232
def okL{α:Type}(B:Nat)(ok:α->Prop)(xs:List α):Prop:=(∀x∈xs,ok x)/\xs.length*B<=140737488351232/\xs.length<=maxLen
def SN(j:Dk):Prop:=okS j.name/\okI j.x/\okI j.y/\True
def agc(m:Member):Prop:=okI m.a/\okI m.b/\okI m.kind
def Ah(s:Structure):Prop:=okL 40 SN s.bI/\okL 24 agc s.members
def Io(t:Dp):Prop:=okS t.name/\Ah t.st/\okL 8 okI t.load/\okL 8 okI t.limits
def anE(m:Move):Prop:=okI m.fr/\okI m.to
def GN(y:Cm):Prop:=okL 112 Io y.aI/\okL 16 anE y.moves/\True
theorem Ip{n:Int}:okI n↔ -9223372036854775808<=n/\n<=9223372036854775807:=by
 unfold okI;simp only[Lit.wf,zD,decide_eq_true_eq];have E:IntKind.i64.min= -9223372036854775808:=by decide
 have G:IntKind.i64.max=9223372036854775807:=by decide
 rw[E,G]
end Go.TV
namespace Go.TV
theorem m_{P:Program}{conv:FuncId->Conv}{ext:Ext}(f:FuncId)(ts:List V):fn P conv ext f ts=(ev P conv ext f ts pI 0).bind fun q=>(strip q.2.1 depth q.1).map (·.1):=by
 unfold fn;cases ev P conv ext f ts pI 0 with
 |none=>rfl
 |some q=>rfl
section
variable (v:Value) (row:List V) (a b c:Nat) (f:FuncId) (vs:List V)
theorem adY:vI (.sc v)=true:=id rfl
theorem aap:vI .nil=true:=id rfl
theorem adZ:vI (.tp row a)=true:=id rfl
theorem ad1:vI (.ts row a)=true:=id rfl
theorem ad2:vI (.rp a b)=true:=id rfl
theorem ad3:vI (.rs a b c)=true:=id rfl
theorem aaq:vI (.clo f vs)=true:=id rfl
theorem ad4:cellsOfV (.agg vs)=some vs:=id rfl
theorem agd:cellsOfV (.sc v)=some [.sc v]:=id rfl
theorem ad5:cellsOfV .nil=some [.nil]:=id rfl
theorem agf:cellsOfV (.tp row a)=some [.tp row a]:=id rfl
theorem agh:cellsOfV (.ts row a)=some [.ts row a]:=id rfl
theorem agi:cellsOfV (.rp a b)=some [.rp a b]:=id rfl
theorem agj:cellsOfV (.rs a b c)=some [.rs a b c]:=id rfl
theorem ad6:cellsOfV (.clo f vs)=some [.clo f vs]:=id rfl
theorem Nc(pl:Nat->Option (Nat×Nat))(cells:List V):CV pl cells []=some cells:=rfl
theorem Ju(pl:Nat->Option (Nat×Nat))(cells:List V)(i:Nat)(v:V)(rest:List (Nat×V)):CV pl cells ((i,v) :: rest)=(pl i).bind fun p=>(cellsOfV v).bind fun vs=>if vs.length=p.2/\p.1+vs.length<=cells.length then CV pl (patch cells p.1 vs) rest else none:=by
 show(match pl i,cellsOfV v with|some (off,size),some vs=>_|_,_=>none)=_;cases pl i<;>cases cellsOfV v<;>rfl
theorem iD(cells:List V)(off:Nat)(v:V):patch cells off [v]=cells.set off v:=rfl
theorem ad7(u:V)(cells:List V)(off:Nat):patch (u :: cells) off []=(u :: cells).take off++[]++(u :: cells).drop (off+0):=rfl
theorem Jv(u:V)(cells:List V)(off:Nat)(v w:V)(vs:List V):patch (u :: cells) off (v :: w :: vs)=(u :: cells).take off++(v :: w :: vs)++(u :: cells).drop (off+(v :: w :: vs).length):=rfl
end
attribute [go_sem] adY aap adZ ad1 ad2 ad3 aaq ad4 agd ad5 agf agh agi agj ad6 Nc Ju iD ad7 Jv
attribute [go_sem] depth zC zJ w_ AA um List.set_cons_succ zW yV yP Nat.reduceAdd Nat.reduceLT Nat.reduceLeDiff vO vU yY u_ yZ List.drop_succ_cons List.take_succ_cons List.take_zero Nat.reduceMul uY Nat.one_mul yO BQ
end Go.TV
namespace Go.TV
section
variable {α:Type} {c:α->List V} {s:Nat}
theorem bU(hc:∀x,(c x).length=s)(xs:List α):(xs.flatMap c).length=xs.length*s:=by
 induction xs with
 |nil=>simp
 |cons x xs E=>rw[zJ,zo,E,hc,zW,xg,wH]
theorem Qe(hc:∀x,(c x).length=s)(xs:List α)(k:Nat):(xs.flatMap c).drop (k*s)=(xs.drop k).flatMap c:=by
 induction xs generalizing k with
 |nil=>simp
 |cons x xs E=>
  cases k with
  |zero=>simp
  |succ k=>
   rw[zJ,xg,wH,<- List.drop_drop];rw[show s=(c x).length from(hc x).symm,List.drop_left,hc x,E,List.drop_succ_cons]
theorem cO(hc:∀x,(c x).length=s)(xs:List α)(k:Nat)(h:k<xs.length):((xs.flatMap c).drop (k*s)).take s=c xs[k]:=by
 rw[Qe hc,yL h,zJ,show s=(c xs[k]).length from(hc _).symm,List.take_left]
theorem bg(c:α->V)(xs:List α)(k:Nat)(h:k<xs.length):(xs.flatMap fun x=>[c x])[k]?=some (c xs[k]):=by
 induction xs generalizing k with
 |nil=>cases h
 |cons x xs E=>
  cases k with
  |zero=>rfl
  |succ k=>exact E k (by simpa using h)
theorem bY(hc:∀x,(c x).length=s)(hs:0<s)(xs:List α)(k:Nat)(h:k<xs.length):xs.flatMap c≠[]:=by
 intro e;have:=bU hc xs;rw[e]at this;have E:0<xs.length*s:=Nat.mul_pos (by omega) hs;simp at this;omega
theorem fK(n:Nat)(z:List V):(rep n z).length=n*z.length:=by simp[rep]
theorem fJ(n:Nat)(z:List V):rep (n+1) z=z++rep n z:=by simp[rep,xX]
theorem b_(f:V->Option (V×List Nat))(a b:List V)(ha:stripL f a=some (a,[]))(hb:stripL f b=some (b,[])):stripL f (a++b)=some (a++b,[]):=by
 induction a with
 |nil=>exact hb
 |cons v a ih=>
  rw[ak]at ha;rw[yS,ak];cases G:f v with
  |none=>rw[G]at ha;cases ha
  |some p=>
   rw[G]at ha;cases E:stripL f a with
   |none=>rw[E]at ha;cases ha
   |some q=>
    rw[E]at ha;simp only[zk,zG,sS,sQ,List.cons.injEq,List.append_eq_nil_iff]at ha;obtain⟨⟨J,O⟩,S,Y⟩:=ha;obtain⟨p1,p2⟩:=p;obtain⟨q1,q2⟩:=q;simp only at J O S Y;subst J O S Y;rw[ih E];simp
theorem aW{f:V->Option (V×List Nat)}(h:∀x,stripL f (c x)=some (c x,[]))(xs:List α):stripL f (xs.flatMap c)=some (xs.flatMap c,[]):=by
 induction xs with
 |nil=>rfl
 |cons x xs E=>rw[zJ];exact b_ f _ _ (h x) E
end
section
variable {P:Program} {t:TypeId} {x y:Operand}
theorem ajR{a b:ByteArray}:Aw P .eql t x y (.sc (.string a)) (.sc (.string b))=some (.sc (.bool (a.toList==b.toList))):=by
 simp only[Aw,toVal,eqGuard_at_string,binOp_string_eql];rfl
theorem ajS{a b:ByteArray}:Aw P .neq t x y (.sc (.string a)) (.sc (.string b))=some (.sc (.bool !(a.toList==b.toList))):=by
 simp only[Aw,toVal,eqGuard_at_string,binOp_string_neq];rfl
theorem nC{a b:Bool}(h:P.underlying t=some .bool)(f:Bool->Value):xI P ((Op.equal t (.bool a) (.bool b)).bind fun r=>pure (f r))=some (f (a==b)):=by
 show xI P ((Op.equalIn (9999+1) t _ _).bind fun r=>pure (f r))=_;unfold Op.equalIn underlying;show xI P (.program fun p=>_)=_;simp only[xI];have pb:∀ {β E:Type} (a:β) (f:β->Sem E),(Sem.pure a).bind f=f a:=fun _ _=>rfl
 have G:∀ {β E:Type} (a:β) (f:β->Sem E),(pure a:Sem β).bind f=f a:=fun _ _=>rfl
 simp only[h,pb,G];rfl
theorem ajT{a b:Bool}(h:P.underlying t=some .bool):Aw P .eql t x y (.sc (.bool a)) (.sc (.bool b))=some (.sc (.bool (a==b))):=by
 simp only[Aw,toVal,eqGuard_at_bool,pure_bind,binOp];first|(erw[nC h (fun r=> .bool r)];rfl)|(erw[nC h (fun r=> .bool !r)];rfl)
theorem ajU{a b:Bool}(h:P.underlying t=some .bool):Aw P .neq t x y (.sc (.bool a)) (.sc (.bool b))=some (.sc (.bool !(a==b))):=by
 simp only[Aw,toVal,eqGuard_at_bool,pure_bind,binOp];first|(erw[nC h (fun r=> .bool r)];rfl)|(erw[nC h (fun r=> .bool !r)];rfl)
end
attribute [go_sem] ajR ajS ajT ajU bne_self_eq_false BEq.rfl
theorem oZ{body:St->Option (Ex×St)}{G:St}{x:Option (Ex×St)}(S:jI body G=x)(N:Nat)(J:Nat->St->Prop)(post:Ex×St->Prop)
  (step:∀k st,k<N->J k st->(∃E,body st=some (.norm,E)/\J (k+1) E)\/(∃r,body st=some r/\(∀s,r≠(.norm,s))/\post r))
  (last:∀st,J N st->∃r,body st=some r/\(∀s,r≠(.norm,s))/\post r) (h0:J 0 G):∃r,x=some r/\post r:=by
 refine jP S (fun n st=>n<=N/\J (N-n) st) post ?_ N ⟨zq _,by rwa [yQ]⟩;rintro n st ⟨hn,O⟩;cases n with
 |zero=>exact .inr (last st O)
 |succ n=>
  rcases step _ st (by omega) O with ⟨E,Y,h2⟩|h
  .exact .inl ⟨E,Y,n,by omega,by omega,by rwa [show N-n=N - (n+1)+1 by omega]⟩
  .exact .inr h
theorem Zh{α:Type}(σ:Nat->α)(b:Nat)(x y:α):upd (upd σ b x) b y=upd σ b y:=by
 funext i;unfold upd
 split<;>rfl
theorem anF:(false==true)=false:=id rfl
theorem anG:(true==false)=false:=id rfl
attribute [go_sem] anF anG Option.map_none Zh List.isEmpty_nil Int.cast_ofNat_Int zA
theorem Wp{P:Program}{t:TypeId}{lo hi:Option V}{σ:Store}(h:(Ae P t).slice=true)(E:(Ae P t).Si=true):AX P t .nil lo hi none σ=(bnd lo 0).bind fun l=>(bnd hi 0).bind fun h=>if l<=h/\h<=0 then some .nil else none:=by
 obtain⟨e,O,z,G,J,S,Y,h5,h6,h7⟩:=Zm h E;unfold AX;simp only[G,J];cases bnd lo 0<;>cases bnd hi 0<;>rfl
theorem ajV(σ:Store)(s:Nat):rowOf σ s .nil=some ([],0):=rfl
theorem anH(σ:Store)(s:Nat)(row:List V)(len:Nat):rowOf σ s (.ts row len)=if row.length=len*s then some (row,len)else none:=rfl
theorem anI(σ:Store)(s b off len:Nat):rowOf σ s (.rs b off len)=(σ b).bind fun B=>if off+len*s<=B.cells.length then some ((B.cells.drop off).take (len*s),len)else none:=by
 show(match σ b with|some B=>_|none=>none)=_;cases σ b<;>rfl
theorem r_(σ:Store)(nx size bytes:Nat)(row:List V)(m:Nat):Aj σ nx size bytes .nil row m=if m=0 then some (.nil,σ,nx)else if m<=maxLen/\m*bytes<=140737488355328 then some (.rs nx 0 m,AA σ nx row size,nx+1)else none:=rfl
theorem rE{σ:Store}{nx bytes b len m:Nat}{B:Fj}{row:List V}(hb:σ b=some B)(E:B.cells.length=len)(hs:B.st=1)(hm:m≠0)(G:len+m<=maxLen)(J:(len+m)*bytes<=140737488355328)(O:row.all vI=true) :
  Aj σ nx 1 bytes (.rs b 0 len) row m=some (.rs nx 0 (len+m),upd (upd σ b none) nx (some ⟨B.cells++row,1,B.wr⟩),nx+1):=by
 unfold Aj;simp only[hb,hm,if_false,E,hs,G,J,O];rw[sO (by omega),sN (by simp)];simp
theorem SQ:¬(1000000000:Int)=0:=by decide
attribute [go_sem] SQ
theorem iR{P:Program}{conv:FuncId->Conv}{call:Call}(d:Option Tmp)(ty:TypeId)(ps:String)(E:Array Edge)(G:Option (Nat×Bool))(T:Nat->V)(σ:Store)(nx:Nat)(t:TypeId)(h:(Ae P t).slice=true)(J:(Ae P t).Si=true):AP P conv call ⟨d,.buildSlice t 0 #[],ty,ps,E,G⟩ T σ nx=some (.nil,σ,nx):=by
 rw[iT d ty ps E G T σ nx t 0 #[] (by rfl)];have:=ng (P:=P) (t:=t) (len:=0) (parts:=([]:List (Nat×V))) (σ:=σ) (nx:=nx) h J
 simpa using this
theorem iQ{P:Program}{conv:FuncId->Conv}{call:Call}(d:Option Tmp)(ty:TypeId)(ps:String)(G:Array Edge)(J:Option (Nat×Bool))(T:Nat->V)(σ:Store)(nx:Nat)(t:TypeId)(x:Operand)(h:(Ae P t).slice=true)(S:(Ae P t).Si=true)(hs:(Ae P t).G6=1)(Y:(Ae P t).Eh.length=1)(hc:vI (val T x)=true) :
  AP P conv call ⟨d,.buildSlice t 1 #[(0,x)],ty,ps,G,J⟩ T σ nx=some (.rs nx 0 1,upd σ nx (some ⟨[val T x],1,true⟩),nx+1):=by
 rw[iT d ty ps G J T σ nx t 1 _ (by rfl),ng h S,sO (by decide),hs,sN (by decide)];have hv:cellsOfV (val T x)=some [val T x]:=by generalize val T x=v at *;cases v<;>simp_all [cellsOfV,vI]
 have O:(rep 1 (Ae P t).Eh).length=1:=by rw[fK,Y]
 have E:(rep 1 (Ae P t).Eh).set 0 (val T x)=[val T x]:=by
  generalize rep 1 (Ae P t).Eh=l at *
  match l,O with
  |[a],_=>rfl
 show(match CV (fun j=>some (j*1,1)) (rep 1 (Ae P t).Eh) [(0,val T x)]with|some cells=>some (V.rs nx 0 1,AA σ nx cells 1,nx+1)|none=>none)=_;rw[Ju];simp only[zk,hv,yU,O,uY,yY,zq,and_self,if_true,iD,E,Nc];rfl
attribute [go_sem] iR iQ Wp ajV anH anI r_ Nat.sub_zero List.isEmpty_cons
def Grow(T:Nat->V)(σ:Store)(nx t:Nat)(acc:List Int):Prop:=(T t= .nil/\acc=[])\/∃b,T t= .rs b 0 acc.length/\acc≠[]/\σ b=some ⟨acc.flatMap cI,1,true⟩/\b<nx
theorem iW:1<=maxLen:=by decide
attribute [go_sem] iW
theorem qM(xs:List Int):(xs.flatMap cI).length=xs.length:=by rw[bU (c:=cI) (s:=1) (fun _=>rfl),yO]
theorem kS{T:Nat->V}{σ:Store}{nx t:Nat}{acc:List Int}(G:Grow T σ nx t acc)(x:Int)(S:acc.length<17592186044415) :
  ∃σ',Aj (upd σ nx (some ⟨[I x],1,true⟩)) (nx+1) 1 8 (T t) [I x] 1=some (.rs (nx+1) 0 (acc.length+1),σ',nx+1+1)/\σ' (nx+1)=some ⟨(acc++[x]).flatMap cI,1,true⟩:=by
 have hm:acc.length+1<=maxLen:=by unfold maxLen;omega
 rcases G with ⟨E,rfl⟩|⟨b,E,J,hb,O⟩
 .refine⟨_,by rw[E,r_,sO (by decide),sN (by decide)];rfl,?_⟩
  simp[AA,upd]
 .refine⟨_,by rw[E,rE (B:=⟨acc.flatMap cI,1,true⟩) (by rw[Zk];exact hb) (qM acc) rfl (by decide) hm (by omega) rfl],?_⟩
  simp[upd]
theorem kQ{T:Nat->V}{σ':Store}{nx t:Nat}{acc:List Int}(h:σ' (nx+1)=some ⟨acc.flatMap cI,1,true⟩)(G:T t= .rs (nx+1) 0 acc.length)(E:acc≠[]):Grow T σ' (nx+1+1) t acc:=.inr ⟨nx+1,G,E,h,by omega⟩
theorem kR{T T':Nat->V}{σ:Store}{nx t E:Nat}{acc:List Int}(h:T' E=T t)(G:Grow T σ nx t acc):Grow T' σ nx E acc:=by
 unfold Grow at *;rw[h];exact G
theorem Wq(f:V->Option (V×List Nat))(h:∀n,f (I n)=some (I n,[]))(xs:List Int):stripL f (xs.flatMap cI)=some (xs.flatMap cI,[]) :=
 aW (fun x=>by rw[ak,h,aX];rfl) xs
theorem kP{T:Nat->V}{σ:Store}{nx t:Nat}{acc:List Int}(G:Grow T σ nx t acc)(d:Nat):∃ids,strip σ (d+1) (T t)=some (LI acc,ids):=by
 rcases G with ⟨E,rfl⟩|⟨b,E,J,hb,O⟩
 .exact⟨[],by rw[E,aS];rfl⟩
 .refine⟨[b],?_⟩
  .rw[E,aQ,hb]
   simp only[zk,qM,yO,yY,zq,if_true,yZ];rw[zl (by rw[qM];exact zq _),Wq _ (fun n=>aP _ _ _)];rfl
theorem qJ(xs:List Int):(xs.flatMap cI).take xs.length=xs.flatMap cI:=zl (by rw[qM];exact zq _)
theorem Dn(σ:Store)(d:Nat)(xs:List Int):stripL (strip σ d) (xs.flatMap cI)=some (xs.flatMap cI,[]):=Wq _ (fun n=>aP _ _ _) xs
theorem qN(xs:List Int):(xs.flatMap cI).all vI=true:=by
 induction xs with
 |nil=>rfl
 |cons x xs E=>rw[zJ];simp[vI]
attribute [go_sem] xJ qM qJ Dn qN zq
theorem Nh{P:Program}{conv:FuncId->Conv}{call:Call}(d:Option Tmp)(ty:TypeId)(ps:String)(G:Array Edge)(J:Option (Nat×Bool))(T:Nat->V)(σ:Store)(nx:Nat)(t:TypeId)(x y z:Operand)(h:(Ae P t).slice=true)(O:(Ae P t).Si=true)(hs:(Ae P t).G6=1)(S:(Ae P t).Eh.length=1)(Y:vI (val T x)=true)(hy:vI (val T y)=true)(hw:vI (val T z)=true) :
  AP P conv call ⟨d,.buildSlice t 3 #[(0,x),(1,y),(2,z)],ty,ps,G,J⟩ T σ nx=some (.rs nx 0 3,upd σ nx (some ⟨[val T x,val T y,val T z],1,true⟩),nx+1):=by
 rw[iT d ty ps G J T σ nx t 3 _ (by rfl),ng h O,sO (by decide),hs,sN (by decide)];have E:∀v,vI v=true->cellsOfV v=some [v]:=by intro v E;cases v<;>simp_all [cellsOfV,vI]
 have hr:(rep 3 (Ae P t).Eh).length=3:=by rw[fK,S]
 obtain⟨a,b,c,e⟩:∃a b c,rep 3 (Ae P t).Eh=[a,b,c]:=by
  generalize rep 3 (Ae P t).Eh=l at *
  match l,hr with
  |[a,b,c],_=>exact⟨a,b,c,rfl⟩
 show(match CV (fun j=>some (j*1,1)) (rep 3 (Ae P t).Eh) [(0,val T x),(1,val T y),(2,val T z)]with|some cells=>some (V.rs nx 0 3,AA σ nx cells 1,nx+1)|none=>none)=_;rw[e];simp[Ju,Nc,E _ Y,E _ hy,E _ hw,iD,AA]
attribute [go_sem] Nh
theorem agk{P:Program}(T:Nat->V)(σ:Store)(t:Tmp)(r:ResultVar)(rs:List ResultVar):Ai P T σ (.tmp t :: r :: rs)=(Ai P T σ (r :: rs)).map fun vs=>T t :: vs:=by
 rw[Ai];cases Ai P T σ (r :: rs)<;>rfl
theorem ad8{P:Program}(T:Nat->V)(σ:Store)(a:Tmp)(t:TypeId)(r:ResultVar)(rs:List ResultVar):Ai P T σ (.cell a t :: r :: rs)=(A8 P σ t (T a)).bind fun v=>(Ai P T σ (r :: rs)).map fun vs=>v :: vs:=by
 rw[Ai];cases A8 P σ t (T a)<;>cases Ai P T σ (r :: rs)<;>rfl
attribute [go_sem] agk ad8
theorem Jw{P:Program}{s e:TypeId}{G E k:IntKind}{n:Int}{σ:Store}(hs:P.underlying s=some (.int G))(J:P.underlying e=some (.int E)):BA P s e (.sc (.int k n)) σ=some (.sc (.int E (E.wrap n))):=by
 have h:xI P (convert s e (.int k n))=some (.int E (E.wrap n)):=by
  unfold convert;rw[nD,o_ hs];simp only[zk];rw[nD,o_ J];rfl
 simp only[BA,toVal,h,zk];rfl
theorem ZQ{n:Int}(J:0<=n)(O:n<=18446744073709551615):IntKind.u64.wrap n=n:=by
 unfold IntKind.wrap;have E:IntKind.u64.signed=false:=by decide
 have G:IntKind.u64.bits=64:=by decide
 simp only[E,G,uo];rw[sO (by simp)];omega
def aar(a:Int):Int:=((BitVec.ofInt 64 a &&& BitVec.ofInt 64 255).toNat:Nat)
theorem qp(a:Int):0<=aar a/\aar a<=255:=by
 unfold aar;rw[BitVec.toNat_and];have h:(BitVec.ofInt 64 255).toNat=255:=by decide
 rw[h];have:=Nat.and_le_right (n:=(BitVec.ofInt 64 a).toNat) (m:=255);omega
def aw0(a b:Int):Int:=IntKind.i64.wrap ((BitVec.ofInt 64 a^^^BitVec.ofInt 64 b).toNat:Nat)
section
variable {P:Program} {t:TypeId} {x y:Operand}
theorem ad9{a:Int}:Aw P .and t x y (.sc (.int .i64 a)) (.sc (.int .i64 255))=some (.sc (.int .i64 (aar a))):=by
 have h:(Op.intBits .and .i64 a 255)=(pure (.int .i64 (aar a)):Sem Value):=by
  show(pure (.int .i64 (IntKind.i64.wrap (aar a))):Sem Value)=_;rw[ZR (by have:=qp a;omega) (by have:=qp a;omega)]
 simp only[Aw,toVal,eqGuard_at_int,binOp_and,h];rfl
theorem anJ{a b:Int}:Aw P .xor t x y (.sc (.int .i64 a)) (.sc (.int .i64 b))=some (.sc (.int .i64 (aw0 a b))):=by
 simp only[Aw,toVal,eqGuard_at_int,binOp_xor];rfl
theorem anK{k E:IntKind}{a n:Int}(h:¬n<0):Aw P .shr t x y (.sc (.int k a)) (.sc (.int E n))=some (.sc (.int k (a.fdiv (2^min n.toNat k.bits)))):=by
 have hs:Op.shift .shr k a E n=(pure (.int k (a.fdiv (2^min n.toNat k.bits))):Sem Value):=by
  unfold Op.shift;rw[sO h]
 simp only[Aw,toVal,eqGuard_at_int,binOp_shr,hs];rfl
end
def aw1(a b:Int):Int:=IntKind.i64.wrap ((BitVec.ofInt 64 a &&& BitVec.ofInt 64 b).toNat:Nat)
theorem anL{P:Program}{t:TypeId}{x y:Operand}{a b:Int}:Aw P .and t x y (.sc (.int .i64 a)) (.sc (.int .i64 b))=some (.sc (.int .i64 (aw1 a b))):=by
 simp only[Aw,toVal,eqGuard_at_int,binOp_and];rfl
attribute [go_sem] ad9 anJ anK
attribute [go_sem low] anL
def ajW:V->Bool
 | .sc _=>true
 |_=>false
theorem ajX(v:Value):ajW (.sc v)=true:=id rfl
theorem Ws{P:Program}{conv:FuncId->Conv}{call:Call}(d:Option Tmp)(ty:TypeId)(ps:String)(G:Array Edge)(J:Option (Nat×Bool))(T:Nat->V)(σ:Store)(nx:Nat)(s e:TypeId)(x:Operand)(E:ajW (val T x)=true) :
  Aq P conv call ⟨d,.convert s e x,ty,ps,G,J⟩ T σ nx=(BA P s e (val T x) pI).map (·,σ,nx):=by
 obtain⟨u,hu⟩:∃u,val T x= .sc u:=by
  cases O:val T x<;>rw[O]at E<;>first|exact⟨_,rfl⟩|cases E
 refine iU T σ nx (by show some (Aa (val T x))=some [];rw[hu];rfl) fun σ=>?_
 show(BA P s e (val T x) σ).map _=_;rw[hu];rfl
attribute [go_sem] ajX Ws
theorem bC{b:Option (Ex×St)}{J:St->Prop}{post:Ex×St->Prop}(h:∃x,b=some x/\((∃E,x=(.norm,E)/\J E)\/((∀s,x≠(.norm,s))/\post x))):(∃E,b=some (.norm,E)/\J E)\/(∃r,b=some r/\(∀s,r≠(.norm,s))/\post r):=by
 obtain⟨x,rfl,⟨E,rfl,h⟩|⟨G,O⟩⟩:=h
 .exact .inl ⟨E,rfl,h⟩
 .exact .inr ⟨x,rfl,G,O⟩
theorem ajY{P:Program}{conv:FuncId->Conv}{call:Call}{d:Option Tmp}{ty:TypeId}{ps:String}{E:Array Edge}{G:Option (Nat×Bool)}{T:Nat->V}{σ:Store}{nx:Nat}{g:FuncId}(h:conv g= .inl)(args:Array Operand)(ts:Array TypeId) :
  Aq P conv call ⟨d,.call ⟨.value (.func g),args,ts⟩,ty,ps,E,G⟩ T σ nx=if(((args.toList.map (val T)).flatMap Ef).all fun b=>decide (b<nx))=true then
   (call g (args.toList.map (val T)) (restrict σ ((args.toList.map (val T)).flatMap Ef)) nx).map fun r=>(r.1,zI ((args.toList.map (val T)).flatMap Ef) nx r.2.2 σ r.2.1,r.2.2)else none:=by
 have J:Dv conv T σ (⟨d,.call ⟨.value (.func g),args,ts⟩,ty,ps,E,G⟩:Oper)=some ((args.toList.map (val T)).flatMap Ef):=by
  simp only[Dv,val,h,w_,zC]
 rw[nN T σ nx J (fun v=>by simp only[keeps,val,h])]
 split
 .have e:=Ls (P:=P) (conv:=conv) (call:=call) d ty ps E G T (restrict σ ((args.toList.map (val T)).flatMap Ef)) nx (.func g) args ts
  rw[e];simp only[val,qE,zC,qC h];cases call g (args.toList.map (val T)) (restrict σ ((args.toList.map (val T)).flatMap Ef)) nx<;>rfl
 .rfl
theorem aqX{conv:FuncId->Conv}{d:Option Tmp}{ty:TypeId}{ps:String}{E:Array Edge}{G:Option (Nat×Bool)}{g:FuncId}(h:conv g= .inl)(args:Array Operand)(ts:Array TypeId):writer conv ⟨d,.call ⟨.value (.func g),args,ts⟩,ty,ps,E,G⟩=true:=by unfold writer;simp only[h]
theorem agl{conv:FuncId->Conv}{d:Option Tmp}{ty:TypeId}{ps:String}{E:Array Edge}{G:Option (Nat×Bool)}{T:Nat->V}{σ:Store}{g:FuncId}(h:conv g= .inl)(args:Array Operand)(ts:Array TypeId):Af conv T σ ⟨d,.call ⟨.value (.func g),args,ts⟩,ty,ps,E,G⟩=(args.toList.map (val T)).flatMap Ef:=by
 simp only[Af,Dv,val,h,w_,zC,xE]
theorem agm(v:Value):Ef (.sc v)=[]:=rfl
theorem agn(b off:Nat):Ef (.rp b off)=[b]:=rfl
theorem agp(b off len:Nat):Ef (.rs b off len)=[b]:=rfl
theorem agq(row:List V)(len:Nat):Ef (.ts row len)=[]:=rfl
theorem agr(row:List V)(off:Nat):Ef (.tp row off)=[]:=rfl
theorem ad_:Ef .nil=[]:=rfl
theorem aea(vs:List V):Ef (.agg vs)=vs.flatMap Aa:=rfl
theorem fG(σ:Store)(b:Nat):restrict σ [b] b=σ b:=by unfold restrict;simp
theorem Pn(σ:Store)(b nx:Nat)(x:Option Fj):zI [b] nx nx σ (upd (restrict σ [b]) b x)=upd σ b x:=by
 funext i;unfold zI upd restrict
 by_cases h:i=b
 .simp[h]
 .rw[sO (by simp only[xY,h,false_or];omega),sO h]
attribute [go_sem] ajY aqX agl agm agn agp agq agr ad_ aea fG Pn
theorem iV{P:Program}{conv:FuncId->Conv}{call:Call}{d:Option Tmp}{ty:TypeId}{ps:String}{E:Array Edge}{G:Option (Nat×Bool)}{T:Nat->V}{σ:Store}{nx:Nat}(a x:Operand)(t u:TypeId) :
  Aq P conv call ⟨d,.call ⟨.builtin .append,#[a,x],#[t,u]⟩,ty,ps,E,G⟩ T σ nx=if((Aa (val T a)++Aa (val T x)).all fun b=>decide (b<nx))=true then
   (DN P #[t,u] (val T a) (val T x) (restrict σ (Aa (val T a)++Aa (val T x))) nx).map fun r=>(r.1,zI (Aa (val T a)++Aa (val T x)) nx r.2.2 σ r.2.1,r.2.2)else none:=by
 have J:Dv conv T σ (⟨d,.call ⟨.builtin .append,#[a,x],#[t,u]⟩,ty,ps,E,G⟩:Oper)=some (Aa (val T a)++Aa (val T x)):=by
  simp[Dv]
 rw[nN T σ nx J (fun v=>rfl)]
 split
 .rw[Qb]
  cases DN P #[t,u] (val T a) (val T x) (restrict σ (Aa (val T a)++Aa (val T x))) nx<;>rfl
 .rfl
theorem Nj{conv:FuncId->Conv}{d:Option Tmp}{ty:TypeId}{ps:String}{E:Array Edge}{G:Option (Nat×Bool)}(args:Array Operand)(ts:Array TypeId):writer conv ⟨d,.call ⟨.builtin .append,args,ts⟩,ty,ps,E,G⟩=true:=id rfl
theorem lg{conv:FuncId->Conv}{d:Option Tmp}{ty:TypeId}{ps:String}{E:Array Edge}{G:Option (Nat×Bool)}{T:Nat->V}{σ:Store}(a x:Operand)(ts:Array TypeId):Af conv T σ ⟨d,.call ⟨.builtin .append,#[a,x],ts⟩,ty,ps,E,G⟩=Aa (val T a)++Aa (val T x):=by
 simp[Af,Dv]
theorem KT{P:Program}{conv:FuncId->Conv}{call:Call}(d:Option Tmp)(ty:TypeId)(ps:String)(E:Array Edge)(G:Option (Nat×Bool))(T:Nat->V)(σ:Store)(nx:Nat)(t:TypeId)(h:(Ae P t).slice=true)(J:(Ae P t).Si=true):Aq P conv call ⟨d,.buildSlice t 0 #[],ty,ps,E,G⟩ T σ nx=some (.nil,σ,nx) :=
 Lu T σ nx rfl fun σ=>iR d ty ps E G T σ nx t h J
theorem SS{conv:FuncId->Conv}{d:Option Tmp}{ty:TypeId}{ps:String}{E:Array Edge}{G:Option (Nat×Bool)}(t:TypeId)(n:Nat)(parts:Array (Nat×Operand)):writer conv ⟨d,.buildSlice t n parts,ty,ps,E,G⟩=false:=id rfl
theorem KU{conv:FuncId->Conv}{d:Option Tmp}{ty:TypeId}{ps:String}{E:Array Edge}{G:Option (Nat×Bool)}{T:Nat->V}{σ:Store}(t:TypeId)(n:Nat)(parts:Array (Nat×Operand)):Af conv T σ ⟨d,.buildSlice t n parts,ty,ps,E,G⟩=[]:=rfl
theorem aeb(σ:Store)(nx:Nat)(x:Option Fj):zI [] nx (nx+1) σ (upd (restrict σ []) nx x)=upd σ nx x:=by
 funext i;unfold zI upd restrict
 by_cases h:i=nx
 .simp[h]
 .rw[sO (by simp only[zH,false_or];omega),sO h]
attribute [go_sem] iV Nj lg KT SS KU aeb iG zC
theorem Nk:∀(ids:List Nat) (σ:Store) (b:Nat),ids.contains b=false->DF σ ids b=σ b
 |[],σ,b,_=>rfl
 |i :: ids,σ,b,h=>by
  rw[List.contains_cons,Bool.or_eq_false_iff]at h;have E:b≠i:=by simpa using h.1
  unfold DF;rw[Nk ids _ b h.2,Zj _ _ E]
theorem Jy{σ:Store}{ids:List Nat}{t:V}{b:Nat}(h:ids.contains b=false):behind σ ids t b=σ b:=by
 unfold behind
 split
 .rfl
 .exact Nk ids σ b h
attribute [go_sem] Jy
end Go.TV
namespace Go.TV
theorem ajZ{P:Program}{t:TypeId}{x y:Operand}{a b:ByteArray}(h:a.size+b.size<=9223372036854775807):Aw P .add t x y (.sc (.string a)) (.sc (.string b))=some (.sc (.string (a++b))):=by
 have hm:IntKind.i64.max=9223372036854775807:=rfl;have:Op.stringOp .add a b=(pure (.string (a++b)):Sem Value):=by
  unfold Op.stringOp;rw[sO (by rw[hm];omega)]
 simp only[Aw,toVal,eqGuard_add];show(xI P (Op.stringOp .add a b)).bind _=_;rw[this];rfl
theorem aec:BR []=some []:=rfl
theorem aas(n:Int)(vs:List V):BR (.sc (.int .u8 n) :: vs)=if 0<=n/\n<256 then(BR vs).map (UInt8.ofNat n.toNat :: ·)else none:=rfl
theorem anM{P:Program}{t:TypeId}(h:(Ae P t).u8=true):∃e i,P.underlying t=some (.slice e)/\P.underlying e=some (.int .u8)/\P.info? e=some i/\i.size=1:=by
 unfold Ae at h;cases hi:P.info? t with
 |none=>simp[hi]at h
 |some i=>
  cases J:P.underlying t with
  |none=>simp[hi,J]at h
  |some d=>
   simp only[hi,J]at h;cases d<;>simp at h;rename_i e;obtain⟨O,E⟩:=h;have S:P.underlying e=some (.int .u8):=by
    revert O
    cases P.underlying e with
    |none=>simp
    |some d=>cases d<;>simp;rename_i k;cases k<;>simp
   cases G:P.info? e with
   |none=>simp[G]at E
   |some j=>simp[G]at E;exact⟨e,j,rfl,S,G,E⟩
theorem aqY{P:Program}{s d:TypeId}(hs:(Ae P s).u8=true)(E:(Ae P d).str=true)(b off len:Nat)(σ:Store):BA P s d (.rs b off len) σ=(rowOf σ 1 (.rs b off len)).bind fun p=>(BR p.1).map fun l=> .sc (.string ⟨l.toArray⟩):=by
 obtain⟨e,i,G,J,O,S⟩:=anM hs;unfold BA;simp only[toVal,G,Lm E,J,O,S,if_true];cases rowOf σ 1 (.rs b off len)with
 |none=>rfl
 |some p=>obtain⟨r,n⟩:=p;rfl
attribute [go_sem] ajZ aec aas aqY
end Go.TV
namespace Go.Proofs.YtjjhejehbhbdeaaGreat
open Go Go.TV
instance known0:Known:=⟨[]⟩
theorem kn0(W:World):Kn (TV.start W):=fun p hp=>absurd hp zH
def conv:FuncId->Conv:=fun f=>if f∈([]:List Nat)then .own else if f∈([83,22,21,47,48,49,84,86,87]:List Nat)then .inl else .KQ
abbrev lI(n:Nat):Prop:=conv n= .KQ
abbrev Gh(n:Nat):Prop:=conv n= .inl
theorem aqZ:lI 3/\lI 5/\lI 6/\lI 7/\lI 8/\lI 9/\lI 10/\lI 11/\lI 12/\lI 13/\lI 14/\lI 15/\lI 19/\Gh 21/\Gh 22/\lI 23/\lI 24/\lI 25/\lI 26/\lI 27/\lI 28/\lI 29/\lI 30/\lI 31:=by and_intros<;>exact rfl
theorem aq0:lI 32/\lI 33/\lI 34/\lI 35/\lI 36/\lI 44/\Gh 47/\Gh 48/\Gh 49/\lI 50/\lI 51/\lI 52/\lI 53/\lI 54/\lI 55/\lI 56/\lI 57/\lI 58/\lI 59/\lI 60/\lI 61/\lI 62/\lI 63/\lI 64:=by and_intros<;>exact rfl
theorem aq1:lI 65/\lI 66/\lI 67/\lI 68/\lI 69/\lI 72/\lI 73/\lI 79/\lI 80/\Gh 83/\Gh 84/\lI 85/\Gh 86/\Gh 87/\lI 88/\lI 89/\lI 90/\lI 91/\lI 92/\lI 93/\lI 94/\lI 95/\lI 96/\lI 97:=by and_intros<;>exact rfl
theorem aq2:lI 98/\lI 99/\lI 100/\lI 101/\lI 102/\lI 103/\lI 104/\lI 105/\lI 106/\lI 107/\lI 108/\lI 109/\lI 110/\lI 111/\lI 113/\lI 114/\lI 116/\lI 122/\lI 123/\lI 124/\lI 125/\lI 126/\lI 127/\lI 129:=by and_intros<;>exact rfl
theorem aq3:lI 130/\lI 131/\lI 132/\lI 133/\lI 134/\lI 135/\lI 136/\lI 137/\lI 138/\lI 139/\lI 140/\lI 141/\lI 142/\lI 143/\lI 144/\lI 145/\lI 146/\lI 149/\lI 150/\lI 151/\lI 152/\lI 153/\lI 154/\lI 155:=by and_intros<;>exact rfl
theorem aq4:lI 156/\lI 157/\lI 158/\lI 159/\lI 160/\lI 161/\lI 162/\lI 163/\lI 164/\lI 165/\lI 166/\lI 167/\lI 168/\lI 169/\lI 170/\lI 171/\lI 172/\lI 173/\lI 174/\lI 175/\lI 176/\lI 177/\lI 178/\lI 179:=by and_intros<;>exact rfl
theorem aq5:lI 180/\lI 183/\lI 184/\lI 185/\lI 186/\lI 187/\lI 188/\lI 189/\lI 190/\lI 191/\lI 192/\lI 193/\lI 194/\lI 195/\lI 196/\lI 197/\lI 198/\lI 199/\lI 200/\lI 201/\lI 202/\lI 205/\lI 206/\lI 207:=by and_intros<;>exact rfl
theorem aq6:lI 208/\lI 209/\lI 210/\lI 211/\lI 212/\lI 213/\lI 214/\lI 215/\lI 216/\lI 217/\lI 218/\lI 220/\lI 221/\lI 222/\lI 223/\lI 224/\lI 225/\lI 226/\lI 227/\lI 228:=by and_intros<;>exact rfl
attribute [go_sem] aqZ aq0 aq1 aq2 aq3 aq4 aq5 aq6
theorem ty2:Ae ZK 2=⟨true,false,1,[.sc (.int .i64 0)],false,false,false,0,0,[],false,[],[],false,false⟩:=by kernel_rfl
theorem ty3:Ae ZK 3=Ae ZK 2:=by kernel_rfl
theorem ty4:Ae ZK 4=⟨true,false,1,[.sc (.bool false)],false,false,false,0,0,[],false,[],[],false,false⟩:=by kernel_rfl
theorem ty5:Ae ZK 5=⟨true,false,1,[.sc (.int .u8 0)],false,false,false,0,0,[],false,[],[],false,false⟩:=by kernel_rfl
theorem ty7:Ae ZK 7=⟨true,true,4,[.sc (.int .i64 0),.sc (.int .i64 0),.sc (.bool false),.sc (.int .u8 0)],false,false,false,0,0,[],false,[(0,1,some false),(1,1,some false),(2,1,some false),(3,1,some false)],[(0,1),(1,1),(2,1),(3,1)],true,false⟩:=by kernel_rfl
theorem ty9:Ae ZK 9=⟨true,false,1,[.sc (.string ByteArray.empty)],false,true,false,0,0,[],false,[],[],false,false⟩:=by kernel_rfl
theorem aw2:Ae ZK 12=⟨true,false,1,[.sc (.int .u64 0)],false,false,false,0,0,[],false,[],[],false,false⟩:=by kernel_rfl
theorem aw3:Ae ZK 13=⟨true,true,2,[.sc (.string ByteArray.empty),.sc (.int .u64 0)],false,false,false,0,0,[],false,[(0,1,some false),(1,1,some false)],[(0,1),(1,1)],true,false⟩:=by kernel_rfl
theorem aw4:Ae ZK 21=⟨true,false,1,[.sc (.int .i32 0)],false,false,false,0,0,[],false,[],[],false,false⟩:=by kernel_rfl
theorem aw5:Ae ZK 22=⟨true,false,1,[.nil],true,false,false,1,1,[.sc (.int .u8 0)],true,[],[],false,true⟩:=by kernel_rfl
theorem aw6:Ae ZK 23=⟨true,false,1,[.nil],true,false,false,5,112,[.sc (.string ByteArray.empty),.nil,.nil,.nil,.nil],true,[],[],false,false⟩:=by kernel_rfl
theorem aw7:Ae ZK 24=⟨true,false,1,[.nil],true,false,false,2,16,[.sc (.int .i64 0),.sc (.int .i64 0)],true,[],[],false,false⟩:=by kernel_rfl
theorem aw8:Ae ZK 25=⟨true,true,3,[.nil,.nil,.sc (.bool false)],false,false,false,0,0,[],false,[(0,1,some false),(1,1,some false),(2,1,some false)],[(0,1),(1,1),(2,1)],true,false⟩:=by kernel_rfl
theorem aw9:Ae ZK 26=Ae ZK 25:=by kernel_rfl
theorem aw_:Ae ZK 29=⟨true,false,1,[.nil],true,false,false,1,8,[.sc (.int .i64 0)],true,[],[],false,false⟩:=by kernel_rfl
theorem aw':Ae ZK 34=⟨true,false,1,[.nil],true,false,false,4,40,[.sc (.string ByteArray.empty),.sc (.int .i64 0),.sc (.int .i64 0),.sc (.bool false)],true,[],[],false,false⟩:=by kernel_rfl
theorem axa:Ae ZK 35=⟨true,false,1,[.nil],true,false,false,3,24,[.sc (.int .i64 0),.sc (.int .i64 0),.sc (.int .i64 0)],true,[],[],false,false⟩:=by kernel_rfl
theorem axb:Ae ZK 36=⟨true,true,2,[.nil,.nil],false,false,false,0,0,[],false,[(0,1,some false),(1,1,some false)],[(0,1),(1,1)],true,false⟩:=by kernel_rfl
theorem axc:Ae ZK 37=Ae ZK 36:=by kernel_rfl
theorem axd:Ae ZK 38=⟨true,true,5,[.sc (.string ByteArray.empty),.nil,.nil,.nil,.nil],false,false,false,0,0,[],false,[(0,1,some false),(1,2,some true),(3,1,some false),(4,1,some false)],[(0,1),(1,2),(3,1),(4,1)],true,false⟩:=by kernel_rfl
theorem axe:Ae ZK 39=Ae ZK 38:=by kernel_rfl
theorem axf:Ae ZK 40=⟨true,false,1,[.nil],true,false,false,3,56,[.sc (.bool false),.nil,.nil],true,[],[],false,false⟩:=by kernel_rfl
theorem axg:Ae ZK 49=Ae ZK 34:=by kernel_rfl
theorem axh:Ae ZK 50=Ae ZK 35:=by kernel_rfl
theorem axi:Ae ZK 51=Ae ZK 36:=by kernel_rfl
theorem axj:Ae ZK 52=Ae ZK 36:=by kernel_rfl
theorem axk:Ae ZK 53=Ae ZK 38:=by kernel_rfl
theorem axl:Ae ZK 54=Ae ZK 38:=by kernel_rfl
theorem axn:Ae ZK 61=⟨true,false,1,[.sc (.pointer none)],false,false,true,0,0,[],false,[],[],false,false⟩:=by kernel_rfl
theorem axo:Ae ZK 65=⟨true,true,2,[.sc (.int .i64 0),.sc (.int .i64 0)],false,false,false,0,0,[],false,[(0,1,some false),(1,1,some false)],[(0,1),(1,1)],true,false⟩:=by kernel_rfl
theorem axp:Ae ZK 66=Ae ZK 65:=by kernel_rfl
theorem axq:Ae ZK 69=⟨true,false,1,[.nil],true,false,false,1,1,[.sc (.bool false)],true,[],[],false,false⟩:=by kernel_rfl
theorem axr:Ae ZK 76=Ae ZK 61:=by kernel_rfl
theorem axt:Ae ZK 78=⟨true,true,4,[.sc (.string ByteArray.empty),.sc (.int .i64 0),.sc (.int .i64 0),.sc (.bool false)],false,false,false,0,0,[],false,[(0,1,some false),(1,1,some false),(2,1,some false),(3,1,some false)],[(0,1),(1,1),(2,1),(3,1)],true,false⟩:=by kernel_rfl
theorem axu:Ae ZK 79=Ae ZK 78:=by kernel_rfl
theorem axv:Ae ZK 80=⟨true,true,3,[.sc (.int .i64 0),.sc (.int .i64 0),.sc (.int .i64 0)],false,false,false,0,0,[],false,[(0,1,some false),(1,1,some false),(2,1,some false)],[(0,1),(1,1),(2,1)],true,false⟩:=by kernel_rfl
theorem axw:Ae ZK 81=Ae ZK 80:=by kernel_rfl
theorem axx:Ae ZK 92=⟨true,true,3,[.nil,.sc (.int .i64 0),.sc (.int .i64 0)],false,false,false,0,0,[],false,[(0,1,some false),(1,1,some false),(2,1,some false)],[(0,1),(1,1),(2,1)],true,false⟩:=by kernel_rfl
theorem axy:Ae ZK 93=Ae ZK 92:=by kernel_rfl
theorem axz:Ae ZK 98=Ae ZK 61:=by kernel_rfl
theorem aq7:Ae ZK 100=⟨true,false,1,[.nil],true,false,false,1,8,[.sc (.pointer none)],true,[],[],false,false⟩:=by kernel_rfl
theorem aq8:Ae ZK 103=⟨true,true,5,[.sc (.int .i64 0),.sc (.int .i64 0),.nil,.nil,.nil],false,false,false,0,0,[],false,[(0,1,some false),(1,1,some false),(2,1,some false),(3,1,some false),(4,1,some false)],[(0,1),(1,1),(2,1),(3,1),(4,1)],true,false⟩:=by kernel_rfl
theorem aq9:Ae ZK 104=Ae ZK 103:=by kernel_rfl
theorem aq_:Ae ZK 110=Ae ZK 61:=by kernel_rfl
theorem ara:Ae ZK 134=Ae ZK 12:=by kernel_rfl
theorem arb:Ae ZK 139=Ae ZK 61:=by kernel_rfl
theorem ard:Ae ZK 140=Ae ZK 24:=by kernel_rfl
theorem arf:Ae ZK 143=⟨true,false,1,[.nil],true,false,false,1,24,[.nil],true,[],[],false,false⟩:=by kernel_rfl
theorem arh:Ae ZK 145=Ae ZK 65:=by kernel_rfl
theorem ari:Ae ZK 146=Ae ZK 65:=by kernel_rfl
theorem arj:Ae ZK 147=⟨true,true,2,[.sc (.bool false),.nil],false,false,false,0,0,[],false,[(0,1,some false),(1,1,some false)],[(0,1),(1,1)],true,false⟩:=by kernel_rfl
theorem ark:Ae ZK 148=Ae ZK 147:=by kernel_rfl
theorem arl:Ae ZK 149=⟨true,true,3,[.sc (.bool false),.nil,.nil],false,false,false,0,0,[],false,[(0,2,some true),(2,1,some false)],[(0,2),(2,1)],true,false⟩:=by kernel_rfl
theorem arn:Ae ZK 150=Ae ZK 149:=by kernel_rfl
theorem aro:Ae ZK 157=Ae ZK 149:=by kernel_rfl
theorem arp:Ae ZK 158=Ae ZK 149:=by kernel_rfl
theorem arq:Ae ZK 163=Ae ZK 78:=by kernel_rfl
theorem ars:Ae ZK 167=Ae ZK 80:=by kernel_rfl
theorem aru:Ae ZK 175=⟨true,false,1,[.sc (.int .u32 0)],false,false,false,0,0,[],false,[],[],false,false⟩:=by kernel_rfl
theorem arv:Ae ZK 178=Ae ZK 12:=by kernel_rfl
theorem arw:Ae ZK 181=Ae ZK 61:=by kernel_rfl
theorem arx:Ae ZK 184=Ae ZK 143:=by kernel_rfl
theorem arz:Ae ZK 185=⟨true,true,6,[.nil,.sc (.bool false),.nil,.nil,.sc (.int .i64 0),.nil],false,false,false,0,0,[],false,[(0,1,some false),(1,2,some true),(3,1,some false),(4,1,some false),(5,1,some false)],[(0,1),(1,2),(3,1),(4,1),(5,1)],true,false⟩:=by kernel_rfl
theorem arA:Ae ZK 186=Ae ZK 185:=by kernel_rfl
theorem arB:Ae ZK 189=⟨true,false,1,[.nil],true,false,false,2,32,[.sc (.bool false),.nil],true,[],[],false,false⟩:=by kernel_rfl
theorem arC:Ae ZK 197=⟨true,true,5,[.sc (.int .i64 0),.nil,.sc (.bool false),.nil,.nil],false,false,false,0,0,[],false,[(0,1,some false),(1,1,some false),(2,3,some true)],[(0,1),(1,1),(2,3)],true,false⟩:=by kernel_rfl
theorem arD:Ae ZK 198=Ae ZK 197:=by kernel_rfl
theorem arE:Ae ZK 211=Ae ZK 61:=by kernel_rfl
theorem arF:Ae ZK 215=Ae ZK 143:=by kernel_rfl
theorem arG:Ae ZK 216=⟨true,true,4,[.sc (.int .i64 0),.nil,.nil,.nil],false,false,false,0,0,[],false,[(0,1,some false),(1,1,some false),(2,1,some false),(3,1,some false)],[(0,1),(1,1),(2,1),(3,1)],true,false⟩:=by kernel_rfl
theorem arH:Ae ZK 217=Ae ZK 216:=by kernel_rfl
theorem arI:Ae ZK 251=⟨true,true,4,[.sc (.pointer none),.sc (.pointer none),.sc (.pointer none),.sc (.string ByteArray.empty)],false,false,false,0,0,[],false,[(0,1,some false),(1,1,some false),(2,1,some false),(3,1,some false)],[(0,1),(1,1),(2,1),(3,1)],true,false⟩:=by kernel_rfl
theorem arJ:Ae ZK 253=⟨true,true,0,[],false,false,false,0,0,[],false,[],[],false,false⟩:=by kernel_rfl
theorem arK:Ae ZK 254=⟨true,true,0,[],false,false,false,0,0,[],false,[(0,0,some true)],[(0,0)],true,false⟩:=by kernel_rfl
theorem arL:Ae ZK 259=Ae ZK 61:=by kernel_rfl
attribute [go_sem] ty2 ty3 ty4 ty5 ty7 ty9 aw2 aw3 aw4 aw5 aw6 aw7 aw8 aw9 aw_ aw' axa axb axc axd axe axf axg axh axi axj axk axl axn axo axp axq axr axt axu axv axw axx axy axz aq7 aq8 aq9 aq_ ara arb ard arf arh ari arj ark arl arn aro arp arq ars aru arv arw arx arz arA arB arC arD arE arF arG arH arI arJ arK arL
def FN:List V->Store->Nat->Option (V×Store×Nat)
 |[.ts row len],σ,nx=>if row.length=len/\len<=17592186044000/\row.all vI=true then(if len=0 then some (.nil,σ,nx)else some (.rs nx 0 len,AA σ nx row 1,nx+1))else none
 |_,_,_=>none
theorem pO(args:List V)(σ:Store)(nx:Nat)(v:V)(σ':Store)(nx':Nat)(h:FN args σ nx=some (v,σ',nx')):EL ZK 80 args σ nx v σ' nx':=by
 unfold FN at h
 split at h
 .rename_i row len
  split at h
  .rename_i hc
   obtain⟨G,hs,J⟩:=hc;refine Nb (call:=fun _ _ _ _=>none) (conv:=fun _=> .KQ) (fun _ _ _ _ _ _ _ h=>by cases h) (by kernel_rfl) func80 rfl Tryz.underlying29 (n:=0) (by kernel_rfl) (st1:=⟨upd (DJ [.ts row len]) 2 .nil,σ,nx⟩) (T2:=upd (upd (DJ [.ts row len]) 2 .nil) 3 (.ts row len)) (v1:=.ts row len) (row:=row) (len:=len) (vs:=[v]) ?_ rfl ?_ rfl ?_ ?_
   .rfl
   .rfl
   .rfl
   .intro b hb
    cases b with
    |true=>
     have O:=hb rfl;subst O;have E:len=0:=by simpa using G.symm
     subst E;simp only[if_true,sS,sQ]at h;obtain⟨rfl,rfl,rfl⟩:=h;exact⟨.ret,_,rfl,.inr rfl,rfl,rfl,rfl⟩
    |false=>
     by_cases E:len=0
     .subst E
      have O:row=[]:=zZ G;subst O;simp only[if_true,sS,sQ]at h;obtain⟨rfl,rfl,rfl⟩:=h;refine⟨.ret,?_,?_,.inr rfl,?_,?_,?_⟩
      .exact⟨upd (upd (upd (upd (upd (upd (upd (upd (DJ [.ts [] 0]) 2 .nil) 3 (.ts [] 0)) 4 (.sc (.bool false))) 5 .nil) 6 (.ts [] 0)) 7 .nil) 2 .nil) 2 .nil,σ,nx⟩
      .simp only[Ad,go_sem]
      .rfl
      .rfl
      .rfl
     .rw[sO E]at h
      simp only[sS,sQ]at h;obtain⟨rfl,rfl,rfl⟩:=h;have S:len<=maxLen/\len*8<=140737488355328:=by unfold maxLen;omega
      refine⟨.ret,?_,?_,.inr rfl,?_,?_,?_⟩
      .exact⟨upd (upd (upd (upd (upd (upd (upd (DJ [.ts row len]) 2 .nil) 3 (.ts row len)) 4 (.sc (.bool false))) 5 .nil) 6 (.ts row len)) 7 (.rs nx 0 len)) 2 (.rs nx 0 len),AA σ nx row 1,nx+1⟩
      .simp only[Ad,go_sem,G,E,S]
      .rfl
      .rfl
      .rfl
  .cases h
 .cases h
def ext:Ext:=fun f=>if f=80 then some FN else none
theorem ags:Kq ZK ext:=fun f g h args σ nx v σ' nx' E=>by
 unfold ext at h
 split at h
 .rename_i G
  subst G;cases h;exact pO args σ nx v σ' nx' E
 .cases h
theorem aat(xs:List Int)(h:xs.length<=17592186044000):fn ZK conv ext 80 [LI xs]=some (LI xs):=by
 have G:FN [LI xs] pI 0=if xs.length=0 then some (.nil,pI,0)else some (.rs 0 0 xs.length,AA pI 0 (xs.flatMap cI) 1,0+1):=by
  show(if(xs.flatMap cI).length=xs.length/\xs.length<=17592186044000/\(xs.flatMap cI).all vI=true then _ else none)=_;rw[sN ⟨qM xs,h,qN xs⟩]
 rw[m_,mZ (g:=FN) rfl,G]
 by_cases E:xs.length=0
 .rw[sN E]
  have:xs=[]:=zZ E;subst this
  (simp only[go_sem])<;>rfl
 .rw[sO E]
  simp only[go_sem]
theorem u4:ZK.underlying 4=some .bool:=Tryz.underlying4
attribute [go_sem] u4
def ix{α:Type}(p:α->Bool)(xs:List α):Int:=if xs.findIdx p<xs.length then xs.findIdx p else -1
theorem jr{α:Type}{p:α->Bool}{xs:List α}{k:Nat}(E:k<xs.length)(G:∀i (h:i<xs.length),i<k->p xs[i]=false)(h:p xs[k]=true):ix p xs=k:=by
 have:xs.findIdx p=k:=(List.findIdx_eq E).mpr ⟨h,fun j J=>G j (by omega) J⟩;unfold ix;rw[this,sN E]
theorem jq{α:Type}{p:α->Bool}{xs:List α}(E:∀i (h:i<xs.length),p xs[i]=false):ix p xs= -1:=by
 have:xs.findIdx p=xs.length:=List.findIdx_eq_length.mpr fun x G=>by
  obtain⟨i,hi,rfl⟩:=yc G;exact E i hi
 unfold ix;rw[this,sO (Nat.lt_irrefl _)]
theorem jo{α:Type}{p:α->Bool}{xs:List α}{k:Nat}(O:k<xs.length)(J:∀i (h:i<xs.length),i<k->p xs[i]=false)(h:p xs[k]=false):∀i (h:i<xs.length),i<k+1->p xs[i]=false:=by
 intro i hi E;rcases wW (wM E)with G|G
 .exact J i hi G
 .subst G;exact h
def aj0:=cO (c:=Au) (s:=5) (fun _=>rfl)
def aj1:=bY (c:=Au) (s:=5) (fun _=>rfl) (by omega)
def abQ:=bU (c:=Au) (s:=5) (fun _=>rfl)
theorem Wu(xs:List Dp)(c:V)(g:FuncId)(p:Dp->Bool)(t:V)(h:xs.length<=maxLen)(hc:conv g= .KQ)(ht:strip pI 7 t=some (t,[]))(hg:∀x∈xs,fn ZK conv ext g [.agg (Au x),t]=some (Bo (p x))) :
  fn ZK conv ext 53 [LL Au xs,.clo g [t]]=some (I (ix p xs)):=by
 have e2:(xs.length:Int)<=9223372036854775807:=by unfold maxLen at h;omega
 rw[m_,mg [.tmp 4] [] func53];simp only[go_sem];generalize hL:jI _ _=y;obtain⟨r,rfl,hr⟩:=oZ hL xs.length (fun k st=>st.nx=0/\st.σ=pI/\st.T 0=LL Au xs/\st.T 1= .clo g [t]/\st.T 7=I xs.length/\st.T 8=I k/\∀i (h:i<xs.length),i<k->p xs[i]=false)
  (fun r=>(∃T,r=(.exit 0,⟨T,pI,0⟩)/\ix p xs= -1)\/(∃T,r=(.ret,⟨T,pI,0⟩)/\T 4=I (ix p xs))) (by
   clear hL;rintro k ⟨T,σ,nx⟩ E ⟨hn,G,Y,J,S,h8,hi⟩;simp only at hn G Y J S h8;subst hn G;have f1:(k:Int)<(xs.length:Int):=by omega
   have f2:=jC k;have f3:=ZR (n:=(k:Int)+1);have f4:=aj0 xs k E;have f5:=abQ xs;have f6:k*5+5<=xs.length*5:=by omega
   have f9:=aj1 xs k E;have O:=hg xs[k] (zu E);cases hp:p xs[k]with
   |true=>
    rw[hp]at O;refine .inr ⟨_,by simp only[go_sem,Y,J,S,h8,f1,f2,f4,f5,f6,f9,O,hc,ht];rfl,by simp,.inr ⟨_,rfl,?_⟩⟩;simp only[go_sem];rw[jr E hi hp]
   |false=>
    rw[hp]at O;refine .inl ⟨_,by simp only[go_sem,Y,J,S,h8,f1,f2,f3,f4,f5,f6,f9,O,hc,ht];rfl,?_⟩;simp only[go_sem,Y,J,S];exact⟨rfl,jo E hi hp⟩) (by
   clear hL;rintro ⟨T,σ,nx⟩ ⟨hn,G,Y,J,S,h8,hi⟩;simp only at hn G Y J S h8;subst hn G;exact⟨_,by simp only[go_sem,S,h8,zi];rfl,by simp,.inl ⟨_,rfl,jq fun i h=>hi i h h⟩⟩) (by
   simp only[go_sem];exact fun i _ h=>absurd h (zU _))
 rcases hr with ⟨T,rfl,J⟩|⟨T,rfl,J⟩
 .simp only[go_sem,J]
 .simp only[go_sem,J]
def Jz:=cO (c:=Ag) (s:=4) (fun _=>rfl)
def Po:=bY (c:=Ag) (s:=4) (fun _=>rfl) (by omega)
def Gp:=bU (c:=Ag) (s:=4) (fun _=>rfl)
theorem aau(xs:List Dk)(c:V)(g:FuncId)(p:Dk->Bool)(t:V)(h:xs.length<=maxLen)(hc:conv g= .KQ)(ht:strip pI 7 t=some (t,[]))(hg:∀x∈xs,fn ZK conv ext g [.agg (Ag x),t]=some (Bo (p x))) :
  fn ZK conv ext 150 [LL Ag xs,.clo g [t]]=some (I (ix p xs)):=by
 have e2:(xs.length:Int)<=9223372036854775807:=by unfold maxLen at h;omega
 rw[m_,mg [.tmp 4] [] func150];simp only[go_sem];generalize hL:jI _ _=y;obtain⟨r,rfl,hr⟩:=oZ hL xs.length (fun k st=>st.nx=0/\st.σ=pI/\st.T 0=LL Ag xs/\st.T 1= .clo g [t]/\st.T 7=I xs.length/\st.T 8=I k/\∀i (h:i<xs.length),i<k->p xs[i]=false)
  (fun r=>(∃T,r=(.exit 0,⟨T,pI,0⟩)/\ix p xs= -1)\/(∃T,r=(.ret,⟨T,pI,0⟩)/\T 4=I (ix p xs))) (by
   clear hL;rintro k ⟨T,σ,nx⟩ E ⟨hn,G,Y,J,S,h8,hi⟩;simp only at hn G Y J S h8;subst hn G;have f1:(k:Int)<(xs.length:Int):=by omega
   have f2:=jC k;have f3:=ZR (n:=(k:Int)+1);have f4:=Jz xs k E;have f5:=Gp xs;have f6:k*4+4<=xs.length*4:=by omega
   have f9:=Po xs k E;have O:=hg xs[k] (zu E);cases hp:p xs[k]with
   |true=>
    rw[hp]at O;refine .inr ⟨_,by simp only[go_sem,Y,J,S,h8,f1,f2,f4,f5,f6,f9,O,hc,ht];rfl,by simp,.inr ⟨_,rfl,?_⟩⟩;simp only[go_sem];rw[jr E hi hp]
   |false=>
    rw[hp]at O;refine .inl ⟨_,by simp only[go_sem,Y,J,S,h8,f1,f2,f3,f4,f5,f6,f9,O,hc,ht];rfl,?_⟩;simp only[go_sem,Y,J,S];exact⟨rfl,jo E hi hp⟩) (by
   clear hL;rintro ⟨T,σ,nx⟩ ⟨hn,G,Y,J,S,h8,hi⟩;simp only at hn G Y J S h8;subst hn G;exact⟨_,by simp only[go_sem,S,h8,zi];rfl,by simp,.inl ⟨_,rfl,jq fun i h=>hi i h h⟩⟩) (by
   simp only[go_sem];exact fun i _ h=>absurd h (zU _))
 rcases hr with ⟨T,rfl,J⟩|⟨T,rfl,J⟩
 .simp only[go_sem,J]
 .simp only[go_sem,J]
def Nl:=cO (c:=Ac) (s:=3) (fun _=>rfl)
def Np:=bY (c:=Ac) (s:=3) (fun _=>rfl) (by omega)
def GR:=bU (c:=Ac) (s:=3) (fun _=>rfl)
theorem Wv(xs:List Member)(c:V)(g:FuncId)(p:Member->Bool)(t:V)(h:xs.length<=maxLen)(hc:conv g= .KQ)(ht:strip pI 7 t=some (t,[]))(hg:∀x∈xs,fn ZK conv ext g [.agg (Ac x),t]=some (Bo (p x))) :
  fn ZK conv ext 152 [LL Ac xs,.clo g [t]]=some (I (ix p xs)):=by
 have e2:(xs.length:Int)<=9223372036854775807:=by unfold maxLen at h;omega
 rw[m_,mg [.tmp 4] [] func152];simp only[go_sem];generalize hL:jI _ _=y;obtain⟨r,rfl,hr⟩:=oZ hL xs.length (fun k st=>st.nx=0/\st.σ=pI/\st.T 0=LL Ac xs/\st.T 1= .clo g [t]/\st.T 7=I xs.length/\st.T 8=I k/\∀i (h:i<xs.length),i<k->p xs[i]=false)
  (fun r=>(∃T,r=(.exit 0,⟨T,pI,0⟩)/\ix p xs= -1)\/(∃T,r=(.ret,⟨T,pI,0⟩)/\T 4=I (ix p xs))) (by
   clear hL;rintro k ⟨T,σ,nx⟩ E ⟨hn,G,Y,J,S,h8,hi⟩;simp only at hn G Y J S h8;subst hn G;have f1:(k:Int)<(xs.length:Int):=by omega
   have f2:=jC k;have f3:=ZR (n:=(k:Int)+1);have f4:=Nl xs k E;have f5:=GR xs;have f6:k*3+3<=xs.length*3:=by omega
   have f9:=Np xs k E;have O:=hg xs[k] (zu E);cases hp:p xs[k]with
   |true=>
    rw[hp]at O;refine .inr ⟨_,by simp only[go_sem,Y,J,S,h8,f1,f2,f4,f5,f6,f9,O,hc,ht];rfl,by simp,.inr ⟨_,rfl,?_⟩⟩;simp only[go_sem];rw[jr E hi hp]
   |false=>
    rw[hp]at O;refine .inl ⟨_,by simp only[go_sem,Y,J,S,h8,f1,f2,f3,f4,f5,f6,f9,O,hc,ht];rfl,?_⟩;simp only[go_sem,Y,J,S];exact⟨rfl,jo E hi hp⟩) (by
   clear hL;rintro ⟨T,σ,nx⟩ ⟨hn,G,Y,J,S,h8,hi⟩;simp only at hn G Y J S h8;subst hn G;exact⟨_,by simp only[go_sem,S,h8,zi];rfl,by simp,.inl ⟨_,rfl,jq fun i h=>hi i h h⟩⟩) (by
   simp only[go_sem];exact fun i _ h=>absurd h (zU _))
 rcases hr with ⟨T,rfl,J⟩|⟨T,rfl,J⟩
 .simp only[go_sem,J]
 .simp only[go_sem,J]
def Bg:=bY (c:=cI) (s:=1) (fun _=>rfl) (by omega)
theorem indexInt(xs:List Int)(c:V)(g:FuncId)(p:Int->Bool)(h:xs.length<=maxLen)(hc:conv g= .KQ)(hg:∀x∈xs,fn ZK conv ext g [I x]=some (Bo (p x))) :
  fn ZK conv ext 127 [LI xs,.clo g []]=some (I (ix p xs)):=by
 have e2:(xs.length:Int)<=9223372036854775807:=by unfold maxLen at h;omega
 rw[m_,mg [.tmp 4] [] func127];simp only[go_sem];generalize hL:jI _ _=y;obtain⟨r,rfl,hr⟩:=oZ hL xs.length (fun k st=>st.nx=0/\st.σ=pI/\st.T 0=LI xs/\st.T 1= .clo g []/\st.T 7=I xs.length/\st.T 8=I k/\∀i (h:i<xs.length),i<k->p xs[i]=false)
  (fun r=>(∃T,r=(.exit 0,⟨T,pI,0⟩)/\ix p xs= -1)\/(∃T,r=(.ret,⟨T,pI,0⟩)/\T 4=I (ix p xs))) (by
   clear hL;rintro k ⟨T,σ,nx⟩ E ⟨hn,G,Y,J,S,h8,hi⟩;simp only at hn G Y J S h8;subst hn G;have f1:(k:Int)<(xs.length:Int):=by omega
   have f2:=jC k;have f3:=ZR (n:=(k:Int)+1);have f4:(xs.flatMap cI)[k]?=some (I xs[k]):=bg I xs k E;have f9:=Bg xs k E;have O:=hg xs[k] (zu E);cases hp:p xs[k]with
   |true=>
    rw[hp]at O;refine .inr ⟨_,by simp only[go_sem,Y,J,S,h8,f1,f2,f4,f9,O,hc];rfl,by simp,.inr ⟨_,rfl,?_⟩⟩;simp only[go_sem];rw[jr E hi hp]
   |false=>
    rw[hp]at O;refine .inl ⟨_,by simp only[go_sem,Y,J,S,h8,f1,f2,f3,f4,f9,O,hc];rfl,?_⟩;simp only[go_sem,Y,J,S];exact⟨rfl,jo E hi hp⟩) (by
   clear hL;rintro ⟨T,σ,nx⟩ ⟨hn,G,Y,J,S,h8,hi⟩;simp only at hn G Y J S h8;subst hn G;exact⟨_,by simp only[go_sem,S,h8,zi];rfl,by simp,.inl ⟨_,rfl,jq fun i h=>hi i h h⟩⟩) (by
   simp only[go_sem];exact fun i _ h=>absurd h (zU _))
 rcases hr with ⟨T,rfl,J⟩|⟨T,rfl,J⟩
 .simp only[go_sem,J]
 .simp only[go_sem,J]
theorem Ky{α:Type}(p:α->Bool)(xs:List α):ix p xs<0↔∀x∈xs,p x=false:=by
 unfold ix
 by_cases h:xs.findIdx p<xs.length
 .rw[sN h]
  refine⟨fun E=>absurd E (by omega),fun E=>?_⟩;have:=List.findIdx_eq_length.mpr E;omega
 .rw[sO h]
  exact⟨fun _=>List.findIdx_eq_length.mp (Nat.le_antisymm (List.findIdx_le_length) (by omega)),fun _=>by omega⟩
theorem aed(xs:List Member)(g:FuncId)(p:Member->Bool)(t:V)(h:xs.length<=maxLen)(hc:conv g= .KQ)(G:strip pI 7 t=some (t,[]))(E:strip pI 6 t=some (t,[]))(J:∀x∈xs,fn ZK conv ext g [.agg (Ac x),t]=some (Bo (p x))) :
  fn ZK conv ext 124 [LL Ac xs,.clo g [t]]=some (Bo (decide (0<=ix p xs))):=by
 have O:=Wv xs (.clo g [t]) g p t h hc G J;rw[m_,mg [.tmp 4] [] func124];simp only[go_sem,O,G,E]
theorem aav(xs:List Int)(g:FuncId)(p:Int->Bool)(h:xs.length<=maxLen)(hc:conv g= .KQ)(E:∀x∈xs,fn ZK conv ext g [I x]=some (Bo (p x))) :
  fn ZK conv ext 91 [LI xs,.clo g []]=some (Bo (decide (0<=ix p xs))):=by
 have G:=indexInt xs (.clo g []) g p h hc E;rw[m_,mg [.tmp 4] [] func91];simp only[go_sem,G]
noncomputable def pb(p:Prop):Bool:=@decide p (Classical.propDecidable p)
theorem gy{p:Prop}(h:p):pb p=true:=by unfold pb;exact(@decide_eq_true_iff p (Classical.propDecidable p)).mpr h
theorem h_{p:Prop}(h:¬p):pb p=false:=by unfold pb;exact(@decide_eq_false_iff_not p (Classical.propDecidable p)).mpr h
theorem Qg{p:Prop}{b:Bool}(h:b=true↔p):b=pb p:=by
 cases b with
 |true=>exact(gy (h.mp rfl)).symm
 |false=>exact(h_ (fun hp=>by cases h.mpr hp)).symm
theorem ig{p:Prop}(h:pb p=true):p:=by
 unfold pb at h;exact(@decide_eq_true_iff p (Classical.propDecidable p)).mp h
def inB(n a b:Int):Bool:=decide (a<=n) && decide (n<=b)
theorem Iq(n a b:Int):fn ZK conv ext 113 [I n,I a,I b]=some (Bo (inB n a b)):=by
 unfold inB;rw[m_,mg [.tmp 6] [] func113]
 by_cases h:a<=n<;>simp only[go_sem,h]
theorem aj2(n:Int):fn ZK conv ext 102 [I n]=some (Bo (inB n (-100) 100)):=by
 unfold inB;rw[m_,mg [.tmp 2] [] func102]
 by_cases h:-100<=n<;>simp only[go_sem,h]
theorem aj3(n:Int):fn ZK conv ext 93 [I n]=some (Bo (inB n (0) 1000)):=by
 unfold inB;rw[m_,mg [.tmp 2] [] func93]
 by_cases h:0<=n<;>simp only[go_sem,h]
theorem abR(n:Int):fn ZK conv ext 149 [I n]=some (Bo (inB n (-50) 50)):=by
 unfold inB;rw[m_,mg [.tmp 2] [] func149]
 by_cases h:-50<=n<;>simp only[go_sem,h]
def CO(b:UInt8):Bool:=decide (97<=(b.toNat:Int)) && decide ((b.toNat:Int)<=122)
def Em(b:UInt8):Bool:=decide (48<=(b.toNat:Int)) && decide ((b.toNat:Int)<=57)
theorem agt(b:UInt8):fn ZK conv ext 88 [.sc (.int .u8 b.toNat)]=some (Bo (CO b)):=by
 unfold CO;rw[m_,mg [.tmp 2] [] func88]
 by_cases h:97<=(b.toNat:Int)<;>simp only[go_sem,h]
theorem isDigit(b:UInt8):fn ZK conv ext 89 [.sc (.int .u8 b.toNat)]=some (Bo (Em b)):=by
 unfold Em;rw[m_,mg [.tmp 2] [] func89]
 by_cases h:48<=(b.toNat:Int)<;>simp only[go_sem,h]
def ED(k:Nat)(b:UInt8):Prop:=CO b=true\/(k≠0/\Em b=true)
def DW(s:ByteArray):Prop:=(∀k b,s[k]?=some b->ED k b)/\1<=s.size/\s.size<=8
theorem agu{s:ByteArray}{k:Nat}(h:k<s.size):∃b,s[k]?=some b:=⟨s[k],by simp[h]⟩
theorem LC{s:ByteArray}{k:Nat}{b:UInt8}(h:s[k]?=some b):k<s.size:=by
 by_cases E:k<s.size
 .exact E
 .simp[E]at h
theorem Nq{s:ByteArray}(h:∀i b,s[i]?=some b->ED i b):pb (DW s)=inB s.size 1 8:=by
 unfold inB
 by_cases E:(1:Int)<=s.size
 .by_cases G:(s.size:Int)<=8
  .rw[gy ⟨h,by omega,by omega⟩,sH E,sH G];rfl
  .rw[h_ (fun hn=>G (by have:=hn.2.2;omega)),sH E,sG G];rfl
 .rw[h_ (fun hn=>E (by have:=hn.2.1;omega)),sG E];rfl
theorem pU{s:ByteArray}{k:Nat}{b:UInt8}(hi:∀i b,i<k->s[i]?=some b->ED i b)(hb:s[k]?=some b)(h:ED k b):∀i b,i<k+1->s[i]?=some b->ED i b:=by
 intro i c E hc;rcases wW (wM E)with G|G
 .exact hi i c G hc
 .subst G
  rw[hb]at hc;cases hc;exact h
theorem j_{k:Nat}{b:UInt8}(J:CO b=false)(E:k=0\/Em b=false):¬ED k b:=by
 rintro (h|⟨h,G⟩)
 .rw[J]at h;cases h
 .rcases E with E|E
  .exact h E
  .rw[E]at G;cases G
theorem jZ{b:UInt8}(h:¬(97<=(b.toNat:Int))):CO b=false:=by unfold CO;rw[sG h];rfl
theorem Nr{b:UInt8}(h:¬((b.toNat:Int)<=122)):CO b=false:=by unfold CO;rw[sG h,wS]
theorem aee{b:UInt8}(h:(b.toNat:Int)<48):Em b=false:=by unfold Em;rw[sG (by omega)];rfl
theorem Qh{b:UInt8}(h:57<(b.toNat:Int)):Em b=false:=by unfold Em;rw[sG (p:=(b.toNat:Int)<=57) (by omega),wS]
theorem aef{b:UInt8}(h:¬(b.toNat:Int)<48)(E:¬57<(b.toNat:Int)):Em b=true:=by unfold Em;rw[sH (by omega),sH (by omega)];rfl
theorem aj6(s:ByteArray)(hs:okS s):fn ZK conv ext 72 [Sg s]=some (Bo (pb (DW s))):=by
 have e2:(s.size:Int)<=9223372036854775807:=by unfold okS at hs;omega
 rw[m_,mg [.tmp 2] [] func72];simp only[go_sem];generalize hL:jI _ _=y;obtain⟨r,rfl,hr⟩:=oZ hL s.size (fun k st=>st.nx=0/\st.σ=pI/\st.T 0=Sg s/\st.T 3=I k/\∀i b,i<k->s[i]?=some b->ED i b)
  (fun r=>(∃T,r=(.exit 0,⟨T,pI,0⟩)/\T 0=Sg s/\∀i b,s[i]?=some b->ED i b)\/(∃T,r=(.ret,⟨T,pI,0⟩)/\T 2=Bo false/\¬DW s)) (by
   clear hL;rintro k ⟨T,σ,nx⟩ a0 ⟨hn,G,E,J,hi⟩;simp only at hn G E J;subst hn G;have f1:(k:Int)<(s.size:Int):=by omega
   have f2:=jC k;have f3:=ZR (n:=(k:Int)+1);obtain⟨b,O⟩:=agu a0;have no:¬ED k b->¬DW s:=fun h hn=>h (hn.1 k b O)
   by_cases c1:97<=(b.toNat:Int)
   .by_cases c2:(b.toNat:Int)<=122
    .refine .inl ⟨_,by simp only[go_sem,E,J,f1,f2,f3,O,c1,c2];rfl,?_⟩
     simp only[go_sem,E];exact⟨rfl,pU hi O (.inl (by unfold CO;rw[sH c1,sH c2];rfl))⟩
    .have d1:¬(b.toNat:Int)<48:=by omega
     have d2:57<(b.toNat:Int):=by omega
     by_cases Y:k=0
     .have S:((k:Int)==0)=true:=by subst Y;rfl
      exact .inr ⟨_,by simp only[go_sem,E,J,f1,f2,O,c1,c2,S];rfl,by simp,.inr ⟨_,rfl,by simp only[go_sem],no (j_ (Nr c2) (.inl Y))⟩⟩
     .have S:((k:Int)==0)=false:=by simpa using Y
      exact .inr ⟨_,by simp only[go_sem,E,J,f1,f2,O,c1,c2,S,d1,d2];rfl,by simp,.inr ⟨_,rfl,by simp only[go_sem],no (j_ (Nr c2) (.inr (Qh d2)))⟩⟩
   .by_cases Y:k=0
    .have S:((k:Int)==0)=true:=by subst Y;rfl
     exact .inr ⟨_,by simp only[go_sem,E,J,f1,f2,O,c1,S];rfl,by simp,.inr ⟨_,rfl,by simp only[go_sem],no (j_ (jZ c1) (.inl Y))⟩⟩
    .have S:((k:Int)==0)=false:=by simpa using Y
     by_cases d1:(b.toNat:Int)<48
     .exact .inr ⟨_,by simp only[go_sem,E,J,f1,f2,O,c1,S,d1];rfl,by simp,.inr ⟨_,rfl,by simp only[go_sem],no (j_ (jZ c1) (.inr (aee d1)))⟩⟩
     .by_cases d2:57<(b.toNat:Int)
      .exact .inr ⟨_,by simp only[go_sem,E,J,f1,f2,O,c1,S,d1,d2];rfl,by simp,.inr ⟨_,rfl,by simp only[go_sem],no (j_ (jZ c1) (.inr (Qh d2)))⟩⟩
      .refine .inl ⟨_,by simp only[go_sem,E,J,f1,f2,f3,O,c1,S,d1,d2];rfl,?_⟩
       simp only[go_sem,E];exact⟨rfl,pU hi O (.inr ⟨Y,aef d1 d2⟩)⟩) (by
   clear hL;rintro ⟨T,σ,nx⟩ ⟨hn,G,E,J,hi⟩;simp only at hn G E J;subst hn G;refine⟨_,by simp only[go_sem,E,J,zi];rfl,by simp,.inl ⟨_,rfl,?_,fun i b h=>hi i b (LC h) h⟩⟩;simp only[go_sem,E]) (by
   simp only[go_sem];exact fun i b h=>absurd h (zU _))
 rcases hr with ⟨T,rfl,E,h1⟩|⟨T,rfl,E,h1⟩
 .have:=Iq s.size 1 8
  simp only[go_sem,E,Nq h1,this]
 .simp only[go_sem,E,h_ h1]
theorem toList_empty(s:ByteArray):(s.toList==({ data:=#[] }:ByteArray).toList)=decide (s.size=0):=by
 have e:(s.toList=[])=(s.size=0):=by
  rw[ByteArray.toList_eq];refine propext ⟨fun h=>?_,fun h=>zZ (by rw[yK];exact h)⟩;have:=congrArg List.length h;rw[yK]at this;exact this
 have E:({ data:=#[] }:ByteArray).toList=[]:=ByteArray.toList_mk [];rw[E]
 by_cases h:s.size=0
 .rw[e.mpr h,sH h];rfl
 .rw[sG h]
  cases G:s.toList with
  |nil=>exact absurd (e.mp G) h
  |cons a l=>rfl
theorem abS(s:ByteArray)(hs:okS s):fn ZK conv ext 50 [Sg s]=some (Bo (pb (DW s))):=by
 have e2:(s.size:Int)<=9223372036854775807:=by unfold okS at hs;omega
 rw[m_,mg [.tmp 2] [] func50];simp only[go_sem];generalize hL:jI _ _=y;obtain⟨r,rfl,hr⟩:=oZ hL s.size (fun k st=>st.nx=0/\st.σ=pI/\st.T 0=Sg s/\st.T 5=I s.size/\st.T 6=I k/\∀i b,i<k->s[i]?=some b->ED i b)
  (fun r=>(∃T,r=(.exit 0,⟨T,pI,0⟩)/\T 0=Sg s/\∀i b,s[i]?=some b->ED i b)\/(∃T,r=(.ret,⟨T,pI,0⟩)/\T 2=Bo false/\¬DW s)) (by
   clear hL;rintro k ⟨T,σ,nx⟩ a0 ⟨hn,G,E,J,O,hi⟩;simp only at hn G E J O;subst hn G;have f1:(k:Int)<(s.size:Int):=by omega
   have f2:=jC k;have f3:=ZR (n:=(k:Int)+1);obtain⟨b,S⟩:=agu a0;have no:¬ED k b->¬DW s:=fun h hn=>h (hn.1 k b S)
   have g1:=agt b;have g2:=isDigit b;cases hl:CO b with
   |true=>
    rw[hl]at g1;refine .inl ⟨_,by simp only[go_sem,E,O,J,f1,f2,f3,S,g1];rfl,?_⟩;simp only[go_sem,E,J];exact⟨rfl,pU hi S (.inl hl)⟩
   |false=>
    rw[hl]at g1
    by_cases Y:k=0
    .have f0:((k:Int)==0)=true:=by subst Y;rfl
     exact .inr ⟨_,by simp only[go_sem,E,O,J,f1,f2,S,g1,f0];rfl,by simp,.inr ⟨_,rfl,by simp only[go_sem],no (j_ hl (.inl Y))⟩⟩
    .have f0:((k:Int)==0)=false:=by simpa using Y
     cases hd:Em b with
     |true=>
      rw[hd]at g2;refine .inl ⟨_,by simp only[go_sem,E,O,J,f1,f2,f3,S,g1,g2,f0];rfl,?_⟩;simp only[go_sem,E,J];exact⟨rfl,pU hi S (.inr ⟨Y,hd⟩)⟩
     |false=>
      rw[hd]at g2;exact .inr ⟨_,by simp only[go_sem,E,O,J,f1,f2,S,g1,g2,f0];rfl,by simp,.inr ⟨_,rfl,by simp only[go_sem],no (j_ hl (.inr hd))⟩⟩) (by
   clear hL;rintro ⟨T,σ,nx⟩ ⟨hn,G,E,J,O,hi⟩;simp only at hn G E J O;subst hn G;refine⟨_,by simp only[go_sem,E,O,J,zi];rfl,by simp,.inl ⟨_,rfl,?_,fun i b h=>hi i b (LC h) h⟩⟩;simp only[go_sem,E]) (by
   simp only[go_sem];exact fun i b h=>absurd h (zU _))
 rcases hr with ⟨T,rfl,E,h1⟩|⟨T,rfl,E,h1⟩
 .have he:=toList_empty s
  rw[Nq h1];unfold inB
  by_cases Y:s.size=0
  .have:¬(1:Int)<=s.size:=by omega
   rw[sH Y]at he;simp only[go_sem,E,this,he]
  .have:(1:Int)<=s.size:=by omega
   rw[sG Y]at he;simp only[go_sem,E,this,he]
 .simp only[go_sem,E,h_ h1]
noncomputable def D7(j:Dk):Bool:=pb (DW j.name) && (inB j.x (-50) 50 && inB j.y (-50) 50)
theorem agv(j:Dk)(h:SN j):fn ZK conv ext 142 [.agg (Ag j)]=some (Bo (D7 j)):=by
 have E:=aj6 j.name h.1;have G:=Iq j.x (-50) 50;have J:=Iq j.y (-50) 50;unfold D7;generalize pb (DW j.name)=b1 at *;generalize inB j.x (-50) 50=O at *;generalize inB j.y (-50) 50=S at *;rw[m_,mg [.tmp 2] [] func142];cases b1<;>cases O<;>simp only[go_sem,E,G,J]
theorem agw(j:Dk)(h:SN j):fn ZK conv ext 122 [.agg (Ag j)]=some (Bo (D7 j)):=by
 have E:=abS j.name h.1;have G:=abR j.x;have J:=abR j.y;unfold D7;generalize pb (DW j.name)=b1 at *;generalize inB j.x (-50) 50=O at *;generalize inB j.y (-50) 50=S at *;rw[m_,mg [.tmp 2] [] func122];cases b1<;>cases O<;>simp only[go_sem,E,G,J]
abbrev isNamed(name:ByteArray)(s:Dp):Bool:=s.name.toList==name.toList
abbrev Bh(name:ByteArray)(s:Dk):Bool:=s.name.toList==name.toList
theorem JA(name:ByteArray)(s:Dp):fn ZK conv ext 54 [.agg (Au s),.tp [Sg name] 0]=some (Bo (isNamed name s)):=by
 rw[m_,mg [.tmp 3] [] func54];simp only[go_sem]
theorem SV(y:Cm)(name:ByteArray)(h:y.aI.length<=maxLen):fn ZK conv ext 24 [.agg (AQ y),Sg name]=some (I (ix (isNamed name) y.aI)):=by
 have E:=Wu y.aI (.tp [Sg name] 0) 54 (isNamed name) (.tp [Sg name] 0) h (by rfl) (by rfl) (fun x _=>JA name x);rw[m_,mg [.tmp 4] [] func24];simp only[go_sem,E]
theorem KW(name:ByteArray)(s:Dk):fn ZK conv ext 151 [.agg (Ag s),.tp [Sg name] 0]=some (Bo (Bh name s)):=by
 rw[m_,mg [.tmp 3] [] func151];simp only[go_sem]
theorem Wx(y:Structure)(name:ByteArray)(h:y.bI.length<=maxLen):fn ZK conv ext 123 [.agg (iI y),Sg name]=some (I (ix (Bh name) y.bI)):=by
 have E:=aau y.bI (.tp [Sg name] 0) 151 (Bh name) (.tp [Sg name] 0) h (by rfl) (by rfl) (fun x _=>KW name x);rw[m_,mg [.tmp 4] [] func123];simp only[go_sem,E]
theorem Wy(y:Structure)(name:ByteArray)(h:y.bI.length<=maxLen):fn ZK conv ext 143 [.agg (iI y),Sg name]=some (I (ix (Bh name) y.bI)):=by
 have e2:(y.bI.length:Int)<=9223372036854775807:=by unfold maxLen at h;omega
 rw[m_,mg [.tmp 4] [] func143];simp only[go_sem];generalize Y:jI _ _=z;generalize a0:y.bI=xs at *;obtain⟨r,rfl,hr⟩:=oZ Y xs.length (fun k st=>st.T 1=Sg name/\st.T 8=LL Ag xs/\st.T 9=I xs.length/\st.T 10=I k/\∀i (h:i<xs.length),i<k->Bh name xs[i]=false)
  (fun r=>(∃st,r=(.exit 0,st)/\ix (Bh name) xs= -1)\/(∃st,r=(.ret,st)/\st.T 4=I (ix (Bh name) xs))) (by
   clear Y;rintro k ⟨T,σ,nx⟩ J ⟨G,S,O,E,hi⟩;simp only at G S O E;have f1:(k:Int)<(xs.length:Int):=by omega
   have f2:=jC k;have f3:=ZR (n:=(k:Int)+1);have f4:=Jz xs k J;have f5:=Gp xs;have f6:k*4+4<=xs.length*4:=by omega
   have f9:=Po xs k J;cases hp:Bh name xs[k]with
   |true=>
    refine .inr ⟨_,by simp only[go_sem,G,S,O,E,f1,f2,f4,f5,f6,f9,hp];rfl,by simp,.inr ⟨_,rfl,?_⟩⟩;simp only[go_sem];rw[jr J hi hp]
   |false=>
    refine .inl ⟨_,by simp only[go_sem,G,S,O,E,f1,f2,f3,f4,f5,f6,f9,hp];rfl,?_⟩;simp only[go_sem,G,S,O];exact⟨rfl,jo J hi hp⟩) (by
   clear Y;rintro ⟨T,σ,nx⟩ ⟨G,S,O,E,hi⟩;simp only at G S O E;exact⟨_,by simp only[go_sem,O,E,zi];rfl,by simp,.inl ⟨_,rfl,jq fun i h=>hi i h h⟩⟩) (by
   simp only[go_sem];exact fun i _ h=>absurd h (zU _))
 rcases hr with ⟨⟨T,σ,nx⟩,rfl,G⟩|⟨⟨T,σ,nx⟩,rfl,G⟩
 .simp only[go_sem,G]
 .simp only at G
  simp only[go_sem,G]
def Kz(a b:Dk):Bool:=(!(a.x==b.x)|| !(a.y==b.y)) && !(a.fixed && b.fixed)
def Dy(n:Nat)(m:Member):Prop:=0<=m.a/\m.a<n/\0<=m.b/\m.b<n/\1<=m.kind/\m.kind<=3
noncomputable def Ns(js:List Dk)(m:Member):Bool:=pb (Dy js.length m/\∀a b,js[m.a.toNat]?=some a->js[m.b.toNat]?=some b->Kz a b=true)
theorem jJ{js:List Dk}{m:Member}(h:¬Dy js.length m):Ns js m=false:=h_ fun hn=>h hn.1
theorem JB{js:List Dk}{m:Member}(h:Dy js.length m){a b:Dk}(ha:js[m.a.toNat]?=some a)(hb:js[m.b.toNat]?=some b):Ns js m=Kz a b:=by
 refine(Qg ⟨fun hp=>⟨h,fun c d hc E=>?_⟩,fun hn=>hn.2 a b ha hb⟩).symm;rw[ha]at hc;rw[hb]at E;cases hc;cases E;exact hp
set_option maxRecDepth 100000 in
theorem aeg(row:List V)(off:Nat)(js:List Dk)(m:Member)(E:row[off]?=some (LL Ag js))(hl:js.length<=maxLen):fn ZK conv ext 126 [.tp row off,.agg (Ac m)]=some (Bo (Ns js m)):=by
 rw[m_,mg [.tmp 4] [4] func126]
 by_cases c1:m.a<0
 .rw[jJ (fun h=>by have:=h.1;omega)]
  simp only[go_sem,E,c1]
 by_cases G:(js.length:Int)<=m.a
 .rw[jJ (fun h=>by have:=h.2.1;omega)]
  simp only[go_sem,E,c1,G]
 by_cases J:m.b<0
 .rw[jJ (fun h=>by have:=h.2.2.1;omega)]
  simp only[go_sem,E,c1,G,J]
 by_cases O:(js.length:Int)<=m.b
 .rw[jJ (fun h=>by have:=h.2.2.2.1;omega)]
  simp only[go_sem,E,c1,G,J,O]
 by_cases S:m.kind<1
 .rw[jJ (fun h=>by have:=h.2.2.2.2.1;omega)]
  simp only[go_sem,E,c1,G,J,O,S]
 by_cases c6:3<m.kind
 .rw[jJ (fun h=>by have:=h.2.2.2.2.2;omega)]
  simp only[go_sem,E,c1,G,J,O,S,c6]
 have a1:0<=m.a:=by omega
 have a2:m.a<js.length:=by omega
 have b1:0<=m.b:=by omega
 have b2:m.b<js.length:=by omega
 have Y:m.a.toNat<js.length:=by omega
 have b3:m.b.toNat<js.length:=by omega
 rw[JB ⟨a1,a2,b1,b2,by omega,by omega⟩ (zy Y) (zy b3)];have f4:=Jz js _ Y;have g4:=Jz js _ b3;have f5:=Gp js;have f6:m.a.toNat *4+4<=js.length*4:=by omega
 have g6:m.b.toNat *4+4<=js.length*4:=by omega
 have f9:=Po js _ Y;generalize js[m.a.toNat]=a at *;generalize js[m.b.toNat]=b at *;unfold Kz;cases hx:(a.x==b.x)<;>cases hy:(a.y==b.y)<;>cases ha:a.fixed<;>cases hb:b.fixed<;>
  (simp only[go_sem,E,c1,G,J,O,S,c6,a1,a2,b1,b2,f4,g4,f5,f6,g6,f9,hx,hy,ha,hb,bne])<;>rfl
def Ba(s:Structure):Prop:=s.bI.length<=6/\s.members.length<=8/\(∀i (h:i<s.bI.length),D7 s.bI[i]=true/\ix (Bh s.bI[i].name) s.bI=i)/\∀m∈s.members,Ns s.bI m=true
theorem JC(s:Structure)(m:Member)(E:s.bI.length<=maxLen):fn ZK conv ext 125 [.agg (Ac m),.tp (iI s) 0]=some (Bo (!Ns s.bI m)):=by
 have G:=aeg (iI s) 0 s.bI m rfl E;rw[m_,mg [.tmp 3] [] func125];simp only[go_sem,G]
theorem Ir(s:Structure)(h:Ah s):fn ZK conv ext 90 [.agg (iI s)]=some (Bo (pb (Ba s))):=by
 have e2:(s.bI.length:Int)<=9223372036854775807:=by have:=h.1.2.1;omega
 have hm:=aed s.members 125 (fun m=> !Ns s.bI m) (.tp (iI s) 0) h.2.2.2 (by rfl) (by rfl) (by rfl) (fun x _=>JC s x h.1.2.2);rw[m_,mg [.tmp 2] [] func90]
 by_cases c1:(6:Int)<s.bI.length
 .rw[h_ (fun hn=>by have:=hn.1;omega)]
  simp only[go_sem,c1]
 by_cases c2:(8:Int)<s.members.length
 .rw[h_ (fun hn=>by have:=hn.2.1;omega)]
  simp only[go_sem,c1,c2]
 simp only[go_sem,c1,c2];generalize hL:jI _ _=y;obtain⟨r,rfl,hr⟩:=oZ hL s.bI.length (fun k st=>0<st.nx/\st.σ 0=some ⟨iI s,0,true⟩/\st.T 1= .rp 0 0/\st.T 16=LL Ag s.bI/\st.T 17=I s.bI.length/\st.T 18=I k/\∀i (h:i<s.bI.length),i<k->D7 s.bI[i]=true/\ix (Bh s.bI[i].name) s.bI=i)
  (fun r=>(∃T σ nx,r=(.exit 0,⟨T,σ,nx⟩)/\σ 0=some ⟨iI s,0,true⟩/\T 1= .rp 0 0/\∀i (h:i<s.bI.length),D7 s.bI[i]=true/\ix (Bh s.bI[i].name) s.bI=i)\/(∃T σ nx,r=(.ret,⟨T,σ,nx⟩)/\T 2=Bo false/\¬Ba s)) (by
   clear hL;rintro k ⟨T,σ,nx⟩ S ⟨hn,E,Y,J,G,O,hi⟩;simp only at hn E Y J G O;have f1:(k:Int)<(s.bI.length:Int):=by omega
   have f2:=jC k;have f3:=ZR (n:=(k:Int)+1);have f4:=Jz s.bI k S;have f5:=Gp s.bI;have f6:k*4+4<=s.bI.length*4:=by omega
   have f9:=Po s.bI k S;have t1:=agw s.bI[k] (h.1.1 _ (zu S));have t2:=Wx s s.bI[k].name h.1.2.2;have nz:¬0=nx:=by omega
   cases hj:D7 s.bI[k]with
   |false=>
    rw[hj]at t1;refine .inr ⟨_,by simp only[go_sem,Y,J,G,O,f1,f2,f4,f5,f6,f9,t1,nz];rfl,by simp,.inr ⟨_,_,_,rfl,?_,fun hn=>?_⟩⟩
    .simp only[go_sem]
    .have:=(hn.2.2.1 k S).1
     rw[hj]at this;cases this
   |true=>
    rw[hj]at t1
    by_cases hk:ix (Bh s.bI[k].name) s.bI=k
    .rw[hk]at t2
     refine .inl ⟨_,by simp only[go_sem,Y,J,G,O,E,f1,f2,f3,f4,f5,f6,f9,t1,t2,nz];rfl,?_⟩;simp only[go_sem,Y,J,G,E,nz];refine⟨by omega,rfl,fun i a0 a1=>?_⟩;rcases wW (wM a1)with q|q
     .exact hi i a0 q
     .subst q;exact⟨hj,hk⟩
    .have a2:(ix (Bh s.bI[k].name) s.bI !=(k:Int))=true:=by simpa using hk
     refine .inr ⟨_,by simp only[go_sem,Y,J,G,O,E,f1,f2,f4,f5,f6,f9,t1,t2,a2,nz];rfl,by simp,.inr ⟨_,_,_,rfl,?_,fun hn=>hk (hn.2.2.1 k S).2⟩⟩;simp only[go_sem]) (by
   clear hL;rintro ⟨T,σ,nx⟩ ⟨hn,E,Y,J,G,O,hi⟩;simp only at hn E Y J G O;exact⟨_,by simp only[go_sem,G,O,zi];rfl,by simp,.inl ⟨_,_,_,rfl,E,by simp only[go_sem,Y],fun i h=>hi i h h⟩⟩) (by
   simp only[go_sem];exact fun i _ h=>absurd h (zU _))
 rcases hr with ⟨T,σ,nx,rfl,E,Y,hj⟩|⟨T,σ,nx,rfl,h2,hn⟩
 .have:pb (Ba s)= !decide (0<=ix (fun m=> !Ns s.bI m) s.members):=by
   refine(Qg ?_).symm;rw[vJ,decide_eq_false_iff_not,Int.not_le,Ky];exact⟨fun hq=>⟨by omega,by omega,hj,fun m hm=>by simpa using hq m hm⟩,fun hq m hm=>by simp[hq.2.2.2 m hm]⟩
  rw[this];simp only[go_sem,E,Y,hm]
 .simp only[go_sem,h2,h_ hn]
theorem kH{n a b:Int}(h:inB n a b=false):¬(a<=n/\n<=b):=by
 unfold inB at h;intro hn;rw[sH hn.1,sH hn.2]at h;cases h
theorem kG{n a b:Int}(h:inB n a b=true):a<=n/\n<=b:=by
 unfold inB at h;rw[zD,decide_eq_true_eq,decide_eq_true_eq]at h;exact h
theorem Iu(s:Structure)(h:Ah s):fn ZK conv ext 114 [.agg (iI s)]=some (Bo (pb (Ba s))):=by
 have e2:(s.bI.length:Int)<=9223372036854775807:=by have:=h.1.2.1;omega
 have e3:(s.members.length:Int)<=9223372036854775807:=by have:=h.2.2.1;omega
 rw[m_,mg [.tmp 2] [] func114]
 by_cases c1:(6:Int)<s.bI.length
 .rw[h_ (fun hn=>by have:=hn.1;omega)]
  simp only[go_sem,c1]
 by_cases c2:(8:Int)<s.members.length
 .rw[h_ (fun hn=>by have:=hn.2.1;omega)]
  simp only[go_sem,c1,c2]
 simp only[go_sem,c1,c2];generalize hL:jI _ _=y;obtain⟨r,rfl,hr⟩:=oZ hL s.bI.length (fun k st=>0<st.nx/\st.σ 0=some ⟨iI s,0,true⟩/\st.T 1= .rp 0 0/\st.T 21=LL Ag s.bI/\st.T 22=I s.bI.length/\st.T 23=I k/\∀i (h:i<s.bI.length),i<k->D7 s.bI[i]=true/\ix (Bh s.bI[i].name) s.bI=i)
  (fun r=>(∃T σ nx,r=(.exit 0,⟨T,σ,nx⟩)/\0<nx/\σ 0=some ⟨iI s,0,true⟩/\T 1= .rp 0 0/\∀i (h:i<s.bI.length),D7 s.bI[i]=true/\ix (Bh s.bI[i].name) s.bI=i)\/(∃T σ nx,r=(.ret,⟨T,σ,nx⟩)/\T 2=Bo false/\¬Ba s)) (by
   clear hL;rintro k ⟨T,σ,nx⟩ O ⟨hn,E,G,a4,Y,a5,hi⟩;simp only at hn E G a4 Y a5;have f1:(k:Int)<(s.bI.length:Int):=by omega
   have f2:=jC k;have f3:=ZR (n:=(k:Int)+1);have f4:=Jz s.bI k O;have f5:=Gp s.bI;have f6:k*4+4<=s.bI.length*4:=by omega
   have f9:=Po s.bI k O;have t1:=agv s.bI[k] (h.1.1 _ (zu O));have t2:=Wy s s.bI[k].name h.1.2.2;have nz:¬0=nx:=by omega
   cases hj:D7 s.bI[k]with
   |false=>
    rw[hj]at t1;refine .inr ⟨_,by simp only[go_sem,G,a4,Y,a5,f1,f2,f4,f5,f6,f9,t1,nz];rfl,by simp,.inr ⟨_,_,_,rfl,?_,fun hn=>?_⟩⟩
    .simp only[go_sem]
    .have:=(hn.2.2.1 k O).1
     rw[hj]at this;cases this
   |true=>
    rw[hj]at t1
    by_cases hk:ix (Bh s.bI[k].name) s.bI=k
    .rw[hk]at t2
     refine .inl ⟨_,by simp only[go_sem,G,a4,Y,a5,E,f1,f2,f3,f4,f5,f6,f9,t1,t2,nz];rfl,?_⟩;simp only[go_sem,G,a4,Y,E,nz];refine⟨by omega,rfl,fun i a6 a7=>?_⟩;rcases wW (wM a7)with q|q
     .exact hi i a6 q
     .subst q;exact⟨hj,hk⟩
    .have b5:(ix (Bh s.bI[k].name) s.bI !=(k:Int))=true:=by simpa using hk
     refine .inr ⟨_,by simp only[go_sem,G,a4,Y,a5,E,f1,f2,f4,f5,f6,f9,t1,t2,b5,nz];rfl,by simp,.inr ⟨_,_,_,rfl,?_,fun hn=>hk (hn.2.2.1 k O).2⟩⟩;simp only[go_sem]) (by
   clear hL;rintro ⟨T,σ,nx⟩ ⟨hn,E,G,a4,Y,a5,hi⟩;simp only at hn E G a4 Y a5;exact⟨_,by simp only[go_sem,Y,a5,zi];rfl,by simp,.inl ⟨_,_,_,rfl,hn,E,by simp only[go_sem,G],fun i h=>hi i h h⟩⟩) (by
   simp only[go_sem];exact fun i _ h=>absurd h (zU _))
 rcases hr with ⟨T,σ,nx,rfl,b6,E,G,hj⟩|⟨T,σ,nx,rfl,h2,hn⟩
 .clear hL
  have e4:=ZR (n:=(s.bI.length:Int) - 1);simp only[go_sem,E,G,e4];generalize hL:jI _ _=y;obtain⟨r,rfl,hr⟩:=oZ hL s.members.length (fun k st=>0<st.nx/\st.σ 0=some ⟨iI s,0,true⟩/\st.T 1= .rp 0 0/\st.T 5=I ((s.bI.length:Int) - 1)/\st.T 45=LL Ac s.members/\st.T 46=I s.members.length/\st.T 47=I k/\∀i (h:i<s.members.length),i<k->Ns s.bI s.members[i]=true)
   (fun r=>(∃T σ nx,r=(.exit 2,⟨T,σ,nx⟩)/\∀i (h:i<s.members.length),Ns s.bI s.members[i]=true)\/(∃T σ nx,r=(.ret,⟨T,σ,nx⟩)/\T 2=Bo false/\¬Ba s)) (by
    clear hL;rintro k ⟨T,σ,nx⟩ O ⟨hn,E,G,h5,a0,J,S,hi⟩;simp only at hn E G h5 a0 J S;have f1:(k:Int)<(s.members.length:Int):=by omega
    have f2:=jC k;have f3:=ZR (n:=(k:Int)+1);have f4:=Nl s.members k O;have f5:=GR s.members;have f6:k*3+3<=s.members.length*3:=by omega
    have f9:=Np s.members k O;have no:Ns s.bI s.members[k]=false->¬Ba s:=fun hb hn=>by
     rw[hn.2.2.2 _ (zu O)]at hb;cases hb
    obtain⟨m,b4⟩:∃m,m=s.members[k]:=⟨_,rfl⟩;rw[<- b4]at f4 no;have t1:=Iq m.a 0 ((s.bI.length:Int) - 1);have t2:=Iq m.b 0 ((s.bI.length:Int) - 1);have t3:=Iq m.kind 1 3;have nz:¬0=nx:=by omega
    cases ha:inB m.a 0 ((s.bI.length:Int) - 1)with
    |false=>
     rw[ha]at t1;refine .inr ⟨_,by simp only[go_sem,G,h5,a0,J,S,E,f1,f2,f4,f5,f6,f9,t1,nz];rfl,by simp,.inr ⟨_,_,_,rfl,by simp only[go_sem],no (jJ fun hm=>?_)⟩⟩;exact kH ha ⟨hm.1,by have:=hm.2.1;omega⟩
    |true=>
    rw[ha]at t1;cases hb:inB m.b 0 ((s.bI.length:Int) - 1)with
    |false=>
     rw[hb]at t2;refine .inr ⟨_,by simp only[go_sem,G,h5,a0,J,S,E,f1,f2,f4,f5,f6,f9,t1,t2,nz];rfl,by simp,.inr ⟨_,_,_,rfl,by simp only[go_sem],no (jJ fun hm=>?_)⟩⟩;exact kH hb ⟨hm.2.2.1,by have:=hm.2.2.2.1;omega⟩
    |true=>
    rw[hb]at t2;cases hc:inB m.kind 1 3 with
    |false=>
     rw[hc]at t3;refine .inr ⟨_,by simp only[go_sem,G,h5,a0,J,S,E,f1,f2,f4,f5,f6,f9,t1,t2,t3,nz];rfl,by simp,.inr ⟨_,_,_,rfl,by simp only[go_sem],no (jJ fun hm=>?_)⟩⟩;exact kH hc ⟨hm.2.2.2.2.1,hm.2.2.2.2.2⟩
    |true=>
    rw[hc]at t3;have qa:=kG ha;have qb:=kG hb;have qc:=kG hc;have a1:0<=m.a:=qa.1;have a2:m.a<s.bI.length:=by omega
    have b1:0<=m.b:=qb.1;have b2:m.b<s.bI.length:=by omega
    have a3:m.a.toNat<s.bI.length:=by omega
    have b3:m.b.toNat<s.bI.length:=by omega
    have hp:=JB ⟨a1,a2,b1,b2,qc.1,qc.2⟩ (zy a3) (zy b3);have k4:=Jz s.bI _ a3;have g4:=Jz s.bI _ b3;have k5:=Gp s.bI;have k6:m.a.toNat *4+4<=s.bI.length*4:=by omega
    have g6:m.b.toNat *4+4<=s.bI.length*4:=by omega
    have k9:=Po s.bI _ a3;generalize s.bI[m.a.toNat]=a at *;generalize s.bI[m.b.toNat]=b at *;unfold Kz at hp;have n1:¬nx=nx+1:=by omega
    have n2:¬nx=nx+1+1:=by omega
    have n3:¬nx+1=nx+1+1:=by omega
    have n4:¬0=nx+1:=by omega
    have n5:¬0=nx+1+1:=by omega
    cases hx:(a.x==b.x)<;>cases hy:(a.y==b.y)<;>cases a8:a.fixed<;>cases a9:b.fixed<;>simp only[hx,hy,a8,a9,uz,vZ,Bool.or_true,Bool.true_or,Bool.or_false,uJ,wS,wQ,uo]at hp<;>
    first
    |(refine .inl ⟨_,by simp only[go_sem,G,h5,a0,J,S,E,f1,f2,f3,f4,f5,f6,f9,t1,t2,t3,nz,a1,a2,b1,b2,k4,g4,k5,k6,g6,k9,n1,n2,n3,n4,n5,hx,hy,a8,a9];rfl,?_⟩
      simp only[go_sem,G,h5,a0,J,E,nz,n4,n5];refine⟨by omega,rfl,fun i a6 a7=>?_⟩;rcases wW (wM a7)with q|q
      .exact hi i a6 q
      .subst q;rw[<- b4];exact hp)
    |exact .inr ⟨_,by simp only[go_sem,G,h5,a0,J,S,E,f1,f2,f4,f5,f6,f9,t1,t2,t3,nz,a1,a2,b1,b2,k4,g4,k5,k6,g6,k9,n1,n2,n3,n4,n5,hx,hy,a8,a9];rfl,by simp,.inr ⟨_,_,_,rfl,by simp only[go_sem],no hp⟩⟩) (by
    clear hL;rintro ⟨T,σ,nx⟩ ⟨hn,E,G,h5,a0,J,S,hi⟩;simp only at hn E G J S;exact⟨_,by simp only[go_sem,J,S,zi];rfl,by simp,.inl ⟨_,_,_,rfl,fun i h=>hi i h h⟩⟩) (by
    simp only[go_sem,G,E];exact⟨b6,fun i _ h=>absurd h (zU _)⟩)
  rcases hr with ⟨T,σ,nx,rfl,hm⟩|⟨T,σ,nx,rfl,h2,hn⟩
  .have:Ba s:=⟨by omega,by omega,hj,fun m b7=>by obtain⟨i,hi,rfl⟩:=yc b7;exact hm i hi⟩
   simp only[go_sem,gy this]
  .simp only[go_sem,h2,h_ hn]
 .simp only[go_sem,h2,h_ hn]
def AL(n:Nat)(l:List Int):Prop:=l.length=2*n/\∀x∈l,inB x (-100) 100=true
def Df(n:Nat)(l:List Int):Prop:=l.length=n/\∀x∈l,inB x 0 1000=true
theorem Pq(x:Int):fn ZK conv ext 101 [I x]=some (Bo (!inB x (-100) 100)):=by
 have E:=aj2 x;rw[m_,mg [.tmp 2] [] func101];simp only[go_sem,E]
theorem KX(x:Int):fn ZK conv ext 92 [I x]=some (Bo (!inB x 0 1000)):=by
 have E:=aj3 x;rw[m_,mg [.tmp 2] [] func92];simp only[go_sem,E]
theorem Qi(row:List V)(off:Nat)(js:List Dk)(l:List Int)(O:row[off]?=some (LL Ag js))(hj:js.length<=140737488351232)(Y:l.length<=maxLen):fn ZK conv ext 60 [.tp row off,LI l]=some (Bo (pb (AL js.length l))):=by
 have S:=ZR (n:=2*(js.length:Int));have h1:=aav l 101 (fun x=> !inB x (-100) 100) Y (by rfl) (fun x _=>Pq x);rw[m_,mg [.tmp 4] [] func60]
 by_cases G:(l.length:Int)=2*(js.length:Int)
 .have E:((l.length:Int)==2*(js.length:Int))=true:=by simpa using G
  have:pb (AL js.length l)= !decide (0<=ix (fun x=> !inB x (-100) 100) l):=by
   refine(Qg ?_).symm;rw[vJ,decide_eq_false_iff_not,Int.not_le,Ky];exact⟨fun J=>⟨by omega,fun m hm=>by simpa using J m hm⟩,fun J m hm=>by simp[J.2 m hm]⟩
  rw[this];simp only[go_sem,O,S,h1,E]
 .have E:((l.length:Int)==2*(js.length:Int))=false:=by simpa using G
  rw[h_ (fun hn=>G (by have:=hn.1;omega))];simp only[go_sem,O,S,E]
theorem KA(row:List V)(off:Nat)(ms:List Member)(l:List Int)(O:row[off+1]?=some (LL Ac ms))(S:l.length<=maxLen):fn ZK conv ext 52 [.tp row off,LI l]=some (Bo (pb (Df ms.length l))):=by
 have Y:=aav l 92 (fun x=> !inB x 0 1000) S (by rfl) (fun x _=>KX x);rw[m_,mg [.tmp 4] [] func52]
 by_cases G:(l.length:Int)=(ms.length:Int)
 .have E:((l.length:Int)==(ms.length:Int))=true:=by simpa using G
  have:pb (Df ms.length l)= !decide (0<=ix (fun x=> !inB x 0 1000) l):=by
   refine(Qg ?_).symm;rw[vJ,decide_eq_false_iff_not,Int.not_le,Ky];exact⟨fun J=>⟨by omega,fun m hm=>by simpa using J m hm⟩,fun J m hm=>by simp[J.2 m hm]⟩
  rw[this];simp only[go_sem,O,Y,E]
 .have E:((l.length:Int)==(ms.length:Int))=false:=by simpa using G
  rw[h_ (fun hn=>G (by have:=hn.1;omega))];simp only[go_sem,O,E]
theorem abT(s:Structure)(l:List Int)(h:Ah s)(E:l.length<=maxLen):fn ZK conv ext 51 [.agg (iI s),LI l]=some (Bo (pb (Ba s) && pb (AL s.bI.length l))):=by
 have G:=Ir s h;have J:=Qi (iI s) 0 s.bI l rfl (by have:=h.1.2.1;omega) E;rw[m_,mg [.tmp 4] [] func51];generalize pb (Ba s)=b at *;cases b<;>simp only[go_sem,G,J]
theorem aj7(s:Structure)(l:List Int)(h:Ah s)(hl:l.length<=maxLen):fn ZK conv ext 73 [.agg (iI s),LI l]=some (Bo (pb (Ba s) && pb (AL s.bI.length l))):=by
 have h1:=Iu s h;have e2:(l.length:Int)<=9223372036854775807:=by unfold maxLen at hl;omega
 have e1:=ZR (n:=2*(s.bI.length:Int)) (by have:=h.1.2.1;have:=h.2.2.1;omega) (by have:=h.1.2.1;have:=h.2.2.1;omega);rw[m_,mg [.tmp 4] [] func73];generalize pb (Ba s)=b at *;cases b with
 |false=>simp only[go_sem,h1]
 |true=>
 by_cases h2:(l.length:Int)=2*(s.bI.length:Int)
 .have S:((l.length:Int) !=2*(s.bI.length:Int))=false:=by simpa using h2
  simp only[go_sem,h1,e1,S];generalize hL:jI _ _=y;obtain⟨r,rfl,hr⟩:=oZ hL l.length (fun k st=>st.T 19=LI l/\st.T 20=I l.length/\st.T 21=I k/\∀i (h:i<l.length),i<k->inB l[i] (-100) 100=true)
   (fun r=>(∃T σ nx,r=(.exit 0,⟨T,σ,nx⟩)/\AL s.bI.length l)\/(∃T σ nx,r=(.ret,⟨T,σ,nx⟩)/\T 4=Bo false/\¬AL s.bI.length l)) (by
    clear hL;rintro k ⟨T,σ,nx⟩ Y ⟨G,E,J,hi⟩;simp only at G E J;have f1:(k:Int)<(l.length:Int):=by omega
    have f2:=jC k;have f3:=ZR (n:=(k:Int)+1);have f4:(l.flatMap cI)[k]?=some (I l[k]):=bg I l k Y;have f9:=Bg l k Y;have t1:=Iq l[k] (-100) 100;cases hb:inB l[k] (-100) 100 with
    |true=>
     rw[hb]at t1;refine .inl ⟨_,by simp only[go_sem,G,E,J,f1,f2,f3,f4,f9,t1];rfl,?_⟩;simp only[go_sem,G,E];refine⟨rfl,fun i O a0=>?_⟩;rcases wW (wM a0)with q|q
     .exact hi i O q
     .subst q;exact hb
    |false=>
     rw[hb]at t1;refine .inr ⟨_,by simp only[go_sem,G,E,J,f1,f2,f4,f9,t1];rfl,by simp,.inr ⟨_,_,_,rfl,by simp only[go_sem],fun hn=>?_⟩⟩;have:=hn.2 _ (zu Y);rw[hb]at this;cases this) (by
    clear hL;rintro ⟨T,σ,nx⟩ ⟨G,E,J,hi⟩;simp only at G E J;exact⟨_,by simp only[go_sem,E,J,zi];rfl,by simp,.inl ⟨_,_,_,rfl,by omega,fun x hx=>by obtain⟨i,O,rfl⟩:=yc hx;exact hi i O O⟩⟩) (by
    simp only[go_sem];exact fun i _ h=>absurd h (zU _))
  rcases hr with ⟨T,σ,nx,rfl,hm⟩|⟨T,σ,nx,rfl,h2,hn⟩
  .simp only[go_sem,gy hm]
  .simp only[go_sem,h2,h_ hn]
 .have S:((l.length:Int) !=2*(s.bI.length:Int))=true:=by simpa using h2
  rw[h_ (p:=AL s.bI.length l) (fun hn=>h2 (by have:=hn.1;omega))];simp only[go_sem,h1,e1,S]
noncomputable def DT(t:Dp):Bool:=pb (DW t.name) && ((pb (Ba t.st) && pb (AL t.st.bI.length t.load)) && pb (Df t.st.members.length t.limits))
theorem Qj(t:Dp)(h:Io t):fn ZK conv ext 23 [.agg (Au t)]=some (Bo (DT t)):=by
 have E:=abS t.name h.1;have G:=abT t.st t.load h.2.1 h.2.2.1.2.2;have J:=KA (Au t) 1 t.st.members t.limits rfl h.2.2.2.2.2;unfold DT;generalize pb (DW t.name)=b1 at *;generalize (pb (Ba t.st) && pb (AL t.st.bI.length t.load))=O at *;rw[m_,mg [.tmp 2] [] func23];cases b1<;>cases O<;>simp only[go_sem,E,G,J]
set_option maxRecDepth 100000 in
theorem aj8(x y:Operand)(a b c d:Int):Aw ZK .eql 66 x y (.agg [I a,I b]) (.agg [I c,I d])=some (Bo ((a==c) && (b==d))):=by
 refine aao (us:=[.int .i64 a,.int .i64 b]) (vs:=[.int .i64 c,.int .i64 d]) (by kernel_rfl) Tryz.underlying66 (by kernel_rfl) rfl rfl ?_;refine(o9 (a:=.int .i64 a) (b:=.int .i64 c) (r:=a==c) (by decide) (by kernel_rfl) (by kernel_rfl) (o8 _ _ _ _ _ _ Tryz.underlying3)).trans ?_;cases (a==c)
 .rfl
 .refine(o9 (a:=.int .i64 b) (b:=.int .i64 d) (r:=b==d) (by decide) (by kernel_rfl) (by kernel_rfl) (o8 _ _ _ _ _ _ Tryz.underlying3)).trans ?_
  cases (b==d)<;>rfl
attribute [go_sem] aj8
def Dz(m o:TV.Move):Bool:=(m.fr==o.fr) && (m.to==o.to)
def aj9:=cO (c:=Dl) (s:=2) (fun _=>rfl)
def aj_:=bY (c:=Dl) (s:=2) (fun _=>rfl) (by omega)
def abU:=bU (c:=Dl) (s:=2) (fun _=>rfl)
theorem Qk(xs:List TV.Move)(m:TV.Move)(h:xs.length<=maxLen):fn ZK conv ext 25 [LL Dl xs,.agg (Dl m)]=some (I (ix (Dz m) xs)):=by
 have e2:(xs.length:Int)<=9223372036854775807:=by unfold maxLen at h;omega
 rw[m_,mg [.tmp 4] [] func25];simp only[go_sem];generalize hL:jI _ _=y;obtain⟨r,rfl,hr⟩:=oZ hL xs.length (fun k st=>0<st.nx/\st.σ 0=some ⟨Dl m,0,true⟩/\st.T 0=LL Dl xs/\st.T 3= .rp 0 0/\st.T 7=I xs.length/\st.T 8=I k/\∀i (h:i<xs.length),i<k->Dz m xs[i]=false)
  (fun r=>(∃T σ nx,r=(.exit 0,⟨T,σ,nx⟩)/\ix (Dz m) xs= -1)\/(∃T σ nx,r=(.ret,⟨T,σ,nx⟩)/\T 4=I (ix (Dz m) xs))) (by
   clear hL;rintro k ⟨T,σ,nx⟩ G ⟨hn,E,Y,J,O,S,hi⟩;simp only at hn E Y J O S;have f1:(k:Int)<(xs.length:Int):=by omega
   have f2:=jC k;have f3:=ZR (n:=(k:Int)+1);have f4:=aj9 xs k G;have f5:=abU xs;have f6:k*2+2<=xs.length*2:=by omega
   have f9:=aj_ xs k G;cases hp:Dz m xs[k]with
   |true=>
    refine .inr ⟨_,by unfold Dz at hp;simp only[go_sem,Y,J,O,S,hn,E,f1,f2,f4,f5,f6,f9,hp];rfl,by simp,.inr ⟨_,_,_,rfl,?_⟩⟩;simp only[go_sem];rw[jr G hi hp]
   |false=>
    refine .inl ⟨_,by unfold Dz at hp;simp only[go_sem,Y,J,O,S,hn,E,f1,f2,f3,f4,f5,f6,f9,hp];rfl,?_⟩;simp only[go_sem,Y,J,O,E];exact⟨hn,rfl,jo G hi hp⟩) (by
   clear hL;rintro ⟨T,σ,nx⟩ ⟨hn,E,Y,J,O,S,hi⟩;simp only at O S;exact⟨_,by simp only[go_sem,O,S,zi];rfl,by simp,.inl ⟨_,_,_,rfl,jq fun i h=>hi i h h⟩⟩) (by
   simp only[go_sem];exact fun i _ h=>absurd h (zU _))
 rcases hr with ⟨T,σ,nx,rfl,J⟩|⟨T,σ,nx,rfl,J⟩
 .simp only[go_sem,J]
 .simp only[go_sem,J]
def ET(n:Nat)(m:TV.Move):Prop:=0<=m.fr/\m.fr<n/\0<=m.to/\m.to<n/\m.fr≠m.to
def AZ(y:Cm):Prop:=y.aI.length<=6/\y.moves.length<=12/\(∀i (h:i<y.aI.length),DT y.aI[i]=true/\ix (isNamed y.aI[i].name) y.aI=i)/\∀i (h:i<y.moves.length),ET y.aI.length y.moves[i]/\ix (Dz y.moves[i]) y.moves=i
theorem LD(s:Cm)(h:GN s):fn ZK conv ext 6 [.agg (AQ s)]=some (Bo (pb (AZ s))):=by
 have e2:(s.aI.length:Int)<=9223372036854775807:=by have:=h.1.2.1;omega
 have e3:(s.moves.length:Int)<=9223372036854775807:=by have:=h.2.1.2.1;omega
 rw[m_,mg [.tmp 2] [] func6]
 by_cases c1:(6:Int)<s.aI.length
 .rw[h_ (fun hn=>by have:=hn.1;omega)]
  simp only[go_sem,c1]
 by_cases c2:(12:Int)<s.moves.length
 .rw[h_ (fun hn=>by have:=hn.2.1;omega)]
  simp only[go_sem,c1,c2]
 simp only[go_sem,c1,c2];generalize hL:jI _ _=y;obtain⟨r,rfl,hr⟩:=oZ hL s.aI.length (fun k st=>0<st.nx/\st.σ 0=some ⟨AQ s,0,true⟩/\st.T 1= .rp 0 0/\st.T 20=LL Au s.aI/\st.T 21=I s.aI.length/\st.T 22=I k/\st.T 3=I s.aI.length/\∀i (h:i<s.aI.length),i<k->DT s.aI[i]=true/\ix (isNamed s.aI[i].name) s.aI=i)
  (fun r=>(∃T σ nx,r=(.exit 0,⟨T,σ,nx⟩)/\0<nx/\σ 0=some ⟨AQ s,0,true⟩/\T 1= .rp 0 0/\T 3=I s.aI.length/\∀i (h:i<s.aI.length),DT s.aI[i]=true/\ix (isNamed s.aI[i].name) s.aI=i)\/(∃T σ nx,r=(.ret,⟨T,σ,nx⟩)/\T 2=Bo false/\¬AZ s)) (by
   clear hL;rintro k ⟨T,σ,nx⟩ S ⟨hn,E,J,a1,a0,a2,h3,hi⟩;simp only at hn E J a1 a0 a2 h3;have f1:(k:Int)<(s.aI.length:Int):=by omega
   have f2:=jC k;have f3:=ZR (n:=(k:Int)+1);have f4:=aj0 s.aI k S;have f5:=abQ s.aI;have f6:k*5+5<=s.aI.length*5:=by omega
   have f9:=aj1 s.aI k S;have t1:=Qj s.aI[k] (h.1.1 _ (zu S));have t2:=SV s s.aI[k].name h.1.2.2;have nz:¬0=nx:=by omega
   cases hj:DT s.aI[k]with
   |false=>
    rw[hj]at t1;refine .inr ⟨_,by simp only[go_sem,J,a1,a0,a2,f1,f2,f4,f5,f6,f9,t1,nz];rfl,by simp,.inr ⟨_,_,_,rfl,?_,fun hn=>?_⟩⟩
    .simp only[go_sem]
    .have:=(hn.2.2.1 k S).1
     rw[hj]at this;cases this
   |true=>
    rw[hj]at t1
    by_cases hk:ix (isNamed s.aI[k].name) s.aI=k
    .rw[hk]at t2
     refine .inl ⟨_,by simp only[go_sem,J,a1,a0,a2,E,f1,f2,f3,f4,f5,f6,f9,t1,t2,nz];rfl,?_⟩;simp only[go_sem,J,a1,a0,E,nz,h3];refine⟨by omega,rfl,fun i a4 a5=>?_⟩;rcases wW (wM a5)with q|q
     .exact hi i a4 q
     .subst q;exact⟨hj,hk⟩
    .have a8:(ix (isNamed s.aI[k].name) s.aI !=(k:Int))=true:=by simpa using hk
     refine .inr ⟨_,by simp only[go_sem,J,a1,a0,a2,E,f1,f2,f4,f5,f6,f9,t1,t2,a8,nz];rfl,by simp,.inr ⟨_,_,_,rfl,?_,fun hn=>hk (hn.2.2.1 k S).2⟩⟩;simp only[go_sem]) (by
   clear hL;rintro ⟨T,σ,nx⟩ ⟨hn,E,J,a1,a0,a2,h3,hi⟩;simp only at hn E J a1 a0 a2 h3;exact⟨_,by simp only[go_sem,a0,a2,zi];rfl,by simp,.inl ⟨_,_,_,rfl,hn,E,by simp only[go_sem,J],by simp only[go_sem,h3],fun i h=>hi i h h⟩⟩) (by
   simp only[go_sem];exact fun i _ h=>absurd h (zU _))
 rcases hr with ⟨T,σ,nx,rfl,a9,E,J,h3,hj⟩|⟨T,σ,nx,rfl,h2,hn⟩
 .clear hL
  simp only[go_sem,E,J];generalize hL:jI _ _=y;obtain⟨r,rfl,hr⟩:=oZ hL s.moves.length (fun k st=>0<st.nx/\st.σ 0=some ⟨AQ s,0,true⟩/\st.T 1= .rp 0 0/\st.T 3=I s.aI.length/\st.T 40=LL Dl s.moves/\st.T 41=I s.moves.length/\st.T 42=I k/\∀i (h:i<s.moves.length),i<k->ET s.aI.length s.moves[i]/\ix (Dz s.moves[i]) s.moves=i)
   (fun r=>(∃T σ nx,r=(.exit 2,⟨T,σ,nx⟩)/\∀i (h:i<s.moves.length),ET s.aI.length s.moves[i]/\ix (Dz s.moves[i]) s.moves=i)\/(∃T σ nx,r=(.ret,⟨T,σ,nx⟩)/\T 2=Bo false/\¬AZ s)) (by
    clear hL;rintro k ⟨T,σ,nx⟩ S ⟨hn,E,J,h5,Y,G,O,hi⟩;simp only at hn E J h5 Y G O;have f1:(k:Int)<(s.moves.length:Int):=by omega
    have f2:=jC k;have f3:=ZR (n:=(k:Int)+1);have f4:=aj9 s.moves k S;have f5:=abU s.moves;have f6:k*2+2<=s.moves.length*2:=by omega
    have f9:=aj_ s.moves k S;have no:¬ET s.aI.length s.moves[k]->¬AZ s:=fun hb hn=>hb (hn.2.2.2 k S).1
    have a7:¬ix (Dz s.moves[k]) s.moves=k->¬AZ s:=fun hb hn=>hb (hn.2.2.2 k S).2
    have done:ET s.aI.length s.moves[k]->ix (Dz s.moves[k]) s.moves=k->∀i (h:i<s.moves.length),i<k+1->ET s.aI.length s.moves[i]/\ix (Dz s.moves[i]) s.moves=i:=fun g1 g2 i a4 a5=>by
     rcases wW (wM a5)with q|q
     .exact hi i a4 q
     .subst q;exact⟨g1,g2⟩
    have nz:¬0=nx:=by omega
    have t1:=Qk s.moves s.moves[k] h.2.1.2.2;generalize b3:ix (Dz s.moves[k]) s.moves=ii at t1 a7 done;obtain⟨m,b2⟩:∃m,m=s.moves[k]:=⟨_,rfl⟩;rw[<- b2]at f4 no done t1
    by_cases c1:m.fr<0
    .refine .inr ⟨_,by simp only[go_sem,J,h5,Y,G,O,E,f1,f2,f4,f5,f6,f9,nz,c1];rfl,by simp,.inr ⟨_,_,_,rfl,by simp only[go_sem],no fun hm=>?_⟩⟩
     have:=hm.1;omega
    by_cases c2:(s.aI.length:Int)<=m.fr
    .refine .inr ⟨_,by simp only[go_sem,J,h5,Y,G,O,E,f1,f2,f4,f5,f6,f9,nz,c1,c2];rfl,by simp,.inr ⟨_,_,_,rfl,by simp only[go_sem],no fun hm=>?_⟩⟩
     have:=hm.2.1;omega
    by_cases c3:m.to<0
    .refine .inr ⟨_,by simp only[go_sem,J,h5,Y,G,O,E,f1,f2,f4,f5,f6,f9,nz,c1,c2,c3];rfl,by simp,.inr ⟨_,_,_,rfl,by simp only[go_sem],no fun hm=>?_⟩⟩
     have:=hm.2.2.1;omega
    by_cases c4:(s.aI.length:Int)<=m.to
    .refine .inr ⟨_,by simp only[go_sem,J,h5,Y,G,O,E,f1,f2,f4,f5,f6,f9,nz,c1,c2,c3,c4];rfl,by simp,.inr ⟨_,_,_,rfl,by simp only[go_sem],no fun hm=>?_⟩⟩
     have:=hm.2.2.2.1;omega
    by_cases c5:m.fr=m.to
    .have a3:(m.fr==m.to)=true:=by simpa using c5
     exact .inr ⟨_,by simp only[go_sem,J,h5,Y,G,O,E,f1,f2,f4,f5,f6,f9,nz,c1,c2,c3,c4,a3];rfl,by simp,.inr ⟨_,_,_,rfl,by simp only[go_sem],no fun hm=>hm.2.2.2.2 c5⟩⟩
    have a3:(m.fr==m.to)=false:=by simpa using c5
    by_cases c6:ii=k
    .have a6:(ii !=(k:Int))=false:=by simpa using c6
     refine .inl ⟨_,by simp only[go_sem,J,h5,Y,G,O,E,f1,f2,f3,f4,f5,f6,f9,nz,c1,c2,c3,c4,a3,a6,t1];rfl,?_⟩;simp only[go_sem,J,h5,Y,G,E,nz];exact⟨by omega,rfl,done ⟨by omega,by omega,by omega,by omega,c5⟩ c6⟩
    .have a6:(ii !=(k:Int))=true:=by simpa using c6
     exact .inr ⟨_,by simp only[go_sem,J,h5,Y,G,O,E,f1,f2,f4,f5,f6,f9,nz,c1,c2,c3,c4,a3,a6,t1];rfl,by simp,.inr ⟨_,_,_,rfl,by simp only[go_sem],a7 c6⟩⟩) (by
    clear hL;rintro ⟨T,σ,nx⟩ ⟨hn,E,J,h5,Y,G,O,hi⟩;simp only at hn E J G O;exact⟨_,by simp only[go_sem,G,O,zi];rfl,by simp,.inl ⟨_,_,_,rfl,fun i h=>hi i h h⟩⟩) (by
    simp only[go_sem,J,E,h3];exact⟨a9,fun i _ h=>absurd h (zU _)⟩)
  rcases hr with ⟨T,σ,nx,rfl,hm⟩|⟨T,σ,nx,rfl,h2,hn⟩
  .have:AZ s:=⟨by omega,by omega,hj,hm⟩
   simp only[go_sem,gy this]
  .simp only[go_sem,h2,h_ hn]
 .simp only[go_sem,h2,h_ hn]
def dg(n:Nat):List Int:=if n=0 then []else((n%1000000000:Nat):Int) :: dg (n / 1000000000)
termination_by n
decreasing_by exact tH (by omega) (by decide)
theorem oJ:dg 0=[]:=by unfold dg;rfl
theorem oM{n:Nat}(h:n≠0):dg n=((n%1000000000:Nat):Int) :: dg (n / 1000000000):=by rw[dg,sO h]
theorem abV{k m n:Nat}(h:1000000000^k*m<=n)(hm:1<=m)(hn:n<=18446744073709551615):k<=2:=by
 rcases Nat.lt_or_ge k 3 with E|E
 .omega
 .have:=Nat.pow_le_pow_right (n:=1000000000) (by decide) E
  have G:1000000000^k*1<=1000000000^k*m:=tV _ hm;have J:(1000000000:Nat)^3=1000000000000000000000000000:=by decide
  omega
theorem Nu(n:Nat)(hn:n<=9223372036854775807):fn ZK conv ext 217 [I n]=some (LI (dg n)):=by
 rw[m_,mg [.tmp 2] [] func217];simp only[go_sem];generalize hL:jI _ _=y;obtain⟨r,rfl,T',σ',nx',rfl,hr⟩:=jP hL (fun m st=>st.T 0=I m/\∃acc,Grow st.T st.σ st.nx 3 acc/\dg n=acc++dg m/\1000000000^acc.length*m<=n)
  (fun r=>∃T σ nx,r=(.exit 0,⟨T,σ,nx⟩)/\Grow T σ nx 3 (dg n)) (by
   clear hL;rintro m ⟨T,σ,nx⟩ ⟨G,acc,E,J,hp⟩;simp only at G E
   by_cases hm:m=0
   .subst hm
    have O:¬(0:Int)<0:=by omega
    refine .inr ⟨_,by simp only[go_sem,G,O];rfl,by simp,_,_,_,rfl,?_⟩;rw[oJ,zC]at J;rw[J]
    simpa only[Grow,go_sem]using E
   .have O:(0:Int)<(m:Int):=by omega
    have hk:=abV hp (by omega) (by omega);have a1:m<=n:=zT (t_ _ (Nat.pow_pos (by decide))) hp;have f1:(m:Int).tmod 1000000000=((m%1000000000:Nat):Int):=by rw[wu (by omega)];omega
    have f2:IntKind.i64.wrap ((m:Int).tdiv 1000000000)=((m / 1000000000:Nat):Int):=by
     rw[xq (by omega)];rw[ZR];omega
    have S:dg n=(acc++[((m%1000000000:Nat):Int)])++dg (m / 1000000000):=by rw[J,oM hm];simp
    have Y:1000000000^(acc++[((m%1000000000:Nat):Int)]).length*(m / 1000000000)<=n:=by
     rw[zo,yU,uX,uw];exact zT (tV _ (Nat.mul_div_le _ _)) hp
    have a0:m / 1000000000<m:=tH (by omega) (by decide);obtain⟨σ',ha,hs⟩:=kS E ((m%1000000000:Nat):Int) (by omega);refine .inl ⟨_,by simp only[go_sem,G,O,f1,f2,ha];rfl,_,a0,?_,_,?_,S,Y⟩
    .simp only[go_sem]
    .exact kQ hs (by simp[go_sem]) (by simp)) n ⟨by simp only[go_sem],[],.inl ⟨by simp only[go_sem],rfl⟩,rfl,by simp⟩
 obtain⟨ids,h1⟩:=kP hr 6;simp only[go_sem,h1]
def Short(xs:List Int):Prop:=xs.length<=17592186044000
theorem idx{xs:List Int}{k:Nat}(h:k<xs.length):(xs.flatMap cI)[k]?=some (I xs[k]):=bg I xs k h
theorem qK(xs:List Int)(k:Nat):(xs.flatMap cI).take k=(xs.take k).flatMap cI:=by
 induction xs generalizing k with
 |nil=>simp
 |cons x xs E=>
  cases k with
  |zero=>rfl
  |succ k=>simp[E]
def Bv(a:List Int):List Int:=(a.reverse.dropWhile (·=0)).reverse
theorem Zp(a:List Int)(x:Int):Bv (a++[x])=if x=0 then Bv a else a++[x]:=by
 unfold Bv;simp only[List.reverse_append,List.reverse_cons,List.reverse_nil,yM,List.singleton_append,List.dropWhile_cons,decide_eq_true_eq]
 split<;>simp
theorem aG{a:List Int}{k:Nat}(h:k<a.length):a.take (k+1)=a.take k++[a[k]]:=by rw[yJ,zy h];rfl
theorem KC(a:List Int)(ha:Short a):fn ZK conv ext 221 [LI a]=some (LI (Bv a)):=by
 unfold Short at ha;rw[m_,mg [.tmp 2] [] func221];simp only[go_sem];generalize hL:jI _ _=y;obtain⟨r,rfl,T',k,rfl,E,J,S,O⟩:=jP hL (fun k st=>st.nx=0/\st.σ=pI/\st.T 0=LI a/\st.T 3=I k/\k<=a.length/\Bv a=Bv (a.take k))
  (fun r=>∃T k,r=(.exit 0,⟨T,pI,0⟩)/\T 0=LI a/\T 3=I (k:Nat)/\k<=a.length/\Bv a=a.take k) (by
   clear hL;rintro k ⟨T,σ,nx⟩ ⟨hn,Y,E,J,S,O⟩;simp only at hn Y E J;subst hn Y;cases k with
   |zero=>
    have f0:¬(0:Int)<0:=by omega
    refine .inr ⟨_,by simp only[go_sem,E,J,f0];rfl,by simp,_,0,rfl,by simp only[go_sem,E],by simp only[go_sem,J],S,?_⟩;rw[O];rfl
   |succ k=>
    have G:k<a.length:=by omega
    have f0:(0:Int)<((k+1:Nat):Int):=by omega
    have f1:=ZR (n:=((k+1:Nat):Int) - 1);have f2:((k+1:Nat):Int) - 1=(k:Int):=by omega
    have f3:(k:Int)<(a.length:Int):=by omega
    have f4:=jC k;have f5:=Bg a k G;have f6:=idx G;rw[f2]at f1;rw[aG G,Zp]at O
    by_cases hx:a[k]=0
    .have fx:(a[k]==(0:Int))=true:=by simpa using hx
     rw[sN hx]at O;refine .inl ⟨_,by simp only[go_sem,E,J,f0,f1,f2,f3,f4,f5,f6,fx];rfl,k,by omega,?_⟩;simp only[go_sem,E];exact⟨by omega,O⟩
    .have fx:(a[k]==(0:Int))=false:=by simpa using hx
     rw[sO hx]at O;refine .inr ⟨_,by simp only[go_sem,E,J,f0,f1,f2,f3,f4,f5,f6,fx];rfl,by simp,_,k+1,rfl,by simp only[go_sem,E],by simp only[go_sem,J],S,?_⟩;rw[O,aG G]) a.length ⟨rfl,rfl,by simp only[go_sem],by simp only[go_sem],zq _,by rw[yX]⟩
 have g1:=jC k;have g2:(a.take k).length=k:=by rw[zf,xC S]
 simp only[go_sem,E,J,g1,S,vg,qK,O];show _=some (V.ts _ (List.take k a).length);rw[g2]
theorem scap(a:List Int)(ha:Short a)(h:(Bv a).length<=60):fn ZK conv ext 216 [LI a]=some (LI (Bv a)):=by
 have E:=KC a ha;have G:¬(60:Int)<((Bv a).length:Int):=by omega
 rw[m_,mg [.tmp 2] [] func216];simp only[go_sem,E,G]
theorem aj'(a:List Int):(Bv a).length<=a.length:=by
 unfold Bv;rw[List.length_reverse];exact zT (List.dropWhile_suffix _).length_le (by rw[List.length_reverse];exact zq _)
theorem amA(neg:Bool)(a:List Int)(ha:Short a)(h:(Bv a).length<=60):fn ZK conv ext 199 [Bo neg,LI a]=some (.agg [Bo (neg && decide (0<(Bv a).length)),LI (Bv a)]):=by
 have E:=scap a ha h;rw[m_,mg [.cell 4 148] [] func199];generalize Bv a=m at *;cases m with
 |nil=>cases neg<;>simp only[go_sem,E]<;>rfl
 |cons x m=>
  have G:(m.length+1)<=maxLen/\(m.length+1)*8<=140737488355328:=by simp only[zW]at h;unfold maxLen;omega
  have J:¬(m.length+1=0):=by omega
  have hp:(0:Int)<((m.length+1:Nat):Int):=by omega
  have O:0<m.length+1:=by omega
  cases neg<;>simp only[go_sem,E,G,J,hp,O]<;>rfl
theorem Zu(d:Int)(xs:List Int):Bv (d :: xs)=if Bv xs=[]then(if d=0 then []else [d])else d :: Bv xs:=by
 unfold Bv;rw[List.reverse_cons,List.dropWhile_append]
 by_cases h:(xs.reverse.dropWhile fun x=>decide (x=0))=[]
 .rw[h]
  simp only[List.isEmpty_nil,if_true,List.reverse_nil,List.dropWhile_cons,List.dropWhile_nil,decide_eq_true_eq]
  split<;>simp_all
 .rw[sO (by simpa using h),sO (by simpa using h)]
  simp
theorem oO{n:Nat}(h:n≠0):dg n≠[]:=by rw[oM h];simp
theorem Zt(n:Nat):Bv (dg n)=dg n:=by
 induction n using Nat.strongRecOn with
 |_ n G=>
  by_cases h:n=0
  .subst h;rw[oJ];rfl
  .rw[oM h,Zu,G _ (tH (by omega) (by decide))]
   by_cases E:n / 1000000000=0
   .rw[E,oJ,sN rfl,sO (by omega)]
   .rw[sO (oO E)]
theorem aaw(k:Nat):∀n:Nat,n<1000000000^k->(dg n).length<=k:=by
 induction k with
 |zero=>intro n h;have:n=0:=by simpa using h
        subst this;rw[oJ];exact zq _
 |succ k G=>
  intro n h
  by_cases E:n=0
  .subst E;rw[oJ];exact vg _
  .rw[oM E,zW]
   have:n / 1000000000<1000000000^k:=Nat.div_lt_of_lt_mul (by rw[uX,wE]at h;exact h);have:=G _ this;omega
theorem oK{n:Nat}(h:n<=9223372036854775807):(dg n).length<=3:=aaw 3 n (by omega)
theorem aax(n:Nat):∀x∈dg n,0<=x/\x<=999999999:=by
 induction n using Nat.strongRecOn with
 |_ n G=>
  intro x E
  by_cases h:n=0
  .subst h;rw[oJ]at E;cases E
  .rw[oM h]at E
   rcases List.mem_cons.mp E with rfl|E
   .omega
   .exact G _ (tH (by omega) (by decide)) x E
def Dh(a:List Int):Prop:=(∀x∈a,inB x 0 999999999=true)/\a.length<=60/\Bv a=a
theorem aay{n:Nat}(h:n<=9223372036854775807):Dh (dg n) :=
 ⟨fun x E=>by have:=aax n x E;unfold inB;rw[sH this.1,sH this.2];rfl,by have:=oK h;omega,Zt n⟩
theorem JD{a:List Int}(h:a≠[]):Bv a=a↔a[a.length-1]'(by have:=List.length_pos_iff.mpr h;omega)≠0:=by
 rcases List.eq_nil_or_concat a with rfl|⟨b,x,e⟩
 .exact absurd rfl h
 .rw[List.concat_eq_append]at e
  subst e;rw[Zp];have:(b++[x])[(b++[x]).length-1]'(by simp)=x:=by simp
  rw[this]
  by_cases E:x=0
  .rw[sN E]
   refine⟨fun e=>?_,fun e=>absurd E e⟩;have:=congrArg List.length e;have G:=aj' b;rw[zo,yU]at this;omega
  .rw[sO E];exact⟨fun _=>E,fun _=>rfl⟩
theorem aaz(a:List Int)(ha:Short a):fn ZK conv ext 213 [LI a]=some (Bo (pb (Dh a))):=by
 unfold Short at ha;rw[m_,mg [.tmp 2] [] func213];simp only[go_sem];generalize hL:jI _ _=y;obtain⟨r,rfl,hr⟩:=oZ hL a.length (fun k st=>st.nx=0/\st.σ=pI/\st.T 0=LI a/\st.T 5=LI a/\st.T 6=I a.length/\st.T 7=I k/\∀i (h:i<a.length),i<k->inB a[i] 0 999999999=true)
  (fun r=>(∃T,r=(.exit 0,⟨T,pI,0⟩)/\T 0=LI a/\∀x∈a,inB x 0 999999999=true)\/(∃T,r=(.ret,⟨T,pI,0⟩)/\T 2=Bo false/\¬Dh a)) (by
   clear hL;rintro k ⟨T,σ,nx⟩ a0 ⟨hn,O,S,G,E,J,hi⟩;simp only at hn O S G E J;subst hn O;have f1:(k:Int)<(a.length:Int):=by omega
   have f2:=jC k;have f3:=ZR (n:=(k:Int)+1);have f4:=idx a0;have f9:=Bg a k a0;have t1:=Iq a[k] 0 999999999;cases hb:inB a[k] 0 999999999 with
   |true=>
    rw[hb]at t1;refine .inl ⟨_,by simp only[go_sem,S,G,E,J,f1,f2,f3,f4,f9,t1];rfl,?_⟩;simp only[go_sem,S,G,E];refine⟨rfl,fun i Y a2=>?_⟩;rcases wW (wM a2)with q|q
    .exact hi i Y q
    .subst q;exact hb
   |false=>
    rw[hb]at t1;refine .inr ⟨_,by simp only[go_sem,G,E,J,f1,f2,f4,f9,t1];rfl,by simp,.inr ⟨_,rfl,by simp only[go_sem],fun hn=>?_⟩⟩;have:=hn.1 _ (zu a0);rw[hb]at this;cases this) (by
   clear hL;rintro ⟨T,σ,nx⟩ ⟨hn,O,S,G,E,J,hi⟩;simp only at hn O S G E J;subst hn O;exact⟨_,by simp only[go_sem,E,J,zi];rfl,by simp,.inl ⟨_,rfl,by simp only[go_sem,S],fun x hx=>by obtain⟨i,Y,rfl⟩:=yc hx;exact hi i Y Y⟩⟩) (by
   simp only[go_sem];exact fun i _ h=>absurd h (zU _))
 rcases hr with ⟨T,rfl,S,hm⟩|⟨T,rfl,h2,hn⟩
 .by_cases hl:(a.length:Int)<=60
  .by_cases hz:a=[]
   .subst hz
    have:Dh []:=⟨by simp,by simp,rfl⟩;have a3:(0:Int)<=60:=by decide
    simp only[go_sem,S,gy this,a3]
   .have a4:((a.length:Int)==0)=false:=by simpa using hz
    have a1:0<a.length:=List.length_pos_iff.mpr hz;have f1:=ZR (n:=(a.length:Int) - 1);have f2:(0:Int)<=(a.length:Int) - 1:=by omega
    have f3:(a.length:Int) - 1<(a.length:Int):=by omega
    have f4:((a.length:Int) - 1).toNat=a.length-1:=by omega
    have f5:=idx (xs:=a) (k:=a.length-1) (by omega);have f9:=Bg a 0 a1;have hg:pb (Dh a)=(a[a.length-1] !=0):=by
     refine(Qg ?_).symm;rw[bne_iff_ne,<- JD hz];exact⟨fun h=>⟨hm,by omega,h⟩,fun h=>h.2.2⟩
    rw[hg];simp only[go_sem,S,hl,a4,f1,f2,f3,f4,f5,f9]
  .rw[h_ (fun hn:Dh a=>hl (by have:=hn.2.1;omega))]
   simp only[go_sem,S,hl]
 .simp only[go_sem,h2,h_ hn]
theorem aeh(neg:Bool)(a:List Int)(ha:Short a):fn ZK conv ext 212 [.agg [Bo neg,LI a]]=some (Bo (pb (Dh a) && (!neg||decide (0<a.length)))):=by
 have G:=aaz a ha;rw[m_,mg [.tmp 2] [] func212];generalize pb (Dh a)=b at *;cases b<;>cases neg<;>simp only[go_sem,G]
 by_cases h:0<a.length
 .have E:(0:Int)<(a.length:Int):=by omega
  simp only[h,E]
 .have E:¬(0:Int)<(a.length:Int):=by omega
  simp only[h,E]
theorem arM(a:List Int)(ha:Short a):fn ZK conv ext 208 [LI a]=some (Bo (decide (a=[1]))):=by
 unfold Short at ha;have G:(0:Int)<1:=by decide
 have J:(0:Int)<=0:=by decide
 have O:(0:Int).toNat=0:=id rfl;rw[m_,mg [.tmp 2] [] func208]
 match a with
 |[]=>(simp only[go_sem])<;>rfl
 |[x]=>
  by_cases E:x=1
  .subst E;(simp only[go_sem,G,J,O])<;>rfl
  .have:(x==(1:Int))=false:=by simpa using E
   simp only[go_sem,this,G,J,O];simp[E]
 |x :: y :: l=>
  have:(((l.length+1+1:Nat):Int)==1)=false:=by rw[sJ];omega
  simp only[go_sem,this];simp
theorem SX(n j:Nat):(dg n).drop j=dg (n / 1000000000^j):=by
 induction j generalizing n with
 |zero=>simp
 |succ j E=>
  by_cases h:n=0
  .subst h;rw[Nat.zero_div,oJ];rfl
  .rw[oM h,List.drop_succ_cons,E,wV,uX,wE]
theorem oQ{n j:Nat}(h:j<(dg n).length):(dg n)[j]=((n / 1000000000^j%1000000000:Nat):Int):=by
 have E:=yL h;rw[SX]at E;have G:n / 1000000000^j≠0:=fun e=>by rw[e,oJ]at E;cases E
 rw[oM G]at E;exact(List.cons.inj E).1.symm
theorem oS(n:Nat):n / 1000000000^(dg n).length=0:=by
 have h:=SX n (dg n).length;rw[List.drop_length]at h;exact zh fun hn=>oO hn h.symm
theorem oL(n j:Nat):n / 1000000000^(j+1)*1000000000+n / 1000000000^j%1000000000=n / 1000000000^j:=by
 rw[uX,<- wV];omega
theorem WA{n:Nat}(h:n<=9223372036854775807):Short (dg n):=by have:=oK h;unfold Short;omega
theorem akb(a b:List Int)(h:a.length<b.length)(hb:Short b):fn ZK conv ext 220 [LI a,LI b]=some (I (-1)):=by
 unfold Short at hb;have c1:((a.length:Int) !=(b.length:Int))=true:=by rw[bne_iff_ne];omega
 have E:(a.length:Int)<(b.length:Int):=by omega
 rw[m_,mg [.tmp 4] [] func220];simp only[go_sem,c1,E]
theorem Ql(n:Nat)(hn:n<1000000000000000000):fn ZK conv ext 225 [LI (dg n)]=some (.Bf [I n,Bo true]):=by
 have hs:=WA (n:=n) (by omega);have h1:=aaz (dg n) hs;rw[gy (aay (by omega))]at h1;have a0:(dg n).length<=2:=aaw 2 n (by omega);have h2:fn ZK conv ext 220 [LI (dg n),.ts [I 854775807,I 223372036,I 9] 3]=some (I (-1)):=akb (dg n) [854775807,223372036,9] (by simp;omega) (by unfold Short;simp)
 have c0:¬(0:Int)< -1:=by decide
 have e1:=ZR (n:=((dg n).length:Int) - 1);rw[m_,mg [.tmp 2,.tmp 3] [] func225];simp only[go_sem,h1,h2,c0,e1];generalize hL:jI _ _=y;obtain⟨r,rfl,T',σ',nx',rfl,G⟩:=jP hL (fun m st=>st.T 0=LI (dg n)/\st.T 5=I ((m:Int) - 1)/\st.T 4=I (n / 1000000000^m:Nat)/\m<=(dg n).length)
  (fun r=>∃T σ nx,r=(.exit 0,⟨T,σ,nx⟩)/\T 4=I n) (by
   clear hL;rintro m ⟨T,σ,nx⟩ ⟨J,O,G,hm⟩;simp only at J O G;cases m with
   |zero=>
    have S:¬(0:Int)<=((0:Nat):Int) - 1:=by omega
    have Y:¬(0:Int)<=0-1:=by omega
    rw[Nat.pow_zero,vC]at G;exact .inr ⟨_,by simp only[go_sem,J,O,S,Y];rfl,by simp,_,_,_,rfl,by simp only[go_sem,G]⟩
   |succ m=>
    have E:m<(dg n).length:=by omega
    have e5:((m+1:Nat):Int) - 1=(m:Int):=by omega
    rw[e5]at O;have S:=jC m;have f3:(m:Int)<((dg n).length:Int):=by omega
    have f5:=Bg (dg n) m E;have f6:=idx E;rw[oQ E]at f6;have hd:=oL n m;have hle:n / 1000000000^m<=n:=xA _ _;generalize n / 1000000000^(m+1)=u at *;generalize hw:n / 1000000000^m=w at *;have f7:=ZR (n:=(m:Int) - 1);have f8:=ZR (n:=(u:Int)*1000000000);have f9:=ZR (n:=(u:Int)*1000000000+((w%1000000000:Nat):Int));refine .inl ⟨_,by simp only[go_sem,J,O,G,S,f3,f5,f6,f7,f8,f9];rfl,m,by omega,?_⟩;simp only[go_sem,J];refine⟨?_,by omega⟩;congr 3;omega) (dg n).length ⟨by simp only[go_sem],by simp only[go_sem],by simp only[go_sem,oS],zq _⟩
 simp only[go_sem,G]
theorem anN(x y:Nat)(hx:x<=9223372036854775807)(hy:y<=9223372036854775807):fn ZK conv ext 226 [I x,I y]=some (LI (dg (Nat.gcd x y))):=by
 rw[m_,mg [.tmp 4] [] func226];simp only[go_sem];generalize hL:jI _ _=w;obtain⟨r,rfl,T',rfl,E⟩:=jP hL (fun b st=>st.nx=0/\st.σ=pI/\∃a:Nat,st.T 0=I a/\st.T 1=I b/\a<=9223372036854775807/\b<=9223372036854775807/\Nat.gcd a b=Nat.gcd x y)
  (fun r=>∃T,r=(.exit 0,⟨T,pI,0⟩)/\T 0=I (Nat.gcd x y:Nat)) (by
   clear hL;rintro b ⟨T,σ,nx⟩ ⟨hn,G,a,E,J,ha,hb,O⟩;simp only at hn G E J;subst hn G;cases b with
   |zero=>
    have S:¬(0:Int)<0:=by omega
    refine .inr ⟨_,by simp only[go_sem,E,J,S];rfl,by simp,_,rfl,?_⟩;rw[Nat.gcd_zero_right]at O;simp only[go_sem,E,O]
   |succ b=>
    have S:(0:Int)<((b+1:Nat):Int):=by omega
    have f1:¬((b+1:Nat):Int)=0:=by omega
    have f2:(a:Int).tmod ((b+1:Nat):Int)=((a%(b+1):Nat):Int):=by rw[wu (by omega)];rfl
    have Y:a%(b+1)<b+1:=vM a (Nat.succ_pos b);refine .inl ⟨_,by simp only[go_sem,E,J,S,f1,f2];rfl,a%(b+1),Y,?_⟩;simp only[go_sem];refine⟨b+1,rfl,hb,by omega,?_⟩;rw[<- O,Nat.gcd_comm a (b+1),Nat.gcd_rec (b+1) a,Nat.gcd_comm]) y ⟨rfl,rfl,x,by simp only[go_sem],by simp only[go_sem],hx,hy,rfl⟩
 have a0:Nat.gcd x y<=9223372036854775807:=by
  rcases Nat.eq_zero_or_pos x with h|h
  .subst h;rw[Nat.gcd_zero_left];exact hy
  .exact zT (Nat.gcd_le_left _ h) hx
 have h3:=Nu (Nat.gcd x y) a0;simp only[go_sem,E,h3]
theorem rC{xs:List Int}(h:xs≠[]):¬xs.length=0:=fun e=>h (zZ e)
def pad(n k:Nat):List Int:=(List.range k).map fun j=>((n / 1000000000^j%1000000000:Nat):Int)
theorem iJ(n k:Nat):(pad n k).length=k:=by simp[pad]
theorem akd(n k j:Nat)(h:j<(pad n k).length):(pad n k)[j]=((n / 1000000000^j%1000000000:Nat):Int):=by simp[pad]
theorem agx(n k:Nat):pad n (k+1)=((n%1000000000:Nat):Int) :: pad (n / 1000000000) k:=by
 unfold pad;rw[List.range_succ_eq_map,uK,List.map_map];congr 1
 .rw[Nat.pow_zero,vC]
 .refine xG fun j _=>?_
  show(((n / 1000000000^(j+1)%1000000000:Nat)):Int)=_;rw[wV,uX,wE]
theorem Iw(k:Nat):∀n:Nat,n<1000000000^k->Bv (pad n k)=dg n:=by
 induction k with
 |zero=>
  intro n h;have:n=0:=by simpa using h
  subst this;rw[oJ];rfl
 |succ k J=>
  intro n h;have:n / 1000000000<1000000000^k:=Nat.div_lt_of_lt_mul (by rw[uX,wE]at h;exact h);rw[agx,Zu,J _ this]
  by_cases E:n=0
  .subst E
   rw[Nat.zero_div,oJ,sN rfl,sN (by decide)]
  .rw[oM E]
   by_cases G:n / 1000000000=0
   .rw[G,oJ,sN rfl,sO (by omega)]
   .rw[sO (oO G)]
theorem LG(j:Nat)(z v:V)(r:List V):(rep (j+1) [z]++r).set j v=rep j [z]++v :: r:=by
 induction j with
 |zero=>rfl
 |succ j E=>
  have G:rep (j+1+1) [z]=z :: rep (j+1) [z]:=fJ _ _;have J:rep (j+1) [z]=z :: rep j [z]:=fJ _ _;rw[G];show z :: ((rep (j+1) [z]++r).set j v)=rep (j+1) [z]++v :: r;rw[E,J];rfl
theorem WB{n k m:Nat}(h:m<k):(pad n k).drop m=((n / 1000000000^m%1000000000:Nat):Int) :: (pad n k).drop (m+1):=by
 rw[yL (by rw[iJ];exact h),akd]
theorem ake(n d:Nat)(hl:(dg n).length<=1000000)(h0:d≠0)(hd:d<1000000000):fn ZK conv ext 227 [LI (dg n),I d]=some (.Bf [LI (dg (n / d)),I (n%d:Nat)]):=by
 have e1:(8:Int)*((dg n).length:Int)<=281474976710656:=by omega
 have e2:((dg n).length:Int)<=9223372036854775807:=by omega
 have e3:(0:Int)<=((dg n).length:Int):=by omega
 have e4:=ZR (n:=((dg n).length:Int) - 1);have ht:=KC (pad (n / d) (dg n).length) (by unfold Short;rw[iJ];omega);rw[Iw]at ht;rw[m_,mg [.tmp 4,.tmp 5] [] func227];simp only[go_sem,e1,e2,e3,e4];generalize hL:jI _ _=y;obtain⟨r,rfl,T',σ',nx',rfl,h6,h7,E⟩:=jP hL (fun m st=>st.T 0=LI (dg n)/\st.T 1=I d/\st.T 6= .rs 0 0 (dg n).length/\st.T 8=I ((m:Int) - 1)/\st.T 7=I (n / 1000000000^m%d:Nat)/\m<=(dg n).length/\st.σ 0=some ⟨rep m [I 0]++((pad (n / d) (dg n).length).drop m).flatMap cI,1,true⟩)
  (fun r=>∃T σ nx,r=(.exit 0,⟨T,σ,nx⟩)/\T 6= .rs 0 0 (dg n).length/\T 7=I (n%d:Nat)/\σ 0=some ⟨(pad (n / d) (dg n).length).flatMap cI,1,true⟩) (by
   clear hL;rintro m ⟨T,σ,nx⟩ ⟨t0,t1,t6,t8,Y,hm,E⟩;simp only at t0 t1 t6 t8 Y E;cases m with
   |zero=>
    have a0:¬(0:Int)<=0-1:=by omega
    rw[Nat.pow_zero,vC]at Y;refine .inr ⟨_,by simp only[go_sem,t8,a0];rfl,by simp,_,_,_,rfl,by simp only[go_sem,t6],by simp only[go_sem,Y],?_⟩;rw[E,yZ];rfl
   |succ m=>
    have G:m<(dg n).length:=by omega
    have e5:((m+1:Nat):Int) - 1=(m:Int):=by omega
    rw[e5]at t8;have f0:=jC m;have f3:(m:Int)<((dg n).length:Int):=by omega
    have f5:=Bg (dg n) m G;have f6:=idx G;rw[oQ G]at f6;have a1:=oL n m;have J:=WB (n:=n / d) (k:=(dg n).length) G;have hq:n / d / 1000000000^m=n / 1000000000^m / d:=by rw[wV,wV,wE]
    rw[hq]at J;have hle:n / 1000000000^m<=n:=xA _ _;obtain⟨u,hu⟩:∃u,n / 1000000000^(m+1)=u:=⟨_,rfl⟩;obtain⟨w,O⟩:∃w,n / 1000000000^m=w:=⟨_,rfl⟩;rw[hu]at Y;rw[hu,O]at a1;rw[O]at f6 J hle;have hw:w%1000000000<1000000000:=vM _ (by decide);have hr:u%d<d:=vM _ (by omega);have hx:u%d*1000000000+w%1000000000<d*1000000000:=by omega
    have S:w=d*1000000000*(u / d)+(u%d*1000000000+w%1000000000):=by
     have:=Nat.div_add_mod u d;have h3:d*(u / d)*1000000000=d*1000000000*(u / d):=by rw[Nat.mul_right_comm]
     omega
    obtain⟨x,a2⟩:∃x,u%d*1000000000+w%1000000000=x:=⟨_,rfl⟩;rw[a2]at S hx;have a3:w / d%1000000000=x / d:=by
     have h1:w / d=1000000000*(u / d)+x / d:=by
      rw[S,uw,wH,Nat.add_mul_div_left _ _ (by omega),wH]
     have h2:x / d<1000000000:=Nat.div_lt_of_lt_mul hx;rw[h1];generalize x / d=q at h2⊢;generalize u / d=p;omega
    have a4:w%d=x%d:=by
     rw[S,uw,wH,Nat.add_mul_mod_self_left]
    have f7:=ZR (n:=(m:Int) - 1);have f8:=ZR (n:=((u%d:Nat):Int)*1000000000);have g9:((u%d:Nat):Int)*1000000000+((w%1000000000:Nat):Int)=(x:Int):=by omega
    have f9:=ZR (n:=(x:Int));have c1:¬(d:Int)=0:=by omega
    have c2:(x:Int).tdiv (d:Int)=((x / d:Nat):Int):=by rw[xq (by omega)];rfl
    have c3:(x:Int).tmod (d:Int)=((x%d:Nat):Int):=by rw[wu (by omega)];rfl
    have a6:x / d<=x:=xA _ _;have c4:=ZR (n:=((x / d:Nat):Int));have c5:m<(rep (m+1) [I 0]++((pad (n / d) (dg n).length).drop (m+1)).flatMap cI).length:=by rw[zo,fK];simp;omega
    have c6:=LG m (I 0) (I (x / d:Nat)) (((pad (n / d) (dg n).length).drop (m+1)).flatMap cI);refine .inl ⟨_,by simp only[go_sem,t0,t1,t6,t8,Y,E,f0,f3,f5,f6,f7,f8,f9,g9,c1,c2,c3,c4,c5,c6];rfl,m,by omega,?_⟩;simp only[go_sem,t0,t1,t6];refine⟨by rw[O,a4],by omega,?_⟩;rw[J,a3];rfl) (dg n).length ⟨by simp only[go_sem],by simp only[go_sem],by simp only[go_sem],by simp only[go_sem],by simp only[go_sem,oS,Nat.zero_mod],zq _,by simp only[go_sem];rw[xk (by rw[iJ];exact zq _)];simp⟩
 .have a5:fn ZK conv ext 221 [.ts ((pad (n / d) (dg n).length).flatMap cI) (dg n).length]=some (LI (dg (n / d))):=by
   have hl:(pad (n / d) (dg n).length).length=(dg n).length:=iJ _ _;unfold LI at ht;rw[hl]at ht;exact ht
  have pl:(pad (n / d) (dg n).length).length=(dg n).length:=iJ _ _;have tk:List.take (dg n).length ((pad (n / d) (dg n).length).flatMap cI)=(pad (n / d) (dg n).length).flatMap cI:=by
   have:=qJ (pad (n / d) (dg n).length)
   rwa [pl]at this
  simp only[go_sem,h6,h7,E,pl,tk,a5]
 .exact Nat.lt_of_le_of_lt (xA _ _) (by
   have:=oS n;exact(Nat.div_eq_zero_iff_lt (Nat.pow_pos (by decide))).mp this)
theorem oN{d:Nat}(E:d≠0)(h:d<1000000000):dg d=[(d:Int)]:=by
 rw[oM E,uq h,oJ,wC h]
theorem Qm(n:Nat):(dg n=[1])↔n=1:=by
 constructor
 .intro h
  by_cases E:n=0
  .subst E;rw[oJ]at h;cases h
  .rw[oM E]at h
   obtain⟨J,G⟩:=List.cons.inj h;have:n / 1000000000=0:=zh fun hn=>oO hn G
   omega
 .rintro rfl;rw[oN (by decide) (by decide)];rfl
theorem abW(neg:Bool)(a:List Int):fn ZK conv ext 139 [Bo neg,LI a]=some (.agg [Bo (neg && decide (0<a.length)),LI a]):=by
 rw[m_,mg [.cell 4 148] [] func139]
 by_cases h:0<a.length
 .have E:(0:Int)<(a.length:Int):=by omega
  cases neg<;>simp only[go_sem,h,E]
 .have E:¬(0:Int)<(a.length:Int):=by omega
  cases neg<;>simp only[go_sem,h,E]
theorem u3:ZK.underlying 3=some (.int .i64):=Tryz.underlying3
theorem arN:ZK.underlying 178=some (.int .u64):=Tryz.underlying178
theorem axC(k:IntKind)(n:Int)(σ:Store):BA ZK 3 178 (.sc (.int k n)) σ=some (.sc (.int .u64 (IntKind.u64.wrap n))):=Jw u3 arN
theorem axD(k:IntKind)(n:Int)(σ:Store):BA ZK 178 3 (.sc (.int k n)) σ=some (.sc (.int .i64 (IntKind.i64.wrap n))):=Jw arN u3
attribute [go_sem] axC axD
theorem SY(n:Nat)(hn:n<=18446744073709551615):fn ZK conv ext 140 [.sc (.int .u64 n)]=some (LI (dg n)):=by
 rw[m_,mg [.tmp 2] [] func140];simp only[go_sem];generalize hL:jI _ _=y;obtain⟨r,rfl,T',σ',nx',rfl,hr⟩:=jP hL (fun m st=>st.T 0= .sc (.int .u64 m)/\∃acc,Grow st.T st.σ st.nx 3 acc/\dg n=acc++dg m/\1000000000^acc.length*m<=n)
  (fun r=>∃T σ nx,r=(.exit 0,⟨T,σ,nx⟩)/\Grow T σ nx 3 (dg n)) (by
   clear hL;rintro m ⟨T,σ,nx⟩ ⟨G,acc,E,J,hp⟩;simp only at G E
   by_cases hm:m=0
   .subst hm
    have O:¬(0:Int)<0:=by omega
    refine .inr ⟨_,by simp only[go_sem,G,O];rfl,by simp,_,_,_,rfl,?_⟩;rw[oJ,zC]at J;rw[J]
    simpa only[Grow,go_sem]using E
   .have O:(0:Int)<(m:Int):=by omega
    have hk:=abV hp (by omega) (by omega);have a1:m<=n:=zT (t_ _ (Nat.pow_pos (by decide))) hp;have f1:(m:Int).tmod 1000000000=((m%1000000000:Nat):Int):=by rw[wu (by omega)];omega
    have f2:IntKind.u64.wrap ((m:Int).tdiv 1000000000)=((m / 1000000000:Nat):Int):=by
     rw[xq (by omega)];rw[ZQ (by omega) (by omega)];omega
    have f3:=ZR (n:=((m%1000000000:Nat):Int));have S:dg n=(acc++[((m%1000000000:Nat):Int)])++dg (m / 1000000000):=by rw[J,oM hm];simp
    have Y:1000000000^(acc++[((m%1000000000:Nat):Int)]).length*(m / 1000000000)<=n:=by
     rw[zo,yU,uX,uw];exact zT (tV _ (Nat.mul_div_le _ _)) hp
    have a0:m / 1000000000<m:=tH (by omega) (by decide);obtain⟨σ',ha,hs⟩:=kS E ((m%1000000000:Nat):Int) (by omega);refine .inl ⟨_,by simp only[go_sem,G,O,f1,f2,f3,ha];rfl,_,a0,?_,_,?_,S,Y⟩
    .simp only[go_sem]
    .exact kQ hs (by simp[go_sem]) (by simp)) n ⟨by simp only[go_sem],[],.inl ⟨by simp only[go_sem],rfl⟩,rfl,by simp⟩
 obtain⟨ids,h1⟩:=kP hr 6;simp only[go_sem,h1]
theorem anQ(n:Nat)(hn:n<=9223372036854775807):fn ZK conv ext 140 [.sc (.int .u64 n)]=some (LI (dg n)):=SY n (by omega)
theorem aaA(x:Int):fn ZK conv ext 207 [I x]=some (Bo (!inB x 0 999999999)):=by
 rw[m_,mg [.tmp 2] [] func207]
 by_cases h:x<0
 .have:inB x 0 999999999=false:=by unfold inB;rw[sG (by omega)];rfl
  rw[this];simp only[go_sem,h]
 .have:inB x 0 999999999=decide (x<=999999999):=by unfold inB;rw[sH (by omega),wQ]
  rw[this]
  by_cases E:1000000000<=x
  .rw[sG (by omega)]
   simp only[go_sem,h,E]
  .rw[sH (by omega)]
   simp only[go_sem,h,E]
theorem agy(a:List Int)(ha:Short a):fn ZK conv ext 190 [LI a]=some (Bo (pb (Dh a))):=by
 unfold Short at ha;have hc:=aav a 207 (fun x=> !inB x 0 999999999) (by unfold maxLen;omega) (by rfl) (fun x _=>aaA x);rw[m_,mg [.tmp 2] [] func190]
 by_cases S:(60:Int)<(a.length:Int)
 .rw[h_ (fun hn:Dh a=>by have:=hn.2.1;omega)]
  simp only[go_sem,S]
 have hg:(Bv a=a)->pb (Dh a)= !decide (0<=ix (fun x=> !inB x 0 999999999) a):=fun Y=>by
  refine(Qg ?_).symm;rw[vJ,decide_eq_false_iff_not,Int.not_le,Ky];exact⟨fun hq=>⟨fun x hx=>by simpa using hq x hx,by omega,Y⟩,fun hq m hm=>by simp[hq.1 m hm]⟩
 by_cases G:a=[]
 .have Y:Bv a=a:=by rw[G];rfl
  rw[hg Y];subst G;have:¬(0:Int)<0:=by decide
  have a0:¬(60:Int)<0:=by decide
  have a1:fn ZK conv ext 91 [.ts [] 0,.clo 207 []]=some (Bo (decide (0<=ix (fun x=> !inB x 0 999999999) []))):=hc
  simp only[go_sem,this,a0,a1]
 .have J:0<a.length:=List.length_pos_iff.mpr G
  have c0:(0:Int)<(a.length:Int):=by omega
  have f1:=ZR (n:=(a.length:Int) - 1);have f2:(0:Int)<=(a.length:Int) - 1:=by omega
  have f3:(a.length:Int) - 1<(a.length:Int):=by omega
  have f4:((a.length:Int) - 1).toNat=a.length-1:=by omega
  have f5:=idx (xs:=a) (k:=a.length-1) (by omega);have f9:=Bg a 0 J
  by_cases O:a[a.length-1]=0
  .have E:(a[a.length-1]==(0:Int))=true:=by simpa using O
   rw[h_ (fun hn:Dh a=>(JD G).mp hn.2.2 O)];simp only[go_sem,S,c0,f1,f2,f3,f4,f5,f9,E]
  .have E:(a[a.length-1]==(0:Int))=false:=by simpa using O
   rw[hg ((JD G).mpr O)];simp only[go_sem,S,c0,f1,f2,f3,f4,f5,f9,E,hc]
theorem aei(neg:Bool)(a:List Int)(ha:Short a):fn ZK conv ext 189 [.agg [Bo neg,LI a]]=some (Bo (pb (Dh a) && !(neg && decide (a=[])))):=by
 have G:=agy a ha;rw[m_,mg [.tmp 2] [] func189];generalize pb (Dh a)=b at *
 by_cases h:a=[]
 .subst h
  have E:fn ZK conv ext 190 [.ts [] 0]=some (Bo b):=G
  cases b<;>cases neg<;>simp only[go_sem,E]<;>rfl
 .have J:((a.length:Int)==0)=false:=by simpa using h
  rw[sG h];cases b<;>cases neg<;>simp only[go_sem,G,J]<;>rfl
def Bj(m n:Nat):Int:=if m<n then -1 else if m=n then 0 else 1
theorem agz{n:Nat}:n<1000000000^(dg n).length:=(Nat.div_eq_zero_iff_lt (Nat.pow_pos (by decide))).mp (oS n)
theorem arO{n k:Nat}(h:k<(dg n).length):1000000000^k<=n:=by
 have E:=SX n k;rw[yL h]at E;have G:n / 1000000000^k≠0:=fun e=>by rw[e,oJ]at E;cases E
 exact zh fun hn=>G (uq (by omega))
theorem oP{m n:Nat}(h:(dg m).length<(dg n).length):m<n:=xK agz (arO h)
theorem jO{m n j:Nat}(E:m / 1000000000^(j+1)=n / 1000000000^(j+1))(G:m / 1000000000^j%1000000000<n / 1000000000^j%1000000000):m<n:=by
 have a:=oL m j;have b:=oL n j;rw[E]at a;have:m / 1000000000^j<n / 1000000000^j:=by omega
 exact zh fun hn=>by
  have:=Nat.div_le_div_right (c:=1000000000^j) (show n<=m by omega);omega
theorem kL(m n:Nat)(l1:(dg m).length<=1000000)(l2:(dg n).length<=1000000):fn ZK conv ext 141 [LI (dg m),LI (dg n)]=some (I (Bj m n)):=by
 rw[m_,mg [.tmp 4] [] func141]
 by_cases hl:(dg m).length=(dg n).length
 .have c1:(((dg m).length:Int) !=((dg n).length:Int))=false:=by rw[hl];simp
  have e1:=ZR (n:=((dg m).length:Int) - 1);simp only[go_sem,c1,e1];generalize hL:jI _ _=y;obtain⟨r,rfl,hr⟩:=jP hL (fun k st=>st.nx=0/\st.σ=pI/\st.T 0=LI (dg m)/\st.T 1=LI (dg n)/\st.T 5=I ((k:Int) - 1)/\k<=(dg m).length/\m / 1000000000^k=n / 1000000000^k)
   (fun r=>(∃T,r=(.exit 0,⟨T,pI,0⟩)/\m=n)\/(∃T,r=(.ret,⟨T,pI,0⟩)/\T 4=I (Bj m n))) (by
    clear hL;rintro k ⟨T,σ,nx⟩ ⟨a0,a1,h0,h1,h5,hk,he⟩;simp only at a0 a1 h0 h1 h5;subst a0 a1;cases k with
    |zero=>
     have a2:¬(0:Int)<=0-1:=by omega
     rw[Nat.pow_zero,vC,vC]at he;exact .inr ⟨_,by simp only[go_sem,h5,a2];rfl,by simp,.inl ⟨_,rfl,he⟩⟩
    |succ k=>
     have E:k<(dg m).length:=by omega
     have G:k<(dg n).length:=by omega
     have e5:((k+1:Nat):Int) - 1=(k:Int):=by omega
     rw[e5]at h5;have f0:=jC k;have f3:(k:Int)<((dg m).length:Int):=by omega
     have S:(k:Int)<((dg n).length:Int):=by omega
     have f5:=Bg (dg m) k E;have Y:=Bg (dg n) k G;have f6:=idx E;have O:=idx G;rw[oQ E]at f6;rw[oQ G]at O;have f7:=ZR (n:=(k:Int) - 1)
     by_cases q1:((m / 1000000000^k%1000000000:Nat):Int)<((n / 1000000000^k%1000000000:Nat):Int)
     .have J:m<n:=jO he (by omega)
      have hc:Bj m n= -1:=by unfold Bj;rw[sN J]
      exact .inr ⟨_,by simp only[go_sem,h0,h1,h5,f0,f3,S,f5,Y,f6,O,q1];rfl,by simp,.inr ⟨_,rfl,by simp only[go_sem,hc]⟩⟩
     .by_cases q2:((n / 1000000000^k%1000000000:Nat):Int)<((m / 1000000000^k%1000000000:Nat):Int)
      .have J:n<m:=jO he.symm (by omega)
       have hc:Bj m n=1:=by unfold Bj;rw[sO (by omega),sO (by omega)]
       exact .inr ⟨_,by simp only[go_sem,h0,h1,h5,f0,f3,S,f5,Y,f6,O,q1,q2];rfl,by simp,.inr ⟨_,rfl,by simp only[go_sem,hc]⟩⟩
      .have a3:m / 1000000000^k=n / 1000000000^k:=by
        have a:=oL m k;have b:=oL n k;rw[he]at a;omega
       refine .inl ⟨_,by simp only[go_sem,h0,h1,h5,f0,f3,S,f5,Y,f6,O,f7,q1,q2];rfl,k,by omega,?_⟩;simp only[go_sem,h0,h1];exact⟨by omega,a3⟩) (dg m).length ⟨rfl,rfl,by simp only[go_sem],by simp only[go_sem],by simp only[go_sem],zq _,by rw[oS,hl,oS]⟩
  rcases hr with ⟨T,rfl,h⟩|⟨T,rfl,h⟩
  .have hc:Bj m n=0:=by unfold Bj;rw[sO (by omega),sN h]
   simp only[go_sem,hc]
  .simp only[go_sem,h]
 .have c1:(((dg m).length:Int) !=((dg n).length:Int))=true:=by rw[bne_iff_ne];omega
  by_cases E:((dg m).length:Int)<((dg n).length:Int)
  .have J:m<n:=oP (by omega)
   have hc:Bj m n= -1:=by unfold Bj;rw[sN J]
   simp only[go_sem,c1,E,hc]
  .have J:n<m:=oP (by omega)
   have hc:Bj m n=1:=by unfold Bj;rw[sO (by omega),sO (by omega)]
   simp only[go_sem,c1,E,hc]
theorem agA(m n:Nat)(hm:m<=9223372036854775807)(hn:n<=9223372036854775807):fn ZK conv ext 141 [LI (dg m),LI (dg n)]=some (I (Bj m n)) :=
 kL m n (by have:=oK hm;omega) (by have:=oK hn;omega)
theorem abX(a:List Int)(ha:Short a):fn ZK conv ext 165 [LI a]=some (LI (Bv a)):=by
 unfold Short at ha;rw[m_,mg [.tmp 2] [] func165];simp only[go_sem];generalize hL:jI _ _=y;obtain⟨r,rfl,T',rfl,Y⟩:=jP hL (fun k st=>∃T,st=⟨T,pI,0⟩/\T 0=LI (a.take k)/\k<=a.length/\Bv (a.take k)=Bv a) (fun r=>∃T,r=(.exit 0,⟨T,pI,0⟩)/\T 0=LI (Bv a)) (by
  clear hL;rintro k _ ⟨T,rfl,h0,hk,G⟩;have hl:(a.take k).length=k:=by rw[zf,xC hk]
  cases k with
  |zero=>
   have E:T 0= .ts [] 0:=h0;have O:¬(0:Int)<0:=by decide
   refine .inr ⟨_,by simp only[go_sem,E,O];rfl,by simp,_,rfl,?_⟩;simp only[go_sem,E];rw[<- G];rfl
  |succ k=>
   have J:k<a.length:=by omega
   have E:T 0= .ts ((a.take (k+1)).flatMap cI) (k+1):=by rw[h0];show V.ts _ (a.take (k+1)).length=_;rw[hl]
   have O:(0:Int)<((k+1:Nat):Int):=by omega
   have e5:((k+1:Nat):Int) - 1=(k:Int):=by omega
   have e2:=ZR (n:=(k:Int));have f1:=jC k;have f2:(k:Int)<((k+1:Nat):Int):=by omega
   have f5:=Bg (a.take (k+1)) k (by omega);have f6:=idx (xs:=a.take (k+1)) (k:=k) (by omega);rw[List.getElem_take]at f6;have f7:k<=k+1:=by omega
   have a0:((a.take (k+1)).flatMap cI).take k=(a.take k).flatMap cI:=by rw[qK,List.take_take,xC f7]
   rw[aG J,Zp]at G
   by_cases S:a[k]=0
   .have fx:(a[k]==(0:Int))=true:=by simpa using S
    rw[sN S]at G;refine .inl ⟨_,by simp only[go_sem,E,O,e5,e2,f1,f2,f5,f6,f7,a0,fx,vg];rfl,k,by omega,_,rfl,?_,by omega,G⟩;simp only[go_sem];show _=V.ts _ (a.take k).length;rw[zf,xC (by omega)]
   .have fx:(a[k]==(0:Int))=false:=by simpa using S
    rw[sO S]at G;refine .inr ⟨_,by simp only[go_sem,E,O,e5,e2,f1,f2,f5,f6,f7,fx];rfl,by simp,_,rfl,?_⟩;simp only[go_sem];rw[h0,<- G,aG J]) a.length ⟨_,rfl,by simp only[go_sem];rw[yX],zq _,by rw[yX]⟩
 simp only[go_sem,Y]
theorem akg{n:Nat}:(Bj n 1==0)=decide (n=1):=by
 unfold Bj
 by_cases h:n<1
 .rw[sN h,sG (by omega)];rfl
 .rw[sO h]
  by_cases E:n=1
  .rw[sN E,sH E];rfl
  .rw[sO E,sG E];rfl
theorem arP(n:Nat)(hn:n<=9223372036854775807):fn ZK conv ext 141 [LI (dg n),.ts [I 1] 1]=some (I (Bj n 1)):=by
 have:=agA n 1 hn (by decide);rw[oN (d:=1) (by decide) (by decide)]at this;exact this
def agB(neg:Bool)(m n:Nat):List V:=[Bo (neg && decide (0<(dg (m / Nat.gcd m n)).length)),LI (dg (m / Nat.gcd m n)),LI (dg (n / Nat.gcd m n))]
theorem anS{P:Program}{t e:TypeId}{x y:Operand}{row:List V}{off:Nat}(h:P.underlying t=some (.pointer e)):Aw P .eql t x y (.tp row off) (.sc (.pointer none))=some (Bo false):=by
 simp only[Aw,toVal,h];rfl
theorem ptrEq(x y:Operand)(row:List V)(off:Nat):Aw ZK .eql 110 x y (.tp row off) (.sc (.pointer none))=some (Bo false):=anS Tryz.underlying110
attribute [go_sem] ptrEq
theorem anT(b:Bool)(xs:List Int)(E:xs.length<=60):fn ZK conv ext 135 [.agg [Bo b,LI xs]]=some (.agg [Bo b,LI xs]):=by
 have c1:¬(60:Int)<(xs.length:Int):=by omega
 have k:=aat xs (by omega);rw[m_,mg [.cell 2 148] [] func135];simp only[go_sem,c1,k]
theorem anU(b:Bool)(xs E:List Int)(O:xs.length<=24)(S:E.length<=24):fn ZK conv ext 99 [.tp [Bo b,LI xs,LI E] 0]=some (.agg [Bo b,LI xs,LI E]):=by
 have G:=anT b xs (by omega);have J:=aat E (by omega);rw[m_,mg [.cell 2 150] [] func99];simp only[go_sem,G,J]
abbrev cB(n:Int):List V:=[.sc (.int .u8 n)]
theorem u8t:ZK.underlying 5=some (.int .u8):=Tryz.underlying5
theorem axE(k:IntKind)(n:Int)(σ:Store):BA ZK 5 3 (.sc (.int k n)) σ=some (.sc (.int .i64 (IntKind.i64.wrap n))):=Jw u8t u3
attribute [go_sem] axE
def Qo(xs:List Int)(i h:Int)(st:Nat):Fj:=⟨[LL cB xs,I i,I h],st,true⟩
theorem anV(xs:List Int)(hx:∀x∈xs,0<=x/\x<=255)(hl:xs.length<=1048576)(i h:Int)(hi:0<=i/\i<=xs.length) :
  ∃r J h',(∀(b st nx:Nat) (σ:Store),σ b=some (Qo xs i h st)->b<nx->ev ZK conv ext 83 [.rp b 0] σ nx=some (I r,upd σ b (some (Qo xs J h' st)),nx))/\(0<=r/\r<=255)/\0<=J/\J<=xs.length:=by
 have S:¬(33:Int)<0:=by decide
 have Y:¬(45:Int)<0:=by decide
 by_cases G:i<xs.length
 .obtain⟨k,rfl⟩:∃k:Nat,i=k:=⟨i.toNat,by omega⟩
  have O:k<xs.length:=by omega
  have f0:=jC k;have f5:=bY (c:=cB) (s:=1) (fun _=>rfl) (by omega) xs k O;have f6:(xs.flatMap cB)[k]?=some (.sc (.int .u8 xs[k])):=bg (fun n:Int=> .sc (.int .u8 n)) xs k O;have a0:=hx xs[k] (zu O);have w1:=ZR (n:=xs[k]);have w2:=ZR (n:=(k:Int)+1);have w3:=fun a:Int=>ZR (n:=aar a+xs[k]) (by have:=qp a;omega) (by have:=qp a;omega)
  exact⟨_,(k:Int)+1,_,fun b st nx σ E hb=>by unfold Qo at E;rw[mg [.tmp 2] [] func83];simp only[go_sem,E,hb,S,Y,G,f0,f5,f6,w1,w2,w3];rfl,qp _,by omega,by omega⟩
 .exact⟨_,i,_,fun b st nx σ E hb=>by unfold Qo at E;rw[mg [.tmp 2] [] func83];simp only[go_sem,E,hb,S,Y,G];rfl,qp _,hi.1,hi.2⟩
theorem sNew(xs:List Int)(hx:∀x∈xs,0<=x/\x<=255)(hl:xs.length<=1048576)(nx:Nat)(σ:Store) :
  ∃h,ev ZK conv ext 22 [LL cB xs] σ nx=some (.rp nx 0,upd σ nx (some (Qo xs 0 h 0)),nx+1):=by
 have w0:=ZR (n:=1975+(xs.length:Int));rw[mg [.tmp 2] [] func22];simp only[go_sem,w0];generalize hL:jI _ _=y;obtain⟨r,rfl,T',g,rfl,E,J⟩:=oZ hL xs.length (fun k st=>st.nx=nx/\st.σ=σ/\st.T 0=LL cB xs/\(∃g,st.T 3=I g)/\st.T 4=I k)
  (fun r=>∃T g,r=(.exit 0,⟨T,σ,nx⟩)/\T 0=LL cB xs/\T 3=I g) (by
   clear hL;rintro k ⟨T,σ,nx⟩ O ⟨hn,G,E,⟨g,J⟩,S⟩;simp only at hn G E J S;subst hn G;have f1:(k:Int)<(xs.length:Int):=by omega
   have f2:=jC k;have f3:=ZR (n:=(k:Int)+1);have f5:=bY (c:=cB) (s:=1) (fun _=>rfl) (by omega) xs k O;have f6:(xs.flatMap cB)[k]?=some (.sc (.int .u8 xs[k])):=bg (fun n:Int=> .sc (.int .u8 n)) xs k O;have a0:=hx xs[k] (zu O);have w1:=ZR (n:=xs[k])
   by_cases Y:(k:Int)<4000
   .refine .inl ⟨_,by simp only[go_sem,E,J,S,f1,f2,f3,f5,f6,w1,Y];rfl,?_⟩
    simp only[go_sem,E];exact⟨⟨_,rfl⟩,rfl⟩
   .refine .inr ⟨_,by simp only[go_sem,E,S,f1,Y];rfl,by simp,_,g,rfl,?_,?_⟩<;>simp only[go_sem,E,J]) (by
   clear hL;rintro ⟨T,σ,nx⟩ ⟨hn,G,E,⟨g,J⟩,S⟩;simp only at hn G E J S;subst hn G;refine⟨_,by simp only[go_sem,E,S,zi];rfl,by simp,_,g,rfl,?_,?_⟩<;>simp only[go_sem,E,J]) (by
   simp only[go_sem];exact⟨_,rfl⟩)
 refine⟨g,?_⟩;unfold Qo;simp only[go_sem,E,J]
def vl:List Int->Int
 |[]=>0
 |x :: xs=>x+1000000000*vl xs
def bp(n:Nat):Int:=1000000000^n
theorem S9:bp 0=1:=rfl
theorem qV(n:Nat):bp (n+1)=1000000000*bp n:=by unfold bp;rw[Int.pow_succ,Int.mul_comm]
theorem qW(n:Nat):0<bp n:=Int.pow_pos (by decide)
theorem S_(m n:Nat):bp (m+n)=bp m*bp n:=by unfold bp;rw[Int.pow_add]
theorem qX(n:Nat):bp n=((1000000000^n:Nat):Int):=by unfold bp;rw[Int.natCast_pow];rfl
def Dg(xs:List Int):Prop:=∀x∈xs,0<=x/\x<1000000000
theorem Dg.nil:Dg []:=fun x h=>by cases h
theorem Dg.cons{x:Int}{xs:List Int}(h:Dg (x :: xs)):(0<=x/\x<1000000000)/\Dg xs:=⟨h x zL,fun y E=>h y (zY _ E)⟩
theorem Dg.app{xs E:List Int}(h:Dg xs)(G:Dg E):Dg (xs++E):=fun x J=>(List.mem_append.mp J).elim (h x) (G x)
theorem Dg.snoc{xs:List Int}{y:Int}(h:Dg xs)(G:0<=y)(J:y<1000000000):Dg (xs++[y]):=h.app fun x E=>by
 rw[xY]at E;subst E;exact⟨G,J⟩
theorem Dg.take{xs:List Int}(h:Dg xs)(n:Nat):Dg (xs.take n):=fun x E=>h x (wJ E)
theorem Dg.drop{xs:List Int}(h:Dg xs)(n:Nat):Dg (xs.drop n):=fun x E=>h x (List.mem_of_mem_drop E)
theorem Dg.get{xs:List Int}(h:Dg xs){k:Nat}(E:k<xs.length):0<=xs[k]/\xs[k]<1000000000:=h _ (zu E)
theorem oU(n:Nat):Dg (dg n):=fun x E=>by have:=aax n x E;omega
theorem Zd(n:Nat):vl (dg n)=n:=by
 induction n using Nat.strongRecOn with
 |_ n E=>
  by_cases h:n=0
  .subst h;rw[oJ];rfl
  .rw[oM h]
   show _+1000000000*vl _=_;rw[E _ (tH (by omega) (by decide))];omega
theorem aaB(xs E:List Int):vl (xs++E)=vl xs+bp xs.length*vl E:=by
 induction xs with
 |nil=>simp[vl,S9]
 |cons x xs G=>
  rw[yS,zW,qV];show _+1000000000*vl _=(_+1000000000*vl xs)+_;rw[G,xR,uU];omega
theorem Za(xs:List Int)(y:Int):vl (xs++[y])=vl xs+bp xs.length*y:=by
 rw[aaB];simp[vl]
theorem Zb{xs:List Int}(h:Dg xs):0<=vl xs:=by
 induction xs with
 |nil=>exact xJ _
 |cons x xs E=>
  have:=h.cons;have:=E this.2;show 0<=x+1000000000*vl xs;omega
theorem Zc{xs:List Int}(h:Dg xs):vl xs<bp xs.length:=by
 induction xs with
 |nil=>exact qW 0
 |cons x xs E=>
  have:=h.cons;have:=E this.2;rw[zW,qV];show x+1000000000*vl xs<_;omega
theorem abY{xs:List Int}(h:Dg xs):Bv xs=dg (vl xs).toNat:=by
 induction xs with
 |nil=>show Bv []=dg 0;rw[oJ];rfl
 |cons x xs J=>
  have E:=h.cons;have h2:=Zb E.2;have O:vl (x :: xs)=x+1000000000*vl xs:=rfl;rw[Zu,J E.2,O]
  by_cases S:vl xs=0
  .rw[S,show(0:Int).toNat=0 from rfl,oJ,sN rfl]
   by_cases G:x=0
   .subst G;rw[sN rfl,vT,uO]
    show _=dg 0;rw[oJ]
   .rw[sO G,vT,uO,oN (by omega) (by omega)]
    rw[uS (by omega)]
  .rw[sO (oO (by omega)),oM (n:=(x+1000000000*vl xs).toNat) (by omega)]
   have Y:(((x+1000000000*vl xs).toNat%1000000000:Nat):Int)=x:=by omega
   have e2:(x+1000000000*vl xs).toNat / 1000000000=(vl xs).toNat:=by omega
   rw[Y,e2]
theorem CW{xs:List Int}{n:Nat}(h:Dg xs)(E:vl xs=n):Bv xs=dg n:=by rw[abY h,E];rfl
theorem aaC(n:Nat):vl (List.replicate n 0)=0:=by
 induction n with
 |zero=>rfl
 |succ n E=>rw[xX];show 0+1000000000*vl _=0;rw[E];rfl
theorem ZX{xs:List Int}{k:Nat}(h:k<xs.length):vl (xs.take (k+1))=vl (xs.take k)+bp k*xs[k]:=by
 rw[aG h,Za,zf,xC (by omega)]
theorem abZ{xs:List Int}{k:Nat}(h:k<xs.length):vl (xs.drop k)=xs[k]+1000000000*vl (xs.drop (k+1)):=by
 rw[yL h];rfl
theorem ZY(xs:List Int){k:Nat}(h:k<=xs.length):vl xs=vl (xs.take k)+bp k*vl (xs.drop k):=by
 have:=aaB (xs.take k) (xs.drop k);rw[uj,zf,xC h]at this;exact this
def ln(n:Nat):Nat:=(dg n).length
theorem jR:ln 0=0:=by unfold ln;rw[oJ];rfl
theorem jY{n k:Nat}:ln n<=k↔(n:Int)<bp k:=by
 constructor
 .intro h
  have E:=Zc (oU n);rw[Zd]at E;have G:bp (dg n).length<=bp k:=by
   rw[qX,qX];exact Int.ofNat_le.mpr (Nat.pow_le_pow_right (by decide) h)
  omega
 .intro h
  rw[qX]at h;exact aaw k n (Int.ofNat_lt.mp h)
theorem jX{m n:Nat}(h:m<=n):ln m<=ln n:=by
 have:=(jY (n:=n)).mp (zq _);exact jY.mpr (by omega)
theorem jW(m n:Nat):ln (m*n)<=ln m+ln n:=by
 refine jY.mpr ?_;rw[S_,yg];have E:=(jY (n:=m)).mp (zq _);have G:=(jY (n:=n)).mp (zq _);have J:(m:Int)*n<=(bp (ln m) - 1)*n:=zO (by omega) (by omega);have O:=qW (ln m);have S:(bp (ln m) - 1)*n<=(bp (ln m) - 1)*(bp (ln n) - 1):=z_ (by omega) (by omega);have Y:(bp (ln m) - 1)*(bp (ln n) - 1)=bp (ln m)*bp (ln n) - bp (ln m) - bp (ln n)+1:=by
  rw[uD,uZ];omega
 have h7:=qW (ln n);omega
theorem anW(m n:Nat):ln (m+n)<=max (ln m) (ln n)+1:=by
 refine jY.mpr ?_;rw[qV];have E:=(jY (n:=m) (k:=max (ln m) (ln n))).mp (vH _ _);have G:=(jY (n:=n) (k:=max (ln m) (ln n))).mp (wB _ _);omega
theorem jT{n:Nat}(h:n≠0):0<ln n:=List.length_pos_iff.mpr (oO h)
theorem jS{n:Nat}(h:n<1000000000):ln n<=1:=jY.mpr (by show(n:Int)<1000000000;omega)
theorem anX{n:Nat}(h:n<=9223372036854775807):ln n<=3:=oK h
theorem d_{n:Nat}(h:ln n<=1000000):Short (dg n):=by unfold ln at h;unfold Short;omega
def FQ(o:List Int)(k:Nat):List V:=o.flatMap cI++rep k [I 0]
theorem mW(o:List Int)(k:Nat):(FQ o k).length=o.length+k:=by unfold FQ;rw[zo,qM,fK];simp
theorem mX(o:List Int):FQ o 0=o.flatMap cI:=by simp[FQ,rep]
theorem mV(o:List Int)(k:Nat)(x:Int){i:Nat}(h:o.length=i):(FQ o (k+1)).set i (I x)=FQ (o++[x]) k:=by
 subst h;unfold FQ;rw[xH _ _ (by rw[qM];exact zq _),qM,yQ,fJ,zS];simp
theorem qB{P x q n v:Int}(h:x+1000000000*q=n):v+P*x+1000000000*P*q=v+P*n:=by subst h;grind
theorem aF{n:Int}(h:0<=n):n.tmod 1000000000=n%1000000000/\n.tdiv 1000000000=n / 1000000000 :=
 ⟨wu h,xq h⟩
theorem jM{k:Nat}(h:k<=3000000):(8:Int)*(k:Int)<=281474976710656/\(k:Int)<=9223372036854775807/\(0:Int)<=(k:Int):=by omega
theorem qU{xs:List Int}{k:Nat}(h:xs.length<=k):xs.take (k+1)=xs.take k:=by rw[zl (by omega),zl h]
theorem arQ(m n:Nat)(hm:ln m<=1000000)(hn:ln n<=1000000):fn ZK conv ext 163 [LI (dg m),LI (dg n)]=some (LI (dg (m+n))):=by
 unfold ln at hm hn;rw[m_,mg [.tmp 4] [] func163]
 by_cases hc:((dg m).length:Int)<((dg n).length:Int)
 .have a5:(dg m).length<=(dg n).length:=by omega
  obtain⟨e1,e2,e3⟩:=jM (k:=(dg n).length+1) (by omega);have e0:((dg n).length:Int)+1=(((dg n).length+1:Nat):Int):=by omega
  have e4:=ZR (n:=(((dg n).length+1:Nat):Int)) (by omega) (by omega);simp only[go_sem,hc,e0,e1,e2,e3,e4];generalize hL:jI _ _=y;obtain⟨r,rfl,T',σ',nx',c,o,rfl,h0,h5,h6,E,G,Y,hd,hv,a0,a2⟩:=oZ hL (dg n).length (fun k st=>st.T 0=LI (dg n)/\st.T 1=LI (dg m)/\st.T 5= .rs 0 0 ((dg n).length+1)/\st.T 20=LI (dg n)/\st.T 21=I (dg n).length/\st.T 22=I k/\0<st.nx/\∃c o,st.T 6=I c/\st.σ 0=some ⟨FQ o ((dg n).length+1-k),1,true⟩/\o.length=k/\Dg o/\vl o+bp k*c=vl ((dg n).take k)+vl ((dg m).take k)/\0<=c/\c<=1)
   (fun r=>∃T σ nx c o,r=(.exit 0,⟨T,σ,nx⟩)/\T 0=LI (dg n)/\T 5= .rs 0 0 ((dg n).length+1)/\T 6=I c/\0<nx/\σ 0=some ⟨FQ o 1,1,true⟩/\o.length=(dg n).length/\Dg o/\vl o+bp (dg n).length*c=(m+n:Nat)/\0<=c/\c<=1) (by
    clear hL;rintro k ⟨T,σ,nx⟩ a1 ⟨h0,h1,h5,O,J,S,E,c,o,h6,G,Y,hd,hv,a0,a2⟩;simp only at h0 h1 h5 O J S E h6 G;have f1:(k:Int)<((dg n).length:Int):=by omega
    have f2:=jC k;have f3:=ZR (n:=(k:Int)+1);have f5:=Bg (dg n) k a1;have f6:=idx a1;have f7:(k:Int)<(((dg n).length+1:Nat):Int):=by omega
    obtain⟨x,hx⟩:∃x,x=(dg n)[k]:=⟨_,rfl⟩;have xr:=(oU n).get a1;rw[<- hx]at f6 xr;obtain⟨g,hg⟩:∃g,(dg n).length+1-k=g+1:=⟨(dg n).length-k,by omega⟩;have a3:(dg n).length+1 - (k+1)=g:=by omega
    rw[hg]at G;have c5:k<(FQ o (g+1)).length:=by rw[mW];omega
    have v1:=ZX a1;rw[<- hx]at v1
    by_cases hB:k<(dg m).length
    .have f8:(k:Int)<((dg m).length:Int):=by omega
     have f9:=Bg (dg m) k hB;have a4:=idx hB;obtain⟨z,hz⟩:∃z,z=(dg m)[k]:=⟨_,rfl⟩;have zr:=(oU m).get hB;rw[<- hz]at a4 zr;have v2:=ZX hB;rw[<- hz]at v2;have w1:=ZR (n:=x+c);have w2:=ZR (n:=x+c+z);obtain⟨q1,q2⟩:=aF (n:=x+c+z) (by omega);have w3:=ZR (n:=(x+c+z) / 1000000000);have c6:=mV o g ((x+c+z)%1000000000) Y;refine .inl ⟨_,by simp only[go_sem,h0,h1,h5,h6,O,J,S,E,G,f1,f2,f3,f5,f6,f7,f8,f9,a4,w1,w2,w3,q1,q2,c5,c6];rfl,?_⟩;simp only[go_sem,h0,h1,h5,O,J,a3];refine⟨rfl,E,_,_,rfl,rfl,by simp[Y],hd.snoc (by omega) (by omega),?_,by omega,by omega⟩;rw[Za,Y,qV,v1,v2,qB (n:=x+c+z) (by omega),xR,xR];omega
    .have f8:¬(k:Int)<((dg m).length:Int):=by omega
     have v2:=qU (xs:=dg m) (k:=k) (by omega);have w1:=ZR (n:=x+c);obtain⟨q1,q2⟩:=aF (n:=x+c) (by omega);have w3:=ZR (n:=(x+c) / 1000000000);have c6:=mV o g ((x+c)%1000000000) Y;refine .inl ⟨_,by simp only[go_sem,h0,h1,h5,h6,O,J,S,E,G,f1,f2,f3,f5,f6,f7,f8,w1,w3,q1,q2,c5,c6];rfl,?_⟩;simp only[go_sem,h0,h1,h5,O,J,a3];refine⟨rfl,E,_,_,rfl,rfl,by simp[Y],hd.snoc (by omega) (by omega),?_,by omega,by omega⟩;rw[Za,Y,qV,v1,v2,qB (n:=x+c) (by omega),xR];omega) (by
    clear hL;rintro ⟨T,σ,nx⟩ ⟨h0,h1,h5,O,J,S,E,c,o,h6,G,Y,hd,hv,a0,a2⟩;simp only at h0 h1 h5 O J S E h6 G;refine⟨_,by simp only[go_sem,J,S,zi];rfl,by simp,_,_,_,c,o,rfl,by simp only[go_sem,h0],by simp only[go_sem,h5],by simp only[go_sem,h6],E,?_,Y,hd,?_,a0,a2⟩
    .rw[G,show(dg n).length+1 - (dg n).length=1 by omega]
    .rw[hv,yX,zl a5,Zd,Zd];omega) (by
    simp only[go_sem];exact⟨0,[],rfl,rfl,rfl,Dg.nil,by simp[vl],xJ _,by decide⟩)
  have c5:(dg n).length<(FQ o (0+1)).length:=by rw[mW];omega
  have c6:=mV o 0 c Y;have f2:(0:Int)<=((dg n).length:Int):=by omega
  have f7:((dg n).length:Int)<(((dg n).length+1:Nat):Int):=by omega
  have hD:Dg (o++[c]):=hd.snoc a0 (by omega);have ht:=abX (o++[c]) (by unfold Short;simp;omega);rw[CW (n:=m+n) hD (by rw[Za,Y,hv])]at ht;have hl:(o++[c]).length=(dg n).length+1:=by simp[Y]
  have a6:fn ZK conv ext 165 [.ts ((o++[c]).flatMap cI) ((dg n).length+1)]=some (LI (dg (m+n))):=by rw[<- hl];exact ht
  have tk:List.take ((dg n).length+1) ((o++[c]).flatMap cI)=(o++[c]).flatMap cI:=by rw[<- hl];exact qJ _
  have a7:((o++[c]).flatMap cI).length=(dg n).length+1:=by rw[qM,hl]
  have a8:σ' 0=some ⟨FQ o (0+1),1,true⟩:=G;simp only[go_sem,h0,h5,h6,E,a8,f2,f7,c5,c6,mX,a7,tk,a6]
 .have a5:(dg n).length<=(dg m).length:=by omega
  obtain⟨e1,e2,e3⟩:=jM (k:=(dg m).length+1) (by omega);have e0:((dg m).length:Int)+1=(((dg m).length+1:Nat):Int):=by omega
  have e4:=ZR (n:=(((dg m).length+1:Nat):Int)) (by omega) (by omega);simp only[go_sem,hc,e0,e1,e2,e3,e4];generalize hL:jI _ _=y;obtain⟨r,rfl,T',σ',nx',c,o,rfl,h0,h5,h6,E,G,Y,hd,hv,a0,a2⟩:=oZ hL (dg m).length (fun k st=>st.T 0=LI (dg m)/\st.T 1=LI (dg n)/\st.T 5= .rs 0 0 ((dg m).length+1)/\st.T 20=LI (dg m)/\st.T 21=I (dg m).length/\st.T 22=I k/\0<st.nx/\∃c o,st.T 6=I c/\st.σ 0=some ⟨FQ o ((dg m).length+1-k),1,true⟩/\o.length=k/\Dg o/\vl o+bp k*c=vl ((dg m).take k)+vl ((dg n).take k)/\0<=c/\c<=1)
   (fun r=>∃T σ nx c o,r=(.exit 0,⟨T,σ,nx⟩)/\T 0=LI (dg m)/\T 5= .rs 0 0 ((dg m).length+1)/\T 6=I c/\0<nx/\σ 0=some ⟨FQ o 1,1,true⟩/\o.length=(dg m).length/\Dg o/\vl o+bp (dg m).length*c=(m+n:Nat)/\0<=c/\c<=1) (by
    clear hL;rintro k ⟨T,σ,nx⟩ a1 ⟨h0,h1,h5,O,J,S,E,c,o,h6,G,Y,hd,hv,a0,a2⟩;simp only at h0 h1 h5 O J S E h6 G;have f1:(k:Int)<((dg m).length:Int):=by omega
    have f2:=jC k;have f3:=ZR (n:=(k:Int)+1);have f5:=Bg (dg m) k a1;have f6:=idx a1;have f7:(k:Int)<(((dg m).length+1:Nat):Int):=by omega
    obtain⟨x,hx⟩:∃x,x=(dg m)[k]:=⟨_,rfl⟩;have xr:=(oU m).get a1;rw[<- hx]at f6 xr;obtain⟨g,hg⟩:∃g,(dg m).length+1-k=g+1:=⟨(dg m).length-k,by omega⟩;have a3:(dg m).length+1 - (k+1)=g:=by omega
    rw[hg]at G;have c5:k<(FQ o (g+1)).length:=by rw[mW];omega
    have v1:=ZX a1;rw[<- hx]at v1
    by_cases hB:k<(dg n).length
    .have f8:(k:Int)<((dg n).length:Int):=by omega
     have f9:=Bg (dg n) k hB;have a4:=idx hB;obtain⟨z,hz⟩:∃z,z=(dg n)[k]:=⟨_,rfl⟩;have zr:=(oU n).get hB;rw[<- hz]at a4 zr;have v2:=ZX hB;rw[<- hz]at v2;have w1:=ZR (n:=x+c);have w2:=ZR (n:=x+c+z);obtain⟨q1,q2⟩:=aF (n:=x+c+z) (by omega);have w3:=ZR (n:=(x+c+z) / 1000000000);have c6:=mV o g ((x+c+z)%1000000000) Y;refine .inl ⟨_,by simp only[go_sem,h0,h1,h5,h6,O,J,S,E,G,f1,f2,f3,f5,f6,f7,f8,f9,a4,w1,w2,w3,q1,q2,c5,c6];rfl,?_⟩;simp only[go_sem,h0,h1,h5,O,J,a3];refine⟨rfl,E,_,_,rfl,rfl,by simp[Y],hd.snoc (by omega) (by omega),?_,by omega,by omega⟩;rw[Za,Y,qV,v1,v2,qB (n:=x+c+z) (by omega),xR,xR];omega
    .have f8:¬(k:Int)<((dg n).length:Int):=by omega
     have v2:=qU (xs:=dg n) (k:=k) (by omega);have w1:=ZR (n:=x+c);obtain⟨q1,q2⟩:=aF (n:=x+c) (by omega);have w3:=ZR (n:=(x+c) / 1000000000);have c6:=mV o g ((x+c)%1000000000) Y;refine .inl ⟨_,by simp only[go_sem,h0,h1,h5,h6,O,J,S,E,G,f1,f2,f3,f5,f6,f7,f8,w1,w3,q1,q2,c5,c6];rfl,?_⟩;simp only[go_sem,h0,h1,h5,O,J,a3];refine⟨rfl,E,_,_,rfl,rfl,by simp[Y],hd.snoc (by omega) (by omega),?_,by omega,by omega⟩;rw[Za,Y,qV,v1,v2,qB (n:=x+c) (by omega),xR];omega) (by
    clear hL;rintro ⟨T,σ,nx⟩ ⟨h0,h1,h5,O,J,S,E,c,o,h6,G,Y,hd,hv,a0,a2⟩;simp only at h0 h1 h5 O J S E h6 G;refine⟨_,by simp only[go_sem,J,S,zi];rfl,by simp,_,_,_,c,o,rfl,by simp only[go_sem,h0],by simp only[go_sem,h5],by simp only[go_sem,h6],E,?_,Y,hd,?_,a0,a2⟩
    .rw[G,show(dg m).length+1 - (dg m).length=1 by omega]
    .rw[hv,yX,zl a5,Zd,Zd];omega) (by
    simp only[go_sem];exact⟨0,[],rfl,rfl,rfl,Dg.nil,by simp[vl],xJ _,by decide⟩)
  have c5:(dg m).length<(FQ o (0+1)).length:=by rw[mW];omega
  have c6:=mV o 0 c Y;have f2:(0:Int)<=((dg m).length:Int):=by omega
  have f7:((dg m).length:Int)<(((dg m).length+1:Nat):Int):=by omega
  have hD:Dg (o++[c]):=hd.snoc a0 (by omega);have ht:=abX (o++[c]) (by unfold Short;simp;omega);rw[CW (n:=m+n) hD (by rw[Za,Y,hv])]at ht;have hl:(o++[c]).length=(dg m).length+1:=by simp[Y]
  have a6:fn ZK conv ext 165 [.ts ((o++[c]).flatMap cI) ((dg m).length+1)]=some (LI (dg (m+n))):=by rw[<- hl];exact ht
  have tk:List.take ((dg m).length+1) ((o++[c]).flatMap cI)=(o++[c]).flatMap cI:=by rw[<- hl];exact qJ _
  have a7:((o++[c]).flatMap cI).length=(dg m).length+1:=by rw[qM,hl]
  have a8:σ' 0=some ⟨FQ o (0+1),1,true⟩:=G;simp only[go_sem,h0,h5,h6,E,a8,f2,f7,c5,c6,mX,a7,tk,a6]
theorem qY{P x q n v:Int}(h:x=n+1000000000*q):v+P*x-1000000000*P*q=v+P*n:=by subst h;grind
theorem Tc(m n:Nat)(hm:ln m<=1000000)(hle:n<=m):fn ZK conv ext 164 [LI (dg m),LI (dg n)]=some (LI (dg (m-n))):=by
 have a3:(dg n).length<=(dg m).length:=jX hle;unfold ln at hm;rw[m_,mg [.tmp 4] [] func164];obtain⟨e1,e2,e3⟩:=jM (k:=(dg m).length) (by omega);simp only[go_sem,e1,e2,e3];generalize hL:jI _ _=y;obtain⟨r,rfl,T',σ',nx',o,rfl,h5,E,G,S,hd,hv⟩:=oZ hL (dg m).length (fun k st=>st.T 0=LI (dg m)/\st.T 1=LI (dg n)/\st.T 5= .rs 0 0 (dg m).length/\st.T 12=LI (dg m)/\st.T 13=I (dg m).length/\st.T 14=I k/\0<st.nx/\∃c o,st.T 6=I c/\st.σ 0=some ⟨FQ o ((dg m).length-k),1,true⟩/\o.length=k/\Dg o/\vl o-bp k*c=vl ((dg m).take k) - vl ((dg n).take k)/\0<=c/\c<=1)
  (fun r=>∃T σ nx o,r=(.exit 0,⟨T,σ,nx⟩)/\T 5= .rs 0 0 (dg m).length/\0<nx/\σ 0=some ⟨o.flatMap cI,1,true⟩/\o.length=(dg m).length/\Dg o/\vl o=(m-n:Nat)) (by
   clear hL;rintro k ⟨T,σ,nx⟩ a0 ⟨h0,h1,h5,O,J,FT,E,c,o,h6,G,S,hd,hv,a4,a5⟩;simp only at h0 h1 h5 O J FT E h6 G;have f1:(k:Int)<((dg m).length:Int):=by omega
   have f2:=jC k;have f3:=ZR (n:=(k:Int)+1);have f5:=Bg (dg m) k a0;have f6:=idx a0;obtain⟨x,hx⟩:∃x,x=(dg m)[k]:=⟨_,rfl⟩;have xr:=(oU m).get a0;rw[<- hx]at f6 xr;obtain⟨g,hg⟩:∃g,(dg m).length-k=g+1:=⟨(dg m).length-k-1,by omega⟩;have a1:(dg m).length - (k+1)=g:=by omega
   rw[hg]at G;have c5:k<(FQ o (g+1)).length:=by rw[mW];omega
   have v1:=ZX a0;rw[<- hx]at v1;have nf:¬(0:Int)<0:=by decide
   have w1:=ZR (n:=x-c)
   by_cases hB:k<(dg n).length
   .have f8:(k:Int)<((dg n).length:Int):=by omega
    have f9:=Bg (dg n) k hB;have a2:=idx hB;obtain⟨z,hz⟩:∃z,z=(dg n)[k]:=⟨_,rfl⟩;have zr:=(oU n).get hB;rw[<- hz]at a2 zr;have v2:=ZX hB;rw[<- hz]at v2;have w2:=ZR (n:=x-c-z)
    by_cases Y:x-c-z<0
    .have w3:=ZR (n:=x-c-z+1000000000)
     have c6:=mV o g (x-c-z+1000000000) S;refine .inl ⟨_,by simp only[go_sem,h0,h1,h5,h6,O,J,FT,E,G,f1,f2,f3,f5,f6,f8,f9,a2,w1,w2,w3,Y,c5,c6];rfl,?_⟩;simp only[go_sem,h0,h1,h5,O,J,a1];refine⟨rfl,E,_,_,rfl,rfl,by simp[S],hd.snoc (by omega) (by omega),?_,by omega,by omega⟩;rw[Za,S,qV,v1,v2,qY (n:=x-c-z) (by omega),uZ,uZ];omega
    .have c6:=mV o g (x-c-z) S
     refine .inl ⟨_,by simp only[go_sem,h0,h1,h5,h6,O,J,FT,E,G,f1,f2,f3,f5,f6,f8,f9,a2,w1,w2,Y,c5,c6];rfl,?_⟩;simp only[go_sem,h0,h1,h5,O,J,a1];refine⟨rfl,E,_,_,rfl,rfl,by simp[S],hd.snoc (by omega) (by omega),?_,by omega,by omega⟩;rw[Za,S,qV,v1,v2,qY (n:=x-c-z) (by omega),uZ,uZ];omega
   .have f8:¬(k:Int)<((dg n).length:Int):=by omega
    have v2:=qU (xs:=dg n) (k:=k) (by omega)
    by_cases Y:x-c<0
    .have w3:=ZR (n:=x-c+1000000000)
     have c6:=mV o g (x-c+1000000000) S;refine .inl ⟨_,by simp only[go_sem,h0,h1,h5,h6,O,J,FT,E,G,f1,f2,f3,f5,f6,f8,w1,w3,Y,c5,c6];rfl,?_⟩;simp only[go_sem,h0,h1,h5,O,J,a1];refine⟨rfl,E,_,_,rfl,rfl,by simp[S],hd.snoc (by omega) (by omega),?_,by omega,by omega⟩;rw[Za,S,qV,v1,v2,qY (n:=x-c) (by omega),uZ];omega
    .have c6:=mV o g (x-c) S
     refine .inl ⟨_,by simp only[go_sem,h0,h1,h5,h6,O,J,FT,E,G,f1,f2,f3,f5,f6,f8,w1,Y,c5,c6];rfl,?_⟩;simp only[go_sem,h0,h1,h5,O,J,a1];refine⟨rfl,E,_,_,rfl,rfl,by simp[S],hd.snoc (by omega) (by omega),?_,by omega,by omega⟩;rw[Za,S,qV,v1,v2,qY (n:=x-c) (by omega),uZ];omega) (by
   clear hL;rintro ⟨T,σ,nx⟩ ⟨h0,h1,h5,O,J,FT,E,c,o,h6,G,S,hd,hv,a4,a5⟩;simp only at h0 h1 h5 O J FT E h6 G;rw[yQ,mX]at G;refine⟨_,by simp only[go_sem,J,FT,zi];rfl,by simp,_,_,_,o,rfl,by simp only[go_sem,h5],E,G,S,hd,?_⟩;rw[yX,zl a3,Zd,Zd,<- S]at hv;have h7:=Zc hd;have h8:=Zb hd;have h9:=qW o.length;have hc:c=0:=zh fun a8=>by
    have:c=1:=by omega
    subst this;rw[Int.mul_one]at hv;omega
   subst hc;rw[vT]at hv;omega) (by
   simp only[go_sem];exact⟨0,[],rfl,rfl,rfl,Dg.nil,by simp[vl],xJ _,by decide⟩)
 have ht:=abX o (by unfold Short;omega);rw[CW hd hv]at ht;have a6:fn ZK conv ext 165 [.ts (o.flatMap cI) (dg m).length]=some (LI (dg (m-n))):=by rw[<- S];exact ht
 have tk:List.take (dg m).length (o.flatMap cI)=o.flatMap cI:=by rw[<- S];exact qJ _
 have a7:(o.flatMap cI).length=(dg m).length:=by rw[qM,S]
 simp only[go_sem,h5,E,G,a7,tk,a6]
theorem aaD{xs:List Int}{k:Nat}(h:k<xs.length)(y:Int):vl (xs.set k y)=vl xs+bp k*(y-xs[k]):=by
 induction xs generalizing k with
 |nil=>cases h
 |cons x xs E=>
  cases k with
  |zero=>
   rw[um,S9];show y+1000000000*vl xs=x+1000000000*vl xs+1*(y-x);omega
  |succ k=>
   have G:k<xs.length:=by simpa using h
   rw[List.set_cons_succ,qV];show x+1000000000*vl (xs.set k y)=x+1000000000*vl xs+1000000000*bp k*(y-xs[k]);rw[E G,xR,uU];omega
theorem Dg.set{xs:List Int}(h:Dg xs)(k:Nat){y:Int}(G:0<=y)(J:y<1000000000):Dg (xs.set k y):=fun x O=>by
 rcases ug O with E|E
 .exact h x E
 .rw[E];exact⟨G,J⟩
theorem qL(xs:List Int)(k:Nat)(y:Int):(xs.flatMap cI).set k (I y)=(xs.set k y).flatMap cI:=by
 induction xs generalizing k with
 |nil=>rfl
 |cons x xs E=>
  cases k with
  |zero=>rfl
  |succ k=>
   show I x :: (xs.flatMap cI).set k (I y)=I x :: (xs.set k y).flatMap cI;rw[E]
theorem mQ{o:List Int}{k:Nat}(r:Nat)(y:Int)(h:k<o.length):(FQ o r).set k (I y)=FQ (o.set k y) r:=by
 unfold FQ;rw[List.set_append_left _ _ (by rw[qM];exact h),qL]
theorem Td{o:List Int}{k:Nat}(r:Nat)(h:k<o.length):(FQ o r)[k]?=some (I o[k]):=by
 unfold FQ;rw[zV (by rw[qM];exact h),idx h]
theorem Tf{x y c w:Int}(G:0<=x/\x<1000000000)(E:0<=y/\y<1000000000)(hc:0<=c/\c<1000000000)(hw:0<=w/\w<1000000000):0<=x*y/\x*y<=999999998000000001/\(w+x*y+c) / 1000000000<1000000000:=by
 have J:=vK G.1 E.1;have O:x*y<=999999999*999999999:=Int.mul_le_mul (by omega) (by omega) E.1 (by omega);omega
theorem JE{W bi E w x b c y q G t:Int}(J:y+1000000000*q=w+x*b+c)(O:W+E*c=G+bi*(x*t))(hb:E*(x*b)=bi*(x*(E*b))\/True) :
  W+E*(y-w)+1000000000*E*q=G+bi*(x*t)+E*(x*b):=by
 have:1000000000*E*q=E*(1000000000*q):=by grind
 rw[this];have e:E*(y-w)+E*(1000000000*q)=E*(x*b+c):=by rw[<- xR];congr 1;omega
 rw[xR]at e;omega
theorem LH(m n:Nat)(hm:ln m<=1000000)(hn:ln n<=1000000):fn ZK conv ext 138 [LI (dg m),LI (dg n)]=some (LI (dg (m*n))):=by
 unfold ln at hm hn;rw[m_,mg [.tmp 4] [] func138]
 by_cases zm:m=0
 .subst zm
  rw[uY,oJ]
  (simp only[go_sem])<;>rfl
 have cm:((((dg m).length:Nat):Int)==0)=false:=by rw[sJ];have:=rC (oO zm);omega
 by_cases zn:n=0
 .subst zn
  rw[Nat.mul_zero,oJ]
  (simp only[go_sem,cm])<;>rfl
 have cn:((((dg n).length:Nat):Int)==0)=false:=by rw[sJ];have:=rC (oO zn);omega
 have pn:0<(dg n).length:=List.length_pos_iff.mpr (oO zn);obtain⟨e1,e2,e3⟩:=jM (k:=(dg m).length+(dg n).length) (by omega);have e0:((dg m).length:Int)+((dg n).length:Int)=(((dg m).length+(dg n).length:Nat):Int):=by omega
 have e4:=ZR (n:=(((dg m).length+(dg n).length:Nat):Int)) (by omega) (by omega);simp only[go_sem,cm,cn,e0,e1,e2,e3,e4];generalize hL:jI _ _=y;obtain⟨r,rfl,T',σ',nx',P,rfl,S,E,G,hP,hd,hv⟩:=oZ hL (dg m).length (fun k st=>st.T 1=LI (dg n)/\st.T 5= .rs 0 0 ((dg m).length+(dg n).length)/\st.T 26=LI (dg m)/\st.T 27=I (dg m).length/\st.T 28=I k/\0<st.nx/\∃P,st.σ 0=some ⟨FQ P ((dg m).length-k),1,true⟩/\P.length=k+(dg n).length/\Dg P/\vl P=vl ((dg m).take k)*n)
  (fun r=>∃T σ nx P,r=(.exit 0,⟨T,σ,nx⟩)/\T 5= .rs 0 0 ((dg m).length+(dg n).length)/\0<nx/\σ 0=some ⟨P.flatMap cI,1,true⟩/\P.length=(dg m).length+(dg n).length/\Dg P/\vl P=(m*n:Nat)) (by
   clear hL;rintro k ⟨T,σ,nx⟩ a3 ⟨Y,S,EU,J,O,E,P,G,hP,hd,hv⟩;simp only at Y S EU J O E G;have f1:(k:Int)<((dg m).length:Int):=by omega
   have f2:=jC k;have f3:=ZR (n:=(k:Int)+1);have f5:=Bg (dg m) k a3;have f6:=idx a3;obtain⟨x,hx⟩:∃x,x=(dg m)[k]:=⟨_,rfl⟩;have xr:=(oU m).get a3;rw[<- hx]at f6 xr;have v1:=ZX a3;rw[<- hx]at v1;obtain⟨g,hg⟩:∃g,(dg m).length-k=g+1:=⟨(dg m).length-k-1,by omega⟩;have a4:(dg m).length - (k+1)=g:=by omega
   rw[hg]at G;refine bC ?_
   conv=>
    enter [1,r,1,1]
    simp only[go_sem,Y,S,EU,J,O,E,f1,f2,f5,f6]
   generalize hL:jI _ _=z;obtain⟨r,rfl,T',σ',nx',c,W,rfl,Y,S,h6,h8,EU,J,O,E,G,hW,hd,hv,a0,a1⟩:=oZ hL (dg n).length (fun j st=>st.T 1=LI (dg n)/\st.T 5= .rs 0 0 ((dg m).length+(dg n).length)/\st.T 6=I k/\st.T 7=I x/\st.T 26=LI (dg m)/\st.T 27=I (dg m).length/\st.T 28=I k/\st.T 33=LI (dg n)/\st.T 34=I (dg n).length/\st.T 35=I j/\0<st.nx/\∃c W,st.T 8=I c/\st.σ 0=some ⟨FQ W (g+1),1,true⟩/\W.length=k+(dg n).length/\Dg W/\vl W+bp (k+j)*c=vl ((dg m).take k)*n+bp k*(x*vl ((dg n).take j))/\0<=c/\c<1000000000)
    (fun r=>∃T σ nx c W,r=(.exit 2,⟨T,σ,nx⟩)/\T 1=LI (dg n)/\T 5= .rs 0 0 ((dg m).length+(dg n).length)/\T 6=I k/\T 8=I c/\T 26=LI (dg m)/\T 27=I (dg m).length/\T 28=I k/\0<nx/\σ 0=some ⟨FQ W (g+1),1,true⟩/\W.length=k+(dg n).length/\Dg W/\vl W+bp (k+(dg n).length)*c=vl ((dg m).take k)*n+bp k*(x*n)/\0<=c/\c<1000000000) (by
     clear hL;rintro j ⟨T,σ,nx⟩ hj ⟨Y,S,h6,h7,EU,J,O,WC,Qq,a2,E,c,W,h8,G,hW,hd,hv,a0,a1⟩;simp only at Y S h6 h7 h8 EU J O WC Qq a2 E G;have g1:(j:Int)<((dg n).length:Int):=by omega
     have g2:=jC j;have g3:=ZR (n:=(j:Int)+1);have g5:=Bg (dg n) j hj;have g6:=idx hj;obtain⟨b,hb⟩:∃b,b=(dg n)[j]:=⟨_,rfl⟩;have br:=(oU n).get hj;rw[<- hb]at g6 br;have v2:=ZX hj;rw[<- hb]at v2;have p0:(k:Int)+(j:Int)=((k+j:Nat):Int):=by omega
     have p1:=ZR (n:=((k+j:Nat):Int));have p2:(0:Int)<=((k+j:Nat):Int):=by omega
     have p3:((k+j:Nat):Int)<(((dg m).length+(dg n).length:Nat):Int):=by omega
     have p4:k+j<W.length:=by omega
     have p5:=Td (o:=W) (g+1) p4;have p6:k+j<(FQ W (g+1)).length:=by rw[mW];omega
     obtain⟨w,hw⟩:∃w,w=W[k+j]:=⟨_,rfl⟩;have wr:=hd.get p4;rw[<- hw]at p5 wr;have mm:=Tf (x:=x) (y:=b) (c:=c) (w:=w) xr br ⟨a0,a1⟩ wr;have w1:=ZR (n:=x*b);have w2:=ZR (n:=w+x*b);have w3:=ZR (n:=w+x*b+c);obtain⟨q1,q2⟩:=aF (n:=w+x*b+c) (by omega);have w4:=ZR (n:=(w+x*b+c) / 1000000000);have c6:=mQ (g+1) ((w+x*b+c)%1000000000) p4;have vs:=aaD p4 ((w+x*b+c)%1000000000);rw[<- hw]at vs;refine .inl ⟨_,by simp only[go_sem,Y,S,h6,h7,h8,EU,J,O,WC,Qq,a2,E,G,g1,g2,g3,g5,g6,p0,p1,p2,p3,p5,p6,w1,w2,w3,w4,q1,q2,c6];rfl,?_⟩;simp only[go_sem,Y,S,h6,h7,EU,J,O,WC,Qq];refine⟨rfl,E,_,_,rfl,rfl,by rw[yP];exact hW,hd.set _ (by omega) (by omega),?_,by omega,by omega⟩;rw[vs,show k+(j+1)=k+j+1 by omega,qV,JE (c:=c) (x:=x) (b:=b) (by omega) hv (.inr trivial),v2,S_];grind) (by
     clear hL;rintro ⟨T,σ,nx⟩ ⟨Y,S,h6,h7,EU,J,O,WC,Qq,a2,E,c,W,h8,G,hW,hd,hv,a0,a1⟩;simp only at Y S h6 h7 h8 EU J O WC Qq a2 E G;rw[yX,Zd]at hv;refine⟨_,by simp only[go_sem,Qq,a2,zi];rfl,by simp,_,_,_,c,W,rfl,?_⟩;simp only[go_sem,Y,S,h6,h8,EU,J,O];exact⟨E,G,hW,hd,hv,a0,a1⟩) (by
     simp only[go_sem,Y,S,EU,J,O];exact⟨E,0,P,rfl,G,hP,hd,by rw[vT,hv];simp[vl],xJ _,by decide⟩)
   have p0:(k:Int)+((dg n).length:Int)=((k+(dg n).length:Nat):Int):=by omega
   have p1:=ZR (n:=((k+(dg n).length:Nat):Int)) (by omega) (by omega);have p2:(0:Int)<=((k+(dg n).length:Nat):Int):=by omega
   have p3:((k+(dg n).length:Nat):Int)<(((dg m).length+(dg n).length:Nat):Int):=by omega
   have p6:k+(dg n).length<(FQ W (g+1)).length:=by rw[mW];omega
   have c6:=mV W g c hW;refine⟨_,by simp only[go_sem,Y,S,h6,h8,EU,J,O,E,G,f3,p0,p1,p2,p3,p6,c6];rfl,.inl ⟨_,rfl,?_⟩⟩;simp only[go_sem,Y,S,EU,J,a4];refine⟨rfl,E,_,rfl,by simp[hW];omega,hd.snoc a0 a1,?_⟩;rw[Za,hW,hv,v1];grind) (by
   clear hL;rintro ⟨T,σ,nx⟩ ⟨Y,S,EU,J,O,E,P,G,hP,hd,hv⟩;simp only at Y S EU J O E G;rw[yQ,mX]at G;refine⟨_,by simp only[go_sem,J,O,zi];rfl,by simp,_,_,_,P,rfl,by simp only[go_sem,S],E,G,hP,hd,?_⟩;rw[hv,yX,Zd,yg]) (by
   simp only[go_sem];refine⟨List.replicate (dg n).length 0,?_,by simp,fun x hx=>by rw[List.mem_replicate]at hx;omega,(aaC _).trans (by simp[vl])⟩;congr 2;unfold FQ;rw[show List.flatMap cI (List.replicate (dg n).length 0)=rep (dg n).length [I 0] by unfold rep;rw[List.flatMap_replicate]];unfold rep;rw[<- List.flatten_append,vk,wH])
 have ht:=abX P (by unfold Short;omega);rw[CW hd hv]at ht;have a5:fn ZK conv ext 165 [.ts (P.flatMap cI) ((dg m).length+(dg n).length)]=some (LI (dg (m*n))):=by rw[<- hP];exact ht
 have tk:List.take ((dg m).length+(dg n).length) (P.flatMap cI)=P.flatMap cI:=by rw[<- hP];exact qJ _
 have a6:(P.flatMap cI).length=(dg m).length+(dg n).length:=by rw[qM,hP]
 simp only[go_sem,S,E,G,a6,tk,a5]
def cZ(z:Int):List V:=[Bo (decide (z<0)),LI (dg z.natAbs)]
def Bc(b:Bool)(n:Nat):Int:=if b=true then -(n:Int)else n
theorem aaE(b:Bool)(n:Nat):cZ (Bc b n)=[Bo (b && decide (0<(dg n).length)),LI (dg n)]:=by
 unfold cZ Bc;cases b with
 |false=>simp
 |true=>
  have E:((-(n:Int)).natAbs)=n:=by simp
  have G:decide (-(n:Int)<0)=decide (0<(dg n).length):=by
   rw[decide_eq_decide]
   by_cases h:n=0
   .subst h;rw[oJ];simp
   .have:=List.length_pos_iff.mpr (oO h);omega
  simp only[if_true,wQ,E,G]
theorem dA(z:Int):Bc (decide (z<0)) z.natAbs=z:=by
 unfold Bc
 by_cases h:z<0
 .rw[sH h,sN rfl];omega
 .rw[sG h,sO (by decide)];omega
theorem kC(b:Bool)(n:Nat):fn ZK conv ext 139 [Bo b,LI (dg n)]=some (.agg (cZ (Bc b n))):=by
 rw[abW,aaE]
theorem kJ(z:Int)(h0:-9223372036854775808<=z)(h1:z<=9223372036854775807):fn ZK conv ext 107 [I z]=some (.agg (cZ z)):=by
 rw[m_,mg [.cell 2 148] [] func107]
 by_cases S:z<0
 .have w1:=ZR (n:=z+1)
  have w2:IntKind.i64.wrap (0 - (z+1))= -(z+1):=by rw[ZR];omega
  have J:=ZQ (n:=-(z+1)) (by omega) (by omega);have Y:=ZQ (n:=-(z+1)+1) (by omega) (by omega);have e:-(z+1)+1=((z.natAbs:Nat):Int):=by omega
  rw[e]at Y;have G:=SY z.natAbs (by omega);have E:=kC true z.natAbs;have O:Bc true z.natAbs=z:=by unfold Bc;rw[sN rfl];omega
  rw[O]at E;unfold cZ at *;simp only[go_sem,S,w1,w2,J,e,Y,G,E]
 .have J:=ZQ (n:=z) (by omega) (by omega)
  have e:z=((z.natAbs:Nat):Int):=by omega
  have G:=SY z.natAbs (by omega);rw[<- e]at G;have E:=kC false z.natAbs;have O:Bc false z.natAbs=z:=by unfold Bc;rw[sO (by decide)];omega
  rw[O]at E;unfold cZ at *;simp only[go_sem,S,J,G,E]
theorem kE(z:Int):fn ZK conv ext 161 [.agg (cZ z)]=some (.agg (cZ (-z))):=by
 have E:=kC (!decide (z<0)) z.natAbs;have e:cZ (Bc (!decide (z<0)) z.natAbs)=cZ (-z):=by
  unfold Bc
  by_cases h:z<0
  .rw[sH h,uz,sO (by decide)];congr 1;omega
  .rw[sG h,vZ,sN rfl];congr 1;omega
 rw[e]at E;unfold cZ at *;rw[m_,mg [.cell 2 148] [] func161];simp only[go_sem,E]
theorem pJ{m n:Nat}:Bj m n<0↔m<n:=by
 unfold Bj
 by_cases h:m<n
 .rw[sN h];simp[h]
 .rw[sO h];split<;>simp[h]
theorem agD(x y:Int)(O:ln x.natAbs<=1000000)(S:ln y.natAbs<=1000000):fn ZK conv ext 137 [.agg (cZ x),.agg (cZ y)]=some (.agg (cZ (x+y))):=by
 have J:=kL x.natAbs y.natAbs O S;have k2:=arQ x.natAbs y.natAbs O S;have sg:∀b m,Bc b m=x+y->fn ZK conv ext 139 [Bo b,LI (dg m)]=some (.agg (cZ (x+y))):=fun b m h=>by rw[<- h];exact kC b m
 rw[m_,mg [.cell 4 148] [4,6,2] func137]
 by_cases Y:x<0<;>by_cases h2:y<0
 .have E:=sg true (x.natAbs+y.natAbs) (by unfold Bc;rw[sN rfl];omega)
  unfold cZ at *;rw[sH Y,sH h2];simp only[go_sem,J,k2,E]
 .unfold cZ at *
  rw[sH Y,sG h2]
  by_cases hc:x.natAbs<y.natAbs
  .have c1:¬0<=Bj x.natAbs y.natAbs:=by have:=pJ.mpr hc;omega
   have G:=Tc y.natAbs x.natAbs S (by omega);have E:=sg false (y.natAbs-x.natAbs) (by unfold Bc;rw[sO (by decide)];omega);simp only[go_sem,J,E,G,c1]
  .have c1:0<=Bj x.natAbs y.natAbs:=by have:=mt pJ.mp hc;omega
   have G:=Tc x.natAbs y.natAbs O (by omega);have E:=sg true (x.natAbs-y.natAbs) (by unfold Bc;rw[sN rfl];omega);simp only[go_sem,J,E,G,c1]
 .unfold cZ at *
  rw[sG Y,sH h2]
  by_cases hc:x.natAbs<y.natAbs
  .have c1:¬0<=Bj x.natAbs y.natAbs:=by have:=pJ.mpr hc;omega
   have G:=Tc y.natAbs x.natAbs S (by omega);have E:=sg true (y.natAbs-x.natAbs) (by unfold Bc;rw[sN rfl];omega);simp only[go_sem,J,E,G,c1]
  .have c1:0<=Bj x.natAbs y.natAbs:=by have:=mt pJ.mp hc;omega
   have G:=Tc x.natAbs y.natAbs O (by omega);have E:=sg false (x.natAbs-y.natAbs) (by unfold Bc;rw[sO (by decide)];omega);simp only[go_sem,J,E,G,c1]
 .have E:=sg false (x.natAbs+y.natAbs) (by unfold Bc;rw[sO (by decide)];omega)
  unfold cZ at *;rw[sG Y,sG h2];simp only[go_sem,J,k2,E]
theorem ab1(x y:Int)(G:ln x.natAbs<=1000000)(O:ln y.natAbs<=1000000):fn ZK conv ext 184 [.agg (cZ x),.agg (cZ y)]=some (.agg (cZ (x-y))):=by
 have J:=kE y;have E:=agD x (-y) G (by rwa [vY]);rw[<- Int.sub_eq_add_neg]at E;unfold cZ at *;rw[m_,mg [.cell 4 148] [1] func184];simp only[go_sem,J,E]
theorem kN(x y:Int)(S:ln x.natAbs<=1000000)(Y:ln y.natAbs<=1000000):fn ZK conv ext 160 [.agg (cZ x),.agg (cZ y)]=some (.agg (cZ (x*y))):=by
 have O:=LH x.natAbs y.natAbs S Y;have sg:∀b,Bc b (x.natAbs*y.natAbs)=x*y->fn ZK conv ext 139 [Bo b,LI (dg (x.natAbs*y.natAbs))]=some (.agg (cZ (x*y))):=fun b h=>by rw[<- h];exact kC b _
 have e:∀z:Int,(z.natAbs:Int)=if z<0 then -z else z:=fun z=>by split<;>omega
 rw[m_,mg [.cell 4 148] [1] func160]
 by_cases E:x<0<;>by_cases G:y<0
 .have J:=sg false (by unfold Bc;rw[sO (by decide),yg,e,e,sN E,sN G,Int.neg_mul_neg])
  unfold cZ at *;rw[sH E,sH G];simp only[go_sem,O,J]
 .have J:=sg true (by unfold Bc;rw[sN rfl,yg,e,e,sN E,sO G,Int.neg_mul,Int.neg_neg])
  unfold cZ at *;rw[sH E,sG G];simp only[go_sem,O,J]
 .have J:=sg true (by unfold Bc;rw[sN rfl,yg,e,e,sO E,sN G,Int.mul_neg,Int.neg_neg])
  unfold cZ at *;rw[sG E,sH G];simp only[go_sem,O,J]
 .have J:=sg false (by unfold Bc;rw[sO (by decide),yg,e,e,sO E,sO G])
  unfold cZ at *;rw[sG E,sG G];simp only[go_sem,O,J]
def Az(x y:Int):Int:=if x<y then -1 else if x=y then 0 else 1
theorem akh{m n:Nat}:Bj m n=Az m n:=by unfold Bj Az;split<;>split<;>first|rfl|(split<;>first|rfl|omega)|omega
theorem Qr(x y:Int)(J:ln x.natAbs<=1000000)(O:ln y.natAbs<=1000000):fn ZK conv ext 111 [.agg (cZ x),.agg (cZ y)]=some (I (Az x y)):=by
 have S:=kL x.natAbs y.natAbs J O;have Y:=kL y.natAbs x.natAbs O J;rw[akh]at S Y;unfold cZ;rw[m_,mg [.tmp 4] [] func111]
 by_cases E:x<0<;>by_cases G:y<0
 .have e:Az ((y.natAbs:Nat):Int) ((x.natAbs:Nat):Int)=Az x y:=by unfold Az;(repeat' split)<;>first|rfl|omega
  rw[sH E,sH G];simp only[go_sem,Y,e]
 .have e:Az x y= -1:=by unfold Az;rw[sN (by omega)]
  rw[sH E,sG G,e];simp only[go_sem]
 .have e:Az x y=1:=by unfold Az;rw[sO (by omega),sO (by omega)]
  rw[sG E,sH G,e];simp only[go_sem]
 .have e:Az ((x.natAbs:Nat):Int) ((y.natAbs:Nat):Int)=Az x y:=by unfold Az;(repeat' split)<;>first|rfl|omega
  rw[sG E,sG G];simp only[go_sem,S,e]
theorem kD(x:Int):fn ZK conv ext 108 [.agg (cZ x)]=some (I (Az x 0)):=by
 unfold cZ;rw[m_,mg [.tmp 2] [] func108]
 by_cases G:x=0
 .subst G
  have e:Az 0 0=0:=by decide
  rw[e,Int.natAbs_zero,oJ]
  (simp only[go_sem])<;>rfl
 .have c1:(((dg x.natAbs).length:Int)==0)=false:=by rw[sJ];have:=rC (oO (n:=x.natAbs) (by omega));omega
  by_cases E:x<0
  .have e:Az x 0= -1:=by unfold Az;rw[sN E]
   rw[sH E,e];simp only[go_sem,c1]
  .have e:Az x 0=1:=by unfold Az;rw[sO E,sO G]
   rw[sG E,e];simp only[go_sem,c1]
def cQ(q:Rat):List V:=[Bo (decide (q.num<0)),LI (dg q.num.natAbs),LI (dg q.den)]
def pQ:Option Rat->V
 |some q=> .tp (cQ q) 0
 |none=> .sc (.pointer none)
theorem qH(q:Rat):(cQ q).length=3:=rfl
theorem amC(z:Int){d:Nat}(h:d≠0):cQ (mkRat z d)=agB (decide (z<0)) z.natAbs d:=by
 have hg:Nat.gcd d z.natAbs=Nat.gcd z.natAbs d:=Nat.gcd_comm _ _;have J:0<Nat.gcd z.natAbs d:=Nat.gcd_pos_of_pos_right _ (by omega);have Y:Nat.gcd z.natAbs d ∣ z.natAbs:=Nat.gcd_dvd_left _ _;have O:((Nat.gcd z.natAbs d:Nat):Int) ∣ z:=Int.ofNat_dvd_left.mpr Y;unfold cQ agB;rw[Rat.num_mkRat,Rat.den_mkRat,sO h,sO h,hg];have e1:(z / ((Nat.gcd z.natAbs d:Nat):Int)).natAbs=z.natAbs / Nat.gcd z.natAbs d:=by
  obtain⟨k,E⟩:=O;have e:z / ((Nat.gcd z.natAbs d:Nat):Int)=k:=Int.ediv_eq_of_eq_mul_right (by omega) E;have e2:z.natAbs=Nat.gcd z.natAbs d*k.natAbs:=by
   have:=congrArg Int.natAbs E;rw[uQ,wU]at this;exact this
  rw[e,Nat.div_eq_of_eq_mul_right J e2]
 have e2:decide (z / ((Nat.gcd z.natAbs d:Nat):Int)<0)=(decide (z<0) && decide (0<(dg (z.natAbs / Nat.gcd z.natAbs d)).length)):=by
  have e3:(z / ((Nat.gcd z.natAbs d:Nat):Int)<0)↔z<0:=by
   obtain⟨k,E⟩:=O;have e:z / ((Nat.gcd z.natAbs d:Nat):Int)=k:=Int.ediv_eq_of_eq_mul_right (by omega) E;rw[e];have hG:(0:Int)<((Nat.gcd z.natAbs d:Nat):Int):=by omega
   generalize ((Nat.gcd z.natAbs d:Nat):Int)=G at *;constructor
   .intro a0;rw[E];exact Int.mul_neg_of_pos_of_neg hG a0
   .intro S
    refine zh fun hn=>?_
    have:=vK (wY hG) (Int.not_lt.mp hn);rw[<- E]at this;omega
  by_cases S:z<0
  .have a1:z.natAbs / Nat.gcd z.natAbs d≠0:=by
    have:=Nat.div_pos (Nat.gcd_le_left d (show 0<z.natAbs by omega)) J;omega
   rw[sH (e3.mpr S),sH S,sH (List.length_pos_iff.mpr (oO a1))];rfl
  .rw[sG (mt e3.mp S),sG S];rfl
 rw[e1,e2]
theorem dd0(x y:Rat):x.den*y.den≠0:=Nat.mul_ne_zero x.den_nz y.den_nz
theorem Iy(x:Rat)(d:Nat)(G:ln x.num.natAbs<=1000000)(J:ln d<=1000000):fn ZK conv ext 110 [.tp (cQ x) 0,LI (dg d)]=some (.agg (cZ (x.num*d))):=by
 have O:=LH x.num.natAbs d G J;have E:=kC (decide (x.num<0)) (x.num.natAbs*d);have e:Bc (decide (x.num<0)) (x.num.natAbs*d)=x.num*d:=by
  have h:=dA x.num
  conv=>rhs;rw[<- h]
  unfold Bc
  by_cases q:x.num<0
  .rw[sH q,sN rfl,sN rfl,yg,Int.neg_mul]
  .rw[sG q,sO (by decide),sO (by decide),yg]
 rw[e]at E;unfold cQ;unfold cZ at *;rw[m_,mg [.cell 4 148] [] func110];simp only[go_sem,O,E]
theorem agE(x y:Rat)(Y:y.num≠0):x / y=mkRat (Bc (decide (x.num<0) !=decide (y.num<0)) (x.num.natAbs*y.den)) (x.den*y.num.natAbs):=by
 have S:x / y=Rat.divInt (x.num*y.den) (x.den*y.num):=by
  rw[vB]
  conv=>lhs;rw[<- Rat.num_divInt_den x,<- Rat.num_divInt_den y]
  rw[Rat.inv_divInt,Rat.divInt_mul_divInt]
 rw[S,<- Rat.divInt_ofNat,yg];have hx:=dA x.num
 by_cases J:x.num<0<;>by_cases O:y.num<0
 .have E:((x.num.natAbs:Nat):Int)= -x.num:=by omega
  have G:((y.num.natAbs:Nat):Int)= -y.num:=by omega
  rw[sH J,sH O];unfold Bc;rw[sO (by decide),yg,E,G,Int.neg_mul,Int.mul_neg,Rat.neg_divInt_neg]
 .have E:((x.num.natAbs:Nat):Int)= -x.num:=by omega
  have G:((y.num.natAbs:Nat):Int)=y.num:=by omega
  rw[sH J,sG O];unfold Bc;rw[sN (by decide),yg,E,G,Int.neg_mul,Int.neg_neg]
 .have E:((x.num.natAbs:Nat):Int)=x.num:=by omega
  have G:((y.num.natAbs:Nat):Int)= -y.num:=by omega
  rw[sG J,sH O];unfold Bc;rw[sN (by decide),yg,E,G,Int.mul_neg];rw[<- Rat.neg_divInt_neg (-(x.num*y.den)),Int.neg_neg,Int.neg_neg]
 .have E:((x.num.natAbs:Nat):Int)=x.num:=by omega
  have G:((y.num.natAbs:Nat):Int)=y.num:=by omega
  rw[sG J,sG O];unfold Bc;rw[sO (by decide),yg,E,G]
theorem aki(q:Rat)(E:ln q.num.natAbs<=24)(G:ln q.den<=24):fn ZK conv ext 99 [.tp (cQ q) 0]=some (.agg (cQ q)):=anU _ _ _ E G
theorem amD(q:Rat):fn ZK conv ext 66 [.tp (cQ q) 0]=some (I (Az q.num 0)):=by
 have k:=kD q.num;unfold cQ;unfold cZ at k;rw[m_,mg [.tmp 2] [] func66];simp only[go_sem,k]
theorem jv(z:Int)(E:-9223372036854775808<=z)(G:z<=9223372036854775807):fn ZK conv ext 65 [I z]=some (.tp (cQ (z:Rat)) 0):=by
 have k:=kJ z E G;have J:(z:Rat).num=z:=rfl;have O:(z:Rat).den=1:=rfl;unfold cQ;rw[J,O,oN (d:=1) (by decide) (by decide)];unfold cZ at k;rw[m_,mg [.tmp 2] [] func65]
 (simp only[go_sem,k])<;>rfl
theorem dL(xs:List Int)(S:∀x∈xs,0<=x/\x<=255)(Y:xs.length<=1048576)(i h:Int)(hi:0<=i/\i<=xs.length)(n:Int)(h1:1<=n)(h2:n<=256) :
  ∃r E G,(∀(b st nx:Nat) (σ:Store),σ b=some (Qo xs i h st)->b<nx->ev ZK conv ext 48 [.rp b 0,I n] σ nx=some (I r,upd σ b (some (Qo xs E G st)),nx))/\(0<=r/\r<n)/\0<=E/\E<=xs.length:=by
 obtain⟨r,E,G,k,hr,J⟩:=anV xs S Y i h hi;have c1:¬n<=0:=by omega
 have c2:¬n=0:=by omega
 refine⟨r.tmod n,E,G,fun b st nx σ O hb=>?_,?_,J⟩
 .have k':=k b st nx σ O hb
  rw[mg [.tmp 4] [] func48];simp only[go_sem,qC,k',c1,c2,h2]
 .rw[wu hr.1]
  exact⟨Int.emod_nonneg _ (by omega),Int.emod_lt_of_pos _ (by omega)⟩
end Go.Proofs.YtjjhejehbhbdeaaGreat
