import Derived.Test.YtjknobpihkmilaaGreatTb1
import Derived.SizedLaws
import Derived.ChangeArms
import Derived.Deep.Slices
import Derived.OpenShut
import Derived.ChangeOld
import Derived.Laws.StructEq
import Derived.Shelf.Strings.OnBuilder
import Derived.Test.YtjknobpihkmilaaGreatProg
import Derived.KernelRfl
set_option linter.unusedSimpArgs false
set_option linter.unusedVariables false
set_option linter.unusedSectionVars false
set_option linter.defProp false
set_option maxRecDepth 10000
set_option maxHeartbeats 4000000
open Go.Proofs.Tryz renaming prog->gu
open Go.Proofs.Tryz
open Array renaming length_toList->z_,getElem?_toList->yN
open Bool renaming and_eq_true->zV,false_eq_true->yR,true_and->xM,and_false->xA,not_eq_true'->wS,false_and->vk,not_false->vH
open Classical renaming byContradiction->zh
open Int renaming mul_le_mul_of_nonneg_right->zf,lt_irrefl->zX,mul_le_mul_of_nonneg_left->zO,toNat_natCast->zM,mul_add->yE,le_of_lt->xu,le_refl->xg,natCast_mul->xQ,natAbs_natCast->xP,tmod_eq_emod_of_nonneg->xE,tdiv_eq_ediv_of_nonneg->xC,mul_nonneg->wU,mul_assoc->wB,toNat_of_nonneg->vw,natAbs_neg->vg,mul_zero->vT,sub_mul->vK,mul_sub->vJ
open List renaming getElem?_eq_getElem->zy,getElem_mem->zq,length_append->zo,take_of_length_le->zk,length_cons->zi,getElem?_append_left->zZ,length_take->zY,mem_cons_of_mem->zU,getElem?_append_right->zS,mem_cons->zQ,eq_nil_of_length_eq_zero->zN,flatMap_cons->zJ,mem_cons_self->zH,not_mem_nil->zG,append_assoc->zF,mem_append_left->zD,flatMap_append->zC,length_map->zB,append_nil->zA,length_nil->yw,getElem?_map->yg,getElem?_eq_none->yZ,drop_zero->yX,take_length->yV,length_singleton->yT,drop_eq_getElem_cons->yQ,ext_getElem->yP,length_set->yO,replicate_succ->yL,getElem_of_mem->yK,mem_append_right->yF,mem_singleton->yC,set_append_right->yA,take_left'->xZ,cons_append->xY,map_congr_left->xX,getElem?_toArray->xW,getElem?_cons_zero->xR,size_toArray->xO,map_cons->xJ,all_cons->xH,all_nil->xG,take_add_one->wz,flatMap_nil->wZ,getElem_set->wX,nil_append->wR,getElem_map->wL,take_append_drop->wJ,replicate_append_replicate->wG,set_cons_zero->vV,range_succ->vS,mem_or_eq_of_mem_set->vO,set_eq_take_append_cons_drop->vM,getElem?_cons_succ->uy
open Nat renaming le_refl->zu,le_trans->zL,not_lt_zero->zK,zero_add->yu,mul_one->yj,sub_self->yh,mul_le_mul_right->yc,min_eq_left->yB,lt_of_lt_of_le->xq,le_max_right->xK,succ_mul->wY,add_assoc->wV,le_max_left->wQ,add_mul->wO,zero_le->wM,lt_or_eq_of_le->wK,le_of_lt_succ->wC,div_div_eq_div_mul->vZ,add_comm->vU,add_zero->vF,zero_mul->vC
open Ne renaming symm->yS
open Option renaming bind_some->zl,map_some->zT,getD_some->yJ
open Rat renaming mul_nonneg->xw,le_of_lt->wF,div_def->vY,mul_zero->vB
open Option.some renaming injEq->uj
open Prod.mk renaming injEq->uh
namespace Go.TV
open Go.RowKit
set_option linter.unusedVariables false
set_option linter.unusedSimpArgs false
variable [Known]
def CLe(c c':Call):Prop:=∀f args σ nx r,c f args σ nx=some r->c' f args σ nx=some r
section
variable {P:Program} {conv:FuncId->Conv}
theorem EP{c c':Call}(h:CLe c c'){f:FuncId}{args:List V}{σ:Store}{nx:Nat}{r:V×Store×Nat}(e:dX conv c f args σ nx=some r):dX conv c' f args σ nx=some r:=by
 unfold dX at *
 split at e
 .exact h _ _ _ _ _ e
 .split at e
  .rename_i ts ids G
   try simp only[G]
   cases E:c f ts aG 0 with
   |none=>rw[E]at e;cases e
   |some q=>rw[E]at e;rw[h _ _ _ _ _ E];exact e
  .cases e
 .split at e
  .rename_i ts ids G
   try simp only[G]
   cases E:c f ts aG nx with
   |none=>rw[E]at e;cases e
   |some q=>rw[E]at e;rw[h _ _ _ _ _ E];exact e
  .cases e
theorem Na{c c':Call}{o:Oper}{T:Nat->V}{σ:Store}{nx:Nat}{r:V×Store×Nat}(h:∀f args σ r,dX conv c f args σ nx=some r->dX conv c' f args σ nx=some r)(e:bH P conv c o T σ nx=some r):bH P conv c' o T σ nx=some r:=by
 obtain⟨dst,op,type,pos,after,guard⟩:=o;cases op<;>simp only[bH]at e⊢ <;>first|exact e|skip
 rename_i E;obtain⟨callee,args,ts⟩:=E;cases callee with
 |value f=>
  simp only at e⊢
  split at e
  .rename_i G
   try simp only[G]
   exact h _ _ _ _ e
  .cases e
 |builtin b=>exact e
 |invoke r m=>exact e
theorem TI{c:Call}{o:Oper}{T:Nat->V}{σ:Store}{nx:Nat}{r:V×Store×Nat}(e:bH P conv c o T σ nx=some r) :
  (∀c',bH P conv c' o T σ nx=some r)\/∃f args,dX conv c f args σ nx=some r/\∀c',dX conv c' f args σ nx=some r->bH P conv c' o T σ nx=some r:=by
 obtain⟨dst,op,type,pos,after,guard⟩:=o;cases op<;>simp only[bH]at e⊢ <;>first|exact .inl fun _=>e|skip
 rename_i E;obtain⟨callee,args,ts⟩:=E;cases callee with
 |value f=>
  simp only at e⊢
  split at e
  .rename_i G
   try simp only[G]
   exact .inr ⟨_,_,e,fun c' h=>h⟩
  .cases e
 |builtin b=>exact .inl fun _=>e
 |invoke r m=>exact .inl fun _=>e
theorem PD{c c':Call}(h:CLe c c'){o:Oper}{T:Nat->V}{σ:Store}{nx:Nat}{r:V×Store×Nat}(e:aZ P conv c o T σ nx=some r):aZ P conv c' o T σ nx=some r:=by
 unfold aZ at *
 split at e
 .rename_i F G
  try simp only[G]
  split at e
  .rename_i J
   rw[uf J];cases E:bH P conv c o T (restrict σ F) nx with
   |none=>rw[E]at e;cases e
   |some q=>rw[E]at e;rw[Na (fun f args σ r=>EP h) E];exact e
  .cases e
 .cases e
theorem qV{c c':Call}(h:CLe c c'){ops:Array Oper}:∀(l:List Oper) (s s':St),dR P conv c ops l s=some s'->dR P conv c' ops l s=some s'
 |[],s,s',e=>e
 |o :: l,s,s',e=>by
  unfold dR at *
  split at e
  .rename_i E
   try simp only[E]
   cases G:bH P conv c o s.T s.σ s.nx with
   |none=>rw[G]at e;cases e
   |some q=>
    rw[G]at e;rw[Na (fun f args σ r=>EP h) G];exact qV h l _ _ e
  .rename_i E
   try simp only[E]
   exact qV h l _ _ e
  .cases e
theorem qY{c c':Call}(h:CLe c c'){ops:Array Oper}:∀(l:List Oper) (s:St) (r:St×List (List Nat)),dw P conv c ops l s=some r->dw P conv c' ops l s=some r
 |[],s,r,e=>e
 |o :: l,s,r,e=>by
  unfold dw at *
  split at e
  .rename_i G
   try simp only[G]
   cases J:aZ P conv c o s.T s.σ s.nx with
   |none=>rw[J]at e;cases e
   |some q=>
    rw[J]at e;rw[PD h J];simp only at e⊢;cases E:dw P conv c ops l ⟨fC s.T o.dst q.1,q.2.1,q.2.2⟩with
    |none=>rw[E]at e;cases e
    |some O=>rw[E]at e;rw[qY h l _ _ E];exact e
  .rename_i G
   try simp only[G]
   cases E:dw P conv c ops l ⟨fC s.T o.dst (.dF []),s.σ,s.nx⟩with
   |none=>rw[E]at e;cases e
   |some O=>rw[E]at e;rw[qY h l _ _ E];exact e
  .cases e
theorem KP{c c':Call}(h:CLe c c'){ops:Array Oper}{s s':St}(e:eu P conv c ops s=some s'):eu P conv c' ops s=some s':=by
 unfold eu at *
 split at e
 .rename_i G
  rw[uf G];cases E:dw P conv c ops ops.toList s with
  |none=>rw[E]at e;cases e
  |some q=>rw[E]at e;rw[qY h _ _ _ E];exact e
 .cases e
noncomputable def aA(body:St->Option (Ex×St))(s:St):Option (Ex×St) :=
 open Classical in if h:∃r,∃n,dM body n s=some r then some h.choose else none
theorem F6{body:St->Option (Ex×St)}:∀(n:Nat) (s:St) (r:Ex×St),dM body n s=some r->dM body (n+1) s=some r
 |0,s,r,h=>by cases h
 |n+1,s,r,h=>by
  unfold dM at h⊢
  split at h
  .exact F6 n _ r h
  .exact h
theorem Az{body:St->Option (Ex×St)}{n m:Nat}(E:n<=m){s:St}{r:Ex×St}(h:dM body n s=some r):dM body m s=some r:=by
 induction E with
 |refl=>exact h
 |step _ G=>exact F6 _ _ _ G
theorem qh{body:St->Option (Ex×St)}{s:St}{r:Ex×St}:aA body s=some r↔∃n,dM body n s=some r:=by
 unfold aA;constructor
 .intro h
  split at h
  .rename_i hex
   simp only[uj]at h;subst h;exact hex.choose_spec
  .cases h
 .rintro ⟨n,hn⟩
  have hex:∃r,∃n,dM body n s=some r:=⟨r,n,hn⟩;rw[dif_pos hex];obtain⟨m,hm⟩:=hex.choose_spec;have G:=Az (wQ n m) hn;have E:=Az (xK n m) hm;rw[G]at E;exact E.symm
theorem Ij(body:St->Option (Ex×St))(s:St):aA body s=match body s with
  |some (.norm,s')=>aA body s'
  |r=>r:=by
 apply Option.ext;intro r;rw[qh];constructor
 .rintro ⟨n,hn⟩
  cases n with
  |zero=>cases hn
  |succ n=>
   unfold dM at hn;cases hb:body s with
   |none=>rw[hb]at hn;cases hn
   |some q=>
    rw[hb]at hn;obtain⟨ex,G⟩:=q;cases ex with
    |norm=>exact qh.2 ⟨n,hn⟩
    |exit id=>exact hn
    |ret=>exact hn
 .intro h
  split at h
  .rename_i s' hb
   obtain⟨n,hn⟩:=qh.1 h;exact⟨n+1,by unfold dM;simp only[hb];exact hn⟩
  .rename_i E
   refine⟨1,?_⟩;unfold dM
   split
   .rename_i s' hb;exact absurd hb (E s')
   .exact h
noncomputable def bF(P:Program)(conv:FuncId->Conv)(call:Call):Code->St->Option (Ex×St)
 | .skip,s=>some (.norm,s)
 | .region _ ops draw,s=>match(if draw then eu P conv call ops s else dR P conv call ops ops.toList s)with
  |some s'=>some (.norm,s')
  |none=>none
 | .seq a b,s=>match bF P conv call a s with
  |some (.norm,s')=>bF P conv call b s'
  |r=>r
 | .cond c a b,s=>match val s.T c with
  | .sc (.bool true)=>bF P conv call a s
  | .sc (.bool false)=>bF P conv call b s
  |_=>none
 | .block id c,s=>match bF P conv call c s with
  |some (.exit j,s')=>if j=id then some (.norm,s')else some (.exit j,s')
  |r=>r
 | .loop c,s=>aA (bF P conv call c) s
 | .exit id,s=>some (.exit id,s)
 | .ret,s=>some (.ret,s)
 |_,_=>none
theorem qg{b b':St->Option (Ex×St)}(h:∀s r,b s=some r->b' s=some r):∀(n:Nat) (s:St) (r:Ex×St),dM b n s=some r->dM b' n s=some r
 |0,s,r,e=>by cases e
 |n+1,s,r,e=>by
  unfold dM at *
  split at e
  .rename_i s' hb;simp only[h _ _ hb];exact qg h n s' r e
  .cases E:b s with
   |none=>rw[E]at e;cases e
   |some q=>
    rw[E]at e;rw[h _ _ E];obtain⟨ex,J⟩:=q;cases ex with
    |norm=>rename_i G;exact absurd E (G J)
    |exit id=>exact e
    |ret=>exact e
theorem qo{c c':Call}(h:CLe c c'){n m:Nat}(S:n<=m):∀(G:Code) (s:St) (r:Ex×St),aK P conv c n G s=some r->aK P conv c' m G s=some r:=by
 intro G
 induction G with
 |region id ops draw=>
  intro s r e;simp only[aK]at *;cases draw with
  |true=>
   simp only[if_true]at *;cases E:eu P conv c ops s with
   |none=>rw[E]at e;cases e
   |some q=>rw[E]at e;rw[KP h E];exact e
  |false=>
   simp only[yR,if_false]at *;cases E:dR P conv c ops ops.toList s with
   |none=>rw[E]at e;cases e
   |some q=>rw[E]at e;rw[qV h _ _ _ E];exact e
 |seq a b J O=>
  intro s r e;simp only[aK]at *;cases E:aK P conv c n a s with
  |none=>rw[E]at e;cases e
  |some q=>
   rw[E]at e;rw[J _ _ E];obtain⟨ex,s1⟩:=q;cases ex<;>first|exact O _ _ e|exact e
 |cond v a b J O=>
  intro s r e;simp only[aK]at *
  split at e
  .exact J _ _ e
  .exact O _ _ e
  .cases e
 |block id G Y=>
  intro s r e;simp only[aK]at *;cases E:aK P conv c n G s with
  |none=>rw[E]at e;cases e
  |some q=>rw[E]at e;rw[Y _ _ E];exact e
 |loop G Y=>
  intro s r e;simp only[aK]at *;exact Az S (qg (fun s r=>Y s r) n s r e)
 |skip=>intro s r e;exact e
 |exit id=>intro s r e;exact e
 |ret=>intro s r e;exact e
 |_=>intro s r e;simp only[aK]at e;cases e
theorem TJ{c c':Call}(h:CLe c c'){n:Nat}:∀(G:Code) (s:St) (r:Ex×St),aK P conv c n G s=some r->bF P conv c' G s=some r:=by
 intro G
 induction G with
 |region id ops draw=>
  intro s r e;simp only[aK,bF]at *;cases draw with
  |true=>
   simp only[if_true]at *;cases E:eu P conv c ops s with
   |none=>rw[E]at e;cases e
   |some q=>rw[E]at e;rw[KP h E];exact e
  |false=>
   simp only[yR,if_false]at *;cases E:dR P conv c ops ops.toList s with
   |none=>rw[E]at e;cases e
   |some q=>rw[E]at e;rw[qV h _ _ _ E];exact e
 |seq a b J O=>
  intro s r e;simp only[aK,bF]at *;cases E:aK P conv c n a s with
  |none=>rw[E]at e;cases e
  |some q=>
   rw[E]at e;rw[J _ _ E];obtain⟨ex,s1⟩:=q;cases ex<;>first|exact O _ _ e|exact e
 |cond v a b J O=>
  intro s r e;simp only[aK,bF]at *
  split at e
  .rename_i S;simp only[S];exact J _ _ e
  .rename_i S;simp only[S];exact O _ _ e
  .cases e
 |block id G Y=>
  intro s r e;simp only[aK,bF]at *;cases E:aK P conv c n G s with
  |none=>rw[E]at e;cases e
  |some q=>rw[E]at e;rw[Y _ _ E];exact e
 |loop G Y=>
  intro s r e;simp only[aK,bF]at *;exact qh.2 ⟨n,qg (fun s r=>Y s r) n s r e⟩
 |skip=>intro s r e;exact e
 |exit id=>intro s r e;exact e
 |ret=>intro s r e;exact e
 |_=>intro s r e;simp only[aK]at e;cases e
def Chain(C:Nat->Call):Prop:=∀k,CLe (C k) (C (k+1))
theorem Chain.le{C:Nat->Call}(h:Chain C){k m:Nat}(E:k<=m):CLe (C k) (C m):=by
 induction E with
 |refl=>exact fun _ _ _ _ _ e=>e
 |step _ G=>exact fun f args σ nx r e=>h _ f args σ nx r (G f args σ nx r e)
noncomputable def sup(C:Nat->Call):Call:=fun f args σ nx=>
 open Classical in if h:∃r,∃k,C k f args σ nx=some r then some h.choose else none
theorem jL{C:Nat->Call}(E:Chain C){f:FuncId}{args:List V}{σ:Store}{nx:Nat}{r:V×Store×Nat}:sup C f args σ nx=some r↔∃k,C k f args σ nx=some r:=by
 unfold sup;constructor
 .intro h
  split at h
  .rename_i hex
   simp only[uj]at h;subst h;exact hex.choose_spec
  .cases h
 .rintro ⟨n,hn⟩
  have hex:∃r,∃k,C k f args σ nx=some r:=⟨r,n,hn⟩;rw[dif_pos hex];obtain⟨m,hm⟩:=hex.choose_spec;have J:=E.le (wQ n m) _ _ _ _ _ hn;have G:=E.le (xK n m) _ _ _ _ _ hm;rw[J]at G;exact G.symm
theorem TK{C:Nat->Call}(G:Chain C){f:FuncId}{args:List V}{σ:Store}{nx:Nat}{r:V×Store×Nat}(e:dX conv (sup C) f args σ nx=some r):∃k,dX conv (C k) f args σ nx=some r:=by
 unfold dX at *
 split at e
 .exact(jL G).1 e
 .split at e
  .rename_i ts ids J
   try simp only[J]
   cases E:sup C f ts aG 0 with
   |none=>rw[E]at e;cases e
   |some q=>
    obtain⟨k,O⟩:=(jL G).1 E;rw[E]at e;exact⟨k,by rw[O];exact e⟩
  .cases e
 .split at e
  .rename_i ts ids J
   try simp only[J]
   cases E:sup C f ts aG nx with
   |none=>rw[E]at e;cases e
   |some q=>
    obtain⟨k,O⟩:=(jL G).1 E;rw[E]at e;exact⟨k,by rw[O];exact e⟩
  .cases e
theorem PE{C:Nat->Call}(E:Chain C){o:Oper}{T:Nat->V}{σ:Store}{nx:Nat}{r:V×Store×Nat}(e:bH P conv (sup C) o T σ nx=some r):∃k,bH P conv (C k) o T σ nx=some r:=by
 rcases TI e with h|⟨f,args,G,J⟩
 .exact⟨0,h _⟩
 .obtain⟨k,O⟩:=TK E G
  exact⟨k,J _ O⟩
theorem XR{C:Nat->Call}(G:Chain C){o:Oper}{T:Nat->V}{σ:Store}{nx:Nat}{r:V×Store×Nat}(e:aZ P conv (sup C) o T σ nx=some r):∃k,aZ P conv (C k) o T σ nx=some r:=by
 unfold aZ at *
 split at e
 .rename_i F J
  try simp only[J]
  split at e
  .rename_i O
   simp only[O,if_true];cases E:bH P conv (sup C) o T (restrict σ F) nx with
   |none=>rw[E]at e;cases e
   |some q=>
    obtain⟨k,S⟩:=PE G E;rw[E]at e;exact⟨k,by rw[S];exact e⟩
  .cases e
 .cases e
theorem ER{C:Nat->Call}(E:Chain C){ops:Array Oper}:∀(l:List Oper) (s s':St),dR P conv (sup C) ops l s=some s'->∃k,dR P conv (C k) ops l s=some s'
 |[],s,s',e=>⟨0,e⟩
 |o :: l,s,s',e=>by
  unfold dR at e
  split at e
  .rename_i G
   cases J:bH P conv (sup C) o s.T s.σ s.nx with
   |none=>rw[J]at e;cases e
   |some q=>
    rw[J]at e;obtain⟨k,O⟩:=PE E J;obtain⟨m,hm⟩:=ER E l _ _ e;refine⟨max k m,?_⟩;unfold dR;simp only[G,Na (fun f args σ r=>EP (E.le (wQ k m))) O];exact qV (E.le (xK k m)) _ _ _ hm
  .rename_i G
   obtain⟨m,hm⟩:=ER E l _ _ e;exact⟨m,by unfold dR;simp only[G];exact hm⟩
  .cases e
theorem qX{C:Nat->Call}(G:Chain C){ops:Array Oper}:∀(l:List Oper) (s:St) (r:St×List (List Nat)),dw P conv (sup C) ops l s=some r->∃k,dw P conv (C k) ops l s=some r
 |[],s,r,e=>⟨0,e⟩
 |o :: l,s,r,e=>by
  unfold dw at e
  split at e
  .rename_i J
   cases O:aZ P conv (sup C) o s.T s.σ s.nx with
   |none=>rw[O]at e;cases e
   |some q=>
    rw[O]at e;simp only at e;cases E:dw P conv (sup C) ops l ⟨fC s.T o.dst q.1,q.2.1,q.2.2⟩with
    |none=>rw[E]at e;cases e
    |some S=>
     rw[E]at e;obtain⟨k,Y⟩:=XR G O;obtain⟨m,hm⟩:=qX G l _ _ E;refine⟨max k m,?_⟩;unfold dw;simp only[J,PD (G.le (wQ k m)) Y,qY (G.le (xK k m)) _ _ _ hm];exact e
  .rename_i J
   cases E:dw P conv (sup C) ops l ⟨fC s.T o.dst (.dF []),s.σ,s.nx⟩with
   |none=>rw[E]at e;cases e
   |some S=>
    rw[E]at e;obtain⟨m,hm⟩:=qX G l _ _ E;refine⟨m,?_⟩;unfold dw;simp only[J,hm];exact e
  .cases e
theorem TL{C:Nat->Call}(G:Chain C){ops:Array Oper}{s s':St}(e:eu P conv (sup C) ops s=some s'):∃k,eu P conv (C k) ops s=some s':=by
 unfold eu at *
 split at e
 .rename_i J
  simp only[J,if_true];cases E:dw P conv (sup C) ops ops.toList s with
  |none=>rw[E]at e;cases e
  |some q=>
   obtain⟨k,O⟩:=qX G _ _ _ E;rw[E]at e;exact⟨k,by rw[O];exact e⟩
 .cases e
theorem Ik{B:Nat->St->Option (Ex×St)}{b:St->Option (Ex×St)}(E:∀k m,k<=m->∀s r,B k s=some r->B m s=some r)(h:∀s r,b s=some r->∃k,B k s=some r) :
  ∀(n:Nat) (s:St) (r:Ex×St),dM b n s=some r->∃k,dM (B k) n s=some r
 |0,s,r,e=>by cases e
 |n+1,s,r,e=>by
  unfold dM at e
  split at e
  .rename_i s' hb
   obtain⟨k,G⟩:=h _ _ hb;obtain⟨m,hm⟩:=Ik E h n s' r e;refine⟨max k m,?_⟩;unfold dM;simp only[E k _ (wQ k m) _ _ G];exact qg (E m _ (xK k m)) n s' r hm
  .rename_i J
   obtain⟨k,G⟩:=h _ _ e;refine⟨k,?_⟩;unfold dM;rw[G];obtain⟨ex,O⟩:=r;cases ex with
   |norm=>exact absurd e (J O)
   |exit id=>rfl
   |ret=>rfl
theorem PG{C:Nat->Call}(Y:Chain C):∀(J:Code) (s:St) (r:Ex×St),bF P conv (sup C) J s=some r->∃k,aK P conv (C k) k J s=some r:=by
 intro J
 induction J with
 |region id ops draw=>
  intro s r e;simp only[aK,bF]at *;cases draw with
  |true=>
   simp only[if_true]at *;cases E:eu P conv (sup C) ops s with
   |none=>rw[E]at e;cases e
   |some q=>obtain⟨k,G⟩:=TL Y E;rw[E]at e;exact⟨k,by rw[G];exact e⟩
  |false=>
   simp only[yR,if_false]at *;cases E:dR P conv (sup C) ops ops.toList s with
   |none=>rw[E]at e;cases e
   |some q=>obtain⟨k,G⟩:=ER Y _ _ _ E;rw[E]at e;exact⟨k,by rw[G];exact e⟩
 |seq a b O S=>
  intro s r e;simp only[aK,bF]at *;cases E:bF P conv (sup C) a s with
  |none=>rw[E]at e;cases e
  |some q=>
   rw[E]at e;obtain⟨k,G⟩:=O _ _ E;obtain⟨ex,s1⟩:=q;cases ex with
   |norm=>
    obtain⟨m,hm⟩:=S _ _ e;exact⟨max k m,by rw[qo (Y.le (wQ k m)) (wQ k m) _ _ _ G];exact qo (Y.le (xK k m)) (xK k m) _ _ _ hm⟩
   |exit id=>exact⟨k,by rw[G];exact e⟩
   |ret=>exact⟨k,by rw[G];exact e⟩
 |cond v a b O S=>
  intro s r e;simp only[aK,bF]at *
  split at e
  .rename_i hv;simp only[hv];exact O _ _ e
  .rename_i hv;simp only[hv];exact S _ _ e
  .cases e
 |block id J ih=>
  intro s r e;simp only[aK,bF]at *;cases E:bF P conv (sup C) J s with
  |none=>rw[E]at e;cases e
  |some q=>obtain⟨k,G⟩:=ih _ _ E;rw[E]at e;exact⟨k,by rw[G];exact e⟩
 |loop J ih=>
  intro s r e;simp only[aK,bF]at *;obtain⟨n,hn⟩:=qh.1 e;obtain⟨k,G⟩:=Ik (B:=fun k=>aK P conv (C k) k J) (fun k m a1 s r=>qo (Y.le a1) a1 J s r) (fun s r h=>ih s r h) n s r hn;refine⟨max n k,?_⟩;exact Az (wQ n k) (qg (fun s r=>qo (Y.le (xK n k)) (xK n k) J s r) n s r G)
 |skip=>intro s r e;exact⟨0,e⟩
 |exit id=>intro s r e;exact⟨0,e⟩
 |ret=>intro s r e;exact⟨0,e⟩
 |_=>intro s r e;simp only[bF]at e;cases e
theorem XT{c c':Call}(h:CLe c c'){n m:Nat}(E:n<=m){fn:Func}{body:Code}{args:List V}{σ:Store}{nx:Nat}{r:V×Store×Nat}(e:CJ P conv c n fn body args σ nx=some r):CJ P conv c' m fn body args σ nx=some r:=by
 unfold CJ at *;cases G:aK P conv c n body ⟨gX args,σ,nx⟩with
 |none=>rw[G]at e;cases e
 |some q=>rw[G]at e;rw[qo h E _ _ _ G];exact e
theorem ql(ext:Ext):Chain (XM P conv ext):=by
 intro k
 induction k with
 |zero=>intro f args σ nx r e;cases e
 |succ k G=>
  intro f args σ nx r e;unfold XM at e⊢
  split at e
  .exact e
  .rename_i J
   split at e
   .rename_i fn O
    try simp only[J]
    split at e
    .rename_i body hb
     try simp only[hb]
     split at e
     .rename_i E
      rw[uf E];exact XT G (Nat.le_succ k) e
     .cases e
    .cases e
   .cases e
noncomputable def ev(P:Program)(conv:FuncId->Conv)(ext:Ext):Call:=sup (XM P conv ext)
theorem qM(hm:P.follows .mixedOrders=true){ext:Ext}(E:DI P ext):gY P (ev P conv ext):=fun f args σ nx v σ' nx' h=>by
 obtain⟨k,G⟩:=(jL (ql ext)).1 h;exact KO hm E k f args σ nx v σ' nx' G
noncomputable def PI(P:Program)(conv:FuncId->Conv)(call:Call)(rs:List ResultVar)(body:Code)(s:St):FU :=
 match bF P conv call body s with
 |some (.norm,st)=>match aU P st.T st.σ rs with
  |some vs=>some (oneOf vs,st.σ,st.nx)
  |none=>none
 |some (.ret,st)=>match aU P st.T st.σ rs with
  |some vs=>some (oneOf vs,st.σ,st.nx)
  |none=>none
 |_=>none
theorem qN{ext:Ext}{f:FuncId}{g:List V->Store->Nat->FU}(G:ext f=some g)(args:List V)(σ:Store)(nx:Nat):ev P conv ext f args σ nx=g args σ nx:=by
 apply Option.ext;intro r;unfold ev;rw[jL (ql ext)];constructor
 .rintro ⟨k,E⟩
  cases k with
  |zero=>cases E
  |succ k=>unfold XM at E;simpa only[G]using E
 .intro h
  exact⟨1,by unfold XM;simpa only[G]using h⟩
theorem agR{ext:Ext}{f:FuncId}{fn:Func}{body:Code}{rs:List ResultVar}(O:ext f=none)(S:P.funcs[f]?=some fn)(hb:fn.body=some body)(Y:fn.results.toList=rs){args:List V}(J:Pn fn body args.length=true)(σ:Store)(nx:Nat) :
  ev P conv ext f args σ nx=PI P conv (ev P conv ext) rs body ⟨gX args,σ,nx⟩:=by
 apply Option.ext;intro r;unfold ev;rw[jL (ql ext)];constructor
 .rintro ⟨k,E⟩
  cases k with
  |zero=>cases E
  |succ k=>
   unfold XM at E;simp only[O,S,hb,J,if_true]at E;unfold CJ at E;unfold PI;cases G:aK P conv (XM P conv ext k) k body ⟨gX args,σ,nx⟩with
   |none=>rw[G]at E;cases E
   |some q=>
    rw[G]at E;rw[TJ (c':=sup (XM P conv ext)) (fun f args σ nx r e=>(jL (ql ext)).2 ⟨k,e⟩) _ _ _ G,<- Y];exact E
 .intro h
  unfold PI at h;cases G:bF P conv (sup (XM P conv ext)) body ⟨gX args,σ,nx⟩with
  |none=>rw[G]at h;cases h
  |some q=>
   rw[G]at h;obtain⟨k,E⟩:=PG (ql ext) _ _ _ G;refine⟨k+1,?_⟩;unfold XM;simp only[O,S,hb,J,if_true];unfold CJ;rw[E,Y];exact h
end
end Go.TV
namespace Go.TV
set_option linter.unusedVariables false
set_option linter.unusedSimpArgs false
variable [Known]
structure TyI where
 ok:Bool
 agg:Bool
 size:Nat
 zero:List V
 slice:Bool
 str:Bool
 ptr:Bool
 CW:Nat
 Nb:Nat
 BD:List V
 PK:Bool
 aas:List (Nat×Nat×Option Bool)
 plc:List (Nat×Nat)
 bok:Bool
 u8:Bool
def zeroV(i:TypeInfo):List V :=
 match i.zero with
 |some z=>if z.cells.size=i.size then z.cells.toList.map dK else []
 |none=>[]
def ES(i:TypeInfo):Bool :=
 match i.zero with
 |some z=>z.cells.size=i.size
 |none=>false
def ajY(P:Program)(t:TypeId):Option Bool:=(P.underlying t).map C9
def aN(P:Program)(t:TypeId):TyI :=
 match P.info? t,P.underlying t with
 |some i,some d=>
  let e:=match d with
   | .slice e=>P.info? e
   |_=>none
  {ok:=true,agg:=C9 d,size:=i.size,zero:=if ES i then zeroV i else [],slice:=d matches .slice _,str:=d matches .string,ptr:=d matches .pointer _,
   CW:=(e.map (·.size)).getD 0,Nb:=(e.map (·.bytes)).getD 0,BD:=(e.map zeroV).getD [],PK:=(e.map ES).getD false,
   aas:=match d with
    | .struct fs=>fs.toList.map fun f=>(f.offset,((P.info? f.type).map (·.size)).getD 0,(ajY P f.type))
    |_=>[]
   plc:=match d with
    | .struct fs=>((aI P (fs.mapM fun f=>do pure (f.offset,<- sizeOf f.type))).map (·.toList)).getD []
    |_=>[]
   bok:=match d with
    | .struct fs=>(aI P (fs.mapM fun f=>do pure (f.offset,<- sizeOf f.type))).isSome && ES i
    |_=>false
   u8:=match d with
    | .slice e=>(P.underlying e matches some (.int .u8)) && ((P.info? e).map (·.size))==some 1
    |_=>false }
 |_,_=>⟨false,false,0,[],false,false,false,0,0,[],false,[],[],false,false⟩
section
variable {P:Program} {conv:FuncId->Conv} {call:Call} {σ:Store} {nx:Nat}
theorem iq{t:TypeId}(h:(aN P t).ok=true):∃i d,P.info? t=some i/\P.underlying t=some d/\(aN P t).agg=C9 d/\(aN P t).size=i.size:=by
 unfold aN at h⊢;cases hi:P.info? t with
 |none=>simp[hi]at h
 |some i=>
  cases E:P.underlying t with
  |none=>simp[hi,E]at h
  |some d=>exact⟨i,d,rfl,rfl,rfl,rfl⟩
theorem ig{t:TypeId}(h:(aN P t).slice=true)(E:(aN P t).PK=true):∃e i z,P.underlying t=some (.slice e)/\P.info? e=some i/\i.zero=some z/\z.cells.size=i.size/\(aN P t).CW=i.size/\(aN P t).Nb=i.bytes/\(aN P t).BD=z.cells.toList.map dK:=by
 unfold aN at h E⊢;cases hi:P.info? t with
 |none=>simp[hi]at h
 |some i=>
  cases O:P.underlying t with
  |none=>simp[hi,O]at h
  |some d=>
   simp only[hi,O]at h E⊢;cases d<;>simp at h;rename_i e;simp only at E⊢;cases G:P.info? e with
   |none=>simp[G]at E
   |some S=>
    simp only[G,zT,yJ]at E⊢;unfold ES at E;cases J:S.zero with
    |none=>simp[J]at E
    |some z=>
     simp only[J,decide_eq_true_eq]at E;exact⟨e,S,z,rfl,G,J,E,rfl,rfl,by simp[zeroV,J,E]⟩
theorem XU{t:TypeId}{row:List V}{off:Nat}(h:(aN P t).ok=true)(ha:(aN P t).agg=false):bU P σ t (.tp row off)=row[off]?:=by
 obtain⟨i,d,J,O,E,S⟩:=iq h;rw[ha]at E;unfold bU;simp only[J,O,<- E,yR,if_false,gI]
 by_cases G:off<row.length
 .rw[uf (by omega),zy G]
  have:(row.drop off).take 1=[row[off]]:=by
   rw[yQ G];rfl
  rw[this]
 .rw[ug (by omega),yZ (by omega)]
theorem TM{t:TypeId}{row:List V}{off:Nat}(h:(aN P t).ok=true)(ha:(aN P t).agg=true):bU P σ t (.tp row off)=if off+(aN P t).size<=row.length then some (.agg ((row.drop off).take (aN P t).size))else none:=by
 obtain⟨i,d,G,J,E,O⟩:=iq h;rw[ha]at E;unfold bU;simp only[G,J,<- E,if_true,gI,O]
 split<;>rfl
theorem XV{t:TypeId}{b off:Nat}(h:(aN P t).ok=true)(ha:(aN P t).agg=false):bU P σ t (.rp b off)=(σ b).bind fun B=>B.cells[off]?:=by
 obtain⟨i,d,J,O,E,S⟩:=iq h;rw[ha]at E;unfold bU;simp only[J,O,<- E,yR,if_false,gI];cases σ b with
 |none=>rfl
 |some B=>
  simp only[zl]
  by_cases G:off<B.cells.length
  .rw[uf (by omega),zy G]
   have:(B.cells.drop off).take 1=[B.cells[off]]:=by
    rw[yQ G];rfl
   rw[this]
  .rw[ug (by omega),yZ (by omega)]
theorem TN{t:TypeId}{b off:Nat}(h:(aN P t).ok=true)(ha:(aN P t).agg=true):bU P σ t (.rp b off)=(σ b).bind fun B=>if off+(aN P t).size<=B.cells.length then some (.agg ((B.cells.drop off).take (aN P t).size))else none:=by
 obtain⟨i,d,G,J,E,O⟩:=iq h;rw[ha]at E;unfold bU;simp only[G,J,<- E,if_true,gI,O];cases σ b with
 |none=>rfl
 |some B=>simp only[zl];split<;>rfl
theorem TP{t:TypeId}{b off:Nat}{v:V}(h:(aN P t).ok=true)(hc:aJ v=true)(hs:(aN P t).size=1):fJ P σ t (.rp b off) v=(σ b).bind fun B=>if B.wr=true/\off<B.cells.length then some (upd σ b (some { B with cells:=B.cells.set off v }))else none:=by
 obtain⟨i,d,G,O,S,E⟩:=iq h;rw[hs]at E;have J:cellsOfV v=some [v]:=by cases v<;>simp_all [cellsOfV,aJ]
 unfold fJ;simp only[G,J,<- E,yT,xH,xG,hc,Bool.and_true,and_true,true_and,patch];cases σ b with
 |none=>rfl
 |some B=>simp only[zl];rfl
theorem PL{t:TypeId}{b off:Nat}{vs:List V}(h:(aN P t).ok=true):fJ P σ t (.rp b off) (.agg vs)=(σ b).bind fun B=>if B.wr=true/\vs.length=(aN P t).size/\off+vs.length<=B.cells.length/\vs.all aJ=true then some (upd σ b (some { B with cells:=patch B.cells off vs }))else none:=by
 obtain⟨i,d,E,J,O,G⟩:=iq h;unfold fJ;simp only[E,G,cellsOfV];cases σ b with
 |none=>rfl
 |some B=>simp only[zl]
theorem KQ{t:TypeId}{f:Nat}(h:(aN P t).ok=true) :
  (∃fields fd,P.underlying t=some (.struct fields)/\fields[f]?=some fd/\(aN P t).aas[f]?=some (fd.offset,((P.info? fd.type).map (·.size)).getD 0,ajY P fd.type)) \/
  ((aN P t).aas[f]?=none/\∀fields,P.underlying t=some (.struct fields)->fields[f]?=none):=by
 obtain⟨i,d,J,O,S,Y⟩:=iq h;unfold aN;simp only[J,O];cases d<;>try (refine .inr ⟨rfl,fun fields e=>by cases e⟩)
 rename_i E;simp only[yg,yN];cases G:E[f]? with
 |none=>exact .inr ⟨rfl,fun fields e=>by cases e;exact G⟩
 |some fd=>exact .inl ⟨E,fd,rfl,G,rfl⟩
theorem TS{t:TypeId}{row:List V}{off f:Nat}(h:(aN P t).ok=true):dG P t (.tp row off) f=((aN P t).aas[f]?).bind fun p=>if p.2.1=0 then none else some (.tp row (off+p.1)):=by
 rcases KQ (f:=f) h with ⟨fields,fd,E,G,J⟩|⟨E,G⟩
 .unfold dG
  simp only[E,G,J,zl];cases P.info? fd.type<;>rfl
 .unfold dG
  rw[E];cases hu:P.underlying t with
  |none=>rfl
  |some d=>cases d<;>first|(simp;done)|(rename_i O;simp[G O hu])
theorem TT{t:TypeId}{b off f:Nat}(h:(aN P t).ok=true):dG P t (.rp b off) f=((aN P t).aas[f]?).bind fun p=>if p.2.1=0 then none else some (.rp b (off+p.1)):=by
 rcases KQ (f:=f) h with ⟨fields,fd,E,G,J⟩|⟨E,G⟩
 .unfold dG
  simp only[E,G,J,zl];cases P.info? fd.type<;>rfl
 .unfold dG
  rw[E];cases hu:P.underlying t with
  |none=>rfl
  |some d=>cases d<;>first|(simp;done)|(rename_i O;simp[G O hu])
theorem TU{t:TypeId}{row:List V}{len:Nat}{k:IntKind}{i:Int}(h:(aN P t).slice=true)(E:(aN P t).PK=true):dY P t (.ts row len) (.sc (.int k i))=if 0<=i/\i<len/\row≠[]then some (.tp row (i.toNat *(aN P t).CW))else none:=by
 obtain⟨e,S,z,G,J,_,_,O,_,_⟩:=ig h E;unfold dY;simp only[G,J,O]
theorem TW{t:TypeId}{b off len:Nat}{k:IntKind}{i:Int}(h:(aN P t).slice=true)(E:(aN P t).PK=true):dY P t (.rs b off len) (.sc (.int k i))=if 0<=i/\i<len then some (.rp b (off+i.toNat *(aN P t).CW))else none:=by
 obtain⟨e,S,z,G,J,_,_,O,_,_⟩:=ig h E;unfold dY;simp only[G,J,O]
theorem XW{t:TypeId}{l c:Int}(h:(aN P t).slice=true)(J:(aN P t).PK=true)(E:decide ((aN P t).CW<1000000)=true):AB P t (.sc (.int .i64 l)) (.sc (.int .i64 c)) σ nx=
  if 0<=l/\l<=c/\((aN P t).Nb:Int)*c<=281474976710656/\c<=9223372036854775807/\0<(aN P t).CW then some (.rs nx 0 l.toNat,bG σ nx (rep l.toNat (aN P t).BD) (aN P t).CW,nx+1)else none:=by
 obtain⟨e,ei,z,O,S,Y,h4,G,h6,h7⟩:=ig h J;unfold AB;rw[decide_eq_true_eq]at E;simp only[G]at E;simp only[O,S,Y,G,h6,h7,h4,and_true,E]
theorem qp{t:TypeId}{len:Nat}{parts:List (Nat×V)}(h:(aN P t).slice=true)(G:(aN P t).PK=true):dO P t len parts σ nx=
  if len=0 then some (.nil,σ,nx)else if 0<(aN P t).CW/\len*(aN P t).CW<=1000 then
   match fB (fun j=>some (j*(aN P t).CW,(aN P t).CW)) (rep len (aN P t).BD) parts with
   |some cells=>some (.rs nx 0 len,bG σ nx cells (aN P t).CW,nx+1)
   |none=>none
  else none:=by
 obtain⟨e,E,z,J,O,S,Y,h5,h6,h7⟩:=ig h G;unfold dO;simp only[J,O,S,h5,h6,h7,Y,and_true];cases fB (fun j=>some (j*E.size,E.size)) (rep len (z.cells.toList.map dK)) parts<;>rfl
theorem TX{t:TypeId}{parts:List (Nat×V)}(h:(aN P t).bok=true):BK P t parts=(fB (fun i=>(aN P t).plc[i]?) (aN P t).zero parts).map .agg:=by
 unfold aN at h⊢;cases hi:P.info? t with
 |none=>simp[hi]at h
 |some i=>
  cases G:P.underlying t with
  |none=>simp[hi,G]at h
  |some d=>
   simp only[hi,G]at h⊢;cases d<;>simp only[yR]at h;rename_i S;rw[zV]at h;obtain⟨O,E⟩:=h;simp only[E,if_true];cases hm:aI P (S.mapM fun f=>do pure (f.offset,<- sizeOf f.type))with
   |none=>rw[hm]at O;cases O
   |some a=>
    unfold ES at E;cases J:i.zero with
    |none=>simp[J]at E
    |some z=>
     simp only[J,decide_eq_true_eq]at E;unfold BK places;simp only[hi,G,hm,zT,yJ,J,zeroV,E,if_true,yN]
theorem PN{t:TypeId}{s x:V}(h:(aN P t).slice=true)(J:(aN P t).PK=true)(hs:decide (0<(aN P t).CW)=true)(E:decide ((aN P t).CW<1000000)=true):pI P #[t,t] s x σ nx=
  (rowOf σ (aN P t).CW x).bind fun p=>bC σ nx (aN P t).CW (aN P t).Nb s p.1 p.2:=by
 obtain⟨e,O,z,S,Y,h3,h4,G,h6,h7⟩:=ig h J;rw[G]at hs E;simp only[decide_eq_true_eq]at hs E;unfold pI;simp only[xW,xR,uy,S,beq_self_eq_true,Y,h3,G,h6,h4,hs,E,and_self,if_true];cases rowOf σ O.size x<;>rfl
def Di(σ:Store)(nx:Nat)(row:List V)(m:Nat):V->FU
 | .rs b off len=>if min m len=0 then some (.sc (.int .i64 0),σ,nx)else(σ b).bind fun B=>
   if B.wr=true/\off+min m len<=B.cells.length/\(row.take (min m len)).all aJ=true then
    some (.sc (.int .i64 (min m len:Nat)),upd σ b (some { B with cells:=patch B.cells off (row.take (min m len)) }),nx)else none
 | .nil=>some (.sc (.int .i64 0),σ,nx)
 |_=>none
def BM(σ:Store)(nx:Nat)(z:List V):V->FU
 | .rs b off len=>if len=0 then some (.dF [],σ,nx)else(σ b).bind fun B=>
   if B.wr=true/\off+len<=B.cells.length/\(rep len z).all aJ=true then
    some (.dF [],upd σ b (some { B with cells:=patch B.cells off (rep len z) }),nx)else none
 | .nil=>some (.dF [],σ,nx)
 | .ts _ len=>if len=0 then some (.dF [],σ,nx)else none
 |_=>none
theorem XY{t t2:TypeId}{d x:V}(h:(aN P t).slice=true)(E:(aN P t).PK=true)(hs:(aN P t).CW=1):CG P #[t,t2] d x σ nx=(rowOf σ 1 x).bind fun p=>Di σ nx p.1 p.2 d:=by
 obtain⟨e,S,z,G,J,Y,h4,O,h6,h7⟩:=ig h E;rw[O]at hs;unfold CG Di;simp only[xW,xR,G,J];cases rowOf σ 1 x with
 |none=>rfl
 |some p=>
  obtain⟨row,m⟩:=p;simp only[hs,xO,zi,yw,zl];rw[uf ⟨trivial,trivial⟩];cases d<;>try rfl
  rename_i b off len;simp only
  split
  .rfl
  .cases σ b<;>rfl
theorem TY{t:TypeId}{d:V}(h:(aN P t).slice=true)(E:(aN P t).PK=true)(hs:(aN P t).CW=1):BL P #[t] d σ nx=BM σ nx (aN P t).BD d:=by
 obtain⟨e,ei,z,G,J,O,S,Y,h6,h7⟩:=ig h E;rw[Y]at hs;unfold BL BM;rw[h7];simp only[xW,xR,G,J,O,S,hs];rw[uf ⟨trivial,trivial⟩];cases d<;>try rfl
 rename_i b off len;simp only
 split
 .rfl
 .cases σ b<;>rfl
theorem aat{t:TypeId}{row:List V}{len:Nat}(h:(aN P t).slice=true):Ar P t (.ts row len)=some (.sc (.int .i64 len)):=by
 unfold aN at h;cases hi:P.info? t with
 |none=>simp[hi]at h
 |some i=>
  cases E:P.underlying t with
  |none=>simp[hi,E]at h
  |some d=>simp only[hi,E]at h;cases d<;>simp at h;simp[Ar,E]
theorem PO{t:TypeId}{b off len:Nat}(h:(aN P t).slice=true):Ar P t (.rs b off len)=some (.sc (.int .i64 len)):=by
 unfold aN at h;cases hi:P.info? t with
 |none=>simp[hi]at h
 |some i=>
  cases E:P.underlying t with
  |none=>simp[hi,E]at h
  |some d=>simp only[hi,E]at h;cases d<;>simp at h;simp[Ar,E]
theorem KR{t:TypeId}(h:(aN P t).slice=true):Ar P t .nil=some (.sc (.int .i64 0)):=by
 unfold aN at h;cases hi:P.info? t with
 |none=>simp[hi]at h
 |some i=>
  cases E:P.underlying t with
  |none=>simp[hi,E]at h
  |some d=>simp only[hi,E]at h;cases d<;>simp at h;simp[Ar,E]
theorem G6{t:TypeId}(h:(aN P t).str=true):P.underlying t=some .string:=by
 unfold aN at h;cases hi:P.info? t with
 |none=>simp[hi]at h
 |some i=>
  cases E:P.underlying t with
  |none=>simp[hi,E]at h
  |some d=>simp only[hi,E]at h;cases d<;>simp at h;rfl
theorem XZ{t:TypeId}{s:ByteArray}(h:(aN P t).str=true):Ar P t (.sc (.string s))=some (.sc (.int .i64 s.size)):=by
 simp[Ar,G6 h]
theorem X3{t:TypeId}{s:ByteArray}{k:IntKind}{i:Int}(h:(aN P t).str=true):CV P t (.sc (.string s)) (.sc (.int k i))=(if 0<=i then s[i.toNat]? else none).map fun b=> .sc (.int .u8 b.toNat):=by
 unfold CV;simp only[G6 h]
 split<;>rename_i e<;>rw[e]<;>rfl
theorem PS{t:TypeId}{s:ByteArray}{lo hi:Option V}(h:(aN P t).str=true):bK P t (.sc (.string s)) lo hi none σ=(bnd lo 0).bind fun l=>(bnd hi s.size).bind fun h=>if l<=h/\h<=s.size then some (.sc (.string (s.extract l h)))else none:=by
 unfold bK;simp only[G6 h];cases bnd lo 0<;>cases bnd hi s.size<;>rfl
theorem T_{t:TypeId}{row:List V}{len:Nat}{lo hi:Option V}(h:(aN P t).slice=true)(E:(aN P t).PK=true):bK P t (.ts row len) lo hi none σ=(bnd lo 0).bind fun l=>(bnd hi len).bind fun h=>if l<=h/\h<=len then some (.ts ((row.drop (l*(aN P t).CW)).take ((h-l)*(aN P t).CW)) (h-l))else none:=by
 obtain⟨e,S,z,G,J,Y,h4,O,h6,h7⟩:=ig h E;unfold bK;simp only[G,J,O];cases bnd lo 0<;>cases bnd hi len<;>rfl
theorem Ua{t:TypeId}{b off len:Nat}{lo hi:Option V}(h:(aN P t).slice=true)(E:(aN P t).PK=true):bK P t (.rs b off len) lo hi none σ=(bnd lo 0).bind fun l=>(bnd hi len).bind fun h=>(σ b).bind fun B=>
  if l<=h/\0<(aN P t).CW/\B.st=(aN P t).CW/\off+h*(aN P t).CW<=B.cells.length then
   if l=0 then some (.rs b off h)else if l=h then some (.ts [] 0)else some (.rs b (off+l*(aN P t).CW) (h-l))else none:=by
 obtain⟨e,S,z,G,J,Y,h4,O,h6,h7⟩:=ig h E;unfold bK;simp only[G,J,O];cases bnd lo 0<;>cases bnd hi len<;>cases σ b<;>rfl
section
variable {t:TypeId} {x y:Operand} {k:IntKind} {a b:Int}
theorem ahg:bD P .add t x y (.sc (.int k a)) (.sc (.int k b))=some (.sc (.int k (k.wrap (a+b)))):=by
 simp only[bD,toVal,eqGuard_add,binOp_add,Op.intArith];rfl
theorem ahh:bD P .sub t x y (.sc (.int k a)) (.sc (.int k b))=some (.sc (.int k (k.wrap (a-b)))):=by
 simp only[bD,toVal,eqGuard_sub,binOp_sub,Op.intArith];rfl
theorem ahi:bD P .mul t x y (.sc (.int k a)) (.sc (.int k b))=some (.sc (.int k (k.wrap (a*b)))):=by
 simp only[bD,toVal,eqGuard_mul,binOp_mul,Op.intArith];rfl
theorem ahj(h:b≠0):bD P .quo t x y (.sc (.int k a)) (.sc (.int k b))=some (.sc (.int k (k.wrap (a.tdiv b)))):=by
 simp only[bD,toVal,eqGuard_quo,binOp_quo,Op.intDiv,ug h];rfl
theorem ahk(h:b≠0):bD P .rem t x y (.sc (.int k a)) (.sc (.int k b))=some (.sc (.int k (a.tmod b))):=by
 simp only[bD,toVal,eqGuard_rem,binOp_rem,Op.intDiv,ug h];rfl
theorem ahl:bD P .eql t x y (.sc (.int k a)) (.sc (.int k b))=some (.sc (.bool (a==b))):=by
 simp only[bD,toVal,eqGuard_at_int,binOp_eql];rfl
theorem ahm:bD P .neq t x y (.sc (.int k a)) (.sc (.int k b))=some (.sc (.bool (a !=b))):=by
 simp only[bD,toVal,eqGuard_at_int,binOp_neq];rfl
theorem ahn:bD P .lss t x y (.sc (.int k a)) (.sc (.int k b))=some (.sc (.bool (decide (a<b)))):=by
 simp only[bD,toVal,eqGuard_lss,binOp_lss];rfl
theorem aho:bD P .leq t x y (.sc (.int k a)) (.sc (.int k b))=some (.sc (.bool (decide (a<=b)))):=by
 simp only[bD,toVal,eqGuard_leq,binOp_leq];rfl
theorem ahp:bD P .gtr t x y (.sc (.int k a)) (.sc (.int k b))=some (.sc (.bool (decide (b<a)))):=by
 simp only[bD,toVal,eqGuard_gtr,binOp_gtr];rfl
theorem ahq:bD P .geq t x y (.sc (.int k a)) (.sc (.int k b))=some (.sc (.bool (decide (b<=a)))):=by
 simp only[bD,toVal,eqGuard_geq,binOp_geq];rfl
theorem ahr{p:Bool}:Td P .not (.sc (.bool p))=some (.sc (.bool !p)):=rfl
theorem ahs:Td P .neg (.sc (.int k a))=some (.sc (.int k (k.wrap (0-a)))):=rfl
end
end
end Go.TV
namespace Go.TV
set_option linter.unusedVariables false
set_option linter.unusedSimpArgs false
variable [Known]
section
variable {P:Program} {conv:FuncId->Conv} {call:Call}
def aau(P:Program)(conv:FuncId->Conv)(call:Call)(ops:Array Oper)(rest:List Oper)(T:Nat->V)(d:Option Tmp):FU->Option St
 |some (v,σ,nx)=>dR P conv call ops rest ⟨fC T d v,σ,nx⟩
 |none=>none
def ad8(P:Program)(conv:FuncId->Conv)(call:Call)(ops:Array Oper)(rest:List Oper)(o:Oper)(s:St):Option Bool->Option St
 |some true=>aau P conv call ops rest s.T o.dst (bH P conv call o s.T s.σ s.nx)
 |some false=>dR P conv call ops rest ⟨fC s.T o.dst (.dF []),s.σ,s.nx⟩
 |none=>none
theorem X4(ops:Array Oper)(s:St):dR P conv call ops [] s=some s:=rfl
theorem Ub(ops:Array Oper)(d:Option Tmp)(op:Op)(ty:TypeId)(ps:String)(af:Array Edge)(rest:List Oper)(T:Nat->V)(σ:Store)(nx:Nat) :
  dR P conv call ops (⟨d,op,ty,ps,af,none⟩ :: rest) ⟨T,σ,nx⟩=aau P conv call ops rest T d (bH P conv call ⟨d,op,ty,ps,af,none⟩ T σ nx):=by
 show(match bH P conv call ⟨d,op,ty,ps,af,none⟩ T σ nx with|some (v,σ',nx')=>_|none=>none)=_;cases bH P conv call ⟨d,op,ty,ps,af,none⟩ T σ nx<;>rfl
theorem PU(ops:Array Oper)(d:Option Tmp)(op:Op)(ty:TypeId)(ps:String)(af:Array Edge)(g:Nat×Bool)(rest:List Oper)(T:Nat->V)(σ:Store)(nx:Nat) :
  dR P conv call ops (⟨d,op,ty,ps,af,some g⟩ :: rest) ⟨T,σ,nx⟩=ad8 P conv call ops rest ⟨d,op,ty,ps,af,some g⟩ ⟨T,σ,nx⟩ (cO ops T ⟨d,op,ty,ps,af,some g⟩):=by
 show(match cO ops T ⟨d,op,ty,ps,af,some g⟩with|some true=>_|some false=>_|none=>none)=_;cases cO ops T ⟨d,op,ty,ps,af,some g⟩with
 |none=>rfl
 |some b=>
  cases b with
  |false=>rfl
  |true=>
   simp only[ad8];cases bH P conv call ⟨d,op,ty,ps,af,some g⟩ T σ nx<;>rfl
theorem X5(ops:Array Oper)(rest:List Oper)(T:Nat->V)(d:Tmp)(v:V)(σ:Store)(nx:Nat):aau P conv call ops rest T (some d) (some (v,σ,nx))=dR P conv call ops rest ⟨upd T d v,σ,nx⟩:=rfl
theorem X6(ops:Array Oper)(rest:List Oper)(T:Nat->V)(v:V)(σ:Store)(nx:Nat):aau P conv call ops rest T none (some (v,σ,nx))=dR P conv call ops rest ⟨T,σ,nx⟩:=rfl
theorem X7(ops:Array Oper)(rest:List Oper)(d:Option Tmp)(op:Op)(ty:TypeId)(ps:String)(af:Array Edge)(g:Option (Nat×Bool))(T:Nat->V)(σ:Store)(nx:Nat) :
  ad8 P conv call ops rest ⟨d,op,ty,ps,af,g⟩ ⟨T,σ,nx⟩ (some true)=aau P conv call ops rest T d (bH P conv call ⟨d,op,ty,ps,af,g⟩ T σ nx):=rfl
theorem Uc(ops:Array Oper)(rest:List Oper)(d:Tmp)(op:Op)(ty:TypeId)(ps:String)(af:Array Edge)(g:Option (Nat×Bool))(T:Nat->V)(σ:Store)(nx:Nat) :
  ad8 P conv call ops rest ⟨some d,op,ty,ps,af,g⟩ ⟨T,σ,nx⟩ (some false)=dR P conv call ops rest ⟨upd T d (.dF []),σ,nx⟩:=rfl
def Nc(want:Bool):V->Option Bool
 | .sc (.bool b)=>some (b==want)
 | .dF []=>some false
 |_=>none
theorem Nh(ops:Array Oper)(d:Option Tmp)(op:Op)(ty:TypeId)(ps:String)(af:Array Edge)(j:Nat)(want:Bool)(T:Nat->V) :
  cO ops T ⟨d,op,ty,ps,af,some (j,want)⟩=match(ops[j]?).bind (·.dst)with|some d=>Nc want (T d)|none=>some false:=by
 unfold cO Nc;rfl
theorem PV(want b:Bool):Nc want (.sc (.bool b))=some (b==want):=rfl
theorem Nj(want:Bool):Nc want (.dF [])=some false:=rfl
theorem ad9(T:Nat->V)(t:Tmp):val T (.tmp t)=T t:=rfl
theorem X8(T:Nat->V)(v:Value):val T (.const v)=CY v:=rfl
theorem aav(T:Nat->V)(f:FuncId):val T (.func f)= .clo f []:=rfl
section
variable (d:Option Tmp) (ty:TypeId) (ps:String) (af:Array Edge) (gd:Option (Nat×Bool)) (T:Nat->V) (σ:Store) (nx:Nat)
theorem ad_(x:Operand):bH P conv call ⟨d,.move x,ty,ps,af,gd⟩ T σ nx=some (val T x,σ,nx):=rfl
theorem X9(x:Operand):bH P conv call ⟨d,.assign x,ty,ps,af,gd⟩ T σ nx=some (val T x,σ,nx):=rfl
def Wx(a b:V):V->Option V
 | .sc (.bool t)=>some (if t then a else b)
 |_=>none
theorem Wy(c a b:Operand):bH P conv call ⟨d,.pick c a b,ty,ps,af,gd⟩ T σ nx=(Wx (val T a) (val T b) (val T c)).map (·,σ,nx):=by
 simp only[bH];unfold Wx
 split<;>simp_all
theorem Ud(a b:V)(t:Bool):Wx a b (.sc (.bool t))=some (if t then a else b):=rfl
theorem ajZ:isB []=false:=id rfl
theorem aj0(v:V):isB [v]=false:=id rfl
theorem aj1(u v w:V)(l:List V):isB (u :: v :: w :: l)=false:=id rfl
theorem aht(v w:V):isB [v,w]=(isP v && isN w):=id rfl
theorem aea:isP .nil=false:=id rfl
theorem aeb(k:IntKind)(n:Int):isP (.sc (.int k n))=false:=id rfl
theorem aaw(b:Bool):isP (.sc (.bool b))=false:=id rfl
theorem Ue(b:ByteArray):isP (.sc (.string b))=false:=id rfl
theorem aax:isP (.sc (.pointer none))=true:=id rfl
theorem aec:isN .nil=true:=id rfl
theorem ahu(v:Value):isN (.sc v)=false:=id rfl
theorem PW(t:TypeId)(h:(aN P t).ok=true)(E:decide ((aN P t).zero.length=(aN P t).size)=true)(J:decide (0<(aN P t).size)=true)(hb:isB (aN P t).zero=false):bH P conv call ⟨d,.alloc t,ty,ps,af,gd⟩ T σ nx=some (.rp nx 0,bG σ nx (aN P t).zero 0,nx+1):=by
 obtain⟨i,Y,O,S,h3,h4⟩:=iq h;simp only[bH,O];unfold aN at E J hb⊢;simp only[O,S,decide_eq_true_eq]at E J hb⊢;unfold ES zeroV at *;cases G:i.zero with
 |none=>simp[G]at E;omega
 |some z=>
  simp only[G]at E hb⊢
  by_cases hs:z.cells.size=i.size
  .simp only[hs,decide_true,if_true]at hb
   simp[hs,KH,hb]
  .simp[hs]at E;omega
theorem aay(t:TypeId)(x:Operand):bH P conv call ⟨d,.box t x,ty,ps,af,gd⟩ T σ nx=(cellsOfV (val T x)).map fun cs=>(.rp nx 0,bG σ nx cs 0,nx+1):=by
 simp only[bH];cases cellsOfV (val T x)<;>rfl
theorem aaz(t:TypeId)(parts:Array (Nat×Operand)):bH P conv call ⟨d,.build t parts,ty,ps,af,gd⟩ T σ nx=(BK P t (parts.toList.map fun p=>(p.1,val T p.2))).map (·,σ,nx):=rfl
theorem nD(t:TypeId)(len:Nat)(parts:Array (Nat×Operand))(h:(decide (len=0) && !parts.isEmpty)=false):bH P conv call ⟨d,.buildSlice t len parts,ty,ps,af,gd⟩ T σ nx=dO P t len (parts.toList.map fun p=>(p.1,val T p.2)) σ nx:=by
 simp only[bH,h,yR,if_false]
theorem aed(t:TypeId)(a:Operand):bH P conv call ⟨d,.load t a,ty,ps,af,gd⟩ T σ nx=(bU P σ t (val T a)).map (·,σ,nx):=rfl
theorem aaA(t:TypeId)(a x:Operand):bH P conv call ⟨d,.store t a x,ty,ps,af,gd⟩ T σ nx=(fJ P σ t (val T a) (val T x)).map (.dF [],·,nx):=rfl
def aaB:V->Option V
 | .tp row off=>some (.tp row off)
 | .rp b off=>some (.rp b off)
 |_=>none
theorem F7(x:Operand):bH P conv call ⟨d,.nilCheck x,ty,ps,af,gd⟩ T σ nx=(aaB (val T x)).map (·,σ,nx):=by
 simp only[bH];unfold aaB
 split<;>simp_all
theorem aee(row:List V)(off:Nat):aaB (.tp row off)=some (.tp row off):=rfl
theorem aef(b off:Nat):aaB (.rp b off)=some (.rp b off):=rfl
theorem aaC(op:BinOp)(t:TypeId)(x y:Operand)(E:TypeId):bH P conv call ⟨d,.binOp op t x y E,ty,ps,af,gd⟩ T σ nx=(bD P op t x y (val T x) (val T y)).map (·,σ,nx):=rfl
theorem aeg(op:UnOp)(t:TypeId)(x:Operand):bH P conv call ⟨d,.unOp op t x,ty,ps,af,gd⟩ T σ nx=(Td P op (val T x)).map (·,σ,nx):=rfl
theorem Uf(s e:TypeId)(x:Operand):bH P conv call ⟨d,.convert s e x,ty,ps,af,gd⟩ T σ nx=(dh P s e (val T x) σ).map (·,σ,nx):=rfl
theorem PX(f:FuncId)(cap:Array Operand):bH P conv call ⟨d,.makeFunc (.func f) #[] cap,ty,ps,af,gd⟩ T σ nx=some (.clo f (cap.toList.map (val T)),σ,nx):=rfl
theorem DJ(t:TypeId)(l c:Operand):bH P conv call ⟨d,.makeSlice t l c,ty,ps,af,gd⟩ T σ nx=AB P t (val T l) (val T c) σ nx:=rfl
theorem aaD(t:TypeId)(x:Operand)(lo hi E:Option Operand):bH P conv call ⟨d,.slice t x lo hi E,ty,ps,af,gd⟩ T σ nx=(bK P t (val T x) (lo.map (val T)) (hi.map (val T)) (E.map (val T)) σ).map (·,σ,nx):=rfl
theorem Nk(t:TypeId)(x:Operand)(f:Nat):bH P conv call ⟨d,.fieldAddr t x f,ty,ps,af,gd⟩ T σ nx=(dG P t (val T x) f).map (·,σ,nx):=rfl
theorem aaE(t:TypeId)(x:Operand)(f:Nat):bH P conv call ⟨d,.field t x f,ty,ps,af,gd⟩ T σ nx=(G5 P t (val T x) f).map (·,σ,nx):=rfl
theorem Nl(t:TypeId)(x i:Operand):bH P conv call ⟨d,.indexAddr t x i,ty,ps,af,gd⟩ T σ nx=(dY P t (val T x) (val T i)).map (·,σ,nx):=rfl
theorem aaF(t:TypeId)(x i:Operand):bH P conv call ⟨d,.index t x i,ty,ps,af,gd⟩ T σ nx=(CV P t (val T x) (val T i)).map (·,σ,nx):=rfl
def aeh(i:Nat):V->Option V
 | .dF vs=>vs[i]?
 |_=>none
theorem Il(x:Operand)(i:Nat):bH P conv call ⟨d,.extract x i,ty,ps,af,gd⟩ T σ nx=(aeh i (val T x)).map (·,σ,nx):=by
 simp only[bH];unfold aeh
 split<;>simp_all
theorem aaG(i:Nat)(vs:List V):aeh i (.dF vs)=vs[i]?:=rfl
def aaH(conv:FuncId->Conv)(call:Call)(args:List V)(σ:Store)(nx:Nat):V->FU
 | .clo g cs=>dX conv call g (args++cs) σ nx
 |_=>none
theorem G7(f:Operand)(args:Array Operand)(ts:Array TypeId):bH P conv call ⟨d,.call ⟨.value f,args,ts⟩,ty,ps,af,gd⟩ T σ nx=aaH conv call (args.toList.map (val T)) σ nx (val T f):=by
 simp only[bH];unfold aaH;rfl
theorem sH(args:List V)(σ:Store)(nx:Nat)(g:FuncId)(cs:List V):aaH conv call args σ nx (.clo g cs)=dX conv call g (args++cs) σ nx:=rfl
theorem ahv(x:Operand)(t:TypeId):bH P conv call ⟨d,.call ⟨.builtin .len,#[x],#[t]⟩,ty,ps,af,gd⟩ T σ nx=(Ar P t (val T x)).map (·,σ,nx):=rfl
theorem aei(a x:Operand)(t u:TypeId):bH P conv call ⟨d,.call ⟨.builtin .copy,#[a,x],#[t,u]⟩,ty,ps,af,gd⟩ T σ nx=CG P #[t,u] (val T a) (val T x) σ nx:=rfl
theorem aaI(a:Operand)(t:TypeId):bH P conv call ⟨d,.call ⟨.builtin .clear,#[a],#[t]⟩,ty,ps,af,gd⟩ T σ nx=BL P #[t] (val T a) σ nx:=rfl
theorem KT(a x:Operand)(t u:TypeId):bH P conv call ⟨d,.call ⟨.builtin .append,#[a,x],#[t,u]⟩,ty,ps,af,gd⟩ T σ nx=pI P #[t,u] (val T a) (val T x) σ nx:=rfl
end
def PY:Option St->Option (Ex×St)
 |some s=>some (.norm,s)
 |none=>none
theorem Ug(s:St):PY (some s)=some (.norm,s):=rfl
def ET(id:Nat):Option (Ex×St)->Option (Ex×St)
 |some (.exit j,s)=>if j=id then some (.norm,s)else some (.exit j,s)
 |r=>r
theorem PZ(id:Nat)(s:St):ET id (some (.norm,s))=some (.norm,s):=rfl
theorem Uh(id:Nat)(s:St):ET id (some (.ret,s))=some (.ret,s):=rfl
theorem P5(id j:Nat)(s:St):ET id (some (.exit j,s))=if j=id then some (.norm,s)else some (.exit j,s):=rfl
noncomputable def aaJ(body:St->Option (Ex×St)):Option (Ex×St)->Option (Ex×St)
 |some (.norm,s)=>aA body s
 |r=>r
theorem Ui(body:St->Option (Ex×St))(s:St):aaJ body (some (.norm,s))=aA body s:=rfl
theorem X_(body:St->Option (Ex×St))(s:St):aaJ body (some (.ret,s))=some (.ret,s):=rfl
theorem Uj(body:St->Option (Ex×St))(i:Nat)(s:St):aaJ body (some (.exit i,s))=some (.exit i,s):=rfl
def Ya(P:Program)(rs:List ResultVar):Option (Ex×St)->FU
 |some (.norm,st)=>(aU P st.T st.σ rs).map fun vs=>(oneOf vs,st.σ,st.nx)
 |some (.ret,st)=>(aU P st.T st.σ rs).map fun vs=>(oneOf vs,st.σ,st.nx)
 |_=>none
theorem P6(rs:List ResultVar)(body:Code)(s:St):PI P conv call rs body s=Ya P rs (bF P conv call body s):=by
 unfold PI Ya;cases bF P conv call body s with
 |none=>rfl
 |some q=>
  obtain⟨e,st⟩:=q;cases e<;>simp only<;>cases aU P st.T st.σ rs<;>rfl
theorem Yb(rs:List ResultVar)(T:Nat->V)(σ:Store)(nx:Nat):Ya P rs (some (.norm,⟨T,σ,nx⟩))=(aU P T σ rs).map fun vs=>(oneOf vs,σ,nx):=rfl
theorem aaK(rs:List ResultVar)(T:Nat->V)(σ:Store)(nx:Nat):Ya P rs (some (.ret,⟨T,σ,nx⟩))=(aU P T σ rs).map fun vs=>(oneOf vs,σ,nx):=rfl
theorem aaL(T:Nat->V)(σ:Store)(t:Tmp):aU P T σ [.tmp t]=some [T t]:=rfl
theorem aej(T:Nat->V)(σ:Store):aU P T σ []=some []:=rfl
theorem aaM(T:Nat->V)(σ:Store)(t u:Tmp):aU P T σ [.tmp t,.tmp u]=some [T t,T u]:=rfl
theorem aaN(T:Nat->V)(σ:Store)(t u v:Tmp):aU P T σ [.tmp t,.tmp u,.tmp v]=some [T t,T u,T v]:=rfl
theorem Yc(T:Nat->V)(σ:Store)(a:Tmp)(t:TypeId):aU P T σ [.cell a t]=(bU P σ t (T a)).map fun v=>[v]:=by
 simp only[aU];cases bU P σ t (T a)<;>rfl
theorem Yd(v:V):oneOf [v]=v:=rfl
theorem Ye(u v:V):oneOf [u,v]= .dF [u,v]:=rfl
theorem P7(u v w:V):oneOf [u,v,w]= .dF [u,v,w]:=rfl
theorem Uk:oneOf []= .dF []:=rfl
theorem Yf(l:List V)(i:Nat):gX l i=(l[i]?).getD (.dF []):=rfl
theorem Yg(k:IntKind)(n:Int):CY (.int k n)= .sc (.int k n):=rfl
theorem Ul(b:Bool):CY (.bool b)= .sc (.bool b):=rfl
theorem Np(s:ByteArray):CY (.string s)= .sc (.string s):=rfl
theorem Um:CY (.pointer none)= .sc (.pointer none):=rfl
theorem Un:CY (.slice none 0 0)= .nil:=rfl
theorem Yh(l:List Value):CY (.agg l.toArray)= .agg (l.map dK):=rfl
end
end Go.TV
namespace Go.TV
set_option linter.unusedVariables false
set_option linter.unusedSimpArgs false
variable [Known]
section
variable {P:Program} {conv:FuncId->Conv} {call:Call}
def fD(P:Program)(conv:FuncId->Conv)(call:Call)(ops:Array Oper):List Oper->St->Option St
 |[],s=>some s
 |o :: rest,s=>match cO ops s.T o with
  |some true=>match aZ P conv call o s.T s.σ s.nx with
   |some (v,σ',nx')=>fD P conv call ops rest ⟨fC s.T o.dst v,σ',nx'⟩
   |none=>none
  |some false=>fD P conv call ops rest ⟨fC s.T o.dst (.dF []),s.σ,s.nx⟩
  |none=>none
theorem EU(ops:Array Oper):∀(l:List Oper) (s:St),fD P conv call ops l s=(dw P conv call ops l s).map (·.1)
 |[],s=>rfl
 |o :: l,s=>by
  unfold fD dw;cases cO ops s.T o with
  |none=>rfl
  |some b=>
   cases b with
   |true=>
    simp only;cases aZ P conv call o s.T s.σ s.nx with
    |none=>rfl
    |some q=>
     obtain⟨v,σ',nx'⟩:=q;simp only;rw[EU ops l];cases dw P conv call ops l ⟨fC s.T o.dst v,σ',nx'⟩<;>rfl
   |false=>
    simp only;rw[EU ops l];cases dw P conv call ops l ⟨fC s.T o.dst (.dF []),s.σ,s.nx⟩<;>rfl
def EW(conv:FuncId->Conv)(ops:Array Oper):Bool:=Pm ops && (Dh conv ops.toList).isEmpty
theorem Nq{ops:Array Oper}(h:EW conv ops=true)(s:St):eu P conv call ops s=fD P conv call ops ops.toList s:=by
 unfold EW at h;rw[zV]at h;have hw:Dh conv ops.toList=[]:=by simpa using h.2
 unfold eu;rw[uf h.1,EU,hw];cases dw P conv call ops ops.toList s with
 |none=>rfl
 |some q=>obtain⟨s',E⟩:=q;rfl
def DK(af:Array Edge)(i:Nat):Bool:=af.any fun e=>Region.binds .any e && e.on==i
def okG(af:Array Edge)(w:Bool)(ids:List Nat):List (Nat×Bool×List Nat)->Bool
 |[]=>true
 |p :: acc=>(if(w||p.2.1)=true then(if DK af p.1=true then true else p.2.2.all fun b=> !ids.contains b)else true) && okG af w ids acc
def okF(af:Array Edge)(acc:List (Nat×Bool×List Nat))(w:Bool):List Nat->Bool
 |[]=>true
 |b :: bs=>okG af w (b :: bs) acc
def JW(acc:List (Nat×Bool×List Nat))(k:Nat)(w:Bool):List Nat->List (Nat×Bool×List Nat)
 |[]=>acc
 |b :: bs=>acc++[(k,w,b :: bs)]
def fE(P:Program)(conv:FuncId->Conv)(call:Call)(ops:Array Oper):List Oper->Nat->List (Nat×Bool×List Nat)->St->Option St
 |[],_,_,s=>some s
 |o :: rest,k,acc,s=>match cO ops s.T o with
  |some true=>if okF o.after acc (writer conv o) (aP conv s.T s.σ o)=true then(match aZ P conv call o s.T s.σ s.nx with
   |some (v,σ',nx')=>fE P conv call ops rest (k+1) (JW acc k (writer conv o) (aP conv s.T s.σ o)) ⟨fC s.T o.dst v,σ',nx'⟩
   |none=>none)else none
  |some false=>fE P conv call ops rest (k+1) acc ⟨fC s.T o.dst (.dF []),s.σ,s.nx⟩
  |none=>none
def Apart(l:List Oper)(E:List (Bool×List Nat)):Prop:=∀(i j:Nat) o p q,i<j->l[j]?=some o->E[i]?=some p->E[j]?=some q->(q.1||p.1)=true->Bq o i≠true->∀b∈p.2,b∉q.2
def Told(E:List (Bool×List Nat))(acc:List (Nat×Bool×List Nat)):Prop:=∀(i:Nat) p,E[i]?=some p->p.2≠[]->(i,p.1,p.2)∈acc
theorem P8{af:Array Edge}{w:Bool}{ids:List Nat}:∀ {acc:List (Nat×Bool×List Nat)},okG af w ids acc=true->∀p∈acc,(w||p.2.1)=true->DK af p.1≠true->∀b∈p.2.2,b∉ids
 |[],_,p,hp,_,_,_,_=>by cases hp
 |q :: acc,h,p,hp,hw,he,b,hb=>by
  unfold okG at h;rw[zV]at h;rcases List.mem_cons.mp hp with rfl|hp
  .have E:=h.1
   rw[uf hw,ug he]at E;have:=List.all_eq_true.mp E b hb
   simpa using this
  .exact P8 h.2 p hp hw he b hb
theorem Io{l:List Oper}{o:Oper}{O:List (Bool×List Nat)}{acc:List (Nat×Bool×List Nat)}{w:Bool}{ids:List Nat}(hl:l.length=O.length)(h:Apart l O)(ht:Told O acc)(ho:okF o.after acc w ids=true):Apart (l++[o]) (O++[(w,ids)]):=by
 intro i j o' p q S E hp G hw he b hb J;rcases Nat.lt_trichotomy j O.length with Y|Y|Y
 .rw[zZ Y]at G
  rw[zZ (by omega)]at hp;rw[zZ (by omega)]at E;exact h i j o' p q S E hp G hw he b hb J
 .subst Y
  rw[zS (zu _),yh]at G;simp only[xR,uj]at G;subst G;rw[zZ S]at hp;rw[zS (by omega),hl,yh]at E;simp only[xR,uj]at E;subst E;cases ids with
  |nil=>cases J
  |cons c cs=>exact P8 ho _ (ht i p hp (fun e=>by rw[e]at hb;cases hb)) hw he b hb J
 .rw[yZ (by simp;omega)]at G
  cases G
theorem KU{E:List (Bool×List Nat)}{acc:List (Nat×Bool×List Nat)}(S:Told E acc)(w:Bool)(ids:List Nat):Told (E++[(w,ids)]) (JW acc E.length w ids):=by
 intro i p hp G;have J:∀x,x∈acc->x∈JW acc E.length w ids:=fun x O=>by cases ids with
  |nil=>exact O
  |cons c cs=>exact zD _ O
 rcases Nat.lt_trichotomy i E.length with hi|hi|hi
 .rw[zZ hi]at hp
  exact J _ (S i p hp G)
 .subst hi
  rw[zS (zu _),yh]at hp;simp only[xR,uj]at hp;subst hp;cases ids with
  |nil=>exact absurd rfl G
  |cons c cs=>exact yF _ (by simp)
 .rw[yZ (by simp;omega)]at hp
  cases hp
theorem qW(ops:Array Oper):∀(l pre:List Oper) (k:Nat) (E:List (Bool×List Nat)) (acc:List (Nat×Bool×List Nat)) (s s':St),k=E.length->pre.length=E.length->Apart pre E->Told E acc->fE P conv call ops l k acc s=some s' ->
  ∃G,dw P conv call ops l s=some (s',G)/\G.length=l.length/\Apart (pre++l) (E++(l.zip G).map fun p=>(writer conv p.1,p.2))
 |[],pre,k,E,acc,s,s',hk,hl,ha,ht,h=>by
  unfold fE at h;cases h;exact⟨[],rfl,rfl,by simpa using ha⟩
 |o :: l,pre,k,E,acc,s,s',hk,hl,ha,ht,h=>by
  unfold fE at h;unfold dw;cases hw:cO ops s.T o with
  |none=>rw[hw]at h;cases h
  |some b=>
   rw[hw]at h;cases b with
   |true=>
    simp only at h⊢
    by_cases J:okF o.after acc (writer conv o) (aP conv s.T s.σ o)=true
    .rw[uf J]at h
     cases hr:aZ P conv call o s.T s.σ s.nx with
     |none=>rw[hr]at h;cases h
     |some q=>
      obtain⟨v,σ',nx'⟩:=q;rw[hr]at h;subst hk;obtain⟨G,O,S,Y⟩:=qW ops l (pre++[o]) _ (E++[(writer conv o,aP conv s.T s.σ o)]) _ _ s' (by simp) (by simp[hl]) (Io hl ha ht J) (KU ht _ _) h;refine⟨aP conv s.T s.σ o :: G,?_,by simp[S],by simpa using Y⟩;simp only;rw[O]
    .rw[ug J]at h;cases h
   |false=>
    simp only at h⊢;subst hk;obtain⟨G,O,S,Y⟩:=qW ops l (pre++[o]) _ (E++[(writer conv o,[])]) _ _ s' (by simp) (by simp[hl]) (Io hl ha ht rfl) (KU ht _ []) h;refine⟨[] :: G,?_,by simp[S],by simpa using Y⟩;rw[O]
theorem JX{l:List Oper}{E:List (List Nat)}(hl:E.length=l.length)(h:Apart l ((l.zip E).map fun p=>(writer conv p.1,p.2))):MX E (Dh conv l)=true:=by
 unfold MX;refine List.all_eq_true.mpr ?_;rintro ⟨i,j⟩ hm;unfold Dh at hm;simp only[List.mem_flatMap,List.mem_filterMap]at hm;obtain⟨⟨o,j'⟩,hj,⟨p,i'⟩,hi,G⟩:=hm;simp only at G
 split at G
 .cases G
 .rename_i a6
  split at G
  .rename_i a7
   simp only[uj,uh]at G;obtain⟨rfl,rfl⟩:=G;have a8:=List.mem_zipIdx' hj;have b2:=List.mem_zipIdx' hi;obtain⟨J,O⟩:=a8;obtain⟨b3,S⟩:=b2;simp only[zY]at b3;refine List.all_eq_true.mpr fun b hb=>?_
   have Y:i'<E.length:=by omega
   have a1:j'<E.length:=by omega
   rw[zy Y,yJ]at hb;rw[zy a1,yJ];have hz:∀(k:Nat) (h1:k<l.length) (h2:k<E.length),((l.zip E).map fun p=>(writer conv p.1,p.2))[k]?=some (writer conv l[k],E[k]):=by
    intro k h1 h2;rw[yg,zy (by simp;omega)];simp
   have:=h i' j' o _ _ (by omega) (by rw[zy J,O]) (hz i' (by omega) Y) (hz j' J a1) (by
    rw[List.getElem_take]at S;rw[<- O,<- S];exact a7) a6 b hb
   simpa using this
  .cases G
def Ip(P:Program)(conv:FuncId->Conv)(call:Call)(ops:Array Oper)(s0:St):Option St->Option St
 |some s=>some s
 |none=>eu P conv call ops s0
theorem aaO{ops:Array Oper}(E:Pm ops=true)(s:St):Ip P conv call ops s (fE P conv call ops ops.toList 0 [] s)=eu P conv call ops s:=by
 cases h:fE P conv call ops ops.toList 0 [] s with
 |none=>rfl
 |some s'=>
  obtain⟨S,G,J,O⟩:=qW ops ops.toList [] 0 [] [] s s' rfl rfl (by intro i j o p q _ _ hp;simp at hp) (by intro i p hp;simp at hp) h;unfold Ip eu;rw[uf E,G];simp only;rw[uf (JX J (by simpa using O))]
def dI(conv:FuncId->Conv)(ex:List Nat):Code->Bool
 | .region id ops draw=> !draw||(ex.contains id && Pm ops)||EW conv ops
 | .seq a b=>dI conv ex a && dI conv ex b
 | .cond _ a b=>dI conv ex a && dI conv ex b
 | .block _ c=>dI conv ex c
 | .loop c=>dI conv ex c
 |_=>true
noncomputable def Cc(P:Program)(conv:FuncId->Conv)(call:Call)(ex:List Nat):Code->St->Option (Ex×St)
 | .skip,s=>some (.norm,s)
 | .region id ops draw,s=>PY (if draw then(if id∈ex then Ip P conv call ops s (fE P conv call ops ops.toList 0 [] s)else fD P conv call ops ops.toList s)else dR P conv call ops ops.toList s)
 | .seq a b,s=>match Cc P conv call ex a s with
  |some (.norm,s')=>Cc P conv call ex b s'
  |r=>r
 | .cond c a b,s=>match val s.T c with
  | .sc (.bool true)=>Cc P conv call ex a s
  | .sc (.bool false)=>Cc P conv call ex b s
  |_=>none
 | .block id c,s=>ET id (Cc P conv call ex c s)
 | .loop c,s=>aA (Cc P conv call ex c) s
 | .exit id,s=>some (.exit id,s)
 | .ret,s=>some (.ret,s)
 |_,_=>none
theorem aaP{ex:List Nat}:∀(c:Code),dI conv ex c=true->∀s,bF P conv call c s=Cc P conv call ex c s:=by
 intro c
 induction c with
 |region id ops draw=>
  intro h s;simp only[dI,Cc,bF]at *;cases draw with
  |false=>simp only[yR,if_false];cases dR P conv call ops ops.toList s<;>rfl
  |true=>
   simp only[if_true]
   by_cases hid:id∈ex
   .rw[uf hid]
    by_cases O:Pm ops=true
    .rw[aaO O];cases eu P conv call ops s<;>rfl
    .have J:EW conv ops=true:=by simpa[O]using h
     unfold EW at J;rw[zV]at J;exact absurd J.1 O
   .rw[ug hid]
    have J:EW conv ops=true:=by simpa[hid]using h
    rw[Nq J];cases fD P conv call ops ops.toList s<;>rfl
 |seq a b E G=>
  intro h s;simp only[dI,zV]at h;simp only[Cc,bF];rw[E h.1];cases Cc P conv call ex a s with
  |none=>rfl
  |some q=>obtain⟨e,s'⟩:=q;cases e<;>first|exact G h.2 s'|rfl
 |cond v a b E G=>
  intro h s;simp only[dI,zV]at h;simp only[Cc,bF,E h.1,G h.2]
  all_goals rfl
 |block id c S=>
  intro h s;simp only[dI]at h;simp only[Cc,bF,ET];rw[S h]
  all_goals rfl
 |loop c S=>
  intro h s;simp only[dI]at h;simp only[Cc,bF];rw[show bF P conv call c=Cc P conv call ex c from funext (S h)]
 |_=>intro h s;rfl
noncomputable def sK(P:Program)(conv:FuncId->Conv)(call:Call)(ex:List Nat)(b:Code):Option (Ex×St)->Option (Ex×St)
 |some (.norm,s)=>Cc P conv call ex b s
 |r=>r
variable {ex:List Nat}
theorem aj2(a b:Code)(s:St):Cc P conv call ex (.seq a b) s=sK P conv call ex b (Cc P conv call ex a s):=by
 show(match Cc P conv call ex a s with|some (.norm,s')=>Cc P conv call ex b s'|r=>r)=_;unfold sK;rfl
theorem aek(b:Code)(s:St):sK P conv call ex b (some (.norm,s))=Cc P conv call ex b s:=rfl
theorem ahw(b:Code)(s:St):sK P conv call ex b (some (.ret,s))=some (.ret,s):=rfl
theorem ael(b:Code)(i:Nat)(s:St):sK P conv call ex b (some (.exit i,s))=some (.exit i,s):=rfl
theorem aaQ(id:Nat)(l:List Oper)(s:St):Cc P conv call ex (.region id l.toArray false) s=PY (dR P conv call l.toArray l s):=rfl
theorem ahx(id:Nat)(l:List Oper)(s:St):Cc P conv call [] (.region id l.toArray true) s=PY (fD P conv call l.toArray l s):=rfl
theorem ahy(s:St):Cc P conv call ex .skip s=some (.norm,s):=rfl
theorem aj3(s:St):Cc P conv call ex .ret s=some (.ret,s):=rfl
theorem ahz(i:Nat)(s:St):Cc P conv call ex (.exit i) s=some (.exit i,s):=rfl
noncomputable def cK(P:Program)(conv:FuncId->Conv)(call:Call)(ex:List Nat)(a b:Code)(s:St):V->Option (Ex×St)
 | .sc (.bool true)=>Cc P conv call ex a s
 | .sc (.bool false)=>Cc P conv call ex b s
 |_=>none
theorem ahA(c:Operand)(a b:Code)(T:Nat->V)(σ:Store)(nx:Nat):Cc P conv call ex (.cond c a b) ⟨T,σ,nx⟩=cK P conv call ex a b ⟨T,σ,nx⟩ (val T c):=by
 show(match val T c with| .sc (.bool true)=>_| .sc (.bool false)=>_|_=>none)=_;unfold cK;rfl
theorem aem(a b:Code)(s:St):cK P conv call ex a b s (.sc (.bool true))=Cc P conv call ex a s:=rfl
theorem aaR(a b:Code)(s:St):cK P conv call ex a b s (.sc (.bool false))=Cc P conv call ex b s:=rfl
theorem aen(id:Nat)(c:Code)(s:St):Cc P conv call ex (.block id c) s=ET id (Cc P conv call ex c s):=rfl
theorem ahB(c:Code)(s:St):Cc P conv call ex (.loop c) s=aA (Cc P conv call ex c) s:=rfl
theorem amY{ext:Ext}{f:FuncId}{fn:Func}{body:Code}{rs:List ResultVar}(ex:List Nat)(G:ext f=none)(J:P.funcs[f]?=some fn)(hb:fn.body=some body)(O:fn.results.toList=rs){args:List V}(E:Pn fn body args.length=true)(S:dI conv ex body=true)(σ:Store)(nx:Nat) :
  ev P conv ext f args σ nx=Ya P rs (Cc P conv (ev P conv ext) ex body ⟨gX args,σ,nx⟩):=by
 rw[agR G J hb O E,P6,aaP body S]
theorem qO{ext:Ext}{f:FuncId}{fn:Func}{body:Code}(rs:List ResultVar)(ex:List Nat)(G:P.funcs[f]?=some fn)(J:ext f=none:=by rfl)(hb:fn.body=some body:=by rfl)(O:fn.results.toList=rs:=by rfl){args:List V}(E:Pn fn body args.length=true:=by kernel_rfl)(S:dI conv ex body=true:=by kernel_rfl)(σ:Store)(nx:Nat) :
  ev P conv ext f args σ nx=Ya P rs (Cc P conv (ev P conv ext) ex body ⟨gX args,σ,nx⟩):=by
 rw[agR J G hb O E,P6,aaP body S]
theorem Uo(ops:Array Oper)(s0 s:St):Ip P conv call ops s0 (some s)=some s:=rfl
def F8(P:Program)(conv:FuncId->Conv)(call:Call)(id:Nat)(l:List Oper)(s:St):List Nat->Option St
 |[]=>fD P conv call l.toArray l s
 |i :: ex=>if id=i then Ip P conv call l.toArray s (fE P conv call l.toArray l 0 [] s)else F8 P conv call id l s ex
theorem P9(id:Nat)(l:List Oper)(s:St):∀ex:List Nat,F8 P conv call id l s ex=if id∈ex then Ip P conv call l.toArray s (fE P conv call l.toArray l 0 [] s)else fD P conv call l.toArray l s
 |[]=>by simp[F8]
 |i :: ex=>by
  unfold F8;rw[P9 id l s ex]
  by_cases h:id=i
  .rw[uf h,uf (by simp[h])]
  .rw[ug h]
   by_cases E:id∈ex
   .rw[uf E,uf (by simp[E])]
   .rw[ug E,ug (by simp[h,E])]
theorem aeo(i:Nat)(ex:List Nat)(id:Nat)(l:List Oper)(s:St):Cc P conv call (i :: ex) (.region id l.toArray true) s=PY (F8 P conv call id l s (i :: ex)):=by
 rw[P9];rfl
theorem Yi(id:Nat)(l:List Oper)(s:St):F8 P conv call id l s []=fD P conv call l.toArray l s:=rfl
theorem Us(id:Nat)(l:List Oper)(s:St)(i:Nat)(ex:List Nat):F8 P conv call id l s (i :: ex)=if id=i then Ip P conv call l.toArray s (fE P conv call l.toArray l 0 [] s)else F8 P conv call id l s ex:=rfl
def P_(P:Program)(conv:FuncId->Conv)(call:Call)(ops:Array Oper)(rest:List Oper)(k:Nat)(acc:List (Nat×Bool×List Nat))(T:Nat->V)(d:Option Tmp):FU->Option St
 |some (v,σ,nx)=>fE P conv call ops rest k acc ⟨fC T d v,σ,nx⟩
 |none=>none
def WA(P:Program)(conv:FuncId->Conv)(call:Call)(ops:Array Oper)(rest:List Oper)(k:Nat)(acc:List (Nat×Bool×List Nat))(o:Oper)(s:St):Option Bool->Option St
 |some true=>if okF o.after acc (writer conv o) (aP conv s.T s.σ o)=true then P_ P conv call ops rest (k+1) (JW acc k (writer conv o) (aP conv s.T s.σ o)) s.T o.dst (aZ P conv call o s.T s.σ s.nx)else none
 |some false=>fE P conv call ops rest (k+1) acc ⟨fC s.T o.dst (.dF []),s.σ,s.nx⟩
 |none=>none
theorem Ut(ops:Array Oper)(k:Nat)(acc:List (Nat×Bool×List Nat))(s:St):fE P conv call ops [] k acc s=some s:=rfl
theorem Qa(ops:Array Oper)(k:Nat)(acc:List (Nat×Bool×List Nat))(d:Option Tmp)(op:Op)(ty:TypeId)(ps:String)(af:Array Edge)(rest:List Oper)(T:Nat->V)(σ:Store)(nx:Nat) :
  fE P conv call ops (⟨d,op,ty,ps,af,none⟩ :: rest) k acc ⟨T,σ,nx⟩=if okF af acc (writer conv ⟨d,op,ty,ps,af,none⟩) (aP conv T σ ⟨d,op,ty,ps,af,none⟩)=true then P_ P conv call ops rest (k+1) (JW acc k (writer conv ⟨d,op,ty,ps,af,none⟩) (aP conv T σ ⟨d,op,ty,ps,af,none⟩)) T d (aZ P conv call ⟨d,op,ty,ps,af,none⟩ T σ nx)else none:=by
 show(if okF af acc (writer conv ⟨d,op,ty,ps,af,none⟩) (aP conv T σ ⟨d,op,ty,ps,af,none⟩)=true then(match aZ P conv call ⟨d,op,ty,ps,af,none⟩ T σ nx with|some (v,σ',nx')=>_|none=>none)else none)=_;cases aZ P conv call ⟨d,op,ty,ps,af,none⟩ T σ nx<;>rfl
theorem Nr(ops:Array Oper)(k:Nat)(acc:List (Nat×Bool×List Nat))(d:Option Tmp)(op:Op)(ty:TypeId)(ps:String)(af:Array Edge)(g:Nat×Bool)(rest:List Oper)(T:Nat->V)(σ:Store)(nx:Nat) :
  fE P conv call ops (⟨d,op,ty,ps,af,some g⟩ :: rest) k acc ⟨T,σ,nx⟩=WA P conv call ops rest k acc ⟨d,op,ty,ps,af,some g⟩ ⟨T,σ,nx⟩ (cO ops T ⟨d,op,ty,ps,af,some g⟩):=by
 show(match cO ops T ⟨d,op,ty,ps,af,some g⟩with|some true=>_|some false=>_|none=>none)=_;cases cO ops T ⟨d,op,ty,ps,af,some g⟩with
 |none=>rfl
 |some b=>
  cases b with
  |false=>rfl
  |true=>
   simp only[WA];cases aZ P conv call ⟨d,op,ty,ps,af,some g⟩ T σ nx<;>rfl
theorem Uu(ops:Array Oper)(rest:List Oper)(k:Nat)(acc:List (Nat×Bool×List Nat))(T:Nat->V)(d:Tmp)(v:V)(σ:Store)(nx:Nat):P_ P conv call ops rest k acc T (some d) (some (v,σ,nx))=fE P conv call ops rest k acc ⟨upd T d v,σ,nx⟩:=rfl
theorem Uw(ops:Array Oper)(rest:List Oper)(k:Nat)(acc:List (Nat×Bool×List Nat))(T:Nat->V)(v:V)(σ:Store)(nx:Nat):P_ P conv call ops rest k acc T none (some (v,σ,nx))=fE P conv call ops rest k acc ⟨T,σ,nx⟩:=rfl
theorem Ux(ops:Array Oper)(rest:List Oper)(k:Nat)(acc:List (Nat×Bool×List Nat))(d:Option Tmp)(op:Op)(ty:TypeId)(ps:String)(af:Array Edge)(g:Option (Nat×Bool))(T:Nat->V)(σ:Store)(nx:Nat) :
  WA P conv call ops rest k acc ⟨d,op,ty,ps,af,g⟩ ⟨T,σ,nx⟩ (some true)=if okF af acc (writer conv ⟨d,op,ty,ps,af,g⟩) (aP conv T σ ⟨d,op,ty,ps,af,g⟩)=true then P_ P conv call ops rest (k+1) (JW acc k (writer conv ⟨d,op,ty,ps,af,g⟩) (aP conv T σ ⟨d,op,ty,ps,af,g⟩)) T d (aZ P conv call ⟨d,op,ty,ps,af,g⟩ T σ nx)else none:=rfl
theorem Qb(ops:Array Oper)(rest:List Oper)(k:Nat)(acc:List (Nat×Bool×List Nat))(d:Tmp)(op:Op)(ty:TypeId)(ps:String)(af:Array Edge)(g:Option (Nat×Bool))(T:Nat->V)(σ:Store)(nx:Nat) :
  WA P conv call ops rest k acc ⟨some d,op,ty,ps,af,g⟩ ⟨T,σ,nx⟩ (some false)=fE P conv call ops rest (k+1) acc ⟨upd T d (.dF []),σ,nx⟩:=rfl
theorem aep(af:Array Edge)(acc:List (Nat×Bool×List Nat))(w:Bool):okF af acc w []=true:=id rfl
theorem aaS(af:Array Edge)(acc:List (Nat×Bool×List Nat))(w:Bool)(b:Nat)(E:List Nat):okF af acc w (b :: E)=okG af w (b :: E) acc:=id rfl
theorem aer(af:Array Edge)(w:Bool)(ids:List Nat):okG af w ids []=true:=id rfl
theorem aaT(af:Array Edge)(w:Bool)(ids:List Nat)(i:Nat)(v:Bool)(js:List Nat)(acc:List (Nat×Bool×List Nat)):okG af w ids ((i,v,js) :: acc)=((if(w||v)=true then(if DK af i=true then true else js.all fun b=> !ids.contains b)else true) && okG af w ids acc):=id rfl
theorem aaU(acc:List (Nat×Bool×List Nat))(k:Nat)(w:Bool):JW acc k w []=acc:=id rfl
theorem Yj(acc:List (Nat×Bool×List Nat))(k:Nat)(w:Bool)(b:Nat)(E:List Nat):JW acc k w (b :: E)=acc++[(k,w,b :: E)]:=id rfl
theorem Yk(i:Nat):DK #[] i=false:=by simp[DK]
theorem Uy(e:Edge)(es:List Edge)(i:Nat):DK (e :: es).toArray i=if(e.on==i)=true then(if Region.binds .any e=true then true else DK es.toArray i)else DK es.toArray i:=by
 unfold DK;rw[List.any_toArray,List.any_toArray,List.any_cons];cases e.on==i<;>cases Region.binds .any e<;>simp
theorem Uz(i:Nat):Region.binds .any ⟨i,.data⟩=true:=id rfl
theorem Qc(i:Nat):Region.binds .any ⟨i,.phase⟩=true:=id rfl
theorem Qd(i:Nat):Region.binds .any ⟨i,.chain⟩=true:=id rfl
theorem Qe(i:Nat):Region.binds .any ⟨i,.guard⟩=true:=id rfl
theorem UA(i:Nat)(d:Departure):Region.binds .any ⟨i,.textOnly d⟩=false:=id rfl
theorem aaV(i:Nat)(d:Departure):Region.binds .any ⟨i,.gcOnly d⟩=false:=id rfl
section
variable (d:Option Tmp) (ty:TypeId) (ps:String) (af:Array Edge) (gd:Option (Nat×Bool)) (T:Nat->V) (σ:Store)
theorem aes(t:TypeId)(a x:Operand):writer conv ⟨d,.store t a x,ty,ps,af,gd⟩=true:=id rfl
theorem UC(t:TypeId)(a x:Operand):aP conv T σ ⟨d,.store t a x,ty,ps,af,gd⟩=aS (val T a):=rfl
theorem Yl(t:TypeId)(a:Operand):aP conv T σ ⟨d,.load t a,ty,ps,af,gd⟩=aS (val T a):=rfl
theorem ahC(t:TypeId)(a:Operand):writer conv ⟨d,.load t a,ty,ps,af,gd⟩=false:=id rfl
theorem aeu(b off:Nat):aS (.rp b off)=[b]:=rfl
theorem aev(b off len:Nat):aS (.rs b off len)=[b]:=rfl
theorem aew(row:List V)(off:Nat):aS (.tp row off)=[]:=rfl
theorem aex(row:List V)(off:Nat):aS (.ts row off)=[]:=rfl
theorem aey(v:Value):aS (.sc v)=[]:=rfl
theorem aaW:aS .nil=[]:=rfl
theorem aaX(vs:List V):aS (.agg vs)=[]:=rfl
theorem Ym(x:Operand):aP conv T σ ⟨d,.move x,ty,ps,af,gd⟩=[]:=rfl
theorem ahD(x:Operand):writer conv ⟨d,.move x,ty,ps,af,gd⟩=false:=id rfl
theorem Qg(x:Operand):aP conv T σ ⟨d,.assign x,ty,ps,af,gd⟩=[]:=rfl
theorem aaY(x:Operand):writer conv ⟨d,.assign x,ty,ps,af,gd⟩=false:=id rfl
theorem Yn(c a b:Operand):aP conv T σ ⟨d,.pick c a b,ty,ps,af,gd⟩=[]:=rfl
theorem ahE(c a b:Operand):writer conv ⟨d,.pick c a b,ty,ps,af,gd⟩=false:=id rfl
theorem JY(x:Operand):aP conv T σ ⟨d,.nilCheck x,ty,ps,af,gd⟩=[]:=rfl
theorem UD(x:Operand):writer conv ⟨d,.nilCheck x,ty,ps,af,gd⟩=false:=id rfl
theorem UE(op:BinOp)(t:TypeId)(x y:Operand)(E:TypeId):aP conv T σ ⟨d,.binOp op t x y E,ty,ps,af,gd⟩=[]:=rfl
theorem aez(op:BinOp)(t:TypeId)(x y:Operand)(E:TypeId):writer conv ⟨d,.binOp op t x y E,ty,ps,af,gd⟩=false:=id rfl
theorem Yo(op:UnOp)(t:TypeId)(x:Operand):aP conv T σ ⟨d,.unOp op t x,ty,ps,af,gd⟩=[]:=rfl
theorem ahF(op:UnOp)(t:TypeId)(x:Operand):writer conv ⟨d,.unOp op t x,ty,ps,af,gd⟩=false:=id rfl
theorem Iq(t:TypeId)(x:Operand)(f:Nat):aP conv T σ ⟨d,.fieldAddr t x f,ty,ps,af,gd⟩=[]:=rfl
theorem Qh(t:TypeId)(x:Operand)(f:Nat):writer conv ⟨d,.fieldAddr t x f,ty,ps,af,gd⟩=false:=id rfl
theorem UF(t:TypeId)(x:Operand)(f:Nat):aP conv T σ ⟨d,.field t x f,ty,ps,af,gd⟩=[]:=rfl
theorem aeA(t:TypeId)(x:Operand)(f:Nat):writer conv ⟨d,.field t x f,ty,ps,af,gd⟩=false:=id rfl
theorem Ir(t:TypeId)(x i:Operand):aP conv T σ ⟨d,.indexAddr t x i,ty,ps,af,gd⟩=[]:=rfl
theorem Qi(t:TypeId)(x i:Operand):writer conv ⟨d,.indexAddr t x i,ty,ps,af,gd⟩=false:=id rfl
theorem UG(t:TypeId)(x i:Operand):aP conv T σ ⟨d,.index t x i,ty,ps,af,gd⟩=[]:=rfl
theorem aeB(t:TypeId)(x i:Operand):writer conv ⟨d,.index t x i,ty,ps,af,gd⟩=false:=id rfl
theorem Ns(x:Operand)(i:Nat):aP conv T σ ⟨d,.extract x i,ty,ps,af,gd⟩=[]:=rfl
theorem Yp(x:Operand)(i:Nat):writer conv ⟨d,.extract x i,ty,ps,af,gd⟩=false:=id rfl
theorem aaZ(x:Operand)(t:TypeId):aP conv T σ ⟨d,.call ⟨.builtin .len,#[x],#[t]⟩,ty,ps,af,gd⟩=[]:=rfl
theorem aj6(x:Operand)(t:TypeId):writer conv ⟨d,.call ⟨.builtin .len,#[x],#[t]⟩,ty,ps,af,gd⟩=false:=id rfl
theorem UH(t:TypeId)(parts:Array (Nat×Operand)):aP conv T σ ⟨d,.build t parts,ty,ps,af,gd⟩=[]:=rfl
theorem aeC(t:TypeId)(parts:Array (Nat×Operand)):writer conv ⟨d,.build t parts,ty,ps,af,gd⟩=false:=id rfl
theorem JZ(f:FuncId)(cap:Array Operand):aP conv T σ ⟨d,.makeFunc (.func f) #[] cap,ty,ps,af,gd⟩=[]:=rfl
theorem UJ(f:FuncId)(cap:Array Operand):writer conv ⟨d,.makeFunc (.func f) #[] cap,ty,ps,af,gd⟩=false:=id rfl
theorem UK(t:TypeId):aP conv T σ ⟨d,.alloc t,ty,ps,af,gd⟩=[]:=rfl
theorem aeD(t:TypeId):writer conv ⟨d,.alloc t,ty,ps,af,gd⟩=false:=id rfl
theorem aa0(t:TypeId)(x:Operand):aP conv T σ ⟨d,.box t x,ty,ps,af,gd⟩=[]:=rfl
theorem aj7(t:TypeId)(x:Operand):writer conv ⟨d,.box t x,ty,ps,af,gd⟩=false:=id rfl
theorem ahG{g:FuncId}(h:conv g= .FX)(args:Array Operand)(ts:Array TypeId):writer conv ⟨d,.call ⟨.value (.func g),args,ts⟩,ty,ps,af,gd⟩=false:=by unfold writer;simp only[h]
theorem qA{g:FuncId}(h:conv g≠ .inl)(args:Array Operand)(ts:Array TypeId):fK conv T σ ⟨d,.call ⟨.value (.func g),args,ts⟩,ty,ps,af,gd⟩=(stripL (strip σ depth) (args.toList.map (val T))).map (·.2):=by
 simp only[fK,val,zA,KN];cases hc:conv g with
 |inl=>exact absurd hc h
 |own=>cases stripL (strip σ depth) (args.toList.map (val T))<;>rfl
 |FX=>cases stripL (strip σ depth) (args.toList.map (val T))<;>rfl
theorem Yq{g:FuncId}(h:conv g= .FX)(args:Array Operand)(ts:Array TypeId):aP conv T σ ⟨d,.call ⟨.value (.func g),args,ts⟩,ty,ps,af,gd⟩=((stripL (strip σ depth) (args.toList.map (val T))).map (·.2)).getD []:=by
 unfold aP;rw[qA d ty ps af gd T σ (by rw[h];exact fun e=>by cases e)]
end
def Qj(P:Program)(conv:FuncId->Conv)(call:Call)(ops:Array Oper)(rest:List Oper)(T:Nat->V)(d:Option Tmp):FU->Option St
 |some (v,σ,nx)=>fD P conv call ops rest ⟨fC T d v,σ,nx⟩
 |none=>none
def WB(P:Program)(conv:FuncId->Conv)(call:Call)(ops:Array Oper)(rest:List Oper)(o:Oper)(s:St):Option Bool->Option St
 |some true=>Qj P conv call ops rest s.T o.dst (aZ P conv call o s.T s.σ s.nx)
 |some false=>fD P conv call ops rest ⟨fC s.T o.dst (.dF []),s.σ,s.nx⟩
 |none=>none
theorem UL(ops:Array Oper)(s:St):fD P conv call ops [] s=some s:=rfl
theorem Qk(ops:Array Oper)(d:Option Tmp)(op:Op)(ty:TypeId)(ps:String)(af:Array Edge)(rest:List Oper)(T:Nat->V)(σ:Store)(nx:Nat) :
  fD P conv call ops (⟨d,op,ty,ps,af,none⟩ :: rest) ⟨T,σ,nx⟩=Qj P conv call ops rest T d (aZ P conv call ⟨d,op,ty,ps,af,none⟩ T σ nx):=by
 show(match aZ P conv call ⟨d,op,ty,ps,af,none⟩ T σ nx with|some (v,σ',nx')=>_|none=>none)=_;cases aZ P conv call ⟨d,op,ty,ps,af,none⟩ T σ nx<;>rfl
theorem Nu(ops:Array Oper)(d:Option Tmp)(op:Op)(ty:TypeId)(ps:String)(af:Array Edge)(g:Nat×Bool)(rest:List Oper)(T:Nat->V)(σ:Store)(nx:Nat) :
  fD P conv call ops (⟨d,op,ty,ps,af,some g⟩ :: rest) ⟨T,σ,nx⟩=WB P conv call ops rest ⟨d,op,ty,ps,af,some g⟩ ⟨T,σ,nx⟩ (cO ops T ⟨d,op,ty,ps,af,some g⟩):=by
 show(match cO ops T ⟨d,op,ty,ps,af,some g⟩with|some true=>_|some false=>_|none=>none)=_;cases cO ops T ⟨d,op,ty,ps,af,some g⟩with
 |none=>rfl
 |some b=>
  cases b with
  |false=>rfl
  |true=>
   simp only[WB];cases aZ P conv call ⟨d,op,ty,ps,af,some g⟩ T σ nx<;>rfl
theorem UM(ops:Array Oper)(rest:List Oper)(T:Nat->V)(d:Tmp)(v:V)(σ:Store)(nx:Nat):Qj P conv call ops rest T (some d) (some (v,σ,nx))=fD P conv call ops rest ⟨upd T d v,σ,nx⟩:=rfl
theorem UN(ops:Array Oper)(rest:List Oper)(T:Nat->V)(v:V)(σ:Store)(nx:Nat):Qj P conv call ops rest T none (some (v,σ,nx))=fD P conv call ops rest ⟨T,σ,nx⟩:=rfl
theorem UO(ops:Array Oper)(rest:List Oper)(d:Option Tmp)(op:Op)(ty:TypeId)(ps:String)(af:Array Edge)(g:Option (Nat×Bool))(T:Nat->V)(σ:Store)(nx:Nat) :
  WB P conv call ops rest ⟨d,op,ty,ps,af,g⟩ ⟨T,σ,nx⟩ (some true)=Qj P conv call ops rest T d (aZ P conv call ⟨d,op,ty,ps,af,g⟩ T σ nx):=rfl
theorem Ql(ops:Array Oper)(rest:List Oper)(d:Tmp)(op:Op)(ty:TypeId)(ps:String)(af:Array Edge)(g:Option (Nat×Bool))(T:Nat->V)(σ:Store)(nx:Nat) :
  WB P conv call ops rest ⟨some d,op,ty,ps,af,g⟩ ⟨T,σ,nx⟩ (some false)=fD P conv call ops rest ⟨upd T d (.dF []),σ,nx⟩:=rfl
theorem UQ{σ:Store}{nx:Nat}{cells:List V}{st:Nat}:aQ [] nx (nx+1) σ (bG (restrict σ []) nx cells st)=bG σ nx cells st:=by
 funext b;unfold aQ bG upd restrict
 by_cases h:b=nx
 .subst h;simp
 .rw[ug (by simp;omega),ug h]
section
variable (d:Option Tmp) (ty:TypeId) (ps:String) (af:Array Edge) (gd:Option (Nat×Bool)) (T:Nat->V) (σ:Store) (nx:Nat)
omit d ty ps af gd T σ nx in
theorem EX(T:Nat->V)(o:Oper)(v:V):keeps conv T o [] v=true:=by
 obtain⟨dst,op,type,pos,after,guard⟩:=o;cases op<;>simp only[keeps];rename_i c;obtain⟨callee,args,ts⟩:=c;cases callee with
 |value f=>
  cases E:val T f<;>simp only[E];rename_i g cs;cases hc:conv g<;>simp
 |builtin b=>rfl
 |invoke r m=>rfl
theorem qZ{o:Oper}{F:List Nat}(E:fK conv T σ o=some F)(G:∀v,keeps conv T o F v=true):aZ P conv call o T σ nx=if(F.all fun b=>decide (b<nx))=true then match bH P conv call o T (restrict σ F) nx with|some (v,σ1,aO)=>some (v,aQ F nx aO σ σ1,aO)|none=>none else none:=by
 unfold aZ;simp only[E,G,if_true];cases bH P conv call o T (restrict σ F) nx with
 |none=>rfl
 |some r=>rfl
theorem Nv{o:Oper}(E:fK conv T σ o=some []){v:V}(h:∀σ,bH P conv call o T σ nx=some (v,σ,nx)):aZ P conv call o T σ nx=some (v,σ,nx):=by
 rw[qZ T σ nx E (EX T o)];simp only[xG,if_true,h];rw[mV]
theorem nG{o:Oper}(E:fK conv T σ o=some []){m:Option V}(h:∀σ,bH P conv call o T σ nx=m.map (·,σ,nx)):aZ P conv call o T σ nx=m.map (·,σ,nx):=by
 cases m with
 |some v=>exact Nv T σ nx E h
 |none=>
  rw[qZ T σ nx E (EX T o)];simp only[xG,if_true,h,Option.map_none]
theorem DL{o:Oper}(E:fK conv T σ o=some []){m:Option (List V×Nat×V)}(h:∀σ,bH P conv call o T σ nx=m.map fun p=>(p.2.2,bG σ nx p.1 p.2.1,nx+1)):aZ P conv call o T σ nx=m.map fun p=>(p.2.2,bG σ nx p.1 p.2.1,nx+1):=by
 rw[qZ T σ nx E (EX T o)];simp only[xG,if_true,h];cases m with
 |none=>rfl
 |some p=>simp only[zT];rw[UQ]
theorem aa1(x:Operand):aZ P conv call ⟨d,.move x,ty,ps,af,gd⟩ T σ nx=some (val T x,σ,nx):=Nv T σ nx rfl fun _=>rfl
theorem UR(x:Operand):aZ P conv call ⟨d,.assign x,ty,ps,af,gd⟩ T σ nx=some (val T x,σ,nx):=Nv T σ nx rfl fun _=>rfl
theorem aa2(c a b:Operand):aZ P conv call ⟨d,.pick c a b,ty,ps,af,gd⟩ T σ nx=(Wx (val T a) (val T b) (val T c)).map (·,σ,nx):=nG T σ nx rfl fun σ=>Wy d ty ps af gd T σ nx c a b
theorem Nw(x:Operand):aZ P conv call ⟨d,.nilCheck x,ty,ps,af,gd⟩ T σ nx=(aaB (val T x)).map (·,σ,nx):=nG T σ nx rfl fun σ=>F7 d ty ps af gd T σ nx x
theorem Yr(op:BinOp)(t:TypeId)(x y:Operand)(E:TypeId):aZ P conv call ⟨d,.binOp op t x y E,ty,ps,af,gd⟩ T σ nx=(bD P op t x y (val T x) (val T y)).map (·,σ,nx):=nG T σ nx rfl fun _=>rfl
theorem aa3(op:UnOp)(t:TypeId)(x:Operand):aZ P conv call ⟨d,.unOp op t x,ty,ps,af,gd⟩ T σ nx=(Td P op (val T x)).map (·,σ,nx):=nG T σ nx rfl fun _=>rfl
theorem J3(t:TypeId)(x:Operand)(f:Nat):aZ P conv call ⟨d,.fieldAddr t x f,ty,ps,af,gd⟩ T σ nx=(dG P t (val T x) f).map (·,σ,nx):=nG T σ nx rfl fun _=>rfl
theorem J4(t:TypeId)(x i:Operand):aZ P conv call ⟨d,.indexAddr t x i,ty,ps,af,gd⟩ T σ nx=(dY P t (val T x) (val T i)).map (·,σ,nx):=nG T σ nx rfl fun _=>rfl
theorem Qm(x:Operand)(i:Nat):aZ P conv call ⟨d,.extract x i,ty,ps,af,gd⟩ T σ nx=(aeh i (val T x)).map (·,σ,nx):=nG T σ nx rfl fun σ=>Il d ty ps af gd T σ nx x i
theorem aeE(x:Operand)(t:TypeId):aZ P conv call ⟨d,.call ⟨.builtin .len,#[x],#[t]⟩,ty,ps,af,gd⟩ T σ nx=(Ar P t (val T x)).map (·,σ,nx):=nG T σ nx rfl fun _=>rfl
theorem Yt(t:TypeId)(parts:Array (Nat×Operand)):aZ P conv call ⟨d,.build t parts,ty,ps,af,gd⟩ T σ nx=(BK P t (parts.toList.map fun p=>(p.1,val T p.2))).map (·,σ,nx):=nG T σ nx rfl fun _=>rfl
theorem Yu(t:TypeId)(h:(aN P t).ok=true)(E:decide ((aN P t).zero.length=(aN P t).size)=true)(G:decide (0<(aN P t).size)=true)(hb:isB (aN P t).zero=false):aZ P conv call ⟨d,.alloc t,ty,ps,af,gd⟩ T σ nx=some (.rp nx 0,bG σ nx (aN P t).zero 0,nx+1) :=
 DL (m:=some ((aN P t).zero,0,.rp nx 0)) T σ nx rfl fun σ=>PW d ty ps af gd T σ nx t h E G hb
theorem aeF(t:TypeId)(x:Operand):aZ P conv call ⟨d,.box t x,ty,ps,af,gd⟩ T σ nx=(cellsOfV (val T x)).map fun cs=>(.rp nx 0,bG σ nx cs 0,nx+1):=by
 have:=DL (P:=P) (conv:=conv) (call:=call) (o:=⟨d,.box t x,ty,ps,af,gd⟩) (m:=(cellsOfV (val T x)).map fun cs=>(cs,0,V.rp nx 0)) T σ nx rfl fun σ=>by rw[aay];cases cellsOfV (val T x)<;>rfl
 rw[this];cases cellsOfV (val T x)<;>rfl
def Iu(P:Program)(σ:Store)(nx:Nat)(t:TypeId):V->Option V
 | .rp b off=>if b<nx then bU P σ t (.rp b off)else none
 |v=>bU P σ t v
theorem aa4(t:TypeId)(a:Operand):aZ P conv call ⟨d,.load t a,ty,ps,af,gd⟩ T σ nx=(Iu P σ nx t (val T a)).map (·,σ,nx):=by
 have key:∀b off,bU P (restrict σ [b]) t (.rp b off)=bU P σ t (.rp b off):=fun b off=>by
  unfold bU gI restrict;simp
 rw[qZ (F:=aS (val T a)) T σ nx rfl (fun _=>rfl)];show(if((aS (val T a)).all fun b=>decide (b<nx))=true then match(bU P (restrict σ (aS (val T a))) t (val T a)).map (·,restrict σ (aS (val T a)),nx)with|some (v,σ1,aO)=>some (v,aQ (aS (val T a)) nx aO σ σ1,aO)|none=>none else none)=_;cases E:val T a with
 |rp b off=>
  simp only[aS,xH,xG,Bool.and_true,decide_eq_true_eq,Iu,key]
  by_cases hb:b<nx
  .rw[uf hb,uf hb]
   cases bU P σ t (.rp b off)with
   |none=>rfl
   |some v=>simp only[zT,mW]
  .rw[ug hb,ug hb];rfl
 |tp row off=>
  simp only[aS,xG,if_true,Iu];have:bU P (restrict σ []) t (.tp row off)=bU P σ t (.tp row off):=by unfold bU gI;rfl
  rw[this];cases bU P σ t (.tp row off)with
  |none=>rfl
  |some v=>simp only[zT,mV]
 |rs b off len=>
  have e:∀σ,bU P σ t (.rs b off len)=none:=fun σ=>by unfold bU gI;split<;>simp
  simp only[Iu,e,Option.map_none]
  split<;>rfl
 |_=>
  simp only[aS,xG,if_true,Iu];unfold bU gI;cases P.info? t<;>cases P.underlying t<;>simp
theorem aa5(σ:Store)(nx:Nat)(t:TypeId)(row:List V)(off:Nat):Iu P σ nx t (.tp row off)=bU P σ t (.tp row off):=rfl
theorem aa6(σ:Store)(nx:Nat)(t:TypeId)(b off:Nat):Iu P σ nx t (.rp b off)=if b<nx then bU P σ t (.rp b off)else none:=rfl
def Ny(P:Program)(σ:Store)(nx:Nat)(t:TypeId)(v:V):V->Option Store
 | .rp b off=>if b<nx then fJ P σ t (.rp b off) v else none
 |_=>none
theorem Yv(t:TypeId)(a x:Operand):aZ P conv call ⟨d,.store t a x,ty,ps,af,gd⟩ T σ nx=(Ny P σ nx t (val T x) (val T a)).map (.dF [],·,nx):=by
 rw[qZ (F:=aS (val T a)) T σ nx rfl (fun _=>rfl)];show(if((aS (val T a)).all fun b=>decide (b<nx))=true then match(fJ P (restrict σ (aS (val T a))) t (val T a) (val T x)).map (V.dF [],·,nx)with|some (v,σ1,aO)=>some (v,aQ (aS (val T a)) nx aO σ σ1,aO)|none=>none else none)=_;cases G:val T a with
 |rp b off=>
  simp only[aS,xH,xG,Bool.and_true,decide_eq_true_eq,Ny]
  by_cases hb:b<nx
  .rw[uf hb,uf hb]
   unfold fJ;have J:restrict σ [b] b=σ b:=by unfold restrict;simp
   cases P.info? t with
   |none=>rfl
   |some i=>
    cases cellsOfV (val T x)with
    |none=>rfl
    |some vs=>
     simp only[J];cases σ b with
     |none=>rfl
     |some B=>
      by_cases hc:B.wr=true/\vs.length=i.size/\off+vs.length<=B.cells.length/\vs.all aJ=true
      .simp only[uf hc,zT]
       congr 2;congr 1;funext c;unfold aQ upd restrict
       by_cases E:c=b
       .subst E;simp
       .rw[ug (by simp[E]),ug E]
      .simp only[ug hc,Option.map_none]
  .rw[ug hb,ug hb];rfl
 |_=>
  simp only[Ny];have:fJ P (restrict σ (aS (val T a))) t (val T a) (val T x)=none:=by
   rw[G];unfold fJ;cases P.info? t<;>cases cellsOfV (val T x)<;>rfl
  rw[G]at this;rw[this];simp
theorem Yw(σ:Store)(nx:Nat)(t:TypeId)(v:V)(b off:Nat):Ny P σ nx t v (.rp b off)=if b<nx then fJ P σ t (.rp b off) v else none:=rfl
end
end
end Go.TV
namespace Go.TV
set_option linter.unusedVariables false
set_option linter.unusedSimpArgs false
variable [Known]
noncomputable def fn(P:Program)(conv:FuncId->Conv)(ext:Ext)(f:FuncId)(ts:List V):Option V :=
 match ev P conv ext f ts aG 0 with
 |some (v,σ1,_)=>(strip σ1 depth v).map (·.1)
 |none=>none
section
variable {P:Program} {conv:FuncId->Conv} {ext:Ext}
def behind(σ:Store)(ids:List Nat)(t:V):Store:=if ids.isEmpty||flat depth t then σ else Aw σ ids
theorem Qo{f:FuncId}(h:conv f= .FX)(args:List V)(σ:Store)(nx:Nat):dX conv (ev P conv ext) f args σ nx=
  (stripL (strip σ depth) args).bind fun p=>(fn P conv ext f p.1).map fun t=>(t,behind σ p.2 t,nx):=by
 unfold dX fn behind;rw[h];simp only;cases stripL (strip σ depth) args with
 |none=>rfl
 |some p=>
  obtain⟨ts,ids⟩:=p;simp only[zl];cases ev P conv ext f ts aG 0 with
  |none=>rfl
  |some q=>
   obtain⟨v,E,n⟩:=q;simp only;cases strip E depth v with
   |none=>rfl
   |some r=>
    obtain⟨t,j⟩:=r;simp only[zT]
    split<;>rfl
theorem UU(σ:Store)(t:V):behind σ [] t=σ:=rfl
theorem Yx(σ:Store)(ids:List Nat)(v:Value):behind σ ids (.sc v)=σ:=by
 unfold behind depth flat;simp
theorem sG{call:Call}{f:FuncId}(h:conv f= .inl)(args:List V)(σ:Store)(nx:Nat):dX conv call f args σ nx=call f args σ nx:=by
 unfold dX;rw[h]
theorem Qq{call:Call}{f:FuncId}(h:conv f= .own)(args:List V)(σ:Store)(nx:Nat):dX conv call f args σ nx=
  (stripL (strip σ depth) args).bind fun p=>(call f p.1 aG nx).bind fun q=>(gather q.2.1 depth q.1).map fun ids=>(q.1,eG nx σ q.2.1 ids,q.2.2):=by
 unfold dX;rw[h];simp only;cases stripL (strip σ depth) args with
 |none=>rfl
 |some p=>
  simp only[zl];cases call f p.1 aG nx with
  |none=>rfl
  |some q=>
   simp only[zl];cases gather q.2.1 depth q.1<;>rfl
theorem jX(f:V->Option (V×List Nat)):stripL f []=some ([],[]):=rfl
theorem jd(f:V->Option (V×List Nat))(v:V)(vs:List V):stripL f (v :: vs)=(f v).bind fun p=>(stripL f vs).map fun q=>(p.1 :: q.1,p.2++q.2):=by
 show(match f v,stripL f vs with|some (t,i),some (ts,j)=>some (t :: ts,i++j)|_,_=>none)=_;cases f v<;>cases stripL f vs<;>rfl
theorem jQ(σ:Store)(d:Nat)(v:Value):strip σ d (.sc v)=some (.sc v,[]):=by cases d<;>rfl
theorem jS(σ:Store)(d:Nat):strip σ d .nil=some (.ts [] 0,[]):=by cases d<;>rfl
theorem jO(σ:Store)(d:Nat)(row:List V)(off:Nat):strip σ d (.tp row off)=some (.tp row off,[]):=by cases d<;>rfl
theorem jM(σ:Store)(d:Nat)(row:List V)(len:Nat):strip σ d (.ts row len)=some (.ts row len,[]):=by cases d<;>rfl
theorem KW(σ:Store)(d:Nat)(vs:List V):strip σ (d+1) (.agg vs)=(stripL (strip σ d) vs).map fun p=>(.agg p.1,p.2):=by
 show(match stripL (strip σ d) vs with|some (ts,ids)=>some (V.agg ts,ids)|none=>none)=_;cases stripL (strip σ d) vs<;>rfl
theorem Yy(σ:Store)(d:Nat)(vs:List V):strip σ (d+1) (.dF vs)=(stripL (strip σ d) vs).map fun p=>(.dF p.1,p.2):=by
 show(match stripL (strip σ d) vs with|some (ts,ids)=>some (V.dF ts,ids)|none=>none)=_;cases stripL (strip σ d) vs<;>rfl
theorem Yz(σ:Store)(d:Nat)(f:FuncId)(vs:List V):strip σ (d+1) (.clo f vs)=(stripL (strip σ d) vs).map fun p=>(.clo f p.1,p.2):=by
 show(match stripL (strip σ d) vs with|some (ts,ids)=>some (V.clo f ts,ids)|none=>none)=_;cases stripL (strip σ d) vs<;>rfl
theorem Qr(σ:Store)(d b off:Nat):strip σ (d+1) (.rp b off)=(σ b).bind fun B=>(stripL (strip σ d) B.cells).map fun p=>(.tp p.1 off,b :: p.2):=by
 show(match σ b with|some B=>(match stripL (strip σ d) B.cells with|some (ts,ids)=>some (V.tp ts off,b :: ids)|none=>none)|none=>none)=_;cases σ b with
 |none=>rfl
 |some B=>simp only[zl];cases stripL (strip σ d) B.cells<;>rfl
theorem jR(σ:Store)(d b off len:Nat):strip σ (d+1) (.rs b off len)=(σ b).bind fun B=>if off+len*B.st<=B.cells.length then(stripL (strip σ d) ((B.cells.drop off).take (len*B.st))).map fun p=>(.ts p.1 len,b :: p.2)else none:=by
 show(match σ b with|some B=>(if off+len*B.st<=B.cells.length then(match stripL (strip σ d) ((B.cells.drop off).take (len*B.st))with|some (ts,ids)=>some (V.ts ts len,b :: ids)|none=>none)else none)|none=>none)=_;cases σ b with
 |none=>rfl
 |some B=>
  simp only[zl]
  split
  .cases stripL (strip σ d) ((B.cells.drop off).take (len*B.st))<;>rfl
  .rfl
def Qs(ids:List Nat)(t:V)(σ:Store)(nx:Nat):FU:=if(ids.isEmpty||flat depth t)=true then some (t,σ,nx)else none
theorem YA(t:V)(σ:Store)(nx:Nat):Qs [] t σ nx=some (t,σ,nx):=rfl
theorem aa7(ids:List Nat)(v:Value)(σ:Store)(nx:Nat):Qs ids (.sc v) σ nx=some (.sc v,σ,nx):=by
 unfold Qs depth flat;simp
theorem aa8{d:Option Tmp}{ty:TypeId}{ps:String}{O:Array Edge}{S:Option (Nat×Bool)}{T:Nat->V}{σ:Store}{nx:Nat}{g:FuncId}(h:conv g= .FX)(args:Array Operand)(ts:Array TypeId) :
  aZ P conv (ev P conv ext) ⟨d,.call ⟨.value (.func g),args,ts⟩,ty,ps,O,S⟩ T σ nx=(stripL (strip σ depth) (args.toList.map (val T))).bind fun p=>if(p.2.all fun b=>decide (b<nx))=true then(fn P conv ext g p.1).bind fun t=>Qs p.2 t σ nx else none:=by
 unfold aZ;rw[qA d ty ps O S T σ (by rw[h];exact fun e=>by cases e)];cases Y:stripL (strip σ depth) (args.toList.map (val T))with
 |none=>rfl
 |some p=>
  obtain⟨us,ids⟩:=p;simp only[zT,zl]
  by_cases E:(ids.all fun b=>decide (b<nx))=true
  .rw[uf E,uf E]
   have e:=G7 (P:=P) (conv:=conv) (call:=ev P conv ext) d ty ps O S T (restrict σ ids) nx (.func g) args ts;rw[e];have G:stripL (strip (restrict σ ids) depth) (args.toList.map (val T))=some (us,ids) :=
    je (fun v t i h hi=>jU _ v t i h fun b hb=>by unfold restrict;rw[uf (hi b hb)]) Y
   simp only[val,sH,zA,Qo h,G,zl];cases fn P conv ext g us with
   |none=>rfl
   |some t=>
    simp only[zT,zl,keeps,val,h,Qs,behind]
    by_cases J:(ids.isEmpty||flat depth t)=true
    .rw[uf J,uf J,uf J,mW]
    .rw[ug J,ug J]
  .rw[ug E,ug E]
end
abbrev I(n:Int):V:=.sc (.int .i64 n)
abbrev Bo(b:Bool):V:=.sc (.bool b)
abbrev Sg(s:ByteArray):V:=.sc (.string s)
abbrev L(xs:List Int):V:=.ts (xs.map I) xs.length
theorem nP(n:Nat):(0:Int)<=(n:Int):=by omega
theorem iF{n:Int}(E:-9223372036854775808<=n:=by omega)(G:n<=9223372036854775807:=by omega):IntKind.i64.wrap n=n:=by
 rw[IntKind.wrap_i64];omega
end Go.TV
namespace Go.TV
variable [Known]
attribute [go_sem low] nD
attribute [go_sem] Uo aeo Yi Us Ut Qa Nr Uu Uw Ux Qb aep aaS aer aaT aaU Yj Yk Uy Uz Qc Qd Qe UA aaV aes UC Yl ahC aeu aev aew aex aey aaW aaX Ym ahD Qg aaY Yn ahE JY UD UE aez Yo ahF Iq Qh UF aeA Ir Qi UG aeB Ns Yp aaZ aj6 UH aeC JZ UJ UK aeD aa0 aj7 ahG Yq List.contains_cons List.contains_nil Bool.or_false Bool.false_or Bool.true_or Nat.reduceBEq X4 Ub PU X5 X6 X7 Uc Nh PV Nj ad9 X8 aav ad_ X9 Wy Ud PW ajZ aj0 aj1 aht aea aeb aaw Ue aax aec ahu vk xA xM aay aaz aed aaA F7 aee aef aaC aeg Uf PX DJ aaD Nk aaE Nl aaF Il aaG G7 sH ahv KT aei aaI XY TY Ug PZ Uh P5 Ui X_ Uj Yb aaK aej aaL aaM aaN Yc Uk Yd Ye P7 Yf Yg Ul Np Um Un Yh aj2 aek ahw ael aaQ ahx ahy aj3 ahz ahA aem aaR aen ahB UL Qk Nu UM UN UO Ql aa1 UR aa2 Nw Yr aa3 J3 J4 Qm aeE Yt Yu aeF aa4 aa5 aa6 Yv Yw aa8 YA aa7 yJ Option.getD_none XU TM XV TN TP PL TS TT TU TW XW qp TX PN aat PO KR XZ X3 PS T_ Ua ahg ahh ahi ahj ahk ahl ahm ahn aho ahp ahq ahr ahs Qo UU Yx jX jd jQ jS jO jM KW Yy Yz Qr jR iW iY ne_eq xR uy yJ zT zl xW not_false_eq_true reduceCtorEq beq_self_eq_true if_true if_false yR xJ List.map_nil wR xY Nat.reduceEqDiff decide_true decide_false xM vk Bool.not_true vH Bool.and_true Bool.or_true xA bnd and_true true_and
end Go.TV
namespace Go.TV
variable [Known]
theorem nY{body:St->Option (Ex×St)}{E:St}{x:Option (Ex×St)}(S:aA body E=x)(J:Nat->St->Prop)(post:Ex×St->Prop)
  (step:∀n st,J n st->(∃G,body st=some (.norm,G)/\∃m,m<n/\J m G)\/(∃r,body st=some r/\(∀s,r≠(.norm,s))/\post r)) (n:Nat) (Y:J n E):∃r,x=some r/\post r:=by
 subst S
 induction n using Nat.strongRecOn generalizing E with
 |_ n ih=>
  rcases step n E Y with ⟨G,O,m,hm,hJ⟩|⟨r,O,h2,h3⟩
  .obtain⟨r,hr,hp⟩:=ih m hm hJ
   exact⟨r,by rw[Ij,O];exact hr,hp⟩
  .refine⟨r,?_,h3⟩
   rw[Ij,O];obtain⟨e,s⟩:=r;cases e with
   |norm=>exact absurd rfl (h2 s)
   |exit i=>rfl
   |ret=>rfl
end Go.TV
namespace Go.TV
open Go.ChangeShapes Go.WideShapes Go.RowKit
set_option linter.unusedVariables false
variable [Known]
def start(W:World):Sit:=⟨fun k _=>k<W.heap.size,fun _=>none,W⟩
theorem YB(W:World)(E:Kn (start W)):Inv (start W) aG:=Inv.none _ (fun _ _ h=>h) E
structure OpensV {α:Type} (P:Program) (t:TypeId) (c:α->List V) (ok:α->Prop):Prop where
 out:∀ {H:Type} {enc:TypeId×Value->H} {W:World} {base:Nat} {spare:Nat->Bool} {held:Bool} {fuel:Nat} {cs:List Value} {y:DataW H×List MemPlace},
  DataW.trod enc P W base spare held fuel t cs=some y->(∀n∈DataW.weights P t y.1,n<=reachBytes)->∃x,VRs (start W) (c x) cs/\ok x
theorem Nz{s:Sit}{v:V}{x:Value}(h:VR s v x):VRs s [v] [x]:=by
 unfold VRs;exact⟨x,[],rfl,h,by unfold VRs;rfl⟩
theorem opensV_int{P:Program}{t:TypeId}{k:IntKind}(E:P.underlying t=some (.int k)):OpensV P t (fun n:Int=>[.sc (.int k n)]) (fun n=>(Lit.int k n).wf=true) :=
 ⟨fun h _=>by
  obtain⟨n,rfl,_,hw⟩:=DataW.trod_int E h;exact⟨n,Nz (uS rfl),hw⟩⟩
theorem iH{H:Type}{P:Program}{e:TypeId}:∀ {l:List (DataW H)} {d:DataW H},d∈l->∀n∈d.weights P e,n∈DataW.weightsAll P e l
 |c :: l,d,E,n,hn=>by
  unfold DataW.weightsAll;rcases List.mem_cons.1 E with rfl|E
  .exact zD _ hn
  .exact yF _ (iH E n hn)
theorem F9{α:Type}{p:Nat->α->Prop}:∀n,(∀i,i<n->∃x,p i x)->∃l:List α,l.length=n/\∀i x,l[i]?=some x->p i x
 |0,_=>⟨[],rfl,fun i x h=>by simp at h⟩
 |n+1,h=>by
  obtain⟨l,J,hp⟩:=F9 n (fun i hi=>h i (by omega));obtain⟨x,O⟩:=h n (by omega);refine⟨l++[x],by simp[J],fun i y E=>?_⟩;rcases Nat.lt_or_ge i n with hi|hi
  .rw[zZ (by omega)]at E
   exact hp i y E
  .rw[zS (by omega),J]at E
   have G:i-n=0:=by
    rcases Nat.eq_zero_or_pos (i-n)with G|G
    .exact G
    .rw[yZ (by simp;omega)]at E
     cases E
   rw[G]at E;have:x=y:=by simpa using E
   subst this;have:i=n:=by omega
   subst this;exact O
theorem DN{s:Sit}{α:Type}{c:α->List V}{k size:Nat}(hc:∀x,(c x).length=size):∀(xs:List α) (o:Nat),(∀i x,xs[i]?=some x->xI s (c x) k (o+i*size))->xI s (xs.flatMap c) k o
 |[],o,_=>by rw[wZ];unfold xI;trivial
 |x :: xs,o,h=>by
  rw[zJ];have E:=h 0 x rfl;rw[vC,vF]at E;have G:=DN hc xs (o+size) (fun i y J=>by
   have:=h (i+1) y (by simpa using J);rw[wO,Nat.one_mul]at this
   rwa [show o+size+i*size=o+(i*size+size) by omega])
  have app:∀(a b:List V) (o:Nat),xI s a k o->xI s b k (o+a.length)->xI s (a++b) k o:=by
   intro a
   induction a with
   |nil=>intro b o _ hb;simpa using hb
   |cons v a O=>
    intro b o ha hb;rw[xY];unfold xI at ha⊢;refine⟨ha.1,ha.2.1,O b (o+1) ha.2.2 ?_⟩
    rwa [show o+1+a.length=o+(v :: a).length by simp;omega]
  exact app _ _ o E (by rw[hc];exact G)
theorem opensV_slice{P:Program}{t e:TypeId}{α:Type}{c:α->List V}{ok:α->Prop}{B size:Nat}(ht:P.underlying t=some (.slice e))(hd:OpensV P e c ok)(E:∀x,(c x).length=size)(hc:P.cellsOf e=size)(hB:P.bytesOf e=B) :
  OpensV P t (fun xs:List α=>[.ts (xs.flatMap c) xs.length]) (fun xs=>(∀x∈xs,ok x)/\xs.length*B<=140737488351232/\xs.length<=maxLen) :=
 ⟨fun {H enc W base spare held fuel cs y} h hw=>by
  rcases Go.Deep.open_slice ht h with ⟨rfl,rfl⟩|⟨a,len,cap,m,n,D,Pl,rfl,_,hl,hm,b3,rfl,Y⟩
  .exact⟨[],Nz (by unfold VR;exact⟨none,0,rfl,zu _,.inl rfl⟩),fun x Y=>by simp at Y,by simp,wM _⟩
  .have c3:len<=m:=by rw[b3];split<;>omega
   simp only[DataW.weights,ht,zB,List.length_range]at hw;obtain⟨xs,a1,G⟩:=F9 (p:=fun i x=>∃J:List Value,J.length=size/\VRs (start W) (c x) J/\ok x/\∀(j:Nat) (u:Value),J[j]?=some u->W.cell? (a.add (i*size+j))=some u) len (fun i hi=>by
    obtain⟨b4,a6,b5⟩:=Y i (by omega);obtain⟨x,hK,b6⟩:=hd.out b5 (fun k hk=>hw k (zU _ (zD _ (iH (d:=D i) (List.mem_map.2 ⟨i,List.mem_range.2 hi,rfl⟩) k hk))));obtain⟨_,b7,b8⟩:=World.cells?_some a6;refine⟨x,b4,by rw[<- uK hK,E],hK,b6,fun j u hu=>?_⟩;have hj:j<P.cellsOf e:=by rw[<- b7];exact(List.getElem?_eq_some_iff.1 hu).1
    have:=b8 j hj;rw[hc,Go.Deep.add_add]at this;rw[this,hu])
   have hlen:len<=9223372036854775807:=by
    unfold maxLen at hm;omega
   refine⟨xs,Nz ?_,fun x b9=>?_,?_,by omega⟩
   .unfold VR
    refine⟨some a,cap,by rw[a1],by omega,?_⟩
    by_cases O:xs.flatMap c=[]
    .exact .inl O
    .obtain⟨x0,c0⟩:∃x0,xs[0]?=some x0:=by
      cases xs with
      |nil=>exact absurd rfl O
      |cons x0 r=>exact⟨x0,rfl⟩
     have S:a.spot=none/\a.block<W.heap.size:=by
      obtain⟨J,k1,k2,k3,k4⟩:=G 0 x0 c0;have a7:J≠[]:=by
       rintro rfl;have:size=0:=by simpa using k1.symm
       apply O;rw[List.flatMap_eq_nil_iff];intro x _;exact zN (by rw[E,this])
      cases J with
      |nil=>exact absurd rfl a7
      |cons u r=>
       have:=k4 0 u rfl;rw[vC,yu]at this;have c2:a.add 0=a:=by simp[Addr.add]
       rw[c2]at this;refine⟨?_,World.block_lt_of_cell? W a this⟩;unfold World.cell? at this
       split at this
       .split at this
        .cases this
        .rename_i hs;simpa using hs
       .cases this
     obtain⟨a8,b2⟩:=S;obtain⟨ab,ao,c4⟩:=a;simp only at a8 b2;subst a8;refine .inr ⟨ab,ao,rfl,DN E xs ao fun i x Y=>Dv fun j v hv=>⟨b2,?_⟩⟩;obtain⟨J,k1,k2,k3,k4⟩:=G i x Y;obtain⟨u,hu,hr⟩:=uM k2 hv;refine⟨u,?_,hr⟩;have:=k4 j u hu;rw[Addr.add_lit]at this;rw[wV];exact this
   .obtain⟨i,hi⟩:=List.mem_iff_getElem?.1 b9
    obtain⟨_,_,_,h3,_⟩:=G i x hi;exact h3
   .have:=hw _ zH
    rw[hB]at this;rw[a1];exact zL (yc _ (by omega)) this⟩
theorem opensV_param{P:Program}{t:TypeId}{α:Type}{c:α->List V}{ok:α->Prop}(h:OpensV P t c ok){H:Type}{enc:TypeId×Value->H}{W:World}{base:Nat}{spare:Nat->Bool}{held:Bool}{v:Value}{y:DataW H}{p:List MemPlace}
  (S:DataW.Trod enc P W base spare held t v y p) {ts:List TypeId} {O:List (DataW H)} {j:Nat} (E:(DataW.weightsEach P ts O).all (·<=reachBytes)=true) (G:ts[j]?=some t) (J:O[j]?=some y) :
  ∃x,VRs (start W) (c x) v.cells.toList/\ok x:=by
 obtain⟨fuel,Y⟩:=S;exact h.out Y (fun n hn=>by
  have:=List.all_eq_true.1 E n (DataW.weights_mem_each G J n hn)
  simpa using this)
theorem VR_cell{s:Sit}{v:V}{x:Value}(hc:x.cells=#[x])(h:VRs s [v] x.cells.toList):VR s v x:=by
 rw[hc]at h;unfold VRs at h;obtain⟨y,G,e,E,_⟩:=h;simp only[List.cons.injEq]at e;rw[e.1];exact E
theorem calls_of_fn{P:Program}{conv:FuncId->Conv}{ext:Ext}(hm:P.follows .mixedOrders=true)(S:DI P ext){f:FuncId}{args:List V}{E:List Value}{W:World}(Y:Kn (start W))(hv:VRs (start W) args E)(h:fn P conv ext f args=some (.sc (.bool true))) :
  Calls P f E.toArray W (fun e w'=>e= .returned (.bool true)/\Below W.heap.size W w'):=by
 unfold fn at h
 split at h
 .rename_i v G n J
  obtain⟨p,hp,e⟩:=bI h;obtain⟨_,_,Tm⟩:=qM hm S _ _ _ _ _ _ _ J;refine(Tm (start W) E (YB W Y) (fun _ _ _=>rfl) hv).mono ?_;rintro e' w' ⟨s',x,rfl,rfl,O⟩;refine⟨?_,O.EH.below⟩;have:=jP O.inv depth v p.1 p.2 x _ hp O.vr (rO s' G p.2);rw[e]at this;unfold VR at this;rw[this.1]
 .cases h
end Go.TV
namespace Go.TV
variable [Known]
theorem qR{α β:Type}{P:Program}(m:Sem α)(f:α->Sem β):aI P (m>>=f)=(aI P m).bind fun a=>aI P (f a):=by
 show aI P (m.bind f)=_
 induction m with
 |pure a=>rfl
 |program k E=>exact E P
 |mark m k E=>exact E
 |_=>rfl
theorem Gf{α:Type}{P:Program}(a:α):aI P (pure a:Sem α)=some a:=rfl
theorem qP{P:Program}:aI P program=some P:=rfl
theorem Iw{α:Type}{P:Program}(c:Prop)[Decidable c](a b:Sem α):aI P (if c then a else b)=if c then aI P a else aI P b:=by split<;>rfl
theorem qx{P:Program}{t:TypeId}{d:TypeDesc}(h:P.underlying t=some d):aI P (underlying t)=some d:=by
 unfold underlying;rw[qR,qP];simp only[zl,h];rfl
theorem r_{P:Program}(d:Nat)(t:TypeId)(k E:IntKind)(a b:Int)(h:P.underlying t=some (.int E)):aI P (Op.equalIn (d+1) t (.int k a) (.int k b))=some (a==b):=by
 unfold Op.equalIn;rw[qR,qx h];simp only[zl,if_true];rfl
theorem DR{P:Program}(d:Nat)(t:TypeId)(xs E:Array Value)(G:P.underlying t=some (.struct (P.fieldsOf t)))(hp:P.stoodInHeld t=false) :
  aI P (Op.equalIn (d+1) t (.agg xs) (.agg E))=aI P (Op.eqFields d xs E (P.fieldsOf t).toList):=by
 unfold Op.equalIn;rw[qR,qx G];simp only[zl,qR,qP,hp,yR,if_false,Gf];rw[<- Array.forIn_toList];generalize (P.fieldsOf t).toList=J;clear G
 induction J with
 |nil=>rfl
 |cons f J O=>
  simp only[List.forIn_cons,Op.eqFields,qR,Iw]
  split
  .cases aI P (part f.type xs f.offset)with
   |none=>rfl
   |some a=>
    cases aI P (part f.type E f.offset)with
    |none=>rfl
    |some b=>
     simp only[zl];cases aI P (Op.equalIn d f.type a b)with
     |none=>rfl
     |some r=>
      cases r
      .rfl
      .exact O
  .exact O
theorem qy {P:Program} {d:Nat} {xs E:Array Value} {f:Field} {G:List Field} {a b:Value} {r:Bool} (hn:f.name ≠ "_") (ha:aI P (part f.type xs f.offset) = some a) (hb:aI P (part f.type E f.offset) = some b) (J:aI P (Op.equalIn d f.type a b) = some r) :
  aI P (Op.eqFields d xs E (f :: G))=if r=true then aI P (Op.eqFields d xs E G)else some false:=by
 conv=>lhs;rw[Op.eqFields]
 rw[uf hn,qR,ha];simp only[zl,qR,hb,J,Iw];cases r<;>rfl
theorem UW{P:Program}{t:TypeId}{x y:Operand}{cs J:List V}{us vs:List Value}{r:Bool}{G:Array Field}(hm:P.eqGuardType P.depth t=false)(O:P.underlying t=some (.struct G))(hp:P.stoodInHeld t=false)
  (hu:Ba cs=some us) (S:Ba J=some vs) (h:aI P (Op.eqFields 9999 us.toArray vs.toArray G.toList)=some r):bD P .eql t x y (.agg cs) (.agg J)=some (.sc (.bool r)):=by
 have E:P.fieldsOf t=G:=by unfold Program.fieldsOf;rw[O]
 have Y:aI P (eqGuard .eql t x y (.agg us.toArray) (.agg vs.toArray))=some ():=by
  unfold eqGuard;rw[ug (by simp)];simp only[qR,qP,zl,hm,vH,if_true];rfl
 have he:aI P (binOp .eql t (.agg us.toArray) (.agg vs.toArray))=some (Value.bool r):=by
  have h1:binOp .eql t (.agg us.toArray) (.agg vs.toArray)=(Op.equal t (.agg us.toArray) (.agg vs.toArray)>>=fun b=>pure (Value.bool b)):=by simp only[binOp]
  have h2:aI P (Op.equal t (.agg us.toArray) (.agg vs.toArray))=some r:=(DR 9999 t _ _ (by rw[E];exact O) hp).trans (by rw[E];exact h);rw[h1,qR,h2];rfl
 simp only[bD,toVal,hu,S,zT,qR,Y,he,zl];rfl
end Go.TV
namespace Go.TV
variable [Known]
open Go.RowKit
section
variable {P:Program} {conv:FuncId->Conv} {call:Call}
theorem NC{t e:TypeId}{x y:Operand}{p:Option Addr}{len cap:Nat}(h:P.underlying t=some (.slice e))(w:World) :
  ((do eqGuard .eql t x y (.slice p len cap) (.slice none 0 0);binOp .eql t (.slice p len cap) (.slice none 0 0)):Sem Value).run P w= .ok (.bool p.isNone) w:=by
 refine kR _ ?_ w;rw[qR,eqGuard_at_slice];simp only[Gf,zl];have E:binOp .eql t (.slice p len cap) (.slice none 0 0)=(Op.equal t (.slice p len cap) (.slice none 0 0)>>=fun b=>pure (Value.bool b)):=by simp only[binOp]
 rw[E,qR];have G:aI P (Op.equal t (.slice p len cap) (.slice none 0 0))=some p.isNone:=by
  show aI P (Op.equalIn (9999+1) t _ _)=_;unfold Op.equalIn;rw[qR,qx h];simp only[zl];cases p<;>rfl
 rw[G];rfl
theorem Iy(hc:gY P call)(hm:P.follows .mixedOrders=true){f:FuncId}{fn:Func}{A B C D:Code}{id t u:Nat}{o1:Oper}{ty yt E e:TypeId}{ps:String}{af:Array Edge}(hf:P.funcs[f]?=some fn)
  (hb:fn.body=some (.seq A (.seq (.seq (.region id #[o1,⟨some t,.binOp .eql ty (.tmp u) (.const (.slice none 0 0)) yt,E,ps,af,none⟩] false) (.cond (.tmp t) B C)) D)))
  (c6:P.underlying ty=some (.slice e)) {n:Nat} {args:List V}
  (b4:Pn fn (.seq A (.seq (.seq (.region id #[o1,⟨some t,.binOp .eql ty (.tmp u) (.const (.slice none 0 0)) yt,E,ps,af,none⟩] false) (.cond (.tmp t) B C)) D)) args.length=true)
  {σ σ':Store} {nx nx':Nat} {vs:List V} {st1:St} (hA:aK P conv call n A ⟨gX args,σ,nx⟩=some (.norm,st1)) {T2:Nat->V}
  (hg:o1.guard=none) {v1:V} (h1:bH P conv call o1 st1.T st1.σ st1.nx=some (v1,st1.σ,st1.nx)) (c7:T2=fC st1.T o1.dst v1) {row:List V} {len:Nat} (hu:T2 u= .ts row len)
  (S:∀b:Bool,(b=true->row=[])->∃ex O,aK P conv call n (.seq (.cond (.tmp t) B C) D) ⟨upd T2 t (.sc (.bool b)),st1.σ,st1.nx⟩=some (ex,O)/\(ex= .norm\/ex= .ret)/\aU P O.T O.σ fn.results.toList=some vs/\O.σ=σ'/\O.nx=nx') :
  Ae P f args σ nx (oneOf vs) σ' nx':=by
 unfold Pn at b4;simp only[zV,decide_eq_true_eq,wS]at b4;obtain⟨⟨b5,h7⟩,b3⟩:=b4;simp only[AL,zV]at b3;obtain⟨c8,⟨c9,e0,e2⟩,e3⟩:=b3;have e4:=qm hc n A _ _ _ hA;obtain⟨h8,h9,e5,_,_,_,i0⟩:=S false (fun h=>by cases h);have i1:st1.nx<=nx':=by have:=qm hc n _ _ _ _ e5;simp only at this;omega
 have b8:∀o∈[o1,(⟨some t,.binOp .eql ty (.tmp u) (.const (.slice none 0 0)) yt,E,ps,af,none⟩:Oper)],∀d,o.dst=some d->d<fn.ntmps:=fun o ho d e6=>by
  have:=Array.all_eq_true'.1 c9 o (by simpa using ho);rw[e6]at this
  simpa using this
 refine⟨by simp only at e4;omega,⟨fn,hf,by rw[hb];rfl,b5⟩,fun s h6 hi e7 Y=>?_⟩;have hl:=uK Y;refine calls_of_wp hf hb ?_;refine wp_seq (rW hc hm (nt:=fn.ntmps) (GK:=nx') (s0:=s) (Cj:=σ) (CO:=nx) n A ⟨gX args,σ,nx⟩ st1 .norm _ hA c8 (by omega) (fun s1 a1 b6=>?_) s _
  ⟨hi,Wv Y _,by simp;omega,rfl,.refl s σ,.refl s nx nx,e7,zu _⟩)
 refine wp_seq (wp_seq (wp_region ?_));show wpOps P _ _ [0,1] a1 s1.w;have hw:∀(o:Oper) (tm:Array Value),o.guard=none->Region.wanted o (yielded #[o1,(⟨some t,.binOp .eql ty (.tmp u) (.const (.slice none 0 0)) yt,E,ps,af,none⟩:Oper)] tm)=true:=fun o tm h=>by unfold Region.wanted;rw[h]
 rw[wpOps_cons];unfold wpOp;rw[show(#[o1,(⟨some t,.binOp .eql ty (.tmp u) (.const (.slice none 0 0)) yt,E,ps,af,none⟩:Oper)])[0]?=some o1 from rfl];simp only[hw o1 _ hg,if_true];refine .inl (Ic hc h1 b6.inv b6.tr (fun i h1 h2=>absurd h2 (by omega)) fun s2 x2 e8=>?_);have a6:=b6.step e8 (zu _) (b8 o1 (by simp));rw[<- c7]at a6;generalize a1.put o1.dst x2=a2 at a6⊢;rw[wpOps_cons];unfold wpOp;rw[show(#[o1,(⟨some t,.binOp .eql ty (.tmp u) (.const (.slice none 0 0)) yt,E,ps,af,none⟩:Oper)])[1]?=some ⟨some t,.binOp .eql ty (.tmp u) (.const (.slice none 0 0)) yt,E,ps,af,none⟩from rfl];simp only[hw ⟨some t,.binOp .eql ty (.tmp u) (.const (.slice none 0 0)) yt,E,ps,af,none⟩ _ rfl,if_true];have hx:=a6.tr u;rw[hu]at hx;unfold VR at hx;obtain⟨p,cap,e9,_,b9⟩:=hx;refine .inl (iG (w':=s2.w) (x:=.bool p.isNone) ?_ ?_)
 .have he:execOp a2.eval ⟨some t,.binOp .eql ty (.tmp u) (.const (.slice none 0 0)) yt,E,ps,af,none⟩=(do pure (.value (<- (do eqGuard .eql ty (.tmp u) (.const (.slice none 0 0)) (a2.tmps.getD u undef) (.slice none 0 0);binOp .eql ty (a2.tmps.getD u undef) (.slice none 0 0)))):Sem Next):=rfl
  rw[he,e9];simp only[Sem.run_bind,Sem.run_pure];have:=NC (P:=P) (x:=.tmp u) (y:=.const (.slice none 0 0)) (p:=p) (len:=len) (cap:=cap) c6 s2.w;simp only[Sem.run_bind]at this;rw[this];rfl
 .obtain⟨ex,O,J,hex,c0,h0,b2⟩:=S p.isNone (fun hp=>by
   rcases b9 with h|⟨k,o,h,_⟩
   .exact h
   .rw[h]at hp;cases hp)
  have G:Tv fn.ntmps nx' s σ nx (upd T2 t (.sc (.bool p.isNone))) st1.σ st1.nx s2 (a2.put (some t) (.bool p.isNone)) :=
   a6.step (Out.same a6.inv (by unfold VR;exact⟨rfl,rfl⟩)) (zu _) (b8 ⟨some t,.binOp .eql ty (.tmp u) (.const (.slice none 0 0)) yt,E,ps,af,none⟩ (by simp))
  simp only[wpOps];show Code.wp P (Code.cond (.tmp t) B C) _ _ _;have fin:∀s3 a3,Tv fn.ntmps nx' s σ nx O.T O.σ O.nx s3 a3->bodyPost P fn (fun e w'=>∃s' x,s'.w=w'/\e= .returned x/\Out s σ nx s' (oneOf vs) x σ' nx') (M_ ex) a3 s3.w:=fun s3 a3 G=>by
   obtain⟨xs,g1,g2⟩:=kZ G.inv G.tr fn.results.toList vs c0;have c2:(results fn a3.tmps).run P s3.w= .ok (if h:xs.toArray.size=1 then xs.toArray[0]else .tuple xs.toArray) s3.w:=by
    rw[Ii];have e1:fn.results=fn.results.toList.toArray:=by simp
    rw[e1,List.mapM_toArray];simp only[Sem.run_bind,Sem.run_map,g1,Result.andThen_ok,Sem.run_pure]
   have a7:bodyPost P fn (fun e w'=>∃s' x,s'.w=w'/\e= .returned x/\Out s σ nx s' (oneOf vs) x σ' nx') .normal a3 s3.w:=by
    subst h0 b2;exact⟨G.defers,_,c2,s3,_,rfl,rfl,⟨Pz g2,G.inv,G.EH,G.dom⟩⟩
   rcases hex with rfl|rfl
   .exact a7
   .exact a7
  simp only[aK]at J;have c3:AL fn.ntmps (Code.cond (.tmp t) B C)=true:=by simp only[AL,zV];exact⟨e0,e2⟩
  have a8:∀st e c4,(match val (St.T st) (.tmp t)with| .sc (.bool true)=>aK P conv call n B st| .sc (.bool false)=>aK P conv call n C st|_=>none)=some (e,c4)->aK P conv call n (.cond (.tmp t) B C) st=some (e,c4):=fun _ _ _ h=>h
  split at J
  .rename_i c5 h3
   have h4:=qm hc n D _ _ _ J;refine rW hc hm (GK:=nx') n (.cond (.tmp t) B C) ⟨upd T2 t (.sc (.bool p.isNone)),st1.σ,st1.nx⟩ c5 .norm _ (a8 _ _ _ h3) c3 (zL h4 (Nat.le_of_eq b2)) (fun s3 a3 b7=>?_) s2 _ G;exact rW hc hm (GK:=nx') n D c5 O ex _ J e3 (Nat.le_of_eq b2) fin s3 a3 b7
  .rename_i r h5
   refine rW hc hm (GK:=nx') n (.cond (.tmp t) B C) ⟨upd T2 t (.sc (.bool p.isNone)),st1.σ,st1.nx⟩ O ex _ (a8 _ _ _ J) c3 (Nat.le_of_eq b2) (fun s3 a3 b7=>?_) s2 _ G;cases ex with
   |norm=>exact absurd J (h5 O)
   |exit id=>rcases hex with h|h<;>cases h
   |ret=>exact fin s3 a3 b7
end
instance (priority:=low) ajv:Known:=⟨[]⟩
end Go.TV
/- strings.Join as the shelf's contract tells it. -/
namespace Go.TV
open Go.RowKit
set_option linter.unusedVariables false
variable [Known]
def strs:List V->Option (List ByteArray)
 |[]=>some []
 | .sc (.string x) :: r=>(strs r).map (x :: ·)
 |_ :: _=>none
def AO(xs:List ByteArray)(sep:ByteArray):ByteArray:=⟨(Lib.join (xs.map (·.data.toList)) sep.data.toList).toArray⟩
def Qu:List V->Store->Nat->Option (V×Store×Nat)
 |[.ts row len,.sc (.string sep)],σ,nx=>match strs row with
  |some xs=>if xs.length=len/\len<=140737488355328/\(AO xs sep).size<=140737488355328 then some (.sc (.string (AO xs sep)),σ,nx)else none
  |none=>none
 |_,_,_=>none
theorem Iz(xs:List ByteArray)(sep:ByteArray):(AO xs sep).size=(Lib.join (xs.map (·.data.toList)) sep.data.toList).length:=by
 show(List.toArray _).size=_;exact xO
theorem YC{v:V}{r:List V}{xs:List ByteArray}(h:strs (v :: r)=some xs):∃x E,v= .sc (.string x)/\strs r=some E/\xs=x :: E:=by
 unfold strs at h
 split at h
 .rename_i e;cases e
 .rename_i x r' e
  cases e;cases G:strs r with
  |none=>rw[G]at h;cases h
  |some E=>rw[G]at h;cases h;exact⟨x,E,rfl,rfl,rfl⟩
 .cases h
theorem Qv{s:Sit}{k:Nat}:∀ {row:List V} {xs:List ByteArray} {o:Nat},strs row=some xs->xI s row k o->∀(j:Nat) x,xs[j]?=some x->s.w.cell? ⟨k,o+j,none⟩=some (.string x)
 |[],xs,o,h,_,j,x,hj=>by cases h;simp at hj
 |v :: r,xs,o,h,hr,j,x,hj=>by
  obtain⟨y,O,rfl,G,rfl⟩:=YC h;unfold xI at hr;obtain⟨_,⟨c,hc,E⟩,J⟩:=hr;unfold VR at E;cases j with
  |zero=>
   have:y=x:=by simpa using hj
   subst this;rw[vF,hc,E.1]
  |succ j=>
   have:=Qv G J j x (by simpa using hj);rw[show o+(j+1)=o+1+j by omega];exact this
theorem UY{P:Program}{ρ:Go.Shelf.Ren}(L:Go.Proofs.Lays.n156 P ρ)(X:Go.Proofs.Builder.Extra P ρ){f:FuncId}(hf:ρ.f 156=f)(G:callable P f)(args:List V)(σ:Store)(nx:Nat)(v:V)(σ':Store)(nx':Nat)(h:Qu args σ nx=some (v,σ',nx')):Ae P f args σ nx v σ' nx':=by
 subst hf;unfold Qu at h
 split at h
 .rename_i _ _ row len sep
  split at h
  .rename_i xs J
   split at h
   .rename_i hc
    obtain⟨hl,h1,h2⟩:=hc;subst hl;simp only[uj,uh]at h;obtain⟨rfl,rfl,rfl⟩:=h;refine⟨zu _,G,fun s a6 hi a7 ha=>?_⟩;unfold VRs at ha;obtain⟨x1,ys,rfl,O,ha⟩:=ha;unfold VRs at ha;obtain⟨x2,zs,rfl,S,hz⟩:=ha;unfold VRs at hz;subst hz;unfold VR at O S;obtain⟨a,cap,rfl,Y,E⟩:=O;obtain⟨rfl,-⟩:=S;have hv:∀s:Sit,VR s (.sc (.string (AO xs sep))) (.string (AO xs sep)):=fun s=>by unfold VR;exact⟨rfl,rfl⟩
    rcases E with rfl|⟨k,o,rfl,E⟩
    .cases J
     exact(Go.Proofs.Any.strings_Join_none L X a cap sep s.w).mono fun e w' ⟨he,hw⟩=>⟨s,_,hw.symm,he,Out.same hi (hv s)⟩
    .cases row with
     |nil=>
      cases J;exact(Go.Proofs.Any.strings_Join_none L X _ cap sep s.w).mono fun e w' ⟨he,hw⟩=>⟨s,_,hw.symm,he,Out.same hi (hv s)⟩
     |cons v0 r0=>
      have hk:k<s.w.heap.size:=by
       have h3:=E;unfold xI at h3;exact hi.zb k o h3.1
      have a1:(Lib.join (xs.map (·.data.toList)) sep.data.toList).length<=140737488355328:=by
       have:(AO xs sep).size=(Lib.join (xs.map (·.data.toList)) sep.data.toList).length:=Iz xs sep;omega
      refine(Go.Proofs.Any.strings_Join L X k o cap xs sep s.w (fun j x hj=>?_) hk h1 Y a1).mono fun e w' ⟨he,hb⟩=>?_
      .exact Qv (s:=s.nb) J E j x hj
      .obtain⟨_,h5,h6⟩:=hi.grow hb
       exact⟨{ s with w:=w' },_,rfl,he,hv _,h5,h6,fun _ hd=> .inl hd⟩
   .cases h
  .cases h
 .cases h
abbrev Qw(x:ByteArray):List V:=[.sc (.string x)]
theorem YD(xs:List ByteArray):strs (xs.flatMap Qw)=some xs:=by
 induction xs with
 |nil=>rfl
 |cons x xs E=>
  show(strs (xs.flatMap Qw)).map (x :: ·)=_;rw[E];rfl
theorem aeG(xs:List ByteArray)(m:Nat)(h:∀x∈xs,x.size<=m):Lib.lens (xs.map (·.data.toList))<=xs.length*m:=by
 induction xs with
 |nil=>simp[Lib.lens]
 |cons x r E=>
  have G:=E fun y J=>h y (zU _ J)
  have O:=h x zH;have S:x.data.toList.length=x.size:=z_;simp only[Lib.lens,xJ,List.sum_cons,zi,wY]at G⊢;omega
theorem UZ(xs:List ByteArray)(sep:ByteArray)(m:Nat)(h:∀x∈xs,x.size<=m):(AO xs sep).size<=xs.length*(m+sep.size):=by
 have e:(AO xs sep).size=(Lib.join (xs.map (·.data.toList)) sep.data.toList).length:=Iz xs sep;rw[e];cases xs with
 |nil=>simp[Lib.join_nil]
 |cons x r=>
  have E:=aeG (x :: r) m h;rw[xJ,Lib.join_length];rw[xJ]at E;have G:sep.data.toList.length=sep.size:=z_;rw[G,zB,Nat.mul_add];have:sep.size*r.length<=(x :: r).length*sep.size:=by rw[Nat.mul_comm];exact yc _ (by simp)
  omega
end Go.TV
namespace Go.TV
structure fM where
 name:ByteArray
 x:Int
 y:Int
 fixed:Bool
structure Member where
 a:Int
 b:Int
 kind:Int
structure Structure where
 au:List fM
 members:List Member
structure fV where
 name:ByteArray
 st:Structure
 load:List Int
 limits:List Int
structure Move where
 fr:Int
 to:Int
structure bP where
 ah:List fV
 moves:List Move
 strict:Bool
abbrev cI(n:Int):List V:=[I n]
abbrev aX(j:fM):List V:=[Sg j.name,I j.x,I j.y,Bo j.fixed]
abbrev bg(m:Member):List V:=[I m.a,I m.b,I m.kind]
abbrev LL{α:Type}(c:α->List V)(xs:List α):V:=.ts (xs.flatMap c) xs.length
abbrev LI(xs:List Int):V:=.ts (xs.flatMap cI) xs.length
abbrev aC(s:Structure):List V:=[LL aX s.au,LL bg s.members]
abbrev bZ(t:fV):List V:=[Sg t.name,LL aX t.st.au,LL bg t.st.members,LI t.load,LI t.limits]
abbrev fG(m:Move):List V:=[I m.fr,I m.to]
abbrev bQ(y:bP):List V:=[LL bZ y.ah,LL fG y.moves,Bo y.strict]
def okI(n:Int):Prop:=(Lit.int .i64 n).wf=true
def okS(s:ByteArray):Prop:=s.size<=140737488351232
def okL{α:Type}(B:Nat)(ok:α->Prop)(xs:List α):Prop:=(∀x∈xs,ok x)/\xs.length*B<=140737488351232/\xs.length<=maxLen
def WC(j:fM):Prop:=okS j.name/\okI j.x/\okI j.y/\True
def aa_(m:Member):Prop:=okI m.a/\okI m.b/\okI m.kind
def bJ(s:Structure):Prop:=okL 40 WC s.au/\okL 24 aa_ s.members
def DT(t:fV):Prop:=okS t.name/\bJ t.st/\okL 8 okI t.load/\okL 8 okI t.limits
def ahH(m:Move):Prop:=okI m.fr/\okI m.to
def qI(y:bP):Prop:=okL 112 DT y.ah/\okL 16 ahH y.moves/\True
theorem DU{n:Int}:okI n↔ -9223372036854775808<=n/\n<=9223372036854775807:=by
 unfold okI;simp only[Lit.wf,zV,decide_eq_true_eq];have E:IntKind.i64.min= -9223372036854775808:=by decide
 have G:IntKind.i64.max=9223372036854775807:=by decide
 rw[E,G]
end Go.TV
namespace Go.TV
theorem qB{P:Program}{conv:FuncId->Conv}{ext:Ext}(f:FuncId)(ts:List V):fn P conv ext f ts=(ev P conv ext f ts aG 0).bind fun q=>(strip q.2.1 depth q.1).map (·.1):=by
 unfold fn;cases ev P conv ext f ts aG 0 with
 |none=>rfl
 |some q=>rfl
section
variable (v:Value) (row:List V) (a b c:Nat) (f:FuncId) (vs:List V)
theorem YE:aJ (.sc v)=true:=id rfl
theorem U0:aJ .nil=true:=id rfl
theorem YF:aJ (.tp row a)=true:=id rfl
theorem YG:aJ (.ts row a)=true:=id rfl
theorem YH:aJ (.rp a b)=true:=id rfl
theorem YI:aJ (.rs a b c)=true:=id rfl
theorem U2:aJ (.clo f vs)=true:=id rfl
theorem YJ:cellsOfV (.agg vs)=some vs:=id rfl
theorem aa':cellsOfV (.sc v)=some [.sc v]:=id rfl
theorem YK:cellsOfV .nil=some [.nil]:=id rfl
theorem abb:cellsOfV (.tp row a)=some [.tp row a]:=id rfl
theorem abd:cellsOfV (.ts row a)=some [.ts row a]:=id rfl
theorem abe:cellsOfV (.rp a b)=some [.rp a b]:=id rfl
theorem abf:cellsOfV (.rs a b c)=some [.rs a b c]:=id rfl
theorem YL:cellsOfV (.clo f vs)=some [.clo f vs]:=id rfl
theorem Qx(pl:Nat->Option (Nat×Nat))(cells:List V):fB pl cells []=some cells:=rfl
theorem KX(pl:Nat->Option (Nat×Nat))(cells:List V)(i:Nat)(v:V)(rest:List (Nat×V)):fB pl cells ((i,v) :: rest)=(pl i).bind fun p=>(cellsOfV v).bind fun vs=>if vs.length=p.2/\p.1+vs.length<=cells.length then fB pl (patch cells p.1 vs) rest else none:=by
 show(match pl i,cellsOfV v with|some (off,size),some vs=>_|_,_=>none)=_;cases pl i<;>cases cellsOfV v<;>rfl
theorem EY(cells:List V)(off:Nat)(v:V):patch cells off [v]=cells.set off v:=rfl
theorem YM(u:V)(cells:List V)(off:Nat):patch (u :: cells) off []=(u :: cells).take off++[]++(u :: cells).drop (off+0):=rfl
theorem EZ(u:V)(cells:List V)(off:Nat)(v w:V)(vs:List V):patch (u :: cells) off (v :: w :: vs)=(u :: cells).take off++(v :: w :: vs)++(u :: cells).drop (off+(v :: w :: vs).length):=rfl
end
attribute [go_sem] YE U0 YF YG YH YI U2 YJ aa' YK abb abd abe abf YL Qx KX EY YM EZ
attribute [go_sem] depth zA zJ wZ bG vV List.set_cons_succ zi yw yO Nat.reduceAdd Nat.reduceLT Nat.reduceLeDiff xH xG yu vF yX List.drop_succ_cons List.take_succ_cons List.take_zero Nat.reduceMul vC Nat.one_mul yj dK
end Go.TV
namespace Go.TV
section
variable {α:Type} {c:α->List V} {s:Nat}
theorem kD(hc:∀x,(c x).length=s)(xs:List α):(xs.flatMap c).length=xs.length*s:=by
 induction xs with
 |nil=>simp
 |cons x xs E=>rw[zJ,zo,E,hc,zi,wY,vU]
theorem KY(hc:∀x,(c x).length=s)(xs:List α)(k:Nat):(xs.flatMap c).drop (k*s)=(xs.drop k).flatMap c:=by
 induction xs generalizing k with
 |nil=>simp
 |cons x xs E=>
  cases k with
  |zero=>simp
  |succ k=>
   rw[zJ,wY,vU,<- List.drop_drop];rw[show s=(c x).length from(hc x).symm,List.drop_left,hc x,E,List.drop_succ_cons]
theorem kG(hc:∀x,(c x).length=s)(xs:List α)(k:Nat)(h:k<xs.length):((xs.flatMap c).drop (k*s)).take s=c xs[k]:=by
 rw[KY hc,yQ h,zJ,show s=(c xs[k]).length from(hc _).symm,List.take_left]
theorem kF(c:α->V)(xs:List α)(k:Nat)(h:k<xs.length):(xs.flatMap fun x=>[c x])[k]?=some (c xs[k]):=by
 induction xs generalizing k with
 |nil=>cases h
 |cons x xs E=>
  cases k with
  |zero=>rfl
  |succ k=>exact E k (by simpa using h)
theorem kE(hc:∀x,(c x).length=s)(hs:0<s)(xs:List α)(k:Nat)(h:k<xs.length):xs.flatMap c≠[]:=by
 intro e;have:=kD hc xs;rw[e]at this;have E:0<xs.length*s:=Nat.mul_pos (by omega) hs;simp at this;omega
def mix(c:α->List V)(z:List V)(xs:List α)(n k:Nat):List V:=(xs.take k).flatMap c++rep (n-k) z
theorem lG(n:Nat)(z:List V):(rep n z).length=n*z.length:=by simp[rep]
theorem abg(c:α->List V)(z:List V)(xs:List α)(n:Nat):rep n z=mix c z xs n 0:=by simp[mix]
theorem abh(c:α->List V)(z:List V)(xs:List α):mix c z xs xs.length xs.length=xs.flatMap c:=by simp[mix,rep]
theorem WE(hc:∀x,(c x).length=s){z:List V}(E:z.length=s)(xs:List α)(k:Nat)(h:k<=xs.length):(mix c z xs xs.length k).length=xs.length*s:=by
 unfold mix;rw[zo,kD hc,lG,E,zY,yB h,<- wO];congr 1;omega
theorem lF(n:Nat)(z:List V):rep (n+1) z=z++rep n z:=by simp[rep,yL]
theorem YN(hc:∀x,(c x).length=s){z:List V}(G:z.length=s)(xs:List α)(k:Nat)(h:k<xs.length) :
  (mix c z xs xs.length k).take (k*s)++c xs[k]++(mix c z xs xs.length k).drop (k*s+s)=mix c z xs xs.length (k+1):=by
 have E:((xs.take k).flatMap c).length=k*s:=by rw[kD hc,zY,yB (by omega)]
 have J:xs.length-k=(xs.length - (k+1))+1:=by omega
 unfold mix;rw[xZ E,<- List.drop_drop,List.drop_left' E,J,lF,List.drop_left' G,wz,zy h];simp only[zC,Option.toList_some,zJ,wZ,zA,zF]
theorem YO(hc:∀x,(c x).length=s){z:List V}(E:z.length=s)(xs:List α)(k:Nat)(h:k<xs.length) :
  patch (mix c z xs xs.length k) (k*s) (c xs[k])=mix c z xs xs.length (k+1):=by
 have J:=YN hc E xs k h;have O:∀(cells:List V) (off:Nat) (vs:List V),vs.length=s->(s=1->off<cells.length)->patch cells off vs=cells.take off++vs++cells.drop (off+s):=by
  intro cells off vs G hs;unfold patch
  split
  .rename_i v
   have:s=1:=by simpa using G.symm
   subst this;rw[vM,uf (hs rfl)];simp
  .rw[G]
 rw[O _ _ _ (hc _) (fun e=>?_),J];rw[WE hc E xs k (by omega),e];omega
theorem aeH{c:α->V}{z:V}(xs:List α)(k:Nat)(h:k<xs.length) :
  (mix (fun x=>[c x]) [z] xs xs.length k).set k (c xs[k])=mix (fun x=>[c x]) [z] xs xs.length (k+1):=by
 have:=YO (c:=fun x=>[c x]) (s:=1) (fun _=>rfl) (z:=[z]) rfl xs k h
 rwa [yj]at this
theorem jh(f:V->Option (V×List Nat))(a b:List V)(ha:stripL f a=some (a,[]))(hb:stripL f b=some (b,[])):stripL f (a++b)=some (a++b,[]):=by
 induction a with
 |nil=>exact hb
 |cons v a ih=>
  rw[jd]at ha;rw[xY,jd];cases G:f v with
  |none=>rw[G]at ha;cases ha
  |some p=>
   rw[G]at ha;cases E:stripL f a with
   |none=>rw[E]at ha;cases ha
   |some q=>
    rw[E]at ha;simp only[zl,zT,uj,uh,List.cons.injEq,List.append_eq_nil_iff]at ha;obtain⟨⟨J,O⟩,S,Y⟩:=ha;obtain⟨p1,p2⟩:=p;obtain⟨q1,q2⟩:=q;simp only at J O S Y;subst J O S Y;rw[ih E];simp
theorem jW{f:V->Option (V×List Nat)}(h:∀x,stripL f (c x)=some (c x,[]))(xs:List α):stripL f (xs.flatMap c)=some (xs.flatMap c,[]):=by
 induction xs with
 |nil=>rfl
 |cons x xs E=>rw[zJ];exact jh f _ _ (h x) E
end
section
variable {P:Program} {t:TypeId} {x y:Operand}
theorem aeI{a b:ByteArray}:bD P .eql t x y (.sc (.string a)) (.sc (.string b))=some (.sc (.bool (a.toList==b.toList))):=by
 simp only[bD,toVal,eqGuard_at_string,binOp_string_eql];rfl
theorem aeJ{a b:ByteArray}:bD P .neq t x y (.sc (.string a)) (.sc (.string b))=some (.sc (.bool !(a.toList==b.toList))):=by
 simp only[bD,toVal,eqGuard_at_string,binOp_string_neq];rfl
theorem qQ{a b:Bool}(h:P.underlying t=some .bool)(f:Bool->Value):aI P ((Op.equal t (.bool a) (.bool b)).bind fun r=>pure (f r))=some (f (a==b)):=by
 show aI P ((Op.equalIn (9999+1) t _ _).bind fun r=>pure (f r))=_;unfold Op.equalIn underlying;show aI P (.program fun p=>_)=_;simp only[aI];have pb:∀ {β E:Type} (a:β) (f:β->Sem E),(Sem.pure a).bind f=f a:=fun _ _=>rfl
 have G:∀ {β E:Type} (a:β) (f:β->Sem E),(pure a:Sem β).bind f=f a:=fun _ _=>rfl
 simp only[h,pb,G];rfl
theorem aeK{a b:Bool}(h:P.underlying t=some .bool):bD P .eql t x y (.sc (.bool a)) (.sc (.bool b))=some (.sc (.bool (a==b))):=by
 simp only[bD,toVal,eqGuard_at_bool,pure_bind,binOp];first|(erw[qQ h (fun r=> .bool r)];rfl)|(erw[qQ h (fun r=> .bool !r)];rfl)
theorem aeL{a b:Bool}(h:P.underlying t=some .bool):bD P .neq t x y (.sc (.bool a)) (.sc (.bool b))=some (.sc (.bool !(a==b))):=by
 simp only[bD,toVal,eqGuard_at_bool,pure_bind,binOp];first|(erw[qQ h (fun r=> .bool r)];rfl)|(erw[qQ h (fun r=> .bool !r)];rfl)
end
attribute [go_sem] aeI aeJ aeK aeL bne_self_eq_false BEq.rfl
theorem rP{body:St->Option (Ex×St)}{G:St}{x:Option (Ex×St)}(S:aA body G=x)(N:Nat)(J:Nat->St->Prop)(post:Ex×St->Prop)
  (step:∀k st,k<N->J k st->(∃E,body st=some (.norm,E)/\J (k+1) E)\/(∃r,body st=some r/\(∀s,r≠(.norm,s))/\post r))
  (last:∀st,J N st->∃r,body st=some r/\(∀s,r≠(.norm,s))/\post r) (h0:J 0 G):∃r,x=some r/\post r:=by
 refine nY S (fun n st=>n<=N/\J (N-n) st) post ?_ N ⟨zu _,by rwa [yh]⟩;rintro n st ⟨hn,O⟩;cases n with
 |zero=>exact .inr (last st O)
 |succ n=>
  rcases step _ st (by omega) O with ⟨E,Y,h2⟩|h
  .exact .inl ⟨E,Y,n,by omega,by omega,by rwa [show N-n=N - (n+1)+1 by omega]⟩
  .exact .inr h
theorem iV{α:Type}(σ:Nat->α)(b:Nat)(x y:α):upd (upd σ b x) b y=upd σ b y:=by
 funext i;unfold upd
 split<;>rfl
theorem ahI:(false==true)=false:=id rfl
theorem ahJ:(true==false)=false:=id rfl
attribute [go_sem] ahI ahJ Option.map_none iV List.isEmpty_nil Int.cast_ofNat_Int zM
theorem Qy{P:Program}{t:TypeId}{lo hi:Option V}{σ:Store}(h:(aN P t).slice=true)(E:(aN P t).PK=true):bK P t .nil lo hi none σ=(bnd lo 0).bind fun l=>(bnd hi 0).bind fun h=>if l<=h/\h<=0 then some .nil else none:=by
 obtain⟨e,O,z,G,J,S,Y,h5,h6,h7⟩:=ig h E;unfold bK;simp only[G,J];cases bnd lo 0<;>cases bnd hi 0<;>rfl
theorem aeM(σ:Store)(s:Nat):rowOf σ s .nil=some ([],0):=rfl
theorem ahK(σ:Store)(s:Nat)(row:List V)(len:Nat):rowOf σ s (.ts row len)=if row.length=len*s then some (row,len)else none:=rfl
theorem ahL(σ:Store)(s b off len:Nat):rowOf σ s (.rs b off len)=(σ b).bind fun B=>if off+len*s<=B.cells.length then some ((B.cells.drop off).take (len*s),len)else none:=by
 show(match σ b with|some B=>_|none=>none)=_;cases σ b<;>rfl
theorem DV(σ:Store)(nx size bytes:Nat)(row:List V)(m:Nat):bC σ nx size bytes .nil row m=if m=0 then some (.nil,σ,nx)else if m<=maxLen/\m*bytes<=140737488355328 then some (.rs nx 0 m,bG σ nx row size,nx+1)else none:=rfl
theorem IB{σ:Store}{nx bytes b len m:Nat}{B:BZ}{row:List V}(hb:σ b=some B)(E:B.cells.length=len)(hs:B.st=1)(hm:m≠0)(G:len+m<=maxLen)(J:(len+m)*bytes<=140737488355328)(O:row.all aJ=true) :
  bC σ nx 1 bytes (.rs b 0 len) row m=some (.rs nx 0 (len+m),upd (upd σ b none) nx (some ⟨B.cells++row,1,B.wr⟩),nx+1):=by
 unfold bC;simp only[hb,hm,if_false,E,hs,G,J,O];rw[ug (by omega),uf (by simp)];simp
theorem ND:¬(1000000000:Int)=0:=by decide
attribute [go_sem] ND
theorem IC{P:Program}{conv:FuncId->Conv}{call:Call}(d:Option Tmp)(ty:TypeId)(ps:String)(E:Array Edge)(G:Option (Nat×Bool))(T:Nat->V)(σ:Store)(nx:Nat)(t:TypeId)(h:(aN P t).slice=true)(J:(aN P t).PK=true):bH P conv call ⟨d,.buildSlice t 0 #[],ty,ps,E,G⟩ T σ nx=some (.nil,σ,nx):=by
 rw[nD d ty ps E G T σ nx t 0 #[] (by rfl)];have:=qp (P:=P) (t:=t) (len:=0) (parts:=([]:List (Nat×V))) (σ:=σ) (nx:=nx) h J
 simpa using this
theorem nC{P:Program}{conv:FuncId->Conv}{call:Call}(d:Option Tmp)(ty:TypeId)(ps:String)(G:Array Edge)(J:Option (Nat×Bool))(T:Nat->V)(σ:Store)(nx:Nat)(t:TypeId)(x:Operand)(h:(aN P t).slice=true)(S:(aN P t).PK=true)(hs:(aN P t).CW=1)(Y:(aN P t).BD.length=1)(hc:aJ (val T x)=true) :
  bH P conv call ⟨d,.buildSlice t 1 #[(0,x)],ty,ps,G,J⟩ T σ nx=some (.rs nx 0 1,upd σ nx (some ⟨[val T x],1,true⟩),nx+1):=by
 rw[nD d ty ps G J T σ nx t 1 _ (by rfl),qp h S,ug (by decide),hs,uf (by decide)];have hv:cellsOfV (val T x)=some [val T x]:=by generalize val T x=v at *;cases v<;>simp_all [cellsOfV,aJ]
 have O:(rep 1 (aN P t).BD).length=1:=by rw[lG,Y]
 have E:(rep 1 (aN P t).BD).set 0 (val T x)=[val T x]:=by
  generalize rep 1 (aN P t).BD=l at *
  match l,O with
  |[a],_=>rfl
 show(match fB (fun j=>some (j*1,1)) (rep 1 (aN P t).BD) [(0,val T x)]with|some cells=>some (V.rs nx 0 1,bG σ nx cells 1,nx+1)|none=>none)=_;rw[KX];simp only[zl,hv,yT,O,vC,yu,zu,and_self,if_true,EY,E,Qx];rfl
attribute [go_sem] IC nC Qy aeM ahK ahL DV Nat.sub_zero List.isEmpty_cons
def Grow(T:Nat->V)(σ:Store)(nx t:Nat)(acc:List Int):Prop:=(T t= .nil/\acc=[])\/∃b,T t= .rs b 0 acc.length/\acc≠[]/\σ b=some ⟨acc.flatMap cI,1,true⟩/\b<nx
theorem nH:1<=maxLen:=by decide
attribute [go_sem] nH
theorem sS(xs:List Int):(xs.flatMap cI).length=xs.length:=by rw[kD (c:=cI) (s:=1) (fun _=>rfl),yj]
theorem oz{T:Nat->V}{σ:Store}{nx t:Nat}{acc:List Int}(G:Grow T σ nx t acc)(x:Int)(S:acc.length<17592186044415) :
  ∃σ',bC (upd σ nx (some ⟨[I x],1,true⟩)) (nx+1) 1 8 (T t) [I x] 1=some (.rs (nx+1) 0 (acc.length+1),σ',nx+1+1)/\σ' (nx+1)=some ⟨(acc++[x]).flatMap cI,1,true⟩:=by
 have hm:acc.length+1<=maxLen:=by unfold maxLen;omega
 rcases G with ⟨E,rfl⟩|⟨b,E,J,hb,O⟩
 .refine⟨_,by rw[E,DV,ug (by decide),uf (by decide)];rfl,?_⟩
  simp[bG,upd]
 .refine⟨_,by rw[E,IB (B:=⟨acc.flatMap cI,1,true⟩) (by rw[iZ];exact hb) (sS acc) rfl (by decide) hm (by omega) rfl],?_⟩
  simp[upd]
theorem oh{T:Nat->V}{σ':Store}{nx t:Nat}{acc:List Int}(h:σ' (nx+1)=some ⟨acc.flatMap cI,1,true⟩)(G:T t= .rs (nx+1) 0 acc.length)(E:acc≠[]):Grow T σ' (nx+1+1) t acc:=.inr ⟨nx+1,G,E,h,by omega⟩
theorem ou{T T':Nat->V}{σ:Store}{nx t E:Nat}{acc:List Int}(h:T' E=T t)(G:Grow T σ nx t acc):Grow T' σ nx E acc:=by
 unfold Grow at *;rw[h];exact G
theorem Qz(f:V->Option (V×List Nat))(h:∀n,f (I n)=some (I n,[]))(xs:List Int):stripL f (xs.flatMap cI)=some (xs.flatMap cI,[]) :=
 jW (fun x=>by rw[jd,h,jX];rfl) xs
theorem og{T:Nat->V}{σ:Store}{nx t:Nat}{acc:List Int}(G:Grow T σ nx t acc)(d:Nat):∃ids,strip σ (d+1) (T t)=some (LI acc,ids):=by
 rcases G with ⟨E,rfl⟩|⟨b,E,J,hb,O⟩
 .exact⟨[],by rw[E,jS];rfl⟩
 .refine⟨[b],?_⟩
  .rw[E,jR,hb]
   simp only[zl,sS,yj,yu,zu,if_true,yX];rw[zk (by rw[sS];exact zu _),Qz _ (fun n=>jQ _ _ _)];rfl
theorem sN(xs:List Int):(xs.flatMap cI).take xs.length=xs.flatMap cI:=zk (by rw[sS];exact zu _)
theorem gJ(σ:Store)(d:Nat)(xs:List Int):stripL (strip σ d) (xs.flatMap cI)=some (xs.flatMap cI,[]):=Qz _ (fun n=>jQ _ _ _) xs
theorem sW(xs:List Int):(xs.flatMap cI).all aJ=true:=by
 induction xs with
 |nil=>rfl
 |cons x xs E=>rw[zJ];simp[aJ]
attribute [go_sem] xg sS sN gJ sW zu
theorem abj{P:Program}(T:Nat->V)(σ:Store)(t:Tmp)(r:ResultVar)(rs:List ResultVar):aU P T σ (.tmp t :: r :: rs)=(aU P T σ (r :: rs)).map fun vs=>T t :: vs:=by
 rw[aU];cases aU P T σ (r :: rs)<;>rfl
theorem YP{P:Program}(T:Nat->V)(σ:Store)(a:Tmp)(t:TypeId)(r:ResultVar)(rs:List ResultVar):aU P T σ (.cell a t :: r :: rs)=(bU P σ t (T a)).bind fun v=>(aU P T σ (r :: rs)).map fun vs=>v :: vs:=by
 rw[aU];cases bU P σ t (T a)<;>cases aU P T σ (r :: rs)<;>rfl
attribute [go_sem] abj YP
theorem E5{P:Program}{s e:TypeId}{G E k:IntKind}{n:Int}{σ:Store}(hs:P.underlying s=some (.int G))(J:P.underlying e=some (.int E)):dh P s e (.sc (.int k n)) σ=some (.sc (.int E (E.wrap n))):=by
 have h:aI P (convert s e (.int k n))=some (.int E (E.wrap n)):=by
  unfold convert;rw[qR,qx hs];simp only[zl];rw[qR,qx J];rfl
 simp only[dh,toVal,h,zl];rfl
theorem iE{n:Int}(J:0<=n)(O:n<=18446744073709551615):IntKind.u64.wrap n=n:=by
 unfold IntKind.wrap;have E:IntKind.u64.signed=false:=by decide
 have G:IntKind.u64.bits=64:=by decide
 simp only[E,G,vk];rw[ug (by simp)];omega
def U3(a:Int):Int:=((BitVec.ofInt 64 a &&& BitVec.ofInt 64 255).toNat:Nat)
theorem tZ(a:Int):0<=U3 a/\U3 a<=255:=by
 unfold U3;rw[BitVec.toNat_and];have h:(BitVec.ofInt 64 255).toNat=255:=by decide
 rw[h];have:=Nat.and_le_right (n:=(BitVec.ofInt 64 a).toNat) (m:=255);omega
def amZ(a b:Int):Int:=IntKind.i64.wrap ((BitVec.ofInt 64 a^^^BitVec.ofInt 64 b).toNat:Nat)
section
variable {P:Program} {t:TypeId} {x y:Operand}
theorem YQ{a:Int}:bD P .and t x y (.sc (.int .i64 a)) (.sc (.int .i64 255))=some (.sc (.int .i64 (U3 a))):=by
 have h:(Op.intBits .and .i64 a 255)=(pure (.int .i64 (U3 a)):Sem Value):=by
  show(pure (.int .i64 (IntKind.i64.wrap (U3 a))):Sem Value)=_;rw[iF (by have:=tZ a;omega) (by have:=tZ a;omega)]
 simp only[bD,toVal,eqGuard_at_int,binOp_and,h];rfl
theorem ahM{a b:Int}:bD P .xor t x y (.sc (.int .i64 a)) (.sc (.int .i64 b))=some (.sc (.int .i64 (amZ a b))):=by
 simp only[bD,toVal,eqGuard_at_int,binOp_xor];rfl
theorem ahN{k E:IntKind}{a n:Int}(h:¬n<0):bD P .shr t x y (.sc (.int k a)) (.sc (.int E n))=some (.sc (.int k (a.fdiv (2^min n.toNat k.bits)))):=by
 have hs:Op.shift .shr k a E n=(pure (.int k (a.fdiv (2^min n.toNat k.bits))):Sem Value):=by
  unfold Op.shift;rw[ug h]
 simp only[bD,toVal,eqGuard_at_int,binOp_shr,hs];rfl
end
def am0(a b:Int):Int:=IntKind.i64.wrap ((BitVec.ofInt 64 a &&& BitVec.ofInt 64 b).toNat:Nat)
theorem ahO{P:Program}{t:TypeId}{x y:Operand}{a b:Int}:bD P .and t x y (.sc (.int .i64 a)) (.sc (.int .i64 b))=some (.sc (.int .i64 (am0 a b))):=by
 simp only[bD,toVal,eqGuard_at_int,binOp_and];rfl
attribute [go_sem] YQ ahM ahN
attribute [go_sem low] ahO
def aeN:V->Bool
 | .sc _=>true
 |_=>false
theorem aeO(v:Value):aeN (.sc v)=true:=id rfl
theorem QD{P:Program}{conv:FuncId->Conv}{call:Call}(d:Option Tmp)(ty:TypeId)(ps:String)(G:Array Edge)(J:Option (Nat×Bool))(T:Nat->V)(σ:Store)(nx:Nat)(s e:TypeId)(x:Operand)(E:aeN (val T x)=true) :
  aZ P conv call ⟨d,.convert s e x,ty,ps,G,J⟩ T σ nx=(dh P s e (val T x) aG).map (·,σ,nx):=by
 obtain⟨u,hu⟩:∃u,val T x= .sc u:=by
  cases O:val T x<;>rw[O]at E<;>first|exact⟨_,rfl⟩|cases E
 refine nG T σ nx (by show some (aS (val T x))=some [];rw[hu];rfl) fun σ=>?_
 show(dh P s e (val T x) σ).map _=_;rw[hu];rfl
attribute [go_sem] aeO QD
theorem ji{b:Option (Ex×St)}{J:St->Prop}{post:Ex×St->Prop}(h:∃x,b=some x/\((∃E,x=(.norm,E)/\J E)\/((∀s,x≠(.norm,s))/\post x))):(∃E,b=some (.norm,E)/\J E)\/(∃r,b=some r/\(∀s,r≠(.norm,s))/\post r):=by
 obtain⟨x,rfl,⟨E,rfl,h⟩|⟨G,O⟩⟩:=h
 .exact .inl ⟨E,rfl,h⟩
 .exact .inr ⟨x,rfl,G,O⟩
theorem aeP{P:Program}{conv:FuncId->Conv}{call:Call}{d:Option Tmp}{ty:TypeId}{ps:String}{E:Array Edge}{G:Option (Nat×Bool)}{T:Nat->V}{σ:Store}{nx:Nat}{g:FuncId}(h:conv g= .inl)(args:Array Operand)(ts:Array TypeId) :
  aZ P conv call ⟨d,.call ⟨.value (.func g),args,ts⟩,ty,ps,E,G⟩ T σ nx=if(((args.toList.map (val T)).flatMap zI).all fun b=>decide (b<nx))=true then
   (call g (args.toList.map (val T)) (restrict σ ((args.toList.map (val T)).flatMap zI)) nx).map fun r=>(r.1,aQ ((args.toList.map (val T)).flatMap zI) nx r.2.2 σ r.2.1,r.2.2)else none:=by
 have J:fK conv T σ (⟨d,.call ⟨.value (.func g),args,ts⟩,ty,ps,E,G⟩:Oper)=some ((args.toList.map (val T)).flatMap zI):=by
  simp only[fK,val,h,wZ,zA]
 rw[qZ T σ nx J (fun v=>by simp only[keeps,val,h])]
 split
 .have e:=G7 (P:=P) (conv:=conv) (call:=call) d ty ps E G T (restrict σ ((args.toList.map (val T)).flatMap zI)) nx (.func g) args ts
  rw[e];simp only[val,sH,zA,sG h];cases call g (args.toList.map (val T)) (restrict σ ((args.toList.map (val T)).flatMap zI)) nx<;>rfl
 .rfl
theorem aj8{conv:FuncId->Conv}{d:Option Tmp}{ty:TypeId}{ps:String}{E:Array Edge}{G:Option (Nat×Bool)}{g:FuncId}(h:conv g= .inl)(args:Array Operand)(ts:Array TypeId):writer conv ⟨d,.call ⟨.value (.func g),args,ts⟩,ty,ps,E,G⟩=true:=by unfold writer;simp only[h]
theorem abk{conv:FuncId->Conv}{d:Option Tmp}{ty:TypeId}{ps:String}{E:Array Edge}{G:Option (Nat×Bool)}{T:Nat->V}{σ:Store}{g:FuncId}(h:conv g= .inl)(args:Array Operand)(ts:Array TypeId):aP conv T σ ⟨d,.call ⟨.value (.func g),args,ts⟩,ty,ps,E,G⟩=(args.toList.map (val T)).flatMap zI:=by
 simp only[aP,fK,val,h,wZ,zA,yJ]
theorem abl(v:Value):zI (.sc v)=[]:=rfl
theorem abm(b off:Nat):zI (.rp b off)=[b]:=rfl
theorem abn(b off len:Nat):zI (.rs b off len)=[b]:=rfl
theorem abo(row:List V)(len:Nat):zI (.ts row len)=[]:=rfl
theorem abp(row:List V)(off:Nat):zI (.tp row off)=[]:=rfl
theorem YR:zI .nil=[]:=rfl
theorem YS(vs:List V):zI (.agg vs)=vs.flatMap aS:=rfl
theorem lC(σ:Store)(b:Nat):restrict σ [b] b=σ b:=by unfold restrict;simp
theorem J5(σ:Store)(b nx:Nat)(x:Option BZ):aQ [b] nx nx σ (upd (restrict σ [b]) b x)=upd σ b x:=by
 funext i;unfold aQ upd restrict
 by_cases h:i=b
 .simp[h]
 .rw[ug (by simp only[yC,h,false_or];omega),ug h]
attribute [go_sem] aeP aj8 abk abl abm abn abo abp YR YS lC J5
theorem IE{P:Program}{conv:FuncId->Conv}{call:Call}{d:Option Tmp}{ty:TypeId}{ps:String}{E:Array Edge}{G:Option (Nat×Bool)}{T:Nat->V}{σ:Store}{nx:Nat}(a x:Operand)(t u:TypeId) :
  aZ P conv call ⟨d,.call ⟨.builtin .append,#[a,x],#[t,u]⟩,ty,ps,E,G⟩ T σ nx=if((aS (val T a)++aS (val T x)).all fun b=>decide (b<nx))=true then
   (pI P #[t,u] (val T a) (val T x) (restrict σ (aS (val T a)++aS (val T x))) nx).map fun r=>(r.1,aQ (aS (val T a)++aS (val T x)) nx r.2.2 σ r.2.1,r.2.2)else none:=by
 have J:fK conv T σ (⟨d,.call ⟨.builtin .append,#[a,x],#[t,u]⟩,ty,ps,E,G⟩:Oper)=some (aS (val T a)++aS (val T x)):=by
  simp[fK]
 rw[qZ T σ nx J (fun v=>rfl)]
 split
 .rw[KT]
  cases pI P #[t,u] (val T a) (val T x) (restrict σ (aS (val T a)++aS (val T x))) nx<;>rfl
 .rfl
theorem IG{conv:FuncId->Conv}{d:Option Tmp}{ty:TypeId}{ps:String}{E:Array Edge}{G:Option (Nat×Bool)}(args:Array Operand)(ts:Array TypeId):writer conv ⟨d,.call ⟨.builtin .append,args,ts⟩,ty,ps,E,G⟩=true:=id rfl
theorem Gg{conv:FuncId->Conv}{d:Option Tmp}{ty:TypeId}{ps:String}{E:Array Edge}{G:Option (Nat×Bool)}{T:Nat->V}{σ:Store}(a x:Operand)(ts:Array TypeId):aP conv T σ ⟨d,.call ⟨.builtin .append,#[a,x],ts⟩,ty,ps,E,G⟩=aS (val T a)++aS (val T x):=by
 simp[aP,fK]
theorem NG{conv:FuncId->Conv}{d:Option Tmp}{ty:TypeId}{ps:String}{E:Array Edge}{G:Option (Nat×Bool)}(t:TypeId)(n:Nat)(parts:Array (Nat×Operand)):writer conv ⟨d,.buildSlice t n parts,ty,ps,E,G⟩=false:=id rfl
theorem GL{conv:FuncId->Conv}{d:Option Tmp}{ty:TypeId}{ps:String}{E:Array Edge}{G:Option (Nat×Bool)}{T:Nat->V}{σ:Store}(t:TypeId)(n:Nat)(parts:Array (Nat×Operand)):aP conv T σ ⟨d,.buildSlice t n parts,ty,ps,E,G⟩=[]:=rfl
attribute [go_sem] IE IG Gg NG GL mV zA
end Go.TV
namespace Go.TV
theorem aeQ{P:Program}{t:TypeId}{x y:Operand}{a b:ByteArray}(h:a.size+b.size<=9223372036854775807):bD P .add t x y (.sc (.string a)) (.sc (.string b))=some (.sc (.string (a++b))):=by
 have hm:IntKind.i64.max=9223372036854775807:=rfl;have:Op.stringOp .add a b=(pure (.string (a++b)):Sem Value):=by
  unfold Op.stringOp;rw[ug (by rw[hm];omega)]
 simp only[bD,toVal,eqGuard_add];show(aI P (Op.stringOp .add a b)).bind _=_;rw[this];rfl
theorem YT:dL []=some []:=rfl
theorem U5(n:Int)(vs:List V):dL (.sc (.int .u8 n) :: vs)=if 0<=n/\n<256 then(dL vs).map (UInt8.ofNat n.toNat :: ·)else none:=rfl
theorem ahP{P:Program}{t:TypeId}(h:(aN P t).u8=true):∃e i,P.underlying t=some (.slice e)/\P.underlying e=some (.int .u8)/\P.info? e=some i/\i.size=1:=by
 unfold aN at h;cases hi:P.info? t with
 |none=>simp[hi]at h
 |some i=>
  cases J:P.underlying t with
  |none=>simp[hi,J]at h
  |some d=>
   simp only[hi,J]at h;cases d<;>simp at h;rename_i e;obtain⟨O,E⟩:=h;have S:P.underlying e=some (.int .u8):=by
    revert O
    cases P.underlying e with
    |none=>simp
    |some d=>cases d<;>simp;rename_i k;cases k<;>simp
   cases G:P.info? e with
   |none=>simp[G]at E
   |some j=>simp[G]at E;exact⟨e,j,rfl,S,G,E⟩
theorem aj9{P:Program}{s d:TypeId}(hs:(aN P s).u8=true)(E:(aN P d).str=true)(b off len:Nat)(σ:Store):dh P s d (.rs b off len) σ=(rowOf σ 1 (.rs b off len)).bind fun p=>(dL p.1).map fun l=> .sc (.string ⟨l.toArray⟩):=by
 obtain⟨e,i,G,J,O,S⟩:=ahP hs;unfold dh;simp only[toVal,G,G6 E,J,O,S,if_true];cases rowOf σ 1 (.rs b off len)with
 |none=>rfl
 |some p=>obtain⟨r,n⟩:=p;rfl
attribute [go_sem] aeQ YT U5 aj9
end Go.TV
namespace Go.Proofs.YtjknobpihkmilaaGreat
open Go Go.TV
instance known0:Known:=⟨[]⟩
theorem kn0(W:World):Kn (TV.start W):=fun p hp=>absurd hp zG
def conv:FuncId->Conv:=fun f=>if f∈([]:List Nat)then .own else if f∈([29,27,28,26,58,59,60,96,98,99]:List Nat)then .inl else .FX
abbrev aB(n:Nat):Prop:=conv n= .FX
abbrev Bv(n:Nat):Prop:=conv n= .inl
theorem aj_:aB 3/\aB 6/\aB 7/\aB 8/\aB 9/\aB 10/\aB 11/\aB 12/\aB 13/\aB 14/\aB 15/\aB 16/\aB 17/\aB 20/\aB 21/\Bv 26/\Bv 27/\Bv 28/\Bv 29/\aB 30/\aB 31/\aB 32/\aB 33/\aB 34:=by and_intros<;>exact rfl
theorem aj':aB 35/\aB 36/\aB 37/\aB 38/\aB 40/\aB 44/\aB 45/\aB 46/\aB 47/\aB 48/\Bv 58/\Bv 59/\Bv 60/\aB 61/\aB 62/\aB 63/\aB 64/\aB 65/\aB 72/\aB 73/\aB 74/\aB 75/\aB 77/\aB 78:=by and_intros<;>exact rfl
theorem akb:aB 79/\aB 80/\aB 81/\aB 82/\aB 83/\aB 84/\Bv 96/\aB 97/\Bv 98/\Bv 99/\aB 100/\aB 101/\aB 102/\aB 103/\aB 107/\aB 108/\aB 109/\aB 110/\aB 111/\aB 112/\aB 113/\aB 114/\aB 115/\aB 116:=by and_intros<;>exact rfl
theorem akc:aB 117/\aB 118/\aB 119/\aB 120/\aB 121/\aB 122/\aB 123/\aB 135/\aB 136/\aB 137/\aB 143/\aB 144/\aB 145/\aB 146/\aB 147/\aB 148/\aB 149/\aB 150/\aB 151/\aB 152/\aB 153/\aB 154/\aB 155/\aB 156:=by and_intros<;>exact rfl
theorem akd:aB 157/\aB 158/\aB 159/\aB 160/\aB 168/\aB 169/\aB 170/\aB 171/\aB 172/\aB 173/\aB 174/\aB 175/\aB 176/\aB 177/\aB 178/\aB 179/\aB 180/\aB 181/\aB 182/\aB 183/\aB 184/\aB 203/\aB 204/\aB 205:=by and_intros<;>exact rfl
theorem ake:aB 206/\aB 207/\aB 208/\aB 209/\aB 210/\aB 211/\aB 228/\aB 229/\aB 244:=by and_intros<;>exact rfl
attribute [go_sem] aj_ aj' akb akc akd ake
theorem ty2:aN gu 2=⟨true,false,1,[.sc (.int .i64 0)],false,false,false,0,0,[],false,[],[],false,false⟩:=by kernel_rfl
theorem ty3:aN gu 3=aN gu 2:=by kernel_rfl
theorem ty4:aN gu 4=⟨true,false,1,[.sc (.bool false)],false,false,false,0,0,[],false,[],[],false,false⟩:=by kernel_rfl
theorem ty5:aN gu 5=⟨true,false,1,[.sc (.int .u8 0)],false,false,false,0,0,[],false,[],[],false,false⟩:=by kernel_rfl
theorem ty7:aN gu 7=⟨true,true,4,[.sc (.int .i64 0),.sc (.int .i64 0),.sc (.bool false),.sc (.int .u8 0)],false,false,false,0,0,[],false,[(0,1,some false),(1,1,some false),(2,1,some false),(3,1,some false)],[(0,1),(1,1),(2,1),(3,1)],true,false⟩:=by kernel_rfl
theorem ty9:aN gu 9=⟨true,false,1,[.sc (.string ByteArray.empty)],false,true,false,0,0,[],false,[],[],false,false⟩:=by kernel_rfl
theorem am1:aN gu 12=⟨true,false,1,[.sc (.int .u64 0)],false,false,false,0,0,[],false,[],[],false,false⟩:=by kernel_rfl
theorem am2:aN gu 13=⟨true,true,2,[.sc (.string ByteArray.empty),.sc (.int .u64 0)],false,false,false,0,0,[],false,[(0,1,some false),(1,1,some false)],[(0,1),(1,1)],true,false⟩:=by kernel_rfl
theorem am3:aN gu 21=⟨true,false,1,[.sc (.int .i32 0)],false,false,false,0,0,[],false,[],[],false,false⟩:=by kernel_rfl
theorem am4:aN gu 22=⟨true,false,1,[.nil],true,false,false,1,1,[.sc (.int .u8 0)],true,[],[],false,true⟩:=by kernel_rfl
theorem am5:aN gu 23=⟨true,false,1,[.nil],true,false,false,5,112,[.sc (.string ByteArray.empty),.nil,.nil,.nil,.nil],true,[],[],false,false⟩:=by kernel_rfl
theorem am6:aN gu 24=⟨true,false,1,[.nil],true,false,false,2,16,[.sc (.int .i64 0),.sc (.int .i64 0)],true,[],[],false,false⟩:=by kernel_rfl
theorem am7:aN gu 25=⟨true,true,3,[.nil,.nil,.sc (.bool false)],false,false,false,0,0,[],false,[(0,1,some false),(1,1,some false),(2,1,some false)],[(0,1),(1,1),(2,1)],true,false⟩:=by kernel_rfl
theorem am8:aN gu 26=aN gu 25:=by kernel_rfl
theorem am9:aN gu 29=⟨true,false,1,[.nil],true,false,false,1,8,[.sc (.int .i64 0)],true,[],[],false,false⟩:=by kernel_rfl
theorem am_:aN gu 38=⟨true,false,1,[.nil],true,false,false,4,40,[.sc (.string ByteArray.empty),.sc (.int .i64 0),.sc (.int .i64 0),.sc (.bool false)],true,[],[],false,false⟩:=by kernel_rfl
theorem am':aN gu 39=⟨true,false,1,[.nil],true,false,false,3,24,[.sc (.int .i64 0),.sc (.int .i64 0),.sc (.int .i64 0)],true,[],[],false,false⟩:=by kernel_rfl
theorem ana:aN gu 40=⟨true,true,2,[.nil,.nil],false,false,false,0,0,[],false,[(0,1,some false),(1,1,some false)],[(0,1),(1,1)],true,false⟩:=by kernel_rfl
theorem anb:aN gu 41=aN gu 40:=by kernel_rfl
theorem anc:aN gu 42=⟨true,true,5,[.sc (.string ByteArray.empty),.nil,.nil,.nil,.nil],false,false,false,0,0,[],false,[(0,1,some false),(1,2,some true),(3,1,some false),(4,1,some false)],[(0,1),(1,2),(3,1),(4,1)],true,false⟩:=by kernel_rfl
theorem ane:aN gu 43=aN gu 42:=by kernel_rfl
theorem anf:aN gu 47=⟨true,true,3,[.sc (.string ByteArray.empty),.sc (.int .i64 0),.sc (.int .i64 0)],false,false,false,0,0,[],false,[(0,1,some false),(1,1,some false),(2,1,some false)],[(0,1),(1,1),(2,1)],true,false⟩:=by kernel_rfl
theorem ang:aN gu 48=aN gu 47:=by kernel_rfl
theorem anh:aN gu 49=⟨true,false,1,[.nil],true,false,false,3,32,[.sc (.string ByteArray.empty),.sc (.int .i64 0),.sc (.int .i64 0)],true,[],[],false,false⟩:=by kernel_rfl
theorem ani:aN gu 50=⟨true,false,1,[.nil],true,false,false,1,24,[.nil],true,[],[],false,false⟩:=by kernel_rfl
theorem anj:aN gu 56=aN gu 38:=by kernel_rfl
theorem ank:aN gu 57=aN gu 39:=by kernel_rfl
theorem anl:aN gu 58=aN gu 40:=by kernel_rfl
theorem anm:aN gu 59=aN gu 40:=by kernel_rfl
theorem ano:aN gu 60=aN gu 42:=by kernel_rfl
theorem anp:aN gu 61=aN gu 42:=by kernel_rfl
theorem anq:aN gu 67=⟨true,false,1,[.sc (.pointer none)],false,false,true,0,0,[],false,[],[],false,false⟩:=by kernel_rfl
theorem anr:aN gu 72=⟨true,false,1,[.nil],true,false,false,1,1,[.sc (.bool false)],true,[],[],false,false⟩:=by kernel_rfl
theorem ant:aN gu 76=⟨true,true,2,[.sc (.int .i64 0),.sc (.int .i64 0)],false,false,false,0,0,[],false,[(0,1,some false),(1,1,some false)],[(0,1),(1,1)],true,false⟩:=by kernel_rfl
theorem anu:aN gu 77=aN gu 76:=by kernel_rfl
theorem anv:aN gu 81=⟨true,false,1,[.nil],true,false,false,1,16,[.sc (.string ByteArray.empty)],true,[],[],false,false⟩:=by kernel_rfl
theorem anw:aN gu 84=⟨true,false,1,[.nil],true,false,false,3,56,[.sc (.bool false),.nil,.nil],true,[],[],false,false⟩:=by kernel_rfl
theorem anx:aN gu 94=aN gu 67:=by kernel_rfl
theorem akf:aN gu 104=⟨true,true,3,[.nil,.sc (.int .i64 0),.sc (.int .i64 0)],false,false,false,0,0,[],false,[(0,1,some false),(1,1,some false),(2,1,some false)],[(0,1),(1,1),(2,1)],true,false⟩:=by kernel_rfl
theorem akg:aN gu 105=aN gu 104:=by kernel_rfl
theorem akh:aN gu 106=aN gu 12:=by kernel_rfl
theorem aki:aN gu 107=aN gu 67:=by kernel_rfl
theorem akj:aN gu 112=aN gu 67:=by kernel_rfl
theorem akk:aN gu 113=⟨true,true,2,[.sc (.pointer none),.nil],false,false,false,0,0,[],false,[(0,1,some false),(1,1,some false)],[(0,1),(1,1)],true,false⟩:=by kernel_rfl
theorem akl:aN gu 114=aN gu 113:=by kernel_rfl
theorem akm:aN gu 124=⟨true,false,1,[.nil],true,false,false,1,8,[.sc (.pointer none)],true,[],[],false,false⟩:=by kernel_rfl
theorem akn:aN gu 127=⟨true,true,5,[.sc (.int .i64 0),.sc (.int .i64 0),.nil,.nil,.nil],false,false,false,0,0,[],false,[(0,1,some false),(1,1,some false),(2,1,some false),(3,1,some false),(4,1,some false)],[(0,1),(1,1),(2,1),(3,1),(4,1)],true,false⟩:=by kernel_rfl
theorem ako:aN gu 128=aN gu 127:=by kernel_rfl
theorem akp:aN gu 133=aN gu 67:=by kernel_rfl
theorem akq:aN gu 153=⟨true,true,4,[.sc (.string ByteArray.empty),.sc (.int .i64 0),.sc (.int .i64 0),.sc (.bool false)],false,false,false,0,0,[],false,[(0,1,some false),(1,1,some false),(2,1,some false),(3,1,some false)],[(0,1),(1,1),(2,1),(3,1)],true,false⟩:=by kernel_rfl
theorem akr:aN gu 154=aN gu 153:=by kernel_rfl
theorem aks:aN gu 155=⟨true,true,3,[.sc (.int .i64 0),.sc (.int .i64 0),.sc (.int .i64 0)],false,false,false,0,0,[],false,[(0,1,some false),(1,1,some false),(2,1,some false)],[(0,1),(1,1),(2,1)],true,false⟩:=by kernel_rfl
theorem akt:aN gu 156=aN gu 155:=by kernel_rfl
theorem aku:aN gu 158=aN gu 67:=by kernel_rfl
theorem akv:aN gu 162=aN gu 67:=by kernel_rfl
theorem akw:aN gu 163=aN gu 24:=by kernel_rfl
theorem akx:aN gu 167=aN gu 76:=by kernel_rfl
theorem aky:aN gu 168=aN gu 76:=by kernel_rfl
theorem akz:aN gu 170=⟨true,true,2,[.sc (.bool false),.nil],false,false,false,0,0,[],false,[(0,1,some false),(1,1,some false)],[(0,1),(1,1)],true,false⟩:=by kernel_rfl
theorem akA:aN gu 171=aN gu 170:=by kernel_rfl
theorem akB:aN gu 172=⟨true,true,3,[.sc (.bool false),.nil,.nil],false,false,false,0,0,[],false,[(0,2,some true),(2,1,some false)],[(0,2),(2,1)],true,false⟩:=by kernel_rfl
theorem akC:aN gu 173=aN gu 172:=by kernel_rfl
theorem akD:aN gu 183=aN gu 153:=by kernel_rfl
theorem akE:aN gu 187=aN gu 155:=by kernel_rfl
theorem akF:aN gu 190=⟨true,false,1,[.sc (.int .u32 0)],false,false,false,0,0,[],false,[],[],false,false⟩:=by kernel_rfl
theorem akG:aN gu 193=aN gu 12:=by kernel_rfl
theorem akH:aN gu 202=aN gu 67:=by kernel_rfl
theorem akI:aN gu 205=aN gu 50:=by kernel_rfl
theorem akJ:aN gu 206=⟨true,true,6,[.nil,.sc (.bool false),.nil,.nil,.sc (.int .i64 0),.nil],false,false,false,0,0,[],false,[(0,1,some false),(1,2,some true),(3,1,some false),(4,1,some false),(5,1,some false)],[(0,1),(1,2),(3,1),(4,1),(5,1)],true,false⟩:=by kernel_rfl
theorem akK:aN gu 207=aN gu 206:=by kernel_rfl
theorem akL:aN gu 210=⟨true,false,1,[.nil],true,false,false,2,32,[.sc (.bool false),.nil],true,[],[],false,false⟩:=by kernel_rfl
theorem akM:aN gu 215=aN gu 172:=by kernel_rfl
theorem akN:aN gu 216=aN gu 172:=by kernel_rfl
theorem akO:aN gu 224=⟨true,true,5,[.sc (.int .i64 0),.nil,.sc (.bool false),.nil,.nil],false,false,false,0,0,[],false,[(0,1,some false),(1,1,some false),(2,3,some true)],[(0,1),(1,1),(2,3)],true,false⟩:=by kernel_rfl
theorem akP:aN gu 225=aN gu 224:=by kernel_rfl
theorem akQ:aN gu 241=aN gu 67:=by kernel_rfl
theorem akR:aN gu 245=aN gu 50:=by kernel_rfl
theorem akS:aN gu 246=⟨true,true,4,[.sc (.int .i64 0),.nil,.nil,.nil],false,false,false,0,0,[],false,[(0,1,some false),(1,1,some false),(2,1,some false),(3,1,some false)],[(0,1),(1,1),(2,1),(3,1)],true,false⟩:=by kernel_rfl
theorem akT:aN gu 247=aN gu 246:=by kernel_rfl
theorem akU:aN gu 281=⟨true,true,4,[.sc (.pointer none),.sc (.pointer none),.sc (.pointer none),.sc (.string ByteArray.empty)],false,false,false,0,0,[],false,[(0,1,some false),(1,1,some false),(2,1,some false),(3,1,some false)],[(0,1),(1,1),(2,1),(3,1)],true,false⟩:=by kernel_rfl
theorem akV:aN gu 283=⟨true,true,0,[],false,false,false,0,0,[],false,[],[],false,false⟩:=by kernel_rfl
theorem akW:aN gu 284=⟨true,true,0,[],false,false,false,0,0,[],false,[(0,0,some true)],[(0,0)],true,false⟩:=by kernel_rfl
attribute [go_sem] ty2 ty3 ty4 ty5 ty7 ty9 am1 am2 am3 am4 am5 am6 am7 am8 am9 am_ am' ana anb anc ane anf ang anh ani anj ank anl anm ano anp anq anr ant anu anv anw anx akf akg akh aki akj akk akl akm akn ako akp akq akr aks akt aku akv akw akx aky akz akA akB akC akD akE akF akG akH akI akJ akK akL akM akN akO akP akQ akR akS akT akU akV akW
def QE:Go.Shelf.Ren:=⟨fun|156=>38|165=>66|166=>67|169=>68|240=>104|241=>105|276=>138|277=>139|n=>n,fun|0=>0|3=>3|4=>4|5=>5|9=>9|20=>20|31=>81|37=>22|70=>112|72=>114|75=>117|76=>118|80=>120|127=>158|164=>197|n=>n,fun n=>n⟩
theorem lays156:Lays.n156 gu QE:={ mixed:=by kernel_rfl,f156:=by kernel_rfl,f165:=by kernel_rfl,f166:=by kernel_rfl,f169:=by kernel_rfl,f240:=by kernel_rfl,f241:=by kernel_rfl,f276:=by kernel_rfl,f277:=by kernel_rfl,t0:=Tryz.underlying0,a0:=Tryz.isAgg0,z0:=Tryz.sizeOf0,v0:=Tryz.zeroValue0,t3:=Tryz.underlying3,a3:=Tryz.isAgg3,z3:=Tryz.sizeOf3,v3:=Tryz.zeroValue3,t4:=Tryz.underlying4,a4:=Tryz.isAgg4,z4:=Tryz.sizeOf4,v4:=Tryz.zeroValue4,t9:=Tryz.underlying9,a9:=Tryz.isAgg9,z9:=Tryz.sizeOf9,v9:=Tryz.zeroValue9,t20:=Tryz.underlying20,a20:=Tryz.isAgg20,z20:=Tryz.sizeOf20,v20:=Tryz.zeroValue20,t31:=Tryz.underlying81,a31:=Tryz.isAgg81,z31:=Tryz.sizeOf81,v31:=Tryz.zeroValue81,t37:=Tryz.underlying22,a37:=Tryz.isAgg22,z37:=Tryz.sizeOf22,v37:=Tryz.zeroValue22,t70:=Tryz.underlying112,a70:=Tryz.isAgg112,z70:=Tryz.sizeOf112,v70:=Tryz.zeroValue112,t72:=Tryz.underlying114,a72:=Tryz.isAgg114,z72:=Tryz.sizeOf114,v72:=Tryz.zeroValue114,t75:=Tryz.underlying117,a75:=Tryz.isAgg117,z75:=Tryz.sizeOf117,v75:=Tryz.zeroValue117,t76:=Tryz.underlying118,a76:=Tryz.isAgg118,z76:=Tryz.sizeOf118,v76:=Tryz.zeroValue118,t127:=Tryz.underlying158,a127:=Tryz.isAgg158,z127:=Tryz.sizeOf158,v127:=Tryz.zeroValue158,t164:=Tryz.underlying197,a164:=Tryz.isAgg197,z164:=Tryz.sizeOf197,v164:=Tryz.zeroValue197 }
theorem ahQ:Builder.Extra gu QE:={ sizeBuilder:=by kernel_rfl,liesBuilder:=by kernel_rfl,t5:=Tryz.underlying5,a5:=Tryz.isAgg5,z5:=Tryz.sizeOf5,v5:=Tryz.zeroValue5,infoByte:=by kernel_rfl,cellsByte:=by kernel_rfl,sizeByte:=by kernel_rfl,neB5:=by decide }
def ahR:Ext:=fun f=>if f=38 then some Qu else none
theorem ahS:DI gu ahR:=fun f g h args σ nx v σ' nx' E=>by
 unfold ahR at h
 split at h
 .rename_i G
  subst G;cases h;exact UY lays156 ahQ rfl ⟨_,func38,by kernel_rfl,by kernel_rfl⟩ args σ nx v σ' nx' E
 .cases h
def Bz:List V->Store->Nat->Option (V×Store×Nat)
 |[.ts row len],σ,nx=>if row.length=len/\len<=17592186044000/\row.all aJ=true then(if len=0 then some (.nil,σ,nx)else some (.rs nx 0 len,bG σ nx row 1,nx+1))else none
 |_,_,_=>none
theorem rX(args:List V)(σ:Store)(nx:Nat)(v:V)(σ':Store)(nx':Nat)(h:Bz args σ nx=some (v,σ',nx')):Ae gu 64 args σ nx v σ' nx':=by
 unfold Bz at h
 split at h
 .rename_i row len
  split at h
  .rename_i hc
   obtain⟨G,hs,J⟩:=hc;refine Iy (call:=fun _ _ _ _=>none) (conv:=fun _=> .FX) (fun _ _ _ _ _ _ _ h=>by cases h) (by kernel_rfl) func64 rfl Tryz.underlying29 (n:=0) (by kernel_rfl) (st1:=⟨upd (gX [.ts row len]) 2 .nil,σ,nx⟩) (T2:=upd (upd (gX [.ts row len]) 2 .nil) 3 (.ts row len)) (v1:=.ts row len) (row:=row) (len:=len) (vs:=[v]) ?_ rfl ?_ rfl ?_ ?_
   .rfl
   .rfl
   .rfl
   .intro b hb
    cases b with
    |true=>
     have O:=hb rfl;subst O;have E:len=0:=by simpa using G.symm
     subst E;simp only[if_true,uj,uh]at h;obtain⟨rfl,rfl,rfl⟩:=h;exact⟨.ret,_,rfl,.inr rfl,rfl,rfl,rfl⟩
    |false=>
     by_cases E:len=0
     .subst E
      have O:row=[]:=zN G;subst O;simp only[if_true,uj,uh]at h;obtain⟨rfl,rfl,rfl⟩:=h;refine⟨.ret,?_,?_,.inr rfl,?_,?_,?_⟩
      .exact⟨upd (upd (upd (upd (upd (upd (upd (upd (gX [.ts [] 0]) 2 .nil) 3 (.ts [] 0)) 4 (.sc (.bool false))) 5 .nil) 6 (.ts [] 0)) 7 .nil) 2 .nil) 2 .nil,σ,nx⟩
      .simp only[aK,go_sem]
      .rfl
      .rfl
      .rfl
     .rw[ug E]at h
      simp only[uj,uh]at h;obtain⟨rfl,rfl,rfl⟩:=h;have S:len<=maxLen/\len*8<=140737488355328:=by unfold maxLen;omega
      refine⟨.ret,?_,?_,.inr rfl,?_,?_,?_⟩
      .exact⟨upd (upd (upd (upd (upd (upd (upd (gX [.ts row len]) 2 .nil) 3 (.ts row len)) 4 (.sc (.bool false))) 5 .nil) 6 (.ts row len)) 7 (.rs nx 0 len)) 2 (.rs nx 0 len),bG σ nx row 1,nx+1⟩
      .simp only[aK,go_sem,G,E,S]
      .rfl
      .rfl
      .rfl
  .cases h
 .cases h
def ext:Ext:=fun f=>if f=64 then some Bz else ahR f
theorem abq:DI gu ext:=fun f g h args σ nx v σ' nx' E=>by
 unfold ext at h
 split at h
 .rename_i G
  subst G;cases h;exact rX args σ nx v σ' nx' E
 .exact ahS f g h args σ nx v σ' nx' E
theorem U7(xs:List Int)(h:xs.length<=17592186044000):fn gu conv ext 64 [LI xs]=some (LI xs):=by
 have G:Bz [LI xs] aG 0=if xs.length=0 then some (.nil,aG,0)else some (.rs 0 0 xs.length,bG aG 0 (xs.flatMap cI) 1,0+1):=by
  show(if(xs.flatMap cI).length=xs.length/\xs.length<=17592186044000/\(xs.flatMap cI).all aJ=true then _ else none)=_;rw[uf ⟨sS xs,h,sW xs⟩]
 rw[qB,qN (g:=Bz) rfl,G]
 by_cases E:xs.length=0
 .rw[uf E]
  have:xs=[]:=zN E;subst this
  (simp only[go_sem])<;>rfl
 .rw[ug E]
  simp only[go_sem]
theorem u4:gu.underlying 4=some .bool:=Tryz.underlying4
attribute [go_sem] u4
def ix{α:Type}(p:α->Bool)(xs:List α):Int:=if xs.findIdx p<xs.length then xs.findIdx p else -1
theorem DW{α:Type}{p:α->Bool}{xs:List α}{k:Nat}(E:k<xs.length)(G:∀i (h:i<xs.length),i<k->p xs[i]=false)(h:p xs[k]=true):ix p xs=k:=by
 have:xs.findIdx p=k:=(List.findIdx_eq E).mpr ⟨h,fun j J=>G j (by omega) J⟩;unfold ix;rw[this,uf E]
theorem oK{α:Type}{p:α->Bool}{xs:List α}(E:∀i (h:i<xs.length),p xs[i]=false):ix p xs= -1:=by
 have:xs.findIdx p=xs.length:=List.findIdx_eq_length.mpr fun x G=>by
  obtain⟨i,hi,rfl⟩:=yK G;exact E i hi
 unfold ix;rw[this,ug (Nat.lt_irrefl _)]
theorem oJ{α:Type}{p:α->Bool}{xs:List α}{k:Nat}(O:k<xs.length)(J:∀i (h:i<xs.length),i<k->p xs[i]=false)(h:p xs[k]=false):∀i (h:i<xs.length),i<k+1->p xs[i]=false:=by
 intro i hi E;rcases wK (wC E)with G|G
 .exact J i hi G
 .subst G;exact h
def abr:=kG (c:=bZ) (s:=5) (fun _=>rfl)
def abt:=kE (c:=bZ) (s:=5) (fun _=>rfl) (by omega)
def QF:=kD (c:=bZ) (s:=5) (fun _=>rfl)
theorem QG(xs:List fV)(c:V)(g:FuncId)(p:fV->Bool)(t:V)(h:xs.length<=maxLen)(hc:conv g= .FX)(ht:strip aG 7 t=some (t,[]))(hg:∀x∈xs,fn gu conv ext g [.agg (bZ x),t]=some (Bo (p x))) :
  fn gu conv ext 44 [LL bZ xs,.clo g [t]]=some (I (ix p xs)):=by
 have e2:(xs.length:Int)<=9223372036854775807:=by unfold maxLen at h;omega
 rw[qB,qO [.tmp 4] [] func44];simp only[go_sem];generalize hL:aA _ _=y;obtain⟨r,rfl,hr⟩:=rP hL xs.length (fun k st=>st.nx=0/\st.σ=aG/\st.T 0=LL bZ xs/\st.T 1= .clo g [t]/\st.T 7=I xs.length/\st.T 8=I k/\∀i (h:i<xs.length),i<k->p xs[i]=false)
  (fun r=>(∃T,r=(.exit 0,⟨T,aG,0⟩)/\ix p xs= -1)\/(∃T,r=(.ret,⟨T,aG,0⟩)/\T 4=I (ix p xs))) (by
   clear hL;rintro k ⟨T,σ,nx⟩ E ⟨hn,G,S,J,O,Y,hi⟩;simp only at hn G S J O Y;subst hn G;have f1:(k:Int)<(xs.length:Int):=by omega
   have f2:=nP k;have f3:=iF (n:=(k:Int)+1);have f4:=abr xs k E;have f5:=QF xs;have f6:k*5+5<=xs.length*5:=by omega
   have f9:=abt xs k E;have f10:=hg xs[k] (zq E);cases hp:p xs[k]with
   |true=>
    rw[hp]at f10;refine .inr ⟨_,by simp only[go_sem,S,J,O,Y,f1,f2,f4,f5,f6,f9,f10,hc,ht];rfl,by simp,.inr ⟨_,rfl,?_⟩⟩;simp only[go_sem];rw[DW E hi hp]
   |false=>
    rw[hp]at f10;refine .inl ⟨_,by simp only[go_sem,S,J,O,Y,f1,f2,f3,f4,f5,f6,f9,f10,hc,ht];rfl,?_⟩;simp only[go_sem,S,J,O];exact⟨rfl,oJ E hi hp⟩) (by
   clear hL;rintro ⟨T,σ,nx⟩ ⟨hn,G,S,J,O,Y,hi⟩;simp only at hn G S J O Y;subst hn G;exact⟨_,by simp only[go_sem,O,Y,zX];rfl,by simp,.inl ⟨_,rfl,oK fun i h=>hi i h h⟩⟩) (by
   simp only[go_sem];exact fun i _ h=>absurd h (zK _))
 rcases hr with ⟨T,rfl,J⟩|⟨T,rfl,J⟩
 .simp only[go_sem,J]
 .simp only[go_sem,J]
def YU:=kG (c:=aX) (s:=4) (fun _=>rfl)
def abu:=kE (c:=aX) (s:=4) (fun _=>rfl) (by omega)
def II:=kD (c:=aX) (s:=4) (fun _=>rfl)
theorem U8(xs:List fM)(c:V)(g:FuncId)(p:fM->Bool)(t:V)(h:xs.length<=maxLen)(hc:conv g= .FX)(ht:strip aG 7 t=some (t,[]))(hg:∀x∈xs,fn gu conv ext g [.agg (aX x),t]=some (Bo (p x))) :
  fn gu conv ext 158 [LL aX xs,.clo g [t]]=some (I (ix p xs)):=by
 have e2:(xs.length:Int)<=9223372036854775807:=by unfold maxLen at h;omega
 rw[qB,qO [.tmp 4] [] func158];simp only[go_sem];generalize hL:aA _ _=y;obtain⟨r,rfl,hr⟩:=rP hL xs.length (fun k st=>st.nx=0/\st.σ=aG/\st.T 0=LL aX xs/\st.T 1= .clo g [t]/\st.T 7=I xs.length/\st.T 8=I k/\∀i (h:i<xs.length),i<k->p xs[i]=false)
  (fun r=>(∃T,r=(.exit 0,⟨T,aG,0⟩)/\ix p xs= -1)\/(∃T,r=(.ret,⟨T,aG,0⟩)/\T 4=I (ix p xs))) (by
   clear hL;rintro k ⟨T,σ,nx⟩ E ⟨hn,G,S,J,O,Y,hi⟩;simp only at hn G S J O Y;subst hn G;have f1:(k:Int)<(xs.length:Int):=by omega
   have f2:=nP k;have f3:=iF (n:=(k:Int)+1);have f4:=YU xs k E;have f5:=II xs;have f6:k*4+4<=xs.length*4:=by omega
   have f9:=abu xs k E;have f10:=hg xs[k] (zq E);cases hp:p xs[k]with
   |true=>
    rw[hp]at f10;refine .inr ⟨_,by simp only[go_sem,S,J,O,Y,f1,f2,f4,f5,f6,f9,f10,hc,ht];rfl,by simp,.inr ⟨_,rfl,?_⟩⟩;simp only[go_sem];rw[DW E hi hp]
   |false=>
    rw[hp]at f10;refine .inl ⟨_,by simp only[go_sem,S,J,O,Y,f1,f2,f3,f4,f5,f6,f9,f10,hc,ht];rfl,?_⟩;simp only[go_sem,S,J,O];exact⟨rfl,oJ E hi hp⟩) (by
   clear hL;rintro ⟨T,σ,nx⟩ ⟨hn,G,S,J,O,Y,hi⟩;simp only at hn G S J O Y;subst hn G;exact⟨_,by simp only[go_sem,O,Y,zX];rfl,by simp,.inl ⟨_,rfl,oK fun i h=>hi i h h⟩⟩) (by
   simp only[go_sem];exact fun i _ h=>absurd h (zK _))
 rcases hr with ⟨T,rfl,J⟩|⟨T,rfl,J⟩
 .simp only[go_sem,J]
 .simp only[go_sem,J]
def abv:=kG (c:=bg) (s:=3) (fun _=>rfl)
def abw:=kE (c:=bg) (s:=3) (fun _=>rfl) (by omega)
def QH:=kD (c:=bg) (s:=3) (fun _=>rfl)
theorem QI(xs:List Member)(c:V)(g:FuncId)(p:Member->Bool)(t:V)(h:xs.length<=maxLen)(hc:conv g= .FX)(ht:strip aG 7 t=some (t,[]))(hg:∀x∈xs,fn gu conv ext g [.agg (bg x),t]=some (Bo (p x))) :
  fn gu conv ext 160 [LL bg xs,.clo g [t]]=some (I (ix p xs)):=by
 have e2:(xs.length:Int)<=9223372036854775807:=by unfold maxLen at h;omega
 rw[qB,qO [.tmp 4] [] func160];simp only[go_sem];generalize hL:aA _ _=y;obtain⟨r,rfl,hr⟩:=rP hL xs.length (fun k st=>st.nx=0/\st.σ=aG/\st.T 0=LL bg xs/\st.T 1= .clo g [t]/\st.T 7=I xs.length/\st.T 8=I k/\∀i (h:i<xs.length),i<k->p xs[i]=false)
  (fun r=>(∃T,r=(.exit 0,⟨T,aG,0⟩)/\ix p xs= -1)\/(∃T,r=(.ret,⟨T,aG,0⟩)/\T 4=I (ix p xs))) (by
   clear hL;rintro k ⟨T,σ,nx⟩ E ⟨hn,G,S,J,O,Y,hi⟩;simp only at hn G S J O Y;subst hn G;have f1:(k:Int)<(xs.length:Int):=by omega
   have f2:=nP k;have f3:=iF (n:=(k:Int)+1);have f4:=abv xs k E;have f5:=QH xs;have f6:k*3+3<=xs.length*3:=by omega
   have f9:=abw xs k E;have f10:=hg xs[k] (zq E);cases hp:p xs[k]with
   |true=>
    rw[hp]at f10;refine .inr ⟨_,by simp only[go_sem,S,J,O,Y,f1,f2,f4,f5,f6,f9,f10,hc,ht];rfl,by simp,.inr ⟨_,rfl,?_⟩⟩;simp only[go_sem];rw[DW E hi hp]
   |false=>
    rw[hp]at f10;refine .inl ⟨_,by simp only[go_sem,S,J,O,Y,f1,f2,f3,f4,f5,f6,f9,f10,hc,ht];rfl,?_⟩;simp only[go_sem,S,J,O];exact⟨rfl,oJ E hi hp⟩) (by
   clear hL;rintro ⟨T,σ,nx⟩ ⟨hn,G,S,J,O,Y,hi⟩;simp only at hn G S J O Y;subst hn G;exact⟨_,by simp only[go_sem,O,Y,zX];rfl,by simp,.inl ⟨_,rfl,oK fun i h=>hi i h h⟩⟩) (by
   simp only[go_sem];exact fun i _ h=>absurd h (zK _))
 rcases hr with ⟨T,rfl,J⟩|⟨T,rfl,J⟩
 .simp only[go_sem,J]
 .simp only[go_sem,J]
def iI:=kE (c:=cI) (s:=1) (fun _=>rfl) (by omega)
theorem indexInt(xs:List Int)(c:V)(g:FuncId)(p:Int->Bool)(h:xs.length<=maxLen)(hc:conv g= .FX)(hg:∀x∈xs,fn gu conv ext g [I x]=some (Bo (p x))) :
  fn gu conv ext 77 [LI xs,.clo g []]=some (I (ix p xs)):=by
 have e2:(xs.length:Int)<=9223372036854775807:=by unfold maxLen at h;omega
 rw[qB,qO [.tmp 4] [] func77];simp only[go_sem];generalize hL:aA _ _=y;obtain⟨r,rfl,hr⟩:=rP hL xs.length (fun k st=>st.nx=0/\st.σ=aG/\st.T 0=LI xs/\st.T 1= .clo g []/\st.T 7=I xs.length/\st.T 8=I k/\∀i (h:i<xs.length),i<k->p xs[i]=false)
  (fun r=>(∃T,r=(.exit 0,⟨T,aG,0⟩)/\ix p xs= -1)\/(∃T,r=(.ret,⟨T,aG,0⟩)/\T 4=I (ix p xs))) (by
   clear hL;rintro k ⟨T,σ,nx⟩ E ⟨hn,G,S,J,O,Y,hi⟩;simp only at hn G S J O Y;subst hn G;have f1:(k:Int)<(xs.length:Int):=by omega
   have f2:=nP k;have f3:=iF (n:=(k:Int)+1);have f4:(xs.flatMap cI)[k]?=some (I xs[k]):=kF I xs k E;have f9:=iI xs k E;have f10:=hg xs[k] (zq E);cases hp:p xs[k]with
   |true=>
    rw[hp]at f10;refine .inr ⟨_,by simp only[go_sem,S,J,O,Y,f1,f2,f4,f9,f10,hc];rfl,by simp,.inr ⟨_,rfl,?_⟩⟩;simp only[go_sem];rw[DW E hi hp]
   |false=>
    rw[hp]at f10;refine .inl ⟨_,by simp only[go_sem,S,J,O,Y,f1,f2,f3,f4,f9,f10,hc];rfl,?_⟩;simp only[go_sem,S,J,O];exact⟨rfl,oJ E hi hp⟩) (by
   clear hL;rintro ⟨T,σ,nx⟩ ⟨hn,G,S,J,O,Y,hi⟩;simp only at hn G S J O Y;subst hn G;exact⟨_,by simp only[go_sem,O,Y,zX];rfl,by simp,.inl ⟨_,rfl,oK fun i h=>hi i h h⟩⟩) (by
   simp only[go_sem];exact fun i _ h=>absurd h (zK _))
 rcases hr with ⟨T,rfl,J⟩|⟨T,rfl,J⟩
 .simp only[go_sem,J]
 .simp only[go_sem,J]
theorem Gh{α:Type}(p:α->Bool)(xs:List α):ix p xs<0↔∀x∈xs,p x=false:=by
 unfold ix
 by_cases h:xs.findIdx p<xs.length
 .rw[uf h]
  refine⟨fun E=>absurd E (by omega),fun E=>?_⟩;have:=List.findIdx_eq_length.mpr E;omega
 .rw[ug h]
  exact⟨fun _=>List.findIdx_eq_length.mp (Nat.le_antisymm (List.findIdx_le_length) (by omega)),fun _=>by omega⟩
theorem YV(xs:List Member)(g:FuncId)(p:Member->Bool)(t:V)(h:xs.length<=maxLen)(hc:conv g= .FX)(G:strip aG 7 t=some (t,[]))(E:strip aG 6 t=some (t,[]))(J:∀x∈xs,fn gu conv ext g [.agg (bg x),t]=some (Bo (p x))) :
  fn gu conv ext 119 [LL bg xs,.clo g [t]]=some (Bo (decide (0<=ix p xs))):=by
 have O:=QI xs (.clo g [t]) g p t h hc G J;rw[qB,qO [.tmp 4] [] func119];simp only[go_sem,O,G,E]
theorem U9(xs:List Int)(g:FuncId)(p:Int->Bool)(h:xs.length<=maxLen)(hc:conv g= .FX)(E:∀x∈xs,fn gu conv ext g [I x]=some (Bo (p x))) :
  fn gu conv ext 82 [LI xs,.clo g []]=some (Bo (decide (0<=ix p xs))):=by
 have G:=indexInt xs (.clo g []) g p h hc E;rw[qB,qO [.tmp 4] [] func82];simp only[go_sem,G]
noncomputable def pb(p:Prop):Bool:=@decide p (Classical.propDecidable p)
theorem mJ{p:Prop}(h:p):pb p=true:=by unfold pb;exact(@decide_eq_true_iff p (Classical.propDecidable p)).mpr h
theorem mM{p:Prop}(h:¬p):pb p=false:=by unfold pb;exact(@decide_eq_false_iff_not p (Classical.propDecidable p)).mpr h
theorem QJ{p:Prop}{b:Bool}(h:b=true↔p):b=pb p:=by
 cases b with
 |true=>exact(mJ (h.mp rfl)).symm
 |false=>exact(mM (fun hp=>by cases h.mpr hp)).symm
theorem nK{p:Prop}(h:pb p=true):p:=by
 unfold pb at h;exact(@decide_eq_true_iff p (Classical.propDecidable p)).mp h
def inB(n a b:Int):Bool:=decide (a<=n) && decide (n<=b)
theorem aeR(n:Int):fn gu conv ext 123 [I n]=some (Bo (inB n (-100) 100)):=by
 unfold inB;rw[qB,qO [.tmp 2] [] func123]
 by_cases h:-100<=n<;>simp only[go_sem,h]
theorem aeS(n:Int):fn gu conv ext 84 [I n]=some (Bo (inB n (0) 1000)):=by
 unfold inB;rw[qB,qO [.tmp 2] [] func84]
 by_cases h:0<=n<;>simp only[go_sem,h]
theorem WG(n:Int):fn gu conv ext 157 [I n]=some (Bo (inB n (-50) 50)):=by
 unfold inB;rw[qB,qO [.tmp 2] [] func157]
 by_cases h:-50<=n<;>simp only[go_sem,h]
def lI(b:UInt8):Bool:=decide (97<=(b.toNat:Int)) && decide ((b.toNat:Int)<=122)
def Dj(b:UInt8):Bool:=decide (48<=(b.toNat:Int)) && decide ((b.toNat:Int)<=57)
theorem abx(b:UInt8):fn gu conv ext 78 [.sc (.int .u8 b.toNat)]=some (Bo (lI b)):=by
 unfold lI;rw[qB,qO [.tmp 2] [] func78]
 by_cases h:97<=(b.toNat:Int)<;>simp only[go_sem,h]
theorem isDigit(b:UInt8):fn gu conv ext 79 [.sc (.int .u8 b.toNat)]=some (Bo (Dj b)):=by
 unfold Dj;rw[qB,qO [.tmp 2] [] func79]
 by_cases h:48<=(b.toNat:Int)<;>simp only[go_sem,h]
def BN(k:Nat)(b:UInt8):Prop:=lI b=true\/(k≠0/\Dj b=true)
def AP(s:ByteArray):Prop:=(∀k b,s[k]?=some b->BN k b)/\1<=s.size/\s.size<=8
theorem ahT{s:ByteArray}{k:Nat}(h:k<s.size):∃b,s[k]?=some b:=⟨s[k],by simp[h]⟩
theorem NH{s:ByteArray}{k:Nat}{b:UInt8}(h:s[k]?=some b):k<s.size:=by
 by_cases E:k<s.size
 .exact E
 .simp[E]at h
theorem U_{s:ByteArray}(h:∀i b,s[i]?=some b->BN i b):pb (AP s)=inB s.size 1 8:=by
 unfold inB
 by_cases E:(1:Int)<=s.size
 .by_cases G:(s.size:Int)<=8
  .rw[mJ ⟨h,by omega,by omega⟩,uY E,uY G];rfl
  .rw[mM (fun hn=>G (by have:=hn.2.2;omega)),uY E,uX G];rfl
 .rw[mM (fun hn=>E (by have:=hn.2.1;omega)),uX E];rfl
theorem Gi{s:ByteArray}{k:Nat}{b:UInt8}(hi:∀i b,i<k->s[i]?=some b->BN i b)(hb:s[k]?=some b)(h:BN k b):∀i b,i<k+1->s[i]?=some b->BN i b:=by
 intro i c E hc;rcases wK (wC E)with G|G
 .exact hi i c G hc
 .subst G
  rw[hb]at hc;cases hc;exact h
theorem IJ{k:Nat}{b:UInt8}(J:lI b=false)(E:k=0\/Dj b=false):¬BN k b:=by
 rintro (h|⟨h,G⟩)
 .rw[J]at h;cases h
 .rcases E with E|E
  .exact h E
  .rw[E]at G;cases G
theorem toList_empty(s:ByteArray):(s.toList==({ data:=#[] }:ByteArray).toList)=decide (s.size=0):=by
 have e:(s.toList=[])=(s.size=0):=by
  rw[ByteArray.toList_eq];refine propext ⟨fun h=>?_,fun h=>zN (by rw[z_];exact h)⟩;have:=congrArg List.length h;rw[z_]at this;exact this
 have E:({ data:=#[] }:ByteArray).toList=[]:=ByteArray.toList_mk [];rw[E]
 by_cases h:s.size=0
 .rw[e.mpr h,uY h];rfl
 .rw[uX h]
  cases G:s.toList with
  |nil=>exact absurd (e.mp G) h
  |cons a l=>rfl
theorem WH(s:ByteArray)(hs:okS s):fn gu conv ext 46 [Sg s]=some (Bo (pb (AP s))):=by
 have e2:(s.size:Int)<=9223372036854775807:=by unfold okS at hs;omega
 rw[qB,qO [.tmp 2] [] func46];simp only[go_sem];generalize hL:aA _ _=y;obtain⟨r,rfl,hr⟩:=rP hL s.size (fun k st=>st.nx=0/\st.σ=aG/\st.T 0=Sg s/\st.T 5=I s.size/\st.T 6=I k/\∀i b,i<k->s[i]?=some b->BN i b)
  (fun r=>(∃T,r=(.exit 0,⟨T,aG,0⟩)/\T 0=Sg s/\∀i b,s[i]?=some b->BN i b)\/(∃T,r=(.ret,⟨T,aG,0⟩)/\T 2=Bo false/\¬AP s)) (by
   clear hL;rintro k ⟨T,σ,nx⟩ a1 ⟨hn,G,E,J,O,hi⟩;simp only at hn G E J O;subst hn G;have f1:(k:Int)<(s.size:Int):=by omega
   have f2:=nP k;have f3:=iF (n:=(k:Int)+1);obtain⟨b,f4⟩:=ahT a1;have no:¬BN k b->¬AP s:=fun h hn=>h (hn.1 k b f4)
   have g1:=abx b;have g2:=isDigit b;cases Y:lI b with
   |true=>
    rw[Y]at g1;refine .inl ⟨_,by simp only[go_sem,E,O,J,f1,f2,f3,f4,g1];rfl,?_⟩;simp only[go_sem,E,J];exact⟨rfl,Gi hi f4 (.inl Y)⟩
   |false=>
    rw[Y]at g1
    by_cases S:k=0
    .have f0:((k:Int)==0)=true:=by subst S;rfl
     exact .inr ⟨_,by simp only[go_sem,E,O,J,f1,f2,f4,g1,f0];rfl,by simp,.inr ⟨_,rfl,by simp only[go_sem],no (IJ Y (.inl S))⟩⟩
    .have f0:((k:Int)==0)=false:=by simpa using S
     cases hd:Dj b with
     |true=>
      rw[hd]at g2;refine .inl ⟨_,by simp only[go_sem,E,O,J,f1,f2,f3,f4,g1,g2,f0];rfl,?_⟩;simp only[go_sem,E,J];exact⟨rfl,Gi hi f4 (.inr ⟨S,hd⟩)⟩
     |false=>
      rw[hd]at g2;exact .inr ⟨_,by simp only[go_sem,E,O,J,f1,f2,f4,g1,g2,f0];rfl,by simp,.inr ⟨_,rfl,by simp only[go_sem],no (IJ Y (.inr hd))⟩⟩) (by
   clear hL;rintro ⟨T,σ,nx⟩ ⟨hn,G,E,J,O,hi⟩;simp only at hn G E J O;subst hn G;refine⟨_,by simp only[go_sem,E,O,J,zX];rfl,by simp,.inl ⟨_,rfl,?_,fun i b h=>hi i b (NH h) h⟩⟩;simp only[go_sem,E]) (by
   simp only[go_sem];exact fun i b h=>absurd h (zK _))
 rcases hr with ⟨T,rfl,E,h1⟩|⟨T,rfl,E,h1⟩
 .have he:=toList_empty s
  rw[U_ h1];unfold inB
  by_cases S:s.size=0
  .have:¬(1:Int)<=s.size:=by omega
   rw[uY S]at he;simp only[go_sem,E,this,he]
  .have:(1:Int)<=s.size:=by omega
   rw[uX S]at he;simp only[go_sem,E,this,he]
 .simp only[go_sem,E,mM h1]
noncomputable def BO(j:fM):Bool:=pb (AP j.name) && (inB j.x (-50) 50 && inB j.y (-50) 50)
theorem aby(j:fM)(h:WC j):fn gu conv ext 117 [.agg (aX j)]=some (Bo (BO j)):=by
 have t1:=WH j.name h.1;have t2:=WG j.x;have t3:=WG j.y;unfold BO;generalize pb (AP j.name)=b1 at *;generalize inB j.x (-50) 50=E at *;generalize inB j.y (-50) 50=G at *;rw[qB,qO [.tmp 2] [] func117];cases b1<;>cases E<;>simp only[go_sem,t1,t2,t3]
abbrev isNamed(name:ByteArray)(s:fV):Bool:=s.name.toList==name.toList
abbrev fZ(name:ByteArray)(s:fM):Bool:=s.name.toList==name.toList
theorem E8(name:ByteArray)(s:fV):fn gu conv ext 45 [.agg (bZ s),.tp [Sg name] 0]=some (Bo (isNamed name s)):=by
 rw[qB,qO [.tmp 3] [] func45];simp only[go_sem]
theorem NI(y:bP)(name:ByteArray)(h:y.ah.length<=maxLen):fn gu conv ext 20 [.agg (bQ y),Sg name]=some (I (ix (isNamed name) y.ah)):=by
 have E:=QG y.ah (.tp [Sg name] 0) 45 (isNamed name) (.tp [Sg name] 0) h (by rfl) (by rfl) (fun x _=>E8 name x);rw[qB,qO [.tmp 4] [] func20];simp only[go_sem,E]
theorem GN(name:ByteArray)(s:fM):fn gu conv ext 159 [.agg (aX s),.tp [Sg name] 0]=some (Bo (fZ name s)):=by
 rw[qB,qO [.tmp 3] [] func159];simp only[go_sem]
theorem QK(y:Structure)(name:ByteArray)(h:y.au.length<=maxLen):fn gu conv ext 118 [.agg (aC y),Sg name]=some (I (ix (fZ name) y.au)):=by
 have E:=U8 y.au (.tp [Sg name] 0) 159 (fZ name) (.tp [Sg name] 0) h (by rfl) (by rfl) (fun x _=>GN name x);rw[qB,qO [.tmp 4] [] func118];simp only[go_sem,E]
def IK(a b:fM):Bool:=(!(a.x==b.x)|| !(a.y==b.y)) && !(a.fixed && b.fixed)
def f_(n:Nat)(m:Member):Prop:=0<=m.a/\m.a<n/\0<=m.b/\m.b<n/\1<=m.kind/\m.kind<=3
noncomputable def QL(js:List fM)(m:Member):Bool:=pb (f_ js.length m/\∀a b,js[m.a.toNat]?=some a->js[m.b.toNat]?=some b->IK a b=true)
theorem nU{js:List fM}{m:Member}(h:¬f_ js.length m):QL js m=false:=mM fun hn=>h hn.1
theorem KZ{js:List fM}{m:Member}(h:f_ js.length m){a b:fM}(ha:js[m.a.toNat]?=some a)(hb:js[m.b.toNat]?=some b):QL js m=IK a b:=by
 refine(QJ ⟨fun hp=>⟨h,fun c d hc E=>?_⟩,fun hn=>hn.2 a b ha hb⟩).symm;rw[ha]at hc;rw[hb]at E;cases hc;cases E;exact hp
set_option maxRecDepth 100000 in
theorem YW(row:List V)(off:Nat)(js:List fM)(m:Member)(E:row[off]?=some (LL aX js))(hl:js.length<=maxLen):fn gu conv ext 121 [.tp row off,.agg (bg m)]=some (Bo (QL js m)):=by
 rw[qB,qO [.tmp 4] [4] func121]
 by_cases c1:m.a<0
 .rw[nU (fun h=>by have:=h.1;omega)]
  simp only[go_sem,E,c1]
 by_cases G:(js.length:Int)<=m.a
 .rw[nU (fun h=>by have:=h.2.1;omega)]
  simp only[go_sem,E,c1,G]
 by_cases J:m.b<0
 .rw[nU (fun h=>by have:=h.2.2.1;omega)]
  simp only[go_sem,E,c1,G,J]
 by_cases O:(js.length:Int)<=m.b
 .rw[nU (fun h=>by have:=h.2.2.2.1;omega)]
  simp only[go_sem,E,c1,G,J,O]
 by_cases S:m.kind<1
 .rw[nU (fun h=>by have:=h.2.2.2.2.1;omega)]
  simp only[go_sem,E,c1,G,J,O,S]
 by_cases Y:3<m.kind
 .rw[nU (fun h=>by have:=h.2.2.2.2.2;omega)]
  simp only[go_sem,E,c1,G,J,O,S,Y]
 have a1:0<=m.a:=by omega
 have a2:m.a<js.length:=by omega
 have b1:0<=m.b:=by omega
 have b2:m.b<js.length:=by omega
 have a3:m.a.toNat<js.length:=by omega
 have b3:m.b.toNat<js.length:=by omega
 rw[KZ ⟨a1,a2,b1,b2,by omega,by omega⟩ (zy a3) (zy b3)];have f4:=YU js _ a3;have g4:=YU js _ b3;have f5:=II js;have f6:m.a.toNat *4+4<=js.length*4:=by omega
 have g6:m.b.toNat *4+4<=js.length*4:=by omega
 have f9:=abu js _ a3;generalize js[m.a.toNat]=a at *;generalize js[m.b.toNat]=b at *;unfold IK;cases hx:(a.x==b.x)<;>cases hy:(a.y==b.y)<;>cases ha:a.fixed<;>cases hb:b.fixed<;>
  (simp only[go_sem,E,c1,G,J,O,S,Y,a1,a2,b1,b2,f4,g4,f5,f6,g6,f9,hx,hy,ha,hb,bne])<;>rfl
def dZ(s:Structure):Prop:=s.au.length<=6/\s.members.length<=8/\(∀i (h:i<s.au.length),BO s.au[i]=true/\ix (fZ s.au[i].name) s.au=i)/\∀m∈s.members,QL s.au m=true
theorem E_(s:Structure)(m:Member)(E:s.au.length<=maxLen):fn gu conv ext 120 [.agg (bg m),.tp (aC s) 0]=some (Bo (!QL s.au m)):=by
 have G:=YW (aC s) 0 s.au m rfl E;rw[qB,qO [.tmp 3] [] func120];simp only[go_sem,G]
theorem DX(s:Structure)(h:bJ s):fn gu conv ext 80 [.agg (aC s)]=some (Bo (pb (dZ s))):=by
 have e2:(s.au.length:Int)<=9223372036854775807:=by have:=h.1.2.1;omega
 have hm:=YV s.members 120 (fun m=> !QL s.au m) (.tp (aC s) 0) h.2.2.2 (by rfl) (by rfl) (by rfl) (fun x _=>E_ s x h.1.2.2);rw[qB,qO [.tmp 2] [] func80]
 by_cases c1:(6:Int)<s.au.length
 .rw[mM (fun hn=>by have:=hn.1;omega)]
  simp only[go_sem,c1]
 by_cases c2:(8:Int)<s.members.length
 .rw[mM (fun hn=>by have:=hn.2.1;omega)]
  simp only[go_sem,c1,c2]
 simp only[go_sem,c1,c2];generalize hL:aA _ _=y;obtain⟨r,rfl,hr⟩:=rP hL s.au.length (fun k st=>0<st.nx/\st.σ 0=some ⟨aC s,0,true⟩/\st.T 1= .rp 0 0/\st.T 16=LL aX s.au/\st.T 17=I s.au.length/\st.T 18=I k/\∀i (h:i<s.au.length),i<k->BO s.au[i]=true/\ix (fZ s.au[i].name) s.au=i)
  (fun r=>(∃T σ nx,r=(.exit 0,⟨T,σ,nx⟩)/\σ 0=some ⟨aC s,0,true⟩/\T 1= .rp 0 0/\∀i (h:i<s.au.length),BO s.au[i]=true/\ix (fZ s.au[i].name) s.au=i)\/(∃T σ nx,r=(.ret,⟨T,σ,nx⟩)/\T 2=Bo false/\¬dZ s)) (by
   clear hL;rintro k ⟨T,σ,nx⟩ S ⟨hn,E,Y,J,G,O,hi⟩;simp only at hn E Y J G O;have f1:(k:Int)<(s.au.length:Int):=by omega
   have f2:=nP k;have f3:=iF (n:=(k:Int)+1);have f4:=YU s.au k S;have f5:=II s.au;have f6:k*4+4<=s.au.length*4:=by omega
   have f9:=abu s.au k S;have t1:=aby s.au[k] (h.1.1 _ (zq S));have t2:=QK s s.au[k].name h.1.2.2;have nz:¬0=nx:=by omega
   cases hj:BO s.au[k]with
   |false=>
    rw[hj]at t1;refine .inr ⟨_,by simp only[go_sem,Y,J,G,O,f1,f2,f4,f5,f6,f9,t1,nz];rfl,by simp,.inr ⟨_,_,_,rfl,?_,fun hn=>?_⟩⟩
    .simp only[go_sem]
    .have:=(hn.2.2.1 k S).1
     rw[hj]at this;cases this
   |true=>
    rw[hj]at t1
    by_cases hk:ix (fZ s.au[k].name) s.au=k
    .rw[hk]at t2
     refine .inl ⟨_,by simp only[go_sem,Y,J,G,O,E,f1,f2,f3,f4,f5,f6,f9,t1,t2,nz];rfl,?_⟩;simp only[go_sem,Y,J,G,E,nz];refine⟨by omega,rfl,fun i a1 a6=>?_⟩;rcases wK (wC a6)with q|q
     .exact hi i a1 q
     .subst q;exact⟨hj,hk⟩
    .have a7:(ix (fZ s.au[k].name) s.au !=(k:Int))=true:=by simpa using hk
     refine .inr ⟨_,by simp only[go_sem,Y,J,G,O,E,f1,f2,f4,f5,f6,f9,t1,t2,a7,nz];rfl,by simp,.inr ⟨_,_,_,rfl,?_,fun hn=>hk (hn.2.2.1 k S).2⟩⟩;simp only[go_sem]) (by
   clear hL;rintro ⟨T,σ,nx⟩ ⟨hn,E,Y,J,G,O,hi⟩;simp only at hn E Y J G O;exact⟨_,by simp only[go_sem,G,O,zX];rfl,by simp,.inl ⟨_,_,_,rfl,E,by simp only[go_sem,Y],fun i h=>hi i h h⟩⟩) (by
   simp only[go_sem];exact fun i _ h=>absurd h (zK _))
 rcases hr with ⟨T,σ,nx,rfl,E,Y,hj⟩|⟨T,σ,nx,rfl,h2,hn⟩
 .have:pb (dZ s)= !decide (0<=ix (fun m=> !QL s.au m) s.members):=by
   refine(QJ ?_).symm;rw[wS,decide_eq_false_iff_not,Int.not_le,Gh];exact⟨fun hq=>⟨by omega,by omega,hj,fun m hm=>by simpa using hq m hm⟩,fun hq m hm=>by simp[hq.2.2.2 m hm]⟩
  rw[this];simp only[go_sem,E,Y,hm]
 .simp only[go_sem,h2,mM hn]
theorem oS{n a b:Int}(h:inB n a b=true):a<=n/\n<=b:=by
 unfold inB at h;rw[zV,decide_eq_true_eq,decide_eq_true_eq]at h;exact h
def dN(n:Nat)(l:List Int):Prop:=l.length=2*n/\∀x∈l,inB x (-100) 100=true
def gK(n:Nat)(l:List Int):Prop:=l.length=n/\∀x∈l,inB x 0 1000=true
theorem J6(x:Int):fn gu conv ext 122 [I x]=some (Bo (!inB x (-100) 100)):=by
 have E:=aeR x;rw[qB,qO [.tmp 2] [] func122];simp only[go_sem,E]
theorem GR(x:Int):fn gu conv ext 83 [I x]=some (Bo (!inB x 0 1000)):=by
 have E:=aeS x;rw[qB,qO [.tmp 2] [] func83];simp only[go_sem,E]
theorem YX(row:List V)(off:Nat)(js:List fM)(l:List Int)(O:row[off]?=some (LL aX js))(hj:js.length<=140737488351232)(Y:l.length<=maxLen):fn gu conv ext 81 [.tp row off,LI l]=some (Bo (pb (dN js.length l))):=by
 have S:=iF (n:=2*(js.length:Int));have h1:=U9 l 122 (fun x=> !inB x (-100) 100) Y (by rfl) (fun x _=>J6 x);rw[qB,qO [.tmp 4] [] func81]
 by_cases G:(l.length:Int)=2*(js.length:Int)
 .have E:((l.length:Int)==2*(js.length:Int))=true:=by simpa using G
  have:pb (dN js.length l)= !decide (0<=ix (fun x=> !inB x (-100) 100) l):=by
   refine(QJ ?_).symm;rw[wS,decide_eq_false_iff_not,Int.not_le,Gh];exact⟨fun J=>⟨by omega,fun m hm=>by simpa using J m hm⟩,fun J m hm=>by simp[J.2 m hm]⟩
  rw[this];simp only[go_sem,O,S,h1,E]
 .have E:((l.length:Int)==2*(js.length:Int))=false:=by simpa using G
  rw[mM (fun hn=>G (by have:=hn.1;omega))];simp only[go_sem,O,S,E]
theorem Gj(row:List V)(off:Nat)(ms:List Member)(l:List Int)(O:row[off+1]?=some (LL bg ms))(S:l.length<=maxLen):fn gu conv ext 48 [.tp row off,LI l]=some (Bo (pb (gK ms.length l))):=by
 have Y:=U9 l 83 (fun x=> !inB x 0 1000) S (by rfl) (fun x _=>GR x);rw[qB,qO [.tmp 4] [] func48]
 by_cases G:(l.length:Int)=(ms.length:Int)
 .have E:((l.length:Int)==(ms.length:Int))=true:=by simpa using G
  have:pb (gK ms.length l)= !decide (0<=ix (fun x=> !inB x 0 1000) l):=by
   refine(QJ ?_).symm;rw[wS,decide_eq_false_iff_not,Int.not_le,Gh];exact⟨fun J=>⟨by omega,fun m hm=>by simpa using J m hm⟩,fun J m hm=>by simp[J.2 m hm]⟩
  rw[this];simp only[go_sem,O,Y,E]
 .have E:((l.length:Int)==(ms.length:Int))=false:=by simpa using G
  rw[mM (fun hn=>G (by have:=hn.1;omega))];simp only[go_sem,O,E]
theorem WI(s:Structure)(l:List Int)(h:bJ s)(E:l.length<=maxLen):fn gu conv ext 47 [.agg (aC s),LI l]=some (Bo (pb (dZ s) && pb (dN s.au.length l))):=by
 have G:=DX s h;have J:=YX (aC s) 0 s.au l rfl (by have:=h.1.2.1;omega) E;rw[qB,qO [.tmp 4] [] func47];generalize pb (dZ s)=b at *;cases b<;>simp only[go_sem,G,J]
noncomputable def fO(t:fV):Bool:=pb (AP t.name) && ((pb (dZ t.st) && pb (dN t.st.au.length t.load)) && pb (gK t.st.members.length t.limits))
theorem K_(t:fV)(h:DT t):fn gu conv ext 21 [.agg (bZ t)]=some (Bo (fO t)):=by
 have E:=WH t.name h.1;have G:=WI t.st t.load h.2.1 h.2.2.1.2.2;have J:=Gj (bZ t) 1 t.st.members t.limits rfl h.2.2.2.2.2;unfold fO;generalize pb (AP t.name)=b1 at *;generalize (pb (dZ t.st) && pb (dN t.st.au.length t.load))=O at *;rw[qB,qO [.tmp 2] [] func21];cases b1<;>cases O<;>simp only[go_sem,E,G,J]
set_option maxRecDepth 100000 in
theorem aeT(x y:Operand)(a b c d:Int):bD gu .eql 77 x y (.agg [I a,I b]) (.agg [I c,I d])=some (Bo ((a==c) && (b==d))):=by
 refine UW (us:=[.int .i64 a,.int .i64 b]) (vs:=[.int .i64 c,.int .i64 d]) (by kernel_rfl) Tryz.underlying77 (by kernel_rfl) rfl rfl ?_;refine(qy (a:=.int .i64 a) (b:=.int .i64 c) (r:=a==c) (by decide) (by kernel_rfl) (by kernel_rfl) (r_ _ _ _ _ _ _ Tryz.underlying3)).trans ?_;cases (a==c)
 .rfl
 .refine(qy (a:=.int .i64 b) (b:=.int .i64 d) (r:=b==d) (by decide) (by kernel_rfl) (by kernel_rfl) (r_ _ _ _ _ _ _ Tryz.underlying3)).trans ?_
  cases (b==d)<;>rfl
attribute [go_sem] aeT
def gi(m o:TV.Move):Bool:=(m.fr==o.fr) && (m.to==o.to)
def aeU:=kG (c:=fG) (s:=2) (fun _=>rfl)
def aeV:=kE (c:=fG) (s:=2) (fun _=>rfl) (by omega)
def WJ:=kD (c:=fG) (s:=2) (fun _=>rfl)
theorem La(xs:List TV.Move)(m:TV.Move)(h:xs.length<=maxLen):fn gu conv ext 34 [LL fG xs,.agg (fG m)]=some (I (ix (gi m) xs)):=by
 have e2:(xs.length:Int)<=9223372036854775807:=by unfold maxLen at h;omega
 rw[qB,qO [.tmp 4] [] func34];simp only[go_sem];generalize hL:aA _ _=y;obtain⟨r,rfl,hr⟩:=rP hL xs.length (fun k st=>0<st.nx/\st.σ 0=some ⟨fG m,0,true⟩/\st.T 0=LL fG xs/\st.T 3= .rp 0 0/\st.T 7=I xs.length/\st.T 8=I k/\∀i (h:i<xs.length),i<k->gi m xs[i]=false)
  (fun r=>(∃T σ nx,r=(.exit 0,⟨T,σ,nx⟩)/\ix (gi m) xs= -1)\/(∃T σ nx,r=(.ret,⟨T,σ,nx⟩)/\T 4=I (ix (gi m) xs))) (by
   clear hL;rintro k ⟨T,σ,nx⟩ G ⟨hn,E,Y,J,O,S,hi⟩;simp only at hn E Y J O S;have f1:(k:Int)<(xs.length:Int):=by omega
   have f2:=nP k;have f3:=iF (n:=(k:Int)+1);have f4:=aeU xs k G;have f5:=WJ xs;have f6:k*2+2<=xs.length*2:=by omega
   have f9:=aeV xs k G;cases hp:gi m xs[k]with
   |true=>
    refine .inr ⟨_,by unfold gi at hp;simp only[go_sem,Y,J,O,S,hn,E,f1,f2,f4,f5,f6,f9,hp];rfl,by simp,.inr ⟨_,_,_,rfl,?_⟩⟩;simp only[go_sem];rw[DW G hi hp]
   |false=>
    refine .inl ⟨_,by unfold gi at hp;simp only[go_sem,Y,J,O,S,hn,E,f1,f2,f3,f4,f5,f6,f9,hp];rfl,?_⟩;simp only[go_sem,Y,J,O,E];exact⟨hn,rfl,oJ G hi hp⟩) (by
   clear hL;rintro ⟨T,σ,nx⟩ ⟨hn,E,Y,J,O,S,hi⟩;simp only at O S;exact⟨_,by simp only[go_sem,O,S,zX];rfl,by simp,.inl ⟨_,_,_,rfl,oK fun i h=>hi i h h⟩⟩) (by
   simp only[go_sem];exact fun i _ h=>absurd h (zK _))
 rcases hr with ⟨T,σ,nx,rfl,J⟩|⟨T,σ,nx,rfl,J⟩
 .simp only[go_sem,J]
 .simp only[go_sem,J]
def AQ(n:Nat)(m:TV.Move):Prop:=0<=m.fr/\m.fr<n/\0<=m.to/\m.to<n/\m.fr≠m.to
def aW(y:bP):Prop:=y.ah.length<=6/\y.moves.length<=12/\(∀i (h:i<y.ah.length),fO y.ah[i]=true/\ix (isNamed y.ah[i].name) y.ah=i)/\∀i (h:i<y.moves.length),AQ y.ah.length y.moves[i]/\ix (gi y.moves[i]) y.moves=i
theorem oW(s:bP)(h:qI s):fn gu conv ext 10 [.agg (bQ s)]=some (Bo (pb (aW s))):=by
 have e2:(s.ah.length:Int)<=9223372036854775807:=by have:=h.1.2.1;omega
 have e3:(s.moves.length:Int)<=9223372036854775807:=by have:=h.2.1.2.1;omega
 rw[qB,qO [.tmp 2] [] func10]
 by_cases c1:(6:Int)<s.ah.length
 .rw[mM (fun hn=>by have:=hn.1;omega)]
  simp only[go_sem,c1]
 by_cases c2:(12:Int)<s.moves.length
 .rw[mM (fun hn=>by have:=hn.2.1;omega)]
  simp only[go_sem,c1,c2]
 simp only[go_sem,c1,c2];generalize hL:aA _ _=y;obtain⟨r,rfl,hr⟩:=rP hL s.ah.length (fun k st=>0<st.nx/\st.σ 0=some ⟨bQ s,0,true⟩/\st.T 1= .rp 0 0/\st.T 20=LL bZ s.ah/\st.T 21=I s.ah.length/\st.T 22=I k/\st.T 3=I s.ah.length/\∀i (h:i<s.ah.length),i<k->fO s.ah[i]=true/\ix (isNamed s.ah[i].name) s.ah=i)
  (fun r=>(∃T σ nx,r=(.exit 0,⟨T,σ,nx⟩)/\0<nx/\σ 0=some ⟨bQ s,0,true⟩/\T 1= .rp 0 0/\T 3=I s.ah.length/\∀i (h:i<s.ah.length),fO s.ah[i]=true/\ix (isNamed s.ah[i].name) s.ah=i)\/(∃T σ nx,r=(.ret,⟨T,σ,nx⟩)/\T 2=Bo false/\¬aW s)) (by
   clear hL;rintro k ⟨T,σ,nx⟩ S ⟨hn,E,J,a6,a1,a7,h3,hi⟩;simp only at hn E J a6 a1 a7 h3;have f1:(k:Int)<(s.ah.length:Int):=by omega
   have f2:=nP k;have f3:=iF (n:=(k:Int)+1);have f4:=abr s.ah k S;have f5:=QF s.ah;have f6:k*5+5<=s.ah.length*5:=by omega
   have f9:=abt s.ah k S;have t1:=K_ s.ah[k] (h.1.1 _ (zq S));have t2:=NI s s.ah[k].name h.1.2.2;have nz:¬0=nx:=by omega
   cases hj:fO s.ah[k]with
   |false=>
    rw[hj]at t1;refine .inr ⟨_,by simp only[go_sem,J,a6,a1,a7,f1,f2,f4,f5,f6,f9,t1,nz];rfl,by simp,.inr ⟨_,_,_,rfl,?_,fun hn=>?_⟩⟩
    .simp only[go_sem]
    .have:=(hn.2.2.1 k S).1
     rw[hj]at this;cases this
   |true=>
    rw[hj]at t1
    by_cases hk:ix (isNamed s.ah[k].name) s.ah=k
    .rw[hk]at t2
     refine .inl ⟨_,by simp only[go_sem,J,a6,a1,a7,E,f1,f2,f3,f4,f5,f6,f9,t1,t2,nz];rfl,?_⟩;simp only[go_sem,J,a6,a1,E,nz,h3];refine⟨by omega,rfl,fun i b2 b3=>?_⟩;rcases wK (wC b3)with q|q
     .exact hi i b2 q
     .subst q;exact⟨hj,hk⟩
    .have b6:(ix (isNamed s.ah[k].name) s.ah !=(k:Int))=true:=by simpa using hk
     refine .inr ⟨_,by simp only[go_sem,J,a6,a1,a7,E,f1,f2,f4,f5,f6,f9,t1,t2,b6,nz];rfl,by simp,.inr ⟨_,_,_,rfl,?_,fun hn=>hk (hn.2.2.1 k S).2⟩⟩;simp only[go_sem]) (by
   clear hL;rintro ⟨T,σ,nx⟩ ⟨hn,E,J,a6,a1,a7,h3,hi⟩;simp only at hn E J a6 a1 a7 h3;exact⟨_,by simp only[go_sem,a1,a7,zX];rfl,by simp,.inl ⟨_,_,_,rfl,hn,E,by simp only[go_sem,J],by simp only[go_sem,h3],fun i h=>hi i h h⟩⟩) (by
   simp only[go_sem];exact fun i _ h=>absurd h (zK _))
 rcases hr with ⟨T,σ,nx,rfl,b7,E,J,h3,hj⟩|⟨T,σ,nx,rfl,h2,hn⟩
 .clear hL
  simp only[go_sem,E,J];generalize hL:aA _ _=y;obtain⟨r,rfl,hr⟩:=rP hL s.moves.length (fun k st=>0<st.nx/\st.σ 0=some ⟨bQ s,0,true⟩/\st.T 1= .rp 0 0/\st.T 3=I s.ah.length/\st.T 40=LL fG s.moves/\st.T 41=I s.moves.length/\st.T 42=I k/\∀i (h:i<s.moves.length),i<k->AQ s.ah.length s.moves[i]/\ix (gi s.moves[i]) s.moves=i)
   (fun r=>(∃T σ nx,r=(.exit 2,⟨T,σ,nx⟩)/\∀i (h:i<s.moves.length),AQ s.ah.length s.moves[i]/\ix (gi s.moves[i]) s.moves=i)\/(∃T σ nx,r=(.ret,⟨T,σ,nx⟩)/\T 2=Bo false/\¬aW s)) (by
    clear hL;rintro k ⟨T,σ,nx⟩ S ⟨hn,E,J,h5,Y,G,O,hi⟩;simp only at hn E J h5 Y G O;have f1:(k:Int)<(s.moves.length:Int):=by omega
    have f2:=nP k;have f3:=iF (n:=(k:Int)+1);have f4:=aeU s.moves k S;have f5:=WJ s.moves;have f6:k*2+2<=s.moves.length*2:=by omega
    have f9:=aeV s.moves k S;have no:¬AQ s.ah.length s.moves[k]->¬aW s:=fun hb hn=>hb (hn.2.2.2 k S).1
    have b5:¬ix (gi s.moves[k]) s.moves=k->¬aW s:=fun hb hn=>hb (hn.2.2.2 k S).2
    have done:AQ s.ah.length s.moves[k]->ix (gi s.moves[k]) s.moves=k->∀i (h:i<s.moves.length),i<k+1->AQ s.ah.length s.moves[i]/\ix (gi s.moves[i]) s.moves=i:=fun g1 g2 i b2 b3=>by
     rcases wK (wC b3)with q|q
     .exact hi i b2 q
     .subst q;exact⟨g1,g2⟩
    have nz:¬0=nx:=by omega
    have t1:=La s.moves s.moves[k] h.2.1.2.2;generalize b9:ix (gi s.moves[k]) s.moves=ii at t1 b5 done;obtain⟨m,b8⟩:∃m,m=s.moves[k]:=⟨_,rfl⟩;rw[<- b8]at f4 no done t1
    by_cases c1:m.fr<0
    .refine .inr ⟨_,by simp only[go_sem,J,h5,Y,G,O,E,f1,f2,f4,f5,f6,f9,nz,c1];rfl,by simp,.inr ⟨_,_,_,rfl,by simp only[go_sem],no fun hm=>?_⟩⟩
     have:=hm.1;omega
    by_cases c2:(s.ah.length:Int)<=m.fr
    .refine .inr ⟨_,by simp only[go_sem,J,h5,Y,G,O,E,f1,f2,f4,f5,f6,f9,nz,c1,c2];rfl,by simp,.inr ⟨_,_,_,rfl,by simp only[go_sem],no fun hm=>?_⟩⟩
     have:=hm.2.1;omega
    by_cases c3:m.to<0
    .refine .inr ⟨_,by simp only[go_sem,J,h5,Y,G,O,E,f1,f2,f4,f5,f6,f9,nz,c1,c2,c3];rfl,by simp,.inr ⟨_,_,_,rfl,by simp only[go_sem],no fun hm=>?_⟩⟩
     have:=hm.2.2.1;omega
    by_cases c4:(s.ah.length:Int)<=m.to
    .refine .inr ⟨_,by simp only[go_sem,J,h5,Y,G,O,E,f1,f2,f4,f5,f6,f9,nz,c1,c2,c3,c4];rfl,by simp,.inr ⟨_,_,_,rfl,by simp only[go_sem],no fun hm=>?_⟩⟩
     have:=hm.2.2.2.1;omega
    by_cases c5:m.fr=m.to
    .have a8:(m.fr==m.to)=true:=by simpa using c5
     exact .inr ⟨_,by simp only[go_sem,J,h5,Y,G,O,E,f1,f2,f4,f5,f6,f9,nz,c1,c2,c3,c4,a8];rfl,by simp,.inr ⟨_,_,_,rfl,by simp only[go_sem],no fun hm=>hm.2.2.2.2 c5⟩⟩
    have a8:(m.fr==m.to)=false:=by simpa using c5
    by_cases c6:ii=k
    .have b4:(ii !=(k:Int))=false:=by simpa using c6
     refine .inl ⟨_,by simp only[go_sem,J,h5,Y,G,O,E,f1,f2,f3,f4,f5,f6,f9,nz,c1,c2,c3,c4,a8,b4,t1];rfl,?_⟩;simp only[go_sem,J,h5,Y,G,E,nz];exact⟨by omega,rfl,done ⟨by omega,by omega,by omega,by omega,c5⟩ c6⟩
    .have b4:(ii !=(k:Int))=true:=by simpa using c6
     exact .inr ⟨_,by simp only[go_sem,J,h5,Y,G,O,E,f1,f2,f4,f5,f6,f9,nz,c1,c2,c3,c4,a8,b4,t1];rfl,by simp,.inr ⟨_,_,_,rfl,by simp only[go_sem],b5 c6⟩⟩) (by
    clear hL;rintro ⟨T,σ,nx⟩ ⟨hn,E,J,h5,Y,G,O,hi⟩;simp only at hn E J G O;exact⟨_,by simp only[go_sem,G,O,zX];rfl,by simp,.inl ⟨_,_,_,rfl,fun i h=>hi i h h⟩⟩) (by
    simp only[go_sem,J,E,h3];exact⟨b7,fun i _ h=>absurd h (zK _)⟩)
  rcases hr with ⟨T,σ,nx,rfl,hm⟩|⟨T,σ,nx,rfl,h2,hn⟩
  .have:aW s:=⟨by omega,by omega,hj,hm⟩
   simp only[go_sem,mJ this]
  .simp only[go_sem,h2,mM hn]
 .simp only[go_sem,h2,mM hn]
def dg(n:Nat):List Int:=if n=0 then []else((n%1000000000:Nat):Int) :: dg (n / 1000000000)
termination_by n
decreasing_by exact Nat.div_lt_self (by omega) (by decide)
theorem rD:dg 0=[]:=by unfold dg;rfl
theorem rF{n:Nat}(h:n≠0):dg n=((n%1000000000:Nat):Int) :: dg (n / 1000000000):=by rw[dg,ug h]
theorem aeW{k m n:Nat}(h:1000000000^k*m<=n)(hm:1<=m)(hn:n<=18446744073709551615):k<=2:=by
 rcases Nat.lt_or_ge k 3 with E|E
 .omega
 .have:=Nat.pow_le_pow_right (n:=1000000000) (by decide) E
  have G:1000000000^k*1<=1000000000^k*m:=Nat.mul_le_mul_left _ hm;have J:(1000000000:Nat)^3=1000000000000000000000000000:=by decide
  omega
def Short(xs:List Int):Prop:=xs.length<=17592186044000
theorem idx{xs:List Int}{k:Nat}(h:k<xs.length):(xs.flatMap cI)[k]?=some (I xs[k]):=kF I xs k h
theorem sO(xs:List Int)(k:Nat):(xs.flatMap cI).take k=(xs.take k).flatMap cI:=by
 induction xs generalizing k with
 |nil=>simp
 |cons x xs E=>
  cases k with
  |zero=>rfl
  |succ k=>simp[E]
def eH(a:List Int):List Int:=(a.reverse.dropWhile (·=0)).reverse
theorem Fa(a:List Int)(x:Int):eH (a++[x])=if x=0 then eH a else a++[x]:=by
 unfold eH;simp only[List.reverse_append,List.reverse_cons,List.reverse_nil,wR,List.singleton_append,List.dropWhile_cons,decide_eq_true_eq]
 split<;>simp
theorem jJ{a:List Int}{k:Nat}(h:k<a.length):a.take (k+1)=a.take k++[a[k]]:=by rw[wz,zy h];rfl
theorem aeX(a:List Int):(eH a).length<=a.length:=by
 unfold eH;rw[List.length_reverse];exact zL (List.dropWhile_suffix _).length_le (by rw[List.length_reverse];exact zu _)
theorem j_(d:Int)(xs:List Int):eH (d :: xs)=if eH xs=[]then(if d=0 then []else [d])else d :: eH xs:=by
 unfold eH;rw[List.reverse_cons,List.dropWhile_append]
 by_cases h:(xs.reverse.dropWhile fun x=>decide (x=0))=[]
 .rw[h]
  simp only[List.isEmpty_nil,if_true,List.reverse_nil,List.dropWhile_cons,List.dropWhile_nil,decide_eq_true_eq]
  split<;>simp_all
 .rw[ug (by simpa using h),ug (by simpa using h)]
  simp
theorem rH{n:Nat}(h:n≠0):dg n≠[]:=by rw[rF h];simp
theorem aeY(n:Nat):eH (dg n)=dg n:=by
 induction n using Nat.strongRecOn with
 |_ n G=>
  by_cases h:n=0
  .subst h;rw[rD];rfl
  .rw[rF h,j_,G _ (Nat.div_lt_self (by omega) (by decide))]
   by_cases E:n / 1000000000=0
   .rw[E,rD,uf rfl,ug (by omega)]
   .rw[ug (rH E)]
theorem abz(k:Nat):∀n:Nat,n<1000000000^k->(dg n).length<=k:=by
 induction k with
 |zero=>intro n h;have:n=0:=by simpa using h
        subst this;rw[rD];exact zu _
 |succ k G=>
  intro n h
  by_cases E:n=0
  .subst E;rw[rD];exact wM _
  .rw[rF E,zi]
   have:n / 1000000000<1000000000^k:=Nat.div_lt_of_lt_mul (by rw[Nat.pow_succ,Nat.mul_comm]at h;exact h);have:=G _ this;omega
theorem QM{n:Nat}(h:n<=9223372036854775807):(dg n).length<=3:=abz 3 n (by omega)
theorem abA(n:Nat):∀x∈dg n,0<=x/\x<=999999999:=by
 induction n using Nat.strongRecOn with
 |_ n G=>
  intro x E
  by_cases h:n=0
  .subst h;rw[rD]at E;cases E
  .rw[rF h]at E
   rcases List.mem_cons.mp E with rfl|E
   .omega
   .exact G _ (Nat.div_lt_self (by omega) (by decide)) x E
def BP(a:List Int):Prop:=(∀x∈a,inB x 0 999999999=true)/\a.length<=60/\eH a=a
theorem Lc{a:List Int}(h:a≠[]):eH a=a↔a[a.length-1]'(by have:=List.length_pos_iff.mpr h;omega)≠0:=by
 rcases List.eq_nil_or_concat a with rfl|⟨b,x,e⟩
 .exact absurd rfl h
 .rw[List.concat_eq_append]at e
  subst e;rw[Fa];have:(b++[x])[(b++[x]).length-1]'(by simp)=x:=by simp
  rw[this]
  by_cases E:x=0
  .rw[uf E]
   refine⟨fun e=>?_,fun e=>absurd E e⟩;have:=congrArg List.length e;have G:=aeX b;rw[zo,yT]at this;omega
  .rw[ug E];exact⟨fun _=>E,fun _=>rfl⟩
theorem NJ(n j:Nat):(dg n).drop j=dg (n / 1000000000^j):=by
 induction j generalizing n with
 |zero=>simp
 |succ j E=>
  by_cases h:n=0
  .subst h;rw[Nat.zero_div,rD];rfl
  .rw[rF h,List.drop_succ_cons,E,vZ,Nat.pow_succ,Nat.mul_comm]
theorem Va{n j:Nat}(h:j<(dg n).length):(dg n)[j]=((n / 1000000000^j%1000000000:Nat):Int):=by
 have E:=yQ h;rw[NJ]at E;have G:n / 1000000000^j≠0:=fun e=>by rw[e,rD]at E;cases E
 rw[rF G]at E;exact(List.cons.inj E).1.symm
theorem IL(n:Nat):n / 1000000000^(dg n).length=0:=by
 have h:=NJ n (dg n).length;rw[List.drop_length]at h;exact zh fun hn=>rH hn h.symm
theorem rE(n j:Nat):n / 1000000000^(j+1)*1000000000+n / 1000000000^j%1000000000=n / 1000000000^j:=by
 rw[Nat.pow_succ,<- vZ];omega
theorem uD{xs:List Int}(h:xs≠[]):¬xs.length=0:=fun e=>h (zN e)
def pad(n k:Nat):List Int:=(List.range k).map fun j=>((n / 1000000000^j%1000000000:Nat):Int)
theorem NK(n k:Nat):(pad n k).length=k:=by simp[pad]
theorem aeZ(n k j:Nat)(h:j<(pad n k).length):(pad n k)[j]=((n / 1000000000^j%1000000000:Nat):Int):=by simp[pad]
theorem abB(n k:Nat):pad n (k+1)=((n%1000000000:Nat):Int) :: pad (n / 1000000000) k:=by
 unfold pad;rw[List.range_succ_eq_map,xJ,List.map_map];congr 1
 .rw[Nat.pow_zero,Nat.div_one]
 .refine xX fun j _=>?_
  show(((n / 1000000000^(j+1)%1000000000:Nat)):Int)=_;rw[vZ,Nat.pow_succ,Nat.mul_comm]
theorem QN(k:Nat):∀n:Nat,n<1000000000^k->eH (pad n k)=dg n:=by
 induction k with
 |zero=>
  intro n h;have:n=0:=by simpa using h
  subst this;rw[rD];rfl
 |succ k J=>
  intro n h;have:n / 1000000000<1000000000^k:=Nat.div_lt_of_lt_mul (by rw[Nat.pow_succ,Nat.mul_comm]at h;exact h);rw[abB,j_,J _ this]
  by_cases E:n=0
  .subst E
   rw[Nat.zero_div,rD,uf rfl,uf (by decide)]
  .rw[rF E]
   by_cases G:n / 1000000000=0
   .rw[G,rD,uf rfl,ug (by omega)]
   .rw[ug (rH G)]
theorem NM(j:Nat)(z v:V)(r:List V):(rep (j+1) [z]++r).set j v=rep j [z]++v :: r:=by
 induction j with
 |zero=>rfl
 |succ j E=>
  have G:rep (j+1+1) [z]=z :: rep (j+1) [z]:=lF _ _;have J:rep (j+1) [z]=z :: rep j [z]:=lF _ _;rw[G];show z :: ((rep (j+1) [z]++r).set j v)=rep (j+1) [z]++v :: r;rw[E,J];rfl
theorem abC{n k m:Nat}(h:m<k):(pad n k).drop m=((n / 1000000000^m%1000000000:Nat):Int) :: (pad n k).drop (m+1):=by
 rw[yQ (by rw[NK];exact h),aeZ]
theorem rG{d:Nat}(E:d≠0)(h:d<1000000000):dg d=[(d:Int)]:=by
 rw[rF E,Nat.div_eq_of_lt h,rD,Nat.mod_eq_of_lt h]
theorem WL(neg:Bool)(a:List Int):fn gu conv ext 177 [Bo neg,LI a]=some (.agg [Bo (neg && decide (0<a.length)),LI a]):=by
 rw[qB,qO [.cell 4 171] [] func177]
 by_cases h:0<a.length
 .have E:(0:Int)<(a.length:Int):=by omega
  cases neg<;>simp only[go_sem,h,E]
 .have E:¬(0:Int)<(a.length:Int):=by omega
  cases neg<;>simp only[go_sem,h,E]
theorem u3:gu.underlying 3=some (.int .i64):=Tryz.underlying3
theorem akX:gu.underlying 193=some (.int .u64):=Tryz.underlying193
theorem anA(k:IntKind)(n:Int)(σ:Store):dh gu 3 193 (.sc (.int k n)) σ=some (.sc (.int .u64 (IntKind.u64.wrap n))):=E5 u3 akX
theorem anB(k:IntKind)(n:Int)(σ:Store):dh gu 193 3 (.sc (.int k n)) σ=some (.sc (.int .i64 (IntKind.i64.wrap n))):=E5 akX u3
attribute [go_sem] anA anB
theorem NP(n:Nat)(hn:n<=18446744073709551615):fn gu conv ext 184 [.sc (.int .u64 n)]=some (LI (dg n)):=by
 rw[qB,qO [.tmp 2] [] func184];simp only[go_sem];generalize hL:aA _ _=y;obtain⟨r,rfl,T',σ',nx',rfl,hr⟩:=nY hL (fun m st=>st.T 0= .sc (.int .u64 m)/\∃acc,Grow st.T st.σ st.nx 3 acc/\dg n=acc++dg m/\1000000000^acc.length*m<=n)
  (fun r=>∃T σ nx,r=(.exit 0,⟨T,σ,nx⟩)/\Grow T σ nx 3 (dg n)) (by
   clear hL;rintro m ⟨T,σ,nx⟩ ⟨G,acc,E,J,hp⟩;simp only at G E
   by_cases hm:m=0
   .subst hm
    have f0:¬(0:Int)<0:=by omega
    refine .inr ⟨_,by simp only[go_sem,G,f0];rfl,by simp,_,_,_,rfl,?_⟩;rw[rD,zA]at J;rw[J]
    simpa only[Grow,go_sem]using E
   .have f0:(0:Int)<(m:Int):=by omega
    have hk:=aeW hp (by omega) (by omega);have a1:m<=n:=zL (Nat.le_mul_of_pos_left _ (Nat.pow_pos (by decide))) hp;have f1:(m:Int).tmod 1000000000=((m%1000000000:Nat):Int):=by rw[xE (by omega)];omega
    have f2:IntKind.u64.wrap ((m:Int).tdiv 1000000000)=((m / 1000000000:Nat):Int):=by
     rw[xC (by omega)];rw[iE (by omega) (by omega)];omega
    have f3:=iF (n:=((m%1000000000:Nat):Int));have O:dg n=(acc++[((m%1000000000:Nat):Int)])++dg (m / 1000000000):=by rw[J,rF hm];simp
    have S:1000000000^(acc++[((m%1000000000:Nat):Int)]).length*(m / 1000000000)<=n:=by
     rw[zo,yT,Nat.pow_succ,Nat.mul_assoc];exact zL (Nat.mul_le_mul_left _ (Nat.mul_div_le _ _)) hp
    have Y:m / 1000000000<m:=Nat.div_lt_self (by omega) (by decide);obtain⟨σ',ha,hs⟩:=oz E ((m%1000000000:Nat):Int) (by omega);refine .inl ⟨_,by simp only[go_sem,G,f0,f1,f2,f3,ha];rfl,_,Y,?_,_,?_,O,S⟩
    .simp only[go_sem]
    .exact oh hs (by simp[go_sem]) (by simp)) n ⟨by simp only[go_sem],[],.inl ⟨by simp only[go_sem],rfl⟩,rfl,by simp⟩
 obtain⟨ids,h1⟩:=og hr 6;simp only[go_sem,h1]
theorem ahU(n:Nat)(hn:n<=9223372036854775807):fn gu conv ext 184 [.sc (.int .u64 n)]=some (LI (dg n)):=NP n (by omega)
theorem Vb(x:Int):fn gu conv ext 244 [I x]=some (Bo (!inB x 0 999999999)):=by
 rw[qB,qO [.tmp 2] [] func244]
 by_cases h:x<0
 .have:inB x 0 999999999=false:=by unfold inB;rw[uX (by omega)];rfl
  rw[this];simp only[go_sem,h]
 .have:inB x 0 999999999=decide (x<=999999999):=by unfold inB;rw[uY (by omega),xM]
  rw[this]
  by_cases E:1000000000<=x
  .rw[uX (by omega)]
   simp only[go_sem,h,E]
  .rw[uY (by omega)]
   simp only[go_sem,h,E]
theorem abD(a:List Int)(ha:Short a):fn gu conv ext 229 [LI a]=some (Bo (pb (BP a))):=by
 unfold Short at ha;have hc:=U9 a 244 (fun x=> !inB x 0 999999999) (by unfold maxLen;omega) (by rfl) (fun x _=>Vb x);rw[qB,qO [.tmp 2] [] func229]
 by_cases S:(60:Int)<(a.length:Int)
 .rw[mM (fun hn:BP a=>by have:=hn.2.1;omega)]
  simp only[go_sem,S]
 have hg:(eH a=a)->pb (BP a)= !decide (0<=ix (fun x=> !inB x 0 999999999) a):=fun Y=>by
  refine(QJ ?_).symm;rw[wS,decide_eq_false_iff_not,Int.not_le,Gh];exact⟨fun hq=>⟨fun x hx=>by simpa using hq x hx,by omega,Y⟩,fun hq m hm=>by simp[hq.1 m hm]⟩
 by_cases G:a=[]
 .have Y:eH a=a:=by rw[G];rfl
  rw[hg Y];subst G;have:¬(0:Int)<0:=by decide
  have a1:¬(60:Int)<0:=by decide
  have a6:fn gu conv ext 82 [.ts [] 0,.clo 244 []]=some (Bo (decide (0<=ix (fun x=> !inB x 0 999999999) []))):=hc
  simp only[go_sem,this,a1,a6]
 .have J:0<a.length:=List.length_pos_iff.mpr G
  have c0:(0:Int)<(a.length:Int):=by omega
  have f1:=iF (n:=(a.length:Int) - 1);have f2:(0:Int)<=(a.length:Int) - 1:=by omega
  have f3:(a.length:Int) - 1<(a.length:Int):=by omega
  have f4:((a.length:Int) - 1).toNat=a.length-1:=by omega
  have f5:=idx (xs:=a) (k:=a.length-1) (by omega);have f9:=iI a 0 J
  by_cases O:a[a.length-1]=0
  .have E:(a[a.length-1]==(0:Int))=true:=by simpa using O
   rw[mM (fun hn:BP a=>(Lc G).mp hn.2.2 O)];simp only[go_sem,S,c0,f1,f2,f3,f4,f5,f9,E]
  .have E:(a[a.length-1]==(0:Int))=false:=by simpa using O
   rw[hg ((Lc G).mpr O)];simp only[go_sem,S,c0,f1,f2,f3,f4,f5,f9,E,hc]
theorem YZ(neg:Bool)(a:List Int)(ha:Short a):fn gu conv ext 228 [.agg [Bo neg,LI a]]=some (Bo (pb (BP a) && !(neg && decide (a=[])))):=by
 have G:=abD a ha;rw[qB,qO [.tmp 2] [] func228];generalize pb (BP a)=b at *
 by_cases h:a=[]
 .subst h
  have E:fn gu conv ext 229 [.ts [] 0]=some (Bo b):=G
  cases b<;>cases neg<;>simp only[go_sem,E]<;>rfl
 .have J:((a.length:Int)==0)=false:=by simpa using h
  rw[uX h];cases b<;>cases neg<;>simp only[go_sem,G,J]<;>rfl
def jI(m n:Nat):Int:=if m<n then -1 else if m=n then 0 else 1
theorem abE{n:Nat}:n<1000000000^(dg n).length:=(Nat.div_eq_zero_iff_lt (Nat.pow_pos (by decide))).mp (IL n)
theorem akY{n k:Nat}(h:k<(dg n).length):1000000000^k<=n:=by
 have E:=NJ n k;rw[yQ h]at E;have G:n / 1000000000^k≠0:=fun e=>by rw[e,rD]at E;cases E
 exact zh fun hn=>G (Nat.div_eq_of_lt (by omega))
theorem Lh{m n:Nat}(h:(dg m).length<(dg n).length):m<n:=xq abE (akY h)
theorem Lj{m n j:Nat}(E:m / 1000000000^(j+1)=n / 1000000000^(j+1))(G:m / 1000000000^j%1000000000<n / 1000000000^j%1000000000):m<n:=by
 have a:=rE m j;have b:=rE n j;rw[E]at a;have:m / 1000000000^j<n / 1000000000^j:=by omega
 exact zh fun hn=>by
  have:=Nat.div_le_div_right (c:=1000000000^j) (show n<=m by omega);omega
theorem oV(m n:Nat)(l1:(dg m).length<=1000000)(l2:(dg n).length<=1000000):fn gu conv ext 175 [LI (dg m),LI (dg n)]=some (I (jI m n)):=by
 rw[qB,qO [.tmp 4] [] func175]
 by_cases hl:(dg m).length=(dg n).length
 .have c1:(((dg m).length:Int) !=((dg n).length:Int))=false:=by rw[hl];simp
  have e1:=iF (n:=((dg m).length:Int) - 1);simp only[go_sem,c1,e1];generalize hL:aA _ _=y;obtain⟨r,rfl,hr⟩:=nY hL (fun k st=>st.nx=0/\st.σ=aG/\st.T 0=LI (dg m)/\st.T 1=LI (dg n)/\st.T 5=I ((k:Int) - 1)/\k<=(dg m).length/\m / 1000000000^k=n / 1000000000^k)
   (fun r=>(∃T,r=(.exit 0,⟨T,aG,0⟩)/\m=n)\/(∃T,r=(.ret,⟨T,aG,0⟩)/\T 4=I (jI m n))) (by
    clear hL;rintro k ⟨T,σ,nx⟩ ⟨a1,a6,h0,h1,h5,hk,he⟩;simp only at a1 a6 h0 h1 h5;subst a1 a6;cases k with
    |zero=>
     have a7:¬(0:Int)<=0-1:=by omega
     rw[Nat.pow_zero,Nat.div_one,Nat.div_one]at he;exact .inr ⟨_,by simp only[go_sem,h5,a7];rfl,by simp,.inl ⟨_,rfl,he⟩⟩
    |succ k=>
     have E:k<(dg m).length:=by omega
     have G:k<(dg n).length:=by omega
     have e5:((k+1:Nat):Int) - 1=(k:Int):=by omega
     rw[e5]at h5;have f0:=nP k;have f3:(k:Int)<((dg m).length:Int):=by omega
     have S:(k:Int)<((dg n).length:Int):=by omega
     have f5:=iI (dg m) k E;have Y:=iI (dg n) k G;have f6:=idx E;have O:=idx G;rw[Va E]at f6;rw[Va G]at O;have f7:=iF (n:=(k:Int) - 1)
     by_cases q1:((m / 1000000000^k%1000000000:Nat):Int)<((n / 1000000000^k%1000000000:Nat):Int)
     .have J:m<n:=Lj he (by omega)
      have hc:jI m n= -1:=by unfold jI;rw[uf J]
      exact .inr ⟨_,by simp only[go_sem,h0,h1,h5,f0,f3,S,f5,Y,f6,O,q1];rfl,by simp,.inr ⟨_,rfl,by simp only[go_sem,hc]⟩⟩
     .by_cases q2:((n / 1000000000^k%1000000000:Nat):Int)<((m / 1000000000^k%1000000000:Nat):Int)
      .have J:n<m:=Lj he.symm (by omega)
       have hc:jI m n=1:=by unfold jI;rw[ug (by omega),ug (by omega)]
       exact .inr ⟨_,by simp only[go_sem,h0,h1,h5,f0,f3,S,f5,Y,f6,O,q1,q2];rfl,by simp,.inr ⟨_,rfl,by simp only[go_sem,hc]⟩⟩
      .have a8:m / 1000000000^k=n / 1000000000^k:=by
        have a:=rE m k;have b:=rE n k;rw[he]at a;omega
       refine .inl ⟨_,by simp only[go_sem,h0,h1,h5,f0,f3,S,f5,Y,f6,O,f7,q1,q2];rfl,k,by omega,?_⟩;simp only[go_sem,h0,h1];exact⟨by omega,a8⟩) (dg m).length ⟨rfl,rfl,by simp only[go_sem],by simp only[go_sem],by simp only[go_sem],zu _,by rw[IL,hl,IL]⟩
  rcases hr with ⟨T,rfl,h⟩|⟨T,rfl,h⟩
  .have hc:jI m n=0:=by unfold jI;rw[ug (by omega),uf h]
   simp only[go_sem,hc]
  .simp only[go_sem,h]
 .have c1:(((dg m).length:Int) !=((dg n).length:Int))=true:=by rw[bne_iff_ne];omega
  by_cases E:((dg m).length:Int)<((dg n).length:Int)
  .have J:m<n:=Lh (by omega)
   have hc:jI m n= -1:=by unfold jI;rw[uf J]
   simp only[go_sem,c1,E,hc]
  .have J:n<m:=Lh (by omega)
   have hc:jI m n=1:=by unfold jI;rw[ug (by omega),ug (by omega)]
   simp only[go_sem,c1,E,hc]
theorem abG(m n:Nat)(hm:m<=9223372036854775807)(hn:n<=9223372036854775807):fn gu conv ext 175 [LI (dg m),LI (dg n)]=some (I (jI m n)) :=
 oV m n (by have:=QM hm;omega) (by have:=QM hn;omega)
theorem WM(a:List Int)(ha:Short a):fn gu conv ext 208 [LI a]=some (LI (eH a)):=by
 unfold Short at ha;rw[qB,qO [.tmp 2] [] func208];simp only[go_sem];generalize hL:aA _ _=y;obtain⟨r,rfl,T',rfl,S⟩:=nY hL (fun k st=>∃T,st=⟨T,aG,0⟩/\T 0=LI (a.take k)/\k<=a.length/\eH (a.take k)=eH a) (fun r=>∃T,r=(.exit 0,⟨T,aG,0⟩)/\T 0=LI (eH a)) (by
  clear hL;rintro k _ ⟨T,rfl,Y,hk,G⟩;have hl:(a.take k).length=k:=by rw[zY,yB hk]
  cases k with
  |zero=>
   have E:T 0= .ts [] 0:=Y;have f0:¬(0:Int)<0:=by decide
   refine .inr ⟨_,by simp only[go_sem,E,f0];rfl,by simp,_,rfl,?_⟩;simp only[go_sem,E];rw[<- G];rfl
  |succ k=>
   have J:k<a.length:=by omega
   have E:T 0= .ts ((a.take (k+1)).flatMap cI) (k+1):=by rw[Y];show V.ts _ (a.take (k+1)).length=_;rw[hl]
   have f0:(0:Int)<((k+1:Nat):Int):=by omega
   have e5:((k+1:Nat):Int) - 1=(k:Int):=by omega
   have e2:=iF (n:=(k:Int));have f1:=nP k;have f2:(k:Int)<((k+1:Nat):Int):=by omega
   have f5:=iI (a.take (k+1)) k (by omega);have f6:=idx (xs:=a.take (k+1)) (k:=k) (by omega);rw[List.getElem_take]at f6;have f7:k<=k+1:=by omega
   have a1:((a.take (k+1)).flatMap cI).take k=(a.take k).flatMap cI:=by rw[sO,List.take_take,yB f7]
   rw[jJ J,Fa]at G
   by_cases O:a[k]=0
   .have fx:(a[k]==(0:Int))=true:=by simpa using O
    rw[uf O]at G;refine .inl ⟨_,by simp only[go_sem,E,f0,e5,e2,f1,f2,f5,f6,f7,a1,fx,wM];rfl,k,by omega,_,rfl,?_,by omega,G⟩;simp only[go_sem];show _=V.ts _ (a.take k).length;rw[zY,yB (by omega)]
   .have fx:(a[k]==(0:Int))=false:=by simpa using O
    rw[ug O]at G;refine .inr ⟨_,by simp only[go_sem,E,f0,e5,e2,f1,f2,f5,f6,f7,fx];rfl,by simp,_,rfl,?_⟩;simp only[go_sem];rw[Y,<- G,jJ J]) a.length ⟨_,rfl,by simp only[go_sem];rw[yV],zu _,by rw[yV]⟩
 simp only[go_sem,S]
theorem ae0{n:Nat}:(jI n 1==0)=decide (n=1):=by
 unfold jI
 by_cases h:n<1
 .rw[uf h,uX (by omega)];rfl
 .rw[ug h]
  by_cases E:n=1
  .rw[uf E,uY E];rfl
  .rw[ug E,uX E];rfl
theorem akZ(n:Nat)(hn:n<=9223372036854775807):fn gu conv ext 175 [LI (dg n),.ts [I 1] 1]=some (I (jI n 1)):=by
 have:=abG n 1 hn (by decide);rw[rG (d:=1) (by decide) (by decide)]at this;exact this
def ae1(neg:Bool)(m n:Nat):List V:=[Bo (neg && decide (0<(dg (m / Nat.gcd m n)).length)),LI (dg (m / Nat.gcd m n)),LI (dg (n / Nat.gcd m n))]
theorem ahV{P:Program}{t e:TypeId}{x y:Operand}{row:List V}{off:Nat}(h:P.underlying t=some (.pointer e)):bD P .eql t x y (.tp row off) (.sc (.pointer none))=some (Bo false):=by
 simp only[bD,toVal,h];rfl
theorem ptrEq(x y:Operand)(row:List V)(off:Nat):bD gu .eql 133 x y (.tp row off) (.sc (.pointer none))=some (Bo false):=ahV Tryz.underlying133
attribute [go_sem] ptrEq
theorem ahW(b:Bool)(xs:List Int)(E:xs.length<=60):fn gu conv ext 151 [.agg [Bo b,LI xs]]=some (.agg [Bo b,LI xs]):=by
 have c1:¬(60:Int)<(xs.length:Int):=by omega
 have k:=U7 xs (by omega);rw[qB,qO [.cell 2 171] [] func151];simp only[go_sem,c1,k]
theorem ahX(b:Bool)(xs E:List Int)(O:xs.length<=24)(S:E.length<=24):fn gu conv ext 112 [.tp [Bo b,LI xs,LI E] 0]=some (.agg [Bo b,LI xs,LI E]):=by
 have G:=ahW b xs (by omega);have J:=U7 E (by omega);rw[qB,qO [.cell 2 173] [] func112];simp only[go_sem,G,J]
abbrev cB(n:Int):List V:=[.sc (.int .u8 n)]
theorem u8t:gu.underlying 5=some (.int .u8):=Tryz.underlying5
theorem anE(k:IntKind)(n:Int)(σ:Store):dh gu 5 3 (.sc (.int k n)) σ=some (.sc (.int .i64 (IntKind.i64.wrap n))):=E5 u8t u3
attribute [go_sem] anE
def EI(xs:List Int)(i h:Int)(st:Nat):BZ:=⟨[LL cB xs,I i,I h],st,true⟩
theorem abH(xs:List Int)(Y:∀x∈xs,0<=x/\x<=255)(hl:xs.length<=1048576)(i h:Int)(hi:0<=i/\i<=xs.length) :
  ∃r J h',(∀(b st nx:Nat) (σ:Store),σ b=some (EI xs i h st)->b<nx->ev gu conv ext 29 [.rp b 0] σ nx=some (I r,upd σ b (some (EI xs J h' st)),nx))/\(0<=r/\r<=255)/\0<=J/\J<=xs.length:=by
 have S:¬(33:Int)<0:=by decide
 have z2:¬(45:Int)<0:=by decide
 by_cases G:i<xs.length
 .obtain⟨k,rfl⟩:∃k:Nat,i=k:=⟨i.toNat,by omega⟩
  have O:k<xs.length:=by omega
  have f0:=nP k;have f5:=kE (c:=cB) (s:=1) (fun _=>rfl) (by omega) xs k O;have f6:(xs.flatMap cB)[k]?=some (.sc (.int .u8 xs[k])):=kF (fun n:Int=> .sc (.int .u8 n)) xs k O;have a1:=Y xs[k] (zq O);have w1:=iF (n:=xs[k]);have w2:=iF (n:=(k:Int)+1);have w3:=fun a:Int=>iF (n:=U3 a+xs[k]) (by have:=tZ a;omega) (by have:=tZ a;omega)
  exact⟨_,(k:Int)+1,_,fun b st nx σ E hb=>by unfold EI at E;rw[qO [.tmp 2] [] func29];simp only[go_sem,E,hb,S,z2,G,f0,f5,f6,w1,w2,w3];rfl,tZ _,by omega,by omega⟩
 .exact⟨_,i,_,fun b st nx σ E hb=>by unfold EI at E;rw[qO [.tmp 2] [] func29];simp only[go_sem,E,hb,S,z2,G];rfl,tZ _,hi.1,hi.2⟩
theorem abI(xs:List Int)(O:∀x∈xs,0<=x/\x<=255)(S:xs.length<=1048576)(i h:Int)(hi:0<=i/\i<=xs.length)(b st nx:Nat)(σ:Store)(G:σ b=some (EI xs i h st))(hb:b<nx) :
  ∃r E J,ev gu conv ext 29 [.rp b 0] σ nx=some (I r,upd σ b (some (EI xs E J st)),nx)/\(0<=r/\r<=255)/\0<=E/\E<=xs.length:=by
 obtain⟨r,E,J,k,Y⟩:=abH xs O S i h hi;exact⟨r,E,J,k b st nx σ G hb,Y⟩
theorem sNew(xs:List Int)(hx:∀x∈xs,0<=x/\x<=255)(hl:xs.length<=1048576)(nx:Nat)(σ:Store) :
  ∃h,ev gu conv ext 27 [LL cB xs] σ nx=some (.rp nx 0,upd σ nx (some (EI xs 0 h 0)),nx+1):=by
 have w0:=iF (n:=1975+(xs.length:Int));rw[qO [.tmp 2] [] func27];simp only[go_sem,w0];generalize hL:aA _ _=y;obtain⟨r,rfl,T',g,rfl,E,J⟩:=rP hL xs.length (fun k st=>st.nx=nx/\st.σ=σ/\st.T 0=LL cB xs/\(∃g,st.T 3=I g)/\st.T 4=I k)
  (fun r=>∃T g,r=(.exit 0,⟨T,σ,nx⟩)/\T 0=LL cB xs/\T 3=I g) (by
   clear hL;rintro k ⟨T,σ,nx⟩ O ⟨hn,G,E,⟨g,J⟩,S⟩;simp only at hn G E J S;subst hn G;have f1:(k:Int)<(xs.length:Int):=by omega
   have f2:=nP k;have f3:=iF (n:=(k:Int)+1);have f5:=kE (c:=cB) (s:=1) (fun _=>rfl) (by omega) xs k O;have f6:(xs.flatMap cB)[k]?=some (.sc (.int .u8 xs[k])):=kF (fun n:Int=> .sc (.int .u8 n)) xs k O;have a1:=hx xs[k] (zq O);have w1:=iF (n:=xs[k])
   by_cases Y:(k:Int)<4000
   .refine .inl ⟨_,by simp only[go_sem,E,J,S,f1,f2,f3,f5,f6,w1,Y];rfl,?_⟩
    simp only[go_sem,E];exact⟨⟨_,rfl⟩,rfl⟩
   .refine .inr ⟨_,by simp only[go_sem,E,S,f1,Y];rfl,by simp,_,g,rfl,?_,?_⟩<;>simp only[go_sem,E,J]) (by
   clear hL;rintro ⟨T,σ,nx⟩ ⟨hn,G,E,⟨g,J⟩,S⟩;simp only at hn G E J S;subst hn G;refine⟨_,by simp only[go_sem,E,S,zX];rfl,by simp,_,g,rfl,?_,?_⟩<;>simp only[go_sem,E,J]) (by
   simp only[go_sem];exact⟨_,rfl⟩)
 refine⟨g,?_⟩;unfold EI;simp only[go_sem,E,J]
theorem ak0(xs:List Int)(hx:∀x∈xs,0<=x/\x<=255)(hl:xs.length<=1048576)(n:Nat)(hn:n<=1000000)(nx:Nat)(σ:Store) :
  ∃i h,ev gu conv ext 28 [LL cB xs,I n] σ nx=some (.rp nx 0,upd σ nx (some (EI xs i h 0)),nx+1)/\0<=i/\i<=xs.length:=by
 obtain⟨h,k1⟩:=sNew xs hx hl nx σ;rw[qO [.tmp 4] [] func28];simp only[go_sem,sG,k1];generalize Y:aA _ _=y;obtain⟨r,rfl,T',i,h',rfl,J,hi⟩:=rP Y n (fun k st=>st.nx=nx+1/\st.T 1=I n/\st.T 5= .rp nx 0/\st.T 6=I k/\∃i h,st.σ=upd σ nx (some (EI xs i h 0))/\0<=i/\i<=xs.length)
  (fun r=>∃T i h,r=(.exit 0,⟨T,upd σ nx (some (EI xs i h 0)),nx+1⟩)/\T 5= .rp nx 0/\0<=i/\i<=xs.length) (by
   clear Y;rintro k ⟨T,σ',nx'⟩ a6 ⟨E,O,J,S,i,h,G,hi⟩;simp only at E O J S G;subst E G;have f1:(k:Int)<(n:Int):=by omega
   have f3:=iF (n:=(k:Int)+1);obtain⟨r,i',h',k2,_,a1⟩:=abI xs hx hl i h hi nx 0 (nx+1) (upd σ nx (some (EI xs i h 0))) (by simp[upd]) (by omega);rw[iV]at k2;refine .inl ⟨_,by simp only[go_sem,sG,O,J,S,f1,f3,k2];rfl,?_⟩;simp only[go_sem,O,J];exact⟨rfl,i',h',rfl,a1⟩) (by
   clear Y;rintro ⟨T,σ',nx'⟩ ⟨E,O,J,S,i,h,G,hi⟩;simp only at E O J S G;subst E G;exact⟨_,by simp only[go_sem,O,S,zX];rfl,by simp,_,i,h,rfl,by simp only[go_sem,J],hi⟩) (by
   simp only[go_sem];exact⟨0,h,rfl,by omega,by omega⟩)
 refine⟨i,h',?_,hi⟩;simp only[go_sem,J]
theorem QO(xs:List Int)(E:∀x∈xs,0<=x/\x<=255)(G:xs.length<=1048576)(n:Nat)(hn:n<=1000000) :
  ∃r,fn gu conv ext 7 [LL cB xs,I n]=some (I r)/\0<=r/\r<=65535:=by
 obtain⟨i,h,k1,hi⟩:=ak0 xs E G n hn 0 aG;obtain⟨J,S,Y,k2,a1,O⟩:=abI xs E G i h hi 0 0 1 (upd aG 0 (some (EI xs i h 0))) (by simp[upd]) (by omega);rw[iV]at k2;obtain⟨r2,i2,h2,k3,a6,a7⟩:=abI xs E G S Y O 0 0 1 (upd aG 0 (some (EI xs S Y 0))) (by simp[upd]) (by omega);rw[iV]at k3;have w1:=iF (n:=J*256);have w2:=iF (n:=J*256+r2);refine⟨J*256+r2,?_,by omega,by omega⟩;rw[qB,qO [.tmp 4] [] func7];simp only[go_sem,sG,k1,k2,k3,w1,w2]
def vl:List Int->Int
 |[]=>0
 |x :: xs=>x+1000000000*vl xs
def bp(n:Nat):Int:=1000000000^n
theorem NQ:bp 0=1:=rfl
theorem tH(n:Nat):bp (n+1)=1000000000*bp n:=by unfold bp;rw[Int.pow_succ,Int.mul_comm]
theorem tJ(n:Nat):0<bp n:=Int.pow_pos (by decide)
theorem Vd(m n:Nat):bp (m+n)=bp m*bp n:=by unfold bp;rw[Int.pow_add]
theorem Ve(n:Nat):bp n=((1000000000^n:Nat):Int):=by unfold bp;rw[Int.natCast_pow];rfl
def Dg(xs:List Int):Prop:=∀x∈xs,0<=x/\x<1000000000
theorem Dg.nil:Dg []:=fun x h=>by cases h
theorem Dg.cons{x:Int}{xs:List Int}(h:Dg (x :: xs)):(0<=x/\x<1000000000)/\Dg xs:=⟨h x zH,fun y E=>h y (zU _ E)⟩
theorem Dg.app{xs E:List Int}(h:Dg xs)(G:Dg E):Dg (xs++E):=fun x J=>(List.mem_append.mp J).elim (h x) (G x)
theorem Dg.snoc{xs:List Int}{y:Int}(h:Dg xs)(G:0<=y)(J:y<1000000000):Dg (xs++[y]):=h.app fun x E=>by
 rw[yC]at E;subst E;exact⟨G,J⟩
theorem Dg.take{xs:List Int}(h:Dg xs)(n:Nat):Dg (xs.take n):=fun x E=>h x (List.mem_of_mem_take E)
theorem Dg.drop{xs:List Int}(h:Dg xs)(n:Nat):Dg (xs.drop n):=fun x E=>h x (List.mem_of_mem_drop E)
theorem Dg.get{xs:List Int}(h:Dg xs){k:Nat}(E:k<xs.length):0<=xs[k]/\xs[k]<1000000000:=h _ (zq E)
theorem rJ(n:Nat):Dg (dg n):=fun x E=>by have:=abA n x E;omega
theorem iR(n:Nat):vl (dg n)=n:=by
 induction n using Nat.strongRecOn with
 |_ n E=>
  by_cases h:n=0
  .subst h;rw[rD];rfl
  .rw[rF h]
   show _+1000000000*vl _=_;rw[E _ (Nat.div_lt_self (by omega) (by decide))];omega
theorem Vf(xs E:List Int):vl (xs++E)=vl xs+bp xs.length*vl E:=by
 induction xs with
 |nil=>simp[vl,NQ]
 |cons x xs G=>
  rw[xY,zi,tH];show _+1000000000*vl _=(_+1000000000*vl xs)+_;rw[G,yE,wB];omega
theorem iO(xs:List Int)(y:Int):vl (xs++[y])=vl xs+bp xs.length*y:=by
 rw[Vf];simp[vl]
theorem iP{xs:List Int}(h:Dg xs):0<=vl xs:=by
 induction xs with
 |nil=>exact xg _
 |cons x xs E=>
  have:=h.cons;have:=E this.2;show 0<=x+1000000000*vl xs;omega
theorem iQ{xs:List Int}(h:Dg xs):vl xs<bp xs.length:=by
 induction xs with
 |nil=>exact tJ 0
 |cons x xs E=>
  have:=h.cons;have:=E this.2;rw[zi,tH];show x+1000000000*vl xs<_;omega
theorem WO{xs:List Int}(h:Dg xs):eH xs=dg (vl xs).toNat:=by
 induction xs with
 |nil=>show eH []=dg 0;rw[rD];rfl
 |cons x xs J=>
  have E:=h.cons;have h2:=iP E.2;have O:vl (x :: xs)=x+1000000000*vl xs:=rfl;rw[j_,J E.2,O]
  by_cases S:vl xs=0
  .rw[S,show(0:Int).toNat=0 from rfl,rD,uf rfl]
   by_cases G:x=0
   .subst G;rw[uf rfl,vT,Int.add_zero]
    show _=dg 0;rw[rD]
   .rw[ug G,vT,Int.add_zero,rG (by omega) (by omega)]
    rw[vw (by omega)]
  .rw[ug (rH (by omega)),rF (n:=(x+1000000000*vl xs).toNat) (by omega)]
   have Y:(((x+1000000000*vl xs).toNat%1000000000:Nat):Int)=x:=by omega
   have e2:(x+1000000000*vl xs).toNat / 1000000000=(vl xs).toNat:=by omega
   rw[Y,e2]
theorem uI{xs:List Int}{n:Nat}(h:Dg xs)(E:vl xs=n):eH xs=dg n:=by rw[WO h,E];rfl
theorem abJ(n:Nat):vl (List.replicate n 0)=0:=by
 induction n with
 |zero=>rfl
 |succ n E=>rw[yL];show 0+1000000000*vl _=0;rw[E];rfl
theorem iL{xs:List Int}{k:Nat}(h:k<xs.length):vl (xs.take (k+1))=vl (xs.take k)+bp k*xs[k]:=by
 rw[jJ h,iO,zY,yB (by omega)]
theorem WQ{xs:List Int}{k:Nat}(h:k<xs.length):vl (xs.drop k)=xs[k]+1000000000*vl (xs.drop (k+1)):=by
 rw[yQ h];rfl
theorem iM(xs:List Int){k:Nat}(h:k<=xs.length):vl xs=vl (xs.take k)+bp k*vl (xs.drop k):=by
 have:=Vf (xs.take k) (xs.drop k);rw[wJ,zY,yB h]at this;exact this
def ln(n:Nat):Nat:=(dg n).length
theorem G8:ln 0=0:=by unfold ln;rw[rD];rfl
theorem o_{n k:Nat}:ln n<=k↔(n:Int)<bp k:=by
 constructor
 .intro h
  have E:=iQ (rJ n);rw[iR]at E;have G:bp (dg n).length<=bp k:=by
   rw[Ve,Ve];exact Int.ofNat_le.mpr (Nat.pow_le_pow_right (by decide) h)
  omega
 .intro h
  rw[Ve]at h;exact abz k n (Int.ofNat_lt.mp h)
theorem ny{m n:Nat}(h:m<=n):ln m<=ln n:=by
 have:=(o_ (n:=n)).mp (zu _);exact o_.mpr (by omega)
theorem Fb(m n:Nat):ln (m*n)<=ln m+ln n:=by
 refine o_.mpr ?_;rw[Vd,xQ];have E:=(o_ (n:=m)).mp (zu _);have G:=(o_ (n:=n)).mp (zu _);have J:(m:Int)*n<=(bp (ln m) - 1)*n:=zf (by omega) (by omega);have O:=tJ (ln m);have S:(bp (ln m) - 1)*n<=(bp (ln m) - 1)*(bp (ln n) - 1):=zO (by omega) (by omega);have Y:(bp (ln m) - 1)*(bp (ln n) - 1)=bp (ln m)*bp (ln n) - bp (ln m) - bp (ln n)+1:=by
  rw[vK,vJ];omega
 have h7:=tJ (ln n);omega
theorem ahY(m n:Nat):ln (m+n)<=max (ln m) (ln n)+1:=by
 refine o_.mpr ?_;rw[tH];have E:=(o_ (n:=m) (k:=max (ln m) (ln n))).mp (wQ _ _);have G:=(o_ (n:=n) (k:=max (ln m) (ln n))).mp (xK _ _);omega
theorem abK{n:Nat}(h:n≠0):0<ln n:=List.length_pos_iff.mpr (rH h)
theorem ng{n:Nat}(h:n<1000000000):ln n<=1:=o_.mpr (by show(n:Int)<1000000000;omega)
def Cm(o:List Int)(k:Nat):List V:=o.flatMap cI++rep k [I 0]
theorem qK(o:List Int)(k:Nat):(Cm o k).length=o.length+k:=by unfold Cm;rw[zo,sS,lG];simp
theorem qL(o:List Int):Cm o 0=o.flatMap cI:=by simp[Cm,rep]
theorem qJ(o:List Int)(k:Nat)(x:Int){i:Nat}(h:o.length=i):(Cm o (k+1)).set i (I x)=Cm (o++[x]) k:=by
 subst h;unfold Cm;rw[yA _ _ (by rw[sS];exact zu _),sS,yh,lF,zC];simp
theorem sF{P x q n v:Int}(h:x+1000000000*q=n):v+P*x+1000000000*P*q=v+P*n:=by subst h;grind
theorem jH{n:Int}(h:0<=n):n.tmod 1000000000=n%1000000000/\n.tdiv 1000000000=n / 1000000000 :=
 ⟨xE h,xC h⟩
theorem nX{k:Nat}(h:k<=3000000):(8:Int)*(k:Int)<=281474976710656/\(k:Int)<=9223372036854775807/\(0:Int)<=(k:Int):=by omega
theorem tC{xs:List Int}{k:Nat}(h:xs.length<=k):xs.take (k+1)=xs.take k:=by rw[zk (by omega),zk h]
theorem ak1(m n:Nat)(hm:ln m<=1000000)(hn:ln n<=1000000):fn gu conv ext 209 [LI (dg m),LI (dg n)]=some (LI (dg (m+n))):=by
 unfold ln at hm hn;rw[qB,qO [.tmp 4] [] func209]
 by_cases hc:((dg m).length:Int)<((dg n).length:Int)
 .have b2:(dg m).length<=(dg n).length:=by omega
  obtain⟨e1,e2,e3⟩:=nX (k:=(dg n).length+1) (by omega);have e0:((dg n).length:Int)+1=(((dg n).length+1:Nat):Int):=by omega
  have e4:=iF (n:=(((dg n).length+1:Nat):Int)) (by omega) (by omega);simp only[go_sem,hc,e0,e1,e2,e3,e4];generalize hL:aA _ _=y;obtain⟨r,rfl,T',σ',nx',c,o,rfl,h0,h5,h6,E,G,Y,hd,hv,a1,a7⟩:=rP hL (dg n).length (fun k st=>st.T 0=LI (dg n)/\st.T 1=LI (dg m)/\st.T 5= .rs 0 0 ((dg n).length+1)/\st.T 20=LI (dg n)/\st.T 21=I (dg n).length/\st.T 22=I k/\0<st.nx/\∃c o,st.T 6=I c/\st.σ 0=some ⟨Cm o ((dg n).length+1-k),1,true⟩/\o.length=k/\Dg o/\vl o+bp k*c=vl ((dg n).take k)+vl ((dg m).take k)/\0<=c/\c<=1)
   (fun r=>∃T σ nx c o,r=(.exit 0,⟨T,σ,nx⟩)/\T 0=LI (dg n)/\T 5= .rs 0 0 ((dg n).length+1)/\T 6=I c/\0<nx/\σ 0=some ⟨Cm o 1,1,true⟩/\o.length=(dg n).length/\Dg o/\vl o+bp (dg n).length*c=(m+n:Nat)/\0<=c/\c<=1) (by
    clear hL;rintro k ⟨T,σ,nx⟩ a6 ⟨h0,h1,h5,O,J,S,E,c,o,h6,G,Y,hd,hv,a1,a7⟩;simp only at h0 h1 h5 O J S E h6 G;have f1:(k:Int)<((dg n).length:Int):=by omega
    have f2:=nP k;have f3:=iF (n:=(k:Int)+1);have f5:=iI (dg n) k a6;have f6:=idx a6;have f7:(k:Int)<(((dg n).length+1:Nat):Int):=by omega
    obtain⟨x,hx⟩:∃x,x=(dg n)[k]:=⟨_,rfl⟩;have xr:=(rJ n).get a6;rw[<- hx]at f6 xr;obtain⟨g,hg⟩:∃g,(dg n).length+1-k=g+1:=⟨(dg n).length-k,by omega⟩;have a8:(dg n).length+1 - (k+1)=g:=by omega
    rw[hg]at G;have c5:k<(Cm o (g+1)).length:=by rw[qK];omega
    have v1:=iL a6;rw[<- hx]at v1
    by_cases hB:k<(dg m).length
    .have f8:(k:Int)<((dg m).length:Int):=by omega
     have f9:=iI (dg m) k hB;have f10:=idx hB;obtain⟨z,hz⟩:∃z,z=(dg m)[k]:=⟨_,rfl⟩;have zr:=(rJ m).get hB;rw[<- hz]at f10 zr;have v2:=iL hB;rw[<- hz]at v2;have w1:=iF (n:=x+c);have w2:=iF (n:=x+c+z);obtain⟨q1,q2⟩:=jH (n:=x+c+z) (by omega);have w3:=iF (n:=(x+c+z) / 1000000000);have c6:=qJ o g ((x+c+z)%1000000000) Y;refine .inl ⟨_,by simp only[go_sem,h0,h1,h5,h6,O,J,S,E,G,f1,f2,f3,f5,f6,f7,f8,f9,f10,w1,w2,w3,q1,q2,c5,c6];rfl,?_⟩;simp only[go_sem,h0,h1,h5,O,J,a8];refine⟨rfl,E,_,_,rfl,rfl,by simp[Y],hd.snoc (by omega) (by omega),?_,by omega,by omega⟩;rw[iO,Y,tH,v1,v2,sF (n:=x+c+z) (by omega),yE,yE];omega
    .have f8:¬(k:Int)<((dg m).length:Int):=by omega
     have v2:=tC (xs:=dg m) (k:=k) (by omega);have w1:=iF (n:=x+c);obtain⟨q1,q2⟩:=jH (n:=x+c) (by omega);have w3:=iF (n:=(x+c) / 1000000000);have c6:=qJ o g ((x+c)%1000000000) Y;refine .inl ⟨_,by simp only[go_sem,h0,h1,h5,h6,O,J,S,E,G,f1,f2,f3,f5,f6,f7,f8,w1,w3,q1,q2,c5,c6];rfl,?_⟩;simp only[go_sem,h0,h1,h5,O,J,a8];refine⟨rfl,E,_,_,rfl,rfl,by simp[Y],hd.snoc (by omega) (by omega),?_,by omega,by omega⟩;rw[iO,Y,tH,v1,v2,sF (n:=x+c) (by omega),yE];omega) (by
    clear hL;rintro ⟨T,σ,nx⟩ ⟨h0,h1,h5,O,J,S,E,c,o,h6,G,Y,hd,hv,a1,a7⟩;simp only at h0 h1 h5 O J S E h6 G;refine⟨_,by simp only[go_sem,J,S,zX];rfl,by simp,_,_,_,c,o,rfl,by simp only[go_sem,h0],by simp only[go_sem,h5],by simp only[go_sem,h6],E,?_,Y,hd,?_,a1,a7⟩
    .rw[G,show(dg n).length+1 - (dg n).length=1 by omega]
    .rw[hv,yV,zk b2,iR,iR];omega) (by
    simp only[go_sem];exact⟨0,[],rfl,rfl,rfl,Dg.nil,by simp[vl],xg _,by decide⟩)
  have c5:(dg n).length<(Cm o (0+1)).length:=by rw[qK];omega
  have c6:=qJ o 0 c Y;have f2:(0:Int)<=((dg n).length:Int):=by omega
  have f7:((dg n).length:Int)<(((dg n).length+1:Nat):Int):=by omega
  have hD:Dg (o++[c]):=hd.snoc a1 (by omega);have ht:=WM (o++[c]) (by unfold Short;simp;omega);rw[uI (n:=m+n) hD (by rw[iO,Y,hv])]at ht;have hl:(o++[c]).length=(dg n).length+1:=by simp[Y]
  have b3:fn gu conv ext 208 [.ts ((o++[c]).flatMap cI) ((dg n).length+1)]=some (LI (dg (m+n))):=by rw[<- hl];exact ht
  have tk:List.take ((dg n).length+1) ((o++[c]).flatMap cI)=(o++[c]).flatMap cI:=by rw[<- hl];exact sN _
  have b4:((o++[c]).flatMap cI).length=(dg n).length+1:=by rw[sS,hl]
  have Y0:σ' 0=some ⟨Cm o (0+1),1,true⟩:=G;simp only[go_sem,h0,h5,h6,E,Y0,f2,f7,c5,c6,qL,b4,tk,b3]
 .have b2:(dg n).length<=(dg m).length:=by omega
  obtain⟨e1,e2,e3⟩:=nX (k:=(dg m).length+1) (by omega);have e0:((dg m).length:Int)+1=(((dg m).length+1:Nat):Int):=by omega
  have e4:=iF (n:=(((dg m).length+1:Nat):Int)) (by omega) (by omega);simp only[go_sem,hc,e0,e1,e2,e3,e4];generalize hL:aA _ _=y;obtain⟨r,rfl,T',σ',nx',c,o,rfl,h0,h5,h6,E,G,Y,hd,hv,a1,a7⟩:=rP hL (dg m).length (fun k st=>st.T 0=LI (dg m)/\st.T 1=LI (dg n)/\st.T 5= .rs 0 0 ((dg m).length+1)/\st.T 20=LI (dg m)/\st.T 21=I (dg m).length/\st.T 22=I k/\0<st.nx/\∃c o,st.T 6=I c/\st.σ 0=some ⟨Cm o ((dg m).length+1-k),1,true⟩/\o.length=k/\Dg o/\vl o+bp k*c=vl ((dg m).take k)+vl ((dg n).take k)/\0<=c/\c<=1)
   (fun r=>∃T σ nx c o,r=(.exit 0,⟨T,σ,nx⟩)/\T 0=LI (dg m)/\T 5= .rs 0 0 ((dg m).length+1)/\T 6=I c/\0<nx/\σ 0=some ⟨Cm o 1,1,true⟩/\o.length=(dg m).length/\Dg o/\vl o+bp (dg m).length*c=(m+n:Nat)/\0<=c/\c<=1) (by
    clear hL;rintro k ⟨T,σ,nx⟩ a6 ⟨h0,h1,h5,O,J,S,E,c,o,h6,G,Y,hd,hv,a1,a7⟩;simp only at h0 h1 h5 O J S E h6 G;have f1:(k:Int)<((dg m).length:Int):=by omega
    have f2:=nP k;have f3:=iF (n:=(k:Int)+1);have f5:=iI (dg m) k a6;have f6:=idx a6;have f7:(k:Int)<(((dg m).length+1:Nat):Int):=by omega
    obtain⟨x,hx⟩:∃x,x=(dg m)[k]:=⟨_,rfl⟩;have xr:=(rJ m).get a6;rw[<- hx]at f6 xr;obtain⟨g,hg⟩:∃g,(dg m).length+1-k=g+1:=⟨(dg m).length-k,by omega⟩;have a8:(dg m).length+1 - (k+1)=g:=by omega
    rw[hg]at G;have c5:k<(Cm o (g+1)).length:=by rw[qK];omega
    have v1:=iL a6;rw[<- hx]at v1
    by_cases hB:k<(dg n).length
    .have f8:(k:Int)<((dg n).length:Int):=by omega
     have f9:=iI (dg n) k hB;have f10:=idx hB;obtain⟨z,hz⟩:∃z,z=(dg n)[k]:=⟨_,rfl⟩;have zr:=(rJ n).get hB;rw[<- hz]at f10 zr;have v2:=iL hB;rw[<- hz]at v2;have w1:=iF (n:=x+c);have w2:=iF (n:=x+c+z);obtain⟨q1,q2⟩:=jH (n:=x+c+z) (by omega);have w3:=iF (n:=(x+c+z) / 1000000000);have c6:=qJ o g ((x+c+z)%1000000000) Y;refine .inl ⟨_,by simp only[go_sem,h0,h1,h5,h6,O,J,S,E,G,f1,f2,f3,f5,f6,f7,f8,f9,f10,w1,w2,w3,q1,q2,c5,c6];rfl,?_⟩;simp only[go_sem,h0,h1,h5,O,J,a8];refine⟨rfl,E,_,_,rfl,rfl,by simp[Y],hd.snoc (by omega) (by omega),?_,by omega,by omega⟩;rw[iO,Y,tH,v1,v2,sF (n:=x+c+z) (by omega),yE,yE];omega
    .have f8:¬(k:Int)<((dg n).length:Int):=by omega
     have v2:=tC (xs:=dg n) (k:=k) (by omega);have w1:=iF (n:=x+c);obtain⟨q1,q2⟩:=jH (n:=x+c) (by omega);have w3:=iF (n:=(x+c) / 1000000000);have c6:=qJ o g ((x+c)%1000000000) Y;refine .inl ⟨_,by simp only[go_sem,h0,h1,h5,h6,O,J,S,E,G,f1,f2,f3,f5,f6,f7,f8,w1,w3,q1,q2,c5,c6];rfl,?_⟩;simp only[go_sem,h0,h1,h5,O,J,a8];refine⟨rfl,E,_,_,rfl,rfl,by simp[Y],hd.snoc (by omega) (by omega),?_,by omega,by omega⟩;rw[iO,Y,tH,v1,v2,sF (n:=x+c) (by omega),yE];omega) (by
    clear hL;rintro ⟨T,σ,nx⟩ ⟨h0,h1,h5,O,J,S,E,c,o,h6,G,Y,hd,hv,a1,a7⟩;simp only at h0 h1 h5 O J S E h6 G;refine⟨_,by simp only[go_sem,J,S,zX];rfl,by simp,_,_,_,c,o,rfl,by simp only[go_sem,h0],by simp only[go_sem,h5],by simp only[go_sem,h6],E,?_,Y,hd,?_,a1,a7⟩
    .rw[G,show(dg m).length+1 - (dg m).length=1 by omega]
    .rw[hv,yV,zk b2,iR,iR];omega) (by
    simp only[go_sem];exact⟨0,[],rfl,rfl,rfl,Dg.nil,by simp[vl],xg _,by decide⟩)
  have c5:(dg m).length<(Cm o (0+1)).length:=by rw[qK];omega
  have c6:=qJ o 0 c Y;have f2:(0:Int)<=((dg m).length:Int):=by omega
  have f7:((dg m).length:Int)<(((dg m).length+1:Nat):Int):=by omega
  have hD:Dg (o++[c]):=hd.snoc a1 (by omega);have ht:=WM (o++[c]) (by unfold Short;simp;omega);rw[uI (n:=m+n) hD (by rw[iO,Y,hv])]at ht;have hl:(o++[c]).length=(dg m).length+1:=by simp[Y]
  have b3:fn gu conv ext 208 [.ts ((o++[c]).flatMap cI) ((dg m).length+1)]=some (LI (dg (m+n))):=by rw[<- hl];exact ht
  have tk:List.take ((dg m).length+1) ((o++[c]).flatMap cI)=(o++[c]).flatMap cI:=by rw[<- hl];exact sN _
  have b4:((o++[c]).flatMap cI).length=(dg m).length+1:=by rw[sS,hl]
  have Y0:σ' 0=some ⟨Cm o (0+1),1,true⟩:=G;simp only[go_sem,h0,h5,h6,E,Y0,f2,f7,c5,c6,qL,b4,tk,b3]
theorem tK{P x q n v:Int}(h:x=n+1000000000*q):v+P*x-1000000000*P*q=v+P*n:=by subst h;grind
theorem NR(m n:Nat)(hm:ln m<=1000000)(hle:n<=m):fn gu conv ext 210 [LI (dg m),LI (dg n)]=some (LI (dg (m-n))):=by
 have a7:(dg n).length<=(dg m).length:=ny hle;unfold ln at hm;rw[qB,qO [.tmp 4] [] func210];obtain⟨e1,e2,e3⟩:=nX (k:=(dg m).length) (by omega);simp only[go_sem,e1,e2,e3];generalize hL:aA _ _=y;obtain⟨r,rfl,T',σ',nx',o,rfl,h5,E,G,S,hd,hv⟩:=rP hL (dg m).length (fun k st=>st.T 0=LI (dg m)/\st.T 1=LI (dg n)/\st.T 5= .rs 0 0 (dg m).length/\st.T 12=LI (dg m)/\st.T 13=I (dg m).length/\st.T 14=I k/\0<st.nx/\∃c o,st.T 6=I c/\st.σ 0=some ⟨Cm o ((dg m).length-k),1,true⟩/\o.length=k/\Dg o/\vl o-bp k*c=vl ((dg m).take k) - vl ((dg n).take k)/\0<=c/\c<=1)
  (fun r=>∃T σ nx o,r=(.exit 0,⟨T,σ,nx⟩)/\T 5= .rs 0 0 (dg m).length/\0<nx/\σ 0=some ⟨o.flatMap cI,1,true⟩/\o.length=(dg m).length/\Dg o/\vl o=(m-n:Nat)) (by
   clear hL;rintro k ⟨T,σ,nx⟩ a1 ⟨h0,h1,h5,O,J,Gl,E,c,o,h6,G,S,hd,hv,a8,b2⟩;simp only at h0 h1 h5 O J Gl E h6 G;have f1:(k:Int)<((dg m).length:Int):=by omega
   have f2:=nP k;have f3:=iF (n:=(k:Int)+1);have f5:=iI (dg m) k a1;have f6:=idx a1;obtain⟨x,hx⟩:∃x,x=(dg m)[k]:=⟨_,rfl⟩;have xr:=(rJ m).get a1;rw[<- hx]at f6 xr;obtain⟨g,hg⟩:∃g,(dg m).length-k=g+1:=⟨(dg m).length-k-1,by omega⟩;have a6:(dg m).length - (k+1)=g:=by omega
   rw[hg]at G;have c5:k<(Cm o (g+1)).length:=by rw[qK];omega
   have v1:=iL a1;rw[<- hx]at v1;have nf:¬(0:Int)<0:=by decide
   have w1:=iF (n:=x-c)
   by_cases hB:k<(dg n).length
   .have f8:(k:Int)<((dg n).length:Int):=by omega
    have f9:=iI (dg n) k hB;have f10:=idx hB;obtain⟨z,hz⟩:∃z,z=(dg n)[k]:=⟨_,rfl⟩;have zr:=(rJ n).get hB;rw[<- hz]at f10 zr;have v2:=iL hB;rw[<- hz]at v2;have w2:=iF (n:=x-c-z)
    by_cases Y:x-c-z<0
    .have w3:=iF (n:=x-c-z+1000000000)
     have c6:=qJ o g (x-c-z+1000000000) S;refine .inl ⟨_,by simp only[go_sem,h0,h1,h5,h6,O,J,Gl,E,G,f1,f2,f3,f5,f6,f8,f9,f10,w1,w2,w3,Y,c5,c6];rfl,?_⟩;simp only[go_sem,h0,h1,h5,O,J,a6];refine⟨rfl,E,_,_,rfl,rfl,by simp[S],hd.snoc (by omega) (by omega),?_,by omega,by omega⟩;rw[iO,S,tH,v1,v2,tK (n:=x-c-z) (by omega),vJ,vJ];omega
    .have c6:=qJ o g (x-c-z) S
     refine .inl ⟨_,by simp only[go_sem,h0,h1,h5,h6,O,J,Gl,E,G,f1,f2,f3,f5,f6,f8,f9,f10,w1,w2,Y,c5,c6];rfl,?_⟩;simp only[go_sem,h0,h1,h5,O,J,a6];refine⟨rfl,E,_,_,rfl,rfl,by simp[S],hd.snoc (by omega) (by omega),?_,by omega,by omega⟩;rw[iO,S,tH,v1,v2,tK (n:=x-c-z) (by omega),vJ,vJ];omega
   .have f8:¬(k:Int)<((dg n).length:Int):=by omega
    have v2:=tC (xs:=dg n) (k:=k) (by omega)
    by_cases Y:x-c<0
    .have w3:=iF (n:=x-c+1000000000)
     have c6:=qJ o g (x-c+1000000000) S;refine .inl ⟨_,by simp only[go_sem,h0,h1,h5,h6,O,J,Gl,E,G,f1,f2,f3,f5,f6,f8,w1,w3,Y,c5,c6];rfl,?_⟩;simp only[go_sem,h0,h1,h5,O,J,a6];refine⟨rfl,E,_,_,rfl,rfl,by simp[S],hd.snoc (by omega) (by omega),?_,by omega,by omega⟩;rw[iO,S,tH,v1,v2,tK (n:=x-c) (by omega),vJ];omega
    .have c6:=qJ o g (x-c) S
     refine .inl ⟨_,by simp only[go_sem,h0,h1,h5,h6,O,J,Gl,E,G,f1,f2,f3,f5,f6,f8,w1,Y,c5,c6];rfl,?_⟩;simp only[go_sem,h0,h1,h5,O,J,a6];refine⟨rfl,E,_,_,rfl,rfl,by simp[S],hd.snoc (by omega) (by omega),?_,by omega,by omega⟩;rw[iO,S,tH,v1,v2,tK (n:=x-c) (by omega),vJ];omega) (by
   clear hL;rintro ⟨T,σ,nx⟩ ⟨h0,h1,h5,O,J,Gl,E,c,o,h6,G,S,hd,hv,a8,b2⟩;simp only at h0 h1 h5 O J Gl E h6 G;rw[yh,qL]at G;refine⟨_,by simp only[go_sem,J,Gl,zX];rfl,by simp,_,_,_,o,rfl,by simp only[go_sem,h5],E,G,S,hd,?_⟩;rw[yV,zk a7,iR,iR,<- S]at hv;have h7:=iQ hd;have h8:=iP hd;have h9:=tJ o.length;have hc:c=0:=zh fun b5=>by
    have:c=1:=by omega
    subst this;rw[Int.mul_one]at hv;omega
   subst hc;rw[vT]at hv;omega) (by
   simp only[go_sem];exact⟨0,[],rfl,rfl,rfl,Dg.nil,by simp[vl],xg _,by decide⟩)
 have ht:=WM o (by unfold Short;omega);rw[uI hd hv]at ht;have b3:fn gu conv ext 208 [.ts (o.flatMap cI) (dg m).length]=some (LI (dg (m-n))):=by rw[<- S];exact ht
 have tk:List.take (dg m).length (o.flatMap cI)=o.flatMap cI:=by rw[<- S];exact sN _
 have b4:(o.flatMap cI).length=(dg m).length:=by rw[sS,S]
 simp only[go_sem,h5,E,G,b4,tk,b3]
theorem abL{xs:List Int}{k:Nat}(h:k<xs.length)(y:Int):vl (xs.set k y)=vl xs+bp k*(y-xs[k]):=by
 induction xs generalizing k with
 |nil=>cases h
 |cons x xs E=>
  cases k with
  |zero=>
   rw[vV,NQ];show y+1000000000*vl xs=x+1000000000*vl xs+1*(y-x);omega
  |succ k=>
   have G:k<xs.length:=by simpa using h
   rw[List.set_cons_succ,tH];show x+1000000000*vl (xs.set k y)=x+1000000000*vl xs+1000000000*bp k*(y-xs[k]);rw[E G,yE,wB];omega
theorem Dg.set{xs:List Int}(h:Dg xs)(k:Nat){y:Int}(G:0<=y)(J:y<1000000000):Dg (xs.set k y):=fun x O=>by
 rcases vO O with E|E
 .exact h x E
 .rw[E];exact⟨G,J⟩
theorem sQ(xs:List Int)(k:Nat)(y:Int):(xs.flatMap cI).set k (I y)=(xs.set k y).flatMap cI:=by
 induction xs generalizing k with
 |nil=>rfl
 |cons x xs E=>
  cases k with
  |zero=>rfl
  |succ k=>
   show I x :: (xs.flatMap cI).set k (I y)=I x :: (xs.set k y).flatMap cI;rw[E]
theorem IQ{o:List Int}{k:Nat}(r:Nat)(y:Int)(h:k<o.length):(Cm o r).set k (I y)=Cm (o.set k y) r:=by
 unfold Cm;rw[List.set_append_left _ _ (by rw[sS];exact h),sQ]
theorem WR{o:List Int}{k:Nat}(r:Nat)(h:k<o.length):(Cm o r)[k]?=some (I o[k]):=by
 unfold Cm;rw[zZ (by rw[sS];exact h),idx h]
theorem WS{x y c w:Int}(G:0<=x/\x<1000000000)(E:0<=y/\y<1000000000)(hc:0<=c/\c<1000000000)(hw:0<=w/\w<1000000000):0<=x*y/\x*y<=999999998000000001/\(w+x*y+c) / 1000000000<1000000000:=by
 have J:=wU G.1 E.1;have O:x*y<=999999999*999999999:=Int.mul_le_mul (by omega) (by omega) E.1 (by omega);omega
theorem Ll{W G E w x b c y q v0 t:Int}(J:y+1000000000*q=w+x*b+c)(O:W+E*c=v0+G*(x*t))(hb:E*(x*b)=G*(x*(E*b))\/True) :
  W+E*(y-w)+1000000000*E*q=v0+G*(x*t)+E*(x*b):=by
 have:1000000000*E*q=E*(1000000000*q):=by grind
 rw[this];have e:E*(y-w)+E*(1000000000*q)=E*(x*b+c):=by rw[<- yE];congr 1;omega
 rw[yE]at e;omega
theorem G9(m n:Nat)(hm:ln m<=1000000)(hn:ln n<=1000000):fn gu conv ext 179 [LI (dg m),LI (dg n)]=some (LI (dg (m*n))):=by
 unfold ln at hm hn;rw[qB,qO [.tmp 4] [] func179]
 by_cases zm:m=0
 .subst zm
  rw[vC,rD]
  (simp only[go_sem])<;>rfl
 have cm:((((dg m).length:Nat):Int)==0)=false:=by rw[uZ];have:=uD (rH zm);omega
 by_cases zn:n=0
 .subst zn
  rw[Nat.mul_zero,rD]
  (simp only[go_sem,cm])<;>rfl
 have cn:((((dg n).length:Nat):Int)==0)=false:=by rw[uZ];have:=uD (rH zn);omega
 have pn:0<(dg n).length:=List.length_pos_iff.mpr (rH zn);obtain⟨e1,e2,e3⟩:=nX (k:=(dg m).length+(dg n).length) (by omega);have e0:((dg m).length:Int)+((dg n).length:Int)=(((dg m).length+(dg n).length:Nat):Int):=by omega
 have e4:=iF (n:=(((dg m).length+(dg n).length:Nat):Int)) (by omega) (by omega);simp only[go_sem,cm,cn,e0,e1,e2,e3,e4];generalize hL:aA _ _=y;obtain⟨r,rfl,T',σ',nx',P,rfl,S,E,G,hP,hd,hv⟩:=rP hL (dg m).length (fun k st=>st.T 1=LI (dg n)/\st.T 5= .rs 0 0 ((dg m).length+(dg n).length)/\st.T 26=LI (dg m)/\st.T 27=I (dg m).length/\st.T 28=I k/\0<st.nx/\∃P,st.σ 0=some ⟨Cm P ((dg m).length-k),1,true⟩/\P.length=k+(dg n).length/\Dg P/\vl P=vl ((dg m).take k)*n)
  (fun r=>∃T σ nx P,r=(.exit 0,⟨T,σ,nx⟩)/\T 5= .rs 0 0 ((dg m).length+(dg n).length)/\0<nx/\σ 0=some ⟨P.flatMap cI,1,true⟩/\P.length=(dg m).length+(dg n).length/\Dg P/\vl P=(m*n:Nat)) (by
   clear hL;rintro k ⟨T,σ,nx⟩ b2 ⟨Y,S,Dk,J,O,E,P,G,hP,hd,hv⟩;simp only at Y S Dk J O E G;have f1:(k:Int)<((dg m).length:Int):=by omega
   have f2:=nP k;have f3:=iF (n:=(k:Int)+1);have f5:=iI (dg m) k b2;have f6:=idx b2;obtain⟨x,hx⟩:∃x,x=(dg m)[k]:=⟨_,rfl⟩;have xr:=(rJ m).get b2;rw[<- hx]at f6 xr;have v1:=iL b2;rw[<- hx]at v1;obtain⟨g,hg⟩:∃g,(dg m).length-k=g+1:=⟨(dg m).length-k-1,by omega⟩;have b3:(dg m).length - (k+1)=g:=by omega
   rw[hg]at G;refine ji ?_
   conv=>
    enter [1,r,1,1]
    simp only[go_sem,Y,S,Dk,J,O,E,f1,f2,f5,f6]
   generalize hL:aA _ _=z;obtain⟨r,rfl,T',σ',nx',c,W,rfl,Y,S,h6,h8,Dk,J,O,E,G,hW,hd,hv,a1,a6⟩:=rP hL (dg n).length (fun j st=>st.T 1=LI (dg n)/\st.T 5= .rs 0 0 ((dg m).length+(dg n).length)/\st.T 6=I k/\st.T 7=I x/\st.T 26=LI (dg m)/\st.T 27=I (dg m).length/\st.T 28=I k/\st.T 33=LI (dg n)/\st.T 34=I (dg n).length/\st.T 35=I j/\0<st.nx/\∃c W,st.T 8=I c/\st.σ 0=some ⟨Cm W (g+1),1,true⟩/\W.length=k+(dg n).length/\Dg W/\vl W+bp (k+j)*c=vl ((dg m).take k)*n+bp k*(x*vl ((dg n).take j))/\0<=c/\c<1000000000)
    (fun r=>∃T σ nx c W,r=(.exit 2,⟨T,σ,nx⟩)/\T 1=LI (dg n)/\T 5= .rs 0 0 ((dg m).length+(dg n).length)/\T 6=I k/\T 8=I c/\T 26=LI (dg m)/\T 27=I (dg m).length/\T 28=I k/\0<nx/\σ 0=some ⟨Cm W (g+1),1,true⟩/\W.length=k+(dg n).length/\Dg W/\vl W+bp (k+(dg n).length)*c=vl ((dg m).take k)*n+bp k*(x*n)/\0<=c/\c<1000000000) (by
     clear hL;rintro j ⟨T,σ,nx⟩ hj ⟨Y,S,h6,h7,Dk,J,O,a7,Y1,a8,E,c,W,h8,G,hW,hd,hv,a1,a6⟩;simp only at Y S h6 h7 h8 Dk J O a7 Y1 a8 E G;have g1:(j:Int)<((dg n).length:Int):=by omega
     have g2:=nP j;have g3:=iF (n:=(j:Int)+1);have g5:=iI (dg n) j hj;have g6:=idx hj;obtain⟨b,hb⟩:∃b,b=(dg n)[j]:=⟨_,rfl⟩;have br:=(rJ n).get hj;rw[<- hb]at g6 br;have v2:=iL hj;rw[<- hb]at v2;have p0:(k:Int)+(j:Int)=((k+j:Nat):Int):=by omega
     have p1:=iF (n:=((k+j:Nat):Int));have p2:(0:Int)<=((k+j:Nat):Int):=by omega
     have p3:((k+j:Nat):Int)<(((dg m).length+(dg n).length:Nat):Int):=by omega
     have p4:k+j<W.length:=by omega
     have p5:=WR (o:=W) (g+1) p4;have p6:k+j<(Cm W (g+1)).length:=by rw[qK];omega
     obtain⟨w,hw⟩:∃w,w=W[k+j]:=⟨_,rfl⟩;have wr:=hd.get p4;rw[<- hw]at p5 wr;have mm:=WS (x:=x) (y:=b) (c:=c) (w:=w) xr br ⟨a1,a6⟩ wr;have w1:=iF (n:=x*b);have w2:=iF (n:=w+x*b);have w3:=iF (n:=w+x*b+c);obtain⟨q1,q2⟩:=jH (n:=w+x*b+c) (by omega);have w4:=iF (n:=(w+x*b+c) / 1000000000);have c6:=IQ (g+1) ((w+x*b+c)%1000000000) p4;have vs:=abL p4 ((w+x*b+c)%1000000000);rw[<- hw]at vs;refine .inl ⟨_,by simp only[go_sem,Y,S,h6,h7,h8,Dk,J,O,a7,Y1,a8,E,G,g1,g2,g3,g5,g6,p0,p1,p2,p3,p5,p6,w1,w2,w3,w4,q1,q2,c6];rfl,?_⟩;simp only[go_sem,Y,S,h6,h7,Dk,J,O,a7,Y1];refine⟨rfl,E,_,_,rfl,rfl,by rw[yO];exact hW,hd.set _ (by omega) (by omega),?_,by omega,by omega⟩;rw[vs,show k+(j+1)=k+j+1 by omega,tH,Ll (c:=c) (x:=x) (b:=b) (by omega) hv (.inr trivial),v2,Vd];grind) (by
     clear hL;rintro ⟨T,σ,nx⟩ ⟨Y,S,h6,h7,Dk,J,O,a7,Y1,a8,E,c,W,h8,G,hW,hd,hv,a1,a6⟩;simp only at Y S h6 h7 h8 Dk J O a7 Y1 a8 E G;rw[yV,iR]at hv;refine⟨_,by simp only[go_sem,Y1,a8,zX];rfl,by simp,_,_,_,c,W,rfl,?_⟩;simp only[go_sem,Y,S,h6,h8,Dk,J,O];exact⟨E,G,hW,hd,hv,a1,a6⟩) (by
     simp only[go_sem,Y,S,Dk,J,O];exact⟨E,0,P,rfl,G,hP,hd,by rw[vT,hv];simp[vl],xg _,by decide⟩)
   have p0:(k:Int)+((dg n).length:Int)=((k+(dg n).length:Nat):Int):=by omega
   have p1:=iF (n:=((k+(dg n).length:Nat):Int)) (by omega) (by omega);have p2:(0:Int)<=((k+(dg n).length:Nat):Int):=by omega
   have p3:((k+(dg n).length:Nat):Int)<(((dg m).length+(dg n).length:Nat):Int):=by omega
   have p6:k+(dg n).length<(Cm W (g+1)).length:=by rw[qK];omega
   have c6:=qJ W g c hW;refine⟨_,by simp only[go_sem,Y,S,h6,h8,Dk,J,O,E,G,f3,p0,p1,p2,p3,p6,c6];rfl,.inl ⟨_,rfl,?_⟩⟩;simp only[go_sem,Y,S,Dk,J,b3];refine⟨rfl,E,_,rfl,by simp[hW];omega,hd.snoc a1 a6,?_⟩;rw[iO,hW,hv,v1];grind) (by
   clear hL;rintro ⟨T,σ,nx⟩ ⟨Y,S,Dk,J,O,E,P,G,hP,hd,hv⟩;simp only at Y S Dk J O E G;rw[yh,qL]at G;refine⟨_,by simp only[go_sem,J,O,zX];rfl,by simp,_,_,_,P,rfl,by simp only[go_sem,S],E,G,hP,hd,?_⟩;rw[hv,yV,iR,xQ]) (by
   simp only[go_sem];refine⟨List.replicate (dg n).length 0,?_,by simp,fun x hx=>by rw[List.mem_replicate]at hx;omega,(abJ _).trans (by simp[vl])⟩;congr 2;unfold Cm;rw[show List.flatMap cI (List.replicate (dg n).length 0)=rep (dg n).length [I 0] by unfold rep;rw[List.flatMap_replicate]];unfold rep;rw[<- List.flatten_append,wG,vU])
 have ht:=WM P (by unfold Short;omega);rw[uI hd hv]at ht;have b4:fn gu conv ext 208 [.ts (P.flatMap cI) ((dg m).length+(dg n).length)]=some (LI (dg (m*n))):=by rw[<- hP];exact ht
 have tk:List.take ((dg m).length+(dg n).length) (P.flatMap cI)=P.flatMap cI:=by rw[<- hP];exact sN _
 have b5:(P.flatMap cI).length=(dg m).length+(dg n).length:=by rw[sS,hP]
 simp only[go_sem,S,E,G,b5,tk,b4]
def cZ(z:Int):List V:=[Bo (decide (z<0)),LI (dg z.natAbs)]
def gQ(b:Bool)(n:Nat):Int:=if b=true then -(n:Int)else n
theorem abO(b:Bool)(n:Nat):cZ (gQ b n)=[Bo (b && decide (0<(dg n).length)),LI (dg n)]:=by
 unfold cZ gQ;cases b with
 |false=>simp
 |true=>
  have E:((-(n:Int)).natAbs)=n:=by simp
  have G:decide (-(n:Int)<0)=decide (0<(dg n).length):=by
   rw[decide_eq_decide]
   by_cases h:n=0
   .subst h;rw[rD];simp
   .have:=List.length_pos_iff.mpr (rH h);omega
  simp only[if_true,xM,E,G]
theorem WT(z:Int):gQ (decide (z<0)) z.natAbs=z:=by
 unfold gQ
 by_cases h:z<0
 .rw[uY h,uf rfl];omega
 .rw[uX h,ug (by decide)];omega
theorem oN(b:Bool)(n:Nat):fn gu conv ext 177 [Bo b,LI (dg n)]=some (.agg (cZ (gQ b n))):=by
 rw[WL,abO]
theorem oU(z:Int)(h0:-9223372036854775808<=z)(h1:z<=9223372036854775807):fn gu conv ext 154 [I z]=some (.agg (cZ z)):=by
 rw[qB,qO [.cell 2 171] [] func154]
 by_cases S:z<0
 .have w1:=iF (n:=z+1)
  have w2:IntKind.i64.wrap (0 - (z+1))= -(z+1):=by rw[iF];omega
  have J:=iE (n:=-(z+1)) (by omega) (by omega);have Y:=iE (n:=-(z+1)+1) (by omega) (by omega);have e:-(z+1)+1=((z.natAbs:Nat):Int):=by omega
  rw[e]at Y;have G:=NP z.natAbs (by omega);have E:=oN true z.natAbs;have O:gQ true z.natAbs=z:=by unfold gQ;rw[uf rfl];omega
  rw[O]at E;unfold cZ at *;simp only[go_sem,S,w1,w2,J,e,Y,G,E]
 .have J:=iE (n:=z) (by omega) (by omega)
  have e:z=((z.natAbs:Nat):Int):=by omega
  have G:=NP z.natAbs (by omega);rw[<- e]at G;have E:=oN false z.natAbs;have O:gQ false z.natAbs=z:=by unfold gQ;rw[ug (by decide)];omega
  rw[O]at E;unfold cZ at *;simp only[go_sem,S,J,G,E]
theorem oP(z:Int):fn gu conv ext 181 [.agg (cZ z)]=some (.agg (cZ (-z))):=by
 have E:=oN (!decide (z<0)) z.natAbs;have e:cZ (gQ (!decide (z<0)) z.natAbs)=cZ (-z):=by
  unfold gQ
  by_cases h:z<0
  .rw[uY h,Bool.not_true,ug (by decide)];congr 1;omega
  .rw[uX h,vH,uf rfl];congr 1;omega
 rw[e]at E;unfold cZ at *;rw[qB,qO [.cell 2 171] [] func181];simp only[go_sem,E]
theorem DY{m n:Nat}:jI m n<0↔m<n:=by
 unfold jI
 by_cases h:m<n
 .rw[uf h];simp[h]
 .rw[ug h];split<;>simp[h]
theorem abP(x y:Int)(O:ln x.natAbs<=1000000)(S:ln y.natAbs<=1000000):fn gu conv ext 178 [.agg (cZ x),.agg (cZ y)]=some (.agg (cZ (x+y))):=by
 have J:=oV x.natAbs y.natAbs O S;have k2:=ak1 x.natAbs y.natAbs O S;have sg:∀b m,gQ b m=x+y->fn gu conv ext 177 [Bo b,LI (dg m)]=some (.agg (cZ (x+y))):=fun b m h=>by rw[<- h];exact oN b m
 rw[qB,qO [.cell 4 171] [4,6,2] func178]
 by_cases Y:x<0<;>by_cases h2:y<0
 .have E:=sg true (x.natAbs+y.natAbs) (by unfold gQ;rw[uf rfl];omega)
  unfold cZ at *;rw[uY Y,uY h2];simp only[go_sem,J,k2,E]
 .unfold cZ at *
  rw[uY Y,uX h2]
  by_cases hc:x.natAbs<y.natAbs
  .have c1:¬0<=jI x.natAbs y.natAbs:=by have:=DY.mpr hc;omega
   have G:=NR y.natAbs x.natAbs S (by omega);have E:=sg false (y.natAbs-x.natAbs) (by unfold gQ;rw[ug (by decide)];omega);simp only[go_sem,J,E,G,c1]
  .have c1:0<=jI x.natAbs y.natAbs:=by have:=mt DY.mp hc;omega
   have G:=NR x.natAbs y.natAbs O (by omega);have E:=sg true (x.natAbs-y.natAbs) (by unfold gQ;rw[uf rfl];omega);simp only[go_sem,J,E,G,c1]
 .unfold cZ at *
  rw[uX Y,uY h2]
  by_cases hc:x.natAbs<y.natAbs
  .have c1:¬0<=jI x.natAbs y.natAbs:=by have:=DY.mpr hc;omega
   have G:=NR y.natAbs x.natAbs S (by omega);have E:=sg true (y.natAbs-x.natAbs) (by unfold gQ;rw[uf rfl];omega);simp only[go_sem,J,E,G,c1]
  .have c1:0<=jI x.natAbs y.natAbs:=by have:=mt DY.mp hc;omega
   have G:=NR x.natAbs y.natAbs O (by omega);have E:=sg false (x.natAbs-y.natAbs) (by unfold gQ;rw[ug (by decide)];omega);simp only[go_sem,J,E,G,c1]
 .have E:=sg false (x.natAbs+y.natAbs) (by unfold gQ;rw[ug (by decide)];omega)
  unfold cZ at *;rw[uX Y,uX h2];simp only[go_sem,J,k2,E]
theorem WU(x y:Int)(G:ln x.natAbs<=1000000)(O:ln y.natAbs<=1000000):fn gu conv ext 203 [.agg (cZ x),.agg (cZ y)]=some (.agg (cZ (x-y))):=by
 have J:=oP y;have E:=abP x (-y) G (by rwa [vg]);rw[<- Int.sub_eq_add_neg]at E;unfold cZ at *;rw[qB,qO [.cell 4 171] [1] func203];simp only[go_sem,J,E]
theorem oZ(x y:Int)(S:ln x.natAbs<=1000000)(Y:ln y.natAbs<=1000000):fn gu conv ext 180 [.agg (cZ x),.agg (cZ y)]=some (.agg (cZ (x*y))):=by
 have O:=G9 x.natAbs y.natAbs S Y;have sg:∀b,gQ b (x.natAbs*y.natAbs)=x*y->fn gu conv ext 177 [Bo b,LI (dg (x.natAbs*y.natAbs))]=some (.agg (cZ (x*y))):=fun b h=>by rw[<- h];exact oN b _
 have e:∀z:Int,(z.natAbs:Int)=if z<0 then -z else z:=fun z=>by split<;>omega
 rw[qB,qO [.cell 4 171] [1] func180]
 by_cases E:x<0<;>by_cases G:y<0
 .have J:=sg false (by unfold gQ;rw[ug (by decide),xQ,e,e,uf E,uf G,Int.neg_mul_neg])
  unfold cZ at *;rw[uY E,uY G];simp only[go_sem,O,J]
 .have J:=sg true (by unfold gQ;rw[uf rfl,xQ,e,e,uf E,ug G,Int.neg_mul,Int.neg_neg])
  unfold cZ at *;rw[uY E,uX G];simp only[go_sem,O,J]
 .have J:=sg true (by unfold gQ;rw[uf rfl,xQ,e,e,ug E,uf G,Int.mul_neg,Int.neg_neg])
  unfold cZ at *;rw[uX E,uY G];simp only[go_sem,O,J]
 .have J:=sg false (by unfold gQ;rw[ug (by decide),xQ,e,e,ug E,ug G])
  unfold cZ at *;rw[uX E,uX G];simp only[go_sem,O,J]
def dS(x y:Int):Int:=if x<y then -1 else if x=y then 0 else 1
theorem ae2{m n:Nat}:jI m n=dS m n:=by unfold jI dS;split<;>split<;>first|rfl|(split<;>first|rfl|omega)|omega
theorem Lm(x y:Int)(J:ln x.natAbs<=1000000)(O:ln y.natAbs<=1000000):fn gu conv ext 156 [.agg (cZ x),.agg (cZ y)]=some (I (dS x y)):=by
 have S:=oV x.natAbs y.natAbs J O;have Y:=oV y.natAbs x.natAbs O J;rw[ae2]at S Y;unfold cZ;rw[qB,qO [.tmp 4] [] func156]
 by_cases E:x<0<;>by_cases G:y<0
 .have e:dS ((y.natAbs:Nat):Int) ((x.natAbs:Nat):Int)=dS x y:=by unfold dS;(repeat' split)<;>first|rfl|omega
  rw[uY E,uY G];simp only[go_sem,Y,e]
 .have e:dS x y= -1:=by unfold dS;rw[uf (by omega)]
  rw[uY E,uX G,e];simp only[go_sem]
 .have e:dS x y=1:=by unfold dS;rw[ug (by omega),ug (by omega)]
  rw[uX E,uY G,e];simp only[go_sem]
 .have e:dS ((x.natAbs:Nat):Int) ((y.natAbs:Nat):Int)=dS x y:=by unfold dS;(repeat' split)<;>first|rfl|omega
  rw[uX E,uX G];simp only[go_sem,S,e]
theorem oO(x:Int):fn gu conv ext 169 [.agg (cZ x)]=some (I (dS x 0)):=by
 unfold cZ;rw[qB,qO [.tmp 2] [] func169]
 by_cases G:x=0
 .subst G
  have e:dS 0 0=0:=by decide
  rw[e,Int.natAbs_zero,rD]
  (simp only[go_sem])<;>rfl
 .have c1:(((dg x.natAbs).length:Int)==0)=false:=by rw[uZ];have:=uD (rH (n:=x.natAbs) (by omega));omega
  by_cases E:x<0
  .have e:dS x 0= -1:=by unfold dS;rw[uf E]
   rw[uY E,e];simp only[go_sem,c1]
  .have e:dS x 0=1:=by unfold dS;rw[ug E,ug G]
   rw[uX E,e];simp only[go_sem,c1]
def cQ(q:Rat):List V:=[Bo (decide (q.num<0)),LI (dg q.num.natAbs),LI (dg q.den)]
def pQ:Option Rat->V
 |some q=> .tp (cQ q) 0
 |none=> .sc (.pointer none)
theorem ak3(z:Int){d:Nat}(h:d≠0):cQ (mkRat z d)=ae1 (decide (z<0)) z.natAbs d:=by
 have hg:Nat.gcd d z.natAbs=Nat.gcd z.natAbs d:=Nat.gcd_comm _ _;have J:0<Nat.gcd z.natAbs d:=Nat.gcd_pos_of_pos_right _ (by omega);have Y:Nat.gcd z.natAbs d ∣ z.natAbs:=Nat.gcd_dvd_left _ _;have O:((Nat.gcd z.natAbs d:Nat):Int) ∣ z:=Int.ofNat_dvd_left.mpr Y;unfold cQ ae1;rw[Rat.num_mkRat,Rat.den_mkRat,ug h,ug h,hg];have e1:(z / ((Nat.gcd z.natAbs d:Nat):Int)).natAbs=z.natAbs / Nat.gcd z.natAbs d:=by
  obtain⟨k,E⟩:=O;have e:z / ((Nat.gcd z.natAbs d:Nat):Int)=k:=Int.ediv_eq_of_eq_mul_right (by omega) E;have e2:z.natAbs=Nat.gcd z.natAbs d*k.natAbs:=by
   have:=congrArg Int.natAbs E;rw[Int.natAbs_mul,xP]at this;exact this
  rw[e,Nat.div_eq_of_eq_mul_right J e2]
 have e2:decide (z / ((Nat.gcd z.natAbs d:Nat):Int)<0)=(decide (z<0) && decide (0<(dg (z.natAbs / Nat.gcd z.natAbs d)).length)):=by
  have e3:(z / ((Nat.gcd z.natAbs d:Nat):Int)<0)↔z<0:=by
   obtain⟨k,E⟩:=O;have e:z / ((Nat.gcd z.natAbs d:Nat):Int)=k:=Int.ediv_eq_of_eq_mul_right (by omega) E;rw[e];have hG:(0:Int)<((Nat.gcd z.natAbs d:Nat):Int):=by omega
   generalize ((Nat.gcd z.natAbs d:Nat):Int)=G at *;constructor
   .intro a1;rw[E];exact Int.mul_neg_of_pos_of_neg hG a1
   .intro S
    refine zh fun hn=>?_
    have:=wU (xu hG) (Int.not_lt.mp hn);rw[<- E]at this;omega
  by_cases S:z<0
  .have a6:z.natAbs / Nat.gcd z.natAbs d≠0:=by
    have:=Nat.div_pos (Nat.gcd_le_left d (show 0<z.natAbs by omega)) J;omega
   rw[uY (e3.mpr S),uY S,uY (List.length_pos_iff.mpr (rH a6))];rfl
  .rw[uX (mt e3.mp S),uX S];rfl
 rw[e1,e2]
theorem dd0(x y:Rat):x.den*y.den≠0:=Nat.mul_ne_zero x.den_nz y.den_nz
theorem DZ(x:Rat)(d:Nat)(G:ln x.num.natAbs<=1000000)(J:ln d<=1000000):fn gu conv ext 155 [.tp (cQ x) 0,LI (dg d)]=some (.agg (cZ (x.num*d))):=by
 have O:=G9 x.num.natAbs d G J;have E:=oN (decide (x.num<0)) (x.num.natAbs*d);have e:gQ (decide (x.num<0)) (x.num.natAbs*d)=x.num*d:=by
  have h:=WT x.num
  conv=>rhs;rw[<- h]
  unfold gQ
  by_cases q:x.num<0
  .rw[uY q,uf rfl,uf rfl,xQ,Int.neg_mul]
  .rw[uX q,ug (by decide),ug (by decide),xQ]
 rw[e]at E;unfold cQ;unfold cZ at *;rw[qB,qO [.cell 4 171] [] func155];simp only[go_sem,O,E]
theorem ae3(q:Rat)(E:ln q.num.natAbs<=24)(G:ln q.den<=24):fn gu conv ext 112 [.tp (cQ q) 0]=some (.agg (cQ q)):=ahX _ _ _ E G
theorem oL(z:Int)(E:-9223372036854775808<=z)(G:z<=9223372036854775807):fn gu conv ext 115 [I z]=some (.tp (cQ (z:Rat)) 0):=by
 have k:=oU z E G;have J:(z:Rat).num=z:=rfl;have O:(z:Rat).den=1:=rfl;unfold cQ;rw[J,O,rG (d:=1) (by decide) (by decide)];unfold cZ at k;rw[qB,qO [.tmp 2] [] func115]
 (simp only[go_sem,k])<;>rfl
theorem kN(xs:List Int)(S:∀x∈xs,0<=x/\x<=255)(Y:xs.length<=1048576)(i h:Int)(hi:0<=i/\i<=xs.length)(n:Int)(h1:1<=n)(h2:n<=256) :
  ∃r E G,(∀(b st nx:Nat) (σ:Store),σ b=some (EI xs i h st)->b<nx->ev gu conv ext 59 [.rp b 0,I n] σ nx=some (I r,upd σ b (some (EI xs E G st)),nx))/\(0<=r/\r<n)/\0<=E/\E<=xs.length:=by
 obtain⟨r,E,G,k,hr,J⟩:=abH xs S Y i h hi;have c1:¬n<=0:=by omega
 have c2:¬n=0:=by omega
 refine⟨r.tmod n,E,G,fun b st nx σ O hb=>?_,?_,J⟩
 .have k':=k b st nx σ O hb
  rw[qO [.tmp 4] [] func59];simp only[go_sem,sG,k',c1,c2,h2]
 .rw[xE hr.1]
  exact⟨Int.emod_nonneg _ (by omega),Int.emod_lt_of_pos _ (by omega)⟩
theorem Gm(o:List Int):∃r,o=eH o++r:=by
 induction o with
 |nil=>exact⟨[],rfl⟩
 |cons x o E=>
  obtain⟨r,G⟩:=E;rw[j_]
  split
  .split
   .exact⟨x :: o,rfl⟩
   .exact⟨o,rfl⟩
  .exact⟨r,by rw[xY,<- G]⟩
end Go.Proofs.YtjknobpihkmilaaGreat
namespace Go.TV
def Ag(f:V->Option (V×List Nat)):List V->Option (List V×List Nat)
 |[]=>some ([],[])
 |v :: vs=>match f v,Ag f vs with
  |some (t,i),some (ts,j)=>some (t :: ts,i++j)
  |_,_=>none
def own(σ:Store):Nat->V->Option (V×List Nat)
 |0,v=>match v with
  | .sc u=>some (.sc u,[])
  | .nil=>some (.ts [] 0,[])
  |_=>none
 |d+1,v=>match v with
  | .sc u=>some (.sc u,[])
  | .nil=>some (.ts [] 0,[])
  | .agg vs=>match Ag (own σ d) vs with
   |some (ts,ids)=>some (.agg ts,ids)
   |none=>none
  | .rs b off len=>match σ b with
   |some B=>if off=0/\B.wr=true/\len*B.st=B.cells.length then
     match Ag (own σ d) B.cells with
     |some (ts,ids)=>some (.ts ts len,b :: ids)
     |none=>none
    else none
   |none=>none
  |_=>none
def Own(σ:Store)(d:Nat)(v t:V)(ids:List Nat):Prop:=own σ d v=some (t,ids)/\ids.Nodup
theorem n_{f g:V->Option (V×List Nat)}:∀ {vs ts:List V} {ids:List Nat},(∀v t i,f v=some (t,i)->(∀b∈i,b∈ids)->g v=some (t,i))->Ag f vs=some (ts,ids)->Ag g vs=some (ts,ids)
 |[],ts,ids,_,h=>h
 |v :: vs,ts,ids,hfg,h=>by
  unfold Ag at h⊢
  split at h
  .rename_i t i E j G J
   simp only[uj,uh]at h;obtain⟨rfl,rfl⟩:=h;rw[hfg v t i G (fun b hb=>zD _ hb),n_ (fun v t i h hi=>hfg v t i h (fun b hb=>yF _ (hi b hb))) J]
  .cases h
theorem Fe{σ σ':Store}:∀(d:Nat) (v t:V) (ids:List Nat),own σ d v=some (t,ids)->(∀b∈ids,σ' b=σ b)->own σ' d v=some (t,ids)
 |0,v,t,ids,h,_=>by cases v<;>simp[own]at h⊢ <;>exact h
 |d+1,v,t,ids,h,hb=>by
  cases v<;>simp only[own]at h⊢ <;>try exact h
  .split at h
   .rename_i ts i e
    simp only[uj,uh]at h;obtain⟨rfl,rfl⟩:=h;rw[n_ (fun v t i h hi=>Fe d v t i h fun b E=>hb b (hi b E)) e]
   .cases h
  .rename_i b off len
   split at h
   .rename_i B G
    split at h
    .rename_i hc
     split at h
     .rename_i ts i e
      simp only[uj,uh]at h;obtain⟨rfl,rfl⟩:=h;rw[hb b zH,G];simp only;rw[uf hc,n_ (fun v t i h hi=>Fe d v t i h fun b E=>hb b (zU _ (hi b E))) e]
     .cases h
    .cases h
   .cases h
theorem mZ{σ:Store}{f g:V->Option (V×List Nat)}(E:∀v t i,f v=some (t,i)->g v=some (t,i)):∀ {vs ts:List V} {ids:List Nat},Ag f vs=some (ts,ids)->stripL g vs=some (ts,ids)
 |[],ts,ids,h=>h
 |v :: vs,ts,ids,h=>by
  unfold Ag at h;unfold stripL
  split at h
  .rename_i t i G j J O
   simp only[uj,uh]at h;obtain⟨rfl,rfl⟩:=h;rw[E v t i J,mZ (σ:=σ) E O]
  .cases h
theorem Fg{σ:Store}:∀(d:Nat) (v t:V) (ids:List Nat),own σ d v=some (t,ids)->∀d',d<=d'->strip σ d' v=some (t,ids)
 |0,v,t,ids,h,d',_=>by
  cases v<;>simp[own]at h
  .rename_i u;obtain⟨rfl,rfl⟩:=h;exact jQ _ _ _
  .obtain⟨rfl,rfl⟩:=h;exact jS _ _
 |d+1,v,t,ids,h,d',hd=>by
  obtain⟨e,rfl⟩:∃e,d'=e+1:=⟨d'-1,by omega⟩;cases v<;>simp only[own]at h
  .simp only[uj,uh]at h;obtain⟨rfl,rfl⟩:=h;exact jQ _ _ _
  .simp only[uj,uh]at h;obtain⟨rfl,rfl⟩:=h;exact jS _ _
  .cases h
  .split at h
   .rename_i ts i E
    simp only[uj,uh]at h;obtain⟨rfl,rfl⟩:=h;rw[KW,mZ (σ:=σ) (fun v t i h=>Fg d v t i h e (by omega)) E];rfl
   .cases h
  .cases h
  .cases h
  .cases h
  .cases h
  .cases h
  .rename_i b off len
   split at h
   .rename_i B G
    split at h
    .rename_i hc
     split at h
     .rename_i ts i E
      simp only[uj,uh]at h;obtain⟨rfl,rfl⟩:=h;obtain⟨rfl,_,J⟩:=hc;rw[jR,G];simp only[zl];rw[uf (by omega),yX,zk (by omega),mZ (σ:=σ) (fun v t i h=>Fg d v t i h e (by omega)) E];rfl
     .cases h
    .cases h
   .cases h
theorem mg{f:V->Option (V×List Nat)}{g:V->Option (List Nat)}(E:∀v t i,f v=some (t,i)->g v=some i):∀ {vs ts:List V} {ids:List Nat},Ag f vs=some (ts,ids)->bM g vs=some ids
 |[],ts,ids,h=>by simp only[Ag,uj,uh]at h;rw[<- h.2];rfl
 |v :: vs,ts,ids,h=>by
  unfold Ag at h;unfold bM
  split at h
  .rename_i t i G j J O
   simp only[uj,uh]at h;obtain⟨rfl,rfl⟩:=h;rw[E v t i J,mg E O]
  .cases h
theorem mY{σ:Store}:∀(d:Nat) (v t:V) (ids:List Nat),own σ d v=some (t,ids)->∀d',d<=d'->gather σ d' v=some ids
 |0,v,t,ids,h,d',_=>by
  cases v<;>simp[own]at h
  .obtain⟨rfl,rfl⟩:=h;cases d'<;>rfl
  .obtain⟨rfl,rfl⟩:=h;cases d'<;>rfl
 |d+1,v,t,ids,h,d',hd=>by
  obtain⟨e,rfl⟩:∃e,d'=e+1:=⟨d'-1,by omega⟩;cases v<;>simp only[own]at h
  .simp only[uj,uh]at h;rw[<- h.2];rfl
  .simp only[uj,uh]at h;rw[<- h.2];rfl
  .cases h
  .split at h
   .rename_i ts i E
    simp only[uj,uh]at h;obtain⟨rfl,rfl⟩:=h;unfold gather;exact mg (fun v t i h=>mY d v t i h e (by omega)) E
   .cases h
  .cases h
  .cases h
  .cases h
  .cases h
  .cases h
  .rename_i b off len
   split at h
   .rename_i B G
    split at h
    .rename_i hc
     split at h
     .rename_i ts i E
      simp only[uj,uh]at h;obtain⟨rfl,rfl⟩:=h;unfold gather;simp only[G];rw[mg (fun v t i h=>mY d v t i h e (by omega)) E]
     .cases h
    .cases h
   .cases h
theorem Own.frame{σ σ':Store}{d:Nat}{v t:V}{ids:List Nat}(h:Own σ d v t ids)(hb:∀b∈ids,σ' b=σ b):Own σ' d v t ids:=⟨Fe d v t ids h.1 hb,h.2⟩
theorem Own.upd{σ:Store}{d:Nat}{v t:V}{ids:List Nat}{c:Nat}{x:Option BZ}(hc:¬c∈ids):Own (upd σ c x) d v t ids=Own σ d v t ids:=by
 refine propext ⟨fun h=>h.frame fun b hb=>?_,fun h=>h.frame fun b hb=>?_⟩
 .exact(iY _ _ (fun e=>hc (by rw[<- e];exact hb))).symm
 .exact iY _ _ (fun e=>hc (by rw[<- e];exact hb))
theorem oH{n:Nat}{σ E:Store}{ids:List Nat}{b:Nat}(hn:¬b<n)(hb:b∈ids):eG n σ E ids b=E b:=by
 unfold eG;rw[ug hn,uf hb]
theorem oG{n:Nat}{σ E:Store}{ids:List Nat}{b:Nat}(hn:b<n):eG n σ E ids b=σ b:=by
 unfold eG;rw[uf hn]
theorem Own.join{n:Nat}{σ E:Store}{d:Nat}{v t:V}{ids:List Nat}(h:Own E d v t ids)(hn:∀b∈ids,n<=b):Own (eG n σ E ids) d v t ids :=
 h.frame fun b hb=>oH (by have:=hn b hb;omega) hb
theorem Own.ae4{n:Nat}{σ E:Store}{G:List Nat}{d:Nat}{v t:V}{ids:List Nat}(h:Own σ d v t ids)(hn:∀b∈ids,b<n):Own (eG n σ E G) d v t ids :=
 h.frame fun b hb=>oG (hn b hb)
theorem Own.strip{σ:Store}{d:Nat}{v t:V}{ids:List Nat}(h:Own σ d v t ids){d':Nat}(E:d<=d'):TV.strip σ d' v=some (t,ids):=Fg d v t ids h.1 d' E
theorem Own.gather{σ:Store}{d:Nat}{v t:V}{ids:List Nat}(h:Own σ d v t ids){d':Nat}(E:d<=d'):TV.gather σ d' v=some ids:=mY d v t ids h.1 d' E
theorem Ls{σ:Store}{d:Nat}:∀ {cells:List V} {xs:List Int} {ids:List Nat},Ag (own σ d) cells=some (xs.flatMap cI,ids)->cells=xs.flatMap cI/\ids=[]
 |[],xs,ids,h=>by
  simp only[Ag,uj,uh]at h;exact⟨h.1,h.2.symm⟩
 |v :: vs,xs,ids,h=>by
  unfold Ag at h
  split at h
  .rename_i t i G j E S
   simp only[uj,uh]at h;obtain⟨O,rfl⟩:=h;cases xs with
   |nil=>cases O
   |cons x xs=>
    have J:t :: G=I x :: xs.flatMap cI:=O;obtain⟨rfl,rfl⟩:=List.cons.inj J;obtain⟨rfl,rfl⟩:=Ls S;have:v=I x/\i=[]:=by
     cases d with
     |zero=>cases v<;>simp[own]at E;exact⟨by rw[E.1],E.2⟩
     |succ d=>
      cases v<;>simp only[own]at E
      .simp only[uj,uh]at E;exact⟨by rw[E.1],E.2.symm⟩
      .simp at E
      .cases E
      .split at E<;>simp at E
      .cases E
      .cases E
      .cases E
      .cases E
      .cases E
      .split at E
       .split at E
        .split at E<;>simp at E
        .cases E
       .cases E
    exact⟨by rw[this.1];rfl,by rw[this.2];rfl⟩
  .cases h
theorem D7{σ:Store}{d:Nat}{v:V}{xs:List Int}{ids:List Nat}(h:Own σ (d+1) v (LI xs) ids):(v= .nil/\xs=[]/\ids=[])\/∃b st,v= .rs b 0 xs.length/\ids=[b]/\σ b=some ⟨xs.flatMap cI,st,true⟩/\xs.length*st=xs.length:=by
 obtain⟨h,_⟩:=h;cases v<;>simp only[own]at h
 .simp at h
 .simp only[uj,uh]at h
  refine .inl ⟨rfl,?_,h.2.symm⟩;have E:=h.1;simp only[LI,V.ts.injEq]at E;exact zN E.2.symm
 .cases h
 .split at h<;>simp at h
 .cases h
 .cases h
 .cases h
 .cases h
 .cases h
 .rename_i b off len
  split at h
  .rename_i B J
   split at h
   .rename_i hc
    obtain⟨rfl,hw,G⟩:=hc
    split at h
    .rename_i ts i O
     simp only[uj,uh,LI,V.ts.injEq]at h;obtain⟨⟨rfl,rfl⟩,rfl⟩:=h;obtain⟨E,rfl⟩:=Ls O;obtain⟨cells,st,wr⟩:=B;simp only at hw G E;subst hw E;exact .inr ⟨b,st,rfl,rfl,J,by rw[G,sS]⟩
    .cases h
   .cases h
  .cases h
theorem ae5(σ:Store)(d:Nat)(xs:List Int):Ag (own σ d) (xs.flatMap cI)=some (xs.flatMap cI,[]):=by
 induction xs with
 |nil=>rfl
 |cons x xs E=>
  show Ag (own σ d) (I x :: xs.flatMap cI)=_;unfold Ag;rw[E];cases d<;>rfl
theorem Fh{σ:Store}{d b st:Nat}{xs:List Int}(h:σ b=some ⟨xs.flatMap cI,st,true⟩)(E:xs.length*st=xs.length):Own σ (d+1) (.rs b 0 xs.length) (LI xs) [b]:=by
 refine⟨?_,by simp⟩;simp only[own,h];rw[uf ⟨trivial,trivial,by rw[sS];exact E⟩,ae5]
theorem mX(σ:Store)(d:Nat):Own σ d .nil (LI []) []:=⟨by cases d<;>rfl,by simp⟩
def D8(nx G:Nat)(σ E:Store)(ids:List Nat):Store:=aQ [] nx G σ (eG nx (restrict σ []) E ids)
theorem ae6{P:Program}{conv:FuncId->Conv}{call:Call}{d:Option Tmp}{ty:TypeId}{ps:String}{S:Array Edge}{Y:Option (Nat×Bool)}{T:Nat->V}{σ:Store}{nx:Nat}{g:FuncId}(h:conv g= .own)(args:Array Operand)(ts:Array TypeId) :
  aZ P conv call ⟨d,.call ⟨.value (.func g),args,ts⟩,ty,ps,S,Y⟩ T σ nx=(stripL (strip σ depth) (args.toList.map (val T))).bind fun p=>if(p.2.all fun b=>decide (b<nx))=true then(call g p.1 aG nx).bind fun q=>(gather q.2.1 depth q.1).map fun ids=>(q.1,D8 nx q.2.2 σ q.2.1 ids,q.2.2)else none:=by
 unfold aZ;rw[qA d ty ps S Y T σ (by rw[h];exact fun e=>by cases e)];cases a1:stripL (strip σ depth) (args.toList.map (val T))with
 |none=>rfl
 |some p=>
  obtain⟨us,F⟩:=p;simp only[zT,zl]
  by_cases E:(F.all fun b=>decide (b<nx))=true
  .rw[uf E,uf E]
   have e:=G7 (P:=P) (conv:=conv) (call:=call) d ty ps S Y T (restrict σ F) nx (.func g) args ts;rw[e];have G:stripL (strip (restrict σ F) depth) (args.toList.map (val T))=some (us,F) :=
    je (fun v t i h hi=>jU _ v t i h fun b hb=>by unfold restrict;rw[uf (hi b hb)]) a1
   simp only[val,sH,zA,Qq h,G,zl];cases call g us aG nx with
   |none=>rfl
   |some q=>
    simp only[zl];cases gather q.2.1 depth q.1 with
    |none=>rfl
    |some ids=>
     simp only[zT,keeps,val,h,if_true,uj,uh,true_and,and_true];have a6:∀b∈F,b<nx:=fun b hb=>by simpa using List.all_eq_true.1 E b hb
     unfold D8;funext b;unfold aQ
     by_cases J:nx<=b/\b<q.2.2
     .rw[uf (.inr J),uf (.inr J)]
      unfold eG;simp only[ug (show ¬b<nx by omega)]
     .by_cases O:b∈F
      .rw[uf (.inl O),ug (fun e=>e.elim (fun e=>by cases e) J)]
       unfold eG restrict;rw[uf (a6 b O),uf O]
      .rw[ug (fun e=>e.elim O J),ug (fun e=>e.elim (fun e=>by cases e) J)]
  .rw[ug E,ug E]
theorem ak5{conv:FuncId->Conv}{d:Option Tmp}{ty:TypeId}{ps:String}{E:Array Edge}{G:Option (Nat×Bool)}{g:FuncId}(h:conv g= .own)(args:Array Operand)(ts:Array TypeId):writer conv ⟨d,.call ⟨.value (.func g),args,ts⟩,ty,ps,E,G⟩=false:=by unfold writer;simp only[h]
theorem abQ{conv:FuncId->Conv}{d:Option Tmp}{ty:TypeId}{ps:String}{E:Array Edge}{G:Option (Nat×Bool)}{T:Nat->V}{σ:Store}{g:FuncId}(h:conv g= .own)(args:Array Operand)(ts:Array TypeId):aP conv T σ ⟨d,.call ⟨.value (.func g),args,ts⟩,ty,ps,E,G⟩=((stripL (strip σ depth) (args.toList.map (val T))).map (·.2)).getD []:=by
 unfold aP;rw[qA d ty ps E G T σ (by rw[h];exact fun e=>by cases e)]
theorem agT{nx G:Nat}{σ E:Store}{ids:List Nat}{b:Nat}(J:nx<=b)(O:b<G)(hb:b∈ids):D8 nx G σ E ids b=E b:=by
 unfold D8 aQ;rw[uf (.inr ⟨J,O⟩),oH (by omega) hb]
theorem abR{nx G:Nat}{σ E:Store}{ids:List Nat}{b:Nat}(h:b<nx):D8 nx G σ E ids b=σ b:=by
 unfold D8 aQ;rw[ug (by simp;omega)]
theorem Own.draw{nx G:Nat}{σ E:Store}{d:Nat}{v t:V}{ids:List Nat}(h:Own E d v t ids)(hn:∀b∈ids,nx<=b/\b<G):Own (D8 nx G σ E ids) d v t ids :=
 h.frame fun b hb=>agT (hn b hb).1 (hn b hb).2 hb
theorem Lu(σ:Store)(d:Nat)(u:Value):gather σ d (.sc u)=some []:=by cases d<;>rfl
theorem Vg(σ:Store)(d:Nat):gather σ d .nil=some []:=by cases d<;>rfl
theorem Vh(σ:Store)(d:Nat)(vs:List V):gather σ (d+1) (.agg vs)=bM (gather σ d) vs:=rfl
theorem Vj(σ:Store)(d:Nat)(vs:List V):gather σ (d+1) (.dF vs)=bM (gather σ d) vs:=rfl
theorem QS(f:V->Option (List Nat)):bM f []=some []:=rfl
theorem D9(f:V->Option (List Nat))(v:V)(vs:List V):bM f (v :: vs)=(f v).bind fun i=>(bM f vs).map fun j=>i++j:=by
 show(match f v,bM f vs with|some i,some j=>some (i++j)|_,_=>none)=_;cases f v<;>cases bM f vs<;>rfl
attribute [go_sem] ae6 ak5 abQ Lu Vg Vh Vj QS D9 Qq
theorem Own.cell{σ:Store}{d:Nat}{v:V}{xs:List Int}{ids:List Nat}(h:Own σ (d+1) v (LI xs) ids):aJ v=true:=by
 rcases D7 h with ⟨rfl,_⟩|⟨b,st,rfl,_⟩<;>rfl
theorem rY{v:V}(h:aJ v=true):cellsOfV v=some [v]:=by cases v<;>simp_all [cellsOfV,aJ]
end Go.TV
namespace Go.Proofs.YtjknobpihkmilaaGreat
open Go Go.TV
def bT:FuncId->Conv:=fun f=>if f∈([901656,901202,901679,900998,901199,112,151,16,32,33,64]:List Nat)then .own else if f∈([901334,901525,901247,901152,901441,24,54,92,93,55,901242,901551,901635,901929,901641,901558,901442,901352]:List Nat)then .inl else .FX
abbrev Y2:List Nat:=[901656,901202,901679,900998,901199,112,151,16,32,33,901334,901525,901247,901152,901441,24,54,92,93,55,901242,901551,901635,901929,901641,901558,901442,901352,902340,901886,902363,902342]
noncomputable def CP:Ext:=fun f=>if f=64 then some Bz else if f∈Y2 then none else some fun args σ nx=>ev gu conv ext f args σ nx
theorem ahZ:DI gu CP:=fun f g h args σ nx v σ' nx' E=>by
 unfold CP at h
 split at h
 .rename_i G
  subst G;cases h;exact rX args σ nx v σ' nx' E
 .split at h
  .cases h
  .cases h
   exact qM (by kernel_rfl) abq f args σ nx v σ' nx' E
theorem fnM{f:FuncId}(h:List.contains (64 :: Y2) f=false)(ts:List V):fn gu bT CP f ts=fn gu conv ext f ts:=by
 have hc:¬f=64:=fun e=>by subst e;simp at h
 have E:¬f∈Y2:=fun e=>by
  rw[List.contains_cons,Bool.or_eq_false_iff]at h;rw[List.contains_iff_mem.mpr e]at h;cases h.2
 rw[qB,qB,qN (g:=fun args σ nx=>ev gu conv ext f args σ nx) (by unfold CP;rw[ug hc,ug E])]
theorem cvM{f:FuncId}(h:List.contains (64 :: Y2) f=false):bT f= .FX:=by
 have hc:¬f=64:=fun e=>by subst e;simp at h
 have E:¬f∈Y2:=fun e=>by
  rw[List.contains_cons,Bool.or_eq_false_iff]at h;rw[List.contains_iff_mem.mpr e]at h;cases h.2
 unfold bT;simp only[Y2,zQ,zG,or_false,not_or]at E;rw[ug (by simp only[zQ,zG,or_false,not_or];simp only[E,hc,not_false_eq_true,and_self]),ug (by simp only[zQ,zG,or_false,not_or];simp only[E,not_false_eq_true,and_self])]
theorem ae7:bT 901656= .own:=id rfl
theorem ae8:bT 901202= .own:=id rfl
theorem ae9:bT 901679= .own:=id rfl
theorem ae_:bT 900998= .own:=id rfl
theorem ae':bT 901199= .own:=id rfl
theorem afa:bT 112= .own:=id rfl
theorem afb:bT 151= .own:=id rfl
theorem afc:bT 16= .own:=id rfl
theorem afd:bT 32= .own:=id rfl
theorem afe:bT 33= .own:=id rfl
theorem abS:bT 901334= .inl:=id rfl
theorem aff:bT 901525= .inl:=id rfl
theorem afg:bT 901247= .inl:=id rfl
theorem afh:bT 901152= .inl:=id rfl
theorem afi:bT 901441= .inl:=id rfl
theorem afj:bT 24= .inl:=id rfl
theorem afk:bT 54= .inl:=id rfl
theorem afl:bT 92= .inl:=id rfl
theorem afm:bT 93= .inl:=id rfl
theorem afn:bT 55= .inl:=id rfl
theorem afo:bT 901242= .inl:=id rfl
theorem afp:bT 901551= .inl:=id rfl
theorem afq:bT 901635= .inl:=id rfl
theorem afr:bT 901929= .inl:=id rfl
theorem afs:bT 901641= .inl:=id rfl
theorem aft:bT 901558= .inl:=id rfl
theorem afu:bT 901442= .inl:=id rfl
theorem afv:bT 901352= .inl:=id rfl
theorem afw:bT 64= .own:=id rfl
attribute [go_sem] cvM ae7 ae8 ae9 ae_ ae' afa afb afw abS aff afg afc afd afe afh afi afj afk afl afm afn afo afp afq afr afs aft afu afv fnM
theorem WV(f:V->Option (V×List Nat))(E:∀u,f (.sc u)=some (.sc u,[])):∀cells:List V,(∀v∈cells,∃u,v= .sc u)->Ag f cells=some (cells,[])
 |[],_=>rfl
 |v :: vs,h=>by
  obtain⟨u,rfl⟩:=h v zH;unfold Ag;rw[E,WV f E vs fun w hw=>h w (zU _ hw)];rfl
theorem ah0(σ:Store)(d:Nat)(u:Value):own σ d (.sc u)=some (.sc u,[]):=by cases d<;>rfl
theorem ah1{σ:Store}{d b n s:Nat}{cells ts:List V}{ids:List Nat}(h:σ b=some ⟨cells,s,true⟩)(E:n*s=cells.length)(G:Ag (own σ d) cells=some (ts,ids)):own σ (d+1) (.rs b 0 n)=some (.ts ts n,b :: ids):=by
 simp only[own,h];rw[uf ⟨trivial,trivial,E⟩,G]
theorem abT{α:Type}{σ:Store}{d b s:Nat}{c:α->List V}{xs:List α}(h:σ b=some ⟨xs.flatMap c,s,true⟩)(hc:∀x,(c x).length=s)(hs:∀x,∀v∈c x,∃u,v= .sc u):own σ (d+1) (.rs b 0 xs.length)=some (LL c xs,[b]) :=
 ah1 h (kD hc xs).symm (WV _ (ah0 σ d) _ fun v E=>by obtain⟨x,_,G⟩:=List.mem_flatMap.mp E;exact hs x v G)
theorem Y3:∀x:Member,∀v∈bg x,∃u,v= .sc u:=by intro x v E;simp only[zQ,zG,or_false]at E;rcases E with rfl|rfl|rfl<;>exact⟨_,rfl⟩
theorem ak6(k:IntKind)(n:Int)(σ:Store):dh gu 3 5 (.sc (.int k n)) σ=some (.sc (.int .u8 (IntKind.u8.wrap n))):=E5 u3 u8t
attribute [go_sem] ak6
abbrev Ah(b:Bool):List V:=[Bo b]
def BF(p:Nat->Bool)(n:Nat):List Int:=((List.range n).filter p).map fun(i:Nat)=>(i:Int)
theorem NS{p:Nat->Bool}{k:Nat}(h:p k=true):BF p (k+1)=BF p k++[(k:Int)]:=by simp[BF,vS,List.filter_append,h]
theorem Vk{p:Nat->Bool}{k:Nat}(h:p k=false):BF p (k+1)=BF p k:=by simp[BF,vS,List.filter_append,h]
theorem iy(p:Nat->Bool)(n:Nat):(BF p n).length<=n:=by
 unfold BF;rw[zB];exact zL (List.length_filter_le _ _) (by simp)
theorem Fj{p q:Nat->Bool}{n:Nat}(h:∀i,i<n->p i=q i):BF p n=BF q n:=by
 unfold BF;congr 1;exact List.filter_congr fun i hi=>h i (by simpa using hi)
theorem QT{T:Nat->V}{σ:Store}{nx t G:Nat}{acc:List Int}(h:Grow T σ nx t acc)(hb:∀b o l,T t= .rs b o l->G<=b):∃ids,Own σ 1 (T t) (LI acc) ids/\∀b∈ids,G<=b/\b<nx:=by
 rcases h with ⟨E,rfl⟩|⟨b,E,_,J,O⟩
 .rw[E];exact⟨[],mX _ _,by simp⟩
 .rw[E]
  exact⟨[b],Fh J (by omega),fun c hc=>by have:=hb _ _ _ E;simp only[yC]at hc;omega⟩
def Y4:=kE (c:=Ah) (s:=1) (fun _=>rfl) (by omega)
def D_:=kD (c:=Ah) (s:=1) (fun _=>rfl)
theorem NT(E:List Bool)(hl:E.length<=1000)(nx:Nat):∃v a1 aO ids,ev gu bT CP 33 [LL Ah E] aG nx=some (v,a1,aO)/\nx<=aO/\Own a1 1 v (LI (BF (fun i=>E[i]?==some true) E.length)) ids/\∀b∈ids,nx<=b/\b<aO:=by
 rw[qO [.tmp 2] [] func33];simp only[go_sem];generalize hL:aA _ _=y;obtain⟨r,rfl,T',σ',nx',rfl,h1,h2,h3⟩:=rP hL E.length (fun k s=>nx<=s.nx/\s.T 6=LL Ah E/\s.T 7=I E.length/\s.T 8=I k/\Grow s.T s.σ s.nx 3 (BF (fun i=>E[i]?==some true) k)/\∀b o l,s.T 3= .rs b o l->nx<=b)
  (fun r=>∃T σ nx',r=(.exit 0,⟨T,σ,nx'⟩)/\nx<=nx'/\Grow T σ nx' 3 (BF (fun i=>E[i]?==some true) E.length)/\∀b o l,T 3= .rs b o l->nx<=b) (by
   clear hL;rintro k ⟨T,σ,m⟩ G ⟨hn,O,J,S,Y,hb⟩;simp only at hn O J S Y hb;have f1:(k:Int)<(E.length:Int):=by omega
   have f2:=nP k;have f3:=iF (n:=(k:Int)+1);have f4:(E.flatMap Ah)[k]?=some (Bo E[k]):=kF (fun b=>Bo b) E k G;have f5:=D_ E;have f9:=Y4 E k G;have hle:=iy (fun i=>E[i]?==some true) k;cases hp:E[k]with
   |true=>
    have hq:(fun i=>E[i]?==some true) k=true:=by simp[zy G,hp]
    obtain⟨σ',ha,hs⟩:=oz Y (k:Int) (by omega);refine .inl ⟨_,by simp only[go_sem,O,J,S,f1,f2,f3,f4,f5,f9,hp,G,ha];rfl,?_⟩;simp only[go_sem,O,J];rw[NS hq];refine⟨by omega,rfl,oh hs (by simp[go_sem]) (by simp),fun b o l h=>?_⟩;simp only[V.rs.injEq]at h;omega
   |false=>
    have hq:(fun i=>E[i]?==some true) k=false:=by simp[zy G,hp]
    refine .inl ⟨_,by simp only[go_sem,O,J,S,f1,f2,f3,f4,f5,f9,hp,G];rfl,?_⟩;simp only[go_sem,O,J];rw[Vk hq];exact⟨hn,rfl,ou (by simp only[go_sem]) Y,hb⟩) (by
   clear hL;rintro ⟨T,σ,m⟩ ⟨hn,O,J,S,Y,hb⟩;simp only at hn O J S Y hb;exact⟨_,by simp only[go_sem,J,S,zX];rfl,by simp,_,_,_,rfl,hn,ou (by simp only[go_sem]) Y,by simpa only[go_sem]using hb⟩) (by
   simp only[go_sem];exact⟨.inl ⟨by simp only[go_sem],rfl⟩,by simp⟩)
 obtain⟨ids,ho,hi⟩:=QT h2 h3;simp only[go_sem];exact⟨_,_,_,ids,rfl,h1,ho,hi⟩
def gU(ms:List TV.Move)(i:Int)(k:Nat):Bool:=ms.any fun m=>(m.fr==i) && (m.to==(k:Int))
def flags(ms:List TV.Move)(i:Int)(n:Nat):List Bool:=(List.range n).map (gU ms i)
theorem qG(ms:List TV.Move)(i:Int)(n:Nat):(flags ms i n).length=n:=by simp[flags]
theorem Y5{ms:List TV.Move}{i:Int}{n:Nat}{m:TV.Move}(h:m.fr=i)(E:0<=m.to):flags (ms++[m]) i n=(flags ms i n).set m.to.toNat true:=by
 refine yP (by simp[flags]) fun j G J=>?_
 rw[wX];simp only[flags,wL,List.getElem_range,gU,List.any_append,List.any_cons,List.any_nil,h,BEq.rfl,xM,Bool.or_false]
 split
 .rename_i e
  have:m.to=(j:Int):=by omega
  simp[this]
 .rename_i e
  have:¬m.to=(j:Int):=by omega
  simp[this]
theorem abU{ms:List TV.Move}{i:Int}{n:Nat}{m:TV.Move}(h:¬m.fr=i):flags (ms++[m]) i n=flags ms i n:=by
 refine yP (by simp[flags]) fun j E G=>?_
 simp only[flags,wL,List.getElem_range,gU,List.any_append,List.any_cons,List.any_nil];have:(m.fr==i)=false:=by simpa using h
 simp[this]
theorem Y6(i:Int)(n:Nat):flags [] i n=List.replicate n false:=by
 refine yP (by simp[flags]) fun j E G=>?_
 simp[flags,gU]
theorem LC(n:Nat):rep n [Bo false]=(List.replicate n false).flatMap Ah:=by
 induction n with
 |zero=>rfl
 |succ n E=>rw[lF,E,yL];rfl
theorem NU(xs:List Bool)(k:Nat)(b:Bool):(xs.flatMap Ah).set k (Bo b)=(xs.set k b).flatMap Ah:=by
 induction xs generalizing k with
 |nil=>rfl
 |cons x xs E=>
  cases k with
  |zero=>rfl
  |succ k=>
   show Bo x :: (xs.flatMap Ah).set k (Bo b)=_;rw[E];rfl
theorem LD(y:bP)(hg:aW y)(i:Int)(nx:Nat):∃v O aO ids,ev gu bT CP 32 [.tp (bQ y) 0,I i] aG nx=some (v,O,aO)/\nx<=aO/\Own O 1 v (LI (BF (gU y.moves i) y.ah.length)) ids/\∀b∈ids,nx<=b/\b<aO:=by
 obtain⟨h6,a8,_,hm⟩:=hg;have e1:1*(y.ah.length:Int)<=281474976710656:=by omega
 have e2:(y.ah.length:Int)<=9223372036854775807:=by omega
 have e3:(0:Int)<=(y.ah.length:Int):=by omega
 rw[qO [.tmp 4] [] func32];simp only[go_sem,e1,e2,e3,xg];generalize hL:aA _ _=z;obtain⟨r,rfl,T',σ',nx',rfl,Y,h2,h3⟩:=rP hL y.moves.length (fun k s=>nx+1<=s.nx/\s.T 1=I i/\s.T 5= .rs nx 0 y.ah.length/\s.T 17=LL fG y.moves/\s.T 18=I y.moves.length/\s.T 19=I k/\s.σ nx=some ⟨(flags (y.moves.take k) i y.ah.length).flatMap Ah,1,true⟩)
  (fun r=>∃T σ nx',r=(.exit 0,⟨T,σ,nx'⟩)/\nx+1<=nx'/\T 5= .rs nx 0 y.ah.length/\σ nx=some ⟨(flags y.moves i y.ah.length).flatMap Ah,1,true⟩) (by
   clear hL;rintro k ⟨T,σ,m⟩ S ⟨hn,Y,h5,G,E,J,hs⟩;simp only at hn Y h5 G E J hs;have f1:(k:Int)<(y.moves.length:Int):=by omega
   have f2:=nP k;have f3:=iF (n:=(k:Int)+1);have f4:=aeU y.moves k S;have f5:=WJ y.moves;have f6:k*2+2<=y.moves.length*2:=by omega
   have f9:=aeV y.moves k S;have nz:¬nx=m:=by omega
   have a6:¬m=nx:=by omega
   have ht:y.moves.take (k+1)=y.moves.take k++[y.moves[k]]:=by rw[wz,zy S];rfl
   obtain⟨_,_,m1,m2,_⟩:=(hm k S).1
   by_cases hp:y.moves[k].fr=i
   .have a1:(y.moves[k].fr==i)=true:=by simpa using hp
    have b1:y.moves[k].to<(y.ah.length:Int):=m2;have b2:y.moves[k].to.toNat<y.ah.length:=by omega
    have f7:((flags (y.moves.take k) i y.ah.length).flatMap Ah).length=y.ah.length:=by rw[D_,qG,yj]
    have f8:=NU (flags (y.moves.take k) i y.ah.length) y.moves[k].to.toNat true;refine .inl ⟨_,by simp only[go_sem,Y,h5,G,E,J,hs,f1,f2,f3,f4,f5,f6,f7,f8,f9,a1,m1,b1,b2,nz,a6];rfl,?_⟩;simp only[go_sem,Y,h5,G,E];refine⟨by omega,?_⟩;rw[ht,Y5 hp m1];exact⟨rfl,rfl⟩
   .have a1:(y.moves[k].fr==i)=false:=by simpa using hp
    refine .inl ⟨_,by simp only[go_sem,Y,h5,G,E,J,hs,f1,f2,f3,f4,f5,f6,f9,a1,nz,a6];rfl,?_⟩;simp only[go_sem,Y,h5,G,E,nz,hs];refine⟨by omega,?_⟩;rw[ht,abU hp];exact⟨rfl,rfl⟩) (by
   clear hL;rintro ⟨T,σ,m⟩ ⟨hn,Y,h5,G,E,J,hs⟩;simp only at hn Y h5 G E J hs;rw[yV]at hs;exact⟨_,by simp only[go_sem,E,J,zX];rfl,by simp,_,_,_,rfl,hn,by simp only[go_sem,h5],hs⟩) (by
   simp only[go_sem];rw[Y6,<- LC])
 obtain⟨v,O,aO,ids,k1,b3,ho,hi⟩:=NT (flags y.moves i y.ah.length) (by rw[qG];omega) nx';rw[qG]at ho;have a7:ev gu bT CP 33 [.ts ((flags y.moves i y.ah.length).flatMap Ah) y.ah.length] aG nx'=some (v,O,aO):=by
  rw[<- k1];show _=ev _ _ _ _ [.ts _ (flags y.moves i y.ah.length).length] _ _;rw[qG]
 have g0:((flags y.moves i y.ah.length).flatMap Ah).length=y.ah.length:=by rw[D_,qG,yj]
 have g1:((flags y.moves i y.ah.length).flatMap Ah).take y.ah.length=(flags y.moves i y.ah.length).flatMap Ah:=zk (by omega);have g2:∀(σ:Store) (d:Nat),stripL (strip σ d) ((flags y.moves i y.ah.length).flatMap Ah)=some ((flags y.moves i y.ah.length).flatMap Ah,[]):=fun σ d=>jW (fun x=>by rw[jd,jQ,jX];rfl) _
 have g3:=fun d=>ho.gather (d':=d+1) (by omega)
 simp only[go_sem,h2,h3,g0,g1,g2,g3,a7,zu];refine⟨v,_,aO,ids,rfl,by omega,?_,fun b hb=>⟨by have:=(hi b hb).1;omega,(hi b hb).2⟩⟩;have:BF (fun j=>(flags y.moves i y.ah.length)[j]?==some true) y.ah.length=BF (gU y.moves i) y.ah.length:=by
  refine Fj fun j hj=>?_
  have:(flags y.moves i y.ah.length)[j]?=some (gU y.moves i j):=by simp[flags,hj]
  rw[this];cases gU y.moves i j<;>rfl
 rw[this]at ho;exact ho.join fun b hb=>(hi b hb).1
theorem NV{T:Nat->V}{σ:Store}{nx t:Nat}{acc:List Int}(J:Grow T σ nx t acc)(x:Int)(Y:acc.length<17592186044415) :
  ∃σ',bC (upd σ nx (some ⟨[I x],1,true⟩)) (nx+1) 1 8 (T t) [I x] 1=some (.rs (nx+1) 0 (acc.length+1),σ',nx+1+1)/\σ' (nx+1)=some ⟨(acc++[x]).flatMap cI,1,true⟩/\∀c,c<nx->(∀b o l,T t= .rs b o l->¬c=b)->σ' c=σ c:=by
 have hm:acc.length+1<=maxLen:=by unfold maxLen;omega
 rcases J with ⟨E,rfl⟩|⟨b,E,O,hb,S⟩
 .refine⟨_,by rw[E,DV,ug (by decide),uf (by decide)];rfl,?_,fun c hc _=>?_⟩
  .simp[bG,upd]
  .simp only[bG,upd]
   rw[ug (by omega),ug (by omega)]
 .refine⟨_,by rw[E,IB (B:=⟨acc.flatMap cI,1,true⟩) (by rw[iZ];exact hb) (sS acc) rfl (by decide) hm (by omega) rfl],?_,fun c hc G=>?_⟩
  .simp[upd]
  .have:=G _ _ _ E
   simp only[upd];rw[ug (by omega),ug (by omega),ug (by omega)]
theorem jK{α:Type}{xs:List α}{k:Nat}(h:k<xs.length):xs.take (k+1)=xs.take k++[xs[k]]:=by rw[wz,zy h];rfl
noncomputable def nextL(y:bP)(i:Int):List Int:=if pb (aW y)=true/\0<=i/\i<(y.ah.length:Int)then BF (gU y.moves i) y.ah.length else []
theorem NW(y:bP)(h:qI y)(i:Int)(nx:Nat):∃v E J ids,ev gu bT CP 16 [.agg (bQ y),I i] aG nx=some (v,E,J)/\nx<=J/\Own E 1 v (LI (nextL y i)) ids/\∀b∈ids,nx<=b/\b<J:=by
 have G:=oW y h;unfold nextL;rw[qO [.tmp 4] [] func16];cases hp:pb (aW y)with
 |false=>
  rw[hp]at G;rw[ug (by simp)];simp only[go_sem,G];exact⟨_,_,_,[],rfl,by omega,mX _ _,by simp⟩
 |true=>
  rw[hp]at G
  by_cases c1:i<0
  .rw[ug (by omega)]
   simp only[go_sem,G,c1];exact⟨_,_,_,[],rfl,by omega,mX _ _,by simp⟩
  by_cases O:(y.ah.length:Int)<=i
  .rw[ug (by omega)]
   simp only[go_sem,G,c1,O];exact⟨_,_,_,[],rfl,by omega,mX _ _,by simp⟩
  rw[uf ⟨rfl,by omega,by omega⟩];obtain⟨v,E,J,ids,Y,hn,S,hi⟩:=LD y (nK hp) i (nx+1);have g3:=fun d=>S.gather (d':=d+1) (by omega)
  simp only[go_sem,G,c1,O,Y,g3];exact⟨v,_,J,ids,rfl,by omega,S.join fun b hb=>(hi b hb).1,fun b hb=>⟨by have:=(hi b hb).1;omega,(hi b hb).2⟩⟩
end Go.Proofs.YtjknobpihkmilaaGreat
namespace Go.Lp
def sm(f:Nat->Rat):Nat->Rat
 |0=>0
 |n+1=>sm f n+f n
theorem jw{f g:Nat->Rat}:∀ {n:Nat},(∀j,j<n->f j=g j)->sm f n=sm g n
 |0,_=>rfl
 |n+1,h=>by unfold sm;rw[jw fun j E=>h j (by omega),h n (by omega)]
theorem kC(f g:Nat->Rat):∀n,sm (fun j=>f j+g j) n=sm f n+sm g n
 |0=>by unfold sm;grind
 |n+1=>by unfold sm;rw[kC f g n];grind
theorem IU(f g:Nat->Rat):∀n,sm (fun j=>f j-g j) n=sm f n-sm g n
 |0=>by unfold sm;grind
 |n+1=>by unfold sm;rw[IU f g n];grind
theorem jv(a:Rat)(f:Nat->Rat):∀n,sm (fun j=>a*f j) n=a*sm f n
 |0=>by simp[sm]
 |n+1=>by unfold sm;rw[jv a f n];grind
theorem jo{f:Nat->Rat}:∀ {n:Nat},(∀j,j<n->f j=0)->sm f n=0
 |0,_=>rfl
 |n+1,h=>by unfold sm;rw[jo fun j E=>h j (by omega),h n (by omega)];grind
theorem jq{f:Nat->Rat}{k:Nat}:∀ {n:Nat},k<n->(∀j,j<n->j≠k->f j=0)->sm f n=f k
 |n+1,hk,h=>by
  unfold sm
  by_cases e:k=n
  .subst e
   rw[jo fun j E=>h j (by omega) (by omega)];grind
  .rw[jq (n:=n) (by omega) fun j E=>h j (by omega),h n (by omega) (by omega)];grind
theorem jr{f:Nat->Rat}:∀ {n:Nat},(∀j,j<n->0<=f j)->0<=sm f n
 |0,_=>by simp[sm]
 |n+1,h=>by
  unfold sm;have E:=jr (n:=n) fun j G=>h j (by omega)
  have J:=h n (by omega);grind
theorem WW(f:Nat->Nat->Rat)(n:Nat):∀m,sm (fun i=>sm (fun j=>f i j) n) m=sm (fun j=>sm (fun i=>f i j) m) n
 |0=>(jo (n:=n) fun j _=>rfl).symm
 |m+1=>by
  show sm _ m+_=_;rw[WW f n m,<- kC];rfl
structure Tab where
 e:Nat->Nat->Rat
 b:Nat->Rat
 B:Nat->Nat
def WX(m n:Nat)(T:Tab)(x:Nat->Rat):Prop:=∀i,i<m->sm (fun j=>T.e i j*x j) n=T.b i
structure Ok (m n:Nat) (T:Tab):Prop where
 bn:∀i,i<m->T.B i<n
 un:∀i k,i<m->k<m->T.e i (T.B k)=if i=k then 1 else 0
 nb:∀i,i<m->0<=T.b i
def basic(m:Nat)(T:Tab)(j:Nat):Prop:=∃i,i<m/\T.B i=j
def piv(T:Tab)(r k:Nat):Tab where
 e i j:=if i=r then T.e r j / T.e r k else T.e i j-T.e i k*(T.e r j / T.e r k)
 b i:=if i=r then T.b r / T.e r k else T.b i-T.e i k*(T.b r / T.e r k)
 B i:=if i=r then k else T.B i
section
variable {m n:Nat} {T:Tab}
theorem Ok.inj(h:Ok m n T){i k:Nat}(hi:i<m)(G:k<m)(e:T.B i=T.B k):i=k:=by
 have E:=h.un i k hi G;have J:=h.un i i hi hi;rw[<- e,J]at E
 by_cases q:i=k
 .exact q
 .simp[q]at E
theorem NY{r k:Nat}(G:r<m)(O:T.e r k≠0)(x:Nat->Rat):WX m n (piv T r k) x↔WX m n T x:=by
 have row:sm (fun j=>T.e r j / T.e r k*x j) n=sm (fun j=>T.e r j*x j) n / T.e r k:=by
  rw[vY,Rat.mul_comm,<- jv];exact jw fun j _=>by grind
 have other:∀i,i≠r->sm (fun j=>(piv T r k).e i j*x j) n=sm (fun j=>T.e i j*x j) n-T.e i k*sm (fun j=>T.e r j / T.e r k*x j) n:=fun i hi=>by
  rw[<- jv,<- IU];refine jw fun j _=>?_
  simp only[piv,ug hi];grind
 constructor
 .intro h i hi
  have E:=h r G;simp only[piv,uf]at E;rw[row]at E
  by_cases e:i=r
  .subst e
   grind
  .have J:=h i hi
   rw[other i e,row,E]at J;simp only[piv,ug e]at J;grind
 .intro h i hi
  have E:=h r G
  by_cases e:i=r
  .subst e
   simp only[piv,uf];rw[row,E]
  .rw[other i e,row,E,h i hi]
   simp only[piv,ug e]
theorem ah2(h:Ok m n T){r s:Nat}(hr:r<m)(hs:s<n)(hp:0<T.e r s)(J:∀i,i<m->0<T.e i s->T.b r*T.e i s<=T.b i*T.e r s):Ok m n (piv T r s):=by
 have a1:T.e r s≠0:=by grind
 refine⟨fun i hi=>?_,fun i k hi hk=>?_,fun i hi=>?_⟩
 .simp only[piv]
  split
  .exact hs
  .exact h.bn i hi
 .have u1:=h.un i k hi hk
  have S:=h.un r k hr hk;simp only[piv]
  by_cases O:k=r
  .subst O
   rw[uf rfl]
   by_cases E:i=k
   .rw[uf E,uf E];grind
   .rw[ug E,ug E];grind
  .rw[ug O]
   rw[ug (yS O)]at S
   by_cases E:i=r
   .subst E
    rw[uf rfl,ug (yS O),S];grind
   .rw[ug E,u1,S];grind
 .simp only[piv]
  have b0:=h.nb r hr;have hq:0<=T.b r / T.e r s:=by
   rw[vY];exact xw b0 (wF (Rat.inv_pos.mpr hp))
  by_cases E:i=r
  .rw[uf E];exact hq
  .rw[ug E]
   have bi:=h.nb i hi
   by_cases G:0<T.e i s
   .have Y:=J i hi G
    have h2:T.e i s*(T.b r / T.e r s)*T.e r s=T.b r*T.e i s:=by grind
    have h3:T.e i s*(T.b r / T.e r s)<=T.b i:=Rat.le_of_mul_le_mul_right (by rw[h2];exact Y) hp;grind
   .have Y:T.e i s<=0:=Rat.not_lt.mp G
    have h2:T.e i s*(T.b r / T.e r s)<=0:=by
     have:=Rat.mul_le_mul_of_nonneg_right Y hq
     rwa [Rat.zero_mul]at this
    grind
def eU(m:Nat)(T:Tab)(j:Nat):Rat:=sm (fun i=>if T.B i=j then T.b i else 0) m
theorem Gn(h:Ok m n T){i:Nat}(hi:i<m):eU m T (T.B i)=T.b i:=by
 unfold eU;rw[jq hi fun k G E=>ug fun e=>E (h.inj G hi e)];simp
theorem tY{j:Nat}(h:¬basic m T j):eU m T j=0:=jo fun i hi=>ug fun e=>h ⟨i,hi,e⟩
theorem IV(h:Ok m n T)(j:Nat):0<=eU m T j:=jr fun i hi=>by
 split
 .exact h.nb i hi
 .exact Rat.le_refl
theorem Gp(h:Ok m n T){i:Nat}(hi:i<m)(x:Nat->Rat):sm (fun j=>T.e i j*x j) n=x (T.B i)+sm (fun j=>if sm (fun k=>if T.B k=j then(1:Rat)else 0) m=0 then T.e i j*x j else 0) n:=by
 have hb:∀j,basic m T j->sm (fun k=>if T.B k=j then(1:Rat)else 0) m=1:=by
  rintro j ⟨k,G,rfl⟩;rw[jq G fun q S J=>ug fun e=>J (h.inj S G e)];simp
 have Y:sm (fun j=>T.e i j*x j) n=sm (fun j=>if j=T.B i then x j else 0) n+sm (fun j=>if sm (fun k=>if T.B k=j then(1:Rat)else 0) m=0 then T.e i j*x j else 0) n:=by
  rw[<- kC];refine jw fun j hj=>?_
  by_cases E:basic m T j
  .have O:¬((1:Rat)=0):=by decide
   rw[hb j E,ug O];obtain⟨k,G,rfl⟩:=E;have u:=h.un i k hi G
   by_cases e:i=k
   .subst e;rw[uf rfl]at u;rw[uf rfl,u];grind
   .rw[ug e]at u
    rw[ug fun q=>e (h.inj G hi q).symm,u];grind
  .rw[jo fun k G=>ug fun e=>E ⟨k,G,e⟩,uf rfl,ug fun e=>E ⟨i,hi,e.symm⟩];grind
 rw[Y,jq (h.bn i hi) fun j _ J=>ug J];simp
theorem tX(h:Ok m n T):WX m n T (eU m T):=fun i hi=>by
 rw[Gp h hi,Gn h hi,jo fun j S=>?_]
 .grind
 .split
  .rename_i G
   rw[tY,vB];rintro ⟨k,J,rfl⟩;rw[jq J fun q O E=>ug fun e=>E (h.inj O J e)]at G;simp at G
  .rfl
theorem Vl(h:Ok m n T){x:Nat->Rat}(Y:WX m n T x)(O:∀j,j<n->¬basic m T j->x j=0):∀j,j<n->x j=eU m T j:=fun j hj=>by
 by_cases hb:basic m T j
 .obtain⟨i,hi,rfl⟩:=hb
  have h1:=Y i hi;rw[Gp h hi,jo fun q G=>?_]at h1
  .rw[Gn h hi];grind
  .split
   .rename_i E
    rw[O q G,vB];rintro ⟨k,S,rfl⟩;rw[jq S fun q G J=>ug fun e=>J (h.inj G S e)]at E;simp at E
   .rfl
 .rw[tY hb];exact O j hj hb
def gm(m:Nat)(T:Tab)(c:Nat->Rat)(j:Nat):Rat:=c j-sm (fun i=>T.e i j*c (T.B i)) m
def ob(n:Nat)(c x:Nat->Rat):Rat:=sm (fun j=>c j*x j) n
def zz(m:Nat)(T:Tab)(c:Nat->Rat):Rat:=sm (fun i=>T.b i*c (T.B i)) m
theorem nM{c x:Nat->Rat}(E:WX m n T x):ob n c x=zz m T c+ob n (gm m T c) x:=by
 have G:ob n (gm m T c) x=ob n c x-sm (fun j=>sm (fun i=>T.e i j*c (T.B i)) m*x j) n:=by
  unfold ob;rw[<- IU];exact jw fun j _=>by unfold gm;grind
 have J:sm (fun j=>sm (fun i=>T.e i j*c (T.B i)) m*x j) n=zz m T c:=by
  have:sm (fun j=>sm (fun i=>T.e i j*c (T.B i)) m*x j) n=sm (fun j=>sm (fun i=>(T.e i j*x j)*c (T.B i)) m) n:=jw fun j _=>by
   rw[Rat.mul_comm,<- jv];exact jw fun i _=>by grind
  rw[this,<- WW];unfold zz;refine jw fun i hi=>?_
  rw[<- E i hi,Rat.mul_comm,<- jv];exact jw fun j _=>by grind
 rw[G,J];grind
theorem J7(h:Ok m n T)(c:Nat->Rat){k:Nat}(E:k<m):gm m T c (T.B k)=0:=by
 unfold gm;rw[jq E fun i hi G=>by rw[h.un i k hi E,ug G];grind];rw[h.un k k E E,uf rfl];grind
theorem WY(h:Ok m n T)(c:Nat->Rat):ob n c (eU m T)=zz m T c:=by
 rw[nM (tX h)];have:ob n (gm m T c) (eU m T)=0:=jo fun j _=>by
  by_cases hb:basic m T j
  .obtain⟨i,hi,rfl⟩:=hb
   rw[J7 h c hi,Rat.zero_mul]
  .rw[tY hb,vB]
 rw[this];grind
end
end Go.Lp
