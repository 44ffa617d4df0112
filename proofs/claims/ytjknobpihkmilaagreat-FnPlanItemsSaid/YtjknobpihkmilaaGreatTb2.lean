import Derived.Test.YtjknobpihkmilaaGreatTb1
import Derived.SizedLaws
import Derived.ChangeArms
import Derived.Deep.Slices
import Derived.OpenShut
import Derived.ChangeOld
import Derived.Laws.StructEq
import Derived.Shelf.Strings.OnBuilder
import Derived.Test.YtjknobpihkmilaaGreatProg
import Derived.KernelRfl
set_option linter.unusedSimpArgs false
set_option linter.unusedVariables false
set_option linter.unusedSectionVars false
set_option linter.defProp false
set_option maxRecDepth 10000
set_option maxHeartbeats 4000000
open Go.Proofs.Tryz renaming prog->ZM
open Go.Proofs.Tryz
open Array renaming length_toList->yK,getElem?_toList->xZ
open Bool renaming and_eq_true->zM,false_eq_true->yE,true_and->xY,and_false->wY,false_and->wM,not_false->wE,not_eq_true'->vT,not_true->vH,and_true->uj
open Classical renaming byContradiction->zf
open Int renaming lt_irrefl->zi,mul_le_mul_of_nonneg_right->zS,toNat_natCast->zF,mul_le_mul_of_nonneg_left->zB,natCast_mul->yj,tdiv_eq_ediv_of_nonneg->yB,mul_add->xg,le_refl->xP,tmod_eq_emod_of_nonneg->xC,le_of_lt->x9,natAbs_natCast->wo,natAbs_neg->wC,mul_zero->vk,mul_nonneg->vV,mul_sub->uw,mul_assoc->uh,toNat_of_nonneg->uZ,natAbs_mul->uY,add_zero->uQ,sub_mul->uF
open List renaming getElem?_eq_getElem->zy,getElem_mem->zu,length_append->zo,take_of_length_le->zl,length_take->zh,eq_nil_of_length_eq_zero->zZ,mem_cons_of_mem->zY,length_cons->zV,getElem?_append_left->zU,length_map->zT,flatMap_append->zQ,mem_cons_self->zO,getElem?_append_right->zN,not_mem_nil->zK,append_nil->zH,flatMap_cons->zG,getElem_of_mem->zA,mem_append_left->z_,append_assoc->yw,mem_append_right->yh,drop_zero->yg,getElem?_map->yc,length_nil->yY,getElem?_eq_none->yX,length_singleton->yV,take_length->yT,drop_eq_getElem_cons->yS,cons_append->yR,length_set->yP,take_add_one->yL,nil_append->yJ,mem_singleton->yD,drop_of_length_le->yA,replicate_succ->xu,set_append_right->xO,map_congr_left->xM,take_left'->xG,getElem?_toArray->wU,getElem?_cons_zero->wS,mem_of_mem_take->wR,size_toArray->wO,replicate_append_replicate->wG,all_nil->w_,flatMap_nil->vw,all_cons->vY,getElem_take->vS,set_cons_zero->vC,take_append_drop->vB,mem_or_eq_of_mem_set->uz,flatMap_replicate->uV,map_cons->uN,length_range->uM,mem_of_mem_drop->uJ,set_eq_take_append_cons_drop->uG,drop_drop->uD,getElem?_cons_succ->tK
open Nat renaming le_refl->zq,not_lt_zero->zW,le_trans->zL,mul_le_mul_right->zD,zero_add->yZ,mul_one->yN,sub_self->yM,succ_mul->xq,min_eq_left->xX,lt_of_lt_of_le->xQ,lt_or_eq_of_le->xJ,div_le_self->xE,le_of_lt_succ->xA,div_div_eq_div_mul->wu,add_comm->wQ,mul_comm->wL,mod_eq_of_lt->wK,le_max_right->wJ,add_assoc->wH,zero_le->wF,add_mul->vZ,mod_lt->vX,le_max_left->vP,zero_mul->vM,div_one->vK,mul_assoc->vG,div_eq_of_lt->vF,pow_succ->uq,add_zero->uS,mul_le_mul_left->tu,div_lt_self->tJ,le_mul_of_pos_left->t_
open Option renaming bind_some->zk,map_some->zJ,getD_some->yG
open Rat renaming div_def->vJ
open Option.some renaming injEq->sW
open Prod.mk renaming injEq->sS
namespace Go.TV
open Go.RowKit
set_option linter.unusedVariables false
set_option linter.unusedSimpArgs false
variable [Known]
def CLe(c c':Call):Prop:=∀f args σ nx r,c f args σ nx=some r->c' f args σ nx=some r
section
variable {P:Program} {conv:FuncId->Conv}
theorem JI{c c':Call}(h:CLe c c'){f:FuncId}{args:List V}{σ:Store}{nx:Nat}{r:V×Store×Nat}(e:CO conv c f args σ nx=some r):CO conv c' f args σ nx=some r:=by
 unfold CO at *
 split at e
 .exact h _ _ _ _ _ e
 .split at e
  .rename_i ts ids G
   try simp only[G]
   cases E:c f ts pI 0 with
   |none=>rw[E]at e;cases e
   |some q=>rw[E]at e;rw[h _ _ _ _ _ E];exact e
  .cases e
 .split at e
  .rename_i ts ids G
   try simp only[G]
   cases E:c f ts pI nx with
   |none=>rw[E]at e;cases e
   |some q=>rw[E]at e;rw[h _ _ _ _ _ E];exact e
  .cases e
theorem Sv{c c':Call}{o:Oper}{T:Nat->V}{σ:Store}{nx:Nat}{r:V×Store×Nat}(h:∀f args σ r,CO conv c f args σ nx=some r->CO conv c' f args σ nx=some r)(e:AO P conv c o T σ nx=some r):AO P conv c' o T σ nx=some r:=by
 obtain⟨dst,op,type,pos,after,guard⟩:=o;cases op<;>simp only[AO]at e⊢ <;>first|exact e|skip
 rename_i E;obtain⟨callee,args,ts⟩:=E;cases callee with
 |value f=>
  simp only at e⊢
  split at e
  .rename_i G
   try simp only[G]
   exact h _ _ _ _ e
  .cases e
 |builtin b=>exact e
 |invoke r m=>exact e
theorem Y0{c:Call}{o:Oper}{T:Nat->V}{σ:Store}{nx:Nat}{r:V×Store×Nat}(e:AO P conv c o T σ nx=some r) :
  (∀c',AO P conv c' o T σ nx=some r)\/∃f args,CO conv c f args σ nx=some r/\∀c',CO conv c' f args σ nx=some r->AO P conv c' o T σ nx=some r:=by
 obtain⟨dst,op,type,pos,after,guard⟩:=o;cases op<;>simp only[AO]at e⊢ <;>first|exact .inl fun _=>e|skip
 rename_i E;obtain⟨callee,args,ts⟩:=E;cases callee with
 |value f=>
  simp only at e⊢
  split at e
  .rename_i G
   try simp only[G]
   exact .inr ⟨_,_,e,fun c' h=>h⟩
  .cases e
 |builtin b=>exact .inl fun _=>e
 |invoke r m=>exact .inl fun _=>e
theorem VI{c c':Call}(h:CLe c c'){o:Oper}{T:Nat->V}{σ:Store}{nx:Nat}{r:V×Store×Nat}(e:Ai P conv c o T σ nx=some r):Ai P conv c' o T σ nx=some r:=by
 unfold Ai at *
 split at e
 .rename_i F G
  try simp only[G]
  split at e
  .rename_i J
   rw[sO J];cases E:AO P conv c o T (restrict σ F) nx with
   |none=>rw[E]at e;cases e
   |some q=>rw[E]at e;rw[Sv (fun f args σ r=>JI h) E];exact e
  .cases e
 .cases e
theorem nK{c c':Call}(h:CLe c c'){ops:Array Oper}:∀(l:List Oper) (s s':St),Ci P conv c ops l s=some s'->Ci P conv c' ops l s=some s'
 |[],s,s',e=>e
 |o :: l,s,s',e=>by
  unfold Ci at *
  split at e
  .rename_i E
   try simp only[E]
   cases G:AO P conv c o s.T s.σ s.nx with
   |none=>rw[G]at e;cases e
   |some q=>
    rw[G]at e;rw[Sv (fun f args σ r=>JI h) G];exact nK h l _ _ e
  .rename_i E
   try simp only[E]
   exact nK h l _ _ e
  .cases e
theorem nO{c c':Call}(h:CLe c c'){ops:Array Oper}:∀(l:List Oper) (s:St) (r:St×List (List Nat)),BD P conv c ops l s=some r->BD P conv c' ops l s=some r
 |[],s,r,e=>e
 |o :: l,s,r,e=>by
  unfold BD at *
  split at e
  .rename_i G
   try simp only[G]
   cases J:Ai P conv c o s.T s.σ s.nx with
   |none=>rw[J]at e;cases e
   |some q=>
    rw[J]at e;rw[VI h J];simp only at e⊢;cases E:BD P conv c ops l ⟨Dc s.T o.dst q.1,q.2.1,q.2.2⟩with
    |none=>rw[E]at e;cases e
    |some O=>rw[E]at e;rw[nO h l _ _ E];exact e
  .rename_i G
   try simp only[G]
   cases E:BD P conv c ops l ⟨Dc s.T o.dst (.AX []),s.σ,s.nx⟩with
   |none=>rw[E]at e;cases e
   |some O=>rw[E]at e;rw[nO h l _ _ E];exact e
  .cases e
theorem Qs{c c':Call}(h:CLe c c'){ops:Array Oper}{s s':St}(e:CS P conv c ops s=some s'):CS P conv c' ops s=some s':=by
 unfold CS at *
 split at e
 .rename_i G
  rw[sO G];cases E:BD P conv c ops ops.toList s with
  |none=>rw[E]at e;cases e
  |some q=>rw[E]at e;rw[nO h _ _ _ E];exact e
 .cases e
noncomputable def iI(body:St->Option (Ex×St))(s:St):Option (Ex×St) :=
 open Classical in if h:∃r,∃n,BU body n s=some r then some h.choose else none
theorem KO{body:St->Option (Ex×St)}:∀(n:Nat) (s:St) (r:Ex×St),BU body n s=some r->BU body (n+1) s=some r
 |0,s,r,h=>by cases h
 |n+1,s,r,h=>by
  unfold BU at h⊢
  split at h
  .exact KO n _ r h
  .exact h
theorem ES{body:St->Option (Ex×St)}{n m:Nat}(E:n<=m){s:St}{r:Ex×St}(h:BU body n s=some r):BU body m s=some r:=by
 induction E with
 |refl=>exact h
 |step _ G=>exact KO _ _ _ G
theorem nU{body:St->Option (Ex×St)}{s:St}{r:Ex×St}:iI body s=some r↔∃n,BU body n s=some r:=by
 unfold iI;constructor
 .intro h
  split at h
  .rename_i hex
   simp only[sW]at h;subst h;exact hex.choose_spec
  .cases h
 .rintro ⟨n,hn⟩
  have hex:∃r,∃n,BU body n s=some r:=⟨r,n,hn⟩;rw[dif_pos hex];obtain⟨m,hm⟩:=hex.choose_spec;have G:=ES (vP n m) hn;have E:=ES (wJ n m) hm;rw[G]at E;exact E.symm
theorem Nr(body:St->Option (Ex×St))(s:St):iI body s=match body s with
  |some (.norm,s')=>iI body s'
  |r=>r:=by
 apply Option.ext;intro r;rw[nU];constructor
 .rintro ⟨n,hn⟩
  cases n with
  |zero=>cases hn
  |succ n=>
   unfold BU at hn;cases hb:body s with
   |none=>rw[hb]at hn;cases hn
   |some q=>
    rw[hb]at hn;obtain⟨ex,G⟩:=q;cases ex with
    |norm=>exact nU.2 ⟨n,hn⟩
    |exit id=>exact hn
    |ret=>exact hn
 .intro h
  split at h
  .rename_i s' hb
   obtain⟨n,hn⟩:=nU.1 h;exact⟨n+1,by unfold BU;simp only[hb];exact hn⟩
  .rename_i E
   refine⟨1,?_⟩;unfold BU
   split
   .rename_i s' hb;exact absurd hb (E s')
   .exact h
noncomputable def Aw(P:Program)(conv:FuncId->Conv)(call:Call):Code->St->Option (Ex×St)
 | .skip,s=>some (.norm,s)
 | .region _ ops draw,s=>match(if draw then CS P conv call ops s else Ci P conv call ops ops.toList s)with
  |some s'=>some (.norm,s')
  |none=>none
 | .seq a b,s=>match Aw P conv call a s with
  |some (.norm,s')=>Aw P conv call b s'
  |r=>r
 | .cond c a b,s=>match val s.T c with
  | .sc (.bool true)=>Aw P conv call a s
  | .sc (.bool false)=>Aw P conv call b s
  |_=>none
 | .block id c,s=>match Aw P conv call c s with
  |some (.exit j,s')=>if j=id then some (.norm,s')else some (.exit j,s')
  |r=>r
 | .loop c,s=>iI (Aw P conv call c) s
 | .exit id,s=>some (.exit id,s)
 | .ret,s=>some (.ret,s)
 |_,_=>none
theorem nT{b b':St->Option (Ex×St)}(h:∀s r,b s=some r->b' s=some r):∀(n:Nat) (s:St) (r:Ex×St),BU b n s=some r->BU b' n s=some r
 |0,s,r,e=>by cases e
 |n+1,s,r,e=>by
  unfold BU at *
  split at e
  .rename_i s' hb;simp only[h _ _ hb];exact nT h n s' r e
  .cases E:b s with
   |none=>rw[E]at e;cases e
   |some q=>
    rw[E]at e;rw[h _ _ E];obtain⟨ex,J⟩:=q;cases ex with
    |norm=>rename_i G;exact absurd E (G J)
    |exit id=>exact e
    |ret=>exact e
theorem nk{c c':Call}(h:CLe c c'){n m:Nat}(S:n<=m):∀(G:Code) (s:St) (r:Ex×St),zI P conv c n G s=some r->zI P conv c' m G s=some r:=by
 intro G
 induction G with
 |region id ops draw=>
  intro s r e;simp only[zI]at *;cases draw with
  |true=>
   simp only[if_true]at *;cases E:CS P conv c ops s with
   |none=>rw[E]at e;cases e
   |some q=>rw[E]at e;rw[Qs h E];exact e
  |false=>
   simp only[yE,if_false]at *;cases E:Ci P conv c ops ops.toList s with
   |none=>rw[E]at e;cases e
   |some q=>rw[E]at e;rw[nK h _ _ _ E];exact e
 |seq a b J O=>
  intro s r e;simp only[zI]at *;cases E:zI P conv c n a s with
  |none=>rw[E]at e;cases e
  |some q=>
   rw[E]at e;rw[J _ _ E];obtain⟨ex,s1⟩:=q;cases ex<;>first|exact O _ _ e|exact e
 |cond v a b J O=>
  intro s r e;simp only[zI]at *
  split at e
  .exact J _ _ e
  .exact O _ _ e
  .cases e
 |block id G Y=>
  intro s r e;simp only[zI]at *;cases E:zI P conv c n G s with
  |none=>rw[E]at e;cases e
  |some q=>rw[E]at e;rw[Y _ _ E];exact e
 |loop G Y=>
  intro s r e;simp only[zI]at *;exact ES S (nT (fun s r=>Y s r) n s r e)
 |skip=>intro s r e;exact e
 |exit id=>intro s r e;exact e
 |ret=>intro s r e;exact e
 |_=>intro s r e;simp only[zI]at e;cases e
theorem Y1{c c':Call}(h:CLe c c'){n:Nat}:∀(G:Code) (s:St) (r:Ex×St),zI P conv c n G s=some r->Aw P conv c' G s=some r:=by
 intro G
 induction G with
 |region id ops draw=>
  intro s r e;simp only[zI,Aw]at *;cases draw with
  |true=>
   simp only[if_true]at *;cases E:CS P conv c ops s with
   |none=>rw[E]at e;cases e
   |some q=>rw[E]at e;rw[Qs h E];exact e
  |false=>
   simp only[yE,if_false]at *;cases E:Ci P conv c ops ops.toList s with
   |none=>rw[E]at e;cases e
   |some q=>rw[E]at e;rw[nK h _ _ _ E];exact e
 |seq a b J O=>
  intro s r e;simp only[zI,Aw]at *;cases E:zI P conv c n a s with
  |none=>rw[E]at e;cases e
  |some q=>
   rw[E]at e;rw[J _ _ E];obtain⟨ex,s1⟩:=q;cases ex<;>first|exact O _ _ e|exact e
 |cond v a b J O=>
  intro s r e;simp only[zI,Aw]at *
  split at e
  .rename_i S;simp only[S];exact J _ _ e
  .rename_i S;simp only[S];exact O _ _ e
  .cases e
 |block id G Y=>
  intro s r e;simp only[zI,Aw]at *;cases E:zI P conv c n G s with
  |none=>rw[E]at e;cases e
  |some q=>rw[E]at e;rw[Y _ _ E];exact e
 |loop G Y=>
  intro s r e;simp only[zI,Aw]at *;exact nU.2 ⟨n,nT (fun s r=>Y s r) n s r e⟩
 |skip=>intro s r e;exact e
 |exit id=>intro s r e;exact e
 |ret=>intro s r e;exact e
 |_=>intro s r e;simp only[zI]at e;cases e
def Chain(C:Nat->Call):Prop:=∀k,CLe (C k) (C (k+1))
theorem Chain.le{C:Nat->Call}(h:Chain C){k m:Nat}(E:k<=m):CLe (C k) (C m):=by
 induction E with
 |refl=>exact fun _ _ _ _ _ e=>e
 |step _ G=>exact fun f args σ nx r e=>h _ f args σ nx r (G f args σ nx r e)
noncomputable def sup(C:Nat->Call):Call:=fun f args σ nx=>
 open Classical in if h:∃r,∃k,C k f args σ nx=some r then some h.choose else none
theorem aK{C:Nat->Call}(E:Chain C){f:FuncId}{args:List V}{σ:Store}{nx:Nat}{r:V×Store×Nat}:sup C f args σ nx=some r↔∃k,C k f args σ nx=some r:=by
 unfold sup;constructor
 .intro h
  split at h
  .rename_i hex
   simp only[sW]at h;subst h;exact hex.choose_spec
  .cases h
 .rintro ⟨n,hn⟩
  have hex:∃r,∃k,C k f args σ nx=some r:=⟨r,n,hn⟩;rw[dif_pos hex];obtain⟨m,hm⟩:=hex.choose_spec;have J:=E.le (vP n m) _ _ _ _ _ hn;have G:=E.le (wJ n m) _ _ _ _ _ hm;rw[J]at G;exact G.symm
theorem Y2{C:Nat->Call}(G:Chain C){f:FuncId}{args:List V}{σ:Store}{nx:Nat}{r:V×Store×Nat}(e:CO conv (sup C) f args σ nx=some r):∃k,CO conv (C k) f args σ nx=some r:=by
 unfold CO at *
 split at e
 .exact(aK G).1 e
 .split at e
  .rename_i ts ids J
   try simp only[J]
   cases E:sup C f ts pI 0 with
   |none=>rw[E]at e;cases e
   |some q=>
    obtain⟨k,O⟩:=(aK G).1 E;rw[E]at e;exact⟨k,by rw[O];exact e⟩
  .cases e
 .split at e
  .rename_i ts ids J
   try simp only[J]
   cases E:sup C f ts pI nx with
   |none=>rw[E]at e;cases e
   |some q=>
    obtain⟨k,O⟩:=(aK G).1 E;rw[E]at e;exact⟨k,by rw[O];exact e⟩
  .cases e
theorem VJ{C:Nat->Call}(E:Chain C){o:Oper}{T:Nat->V}{σ:Store}{nx:Nat}{r:V×Store×Nat}(e:AO P conv (sup C) o T σ nx=some r):∃k,AO P conv (C k) o T σ nx=some r:=by
 rcases Y0 e with h|⟨f,args,G,J⟩
 .exact⟨0,h _⟩
 .obtain⟨k,O⟩:=Y2 E G
  exact⟨k,J _ O⟩
theorem adI{C:Nat->Call}(G:Chain C){o:Oper}{T:Nat->V}{σ:Store}{nx:Nat}{r:V×Store×Nat}(e:Ai P conv (sup C) o T σ nx=some r):∃k,Ai P conv (C k) o T σ nx=some r:=by
 unfold Ai at *
 split at e
 .rename_i F J
  try simp only[J]
  split at e
  .rename_i O
   simp only[O,if_true];cases E:AO P conv (sup C) o T (restrict σ F) nx with
   |none=>rw[E]at e;cases e
   |some q=>
    obtain⟨k,S⟩:=VJ G E;rw[E]at e;exact⟨k,by rw[S];exact e⟩
  .cases e
 .cases e
theorem JJ{C:Nat->Call}(E:Chain C){ops:Array Oper}:∀(l:List Oper) (s s':St),Ci P conv (sup C) ops l s=some s'->∃k,Ci P conv (C k) ops l s=some s'
 |[],s,s',e=>⟨0,e⟩
 |o :: l,s,s',e=>by
  unfold Ci at e
  split at e
  .rename_i G
   cases J:AO P conv (sup C) o s.T s.σ s.nx with
   |none=>rw[J]at e;cases e
   |some q=>
    rw[J]at e;obtain⟨k,O⟩:=VJ E J;obtain⟨m,hm⟩:=JJ E l _ _ e;refine⟨max k m,?_⟩;unfold Ci;simp only[G,Sv (fun f args σ r=>JI (E.le (vP k m))) O];exact nK (E.le (wJ k m)) _ _ _ hm
  .rename_i G
   obtain⟨m,hm⟩:=JJ E l _ _ e;exact⟨m,by unfold Ci;simp only[G];exact hm⟩
  .cases e
theorem nN{C:Nat->Call}(G:Chain C){ops:Array Oper}:∀(l:List Oper) (s:St) (r:St×List (List Nat)),BD P conv (sup C) ops l s=some r->∃k,BD P conv (C k) ops l s=some r
 |[],s,r,e=>⟨0,e⟩
 |o :: l,s,r,e=>by
  unfold BD at e
  split at e
  .rename_i J
   cases O:Ai P conv (sup C) o s.T s.σ s.nx with
   |none=>rw[O]at e;cases e
   |some q=>
    rw[O]at e;simp only at e;cases E:BD P conv (sup C) ops l ⟨Dc s.T o.dst q.1,q.2.1,q.2.2⟩with
    |none=>rw[E]at e;cases e
    |some S=>
     rw[E]at e;obtain⟨k,Y⟩:=adI G O;obtain⟨m,hm⟩:=nN G l _ _ E;refine⟨max k m,?_⟩;unfold BD;simp only[J,VI (G.le (vP k m)) Y,nO (G.le (wJ k m)) _ _ _ hm];exact e
  .rename_i J
   cases E:BD P conv (sup C) ops l ⟨Dc s.T o.dst (.AX []),s.σ,s.nx⟩with
   |none=>rw[E]at e;cases e
   |some S=>
    rw[E]at e;obtain⟨m,hm⟩:=nN G l _ _ E;refine⟨m,?_⟩;unfold BD;simp only[J,hm];exact e
  .cases e
theorem Y3{C:Nat->Call}(G:Chain C){ops:Array Oper}{s s':St}(e:CS P conv (sup C) ops s=some s'):∃k,CS P conv (C k) ops s=some s':=by
 unfold CS at *
 split at e
 .rename_i J
  simp only[J,if_true];cases E:BD P conv (sup C) ops ops.toList s with
  |none=>rw[E]at e;cases e
  |some q=>
   obtain⟨k,O⟩:=nN G _ _ _ E;rw[E]at e;exact⟨k,by rw[O];exact e⟩
 .cases e
theorem Ns{B:Nat->St->Option (Ex×St)}{b:St->Option (Ex×St)}(E:∀k m,k<=m->∀s r,B k s=some r->B m s=some r)(h:∀s r,b s=some r->∃k,B k s=some r) :
  ∀(n:Nat) (s:St) (r:Ex×St),BU b n s=some r->∃k,BU (B k) n s=some r
 |0,s,r,e=>by cases e
 |n+1,s,r,e=>by
  unfold BU at e
  split at e
  .rename_i s' hb
   obtain⟨k,G⟩:=h _ _ hb;obtain⟨m,hm⟩:=Ns E h n s' r e;refine⟨max k m,?_⟩;unfold BU;simp only[E k _ (vP k m) _ _ G];exact nT (E m _ (wJ k m)) n s' r hm
  .rename_i J
   obtain⟨k,G⟩:=h _ _ e;refine⟨k,?_⟩;unfold BU;rw[G];obtain⟨ex,O⟩:=r;cases ex with
   |norm=>exact absurd e (J O)
   |exit id=>rfl
   |ret=>rfl
theorem VK{C:Nat->Call}(Y:Chain C):∀(J:Code) (s:St) (r:Ex×St),Aw P conv (sup C) J s=some r->∃k,zI P conv (C k) k J s=some r:=by
 intro J
 induction J with
 |region id ops draw=>
  intro s r e;simp only[zI,Aw]at *;cases draw with
  |true=>
   simp only[if_true]at *;cases E:CS P conv (sup C) ops s with
   |none=>rw[E]at e;cases e
   |some q=>obtain⟨k,G⟩:=Y3 Y E;rw[E]at e;exact⟨k,by rw[G];exact e⟩
  |false=>
   simp only[yE,if_false]at *;cases E:Ci P conv (sup C) ops ops.toList s with
   |none=>rw[E]at e;cases e
   |some q=>obtain⟨k,G⟩:=JJ Y _ _ _ E;rw[E]at e;exact⟨k,by rw[G];exact e⟩
 |seq a b O S=>
  intro s r e;simp only[zI,Aw]at *;cases E:Aw P conv (sup C) a s with
  |none=>rw[E]at e;cases e
  |some q=>
   rw[E]at e;obtain⟨k,G⟩:=O _ _ E;obtain⟨ex,s1⟩:=q;cases ex with
   |norm=>
    obtain⟨m,hm⟩:=S _ _ e;exact⟨max k m,by rw[nk (Y.le (vP k m)) (vP k m) _ _ _ G];exact nk (Y.le (wJ k m)) (wJ k m) _ _ _ hm⟩
   |exit id=>exact⟨k,by rw[G];exact e⟩
   |ret=>exact⟨k,by rw[G];exact e⟩
 |cond v a b O S=>
  intro s r e;simp only[zI,Aw]at *
  split at e
  .rename_i hv;simp only[hv];exact O _ _ e
  .rename_i hv;simp only[hv];exact S _ _ e
  .cases e
 |block id J ih=>
  intro s r e;simp only[zI,Aw]at *;cases E:Aw P conv (sup C) J s with
  |none=>rw[E]at e;cases e
  |some q=>obtain⟨k,G⟩:=ih _ _ E;rw[E]at e;exact⟨k,by rw[G];exact e⟩
 |loop J ih=>
  intro s r e;simp only[zI,Aw]at *;obtain⟨n,hn⟩:=nU.1 e;obtain⟨k,G⟩:=Ns (B:=fun k=>zI P conv (C k) k J) (fun k m a1 s r=>nk (Y.le a1) a1 J s r) (fun s r h=>ih s r h) n s r hn;refine⟨max n k,?_⟩;exact ES (vP n k) (nT (fun s r=>nk (Y.le (wJ n k)) (wJ n k) J s r) n s r G)
 |skip=>intro s r e;exact⟨0,e⟩
 |exit id=>intro s r e;exact⟨0,e⟩
 |ret=>intro s r e;exact⟨0,e⟩
 |_=>intro s r e;simp only[Aw]at e;cases e
theorem adJ{c c':Call}(h:CLe c c'){n m:Nat}(E:n<=m){fn:Func}{body:Code}{args:List V}{σ:Store}{nx:Nat}{r:V×Store×Nat}(e:GU P conv c n fn body args σ nx=some r):GU P conv c' m fn body args σ nx=some r:=by
 unfold GU at *;cases G:zI P conv c n body ⟨DW args,σ,nx⟩with
 |none=>rw[G]at e;cases e
 |some q=>rw[G]at e;rw[nk h E _ _ _ G];exact e
theorem nZ(ext:Ext):Chain (evF P conv ext):=by
 intro k
 induction k with
 |zero=>intro f args σ nx r e;cases e
 |succ k G=>
  intro f args σ nx r e;unfold evF at e⊢
  split at e
  .exact e
  .rename_i J
   split at e
   .rename_i fn O
    try simp only[J]
    split at e
    .rename_i body hb
     try simp only[hb]
     split at e
     .rename_i E
      rw[sO E];exact adJ G (Nat.le_succ k) e
     .cases e
    .cases e
   .cases e
noncomputable def ev(P:Program)(conv:FuncId->Conv)(ext:Ext):Call:=sup (evF P conv ext)
theorem mg(hm:P.follows .mixedOrders=true){ext:Ext}(E:Iw P ext):DX P (ev P conv ext):=fun f args σ nx v σ' nx' h=>by
 obtain⟨k,G⟩:=(aK (nZ ext)).1 h;exact Qr hm E k f args σ nx v σ' nx' G
noncomputable def VL(P:Program)(conv:FuncId->Conv)(call:Call)(rs:List ResultVar)(body:Code)(s:St):KF :=
 match Aw P conv call body s with
 |some (.norm,st)=>match Ag P st.T st.σ rs with
  |some vs=>some (oneOf vs,st.σ,st.nx)
  |none=>none
 |some (.ret,st)=>match Ag P st.T st.σ rs with
  |some vs=>some (oneOf vs,st.σ,st.nx)
  |none=>none
 |_=>none
theorem n_{ext:Ext}{f:FuncId}{g:List V->Store->Nat->KF}(G:ext f=some g)(args:List V)(σ:Store)(nx:Nat):ev P conv ext f args σ nx=g args σ nx:=by
 apply Option.ext;intro r;unfold ev;rw[aK (nZ ext)];constructor
 .rintro ⟨k,E⟩
  cases k with
  |zero=>cases E
  |succ k=>unfold evF at E;simpa only[G]using E
 .intro h
  exact⟨1,by unfold evF;simpa only[G]using h⟩
theorem ank{ext:Ext}{f:FuncId}{fn:Func}{body:Code}{rs:List ResultVar}(O:ext f=none)(S:P.funcs[f]?=some fn)(hb:fn.body=some body)(Y:fn.results.toList=rs){args:List V}(J:VA fn body args.length=true)(σ:Store)(nx:Nat) :
  ev P conv ext f args σ nx=VL P conv (ev P conv ext) rs body ⟨DW args,σ,nx⟩:=by
 apply Option.ext;intro r;unfold ev;rw[aK (nZ ext)];constructor
 .rintro ⟨k,E⟩
  cases k with
  |zero=>cases E
  |succ k=>
   unfold evF at E;simp only[O,S,hb,J,if_true]at E;unfold GU at E;unfold VL;cases G:zI P conv (evF P conv ext k) k body ⟨DW args,σ,nx⟩with
   |none=>rw[G]at E;cases E
   |some q=>
    rw[G]at E;rw[Y1 (c':=sup (evF P conv ext)) (fun f args σ nx r e=>(aK (nZ ext)).2 ⟨k,e⟩) _ _ _ G,<- Y];exact E
 .intro h
  unfold VL at h;cases G:Aw P conv (sup (evF P conv ext)) body ⟨DW args,σ,nx⟩with
  |none=>rw[G]at h;cases h
  |some q=>
   rw[G]at h;obtain⟨k,E⟩:=VK (nZ ext) _ _ _ G;refine⟨k+1,?_⟩;unfold evF;simp only[O,S,hb,J,if_true];unfold GU;rw[E,Y];exact h
end
end Go.TV
namespace Go.TV
set_option linter.unusedVariables false
set_option linter.unusedSimpArgs false
variable [Known]
structure TyI where
 ok:Bool
 agg:Bool
 size:Nat
 zero:List V
 slice:Bool
 str:Bool
 ptr:Bool
 Hf:Nat
 Sz:Nat
 Es:List V
 SA:Bool
 af9:List (Nat×Nat×Option Bool)
 plc:List (Nat×Nat)
 bok:Bool
 u8:Bool
def zeroV(i:TypeInfo):List V :=
 match i.zero with
 |some z=>if z.cells.size=i.size then z.cells.toList.map BQ else []
 |none=>[]
def JK(i:TypeInfo):Bool :=
 match i.zero with
 |some z=>z.cells.size=i.size
 |none=>false
def arJ(P:Program)(t:TypeId):Option Bool:=(P.underlying t).map Hy
def xI(P:Program)(t:TypeId):TyI :=
 match P.info? t,P.underlying t with
 |some i,some d=>
  let e:=match d with
   | .slice e=>P.info? e
   |_=>none
  {ok:=true,agg:=Hy d,size:=i.size,zero:=if JK i then zeroV i else [],slice:=d matches .slice _,str:=d matches .string,ptr:=d matches .pointer _,
   Hf:=(e.map (·.size)).getD 0,Sz:=(e.map (·.bytes)).getD 0,Es:=(e.map zeroV).getD [],SA:=(e.map JK).getD false,
   af9:=match d with
    | .struct fs=>fs.toList.map fun f=>(f.offset,((P.info? f.type).map (·.size)).getD 0,(arJ P f.type))
    |_=>[]
   plc:=match d with
    | .struct fs=>((wI P (fs.mapM fun f=>do pure (f.offset,<- sizeOf f.type))).map (·.toList)).getD []
    |_=>[]
   bok:=match d with
    | .struct fs=>(wI P (fs.mapM fun f=>do pure (f.offset,<- sizeOf f.type))).isSome && JK i
    |_=>false
   u8:=match d with
    | .slice e=>(P.underlying e matches some (.int .u8)) && ((P.info? e).map (·.size))==some 1
    |_=>false }
 |_,_=>⟨false,false,0,[],false,false,false,0,0,[],false,[],[],false,false⟩
section
variable {P:Program} {conv:FuncId->Conv} {call:Call} {σ:Store} {nx:Nat}
theorem Zo{t:TypeId}(h:(xI P t).ok=true):∃i d,P.info? t=some i/\P.underlying t=some d/\(xI P t).agg=Hy d/\(xI P t).size=i.size:=by
 unfold xI at h⊢;cases hi:P.info? t with
 |none=>simp[hi]at h
 |some i=>
  cases E:P.underlying t with
  |none=>simp[hi,E]at h
  |some d=>exact⟨i,d,rfl,rfl,rfl,rfl⟩
theorem Zn{t:TypeId}(h:(xI P t).slice=true)(E:(xI P t).SA=true):∃e i z,P.underlying t=some (.slice e)/\P.info? e=some i/\i.zero=some z/\z.cells.size=i.size/\(xI P t).Hf=i.size/\(xI P t).Sz=i.bytes/\(xI P t).Es=z.cells.toList.map BQ:=by
 unfold xI at h E⊢;cases hi:P.info? t with
 |none=>simp[hi]at h
 |some i=>
  cases O:P.underlying t with
  |none=>simp[hi,O]at h
  |some d=>
   simp only[hi,O]at h E⊢;cases d<;>simp at h;rename_i e;simp only at E⊢;cases G:P.info? e with
   |none=>simp[G]at E
   |some S=>
    simp only[G,zJ,yG]at E⊢;unfold JK at E;cases J:S.zero with
    |none=>simp[J]at E
    |some z=>
     simp only[J,decide_eq_true_eq]at E;exact⟨e,S,z,rfl,G,J,E,rfl,rfl,by simp[zeroV,J,E]⟩
theorem adK{t:TypeId}{row:List V}{off:Nat}(h:(xI P t).ok=true)(ha:(xI P t).agg=false):AZ P σ t (.tp row off)=row[off]?:=by
 obtain⟨i,d,J,O,E,S⟩:=Zo h;rw[ha]at E;unfold AZ;simp only[J,O,<- E,yE,if_false,DN]
 by_cases G:off<row.length
 .rw[sO (by omega),zy G]
  have:(row.drop off).take 1=[row[off]]:=by
   rw[yS G];rfl
  rw[this]
 .rw[sQ (by omega),yX (by omega)]
theorem Y4{t:TypeId}{row:List V}{off:Nat}(h:(xI P t).ok=true)(ha:(xI P t).agg=true):AZ P σ t (.tp row off)=if off+(xI P t).size<=row.length then some (.agg ((row.drop off).take (xI P t).size))else none:=by
 obtain⟨i,d,G,J,E,O⟩:=Zo h;rw[ha]at E;unfold AZ;simp only[G,J,<- E,if_true,DN,O]
 split<;>rfl
theorem adL{t:TypeId}{b off:Nat}(h:(xI P t).ok=true)(ha:(xI P t).agg=false):AZ P σ t (.rp b off)=(σ b).bind fun B=>B.cells[off]?:=by
 obtain⟨i,d,J,O,E,S⟩:=Zo h;rw[ha]at E;unfold AZ;simp only[J,O,<- E,yE,if_false,DN];cases σ b with
 |none=>rfl
 |some B=>
  simp only[zk]
  by_cases G:off<B.cells.length
  .rw[sO (by omega),zy G]
   have:(B.cells.drop off).take 1=[B.cells[off]]:=by
    rw[yS G];rfl
   rw[this]
  .rw[sQ (by omega),yX (by omega)]
theorem Y5{t:TypeId}{b off:Nat}(h:(xI P t).ok=true)(ha:(xI P t).agg=true):AZ P σ t (.rp b off)=(σ b).bind fun B=>if off+(xI P t).size<=B.cells.length then some (.agg ((B.cells.drop off).take (xI P t).size))else none:=by
 obtain⟨i,d,G,J,E,O⟩:=Zo h;rw[ha]at E;unfold AZ;simp only[G,J,<- E,if_true,DN,O];cases σ b with
 |none=>rfl
 |some B=>simp only[zk];split<;>rfl
theorem Y6{t:TypeId}{b off:Nat}{v:V}(h:(xI P t).ok=true)(hc:vI v=true)(hs:(xI P t).size=1):Dv P σ t (.rp b off) v=(σ b).bind fun B=>if B.wr=true/\off<B.cells.length then some (upd σ b (some { B with cells:=B.cells.set off v }))else none:=by
 obtain⟨i,d,G,O,S,E⟩:=Zo h;rw[hs]at E;have J:cellsOfV v=some [v]:=by cases v<;>simp_all [cellsOfV,vI]
 unfold Dv;simp only[G,J,<- E,yV,vY,w_,hc,uj,and_true,true_and,patch];cases σ b with
 |none=>rfl
 |some B=>simp only[zk];rfl
theorem VN{t:TypeId}{b off:Nat}{vs:List V}(h:(xI P t).ok=true):Dv P σ t (.rp b off) (.agg vs)=(σ b).bind fun B=>if B.wr=true/\vs.length=(xI P t).size/\off+vs.length<=B.cells.length/\vs.all vI=true then some (upd σ b (some { B with cells:=patch B.cells off vs }))else none:=by
 obtain⟨i,d,E,J,O,G⟩:=Zo h;unfold Dv;simp only[E,G,cellsOfV];cases σ b with
 |none=>rfl
 |some B=>simp only[zk]
theorem Qu{t:TypeId}{f:Nat}(h:(xI P t).ok=true) :
  (∃fields fd,P.underlying t=some (.struct fields)/\fields[f]?=some fd/\(xI P t).af9[f]?=some (fd.offset,((P.info? fd.type).map (·.size)).getD 0,arJ P fd.type)) \/
  ((xI P t).af9[f]?=none/\∀fields,P.underlying t=some (.struct fields)->fields[f]?=none):=by
 obtain⟨i,d,J,O,S,Y⟩:=Zo h;unfold xI;simp only[J,O];cases d<;>try (refine .inr ⟨rfl,fun fields e=>by cases e⟩)
 rename_i E;simp only[yc,xZ];cases G:E[f]? with
 |none=>exact .inr ⟨rfl,fun fields e=>by cases e;exact G⟩
 |some fd=>exact .inl ⟨E,fd,rfl,G,rfl⟩
theorem Y7{t:TypeId}{row:List V}{off f:Nat}(h:(xI P t).ok=true):BL P t (.tp row off) f=((xI P t).af9[f]?).bind fun p=>if p.2.1=0 then none else some (.tp row (off+p.1)):=by
 rcases Qu (f:=f) h with ⟨fields,fd,E,G,J⟩|⟨E,G⟩
 .unfold BL
  simp only[E,G,J,zk];cases P.info? fd.type<;>rfl
 .unfold BL
  rw[E];cases hu:P.underlying t with
  |none=>rfl
  |some d=>cases d<;>first|(simp;done)|(rename_i O;simp[G O hu])
theorem Y8{t:TypeId}{b off f:Nat}(h:(xI P t).ok=true):BL P t (.rp b off) f=((xI P t).af9[f]?).bind fun p=>if p.2.1=0 then none else some (.rp b (off+p.1)):=by
 rcases Qu (f:=f) h with ⟨fields,fd,E,G,J⟩|⟨E,G⟩
 .unfold BL
  simp only[E,G,J,zk];cases P.info? fd.type<;>rfl
 .unfold BL
  rw[E];cases hu:P.underlying t with
  |none=>rfl
  |some d=>cases d<;>first|(simp;done)|(rename_i O;simp[G O hu])
theorem Y9{t:TypeId}{row:List V}{len:Nat}{k:IntKind}{i:Int}(h:(xI P t).slice=true)(E:(xI P t).SA=true):CQ P t (.ts row len) (.sc (.int k i))=if 0<=i/\i<len/\row≠[]then some (.tp row (i.toNat *(xI P t).Hf))else none:=by
 obtain⟨e,S,z,G,J,_,_,O,_,_⟩:=Zn h E;unfold CQ;simp only[G,J,O]
theorem Y_{t:TypeId}{b off len:Nat}{k:IntKind}{i:Int}(h:(xI P t).slice=true)(E:(xI P t).SA=true):CQ P t (.rs b off len) (.sc (.int k i))=if 0<=i/\i<len then some (.rp b (off+i.toNat *(xI P t).Hf))else none:=by
 obtain⟨e,S,z,G,J,_,_,O,_,_⟩:=Zn h E;unfold CQ;simp only[G,J,O]
theorem adM{t:TypeId}{l c:Int}(h:(xI P t).slice=true)(J:(xI P t).SA=true)(E:decide ((xI P t).Hf<1000000)=true):EZ P t (.sc (.int .i64 l)) (.sc (.int .i64 c)) σ nx=
  if 0<=l/\l<=c/\((xI P t).Sz:Int)*c<=281474976710656/\c<=9223372036854775807/\0<(xI P t).Hf then some (.rs nx 0 l.toNat,Au σ nx (rep l.toNat (xI P t).Es) (xI P t).Hf,nx+1)else none:=by
 obtain⟨e,ei,z,O,S,Y,h4,G,h6,h7⟩:=Zn h J;unfold EZ;rw[decide_eq_true_eq]at E;simp only[G]at E;simp only[O,S,Y,G,h6,h7,h4,and_true,E]
theorem ny{t:TypeId}{len:Nat}{parts:List (Nat×V)}(h:(xI P t).slice=true)(G:(xI P t).SA=true):Cc P t len parts σ nx=
  if len=0 then some (.nil,σ,nx)else if 0<(xI P t).Hf/\len*(xI P t).Hf<=1000 then
   match CV (fun j=>some (j*(xI P t).Hf,(xI P t).Hf)) (rep len (xI P t).Es) parts with
   |some cells=>some (.rs nx 0 len,Au σ nx cells (xI P t).Hf,nx+1)
   |none=>none
  else none:=by
 obtain⟨e,E,z,J,O,S,Y,h5,h6,h7⟩:=Zn h G;unfold Cc;simp only[J,O,S,h5,h6,h7,Y,and_true];cases CV (fun j=>some (j*E.size,E.size)) (rep len (z.cells.toList.map BQ)) parts<;>rfl
theorem ZA{t:TypeId}{parts:List (Nat×V)}(h:(xI P t).bok=true):Gh P t parts=(CV (fun i=>(xI P t).plc[i]?) (xI P t).zero parts).map .agg:=by
 unfold xI at h⊢;cases hi:P.info? t with
 |none=>simp[hi]at h
 |some i=>
  cases G:P.underlying t with
  |none=>simp[hi,G]at h
  |some d=>
   simp only[hi,G]at h⊢;cases d<;>simp only[yE]at h;rename_i S;rw[zM]at h;obtain⟨O,E⟩:=h;simp only[E,if_true];cases hm:wI P (S.mapM fun f=>do pure (f.offset,<- sizeOf f.type))with
   |none=>rw[hm]at O;cases O
   |some a=>
    unfold JK at E;cases J:i.zero with
    |none=>simp[J]at E
    |some z=>
     simp only[J,decide_eq_true_eq]at E;unfold Gh places;simp only[hi,G,hm,zJ,yG,J,zeroV,E,if_true,xZ]
theorem VO{t:TypeId}{s x:V}(h:(xI P t).slice=true)(J:(xI P t).SA=true)(hs:decide (0<(xI P t).Hf)=true)(E:decide ((xI P t).Hf<1000000)=true):Ec P #[t,t] s x σ nx=
  (rowOf σ (xI P t).Hf x).bind fun p=>Ah σ nx (xI P t).Hf (xI P t).Sz s p.1 p.2:=by
 obtain⟨e,O,z,S,Y,h3,h4,G,h6,h7⟩:=Zn h J;rw[G]at hs E;simp only[decide_eq_true_eq]at hs E;unfold Ec;simp only[wU,wS,tK,S,beq_self_eq_true,Y,h3,G,h6,h4,hs,E,and_self,if_true];cases rowOf σ O.size x<;>rfl
def H9(σ:Store)(nx:Nat)(row:List V)(m:Nat):V->KF
 | .rs b off len=>if min m len=0 then some (.sc (.int .i64 0),σ,nx)else(σ b).bind fun B=>
   if B.wr=true/\off+min m len<=B.cells.length/\(row.take (min m len)).all vI=true then
    some (.sc (.int .i64 (min m len:Nat)),upd σ b (some { B with cells:=patch B.cells off (row.take (min m len)) }),nx)else none
 | .nil=>some (.sc (.int .i64 0),σ,nx)
 |_=>none
def ET(σ:Store)(nx:Nat)(z:List V):V->KF
 | .rs b off len=>if len=0 then some (.AX [],σ,nx)else(σ b).bind fun B=>
   if B.wr=true/\off+len<=B.cells.length/\(rep len z).all vI=true then
    some (.AX [],upd σ b (some { B with cells:=patch B.cells off (rep len z) }),nx)else none
 | .nil=>some (.AX [],σ,nx)
 | .ts _ len=>if len=0 then some (.AX [],σ,nx)else none
 |_=>none
theorem adN{t t2:TypeId}{d x:V}(h:(xI P t).slice=true)(E:(xI P t).SA=true)(hs:(xI P t).Hf=1):GR P #[t,t2] d x σ nx=(rowOf σ 1 x).bind fun p=>H9 σ nx p.1 p.2 d:=by
 obtain⟨e,S,z,G,J,Y,h4,O,h6,h7⟩:=Zn h E;rw[O]at hs;unfold GR H9;simp only[wU,wS,G,J];cases rowOf σ 1 x with
 |none=>rfl
 |some p=>
  obtain⟨row,m⟩:=p;simp only[hs,wO,zV,yY,zk];rw[sO ⟨trivial,trivial⟩];cases d<;>try rfl
  rename_i b off len;simp only
  split
  .rfl
  .cases σ b<;>rfl
theorem ZC{t:TypeId}{d:V}(h:(xI P t).slice=true)(E:(xI P t).SA=true)(hs:(xI P t).Hf=1):Gj P #[t] d σ nx=ET σ nx (xI P t).Es d:=by
 obtain⟨e,ei,z,G,J,O,S,Y,h6,h7⟩:=Zn h E;rw[Y]at hs;unfold Gj ET;rw[h7];simp only[wU,wS,G,J,O,S,hs];rw[sO ⟨trivial,trivial⟩];cases d<;>try rfl
 rename_i b off len;simp only
 split
 .rfl
 .cases σ b<;>rfl
theorem VP{t:TypeId}{row:List V}{len:Nat}(h:(xI P t).slice=true):DI P t (.ts row len)=some (.sc (.int .i64 len)):=by
 unfold xI at h;cases hi:P.info? t with
 |none=>simp[hi]at h
 |some i=>
  cases E:P.underlying t with
  |none=>simp[hi,E]at h
  |some d=>simp only[hi,E]at h;cases d<;>simp at h;simp[DI,E]
theorem nV{t:TypeId}{b off len:Nat}(h:(xI P t).slice=true):DI P t (.rs b off len)=some (.sc (.int .i64 len)):=by
 unfold xI at h;cases hi:P.info? t with
 |none=>simp[hi]at h
 |some i=>
  cases E:P.underlying t with
  |none=>simp[hi,E]at h
  |some d=>simp only[hi,E]at h;cases d<;>simp at h;simp[DI,E]
theorem nX{t:TypeId}(h:(xI P t).slice=true):DI P t .nil=some (.sc (.int .i64 0)):=by
 unfold xI at h;cases hi:P.info? t with
 |none=>simp[hi]at h
 |some i=>
  cases E:P.underlying t with
  |none=>simp[hi,E]at h
  |some d=>simp only[hi,E]at h;cases d<;>simp at h;simp[DI,E]
theorem L_{t:TypeId}(h:(xI P t).str=true):P.underlying t=some .string:=by
 unfold xI at h;cases hi:P.info? t with
 |none=>simp[hi]at h
 |some i=>
  cases E:P.underlying t with
  |none=>simp[hi,E]at h
  |some d=>simp only[hi,E]at h;cases d<;>simp at h;rfl
theorem adO{t:TypeId}{s:ByteArray}(h:(xI P t).str=true):DI P t (.sc (.string s))=some (.sc (.int .i64 s.size)):=by
 simp[DI,L_ h]
theorem adP{t:TypeId}{s:ByteArray}{k:IntKind}{i:Int}(h:(xI P t).str=true):He P t (.sc (.string s)) (.sc (.int k i))=(if 0<=i then s[i.toNat]? else none).map fun b=> .sc (.int .u8 b.toNat):=by
 unfold He;simp only[L_ h]
 split<;>rename_i e<;>rw[e]<;>rfl
theorem VQ{t:TypeId}{s:ByteArray}{lo hi:Option V}(h:(xI P t).str=true):AY P t (.sc (.string s)) lo hi none σ=(bnd lo 0).bind fun l=>(bnd hi s.size).bind fun h=>if l<=h/\h<=s.size then some (.sc (.string (s.extract l h)))else none:=by
 unfold AY;simp only[L_ h];cases bnd lo 0<;>cases bnd hi s.size<;>rfl
theorem ZE{t:TypeId}{row:List V}{len:Nat}{lo hi:Option V}(h:(xI P t).slice=true)(E:(xI P t).SA=true):AY P t (.ts row len) lo hi none σ=(bnd lo 0).bind fun l=>(bnd hi len).bind fun h=>if l<=h/\h<=len then some (.ts ((row.drop (l*(xI P t).Hf)).take ((h-l)*(xI P t).Hf)) (h-l))else none:=by
 obtain⟨e,S,z,G,J,Y,h4,O,h6,h7⟩:=Zn h E;unfold AY;simp only[G,J,O];cases bnd lo 0<;>cases bnd hi len<;>rfl
theorem ZF{t:TypeId}{b off len:Nat}{lo hi:Option V}(h:(xI P t).slice=true)(E:(xI P t).SA=true):AY P t (.rs b off len) lo hi none σ=(bnd lo 0).bind fun l=>(bnd hi len).bind fun h=>(σ b).bind fun B=>
  if l<=h/\0<(xI P t).Hf/\B.st=(xI P t).Hf/\off+h*(xI P t).Hf<=B.cells.length then
   if l=0 then some (.rs b off h)else if l=h then some (.ts [] 0)else some (.rs b (off+l*(xI P t).Hf) (h-l))else none:=by
 obtain⟨e,S,z,G,J,Y,h4,O,h6,h7⟩:=Zn h E;unfold AY;simp only[G,J,O];cases bnd lo 0<;>cases bnd hi len<;>cases σ b<;>rfl
theorem af_(v:Value):toVal (.sc v)=some v:=rfl
section
variable {t:TypeId} {x y:Operand} {k:IntKind} {a b:Int}
theorem an1:Am P .add t x y (.sc (.int k a)) (.sc (.int k b))=some (.sc (.int k (k.wrap (a+b)))):=by
 simp only[Am,toVal,eqGuard_add,binOp_add,Op.intArith];rfl
theorem an2:Am P .sub t x y (.sc (.int k a)) (.sc (.int k b))=some (.sc (.int k (k.wrap (a-b)))):=by
 simp only[Am,toVal,eqGuard_sub,binOp_sub,Op.intArith];rfl
theorem an3:Am P .mul t x y (.sc (.int k a)) (.sc (.int k b))=some (.sc (.int k (k.wrap (a*b)))):=by
 simp only[Am,toVal,eqGuard_mul,binOp_mul,Op.intArith];rfl
theorem an4(h:b≠0):Am P .quo t x y (.sc (.int k a)) (.sc (.int k b))=some (.sc (.int k (k.wrap (a.tdiv b)))):=by
 simp only[Am,toVal,eqGuard_quo,binOp_quo,Op.intDiv,sQ h];rfl
theorem an5(h:b≠0):Am P .rem t x y (.sc (.int k a)) (.sc (.int k b))=some (.sc (.int k (a.tmod b))):=by
 simp only[Am,toVal,eqGuard_rem,binOp_rem,Op.intDiv,sQ h];rfl
theorem an6:Am P .eql t x y (.sc (.int k a)) (.sc (.int k b))=some (.sc (.bool (a==b))):=by
 simp only[Am,toVal,eqGuard_at_int,binOp_eql];rfl
theorem an7:Am P .neq t x y (.sc (.int k a)) (.sc (.int k b))=some (.sc (.bool (a !=b))):=by
 simp only[Am,toVal,eqGuard_at_int,binOp_neq];rfl
theorem an8:Am P .lss t x y (.sc (.int k a)) (.sc (.int k b))=some (.sc (.bool (decide (a<b)))):=by
 simp only[Am,toVal,eqGuard_lss,binOp_lss];rfl
theorem an9:Am P .leq t x y (.sc (.int k a)) (.sc (.int k b))=some (.sc (.bool (decide (a<=b)))):=by
 simp only[Am,toVal,eqGuard_leq,binOp_leq];rfl
theorem an_:Am P .gtr t x y (.sc (.int k a)) (.sc (.int k b))=some (.sc (.bool (decide (b<a)))):=by
 simp only[Am,toVal,eqGuard_gtr,binOp_gtr];rfl
theorem an':Am P .geq t x y (.sc (.int k a)) (.sc (.int k b))=some (.sc (.bool (decide (b<=a)))):=by
 simp only[Am,toVal,eqGuard_geq,binOp_geq];rfl
theorem aoa{p:Bool}:YK P .not (.sc (.bool p))=some (.sc (.bool !p)):=rfl
theorem aob:YK P .neg (.sc (.int k a))=some (.sc (.int k (k.wrap (0-a)))):=rfl
end
end
end Go.TV
namespace Go.TV
set_option linter.unusedVariables false
set_option linter.unusedSimpArgs false
variable [Known]
section
variable {P:Program} {conv:FuncId->Conv} {call:Call}
def af'(P:Program)(conv:FuncId->Conv)(call:Call)(ops:Array Oper)(rest:List Oper)(T:Nat->V)(d:Option Tmp):KF->Option St
 |some (v,σ,nx)=>Ci P conv call ops rest ⟨Dc T d v,σ,nx⟩
 |none=>none
def aj6(P:Program)(conv:FuncId->Conv)(call:Call)(ops:Array Oper)(rest:List Oper)(o:Oper)(s:St):Option Bool->Option St
 |some true=>af' P conv call ops rest s.T o.dst (AO P conv call o s.T s.σ s.nx)
 |some false=>Ci P conv call ops rest ⟨Dc s.T o.dst (.AX []),s.σ,s.nx⟩
 |none=>none
theorem adQ(ops:Array Oper)(s:St):Ci P conv call ops [] s=some s:=rfl
theorem ZG(ops:Array Oper)(d:Option Tmp)(op:Op)(ty:TypeId)(ps:String)(af:Array Edge)(rest:List Oper)(T:Nat->V)(σ:Store)(nx:Nat) :
  Ci P conv call ops (⟨d,op,ty,ps,af,none⟩ :: rest) ⟨T,σ,nx⟩=af' P conv call ops rest T d (AO P conv call ⟨d,op,ty,ps,af,none⟩ T σ nx):=by
 show(match AO P conv call ⟨d,op,ty,ps,af,none⟩ T σ nx with|some (v,σ',nx')=>_|none=>none)=_;cases AO P conv call ⟨d,op,ty,ps,af,none⟩ T σ nx<;>rfl
theorem VT(ops:Array Oper)(d:Option Tmp)(op:Op)(ty:TypeId)(ps:String)(af:Array Edge)(g:Nat×Bool)(rest:List Oper)(T:Nat->V)(σ:Store)(nx:Nat) :
  Ci P conv call ops (⟨d,op,ty,ps,af,some g⟩ :: rest) ⟨T,σ,nx⟩=aj6 P conv call ops rest ⟨d,op,ty,ps,af,some g⟩ ⟨T,σ,nx⟩ (Bj ops T ⟨d,op,ty,ps,af,some g⟩):=by
 show(match Bj ops T ⟨d,op,ty,ps,af,some g⟩with|some true=>_|some false=>_|none=>none)=_;cases Bj ops T ⟨d,op,ty,ps,af,some g⟩with
 |none=>rfl
 |some b=>
  cases b with
  |false=>rfl
  |true=>
   simp only[aj6];cases AO P conv call ⟨d,op,ty,ps,af,some g⟩ T σ nx<;>rfl
theorem adR(ops:Array Oper)(rest:List Oper)(T:Nat->V)(d:Tmp)(v:V)(σ:Store)(nx:Nat):af' P conv call ops rest T (some d) (some (v,σ,nx))=Ci P conv call ops rest ⟨upd T d v,σ,nx⟩:=rfl
theorem adS(ops:Array Oper)(rest:List Oper)(T:Nat->V)(v:V)(σ:Store)(nx:Nat):af' P conv call ops rest T none (some (v,σ,nx))=Ci P conv call ops rest ⟨T,σ,nx⟩:=rfl
theorem adT(ops:Array Oper)(rest:List Oper)(d:Option Tmp)(op:Op)(ty:TypeId)(ps:String)(af:Array Edge)(g:Option (Nat×Bool))(T:Nat->V)(σ:Store)(nx:Nat) :
  aj6 P conv call ops rest ⟨d,op,ty,ps,af,g⟩ ⟨T,σ,nx⟩ (some true)=af' P conv call ops rest T d (AO P conv call ⟨d,op,ty,ps,af,g⟩ T σ nx):=rfl
theorem ZH(ops:Array Oper)(rest:List Oper)(d:Tmp)(op:Op)(ty:TypeId)(ps:String)(af:Array Edge)(g:Option (Nat×Bool))(T:Nat->V)(σ:Store)(nx:Nat) :
  aj6 P conv call ops rest ⟨some d,op,ty,ps,af,g⟩ ⟨T,σ,nx⟩ (some false)=Ci P conv call ops rest ⟨upd T d (.AX []),σ,nx⟩:=rfl
def SB(want:Bool):V->Option Bool
 | .sc (.bool b)=>some (b==want)
 | .AX []=>some false
 |_=>none
theorem SC(ops:Array Oper)(d:Option Tmp)(op:Op)(ty:TypeId)(ps:String)(af:Array Edge)(j:Nat)(want:Bool)(T:Nat->V) :
  Bj ops T ⟨d,op,ty,ps,af,some (j,want)⟩=match(ops[j]?).bind (·.dst)with|some d=>SB want (T d)|none=>some false:=by
 unfold Bj SB;rfl
theorem VU(want b:Bool):SB want (.sc (.bool b))=some (b==want):=rfl
theorem SE(want:Bool):SB want (.AX [])=some false:=rfl
theorem aj7(T:Nat->V)(t:Tmp):val T (.tmp t)=T t:=rfl
theorem adU(T:Nat->V)(v:Value):val T (.const v)=Hr v:=rfl
theorem aga(T:Nat->V)(f:FuncId):val T (.func f)= .clo f []:=rfl
section
variable (d:Option Tmp) (ty:TypeId) (ps:String) (af:Array Edge) (gd:Option (Nat×Bool)) (T:Nat->V) (σ:Store) (nx:Nat)
theorem aj8(x:Operand):AO P conv call ⟨d,.move x,ty,ps,af,gd⟩ T σ nx=some (val T x,σ,nx):=rfl
theorem adV(x:Operand):AO P conv call ⟨d,.assign x,ty,ps,af,gd⟩ T σ nx=some (val T x,σ,nx):=rfl
def ab3(a b:V):V->Option V
 | .sc (.bool t)=>some (if t then a else b)
 |_=>none
theorem ab4(c a b:Operand):AO P conv call ⟨d,.pick c a b,ty,ps,af,gd⟩ T σ nx=(ab3 (val T a) (val T b) (val T c)).map (·,σ,nx):=by
 simp only[AO];unfold ab3
 split<;>simp_all
theorem ZI(a b:V)(t:Bool):ab3 a b (.sc (.bool t))=some (if t then a else b):=rfl
theorem arK:isB []=false:=id rfl
theorem arL(v:V):isB [v]=false:=id rfl
theorem arM(u v w:V)(l:List V):isB (u :: v :: w :: l)=false:=id rfl
theorem aoc(v w:V):isB [v,w]=(isP v && isN w):=id rfl
theorem aj9:isP .nil=false:=id rfl
theorem aj_(k:IntKind)(n:Int):isP (.sc (.int k n))=false:=id rfl
theorem agb(b:Bool):isP (.sc (.bool b))=false:=id rfl
theorem ZJ(b:ByteArray):isP (.sc (.string b))=false:=id rfl
theorem agc:isP (.sc (.pointer none))=true:=id rfl
theorem aj':isN .nil=true:=id rfl
theorem aod(v:Value):isN (.sc v)=false:=id rfl
theorem VW(t:TypeId)(h:(xI P t).ok=true)(E:decide ((xI P t).zero.length=(xI P t).size)=true)(J:decide (0<(xI P t).size)=true)(hb:isB (xI P t).zero=false):AO P conv call ⟨d,.alloc t,ty,ps,af,gd⟩ T σ nx=some (.rp nx 0,Au σ nx (xI P t).zero 0,nx+1):=by
 obtain⟨i,Y,O,S,h3,h4⟩:=Zo h;simp only[AO,O];unfold xI at E J hb⊢;simp only[O,S,decide_eq_true_eq]at E J hb⊢;unfold JK zeroV at *;cases G:i.zero with
 |none=>simp[G]at E;omega
 |some z=>
  simp only[G]at E hb⊢
  by_cases hs:z.cells.size=i.size
  .simp only[hs,decide_true,if_true]at hb
   simp[hs,Qk,hb]
  .simp[hs]at E;omega
theorem agd(t:TypeId)(x:Operand):AO P conv call ⟨d,.box t x,ty,ps,af,gd⟩ T σ nx=(cellsOfV (val T x)).map fun cs=>(.rp nx 0,Au σ nx cs 0,nx+1):=by
 simp only[AO];cases cellsOfV (val T x)<;>rfl
theorem agf(t:TypeId)(parts:Array (Nat×Operand)):AO P conv call ⟨d,.build t parts,ty,ps,af,gd⟩ T σ nx=(Gh P t (parts.toList.map fun p=>(p.1,val T p.2))).map (·,σ,nx):=rfl
theorem iW(t:TypeId)(len:Nat)(parts:Array (Nat×Operand))(h:(decide (len=0) && !parts.isEmpty)=false):AO P conv call ⟨d,.buildSlice t len parts,ty,ps,af,gd⟩ T σ nx=Cc P t len (parts.toList.map fun p=>(p.1,val T p.2)) σ nx:=by
 simp only[AO,h,yE,if_false]
theorem akb(t:TypeId)(a:Operand):AO P conv call ⟨d,.load t a,ty,ps,af,gd⟩ T σ nx=(AZ P σ t (val T a)).map (·,σ,nx):=rfl
theorem agh(t:TypeId)(a x:Operand):AO P conv call ⟨d,.store t a x,ty,ps,af,gd⟩ T σ nx=(Dv P σ t (val T a) (val T x)).map (.AX [],·,nx):=rfl
def agi:V->Option V
 | .tp row off=>some (.tp row off)
 | .rp b off=>some (.rp b off)
 |_=>none
theorem KP(x:Operand):AO P conv call ⟨d,.nilCheck x,ty,ps,af,gd⟩ T σ nx=(agi (val T x)).map (·,σ,nx):=by
 simp only[AO];unfold agi
 split<;>simp_all
theorem akc(row:List V)(off:Nat):agi (.tp row off)=some (.tp row off):=rfl
theorem akd(b off:Nat):agi (.rp b off)=some (.rp b off):=rfl
theorem agj(op:BinOp)(t:TypeId)(x y:Operand)(E:TypeId):AO P conv call ⟨d,.binOp op t x y E,ty,ps,af,gd⟩ T σ nx=(Am P op t x y (val T x) (val T y)).map (·,σ,nx):=rfl
theorem ake(op:UnOp)(t:TypeId)(x:Operand):AO P conv call ⟨d,.unOp op t x,ty,ps,af,gd⟩ T σ nx=(YK P op (val T x)).map (·,σ,nx):=rfl
theorem ZK(s e:TypeId)(x:Operand):AO P conv call ⟨d,.convert s e x,ty,ps,af,gd⟩ T σ nx=(Bv P s e (val T x) σ).map (·,σ,nx):=rfl
theorem VX(f:FuncId)(cap:Array Operand):AO P conv call ⟨d,.makeFunc (.func f) #[] cap,ty,ps,af,gd⟩ T σ nx=some (.clo f (cap.toList.map (val T)),σ,nx):=rfl
theorem Iy(t:TypeId)(l c:Operand):AO P conv call ⟨d,.makeSlice t l c,ty,ps,af,gd⟩ T σ nx=EZ P t (val T l) (val T c) σ nx:=rfl
theorem agk(t:TypeId)(x:Operand)(lo hi E:Option Operand):AO P conv call ⟨d,.slice t x lo hi E,ty,ps,af,gd⟩ T σ nx=(AY P t (val T x) (lo.map (val T)) (hi.map (val T)) (E.map (val T)) σ).map (·,σ,nx):=rfl
theorem SH(t:TypeId)(x:Operand)(f:Nat):AO P conv call ⟨d,.fieldAddr t x f,ty,ps,af,gd⟩ T σ nx=(BL P t (val T x) f).map (·,σ,nx):=rfl
theorem agl(t:TypeId)(x:Operand)(f:Nat):AO P conv call ⟨d,.field t x f,ty,ps,af,gd⟩ T σ nx=(L9 P t (val T x) f).map (·,σ,nx):=rfl
theorem SI(t:TypeId)(x i:Operand):AO P conv call ⟨d,.indexAddr t x i,ty,ps,af,gd⟩ T σ nx=(CQ P t (val T x) (val T i)).map (·,σ,nx):=rfl
theorem agm(t:TypeId)(x i:Operand):AO P conv call ⟨d,.index t x i,ty,ps,af,gd⟩ T σ nx=(He P t (val T x) (val T i)).map (·,σ,nx):=rfl
def akf(i:Nat):V->Option V
 | .AX vs=>vs[i]?
 |_=>none
theorem Nu(x:Operand)(i:Nat):AO P conv call ⟨d,.extract x i,ty,ps,af,gd⟩ T σ nx=(akf i (val T x)).map (·,σ,nx):=by
 simp only[AO];unfold akf
 split<;>simp_all
theorem agn(i:Nat)(vs:List V):akf i (.AX vs)=vs[i]?:=rfl
def agp(conv:FuncId->Conv)(call:Call)(args:List V)(σ:Store)(nx:Nat):V->KF
 | .clo g cs=>CO conv call g (args++cs) σ nx
 |_=>none
theorem Mc(f:Operand)(args:Array Operand)(ts:Array TypeId):AO P conv call ⟨d,.call ⟨.value f,args,ts⟩,ty,ps,af,gd⟩ T σ nx=agp conv call (args.toList.map (val T)) σ nx (val T f):=by
 simp only[AO];unfold agp;rfl
theorem qF(args:List V)(σ:Store)(nx:Nat)(g:FuncId)(cs:List V):agp conv call args σ nx (.clo g cs)=CO conv call g (args++cs) σ nx:=rfl
theorem aoe(x:Operand)(t:TypeId):AO P conv call ⟨d,.call ⟨.builtin .len,#[x],#[t]⟩,ty,ps,af,gd⟩ T σ nx=(DI P t (val T x)).map (·,σ,nx):=rfl
theorem akg(a x:Operand)(t u:TypeId):AO P conv call ⟨d,.call ⟨.builtin .copy,#[a,x],#[t,u]⟩,ty,ps,af,gd⟩ T σ nx=GR P #[t,u] (val T a) (val T x) σ nx:=rfl
theorem agq(a:Operand)(t:TypeId):AO P conv call ⟨d,.call ⟨.builtin .clear,#[a],#[t]⟩,ty,ps,af,gd⟩ T σ nx=Gj P #[t] (val T a) σ nx:=rfl
theorem Qv(a x:Operand)(t u:TypeId):AO P conv call ⟨d,.call ⟨.builtin .append,#[a,x],#[t,u]⟩,ty,ps,af,gd⟩ T σ nx=Ec P #[t,u] (val T a) (val T x) σ nx:=rfl
end
def VY:Option St->Option (Ex×St)
 |some s=>some (.norm,s)
 |none=>none
theorem ZL(s:St):VY (some s)=some (.norm,s):=rfl
def JL(id:Nat):Option (Ex×St)->Option (Ex×St)
 |some (.exit j,s)=>if j=id then some (.norm,s)else some (.exit j,s)
 |r=>r
theorem VZ(id:Nat)(s:St):JL id (some (.norm,s))=some (.norm,s):=rfl
theorem Z7(id:Nat)(s:St):JL id (some (.ret,s))=some (.ret,s):=rfl
theorem V3(id j:Nat)(s:St):JL id (some (.exit j,s))=if j=id then some (.norm,s)else some (.exit j,s):=rfl
noncomputable def agr(body:St->Option (Ex×St)):Option (Ex×St)->Option (Ex×St)
 |some (.norm,s)=>iI body s
 |r=>r
theorem Z8(body:St->Option (Ex×St))(s:St):agr body (some (.norm,s))=iI body s:=rfl
theorem adW(body:St->Option (Ex×St))(s:St):agr body (some (.ret,s))=some (.ret,s):=rfl
theorem Z9(body:St->Option (Ex×St))(i:Nat)(s:St):agr body (some (.exit i,s))=some (.exit i,s):=rfl
def adX(P:Program)(rs:List ResultVar):Option (Ex×St)->KF
 |some (.norm,st)=>(Ag P st.T st.σ rs).map fun vs=>(oneOf vs,st.σ,st.nx)
 |some (.ret,st)=>(Ag P st.T st.σ rs).map fun vs=>(oneOf vs,st.σ,st.nx)
 |_=>none
theorem V6(rs:List ResultVar)(body:Code)(s:St):VL P conv call rs body s=adX P rs (Aw P conv call body s):=by
 unfold VL adX;cases Aw P conv call body s with
 |none=>rfl
 |some q=>
  obtain⟨e,st⟩:=q;cases e<;>simp only<;>cases Ag P st.T st.σ rs<;>rfl
theorem adY(rs:List ResultVar)(T:Nat->V)(σ:Store)(nx:Nat):adX P rs (some (.norm,⟨T,σ,nx⟩))=(Ag P T σ rs).map fun vs=>(oneOf vs,σ,nx):=rfl
theorem ags(rs:List ResultVar)(T:Nat->V)(σ:Store)(nx:Nat):adX P rs (some (.ret,⟨T,σ,nx⟩))=(Ag P T σ rs).map fun vs=>(oneOf vs,σ,nx):=rfl
theorem agt(T:Nat->V)(σ:Store)(t:Tmp):Ag P T σ [.tmp t]=some [T t]:=rfl
theorem akh(T:Nat->V)(σ:Store):Ag P T σ []=some []:=rfl
theorem agu(T:Nat->V)(σ:Store)(t u:Tmp):Ag P T σ [.tmp t,.tmp u]=some [T t,T u]:=rfl
theorem agv(T:Nat->V)(σ:Store)(t u v:Tmp):Ag P T σ [.tmp t,.tmp u,.tmp v]=some [T t,T u,T v]:=rfl
theorem adZ(T:Nat->V)(σ:Store)(a:Tmp)(t:TypeId):Ag P T σ [.cell a t]=(AZ P σ t (T a)).map fun v=>[v]:=by
 simp only[Ag];cases AZ P σ t (T a)<;>rfl
theorem ad1(v:V):oneOf [v]=v:=rfl
theorem ad2(u v:V):oneOf [u,v]= .AX [u,v]:=rfl
theorem V7(u v w:V):oneOf [u,v,w]= .AX [u,v,w]:=rfl
theorem Z_:oneOf []= .AX []:=rfl
theorem ad3(l:List V)(i:Nat):DW l i=(l[i]?).getD (.AX []):=rfl
theorem ad4(k:IntKind)(n:Int):Hr (.int k n)= .sc (.int k n):=rfl
theorem aac(b:Bool):Hr (.bool b)= .sc (.bool b):=rfl
theorem SK(s:ByteArray):Hr (.string s)= .sc (.string s):=rfl
theorem aad:Hr (.pointer none)= .sc (.pointer none):=rfl
theorem aae:Hr (.slice none 0 0)= .nil:=rfl
theorem ad5(l:List Value):Hr (.agg l.toArray)= .agg (l.map BQ):=rfl
end
end Go.TV
namespace Go.TV
set_option linter.unusedVariables false
set_option linter.unusedSimpArgs false
variable [Known]
section
variable {P:Program} {conv:FuncId->Conv} {call:Call}
def Df(P:Program)(conv:FuncId->Conv)(call:Call)(ops:Array Oper):List Oper->St->Option St
 |[],s=>some s
 |o :: rest,s=>match Bj ops s.T o with
  |some true=>match Ai P conv call o s.T s.σ s.nx with
   |some (v,σ',nx')=>Df P conv call ops rest ⟨Dc s.T o.dst v,σ',nx'⟩
   |none=>none
  |some false=>Df P conv call ops rest ⟨Dc s.T o.dst (.AX []),s.σ,s.nx⟩
  |none=>none
theorem JM(ops:Array Oper):∀(l:List Oper) (s:St),Df P conv call ops l s=(BD P conv call ops l s).map (·.1)
 |[],s=>rfl
 |o :: l,s=>by
  unfold Df BD;cases Bj ops s.T o with
  |none=>rfl
  |some b=>
   cases b with
   |true=>
    simp only;cases Ai P conv call o s.T s.σ s.nx with
    |none=>rfl
    |some q=>
     obtain⟨v,σ',nx'⟩:=q;simp only;rw[JM ops l];cases BD P conv call ops l ⟨Dc s.T o.dst v,σ',nx'⟩<;>rfl
   |false=>
    simp only;rw[JM ops l];cases BD P conv call ops l ⟨Dc s.T o.dst (.AX []),s.σ,s.nx⟩<;>rfl
def JO(conv:FuncId->Conv)(ops:Array Oper):Bool:=Vz ops && (H8 conv ops.toList).isEmpty
theorem SL{ops:Array Oper}(h:JO conv ops=true)(s:St):CS P conv call ops s=Df P conv call ops ops.toList s:=by
 unfold JO at h;rw[zM]at h;have hw:H8 conv ops.toList=[]:=by simpa using h.2
 unfold CS;rw[sO h.1,JM,hw];cases BD P conv call ops ops.toList s with
 |none=>rfl
 |some q=>obtain⟨s',E⟩:=q;rfl
def Iz(af:Array Edge)(i:Nat):Bool:=af.any fun e=>Region.binds .any e && e.on==i
def okG(af:Array Edge)(w:Bool)(ids:List Nat):List (Nat×Bool×List Nat)->Bool
 |[]=>true
 |p :: acc=>(if(w||p.2.1)=true then(if Iz af p.1=true then true else p.2.2.all fun b=> !ids.contains b)else true) && okG af w ids acc
def okF(af:Array Edge)(acc:List (Nat×Bool×List Nat))(w:Bool):List Nat->Bool
 |[]=>true
 |b :: bs=>okG af w (b :: bs) acc
def V8(acc:List (Nat×Bool×List Nat))(k:Nat)(w:Bool):List Nat->List (Nat×Bool×List Nat)
 |[]=>acc
 |b :: bs=>acc++[(k,w,b :: bs)]
def Dh(P:Program)(conv:FuncId->Conv)(call:Call)(ops:Array Oper):List Oper->Nat->List (Nat×Bool×List Nat)->St->Option St
 |[],_,_,s=>some s
 |o :: rest,k,acc,s=>match Bj ops s.T o with
  |some true=>if okF o.after acc (writer conv o) (Ad conv s.T s.σ o)=true then(match Ai P conv call o s.T s.σ s.nx with
   |some (v,σ',nx')=>Dh P conv call ops rest (k+1) (V8 acc k (writer conv o) (Ad conv s.T s.σ o)) ⟨Dc s.T o.dst v,σ',nx'⟩
   |none=>none)else none
  |some false=>Dh P conv call ops rest (k+1) acc ⟨Dc s.T o.dst (.AX []),s.σ,s.nx⟩
  |none=>none
def Apart(l:List Oper)(E:List (Bool×List Nat)):Prop:=∀(i j:Nat) o p q,i<j->l[j]?=some o->E[i]?=some p->E[j]?=some q->(q.1||p.1)=true->FQ o i≠true->∀b∈p.2,b∉q.2
def Told(E:List (Bool×List Nat))(acc:List (Nat×Bool×List Nat)):Prop:=∀(i:Nat) p,E[i]?=some p->p.2≠[]->(i,p.1,p.2)∈acc
theorem V9{af:Array Edge}{w:Bool}{ids:List Nat}:∀ {acc:List (Nat×Bool×List Nat)},okG af w ids acc=true->∀p∈acc,(w||p.2.1)=true->Iz af p.1≠true->∀b∈p.2.2,b∉ids
 |[],_,p,hp,_,_,_,_=>by cases hp
 |q :: acc,h,p,hp,hw,he,b,hb=>by
  unfold okG at h;rw[zM]at h;rcases List.mem_cons.mp hp with rfl|hp
  .have E:=h.1
   rw[sO hw,sQ he]at E;have:=List.all_eq_true.mp E b hb
   simpa using this
  .exact V9 h.2 p hp hw he b hb
theorem Nv{l:List Oper}{o:Oper}{O:List (Bool×List Nat)}{acc:List (Nat×Bool×List Nat)}{w:Bool}{ids:List Nat}(hl:l.length=O.length)(h:Apart l O)(ht:Told O acc)(ho:okF o.after acc w ids=true):Apart (l++[o]) (O++[(w,ids)]):=by
 intro i j o' p q S E hp G hw he b hb J;rcases Nat.lt_trichotomy j O.length with Y|Y|Y
 .rw[zU Y]at G
  rw[zU (by omega)]at hp;rw[zU (by omega)]at E;exact h i j o' p q S E hp G hw he b hb J
 .subst Y
  rw[zN (zq _),yM]at G;simp only[wS,sW]at G;subst G;rw[zU S]at hp;rw[zN (by omega),hl,yM]at E;simp only[wS,sW]at E;subst E;cases ids with
  |nil=>cases J
  |cons c cs=>exact V9 ho _ (ht i p hp (fun e=>by rw[e]at hb;cases hb)) hw he b hb J
 .rw[yX (by simp;omega)]at G
  cases G
theorem Qw{E:List (Bool×List Nat)}{acc:List (Nat×Bool×List Nat)}(S:Told E acc)(w:Bool)(ids:List Nat):Told (E++[(w,ids)]) (V8 acc E.length w ids):=by
 intro i p hp G;have J:∀x,x∈acc->x∈V8 acc E.length w ids:=fun x O=>by cases ids with
  |nil=>exact O
  |cons c cs=>exact z_ _ O
 rcases Nat.lt_trichotomy i E.length with hi|hi|hi
 .rw[zU hi]at hp
  exact J _ (S i p hp G)
 .subst hi
  rw[zN (zq _),yM]at hp;simp only[wS,sW]at hp;subst hp;cases ids with
  |nil=>exact absurd rfl G
  |cons c cs=>exact yh _ (by simp)
 .rw[yX (by simp;omega)]at hp
  cases hp
theorem nM(ops:Array Oper):∀(l pre:List Oper) (k:Nat) (E:List (Bool×List Nat)) (acc:List (Nat×Bool×List Nat)) (s s':St),k=E.length->pre.length=E.length->Apart pre E->Told E acc->Dh P conv call ops l k acc s=some s' ->
  ∃G,BD P conv call ops l s=some (s',G)/\G.length=l.length/\Apart (pre++l) (E++(l.zip G).map fun p=>(writer conv p.1,p.2))
 |[],pre,k,E,acc,s,s',hk,hl,ha,ht,h=>by
  unfold Dh at h;cases h;exact⟨[],rfl,rfl,by simpa using ha⟩
 |o :: l,pre,k,E,acc,s,s',hk,hl,ha,ht,h=>by
  unfold Dh at h;unfold BD;cases hw:Bj ops s.T o with
  |none=>rw[hw]at h;cases h
  |some b=>
   rw[hw]at h;cases b with
   |true=>
    simp only at h⊢
    by_cases J:okF o.after acc (writer conv o) (Ad conv s.T s.σ o)=true
    .rw[sO J]at h
     cases hr:Ai P conv call o s.T s.σ s.nx with
     |none=>rw[hr]at h;cases h
     |some q=>
      obtain⟨v,σ',nx'⟩:=q;rw[hr]at h;subst hk;obtain⟨G,O,S,Y⟩:=nM ops l (pre++[o]) _ (E++[(writer conv o,Ad conv s.T s.σ o)]) _ _ s' (by simp) (by simp[hl]) (Nv hl ha ht J) (Qw ht _ _) h;refine⟨Ad conv s.T s.σ o :: G,?_,by simp[S],by simpa using Y⟩;simp only;rw[O]
    .rw[sQ J]at h;cases h
   |false=>
    simp only at h⊢;subst hk;obtain⟨G,O,S,Y⟩:=nM ops l (pre++[o]) _ (E++[(writer conv o,[])]) _ _ s' (by simp) (by simp[hl]) (Nv hl ha ht rfl) (Qw ht _ []) h;refine⟨[] :: G,?_,by simp[S],by simpa using Y⟩;rw[O]
theorem PN{l:List Oper}{E:List (List Nat)}(hl:E.length=l.length)(h:Apart l ((l.zip E).map fun p=>(writer conv p.1,p.2))):Sl E (H8 conv l)=true:=by
 unfold Sl;refine List.all_eq_true.mpr ?_;rintro ⟨i,j⟩ hm;unfold H8 at hm;simp only[List.mem_flatMap,List.mem_filterMap]at hm;obtain⟨⟨o,j'⟩,hj,⟨p,i'⟩,hi,G⟩:=hm;simp only at G
 split at G
 .cases G
 .rename_i a6
  split at G
  .rename_i a7
   simp only[sW,sS]at G;obtain⟨rfl,rfl⟩:=G;have a8:=List.mem_zipIdx' hj;have b2:=List.mem_zipIdx' hi;obtain⟨J,O⟩:=a8;obtain⟨b3,S⟩:=b2;simp only[zh]at b3;refine List.all_eq_true.mpr fun b hb=>?_
   have Y:i'<E.length:=by omega
   have a1:j'<E.length:=by omega
   rw[zy Y,yG]at hb;rw[zy a1,yG];have hz:∀(k:Nat) (h1:k<l.length) (h2:k<E.length),((l.zip E).map fun p=>(writer conv p.1,p.2))[k]?=some (writer conv l[k],E[k]):=by
    intro k h1 h2;rw[yc,zy (by simp;omega)];simp
   have:=h i' j' o _ _ (by omega) (by rw[zy J,O]) (hz i' (by omega) Y) (hz j' J a1) (by
    rw[vS]at S;rw[<- O,<- S];exact a7) a6 b hb
   simpa using this
  .cases G
def Nw(P:Program)(conv:FuncId->Conv)(call:Call)(ops:Array Oper)(s0:St):Option St->Option St
 |some s=>some s
 |none=>CS P conv call ops s0
theorem agw{ops:Array Oper}(E:Vz ops=true)(s:St):Nw P conv call ops s (Dh P conv call ops ops.toList 0 [] s)=CS P conv call ops s:=by
 cases h:Dh P conv call ops ops.toList 0 [] s with
 |none=>rfl
 |some s'=>
  obtain⟨S,G,J,O⟩:=nM ops ops.toList [] 0 [] [] s s' rfl rfl (by intro i j o p q _ _ hp;simp at hp) (by intro i p hp;simp at hp) h;unfold Nw CS;rw[sO E,G];simp only;rw[sO (PN J (by simpa using O))]
def BO(conv:FuncId->Conv)(ex:List Nat):Code->Bool
 | .region id ops draw=> !draw||(ex.contains id && Vz ops)||JO conv ops
 | .seq a b=>BO conv ex a && BO conv ex b
 | .cond _ a b=>BO conv ex a && BO conv ex b
 | .block _ c=>BO conv ex c
 | .loop c=>BO conv ex c
 |_=>true
noncomputable def Gw(P:Program)(conv:FuncId->Conv)(call:Call)(ex:List Nat):Code->St->Option (Ex×St)
 | .skip,s=>some (.norm,s)
 | .region id ops draw,s=>VY (if draw then(if id∈ex then Nw P conv call ops s (Dh P conv call ops ops.toList 0 [] s)else Df P conv call ops ops.toList s)else Ci P conv call ops ops.toList s)
 | .seq a b,s=>match Gw P conv call ex a s with
  |some (.norm,s')=>Gw P conv call ex b s'
  |r=>r
 | .cond c a b,s=>match val s.T c with
  | .sc (.bool true)=>Gw P conv call ex a s
  | .sc (.bool false)=>Gw P conv call ex b s
  |_=>none
 | .block id c,s=>JL id (Gw P conv call ex c s)
 | .loop c,s=>iI (Gw P conv call ex c) s
 | .exit id,s=>some (.exit id,s)
 | .ret,s=>some (.ret,s)
 |_,_=>none
theorem agx{ex:List Nat}:∀(c:Code),BO conv ex c=true->∀s,Aw P conv call c s=Gw P conv call ex c s:=by
 intro c
 induction c with
 |region id ops draw=>
  intro h s;simp only[BO,Gw,Aw]at *;cases draw with
  |false=>simp only[yE,if_false];cases Ci P conv call ops ops.toList s<;>rfl
  |true=>
   simp only[if_true]
   by_cases hid:id∈ex
   .rw[sO hid]
    by_cases O:Vz ops=true
    .rw[agw O];cases CS P conv call ops s<;>rfl
    .have J:JO conv ops=true:=by simpa[O]using h
     unfold JO at J;rw[zM]at J;exact absurd J.1 O
   .rw[sQ hid]
    have J:JO conv ops=true:=by simpa[hid]using h
    rw[SL J];cases Df P conv call ops ops.toList s<;>rfl
 |seq a b E G=>
  intro h s;simp only[BO,zM]at h;simp only[Gw,Aw];rw[E h.1];cases Gw P conv call ex a s with
  |none=>rfl
  |some q=>obtain⟨e,s'⟩:=q;cases e<;>first|exact G h.2 s'|rfl
 |cond v a b E G=>
  intro h s;simp only[BO,zM]at h;simp only[Gw,Aw,E h.1,G h.2]
  all_goals rfl
 |block id c S=>
  intro h s;simp only[BO]at h;simp only[Gw,Aw,JL];rw[S h]
  all_goals rfl
 |loop c S=>
  intro h s;simp only[BO]at h;simp only[Gw,Aw];rw[show Aw P conv call c=Gw P conv call ex c from funext (S h)]
 |_=>intro h s;rfl
noncomputable def sK(P:Program)(conv:FuncId->Conv)(call:Call)(ex:List Nat)(b:Code):Option (Ex×St)->Option (Ex×St)
 |some (.norm,s)=>Gw P conv call ex b s
 |r=>r
variable {ex:List Nat}
theorem arN(a b:Code)(s:St):Gw P conv call ex (.seq a b) s=sK P conv call ex b (Gw P conv call ex a s):=by
 show(match Gw P conv call ex a s with|some (.norm,s')=>Gw P conv call ex b s'|r=>r)=_;unfold sK;rfl
theorem aki(b:Code)(s:St):sK P conv call ex b (some (.norm,s))=Gw P conv call ex b s:=rfl
theorem aof(b:Code)(s:St):sK P conv call ex b (some (.ret,s))=some (.ret,s):=rfl
theorem akj(b:Code)(i:Nat)(s:St):sK P conv call ex b (some (.exit i,s))=some (.exit i,s):=rfl
theorem agy(id:Nat)(l:List Oper)(s:St):Gw P conv call ex (.region id l.toArray false) s=VY (Ci P conv call l.toArray l s):=rfl
theorem aog(id:Nat)(l:List Oper)(s:St):Gw P conv call [] (.region id l.toArray true) s=VY (Df P conv call l.toArray l s):=rfl
theorem aoh(s:St):Gw P conv call ex .skip s=some (.norm,s):=rfl
theorem arO(s:St):Gw P conv call ex .ret s=some (.ret,s):=rfl
theorem aoi(i:Nat)(s:St):Gw P conv call ex (.exit i) s=some (.exit i,s):=rfl
noncomputable def cK(P:Program)(conv:FuncId->Conv)(call:Call)(ex:List Nat)(a b:Code)(s:St):V->Option (Ex×St)
 | .sc (.bool true)=>Gw P conv call ex a s
 | .sc (.bool false)=>Gw P conv call ex b s
 |_=>none
theorem aoj(c:Operand)(a b:Code)(T:Nat->V)(σ:Store)(nx:Nat):Gw P conv call ex (.cond c a b) ⟨T,σ,nx⟩=cK P conv call ex a b ⟨T,σ,nx⟩ (val T c):=by
 show(match val T c with| .sc (.bool true)=>_| .sc (.bool false)=>_|_=>none)=_;unfold cK;rfl
theorem akk(a b:Code)(s:St):cK P conv call ex a b s (.sc (.bool true))=Gw P conv call ex a s:=rfl
theorem agz(a b:Code)(s:St):cK P conv call ex a b s (.sc (.bool false))=Gw P conv call ex b s:=rfl
theorem akl(id:Nat)(c:Code)(s:St):Gw P conv call ex (.block id c) s=JL id (Gw P conv call ex c s):=rfl
theorem aok(c:Code)(s:St):Gw P conv call ex (.loop c) s=iI (Gw P conv call ex c) s:=rfl
theorem ax4{ext:Ext}{f:FuncId}{fn:Func}{body:Code}{rs:List ResultVar}(ex:List Nat)(G:ext f=none)(J:P.funcs[f]?=some fn)(hb:fn.body=some body)(O:fn.results.toList=rs){args:List V}(E:VA fn body args.length=true)(S:BO conv ex body=true)(σ:Store)(nx:Nat) :
  ev P conv ext f args σ nx=adX P rs (Gw P conv (ev P conv ext) ex body ⟨DW args,σ,nx⟩):=by
 rw[ank G J hb O E,V6,agx body S]
theorem nC{ext:Ext}{f:FuncId}{fn:Func}{body:Code}(rs:List ResultVar)(ex:List Nat)(G:P.funcs[f]?=some fn)(J:ext f=none:=by rfl)(hb:fn.body=some body:=by rfl)(O:fn.results.toList=rs:=by rfl){args:List V}(E:VA fn body args.length=true:=by kernel_rfl)(S:BO conv ex body=true:=by kernel_rfl)(σ:Store)(nx:Nat) :
  ev P conv ext f args σ nx=adX P rs (Gw P conv (ev P conv ext) ex body ⟨DW args,σ,nx⟩):=by
 rw[ank J G hb O E,V6,agx body S]
theorem aaf(ops:Array Oper)(s0 s:St):Nw P conv call ops s0 (some s)=some s:=rfl
def KQ(P:Program)(conv:FuncId->Conv)(call:Call)(id:Nat)(l:List Oper)(s:St):List Nat->Option St
 |[]=>Df P conv call l.toArray l s
 |i :: ex=>if id=i then Nw P conv call l.toArray s (Dh P conv call l.toArray l 0 [] s)else KQ P conv call id l s ex
theorem V_(id:Nat)(l:List Oper)(s:St):∀ex:List Nat,KQ P conv call id l s ex=if id∈ex then Nw P conv call l.toArray s (Dh P conv call l.toArray l 0 [] s)else Df P conv call l.toArray l s
 |[]=>by simp[KQ]
 |i :: ex=>by
  unfold KQ;rw[V_ id l s ex]
  by_cases h:id=i
  .rw[sO h,sO (by simp[h])]
  .rw[sQ h]
   by_cases E:id∈ex
   .rw[sO E,sO (by simp[E])]
   .rw[sQ E,sQ (by simp[h,E])]
theorem akm(i:Nat)(ex:List Nat)(id:Nat)(l:List Oper)(s:St):Gw P conv call (i :: ex) (.region id l.toArray true) s=VY (KQ P conv call id l s (i :: ex)):=by
 rw[V_];rfl
theorem ad6(id:Nat)(l:List Oper)(s:St):KQ P conv call id l s []=Df P conv call l.toArray l s:=rfl
theorem aag(id:Nat)(l:List Oper)(s:St)(i:Nat)(ex:List Nat):KQ P conv call id l s (i :: ex)=if id=i then Nw P conv call l.toArray s (Dh P conv call l.toArray l 0 [] s)else KQ P conv call id l s ex:=rfl
def Wh(P:Program)(conv:FuncId->Conv)(call:Call)(ops:Array Oper)(rest:List Oper)(k:Nat)(acc:List (Nat×Bool×List Nat))(T:Nat->V)(d:Option Tmp):KF->Option St
 |some (v,σ,nx)=>Dh P conv call ops rest k acc ⟨Dc T d v,σ,nx⟩
 |none=>none
def ab5(P:Program)(conv:FuncId->Conv)(call:Call)(ops:Array Oper)(rest:List Oper)(k:Nat)(acc:List (Nat×Bool×List Nat))(o:Oper)(s:St):Option Bool->Option St
 |some true=>if okF o.after acc (writer conv o) (Ad conv s.T s.σ o)=true then Wh P conv call ops rest (k+1) (V8 acc k (writer conv o) (Ad conv s.T s.σ o)) s.T o.dst (Ai P conv call o s.T s.σ s.nx)else none
 |some false=>Dh P conv call ops rest (k+1) acc ⟨Dc s.T o.dst (.AX []),s.σ,s.nx⟩
 |none=>none
theorem aah(ops:Array Oper)(k:Nat)(acc:List (Nat×Bool×List Nat))(s:St):Dh P conv call ops [] k acc s=some s:=rfl
theorem Wi(ops:Array Oper)(k:Nat)(acc:List (Nat×Bool×List Nat))(d:Option Tmp)(op:Op)(ty:TypeId)(ps:String)(af:Array Edge)(rest:List Oper)(T:Nat->V)(σ:Store)(nx:Nat) :
  Dh P conv call ops (⟨d,op,ty,ps,af,none⟩ :: rest) k acc ⟨T,σ,nx⟩=if okF af acc (writer conv ⟨d,op,ty,ps,af,none⟩) (Ad conv T σ ⟨d,op,ty,ps,af,none⟩)=true then Wh P conv call ops rest (k+1) (V8 acc k (writer conv ⟨d,op,ty,ps,af,none⟩) (Ad conv T σ ⟨d,op,ty,ps,af,none⟩)) T d (Ai P conv call ⟨d,op,ty,ps,af,none⟩ T σ nx)else none:=by
 show(if okF af acc (writer conv ⟨d,op,ty,ps,af,none⟩) (Ad conv T σ ⟨d,op,ty,ps,af,none⟩)=true then(match Ai P conv call ⟨d,op,ty,ps,af,none⟩ T σ nx with|some (v,σ',nx')=>_|none=>none)else none)=_;cases Ai P conv call ⟨d,op,ty,ps,af,none⟩ T σ nx<;>rfl
theorem SN(ops:Array Oper)(k:Nat)(acc:List (Nat×Bool×List Nat))(d:Option Tmp)(op:Op)(ty:TypeId)(ps:String)(af:Array Edge)(g:Nat×Bool)(rest:List Oper)(T:Nat->V)(σ:Store)(nx:Nat) :
  Dh P conv call ops (⟨d,op,ty,ps,af,some g⟩ :: rest) k acc ⟨T,σ,nx⟩=ab5 P conv call ops rest k acc ⟨d,op,ty,ps,af,some g⟩ ⟨T,σ,nx⟩ (Bj ops T ⟨d,op,ty,ps,af,some g⟩):=by
 show(match Bj ops T ⟨d,op,ty,ps,af,some g⟩with|some true=>_|some false=>_|none=>none)=_;cases Bj ops T ⟨d,op,ty,ps,af,some g⟩with
 |none=>rfl
 |some b=>
  cases b with
  |false=>rfl
  |true=>
   simp only[ab5];cases Ai P conv call ⟨d,op,ty,ps,af,some g⟩ T σ nx<;>rfl
theorem aai(ops:Array Oper)(rest:List Oper)(k:Nat)(acc:List (Nat×Bool×List Nat))(T:Nat->V)(d:Tmp)(v:V)(σ:Store)(nx:Nat):Wh P conv call ops rest k acc T (some d) (some (v,σ,nx))=Dh P conv call ops rest k acc ⟨upd T d v,σ,nx⟩:=rfl
theorem aaj(ops:Array Oper)(rest:List Oper)(k:Nat)(acc:List (Nat×Bool×List Nat))(T:Nat->V)(v:V)(σ:Store)(nx:Nat):Wh P conv call ops rest k acc T none (some (v,σ,nx))=Dh P conv call ops rest k acc ⟨T,σ,nx⟩:=rfl
theorem aak(ops:Array Oper)(rest:List Oper)(k:Nat)(acc:List (Nat×Bool×List Nat))(d:Option Tmp)(op:Op)(ty:TypeId)(ps:String)(af:Array Edge)(g:Option (Nat×Bool))(T:Nat->V)(σ:Store)(nx:Nat) :
  ab5 P conv call ops rest k acc ⟨d,op,ty,ps,af,g⟩ ⟨T,σ,nx⟩ (some true)=if okF af acc (writer conv ⟨d,op,ty,ps,af,g⟩) (Ad conv T σ ⟨d,op,ty,ps,af,g⟩)=true then Wh P conv call ops rest (k+1) (V8 acc k (writer conv ⟨d,op,ty,ps,af,g⟩) (Ad conv T σ ⟨d,op,ty,ps,af,g⟩)) T d (Ai P conv call ⟨d,op,ty,ps,af,g⟩ T σ nx)else none:=rfl
theorem Wj(ops:Array Oper)(rest:List Oper)(k:Nat)(acc:List (Nat×Bool×List Nat))(d:Tmp)(op:Op)(ty:TypeId)(ps:String)(af:Array Edge)(g:Option (Nat×Bool))(T:Nat->V)(σ:Store)(nx:Nat) :
  ab5 P conv call ops rest k acc ⟨some d,op,ty,ps,af,g⟩ ⟨T,σ,nx⟩ (some false)=Dh P conv call ops rest (k+1) acc ⟨upd T d (.AX []),σ,nx⟩:=rfl
theorem akn(af:Array Edge)(acc:List (Nat×Bool×List Nat))(w:Bool):okF af acc w []=true:=id rfl
theorem agA(af:Array Edge)(acc:List (Nat×Bool×List Nat))(w:Bool)(b:Nat)(E:List Nat):okF af acc w (b :: E)=okG af w (b :: E) acc:=id rfl
theorem ako(af:Array Edge)(w:Bool)(ids:List Nat):okG af w ids []=true:=id rfl
theorem agB(af:Array Edge)(w:Bool)(ids:List Nat)(i:Nat)(v:Bool)(js:List Nat)(acc:List (Nat×Bool×List Nat)):okG af w ids ((i,v,js) :: acc)=((if(w||v)=true then(if Iz af i=true then true else js.all fun b=> !ids.contains b)else true) && okG af w ids acc):=id rfl
theorem agC(acc:List (Nat×Bool×List Nat))(k:Nat)(w:Bool):V8 acc k w []=acc:=id rfl
theorem ad7(acc:List (Nat×Bool×List Nat))(k:Nat)(w:Bool)(b:Nat)(E:List Nat):V8 acc k w (b :: E)=acc++[(k,w,b :: E)]:=id rfl
theorem ad8(i:Nat):Iz #[] i=false:=by simp[Iz]
theorem aal(e:Edge)(es:List Edge)(i:Nat):Iz (e :: es).toArray i=if(e.on==i)=true then(if Region.binds .any e=true then true else Iz es.toArray i)else Iz es.toArray i:=by
 unfold Iz;rw[List.any_toArray,List.any_toArray,List.any_cons];cases e.on==i<;>cases Region.binds .any e<;>simp
theorem aam(i:Nat):Region.binds .any ⟨i,.data⟩=true:=id rfl
theorem Wn(i:Nat):Region.binds .any ⟨i,.phase⟩=true:=id rfl
theorem Wp(i:Nat):Region.binds .any ⟨i,.chain⟩=true:=id rfl
theorem Wq(i:Nat):Region.binds .any ⟨i,.guard⟩=true:=id rfl
theorem aan(i:Nat)(d:Departure):Region.binds .any ⟨i,.textOnly d⟩=false:=id rfl
theorem agD(i:Nat)(d:Departure):Region.binds .any ⟨i,.gcOnly d⟩=false:=id rfl
section
variable (d:Option Tmp) (ty:TypeId) (ps:String) (af:Array Edge) (gd:Option (Nat×Bool)) (T:Nat->V) (σ:Store)
theorem akp(t:TypeId)(a x:Operand):writer conv ⟨d,.store t a x,ty,ps,af,gd⟩=true:=id rfl
theorem aao(t:TypeId)(a x:Operand):Ad conv T σ ⟨d,.store t a x,ty,ps,af,gd⟩=Ae (val T a):=rfl
theorem ad9(t:TypeId)(a:Operand):Ad conv T σ ⟨d,.load t a,ty,ps,af,gd⟩=Ae (val T a):=rfl
theorem aol(t:TypeId)(a:Operand):writer conv ⟨d,.load t a,ty,ps,af,gd⟩=false:=id rfl
theorem akq(b off:Nat):Ae (.rp b off)=[b]:=rfl
theorem akr(b off len:Nat):Ae (.rs b off len)=[b]:=rfl
theorem aks(row:List V)(off:Nat):Ae (.tp row off)=[]:=rfl
theorem akt(row:List V)(off:Nat):Ae (.ts row off)=[]:=rfl
theorem aku(v:Value):Ae (.sc v)=[]:=rfl
theorem agE:Ae .nil=[]:=rfl
theorem agF(vs:List V):Ae (.agg vs)=[]:=rfl
theorem ad_(x:Operand):Ad conv T σ ⟨d,.move x,ty,ps,af,gd⟩=[]:=rfl
theorem aom(x:Operand):writer conv ⟨d,.move x,ty,ps,af,gd⟩=false:=id rfl
theorem Ws(x:Operand):Ad conv T σ ⟨d,.assign x,ty,ps,af,gd⟩=[]:=rfl
theorem agG(x:Operand):writer conv ⟨d,.assign x,ty,ps,af,gd⟩=false:=id rfl
theorem aea(c a b:Operand):Ad conv T σ ⟨d,.pick c a b,ty,ps,af,gd⟩=[]:=rfl
theorem aon(c a b:Operand):writer conv ⟨d,.pick c a b,ty,ps,af,gd⟩=false:=id rfl
theorem PO(x:Operand):Ad conv T σ ⟨d,.nilCheck x,ty,ps,af,gd⟩=[]:=rfl
theorem aap(x:Operand):writer conv ⟨d,.nilCheck x,ty,ps,af,gd⟩=false:=id rfl
theorem aaq(op:BinOp)(t:TypeId)(x y:Operand)(E:TypeId):Ad conv T σ ⟨d,.binOp op t x y E,ty,ps,af,gd⟩=[]:=rfl
theorem akv(op:BinOp)(t:TypeId)(x y:Operand)(E:TypeId):writer conv ⟨d,.binOp op t x y E,ty,ps,af,gd⟩=false:=id rfl
theorem aeb(op:UnOp)(t:TypeId)(x:Operand):Ad conv T σ ⟨d,.unOp op t x,ty,ps,af,gd⟩=[]:=rfl
theorem aoo(op:UnOp)(t:TypeId)(x:Operand):writer conv ⟨d,.unOp op t x,ty,ps,af,gd⟩=false:=id rfl
theorem Ny(t:TypeId)(x:Operand)(f:Nat):Ad conv T σ ⟨d,.fieldAddr t x f,ty,ps,af,gd⟩=[]:=rfl
theorem Wu(t:TypeId)(x:Operand)(f:Nat):writer conv ⟨d,.fieldAddr t x f,ty,ps,af,gd⟩=false:=id rfl
theorem aar(t:TypeId)(x:Operand)(f:Nat):Ad conv T σ ⟨d,.field t x f,ty,ps,af,gd⟩=[]:=rfl
theorem akw(t:TypeId)(x:Operand)(f:Nat):writer conv ⟨d,.field t x f,ty,ps,af,gd⟩=false:=id rfl
theorem Nz(t:TypeId)(x i:Operand):Ad conv T σ ⟨d,.indexAddr t x i,ty,ps,af,gd⟩=[]:=rfl
theorem Wv(t:TypeId)(x i:Operand):writer conv ⟨d,.indexAddr t x i,ty,ps,af,gd⟩=false:=id rfl
theorem aas(t:TypeId)(x i:Operand):Ad conv T σ ⟨d,.index t x i,ty,ps,af,gd⟩=[]:=rfl
theorem akx(t:TypeId)(x i:Operand):writer conv ⟨d,.index t x i,ty,ps,af,gd⟩=false:=id rfl
theorem SQ(x:Operand)(i:Nat):Ad conv T σ ⟨d,.extract x i,ty,ps,af,gd⟩=[]:=rfl
theorem aec(x:Operand)(i:Nat):writer conv ⟨d,.extract x i,ty,ps,af,gd⟩=false:=id rfl
theorem agH(x:Operand)(t:TypeId):Ad conv T σ ⟨d,.call ⟨.builtin .len,#[x],#[t]⟩,ty,ps,af,gd⟩=[]:=rfl
theorem arP(x:Operand)(t:TypeId):writer conv ⟨d,.call ⟨.builtin .len,#[x],#[t]⟩,ty,ps,af,gd⟩=false:=id rfl
theorem aat(t:TypeId)(parts:Array (Nat×Operand)):Ad conv T σ ⟨d,.build t parts,ty,ps,af,gd⟩=[]:=rfl
theorem aky(t:TypeId)(parts:Array (Nat×Operand)):writer conv ⟨d,.build t parts,ty,ps,af,gd⟩=false:=id rfl
theorem PS(f:FuncId)(cap:Array Operand):Ad conv T σ ⟨d,.makeFunc (.func f) #[] cap,ty,ps,af,gd⟩=[]:=rfl
theorem aau(f:FuncId)(cap:Array Operand):writer conv ⟨d,.makeFunc (.func f) #[] cap,ty,ps,af,gd⟩=false:=id rfl
theorem aav(t:TypeId):Ad conv T σ ⟨d,.alloc t,ty,ps,af,gd⟩=[]:=rfl
theorem akz(t:TypeId):writer conv ⟨d,.alloc t,ty,ps,af,gd⟩=false:=id rfl
theorem agI(t:TypeId)(x:Operand):Ad conv T σ ⟨d,.box t x,ty,ps,af,gd⟩=[]:=rfl
theorem arQ(t:TypeId)(x:Operand):writer conv ⟨d,.box t x,ty,ps,af,gd⟩=false:=id rfl
theorem aop{g:FuncId}(h:conv g= .KI)(args:Array Operand)(ts:Array TypeId):writer conv ⟨d,.call ⟨.value (.func g),args,ts⟩,ty,ps,af,gd⟩=false:=by unfold writer;simp only[h]
theorem mG{g:FuncId}(h:conv g≠ .inl)(args:Array Operand)(ts:Array TypeId):Dw conv T σ ⟨d,.call ⟨.value (.func g),args,ts⟩,ty,ps,af,gd⟩=(stripL (strip σ depth) (args.toList.map (val T))).map (·.2):=by
 simp only[Dw,val,zH,Qq];cases hc:conv g with
 |inl=>exact absurd hc h
 |own=>cases stripL (strip σ depth) (args.toList.map (val T))<;>rfl
 |KI=>cases stripL (strip σ depth) (args.toList.map (val T))<;>rfl
theorem aed{g:FuncId}(h:conv g= .KI)(args:Array Operand)(ts:Array TypeId):Ad conv T σ ⟨d,.call ⟨.value (.func g),args,ts⟩,ty,ps,af,gd⟩=((stripL (strip σ depth) (args.toList.map (val T))).map (·.2)).getD []:=by
 unfold Ad;rw[mG d ty ps af gd T σ (by rw[h];exact fun e=>by cases e)]
end
def Wx(P:Program)(conv:FuncId->Conv)(call:Call)(ops:Array Oper)(rest:List Oper)(T:Nat->V)(d:Option Tmp):KF->Option St
 |some (v,σ,nx)=>Df P conv call ops rest ⟨Dc T d v,σ,nx⟩
 |none=>none
def ab6(P:Program)(conv:FuncId->Conv)(call:Call)(ops:Array Oper)(rest:List Oper)(o:Oper)(s:St):Option Bool->Option St
 |some true=>Wx P conv call ops rest s.T o.dst (Ai P conv call o s.T s.σ s.nx)
 |some false=>Df P conv call ops rest ⟨Dc s.T o.dst (.AX []),s.σ,s.nx⟩
 |none=>none
theorem aaw(ops:Array Oper)(s:St):Df P conv call ops [] s=some s:=rfl
theorem Wy(ops:Array Oper)(d:Option Tmp)(op:Op)(ty:TypeId)(ps:String)(af:Array Edge)(rest:List Oper)(T:Nat->V)(σ:Store)(nx:Nat) :
  Df P conv call ops (⟨d,op,ty,ps,af,none⟩ :: rest) ⟨T,σ,nx⟩=Wx P conv call ops rest T d (Ai P conv call ⟨d,op,ty,ps,af,none⟩ T σ nx):=by
 show(match Ai P conv call ⟨d,op,ty,ps,af,none⟩ T σ nx with|some (v,σ',nx')=>_|none=>none)=_;cases Ai P conv call ⟨d,op,ty,ps,af,none⟩ T σ nx<;>rfl
theorem SS(ops:Array Oper)(d:Option Tmp)(op:Op)(ty:TypeId)(ps:String)(af:Array Edge)(g:Nat×Bool)(rest:List Oper)(T:Nat->V)(σ:Store)(nx:Nat) :
  Df P conv call ops (⟨d,op,ty,ps,af,some g⟩ :: rest) ⟨T,σ,nx⟩=ab6 P conv call ops rest ⟨d,op,ty,ps,af,some g⟩ ⟨T,σ,nx⟩ (Bj ops T ⟨d,op,ty,ps,af,some g⟩):=by
 show(match Bj ops T ⟨d,op,ty,ps,af,some g⟩with|some true=>_|some false=>_|none=>none)=_;cases Bj ops T ⟨d,op,ty,ps,af,some g⟩with
 |none=>rfl
 |some b=>
  cases b with
  |false=>rfl
  |true=>
   simp only[ab6];cases Ai P conv call ⟨d,op,ty,ps,af,some g⟩ T σ nx<;>rfl
theorem aax(ops:Array Oper)(rest:List Oper)(T:Nat->V)(d:Tmp)(v:V)(σ:Store)(nx:Nat):Wx P conv call ops rest T (some d) (some (v,σ,nx))=Df P conv call ops rest ⟨upd T d v,σ,nx⟩:=rfl
theorem aay(ops:Array Oper)(rest:List Oper)(T:Nat->V)(v:V)(σ:Store)(nx:Nat):Wx P conv call ops rest T none (some (v,σ,nx))=Df P conv call ops rest ⟨T,σ,nx⟩:=rfl
theorem aaz(ops:Array Oper)(rest:List Oper)(d:Option Tmp)(op:Op)(ty:TypeId)(ps:String)(af:Array Edge)(g:Option (Nat×Bool))(T:Nat->V)(σ:Store)(nx:Nat) :
  ab6 P conv call ops rest ⟨d,op,ty,ps,af,g⟩ ⟨T,σ,nx⟩ (some true)=Wx P conv call ops rest T d (Ai P conv call ⟨d,op,ty,ps,af,g⟩ T σ nx):=rfl
theorem WA(ops:Array Oper)(rest:List Oper)(d:Tmp)(op:Op)(ty:TypeId)(ps:String)(af:Array Edge)(g:Option (Nat×Bool))(T:Nat->V)(σ:Store)(nx:Nat) :
  ab6 P conv call ops rest ⟨some d,op,ty,ps,af,g⟩ ⟨T,σ,nx⟩ (some false)=Df P conv call ops rest ⟨upd T d (.AX []),σ,nx⟩:=rfl
theorem aaA{σ:Store}{nx:Nat}{cells:List V}{st:Nat}:yI [] nx (nx+1) σ (Au (restrict σ []) nx cells st)=Au σ nx cells st:=by
 funext b;unfold yI Au upd restrict
 by_cases h:b=nx
 .subst h;simp
 .rw[sQ (by simp;omega),sQ h]
section
variable (d:Option Tmp) (ty:TypeId) (ps:String) (af:Array Edge) (gd:Option (Nat×Bool)) (T:Nat->V) (σ:Store) (nx:Nat)
omit d ty ps af gd T σ nx in
theorem JQ(T:Nat->V)(o:Oper)(v:V):keeps conv T o [] v=true:=by
 obtain⟨dst,op,type,pos,after,guard⟩:=o;cases op<;>simp only[keeps];rename_i c;obtain⟨callee,args,ts⟩:=c;cases callee with
 |value f=>
  cases E:val T f<;>simp only[E];rename_i g cs;cases hc:conv g<;>simp
 |builtin b=>rfl
 |invoke r m=>rfl
theorem nP{o:Oper}{F:List Nat}(E:Dw conv T σ o=some F)(G:∀v,keeps conv T o F v=true):Ai P conv call o T σ nx=if(F.all fun b=>decide (b<nx))=true then match AO P conv call o T (restrict σ F) nx with|some (v,σ1,qI)=>some (v,yI F nx qI σ σ1,qI)|none=>none else none:=by
 unfold Ai;simp only[E,G,if_true];cases AO P conv call o T (restrict σ F) nx with
 |none=>rfl
 |some r=>rfl
theorem Md{o:Oper}(E:Dw conv T σ o=some []){v:V}(h:∀σ,AO P conv call o T σ nx=some (v,σ,nx)):Ai P conv call o T σ nx=some (v,σ,nx):=by
 rw[nP T σ nx E (JQ T o)];simp only[w_,if_true,h];rw[iJ]
theorem iY{o:Oper}(E:Dw conv T σ o=some []){m:Option V}(h:∀σ,AO P conv call o T σ nx=m.map (·,σ,nx)):Ai P conv call o T σ nx=m.map (·,σ,nx):=by
 cases m with
 |some v=>exact Md T σ nx E h
 |none=>
  rw[nP T σ nx E (JQ T o)];simp only[w_,if_true,h,Option.map_none]
theorem IB{o:Oper}(E:Dw conv T σ o=some []){m:Option (List V×Nat×V)}(h:∀σ,AO P conv call o T σ nx=m.map fun p=>(p.2.2,Au σ nx p.1 p.2.1,nx+1)):Ai P conv call o T σ nx=m.map fun p=>(p.2.2,Au σ nx p.1 p.2.1,nx+1):=by
 rw[nP T σ nx E (JQ T o)];simp only[w_,if_true,h];cases m with
 |none=>rfl
 |some p=>simp only[zJ];rw[aaA]
theorem agJ(x:Operand):Ai P conv call ⟨d,.move x,ty,ps,af,gd⟩ T σ nx=some (val T x,σ,nx):=Md T σ nx rfl fun _=>rfl
theorem aaB(x:Operand):Ai P conv call ⟨d,.assign x,ty,ps,af,gd⟩ T σ nx=some (val T x,σ,nx):=Md T σ nx rfl fun _=>rfl
theorem agK(c a b:Operand):Ai P conv call ⟨d,.pick c a b,ty,ps,af,gd⟩ T σ nx=(ab3 (val T a) (val T b) (val T c)).map (·,σ,nx):=iY T σ nx rfl fun σ=>ab4 d ty ps af gd T σ nx c a b
theorem SV(x:Operand):Ai P conv call ⟨d,.nilCheck x,ty,ps,af,gd⟩ T σ nx=(agi (val T x)).map (·,σ,nx):=iY T σ nx rfl fun σ=>KP d ty ps af gd T σ nx x
theorem aee(op:BinOp)(t:TypeId)(x y:Operand)(E:TypeId):Ai P conv call ⟨d,.binOp op t x y E,ty,ps,af,gd⟩ T σ nx=(Am P op t x y (val T x) (val T y)).map (·,σ,nx):=iY T σ nx rfl fun _=>rfl
theorem agL(op:UnOp)(t:TypeId)(x:Operand):Ai P conv call ⟨d,.unOp op t x,ty,ps,af,gd⟩ T σ nx=(YK P op (val T x)).map (·,σ,nx):=iY T σ nx rfl fun _=>rfl
theorem PU(t:TypeId)(x:Operand)(f:Nat):Ai P conv call ⟨d,.fieldAddr t x f,ty,ps,af,gd⟩ T σ nx=(BL P t (val T x) f).map (·,σ,nx):=iY T σ nx rfl fun _=>rfl
theorem PV(t:TypeId)(x i:Operand):Ai P conv call ⟨d,.indexAddr t x i,ty,ps,af,gd⟩ T σ nx=(CQ P t (val T x) (val T i)).map (·,σ,nx):=iY T σ nx rfl fun _=>rfl
theorem WB(x:Operand)(i:Nat):Ai P conv call ⟨d,.extract x i,ty,ps,af,gd⟩ T σ nx=(akf i (val T x)).map (·,σ,nx):=iY T σ nx rfl fun σ=>Nu d ty ps af gd T σ nx x i
theorem akA(x:Operand)(t:TypeId):Ai P conv call ⟨d,.call ⟨.builtin .len,#[x],#[t]⟩,ty,ps,af,gd⟩ T σ nx=(DI P t (val T x)).map (·,σ,nx):=iY T σ nx rfl fun _=>rfl
theorem aef(t:TypeId)(parts:Array (Nat×Operand)):Ai P conv call ⟨d,.build t parts,ty,ps,af,gd⟩ T σ nx=(Gh P t (parts.toList.map fun p=>(p.1,val T p.2))).map (·,σ,nx):=iY T σ nx rfl fun _=>rfl
theorem aeg(t:TypeId)(h:(xI P t).ok=true)(E:decide ((xI P t).zero.length=(xI P t).size)=true)(G:decide (0<(xI P t).size)=true)(hb:isB (xI P t).zero=false):Ai P conv call ⟨d,.alloc t,ty,ps,af,gd⟩ T σ nx=some (.rp nx 0,Au σ nx (xI P t).zero 0,nx+1) :=
 IB (m:=some ((xI P t).zero,0,.rp nx 0)) T σ nx rfl fun σ=>VW d ty ps af gd T σ nx t h E G hb
theorem akB(t:TypeId)(x:Operand):Ai P conv call ⟨d,.box t x,ty,ps,af,gd⟩ T σ nx=(cellsOfV (val T x)).map fun cs=>(.rp nx 0,Au σ nx cs 0,nx+1):=by
 have:=IB (P:=P) (conv:=conv) (call:=call) (o:=⟨d,.box t x,ty,ps,af,gd⟩) (m:=(cellsOfV (val T x)).map fun cs=>(cs,0,V.rp nx 0)) T σ nx rfl fun σ=>by rw[agd];cases cellsOfV (val T x)<;>rfl
 rw[this];cases cellsOfV (val T x)<;>rfl
def NC(P:Program)(σ:Store)(nx:Nat)(t:TypeId):V->Option V
 | .rp b off=>if b<nx then AZ P σ t (.rp b off)else none
 |v=>AZ P σ t v
theorem agM(t:TypeId)(a:Operand):Ai P conv call ⟨d,.load t a,ty,ps,af,gd⟩ T σ nx=(NC P σ nx t (val T a)).map (·,σ,nx):=by
 have key:∀b off,AZ P (restrict σ [b]) t (.rp b off)=AZ P σ t (.rp b off):=fun b off=>by
  unfold AZ DN restrict;simp
 rw[nP (F:=Ae (val T a)) T σ nx rfl (fun _=>rfl)];show(if((Ae (val T a)).all fun b=>decide (b<nx))=true then match(AZ P (restrict σ (Ae (val T a))) t (val T a)).map (·,restrict σ (Ae (val T a)),nx)with|some (v,σ1,qI)=>some (v,yI (Ae (val T a)) nx qI σ σ1,qI)|none=>none else none)=_;cases E:val T a with
 |rp b off=>
  simp only[Ae,vY,w_,uj,decide_eq_true_eq,NC,key]
  by_cases hb:b<nx
  .rw[sO hb,sO hb]
   cases AZ P σ t (.rp b off)with
   |none=>rfl
   |some v=>simp only[zJ,iK]
  .rw[sQ hb,sQ hb];rfl
 |tp row off=>
  simp only[Ae,w_,if_true,NC];have:AZ P (restrict σ []) t (.tp row off)=AZ P σ t (.tp row off):=by unfold AZ DN;rfl
  rw[this];cases AZ P σ t (.tp row off)with
  |none=>rfl
  |some v=>simp only[zJ,iJ]
 |rs b off len=>
  have e:∀σ,AZ P σ t (.rs b off len)=none:=fun σ=>by unfold AZ DN;split<;>simp
  simp only[NC,e,Option.map_none]
  split<;>rfl
 |_=>
  simp only[Ae,w_,if_true,NC];unfold AZ DN;cases P.info? t<;>cases P.underlying t<;>simp
theorem agN(σ:Store)(nx:Nat)(t:TypeId)(row:List V)(off:Nat):NC P σ nx t (.tp row off)=AZ P σ t (.tp row off):=rfl
theorem agO(σ:Store)(nx:Nat)(t:TypeId)(b off:Nat):NC P σ nx t (.rp b off)=if b<nx then AZ P σ t (.rp b off)else none:=rfl
def SX(P:Program)(σ:Store)(nx:Nat)(t:TypeId)(v:V):V->Option Store
 | .rp b off=>if b<nx then Dv P σ t (.rp b off) v else none
 |_=>none
theorem aeh(t:TypeId)(a x:Operand):Ai P conv call ⟨d,.store t a x,ty,ps,af,gd⟩ T σ nx=(SX P σ nx t (val T x) (val T a)).map (.AX [],·,nx):=by
 rw[nP (F:=Ae (val T a)) T σ nx rfl (fun _=>rfl)];show(if((Ae (val T a)).all fun b=>decide (b<nx))=true then match(Dv P (restrict σ (Ae (val T a))) t (val T a) (val T x)).map (V.AX [],·,nx)with|some (v,σ1,qI)=>some (v,yI (Ae (val T a)) nx qI σ σ1,qI)|none=>none else none)=_;cases G:val T a with
 |rp b off=>
  simp only[Ae,vY,w_,uj,decide_eq_true_eq,SX]
  by_cases hb:b<nx
  .rw[sO hb,sO hb]
   unfold Dv;have J:restrict σ [b] b=σ b:=by unfold restrict;simp
   cases P.info? t with
   |none=>rfl
   |some i=>
    cases cellsOfV (val T x)with
    |none=>rfl
    |some vs=>
     simp only[J];cases σ b with
     |none=>rfl
     |some B=>
      by_cases hc:B.wr=true/\vs.length=i.size/\off+vs.length<=B.cells.length/\vs.all vI=true
      .simp only[sO hc,zJ]
       congr 2;congr 1;funext c;unfold yI upd restrict
       by_cases E:c=b
       .subst E;simp
       .rw[sQ (by simp[E]),sQ E]
      .simp only[sQ hc,Option.map_none]
  .rw[sQ hb,sQ hb];rfl
 |_=>
  simp only[SX];have:Dv P (restrict σ (Ae (val T a))) t (val T a) (val T x)=none:=by
   rw[G];unfold Dv;cases P.info? t<;>cases cellsOfV (val T x)<;>rfl
  rw[G]at this;rw[this];simp
theorem aei(σ:Store)(nx:Nat)(t:TypeId)(v:V)(b off:Nat):SX P σ nx t v (.rp b off)=if b<nx then Dv P σ t (.rp b off) v else none:=rfl
end
end
end Go.TV
namespace Go.TV
set_option linter.unusedVariables false
set_option linter.unusedSimpArgs false
variable [Known]
noncomputable def fn(P:Program)(conv:FuncId->Conv)(ext:Ext)(f:FuncId)(ts:List V):Option V :=
 match ev P conv ext f ts pI 0 with
 |some (v,σ1,_)=>(strip σ1 depth v).map (·.1)
 |none=>none
section
variable {P:Program} {conv:FuncId->Conv} {ext:Ext}
def behind(σ:Store)(ids:List Nat)(t:V):Store:=if ids.isEmpty||flat depth t then σ else DR σ ids
theorem WC{f:FuncId}(h:conv f= .KI)(args:List V)(σ:Store)(nx:Nat):CO conv (ev P conv ext) f args σ nx=
  (stripL (strip σ depth) args).bind fun p=>(fn P conv ext f p.1).map fun t=>(t,behind σ p.2 t,nx):=by
 unfold CO fn behind;rw[h];simp only;cases stripL (strip σ depth) args with
 |none=>rfl
 |some p=>
  obtain⟨ts,ids⟩:=p;simp only[zk];cases ev P conv ext f ts pI 0 with
  |none=>rfl
  |some q=>
   obtain⟨v,E,n⟩:=q;simp only;cases strip E depth v with
   |none=>rfl
   |some r=>
    obtain⟨t,j⟩:=r;simp only[zJ]
    split<;>rfl
theorem aaC(σ:Store)(t:V):behind σ [] t=σ:=rfl
theorem aej(σ:Store)(ids:List Nat)(v:Value):behind σ ids (.sc v)=σ:=by
 unfold behind depth flat;simp
theorem WE(σ:Store)(ids:List Nat)(v w:Value):behind σ ids (.AX [.sc v,.sc w])=σ:=by
 have:flat depth (.AX [.sc v,.sc w])=true:=rfl;unfold behind;rw[this];simp
theorem qE{call:Call}{f:FuncId}(h:conv f= .inl)(args:List V)(σ:Store)(nx:Nat):CO conv call f args σ nx=call f args σ nx:=by
 unfold CO;rw[h]
theorem WG{call:Call}{f:FuncId}(h:conv f= .own)(args:List V)(σ:Store)(nx:Nat):CO conv call f args σ nx=
  (stripL (strip σ depth) args).bind fun p=>(call f p.1 pI nx).bind fun q=>(gather q.2.1 depth q.1).map fun ids=>(q.1,Ce nx σ q.2.1 ids,q.2.2):=by
 unfold CO;rw[h];simp only;cases stripL (strip σ depth) args with
 |none=>rfl
 |some p=>
  simp only[zk];cases call f p.1 pI nx with
  |none=>rfl
  |some q=>
   simp only[zk];cases gather q.2.1 depth q.1<;>rfl
theorem aY(f:V->Option (V×List Nat)):stripL f []=some ([],[]):=rfl
theorem au(f:V->Option (V×List Nat))(v:V)(vs:List V):stripL f (v :: vs)=(f v).bind fun p=>(stripL f vs).map fun q=>(p.1 :: q.1,p.2++q.2):=by
 show(match f v,stripL f vs with|some (t,i),some (ts,j)=>some (t :: ts,i++j)|_,_=>none)=_;cases f v<;>cases stripL f vs<;>rfl
theorem aQ(σ:Store)(d:Nat)(v:Value):strip σ d (.sc v)=some (.sc v,[]):=by cases d<;>rfl
theorem aT(σ:Store)(d:Nat):strip σ d .nil=some (.ts [] 0,[]):=by cases d<;>rfl
theorem aO(σ:Store)(d:Nat)(row:List V)(off:Nat):strip σ d (.tp row off)=some (.tp row off,[]):=by cases d<;>rfl
theorem aN(σ:Store)(d:Nat)(row:List V)(len:Nat):strip σ d (.ts row len)=some (.ts row len,[]):=by cases d<;>rfl
theorem Qx(σ:Store)(d:Nat)(vs:List V):strip σ (d+1) (.agg vs)=(stripL (strip σ d) vs).map fun p=>(.agg p.1,p.2):=by
 show(match stripL (strip σ d) vs with|some (ts,ids)=>some (V.agg ts,ids)|none=>none)=_;cases stripL (strip σ d) vs<;>rfl
theorem aek(σ:Store)(d:Nat)(vs:List V):strip σ (d+1) (.AX vs)=(stripL (strip σ d) vs).map fun p=>(.AX p.1,p.2):=by
 show(match stripL (strip σ d) vs with|some (ts,ids)=>some (V.AX ts,ids)|none=>none)=_;cases stripL (strip σ d) vs<;>rfl
theorem ael(σ:Store)(d:Nat)(f:FuncId)(vs:List V):strip σ (d+1) (.clo f vs)=(stripL (strip σ d) vs).map fun p=>(.clo f p.1,p.2):=by
 show(match stripL (strip σ d) vs with|some (ts,ids)=>some (V.clo f ts,ids)|none=>none)=_;cases stripL (strip σ d) vs<;>rfl
theorem ND(σ:Store)(d b off:Nat):strip σ (d+1) (.rp b off)=(σ b).bind fun B=>(stripL (strip σ d) B.cells).map fun p=>(.tp p.1 off,b :: p.2):=by
 show(match σ b with|some B=>(match stripL (strip σ d) B.cells with|some (ts,ids)=>some (V.tp ts off,b :: ids)|none=>none)|none=>none)=_;cases σ b with
 |none=>rfl
 |some B=>simp only[zk];cases stripL (strip σ d) B.cells<;>rfl
theorem aS(σ:Store)(d b off len:Nat):strip σ (d+1) (.rs b off len)=(σ b).bind fun B=>if off+len*B.st<=B.cells.length then(stripL (strip σ d) ((B.cells.drop off).take (len*B.st))).map fun p=>(.ts p.1 len,b :: p.2)else none:=by
 show(match σ b with|some B=>(if off+len*B.st<=B.cells.length then(match stripL (strip σ d) ((B.cells.drop off).take (len*B.st))with|some (ts,ids)=>some (V.ts ts len,b :: ids)|none=>none)else none)|none=>none)=_;cases σ b with
 |none=>rfl
 |some B=>
  simp only[zk]
  split
  .cases stripL (strip σ d) ((B.cells.drop off).take (len*B.st))<;>rfl
  .rfl
def agP(ids:List Nat)(t:V)(σ:Store)(nx:Nat):KF:=if(ids.isEmpty||flat depth t)=true then some (t,σ,nx)else none
theorem aem(t:V)(σ:Store)(nx:Nat):agP [] t σ nx=some (t,σ,nx):=rfl
theorem agQ{d:Option Tmp}{ty:TypeId}{ps:String}{O:Array Edge}{S:Option (Nat×Bool)}{T:Nat->V}{σ:Store}{nx:Nat}{g:FuncId}(h:conv g= .KI)(args:Array Operand)(ts:Array TypeId) :
  Ai P conv (ev P conv ext) ⟨d,.call ⟨.value (.func g),args,ts⟩,ty,ps,O,S⟩ T σ nx=(stripL (strip σ depth) (args.toList.map (val T))).bind fun p=>if(p.2.all fun b=>decide (b<nx))=true then(fn P conv ext g p.1).bind fun t=>agP p.2 t σ nx else none:=by
 unfold Ai;rw[mG d ty ps O S T σ (by rw[h];exact fun e=>by cases e)];cases Y:stripL (strip σ depth) (args.toList.map (val T))with
 |none=>rfl
 |some p=>
  obtain⟨us,ids⟩:=p;simp only[zJ,zk]
  by_cases E:(ids.all fun b=>decide (b<nx))=true
  .rw[sO E,sO E]
   have e:=Mc (P:=P) (conv:=conv) (call:=ev P conv ext) d ty ps O S T (restrict σ ids) nx (.func g) args ts;rw[e];have G:stripL (strip (restrict σ ids) depth) (args.toList.map (val T))=some (us,ids) :=
    ay (fun v t i h hi=>aV _ v t i h fun b hb=>by unfold restrict;rw[sO (hi b hb)]) Y
   simp only[val,qF,zH,WC h,G,zk];cases fn P conv ext g us with
   |none=>rfl
   |some t=>
    simp only[zJ,zk,keeps,val,h,agP,behind]
    by_cases J:(ids.isEmpty||flat depth t)=true
    .rw[sO J,sO J,sO J,iK]
    .rw[sQ J,sQ J]
  .rw[sQ E,sQ E]
end
abbrev I(n:Int):V:=.sc (.int .i64 n)
abbrev Bo(b:Bool):V:=.sc (.bool b)
abbrev Sg(s:ByteArray):V:=.sc (.string s)
abbrev L(xs:List Int):V:=.ts (xs.map I) xs.length
theorem jF(n:Nat):(0:Int)<=(n:Int):=by omega
theorem ZU{n:Int}(E:-9223372036854775808<=n:=by omega)(G:n<=9223372036854775807:=by omega):IntKind.i64.wrap n=n:=by
 rw[IntKind.wrap_i64];omega
end Go.TV
namespace Go.TV
variable [Known]
attribute [go_sem low] iW
attribute [go_sem] aaf akm ad6 aag aah Wi SN aai aaj aak Wj akn agA ako agB agC ad7 ad8 aal aam Wn Wp Wq aan agD akp aao ad9 aol akq akr aks akt aku agE agF ad_ aom Ws agG aea aon PO aap aaq akv aeb aoo Ny Wu aar akw Nz Wv aas akx SQ aec agH arP aat aky PS aau aav akz agI arQ aop aed List.contains_cons List.contains_nil Bool.or_false Bool.false_or Bool.true_or Nat.reduceBEq adQ ZG VT adR adS adT ZH SC VU SE aj7 adU aga aj8 adV ab4 ZI VW arK arL arM aoc aj9 aj_ agb ZJ agc aj' aod wM wY xY agd agf akb agh KP akc akd agj ake ZK VX Iy agk SH agl SI agm Nu agn Mc qF aoe Qv akg agq adN ZC ZL VZ Z7 V3 Z8 adW Z9 adY ags akh agt agu agv adZ Z_ ad1 ad2 V7 ad3 ad4 aac SK aad aae ad5 arN aki aof akj agy aog aoh arO aoi aoj akk agz akl aok aaw Wy SS aax aay aaz WA agJ aaB agK SV aee agL PU PV WB akA aef aeg akB agM agN agO aeh aei agQ aem yG Option.getD_none adK Y4 adL Y5 Y6 VN Y7 Y8 Y9 Y_ adM ny ZA VO VP nV nX adO adP VQ ZE ZF an1 an2 an3 an4 an5 an6 an7 an8 an9 an_ an' aoa aob WC aaC aej WE aY au aQ aT aO aN Qx aek ael ND aS Zj Zk ne_eq wS tK yG zJ zk wU not_false_eq_true reduceCtorEq beq_self_eq_true if_true if_false yE uN List.map_nil yJ yR Nat.reduceEqDiff decide_true decide_false xY wM vH wE uj Bool.or_true wY bnd and_true true_and
end Go.TV
namespace Go.TV
variable [Known]
theorem jS{body:St->Option (Ex×St)}{E:St}{x:Option (Ex×St)}(S:iI body E=x)(J:Nat->St->Prop)(post:Ex×St->Prop)
  (step:∀n st,J n st->(∃G,body st=some (.norm,G)/\∃m,m<n/\J m G)\/(∃r,body st=some r/\(∀s,r≠(.norm,s))/\post r)) (n:Nat) (Y:J n E):∃r,x=some r/\post r:=by
 subst S
 induction n using Nat.strongRecOn generalizing E with
 |_ n ih=>
  rcases step n E Y with ⟨G,O,m,hm,hJ⟩|⟨r,O,h2,h3⟩
  .obtain⟨r,hr,hp⟩:=ih m hm hJ
   exact⟨r,by rw[Nr,O];exact hr,hp⟩
  .refine⟨r,?_,h3⟩
   rw[Nr,O];obtain⟨e,s⟩:=r;cases e with
   |norm=>exact absurd rfl (h2 s)
   |exit i=>rfl
   |ret=>rfl
end Go.TV
namespace Go.TV
open Go.ChangeShapes Go.WideShapes Go.RowKit
set_option linter.unusedVariables false
variable [Known]
def start(W:World):Sit:=⟨fun k _=>k<W.heap.size,fun _=>none,W⟩
theorem aen(W:World)(E:Kn (start W)):Inv (start W) pI:=Inv.none _ (fun _ _ h=>h) E
structure OpensV {α:Type} (P:Program) (t:TypeId) (c:α->List V) (ok:α->Prop):Prop where
 out:∀ {H:Type} {enc:TypeId×Value->H} {W:World} {base:Nat} {spare:Nat->Bool} {held:Bool} {fuel:Nat} {cs:List Value} {y:DataW H×List MemPlace},
  DataW.trod enc P W base spare held fuel t cs=some y->(∀n∈DataW.weights P t y.1,n<=reachBytes)->∃x,VRs (start W) (c x) cs/\ok x
theorem SY{s:Sit}{v:V}{x:Value}(h:VR s v x):VRs s [v] [x]:=by
 unfold VRs;exact⟨x,[],rfl,h,by unfold VRs;rfl⟩
theorem opensV_int{P:Program}{t:TypeId}{k:IntKind}(E:P.underlying t=some (.int k)):OpensV P t (fun n:Int=>[.sc (.int k n)]) (fun n=>(Lit.int k n).wf=true) :=
 ⟨fun h _=>by
  obtain⟨n,rfl,_,hw⟩:=DataW.trod_int E h;exact⟨n,SY (rZ rfl),hw⟩⟩
theorem ZW{H:Type}{P:Program}{e:TypeId}:∀ {l:List (DataW H)} {d:DataW H},d∈l->∀n∈d.weights P e,n∈DataW.weightsAll P e l
 |c :: l,d,E,n,hn=>by
  unfold DataW.weightsAll;rcases List.mem_cons.1 E with rfl|E
  .exact z_ _ hn
  .exact yh _ (ZW E n hn)
theorem KR{α:Type}{p:Nat->α->Prop}:∀n,(∀i,i<n->∃x,p i x)->∃l:List α,l.length=n/\∀i x,l[i]?=some x->p i x
 |0,_=>⟨[],rfl,fun i x h=>by simp at h⟩
 |n+1,h=>by
  obtain⟨l,J,hp⟩:=KR n (fun i hi=>h i (by omega));obtain⟨x,O⟩:=h n (by omega);refine⟨l++[x],by simp[J],fun i y E=>?_⟩;rcases Nat.lt_or_ge i n with hi|hi
  .rw[zU (by omega)]at E
   exact hp i y E
  .rw[zN (by omega),J]at E
   have G:i-n=0:=by
    rcases Nat.eq_zero_or_pos (i-n)with G|G
    .exact G
    .rw[yX (by simp;omega)]at E
     cases E
   rw[G]at E;have:x=y:=by simpa using E
   subst this;have:i=n:=by omega
   subst this;exact O
theorem IC{s:Sit}{α:Type}{c:α->List V}{k size:Nat}(hc:∀x,(c x).length=size):∀(xs:List α) (o:Nat),(∀i x,xs[i]?=some x->Ej s (c x) k (o+i*size))->Ej s (xs.flatMap c) k o
 |[],o,_=>by rw[vw];unfold Ej;trivial
 |x :: xs,o,h=>by
  rw[zG];have E:=h 0 x rfl;rw[vM,uS]at E;have G:=IC hc xs (o+size) (fun i y J=>by
   have:=h (i+1) y (by simpa using J);rw[vZ,Nat.one_mul]at this
   rwa [show o+size+i*size=o+(i*size+size) by omega])
  have app:∀(a b:List V) (o:Nat),Ej s a k o->Ej s b k (o+a.length)->Ej s (a++b) k o:=by
   intro a
   induction a with
   |nil=>intro b o _ hb;simpa using hb
   |cons v a O=>
    intro b o ha hb;rw[yR];unfold Ej at ha⊢;refine⟨ha.1,ha.2.1,O b (o+1) ha.2.2 ?_⟩
    rwa [show o+1+a.length=o+(v :: a).length by simp;omega]
  exact app _ _ o E (by rw[hc];exact G)
theorem opensV_slice{P:Program}{t e:TypeId}{α:Type}{c:α->List V}{ok:α->Prop}{B size:Nat}(ht:P.underlying t=some (.slice e))(hd:OpensV P e c ok)(E:∀x,(c x).length=size)(hc:P.cellsOf e=size)(hB:P.bytesOf e=B) :
  OpensV P t (fun xs:List α=>[.ts (xs.flatMap c) xs.length]) (fun xs=>(∀x∈xs,ok x)/\xs.length*B<=140737488351232/\xs.length<=maxLen) :=
 ⟨fun {H enc W base spare held fuel cs y} h hw=>by
  rcases Go.Deep.open_slice ht h with ⟨rfl,rfl⟩|⟨a,len,cap,m,n,D,Pl,rfl,_,hl,hm,b3,rfl,Y⟩
  .exact⟨[],SY (by unfold VR;exact⟨none,0,rfl,zq _,.inl rfl⟩),fun x Y=>by simp at Y,by simp,wF _⟩
  .have c3:len<=m:=by rw[b3];split<;>omega
   simp only[DataW.weights,ht,zT,uM]at hw;obtain⟨xs,a1,G⟩:=KR (p:=fun i x=>∃J:List Value,J.length=size/\VRs (start W) (c x) J/\ok x/\∀(j:Nat) (u:Value),J[j]?=some u->W.cell? (a.add (i*size+j))=some u) len (fun i hi=>by
    obtain⟨b4,a6,b5⟩:=Y i (by omega);obtain⟨x,hK,b6⟩:=hd.out b5 (fun k hk=>hw k (zY _ (z_ _ (ZW (d:=D i) (List.mem_map.2 ⟨i,List.mem_range.2 hi,rfl⟩) k hk))));obtain⟨_,b7,b8⟩:=World.cells?_some a6;refine⟨x,b4,by rw[<- rO hK,E],hK,b6,fun j u hu=>?_⟩;have hj:j<P.cellsOf e:=by rw[<- b7];exact(List.getElem?_eq_some_iff.1 hu).1
    have:=b8 j hj;rw[hc,Go.Deep.add_add]at this;rw[this,hu])
   have hlen:len<=9223372036854775807:=by
    unfold maxLen at hm;omega
   refine⟨xs,SY ?_,fun x b9=>?_,?_,by omega⟩
   .unfold VR
    refine⟨some a,cap,by rw[a1],by omega,?_⟩
    by_cases O:xs.flatMap c=[]
    .exact .inl O
    .obtain⟨x0,c0⟩:∃x0,xs[0]?=some x0:=by
      cases xs with
      |nil=>exact absurd rfl O
      |cons x0 r=>exact⟨x0,rfl⟩
     have S:a.spot=none/\a.block<W.heap.size:=by
      obtain⟨J,k1,k2,k3,k4⟩:=G 0 x0 c0;have a7:J≠[]:=by
       rintro rfl;have:size=0:=by simpa using k1.symm
       apply O;rw[List.flatMap_eq_nil_iff];intro x _;exact zZ (by rw[E,this])
      cases J with
      |nil=>exact absurd rfl a7
      |cons u r=>
       have:=k4 0 u rfl;rw[vM,yZ]at this;have c2:a.add 0=a:=by simp[Addr.add]
       rw[c2]at this;refine⟨?_,World.block_lt_of_cell? W a this⟩;unfold World.cell? at this
       split at this
       .split at this
        .cases this
        .rename_i hs;simpa using hs
       .cases this
     obtain⟨a8,b2⟩:=S;obtain⟨ab,ao,c4⟩:=a;simp only at a8 b2;subst a8;refine .inr ⟨ab,ao,rfl,IC E xs ao fun i x Y=>Ik fun j v hv=>⟨b2,?_⟩⟩;obtain⟨J,k1,k2,k3,k4⟩:=G i x Y;obtain⟨u,hu,hr⟩:=rP k2 hv;refine⟨u,?_,hr⟩;have:=k4 j u hu;rw[Addr.add_lit]at this;rw[wH];exact this
   .obtain⟨i,hi⟩:=List.mem_iff_getElem?.1 b9
    obtain⟨_,_,_,h3,_⟩:=G i x hi;exact h3
   .have:=hw _ zO
    rw[hB]at this;rw[a1];exact zL (zD _ (by omega)) this⟩
theorem opensV_param{P:Program}{t:TypeId}{α:Type}{c:α->List V}{ok:α->Prop}(h:OpensV P t c ok){H:Type}{enc:TypeId×Value->H}{W:World}{base:Nat}{spare:Nat->Bool}{held:Bool}{v:Value}{y:DataW H}{p:List MemPlace}
  (S:DataW.Trod enc P W base spare held t v y p) {ts:List TypeId} {O:List (DataW H)} {j:Nat} (E:(DataW.weightsEach P ts O).all (·<=reachBytes)=true) (G:ts[j]?=some t) (J:O[j]?=some y) :
  ∃x,VRs (start W) (c x) v.cells.toList/\ok x:=by
 obtain⟨fuel,Y⟩:=S;exact h.out Y (fun n hn=>by
  have:=List.all_eq_true.1 E n (DataW.weights_mem_each G J n hn)
  simpa using this)
theorem VR_cell{s:Sit}{v:V}{x:Value}(hc:x.cells=#[x])(h:VRs s [v] x.cells.toList):VR s v x:=by
 rw[hc]at h;unfold VRs at h;obtain⟨y,G,e,E,_⟩:=h;simp only[List.cons.injEq]at e;rw[e.1];exact E
theorem calls_of_fn{P:Program}{conv:FuncId->Conv}{ext:Ext}(hm:P.follows .mixedOrders=true)(S:Iw P ext){f:FuncId}{args:List V}{E:List Value}{W:World}(Y:Kn (start W))(hv:VRs (start W) args E)(h:fn P conv ext f args=some (.sc (.bool true))) :
  Calls P f E.toArray W (fun e w'=>e= .returned (.bool true)/\Below W.heap.size W w'):=by
 unfold fn at h
 split at h
 .rename_i v G n J
  obtain⟨p,hp,e⟩:=AP h;obtain⟨_,_,YO⟩:=mg hm S _ _ _ _ _ _ _ J;refine(YO (start W) E (aen W Y) (fun _ _ _=>rfl) hv).mono ?_;rintro e' w' ⟨s',x,rfl,rfl,O⟩;refine⟨?_,O.Jv.below⟩;have:=aP O.inv depth v p.1 p.2 x _ hp O.vr (oW s' G p.2);rw[e]at this;unfold VR at this;rw[this.1]
 .cases h
end Go.TV
namespace Go.TV
variable [Known]
theorem nH{α β:Type}{P:Program}(m:Sem α)(f:α->Sem β):wI P (m>>=f)=(wI P m).bind fun a=>wI P (f a):=by
 show wI P (m.bind f)=_
 induction m with
 |pure a=>rfl
 |program k E=>exact E P
 |mark m k E=>exact E
 |_=>rfl
theorem KT{α:Type}{P:Program}(a:α):wI P (pure a:Sem α)=some a:=rfl
theorem nD{P:Program}:wI P program=some P:=rfl
theorem NG{α:Type}{P:Program}(c:Prop)[Decidable c](a b:Sem α):wI P (if c then a else b)=if c then wI P a else wI P b:=by split<;>rfl
theorem o9{P:Program}{t:TypeId}{d:TypeDesc}(h:P.underlying t=some d):wI P (underlying t)=some d:=by
 unfold underlying;rw[nH,nD];simp only[zk,h];rfl
theorem oC{P:Program}(d:Nat)(t:TypeId)(k E:IntKind)(a b:Int)(h:P.underlying t=some (.int E)):wI P (Op.equalIn (d+1) t (.int k a) (.int k b))=some (a==b):=by
 unfold Op.equalIn;rw[nH,o9 h];simp only[zk,if_true];rfl
theorem IE{P:Program}(d:Nat)(t:TypeId)(xs E:Array Value)(G:P.underlying t=some (.struct (P.fieldsOf t)))(hp:P.stoodInHeld t=false) :
  wI P (Op.equalIn (d+1) t (.agg xs) (.agg E))=wI P (Op.eqFields d xs E (P.fieldsOf t).toList):=by
 unfold Op.equalIn;rw[nH,o9 G];simp only[zk,nH,nD,hp,yE,if_false,KT];rw[<- Array.forIn_toList];generalize (P.fieldsOf t).toList=J;clear G
 induction J with
 |nil=>rfl
 |cons f J O=>
  simp only[List.forIn_cons,Op.eqFields,nH,NG]
  split
  .cases wI P (part f.type xs f.offset)with
   |none=>rfl
   |some a=>
    cases wI P (part f.type E f.offset)with
    |none=>rfl
    |some b=>
     simp only[zk];cases wI P (Op.equalIn d f.type a b)with
     |none=>rfl
     |some r=>
      cases r
      .rfl
      .exact O
  .exact O
theorem o8 {P:Program} {d:Nat} {xs E:Array Value} {f:Field} {G:List Field} {a b:Value} {r:Bool} (hn:f.name ≠ "_") (ha:wI P (part f.type xs f.offset) = some a) (hb:wI P (part f.type E f.offset) = some b) (J:wI P (Op.equalIn d f.type a b) = some r) :
  wI P (Op.eqFields d xs E (f :: G))=if r=true then wI P (Op.eqFields d xs E G)else some false:=by
 conv=>lhs;rw[Op.eqFields]
 rw[sO hn,nH,ha];simp only[zk,nH,hb,J,NG];cases r<;>rfl
theorem aaD{P:Program}{t:TypeId}{x y:Operand}{cs J:List V}{us vs:List Value}{r:Bool}{G:Array Field}(hm:P.eqGuardType P.depth t=false)(O:P.underlying t=some (.struct G))(hp:P.stoodInHeld t=false)
  (hu:FC cs=some us) (S:FC J=some vs) (h:wI P (Op.eqFields 9999 us.toArray vs.toArray G.toList)=some r):Am P .eql t x y (.agg cs) (.agg J)=some (.sc (.bool r)):=by
 have E:P.fieldsOf t=G:=by unfold Program.fieldsOf;rw[O]
 have Y:wI P (eqGuard .eql t x y (.agg us.toArray) (.agg vs.toArray))=some ():=by
  unfold eqGuard;rw[sQ (by simp)];simp only[nH,nD,zk,hm,wE,if_true];rfl
 have he:wI P (binOp .eql t (.agg us.toArray) (.agg vs.toArray))=some (Value.bool r):=by
  have h1:binOp .eql t (.agg us.toArray) (.agg vs.toArray)=(Op.equal t (.agg us.toArray) (.agg vs.toArray)>>=fun b=>pure (Value.bool b)):=by simp only[binOp]
  have h2:wI P (Op.equal t (.agg us.toArray) (.agg vs.toArray))=some r:=(IE 9999 t _ _ (by rw[E];exact O) hp).trans (by rw[E];exact h);rw[h1,nH,h2];rfl
 simp only[Am,toVal,hu,S,zJ,nH,Y,he,zk];rfl
end Go.TV
namespace Go.TV
variable [Known]
open Go.RowKit
section
variable {P:Program} {conv:FuncId->Conv} {call:Call}
theorem S9{t e:TypeId}{x y:Operand}{p:Option Addr}{len cap:Nat}(h:P.underlying t=some (.slice e))(w:World) :
  ((do eqGuard .eql t x y (.slice p len cap) (.slice none 0 0);binOp .eql t (.slice p len cap) (.slice none 0 0)):Sem Value).run P w= .ok (.bool p.isNone) w:=by
 refine dh _ ?_ w;rw[nH,eqGuard_at_slice];simp only[KT,zk];have E:binOp .eql t (.slice p len cap) (.slice none 0 0)=(Op.equal t (.slice p len cap) (.slice none 0 0)>>=fun b=>pure (Value.bool b)):=by simp only[binOp]
 rw[E,nH];have G:wI P (Op.equal t (.slice p len cap) (.slice none 0 0))=some p.isNone:=by
  show wI P (Op.equalIn (9999+1) t _ _)=_;unfold Op.equalIn;rw[nH,o9 h];simp only[zk];cases p<;>rfl
 rw[G];rfl
theorem NH(hc:DX P call)(hm:P.follows .mixedOrders=true){f:FuncId}{fn:Func}{A B C D:Code}{id t u:Nat}{o1:Oper}{ty yt E e:TypeId}{ps:String}{af:Array Edge}(hf:P.funcs[f]?=some fn)
  (hb:fn.body=some (.seq A (.seq (.seq (.region id #[o1,⟨some t,.binOp .eql ty (.tmp u) (.const (.slice none 0 0)) yt,E,ps,af,none⟩] false) (.cond (.tmp t) B C)) D)))
  (c6:P.underlying ty=some (.slice e)) {n:Nat} {args:List V}
  (b4:VA fn (.seq A (.seq (.seq (.region id #[o1,⟨some t,.binOp .eql ty (.tmp u) (.const (.slice none 0 0)) yt,E,ps,af,none⟩] false) (.cond (.tmp t) B C)) D)) args.length=true)
  {σ σ':Store} {nx nx':Nat} {vs:List V} {st1:St} (hA:zI P conv call n A ⟨DW args,σ,nx⟩=some (.norm,st1)) {T2:Nat->V}
  (hg:o1.guard=none) {v1:V} (h1:AO P conv call o1 st1.T st1.σ st1.nx=some (v1,st1.σ,st1.nx)) (c7:T2=Dc st1.T o1.dst v1) {row:List V} {len:Nat} (hu:T2 u= .ts row len)
  (S:∀b:Bool,(b=true->row=[])->∃ex O,zI P conv call n (.seq (.cond (.tmp t) B C) D) ⟨upd T2 t (.sc (.bool b)),st1.σ,st1.nx⟩=some (ex,O)/\(ex= .norm\/ex= .ret)/\Ag P O.T O.σ fn.results.toList=some vs/\O.σ=σ'/\O.nx=nx') :
  Ey P f args σ nx (oneOf vs) σ' nx':=by
 unfold VA at b4;simp only[zM,decide_eq_true_eq,vT]at b4;obtain⟨⟨b5,h7⟩,b3⟩:=b4;simp only[E5,zM]at b3;obtain⟨c8,⟨c9,e0,e2⟩,e3⟩:=b3;have e4:=ng hc n A _ _ _ hA;obtain⟨h8,h9,e5,_,_,_,i0⟩:=S false (fun h=>by cases h);have i1:st1.nx<=nx':=by have:=ng hc n _ _ _ _ e5;simp only at this;omega
 have b8:∀o∈[o1,(⟨some t,.binOp .eql ty (.tmp u) (.const (.slice none 0 0)) yt,E,ps,af,none⟩:Oper)],∀d,o.dst=some d->d<fn.ntmps:=fun o ho d e6=>by
  have:=Array.all_eq_true'.1 c9 o (by simpa using ho);rw[e6]at this
  simpa using this
 refine⟨by simp only at e4;omega,⟨fn,hf,by rw[hb];rfl,b5⟩,fun s h6 hi e7 Y=>?_⟩;have hl:=rO Y;refine calls_of_wp hf hb ?_;refine wp_seq (pF hc hm (nt:=fn.ntmps) (LM:=nx') (s0:=s) (GL:=σ) (GX:=nx) n A ⟨DW args,σ,nx⟩ st1 .norm _ hA c8 (by omega) (fun s1 a1 b6=>?_) s _
  ⟨hi,ab2 Y _,by simp;omega,rfl,.refl s σ,.refl s nx nx,e7,zq _⟩)
 refine wp_seq (wp_seq (wp_region ?_));show wpOps P _ _ [0,1] a1 s1.w;have hw:∀(o:Oper) (tm:Array Value),o.guard=none->Region.wanted o (yielded #[o1,(⟨some t,.binOp .eql ty (.tmp u) (.const (.slice none 0 0)) yt,E,ps,af,none⟩:Oper)] tm)=true:=fun o tm h=>by unfold Region.wanted;rw[h]
 rw[wpOps_cons];unfold wpOp;rw[show(#[o1,(⟨some t,.binOp .eql ty (.tmp u) (.const (.slice none 0 0)) yt,E,ps,af,none⟩:Oper)])[0]?=some o1 from rfl];simp only[hw o1 _ hg,if_true];refine .inl (Nj hc h1 b6.inv b6.tr (fun i h1 h2=>absurd h2 (by omega)) fun s2 x2 e8=>?_);have a6:=b6.step e8 (zq _) (b8 o1 (by simp));rw[<- c7]at a6;generalize a1.put o1.dst x2=a2 at a6⊢;rw[wpOps_cons];unfold wpOp;rw[show(#[o1,(⟨some t,.binOp .eql ty (.tmp u) (.const (.slice none 0 0)) yt,E,ps,af,none⟩:Oper)])[1]?=some ⟨some t,.binOp .eql ty (.tmp u) (.const (.slice none 0 0)) yt,E,ps,af,none⟩from rfl];simp only[hw ⟨some t,.binOp .eql ty (.tmp u) (.const (.slice none 0 0)) yt,E,ps,af,none⟩ _ rfl,if_true];have hx:=a6.tr u;rw[hu]at hx;unfold VR at hx;obtain⟨p,cap,e9,_,b9⟩:=hx;refine .inl (ZV (w':=s2.w) (x:=.bool p.isNone) ?_ ?_)
 .have he:execOp a2.eval ⟨some t,.binOp .eql ty (.tmp u) (.const (.slice none 0 0)) yt,E,ps,af,none⟩=(do pure (.value (<- (do eqGuard .eql ty (.tmp u) (.const (.slice none 0 0)) (a2.tmps.getD u undef) (.slice none 0 0);binOp .eql ty (a2.tmps.getD u undef) (.slice none 0 0)))):Sem Next):=rfl
  rw[he,e9];simp only[Sem.run_bind,Sem.run_pure];have:=S9 (P:=P) (x:=.tmp u) (y:=.const (.slice none 0 0)) (p:=p) (len:=len) (cap:=cap) c6 s2.w;simp only[Sem.run_bind]at this;rw[this];rfl
 .obtain⟨ex,O,J,hex,c0,h0,b2⟩:=S p.isNone (fun hp=>by
   rcases b9 with h|⟨k,o,h,_⟩
   .exact h
   .rw[h]at hp;cases hp)
  have G:YS fn.ntmps nx' s σ nx (upd T2 t (.sc (.bool p.isNone))) st1.σ st1.nx s2 (a2.put (some t) (.bool p.isNone)) :=
   a6.step (Out.same a6.inv (by unfold VR;exact⟨rfl,rfl⟩)) (zq _) (b8 ⟨some t,.binOp .eql ty (.tmp u) (.const (.slice none 0 0)) yt,E,ps,af,none⟩ (by simp))
  simp only[wpOps];show Code.wp P (Code.cond (.tmp t) B C) _ _ _;have fin:∀s3 a3,YS fn.ntmps nx' s σ nx O.T O.σ O.nx s3 a3->bodyPost P fn (fun e w'=>∃s' x,s'.w=w'/\e= .returned x/\Out s σ nx s' (oneOf vs) x σ' nx') (Sr ex) a3 s3.w:=fun s3 a3 G=>by
   obtain⟨xs,g1,g2⟩:=fH G.inv G.tr fn.results.toList vs c0;have c2:(results fn a3.tmps).run P s3.w= .ok (if h:xs.toArray.size=1 then xs.toArray[0]else .tuple xs.toArray) s3.w:=by
    rw[Nq];have e1:fn.results=fn.results.toList.toArray:=by simp
    rw[e1,List.mapM_toArray];simp only[Sem.run_bind,Sem.run_map,g1,Result.andThen_ok,Sem.run_pure]
   have a7:bodyPost P fn (fun e w'=>∃s' x,s'.w=w'/\e= .returned x/\Out s σ nx s' (oneOf vs) x σ' nx') .normal a3 s3.w:=by
    subst h0 b2;exact⟨G.defers,_,c2,s3,_,rfl,rfl,⟨VH g2,G.inv,G.Jv,G.dom⟩⟩
   rcases hex with rfl|rfl
   .exact a7
   .exact a7
  simp only[zI]at J;have c3:E5 fn.ntmps (Code.cond (.tmp t) B C)=true:=by simp only[E5,zM];exact⟨e0,e2⟩
  have a8:∀st e c4,(match val (St.T st) (.tmp t)with| .sc (.bool true)=>zI P conv call n B st| .sc (.bool false)=>zI P conv call n C st|_=>none)=some (e,c4)->zI P conv call n (.cond (.tmp t) B C) st=some (e,c4):=fun _ _ _ h=>h
  split at J
  .rename_i c5 h3
   have h4:=ng hc n D _ _ _ J;refine pF hc hm (LM:=nx') n (.cond (.tmp t) B C) ⟨upd T2 t (.sc (.bool p.isNone)),st1.σ,st1.nx⟩ c5 .norm _ (a8 _ _ _ h3) c3 (zL h4 (Nat.le_of_eq b2)) (fun s3 a3 b7=>?_) s2 _ G;exact pF hc hm (LM:=nx') n D c5 O ex _ J e3 (Nat.le_of_eq b2) fin s3 a3 b7
  .rename_i r h5
   refine pF hc hm (LM:=nx') n (.cond (.tmp t) B C) ⟨upd T2 t (.sc (.bool p.isNone)),st1.σ,st1.nx⟩ O ex _ (a8 _ _ _ J) c3 (Nat.le_of_eq b2) (fun s3 a3 b7=>?_) s2 _ G;cases ex with
   |norm=>exact absurd J (h5 O)
   |exit id=>rcases hex with h|h<;>cases h
   |ret=>exact fin s3 a3 b7
end
instance (priority:=low) aq3:Known:=⟨[]⟩
end Go.TV
/- strings.Join as the shelf's contract tells it. -/
namespace Go.TV
open Go.RowKit
set_option linter.unusedVariables false
variable [Known]
def strs:List V->Option (List ByteArray)
 |[]=>some []
 | .sc (.string x) :: r=>(strs r).map (x :: ·)
 |_ :: _=>none
def Qy(xs:List ByteArray)(sep:ByteArray):ByteArray:=⟨(Lib.join (xs.map (·.data.toList)) sep.data.toList).toArray⟩
def agS:List V->Store->Nat->Option (V×Store×Nat)
 |[.ts row len,.sc (.string sep)],σ,nx=>match strs row with
  |some xs=>if xs.length=len/\len<=140737488355328/\(Qy xs sep).size<=140737488355328 then some (.sc (.string (Qy xs sep)),σ,nx)else none
  |none=>none
 |_,_,_=>none
theorem agT(xs:List ByteArray)(sep:ByteArray):(Qy xs sep).size=(Lib.join (xs.map (·.data.toList)) sep.data.toList).length:=by
 show(List.toArray _).size=_;exact wO
theorem aeo{v:V}{r:List V}{xs:List ByteArray}(h:strs (v :: r)=some xs):∃x E,v= .sc (.string x)/\strs r=some E/\xs=x :: E:=by
 unfold strs at h
 split at h
 .rename_i e;cases e
 .rename_i x r' e
  cases e;cases G:strs r with
  |none=>rw[G]at h;cases h
  |some E=>rw[G]at h;cases h;exact⟨x,E,rfl,rfl,rfl⟩
 .cases h
theorem WH{s:Sit}{k:Nat}:∀ {row:List V} {xs:List ByteArray} {o:Nat},strs row=some xs->Ej s row k o->∀(j:Nat) x,xs[j]?=some x->s.w.cell? ⟨k,o+j,none⟩=some (.string x)
 |[],xs,o,h,_,j,x,hj=>by cases h;simp at hj
 |v :: r,xs,o,h,hr,j,x,hj=>by
  obtain⟨y,O,rfl,G,rfl⟩:=aeo h;unfold Ej at hr;obtain⟨_,⟨c,hc,E⟩,J⟩:=hr;unfold VR at E;cases j with
  |zero=>
   have:y=x:=by simpa using hj
   subst this;rw[uS,hc,E.1]
  |succ j=>
   have:=WH G J j x (by simpa using hj);rw[show o+(j+1)=o+1+j by omega];exact this
theorem aaE{P:Program}{ρ:Go.Shelf.Ren}(L:Go.Proofs.Lays.n156 P ρ)(X:Go.Proofs.Builder.Extra P ρ){f:FuncId}(hf:ρ.f 156=f)(G:callable P f)(args:List V)(σ:Store)(nx:Nat)(v:V)(σ':Store)(nx':Nat)(h:agS args σ nx=some (v,σ',nx')):Ey P f args σ nx v σ' nx':=by
 subst hf;unfold agS at h
 split at h
 .rename_i _ _ row len sep
  split at h
  .rename_i xs J
   split at h
   .rename_i hc
    obtain⟨hl,h1,h2⟩:=hc;subst hl;simp only[sW,sS]at h;obtain⟨rfl,rfl,rfl⟩:=h;refine⟨zq _,G,fun s a6 hi a7 ha=>?_⟩;unfold VRs at ha;obtain⟨x1,ys,rfl,O,ha⟩:=ha;unfold VRs at ha;obtain⟨x2,zs,rfl,S,hz⟩:=ha;unfold VRs at hz;subst hz;unfold VR at O S;obtain⟨a,cap,rfl,Y,E⟩:=O;obtain⟨rfl,-⟩:=S;have hv:∀s:Sit,VR s (.sc (.string (Qy xs sep))) (.string (Qy xs sep)):=fun s=>by unfold VR;exact⟨rfl,rfl⟩
    rcases E with rfl|⟨k,o,rfl,E⟩
    .cases J
     exact(Go.Proofs.Any.strings_Join_none L X a cap sep s.w).mono fun e w' ⟨he,hw⟩=>⟨s,_,hw.symm,he,Out.same hi (hv s)⟩
    .cases row with
     |nil=>
      cases J;exact(Go.Proofs.Any.strings_Join_none L X _ cap sep s.w).mono fun e w' ⟨he,hw⟩=>⟨s,_,hw.symm,he,Out.same hi (hv s)⟩
     |cons v0 r0=>
      have hk:k<s.w.heap.size:=by
       have h3:=E;unfold Ej at h3;exact hi.zb k o h3.1
      have a1:(Lib.join (xs.map (·.data.toList)) sep.data.toList).length<=140737488355328:=by
       have:(Qy xs sep).size=(Lib.join (xs.map (·.data.toList)) sep.data.toList).length:=agT xs sep;omega
      refine(Go.Proofs.Any.strings_Join L X k o cap xs sep s.w (fun j x hj=>?_) hk h1 Y a1).mono fun e w' ⟨he,hb⟩=>?_
      .exact WH (s:=s.nb) J E j x hj
      .obtain⟨_,h5,h6⟩:=hi.grow hb
       exact⟨{ s with w:=w' },_,rfl,he,hv _,h5,h6,fun _ hd=> .inl hd⟩
   .cases h
  .cases h
 .cases h
end Go.TV
namespace Go.TV
structure Item where
 name:ByteArray
 limit:Int
 expires:Int
structure Dn where
 name:ByteArray
 x:Int
 y:Int
 fixed:Bool
structure Member where
 a:Int
 b:Int
 kind:Int
structure Structure where
 bI:List Dn
 members:List Member
structure CP where
 name:ByteArray
 st:Structure
 load:List Int
 limits:List Int
structure Move where
 fr:Int
 to:Int
structure BZ where
 aI:List CP
 moves:List Move
 strict:Bool
abbrev cI(n:Int):List V:=[I n]
abbrev BG(i:Item):List V:=[Sg i.name,I i.limit,I i.expires]
abbrev Af(j:Dn):List V:=[Sg j.name,I j.x,I j.y,Bo j.fixed]
abbrev Ac(m:Member):List V:=[I m.a,I m.b,I m.kind]
abbrev LL{α:Type}(c:α->List V)(xs:List α):V:=.ts (xs.flatMap c) xs.length
abbrev LI(xs:List Int):V:=.ts (xs.flatMap cI) xs.length
abbrev jI(s:Structure):List V:=[LL Af s.bI,LL Ac s.members]
abbrev Az(t:CP):List V:=[Sg t.name,LL Af t.st.bI,LL Ac t.st.members,LI t.load,LI t.limits]
abbrev Dp(m:Move):List V:=[I m.fr,I m.to]
abbrev Cj(y:BZ):List V:=[LL Az y.aI,LL Dp y.moves,Bo y.strict]
def okI(n:Int):Prop:=(Lit.int .i64 n).wf=true
def okS(s:ByteArray):Prop:=s.size<=140737488351232
def okL{α:Type}(B:Nat)(ok:α->Prop)(xs:List α):Prop:=(∀x∈xs,ok x)/\xs.length*B<=140737488351232/\xs.length<=maxLen
def H_(i:Item):Prop:=okS i.name/\okI i.limit/\okI i.expires
def S_(j:Dn):Prop:=okS j.name/\okI j.x/\okI j.y/\True
def agU(m:Member):Prop:=okI m.a/\okI m.b/\okI m.kind
def Aj(s:Structure):Prop:=okL 40 S_ s.bI/\okL 24 agU s.members
def FZ(t:CP):Prop:=okS t.name/\Aj t.st/\okL 8 okI t.load/\okL 8 okI t.limits
def aoq(m:Move):Prop:=okI m.fr/\okI m.to
def Gl(y:BZ):Prop:=okL 112 FZ y.aI/\okL 16 aoq y.moves/\True
theorem iq{n:Int}:okI n↔ -9223372036854775808<=n/\n<=9223372036854775807:=by
 unfold okI;simp only[Lit.wf,zM,decide_eq_true_eq];have E:IntKind.i64.min= -9223372036854775808:=by decide
 have G:IntKind.i64.max=9223372036854775807:=by decide
 rw[E,G]
end Go.TV
namespace Go.TV
theorem mJ{P:Program}{conv:FuncId->Conv}{ext:Ext}(f:FuncId)(ts:List V):fn P conv ext f ts=(ev P conv ext f ts pI 0).bind fun q=>(strip q.2.1 depth q.1).map (·.1):=by
 unfold fn;cases ev P conv ext f ts pI 0 with
 |none=>rfl
 |some q=>rfl
section
variable (v:Value) (row:List V) (a b c:Nat) (f:FuncId) (vs:List V)
theorem aep:vI (.sc v)=true:=id rfl
theorem aaF:vI .nil=true:=id rfl
theorem aer:vI (.tp row a)=true:=id rfl
theorem aes:vI (.ts row a)=true:=id rfl
theorem aeu:vI (.rp a b)=true:=id rfl
theorem aev:vI (.rs a b c)=true:=id rfl
theorem aaG:vI (.clo f vs)=true:=id rfl
theorem aew:cellsOfV (.agg vs)=some vs:=id rfl
theorem agV:cellsOfV (.sc v)=some [.sc v]:=id rfl
theorem aex:cellsOfV .nil=some [.nil]:=id rfl
theorem agW:cellsOfV (.tp row a)=some [.tp row a]:=id rfl
theorem agX:cellsOfV (.ts row a)=some [.ts row a]:=id rfl
theorem agY:cellsOfV (.rp a b)=some [.rp a b]:=id rfl
theorem agZ:cellsOfV (.rs a b c)=some [.rs a b c]:=id rfl
theorem aey:cellsOfV (.clo f vs)=some [.clo f vs]:=id rfl
theorem NI(pl:Nat->Option (Nat×Nat))(cells:List V):CV pl cells []=some cells:=rfl
theorem JR(pl:Nat->Option (Nat×Nat))(cells:List V)(i:Nat)(v:V)(rest:List (Nat×V)):CV pl cells ((i,v) :: rest)=(pl i).bind fun p=>(cellsOfV v).bind fun vs=>if vs.length=p.2/\p.1+vs.length<=cells.length then CV pl (patch cells p.1 vs) rest else none:=by
 show(match pl i,cellsOfV v with|some (off,size),some vs=>_|_,_=>none)=_;cases pl i<;>cases cellsOfV v<;>rfl
theorem iF(cells:List V)(off:Nat)(v:V):patch cells off [v]=cells.set off v:=rfl
theorem aez(u:V)(cells:List V)(off:Nat):patch (u :: cells) off []=(u :: cells).take off++[]++(u :: cells).drop (off+0):=rfl
theorem JU(u:V)(cells:List V)(off:Nat)(v w:V)(vs:List V):patch (u :: cells) off (v :: w :: vs)=(u :: cells).take off++(v :: w :: vs)++(u :: cells).drop (off+(v :: w :: vs).length):=rfl
end
attribute [go_sem] aep aaF aer aes aeu aev aaG aew agV aex agW agX agY agZ aey NI JR iF aez JU
attribute [go_sem] depth zH zG vw Au vC List.set_cons_succ zV yY yP Nat.reduceAdd Nat.reduceLT Nat.reduceLeDiff vY w_ yZ uS yg List.drop_succ_cons List.take_succ_cons List.take_zero Nat.reduceMul vM Nat.one_mul yN BQ
end Go.TV
namespace Go.TV
section
variable {α:Type} {c:α->List V} {s:Nat}
theorem bZ(hc:∀x,(c x).length=s)(xs:List α):(xs.flatMap c).length=xs.length*s:=by
 induction xs with
 |nil=>simp
 |cons x xs E=>rw[zG,zo,E,hc,zV,xq,wQ]
theorem Qz(hc:∀x,(c x).length=s)(xs:List α)(k:Nat):(xs.flatMap c).drop (k*s)=(xs.drop k).flatMap c:=by
 induction xs generalizing k with
 |nil=>simp
 |cons x xs E=>
  cases k with
  |zero=>simp
  |succ k=>
   rw[zG,xq,wQ,<- uD];rw[show s=(c x).length from(hc x).symm,List.drop_left,hc x,E,List.drop_succ_cons]
theorem d_(hc:∀x,(c x).length=s)(xs:List α)(k:Nat)(h:k<xs.length):((xs.flatMap c).drop (k*s)).take s=c xs[k]:=by
 rw[Qz hc,yS h,zG,show s=(c xs[k]).length from(hc _).symm,List.take_left]
theorem cu(c:α->V)(xs:List α)(k:Nat)(h:k<xs.length):(xs.flatMap fun x=>[c x])[k]?=some (c xs[k]):=by
 induction xs generalizing k with
 |nil=>cases h
 |cons x xs E=>
  cases k with
  |zero=>rfl
  |succ k=>exact E k (by simpa using h)
theorem bg(hc:∀x,(c x).length=s)(hs:0<s)(xs:List α)(k:Nat)(h:k<xs.length):xs.flatMap c≠[]:=by
 intro e;have:=bZ hc xs;rw[e]at this;have E:0<xs.length*s:=Nat.mul_pos (by omega) hs;simp at this;omega
def mix(c:α->List V)(z:List V)(xs:List α)(n k:Nat):List V:=(xs.take k).flatMap c++rep (n-k) z
theorem fQ(n:Nat)(z:List V):(rep n z).length=n*z.length:=by simp[rep]
theorem ag0(c:α->List V)(z:List V)(xs:List α)(n:Nat):rep n z=mix c z xs n 0:=by simp[mix]
theorem ag1(c:α->List V)(z:List V)(xs:List α):mix c z xs xs.length xs.length=xs.flatMap c:=by simp[mix,rep]
theorem ab7(hc:∀x,(c x).length=s){z:List V}(E:z.length=s)(xs:List α)(k:Nat)(h:k<=xs.length):(mix c z xs xs.length k).length=xs.length*s:=by
 unfold mix;rw[zo,bZ hc,fQ,E,zh,xX h,<- vZ];congr 1;omega
theorem fP(n:Nat)(z:List V):rep (n+1) z=z++rep n z:=by simp[rep,xu]
theorem aeA(hc:∀x,(c x).length=s){z:List V}(G:z.length=s)(xs:List α)(k:Nat)(h:k<xs.length) :
  (mix c z xs xs.length k).take (k*s)++c xs[k]++(mix c z xs xs.length k).drop (k*s+s)=mix c z xs xs.length (k+1):=by
 have E:((xs.take k).flatMap c).length=k*s:=by rw[bZ hc,zh,xX (by omega)]
 have J:xs.length-k=(xs.length - (k+1))+1:=by omega
 unfold mix;rw[xG E,<- uD,List.drop_left' E,J,fP,List.drop_left' G,yL,zy h];simp only[zQ,Option.toList_some,zG,vw,zH,yw]
theorem aeB(hc:∀x,(c x).length=s){z:List V}(E:z.length=s)(xs:List α)(k:Nat)(h:k<xs.length) :
  patch (mix c z xs xs.length k) (k*s) (c xs[k])=mix c z xs xs.length (k+1):=by
 have J:=aeA hc E xs k h;have O:∀(cells:List V) (off:Nat) (vs:List V),vs.length=s->(s=1->off<cells.length)->patch cells off vs=cells.take off++vs++cells.drop (off+s):=by
  intro cells off vs G hs;unfold patch
  split
  .rename_i v
   have:s=1:=by simpa using G.symm
   subst this;rw[uG,sO (hs rfl)];simp
  .rw[G]
 rw[O _ _ _ (hc _) (fun e=>?_),J];rw[ab7 hc E xs k (by omega),e];omega
theorem akC{c:α->V}{z:V}(xs:List α)(k:Nat)(h:k<xs.length) :
  (mix (fun x=>[c x]) [z] xs xs.length k).set k (c xs[k])=mix (fun x=>[c x]) [z] xs xs.length (k+1):=by
 have:=aeB (c:=fun x=>[c x]) (s:=1) (fun _=>rfl) (z:=[z]) rfl xs k h
 rwa [yN]at this
theorem bC(f:V->Option (V×List Nat))(a b:List V)(ha:stripL f a=some (a,[]))(hb:stripL f b=some (b,[])):stripL f (a++b)=some (a++b,[]):=by
 induction a with
 |nil=>exact hb
 |cons v a ih=>
  rw[au]at ha;rw[yR,au];cases G:f v with
  |none=>rw[G]at ha;cases ha
  |some p=>
   rw[G]at ha;cases E:stripL f a with
   |none=>rw[E]at ha;cases ha
   |some q=>
    rw[E]at ha;simp only[zk,zJ,sW,sS,List.cons.injEq,List.append_eq_nil_iff]at ha;obtain⟨⟨J,O⟩,S,Y⟩:=ha;obtain⟨p1,p2⟩:=p;obtain⟨q1,q2⟩:=q;simp only at J O S Y;subst J O S Y;rw[ih E];simp
theorem aX{f:V->Option (V×List Nat)}(h:∀x,stripL f (c x)=some (c x,[]))(xs:List α):stripL f (xs.flatMap c)=some (xs.flatMap c,[]):=by
 induction xs with
 |nil=>rfl
 |cons x xs E=>rw[zG];exact bC f _ _ (h x) E
end
section
variable {P:Program} {t:TypeId} {x y:Operand}
theorem akD{a b:ByteArray}:Am P .eql t x y (.sc (.string a)) (.sc (.string b))=some (.sc (.bool (a.toList==b.toList))):=by
 simp only[Am,toVal,eqGuard_at_string,binOp_string_eql];rfl
theorem akE{a b:ByteArray}:Am P .neq t x y (.sc (.string a)) (.sc (.string b))=some (.sc (.bool !(a.toList==b.toList))):=by
 simp only[Am,toVal,eqGuard_at_string,binOp_string_neq];rfl
theorem nG{a b:Bool}(h:P.underlying t=some .bool)(f:Bool->Value):wI P ((Op.equal t (.bool a) (.bool b)).bind fun r=>pure (f r))=some (f (a==b)):=by
 show wI P ((Op.equalIn (9999+1) t _ _).bind fun r=>pure (f r))=_;unfold Op.equalIn underlying;show wI P (.program fun p=>_)=_;simp only[wI];have pb:∀ {β E:Type} (a:β) (f:β->Sem E),(Sem.pure a).bind f=f a:=fun _ _=>rfl
 have G:∀ {β E:Type} (a:β) (f:β->Sem E),(pure a:Sem β).bind f=f a:=fun _ _=>rfl
 simp only[h,pb,G];rfl
theorem akF{a b:Bool}(h:P.underlying t=some .bool):Am P .eql t x y (.sc (.bool a)) (.sc (.bool b))=some (.sc (.bool (a==b))):=by
 simp only[Am,toVal,eqGuard_at_bool,pure_bind,binOp];first|(erw[nG h (fun r=> .bool r)];rfl)|(erw[nG h (fun r=> .bool !r)];rfl)
theorem akG{a b:Bool}(h:P.underlying t=some .bool):Am P .neq t x y (.sc (.bool a)) (.sc (.bool b))=some (.sc (.bool !(a==b))):=by
 simp only[Am,toVal,eqGuard_at_bool,pure_bind,binOp];first|(erw[nG h (fun r=> .bool r)];rfl)|(erw[nG h (fun r=> .bool !r)];rfl)
end
attribute [go_sem] akD akE akF akG bne_self_eq_false BEq.rfl
theorem oZ{body:St->Option (Ex×St)}{G:St}{x:Option (Ex×St)}(S:iI body G=x)(N:Nat)(J:Nat->St->Prop)(post:Ex×St->Prop)
  (step:∀k st,k<N->J k st->(∃E,body st=some (.norm,E)/\J (k+1) E)\/(∃r,body st=some r/\(∀s,r≠(.norm,s))/\post r))
  (last:∀st,J N st->∃r,body st=some r/\(∀s,r≠(.norm,s))/\post r) (h0:J 0 G):∃r,x=some r/\post r:=by
 refine jS S (fun n st=>n<=N/\J (N-n) st) post ?_ N ⟨zq _,by rwa [yM]⟩;rintro n st ⟨hn,O⟩;cases n with
 |zero=>exact .inr (last st O)
 |succ n=>
  rcases step _ st (by omega) O with ⟨E,Y,h2⟩|h
  .exact .inl ⟨E,Y,n,by omega,by omega,by rwa [show N-n=N - (n+1)+1 by omega]⟩
  .exact .inr h
theorem Zi{α:Type}(σ:Nat->α)(b:Nat)(x y:α):upd (upd σ b x) b y=upd σ b y:=by
 funext i;unfold upd
 split<;>rfl
theorem aor:(false==true)=false:=id rfl
theorem aos:(true==false)=false:=id rfl
attribute [go_sem] aor aos Option.map_none Zi List.isEmpty_nil Int.cast_ofNat_Int zF
theorem WI{P:Program}{t:TypeId}{lo hi:Option V}{σ:Store}(h:(xI P t).slice=true)(E:(xI P t).SA=true):AY P t .nil lo hi none σ=(bnd lo 0).bind fun l=>(bnd hi 0).bind fun h=>if l<=h/\h<=0 then some .nil else none:=by
 obtain⟨e,O,z,G,J,S,Y,h5,h6,h7⟩:=Zn h E;unfold AY;simp only[G,J];cases bnd lo 0<;>cases bnd hi 0<;>rfl
theorem akH(σ:Store)(s:Nat):rowOf σ s .nil=some ([],0):=rfl
theorem aot(σ:Store)(s:Nat)(row:List V)(len:Nat):rowOf σ s (.ts row len)=if row.length=len*s then some (row,len)else none:=rfl
theorem aou(σ:Store)(s b off len:Nat):rowOf σ s (.rs b off len)=(σ b).bind fun B=>if off+len*s<=B.cells.length then some ((B.cells.drop off).take (len*s),len)else none:=by
 show(match σ b with|some B=>_|none=>none)=_;cases σ b<;>rfl
theorem r_(σ:Store)(nx size bytes:Nat)(row:List V)(m:Nat):Ah σ nx size bytes .nil row m=if m=0 then some (.nil,σ,nx)else if m<=maxLen/\m*bytes<=140737488355328 then some (.rs nx 0 m,Au σ nx row size,nx+1)else none:=rfl
theorem rE{σ:Store}{nx bytes b len m:Nat}{B:Fv}{row:List V}(hb:σ b=some B)(E:B.cells.length=len)(hs:B.st=1)(hm:m≠0)(G:len+m<=maxLen)(J:(len+m)*bytes<=140737488355328)(O:row.all vI=true) :
  Ah σ nx 1 bytes (.rs b 0 len) row m=some (.rs nx 0 (len+m),upd (upd σ b none) nx (some ⟨B.cells++row,1,B.wr⟩),nx+1):=by
 unfold Ah;simp only[hb,hm,if_false,E,hs,G,J,O];rw[sQ (by omega),sO (by simp)];simp
theorem Tc:¬(1000000000:Int)=0:=by decide
attribute [go_sem] Tc
theorem iV{P:Program}{conv:FuncId->Conv}{call:Call}(d:Option Tmp)(ty:TypeId)(ps:String)(E:Array Edge)(G:Option (Nat×Bool))(T:Nat->V)(σ:Store)(nx:Nat)(t:TypeId)(h:(xI P t).slice=true)(J:(xI P t).SA=true):AO P conv call ⟨d,.buildSlice t 0 #[],ty,ps,E,G⟩ T σ nx=some (.nil,σ,nx):=by
 rw[iW d ty ps E G T σ nx t 0 #[] (by rfl)];have:=ny (P:=P) (t:=t) (len:=0) (parts:=([]:List (Nat×V))) (σ:=σ) (nx:=nx) h J
 simpa using this
theorem iU{P:Program}{conv:FuncId->Conv}{call:Call}(d:Option Tmp)(ty:TypeId)(ps:String)(G:Array Edge)(J:Option (Nat×Bool))(T:Nat->V)(σ:Store)(nx:Nat)(t:TypeId)(x:Operand)(h:(xI P t).slice=true)(S:(xI P t).SA=true)(hs:(xI P t).Hf=1)(Y:(xI P t).Es.length=1)(hc:vI (val T x)=true) :
  AO P conv call ⟨d,.buildSlice t 1 #[(0,x)],ty,ps,G,J⟩ T σ nx=some (.rs nx 0 1,upd σ nx (some ⟨[val T x],1,true⟩),nx+1):=by
 rw[iW d ty ps G J T σ nx t 1 _ (by rfl),ny h S,sQ (by decide),hs,sO (by decide)];have hv:cellsOfV (val T x)=some [val T x]:=by generalize val T x=v at *;cases v<;>simp_all [cellsOfV,vI]
 have O:(rep 1 (xI P t).Es).length=1:=by rw[fQ,Y]
 have E:(rep 1 (xI P t).Es).set 0 (val T x)=[val T x]:=by
  generalize rep 1 (xI P t).Es=l at *
  match l,O with
  |[a],_=>rfl
 show(match CV (fun j=>some (j*1,1)) (rep 1 (xI P t).Es) [(0,val T x)]with|some cells=>some (V.rs nx 0 1,Au σ nx cells 1,nx+1)|none=>none)=_;rw[JR];simp only[zk,hv,yV,O,vM,yZ,zq,and_self,if_true,iF,E,NI];rfl
attribute [go_sem] iV iU WI akH aot aou r_ Nat.sub_zero List.isEmpty_cons
def Grow(T:Nat->V)(σ:Store)(nx t:Nat)(acc:List Int):Prop:=(T t= .nil/\acc=[])\/∃b,T t= .rs b 0 acc.length/\acc≠[]/\σ b=some ⟨acc.flatMap cI,1,true⟩/\b<nx
theorem iZ:1<=maxLen:=by decide
attribute [go_sem] iZ
theorem qN(xs:List Int):(xs.flatMap cI).length=xs.length:=by rw[bZ (c:=cI) (s:=1) (fun _=>rfl),yN]
theorem kW{T:Nat->V}{σ:Store}{nx t:Nat}{acc:List Int}(G:Grow T σ nx t acc)(x:Int)(S:acc.length<17592186044415) :
  ∃σ',Ah (upd σ nx (some ⟨[I x],1,true⟩)) (nx+1) 1 8 (T t) [I x] 1=some (.rs (nx+1) 0 (acc.length+1),σ',nx+1+1)/\σ' (nx+1)=some ⟨(acc++[x]).flatMap cI,1,true⟩:=by
 have hm:acc.length+1<=maxLen:=by unfold maxLen;omega
 rcases G with ⟨E,rfl⟩|⟨b,E,J,hb,O⟩
 .refine⟨_,by rw[E,r_,sQ (by decide),sO (by decide)];rfl,?_⟩
  simp[Au,upd]
 .refine⟨_,by rw[E,rE (B:=⟨acc.flatMap cI,1,true⟩) (by rw[Zm];exact hb) (qN acc) rfl (by decide) hm (by omega) rfl],?_⟩
  simp[upd]
theorem kS{T:Nat->V}{σ':Store}{nx t:Nat}{acc:List Int}(h:σ' (nx+1)=some ⟨acc.flatMap cI,1,true⟩)(G:T t= .rs (nx+1) 0 acc.length)(E:acc≠[]):Grow T σ' (nx+1+1) t acc:=.inr ⟨nx+1,G,E,h,by omega⟩
theorem kU{T T':Nat->V}{σ:Store}{nx t E:Nat}{acc:List Int}(h:T' E=T t)(G:Grow T σ nx t acc):Grow T' σ nx E acc:=by
 unfold Grow at *;rw[h];exact G
theorem WJ(f:V->Option (V×List Nat))(h:∀n,f (I n)=some (I n,[]))(xs:List Int):stripL f (xs.flatMap cI)=some (xs.flatMap cI,[]) :=
 aX (fun x=>by rw[au,h,aY];rfl) xs
theorem kR{T:Nat->V}{σ:Store}{nx t:Nat}{acc:List Int}(G:Grow T σ nx t acc)(d:Nat):∃ids,strip σ (d+1) (T t)=some (LI acc,ids):=by
 rcases G with ⟨E,rfl⟩|⟨b,E,J,hb,O⟩
 .exact⟨[],by rw[E,aT];rfl⟩
 .refine⟨[b],?_⟩
  .rw[E,aS,hb]
   simp only[zk,qN,yN,yZ,zq,if_true,yg];rw[zl (by rw[qN];exact zq _),WJ _ (fun n=>aQ _ _ _)];rfl
theorem qK(xs:List Int):(xs.flatMap cI).take xs.length=xs.flatMap cI:=zl (by rw[qN];exact zq _)
theorem Dt(σ:Store)(d:Nat)(xs:List Int):stripL (strip σ d) (xs.flatMap cI)=some (xs.flatMap cI,[]):=WJ _ (fun n=>aQ _ _ _) xs
theorem qO(xs:List Int):(xs.flatMap cI).all vI=true:=by
 induction xs with
 |nil=>rfl
 |cons x xs E=>rw[zG];simp[vI]
attribute [go_sem] xP qN qK Dt qO zq
theorem NJ{P:Program}{conv:FuncId->Conv}{call:Call}(d:Option Tmp)(ty:TypeId)(ps:String)(G:Array Edge)(J:Option (Nat×Bool))(T:Nat->V)(σ:Store)(nx:Nat)(t:TypeId)(x y z:Operand)(h:(xI P t).slice=true)(O:(xI P t).SA=true)(hs:(xI P t).Hf=1)(S:(xI P t).Es.length=1)(Y:vI (val T x)=true)(hy:vI (val T y)=true)(hw:vI (val T z)=true) :
  AO P conv call ⟨d,.buildSlice t 3 #[(0,x),(1,y),(2,z)],ty,ps,G,J⟩ T σ nx=some (.rs nx 0 3,upd σ nx (some ⟨[val T x,val T y,val T z],1,true⟩),nx+1):=by
 rw[iW d ty ps G J T σ nx t 3 _ (by rfl),ny h O,sQ (by decide),hs,sO (by decide)];have E:∀v,vI v=true->cellsOfV v=some [v]:=by intro v E;cases v<;>simp_all [cellsOfV,vI]
 have hr:(rep 3 (xI P t).Es).length=3:=by rw[fQ,S]
 obtain⟨a,b,c,e⟩:∃a b c,rep 3 (xI P t).Es=[a,b,c]:=by
  generalize rep 3 (xI P t).Es=l at *
  match l,hr with
  |[a,b,c],_=>exact⟨a,b,c,rfl⟩
 show(match CV (fun j=>some (j*1,1)) (rep 3 (xI P t).Es) [(0,val T x),(1,val T y),(2,val T z)]with|some cells=>some (V.rs nx 0 3,Au σ nx cells 1,nx+1)|none=>none)=_;rw[e];simp[JR,NI,E _ Y,E _ hy,E _ hw,iF,Au]
attribute [go_sem] NJ
theorem ag2{P:Program}(T:Nat->V)(σ:Store)(t:Tmp)(r:ResultVar)(rs:List ResultVar):Ag P T σ (.tmp t :: r :: rs)=(Ag P T σ (r :: rs)).map fun vs=>T t :: vs:=by
 rw[Ag];cases Ag P T σ (r :: rs)<;>rfl
theorem aeC{P:Program}(T:Nat->V)(σ:Store)(a:Tmp)(t:TypeId)(r:ResultVar)(rs:List ResultVar):Ag P T σ (.cell a t :: r :: rs)=(AZ P σ t (T a)).bind fun v=>(Ag P T σ (r :: rs)).map fun vs=>v :: vs:=by
 rw[Ag];cases AZ P σ t (T a)<;>cases Ag P T σ (r :: rs)<;>rfl
attribute [go_sem] ag2 aeC
theorem JV{P:Program}{s e:TypeId}{G E k:IntKind}{n:Int}{σ:Store}(hs:P.underlying s=some (.int G))(J:P.underlying e=some (.int E)):Bv P s e (.sc (.int k n)) σ=some (.sc (.int E (E.wrap n))):=by
 have h:wI P (convert s e (.int k n))=some (.int E (E.wrap n)):=by
  unfold convert;rw[nH,o9 hs];simp only[zk];rw[nH,o9 J];rfl
 simp only[Bv,toVal,h,zk];rfl
theorem ZT{n:Int}(J:0<=n)(O:n<=18446744073709551615):IntKind.u64.wrap n=n:=by
 unfold IntKind.wrap;have E:IntKind.u64.signed=false:=by decide
 have G:IntKind.u64.bits=64:=by decide
 simp only[E,G,wM];rw[sQ (by simp)];omega
def aaH(a:Int):Int:=((BitVec.ofInt 64 a &&& BitVec.ofInt 64 255).toNat:Nat)
theorem qp(a:Int):0<=aaH a/\aaH a<=255:=by
 unfold aaH;rw[BitVec.toNat_and];have h:(BitVec.ofInt 64 255).toNat=255:=by decide
 rw[h];have:=Nat.and_le_right (n:=(BitVec.ofInt 64 a).toNat) (m:=255);omega
def ax5(a b:Int):Int:=IntKind.i64.wrap ((BitVec.ofInt 64 a^^^BitVec.ofInt 64 b).toNat:Nat)
section
variable {P:Program} {t:TypeId} {x y:Operand}
theorem aeD{a:Int}:Am P .and t x y (.sc (.int .i64 a)) (.sc (.int .i64 255))=some (.sc (.int .i64 (aaH a))):=by
 have h:(Op.intBits .and .i64 a 255)=(pure (.int .i64 (aaH a)):Sem Value):=by
  show(pure (.int .i64 (IntKind.i64.wrap (aaH a))):Sem Value)=_;rw[ZU (by have:=qp a;omega) (by have:=qp a;omega)]
 simp only[Am,toVal,eqGuard_at_int,binOp_and,h];rfl
theorem aov{a b:Int}:Am P .xor t x y (.sc (.int .i64 a)) (.sc (.int .i64 b))=some (.sc (.int .i64 (ax5 a b))):=by
 simp only[Am,toVal,eqGuard_at_int,binOp_xor];rfl
theorem aow{k E:IntKind}{a n:Int}(h:¬n<0):Am P .shr t x y (.sc (.int k a)) (.sc (.int E n))=some (.sc (.int k (a.fdiv (2^min n.toNat k.bits)))):=by
 have hs:Op.shift .shr k a E n=(pure (.int k (a.fdiv (2^min n.toNat k.bits))):Sem Value):=by
  unfold Op.shift;rw[sQ h]
 simp only[Am,toVal,eqGuard_at_int,binOp_shr,hs];rfl
end
def ax6(a b:Int):Int:=IntKind.i64.wrap ((BitVec.ofInt 64 a &&& BitVec.ofInt 64 b).toNat:Nat)
theorem aox{P:Program}{t:TypeId}{x y:Operand}{a b:Int}:Am P .and t x y (.sc (.int .i64 a)) (.sc (.int .i64 b))=some (.sc (.int .i64 (ax6 a b))):=by
 simp only[Am,toVal,eqGuard_at_int,binOp_and];rfl
attribute [go_sem] aeD aov aow
attribute [go_sem low] aox
def akI:V->Bool
 | .sc _=>true
 |_=>false
theorem akJ(v:Value):akI (.sc v)=true:=id rfl
theorem WL{P:Program}{conv:FuncId->Conv}{call:Call}(d:Option Tmp)(ty:TypeId)(ps:String)(G:Array Edge)(J:Option (Nat×Bool))(T:Nat->V)(σ:Store)(nx:Nat)(s e:TypeId)(x:Operand)(E:akI (val T x)=true) :
  Ai P conv call ⟨d,.convert s e x,ty,ps,G,J⟩ T σ nx=(Bv P s e (val T x) pI).map (·,σ,nx):=by
 obtain⟨u,hu⟩:∃u,val T x= .sc u:=by
  cases O:val T x<;>rw[O]at E<;>first|exact⟨_,rfl⟩|cases E
 refine iY T σ nx (by show some (Ae (val T x))=some [];rw[hu];rfl) fun σ=>?_
 show(Bv P s e (val T x) σ).map _=_;rw[hu];rfl
attribute [go_sem] akJ WL
theorem bD{b:Option (Ex×St)}{J:St->Prop}{post:Ex×St->Prop}(h:∃x,b=some x/\((∃E,x=(.norm,E)/\J E)\/((∀s,x≠(.norm,s))/\post x))):(∃E,b=some (.norm,E)/\J E)\/(∃r,b=some r/\(∀s,r≠(.norm,s))/\post r):=by
 obtain⟨x,rfl,⟨E,rfl,h⟩|⟨G,O⟩⟩:=h
 .exact .inl ⟨E,rfl,h⟩
 .exact .inr ⟨x,rfl,G,O⟩
theorem akK{P:Program}{conv:FuncId->Conv}{call:Call}{d:Option Tmp}{ty:TypeId}{ps:String}{E:Array Edge}{G:Option (Nat×Bool)}{T:Nat->V}{σ:Store}{nx:Nat}{g:FuncId}(h:conv g= .inl)(args:Array Operand)(ts:Array TypeId) :
  Ai P conv call ⟨d,.call ⟨.value (.func g),args,ts⟩,ty,ps,E,G⟩ T σ nx=if(((args.toList.map (val T)).flatMap Ep).all fun b=>decide (b<nx))=true then
   (call g (args.toList.map (val T)) (restrict σ ((args.toList.map (val T)).flatMap Ep)) nx).map fun r=>(r.1,yI ((args.toList.map (val T)).flatMap Ep) nx r.2.2 σ r.2.1,r.2.2)else none:=by
 have J:Dw conv T σ (⟨d,.call ⟨.value (.func g),args,ts⟩,ty,ps,E,G⟩:Oper)=some ((args.toList.map (val T)).flatMap Ep):=by
  simp only[Dw,val,h,vw,zH]
 rw[nP T σ nx J (fun v=>by simp only[keeps,val,h])]
 split
 .have e:=Mc (P:=P) (conv:=conv) (call:=call) d ty ps E G T (restrict σ ((args.toList.map (val T)).flatMap Ep)) nx (.func g) args ts
  rw[e];simp only[val,qF,zH,qE h];cases call g (args.toList.map (val T)) (restrict σ ((args.toList.map (val T)).flatMap Ep)) nx<;>rfl
 .rfl
theorem arR{conv:FuncId->Conv}{d:Option Tmp}{ty:TypeId}{ps:String}{E:Array Edge}{G:Option (Nat×Bool)}{g:FuncId}(h:conv g= .inl)(args:Array Operand)(ts:Array TypeId):writer conv ⟨d,.call ⟨.value (.func g),args,ts⟩,ty,ps,E,G⟩=true:=by unfold writer;simp only[h]
theorem ag3{conv:FuncId->Conv}{d:Option Tmp}{ty:TypeId}{ps:String}{E:Array Edge}{G:Option (Nat×Bool)}{T:Nat->V}{σ:Store}{g:FuncId}(h:conv g= .inl)(args:Array Operand)(ts:Array TypeId):Ad conv T σ ⟨d,.call ⟨.value (.func g),args,ts⟩,ty,ps,E,G⟩=(args.toList.map (val T)).flatMap Ep:=by
 simp only[Ad,Dw,val,h,vw,zH,yG]
theorem ag4(v:Value):Ep (.sc v)=[]:=rfl
theorem ag5(b off:Nat):Ep (.rp b off)=[b]:=rfl
theorem ag6(b off len:Nat):Ep (.rs b off len)=[b]:=rfl
theorem ag7(row:List V)(len:Nat):Ep (.ts row len)=[]:=rfl
theorem ag8(row:List V)(off:Nat):Ep (.tp row off)=[]:=rfl
theorem aeE:Ep .nil=[]:=rfl
theorem aeF(vs:List V):Ep (.agg vs)=vs.flatMap Ae:=rfl
theorem fM(σ:Store)(b:Nat):restrict σ [b] b=σ b:=by unfold restrict;simp
theorem PW(σ:Store)(b nx:Nat)(x:Option Fv):yI [b] nx nx σ (upd (restrict σ [b]) b x)=upd σ b x:=by
 funext i;unfold yI upd restrict
 by_cases h:i=b
 .simp[h]
 .rw[sQ (by simp only[yD,h,false_or];omega),sQ h]
attribute [go_sem] akK arR ag3 ag4 ag5 ag6 ag7 ag8 aeE aeF fM PW
theorem NK{P:Program}{conv:FuncId->Conv}{call:Call}{d:Option Tmp}{ty:TypeId}{ps:String}{E:Array Edge}{G:Option (Nat×Bool)}{T:Nat->V}{σ:Store}{nx:Nat}(a x:Operand)(t u:TypeId) :
  Ai P conv call ⟨d,.call ⟨.builtin .append,#[a,x],#[t,u]⟩,ty,ps,E,G⟩ T σ nx=if((Ae (val T a)++Ae (val T x)).all fun b=>decide (b<nx))=true then
   (Ec P #[t,u] (val T a) (val T x) (restrict σ (Ae (val T a)++Ae (val T x))) nx).map fun r=>(r.1,yI (Ae (val T a)++Ae (val T x)) nx r.2.2 σ r.2.1,r.2.2)else none:=by
 have J:Dw conv T σ (⟨d,.call ⟨.builtin .append,#[a,x],#[t,u]⟩,ty,ps,E,G⟩:Oper)=some (Ae (val T a)++Ae (val T x)):=by
  simp[Dw]
 rw[nP T σ nx J (fun v=>rfl)]
 split
 .rw[Qv]
  cases Ec P #[t,u] (val T a) (val T x) (restrict σ (Ae (val T a)++Ae (val T x))) nx<;>rfl
 .rfl
theorem NM{conv:FuncId->Conv}{d:Option Tmp}{ty:TypeId}{ps:String}{E:Array Edge}{G:Option (Nat×Bool)}(args:Array Operand)(ts:Array TypeId):writer conv ⟨d,.call ⟨.builtin .append,args,ts⟩,ty,ps,E,G⟩=true:=id rfl
theorem KU{conv:FuncId->Conv}{d:Option Tmp}{ty:TypeId}{ps:String}{E:Array Edge}{G:Option (Nat×Bool)}{T:Nat->V}{σ:Store}(a x:Operand)(ts:Array TypeId):Ad conv T σ ⟨d,.call ⟨.builtin .append,#[a,x],ts⟩,ty,ps,E,G⟩=Ae (val T a)++Ae (val T x):=by
 simp[Ad,Dw]
theorem LP{P:Program}{conv:FuncId->Conv}{call:Call}(d:Option Tmp)(ty:TypeId)(ps:String)(E:Array Edge)(G:Option (Nat×Bool))(T:Nat->V)(σ:Store)(nx:Nat)(t:TypeId)(h:(xI P t).slice=true)(J:(xI P t).SA=true):Ai P conv call ⟨d,.buildSlice t 0 #[],ty,ps,E,G⟩ T σ nx=some (.nil,σ,nx) :=
 Md T σ nx rfl fun σ=>iV d ty ps E G T σ nx t h J
theorem Td{conv:FuncId->Conv}{d:Option Tmp}{ty:TypeId}{ps:String}{E:Array Edge}{G:Option (Nat×Bool)}(t:TypeId)(n:Nat)(parts:Array (Nat×Operand)):writer conv ⟨d,.buildSlice t n parts,ty,ps,E,G⟩=false:=id rfl
theorem LQ{conv:FuncId->Conv}{d:Option Tmp}{ty:TypeId}{ps:String}{E:Array Edge}{G:Option (Nat×Bool)}{T:Nat->V}{σ:Store}(t:TypeId)(n:Nat)(parts:Array (Nat×Operand)):Ad conv T σ ⟨d,.buildSlice t n parts,ty,ps,E,G⟩=[]:=rfl
theorem aeG(σ:Store)(nx:Nat)(x:Option Fv):yI [] nx (nx+1) σ (upd (restrict σ []) nx x)=upd σ nx x:=by
 funext i;unfold yI upd restrict
 by_cases h:i=nx
 .simp[h]
 .rw[sQ (by simp only[zK,false_or];omega),sQ h]
attribute [go_sem] NK NM KU LP Td LQ aeG iJ zH
theorem NP:∀(ids:List Nat) (σ:Store) (b:Nat),ids.contains b=false->DR σ ids b=σ b
 |[],σ,b,_=>rfl
 |i :: ids,σ,b,h=>by
  rw[List.contains_cons,Bool.or_eq_false_iff]at h;have E:b≠i:=by simpa using h.1
  unfold DR;rw[NP ids _ b h.2,Zk _ _ E]
theorem JW{σ:Store}{ids:List Nat}{t:V}{b:Nat}(h:ids.contains b=false):behind σ ids t b=σ b:=by
 unfold behind
 split
 .rfl
 .exact NP ids σ b h
attribute [go_sem] JW
end Go.TV
namespace Go.TV
theorem akL{P:Program}{t:TypeId}{x y:Operand}{a b:ByteArray}(h:a.size+b.size<=9223372036854775807):Am P .add t x y (.sc (.string a)) (.sc (.string b))=some (.sc (.string (a++b))):=by
 have hm:IntKind.i64.max=9223372036854775807:=rfl;have:Op.stringOp .add a b=(pure (.string (a++b)):Sem Value):=by
  unfold Op.stringOp;rw[sQ (by rw[hm];omega)]
 simp only[Am,toVal,eqGuard_add];show(wI P (Op.stringOp .add a b)).bind _=_;rw[this];rfl
theorem aeH:BR []=some []:=rfl
theorem aaI(n:Int)(vs:List V):BR (.sc (.int .u8 n) :: vs)=if 0<=n/\n<256 then(BR vs).map (UInt8.ofNat n.toNat :: ·)else none:=rfl
theorem aoy{P:Program}{t:TypeId}(h:(xI P t).u8=true):∃e i,P.underlying t=some (.slice e)/\P.underlying e=some (.int .u8)/\P.info? e=some i/\i.size=1:=by
 unfold xI at h;cases hi:P.info? t with
 |none=>simp[hi]at h
 |some i=>
  cases J:P.underlying t with
  |none=>simp[hi,J]at h
  |some d=>
   simp only[hi,J]at h;cases d<;>simp at h;rename_i e;obtain⟨O,E⟩:=h;have S:P.underlying e=some (.int .u8):=by
    revert O
    cases P.underlying e with
    |none=>simp
    |some d=>cases d<;>simp;rename_i k;cases k<;>simp
   cases G:P.info? e with
   |none=>simp[G]at E
   |some j=>simp[G]at E;exact⟨e,j,rfl,S,G,E⟩
theorem arS{P:Program}{s d:TypeId}(hs:(xI P s).u8=true)(E:(xI P d).str=true)(b off len:Nat)(σ:Store):Bv P s d (.rs b off len) σ=(rowOf σ 1 (.rs b off len)).bind fun p=>(BR p.1).map fun l=> .sc (.string ⟨l.toArray⟩):=by
 obtain⟨e,i,G,J,O,S⟩:=aoy hs;unfold Bv;simp only[toVal,G,L_ E,J,O,S,if_true];cases rowOf σ 1 (.rs b off len)with
 |none=>rfl
 |some p=>obtain⟨r,n⟩:=p;rfl
attribute [go_sem] akL aeH aaI arS
end Go.TV
namespace Go.Proofs.YtjknobpihkmilaaGreat
open Go Go.TV
instance known0:Known:=⟨[]⟩
theorem kn0(W:World):Kn (TV.start W):=fun p hp=>absurd hp zK
def conv:FuncId->Conv:=fun f=>if f∈([]:List Nat)then .own else if f∈([29,27,28,26,58,59,60,96,98,99]:List Nat)then .inl else .KI
abbrev lI(n:Nat):Prop:=conv n= .KI
abbrev Gm(n:Nat):Prop:=conv n= .inl
theorem arT:lI 4/\lI 6/\lI 8/\lI 10/\lI 13/\lI 14/\lI 18/\lI 19/\lI 20/\lI 21/\Gm 26/\Gm 27/\Gm 29/\lI 30/\lI 31/\lI 32/\lI 33/\lI 34/\lI 35/\lI 36/\lI 37/\lI 39/\lI 40/\lI 41:=by and_intros<;>exact rfl
theorem arU:lI 42/\lI 43/\lI 44/\lI 45/\lI 46/\lI 47/\lI 48/\Gm 58/\Gm 59/\Gm 60/\lI 61/\lI 62/\lI 63/\lI 64/\lI 65/\lI 69/\lI 70/\lI 71/\lI 72/\lI 73/\lI 74/\lI 75/\lI 76/\lI 77:=by and_intros<;>exact rfl
theorem arV:lI 78/\lI 79/\lI 80/\lI 81/\lI 82/\lI 83/\lI 84/\lI 87/\lI 88/\Gm 96/\lI 97/\Gm 98/\Gm 99/\lI 100/\lI 101/\lI 102/\lI 103/\lI 106/\lI 107/\lI 108/\lI 109/\lI 110/\lI 111/\lI 112:=by and_intros<;>exact rfl
theorem arW:lI 113/\lI 114/\lI 115/\lI 116/\lI 117/\lI 118/\lI 119/\lI 120/\lI 121/\lI 122/\lI 123/\lI 125/\lI 126/\lI 128/\lI 135/\lI 136/\lI 137/\lI 140/\lI 141/\lI 142/\lI 143/\lI 144/\lI 145/\lI 146:=by and_intros<;>exact rfl
theorem arX:lI 147/\lI 148/\lI 149/\lI 150/\lI 151/\lI 152/\lI 153/\lI 154/\lI 155/\lI 156/\lI 157/\lI 158/\lI 159/\lI 160/\lI 161/\lI 162/\lI 163/\lI 164/\lI 165/\lI 168/\lI 169/\lI 170/\lI 171/\lI 172:=by and_intros<;>exact rfl
theorem arY:lI 173/\lI 174/\lI 175/\lI 176/\lI 177/\lI 178/\lI 179/\lI 180/\lI 181/\lI 182/\lI 183/\lI 184/\lI 185/\lI 186/\lI 187/\lI 188/\lI 189/\lI 190/\lI 191/\lI 192/\lI 193/\lI 194/\lI 195/\lI 196:=by and_intros<;>exact rfl
theorem arZ:lI 197/\lI 198/\lI 199/\lI 202/\lI 203/\lI 204/\lI 205/\lI 206/\lI 207/\lI 208/\lI 209/\lI 210/\lI 211/\lI 212/\lI 213/\lI 214/\lI 215/\lI 216/\lI 217/\lI 218/\lI 219/\lI 220/\lI 221/\lI 222:=by and_intros<;>exact rfl
theorem ar0:lI 223/\lI 226/\lI 227/\lI 228/\lI 229/\lI 230/\lI 231/\lI 232/\lI 233/\lI 234/\lI 235/\lI 236/\lI 237/\lI 238/\lI 239/\lI 240/\lI 242/\lI 243/\lI 244/\lI 245/\lI 246/\lI 247/\lI 248/\lI 249:=by and_intros<;>exact rfl
theorem ar1:lI 250/\lI 251:=by and_intros<;>exact rfl
attribute [go_sem] arT arU arV arW arX arY arZ ar0 ar1
theorem ty2:xI ZM 2=⟨true,false,1,[.sc (.int .i64 0)],false,false,false,0,0,[],false,[],[],false,false⟩:=by kernel_rfl
theorem ty3:xI ZM 3=xI ZM 2:=by kernel_rfl
theorem ty4:xI ZM 4=⟨true,false,1,[.sc (.bool false)],false,false,false,0,0,[],false,[],[],false,false⟩:=by kernel_rfl
theorem ty5:xI ZM 5=⟨true,false,1,[.sc (.int .u8 0)],false,false,false,0,0,[],false,[],[],false,false⟩:=by kernel_rfl
theorem ty7:xI ZM 7=⟨true,true,4,[.sc (.int .i64 0),.sc (.int .i64 0),.sc (.bool false),.sc (.int .u8 0)],false,false,false,0,0,[],false,[(0,1,some false),(1,1,some false),(2,1,some false),(3,1,some false)],[(0,1),(1,1),(2,1),(3,1)],true,false⟩:=by kernel_rfl
theorem ty9:xI ZM 9=⟨true,false,1,[.sc (.string ByteArray.empty)],false,true,false,0,0,[],false,[],[],false,false⟩:=by kernel_rfl
theorem ax7:xI ZM 12=⟨true,false,1,[.sc (.int .u64 0)],false,false,false,0,0,[],false,[],[],false,false⟩:=by kernel_rfl
theorem ax8:xI ZM 13=⟨true,true,2,[.sc (.string ByteArray.empty),.sc (.int .u64 0)],false,false,false,0,0,[],false,[(0,1,some false),(1,1,some false)],[(0,1),(1,1)],true,false⟩:=by kernel_rfl
theorem ax9:xI ZM 21=⟨true,false,1,[.sc (.int .i32 0)],false,false,false,0,0,[],false,[],[],false,false⟩:=by kernel_rfl
theorem ax_:xI ZM 22=⟨true,false,1,[.nil],true,false,false,1,1,[.sc (.int .u8 0)],true,[],[],false,true⟩:=by kernel_rfl
theorem ax':xI ZM 23=⟨true,false,1,[.nil],true,false,false,5,112,[.sc (.string ByteArray.empty),.nil,.nil,.nil,.nil],true,[],[],false,false⟩:=by kernel_rfl
theorem aya:xI ZM 24=⟨true,false,1,[.nil],true,false,false,2,16,[.sc (.int .i64 0),.sc (.int .i64 0)],true,[],[],false,false⟩:=by kernel_rfl
theorem ayb:xI ZM 25=⟨true,true,3,[.nil,.nil,.sc (.bool false)],false,false,false,0,0,[],false,[(0,1,some false),(1,1,some false),(2,1,some false)],[(0,1),(1,1),(2,1)],true,false⟩:=by kernel_rfl
theorem ayc:xI ZM 26=xI ZM 25:=by kernel_rfl
theorem ayd:xI ZM 29=⟨true,false,1,[.nil],true,false,false,1,8,[.sc (.int .i64 0)],true,[],[],false,false⟩:=by kernel_rfl
theorem aye:xI ZM 38=⟨true,false,1,[.nil],true,false,false,4,40,[.sc (.string ByteArray.empty),.sc (.int .i64 0),.sc (.int .i64 0),.sc (.bool false)],true,[],[],false,false⟩:=by kernel_rfl
theorem ayf:xI ZM 39=⟨true,false,1,[.nil],true,false,false,3,24,[.sc (.int .i64 0),.sc (.int .i64 0),.sc (.int .i64 0)],true,[],[],false,false⟩:=by kernel_rfl
theorem ayg:xI ZM 40=⟨true,true,2,[.nil,.nil],false,false,false,0,0,[],false,[(0,1,some false),(1,1,some false)],[(0,1),(1,1)],true,false⟩:=by kernel_rfl
theorem ayh:xI ZM 41=xI ZM 40:=by kernel_rfl
theorem ayi:xI ZM 42=⟨true,true,5,[.sc (.string ByteArray.empty),.nil,.nil,.nil,.nil],false,false,false,0,0,[],false,[(0,1,some false),(1,2,some true),(3,1,some false),(4,1,some false)],[(0,1),(1,2),(3,1),(4,1)],true,false⟩:=by kernel_rfl
theorem ayj:xI ZM 43=xI ZM 42:=by kernel_rfl
theorem ayk:xI ZM 47=⟨true,true,3,[.sc (.string ByteArray.empty),.sc (.int .i64 0),.sc (.int .i64 0)],false,false,false,0,0,[],false,[(0,1,some false),(1,1,some false),(2,1,some false)],[(0,1),(1,1),(2,1)],true,false⟩:=by kernel_rfl
theorem ayl:xI ZM 48=xI ZM 47:=by kernel_rfl
theorem aym:xI ZM 49=⟨true,false,1,[.nil],true,false,false,3,32,[.sc (.string ByteArray.empty),.sc (.int .i64 0),.sc (.int .i64 0)],true,[],[],false,false⟩:=by kernel_rfl
theorem ayn:xI ZM 50=⟨true,false,1,[.nil],true,false,false,1,24,[.nil],true,[],[],false,false⟩:=by kernel_rfl
theorem ayo:xI ZM 56=xI ZM 38:=by kernel_rfl
theorem ayp:xI ZM 57=xI ZM 39:=by kernel_rfl
theorem ayq:xI ZM 58=xI ZM 40:=by kernel_rfl
theorem ayr:xI ZM 59=xI ZM 40:=by kernel_rfl
theorem ays:xI ZM 60=xI ZM 42:=by kernel_rfl
theorem ayt:xI ZM 61=xI ZM 42:=by kernel_rfl
theorem ayu:xI ZM 67=⟨true,false,1,[.sc (.pointer none)],false,false,true,0,0,[],false,[],[],false,false⟩:=by kernel_rfl
theorem ayv:xI ZM 72=⟨true,false,1,[.nil],true,false,false,1,1,[.sc (.bool false)],true,[],[],false,false⟩:=by kernel_rfl
theorem ayw:xI ZM 76=⟨true,true,2,[.sc (.int .i64 0),.sc (.int .i64 0)],false,false,false,0,0,[],false,[(0,1,some false),(1,1,some false)],[(0,1),(1,1)],true,false⟩:=by kernel_rfl
theorem ayx:xI ZM 77=xI ZM 76:=by kernel_rfl
theorem ayy:xI ZM 81=⟨true,false,1,[.nil],true,false,false,1,16,[.sc (.string ByteArray.empty)],true,[],[],false,false⟩:=by kernel_rfl
theorem ayz:xI ZM 84=⟨true,false,1,[.nil],true,false,false,3,56,[.sc (.bool false),.nil,.nil],true,[],[],false,false⟩:=by kernel_rfl
theorem ayA:xI ZM 94=xI ZM 67:=by kernel_rfl
theorem ar2:xI ZM 104=⟨true,true,3,[.nil,.sc (.int .i64 0),.sc (.int .i64 0)],false,false,false,0,0,[],false,[(0,1,some false),(1,1,some false),(2,1,some false)],[(0,1),(1,1),(2,1)],true,false⟩:=by kernel_rfl
theorem ar4:xI ZM 105=xI ZM 104:=by kernel_rfl
theorem ar5:xI ZM 106=xI ZM 12:=by kernel_rfl
theorem ar6:xI ZM 107=xI ZM 67:=by kernel_rfl
theorem ar7:xI ZM 112=xI ZM 67:=by kernel_rfl
theorem ar8:xI ZM 113=⟨true,true,2,[.sc (.pointer none),.nil],false,false,false,0,0,[],false,[(0,1,some false),(1,1,some false)],[(0,1),(1,1)],true,false⟩:=by kernel_rfl
theorem ar9:xI ZM 114=xI ZM 113:=by kernel_rfl
theorem ar_:xI ZM 124=⟨true,false,1,[.nil],true,false,false,1,8,[.sc (.pointer none)],true,[],[],false,false⟩:=by kernel_rfl
theorem ar':xI ZM 127=⟨true,true,5,[.sc (.int .i64 0),.sc (.int .i64 0),.nil,.nil,.nil],false,false,false,0,0,[],false,[(0,1,some false),(1,1,some false),(2,1,some false),(3,1,some false),(4,1,some false)],[(0,1),(1,1),(2,1),(3,1),(4,1)],true,false⟩:=by kernel_rfl
theorem asa:xI ZM 128=xI ZM 127:=by kernel_rfl
theorem asb:xI ZM 133=xI ZM 67:=by kernel_rfl
theorem ase:xI ZM 153=⟨true,true,4,[.sc (.string ByteArray.empty),.sc (.int .i64 0),.sc (.int .i64 0),.sc (.bool false)],false,false,false,0,0,[],false,[(0,1,some false),(1,1,some false),(2,1,some false),(3,1,some false)],[(0,1),(1,1),(2,1),(3,1)],true,false⟩:=by kernel_rfl
theorem asf:xI ZM 154=xI ZM 153:=by kernel_rfl
theorem asg:xI ZM 155=⟨true,true,3,[.sc (.int .i64 0),.sc (.int .i64 0),.sc (.int .i64 0)],false,false,false,0,0,[],false,[(0,1,some false),(1,1,some false),(2,1,some false)],[(0,1),(1,1),(2,1)],true,false⟩:=by kernel_rfl
theorem ash:xI ZM 156=xI ZM 155:=by kernel_rfl
theorem asi:xI ZM 158=xI ZM 67:=by kernel_rfl
theorem asj:xI ZM 162=xI ZM 67:=by kernel_rfl
theorem asl:xI ZM 163=xI ZM 24:=by kernel_rfl
theorem asn:xI ZM 167=xI ZM 76:=by kernel_rfl
theorem aso:xI ZM 168=xI ZM 76:=by kernel_rfl
theorem asq:xI ZM 170=⟨true,true,2,[.sc (.bool false),.nil],false,false,false,0,0,[],false,[(0,1,some false),(1,1,some false)],[(0,1),(1,1)],true,false⟩:=by kernel_rfl
theorem asr:xI ZM 171=xI ZM 170:=by kernel_rfl
theorem asu:xI ZM 172=⟨true,true,3,[.sc (.bool false),.nil,.nil],false,false,false,0,0,[],false,[(0,2,some true),(2,1,some false)],[(0,2),(2,1)],true,false⟩:=by kernel_rfl
theorem asv:xI ZM 173=xI ZM 172:=by kernel_rfl
theorem asw:xI ZM 183=xI ZM 153:=by kernel_rfl
theorem asx:xI ZM 187=xI ZM 155:=by kernel_rfl
theorem asy:xI ZM 190=⟨true,false,1,[.sc (.int .u32 0)],false,false,false,0,0,[],false,[],[],false,false⟩:=by kernel_rfl
theorem asz:xI ZM 193=xI ZM 12:=by kernel_rfl
theorem asA:xI ZM 202=xI ZM 67:=by kernel_rfl
theorem asB:xI ZM 205=xI ZM 50:=by kernel_rfl
theorem asC:xI ZM 206=⟨true,true,6,[.nil,.sc (.bool false),.nil,.nil,.sc (.int .i64 0),.nil],false,false,false,0,0,[],false,[(0,1,some false),(1,2,some true),(3,1,some false),(4,1,some false),(5,1,some false)],[(0,1),(1,2),(3,1),(4,1),(5,1)],true,false⟩:=by kernel_rfl
theorem asD:xI ZM 207=xI ZM 206:=by kernel_rfl
theorem asE:xI ZM 210=⟨true,false,1,[.nil],true,false,false,2,32,[.sc (.bool false),.nil],true,[],[],false,false⟩:=by kernel_rfl
theorem asF:xI ZM 215=xI ZM 172:=by kernel_rfl
theorem asG:xI ZM 216=xI ZM 172:=by kernel_rfl
theorem asH:xI ZM 224=⟨true,true,5,[.sc (.int .i64 0),.nil,.sc (.bool false),.nil,.nil],false,false,false,0,0,[],false,[(0,1,some false),(1,1,some false),(2,3,some true)],[(0,1),(1,1),(2,3)],true,false⟩:=by kernel_rfl
theorem asI:xI ZM 225=xI ZM 224:=by kernel_rfl
theorem asJ:xI ZM 241=xI ZM 67:=by kernel_rfl
theorem asK:xI ZM 245=xI ZM 50:=by kernel_rfl
theorem asL:xI ZM 246=⟨true,true,4,[.sc (.int .i64 0),.nil,.nil,.nil],false,false,false,0,0,[],false,[(0,1,some false),(1,1,some false),(2,1,some false),(3,1,some false)],[(0,1),(1,1),(2,1),(3,1)],true,false⟩:=by kernel_rfl
theorem asM:xI ZM 247=xI ZM 246:=by kernel_rfl
theorem asN:xI ZM 281=⟨true,true,4,[.sc (.pointer none),.sc (.pointer none),.sc (.pointer none),.sc (.string ByteArray.empty)],false,false,false,0,0,[],false,[(0,1,some false),(1,1,some false),(2,1,some false),(3,1,some false)],[(0,1),(1,1),(2,1),(3,1)],true,false⟩:=by kernel_rfl
theorem asO:xI ZM 283=⟨true,true,0,[],false,false,false,0,0,[],false,[],[],false,false⟩:=by kernel_rfl
theorem asP:xI ZM 284=⟨true,true,0,[],false,false,false,0,0,[],false,[(0,0,some true)],[(0,0)],true,false⟩:=by kernel_rfl
attribute [go_sem] ty2 ty3 ty4 ty5 ty7 ty9 ax7 ax8 ax9 ax_ ax' aya ayb ayc ayd aye ayf ayg ayh ayi ayj ayk ayl aym ayn ayo ayp ayq ayr ays ayt ayu ayv ayw ayx ayy ayz ayA ar2 ar4 ar5 ar6 ar7 ar8 ar9 ar_ ar' asa asb ase asf asg ash asi asj asl asn aso asq asr asu asv asw asx asy asz asA asB asC asD asE asF asG asH asI asJ asK asL asM asN asO asP
def WM:Go.Shelf.Ren:=⟨fun|156=>38|165=>66|166=>67|169=>68|240=>104|241=>105|276=>138|277=>139|n=>n,fun|0=>0|3=>3|4=>4|5=>5|9=>9|20=>20|31=>81|37=>22|70=>112|72=>114|75=>117|76=>118|80=>120|127=>158|164=>197|n=>n,fun n=>n⟩
theorem lays156:Lays.n156 ZM WM:={ mixed:=by kernel_rfl,f156:=by kernel_rfl,f165:=by kernel_rfl,f166:=by kernel_rfl,f169:=by kernel_rfl,f240:=by kernel_rfl,f241:=by kernel_rfl,f276:=by kernel_rfl,f277:=by kernel_rfl,t0:=Tryz.underlying0,a0:=Tryz.isAgg0,z0:=Tryz.sizeOf0,v0:=Tryz.zeroValue0,t3:=Tryz.underlying3,a3:=Tryz.isAgg3,z3:=Tryz.sizeOf3,v3:=Tryz.zeroValue3,t4:=Tryz.underlying4,a4:=Tryz.isAgg4,z4:=Tryz.sizeOf4,v4:=Tryz.zeroValue4,t9:=Tryz.underlying9,a9:=Tryz.isAgg9,z9:=Tryz.sizeOf9,v9:=Tryz.zeroValue9,t20:=Tryz.underlying20,a20:=Tryz.isAgg20,z20:=Tryz.sizeOf20,v20:=Tryz.zeroValue20,t31:=Tryz.underlying81,a31:=Tryz.isAgg81,z31:=Tryz.sizeOf81,v31:=Tryz.zeroValue81,t37:=Tryz.underlying22,a37:=Tryz.isAgg22,z37:=Tryz.sizeOf22,v37:=Tryz.zeroValue22,t70:=Tryz.underlying112,a70:=Tryz.isAgg112,z70:=Tryz.sizeOf112,v70:=Tryz.zeroValue112,t72:=Tryz.underlying114,a72:=Tryz.isAgg114,z72:=Tryz.sizeOf114,v72:=Tryz.zeroValue114,t75:=Tryz.underlying117,a75:=Tryz.isAgg117,z75:=Tryz.sizeOf117,v75:=Tryz.zeroValue117,t76:=Tryz.underlying118,a76:=Tryz.isAgg118,z76:=Tryz.sizeOf118,v76:=Tryz.zeroValue118,t127:=Tryz.underlying158,a127:=Tryz.isAgg158,z127:=Tryz.sizeOf158,v127:=Tryz.zeroValue158,t164:=Tryz.underlying197,a164:=Tryz.isAgg197,z164:=Tryz.sizeOf197,v164:=Tryz.zeroValue197 }
theorem aoz:Builder.Extra ZM WM:={ sizeBuilder:=by kernel_rfl,liesBuilder:=by kernel_rfl,t5:=Tryz.underlying5,a5:=Tryz.isAgg5,z5:=Tryz.sizeOf5,v5:=Tryz.zeroValue5,infoByte:=by kernel_rfl,cellsByte:=by kernel_rfl,sizeByte:=by kernel_rfl,neB5:=by decide }
def aoA:Ext:=fun f=>if f=38 then some agS else none
theorem aoB:Iw ZM aoA:=fun f g h args σ nx v σ' nx' E=>by
 unfold aoA at h
 split at h
 .rename_i G
  subst G;cases h;exact aaE lays156 aoz rfl ⟨_,func38,by kernel_rfl,by kernel_rfl⟩ args σ nx v σ' nx' E
 .cases h
def FT:List V->Store->Nat->Option (V×Store×Nat)
 |[.ts row len],σ,nx=>if row.length=len/\len<=17592186044000/\row.all vI=true then(if len=0 then some (.nil,σ,nx)else some (.rs nx 0 len,Au σ nx row 1,nx+1))else none
 |_,_,_=>none
theorem pU(args:List V)(σ:Store)(nx:Nat)(v:V)(σ':Store)(nx':Nat)(h:FT args σ nx=some (v,σ',nx')):Ey ZM 64 args σ nx v σ' nx':=by
 unfold FT at h
 split at h
 .rename_i row len
  split at h
  .rename_i hc
   obtain⟨G,hs,J⟩:=hc;refine NH (call:=fun _ _ _ _=>none) (conv:=fun _=> .KI) (fun _ _ _ _ _ _ _ h=>by cases h) (by kernel_rfl) func64 rfl Tryz.underlying29 (n:=0) (by kernel_rfl) (st1:=⟨upd (DW [.ts row len]) 2 .nil,σ,nx⟩) (T2:=upd (upd (DW [.ts row len]) 2 .nil) 3 (.ts row len)) (v1:=.ts row len) (row:=row) (len:=len) (vs:=[v]) ?_ rfl ?_ rfl ?_ ?_
   .rfl
   .rfl
   .rfl
   .intro b hb
    cases b with
    |true=>
     have O:=hb rfl;subst O;have E:len=0:=by simpa using G.symm
     subst E;simp only[if_true,sW,sS]at h;obtain⟨rfl,rfl,rfl⟩:=h;exact⟨.ret,_,rfl,.inr rfl,rfl,rfl,rfl⟩
    |false=>
     by_cases E:len=0
     .subst E
      have O:row=[]:=zZ G;subst O;simp only[if_true,sW,sS]at h;obtain⟨rfl,rfl,rfl⟩:=h;refine⟨.ret,?_,?_,.inr rfl,?_,?_,?_⟩
      .exact⟨upd (upd (upd (upd (upd (upd (upd (upd (DW [.ts [] 0]) 2 .nil) 3 (.ts [] 0)) 4 (.sc (.bool false))) 5 .nil) 6 (.ts [] 0)) 7 .nil) 2 .nil) 2 .nil,σ,nx⟩
      .simp only[zI,go_sem]
      .rfl
      .rfl
      .rfl
     .rw[sQ E]at h
      simp only[sW,sS]at h;obtain⟨rfl,rfl,rfl⟩:=h;have S:len<=maxLen/\len*8<=140737488355328:=by unfold maxLen;omega
      refine⟨.ret,?_,?_,.inr rfl,?_,?_,?_⟩
      .exact⟨upd (upd (upd (upd (upd (upd (upd (DW [.ts row len]) 2 .nil) 3 (.ts row len)) 4 (.sc (.bool false))) 5 .nil) 6 (.ts row len)) 7 (.rs nx 0 len)) 2 (.rs nx 0 len),Au σ nx row 1,nx+1⟩
      .simp only[zI,go_sem,G,E,S]
      .rfl
      .rfl
      .rfl
  .cases h
 .cases h
def ext:Ext:=fun f=>if f=64 then some FT else aoA f
theorem ag9:Iw ZM ext:=fun f g h args σ nx v σ' nx' E=>by
 unfold ext at h
 split at h
 .rename_i G
  subst G;cases h;exact pU args σ nx v σ' nx' E
 .exact aoB f g h args σ nx v σ' nx' E
theorem aaJ(xs:List Int)(h:xs.length<=17592186044000):fn ZM conv ext 64 [LI xs]=some (LI xs):=by
 have G:FT [LI xs] pI 0=if xs.length=0 then some (.nil,pI,0)else some (.rs 0 0 xs.length,Au pI 0 (xs.flatMap cI) 1,0+1):=by
  show(if(xs.flatMap cI).length=xs.length/\xs.length<=17592186044000/\(xs.flatMap cI).all vI=true then _ else none)=_;rw[sO ⟨qN xs,h,qO xs⟩]
 rw[mJ,n_ (g:=FT) rfl,G]
 by_cases E:xs.length=0
 .rw[sO E]
  have:xs=[]:=zZ E;subst this
  (simp only[go_sem])<;>rfl
 .rw[sQ E]
  simp only[go_sem]
theorem u4:ZM.underlying 4=some .bool:=Tryz.underlying4
attribute [go_sem] u4
def ix{α:Type}(p:α->Bool)(xs:List α):Int:=if xs.findIdx p<xs.length then xs.findIdx p else -1
theorem kC{α:Type}{p:α->Bool}{xs:List α}{k:Nat}(E:k<xs.length)(G:∀i (h:i<xs.length),i<k->p xs[i]=false)(h:p xs[k]=true):ix p xs=k:=by
 have:xs.findIdx p=k:=(List.findIdx_eq E).mpr ⟨h,fun j J=>G j (by omega) J⟩;unfold ix;rw[this,sO E]
theorem jw{α:Type}{p:α->Bool}{xs:List α}(E:∀i (h:i<xs.length),p xs[i]=false):ix p xs= -1:=by
 have:xs.findIdx p=xs.length:=List.findIdx_eq_length.mpr fun x G=>by
  obtain⟨i,hi,rfl⟩:=zA G;exact E i hi
 unfold ix;rw[this,sQ (Nat.lt_irrefl _)]
theorem jv{α:Type}{p:α->Bool}{xs:List α}{k:Nat}(O:k<xs.length)(J:∀i (h:i<xs.length),i<k->p xs[i]=false)(h:p xs[k]=false):∀i (h:i<xs.length),i<k+1->p xs[i]=false:=by
 intro i hi E;rcases xJ (xA E)with G|G
 .exact J i hi G
 .subst G;exact h
def ag_:=d_ (c:=Az) (s:=5) (fun _=>rfl)
def WO:=bg (c:=Az) (s:=5) (fun _=>rfl) (by omega)
def WQ:=bZ (c:=Az) (s:=5) (fun _=>rfl)
theorem WR(xs:List CP)(c:V)(g:FuncId)(p:CP->Bool)(t:V)(h:xs.length<=maxLen)(hc:conv g= .KI)(ht:strip pI 7 t=some (t,[]))(hg:∀x∈xs,fn ZM conv ext g [.agg (Az x),t]=some (Bo (p x))) :
  fn ZM conv ext 44 [LL Az xs,.clo g [t]]=some (I (ix p xs)):=by
 have e2:(xs.length:Int)<=9223372036854775807:=by unfold maxLen at h;omega
 rw[mJ,nC [.tmp 4] [] func44];simp only[go_sem];generalize hL:iI _ _=y;obtain⟨r,rfl,hr⟩:=oZ hL xs.length (fun k st=>st.nx=0/\st.σ=pI/\st.T 0=LL Az xs/\st.T 1= .clo g [t]/\st.T 7=I xs.length/\st.T 8=I k/\∀i (h:i<xs.length),i<k->p xs[i]=false)
  (fun r=>(∃T,r=(.exit 0,⟨T,pI,0⟩)/\ix p xs= -1)\/(∃T,r=(.ret,⟨T,pI,0⟩)/\T 4=I (ix p xs))) (by
   clear hL;rintro k ⟨T,σ,nx⟩ E ⟨hn,G,S,J,O,Y,hi⟩;simp only at hn G S J O Y;subst hn G;have f1:(k:Int)<(xs.length:Int):=by omega
   have f2:=jF k;have f3:=ZU (n:=(k:Int)+1);have f4:=ag_ xs k E;have f5:=WQ xs;have f6:k*5+5<=xs.length*5:=by omega
   have f9:=WO xs k E;have f10:=hg xs[k] (zu E);cases hp:p xs[k]with
   |true=>
    rw[hp]at f10;refine .inr ⟨_,by simp only[go_sem,S,J,O,Y,f1,f2,f4,f5,f6,f9,f10,hc,ht];rfl,by simp,.inr ⟨_,rfl,?_⟩⟩;simp only[go_sem];rw[kC E hi hp]
   |false=>
    rw[hp]at f10;refine .inl ⟨_,by simp only[go_sem,S,J,O,Y,f1,f2,f3,f4,f5,f6,f9,f10,hc,ht];rfl,?_⟩;simp only[go_sem,S,J,O];exact⟨rfl,jv E hi hp⟩) (by
   clear hL;rintro ⟨T,σ,nx⟩ ⟨hn,G,S,J,O,Y,hi⟩;simp only at hn G S J O Y;subst hn G;exact⟨_,by simp only[go_sem,O,Y,zi];rfl,by simp,.inl ⟨_,rfl,jw fun i h=>hi i h h⟩⟩) (by
   simp only[go_sem];exact fun i _ h=>absurd h (zW _))
 rcases hr with ⟨T,rfl,J⟩|⟨T,rfl,J⟩
 .simp only[go_sem,J]
 .simp only[go_sem,J]
def JX:=d_ (c:=Af) (s:=4) (fun _=>rfl)
def PX:=bg (c:=Af) (s:=4) (fun _=>rfl) (by omega)
def Gu:=bZ (c:=Af) (s:=4) (fun _=>rfl)
theorem aaK(xs:List Dn)(c:V)(g:FuncId)(p:Dn->Bool)(t:V)(h:xs.length<=maxLen)(hc:conv g= .KI)(ht:strip pI 7 t=some (t,[]))(hg:∀x∈xs,fn ZM conv ext g [.agg (Af x),t]=some (Bo (p x))) :
  fn ZM conv ext 158 [LL Af xs,.clo g [t]]=some (I (ix p xs)):=by
 have e2:(xs.length:Int)<=9223372036854775807:=by unfold maxLen at h;omega
 rw[mJ,nC [.tmp 4] [] func158];simp only[go_sem];generalize hL:iI _ _=y;obtain⟨r,rfl,hr⟩:=oZ hL xs.length (fun k st=>st.nx=0/\st.σ=pI/\st.T 0=LL Af xs/\st.T 1= .clo g [t]/\st.T 7=I xs.length/\st.T 8=I k/\∀i (h:i<xs.length),i<k->p xs[i]=false)
  (fun r=>(∃T,r=(.exit 0,⟨T,pI,0⟩)/\ix p xs= -1)\/(∃T,r=(.ret,⟨T,pI,0⟩)/\T 4=I (ix p xs))) (by
   clear hL;rintro k ⟨T,σ,nx⟩ E ⟨hn,G,S,J,O,Y,hi⟩;simp only at hn G S J O Y;subst hn G;have f1:(k:Int)<(xs.length:Int):=by omega
   have f2:=jF k;have f3:=ZU (n:=(k:Int)+1);have f4:=JX xs k E;have f5:=Gu xs;have f6:k*4+4<=xs.length*4:=by omega
   have f9:=PX xs k E;have f10:=hg xs[k] (zu E);cases hp:p xs[k]with
   |true=>
    rw[hp]at f10;refine .inr ⟨_,by simp only[go_sem,S,J,O,Y,f1,f2,f4,f5,f6,f9,f10,hc,ht];rfl,by simp,.inr ⟨_,rfl,?_⟩⟩;simp only[go_sem];rw[kC E hi hp]
   |false=>
    rw[hp]at f10;refine .inl ⟨_,by simp only[go_sem,S,J,O,Y,f1,f2,f3,f4,f5,f6,f9,f10,hc,ht];rfl,?_⟩;simp only[go_sem,S,J,O];exact⟨rfl,jv E hi hp⟩) (by
   clear hL;rintro ⟨T,σ,nx⟩ ⟨hn,G,S,J,O,Y,hi⟩;simp only at hn G S J O Y;subst hn G;exact⟨_,by simp only[go_sem,O,Y,zi];rfl,by simp,.inl ⟨_,rfl,jw fun i h=>hi i h h⟩⟩) (by
   simp only[go_sem];exact fun i _ h=>absurd h (zW _))
 rcases hr with ⟨T,rfl,J⟩|⟨T,rfl,J⟩
 .simp only[go_sem,J]
 .simp only[go_sem,J]
def Tf:=d_ (c:=Ac) (s:=3) (fun _=>rfl)
def Ti:=bg (c:=Ac) (s:=3) (fun _=>rfl) (by omega)
def IG:=bZ (c:=Ac) (s:=3) (fun _=>rfl)
theorem WS(xs:List Member)(c:V)(g:FuncId)(p:Member->Bool)(t:V)(h:xs.length<=maxLen)(hc:conv g= .KI)(ht:strip pI 7 t=some (t,[]))(hg:∀x∈xs,fn ZM conv ext g [.agg (Ac x),t]=some (Bo (p x))) :
  fn ZM conv ext 160 [LL Ac xs,.clo g [t]]=some (I (ix p xs)):=by
 have e2:(xs.length:Int)<=9223372036854775807:=by unfold maxLen at h;omega
 rw[mJ,nC [.tmp 4] [] func160];simp only[go_sem];generalize hL:iI _ _=y;obtain⟨r,rfl,hr⟩:=oZ hL xs.length (fun k st=>st.nx=0/\st.σ=pI/\st.T 0=LL Ac xs/\st.T 1= .clo g [t]/\st.T 7=I xs.length/\st.T 8=I k/\∀i (h:i<xs.length),i<k->p xs[i]=false)
  (fun r=>(∃T,r=(.exit 0,⟨T,pI,0⟩)/\ix p xs= -1)\/(∃T,r=(.ret,⟨T,pI,0⟩)/\T 4=I (ix p xs))) (by
   clear hL;rintro k ⟨T,σ,nx⟩ E ⟨hn,G,S,J,O,Y,hi⟩;simp only at hn G S J O Y;subst hn G;have f1:(k:Int)<(xs.length:Int):=by omega
   have f2:=jF k;have f3:=ZU (n:=(k:Int)+1);have f4:=Tf xs k E;have f5:=IG xs;have f6:k*3+3<=xs.length*3:=by omega
   have f9:=Ti xs k E;have f10:=hg xs[k] (zu E);cases hp:p xs[k]with
   |true=>
    rw[hp]at f10;refine .inr ⟨_,by simp only[go_sem,S,J,O,Y,f1,f2,f4,f5,f6,f9,f10,hc,ht];rfl,by simp,.inr ⟨_,rfl,?_⟩⟩;simp only[go_sem];rw[kC E hi hp]
   |false=>
    rw[hp]at f10;refine .inl ⟨_,by simp only[go_sem,S,J,O,Y,f1,f2,f3,f4,f5,f6,f9,f10,hc,ht];rfl,?_⟩;simp only[go_sem,S,J,O];exact⟨rfl,jv E hi hp⟩) (by
   clear hL;rintro ⟨T,σ,nx⟩ ⟨hn,G,S,J,O,Y,hi⟩;simp only at hn G S J O Y;subst hn G;exact⟨_,by simp only[go_sem,O,Y,zi];rfl,by simp,.inl ⟨_,rfl,jw fun i h=>hi i h h⟩⟩) (by
   simp only[go_sem];exact fun i _ h=>absurd h (zW _))
 rcases hr with ⟨T,rfl,J⟩|⟨T,rfl,J⟩
 .simp only[go_sem,J]
 .simp only[go_sem,J]
def Ba:=bg (c:=cI) (s:=1) (fun _=>rfl) (by omega)
theorem indexInt(xs:List Int)(c:V)(g:FuncId)(p:Int->Bool)(h:xs.length<=maxLen)(hc:conv g= .KI)(hg:∀x∈xs,fn ZM conv ext g [I x]=some (Bo (p x))) :
  fn ZM conv ext 77 [LI xs,.clo g []]=some (I (ix p xs)):=by
 have e2:(xs.length:Int)<=9223372036854775807:=by unfold maxLen at h;omega
 rw[mJ,nC [.tmp 4] [] func77];simp only[go_sem];generalize hL:iI _ _=y;obtain⟨r,rfl,hr⟩:=oZ hL xs.length (fun k st=>st.nx=0/\st.σ=pI/\st.T 0=LI xs/\st.T 1= .clo g []/\st.T 7=I xs.length/\st.T 8=I k/\∀i (h:i<xs.length),i<k->p xs[i]=false)
  (fun r=>(∃T,r=(.exit 0,⟨T,pI,0⟩)/\ix p xs= -1)\/(∃T,r=(.ret,⟨T,pI,0⟩)/\T 4=I (ix p xs))) (by
   clear hL;rintro k ⟨T,σ,nx⟩ E ⟨hn,G,S,J,O,Y,hi⟩;simp only at hn G S J O Y;subst hn G;have f1:(k:Int)<(xs.length:Int):=by omega
   have f2:=jF k;have f3:=ZU (n:=(k:Int)+1);have f4:(xs.flatMap cI)[k]?=some (I xs[k]):=cu I xs k E;have f9:=Ba xs k E;have f10:=hg xs[k] (zu E);cases hp:p xs[k]with
   |true=>
    rw[hp]at f10;refine .inr ⟨_,by simp only[go_sem,S,J,O,Y,f1,f2,f4,f9,f10,hc];rfl,by simp,.inr ⟨_,rfl,?_⟩⟩;simp only[go_sem];rw[kC E hi hp]
   |false=>
    rw[hp]at f10;refine .inl ⟨_,by simp only[go_sem,S,J,O,Y,f1,f2,f3,f4,f9,f10,hc];rfl,?_⟩;simp only[go_sem,S,J,O];exact⟨rfl,jv E hi hp⟩) (by
   clear hL;rintro ⟨T,σ,nx⟩ ⟨hn,G,S,J,O,Y,hi⟩;simp only at hn G S J O Y;subst hn G;exact⟨_,by simp only[go_sem,O,Y,zi];rfl,by simp,.inl ⟨_,rfl,jw fun i h=>hi i h h⟩⟩) (by
   simp only[go_sem];exact fun i _ h=>absurd h (zW _))
 rcases hr with ⟨T,rfl,J⟩|⟨T,rfl,J⟩
 .simp only[go_sem,J]
 .simp only[go_sem,J]
theorem KW{α:Type}(p:α->Bool)(xs:List α):ix p xs<0↔∀x∈xs,p x=false:=by
 unfold ix
 by_cases h:xs.findIdx p<xs.length
 .rw[sO h]
  refine⟨fun E=>absurd E (by omega),fun E=>?_⟩;have:=List.findIdx_eq_length.mpr E;omega
 .rw[sQ h]
  exact⟨fun _=>List.findIdx_eq_length.mp (Nat.le_antisymm (List.findIdx_le_length) (by omega)),fun _=>by omega⟩
theorem aeI(xs:List Member)(g:FuncId)(p:Member->Bool)(t:V)(h:xs.length<=maxLen)(hc:conv g= .KI)(G:strip pI 7 t=some (t,[]))(E:strip pI 6 t=some (t,[]))(J:∀x∈xs,fn ZM conv ext g [.agg (Ac x),t]=some (Bo (p x))) :
  fn ZM conv ext 119 [LL Ac xs,.clo g [t]]=some (Bo (decide (0<=ix p xs))):=by
 have O:=WS xs (.clo g [t]) g p t h hc G J;rw[mJ,nC [.tmp 4] [] func119];simp only[go_sem,O,G,E]
theorem aaL(xs:List Int)(g:FuncId)(p:Int->Bool)(h:xs.length<=maxLen)(hc:conv g= .KI)(E:∀x∈xs,fn ZM conv ext g [I x]=some (Bo (p x))) :
  fn ZM conv ext 82 [LI xs,.clo g []]=some (Bo (decide (0<=ix p xs))):=by
 have G:=indexInt xs (.clo g []) g p h hc E;rw[mJ,nC [.tmp 4] [] func82];simp only[go_sem,G]
noncomputable def pb(p:Prop):Bool:=@decide p (Classical.propDecidable p)
theorem iC{p:Prop}(h:p):pb p=true:=by unfold pb;exact(@decide_eq_true_iff p (Classical.propDecidable p)).mpr h
theorem iD{p:Prop}(h:¬p):pb p=false:=by unfold pb;exact(@decide_eq_false_iff_not p (Classical.propDecidable p)).mpr h
theorem QD{p:Prop}{b:Bool}(h:b=true↔p):b=pb p:=by
 cases b with
 |true=>exact(iC (h.mp rfl)).symm
 |false=>exact(iD (fun hp=>by cases h.mpr hp)).symm
theorem iy{p:Prop}(h:pb p=true):p:=by
 unfold pb at h;exact(@decide_eq_true_iff p (Classical.propDecidable p)).mp h
def inB(n a b:Int):Bool:=decide (a<=n) && decide (n<=b)
theorem II(n a b:Int):fn ZM conv ext 125 [I n,I a,I b]=some (Bo (inB n a b)):=by
 unfold inB;rw[mJ,nC [.tmp 6] [] func125]
 by_cases h:a<=n<;>simp only[go_sem,h]
theorem akM(n:Int):fn ZM conv ext 123 [I n]=some (Bo (inB n (-100) 100)):=by
 unfold inB;rw[mJ,nC [.tmp 2] [] func123]
 by_cases h:-100<=n<;>simp only[go_sem,h]
theorem ab8(n:Int):fn ZM conv ext 84 [I n]=some (Bo (inB n (0) 1000)):=by
 unfold inB;rw[mJ,nC [.tmp 2] [] func84]
 by_cases h:0<=n<;>simp only[go_sem,h]
theorem ab9(n:Int):fn ZM conv ext 157 [I n]=some (Bo (inB n (-50) 50)):=by
 unfold inB;rw[mJ,nC [.tmp 2] [] func157]
 by_cases h:-50<=n<;>simp only[go_sem,h]
def BJ(b:UInt8):Bool:=decide (97<=(b.toNat:Int)) && decide ((b.toNat:Int)<=122)
def Ew(b:UInt8):Bool:=decide (48<=(b.toNat:Int)) && decide ((b.toNat:Int)<=57)
theorem ag'(b:UInt8):fn ZM conv ext 78 [.sc (.int .u8 b.toNat)]=some (Bo (BJ b)):=by
 unfold BJ;rw[mJ,nC [.tmp 2] [] func78]
 by_cases h:97<=(b.toNat:Int)<;>simp only[go_sem,h]
theorem isDigit(b:UInt8):fn ZM conv ext 79 [.sc (.int .u8 b.toNat)]=some (Bo (Ew b)):=by
 unfold Ew;rw[mJ,nC [.tmp 2] [] func79]
 by_cases h:48<=(b.toNat:Int)<;>simp only[go_sem,h]
def EL(k:Nat)(b:UInt8):Prop:=BJ b=true\/(k≠0/\Ew b=true)
def DJ(s:ByteArray):Prop:=(∀k b,s[k]?=some b->EL k b)/\1<=s.size/\s.size<=8
theorem aha{s:ByteArray}{k:Nat}(h:k<s.size):∃b,s[k]?=some b:=⟨s[k],by simp[h]⟩
theorem Me{s:ByteArray}{k:Nat}{b:UInt8}(h:s[k]?=some b):k<s.size:=by
 by_cases E:k<s.size
 .exact E
 .simp[E]at h
theorem NQ{s:ByteArray}(h:∀i b,s[i]?=some b->EL i b):pb (DJ s)=inB s.size 1 8:=by
 unfold inB
 by_cases E:(1:Int)<=s.size
 .by_cases G:(s.size:Int)<=8
  .rw[iC ⟨h,by omega,by omega⟩,sJ E,sJ G];rfl
  .rw[iD (fun hn=>G (by have:=hn.2.2;omega)),sJ E,sH G];rfl
 .rw[iD (fun hn=>E (by have:=hn.2.1;omega)),sH E];rfl
theorem pV{s:ByteArray}{k:Nat}{b:UInt8}(hi:∀i b,i<k->s[i]?=some b->EL i b)(hb:s[k]?=some b)(h:EL k b):∀i b,i<k+1->s[i]?=some b->EL i b:=by
 intro i c E hc;rcases xJ (xA E)with G|G
 .exact hi i c G hc
 .subst G
  rw[hb]at hc;cases hc;exact h
theorem jB{k:Nat}{b:UInt8}(J:BJ b=false)(E:k=0\/Ew b=false):¬EL k b:=by
 rintro (h|⟨h,G⟩)
 .rw[J]at h;cases h
 .rcases E with E|E
  .exact h E
  .rw[E]at G;cases G
theorem jg{b:UInt8}(h:¬(97<=(b.toNat:Int))):BJ b=false:=by unfold BJ;rw[sH h];rfl
theorem NR{b:UInt8}(h:¬((b.toNat:Int)<=122)):BJ b=false:=by unfold BJ;rw[sH h,wY]
theorem aeJ{b:UInt8}(h:(b.toNat:Int)<48):Ew b=false:=by unfold Ew;rw[sH (by omega)];rfl
theorem QE{b:UInt8}(h:57<(b.toNat:Int)):Ew b=false:=by unfold Ew;rw[sH (p:=(b.toNat:Int)<=57) (by omega),wY]
theorem aeK{b:UInt8}(h:¬(b.toNat:Int)<48)(E:¬57<(b.toNat:Int)):Ew b=true:=by unfold Ew;rw[sJ (by omega),sJ (by omega)];rfl
theorem akN(s:ByteArray)(hs:okS s):fn ZM conv ext 87 [Sg s]=some (Bo (pb (DJ s))):=by
 have e2:(s.size:Int)<=9223372036854775807:=by unfold okS at hs;omega
 rw[mJ,nC [.tmp 2] [] func87];simp only[go_sem];generalize Y:iI _ _=y;obtain⟨r,rfl,hr⟩:=oZ Y s.size (fun k st=>st.nx=0/\st.σ=pI/\st.T 0=Sg s/\st.T 3=I k/\∀i b,i<k->s[i]?=some b->EL i b)
  (fun r=>(∃T,r=(.exit 0,⟨T,pI,0⟩)/\T 0=Sg s/\∀i b,s[i]?=some b->EL i b)\/(∃T,r=(.ret,⟨T,pI,0⟩)/\T 2=Bo false/\¬DJ s)) (by
   clear Y;rintro k ⟨T,σ,nx⟩ a1 ⟨hn,G,E,J,hi⟩;simp only at hn G E J;subst hn G;have f1:(k:Int)<(s.size:Int):=by omega
   have f2:=jF k;have f3:=ZU (n:=(k:Int)+1);obtain⟨b,f4⟩:=aha a1;have no:¬EL k b->¬DJ s:=fun h hn=>h (hn.1 k b f4)
   by_cases c1:97<=(b.toNat:Int)
   .by_cases S:(b.toNat:Int)<=122
    .refine .inl ⟨_,by simp only[go_sem,E,J,f1,f2,f3,f4,c1,S];rfl,?_⟩
     simp only[go_sem,E];exact⟨rfl,pV hi f4 (.inl (by unfold BJ;rw[sJ c1,sJ S];rfl))⟩
    .have d1:¬(b.toNat:Int)<48:=by omega
     have d2:57<(b.toNat:Int):=by omega
     by_cases O:k=0
     .have f0:((k:Int)==0)=true:=by subst O;rfl
      exact .inr ⟨_,by simp only[go_sem,E,J,f1,f2,f4,c1,S,f0];rfl,by simp,.inr ⟨_,rfl,by simp only[go_sem],no (jB (NR S) (.inl O))⟩⟩
     .have f0:((k:Int)==0)=false:=by simpa using O
      exact .inr ⟨_,by simp only[go_sem,E,J,f1,f2,f4,c1,S,f0,d1,d2];rfl,by simp,.inr ⟨_,rfl,by simp only[go_sem],no (jB (NR S) (.inr (QE d2)))⟩⟩
   .by_cases O:k=0
    .have f0:((k:Int)==0)=true:=by subst O;rfl
     exact .inr ⟨_,by simp only[go_sem,E,J,f1,f2,f4,c1,f0];rfl,by simp,.inr ⟨_,rfl,by simp only[go_sem],no (jB (jg c1) (.inl O))⟩⟩
    .have f0:((k:Int)==0)=false:=by simpa using O
     by_cases d1:(b.toNat:Int)<48
     .exact .inr ⟨_,by simp only[go_sem,E,J,f1,f2,f4,c1,f0,d1];rfl,by simp,.inr ⟨_,rfl,by simp only[go_sem],no (jB (jg c1) (.inr (aeJ d1)))⟩⟩
     .by_cases d2:57<(b.toNat:Int)
      .exact .inr ⟨_,by simp only[go_sem,E,J,f1,f2,f4,c1,f0,d1,d2];rfl,by simp,.inr ⟨_,rfl,by simp only[go_sem],no (jB (jg c1) (.inr (QE d2)))⟩⟩
      .refine .inl ⟨_,by simp only[go_sem,E,J,f1,f2,f3,f4,c1,f0,d1,d2];rfl,?_⟩
       simp only[go_sem,E];exact⟨rfl,pV hi f4 (.inr ⟨O,aeK d1 d2⟩)⟩) (by
   clear Y;rintro ⟨T,σ,nx⟩ ⟨hn,G,E,J,hi⟩;simp only at hn G E J;subst hn G;refine⟨_,by simp only[go_sem,E,J,zi];rfl,by simp,.inl ⟨_,rfl,?_,fun i b h=>hi i b (Me h) h⟩⟩;simp only[go_sem,E]) (by
   simp only[go_sem];exact fun i b h=>absurd h (zW _))
 rcases hr with ⟨T,rfl,E,h1⟩|⟨T,rfl,E,h1⟩
 .have:=II s.size 1 8
  simp only[go_sem,E,NQ h1,this]
 .simp only[go_sem,E,iD h1]
theorem toList_empty(s:ByteArray):(s.toList==({ data:=#[] }:ByteArray).toList)=decide (s.size=0):=by
 have e:(s.toList=[])=(s.size=0):=by
  rw[ByteArray.toList_eq];refine propext ⟨fun h=>?_,fun h=>zZ (by rw[yK];exact h)⟩;have:=congrArg List.length h;rw[yK]at this;exact this
 have E:({ data:=#[] }:ByteArray).toList=[]:=ByteArray.toList_mk [];rw[E]
 by_cases h:s.size=0
 .rw[e.mpr h,sJ h];rfl
 .rw[sH h]
  cases G:s.toList with
  |nil=>exact absurd (e.mp G) h
  |cons a l=>rfl
theorem Tj(s:ByteArray)(hs:okS s):fn ZM conv ext 46 [Sg s]=some (Bo (pb (DJ s))):=by
 have e2:(s.size:Int)<=9223372036854775807:=by unfold okS at hs;omega
 rw[mJ,nC [.tmp 2] [] func46];simp only[go_sem];generalize hL:iI _ _=y;obtain⟨r,rfl,hr⟩:=oZ hL s.size (fun k st=>st.nx=0/\st.σ=pI/\st.T 0=Sg s/\st.T 5=I s.size/\st.T 6=I k/\∀i b,i<k->s[i]?=some b->EL i b)
  (fun r=>(∃T,r=(.exit 0,⟨T,pI,0⟩)/\T 0=Sg s/\∀i b,s[i]?=some b->EL i b)\/(∃T,r=(.ret,⟨T,pI,0⟩)/\T 2=Bo false/\¬DJ s)) (by
   clear hL;rintro k ⟨T,σ,nx⟩ a1 ⟨hn,G,E,J,O,hi⟩;simp only at hn G E J O;subst hn G;have f1:(k:Int)<(s.size:Int):=by omega
   have f2:=jF k;have f3:=ZU (n:=(k:Int)+1);obtain⟨b,f4⟩:=aha a1;have no:¬EL k b->¬DJ s:=fun h hn=>h (hn.1 k b f4)
   have g1:=ag' b;have g2:=isDigit b;cases Y:BJ b with
   |true=>
    rw[Y]at g1;refine .inl ⟨_,by simp only[go_sem,E,O,J,f1,f2,f3,f4,g1];rfl,?_⟩;simp only[go_sem,E,J];exact⟨rfl,pV hi f4 (.inl Y)⟩
   |false=>
    rw[Y]at g1
    by_cases S:k=0
    .have f0:((k:Int)==0)=true:=by subst S;rfl
     exact .inr ⟨_,by simp only[go_sem,E,O,J,f1,f2,f4,g1,f0];rfl,by simp,.inr ⟨_,rfl,by simp only[go_sem],no (jB Y (.inl S))⟩⟩
    .have f0:((k:Int)==0)=false:=by simpa using S
     cases hd:Ew b with
     |true=>
      rw[hd]at g2;refine .inl ⟨_,by simp only[go_sem,E,O,J,f1,f2,f3,f4,g1,g2,f0];rfl,?_⟩;simp only[go_sem,E,J];exact⟨rfl,pV hi f4 (.inr ⟨S,hd⟩)⟩
     |false=>
      rw[hd]at g2;exact .inr ⟨_,by simp only[go_sem,E,O,J,f1,f2,f4,g1,g2,f0];rfl,by simp,.inr ⟨_,rfl,by simp only[go_sem],no (jB Y (.inr hd))⟩⟩) (by
   clear hL;rintro ⟨T,σ,nx⟩ ⟨hn,G,E,J,O,hi⟩;simp only at hn G E J O;subst hn G;refine⟨_,by simp only[go_sem,E,O,J,zi];rfl,by simp,.inl ⟨_,rfl,?_,fun i b h=>hi i b (Me h) h⟩⟩;simp only[go_sem,E]) (by
   simp only[go_sem];exact fun i b h=>absurd h (zW _))
 rcases hr with ⟨T,rfl,E,h1⟩|⟨T,rfl,E,h1⟩
 .have he:=toList_empty s
  rw[NQ h1];unfold inB
  by_cases S:s.size=0
  .have:¬(1:Int)<=s.size:=by omega
   rw[sJ S]at he;simp only[go_sem,E,this,he]
  .have:(1:Int)<=s.size:=by omega
   rw[sH S]at he;simp only[go_sem,E,this,he]
 .simp only[go_sem,E,iD h1]
noncomputable def Ed(j:Dn):Bool:=pb (DJ j.name) && (inB j.x (-50) 50 && inB j.y (-50) 50)
theorem ahb(j:Dn)(h:S_ j):fn ZM conv ext 161 [.agg (Af j)]=some (Bo (Ed j)):=by
 have t1:=akN j.name h.1;have t2:=II j.x (-50) 50;have t3:=II j.y (-50) 50;unfold Ed;generalize pb (DJ j.name)=b1 at *;generalize inB j.x (-50) 50=E at *;generalize inB j.y (-50) 50=G at *;rw[mJ,nC [.tmp 2] [] func161];cases b1<;>cases E<;>simp only[go_sem,t1,t2,t3]
theorem ahc(j:Dn)(h:S_ j):fn ZM conv ext 117 [.agg (Af j)]=some (Bo (Ed j)):=by
 have t1:=Tj j.name h.1;have t2:=ab9 j.x;have t3:=ab9 j.y;unfold Ed;generalize pb (DJ j.name)=b1 at *;generalize inB j.x (-50) 50=E at *;generalize inB j.y (-50) 50=G at *;rw[mJ,nC [.tmp 2] [] func117];cases b1<;>cases E<;>simp only[go_sem,t1,t2,t3]
abbrev isNamed(name:ByteArray)(s:CP):Bool:=s.name.toList==name.toList
abbrev Bc(name:ByteArray)(s:Dn):Bool:=s.name.toList==name.toList
theorem JY(name:ByteArray)(s:CP):fn ZM conv ext 45 [.agg (Az s),.tp [Sg name] 0]=some (Bo (isNamed name s)):=by
 rw[mJ,nC [.tmp 3] [] func45];simp only[go_sem]
theorem IJ(y:BZ)(name:ByteArray)(h:y.aI.length<=maxLen):fn ZM conv ext 20 [.agg (Cj y),Sg name]=some (I (ix (isNamed name) y.aI)):=by
 have E:=WR y.aI (.tp [Sg name] 0) 45 (isNamed name) (.tp [Sg name] 0) h (by rfl) (by rfl) (fun x _=>JY name x);rw[mJ,nC [.tmp 4] [] func20];simp only[go_sem,E]
theorem LU(name:ByteArray)(s:Dn):fn ZM conv ext 159 [.agg (Af s),.tp [Sg name] 0]=some (Bo (Bc name s)):=by
 rw[mJ,nC [.tmp 3] [] func159];simp only[go_sem]
theorem WT(y:Structure)(name:ByteArray)(h:y.bI.length<=maxLen):fn ZM conv ext 118 [.agg (jI y),Sg name]=some (I (ix (Bc name) y.bI)):=by
 have E:=aaK y.bI (.tp [Sg name] 0) 159 (Bc name) (.tp [Sg name] 0) h (by rfl) (by rfl) (fun x _=>LU name x);rw[mJ,nC [.tmp 4] [] func118];simp only[go_sem,E]
theorem WU(y:Structure)(name:ByteArray)(h:y.bI.length<=maxLen):fn ZM conv ext 162 [.agg (jI y),Sg name]=some (I (ix (Bc name) y.bI)):=by
 have e2:(y.bI.length:Int)<=9223372036854775807:=by unfold maxLen at h;omega
 rw[mJ,nC [.tmp 4] [] func162];simp only[go_sem];generalize Y:iI _ _=z;generalize a1:y.bI=xs at *;obtain⟨r,rfl,hr⟩:=oZ Y xs.length (fun k st=>st.T 1=Sg name/\st.T 8=LL Af xs/\st.T 9=I xs.length/\st.T 10=I k/\∀i (h:i<xs.length),i<k->Bc name xs[i]=false)
  (fun r=>(∃st,r=(.exit 0,st)/\ix (Bc name) xs= -1)\/(∃st,r=(.ret,st)/\st.T 4=I (ix (Bc name) xs))) (by
   clear Y;rintro k ⟨T,σ,nx⟩ J ⟨G,S,O,E,hi⟩;simp only at G S O E;have f1:(k:Int)<(xs.length:Int):=by omega
   have f2:=jF k;have f3:=ZU (n:=(k:Int)+1);have f4:=JX xs k J;have f5:=Gu xs;have f6:k*4+4<=xs.length*4:=by omega
   have f9:=PX xs k J;cases hp:Bc name xs[k]with
   |true=>
    refine .inr ⟨_,by simp only[go_sem,G,S,O,E,f1,f2,f4,f5,f6,f9,hp];rfl,by simp,.inr ⟨_,rfl,?_⟩⟩;simp only[go_sem];rw[kC J hi hp]
   |false=>
    refine .inl ⟨_,by simp only[go_sem,G,S,O,E,f1,f2,f3,f4,f5,f6,f9,hp];rfl,?_⟩;simp only[go_sem,G,S,O];exact⟨rfl,jv J hi hp⟩) (by
   clear Y;rintro ⟨T,σ,nx⟩ ⟨G,S,O,E,hi⟩;simp only at G S O E;exact⟨_,by simp only[go_sem,O,E,zi];rfl,by simp,.inl ⟨_,rfl,jw fun i h=>hi i h h⟩⟩) (by
   simp only[go_sem];exact fun i _ h=>absurd h (zW _))
 rcases hr with ⟨⟨T,σ,nx⟩,rfl,G⟩|⟨⟨T,σ,nx⟩,rfl,G⟩
 .simp only[go_sem,G]
 .simp only at G
  simp only[go_sem,G]
def KX(a b:Dn):Bool:=(!(a.x==b.x)|| !(a.y==b.y)) && !(a.fixed && b.fixed)
def DK(n:Nat)(m:Member):Prop:=0<=m.a/\m.a<n/\0<=m.b/\m.b<n/\1<=m.kind/\m.kind<=3
noncomputable def NS(js:List Dn)(m:Member):Bool:=pb (DK js.length m/\∀a b,js[m.a.toNat]?=some a->js[m.b.toNat]?=some b->KX a b=true)
theorem jM{js:List Dn}{m:Member}(h:¬DK js.length m):NS js m=false:=iD fun hn=>h hn.1
theorem JZ{js:List Dn}{m:Member}(h:DK js.length m){a b:Dn}(ha:js[m.a.toNat]?=some a)(hb:js[m.b.toNat]?=some b):NS js m=KX a b:=by
 refine(QD ⟨fun hp=>⟨h,fun c d hc E=>?_⟩,fun hn=>hn.2 a b ha hb⟩).symm;rw[ha]at hc;rw[hb]at E;cases hc;cases E;exact hp
set_option maxRecDepth 100000 in
theorem aeL(row:List V)(off:Nat)(js:List Dn)(m:Member)(E:row[off]?=some (LL Af js))(hl:js.length<=maxLen):fn ZM conv ext 121 [.tp row off,.agg (Ac m)]=some (Bo (NS js m)):=by
 rw[mJ,nC [.tmp 4] [4] func121]
 by_cases c1:m.a<0
 .rw[jM (fun h=>by have:=h.1;omega)]
  simp only[go_sem,E,c1]
 by_cases G:(js.length:Int)<=m.a
 .rw[jM (fun h=>by have:=h.2.1;omega)]
  simp only[go_sem,E,c1,G]
 by_cases J:m.b<0
 .rw[jM (fun h=>by have:=h.2.2.1;omega)]
  simp only[go_sem,E,c1,G,J]
 by_cases O:(js.length:Int)<=m.b
 .rw[jM (fun h=>by have:=h.2.2.2.1;omega)]
  simp only[go_sem,E,c1,G,J,O]
 by_cases S:m.kind<1
 .rw[jM (fun h=>by have:=h.2.2.2.2.1;omega)]
  simp only[go_sem,E,c1,G,J,O,S]
 by_cases Y:3<m.kind
 .rw[jM (fun h=>by have:=h.2.2.2.2.2;omega)]
  simp only[go_sem,E,c1,G,J,O,S,Y]
 have a1:0<=m.a:=by omega
 have a2:m.a<js.length:=by omega
 have b1:0<=m.b:=by omega
 have b2:m.b<js.length:=by omega
 have a3:m.a.toNat<js.length:=by omega
 have b3:m.b.toNat<js.length:=by omega
 rw[JZ ⟨a1,a2,b1,b2,by omega,by omega⟩ (zy a3) (zy b3)];have f4:=JX js _ a3;have g4:=JX js _ b3;have f5:=Gu js;have f6:m.a.toNat *4+4<=js.length*4:=by omega
 have g6:m.b.toNat *4+4<=js.length*4:=by omega
 have f9:=PX js _ a3;generalize js[m.a.toNat]=a at *;generalize js[m.b.toNat]=b at *;unfold KX;cases hx:(a.x==b.x)<;>cases hy:(a.y==b.y)<;>cases ha:a.fixed<;>cases hb:b.fixed<;>
  (simp only[go_sem,E,c1,G,J,O,S,Y,a1,a2,b1,b2,f4,g4,f5,f6,g6,f9,hx,hy,ha,hb,bne])<;>rfl
def Bf(s:Structure):Prop:=s.bI.length<=6/\s.members.length<=8/\(∀i (h:i<s.bI.length),Ed s.bI[i]=true/\ix (Bc s.bI[i].name) s.bI=i)/\∀m∈s.members,NS s.bI m=true
theorem J3(s:Structure)(m:Member)(E:s.bI.length<=maxLen):fn ZM conv ext 120 [.agg (Ac m),.tp (jI s) 0]=some (Bo (!NS s.bI m)):=by
 have G:=aeL (jI s) 0 s.bI m rfl E;rw[mJ,nC [.tmp 3] [] func120];simp only[go_sem,G]
theorem IK(s:Structure)(h:Aj s):fn ZM conv ext 80 [.agg (jI s)]=some (Bo (pb (Bf s))):=by
 have e2:(s.bI.length:Int)<=9223372036854775807:=by have:=h.1.2.1;omega
 have hm:=aeI s.members 120 (fun m=> !NS s.bI m) (.tp (jI s) 0) h.2.2.2 (by rfl) (by rfl) (by rfl) (fun x _=>J3 s x h.1.2.2);rw[mJ,nC [.tmp 2] [] func80]
 by_cases c1:(6:Int)<s.bI.length
 .rw[iD (fun hn=>by have:=hn.1;omega)]
  simp only[go_sem,c1]
 by_cases c2:(8:Int)<s.members.length
 .rw[iD (fun hn=>by have:=hn.2.1;omega)]
  simp only[go_sem,c1,c2]
 simp only[go_sem,c1,c2];generalize hL:iI _ _=y;obtain⟨r,rfl,hr⟩:=oZ hL s.bI.length (fun k st=>0<st.nx/\st.σ 0=some ⟨jI s,0,true⟩/\st.T 1= .rp 0 0/\st.T 16=LL Af s.bI/\st.T 17=I s.bI.length/\st.T 18=I k/\∀i (h:i<s.bI.length),i<k->Ed s.bI[i]=true/\ix (Bc s.bI[i].name) s.bI=i)
  (fun r=>(∃T σ nx,r=(.exit 0,⟨T,σ,nx⟩)/\σ 0=some ⟨jI s,0,true⟩/\T 1= .rp 0 0/\∀i (h:i<s.bI.length),Ed s.bI[i]=true/\ix (Bc s.bI[i].name) s.bI=i)\/(∃T σ nx,r=(.ret,⟨T,σ,nx⟩)/\T 2=Bo false/\¬Bf s)) (by
   clear hL;rintro k ⟨T,σ,nx⟩ S ⟨hn,E,Y,J,G,O,hi⟩;simp only at hn E Y J G O;have f1:(k:Int)<(s.bI.length:Int):=by omega
   have f2:=jF k;have f3:=ZU (n:=(k:Int)+1);have f4:=JX s.bI k S;have f5:=Gu s.bI;have f6:k*4+4<=s.bI.length*4:=by omega
   have f9:=PX s.bI k S;have t1:=ahc s.bI[k] (h.1.1 _ (zu S));have t2:=WT s s.bI[k].name h.1.2.2;have nz:¬0=nx:=by omega
   cases hj:Ed s.bI[k]with
   |false=>
    rw[hj]at t1;refine .inr ⟨_,by simp only[go_sem,Y,J,G,O,f1,f2,f4,f5,f6,f9,t1,nz];rfl,by simp,.inr ⟨_,_,_,rfl,?_,fun hn=>?_⟩⟩
    .simp only[go_sem]
    .have:=(hn.2.2.1 k S).1
     rw[hj]at this;cases this
   |true=>
    rw[hj]at t1
    by_cases hk:ix (Bc s.bI[k].name) s.bI=k
    .rw[hk]at t2
     refine .inl ⟨_,by simp only[go_sem,Y,J,G,O,E,f1,f2,f3,f4,f5,f6,f9,t1,t2,nz];rfl,?_⟩;simp only[go_sem,Y,J,G,E,nz];refine⟨by omega,rfl,fun i a1 a6=>?_⟩;rcases xJ (xA a6)with q|q
     .exact hi i a1 q
     .subst q;exact⟨hj,hk⟩
    .have a7:(ix (Bc s.bI[k].name) s.bI !=(k:Int))=true:=by simpa using hk
     refine .inr ⟨_,by simp only[go_sem,Y,J,G,O,E,f1,f2,f4,f5,f6,f9,t1,t2,a7,nz];rfl,by simp,.inr ⟨_,_,_,rfl,?_,fun hn=>hk (hn.2.2.1 k S).2⟩⟩;simp only[go_sem]) (by
   clear hL;rintro ⟨T,σ,nx⟩ ⟨hn,E,Y,J,G,O,hi⟩;simp only at hn E Y J G O;exact⟨_,by simp only[go_sem,G,O,zi];rfl,by simp,.inl ⟨_,_,_,rfl,E,by simp only[go_sem,Y],fun i h=>hi i h h⟩⟩) (by
   simp only[go_sem];exact fun i _ h=>absurd h (zW _))
 rcases hr with ⟨T,σ,nx,rfl,E,Y,hj⟩|⟨T,σ,nx,rfl,h2,hn⟩
 .have:pb (Bf s)= !decide (0<=ix (fun m=> !NS s.bI m) s.members):=by
   refine(QD ?_).symm;rw[vT,decide_eq_false_iff_not,Int.not_le,KW];exact⟨fun hq=>⟨by omega,by omega,hj,fun m hm=>by simpa using hq m hm⟩,fun hq m hm=>by simp[hq.2.2.2 m hm]⟩
  rw[this];simp only[go_sem,E,Y,hm]
 .simp only[go_sem,h2,iD hn]
theorem kL{n a b:Int}(h:inB n a b=false):¬(a<=n/\n<=b):=by
 unfold inB at h;intro hn;rw[sJ hn.1,sJ hn.2]at h;cases h
theorem kK{n a b:Int}(h:inB n a b=true):a<=n/\n<=b:=by
 unfold inB at h;rw[zM,decide_eq_true_eq,decide_eq_true_eq]at h;exact h
theorem IL(s:Structure)(h:Aj s):fn ZM conv ext 126 [.agg (jI s)]=some (Bo (pb (Bf s))):=by
 have e2:(s.bI.length:Int)<=9223372036854775807:=by have:=h.1.2.1;omega
 have e3:(s.members.length:Int)<=9223372036854775807:=by have:=h.2.2.1;omega
 rw[mJ,nC [.tmp 2] [] func126]
 by_cases c1:(6:Int)<s.bI.length
 .rw[iD (fun hn=>by have:=hn.1;omega)]
  simp only[go_sem,c1]
 by_cases c2:(8:Int)<s.members.length
 .rw[iD (fun hn=>by have:=hn.2.1;omega)]
  simp only[go_sem,c1,c2]
 simp only[go_sem,c1,c2];generalize hL:iI _ _=y;obtain⟨r,rfl,hr⟩:=oZ hL s.bI.length (fun k st=>0<st.nx/\st.σ 0=some ⟨jI s,0,true⟩/\st.T 1= .rp 0 0/\st.T 21=LL Af s.bI/\st.T 22=I s.bI.length/\st.T 23=I k/\∀i (h:i<s.bI.length),i<k->Ed s.bI[i]=true/\ix (Bc s.bI[i].name) s.bI=i)
  (fun r=>(∃T σ nx,r=(.exit 0,⟨T,σ,nx⟩)/\0<nx/\σ 0=some ⟨jI s,0,true⟩/\T 1= .rp 0 0/\∀i (h:i<s.bI.length),Ed s.bI[i]=true/\ix (Bc s.bI[i].name) s.bI=i)\/(∃T σ nx,r=(.ret,⟨T,σ,nx⟩)/\T 2=Bo false/\¬Bf s)) (by
   clear hL;rintro k ⟨T,σ,nx⟩ O ⟨hn,E,G,a7,Y,a8,hi⟩;simp only at hn E G a7 Y a8;have f1:(k:Int)<(s.bI.length:Int):=by omega
   have f2:=jF k;have f3:=ZU (n:=(k:Int)+1);have f4:=JX s.bI k O;have f5:=Gu s.bI;have f6:k*4+4<=s.bI.length*4:=by omega
   have f9:=PX s.bI k O;have t1:=ahb s.bI[k] (h.1.1 _ (zu O));have t2:=WU s s.bI[k].name h.1.2.2;have nz:¬0=nx:=by omega
   cases hj:Ed s.bI[k]with
   |false=>
    rw[hj]at t1;refine .inr ⟨_,by simp only[go_sem,G,a7,Y,a8,f1,f2,f4,f5,f6,f9,t1,nz];rfl,by simp,.inr ⟨_,_,_,rfl,?_,fun hn=>?_⟩⟩
    .simp only[go_sem]
    .have:=(hn.2.2.1 k O).1
     rw[hj]at this;cases this
   |true=>
    rw[hj]at t1
    by_cases hk:ix (Bc s.bI[k].name) s.bI=k
    .rw[hk]at t2
     refine .inl ⟨_,by simp only[go_sem,G,a7,Y,a8,E,f1,f2,f3,f4,f5,f6,f9,t1,t2,nz];rfl,?_⟩;simp only[go_sem,G,a7,Y,E,nz];refine⟨by omega,rfl,fun i b4 b5=>?_⟩;rcases xJ (xA b5)with q|q
     .exact hi i b4 q
     .subst q;exact⟨hj,hk⟩
    .have b9:(ix (Bc s.bI[k].name) s.bI !=(k:Int))=true:=by simpa using hk
     refine .inr ⟨_,by simp only[go_sem,G,a7,Y,a8,E,f1,f2,f4,f5,f6,f9,t1,t2,b9,nz];rfl,by simp,.inr ⟨_,_,_,rfl,?_,fun hn=>hk (hn.2.2.1 k O).2⟩⟩;simp only[go_sem]) (by
   clear hL;rintro ⟨T,σ,nx⟩ ⟨hn,E,G,a7,Y,a8,hi⟩;simp only at hn E G a7 Y a8;exact⟨_,by simp only[go_sem,Y,a8,zi];rfl,by simp,.inl ⟨_,_,_,rfl,hn,E,by simp only[go_sem,G],fun i h=>hi i h h⟩⟩) (by
   simp only[go_sem];exact fun i _ h=>absurd h (zW _))
 rcases hr with ⟨T,σ,nx,rfl,c0,E,G,hj⟩|⟨T,σ,nx,rfl,h2,hn⟩
 .clear hL
  have e4:=ZU (n:=(s.bI.length:Int) - 1);simp only[go_sem,E,G,e4];generalize hL:iI _ _=y;obtain⟨r,rfl,hr⟩:=oZ hL s.members.length (fun k st=>0<st.nx/\st.σ 0=some ⟨jI s,0,true⟩/\st.T 1= .rp 0 0/\st.T 5=I ((s.bI.length:Int) - 1)/\st.T 45=LL Ac s.members/\st.T 46=I s.members.length/\st.T 47=I k/\∀i (h:i<s.members.length),i<k->NS s.bI s.members[i]=true)
   (fun r=>(∃T σ nx,r=(.exit 2,⟨T,σ,nx⟩)/\∀i (h:i<s.members.length),NS s.bI s.members[i]=true)\/(∃T σ nx,r=(.ret,⟨T,σ,nx⟩)/\T 2=Bo false/\¬Bf s)) (by
    clear hL;rintro k ⟨T,σ,nx⟩ O ⟨hn,E,G,h5,a6,J,S,hi⟩;simp only at hn E G h5 a6 J S;have f1:(k:Int)<(s.members.length:Int):=by omega
    have f2:=jF k;have f3:=ZU (n:=(k:Int)+1);have f4:=Tf s.members k O;have f5:=IG s.members;have f6:k*3+3<=s.members.length*3:=by omega
    have f9:=Ti s.members k O;have no:NS s.bI s.members[k]=false->¬Bf s:=fun hb hn=>by
     rw[hn.2.2.2 _ (zu O)]at hb;cases hb
    obtain⟨m,b8⟩:∃m,m=s.members[k]:=⟨_,rfl⟩;rw[<- b8]at f4 no;have t1:=II m.a 0 ((s.bI.length:Int) - 1);have t2:=II m.b 0 ((s.bI.length:Int) - 1);have t3:=II m.kind 1 3;have nz:¬0=nx:=by omega
    cases ha:inB m.a 0 ((s.bI.length:Int) - 1)with
    |false=>
     rw[ha]at t1;refine .inr ⟨_,by simp only[go_sem,G,h5,a6,J,S,E,f1,f2,f4,f5,f6,f9,t1,nz];rfl,by simp,.inr ⟨_,_,_,rfl,by simp only[go_sem],no (jM fun hm=>?_)⟩⟩;exact kL ha ⟨hm.1,by have:=hm.2.1;omega⟩
    |true=>
    rw[ha]at t1;cases hb:inB m.b 0 ((s.bI.length:Int) - 1)with
    |false=>
     rw[hb]at t2;refine .inr ⟨_,by simp only[go_sem,G,h5,a6,J,S,E,f1,f2,f4,f5,f6,f9,t1,t2,nz];rfl,by simp,.inr ⟨_,_,_,rfl,by simp only[go_sem],no (jM fun hm=>?_)⟩⟩;exact kL hb ⟨hm.2.2.1,by have:=hm.2.2.2.1;omega⟩
    |true=>
    rw[hb]at t2;cases hc:inB m.kind 1 3 with
    |false=>
     rw[hc]at t3;refine .inr ⟨_,by simp only[go_sem,G,h5,a6,J,S,E,f1,f2,f4,f5,f6,f9,t1,t2,t3,nz];rfl,by simp,.inr ⟨_,_,_,rfl,by simp only[go_sem],no (jM fun hm=>?_)⟩⟩;exact kL hc ⟨hm.2.2.2.2.1,hm.2.2.2.2.2⟩
    |true=>
    rw[hc]at t3;have qa:=kK ha;have qb:=kK hb;have qc:=kK hc;have a1:0<=m.a:=qa.1;have a2:m.a<s.bI.length:=by omega
    have b1:0<=m.b:=qb.1;have b2:m.b<s.bI.length:=by omega
    have a3:m.a.toNat<s.bI.length:=by omega
    have b3:m.b.toNat<s.bI.length:=by omega
    have hp:=JZ ⟨a1,a2,b1,b2,qc.1,qc.2⟩ (zy a3) (zy b3);have k4:=JX s.bI _ a3;have g4:=JX s.bI _ b3;have k5:=Gu s.bI;have k6:m.a.toNat *4+4<=s.bI.length*4:=by omega
    have g6:m.b.toNat *4+4<=s.bI.length*4:=by omega
    have k9:=PX s.bI _ a3;generalize s.bI[m.a.toNat]=a at *;generalize s.bI[m.b.toNat]=b at *;unfold KX at hp;have n1:¬nx=nx+1:=by omega
    have n2:¬nx=nx+1+1:=by omega
    have n3:¬nx+1=nx+1+1:=by omega
    have n4:¬0=nx+1:=by omega
    have n5:¬0=nx+1+1:=by omega
    cases hx:(a.x==b.x)<;>cases hy:(a.y==b.y)<;>cases b6:a.fixed<;>cases b7:b.fixed<;>simp only[hx,hy,b6,b7,vH,wE,Bool.or_true,Bool.true_or,Bool.or_false,uj,wY,xY,wM]at hp<;>
    first
    |(refine .inl ⟨_,by simp only[go_sem,G,h5,a6,J,S,E,f1,f2,f3,f4,f5,f6,f9,t1,t2,t3,nz,a1,a2,b1,b2,k4,g4,k5,k6,g6,k9,n1,n2,n3,n4,n5,hx,hy,b6,b7];rfl,?_⟩
      simp only[go_sem,G,h5,a6,J,E,nz,n4,n5];refine⟨by omega,rfl,fun i b4 b5=>?_⟩;rcases xJ (xA b5)with q|q
      .exact hi i b4 q
      .subst q;rw[<- b8];exact hp)
    |exact .inr ⟨_,by simp only[go_sem,G,h5,a6,J,S,E,f1,f2,f4,f5,f6,f9,t1,t2,t3,nz,a1,a2,b1,b2,k4,g4,k5,k6,g6,k9,n1,n2,n3,n4,n5,hx,hy,b6,b7];rfl,by simp,.inr ⟨_,_,_,rfl,by simp only[go_sem],no hp⟩⟩) (by
    clear hL;rintro ⟨T,σ,nx⟩ ⟨hn,E,G,h5,a6,J,S,hi⟩;simp only at hn E G J S;exact⟨_,by simp only[go_sem,J,S,zi];rfl,by simp,.inl ⟨_,_,_,rfl,fun i h=>hi i h h⟩⟩) (by
    simp only[go_sem,G,E];exact⟨c0,fun i _ h=>absurd h (zW _)⟩)
  rcases hr with ⟨T,σ,nx,rfl,hm⟩|⟨T,σ,nx,rfl,h2,hn⟩
  .have:Bf s:=⟨by omega,by omega,hj,fun m c3=>by obtain⟨i,hi,rfl⟩:=zA c3;exact hm i hi⟩
   simp only[go_sem,iC this]
  .simp only[go_sem,h2,iD hn]
 .simp only[go_sem,h2,iD hn]
def AQ(n:Nat)(l:List Int):Prop:=l.length=2*n/\∀x∈l,inB x (-100) 100=true
def Dx(n:Nat)(l:List Int):Prop:=l.length=n/\∀x∈l,inB x 0 1000=true
theorem PY(x:Int):fn ZM conv ext 122 [I x]=some (Bo (!inB x (-100) 100)):=by
 have E:=akM x;rw[mJ,nC [.tmp 2] [] func122];simp only[go_sem,E]
theorem LV(x:Int):fn ZM conv ext 83 [I x]=some (Bo (!inB x 0 1000)):=by
 have E:=ab8 x;rw[mJ,nC [.tmp 2] [] func83];simp only[go_sem,E]
theorem aeM(row:List V)(off:Nat)(js:List Dn)(l:List Int)(O:row[off]?=some (LL Af js))(hj:js.length<=140737488351232)(Y:l.length<=maxLen):fn ZM conv ext 81 [.tp row off,LI l]=some (Bo (pb (AQ js.length l))):=by
 have S:=ZU (n:=2*(js.length:Int));have h1:=aaL l 122 (fun x=> !inB x (-100) 100) Y (by rfl) (fun x _=>PY x);rw[mJ,nC [.tmp 4] [] func81]
 by_cases G:(l.length:Int)=2*(js.length:Int)
 .have E:((l.length:Int)==2*(js.length:Int))=true:=by simpa using G
  have:pb (AQ js.length l)= !decide (0<=ix (fun x=> !inB x (-100) 100) l):=by
   refine(QD ?_).symm;rw[vT,decide_eq_false_iff_not,Int.not_le,KW];exact⟨fun J=>⟨by omega,fun m hm=>by simpa using J m hm⟩,fun J m hm=>by simp[J.2 m hm]⟩
  rw[this];simp only[go_sem,O,S,h1,E]
 .have E:((l.length:Int)==2*(js.length:Int))=false:=by simpa using G
  rw[iD (fun hn=>G (by have:=hn.1;omega))];simp only[go_sem,O,S,E]
theorem KY(row:List V)(off:Nat)(ms:List Member)(l:List Int)(O:row[off+1]?=some (LL Ac ms))(S:l.length<=maxLen):fn ZM conv ext 48 [.tp row off,LI l]=some (Bo (pb (Dx ms.length l))):=by
 have Y:=aaL l 83 (fun x=> !inB x 0 1000) S (by rfl) (fun x _=>LV x);rw[mJ,nC [.tmp 4] [] func48]
 by_cases G:(l.length:Int)=(ms.length:Int)
 .have E:((l.length:Int)==(ms.length:Int))=true:=by simpa using G
  have:pb (Dx ms.length l)= !decide (0<=ix (fun x=> !inB x 0 1000) l):=by
   refine(QD ?_).symm;rw[vT,decide_eq_false_iff_not,Int.not_le,KW];exact⟨fun J=>⟨by omega,fun m hm=>by simpa using J m hm⟩,fun J m hm=>by simp[J.2 m hm]⟩
  rw[this];simp only[go_sem,O,Y,E]
 .have E:((l.length:Int)==(ms.length:Int))=false:=by simpa using G
  rw[iD (fun hn=>G (by have:=hn.1;omega))];simp only[go_sem,O,E]
theorem ab_(s:Structure)(l:List Int)(h:Aj s)(E:l.length<=maxLen):fn ZM conv ext 47 [.agg (jI s),LI l]=some (Bo (pb (Bf s) && pb (AQ s.bI.length l))):=by
 have G:=IK s h;have J:=aeM (jI s) 0 s.bI l rfl (by have:=h.1.2.1;omega) E;rw[mJ,nC [.tmp 4] [] func47];generalize pb (Bf s)=b at *;cases b<;>simp only[go_sem,G,J]
theorem akO(s:Structure)(l:List Int)(h:Aj s)(hl:l.length<=maxLen):fn ZM conv ext 88 [.agg (jI s),LI l]=some (Bo (pb (Bf s) && pb (AQ s.bI.length l))):=by
 have h1:=IL s h;have e2:(l.length:Int)<=9223372036854775807:=by unfold maxLen at hl;omega
 have e1:=ZU (n:=2*(s.bI.length:Int)) (by have:=h.1.2.1;have:=h.2.2.1;omega) (by have:=h.1.2.1;have:=h.2.2.1;omega);rw[mJ,nC [.tmp 4] [] func88];generalize pb (Bf s)=b at *;cases b with
 |false=>simp only[go_sem,h1]
 |true=>
 by_cases h2:(l.length:Int)=2*(s.bI.length:Int)
 .have S:((l.length:Int) !=2*(s.bI.length:Int))=false:=by simpa using h2
  simp only[go_sem,h1,e1,S];generalize hL:iI _ _=y;obtain⟨r,rfl,hr⟩:=oZ hL l.length (fun k st=>st.T 19=LI l/\st.T 20=I l.length/\st.T 21=I k/\∀i (h:i<l.length),i<k->inB l[i] (-100) 100=true)
   (fun r=>(∃T σ nx,r=(.exit 0,⟨T,σ,nx⟩)/\AQ s.bI.length l)\/(∃T σ nx,r=(.ret,⟨T,σ,nx⟩)/\T 4=Bo false/\¬AQ s.bI.length l)) (by
    clear hL;rintro k ⟨T,σ,nx⟩ Y ⟨G,E,J,hi⟩;simp only at G E J;have f1:(k:Int)<(l.length:Int):=by omega
    have f2:=jF k;have f3:=ZU (n:=(k:Int)+1);have f4:(l.flatMap cI)[k]?=some (I l[k]):=cu I l k Y;have f9:=Ba l k Y;have t1:=II l[k] (-100) 100;cases hb:inB l[k] (-100) 100 with
    |true=>
     rw[hb]at t1;refine .inl ⟨_,by simp only[go_sem,G,E,J,f1,f2,f3,f4,f9,t1];rfl,?_⟩;simp only[go_sem,G,E];refine⟨rfl,fun i O a1=>?_⟩;rcases xJ (xA a1)with q|q
     .exact hi i O q
     .subst q;exact hb
    |false=>
     rw[hb]at t1;refine .inr ⟨_,by simp only[go_sem,G,E,J,f1,f2,f4,f9,t1];rfl,by simp,.inr ⟨_,_,_,rfl,by simp only[go_sem],fun hn=>?_⟩⟩;have:=hn.2 _ (zu Y);rw[hb]at this;cases this) (by
    clear hL;rintro ⟨T,σ,nx⟩ ⟨G,E,J,hi⟩;simp only at G E J;exact⟨_,by simp only[go_sem,E,J,zi];rfl,by simp,.inl ⟨_,_,_,rfl,by omega,fun x hx=>by obtain⟨i,O,rfl⟩:=zA hx;exact hi i O O⟩⟩) (by
    simp only[go_sem];exact fun i _ h=>absurd h (zW _))
  rcases hr with ⟨T,σ,nx,rfl,hm⟩|⟨T,σ,nx,rfl,h2,hn⟩
  .simp only[go_sem,iC hm]
  .simp only[go_sem,h2,iD hn]
 .have S:((l.length:Int) !=2*(s.bI.length:Int))=true:=by simpa using h2
  rw[iD (p:=AQ s.bI.length l) (fun hn=>h2 (by have:=hn.1;omega))];simp only[go_sem,h1,e1,S]
noncomputable def Dy(t:CP):Bool:=pb (DJ t.name) && ((pb (Bf t.st) && pb (AQ t.st.bI.length t.load)) && pb (Dx t.st.members.length t.limits))
theorem kP(t:CP)(h:FZ t):fn ZM conv ext 21 [.agg (Az t)]=some (Bo (Dy t)):=by
 have E:=Tj t.name h.1;have G:=ab_ t.st t.load h.2.1 h.2.2.1.2.2;have J:=KY (Az t) 1 t.st.members t.limits rfl h.2.2.2.2.2;unfold Dy;generalize pb (DJ t.name)=b1 at *;generalize (pb (Bf t.st) && pb (AQ t.st.bI.length t.load))=O at *;rw[mJ,nC [.tmp 2] [] func21];cases b1<;>cases O<;>simp only[go_sem,E,G,J]
set_option maxRecDepth 100000 in
theorem akP(x y:Operand)(a b c d:Int):Am ZM .eql 77 x y (.agg [I a,I b]) (.agg [I c,I d])=some (Bo ((a==c) && (b==d))):=by
 refine aaD (us:=[.int .i64 a,.int .i64 b]) (vs:=[.int .i64 c,.int .i64 d]) (by kernel_rfl) Tryz.underlying77 (by kernel_rfl) rfl rfl ?_;refine(o8 (a:=.int .i64 a) (b:=.int .i64 c) (r:=a==c) (by decide) (by kernel_rfl) (by kernel_rfl) (oC _ _ _ _ _ _ Tryz.underlying3)).trans ?_;cases (a==c)
 .rfl
 .refine(o8 (a:=.int .i64 b) (b:=.int .i64 d) (r:=b==d) (by decide) (by kernel_rfl) (by kernel_rfl) (oC _ _ _ _ _ _ Tryz.underlying3)).trans ?_
  cases (b==d)<;>rfl
attribute [go_sem] akP
def DL(m o:TV.Move):Bool:=(m.fr==o.fr) && (m.to==o.to)
def akQ:=d_ (c:=Dp) (s:=2) (fun _=>rfl)
def acd:=bg (c:=Dp) (s:=2) (fun _=>rfl) (by omega)
def ace:=bZ (c:=Dp) (s:=2) (fun _=>rfl)
theorem QF(xs:List TV.Move)(m:TV.Move)(h:xs.length<=maxLen):fn ZM conv ext 34 [LL Dp xs,.agg (Dp m)]=some (I (ix (DL m) xs)):=by
 have e2:(xs.length:Int)<=9223372036854775807:=by unfold maxLen at h;omega
 rw[mJ,nC [.tmp 4] [] func34];simp only[go_sem];generalize hL:iI _ _=y;obtain⟨r,rfl,hr⟩:=oZ hL xs.length (fun k st=>0<st.nx/\st.σ 0=some ⟨Dp m,0,true⟩/\st.T 0=LL Dp xs/\st.T 3= .rp 0 0/\st.T 7=I xs.length/\st.T 8=I k/\∀i (h:i<xs.length),i<k->DL m xs[i]=false)
  (fun r=>(∃T σ nx,r=(.exit 0,⟨T,σ,nx⟩)/\ix (DL m) xs= -1)\/(∃T σ nx,r=(.ret,⟨T,σ,nx⟩)/\T 4=I (ix (DL m) xs))) (by
   clear hL;rintro k ⟨T,σ,nx⟩ G ⟨hn,E,Y,J,O,S,hi⟩;simp only at hn E Y J O S;have f1:(k:Int)<(xs.length:Int):=by omega
   have f2:=jF k;have f3:=ZU (n:=(k:Int)+1);have f4:=akQ xs k G;have f5:=ace xs;have f6:k*2+2<=xs.length*2:=by omega
   have f9:=acd xs k G;cases hp:DL m xs[k]with
   |true=>
    refine .inr ⟨_,by unfold DL at hp;simp only[go_sem,Y,J,O,S,hn,E,f1,f2,f4,f5,f6,f9,hp];rfl,by simp,.inr ⟨_,_,_,rfl,?_⟩⟩;simp only[go_sem];rw[kC G hi hp]
   |false=>
    refine .inl ⟨_,by unfold DL at hp;simp only[go_sem,Y,J,O,S,hn,E,f1,f2,f3,f4,f5,f6,f9,hp];rfl,?_⟩;simp only[go_sem,Y,J,O,E];exact⟨hn,rfl,jv G hi hp⟩) (by
   clear hL;rintro ⟨T,σ,nx⟩ ⟨hn,E,Y,J,O,S,hi⟩;simp only at O S;exact⟨_,by simp only[go_sem,O,S,zi];rfl,by simp,.inl ⟨_,_,_,rfl,jw fun i h=>hi i h h⟩⟩) (by
   simp only[go_sem];exact fun i _ h=>absurd h (zW _))
 rcases hr with ⟨T,σ,nx,rfl,J⟩|⟨T,σ,nx,rfl,J⟩
 .simp only[go_sem,J]
 .simp only[go_sem,J]
def E8(n:Nat)(m:TV.Move):Prop:=0<=m.fr/\m.fr<n/\0<=m.to/\m.to<n/\m.fr≠m.to
def AU(y:BZ):Prop:=y.aI.length<=6/\y.moves.length<=12/\(∀i (h:i<y.aI.length),Dy y.aI[i]=true/\ix (isNamed y.aI[i].name) y.aI=i)/\∀i (h:i<y.moves.length),E8 y.aI.length y.moves[i]/\ix (DL y.moves[i]) y.moves=i
theorem Tm(s:BZ)(h:Gl s):fn ZM conv ext 10 [.agg (Cj s)]=some (Bo (pb (AU s))):=by
 have e2:(s.aI.length:Int)<=9223372036854775807:=by have:=h.1.2.1;omega
 have e3:(s.moves.length:Int)<=9223372036854775807:=by have:=h.2.1.2.1;omega
 rw[mJ,nC [.tmp 2] [] func10]
 by_cases c1:(6:Int)<s.aI.length
 .rw[iD (fun hn=>by have:=hn.1;omega)]
  simp only[go_sem,c1]
 by_cases c2:(12:Int)<s.moves.length
 .rw[iD (fun hn=>by have:=hn.2.1;omega)]
  simp only[go_sem,c1,c2]
 simp only[go_sem,c1,c2];generalize hL:iI _ _=y;obtain⟨r,rfl,hr⟩:=oZ hL s.aI.length (fun k st=>0<st.nx/\st.σ 0=some ⟨Cj s,0,true⟩/\st.T 1= .rp 0 0/\st.T 20=LL Az s.aI/\st.T 21=I s.aI.length/\st.T 22=I k/\st.T 3=I s.aI.length/\∀i (h:i<s.aI.length),i<k->Dy s.aI[i]=true/\ix (isNamed s.aI[i].name) s.aI=i)
  (fun r=>(∃T σ nx,r=(.exit 0,⟨T,σ,nx⟩)/\0<nx/\σ 0=some ⟨Cj s,0,true⟩/\T 1= .rp 0 0/\T 3=I s.aI.length/\∀i (h:i<s.aI.length),Dy s.aI[i]=true/\ix (isNamed s.aI[i].name) s.aI=i)\/(∃T σ nx,r=(.ret,⟨T,σ,nx⟩)/\T 2=Bo false/\¬AU s)) (by
   clear hL;rintro k ⟨T,σ,nx⟩ S ⟨hn,E,J,a6,a1,a7,h3,hi⟩;simp only at hn E J a6 a1 a7 h3;have f1:(k:Int)<(s.aI.length:Int):=by omega
   have f2:=jF k;have f3:=ZU (n:=(k:Int)+1);have f4:=ag_ s.aI k S;have f5:=WQ s.aI;have f6:k*5+5<=s.aI.length*5:=by omega
   have f9:=WO s.aI k S;have t1:=kP s.aI[k] (h.1.1 _ (zu S));have t2:=IJ s s.aI[k].name h.1.2.2;have nz:¬0=nx:=by omega
   cases hj:Dy s.aI[k]with
   |false=>
    rw[hj]at t1;refine .inr ⟨_,by simp only[go_sem,J,a6,a1,a7,f1,f2,f4,f5,f6,f9,t1,nz];rfl,by simp,.inr ⟨_,_,_,rfl,?_,fun hn=>?_⟩⟩
    .simp only[go_sem]
    .have:=(hn.2.2.1 k S).1
     rw[hj]at this;cases this
   |true=>
    rw[hj]at t1
    by_cases hk:ix (isNamed s.aI[k].name) s.aI=k
    .rw[hk]at t2
     refine .inl ⟨_,by simp only[go_sem,J,a6,a1,a7,E,f1,f2,f3,f4,f5,f6,f9,t1,t2,nz];rfl,?_⟩;simp only[go_sem,J,a6,a1,E,nz,h3];refine⟨by omega,rfl,fun i b2 b3=>?_⟩;rcases xJ (xA b3)with q|q
     .exact hi i b2 q
     .subst q;exact⟨hj,hk⟩
    .have b6:(ix (isNamed s.aI[k].name) s.aI !=(k:Int))=true:=by simpa using hk
     refine .inr ⟨_,by simp only[go_sem,J,a6,a1,a7,E,f1,f2,f4,f5,f6,f9,t1,t2,b6,nz];rfl,by simp,.inr ⟨_,_,_,rfl,?_,fun hn=>hk (hn.2.2.1 k S).2⟩⟩;simp only[go_sem]) (by
   clear hL;rintro ⟨T,σ,nx⟩ ⟨hn,E,J,a6,a1,a7,h3,hi⟩;simp only at hn E J a6 a1 a7 h3;exact⟨_,by simp only[go_sem,a1,a7,zi];rfl,by simp,.inl ⟨_,_,_,rfl,hn,E,by simp only[go_sem,J],by simp only[go_sem,h3],fun i h=>hi i h h⟩⟩) (by
   simp only[go_sem];exact fun i _ h=>absurd h (zW _))
 rcases hr with ⟨T,σ,nx,rfl,b7,E,J,h3,hj⟩|⟨T,σ,nx,rfl,h2,hn⟩
 .clear hL
  simp only[go_sem,E,J];generalize hL:iI _ _=y;obtain⟨r,rfl,hr⟩:=oZ hL s.moves.length (fun k st=>0<st.nx/\st.σ 0=some ⟨Cj s,0,true⟩/\st.T 1= .rp 0 0/\st.T 3=I s.aI.length/\st.T 40=LL Dp s.moves/\st.T 41=I s.moves.length/\st.T 42=I k/\∀i (h:i<s.moves.length),i<k->E8 s.aI.length s.moves[i]/\ix (DL s.moves[i]) s.moves=i)
   (fun r=>(∃T σ nx,r=(.exit 2,⟨T,σ,nx⟩)/\∀i (h:i<s.moves.length),E8 s.aI.length s.moves[i]/\ix (DL s.moves[i]) s.moves=i)\/(∃T σ nx,r=(.ret,⟨T,σ,nx⟩)/\T 2=Bo false/\¬AU s)) (by
    clear hL;rintro k ⟨T,σ,nx⟩ S ⟨hn,E,J,h5,Y,G,O,hi⟩;simp only at hn E J h5 Y G O;have f1:(k:Int)<(s.moves.length:Int):=by omega
    have f2:=jF k;have f3:=ZU (n:=(k:Int)+1);have f4:=akQ s.moves k S;have f5:=ace s.moves;have f6:k*2+2<=s.moves.length*2:=by omega
    have f9:=acd s.moves k S;have no:¬E8 s.aI.length s.moves[k]->¬AU s:=fun hb hn=>hb (hn.2.2.2 k S).1
    have b5:¬ix (DL s.moves[k]) s.moves=k->¬AU s:=fun hb hn=>hb (hn.2.2.2 k S).2
    have done:E8 s.aI.length s.moves[k]->ix (DL s.moves[k]) s.moves=k->∀i (h:i<s.moves.length),i<k+1->E8 s.aI.length s.moves[i]/\ix (DL s.moves[i]) s.moves=i:=fun g1 g2 i b2 b3=>by
     rcases xJ (xA b3)with q|q
     .exact hi i b2 q
     .subst q;exact⟨g1,g2⟩
    have nz:¬0=nx:=by omega
    have t1:=QF s.moves s.moves[k] h.2.1.2.2;generalize b9:ix (DL s.moves[k]) s.moves=ii at t1 b5 done;obtain⟨m,b8⟩:∃m,m=s.moves[k]:=⟨_,rfl⟩;rw[<- b8]at f4 no done t1
    by_cases c1:m.fr<0
    .refine .inr ⟨_,by simp only[go_sem,J,h5,Y,G,O,E,f1,f2,f4,f5,f6,f9,nz,c1];rfl,by simp,.inr ⟨_,_,_,rfl,by simp only[go_sem],no fun hm=>?_⟩⟩
     have:=hm.1;omega
    by_cases c2:(s.aI.length:Int)<=m.fr
    .refine .inr ⟨_,by simp only[go_sem,J,h5,Y,G,O,E,f1,f2,f4,f5,f6,f9,nz,c1,c2];rfl,by simp,.inr ⟨_,_,_,rfl,by simp only[go_sem],no fun hm=>?_⟩⟩
     have:=hm.2.1;omega
    by_cases c3:m.to<0
    .refine .inr ⟨_,by simp only[go_sem,J,h5,Y,G,O,E,f1,f2,f4,f5,f6,f9,nz,c1,c2,c3];rfl,by simp,.inr ⟨_,_,_,rfl,by simp only[go_sem],no fun hm=>?_⟩⟩
     have:=hm.2.2.1;omega
    by_cases c4:(s.aI.length:Int)<=m.to
    .refine .inr ⟨_,by simp only[go_sem,J,h5,Y,G,O,E,f1,f2,f4,f5,f6,f9,nz,c1,c2,c3,c4];rfl,by simp,.inr ⟨_,_,_,rfl,by simp only[go_sem],no fun hm=>?_⟩⟩
     have:=hm.2.2.2.1;omega
    by_cases c5:m.fr=m.to
    .have a8:(m.fr==m.to)=true:=by simpa using c5
     exact .inr ⟨_,by simp only[go_sem,J,h5,Y,G,O,E,f1,f2,f4,f5,f6,f9,nz,c1,c2,c3,c4,a8];rfl,by simp,.inr ⟨_,_,_,rfl,by simp only[go_sem],no fun hm=>hm.2.2.2.2 c5⟩⟩
    have a8:(m.fr==m.to)=false:=by simpa using c5
    by_cases c6:ii=k
    .have b4:(ii !=(k:Int))=false:=by simpa using c6
     refine .inl ⟨_,by simp only[go_sem,J,h5,Y,G,O,E,f1,f2,f3,f4,f5,f6,f9,nz,c1,c2,c3,c4,a8,b4,t1];rfl,?_⟩;simp only[go_sem,J,h5,Y,G,E,nz];exact⟨by omega,rfl,done ⟨by omega,by omega,by omega,by omega,c5⟩ c6⟩
    .have b4:(ii !=(k:Int))=true:=by simpa using c6
     exact .inr ⟨_,by simp only[go_sem,J,h5,Y,G,O,E,f1,f2,f4,f5,f6,f9,nz,c1,c2,c3,c4,a8,b4,t1];rfl,by simp,.inr ⟨_,_,_,rfl,by simp only[go_sem],b5 c6⟩⟩) (by
    clear hL;rintro ⟨T,σ,nx⟩ ⟨hn,E,J,h5,Y,G,O,hi⟩;simp only at hn E J G O;exact⟨_,by simp only[go_sem,G,O,zi];rfl,by simp,.inl ⟨_,_,_,rfl,fun i h=>hi i h h⟩⟩) (by
    simp only[go_sem,J,E,h3];exact⟨b7,fun i _ h=>absurd h (zW _)⟩)
  rcases hr with ⟨T,σ,nx,rfl,hm⟩|⟨T,σ,nx,rfl,h2,hn⟩
  .have:AU s:=⟨by omega,by omega,hj,hm⟩
   simp only[go_sem,iC this]
  .simp only[go_sem,h2,iD hn]
 .simp only[go_sem,h2,iD hn]
def dg(n:Nat):List Int:=if n=0 then []else((n%1000000000:Nat):Int) :: dg (n / 1000000000)
termination_by n
decreasing_by exact tJ (by omega) (by decide)
theorem oJ:dg 0=[]:=by unfold dg;rfl
theorem oM{n:Nat}(h:n≠0):dg n=((n%1000000000:Nat):Int) :: dg (n / 1000000000):=by rw[dg,sQ h]
theorem acf{k m n:Nat}(h:1000000000^k*m<=n)(hm:1<=m)(hn:n<=18446744073709551615):k<=2:=by
 rcases Nat.lt_or_ge k 3 with E|E
 .omega
 .have:=Nat.pow_le_pow_right (n:=1000000000) (by decide) E
  have G:1000000000^k*1<=1000000000^k*m:=tu _ hm;have J:(1000000000:Nat)^3=1000000000000000000000000000:=by decide
  omega
theorem NT(n:Nat)(hn:n<=9223372036854775807):fn ZM conv ext 239 [I n]=some (LI (dg n)):=by
 rw[mJ,nC [.tmp 2] [] func239];simp only[go_sem];generalize hL:iI _ _=y;obtain⟨r,rfl,T',σ',nx',rfl,hr⟩:=jS hL (fun m st=>st.T 0=I m/\∃acc,Grow st.T st.σ st.nx 3 acc/\dg n=acc++dg m/\1000000000^acc.length*m<=n)
  (fun r=>∃T σ nx,r=(.exit 0,⟨T,σ,nx⟩)/\Grow T σ nx 3 (dg n)) (by
   clear hL;rintro m ⟨T,σ,nx⟩ ⟨G,acc,E,J,hp⟩;simp only at G E
   by_cases hm:m=0
   .subst hm
    have f0:¬(0:Int)<0:=by omega
    refine .inr ⟨_,by simp only[go_sem,G,f0];rfl,by simp,_,_,_,rfl,?_⟩;rw[oJ,zH]at J;rw[J]
    simpa only[Grow,go_sem]using E
   .have f0:(0:Int)<(m:Int):=by omega
    have hk:=acf hp (by omega) (by omega);have a1:m<=n:=zL (t_ _ (Nat.pow_pos (by decide))) hp;have f1:(m:Int).tmod 1000000000=((m%1000000000:Nat):Int):=by rw[xC (by omega)];omega
    have f2:IntKind.i64.wrap ((m:Int).tdiv 1000000000)=((m / 1000000000:Nat):Int):=by
     rw[yB (by omega)];rw[ZU];omega
    have O:dg n=(acc++[((m%1000000000:Nat):Int)])++dg (m / 1000000000):=by rw[J,oM hm];simp
    have S:1000000000^(acc++[((m%1000000000:Nat):Int)]).length*(m / 1000000000)<=n:=by
     rw[zo,yV,uq,vG];exact zL (tu _ (Nat.mul_div_le _ _)) hp
    have Y:m / 1000000000<m:=tJ (by omega) (by decide);obtain⟨σ',ha,hs⟩:=kW E ((m%1000000000:Nat):Int) (by omega);refine .inl ⟨_,by simp only[go_sem,G,f0,f1,f2,ha];rfl,_,Y,?_,_,?_,O,S⟩
    .simp only[go_sem]
    .exact kS hs (by simp[go_sem]) (by simp)) n ⟨by simp only[go_sem],[],.inl ⟨by simp only[go_sem],rfl⟩,rfl,by simp⟩
 obtain⟨ids,h1⟩:=kR hr 6;simp only[go_sem,h1]
def Short(xs:List Int):Prop:=xs.length<=17592186044000
theorem idx{xs:List Int}{k:Nat}(h:k<xs.length):(xs.flatMap cI)[k]?=some (I xs[k]):=cu I xs k h
theorem qL(xs:List Int)(k:Nat):(xs.flatMap cI).take k=(xs.take k).flatMap cI:=by
 induction xs generalizing k with
 |nil=>simp
 |cons x xs E=>
  cases k with
  |zero=>rfl
  |succ k=>simp[E]
def Bl(a:List Int):List Int:=(a.reverse.dropWhile (·=0)).reverse
theorem Zp(a:List Int)(x:Int):Bl (a++[x])=if x=0 then Bl a else a++[x]:=by
 unfold Bl;simp only[List.reverse_append,List.reverse_cons,List.reverse_nil,yJ,List.singleton_append,List.dropWhile_cons,decide_eq_true_eq]
 split<;>simp
theorem aH{a:List Int}{k:Nat}(h:k<a.length):a.take (k+1)=a.take k++[a[k]]:=by rw[yL,zy h];rfl
theorem KZ(a:List Int)(ha:Short a):fn ZM conv ext 243 [LI a]=some (LI (Bl a)):=by
 unfold Short at ha;rw[mJ,nC [.tmp 2] [] func243];simp only[go_sem];generalize hL:iI _ _=y;obtain⟨r,rfl,T',k,rfl,E,J,S,O⟩:=jS hL (fun k st=>st.nx=0/\st.σ=pI/\st.T 0=LI a/\st.T 3=I k/\k<=a.length/\Bl a=Bl (a.take k))
  (fun r=>∃T k,r=(.exit 0,⟨T,pI,0⟩)/\T 0=LI a/\T 3=I (k:Nat)/\k<=a.length/\Bl a=a.take k) (by
   clear hL;rintro k ⟨T,σ,nx⟩ ⟨hn,Y,E,J,S,O⟩;simp only at hn Y E J;subst hn Y;cases k with
   |zero=>
    have f0:¬(0:Int)<0:=by omega
    refine .inr ⟨_,by simp only[go_sem,E,J,f0];rfl,by simp,_,0,rfl,by simp only[go_sem,E],by simp only[go_sem,J],S,?_⟩;rw[O];rfl
   |succ k=>
    have G:k<a.length:=by omega
    have f0:(0:Int)<((k+1:Nat):Int):=by omega
    have f1:=ZU (n:=((k+1:Nat):Int) - 1);have f2:((k+1:Nat):Int) - 1=(k:Int):=by omega
    have f3:(k:Int)<(a.length:Int):=by omega
    have f4:=jF k;have f5:=Ba a k G;have f6:=idx G;rw[f2]at f1;rw[aH G,Zp]at O
    by_cases hx:a[k]=0
    .have fx:(a[k]==(0:Int))=true:=by simpa using hx
     rw[sO hx]at O;refine .inl ⟨_,by simp only[go_sem,E,J,f0,f1,f2,f3,f4,f5,f6,fx];rfl,k,by omega,?_⟩;simp only[go_sem,E];exact⟨by omega,O⟩
    .have fx:(a[k]==(0:Int))=false:=by simpa using hx
     rw[sQ hx]at O;refine .inr ⟨_,by simp only[go_sem,E,J,f0,f1,f2,f3,f4,f5,f6,fx];rfl,by simp,_,k+1,rfl,by simp only[go_sem,E],by simp only[go_sem,J],S,?_⟩;rw[O,aH G]) a.length ⟨rfl,rfl,by simp only[go_sem],by simp only[go_sem],zq _,by rw[yT]⟩
 have g1:=jF k;have g2:(a.take k).length=k:=by rw[zh,xX S]
 simp only[go_sem,E,J,g1,S,wF,qL,O];show _=some (V.ts _ (List.take k a).length);rw[g2]
theorem scap(a:List Int)(ha:Short a)(h:(Bl a).length<=60):fn ZM conv ext 238 [LI a]=some (LI (Bl a)):=by
 have E:=KZ a ha;have G:¬(60:Int)<((Bl a).length:Int):=by omega
 rw[mJ,nC [.tmp 2] [] func238];simp only[go_sem,E,G]
theorem akR(a:List Int):(Bl a).length<=a.length:=by
 unfold Bl;rw[List.length_reverse];exact zL (List.dropWhile_suffix _).length_le (by rw[List.length_reverse];exact zq _)
theorem anl(neg:Bool)(a:List Int)(ha:Short a)(h:(Bl a).length<=60):fn ZM conv ext 220 [Bo neg,LI a]=some (.agg [Bo (neg && decide (0<(Bl a).length)),LI (Bl a)]):=by
 have E:=scap a ha h;rw[mJ,nC [.cell 4 171] [] func220];generalize Bl a=m at *;cases m with
 |nil=>cases neg<;>simp only[go_sem,E]<;>rfl
 |cons x m=>
  have G:(m.length+1)<=maxLen/\(m.length+1)*8<=140737488355328:=by simp only[zV]at h;unfold maxLen;omega
  have J:¬(m.length+1=0):=by omega
  have hp:(0:Int)<((m.length+1:Nat):Int):=by omega
  have O:0<m.length+1:=by omega
  cases neg<;>simp only[go_sem,E,G,J,hp,O]<;>rfl
theorem Zu(d:Int)(xs:List Int):Bl (d :: xs)=if Bl xs=[]then(if d=0 then []else [d])else d :: Bl xs:=by
 unfold Bl;rw[List.reverse_cons,List.dropWhile_append]
 by_cases h:(xs.reverse.dropWhile fun x=>decide (x=0))=[]
 .rw[h]
  simp only[List.isEmpty_nil,if_true,List.reverse_nil,List.dropWhile_cons,List.dropWhile_nil,decide_eq_true_eq]
  split<;>simp_all
 .rw[sQ (by simpa using h),sQ (by simpa using h)]
  simp
theorem oO{n:Nat}(h:n≠0):dg n≠[]:=by rw[oM h];simp
theorem Zt(n:Nat):Bl (dg n)=dg n:=by
 induction n using Nat.strongRecOn with
 |_ n G=>
  by_cases h:n=0
  .subst h;rw[oJ];rfl
  .rw[oM h,Zu,G _ (tJ (by omega) (by decide))]
   by_cases E:n / 1000000000=0
   .rw[E,oJ,sO rfl,sQ (by omega)]
   .rw[sQ (oO E)]
theorem aaM(k:Nat):∀n:Nat,n<1000000000^k->(dg n).length<=k:=by
 induction k with
 |zero=>intro n h;have:n=0:=by simpa using h
        subst this;rw[oJ];exact zq _
 |succ k G=>
  intro n h
  by_cases E:n=0
  .subst E;rw[oJ];exact wF _
  .rw[oM E,zV]
   have:n / 1000000000<1000000000^k:=Nat.div_lt_of_lt_mul (by rw[uq,wL]at h;exact h);have:=G _ this;omega
theorem oK{n:Nat}(h:n<=9223372036854775807):(dg n).length<=3:=aaM 3 n (by omega)
theorem aaN(n:Nat):∀x∈dg n,0<=x/\x<=999999999:=by
 induction n using Nat.strongRecOn with
 |_ n G=>
  intro x E
  by_cases h:n=0
  .subst h;rw[oJ]at E;cases E
  .rw[oM h]at E
   rcases List.mem_cons.mp E with rfl|E
   .omega
   .exact G _ (tJ (by omega) (by decide)) x E
def Di(a:List Int):Prop:=(∀x∈a,inB x 0 999999999=true)/\a.length<=60/\Bl a=a
theorem aaO{n:Nat}(h:n<=9223372036854775807):Di (dg n) :=
 ⟨fun x E=>by have:=aaN n x E;unfold inB;rw[sJ this.1,sJ this.2];rfl,by have:=oK h;omega,Zt n⟩
theorem J4{a:List Int}(h:a≠[]):Bl a=a↔a[a.length-1]'(by have:=List.length_pos_iff.mpr h;omega)≠0:=by
 rcases List.eq_nil_or_concat a with rfl|⟨b,x,e⟩
 .exact absurd rfl h
 .rw[List.concat_eq_append]at e
  subst e;rw[Zp];have:(b++[x])[(b++[x]).length-1]'(by simp)=x:=by simp
  rw[this]
  by_cases E:x=0
  .rw[sO E]
   refine⟨fun e=>?_,fun e=>absurd E e⟩;have:=congrArg List.length e;have G:=akR b;rw[zo,yV]at this;omega
  .rw[sQ E];exact⟨fun _=>E,fun _=>rfl⟩
theorem aaP(a:List Int)(ha:Short a):fn ZM conv ext 235 [LI a]=some (Bo (pb (Di a))):=by
 unfold Short at ha;rw[mJ,nC [.tmp 2] [] func235];simp only[go_sem];generalize hL:iI _ _=y;obtain⟨r,rfl,hr⟩:=oZ hL a.length (fun k st=>st.nx=0/\st.σ=pI/\st.T 0=LI a/\st.T 5=LI a/\st.T 6=I a.length/\st.T 7=I k/\∀i (h:i<a.length),i<k->inB a[i] 0 999999999=true)
  (fun r=>(∃T,r=(.exit 0,⟨T,pI,0⟩)/\T 0=LI a/\∀x∈a,inB x 0 999999999=true)\/(∃T,r=(.ret,⟨T,pI,0⟩)/\T 2=Bo false/\¬Di a)) (by
   clear hL;rintro k ⟨T,σ,nx⟩ a1 ⟨hn,O,S,G,E,J,hi⟩;simp only at hn O S G E J;subst hn O;have f1:(k:Int)<(a.length:Int):=by omega
   have f2:=jF k;have f3:=ZU (n:=(k:Int)+1);have f4:=idx a1;have f9:=Ba a k a1;have t1:=II a[k] 0 999999999;cases hb:inB a[k] 0 999999999 with
   |true=>
    rw[hb]at t1;refine .inl ⟨_,by simp only[go_sem,S,G,E,J,f1,f2,f3,f4,f9,t1];rfl,?_⟩;simp only[go_sem,S,G,E];refine⟨rfl,fun i Y a7=>?_⟩;rcases xJ (xA a7)with q|q
    .exact hi i Y q
    .subst q;exact hb
   |false=>
    rw[hb]at t1;refine .inr ⟨_,by simp only[go_sem,G,E,J,f1,f2,f4,f9,t1];rfl,by simp,.inr ⟨_,rfl,by simp only[go_sem],fun hn=>?_⟩⟩;have:=hn.1 _ (zu a1);rw[hb]at this;cases this) (by
   clear hL;rintro ⟨T,σ,nx⟩ ⟨hn,O,S,G,E,J,hi⟩;simp only at hn O S G E J;subst hn O;exact⟨_,by simp only[go_sem,E,J,zi];rfl,by simp,.inl ⟨_,rfl,by simp only[go_sem,S],fun x hx=>by obtain⟨i,Y,rfl⟩:=zA hx;exact hi i Y Y⟩⟩) (by
   simp only[go_sem];exact fun i _ h=>absurd h (zW _))
 rcases hr with ⟨T,rfl,S,hm⟩|⟨T,rfl,h2,hn⟩
 .by_cases hl:(a.length:Int)<=60
  .by_cases hz:a=[]
   .subst hz
    have:Di []:=⟨by simp,by simp,rfl⟩;have a8:(0:Int)<=60:=by decide
    simp only[go_sem,S,iC this,a8]
   .have b2:((a.length:Int)==0)=false:=by simpa using hz
    have a6:0<a.length:=List.length_pos_iff.mpr hz;have f1:=ZU (n:=(a.length:Int) - 1);have f2:(0:Int)<=(a.length:Int) - 1:=by omega
    have f3:(a.length:Int) - 1<(a.length:Int):=by omega
    have f4:((a.length:Int) - 1).toNat=a.length-1:=by omega
    have f5:=idx (xs:=a) (k:=a.length-1) (by omega);have f9:=Ba a 0 a6;have hg:pb (Di a)=(a[a.length-1] !=0):=by
     refine(QD ?_).symm;rw[bne_iff_ne,<- J4 hz];exact⟨fun h=>⟨hm,by omega,h⟩,fun h=>h.2.2⟩
    rw[hg];simp only[go_sem,S,hl,b2,f1,f2,f3,f4,f5,f9]
  .rw[iD (fun hn:Di a=>hl (by have:=hn.2.1;omega))]
   simp only[go_sem,S,hl]
 .simp only[go_sem,h2,iD hn]
theorem aeN(neg:Bool)(a:List Int)(ha:Short a):fn ZM conv ext 234 [.agg [Bo neg,LI a]]=some (Bo (pb (Di a) && (!neg||decide (0<a.length)))):=by
 have G:=aaP a ha;rw[mJ,nC [.tmp 2] [] func234];generalize pb (Di a)=b at *;cases b<;>cases neg<;>simp only[go_sem,G]
 by_cases h:0<a.length
 .have E:(0:Int)<(a.length:Int):=by omega
  simp only[h,E]
 .have E:¬(0:Int)<(a.length:Int):=by omega
  simp only[h,E]
theorem asQ(a:List Int)(ha:Short a):fn ZM conv ext 230 [LI a]=some (Bo (decide (a=[1]))):=by
 unfold Short at ha;have G:(0:Int)<1:=by decide
 have z2:(0:Int)<=0:=by decide
 have z3:(0:Int).toNat=0:=id rfl;rw[mJ,nC [.tmp 2] [] func230]
 match a with
 |[]=>(simp only[go_sem])<;>rfl
 |[x]=>
  by_cases E:x=1
  .subst E;(simp only[go_sem,G,z2,z3])<;>rfl
  .have:(x==(1:Int))=false:=by simpa using E
   simp only[go_sem,this,G,z2,z3];simp[E]
 |x :: y :: l=>
  have:(((l.length+1+1:Nat):Int)==1)=false:=by rw[sN];omega
  simp only[go_sem,this];simp
theorem Tn(n j:Nat):(dg n).drop j=dg (n / 1000000000^j):=by
 induction j generalizing n with
 |zero=>simp
 |succ j E=>
  by_cases h:n=0
  .subst h;rw[Nat.zero_div,oJ];rfl
  .rw[oM h,List.drop_succ_cons,E,wu,uq,wL]
theorem oQ{n j:Nat}(h:j<(dg n).length):(dg n)[j]=((n / 1000000000^j%1000000000:Nat):Int):=by
 have E:=yS h;rw[Tn]at E;have G:n / 1000000000^j≠0:=fun e=>by rw[e,oJ]at E;cases E
 rw[oM G]at E;exact(List.cons.inj E).1.symm
theorem oS(n:Nat):n / 1000000000^(dg n).length=0:=by
 have h:=Tn n (dg n).length;rw[List.drop_length]at h;exact zf fun hn=>oO hn h.symm
theorem oL(n j:Nat):n / 1000000000^(j+1)*1000000000+n / 1000000000^j%1000000000=n / 1000000000^j:=by
 rw[uq,<- wu];omega
theorem WV{n:Nat}(h:n<=9223372036854775807):Short (dg n):=by have:=oK h;unfold Short;omega
theorem akS(a b:List Int)(h:a.length<b.length)(hb:Short b):fn ZM conv ext 242 [LI a,LI b]=some (I (-1)):=by
 unfold Short at hb;have c1:((a.length:Int) !=(b.length:Int))=true:=by rw[bne_iff_ne];omega
 have E:(a.length:Int)<(b.length:Int):=by omega
 rw[mJ,nC [.tmp 4] [] func242];simp only[go_sem,c1,E]
theorem QG(n:Nat)(hn:n<1000000000000000000):fn ZM conv ext 248 [LI (dg n)]=some (.AX [I n,Bo true]):=by
 have hs:=WV (n:=n) (by omega);have Y:=aaP (dg n) hs;rw[iC (aaO (by omega))]at Y;have a1:(dg n).length<=2:=aaM 2 n (by omega);have h2:fn ZM conv ext 242 [LI (dg n),.ts [I 854775807,I 223372036,I 9] 3]=some (I (-1)):=akS (dg n) [854775807,223372036,9] (by simp;omega) (by unfold Short;simp)
 have c0:¬(0:Int)< -1:=by decide
 have e1:=ZU (n:=((dg n).length:Int) - 1);rw[mJ,nC [.tmp 2,.tmp 3] [] func248];simp only[go_sem,Y,h2,c0,e1];generalize hL:iI _ _=y;obtain⟨r,rfl,T',σ',nx',rfl,G⟩:=jS hL (fun m st=>st.T 0=LI (dg n)/\st.T 5=I ((m:Int) - 1)/\st.T 4=I (n / 1000000000^m:Nat)/\m<=(dg n).length)
  (fun r=>∃T σ nx,r=(.exit 0,⟨T,σ,nx⟩)/\T 4=I n) (by
   clear hL;rintro m ⟨T,σ,nx⟩ ⟨J,O,G,hm⟩;simp only at J O G;cases m with
   |zero=>
    have f0:¬(0:Int)<=((0:Nat):Int) - 1:=by omega
    have S:¬(0:Int)<=0-1:=by omega
    rw[Nat.pow_zero,vK]at G;exact .inr ⟨_,by simp only[go_sem,J,O,f0,S];rfl,by simp,_,_,_,rfl,by simp only[go_sem,G]⟩
   |succ m=>
    have E:m<(dg n).length:=by omega
    have e5:((m+1:Nat):Int) - 1=(m:Int):=by omega
    rw[e5]at O;have f0:=jF m;have f3:(m:Int)<((dg n).length:Int):=by omega
    have f5:=Ba (dg n) m E;have f6:=idx E;rw[oQ E]at f6;have hd:=oL n m;have hle:n / 1000000000^m<=n:=xE _ _;generalize n / 1000000000^(m+1)=u at *;generalize hw:n / 1000000000^m=w at *;have f7:=ZU (n:=(m:Int) - 1);have f8:=ZU (n:=(u:Int)*1000000000);have f9:=ZU (n:=(u:Int)*1000000000+((w%1000000000:Nat):Int));refine .inl ⟨_,by simp only[go_sem,J,O,G,f0,f3,f5,f6,f7,f8,f9];rfl,m,by omega,?_⟩;simp only[go_sem,J];refine⟨?_,by omega⟩;congr 3;omega) (dg n).length ⟨by simp only[go_sem],by simp only[go_sem],by simp only[go_sem,oS],zq _⟩
 simp only[go_sem,G]
theorem aoC(x y:Nat)(hx:x<=9223372036854775807)(hy:y<=9223372036854775807):fn ZM conv ext 249 [I x,I y]=some (LI (dg (Nat.gcd x y))):=by
 rw[mJ,nC [.tmp 4] [] func249];simp only[go_sem];generalize hL:iI _ _=w;obtain⟨r,rfl,T',rfl,E⟩:=jS hL (fun b st=>st.nx=0/\st.σ=pI/\∃a:Nat,st.T 0=I a/\st.T 1=I b/\a<=9223372036854775807/\b<=9223372036854775807/\Nat.gcd a b=Nat.gcd x y)
  (fun r=>∃T,r=(.exit 0,⟨T,pI,0⟩)/\T 0=I (Nat.gcd x y:Nat)) (by
   clear hL;rintro b ⟨T,σ,nx⟩ ⟨hn,G,a,E,J,ha,hb,O⟩;simp only at hn G E J;subst hn G;cases b with
   |zero=>
    have f0:¬(0:Int)<0:=by omega
    refine .inr ⟨_,by simp only[go_sem,E,J,f0];rfl,by simp,_,rfl,?_⟩;rw[Nat.gcd_zero_right]at O;simp only[go_sem,E,O]
   |succ b=>
    have f0:(0:Int)<((b+1:Nat):Int):=by omega
    have f1:¬((b+1:Nat):Int)=0:=by omega
    have f2:(a:Int).tmod ((b+1:Nat):Int)=((a%(b+1):Nat):Int):=by rw[xC (by omega)];rfl
    have S:a%(b+1)<b+1:=vX a (Nat.succ_pos b);refine .inl ⟨_,by simp only[go_sem,E,J,f0,f1,f2];rfl,a%(b+1),S,?_⟩;simp only[go_sem];refine⟨b+1,rfl,hb,by omega,?_⟩;rw[<- O,Nat.gcd_comm a (b+1),Nat.gcd_rec (b+1) a,Nat.gcd_comm]) y ⟨rfl,rfl,x,by simp only[go_sem],by simp only[go_sem],hx,hy,rfl⟩
 have Y:Nat.gcd x y<=9223372036854775807:=by
  rcases Nat.eq_zero_or_pos x with h|h
  .subst h;rw[Nat.gcd_zero_left];exact hy
  .exact zL (Nat.gcd_le_left _ h) hx
 have h3:=NT (Nat.gcd x y) Y;simp only[go_sem,E,h3]
theorem rC{xs:List Int}(h:xs≠[]):¬xs.length=0:=fun e=>h (zZ e)
def pad(n k:Nat):List Int:=(List.range k).map fun j=>((n / 1000000000^j%1000000000:Nat):Int)
theorem iL(n k:Nat):(pad n k).length=k:=by simp[pad]
theorem akU(n k j:Nat)(h:j<(pad n k).length):(pad n k)[j]=((n / 1000000000^j%1000000000:Nat):Int):=by simp[pad]
theorem ahd(n k:Nat):pad n (k+1)=((n%1000000000:Nat):Int) :: pad (n / 1000000000) k:=by
 unfold pad;rw[List.range_succ_eq_map,uN,List.map_map];congr 1
 .rw[Nat.pow_zero,vK]
 .refine xM fun j _=>?_
  show(((n / 1000000000^(j+1)%1000000000:Nat)):Int)=_;rw[wu,uq,wL]
theorem IQ(k:Nat):∀n:Nat,n<1000000000^k->Bl (pad n k)=dg n:=by
 induction k with
 |zero=>
  intro n h;have:n=0:=by simpa using h
  subst this;rw[oJ];rfl
 |succ k J=>
  intro n h;have:n / 1000000000<1000000000^k:=Nat.div_lt_of_lt_mul (by rw[uq,wL]at h;exact h);rw[ahd,Zu,J _ this]
  by_cases E:n=0
  .subst E
   rw[Nat.zero_div,oJ,sO rfl,sO (by decide)]
  .rw[oM E]
   by_cases G:n / 1000000000=0
   .rw[G,oJ,sO rfl,sQ (by omega)]
   .rw[sQ (oO G)]
theorem MB(j:Nat)(z v:V)(r:List V):(rep (j+1) [z]++r).set j v=rep j [z]++v :: r:=by
 induction j with
 |zero=>rfl
 |succ j E=>
  have G:rep (j+1+1) [z]=z :: rep (j+1) [z]:=fP _ _;have J:rep (j+1) [z]=z :: rep j [z]:=fP _ _;rw[G];show z :: ((rep (j+1) [z]++r).set j v)=rep (j+1) [z]++v :: r;rw[E,J];rfl
theorem WW{n k m:Nat}(h:m<k):(pad n k).drop m=((n / 1000000000^m%1000000000:Nat):Int) :: (pad n k).drop (m+1):=by
 rw[yS (by rw[iL];exact h),akU]
theorem akV(n d:Nat)(hl:(dg n).length<=1000000)(h0:d≠0)(hd:d<1000000000):fn ZM conv ext 250 [LI (dg n),I d]=some (.AX [LI (dg (n / d)),I (n%d:Nat)]):=by
 have e1:(8:Int)*((dg n).length:Int)<=281474976710656:=by omega
 have e2:((dg n).length:Int)<=9223372036854775807:=by omega
 have e3:(0:Int)<=((dg n).length:Int):=by omega
 have e4:=ZU (n:=((dg n).length:Int) - 1);have Y:=KZ (pad (n / d) (dg n).length) (by unfold Short;rw[iL];omega);rw[IQ]at Y;rw[mJ,nC [.tmp 4,.tmp 5] [] func250];simp only[go_sem,e1,e2,e3,e4];generalize hL:iI _ _=y;obtain⟨r,rfl,T',σ',nx',rfl,h6,h7,E⟩:=jS hL (fun m st=>st.T 0=LI (dg n)/\st.T 1=I d/\st.T 6= .rs 0 0 (dg n).length/\st.T 8=I ((m:Int) - 1)/\st.T 7=I (n / 1000000000^m%d:Nat)/\m<=(dg n).length/\st.σ 0=some ⟨rep m [I 0]++((pad (n / d) (dg n).length).drop m).flatMap cI,1,true⟩)
  (fun r=>∃T σ nx,r=(.exit 0,⟨T,σ,nx⟩)/\T 6= .rs 0 0 (dg n).length/\T 7=I (n%d:Nat)/\σ 0=some ⟨(pad (n / d) (dg n).length).flatMap cI,1,true⟩) (by
   clear hL;rintro m ⟨T,σ,nx⟩ ⟨t0,t1,t6,t8,t7,hm,E⟩;simp only at t0 t1 t6 t8 t7 E;cases m with
   |zero=>
    have a1:¬(0:Int)<=0-1:=by omega
    rw[Nat.pow_zero,vK]at t7;refine .inr ⟨_,by simp only[go_sem,t8,a1];rfl,by simp,_,_,_,rfl,by simp only[go_sem,t6],by simp only[go_sem,t7],?_⟩;rw[E,yg];rfl
   |succ m=>
    have G:m<(dg n).length:=by omega
    have e5:((m+1:Nat):Int) - 1=(m:Int):=by omega
    rw[e5]at t8;have f0:=jF m;have f3:(m:Int)<((dg n).length:Int):=by omega
    have f5:=Ba (dg n) m G;have f6:=idx G;rw[oQ G]at f6;have a6:=oL n m;have J:=WW (n:=n / d) (k:=(dg n).length) G;have hq:n / d / 1000000000^m=n / 1000000000^m / d:=by rw[wu,wu,wL]
    rw[hq]at J;have hle:n / 1000000000^m<=n:=xE _ _;obtain⟨u,hu⟩:∃u,n / 1000000000^(m+1)=u:=⟨_,rfl⟩;obtain⟨w,O⟩:∃w,n / 1000000000^m=w:=⟨_,rfl⟩;rw[hu]at t7;rw[hu,O]at a6;rw[O]at f6 J hle;have hw:w%1000000000<1000000000:=vX _ (by decide);have hr:u%d<d:=vX _ (by omega);have hx:u%d*1000000000+w%1000000000<d*1000000000:=by omega
    have S:w=d*1000000000*(u / d)+(u%d*1000000000+w%1000000000):=by
     have:=Nat.div_add_mod u d;have h3:d*(u / d)*1000000000=d*1000000000*(u / d):=by rw[Nat.mul_right_comm]
     omega
    obtain⟨x,a7⟩:∃x,u%d*1000000000+w%1000000000=x:=⟨_,rfl⟩;rw[a7]at S hx;have a8:w / d%1000000000=x / d:=by
     have h1:w / d=1000000000*(u / d)+x / d:=by
      rw[S,vG,wQ,Nat.add_mul_div_left _ _ (by omega),wQ]
     have h2:x / d<1000000000:=Nat.div_lt_of_lt_mul hx;rw[h1];generalize x / d=q at h2⊢;generalize u / d=p;omega
    have b2:w%d=x%d:=by
     rw[S,vG,wQ,Nat.add_mul_mod_self_left]
    have f7:=ZU (n:=(m:Int) - 1);have f8:=ZU (n:=((u%d:Nat):Int)*1000000000);have g9:((u%d:Nat):Int)*1000000000+((w%1000000000:Nat):Int)=(x:Int):=by omega
    have f9:=ZU (n:=(x:Int));have c1:¬(d:Int)=0:=by omega
    have c2:(x:Int).tdiv (d:Int)=((x / d:Nat):Int):=by rw[yB (by omega)];rfl
    have c3:(x:Int).tmod (d:Int)=((x%d:Nat):Int):=by rw[xC (by omega)];rfl
    have b4:x / d<=x:=xE _ _;have c4:=ZU (n:=((x / d:Nat):Int));have c5:m<(rep (m+1) [I 0]++((pad (n / d) (dg n).length).drop (m+1)).flatMap cI).length:=by rw[zo,fQ];simp;omega
    have c6:=MB m (I 0) (I (x / d:Nat)) (((pad (n / d) (dg n).length).drop (m+1)).flatMap cI);refine .inl ⟨_,by simp only[go_sem,t0,t1,t6,t8,t7,E,f0,f3,f5,f6,f7,f8,f9,g9,c1,c2,c3,c4,c5,c6];rfl,m,by omega,?_⟩;simp only[go_sem,t0,t1,t6];refine⟨by rw[O,b2],by omega,?_⟩;rw[J,a8];rfl) (dg n).length ⟨by simp only[go_sem],by simp only[go_sem],by simp only[go_sem],by simp only[go_sem],by simp only[go_sem,oS,Nat.zero_mod],zq _,by simp only[go_sem];rw[yA (by rw[iL];exact zq _)];simp⟩
 .have b3:fn ZM conv ext 243 [.ts ((pad (n / d) (dg n).length).flatMap cI) (dg n).length]=some (LI (dg (n / d))):=by
   have hl:(pad (n / d) (dg n).length).length=(dg n).length:=iL _ _;unfold LI at Y;rw[hl]at Y;exact Y
  have pl:(pad (n / d) (dg n).length).length=(dg n).length:=iL _ _;have tk:List.take (dg n).length ((pad (n / d) (dg n).length).flatMap cI)=(pad (n / d) (dg n).length).flatMap cI:=by
   have:=qK (pad (n / d) (dg n).length)
   rwa [pl]at this
  simp only[go_sem,h6,h7,E,pl,tk,b3]
 .exact Nat.lt_of_le_of_lt (xE _ _) (by
   have:=oS n;exact(Nat.div_eq_zero_iff_lt (Nat.pow_pos (by decide))).mp this)
theorem oN{d:Nat}(E:d≠0)(h:d<1000000000):dg d=[(d:Int)]:=by
 rw[oM E,vF h,oJ,wK h]
theorem QH(n:Nat):(dg n=[1])↔n=1:=by
 constructor
 .intro h
  by_cases E:n=0
  .subst E;rw[oJ]at h;cases h
  .rw[oM E]at h
   obtain⟨J,G⟩:=List.cons.inj h;have:n / 1000000000=0:=zf fun hn=>oO hn G
   omega
 .rintro rfl;rw[oN (by decide) (by decide)];rfl
theorem acg(neg:Bool)(a:List Int):fn ZM conv ext 177 [Bo neg,LI a]=some (.agg [Bo (neg && decide (0<a.length)),LI a]):=by
 rw[mJ,nC [.cell 4 171] [] func177]
 by_cases h:0<a.length
 .have E:(0:Int)<(a.length:Int):=by omega
  cases neg<;>simp only[go_sem,h,E]
 .have E:¬(0:Int)<(a.length:Int):=by omega
  cases neg<;>simp only[go_sem,h,E]
theorem u3:ZM.underlying 3=some (.int .i64):=Tryz.underlying3
theorem asR:ZM.underlying 193=some (.int .u64):=Tryz.underlying193
theorem ayD(k:IntKind)(n:Int)(σ:Store):Bv ZM 3 193 (.sc (.int k n)) σ=some (.sc (.int .u64 (IntKind.u64.wrap n))):=JV u3 asR
theorem ayE(k:IntKind)(n:Int)(σ:Store):Bv ZM 193 3 (.sc (.int k n)) σ=some (.sc (.int .i64 (IntKind.i64.wrap n))):=JV asR u3
attribute [go_sem] ayD ayE
theorem Tq(n:Nat)(hn:n<=18446744073709551615):fn ZM conv ext 184 [.sc (.int .u64 n)]=some (LI (dg n)):=by
 rw[mJ,nC [.tmp 2] [] func184];simp only[go_sem];generalize hL:iI _ _=y;obtain⟨r,rfl,T',σ',nx',rfl,hr⟩:=jS hL (fun m st=>st.T 0= .sc (.int .u64 m)/\∃acc,Grow st.T st.σ st.nx 3 acc/\dg n=acc++dg m/\1000000000^acc.length*m<=n)
  (fun r=>∃T σ nx,r=(.exit 0,⟨T,σ,nx⟩)/\Grow T σ nx 3 (dg n)) (by
   clear hL;rintro m ⟨T,σ,nx⟩ ⟨G,acc,E,J,hp⟩;simp only at G E
   by_cases hm:m=0
   .subst hm
    have f0:¬(0:Int)<0:=by omega
    refine .inr ⟨_,by simp only[go_sem,G,f0];rfl,by simp,_,_,_,rfl,?_⟩;rw[oJ,zH]at J;rw[J]
    simpa only[Grow,go_sem]using E
   .have f0:(0:Int)<(m:Int):=by omega
    have hk:=acf hp (by omega) (by omega);have a1:m<=n:=zL (t_ _ (Nat.pow_pos (by decide))) hp;have f1:(m:Int).tmod 1000000000=((m%1000000000:Nat):Int):=by rw[xC (by omega)];omega
    have f2:IntKind.u64.wrap ((m:Int).tdiv 1000000000)=((m / 1000000000:Nat):Int):=by
     rw[yB (by omega)];rw[ZT (by omega) (by omega)];omega
    have f3:=ZU (n:=((m%1000000000:Nat):Int));have O:dg n=(acc++[((m%1000000000:Nat):Int)])++dg (m / 1000000000):=by rw[J,oM hm];simp
    have S:1000000000^(acc++[((m%1000000000:Nat):Int)]).length*(m / 1000000000)<=n:=by
     rw[zo,yV,uq,vG];exact zL (tu _ (Nat.mul_div_le _ _)) hp
    have Y:m / 1000000000<m:=tJ (by omega) (by decide);obtain⟨σ',ha,hs⟩:=kW E ((m%1000000000:Nat):Int) (by omega);refine .inl ⟨_,by simp only[go_sem,G,f0,f1,f2,f3,ha];rfl,_,Y,?_,_,?_,O,S⟩
    .simp only[go_sem]
    .exact kS hs (by simp[go_sem]) (by simp)) n ⟨by simp only[go_sem],[],.inl ⟨by simp only[go_sem],rfl⟩,rfl,by simp⟩
 obtain⟨ids,h1⟩:=kR hr 6;simp only[go_sem,h1]
theorem aoF(n:Nat)(hn:n<=9223372036854775807):fn ZM conv ext 184 [.sc (.int .u64 n)]=some (LI (dg n)):=Tq n (by omega)
theorem aaQ(x:Int):fn ZM conv ext 244 [I x]=some (Bo (!inB x 0 999999999)):=by
 rw[mJ,nC [.tmp 2] [] func244]
 by_cases h:x<0
 .have:inB x 0 999999999=false:=by unfold inB;rw[sH (by omega)];rfl
  rw[this];simp only[go_sem,h]
 .have:inB x 0 999999999=decide (x<=999999999):=by unfold inB;rw[sJ (by omega),xY]
  rw[this]
  by_cases E:1000000000<=x
  .rw[sH (by omega)]
   simp only[go_sem,h,E]
  .rw[sJ (by omega)]
   simp only[go_sem,h,E]
theorem ahe(a:List Int)(ha:Short a):fn ZM conv ext 229 [LI a]=some (Bo (pb (Di a))):=by
 unfold Short at ha;have hc:=aaL a 244 (fun x=> !inB x 0 999999999) (by unfold maxLen;omega) (by rfl) (fun x _=>aaQ x);rw[mJ,nC [.tmp 2] [] func229]
 by_cases S:(60:Int)<(a.length:Int)
 .rw[iD (fun hn:Di a=>by have:=hn.2.1;omega)]
  simp only[go_sem,S]
 have hg:(Bl a=a)->pb (Di a)= !decide (0<=ix (fun x=> !inB x 0 999999999) a):=fun Y=>by
  refine(QD ?_).symm;rw[vT,decide_eq_false_iff_not,Int.not_le,KW];exact⟨fun hq=>⟨fun x hx=>by simpa using hq x hx,by omega,Y⟩,fun hq m hm=>by simp[hq.1 m hm]⟩
 by_cases G:a=[]
 .have Y:Bl a=a:=by rw[G];rfl
  rw[hg Y];subst G;have:¬(0:Int)<0:=by decide
  have a1:¬(60:Int)<0:=by decide
  have a6:fn ZM conv ext 82 [.ts [] 0,.clo 244 []]=some (Bo (decide (0<=ix (fun x=> !inB x 0 999999999) []))):=hc
  simp only[go_sem,this,a1,a6]
 .have J:0<a.length:=List.length_pos_iff.mpr G
  have c0:(0:Int)<(a.length:Int):=by omega
  have f1:=ZU (n:=(a.length:Int) - 1);have f2:(0:Int)<=(a.length:Int) - 1:=by omega
  have f3:(a.length:Int) - 1<(a.length:Int):=by omega
  have f4:((a.length:Int) - 1).toNat=a.length-1:=by omega
  have f5:=idx (xs:=a) (k:=a.length-1) (by omega);have f9:=Ba a 0 J
  by_cases O:a[a.length-1]=0
  .have E:(a[a.length-1]==(0:Int))=true:=by simpa using O
   rw[iD (fun hn:Di a=>(J4 G).mp hn.2.2 O)];simp only[go_sem,S,c0,f1,f2,f3,f4,f5,f9,E]
  .have E:(a[a.length-1]==(0:Int))=false:=by simpa using O
   rw[hg ((J4 G).mpr O)];simp only[go_sem,S,c0,f1,f2,f3,f4,f5,f9,E,hc]
theorem aeO(neg:Bool)(a:List Int)(ha:Short a):fn ZM conv ext 228 [.agg [Bo neg,LI a]]=some (Bo (pb (Di a) && !(neg && decide (a=[])))):=by
 have G:=ahe a ha;rw[mJ,nC [.tmp 2] [] func228];generalize pb (Di a)=b at *
 by_cases h:a=[]
 .subst h
  have E:fn ZM conv ext 229 [.ts [] 0]=some (Bo b):=G
  cases b<;>cases neg<;>simp only[go_sem,E]<;>rfl
 .have J:((a.length:Int)==0)=false:=by simpa using h
  rw[sH h];cases b<;>cases neg<;>simp only[go_sem,G,J]<;>rfl
def Bg(m n:Nat):Int:=if m<n then -1 else if m=n then 0 else 1
theorem ahf{n:Nat}:n<1000000000^(dg n).length:=(Nat.div_eq_zero_iff_lt (Nat.pow_pos (by decide))).mp (oS n)
theorem asT{n k:Nat}(h:k<(dg n).length):1000000000^k<=n:=by
 have E:=Tn n k;rw[yS h]at E;have G:n / 1000000000^k≠0:=fun e=>by rw[e,oJ]at E;cases E
 exact zf fun hn=>G (vF (by omega))
theorem oP{m n:Nat}(h:(dg m).length<(dg n).length):m<n:=xQ ahf (asT h)
theorem jR{m n j:Nat}(E:m / 1000000000^(j+1)=n / 1000000000^(j+1))(G:m / 1000000000^j%1000000000<n / 1000000000^j%1000000000):m<n:=by
 have a:=oL m j;have b:=oL n j;rw[E]at a;have:m / 1000000000^j<n / 1000000000^j:=by omega
 exact zf fun hn=>by
  have:=Nat.div_le_div_right (c:=1000000000^j) (show n<=m by omega);omega
theorem kN(m n:Nat)(l1:(dg m).length<=1000000)(l2:(dg n).length<=1000000):fn ZM conv ext 175 [LI (dg m),LI (dg n)]=some (I (Bg m n)):=by
 rw[mJ,nC [.tmp 4] [] func175]
 by_cases hl:(dg m).length=(dg n).length
 .have c1:(((dg m).length:Int) !=((dg n).length:Int))=false:=by rw[hl];simp
  have e1:=ZU (n:=((dg m).length:Int) - 1);simp only[go_sem,c1,e1];generalize hL:iI _ _=y;obtain⟨r,rfl,hr⟩:=jS hL (fun k st=>st.nx=0/\st.σ=pI/\st.T 0=LI (dg m)/\st.T 1=LI (dg n)/\st.T 5=I ((k:Int) - 1)/\k<=(dg m).length/\m / 1000000000^k=n / 1000000000^k)
   (fun r=>(∃T,r=(.exit 0,⟨T,pI,0⟩)/\m=n)\/(∃T,r=(.ret,⟨T,pI,0⟩)/\T 4=I (Bg m n))) (by
    clear hL;rintro k ⟨T,σ,nx⟩ ⟨a1,a6,h0,h1,h5,hk,he⟩;simp only at a1 a6 h0 h1 h5;subst a1 a6;cases k with
    |zero=>
     have a7:¬(0:Int)<=0-1:=by omega
     rw[Nat.pow_zero,vK,vK]at he;exact .inr ⟨_,by simp only[go_sem,h5,a7];rfl,by simp,.inl ⟨_,rfl,he⟩⟩
    |succ k=>
     have E:k<(dg m).length:=by omega
     have G:k<(dg n).length:=by omega
     have e5:((k+1:Nat):Int) - 1=(k:Int):=by omega
     rw[e5]at h5;have f0:=jF k;have f3:(k:Int)<((dg m).length:Int):=by omega
     have S:(k:Int)<((dg n).length:Int):=by omega
     have f5:=Ba (dg m) k E;have Y:=Ba (dg n) k G;have f6:=idx E;have O:=idx G;rw[oQ E]at f6;rw[oQ G]at O;have f7:=ZU (n:=(k:Int) - 1)
     by_cases q1:((m / 1000000000^k%1000000000:Nat):Int)<((n / 1000000000^k%1000000000:Nat):Int)
     .have J:m<n:=jR he (by omega)
      have hc:Bg m n= -1:=by unfold Bg;rw[sO J]
      exact .inr ⟨_,by simp only[go_sem,h0,h1,h5,f0,f3,S,f5,Y,f6,O,q1];rfl,by simp,.inr ⟨_,rfl,by simp only[go_sem,hc]⟩⟩
     .by_cases q2:((n / 1000000000^k%1000000000:Nat):Int)<((m / 1000000000^k%1000000000:Nat):Int)
      .have J:n<m:=jR he.symm (by omega)
       have hc:Bg m n=1:=by unfold Bg;rw[sQ (by omega),sQ (by omega)]
       exact .inr ⟨_,by simp only[go_sem,h0,h1,h5,f0,f3,S,f5,Y,f6,O,q1,q2];rfl,by simp,.inr ⟨_,rfl,by simp only[go_sem,hc]⟩⟩
      .have a8:m / 1000000000^k=n / 1000000000^k:=by
        have a:=oL m k;have b:=oL n k;rw[he]at a;omega
       refine .inl ⟨_,by simp only[go_sem,h0,h1,h5,f0,f3,S,f5,Y,f6,O,f7,q1,q2];rfl,k,by omega,?_⟩;simp only[go_sem,h0,h1];exact⟨by omega,a8⟩) (dg m).length ⟨rfl,rfl,by simp only[go_sem],by simp only[go_sem],by simp only[go_sem],zq _,by rw[oS,hl,oS]⟩
  rcases hr with ⟨T,rfl,h⟩|⟨T,rfl,h⟩
  .have hc:Bg m n=0:=by unfold Bg;rw[sQ (by omega),sO h]
   simp only[go_sem,hc]
  .simp only[go_sem,h]
 .have c1:(((dg m).length:Int) !=((dg n).length:Int))=true:=by rw[bne_iff_ne];omega
  by_cases E:((dg m).length:Int)<((dg n).length:Int)
  .have J:m<n:=oP (by omega)
   have hc:Bg m n= -1:=by unfold Bg;rw[sO J]
   simp only[go_sem,c1,E,hc]
  .have J:n<m:=oP (by omega)
   have hc:Bg m n=1:=by unfold Bg;rw[sQ (by omega),sQ (by omega)]
   simp only[go_sem,c1,E,hc]
theorem ahg(m n:Nat)(hm:m<=9223372036854775807)(hn:n<=9223372036854775807):fn ZM conv ext 175 [LI (dg m),LI (dg n)]=some (I (Bg m n)) :=
 kN m n (by have:=oK hm;omega) (by have:=oK hn;omega)
theorem ach(a:List Int)(ha:Short a):fn ZM conv ext 208 [LI a]=some (LI (Bl a)):=by
 unfold Short at ha;rw[mJ,nC [.tmp 2] [] func208];simp only[go_sem];generalize hL:iI _ _=y;obtain⟨r,rfl,T',rfl,S⟩:=jS hL (fun k st=>∃T,st=⟨T,pI,0⟩/\T 0=LI (a.take k)/\k<=a.length/\Bl (a.take k)=Bl a) (fun r=>∃T,r=(.exit 0,⟨T,pI,0⟩)/\T 0=LI (Bl a)) (by
  clear hL;rintro k _ ⟨T,rfl,Y,hk,G⟩;have hl:(a.take k).length=k:=by rw[zh,xX hk]
  cases k with
  |zero=>
   have E:T 0= .ts [] 0:=Y;have f0:¬(0:Int)<0:=by decide
   refine .inr ⟨_,by simp only[go_sem,E,f0];rfl,by simp,_,rfl,?_⟩;simp only[go_sem,E];rw[<- G];rfl
  |succ k=>
   have J:k<a.length:=by omega
   have E:T 0= .ts ((a.take (k+1)).flatMap cI) (k+1):=by rw[Y];show V.ts _ (a.take (k+1)).length=_;rw[hl]
   have f0:(0:Int)<((k+1:Nat):Int):=by omega
   have e5:((k+1:Nat):Int) - 1=(k:Int):=by omega
   have e2:=ZU (n:=(k:Int));have f1:=jF k;have f2:(k:Int)<((k+1:Nat):Int):=by omega
   have f5:=Ba (a.take (k+1)) k (by omega);have f6:=idx (xs:=a.take (k+1)) (k:=k) (by omega);rw[vS]at f6;have f7:k<=k+1:=by omega
   have a1:((a.take (k+1)).flatMap cI).take k=(a.take k).flatMap cI:=by rw[qL,List.take_take,xX f7]
   rw[aH J,Zp]at G
   by_cases O:a[k]=0
   .have fx:(a[k]==(0:Int))=true:=by simpa using O
    rw[sO O]at G;refine .inl ⟨_,by simp only[go_sem,E,f0,e5,e2,f1,f2,f5,f6,f7,a1,fx,wF];rfl,k,by omega,_,rfl,?_,by omega,G⟩;simp only[go_sem];show _=V.ts _ (a.take k).length;rw[zh,xX (by omega)]
   .have fx:(a[k]==(0:Int))=false:=by simpa using O
    rw[sQ O]at G;refine .inr ⟨_,by simp only[go_sem,E,f0,e5,e2,f1,f2,f5,f6,f7,fx];rfl,by simp,_,rfl,?_⟩;simp only[go_sem];rw[Y,<- G,aH J]) a.length ⟨_,rfl,by simp only[go_sem];rw[yT],zq _,by rw[yT]⟩
 simp only[go_sem,S]
theorem akX{n:Nat}:(Bg n 1==0)=decide (n=1):=by
 unfold Bg
 by_cases h:n<1
 .rw[sO h,sH (by omega)];rfl
 .rw[sQ h]
  by_cases E:n=1
  .rw[sO E,sJ E];rfl
  .rw[sQ E,sH E];rfl
theorem asU(n:Nat)(hn:n<=9223372036854775807):fn ZM conv ext 175 [LI (dg n),.ts [I 1] 1]=some (I (Bg n 1)):=by
 have:=ahg n 1 hn (by decide);rw[oN (d:=1) (by decide) (by decide)]at this;exact this
def ahh(neg:Bool)(m n:Nat):List V:=[Bo (neg && decide (0<(dg (m / Nat.gcd m n)).length)),LI (dg (m / Nat.gcd m n)),LI (dg (n / Nat.gcd m n))]
theorem aoH{P:Program}{t e:TypeId}{x y:Operand}{row:List V}{off:Nat}(h:P.underlying t=some (.pointer e)):Am P .eql t x y (.tp row off) (.sc (.pointer none))=some (Bo false):=by
 simp only[Am,toVal,h];rfl
theorem ptrEq(x y:Operand)(row:List V)(off:Nat):Am ZM .eql 133 x y (.tp row off) (.sc (.pointer none))=some (Bo false):=aoH Tryz.underlying133
attribute [go_sem] ptrEq
theorem aoI(b:Bool)(xs:List Int)(E:xs.length<=60):fn ZM conv ext 151 [.agg [Bo b,LI xs]]=some (.agg [Bo b,LI xs]):=by
 have c1:¬(60:Int)<(xs.length:Int):=by omega
 have k:=aaJ xs (by omega);rw[mJ,nC [.cell 2 171] [] func151];simp only[go_sem,c1,k]
theorem aoJ(b:Bool)(xs E:List Int)(O:xs.length<=24)(S:E.length<=24):fn ZM conv ext 112 [.tp [Bo b,LI xs,LI E] 0]=some (.agg [Bo b,LI xs,LI E]):=by
 have G:=aoI b xs (by omega);have J:=aaJ E (by omega);rw[mJ,nC [.cell 2 173] [] func112];simp only[go_sem,G,J]
abbrev cB(n:Int):List V:=[.sc (.int .u8 n)]
theorem u8t:ZM.underlying 5=some (.int .u8):=Tryz.underlying5
theorem ayF(k:IntKind)(n:Int)(σ:Store):Bv ZM 5 3 (.sc (.int k n)) σ=some (.sc (.int .i64 (IntKind.i64.wrap n))):=JV u8t u3
attribute [go_sem] ayF
def QI(xs:List Int)(i h:Int)(st:Nat):Fv:=⟨[LL cB xs,I i,I h],st,true⟩
theorem aoK(xs:List Int)(Y:∀x∈xs,0<=x/\x<=255)(hl:xs.length<=1048576)(i h:Int)(hi:0<=i/\i<=xs.length) :
  ∃r J h',(∀(b st nx:Nat) (σ:Store),σ b=some (QI xs i h st)->b<nx->ev ZM conv ext 29 [.rp b 0] σ nx=some (I r,upd σ b (some (QI xs J h' st)),nx))/\(0<=r/\r<=255)/\0<=J/\J<=xs.length:=by
 have S:¬(33:Int)<0:=by decide
 have z2:¬(45:Int)<0:=by decide
 by_cases G:i<xs.length
 .obtain⟨k,rfl⟩:∃k:Nat,i=k:=⟨i.toNat,by omega⟩
  have O:k<xs.length:=by omega
  have f0:=jF k;have f5:=bg (c:=cB) (s:=1) (fun _=>rfl) (by omega) xs k O;have f6:(xs.flatMap cB)[k]?=some (.sc (.int .u8 xs[k])):=cu (fun n:Int=> .sc (.int .u8 n)) xs k O;have a1:=Y xs[k] (zu O);have w1:=ZU (n:=xs[k]);have w2:=ZU (n:=(k:Int)+1);have w3:=fun a:Int=>ZU (n:=aaH a+xs[k]) (by have:=qp a;omega) (by have:=qp a;omega)
  exact⟨_,(k:Int)+1,_,fun b st nx σ E hb=>by unfold QI at E;rw[nC [.tmp 2] [] func29];simp only[go_sem,E,hb,S,z2,G,f0,f5,f6,w1,w2,w3];rfl,qp _,by omega,by omega⟩
 .exact⟨_,i,_,fun b st nx σ E hb=>by unfold QI at E;rw[nC [.tmp 2] [] func29];simp only[go_sem,E,hb,S,z2,G];rfl,qp _,hi.1,hi.2⟩
theorem sNew(xs:List Int)(hx:∀x∈xs,0<=x/\x<=255)(hl:xs.length<=1048576)(nx:Nat)(σ:Store) :
  ∃h,ev ZM conv ext 27 [LL cB xs] σ nx=some (.rp nx 0,upd σ nx (some (QI xs 0 h 0)),nx+1):=by
 have w0:=ZU (n:=1975+(xs.length:Int));rw[nC [.tmp 2] [] func27];simp only[go_sem,w0];generalize hL:iI _ _=y;obtain⟨r,rfl,T',g,rfl,E,J⟩:=oZ hL xs.length (fun k st=>st.nx=nx/\st.σ=σ/\st.T 0=LL cB xs/\(∃g,st.T 3=I g)/\st.T 4=I k)
  (fun r=>∃T g,r=(.exit 0,⟨T,σ,nx⟩)/\T 0=LL cB xs/\T 3=I g) (by
   clear hL;rintro k ⟨T,σ,nx⟩ O ⟨hn,G,E,⟨g,J⟩,S⟩;simp only at hn G E J S;subst hn G;have f1:(k:Int)<(xs.length:Int):=by omega
   have f2:=jF k;have f3:=ZU (n:=(k:Int)+1);have f5:=bg (c:=cB) (s:=1) (fun _=>rfl) (by omega) xs k O;have f6:(xs.flatMap cB)[k]?=some (.sc (.int .u8 xs[k])):=cu (fun n:Int=> .sc (.int .u8 n)) xs k O;have a1:=hx xs[k] (zu O);have w1:=ZU (n:=xs[k])
   by_cases Y:(k:Int)<4000
   .refine .inl ⟨_,by simp only[go_sem,E,J,S,f1,f2,f3,f5,f6,w1,Y];rfl,?_⟩
    simp only[go_sem,E];exact⟨⟨_,rfl⟩,rfl⟩
   .refine .inr ⟨_,by simp only[go_sem,E,S,f1,Y];rfl,by simp,_,g,rfl,?_,?_⟩<;>simp only[go_sem,E,J]) (by
   clear hL;rintro ⟨T,σ,nx⟩ ⟨hn,G,E,⟨g,J⟩,S⟩;simp only at hn G E J S;subst hn G;refine⟨_,by simp only[go_sem,E,S,zi];rfl,by simp,_,g,rfl,?_,?_⟩<;>simp only[go_sem,E,J]) (by
   simp only[go_sem];exact⟨_,rfl⟩)
 refine⟨g,?_⟩;unfold QI;simp only[go_sem,E,J]
def vl:List Int->Int
 |[]=>0
 |x :: xs=>x+1000000000*vl xs
def bp(n:Nat):Int:=1000000000^n
theorem Tt:bp 0=1:=rfl
theorem qW(n:Nat):bp (n+1)=1000000000*bp n:=by unfold bp;rw[Int.pow_succ,Int.mul_comm]
theorem qX(n:Nat):0<bp n:=Int.pow_pos (by decide)
theorem Tv(m n:Nat):bp (m+n)=bp m*bp n:=by unfold bp;rw[Int.pow_add]
theorem qY(n:Nat):bp n=((1000000000^n:Nat):Int):=by unfold bp;rw[Int.natCast_pow];rfl
def Dg(xs:List Int):Prop:=∀x∈xs,0<=x/\x<1000000000
theorem Dg.nil:Dg []:=fun x h=>by cases h
theorem Dg.cons{x:Int}{xs:List Int}(h:Dg (x :: xs)):(0<=x/\x<1000000000)/\Dg xs:=⟨h x zO,fun y E=>h y (zY _ E)⟩
theorem Dg.app{xs E:List Int}(h:Dg xs)(G:Dg E):Dg (xs++E):=fun x J=>(List.mem_append.mp J).elim (h x) (G x)
theorem Dg.snoc{xs:List Int}{y:Int}(h:Dg xs)(G:0<=y)(J:y<1000000000):Dg (xs++[y]):=h.app fun x E=>by
 rw[yD]at E;subst E;exact⟨G,J⟩
theorem Dg.take{xs:List Int}(h:Dg xs)(n:Nat):Dg (xs.take n):=fun x E=>h x (wR E)
theorem Dg.drop{xs:List Int}(h:Dg xs)(n:Nat):Dg (xs.drop n):=fun x E=>h x (uJ E)
theorem Dg.get{xs:List Int}(h:Dg xs){k:Nat}(E:k<xs.length):0<=xs[k]/\xs[k]<1000000000:=h _ (zu E)
theorem oU(n:Nat):Dg (dg n):=fun x E=>by have:=aaN n x E;omega
theorem Zf(n:Nat):vl (dg n)=n:=by
 induction n using Nat.strongRecOn with
 |_ n E=>
  by_cases h:n=0
  .subst h;rw[oJ];rfl
  .rw[oM h]
   show _+1000000000*vl _=_;rw[E _ (tJ (by omega) (by decide))];omega
theorem aaR(xs E:List Int):vl (xs++E)=vl xs+bp xs.length*vl E:=by
 induction xs with
 |nil=>simp[vl,Tt]
 |cons x xs G=>
  rw[yR,zV,qW];show _+1000000000*vl _=(_+1000000000*vl xs)+_;rw[G,xg,uh];omega
theorem Zc(xs:List Int)(y:Int):vl (xs++[y])=vl xs+bp xs.length*y:=by
 rw[aaR];simp[vl]
theorem Zd{xs:List Int}(h:Dg xs):0<=vl xs:=by
 induction xs with
 |nil=>exact xP _
 |cons x xs E=>
  have:=h.cons;have:=E this.2;show 0<=x+1000000000*vl xs;omega
theorem Ze{xs:List Int}(h:Dg xs):vl xs<bp xs.length:=by
 induction xs with
 |nil=>exact qX 0
 |cons x xs E=>
  have:=h.cons;have:=E this.2;rw[zV,qW];show x+1000000000*vl xs<_;omega
theorem aci{xs:List Int}(h:Dg xs):Bl xs=dg (vl xs).toNat:=by
 induction xs with
 |nil=>show Bl []=dg 0;rw[oJ];rfl
 |cons x xs J=>
  have E:=h.cons;have h2:=Zd E.2;have O:vl (x :: xs)=x+1000000000*vl xs:=rfl;rw[Zu,J E.2,O]
  by_cases S:vl xs=0
  .rw[S,show(0:Int).toNat=0 from rfl,oJ,sO rfl]
   by_cases G:x=0
   .subst G;rw[sO rfl,vk,uQ]
    show _=dg 0;rw[oJ]
   .rw[sQ G,vk,uQ,oN (by omega) (by omega)]
    rw[uZ (by omega)]
  .rw[sQ (oO (by omega)),oM (n:=(x+1000000000*vl xs).toNat) (by omega)]
   have Y:(((x+1000000000*vl xs).toNat%1000000000:Nat):Int)=x:=by omega
   have e2:(x+1000000000*vl xs).toNat / 1000000000=(vl xs).toNat:=by omega
   rw[Y,e2]
theorem CW{xs:List Int}{n:Nat}(h:Dg xs)(E:vl xs=n):Bl xs=dg n:=by rw[aci h,E];rfl
theorem aaS(n:Nat):vl (List.replicate n 0)=0:=by
 induction n with
 |zero=>rfl
 |succ n E=>rw[xu];show 0+1000000000*vl _=0;rw[E];rfl
theorem Za{xs:List Int}{k:Nat}(h:k<xs.length):vl (xs.take (k+1))=vl (xs.take k)+bp k*xs[k]:=by
 rw[aH h,Zc,zh,xX (by omega)]
theorem acj{xs:List Int}{k:Nat}(h:k<xs.length):vl (xs.drop k)=xs[k]+1000000000*vl (xs.drop (k+1)):=by
 rw[yS h];rfl
theorem Zb(xs:List Int){k:Nat}(h:k<=xs.length):vl xs=vl (xs.take k)+bp k*vl (xs.drop k):=by
 have:=aaR (xs.take k) (xs.drop k);rw[vB,zh,xX h]at this;exact this
def ln(n:Nat):Nat:=(dg n).length
theorem jU:ln 0=0:=by unfold ln;rw[oJ];rfl
theorem jd{n k:Nat}:ln n<=k↔(n:Int)<bp k:=by
 constructor
 .intro h
  have E:=Ze (oU n);rw[Zf]at E;have G:bp (dg n).length<=bp k:=by
   rw[qY,qY];exact Int.ofNat_le.mpr (Nat.pow_le_pow_right (by decide) h)
  omega
 .intro h
  rw[qY]at h;exact aaM k n (Int.ofNat_lt.mp h)
theorem jc{m n:Nat}(h:m<=n):ln m<=ln n:=by
 have:=(jd (n:=n)).mp (zq _);exact jd.mpr (by omega)
theorem jZ(m n:Nat):ln (m*n)<=ln m+ln n:=by
 refine jd.mpr ?_;rw[Tv,yj];have E:=(jd (n:=m)).mp (zq _);have G:=(jd (n:=n)).mp (zq _);have J:(m:Int)*n<=(bp (ln m) - 1)*n:=zS (by omega) (by omega);have O:=qX (ln m);have S:(bp (ln m) - 1)*n<=(bp (ln m) - 1)*(bp (ln n) - 1):=zB (by omega) (by omega);have Y:(bp (ln m) - 1)*(bp (ln n) - 1)=bp (ln m)*bp (ln n) - bp (ln m) - bp (ln n)+1:=by
  rw[uF,uw];omega
 have h7:=qX (ln n);omega
theorem aoL(m n:Nat):ln (m+n)<=max (ln m) (ln n)+1:=by
 refine jd.mpr ?_;rw[qW];have E:=(jd (n:=m) (k:=max (ln m) (ln n))).mp (vP _ _);have G:=(jd (n:=n) (k:=max (ln m) (ln n))).mp (wJ _ _);omega
theorem jW{n:Nat}(h:n≠0):0<ln n:=List.length_pos_iff.mpr (oO h)
theorem jV{n:Nat}(h:n<1000000000):ln n<=1:=jd.mpr (by show(n:Int)<1000000000;omega)
theorem aoM{n:Nat}(h:n<=9223372036854775807):ln n<=3:=oK h
theorem dD{n:Nat}(h:ln n<=1000000):Short (dg n):=by unfold ln at h;unfold Short;omega
def FW(o:List Int)(k:Nat):List V:=o.flatMap cI++rep k [I 0]
theorem mY(o:List Int)(k:Nat):(FW o k).length=o.length+k:=by unfold FW;rw[zo,qN,fQ];simp
theorem mZ(o:List Int):FW o 0=o.flatMap cI:=by simp[FW,rep]
theorem mX(o:List Int)(k:Nat)(x:Int){i:Nat}(h:o.length=i):(FW o (k+1)).set i (I x)=FW (o++[x]) k:=by
 subst h;unfold FW;rw[xO _ _ (by rw[qN];exact zq _),qN,yM,fP,zQ];simp
theorem qC{P x q n v:Int}(h:x+1000000000*q=n):v+P*x+1000000000*P*q=v+P*n:=by subst h;grind
theorem aG{n:Int}(h:0<=n):n.tmod 1000000000=n%1000000000/\n.tdiv 1000000000=n / 1000000000 :=
 ⟨xC h,yB h⟩
theorem jQ{k:Nat}(h:k<=3000000):(8:Int)*(k:Int)<=281474976710656/\(k:Int)<=9223372036854775807/\(0:Int)<=(k:Int):=by omega
theorem qV{xs:List Int}{k:Nat}(h:xs.length<=k):xs.take (k+1)=xs.take k:=by rw[zl (by omega),zl h]
theorem asV(m n:Nat)(hm:ln m<=1000000)(hn:ln n<=1000000):fn ZM conv ext 209 [LI (dg m),LI (dg n)]=some (LI (dg (m+n))):=by
 unfold ln at hm hn;rw[mJ,nC [.tmp 4] [] func209]
 by_cases hc:((dg m).length:Int)<((dg n).length:Int)
 .have b2:(dg m).length<=(dg n).length:=by omega
  obtain⟨e1,e2,e3⟩:=jQ (k:=(dg n).length+1) (by omega);have e0:((dg n).length:Int)+1=(((dg n).length+1:Nat):Int):=by omega
  have e4:=ZU (n:=(((dg n).length+1:Nat):Int)) (by omega) (by omega);simp only[go_sem,hc,e0,e1,e2,e3,e4];generalize hL:iI _ _=y;obtain⟨r,rfl,T',σ',nx',c,o,rfl,h0,h5,h6,E,G,Y,hd,hv,a1,a7⟩:=oZ hL (dg n).length (fun k st=>st.T 0=LI (dg n)/\st.T 1=LI (dg m)/\st.T 5= .rs 0 0 ((dg n).length+1)/\st.T 20=LI (dg n)/\st.T 21=I (dg n).length/\st.T 22=I k/\0<st.nx/\∃c o,st.T 6=I c/\st.σ 0=some ⟨FW o ((dg n).length+1-k),1,true⟩/\o.length=k/\Dg o/\vl o+bp k*c=vl ((dg n).take k)+vl ((dg m).take k)/\0<=c/\c<=1)
   (fun r=>∃T σ nx c o,r=(.exit 0,⟨T,σ,nx⟩)/\T 0=LI (dg n)/\T 5= .rs 0 0 ((dg n).length+1)/\T 6=I c/\0<nx/\σ 0=some ⟨FW o 1,1,true⟩/\o.length=(dg n).length/\Dg o/\vl o+bp (dg n).length*c=(m+n:Nat)/\0<=c/\c<=1) (by
    clear hL;rintro k ⟨T,σ,nx⟩ a6 ⟨h0,h1,h5,O,J,S,E,c,o,h6,G,Y,hd,hv,a1,a7⟩;simp only at h0 h1 h5 O J S E h6 G;have f1:(k:Int)<((dg n).length:Int):=by omega
    have f2:=jF k;have f3:=ZU (n:=(k:Int)+1);have f5:=Ba (dg n) k a6;have f6:=idx a6;have f7:(k:Int)<(((dg n).length+1:Nat):Int):=by omega
    obtain⟨x,hx⟩:∃x,x=(dg n)[k]:=⟨_,rfl⟩;have xr:=(oU n).get a6;rw[<- hx]at f6 xr;obtain⟨g,hg⟩:∃g,(dg n).length+1-k=g+1:=⟨(dg n).length-k,by omega⟩;have a8:(dg n).length+1 - (k+1)=g:=by omega
    rw[hg]at G;have c5:k<(FW o (g+1)).length:=by rw[mY];omega
    have v1:=Za a6;rw[<- hx]at v1
    by_cases hB:k<(dg m).length
    .have f8:(k:Int)<((dg m).length:Int):=by omega
     have f9:=Ba (dg m) k hB;have f10:=idx hB;obtain⟨z,hz⟩:∃z,z=(dg m)[k]:=⟨_,rfl⟩;have zr:=(oU m).get hB;rw[<- hz]at f10 zr;have v2:=Za hB;rw[<- hz]at v2;have w1:=ZU (n:=x+c);have w2:=ZU (n:=x+c+z);obtain⟨q1,q2⟩:=aG (n:=x+c+z) (by omega);have w3:=ZU (n:=(x+c+z) / 1000000000);have c6:=mX o g ((x+c+z)%1000000000) Y;refine .inl ⟨_,by simp only[go_sem,h0,h1,h5,h6,O,J,S,E,G,f1,f2,f3,f5,f6,f7,f8,f9,f10,w1,w2,w3,q1,q2,c5,c6];rfl,?_⟩;simp only[go_sem,h0,h1,h5,O,J,a8];refine⟨rfl,E,_,_,rfl,rfl,by simp[Y],hd.snoc (by omega) (by omega),?_,by omega,by omega⟩;rw[Zc,Y,qW,v1,v2,qC (n:=x+c+z) (by omega),xg,xg];omega
    .have f8:¬(k:Int)<((dg m).length:Int):=by omega
     have v2:=qV (xs:=dg m) (k:=k) (by omega);have w1:=ZU (n:=x+c);obtain⟨q1,q2⟩:=aG (n:=x+c) (by omega);have w3:=ZU (n:=(x+c) / 1000000000);have c6:=mX o g ((x+c)%1000000000) Y;refine .inl ⟨_,by simp only[go_sem,h0,h1,h5,h6,O,J,S,E,G,f1,f2,f3,f5,f6,f7,f8,w1,w3,q1,q2,c5,c6];rfl,?_⟩;simp only[go_sem,h0,h1,h5,O,J,a8];refine⟨rfl,E,_,_,rfl,rfl,by simp[Y],hd.snoc (by omega) (by omega),?_,by omega,by omega⟩;rw[Zc,Y,qW,v1,v2,qC (n:=x+c) (by omega),xg];omega) (by
    clear hL;rintro ⟨T,σ,nx⟩ ⟨h0,h1,h5,O,J,S,E,c,o,h6,G,Y,hd,hv,a1,a7⟩;simp only at h0 h1 h5 O J S E h6 G;refine⟨_,by simp only[go_sem,J,S,zi];rfl,by simp,_,_,_,c,o,rfl,by simp only[go_sem,h0],by simp only[go_sem,h5],by simp only[go_sem,h6],E,?_,Y,hd,?_,a1,a7⟩
    .rw[G,show(dg n).length+1 - (dg n).length=1 by omega]
    .rw[hv,yT,zl b2,Zf,Zf];omega) (by
    simp only[go_sem];exact⟨0,[],rfl,rfl,rfl,Dg.nil,by simp[vl],xP _,by decide⟩)
  have c5:(dg n).length<(FW o (0+1)).length:=by rw[mY];omega
  have c6:=mX o 0 c Y;have f2:(0:Int)<=((dg n).length:Int):=by omega
  have f7:((dg n).length:Int)<(((dg n).length+1:Nat):Int):=by omega
  have hD:Dg (o++[c]):=hd.snoc a1 (by omega);have ht:=ach (o++[c]) (by unfold Short;simp;omega);rw[CW (n:=m+n) hD (by rw[Zc,Y,hv])]at ht;have hl:(o++[c]).length=(dg n).length+1:=by simp[Y]
  have b3:fn ZM conv ext 208 [.ts ((o++[c]).flatMap cI) ((dg n).length+1)]=some (LI (dg (m+n))):=by rw[<- hl];exact ht
  have tk:List.take ((dg n).length+1) ((o++[c]).flatMap cI)=(o++[c]).flatMap cI:=by rw[<- hl];exact qK _
  have b4:((o++[c]).flatMap cI).length=(dg n).length+1:=by rw[qN,hl]
  have b5:σ' 0=some ⟨FW o (0+1),1,true⟩:=G;simp only[go_sem,h0,h5,h6,E,b5,f2,f7,c5,c6,mZ,b4,tk,b3]
 .have b2:(dg n).length<=(dg m).length:=by omega
  obtain⟨e1,e2,e3⟩:=jQ (k:=(dg m).length+1) (by omega);have e0:((dg m).length:Int)+1=(((dg m).length+1:Nat):Int):=by omega
  have e4:=ZU (n:=(((dg m).length+1:Nat):Int)) (by omega) (by omega);simp only[go_sem,hc,e0,e1,e2,e3,e4];generalize hL:iI _ _=y;obtain⟨r,rfl,T',σ',nx',c,o,rfl,h0,h5,h6,E,G,Y,hd,hv,a1,a7⟩:=oZ hL (dg m).length (fun k st=>st.T 0=LI (dg m)/\st.T 1=LI (dg n)/\st.T 5= .rs 0 0 ((dg m).length+1)/\st.T 20=LI (dg m)/\st.T 21=I (dg m).length/\st.T 22=I k/\0<st.nx/\∃c o,st.T 6=I c/\st.σ 0=some ⟨FW o ((dg m).length+1-k),1,true⟩/\o.length=k/\Dg o/\vl o+bp k*c=vl ((dg m).take k)+vl ((dg n).take k)/\0<=c/\c<=1)
   (fun r=>∃T σ nx c o,r=(.exit 0,⟨T,σ,nx⟩)/\T 0=LI (dg m)/\T 5= .rs 0 0 ((dg m).length+1)/\T 6=I c/\0<nx/\σ 0=some ⟨FW o 1,1,true⟩/\o.length=(dg m).length/\Dg o/\vl o+bp (dg m).length*c=(m+n:Nat)/\0<=c/\c<=1) (by
    clear hL;rintro k ⟨T,σ,nx⟩ a6 ⟨h0,h1,h5,O,J,S,E,c,o,h6,G,Y,hd,hv,a1,a7⟩;simp only at h0 h1 h5 O J S E h6 G;have f1:(k:Int)<((dg m).length:Int):=by omega
    have f2:=jF k;have f3:=ZU (n:=(k:Int)+1);have f5:=Ba (dg m) k a6;have f6:=idx a6;have f7:(k:Int)<(((dg m).length+1:Nat):Int):=by omega
    obtain⟨x,hx⟩:∃x,x=(dg m)[k]:=⟨_,rfl⟩;have xr:=(oU m).get a6;rw[<- hx]at f6 xr;obtain⟨g,hg⟩:∃g,(dg m).length+1-k=g+1:=⟨(dg m).length-k,by omega⟩;have a8:(dg m).length+1 - (k+1)=g:=by omega
    rw[hg]at G;have c5:k<(FW o (g+1)).length:=by rw[mY];omega
    have v1:=Za a6;rw[<- hx]at v1
    by_cases hB:k<(dg n).length
    .have f8:(k:Int)<((dg n).length:Int):=by omega
     have f9:=Ba (dg n) k hB;have f10:=idx hB;obtain⟨z,hz⟩:∃z,z=(dg n)[k]:=⟨_,rfl⟩;have zr:=(oU n).get hB;rw[<- hz]at f10 zr;have v2:=Za hB;rw[<- hz]at v2;have w1:=ZU (n:=x+c);have w2:=ZU (n:=x+c+z);obtain⟨q1,q2⟩:=aG (n:=x+c+z) (by omega);have w3:=ZU (n:=(x+c+z) / 1000000000);have c6:=mX o g ((x+c+z)%1000000000) Y;refine .inl ⟨_,by simp only[go_sem,h0,h1,h5,h6,O,J,S,E,G,f1,f2,f3,f5,f6,f7,f8,f9,f10,w1,w2,w3,q1,q2,c5,c6];rfl,?_⟩;simp only[go_sem,h0,h1,h5,O,J,a8];refine⟨rfl,E,_,_,rfl,rfl,by simp[Y],hd.snoc (by omega) (by omega),?_,by omega,by omega⟩;rw[Zc,Y,qW,v1,v2,qC (n:=x+c+z) (by omega),xg,xg];omega
    .have f8:¬(k:Int)<((dg n).length:Int):=by omega
     have v2:=qV (xs:=dg n) (k:=k) (by omega);have w1:=ZU (n:=x+c);obtain⟨q1,q2⟩:=aG (n:=x+c) (by omega);have w3:=ZU (n:=(x+c) / 1000000000);have c6:=mX o g ((x+c)%1000000000) Y;refine .inl ⟨_,by simp only[go_sem,h0,h1,h5,h6,O,J,S,E,G,f1,f2,f3,f5,f6,f7,f8,w1,w3,q1,q2,c5,c6];rfl,?_⟩;simp only[go_sem,h0,h1,h5,O,J,a8];refine⟨rfl,E,_,_,rfl,rfl,by simp[Y],hd.snoc (by omega) (by omega),?_,by omega,by omega⟩;rw[Zc,Y,qW,v1,v2,qC (n:=x+c) (by omega),xg];omega) (by
    clear hL;rintro ⟨T,σ,nx⟩ ⟨h0,h1,h5,O,J,S,E,c,o,h6,G,Y,hd,hv,a1,a7⟩;simp only at h0 h1 h5 O J S E h6 G;refine⟨_,by simp only[go_sem,J,S,zi];rfl,by simp,_,_,_,c,o,rfl,by simp only[go_sem,h0],by simp only[go_sem,h5],by simp only[go_sem,h6],E,?_,Y,hd,?_,a1,a7⟩
    .rw[G,show(dg m).length+1 - (dg m).length=1 by omega]
    .rw[hv,yT,zl b2,Zf,Zf];omega) (by
    simp only[go_sem];exact⟨0,[],rfl,rfl,rfl,Dg.nil,by simp[vl],xP _,by decide⟩)
  have c5:(dg m).length<(FW o (0+1)).length:=by rw[mY];omega
  have c6:=mX o 0 c Y;have f2:(0:Int)<=((dg m).length:Int):=by omega
  have f7:((dg m).length:Int)<(((dg m).length+1:Nat):Int):=by omega
  have hD:Dg (o++[c]):=hd.snoc a1 (by omega);have ht:=ach (o++[c]) (by unfold Short;simp;omega);rw[CW (n:=m+n) hD (by rw[Zc,Y,hv])]at ht;have hl:(o++[c]).length=(dg m).length+1:=by simp[Y]
  have b3:fn ZM conv ext 208 [.ts ((o++[c]).flatMap cI) ((dg m).length+1)]=some (LI (dg (m+n))):=by rw[<- hl];exact ht
  have tk:List.take ((dg m).length+1) ((o++[c]).flatMap cI)=(o++[c]).flatMap cI:=by rw[<- hl];exact qK _
  have b4:((o++[c]).flatMap cI).length=(dg m).length+1:=by rw[qN,hl]
  have b5:σ' 0=some ⟨FW o (0+1),1,true⟩:=G;simp only[go_sem,h0,h5,h6,E,b5,f2,f7,c5,c6,mZ,b4,tk,b3]
theorem qZ{P x q n v:Int}(h:x=n+1000000000*q):v+P*x-1000000000*P*q=v+P*n:=by subst h;grind
theorem Tz(m n:Nat)(hm:ln m<=1000000)(hle:n<=m):fn ZM conv ext 210 [LI (dg m),LI (dg n)]=some (LI (dg (m-n))):=by
 have a7:(dg n).length<=(dg m).length:=jc hle;unfold ln at hm;rw[mJ,nC [.tmp 4] [] func210];obtain⟨e1,e2,e3⟩:=jQ (k:=(dg m).length) (by omega);simp only[go_sem,e1,e2,e3];generalize hL:iI _ _=y;obtain⟨r,rfl,T',σ',nx',o,rfl,h5,E,G,S,hd,hv⟩:=oZ hL (dg m).length (fun k st=>st.T 0=LI (dg m)/\st.T 1=LI (dg n)/\st.T 5= .rs 0 0 (dg m).length/\st.T 12=LI (dg m)/\st.T 13=I (dg m).length/\st.T 14=I k/\0<st.nx/\∃c o,st.T 6=I c/\st.σ 0=some ⟨FW o ((dg m).length-k),1,true⟩/\o.length=k/\Dg o/\vl o-bp k*c=vl ((dg m).take k) - vl ((dg n).take k)/\0<=c/\c<=1)
  (fun r=>∃T σ nx o,r=(.exit 0,⟨T,σ,nx⟩)/\T 5= .rs 0 0 (dg m).length/\0<nx/\σ 0=some ⟨o.flatMap cI,1,true⟩/\o.length=(dg m).length/\Dg o/\vl o=(m-n:Nat)) (by
   clear hL;rintro k ⟨T,σ,nx⟩ a1 ⟨h0,h1,h5,O,J,FX,E,c,o,h6,G,S,hd,hv,a8,b2⟩;simp only at h0 h1 h5 O J FX E h6 G;have f1:(k:Int)<((dg m).length:Int):=by omega
   have f2:=jF k;have f3:=ZU (n:=(k:Int)+1);have f5:=Ba (dg m) k a1;have f6:=idx a1;obtain⟨x,hx⟩:∃x,x=(dg m)[k]:=⟨_,rfl⟩;have xr:=(oU m).get a1;rw[<- hx]at f6 xr;obtain⟨g,hg⟩:∃g,(dg m).length-k=g+1:=⟨(dg m).length-k-1,by omega⟩;have a6:(dg m).length - (k+1)=g:=by omega
   rw[hg]at G;have c5:k<(FW o (g+1)).length:=by rw[mY];omega
   have v1:=Za a1;rw[<- hx]at v1;have nf:¬(0:Int)<0:=by decide
   have w1:=ZU (n:=x-c)
   by_cases hB:k<(dg n).length
   .have f8:(k:Int)<((dg n).length:Int):=by omega
    have f9:=Ba (dg n) k hB;have f10:=idx hB;obtain⟨z,hz⟩:∃z,z=(dg n)[k]:=⟨_,rfl⟩;have zr:=(oU n).get hB;rw[<- hz]at f10 zr;have v2:=Za hB;rw[<- hz]at v2;have w2:=ZU (n:=x-c-z)
    by_cases Y:x-c-z<0
    .have w3:=ZU (n:=x-c-z+1000000000)
     have c6:=mX o g (x-c-z+1000000000) S;refine .inl ⟨_,by simp only[go_sem,h0,h1,h5,h6,O,J,FX,E,G,f1,f2,f3,f5,f6,f8,f9,f10,w1,w2,w3,Y,c5,c6];rfl,?_⟩;simp only[go_sem,h0,h1,h5,O,J,a6];refine⟨rfl,E,_,_,rfl,rfl,by simp[S],hd.snoc (by omega) (by omega),?_,by omega,by omega⟩;rw[Zc,S,qW,v1,v2,qZ (n:=x-c-z) (by omega),uw,uw];omega
    .have c6:=mX o g (x-c-z) S
     refine .inl ⟨_,by simp only[go_sem,h0,h1,h5,h6,O,J,FX,E,G,f1,f2,f3,f5,f6,f8,f9,f10,w1,w2,Y,c5,c6];rfl,?_⟩;simp only[go_sem,h0,h1,h5,O,J,a6];refine⟨rfl,E,_,_,rfl,rfl,by simp[S],hd.snoc (by omega) (by omega),?_,by omega,by omega⟩;rw[Zc,S,qW,v1,v2,qZ (n:=x-c-z) (by omega),uw,uw];omega
   .have f8:¬(k:Int)<((dg n).length:Int):=by omega
    have v2:=qV (xs:=dg n) (k:=k) (by omega)
    by_cases Y:x-c<0
    .have w3:=ZU (n:=x-c+1000000000)
     have c6:=mX o g (x-c+1000000000) S;refine .inl ⟨_,by simp only[go_sem,h0,h1,h5,h6,O,J,FX,E,G,f1,f2,f3,f5,f6,f8,w1,w3,Y,c5,c6];rfl,?_⟩;simp only[go_sem,h0,h1,h5,O,J,a6];refine⟨rfl,E,_,_,rfl,rfl,by simp[S],hd.snoc (by omega) (by omega),?_,by omega,by omega⟩;rw[Zc,S,qW,v1,v2,qZ (n:=x-c) (by omega),uw];omega
    .have c6:=mX o g (x-c) S
     refine .inl ⟨_,by simp only[go_sem,h0,h1,h5,h6,O,J,FX,E,G,f1,f2,f3,f5,f6,f8,w1,Y,c5,c6];rfl,?_⟩;simp only[go_sem,h0,h1,h5,O,J,a6];refine⟨rfl,E,_,_,rfl,rfl,by simp[S],hd.snoc (by omega) (by omega),?_,by omega,by omega⟩;rw[Zc,S,qW,v1,v2,qZ (n:=x-c) (by omega),uw];omega) (by
   clear hL;rintro ⟨T,σ,nx⟩ ⟨h0,h1,h5,O,J,FX,E,c,o,h6,G,S,hd,hv,a8,b2⟩;simp only at h0 h1 h5 O J FX E h6 G;rw[yM,mZ]at G;refine⟨_,by simp only[go_sem,J,FX,zi];rfl,by simp,_,_,_,o,rfl,by simp only[go_sem,h5],E,G,S,hd,?_⟩;rw[yT,zl a7,Zf,Zf,<- S]at hv;have h7:=Ze hd;have h8:=Zd hd;have h9:=qX o.length;have hc:c=0:=zf fun b5=>by
    have:c=1:=by omega
    subst this;rw[Int.mul_one]at hv;omega
   subst hc;rw[vk]at hv;omega) (by
   simp only[go_sem];exact⟨0,[],rfl,rfl,rfl,Dg.nil,by simp[vl],xP _,by decide⟩)
 have ht:=ach o (by unfold Short;omega);rw[CW hd hv]at ht;have b3:fn ZM conv ext 208 [.ts (o.flatMap cI) (dg m).length]=some (LI (dg (m-n))):=by rw[<- S];exact ht
 have tk:List.take (dg m).length (o.flatMap cI)=o.flatMap cI:=by rw[<- S];exact qK _
 have b4:(o.flatMap cI).length=(dg m).length:=by rw[qN,S]
 simp only[go_sem,h5,E,G,b4,tk,b3]
theorem aaT{xs:List Int}{k:Nat}(h:k<xs.length)(y:Int):vl (xs.set k y)=vl xs+bp k*(y-xs[k]):=by
 induction xs generalizing k with
 |nil=>cases h
 |cons x xs E=>
  cases k with
  |zero=>
   rw[vC,Tt];show y+1000000000*vl xs=x+1000000000*vl xs+1*(y-x);omega
  |succ k=>
   have G:k<xs.length:=by simpa using h
   rw[List.set_cons_succ,qW];show x+1000000000*vl (xs.set k y)=x+1000000000*vl xs+1000000000*bp k*(y-xs[k]);rw[E G,xg,uh];omega
theorem Dg.set{xs:List Int}(h:Dg xs)(k:Nat){y:Int}(G:0<=y)(J:y<1000000000):Dg (xs.set k y):=fun x O=>by
 rcases uz O with E|E
 .exact h x E
 .rw[E];exact⟨G,J⟩
theorem qM(xs:List Int)(k:Nat)(y:Int):(xs.flatMap cI).set k (I y)=(xs.set k y).flatMap cI:=by
 induction xs generalizing k with
 |nil=>rfl
 |cons x xs E=>
  cases k with
  |zero=>rfl
  |succ k=>
   show I x :: (xs.flatMap cI).set k (I y)=I x :: (xs.set k y).flatMap cI;rw[E]
theorem mW{o:List Int}{k:Nat}(r:Nat)(y:Int)(h:k<o.length):(FW o r).set k (I y)=FW (o.set k y) r:=by
 unfold FW;rw[List.set_append_left _ _ (by rw[qN];exact h),qM]
theorem TA{o:List Int}{k:Nat}(r:Nat)(h:k<o.length):(FW o r)[k]?=some (I o[k]):=by
 unfold FW;rw[zU (by rw[qN];exact h),idx h]
theorem TB{x y c w:Int}(G:0<=x/\x<1000000000)(E:0<=y/\y<1000000000)(hc:0<=c/\c<1000000000)(hw:0<=w/\w<1000000000):0<=x*y/\x*y<=999999998000000001/\(w+x*y+c) / 1000000000<1000000000:=by
 have J:=vV G.1 E.1;have O:x*y<=999999999*999999999:=Int.mul_le_mul (by omega) (by omega) E.1 (by omega);omega
theorem J5{W bi E w x b c y q v0 t:Int}(G:y+1000000000*q=w+x*b+c)(J:W+E*c=v0+bi*(x*t))(hb:E*(x*b)=bi*(x*(E*b))\/True) :
  W+E*(y-w)+1000000000*E*q=v0+bi*(x*t)+E*(x*b):=by
 have:1000000000*E*q=E*(1000000000*q):=by grind
 rw[this];have e:E*(y-w)+E*(1000000000*q)=E*(x*b+c):=by rw[<- xg];congr 1;omega
 rw[xg]at e;omega
theorem MC(m n:Nat)(hm:ln m<=1000000)(hn:ln n<=1000000):fn ZM conv ext 179 [LI (dg m),LI (dg n)]=some (LI (dg (m*n))):=by
 unfold ln at hm hn;rw[mJ,nC [.tmp 4] [] func179]
 by_cases zm:m=0
 .subst zm
  rw[vM,oJ]
  (simp only[go_sem])<;>rfl
 have cm:((((dg m).length:Nat):Int)==0)=false:=by rw[sN];have:=rC (oO zm);omega
 by_cases zn:n=0
 .subst zn
  rw[Nat.mul_zero,oJ]
  (simp only[go_sem,cm])<;>rfl
 have cn:((((dg n).length:Nat):Int)==0)=false:=by rw[sN];have:=rC (oO zn);omega
 have pn:0<(dg n).length:=List.length_pos_iff.mpr (oO zn);obtain⟨e1,e2,e3⟩:=jQ (k:=(dg m).length+(dg n).length) (by omega);have e0:((dg m).length:Int)+((dg n).length:Int)=(((dg m).length+(dg n).length:Nat):Int):=by omega
 have e4:=ZU (n:=(((dg m).length+(dg n).length:Nat):Int)) (by omega) (by omega);simp only[go_sem,cm,cn,e0,e1,e2,e3,e4];generalize hL:iI _ _=y;obtain⟨r,rfl,T',σ',nx',P,rfl,S,E,G,hP,hd,hv⟩:=oZ hL (dg m).length (fun k st=>st.T 1=LI (dg n)/\st.T 5= .rs 0 0 ((dg m).length+(dg n).length)/\st.T 26=LI (dg m)/\st.T 27=I (dg m).length/\st.T 28=I k/\0<st.nx/\∃P,st.σ 0=some ⟨FW P ((dg m).length-k),1,true⟩/\P.length=k+(dg n).length/\Dg P/\vl P=vl ((dg m).take k)*n)
  (fun r=>∃T σ nx P,r=(.exit 0,⟨T,σ,nx⟩)/\T 5= .rs 0 0 ((dg m).length+(dg n).length)/\0<nx/\σ 0=some ⟨P.flatMap cI,1,true⟩/\P.length=(dg m).length+(dg n).length/\Dg P/\vl P=(m*n:Nat)) (by
   clear hL;rintro k ⟨T,σ,nx⟩ a8 ⟨Y,S,E_,J,O,E,P,G,hP,hd,hv⟩;simp only at Y S E_ J O E G;have f1:(k:Int)<((dg m).length:Int):=by omega
   have f2:=jF k;have f3:=ZU (n:=(k:Int)+1);have f5:=Ba (dg m) k a8;have f6:=idx a8;obtain⟨x,hx⟩:∃x,x=(dg m)[k]:=⟨_,rfl⟩;have xr:=(oU m).get a8;rw[<- hx]at f6 xr;have v1:=Za a8;rw[<- hx]at v1;obtain⟨g,hg⟩:∃g,(dg m).length-k=g+1:=⟨(dg m).length-k-1,by omega⟩;have b2:(dg m).length - (k+1)=g:=by omega
   rw[hg]at G;refine bD ?_
   conv=>
    enter [1,r,1,1]
    simp only[go_sem,Y,S,E_,J,O,E,f1,f2,f5,f6]
   generalize hL:iI _ _=z;obtain⟨r,rfl,T',σ',nx',c,W,rfl,Y,S,h6,h8,E_,J,O,E,G,hW,hd,hv,a1,a6⟩:=oZ hL (dg n).length (fun j st=>st.T 1=LI (dg n)/\st.T 5= .rs 0 0 ((dg m).length+(dg n).length)/\st.T 6=I k/\st.T 7=I x/\st.T 26=LI (dg m)/\st.T 27=I (dg m).length/\st.T 28=I k/\st.T 33=LI (dg n)/\st.T 34=I (dg n).length/\st.T 35=I j/\0<st.nx/\∃c W,st.T 8=I c/\st.σ 0=some ⟨FW W (g+1),1,true⟩/\W.length=k+(dg n).length/\Dg W/\vl W+bp (k+j)*c=vl ((dg m).take k)*n+bp k*(x*vl ((dg n).take j))/\0<=c/\c<1000000000)
    (fun r=>∃T σ nx c W,r=(.exit 2,⟨T,σ,nx⟩)/\T 1=LI (dg n)/\T 5= .rs 0 0 ((dg m).length+(dg n).length)/\T 6=I k/\T 8=I c/\T 26=LI (dg m)/\T 27=I (dg m).length/\T 28=I k/\0<nx/\σ 0=some ⟨FW W (g+1),1,true⟩/\W.length=k+(dg n).length/\Dg W/\vl W+bp (k+(dg n).length)*c=vl ((dg m).take k)*n+bp k*(x*n)/\0<=c/\c<1000000000) (by
     clear hL;rintro j ⟨T,σ,nx⟩ hj ⟨Y,S,h6,h7,E_,J,O,WX,QJ,a7,E,c,W,h8,G,hW,hd,hv,a1,a6⟩;simp only at Y S h6 h7 h8 E_ J O WX QJ a7 E G;have g1:(j:Int)<((dg n).length:Int):=by omega
     have g2:=jF j;have g3:=ZU (n:=(j:Int)+1);have g5:=Ba (dg n) j hj;have g6:=idx hj;obtain⟨b,hb⟩:∃b,b=(dg n)[j]:=⟨_,rfl⟩;have br:=(oU n).get hj;rw[<- hb]at g6 br;have v2:=Za hj;rw[<- hb]at v2;have p0:(k:Int)+(j:Int)=((k+j:Nat):Int):=by omega
     have p1:=ZU (n:=((k+j:Nat):Int));have p2:(0:Int)<=((k+j:Nat):Int):=by omega
     have p3:((k+j:Nat):Int)<(((dg m).length+(dg n).length:Nat):Int):=by omega
     have p4:k+j<W.length:=by omega
     have p5:=TA (o:=W) (g+1) p4;have p6:k+j<(FW W (g+1)).length:=by rw[mY];omega
     obtain⟨w,hw⟩:∃w,w=W[k+j]:=⟨_,rfl⟩;have wr:=hd.get p4;rw[<- hw]at p5 wr;have mm:=TB (x:=x) (y:=b) (c:=c) (w:=w) xr br ⟨a1,a6⟩ wr;have w1:=ZU (n:=x*b);have w2:=ZU (n:=w+x*b);have w3:=ZU (n:=w+x*b+c);obtain⟨q1,q2⟩:=aG (n:=w+x*b+c) (by omega);have w4:=ZU (n:=(w+x*b+c) / 1000000000);have c6:=mW (g+1) ((w+x*b+c)%1000000000) p4;have vs:=aaT p4 ((w+x*b+c)%1000000000);rw[<- hw]at vs;refine .inl ⟨_,by simp only[go_sem,Y,S,h6,h7,h8,E_,J,O,WX,QJ,a7,E,G,g1,g2,g3,g5,g6,p0,p1,p2,p3,p5,p6,w1,w2,w3,w4,q1,q2,c6];rfl,?_⟩;simp only[go_sem,Y,S,h6,h7,E_,J,O,WX,QJ];refine⟨rfl,E,_,_,rfl,rfl,by rw[yP];exact hW,hd.set _ (by omega) (by omega),?_,by omega,by omega⟩;rw[vs,show k+(j+1)=k+j+1 by omega,qW,J5 (c:=c) (x:=x) (b:=b) (by omega) hv (.inr trivial),v2,Tv];grind) (by
     clear hL;rintro ⟨T,σ,nx⟩ ⟨Y,S,h6,h7,E_,J,O,WX,QJ,a7,E,c,W,h8,G,hW,hd,hv,a1,a6⟩;simp only at Y S h6 h7 h8 E_ J O WX QJ a7 E G;rw[yT,Zf]at hv;refine⟨_,by simp only[go_sem,QJ,a7,zi];rfl,by simp,_,_,_,c,W,rfl,?_⟩;simp only[go_sem,Y,S,h6,h8,E_,J,O];exact⟨E,G,hW,hd,hv,a1,a6⟩) (by
     simp only[go_sem,Y,S,E_,J,O];exact⟨E,0,P,rfl,G,hP,hd,by rw[vk,hv];simp[vl],xP _,by decide⟩)
   have p0:(k:Int)+((dg n).length:Int)=((k+(dg n).length:Nat):Int):=by omega
   have p1:=ZU (n:=((k+(dg n).length:Nat):Int)) (by omega) (by omega);have p2:(0:Int)<=((k+(dg n).length:Nat):Int):=by omega
   have p3:((k+(dg n).length:Nat):Int)<(((dg m).length+(dg n).length:Nat):Int):=by omega
   have p6:k+(dg n).length<(FW W (g+1)).length:=by rw[mY];omega
   have c6:=mX W g c hW;refine⟨_,by simp only[go_sem,Y,S,h6,h8,E_,J,O,E,G,f3,p0,p1,p2,p3,p6,c6];rfl,.inl ⟨_,rfl,?_⟩⟩;simp only[go_sem,Y,S,E_,J,b2];refine⟨rfl,E,_,rfl,by simp[hW];omega,hd.snoc a1 a6,?_⟩;rw[Zc,hW,hv,v1];grind) (by
   clear hL;rintro ⟨T,σ,nx⟩ ⟨Y,S,E_,J,O,E,P,G,hP,hd,hv⟩;simp only at Y S E_ J O E G;rw[yM,mZ]at G;refine⟨_,by simp only[go_sem,J,O,zi];rfl,by simp,_,_,_,P,rfl,by simp only[go_sem,S],E,G,hP,hd,?_⟩;rw[hv,yT,Zf,yj]) (by
   simp only[go_sem];refine⟨List.replicate (dg n).length 0,?_,by simp,fun x hx=>by rw[List.mem_replicate]at hx;omega,(aaS _).trans (by simp[vl])⟩;congr 2;unfold FW;rw[show List.flatMap cI (List.replicate (dg n).length 0)=rep (dg n).length [I 0] by unfold rep;rw[uV]];unfold rep;rw[<- List.flatten_append,wG,wQ])
 have ht:=ach P (by unfold Short;omega);rw[CW hd hv]at ht;have b3:fn ZM conv ext 208 [.ts (P.flatMap cI) ((dg m).length+(dg n).length)]=some (LI (dg (m*n))):=by rw[<- hP];exact ht
 have tk:List.take ((dg m).length+(dg n).length) (P.flatMap cI)=P.flatMap cI:=by rw[<- hP];exact qK _
 have b4:(P.flatMap cI).length=(dg m).length+(dg n).length:=by rw[qN,hP]
 simp only[go_sem,S,E,G,b4,tk,b3]
def cZ(z:Int):List V:=[Bo (decide (z<0)),LI (dg z.natAbs)]
def A_(b:Bool)(n:Nat):Int:=if b=true then -(n:Int)else n
theorem aaU(b:Bool)(n:Nat):cZ (A_ b n)=[Bo (b && decide (0<(dg n).length)),LI (dg n)]:=by
 unfold cZ A_;cases b with
 |false=>simp
 |true=>
  have E:((-(n:Int)).natAbs)=n:=by simp
  have G:decide (-(n:Int)<0)=decide (0<(dg n).length):=by
   rw[decide_eq_decide]
   by_cases h:n=0
   .subst h;rw[oJ];simp
   .have:=List.length_pos_iff.mpr (oO h);omega
  simp only[if_true,xY,E,G]
theorem dF(z:Int):A_ (decide (z<0)) z.natAbs=z:=by
 unfold A_
 by_cases h:z<0
 .rw[sJ h,sO rfl];omega
 .rw[sH h,sQ (by decide)];omega
theorem kF(b:Bool)(n:Nat):fn ZM conv ext 177 [Bo b,LI (dg n)]=some (.agg (cZ (A_ b n))):=by
 rw[acg,aaU]
theorem kM(z:Int)(h0:-9223372036854775808<=z)(h1:z<=9223372036854775807):fn ZM conv ext 154 [I z]=some (.agg (cZ z)):=by
 rw[mJ,nC [.cell 2 171] [] func154]
 by_cases S:z<0
 .have w1:=ZU (n:=z+1)
  have w2:IntKind.i64.wrap (0 - (z+1))= -(z+1):=by rw[ZU];omega
  have J:=ZT (n:=-(z+1)) (by omega) (by omega);have Y:=ZT (n:=-(z+1)+1) (by omega) (by omega);have e:-(z+1)+1=((z.natAbs:Nat):Int):=by omega
  rw[e]at Y;have G:=Tq z.natAbs (by omega);have E:=kF true z.natAbs;have O:A_ true z.natAbs=z:=by unfold A_;rw[sO rfl];omega
  rw[O]at E;unfold cZ at *;simp only[go_sem,S,w1,w2,J,e,Y,G,E]
 .have J:=ZT (n:=z) (by omega) (by omega)
  have e:z=((z.natAbs:Nat):Int):=by omega
  have G:=Tq z.natAbs (by omega);rw[<- e]at G;have E:=kF false z.natAbs;have O:A_ false z.natAbs=z:=by unfold A_;rw[sQ (by decide)];omega
  rw[O]at E;unfold cZ at *;simp only[go_sem,S,J,G,E]
theorem kH(z:Int):fn ZM conv ext 181 [.agg (cZ z)]=some (.agg (cZ (-z))):=by
 have E:=kF (!decide (z<0)) z.natAbs;have e:cZ (A_ (!decide (z<0)) z.natAbs)=cZ (-z):=by
  unfold A_
  by_cases h:z<0
  .rw[sJ h,vH,sQ (by decide)];congr 1;omega
  .rw[sH h,wE,sO rfl];congr 1;omega
 rw[e]at E;unfold cZ at *;rw[mJ,nC [.cell 2 171] [] func181];simp only[go_sem,E]
theorem pK{m n:Nat}:Bg m n<0↔m<n:=by
 unfold Bg
 by_cases h:m<n
 .rw[sO h];simp[h]
 .rw[sQ h];split<;>simp[h]
theorem ahj(x y:Int)(O:ln x.natAbs<=1000000)(S:ln y.natAbs<=1000000):fn ZM conv ext 178 [.agg (cZ x),.agg (cZ y)]=some (.agg (cZ (x+y))):=by
 have J:=kN x.natAbs y.natAbs O S;have k2:=asV x.natAbs y.natAbs O S;have sg:∀b m,A_ b m=x+y->fn ZM conv ext 177 [Bo b,LI (dg m)]=some (.agg (cZ (x+y))):=fun b m h=>by rw[<- h];exact kF b m
 rw[mJ,nC [.cell 4 171] [4,6,2] func178]
 by_cases Y:x<0<;>by_cases h2:y<0
 .have E:=sg true (x.natAbs+y.natAbs) (by unfold A_;rw[sO rfl];omega)
  unfold cZ at *;rw[sJ Y,sJ h2];simp only[go_sem,J,k2,E]
 .unfold cZ at *
  rw[sJ Y,sH h2]
  by_cases hc:x.natAbs<y.natAbs
  .have c1:¬0<=Bg x.natAbs y.natAbs:=by have:=pK.mpr hc;omega
   have G:=Tz y.natAbs x.natAbs S (by omega);have E:=sg false (y.natAbs-x.natAbs) (by unfold A_;rw[sQ (by decide)];omega);simp only[go_sem,J,E,G,c1]
  .have c1:0<=Bg x.natAbs y.natAbs:=by have:=mt pK.mp hc;omega
   have G:=Tz x.natAbs y.natAbs O (by omega);have E:=sg true (x.natAbs-y.natAbs) (by unfold A_;rw[sO rfl];omega);simp only[go_sem,J,E,G,c1]
 .unfold cZ at *
  rw[sH Y,sJ h2]
  by_cases hc:x.natAbs<y.natAbs
  .have c1:¬0<=Bg x.natAbs y.natAbs:=by have:=pK.mpr hc;omega
   have G:=Tz y.natAbs x.natAbs S (by omega);have E:=sg true (y.natAbs-x.natAbs) (by unfold A_;rw[sO rfl];omega);simp only[go_sem,J,E,G,c1]
  .have c1:0<=Bg x.natAbs y.natAbs:=by have:=mt pK.mp hc;omega
   have G:=Tz x.natAbs y.natAbs O (by omega);have E:=sg false (x.natAbs-y.natAbs) (by unfold A_;rw[sQ (by decide)];omega);simp only[go_sem,J,E,G,c1]
 .have E:=sg false (x.natAbs+y.natAbs) (by unfold A_;rw[sQ (by decide)];omega)
  unfold cZ at *;rw[sH Y,sH h2];simp only[go_sem,J,k2,E]
theorem acn(x y:Int)(G:ln x.natAbs<=1000000)(O:ln y.natAbs<=1000000):fn ZM conv ext 203 [.agg (cZ x),.agg (cZ y)]=some (.agg (cZ (x-y))):=by
 have J:=kH y;have E:=ahj x (-y) G (by rwa [wC]);rw[<- Int.sub_eq_add_neg]at E;unfold cZ at *;rw[mJ,nC [.cell 4 171] [1] func203];simp only[go_sem,J,E]
theorem kQ(x y:Int)(S:ln x.natAbs<=1000000)(Y:ln y.natAbs<=1000000):fn ZM conv ext 180 [.agg (cZ x),.agg (cZ y)]=some (.agg (cZ (x*y))):=by
 have O:=MC x.natAbs y.natAbs S Y;have sg:∀b,A_ b (x.natAbs*y.natAbs)=x*y->fn ZM conv ext 177 [Bo b,LI (dg (x.natAbs*y.natAbs))]=some (.agg (cZ (x*y))):=fun b h=>by rw[<- h];exact kF b _
 have e:∀z:Int,(z.natAbs:Int)=if z<0 then -z else z:=fun z=>by split<;>omega
 rw[mJ,nC [.cell 4 171] [1] func180]
 by_cases E:x<0<;>by_cases G:y<0
 .have J:=sg false (by unfold A_;rw[sQ (by decide),yj,e,e,sO E,sO G,Int.neg_mul_neg])
  unfold cZ at *;rw[sJ E,sJ G];simp only[go_sem,O,J]
 .have J:=sg true (by unfold A_;rw[sO rfl,yj,e,e,sO E,sQ G,Int.neg_mul,Int.neg_neg])
  unfold cZ at *;rw[sJ E,sH G];simp only[go_sem,O,J]
 .have J:=sg true (by unfold A_;rw[sO rfl,yj,e,e,sQ E,sO G,Int.mul_neg,Int.neg_neg])
  unfold cZ at *;rw[sH E,sJ G];simp only[go_sem,O,J]
 .have J:=sg false (by unfold A_;rw[sQ (by decide),yj,e,e,sQ E,sQ G])
  unfold cZ at *;rw[sH E,sH G];simp only[go_sem,O,J]
def Ar(x y:Int):Int:=if x<y then -1 else if x=y then 0 else 1
theorem akY{m n:Nat}:Bg m n=Ar m n:=by unfold Bg Ar;split<;>split<;>first|rfl|(split<;>first|rfl|omega)|omega
theorem QK(x y:Int)(J:ln x.natAbs<=1000000)(O:ln y.natAbs<=1000000):fn ZM conv ext 156 [.agg (cZ x),.agg (cZ y)]=some (I (Ar x y)):=by
 have S:=kN x.natAbs y.natAbs J O;have Y:=kN y.natAbs x.natAbs O J;rw[akY]at S Y;unfold cZ;rw[mJ,nC [.tmp 4] [] func156]
 by_cases E:x<0<;>by_cases G:y<0
 .have e:Ar ((y.natAbs:Nat):Int) ((x.natAbs:Nat):Int)=Ar x y:=by unfold Ar;(repeat' split)<;>first|rfl|omega
  rw[sJ E,sJ G];simp only[go_sem,Y,e]
 .have e:Ar x y= -1:=by unfold Ar;rw[sO (by omega)]
  rw[sJ E,sH G,e];simp only[go_sem]
 .have e:Ar x y=1:=by unfold Ar;rw[sQ (by omega),sQ (by omega)]
  rw[sH E,sJ G,e];simp only[go_sem]
 .have e:Ar ((x.natAbs:Nat):Int) ((y.natAbs:Nat):Int)=Ar x y:=by unfold Ar;(repeat' split)<;>first|rfl|omega
  rw[sH E,sH G];simp only[go_sem,S,e]
theorem kG(x:Int):fn ZM conv ext 169 [.agg (cZ x)]=some (I (Ar x 0)):=by
 unfold cZ;rw[mJ,nC [.tmp 2] [] func169]
 by_cases G:x=0
 .subst G
  have e:Ar 0 0=0:=by decide
  rw[e,Int.natAbs_zero,oJ]
  (simp only[go_sem])<;>rfl
 .have c1:(((dg x.natAbs).length:Int)==0)=false:=by rw[sN];have:=rC (oO (n:=x.natAbs) (by omega));omega
  by_cases E:x<0
  .have e:Ar x 0= -1:=by unfold Ar;rw[sO E]
   rw[sJ E,e];simp only[go_sem,c1]
  .have e:Ar x 0=1:=by unfold Ar;rw[sQ E,sQ G]
   rw[sH E,e];simp only[go_sem,c1]
def cQ(q:Rat):List V:=[Bo (decide (q.num<0)),LI (dg q.num.natAbs),LI (dg q.den)]
def pQ:Option Rat->V
 |some q=> .tp (cQ q) 0
 |none=> .sc (.pointer none)
theorem qJ(q:Rat):(cQ q).length=3:=rfl
theorem ano(z:Int){d:Nat}(h:d≠0):cQ (mkRat z d)=ahh (decide (z<0)) z.natAbs d:=by
 have hg:Nat.gcd d z.natAbs=Nat.gcd z.natAbs d:=Nat.gcd_comm _ _;have J:0<Nat.gcd z.natAbs d:=Nat.gcd_pos_of_pos_right _ (by omega);have Y:Nat.gcd z.natAbs d ∣ z.natAbs:=Nat.gcd_dvd_left _ _;have O:((Nat.gcd z.natAbs d:Nat):Int) ∣ z:=Int.ofNat_dvd_left.mpr Y;unfold cQ ahh;rw[Rat.num_mkRat,Rat.den_mkRat,sQ h,sQ h,hg];have e1:(z / ((Nat.gcd z.natAbs d:Nat):Int)).natAbs=z.natAbs / Nat.gcd z.natAbs d:=by
  obtain⟨k,E⟩:=O;have e:z / ((Nat.gcd z.natAbs d:Nat):Int)=k:=Int.ediv_eq_of_eq_mul_right (by omega) E;have e2:z.natAbs=Nat.gcd z.natAbs d*k.natAbs:=by
   have:=congrArg Int.natAbs E;rw[uY,wo]at this;exact this
  rw[e,Nat.div_eq_of_eq_mul_right J e2]
 have e2:decide (z / ((Nat.gcd z.natAbs d:Nat):Int)<0)=(decide (z<0) && decide (0<(dg (z.natAbs / Nat.gcd z.natAbs d)).length)):=by
  have e3:(z / ((Nat.gcd z.natAbs d:Nat):Int)<0)↔z<0:=by
   obtain⟨k,E⟩:=O;have e:z / ((Nat.gcd z.natAbs d:Nat):Int)=k:=Int.ediv_eq_of_eq_mul_right (by omega) E;rw[e];have hG:(0:Int)<((Nat.gcd z.natAbs d:Nat):Int):=by omega
   generalize ((Nat.gcd z.natAbs d:Nat):Int)=G at *;constructor
   .intro a1;rw[E];exact Int.mul_neg_of_pos_of_neg hG a1
   .intro S
    refine zf fun hn=>?_
    have:=vV (x9 hG) (Int.not_lt.mp hn);rw[<- E]at this;omega
  by_cases S:z<0
  .have a6:z.natAbs / Nat.gcd z.natAbs d≠0:=by
    have:=Nat.div_pos (Nat.gcd_le_left d (show 0<z.natAbs by omega)) J;omega
   rw[sJ (e3.mpr S),sJ S,sJ (List.length_pos_iff.mpr (oO a6))];rfl
  .rw[sH (mt e3.mp S),sH S];rfl
 rw[e1,e2]
theorem dd0(x y:Rat):x.den*y.den≠0:=Nat.mul_ne_zero x.den_nz y.den_nz
theorem IU(x:Rat)(d:Nat)(G:ln x.num.natAbs<=1000000)(J:ln d<=1000000):fn ZM conv ext 155 [.tp (cQ x) 0,LI (dg d)]=some (.agg (cZ (x.num*d))):=by
 have O:=MC x.num.natAbs d G J;have E:=kF (decide (x.num<0)) (x.num.natAbs*d);have e:A_ (decide (x.num<0)) (x.num.natAbs*d)=x.num*d:=by
  have h:=dF x.num
  conv=>rhs;rw[<- h]
  unfold A_
  by_cases q:x.num<0
  .rw[sJ q,sO rfl,sO rfl,yj,Int.neg_mul]
  .rw[sH q,sQ (by decide),sQ (by decide),yj]
 rw[e]at E;unfold cQ;unfold cZ at *;rw[mJ,nC [.cell 4 171] [] func155];simp only[go_sem,O,E]
theorem ahk(x y:Rat)(S:y.num≠0):x / y=mkRat (A_ (decide (x.num<0) !=decide (y.num<0)) (x.num.natAbs*y.den)) (x.den*y.num.natAbs):=by
 have O:x / y=Rat.divInt (x.num*y.den) (x.den*y.num):=by
  rw[vJ]
  conv=>lhs;rw[<- Rat.num_divInt_den x,<- Rat.num_divInt_den y]
  rw[Rat.inv_divInt,Rat.divInt_mul_divInt]
 rw[O,<- Rat.divInt_ofNat,yj];have Y:=dF x.num
 by_cases G:x.num<0<;>by_cases J:y.num<0
 .have E:((x.num.natAbs:Nat):Int)= -x.num:=by omega
  have a2:((y.num.natAbs:Nat):Int)= -y.num:=by omega
  rw[sJ G,sJ J];unfold A_;rw[sQ (by decide),yj,E,a2,Int.neg_mul,Int.mul_neg,Rat.neg_divInt_neg]
 .have E:((x.num.natAbs:Nat):Int)= -x.num:=by omega
  have a2:((y.num.natAbs:Nat):Int)=y.num:=by omega
  rw[sJ G,sH J];unfold A_;rw[sO (by decide),yj,E,a2,Int.neg_mul,Int.neg_neg]
 .have E:((x.num.natAbs:Nat):Int)=x.num:=by omega
  have a2:((y.num.natAbs:Nat):Int)= -y.num:=by omega
  rw[sH G,sJ J];unfold A_;rw[sO (by decide),yj,E,a2,Int.mul_neg];rw[<- Rat.neg_divInt_neg (-(x.num*y.den)),Int.neg_neg,Int.neg_neg]
 .have E:((x.num.natAbs:Nat):Int)=x.num:=by omega
  have a2:((y.num.natAbs:Nat):Int)=y.num:=by omega
  rw[sH G,sH J];unfold A_;rw[sQ (by decide),yj,E,a2]
theorem akZ(q:Rat)(E:ln q.num.natAbs<=24)(G:ln q.den<=24):fn ZM conv ext 112 [.tp (cQ q) 0]=some (.agg (cQ q)):=aoJ _ _ _ E G
theorem kD(z:Int)(E:-9223372036854775808<=z)(G:z<=9223372036854775807):fn ZM conv ext 115 [I z]=some (.tp (cQ (z:Rat)) 0):=by
 have k:=kM z E G;have J:(z:Rat).num=z:=rfl;have O:(z:Rat).den=1:=rfl;unfold cQ;rw[J,O,oN (d:=1) (by decide) (by decide)];unfold cZ at k;rw[mJ,nC [.tmp 2] [] func115]
 (simp only[go_sem,k])<;>rfl
theorem dP(xs:List Int)(S:∀x∈xs,0<=x/\x<=255)(Y:xs.length<=1048576)(i h:Int)(hi:0<=i/\i<=xs.length)(n:Int)(h1:1<=n)(h2:n<=256) :
  ∃r E G,(∀(b st nx:Nat) (σ:Store),σ b=some (QI xs i h st)->b<nx->ev ZM conv ext 59 [.rp b 0,I n] σ nx=some (I r,upd σ b (some (QI xs E G st)),nx))/\(0<=r/\r<n)/\0<=E/\E<=xs.length:=by
 obtain⟨r,E,G,k,hr,J⟩:=aoK xs S Y i h hi;have c1:¬n<=0:=by omega
 have c2:¬n=0:=by omega
 refine⟨r.tmod n,E,G,fun b st nx σ O hb=>?_,?_,J⟩
 .have k':=k b st nx σ O hb
  rw[nC [.tmp 4] [] func59];simp only[go_sem,qE,k',c1,c2,h2]
 .rw[xC hr.1]
  exact⟨Int.emod_nonneg _ (by omega),Int.emod_lt_of_pos _ (by omega)⟩
end Go.Proofs.YtjknobpihkmilaaGreat
