import Derived.Test.YtkpdoehbhmipcaaGreatTb1
import Derived.SizedLaws
import Derived.ChangeArms
import Derived.Deep.Slices
import Derived.OpenShut
import Derived.ChangeOld
import Derived.Laws.StructEq
import Derived.Shelf.Strings.OnBuilder
import Derived.Test.YtkpdoehbhmipcaaGreatProg
import Derived.KernelRfl
set_option linter.unusedSimpArgs false
set_option linter.unusedVariables false
set_option linter.unusedSectionVars false
set_option linter.defProp false
set_option maxRecDepth 10000
set_option maxHeartbeats 4000000
open Go.Proofs.Tryz renaming prog->ZL
open Go.Proofs.Tryz
open Array renaming length_toList->yR,getElem?_toList->xP
open Bool renaming and_eq_true->zA,false_eq_true->yJ,true_and->xC,and_false->wS,not_false->vU,not_eq_true'->vG,not_true->um,false_and->ug
open Classical renaming byContradiction->zf
open Int renaming lt_irrefl->zk,mul_le_mul_of_nonneg_right->zQ,toNat_natCast->zJ,mul_le_mul_of_nonneg_left->zB,natCast_mul->yh,tdiv_eq_ediv_of_nonneg->yG,mul_add->xR,le_refl->xA,tmod_eq_emod_of_nonneg->wK,mul_zero->vN,mul_nonneg->vH,mul_sub->uY,mul_assoc->uT,toNat_of_nonneg->uQ,add_zero->uM,sub_mul->tZ
open List renaming getElem?_eq_getElem->zy,getElem_mem->zu,length_append->zo,take_of_length_le->zl,length_take->zh,eq_nil_of_length_eq_zero->zZ,mem_cons_of_mem->zY,getElem?_append_left->zW,flatMap_append->zT,length_map->zS,getElem?_append_right->zN,mem_cons_self->zM,flatMap_cons->zK,length_cons->zH,getElem?_map->zF,mem_append_left->zD,append_nil->zC,getElem?_eq_none->z_,mem_append_right->yw,take_length->yg,not_mem_nil->yc,getElem_of_mem->yZ,drop_zero->yY,cons_append->yT,nil_append->yO,drop_eq_getElem_cons->yN,take_add_one->yM,length_singleton->yL,drop_of_length_le->xw,length_set->xu,replicate_succ->xO,set_append_right->xH,map_congr_left->xG,take_left'->wu,length_nil->wR,getElem?_toArray->wM,getElem?_cons_zero->wL,mem_of_mem_take->wH,size_toArray->wE,take_append_drop->wC,mem_singleton->w_,flatMap_nil->vg,replicate_append_replicate->vY,all_nil->uw,map_cons->uo,set_cons_zero->uf,all_cons->uH,getElem_take->uG,length_range->uF,mem_or_eq_of_mem_set->u_,getElem?_cons_succ->t_
open Nat renaming le_refl->zq,not_lt_zero->zX,le_trans->zU,mul_le_mul_right->zL,zero_add->yX,mul_one->yQ,sub_self->yP,succ_mul->xk,lt_or_eq_of_le->xZ,le_of_lt_succ->xX,min_eq_left->xK,lt_of_lt_of_le->wz,div_le_self->wo,div_div_eq_div_mul->wW,div_one->wV,add_comm->wG,mul_comm->wB,mod_eq_of_lt->vw,le_max_right->vk,add_assoc->vZ,zero_le->vV,mod_lt->vJ,le_max_left->vF,add_mul->uz,mul_assoc->uj,div_eq_of_lt->uh,zero_mul->uX,pow_succ->uV,add_zero->uN,mul_le_mul_left->tJ,div_lt_self->su,le_mul_of_pos_left->sW
open Option renaming bind_some->zi,map_some->zG,getD_some->xE
open Option.some renaming injEq->sO
open Prod.mk renaming injEq->sN
namespace Go.TV
open Go.RowKit
set_option linter.unusedVariables false
set_option linter.unusedSimpArgs false
variable [Known]
def CLe(c c':Call):Prop:=∀f args σ nx r,c f args σ nx=some r->c' f args σ nx=some r
section
variable {P:Program} {conv:FuncId->Conv}
theorem Ji{c c':Call}(h:CLe c c'){f:FuncId}{args:List V}{σ:Store}{nx:Nat}{r:V×Store×Nat}(e:BU conv c f args σ nx=some r):BU conv c' f args σ nx=some r:=by
 unfold BU at *
 split at e
 .exact h _ _ _ _ _ e
 .split at e
  .rename_i ts ids G
   try simp only[G]
   cases E:c f ts lI 0 with
   |none=>rw[E]at e;cases e
   |some q=>rw[E]at e;rw[h _ _ _ _ _ E];exact e
  .cases e
 .split at e
  .rename_i ts ids G
   try simp only[G]
   cases E:c f ts lI nx with
   |none=>rw[E]at e;cases e
   |some q=>rw[E]at e;rw[h _ _ _ _ _ E];exact e
  .cases e
theorem Rx{c c':Call}{o:Oper}{T:Nat->V}{σ:Store}{nx:Nat}{r:V×Store×Nat}(h:∀f args σ r,BU conv c f args σ nx=some r->BU conv c' f args σ nx=some r)(e:Az P conv c o T σ nx=some r):Az P conv c' o T σ nx=some r:=by
 obtain⟨dst,op,type,pos,after,guard⟩:=o;cases op<;>simp only[Az]at e⊢ <;>first|exact e|skip
 rename_i E;obtain⟨callee,args,ts⟩:=E;cases callee with
 |value f=>
  simp only at e⊢
  split at e
  .rename_i G
   try simp only[G]
   exact h _ _ _ _ e
  .cases e
 |builtin b=>exact e
 |invoke r m=>exact e
theorem YF{c:Call}{o:Oper}{T:Nat->V}{σ:Store}{nx:Nat}{r:V×Store×Nat}(e:Az P conv c o T σ nx=some r) :
  (∀c',Az P conv c' o T σ nx=some r)\/∃f args,BU conv c f args σ nx=some r/\∀c',BU conv c' f args σ nx=some r->Az P conv c' o T σ nx=some r:=by
 obtain⟨dst,op,type,pos,after,guard⟩:=o;cases op<;>simp only[Az]at e⊢ <;>first|exact .inl fun _=>e|skip
 rename_i E;obtain⟨callee,args,ts⟩:=E;cases callee with
 |value f=>
  simp only at e⊢
  split at e
  .rename_i G
   try simp only[G]
   exact .inr ⟨_,_,e,fun c' h=>h⟩
  .cases e
 |builtin b=>exact .inl fun _=>e
 |invoke r m=>exact .inl fun _=>e
theorem Vb{c c':Call}(h:CLe c c'){o:Oper}{T:Nat->V}{σ:Store}{nx:Nat}{r:V×Store×Nat}(e:Ah P conv c o T σ nx=some r):Ah P conv c' o T σ nx=some r:=by
 unfold Ah at *
 split at e
 .rename_i F G
  try simp only[G]
  split at e
  .rename_i J
   rw[sH J];cases E:Az P conv c o T (restrict σ F) nx with
   |none=>rw[E]at e;cases e
   |some q=>rw[E]at e;rw[Rx (fun f args σ r=>Ji h) E];exact e
  .cases e
 .cases e
theorem nH{c c':Call}(h:CLe c c'){ops:Array Oper}:∀(l:List Oper) (s s':St),BN P conv c ops l s=some s'->BN P conv c' ops l s=some s'
 |[],s,s',e=>e
 |o :: l,s,s',e=>by
  unfold BN at *
  split at e
  .rename_i E
   try simp only[E]
   cases G:Az P conv c o s.T s.σ s.nx with
   |none=>rw[G]at e;cases e
   |some q=>
    rw[G]at e;rw[Rx (fun f args σ r=>Ji h) G];exact nH h l _ _ e
  .rename_i E
   try simp only[E]
   exact nH h l _ _ e
  .cases e
theorem nM{c c':Call}(h:CLe c c'){ops:Array Oper}:∀(l:List Oper) (s:St) (r:St×List (List Nat)),Bh P conv c ops l s=some r->Bh P conv c' ops l s=some r
 |[],s,r,e=>e
 |o :: l,s,r,e=>by
  unfold Bh at *
  split at e
  .rename_i G
   try simp only[G]
   cases J:Ah P conv c o s.T s.σ s.nx with
   |none=>rw[J]at e;cases e
   |some q=>
    rw[J]at e;rw[Vb h J];simp only at e⊢;cases E:Bh P conv c ops l ⟨CS s.T o.dst q.1,q.2.1,q.2.2⟩with
    |none=>rw[E]at e;cases e
    |some O=>rw[E]at e;rw[nM h l _ _ E];exact e
  .rename_i G
   try simp only[G]
   cases E:Bh P conv c ops l ⟨CS s.T o.dst (.AB []),s.σ,s.nx⟩with
   |none=>rw[E]at e;cases e
   |some O=>rw[E]at e;rw[nM h l _ _ E];exact e
  .cases e
theorem PK{c c':Call}(h:CLe c c'){ops:Array Oper}{s s':St}(e:Ce P conv c ops s=some s'):Ce P conv c' ops s=some s':=by
 unfold Ce at *
 split at e
 .rename_i G
  rw[sH G];cases E:Bh P conv c ops ops.toList s with
  |none=>rw[E]at e;cases e
  |some q=>rw[E]at e;rw[nM h _ _ _ E];exact e
 .cases e
noncomputable def dI(body:St->Option (Ex×St))(s:St):Option (Ex×St) :=
 open Classical in if h:∃r,∃n,BH body n s=some r then some h.choose else none
theorem J8{body:St->Option (Ex×St)}:∀(n:Nat) (s:St) (r:Ex×St),BH body n s=some r->BH body (n+1) s=some r
 |0,s,r,h=>by cases h
 |n+1,s,r,h=>by
  unfold BH at h⊢
  split at h
  .exact J8 n _ r h
  .exact h
theorem ED{body:St->Option (Ex×St)}{n m:Nat}(E:n<=m){s:St}{r:Ex×St}(h:BH body n s=some r):BH body m s=some r:=by
 induction E with
 |refl=>exact h
 |step _ G=>exact J8 _ _ _ G
theorem nS{body:St->Option (Ex×St)}{s:St}{r:Ex×St}:dI body s=some r↔∃n,BH body n s=some r:=by
 unfold dI;constructor
 .intro h
  split at h
  .rename_i hex
   simp only[sO]at h;subst h;exact hex.choose_spec
  .cases h
 .rintro ⟨n,hn⟩
  have hex:∃r,∃n,BH body n s=some r:=⟨r,n,hn⟩;rw[dif_pos hex];obtain⟨m,hm⟩:=hex.choose_spec;have G:=ED (vF n m) hn;have E:=ED (vk n m) hm;rw[G]at E;exact E.symm
theorem MB(body:St->Option (Ex×St))(s:St):dI body s=match body s with
  |some (.norm,s')=>dI body s'
  |r=>r:=by
 apply Option.ext;intro r;rw[nS];constructor
 .rintro ⟨n,hn⟩
  cases n with
  |zero=>cases hn
  |succ n=>
   unfold BH at hn;cases hb:body s with
   |none=>rw[hb]at hn;cases hn
   |some q=>
    rw[hb]at hn;obtain⟨ex,G⟩:=q;cases ex with
    |norm=>exact nS.2 ⟨n,hn⟩
    |exit id=>exact hn
    |ret=>exact hn
 .intro h
  split at h
  .rename_i s' hb
   obtain⟨n,hn⟩:=nS.1 h;exact⟨n+1,by unfold BH;simp only[hb];exact hn⟩
  .rename_i E
   refine⟨1,?_⟩;unfold BH
   split
   .rename_i s' hb;exact absurd hb (E s')
   .exact h
noncomputable def Ar(P:Program)(conv:FuncId->Conv)(call:Call):Code->St->Option (Ex×St)
 | .skip,s=>some (.norm,s)
 | .region _ ops draw,s=>match(if draw then Ce P conv call ops s else BN P conv call ops ops.toList s)with
  |some s'=>some (.norm,s')
  |none=>none
 | .seq a b,s=>match Ar P conv call a s with
  |some (.norm,s')=>Ar P conv call b s'
  |r=>r
 | .cond c a b,s=>match val s.T c with
  | .sc (.bool true)=>Ar P conv call a s
  | .sc (.bool false)=>Ar P conv call b s
  |_=>none
 | .block id c,s=>match Ar P conv call c s with
  |some (.exit j,s')=>if j=id then some (.norm,s')else some (.exit j,s')
  |r=>r
 | .loop c,s=>dI (Ar P conv call c) s
 | .exit id,s=>some (.exit id,s)
 | .ret,s=>some (.ret,s)
 |_,_=>none
theorem nP{b b':St->Option (Ex×St)}(h:∀s r,b s=some r->b' s=some r):∀(n:Nat) (s:St) (r:Ex×St),BH b n s=some r->BH b' n s=some r
 |0,s,r,e=>by cases e
 |n+1,s,r,e=>by
  unfold BH at *
  split at e
  .rename_i s' hb;simp only[h _ _ hb];exact nP h n s' r e
  .cases E:b s with
   |none=>rw[E]at e;cases e
   |some q=>
    rw[E]at e;rw[h _ _ E];obtain⟨ex,J⟩:=q;cases ex with
    |norm=>rename_i G;exact absurd E (G J)
    |exit id=>exact e
    |ret=>exact e
theorem nZ{c c':Call}(h:CLe c c'){n m:Nat}(O:n<=m):∀(cd:Code) (s:St) (r:Ex×St),xI P conv c n cd s=some r->xI P conv c' m cd s=some r:=by
 intro cd
 induction cd with
 |region id ops draw=>
  intro s r e;simp only[xI]at *;cases draw with
  |true=>
   simp only[if_true]at *;cases E:Ce P conv c ops s with
   |none=>rw[E]at e;cases e
   |some q=>rw[E]at e;rw[PK h E];exact e
  |false=>
   simp only[yJ,if_false]at *;cases E:BN P conv c ops ops.toList s with
   |none=>rw[E]at e;cases e
   |some q=>rw[E]at e;rw[nH h _ _ _ E];exact e
 |seq a b G J=>
  intro s r e;simp only[xI]at *;cases E:xI P conv c n a s with
  |none=>rw[E]at e;cases e
  |some q=>
   rw[E]at e;rw[G _ _ E];obtain⟨ex,Y⟩:=q;cases ex<;>first|exact J _ _ e|exact e
 |cond v a b G J=>
  intro s r e;simp only[xI]at *
  split at e
  .exact G _ _ e
  .exact J _ _ e
  .cases e
 |block id cd S=>
  intro s r e;simp only[xI]at *;cases E:xI P conv c n cd s with
  |none=>rw[E]at e;cases e
  |some q=>rw[E]at e;rw[S _ _ E];exact e
 |loop cd S=>
  intro s r e;simp only[xI]at *;exact ED O (nP (fun s r=>S s r) n s r e)
 |skip=>intro s r e;exact e
 |exit id=>intro s r e;exact e
 |ret=>intro s r e;exact e
 |_=>intro s r e;simp only[xI]at e;cases e
theorem YG{c c':Call}(h:CLe c c'){n:Nat}:∀(cd:Code) (s:St) (r:Ex×St),xI P conv c n cd s=some r->Ar P conv c' cd s=some r:=by
 intro cd
 induction cd with
 |region id ops draw=>
  intro s r e;simp only[xI,Ar]at *;cases draw with
  |true=>
   simp only[if_true]at *;cases E:Ce P conv c ops s with
   |none=>rw[E]at e;cases e
   |some q=>rw[E]at e;rw[PK h E];exact e
  |false=>
   simp only[yJ,if_false]at *;cases E:BN P conv c ops ops.toList s with
   |none=>rw[E]at e;cases e
   |some q=>rw[E]at e;rw[nH h _ _ _ E];exact e
 |seq a b G J=>
  intro s r e;simp only[xI,Ar]at *;cases E:xI P conv c n a s with
  |none=>rw[E]at e;cases e
  |some q=>
   rw[E]at e;rw[G _ _ E];obtain⟨ex,Y⟩:=q;cases ex<;>first|exact J _ _ e|exact e
 |cond v a b G J=>
  intro s r e;simp only[xI,Ar]at *
  split at e
  .rename_i O;simp only[O];exact G _ _ e
  .rename_i O;simp only[O];exact J _ _ e
  .cases e
 |block id cd S=>
  intro s r e;simp only[xI,Ar]at *;cases E:xI P conv c n cd s with
  |none=>rw[E]at e;cases e
  |some q=>rw[E]at e;rw[S _ _ E];exact e
 |loop cd S=>
  intro s r e;simp only[xI,Ar]at *;exact nS.2 ⟨n,nP (fun s r=>S s r) n s r e⟩
 |skip=>intro s r e;exact e
 |exit id=>intro s r e;exact e
 |ret=>intro s r e;exact e
 |_=>intro s r e;simp only[xI]at e;cases e
def Chain(C:Nat->Call):Prop:=∀k,CLe (C k) (C (k+1))
theorem Chain.le{C:Nat->Call}(h:Chain C){k m:Nat}(E:k<=m):CLe (C k) (C m):=by
 induction E with
 |refl=>exact fun _ _ _ _ _ e=>e
 |step _ G=>exact fun f args σ nx r e=>h _ f args σ nx r (G f args σ nx r e)
noncomputable def sup(C:Nat->Call):Call:=fun f args σ nx=>
 open Classical in if h:∃r,∃k,C k f args σ nx=some r then some h.choose else none
theorem aJ{C:Nat->Call}(E:Chain C){f:FuncId}{args:List V}{σ:Store}{nx:Nat}{r:V×Store×Nat}:sup C f args σ nx=some r↔∃k,C k f args σ nx=some r:=by
 unfold sup;constructor
 .intro h
  split at h
  .rename_i hex
   simp only[sO]at h;subst h;exact hex.choose_spec
  .cases h
 .rintro ⟨n,hn⟩
  have hex:∃r,∃k,C k f args σ nx=some r:=⟨r,n,hn⟩;rw[dif_pos hex];obtain⟨m,hm⟩:=hex.choose_spec;have J:=E.le (vF n m) _ _ _ _ _ hn;have G:=E.le (vk n m) _ _ _ _ _ hm;rw[J]at G;exact G.symm
theorem YH{C:Nat->Call}(G:Chain C){f:FuncId}{args:List V}{σ:Store}{nx:Nat}{r:V×Store×Nat}(e:BU conv (sup C) f args σ nx=some r):∃k,BU conv (C k) f args σ nx=some r:=by
 unfold BU at *
 split at e
 .exact(aJ G).1 e
 .split at e
  .rename_i ts ids J
   try simp only[J]
   cases E:sup C f ts lI 0 with
   |none=>rw[E]at e;cases e
   |some q=>
    obtain⟨k,O⟩:=(aJ G).1 E;rw[E]at e;exact⟨k,by rw[O];exact e⟩
  .cases e
 .split at e
  .rename_i ts ids J
   try simp only[J]
   cases E:sup C f ts lI nx with
   |none=>rw[E]at e;cases e
   |some q=>
    obtain⟨k,O⟩:=(aJ G).1 E;rw[E]at e;exact⟨k,by rw[O];exact e⟩
  .cases e
theorem Vd{C:Nat->Call}(E:Chain C){o:Oper}{T:Nat->V}{σ:Store}{nx:Nat}{r:V×Store×Nat}(e:Az P conv (sup C) o T σ nx=some r):∃k,Az P conv (C k) o T σ nx=some r:=by
 rcases YF e with h|⟨f,args,G,J⟩
 .exact⟨0,h _⟩
 .obtain⟨k,O⟩:=YH E G
  exact⟨k,J _ O⟩
theorem ac8{C:Nat->Call}(G:Chain C){o:Oper}{T:Nat->V}{σ:Store}{nx:Nat}{r:V×Store×Nat}(e:Ah P conv (sup C) o T σ nx=some r):∃k,Ah P conv (C k) o T σ nx=some r:=by
 unfold Ah at *
 split at e
 .rename_i F J
  try simp only[J]
  split at e
  .rename_i O
   simp only[O,if_true];cases E:Az P conv (sup C) o T (restrict σ F) nx with
   |none=>rw[E]at e;cases e
   |some q=>
    obtain⟨k,S⟩:=Vd G E;rw[E]at e;exact⟨k,by rw[S];exact e⟩
  .cases e
 .cases e
theorem Jj{C:Nat->Call}(E:Chain C){ops:Array Oper}:∀(l:List Oper) (s s':St),BN P conv (sup C) ops l s=some s'->∃k,BN P conv (C k) ops l s=some s'
 |[],s,s',e=>⟨0,e⟩
 |o :: l,s,s',e=>by
  unfold BN at e
  split at e
  .rename_i G
   cases J:Az P conv (sup C) o s.T s.σ s.nx with
   |none=>rw[J]at e;cases e
   |some q=>
    rw[J]at e;obtain⟨k,O⟩:=Vd E J;obtain⟨m,hm⟩:=Jj E l _ _ e;refine⟨max k m,?_⟩;unfold BN;simp only[G,Rx (fun f args σ r=>Ji (E.le (vF k m))) O];exact nH (E.le (vk k m)) _ _ _ hm
  .rename_i G
   obtain⟨m,hm⟩:=Jj E l _ _ e;exact⟨m,by unfold BN;simp only[G];exact hm⟩
  .cases e
theorem nK{C:Nat->Call}(G:Chain C){ops:Array Oper}:∀(l:List Oper) (s:St) (r:St×List (List Nat)),Bh P conv (sup C) ops l s=some r->∃k,Bh P conv (C k) ops l s=some r
 |[],s,r,e=>⟨0,e⟩
 |o :: l,s,r,e=>by
  unfold Bh at e
  split at e
  .rename_i J
   cases O:Ah P conv (sup C) o s.T s.σ s.nx with
   |none=>rw[O]at e;cases e
   |some q=>
    rw[O]at e;simp only at e;cases E:Bh P conv (sup C) ops l ⟨CS s.T o.dst q.1,q.2.1,q.2.2⟩with
    |none=>rw[E]at e;cases e
    |some S=>
     rw[E]at e;obtain⟨k,Y⟩:=ac8 G O;obtain⟨m,hm⟩:=nK G l _ _ E;refine⟨max k m,?_⟩;unfold Bh;simp only[J,Vb (G.le (vF k m)) Y,nM (G.le (vk k m)) _ _ _ hm];exact e
  .rename_i J
   cases E:Bh P conv (sup C) ops l ⟨CS s.T o.dst (.AB []),s.σ,s.nx⟩with
   |none=>rw[E]at e;cases e
   |some S=>
    rw[E]at e;obtain⟨m,hm⟩:=nK G l _ _ E;refine⟨m,?_⟩;unfold Bh;simp only[J,hm];exact e
  .cases e
theorem YI{C:Nat->Call}(G:Chain C){ops:Array Oper}{s s':St}(e:Ce P conv (sup C) ops s=some s'):∃k,Ce P conv (C k) ops s=some s':=by
 unfold Ce at *
 split at e
 .rename_i J
  simp only[J,if_true];cases E:Bh P conv (sup C) ops ops.toList s with
  |none=>rw[E]at e;cases e
  |some q=>
   obtain⟨k,O⟩:=nK G _ _ _ E;rw[E]at e;exact⟨k,by rw[O];exact e⟩
 .cases e
theorem MC{B:Nat->St->Option (Ex×St)}{b:St->Option (Ex×St)}(E:∀k m,k<=m->∀s r,B k s=some r->B m s=some r)(h:∀s r,b s=some r->∃k,B k s=some r) :
  ∀(n:Nat) (s:St) (r:Ex×St),BH b n s=some r->∃k,BH (B k) n s=some r
 |0,s,r,e=>by cases e
 |n+1,s,r,e=>by
  unfold BH at e
  split at e
  .rename_i s' hb
   obtain⟨k,G⟩:=h _ _ hb;obtain⟨m,hm⟩:=MC E h n s' r e;refine⟨max k m,?_⟩;unfold BH;simp only[E k _ (vF k m) _ _ G];exact nP (E m _ (vk k m)) n s' r hm
  .rename_i J
   obtain⟨k,G⟩:=h _ _ e;refine⟨k,?_⟩;unfold BH;rw[G];obtain⟨ex,O⟩:=r;cases ex with
   |norm=>exact absurd e (J O)
   |exit id=>rfl
   |ret=>rfl
theorem Ve{C:Nat->Call}(S:Chain C):∀(cd:Code) (s:St) (r:Ex×St),Ar P conv (sup C) cd s=some r->∃k,xI P conv (C k) k cd s=some r:=by
 intro cd
 induction cd with
 |region id ops draw=>
  intro s r e;simp only[xI,Ar]at *;cases draw with
  |true=>
   simp only[if_true]at *;cases E:Ce P conv (sup C) ops s with
   |none=>rw[E]at e;cases e
   |some q=>obtain⟨k,G⟩:=YI S E;rw[E]at e;exact⟨k,by rw[G];exact e⟩
  |false=>
   simp only[yJ,if_false]at *;cases E:BN P conv (sup C) ops ops.toList s with
   |none=>rw[E]at e;cases e
   |some q=>obtain⟨k,G⟩:=Jj S _ _ _ E;rw[E]at e;exact⟨k,by rw[G];exact e⟩
 |seq a b J O=>
  intro s r e;simp only[xI,Ar]at *;cases E:Ar P conv (sup C) a s with
  |none=>rw[E]at e;cases e
  |some q=>
   rw[E]at e;obtain⟨k,G⟩:=J _ _ E;obtain⟨ex,s1⟩:=q;cases ex with
   |norm=>
    obtain⟨m,hm⟩:=O _ _ e;exact⟨max k m,by rw[nZ (S.le (vF k m)) (vF k m) _ _ _ G];exact nZ (S.le (vk k m)) (vk k m) _ _ _ hm⟩
   |exit id=>exact⟨k,by rw[G];exact e⟩
   |ret=>exact⟨k,by rw[G];exact e⟩
 |cond v a b J O=>
  intro s r e;simp only[xI,Ar]at *
  split at e
  .rename_i hv;simp only[hv];exact J _ _ e
  .rename_i hv;simp only[hv];exact O _ _ e
  .cases e
 |block id cd ih=>
  intro s r e;simp only[xI,Ar]at *;cases E:Ar P conv (sup C) cd s with
  |none=>rw[E]at e;cases e
  |some q=>obtain⟨k,G⟩:=ih _ _ E;rw[E]at e;exact⟨k,by rw[G];exact e⟩
 |loop cd ih=>
  intro s r e;simp only[xI,Ar]at *;obtain⟨n,hn⟩:=nS.1 e;obtain⟨k,G⟩:=MC (B:=fun k=>xI P conv (C k) k cd) (fun k m Y s r=>nZ (S.le Y) Y cd s r) (fun s r h=>ih s r h) n s r hn;refine⟨max n k,?_⟩;exact ED (vF n k) (nP (fun s r=>nZ (S.le (vk n k)) (vk n k) cd s r) n s r G)
 |skip=>intro s r e;exact⟨0,e⟩
 |exit id=>intro s r e;exact⟨0,e⟩
 |ret=>intro s r e;exact⟨0,e⟩
 |_=>intro s r e;simp only[Ar]at e;cases e
theorem ac9{c c':Call}(h:CLe c c'){n m:Nat}(E:n<=m){fn:Func}{body:Code}{args:List V}{σ:Store}{nx:Nat}{r:V×Store×Nat}(e:Gw P conv c n fn body args σ nx=some r):Gw P conv c' m fn body args σ nx=some r:=by
 unfold Gw at *;cases G:xI P conv c n body ⟨Dt args,σ,nx⟩with
 |none=>rw[G]at e;cases e
 |some q=>rw[G]at e;rw[nZ h E _ _ _ G];exact e
theorem nX(ext:Ext):Chain (evF P conv ext):=by
 intro k
 induction k with
 |zero=>intro f args σ nx r e;cases e
 |succ k G=>
  intro f args σ nx r e;unfold evF at e⊢
  split at e
  .exact e
  .rename_i J
   split at e
   .rename_i fn O
    try simp only[J]
    split at e
    .rename_i body hb
     try simp only[hb]
     split at e
     .rename_i E
      rw[sH E];exact ac9 G (Nat.le_succ k) e
     .cases e
    .cases e
   .cases e
noncomputable def ev(P:Program)(conv:FuncId->Conv)(ext:Ext):Call:=sup (evF P conv ext)
theorem mY(hm:P.follows .mixedOrders=true){ext:Ext}(E:Ia P ext):Dv P (ev P conv ext):=fun f args σ nx v σ' nx' h=>by
 obtain⟨k,G⟩:=(aJ (nX ext)).1 h;exact PI hm E k f args σ nx v σ' nx' G
noncomputable def Vf(P:Program)(conv:FuncId->Conv)(call:Call)(rs:List ResultVar)(body:Code)(s:St):JZ :=
 match Ar P conv call body s with
 |some (.norm,st)=>match Ae P st.T st.σ rs with
  |some vs=>some (oneOf vs,st.σ,st.nx)
  |none=>none
 |some (.ret,st)=>match Ae P st.T st.σ rs with
  |some vs=>some (oneOf vs,st.σ,st.nx)
  |none=>none
 |_=>none
theorem mZ{ext:Ext}{f:FuncId}{g:List V->Store->Nat->JZ}(G:ext f=some g)(args:List V)(σ:Store)(nx:Nat):ev P conv ext f args σ nx=g args σ nx:=by
 apply Option.ext;intro r;unfold ev;rw[aJ (nX ext)];constructor
 .rintro ⟨k,E⟩
  cases k with
  |zero=>cases E
  |succ k=>unfold evF at E;simpa only[G]using E
 .intro h
  exact⟨1,by unfold evF;simpa only[G]using h⟩
theorem ame{ext:Ext}{f:FuncId}{fn:Func}{body:Code}{rs:List ResultVar}(O:ext f=none)(S:P.funcs[f]?=some fn)(hb:fn.body=some body)(Y:fn.results.toList=rs){args:List V}(J:U3 fn body args.length=true)(σ:Store)(nx:Nat) :
  ev P conv ext f args σ nx=Vf P conv (ev P conv ext) rs body ⟨Dt args,σ,nx⟩:=by
 apply Option.ext;intro r;unfold ev;rw[aJ (nX ext)];constructor
 .rintro ⟨k,E⟩
  cases k with
  |zero=>cases E
  |succ k=>
   unfold evF at E;simp only[O,S,hb,J,if_true]at E;unfold Gw at E;unfold Vf;cases G:xI P conv (evF P conv ext k) k body ⟨Dt args,σ,nx⟩with
   |none=>rw[G]at E;cases E
   |some q=>
    rw[G]at E;rw[YG (c':=sup (evF P conv ext)) (fun f args σ nx r e=>(aJ (nX ext)).2 ⟨k,e⟩) _ _ _ G,<- Y];exact E
 .intro h
  unfold Vf at h;cases G:Ar P conv (sup (evF P conv ext)) body ⟨Dt args,σ,nx⟩with
  |none=>rw[G]at h;cases h
  |some q=>
   rw[G]at h;obtain⟨k,E⟩:=Ve (nX ext) _ _ _ G;refine⟨k+1,?_⟩;unfold evF;simp only[O,S,hb,J,if_true];unfold Gw;rw[E,Y];exact h
end
end Go.TV
namespace Go.TV
set_option linter.unusedVariables false
set_option linter.unusedSimpArgs false
variable [Known]
structure TyI where
 ok:Bool
 agg:Bool
 size:Nat
 zero:List V
 slice:Bool
 str:Bool
 ptr:Bool
 GR:Nat
 Ry:Nat
 D_:List V
 Rz:Bool
 afp:List (Nat×Nat×Option Bool)
 plc:List (Nat×Nat)
 bok:Bool
 u8:Bool
def zeroV(i:TypeInfo):List V :=
 match i.zero with
 |some z=>if z.cells.size=i.size then z.cells.toList.map BG else []
 |none=>[]
def Jk(i:TypeInfo):Bool :=
 match i.zero with
 |some z=>z.cells.size=i.size
 |none=>false
def aqz(P:Program)(t:TypeId):Option Bool:=(P.underlying t).map G7
def vI(P:Program)(t:TypeId):TyI :=
 match P.info? t,P.underlying t with
 |some i,some d=>
  let e:=match d with
   | .slice e=>P.info? e
   |_=>none
  {ok:=true,agg:=G7 d,size:=i.size,zero:=if Jk i then zeroV i else [],slice:=d matches .slice _,str:=d matches .string,ptr:=d matches .pointer _,
   GR:=(e.map (·.size)).getD 0,Ry:=(e.map (·.bytes)).getD 0,D_:=(e.map zeroV).getD [],Rz:=(e.map Jk).getD false,
   afp:=match d with
    | .struct fs=>fs.toList.map fun f=>(f.offset,((P.info? f.type).map (·.size)).getD 0,(aqz P f.type))
    |_=>[]
   plc:=match d with
    | .struct fs=>((uI P (fs.mapM fun f=>do pure (f.offset,<- sizeOf f.type))).map (·.toList)).getD []
    |_=>[]
   bok:=match d with
    | .struct fs=>(uI P (fs.mapM fun f=>do pure (f.offset,<- sizeOf f.type))).isSome && Jk i
    |_=>false
   u8:=match d with
    | .slice e=>(P.underlying e matches some (.int .u8)) && ((P.info? e).map (·.size))==some 1
    |_=>false }
 |_,_=>⟨false,false,0,[],false,false,false,0,0,[],false,[],[],false,false⟩
section
variable {P:Program} {conv:FuncId->Conv} {call:Call} {σ:Store} {nx:Nat}
theorem Zo{t:TypeId}(h:(vI P t).ok=true):∃i d,P.info? t=some i/\P.underlying t=some d/\(vI P t).agg=G7 d/\(vI P t).size=i.size:=by
 unfold vI at h⊢;cases hi:P.info? t with
 |none=>simp[hi]at h
 |some i=>
  cases E:P.underlying t with
  |none=>simp[hi,E]at h
  |some d=>exact⟨i,d,rfl,rfl,rfl,rfl⟩
theorem Zn{t:TypeId}(h:(vI P t).slice=true)(E:(vI P t).Rz=true):∃e i z,P.underlying t=some (.slice e)/\P.info? e=some i/\i.zero=some z/\z.cells.size=i.size/\(vI P t).GR=i.size/\(vI P t).Ry=i.bytes/\(vI P t).D_=z.cells.toList.map BG:=by
 unfold vI at h E⊢;cases hi:P.info? t with
 |none=>simp[hi]at h
 |some i=>
  cases O:P.underlying t with
  |none=>simp[hi,O]at h
  |some d=>
   simp only[hi,O]at h E⊢;cases d<;>simp at h;rename_i e;simp only at E⊢;cases G:P.info? e with
   |none=>simp[G]at E
   |some S=>
    simp only[G,zG,xE]at E⊢;unfold Jk at E;cases J:S.zero with
    |none=>simp[J]at E
    |some z=>
     simp only[J,decide_eq_true_eq]at E;exact⟨e,S,z,rfl,G,J,E,rfl,rfl,by simp[zeroV,J,E]⟩
theorem ac_{t:TypeId}{row:List V}{off:Nat}(h:(vI P t).ok=true)(ha:(vI P t).agg=false):AV P σ t (.tp row off)=row[off]?:=by
 obtain⟨i,d,J,O,E,S⟩:=Zo h;rw[ha]at E;unfold AV;simp only[J,O,<- E,yJ,if_false,Dk]
 by_cases G:off<row.length
 .rw[sH (by omega),zy G]
  have:(row.drop off).take 1=[row[off]]:=by
   rw[yN G];rfl
  rw[this]
 .rw[sJ (by omega),z_ (by omega)]
theorem YJ{t:TypeId}{row:List V}{off:Nat}(h:(vI P t).ok=true)(ha:(vI P t).agg=true):AV P σ t (.tp row off)=if off+(vI P t).size<=row.length then some (.agg ((row.drop off).take (vI P t).size))else none:=by
 obtain⟨i,d,G,J,E,O⟩:=Zo h;rw[ha]at E;unfold AV;simp only[G,J,<- E,if_true,Dk,O]
 split<;>rfl
theorem ac'{t:TypeId}{b off:Nat}(h:(vI P t).ok=true)(ha:(vI P t).agg=false):AV P σ t (.rp b off)=(σ b).bind fun B=>B.cells[off]?:=by
 obtain⟨i,d,J,O,E,S⟩:=Zo h;rw[ha]at E;unfold AV;simp only[J,O,<- E,yJ,if_false,Dk];cases σ b with
 |none=>rfl
 |some B=>
  simp only[zi]
  by_cases G:off<B.cells.length
  .rw[sH (by omega),zy G]
   have:(B.cells.drop off).take 1=[B.cells[off]]:=by
    rw[yN G];rfl
   rw[this]
  .rw[sJ (by omega),z_ (by omega)]
theorem YK{t:TypeId}{b off:Nat}(h:(vI P t).ok=true)(ha:(vI P t).agg=true):AV P σ t (.rp b off)=(σ b).bind fun B=>if off+(vI P t).size<=B.cells.length then some (.agg ((B.cells.drop off).take (vI P t).size))else none:=by
 obtain⟨i,d,G,J,E,O⟩:=Zo h;rw[ha]at E;unfold AV;simp only[G,J,<- E,if_true,Dk,O];cases σ b with
 |none=>rfl
 |some B=>simp only[zi];split<;>rfl
theorem YL{t:TypeId}{b off:Nat}{v:V}(h:(vI P t).ok=true)(hc:qI v=true)(hs:(vI P t).size=1):C_ P σ t (.rp b off) v=(σ b).bind fun B=>if B.wr=true/\off<B.cells.length then some (upd σ b (some { B with cells:=B.cells.set off v }))else none:=by
 obtain⟨i,d,G,O,S,E⟩:=Zo h;rw[hs]at E;have J:cellsOfV v=some [v]:=by cases v<;>simp_all [cellsOfV,qI]
 unfold C_;simp only[G,J,<- E,yL,uH,uw,hc,Bool.and_true,and_true,true_and,patch];cases σ b with
 |none=>rfl
 |some B=>simp only[zi];rfl
theorem Vg{t:TypeId}{b off:Nat}{vs:List V}(h:(vI P t).ok=true):C_ P σ t (.rp b off) (.agg vs)=(σ b).bind fun B=>if B.wr=true/\vs.length=(vI P t).size/\off+vs.length<=B.cells.length/\vs.all qI=true then some (upd σ b (some { B with cells:=patch B.cells off vs }))else none:=by
 obtain⟨i,d,E,J,O,G⟩:=Zo h;unfold C_;simp only[E,G,cellsOfV];cases σ b with
 |none=>rfl
 |some B=>simp only[zi]
theorem PL{t:TypeId}{f:Nat}(h:(vI P t).ok=true) :
  (∃fields fd,P.underlying t=some (.struct fields)/\fields[f]?=some fd/\(vI P t).afp[f]?=some (fd.offset,((P.info? fd.type).map (·.size)).getD 0,aqz P fd.type)) \/
  ((vI P t).afp[f]?=none/\∀fields,P.underlying t=some (.struct fields)->fields[f]?=none):=by
 obtain⟨i,d,G,J,O,S⟩:=Zo h;unfold vI;simp only[G,J];cases d<;>try (refine .inr ⟨rfl,fun fields e=>by cases e⟩)
 rename_i fs;simp only[zF,xP];cases E:fs[f]? with
 |none=>exact .inr ⟨rfl,fun fields e=>by cases e;exact E⟩
 |some fd=>exact .inl ⟨fs,fd,rfl,E,rfl⟩
theorem YM{t:TypeId}{row:List V}{off f:Nat}(h:(vI P t).ok=true):Bv P t (.tp row off) f=((vI P t).afp[f]?).bind fun p=>if p.2.1=0 then none else some (.tp row (off+p.1)):=by
 rcases PL (f:=f) h with ⟨fields,fd,E,G,J⟩|⟨E,G⟩
 .unfold Bv
  simp only[E,G,J,zi];cases P.info? fd.type<;>rfl
 .unfold Bv
  rw[E];cases hu:P.underlying t with
  |none=>rfl
  |some d=>cases d<;>first|(simp;done)|(rename_i fs;simp[G fs hu])
theorem YN{t:TypeId}{b off f:Nat}(h:(vI P t).ok=true):Bv P t (.rp b off) f=((vI P t).afp[f]?).bind fun p=>if p.2.1=0 then none else some (.rp b (off+p.1)):=by
 rcases PL (f:=f) h with ⟨fields,fd,E,G,J⟩|⟨E,G⟩
 .unfold Bv
  simp only[E,G,J,zi];cases P.info? fd.type<;>rfl
 .unfold Bv
  rw[E];cases hu:P.underlying t with
  |none=>rfl
  |some d=>cases d<;>first|(simp;done)|(rename_i fs;simp[G fs hu])
theorem YO{t:TypeId}{row:List V}{len:Nat}{k:IntKind}{i:Int}(h:(vI P t).slice=true)(E:(vI P t).Rz=true):B_ P t (.ts row len) (.sc (.int k i))=if 0<=i/\i<len/\row≠[]then some (.tp row (i.toNat *(vI P t).GR))else none:=by
 obtain⟨e,S,z,G,J,_,_,O,_,_⟩:=Zn h E;unfold B_;simp only[G,J,O]
theorem YP{t:TypeId}{b off len:Nat}{k:IntKind}{i:Int}(h:(vI P t).slice=true)(E:(vI P t).Rz=true):B_ P t (.rs b off len) (.sc (.int k i))=if 0<=i/\i<len then some (.rp b (off+i.toNat *(vI P t).GR))else none:=by
 obtain⟨e,S,z,G,J,_,_,O,_,_⟩:=Zn h E;unfold B_;simp only[G,J,O]
theorem ada{t:TypeId}{l c:Int}(h:(vI P t).slice=true)(J:(vI P t).Rz=true)(E:decide ((vI P t).GR<1000000)=true):EI P t (.sc (.int .i64 l)) (.sc (.int .i64 c)) σ nx=
  if 0<=l/\l<=c/\((vI P t).Ry:Int)*c<=281474976710656/\c<=9223372036854775807/\0<(vI P t).GR then some (.rs nx 0 l.toNat,Aq σ nx (rep l.toNat (vI P t).D_) (vI P t).GR,nx+1)else none:=by
 obtain⟨e,ei,z,O,S,Y,h4,G,h6,h7⟩:=Zn h J;unfold EI;rw[decide_eq_true_eq]at E;simp only[G]at E;simp only[O,S,Y,G,h6,h7,h4,and_true,E]
theorem ng{t:TypeId}{len:Nat}{parts:List (Nat×V)}(h:(vI P t).slice=true)(G:(vI P t).Rz=true):BJ P t len parts σ nx=
  if len=0 then some (.nil,σ,nx)else if 0<(vI P t).GR/\len*(vI P t).GR<=1000 then
   match CB (fun j=>some (j*(vI P t).GR,(vI P t).GR)) (rep len (vI P t).D_) parts with
   |some cells=>some (.rs nx 0 len,Aq σ nx cells (vI P t).GR,nx+1)
   |none=>none
  else none:=by
 obtain⟨e,E,z,J,O,S,Y,h5,h6,h7⟩:=Zn h G;unfold BJ;simp only[J,O,S,h5,h6,h7,Y,and_true];cases CB (fun j=>some (j*E.size,E.size)) (rep len (z.cells.toList.map BG)) parts<;>rfl
theorem YQ{t:TypeId}{parts:List (Nat×V)}(h:(vI P t).bok=true):FV P t parts=(CB (fun i=>(vI P t).plc[i]?) (vI P t).zero parts).map .agg:=by
 unfold vI at h⊢;cases hi:P.info? t with
 |none=>simp[hi]at h
 |some i=>
  cases G:P.underlying t with
  |none=>simp[hi,G]at h
  |some d=>
   simp only[hi,G]at h⊢;cases d<;>simp only[yJ]at h;rename_i fs;rw[zA]at h;obtain⟨O,E⟩:=h;simp only[E,if_true];cases hm:uI P (fs.mapM fun f=>do pure (f.offset,<- sizeOf f.type))with
   |none=>rw[hm]at O;cases O
   |some a=>
    unfold Jk at E;cases J:i.zero with
    |none=>simp[J]at E
    |some z=>
     simp only[J,decide_eq_true_eq]at E;unfold FV places;simp only[hi,G,hm,zG,xE,J,zeroV,E,if_true,xP]
theorem Vh{t:TypeId}{s x:V}(h:(vI P t).slice=true)(J:(vI P t).Rz=true)(hs:decide (0<(vI P t).GR)=true)(E:decide ((vI P t).GR<1000000)=true):Dx P #[t,t] s x σ nx=
  (rowOf σ (vI P t).GR x).bind fun p=>Ag σ nx (vI P t).GR (vI P t).Ry s p.1 p.2:=by
 obtain⟨e,O,z,S,Y,h3,h4,G,h6,h7⟩:=Zn h J;rw[G]at hs E;simp only[decide_eq_true_eq]at hs E;unfold Dx;simp only[wM,wL,t_,S,beq_self_eq_true,Y,h3,G,h6,h4,hs,E,and_self,if_true];cases rowOf σ O.size x<;>rfl
def Hg(σ:Store)(nx:Nat)(row:List V)(m:Nat):V->JZ
 | .rs b off len=>if min m len=0 then some (.sc (.int .i64 0),σ,nx)else(σ b).bind fun B=>
   if B.wr=true/\off+min m len<=B.cells.length/\(row.take (min m len)).all qI=true then
    some (.sc (.int .i64 (min m len:Nat)),upd σ b (some { B with cells:=patch B.cells off (row.take (min m len)) }),nx)else none
 | .nil=>some (.sc (.int .i64 0),σ,nx)
 |_=>none
def FX(σ:Store)(nx:Nat)(z:List V):V->JZ
 | .rs b off len=>if len=0 then some (.AB [],σ,nx)else(σ b).bind fun B=>
   if B.wr=true/\off+len<=B.cells.length/\(rep len z).all qI=true then
    some (.AB [],upd σ b (some { B with cells:=patch B.cells off (rep len z) }),nx)else none
 | .nil=>some (.AB [],σ,nx)
 | .ts _ len=>if len=0 then some (.AB [],σ,nx)else none
 |_=>none
theorem adb{t t2:TypeId}{d x:V}(h:(vI P t).slice=true)(E:(vI P t).Rz=true)(hs:(vI P t).GR=1):Gv P #[t,t2] d x σ nx=(rowOf σ 1 x).bind fun p=>Hg σ nx p.1 p.2 d:=by
 obtain⟨e,S,z,G,J,Y,h4,O,h6,h7⟩:=Zn h E;rw[O]at hs;unfold Gv Hg;simp only[wM,wL,G,J];cases rowOf σ 1 x with
 |none=>rfl
 |some p=>
  obtain⟨row,m⟩:=p;simp only[hs,wE,zH,wR,zi];rw[sH ⟨trivial,trivial⟩];cases d<;>try rfl
  rename_i b off len;simp only
  split
  .rfl
  .cases σ b<;>rfl
theorem YR{t:TypeId}{d:V}(h:(vI P t).slice=true)(E:(vI P t).Rz=true)(hs:(vI P t).GR=1):FW P #[t] d σ nx=FX σ nx (vI P t).D_ d:=by
 obtain⟨e,ei,z,G,J,O,S,Y,h6,h7⟩:=Zn h E;rw[Y]at hs;unfold FW FX;rw[h7];simp only[wM,wL,G,J,O,S,hs];rw[sH ⟨trivial,trivial⟩];cases d<;>try rfl
 rename_i b off len;simp only
 split
 .rfl
 .cases σ b<;>rfl
theorem Vj{t:TypeId}{row:List V}{len:Nat}(h:(vI P t).slice=true):Dz P t (.ts row len)=some (.sc (.int .i64 len)):=by
 unfold vI at h;cases hi:P.info? t with
 |none=>simp[hi]at h
 |some i=>
  cases E:P.underlying t with
  |none=>simp[hi,E]at h
  |some d=>simp only[hi,E]at h;cases d<;>simp at h;simp[Dz,E]
theorem nT{t:TypeId}{b off len:Nat}(h:(vI P t).slice=true):Dz P t (.rs b off len)=some (.sc (.int .i64 len)):=by
 unfold vI at h;cases hi:P.info? t with
 |none=>simp[hi]at h
 |some i=>
  cases E:P.underlying t with
  |none=>simp[hi,E]at h
  |some d=>simp only[hi,E]at h;cases d<;>simp at h;simp[Dz,E]
theorem nU{t:TypeId}(h:(vI P t).slice=true):Dz P t .nil=some (.sc (.int .i64 0)):=by
 unfold vI at h;cases hi:P.info? t with
 |none=>simp[hi]at h
 |some i=>
  cases E:P.underlying t with
  |none=>simp[hi,E]at h
  |some d=>simp only[hi,E]at h;cases d<;>simp at h;simp[Dz,E]
theorem RD{t:TypeId}(h:(vI P t).str=true):P.underlying t=some .string:=by
 unfold vI at h;cases hi:P.info? t with
 |none=>simp[hi]at h
 |some i=>
  cases E:P.underlying t with
  |none=>simp[hi,E]at h
  |some d=>simp only[hi,E]at h;cases d<;>simp at h;rfl
theorem ade{t:TypeId}{s:ByteArray}(h:(vI P t).str=true):Dz P t (.sc (.string s))=some (.sc (.int .i64 s.size)):=by
 simp[Dz,RD h]
theorem adf{t:TypeId}{s:ByteArray}{k:IntKind}{i:Int}(h:(vI P t).str=true):GN P t (.sc (.string s)) (.sc (.int k i))=(if 0<=i then s[i.toNat]? else none).map fun b=> .sc (.int .u8 b.toNat):=by
 unfold GN;simp only[RD h]
 split<;>rename_i e<;>rw[e]<;>rfl
theorem Vk{t:TypeId}{s:ByteArray}{lo hi:Option V}(h:(vI P t).str=true):AP P t (.sc (.string s)) lo hi none σ=(bnd lo 0).bind fun l=>(bnd hi s.size).bind fun h=>if l<=h/\h<=s.size then some (.sc (.string (s.extract l h)))else none:=by
 unfold AP;simp only[RD h];cases bnd lo 0<;>cases bnd hi s.size<;>rfl
theorem YS{t:TypeId}{row:List V}{len:Nat}{lo hi:Option V}(h:(vI P t).slice=true)(E:(vI P t).Rz=true):AP P t (.ts row len) lo hi none σ=(bnd lo 0).bind fun l=>(bnd hi len).bind fun h=>if l<=h/\h<=len then some (.ts ((row.drop (l*(vI P t).GR)).take ((h-l)*(vI P t).GR)) (h-l))else none:=by
 obtain⟨e,S,z,G,J,Y,h4,O,h6,h7⟩:=Zn h E;unfold AP;simp only[G,J,O];cases bnd lo 0<;>cases bnd hi len<;>rfl
theorem YT{t:TypeId}{b off len:Nat}{lo hi:Option V}(h:(vI P t).slice=true)(E:(vI P t).Rz=true):AP P t (.rs b off len) lo hi none σ=(bnd lo 0).bind fun l=>(bnd hi len).bind fun h=>(σ b).bind fun B=>
  if l<=h/\0<(vI P t).GR/\B.st=(vI P t).GR/\off+h*(vI P t).GR<=B.cells.length then
   if l=0 then some (.rs b off h)else if l=h then some (.ts [] 0)else some (.rs b (off+l*(vI P t).GR) (h-l))else none:=by
 obtain⟨e,S,z,G,J,Y,h4,O,h6,h7⟩:=Zn h E;unfold AP;simp only[G,J,O];cases bnd lo 0<;>cases bnd hi len<;>cases σ b<;>rfl
theorem afq(v:Value):toVal (.sc v)=some v:=rfl
section
variable {t:TypeId} {x y:Operand} {k:IntKind} {a b:Int}
theorem amS:Aw P .add t x y (.sc (.int k a)) (.sc (.int k b))=some (.sc (.int k (k.wrap (a+b)))):=by
 simp only[Aw,toVal,eqGuard_add,binOp_add,Op.intArith];rfl
theorem amT:Aw P .sub t x y (.sc (.int k a)) (.sc (.int k b))=some (.sc (.int k (k.wrap (a-b)))):=by
 simp only[Aw,toVal,eqGuard_sub,binOp_sub,Op.intArith];rfl
theorem amU:Aw P .mul t x y (.sc (.int k a)) (.sc (.int k b))=some (.sc (.int k (k.wrap (a*b)))):=by
 simp only[Aw,toVal,eqGuard_mul,binOp_mul,Op.intArith];rfl
theorem amV(h:b≠0):Aw P .quo t x y (.sc (.int k a)) (.sc (.int k b))=some (.sc (.int k (k.wrap (a.tdiv b)))):=by
 simp only[Aw,toVal,eqGuard_quo,binOp_quo,Op.intDiv,sJ h];rfl
theorem amW(h:b≠0):Aw P .rem t x y (.sc (.int k a)) (.sc (.int k b))=some (.sc (.int k (a.tmod b))):=by
 simp only[Aw,toVal,eqGuard_rem,binOp_rem,Op.intDiv,sJ h];rfl
theorem amX:Aw P .eql t x y (.sc (.int k a)) (.sc (.int k b))=some (.sc (.bool (a==b))):=by
 simp only[Aw,toVal,eqGuard_at_int,binOp_eql];rfl
theorem amY:Aw P .neq t x y (.sc (.int k a)) (.sc (.int k b))=some (.sc (.bool (a !=b))):=by
 simp only[Aw,toVal,eqGuard_at_int,binOp_neq];rfl
theorem amZ:Aw P .lss t x y (.sc (.int k a)) (.sc (.int k b))=some (.sc (.bool (decide (a<b)))):=by
 simp only[Aw,toVal,eqGuard_lss,binOp_lss];rfl
theorem am0:Aw P .leq t x y (.sc (.int k a)) (.sc (.int k b))=some (.sc (.bool (decide (a<=b)))):=by
 simp only[Aw,toVal,eqGuard_leq,binOp_leq];rfl
theorem am1:Aw P .gtr t x y (.sc (.int k a)) (.sc (.int k b))=some (.sc (.bool (decide (b<a)))):=by
 simp only[Aw,toVal,eqGuard_gtr,binOp_gtr];rfl
theorem am2:Aw P .geq t x y (.sc (.int k a)) (.sc (.int k b))=some (.sc (.bool (decide (b<=a)))):=by
 simp only[Aw,toVal,eqGuard_geq,binOp_geq];rfl
theorem am3{p:Bool}:Yp P .not (.sc (.bool p))=some (.sc (.bool !p)):=rfl
theorem am4:Yp P .neg (.sc (.int k a))=some (.sc (.int k (k.wrap (0-a)))):=rfl
end
end
end Go.TV
namespace Go.TV
set_option linter.unusedVariables false
set_option linter.unusedSimpArgs false
variable [Known]
section
variable {P:Program} {conv:FuncId->Conv} {call:Call}
def afr(P:Program)(conv:FuncId->Conv)(call:Call)(ops:Array Oper)(rest:List Oper)(T:Nat->V)(d:Option Tmp):JZ->Option St
 |some (v,σ,nx)=>BN P conv call ops rest ⟨CS T d v,σ,nx⟩
 |none=>none
def ajg(P:Program)(conv:FuncId->Conv)(call:Call)(ops:Array Oper)(rest:List Oper)(o:Oper)(s:St):Option Bool->Option St
 |some true=>afr P conv call ops rest s.T o.dst (Az P conv call o s.T s.σ s.nx)
 |some false=>BN P conv call ops rest ⟨CS s.T o.dst (.AB []),s.σ,s.nx⟩
 |none=>none
theorem adg(ops:Array Oper)(s:St):BN P conv call ops [] s=some s:=rfl
theorem YU(ops:Array Oper)(d:Option Tmp)(op:Op)(ty:TypeId)(ps:String)(af:Array Edge)(rest:List Oper)(T:Nat->V)(σ:Store)(nx:Nat) :
  BN P conv call ops (⟨d,op,ty,ps,af,none⟩ :: rest) ⟨T,σ,nx⟩=afr P conv call ops rest T d (Az P conv call ⟨d,op,ty,ps,af,none⟩ T σ nx):=by
 show(match Az P conv call ⟨d,op,ty,ps,af,none⟩ T σ nx with|some (v,σ',nx')=>_|none=>none)=_;cases Az P conv call ⟨d,op,ty,ps,af,none⟩ T σ nx<;>rfl
theorem Vl(ops:Array Oper)(d:Option Tmp)(op:Op)(ty:TypeId)(ps:String)(af:Array Edge)(g:Nat×Bool)(rest:List Oper)(T:Nat->V)(σ:Store)(nx:Nat) :
  BN P conv call ops (⟨d,op,ty,ps,af,some g⟩ :: rest) ⟨T,σ,nx⟩=ajg P conv call ops rest ⟨d,op,ty,ps,af,some g⟩ ⟨T,σ,nx⟩ (A_ ops T ⟨d,op,ty,ps,af,some g⟩):=by
 show(match A_ ops T ⟨d,op,ty,ps,af,some g⟩with|some true=>_|some false=>_|none=>none)=_;cases A_ ops T ⟨d,op,ty,ps,af,some g⟩with
 |none=>rfl
 |some b=>
  cases b with
  |false=>rfl
  |true=>
   simp only[ajg];cases Az P conv call ⟨d,op,ty,ps,af,some g⟩ T σ nx<;>rfl
theorem adh(ops:Array Oper)(rest:List Oper)(T:Nat->V)(d:Tmp)(v:V)(σ:Store)(nx:Nat):afr P conv call ops rest T (some d) (some (v,σ,nx))=BN P conv call ops rest ⟨upd T d v,σ,nx⟩:=rfl
theorem adi(ops:Array Oper)(rest:List Oper)(T:Nat->V)(v:V)(σ:Store)(nx:Nat):afr P conv call ops rest T none (some (v,σ,nx))=BN P conv call ops rest ⟨T,σ,nx⟩:=rfl
theorem adk(ops:Array Oper)(rest:List Oper)(d:Option Tmp)(op:Op)(ty:TypeId)(ps:String)(af:Array Edge)(g:Option (Nat×Bool))(T:Nat->V)(σ:Store)(nx:Nat) :
  ajg P conv call ops rest ⟨d,op,ty,ps,af,g⟩ ⟨T,σ,nx⟩ (some true)=afr P conv call ops rest T d (Az P conv call ⟨d,op,ty,ps,af,g⟩ T σ nx):=rfl
theorem YV(ops:Array Oper)(rest:List Oper)(d:Tmp)(op:Op)(ty:TypeId)(ps:String)(af:Array Edge)(g:Option (Nat×Bool))(T:Nat->V)(σ:Store)(nx:Nat) :
  ajg P conv call ops rest ⟨some d,op,ty,ps,af,g⟩ ⟨T,σ,nx⟩ (some false)=BN P conv call ops rest ⟨upd T d (.AB []),σ,nx⟩:=rfl
def RG(want:Bool):V->Option Bool
 | .sc (.bool b)=>some (b==want)
 | .AB []=>some false
 |_=>none
theorem RH(ops:Array Oper)(d:Option Tmp)(op:Op)(ty:TypeId)(ps:String)(af:Array Edge)(j:Nat)(want:Bool)(T:Nat->V) :
  A_ ops T ⟨d,op,ty,ps,af,some (j,want)⟩=match(ops[j]?).bind (·.dst)with|some d=>RG want (T d)|none=>some false:=by
 unfold A_ RG;rfl
theorem Vm(want b:Bool):RG want (.sc (.bool b))=some (b==want):=rfl
theorem RI(want:Bool):RG want (.AB [])=some false:=rfl
theorem ajh(T:Nat->V)(t:Tmp):val T (.tmp t)=T t:=rfl
theorem adl(T:Nat->V)(v:Value):val T (.const v)=G5 v:=rfl
theorem afs(T:Nat->V)(f:FuncId):val T (.func f)= .clo f []:=rfl
section
variable (d:Option Tmp) (ty:TypeId) (ps:String) (af:Array Edge) (gd:Option (Nat×Bool)) (T:Nat->V) (σ:Store) (nx:Nat)
theorem aji(x:Operand):Az P conv call ⟨d,.move x,ty,ps,af,gd⟩ T σ nx=some (val T x,σ,nx):=rfl
theorem adn(x:Operand):Az P conv call ⟨d,.assign x,ty,ps,af,gd⟩ T σ nx=some (val T x,σ,nx):=rfl
def abI(a b:V):V->Option V
 | .sc (.bool t)=>some (if t then a else b)
 |_=>none
theorem abJ(c a b:Operand):Az P conv call ⟨d,.pick c a b,ty,ps,af,gd⟩ T σ nx=(abI (val T a) (val T b) (val T c)).map (·,σ,nx):=by
 simp only[Az];unfold abI
 split<;>simp_all
theorem YW(a b:V)(t:Bool):abI a b (.sc (.bool t))=some (if t then a else b):=rfl
theorem aqA:isB []=false:=id rfl
theorem aqB(v:V):isB [v]=false:=id rfl
theorem aqC(u v w:V)(l:List V):isB (u :: v :: w :: l)=false:=id rfl
theorem am5(v w:V):isB [v,w]=(isP v && isN w):=id rfl
theorem ajj:isP .nil=false:=id rfl
theorem ajk(k:IntKind)(n:Int):isP (.sc (.int k n))=false:=id rfl
theorem aft(b:Bool):isP (.sc (.bool b))=false:=id rfl
theorem YX(b:ByteArray):isP (.sc (.string b))=false:=id rfl
theorem afu:isP (.sc (.pointer none))=true:=id rfl
theorem ajl:isN .nil=true:=id rfl
theorem am6(v:Value):isN (.sc v)=false:=id rfl
theorem Vo(t:TypeId)(h:(vI P t).ok=true)(E:decide ((vI P t).zero.length=(vI P t).size)=true)(J:decide (0<(vI P t).size)=true)(hb:isB (vI P t).zero=false):Az P conv call ⟨d,.alloc t,ty,ps,af,gd⟩ T σ nx=some (.rp nx 0,Aq σ nx (vI P t).zero 0,nx+1):=by
 obtain⟨i,Y,O,S,h3,h4⟩:=Zo h;simp only[Az,O];unfold vI at E J hb⊢;simp only[O,S,decide_eq_true_eq]at E J hb⊢;unfold Jk zeroV at *;cases G:i.zero with
 |none=>simp[G]at E;omega
 |some z=>
  simp only[G]at E hb⊢
  by_cases hs:z.cells.size=i.size
  .simp only[hs,decide_true,if_true]at hb
   simp[hs,Py,hb]
  .simp[hs]at E;omega
theorem afv(t:TypeId)(x:Operand):Az P conv call ⟨d,.box t x,ty,ps,af,gd⟩ T σ nx=(cellsOfV (val T x)).map fun cs=>(.rp nx 0,Aq σ nx cs 0,nx+1):=by
 simp only[Az];cases cellsOfV (val T x)<;>rfl
theorem afw(t:TypeId)(parts:Array (Nat×Operand)):Az P conv call ⟨d,.build t parts,ty,ps,af,gd⟩ T σ nx=(FV P t (parts.toList.map fun p=>(p.1,val T p.2))).map (·,σ,nx):=rfl
theorem iW(t:TypeId)(len:Nat)(parts:Array (Nat×Operand))(h:(decide (len=0) && !parts.isEmpty)=false):Az P conv call ⟨d,.buildSlice t len parts,ty,ps,af,gd⟩ T σ nx=BJ P t len (parts.toList.map fun p=>(p.1,val T p.2)) σ nx:=by
 simp only[Az,h,yJ,if_false]
theorem ajm(t:TypeId)(a:Operand):Az P conv call ⟨d,.load t a,ty,ps,af,gd⟩ T σ nx=(AV P σ t (val T a)).map (·,σ,nx):=rfl
theorem afx(t:TypeId)(a x:Operand):Az P conv call ⟨d,.store t a x,ty,ps,af,gd⟩ T σ nx=(C_ P σ t (val T a) (val T x)).map (.AB [],·,nx):=rfl
def afy:V->Option V
 | .tp row off=>some (.tp row off)
 | .rp b off=>some (.rp b off)
 |_=>none
theorem J9(x:Operand):Az P conv call ⟨d,.nilCheck x,ty,ps,af,gd⟩ T σ nx=(afy (val T x)).map (·,σ,nx):=by
 simp only[Az];unfold afy
 split<;>simp_all
theorem ajn(row:List V)(off:Nat):afy (.tp row off)=some (.tp row off):=rfl
theorem ajo(b off:Nat):afy (.rp b off)=some (.rp b off):=rfl
theorem afz(op:BinOp)(t:TypeId)(x y:Operand)(E:TypeId):Az P conv call ⟨d,.binOp op t x y E,ty,ps,af,gd⟩ T σ nx=(Aw P op t x y (val T x) (val T y)).map (·,σ,nx):=rfl
theorem ajp(op:UnOp)(t:TypeId)(x:Operand):Az P conv call ⟨d,.unOp op t x,ty,ps,af,gd⟩ T σ nx=(Yp P op (val T x)).map (·,σ,nx):=rfl
theorem YZ(s e:TypeId)(x:Operand):Az P conv call ⟨d,.convert s e x,ty,ps,af,gd⟩ T σ nx=(BZ P s e (val T x) σ).map (·,σ,nx):=rfl
theorem Vp(f:FuncId)(cap:Array Operand):Az P conv call ⟨d,.makeFunc (.func f) #[] cap,ty,ps,af,gd⟩ T σ nx=some (.clo f (cap.toList.map (val T)),σ,nx):=rfl
theorem Ib(t:TypeId)(l c:Operand):Az P conv call ⟨d,.makeSlice t l c,ty,ps,af,gd⟩ T σ nx=EI P t (val T l) (val T c) σ nx:=rfl
theorem afA(t:TypeId)(x:Operand)(lo hi E:Option Operand):Az P conv call ⟨d,.slice t x lo hi E,ty,ps,af,gd⟩ T σ nx=(AP P t (val T x) (lo.map (val T)) (hi.map (val T)) (E.map (val T)) σ).map (·,σ,nx):=rfl
theorem RJ(t:TypeId)(x:Operand)(f:Nat):Az P conv call ⟨d,.fieldAddr t x f,ty,ps,af,gd⟩ T σ nx=(Bv P t (val T x) f).map (·,σ,nx):=rfl
theorem afB(t:TypeId)(x:Operand)(f:Nat):Az P conv call ⟨d,.field t x f,ty,ps,af,gd⟩ T σ nx=(KZ P t (val T x) f).map (·,σ,nx):=rfl
theorem RN(t:TypeId)(x i:Operand):Az P conv call ⟨d,.indexAddr t x i,ty,ps,af,gd⟩ T σ nx=(B_ P t (val T x) (val T i)).map (·,σ,nx):=rfl
theorem afC(t:TypeId)(x i:Operand):Az P conv call ⟨d,.index t x i,ty,ps,af,gd⟩ T σ nx=(GN P t (val T x) (val T i)).map (·,σ,nx):=rfl
def ajq(i:Nat):V->Option V
 | .AB vs=>vs[i]?
 |_=>none
theorem MF(x:Operand)(i:Nat):Az P conv call ⟨d,.extract x i,ty,ps,af,gd⟩ T σ nx=(ajq i (val T x)).map (·,σ,nx):=by
 simp only[Az];unfold ajq
 split<;>simp_all
theorem afD(i:Nat)(vs:List V):ajq i (.AB vs)=vs[i]?:=rfl
def afE(conv:FuncId->Conv)(call:Call)(args:List V)(σ:Store)(nx:Nat):V->JZ
 | .clo g cs=>BU conv call g (args++cs) σ nx
 |_=>none
theorem K_(f:Operand)(args:Array Operand)(ts:Array TypeId):Az P conv call ⟨d,.call ⟨.value f,args,ts⟩,ty,ps,af,gd⟩ T σ nx=afE conv call (args.toList.map (val T)) σ nx (val T f):=by
 simp only[Az];unfold afE;rfl
theorem qC(args:List V)(σ:Store)(nx:Nat)(g:FuncId)(cs:List V):afE conv call args σ nx (.clo g cs)=BU conv call g (args++cs) σ nx:=rfl
theorem am7(x:Operand)(t:TypeId):Az P conv call ⟨d,.call ⟨.builtin .len,#[x],#[t]⟩,ty,ps,af,gd⟩ T σ nx=(Dz P t (val T x)).map (·,σ,nx):=rfl
theorem ajr(a x:Operand)(t u:TypeId):Az P conv call ⟨d,.call ⟨.builtin .copy,#[a,x],#[t,u]⟩,ty,ps,af,gd⟩ T σ nx=Gv P #[t,u] (val T a) (val T x) σ nx:=rfl
theorem afF(a:Operand)(t:TypeId):Az P conv call ⟨d,.call ⟨.builtin .clear,#[a],#[t]⟩,ty,ps,af,gd⟩ T σ nx=FW P #[t] (val T a) σ nx:=rfl
theorem PN(a x:Operand)(t u:TypeId):Az P conv call ⟨d,.call ⟨.builtin .append,#[a,x],#[t,u]⟩,ty,ps,af,gd⟩ T σ nx=Dx P #[t,u] (val T a) (val T x) σ nx:=rfl
end
def Vs:Option St->Option (Ex×St)
 |some s=>some (.norm,s)
 |none=>none
theorem Y0(s:St):Vs (some s)=some (.norm,s):=rfl
def Jl(id:Nat):Option (Ex×St)->Option (Ex×St)
 |some (.exit j,s)=>if j=id then some (.norm,s)else some (.exit j,s)
 |r=>r
theorem Vt(id:Nat)(s:St):Jl id (some (.norm,s))=some (.norm,s):=rfl
theorem Y1(id:Nat)(s:St):Jl id (some (.ret,s))=some (.ret,s):=rfl
theorem Vu(id j:Nat)(s:St):Jl id (some (.exit j,s))=if j=id then some (.norm,s)else some (.exit j,s):=rfl
noncomputable def afG(body:St->Option (Ex×St)):Option (Ex×St)->Option (Ex×St)
 |some (.norm,s)=>dI body s
 |r=>r
theorem Y2(body:St->Option (Ex×St))(s:St):afG body (some (.norm,s))=dI body s:=rfl
theorem ado(body:St->Option (Ex×St))(s:St):afG body (some (.ret,s))=some (.ret,s):=rfl
theorem Y3(body:St->Option (Ex×St))(i:Nat)(s:St):afG body (some (.exit i,s))=some (.exit i,s):=rfl
def adp(P:Program)(rs:List ResultVar):Option (Ex×St)->JZ
 |some (.norm,st)=>(Ae P st.T st.σ rs).map fun vs=>(oneOf vs,st.σ,st.nx)
 |some (.ret,st)=>(Ae P st.T st.σ rs).map fun vs=>(oneOf vs,st.σ,st.nx)
 |_=>none
theorem Vx(rs:List ResultVar)(body:Code)(s:St):Vf P conv call rs body s=adp P rs (Ar P conv call body s):=by
 unfold Vf adp;cases Ar P conv call body s with
 |none=>rfl
 |some q=>
  obtain⟨e,st⟩:=q;cases e<;>simp only<;>cases Ae P st.T st.σ rs<;>rfl
theorem adq(rs:List ResultVar)(T:Nat->V)(σ:Store)(nx:Nat):adp P rs (some (.norm,⟨T,σ,nx⟩))=(Ae P T σ rs).map fun vs=>(oneOf vs,σ,nx):=rfl
theorem afH(rs:List ResultVar)(T:Nat->V)(σ:Store)(nx:Nat):adp P rs (some (.ret,⟨T,σ,nx⟩))=(Ae P T σ rs).map fun vs=>(oneOf vs,σ,nx):=rfl
theorem afI(T:Nat->V)(σ:Store)(t:Tmp):Ae P T σ [.tmp t]=some [T t]:=rfl
theorem ajs(T:Nat->V)(σ:Store):Ae P T σ []=some []:=rfl
theorem afJ(T:Nat->V)(σ:Store)(t u:Tmp):Ae P T σ [.tmp t,.tmp u]=some [T t,T u]:=rfl
theorem afK(T:Nat->V)(σ:Store)(t u v:Tmp):Ae P T σ [.tmp t,.tmp u,.tmp v]=some [T t,T u,T v]:=rfl
theorem adr(T:Nat->V)(σ:Store)(a:Tmp)(t:TypeId):Ae P T σ [.cell a t]=(AV P σ t (T a)).map fun v=>[v]:=by
 simp only[Ae];cases AV P σ t (T a)<;>rfl
theorem ads(v:V):oneOf [v]=v:=rfl
theorem adt(u v:V):oneOf [u,v]= .AB [u,v]:=rfl
theorem Vy(u v w:V):oneOf [u,v,w]= .AB [u,v,w]:=rfl
theorem Y4:oneOf []= .AB []:=rfl
theorem adu(l:List V)(i:Nat):Dt l i=(l[i]?).getD (.AB []):=rfl
theorem adv(k:IntKind)(n:Int):G5 (.int k n)= .sc (.int k n):=rfl
theorem Y5(b:Bool):G5 (.bool b)= .sc (.bool b):=rfl
theorem RP(s:ByteArray):G5 (.string s)= .sc (.string s):=rfl
theorem Y6:G5 (.pointer none)= .sc (.pointer none):=rfl
theorem Y7:G5 (.slice none 0 0)= .nil:=rfl
theorem adw(l:List Value):G5 (.agg l.toArray)= .agg (l.map BG):=rfl
end
end Go.TV
namespace Go.TV
set_option linter.unusedVariables false
set_option linter.unusedSimpArgs false
variable [Known]
section
variable {P:Program} {conv:FuncId->Conv} {call:Call}
def CU(P:Program)(conv:FuncId->Conv)(call:Call)(ops:Array Oper):List Oper->St->Option St
 |[],s=>some s
 |o :: rest,s=>match A_ ops s.T o with
  |some true=>match Ah P conv call o s.T s.σ s.nx with
   |some (v,σ',nx')=>CU P conv call ops rest ⟨CS s.T o.dst v,σ',nx'⟩
   |none=>none
  |some false=>CU P conv call ops rest ⟨CS s.T o.dst (.AB []),s.σ,s.nx⟩
  |none=>none
theorem Jm(ops:Array Oper):∀(l:List Oper) (s:St),CU P conv call ops l s=(Bh P conv call ops l s).map (·.1)
 |[],s=>rfl
 |o :: l,s=>by
  unfold CU Bh;cases A_ ops s.T o with
  |none=>rfl
  |some b=>
   cases b with
   |true=>
    simp only;cases Ah P conv call o s.T s.σ s.nx with
    |none=>rfl
    |some q=>
     obtain⟨v,σ',nx'⟩:=q;simp only;rw[Jm ops l];cases Bh P conv call ops l ⟨CS s.T o.dst v,σ',nx'⟩<;>rfl
   |false=>
    simp only;rw[Jm ops l];cases Bh P conv call ops l ⟨CS s.T o.dst (.AB []),s.σ,s.nx⟩<;>rfl
def Jo(conv:FuncId->Conv)(ops:Array Oper):Bool:=U2 ops && (Hf conv ops.toList).isEmpty
theorem RQ{ops:Array Oper}(h:Jo conv ops=true)(s:St):Ce P conv call ops s=CU P conv call ops ops.toList s:=by
 unfold Jo at h;rw[zA]at h;have hw:Hf conv ops.toList=[]:=by simpa using h.2
 unfold Ce;rw[sH h.1,Jm,hw];cases Bh P conv call ops ops.toList s with
 |none=>rfl
 |some q=>obtain⟨s',fs⟩:=q;rfl
def Ic(af:Array Edge)(i:Nat):Bool:=af.any fun e=>Region.binds .any e && e.on==i
def okG(af:Array Edge)(w:Bool)(ids:List Nat):List (Nat×Bool×List Nat)->Bool
 |[]=>true
 |p :: acc=>(if(w||p.2.1)=true then(if Ic af p.1=true then true else p.2.2.all fun b=> !ids.contains b)else true) && okG af w ids acc
def okF(af:Array Edge)(acc:List (Nat×Bool×List Nat))(w:Bool):List Nat->Bool
 |[]=>true
 |b :: bs=>okG af w (b :: bs) acc
def Vz(acc:List (Nat×Bool×List Nat))(k:Nat)(w:Bool):List Nat->List (Nat×Bool×List Nat)
 |[]=>acc
 |b :: bs=>acc++[(k,w,b :: bs)]
def CV(P:Program)(conv:FuncId->Conv)(call:Call)(ops:Array Oper):List Oper->Nat->List (Nat×Bool×List Nat)->St->Option St
 |[],_,_,s=>some s
 |o :: rest,k,acc,s=>match A_ ops s.T o with
  |some true=>if okF o.after acc (writer conv o) (zI conv s.T s.σ o)=true then(match Ah P conv call o s.T s.σ s.nx with
   |some (v,σ',nx')=>CV P conv call ops rest (k+1) (Vz acc k (writer conv o) (zI conv s.T s.σ o)) ⟨CS s.T o.dst v,σ',nx'⟩
   |none=>none)else none
  |some false=>CV P conv call ops rest (k+1) acc ⟨CS s.T o.dst (.AB []),s.σ,s.nx⟩
  |none=>none
def Apart(l:List Oper)(E:List (Bool×List Nat)):Prop:=∀(i j:Nat) o p q,i<j->l[j]?=some o->E[i]?=some p->E[j]?=some q->(q.1||p.1)=true->Fp o i≠true->∀b∈p.2,b∉q.2
def Told(E:List (Bool×List Nat))(acc:List (Nat×Bool×List Nat)):Prop:=∀(i:Nat) p,E[i]?=some p->p.2≠[]->(i,p.1,p.2)∈acc
theorem VA{af:Array Edge}{w:Bool}{ids:List Nat}:∀ {acc:List (Nat×Bool×List Nat)},okG af w ids acc=true->∀p∈acc,(w||p.2.1)=true->Ic af p.1≠true->∀b∈p.2.2,b∉ids
 |[],_,p,hp,_,_,_,_=>by cases hp
 |q :: acc,h,p,hp,hw,he,b,hb=>by
  unfold okG at h;rw[zA]at h;rcases List.mem_cons.mp hp with rfl|hp
  .have E:=h.1
   rw[sH hw,sJ he]at E;have:=List.all_eq_true.mp E b hb
   simpa using this
  .exact VA h.2 p hp hw he b hb
theorem MG{l:List Oper}{o:Oper}{O:List (Bool×List Nat)}{acc:List (Nat×Bool×List Nat)}{w:Bool}{ids:List Nat}(hl:l.length=O.length)(h:Apart l O)(ht:Told O acc)(ho:okF o.after acc w ids=true):Apart (l++[o]) (O++[(w,ids)]):=by
 intro i j o' p q S E hp G hw he b hb J;rcases Nat.lt_trichotomy j O.length with Y|Y|Y
 .rw[zW Y]at G
  rw[zW (by omega)]at hp;rw[zW (by omega)]at E;exact h i j o' p q S E hp G hw he b hb J
 .subst Y
  rw[zN (zq _),yP]at G;simp only[wL,sO]at G;subst G;rw[zW S]at hp;rw[zN (by omega),hl,yP]at E;simp only[wL,sO]at E;subst E;cases ids with
  |nil=>cases J
  |cons c cs=>exact VA ho _ (ht i p hp (fun e=>by rw[e]at hb;cases hb)) hw he b hb J
 .rw[z_ (by simp;omega)]at G
  cases G
theorem PO{E:List (Bool×List Nat)}{acc:List (Nat×Bool×List Nat)}(S:Told E acc)(w:Bool)(ids:List Nat):Told (E++[(w,ids)]) (Vz acc E.length w ids):=by
 intro i p hp G;have J:∀x,x∈acc->x∈Vz acc E.length w ids:=fun x O=>by cases ids with
  |nil=>exact O
  |cons c cs=>exact zD _ O
 rcases Nat.lt_trichotomy i E.length with hi|hi|hi
 .rw[zW hi]at hp
  exact J _ (S i p hp G)
 .subst hi
  rw[zN (zq _),yP]at hp;simp only[wL,sO]at hp;subst hp;cases ids with
  |nil=>exact absurd rfl G
  |cons c cs=>exact yw _ (by simp)
 .rw[z_ (by simp;omega)]at hp
  cases hp
theorem nJ(ops:Array Oper):∀(l pre:List Oper) (k:Nat) (E:List (Bool×List Nat)) (acc:List (Nat×Bool×List Nat)) (s s':St),k=E.length->pre.length=E.length->Apart pre E->Told E acc->CV P conv call ops l k acc s=some s' ->
  ∃fs,Bh P conv call ops l s=some (s',fs)/\fs.length=l.length/\Apart (pre++l) (E++(l.zip fs).map fun p=>(writer conv p.1,p.2))
 |[],pre,k,E,acc,s,s',hk,hl,ha,ht,h=>by
  unfold CV at h;cases h;exact⟨[],rfl,rfl,by simpa using ha⟩
 |o :: l,pre,k,E,acc,s,s',hk,hl,ha,ht,h=>by
  unfold CV at h;unfold Bh;cases hw:A_ ops s.T o with
  |none=>rw[hw]at h;cases h
  |some b=>
   rw[hw]at h;cases b with
   |true=>
    simp only at h⊢
    by_cases G:okF o.after acc (writer conv o) (zI conv s.T s.σ o)=true
    .rw[sH G]at h
     cases Y:Ah P conv call o s.T s.σ s.nx with
     |none=>rw[Y]at h;cases h
     |some q=>
      obtain⟨v,σ',nx'⟩:=q;rw[Y]at h;subst hk;obtain⟨fs,J,O,S⟩:=nJ ops l (pre++[o]) _ (E++[(writer conv o,zI conv s.T s.σ o)]) _ _ s' (by simp) (by simp[hl]) (MG hl ha ht G) (PO ht _ _) h;refine⟨zI conv s.T s.σ o :: fs,?_,by simp[O],by simpa using S⟩;simp only;rw[J]
    .rw[sJ G]at h;cases h
   |false=>
    simp only at h⊢;subst hk;obtain⟨fs,J,O,S⟩:=nJ ops l (pre++[o]) _ (E++[(writer conv o,[])]) _ _ s' (by simp) (by simp[hl]) (MG hl ha ht rfl) (PO ht _ []) h;refine⟨[] :: fs,?_,by simp[O],by simpa using S⟩;rw[J]
theorem OV{l:List Oper}{fs:List (List Nat)}(hl:fs.length=l.length)(h:Apart l ((l.zip fs).map fun p=>(writer conv p.1,p.2))):Rq fs (Hf conv l)=true:=by
 unfold Rq;refine List.all_eq_true.mpr ?_;rintro ⟨i,j⟩ hm;unfold Hf at hm;simp only[List.mem_flatMap,List.mem_filterMap]at hm;obtain⟨⟨o,j'⟩,hj,⟨p,i'⟩,hi,E⟩:=hm;simp only at E
 split at E
 .cases E
 .rename_i a1
  split at E
  .rename_i a6
   simp only[sO,sN]at E;obtain⟨rfl,rfl⟩:=E;have a7:=List.mem_zipIdx' hj;have a8:=List.mem_zipIdx' hi;obtain⟨G,J⟩:=a7;obtain⟨b2,O⟩:=a8;simp only[zh]at b2;refine List.all_eq_true.mpr fun b hb=>?_
   have S:i'<fs.length:=by omega
   have Y:j'<fs.length:=by omega
   rw[zy S,xE]at hb;rw[zy Y,xE];have hz:∀(k:Nat) (h1:k<l.length) (h2:k<fs.length),((l.zip fs).map fun p=>(writer conv p.1,p.2))[k]?=some (writer conv l[k],fs[k]):=by
    intro k h1 h2;rw[zF,zy (by simp;omega)];simp
   have:=h i' j' o _ _ (by omega) (by rw[zy G,J]) (hz i' (by omega) S) (hz j' G Y) (by
    rw[uG]at O;rw[<- J,<- O];exact a6) a1 b hb
   simpa using this
  .cases E
def MH(P:Program)(conv:FuncId->Conv)(call:Call)(ops:Array Oper)(s0:St):Option St->Option St
 |some s=>some s
 |none=>Ce P conv call ops s0
theorem afL{ops:Array Oper}(E:U2 ops=true)(s:St):MH P conv call ops s (CV P conv call ops ops.toList 0 [] s)=Ce P conv call ops s:=by
 cases h:CV P conv call ops ops.toList 0 [] s with
 |none=>rfl
 |some s'=>
  obtain⟨fs,G,J,O⟩:=nJ ops ops.toList [] 0 [] [] s s' rfl rfl (by intro i j o p q _ _ hp;simp at hp) (by intro i p hp;simp at hp) h;unfold MH Ce;rw[sH E,G];simp only;rw[sH (OV J (by simpa using O))]
def BD(conv:FuncId->Conv)(ex:List Nat):Code->Bool
 | .region id ops draw=> !draw||(ex.contains id && U2 ops)||Jo conv ops
 | .seq a b=>BD conv ex a && BD conv ex b
 | .cond _ a b=>BD conv ex a && BD conv ex b
 | .block _ c=>BD conv ex c
 | .loop c=>BD conv ex c
 |_=>true
noncomputable def Gj(P:Program)(conv:FuncId->Conv)(call:Call)(ex:List Nat):Code->St->Option (Ex×St)
 | .skip,s=>some (.norm,s)
 | .region id ops draw,s=>Vs (if draw then(if id∈ex then MH P conv call ops s (CV P conv call ops ops.toList 0 [] s)else CU P conv call ops ops.toList s)else BN P conv call ops ops.toList s)
 | .seq a b,s=>match Gj P conv call ex a s with
  |some (.norm,s')=>Gj P conv call ex b s'
  |r=>r
 | .cond c a b,s=>match val s.T c with
  | .sc (.bool true)=>Gj P conv call ex a s
  | .sc (.bool false)=>Gj P conv call ex b s
  |_=>none
 | .block id c,s=>Jl id (Gj P conv call ex c s)
 | .loop c,s=>dI (Gj P conv call ex c) s
 | .exit id,s=>some (.exit id,s)
 | .ret,s=>some (.ret,s)
 |_,_=>none
theorem afM{ex:List Nat}:∀(c:Code),BD conv ex c=true->∀s,Ar P conv call c s=Gj P conv call ex c s:=by
 intro c
 induction c with
 |region id ops draw=>
  intro h s;simp only[BD,Gj,Ar]at *;cases draw with
  |false=>simp only[yJ,if_false];cases BN P conv call ops ops.toList s<;>rfl
  |true=>
   simp only[if_true]
   by_cases hid:id∈ex
   .rw[sH hid]
    by_cases O:U2 ops=true
    .rw[afL O];cases Ce P conv call ops s<;>rfl
    .have J:Jo conv ops=true:=by simpa[O]using h
     unfold Jo at J;rw[zA]at J;exact absurd J.1 O
   .rw[sJ hid]
    have J:Jo conv ops=true:=by simpa[hid]using h
    rw[RQ J];cases CU P conv call ops ops.toList s<;>rfl
 |seq a b E G=>
  intro h s;simp only[BD,zA]at h;simp only[Gj,Ar];rw[E h.1];cases Gj P conv call ex a s with
  |none=>rfl
  |some q=>obtain⟨e,s'⟩:=q;cases e<;>first|exact G h.2 s'|rfl
 |cond v a b E G=>
  intro h s;simp only[BD,zA]at h;simp only[Gj,Ar,E h.1,G h.2]
  all_goals rfl
 |block id c S=>
  intro h s;simp only[BD]at h;simp only[Gj,Ar,Jl];rw[S h]
  all_goals rfl
 |loop c S=>
  intro h s;simp only[BD]at h;simp only[Gj,Ar];rw[show Ar P conv call c=Gj P conv call ex c from funext (S h)]
 |_=>intro h s;rfl
noncomputable def sK(P:Program)(conv:FuncId->Conv)(call:Call)(ex:List Nat)(b:Code):Option (Ex×St)->Option (Ex×St)
 |some (.norm,s)=>Gj P conv call ex b s
 |r=>r
variable {ex:List Nat}
theorem aqD(a b:Code)(s:St):Gj P conv call ex (.seq a b) s=sK P conv call ex b (Gj P conv call ex a s):=by
 show(match Gj P conv call ex a s with|some (.norm,s')=>Gj P conv call ex b s'|r=>r)=_;unfold sK;rfl
theorem ajt(b:Code)(s:St):sK P conv call ex b (some (.norm,s))=Gj P conv call ex b s:=rfl
theorem am8(b:Code)(s:St):sK P conv call ex b (some (.ret,s))=some (.ret,s):=rfl
theorem aju(b:Code)(i:Nat)(s:St):sK P conv call ex b (some (.exit i,s))=some (.exit i,s):=rfl
theorem afN(id:Nat)(l:List Oper)(s:St):Gj P conv call ex (.region id l.toArray false) s=Vs (BN P conv call l.toArray l s):=rfl
theorem am9(id:Nat)(l:List Oper)(s:St):Gj P conv call [] (.region id l.toArray true) s=Vs (CU P conv call l.toArray l s):=rfl
theorem am_(s:St):Gj P conv call ex .skip s=some (.norm,s):=rfl
theorem aqE(s:St):Gj P conv call ex .ret s=some (.ret,s):=rfl
theorem am'(i:Nat)(s:St):Gj P conv call ex (.exit i) s=some (.exit i,s):=rfl
noncomputable def cK(P:Program)(conv:FuncId->Conv)(call:Call)(ex:List Nat)(a b:Code)(s:St):V->Option (Ex×St)
 | .sc (.bool true)=>Gj P conv call ex a s
 | .sc (.bool false)=>Gj P conv call ex b s
 |_=>none
theorem ana(c:Operand)(a b:Code)(T:Nat->V)(σ:Store)(nx:Nat):Gj P conv call ex (.cond c a b) ⟨T,σ,nx⟩=cK P conv call ex a b ⟨T,σ,nx⟩ (val T c):=by
 show(match val T c with| .sc (.bool true)=>_| .sc (.bool false)=>_|_=>none)=_;unfold cK;rfl
theorem ajv(a b:Code)(s:St):cK P conv call ex a b s (.sc (.bool true))=Gj P conv call ex a s:=rfl
theorem afO(a b:Code)(s:St):cK P conv call ex a b s (.sc (.bool false))=Gj P conv call ex b s:=rfl
theorem ajw(id:Nat)(c:Code)(s:St):Gj P conv call ex (.block id c) s=Jl id (Gj P conv call ex c s):=rfl
theorem anb(c:Code)(s:St):Gj P conv call ex (.loop c) s=dI (Gj P conv call ex c) s:=rfl
theorem awT{ext:Ext}{f:FuncId}{fn:Func}{body:Code}{rs:List ResultVar}(ex:List Nat)(G:ext f=none)(J:P.funcs[f]?=some fn)(hb:fn.body=some body)(O:fn.results.toList=rs){args:List V}(E:U3 fn body args.length=true)(S:BD conv ex body=true)(σ:Store)(nx:Nat) :
  ev P conv ext f args σ nx=adp P rs (Gj P conv (ev P conv ext) ex body ⟨Dt args,σ,nx⟩):=by
 rw[ame G J hb O E,Vx,afM body S]
theorem mg{ext:Ext}{f:FuncId}{fn:Func}{body:Code}(rs:List ResultVar)(ex:List Nat)(G:P.funcs[f]?=some fn)(J:ext f=none:=by rfl)(hb:fn.body=some body:=by rfl)(O:fn.results.toList=rs:=by rfl){args:List V}(E:U3 fn body args.length=true:=by kernel_rfl)(S:BD conv ex body=true:=by kernel_rfl)(σ:Store)(nx:Nat) :
  ev P conv ext f args σ nx=adp P rs (Gj P conv (ev P conv ext) ex body ⟨Dt args,σ,nx⟩):=by
 rw[ame J G hb O E,Vx,afM body S]
theorem Y8(ops:Array Oper)(s0 s:St):MH P conv call ops s0 (some s)=some s:=rfl
def J_(P:Program)(conv:FuncId->Conv)(call:Call)(id:Nat)(l:List Oper)(s:St):List Nat->Option St
 |[]=>CU P conv call l.toArray l s
 |i :: ex=>if id=i then MH P conv call l.toArray s (CV P conv call l.toArray l 0 [] s)else J_ P conv call id l s ex
theorem VB(id:Nat)(l:List Oper)(s:St):∀ex:List Nat,J_ P conv call id l s ex=if id∈ex then MH P conv call l.toArray s (CV P conv call l.toArray l 0 [] s)else CU P conv call l.toArray l s
 |[]=>by simp[J_]
 |i :: ex=>by
  unfold J_;rw[VB id l s ex]
  by_cases h:id=i
  .rw[sH h,sH (by simp[h])]
  .rw[sJ h]
   by_cases E:id∈ex
   .rw[sH E,sH (by simp[E])]
   .rw[sJ E,sJ (by simp[h,E])]
theorem ajx(i:Nat)(ex:List Nat)(id:Nat)(l:List Oper)(s:St):Gj P conv call (i :: ex) (.region id l.toArray true) s=Vs (J_ P conv call id l s (i :: ex)):=by
 rw[VB];rfl
theorem adx(id:Nat)(l:List Oper)(s:St):J_ P conv call id l s []=CU P conv call l.toArray l s:=rfl
theorem Y9(id:Nat)(l:List Oper)(s:St)(i:Nat)(ex:List Nat):J_ P conv call id l s (i :: ex)=if id=i then MH P conv call l.toArray s (CV P conv call l.toArray l 0 [] s)else J_ P conv call id l s ex:=rfl
def VD(P:Program)(conv:FuncId->Conv)(call:Call)(ops:Array Oper)(rest:List Oper)(k:Nat)(acc:List (Nat×Bool×List Nat))(T:Nat->V)(d:Option Tmp):JZ->Option St
 |some (v,σ,nx)=>CV P conv call ops rest k acc ⟨CS T d v,σ,nx⟩
 |none=>none
def abK(P:Program)(conv:FuncId->Conv)(call:Call)(ops:Array Oper)(rest:List Oper)(k:Nat)(acc:List (Nat×Bool×List Nat))(o:Oper)(s:St):Option Bool->Option St
 |some true=>if okF o.after acc (writer conv o) (zI conv s.T s.σ o)=true then VD P conv call ops rest (k+1) (Vz acc k (writer conv o) (zI conv s.T s.σ o)) s.T o.dst (Ah P conv call o s.T s.σ s.nx)else none
 |some false=>CV P conv call ops rest (k+1) acc ⟨CS s.T o.dst (.AB []),s.σ,s.nx⟩
 |none=>none
theorem Y_(ops:Array Oper)(k:Nat)(acc:List (Nat×Bool×List Nat))(s:St):CV P conv call ops [] k acc s=some s:=rfl
theorem VE(ops:Array Oper)(k:Nat)(acc:List (Nat×Bool×List Nat))(d:Option Tmp)(op:Op)(ty:TypeId)(ps:String)(af:Array Edge)(rest:List Oper)(T:Nat->V)(σ:Store)(nx:Nat) :
  CV P conv call ops (⟨d,op,ty,ps,af,none⟩ :: rest) k acc ⟨T,σ,nx⟩=if okF af acc (writer conv ⟨d,op,ty,ps,af,none⟩) (zI conv T σ ⟨d,op,ty,ps,af,none⟩)=true then VD P conv call ops rest (k+1) (Vz acc k (writer conv ⟨d,op,ty,ps,af,none⟩) (zI conv T σ ⟨d,op,ty,ps,af,none⟩)) T d (Ah P conv call ⟨d,op,ty,ps,af,none⟩ T σ nx)else none:=by
 show(if okF af acc (writer conv ⟨d,op,ty,ps,af,none⟩) (zI conv T σ ⟨d,op,ty,ps,af,none⟩)=true then(match Ah P conv call ⟨d,op,ty,ps,af,none⟩ T σ nx with|some (v,σ',nx')=>_|none=>none)else none)=_;cases Ah P conv call ⟨d,op,ty,ps,af,none⟩ T σ nx<;>rfl
theorem RS(ops:Array Oper)(k:Nat)(acc:List (Nat×Bool×List Nat))(d:Option Tmp)(op:Op)(ty:TypeId)(ps:String)(af:Array Edge)(g:Nat×Bool)(rest:List Oper)(T:Nat->V)(σ:Store)(nx:Nat) :
  CV P conv call ops (⟨d,op,ty,ps,af,some g⟩ :: rest) k acc ⟨T,σ,nx⟩=abK P conv call ops rest k acc ⟨d,op,ty,ps,af,some g⟩ ⟨T,σ,nx⟩ (A_ ops T ⟨d,op,ty,ps,af,some g⟩):=by
 show(match A_ ops T ⟨d,op,ty,ps,af,some g⟩with|some true=>_|some false=>_|none=>none)=_;cases A_ ops T ⟨d,op,ty,ps,af,some g⟩with
 |none=>rfl
 |some b=>
  cases b with
  |false=>rfl
  |true=>
   simp only[abK];cases Ah P conv call ⟨d,op,ty,ps,af,some g⟩ T σ nx<;>rfl
theorem ZA(ops:Array Oper)(rest:List Oper)(k:Nat)(acc:List (Nat×Bool×List Nat))(T:Nat->V)(d:Tmp)(v:V)(σ:Store)(nx:Nat):VD P conv call ops rest k acc T (some d) (some (v,σ,nx))=CV P conv call ops rest k acc ⟨upd T d v,σ,nx⟩:=rfl
theorem ZC(ops:Array Oper)(rest:List Oper)(k:Nat)(acc:List (Nat×Bool×List Nat))(T:Nat->V)(v:V)(σ:Store)(nx:Nat):VD P conv call ops rest k acc T none (some (v,σ,nx))=CV P conv call ops rest k acc ⟨T,σ,nx⟩:=rfl
theorem ZE(ops:Array Oper)(rest:List Oper)(k:Nat)(acc:List (Nat×Bool×List Nat))(d:Option Tmp)(op:Op)(ty:TypeId)(ps:String)(af:Array Edge)(g:Option (Nat×Bool))(T:Nat->V)(σ:Store)(nx:Nat) :
  abK P conv call ops rest k acc ⟨d,op,ty,ps,af,g⟩ ⟨T,σ,nx⟩ (some true)=if okF af acc (writer conv ⟨d,op,ty,ps,af,g⟩) (zI conv T σ ⟨d,op,ty,ps,af,g⟩)=true then VD P conv call ops rest (k+1) (Vz acc k (writer conv ⟨d,op,ty,ps,af,g⟩) (zI conv T σ ⟨d,op,ty,ps,af,g⟩)) T d (Ah P conv call ⟨d,op,ty,ps,af,g⟩ T σ nx)else none:=rfl
theorem VF(ops:Array Oper)(rest:List Oper)(k:Nat)(acc:List (Nat×Bool×List Nat))(d:Tmp)(op:Op)(ty:TypeId)(ps:String)(af:Array Edge)(g:Option (Nat×Bool))(T:Nat->V)(σ:Store)(nx:Nat) :
  abK P conv call ops rest k acc ⟨some d,op,ty,ps,af,g⟩ ⟨T,σ,nx⟩ (some false)=CV P conv call ops rest (k+1) acc ⟨upd T d (.AB []),σ,nx⟩:=rfl
theorem ajy(af:Array Edge)(acc:List (Nat×Bool×List Nat))(w:Bool):okF af acc w []=true:=id rfl
theorem afP(af:Array Edge)(acc:List (Nat×Bool×List Nat))(w:Bool)(b:Nat)(E:List Nat):okF af acc w (b :: E)=okG af w (b :: E) acc:=id rfl
theorem ajz(af:Array Edge)(w:Bool)(ids:List Nat):okG af w ids []=true:=id rfl
theorem afQ(af:Array Edge)(w:Bool)(ids:List Nat)(i:Nat)(v:Bool)(E:List Nat)(acc:List (Nat×Bool×List Nat)):okG af w ids ((i,v,E) :: acc)=((if(w||v)=true then(if Ic af i=true then true else E.all fun b=> !ids.contains b)else true) && okG af w ids acc):=id rfl
theorem afR(acc:List (Nat×Bool×List Nat))(k:Nat)(w:Bool):Vz acc k w []=acc:=id rfl
theorem ady(acc:List (Nat×Bool×List Nat))(k:Nat)(w:Bool)(b:Nat)(E:List Nat):Vz acc k w (b :: E)=acc++[(k,w,b :: E)]:=id rfl
theorem adz(i:Nat):Ic #[] i=false:=by simp[Ic]
theorem ZF(e:Edge)(es:List Edge)(i:Nat):Ic (e :: es).toArray i=if(e.on==i)=true then(if Region.binds .any e=true then true else Ic es.toArray i)else Ic es.toArray i:=by
 unfold Ic;rw[List.any_toArray,List.any_toArray,List.any_cons];cases e.on==i<;>cases Region.binds .any e<;>simp
theorem ZG(i:Nat):Region.binds .any ⟨i,.data⟩=true:=id rfl
theorem VG(i:Nat):Region.binds .any ⟨i,.phase⟩=true:=id rfl
theorem VH(i:Nat):Region.binds .any ⟨i,.chain⟩=true:=id rfl
theorem VI(i:Nat):Region.binds .any ⟨i,.guard⟩=true:=id rfl
theorem ZH(i:Nat)(d:Departure):Region.binds .any ⟨i,.textOnly d⟩=false:=id rfl
theorem afS(i:Nat)(d:Departure):Region.binds .any ⟨i,.gcOnly d⟩=false:=id rfl
section
variable (d:Option Tmp) (ty:TypeId) (ps:String) (af:Array Edge) (gd:Option (Nat×Bool)) (T:Nat->V) (σ:Store)
theorem ajA(t:TypeId)(a x:Operand):writer conv ⟨d,.store t a x,ty,ps,af,gd⟩=true:=id rfl
theorem ZI(t:TypeId)(a x:Operand):zI conv T σ ⟨d,.store t a x,ty,ps,af,gd⟩=wI (val T a):=rfl
theorem adA(t:TypeId)(a:Operand):zI conv T σ ⟨d,.load t a,ty,ps,af,gd⟩=wI (val T a):=rfl
theorem anc(t:TypeId)(a:Operand):writer conv ⟨d,.load t a,ty,ps,af,gd⟩=false:=id rfl
theorem ajB(b off:Nat):wI (.rp b off)=[b]:=rfl
theorem ajC(b off len:Nat):wI (.rs b off len)=[b]:=rfl
theorem ajD(row:List V)(off:Nat):wI (.tp row off)=[]:=rfl
theorem ajE(row:List V)(off:Nat):wI (.ts row off)=[]:=rfl
theorem ajF(v:Value):wI (.sc v)=[]:=rfl
theorem afT:wI .nil=[]:=rfl
theorem afU(vs:List V):wI (.agg vs)=[]:=rfl
theorem adB(x:Operand):zI conv T σ ⟨d,.move x,ty,ps,af,gd⟩=[]:=rfl
theorem ane(x:Operand):writer conv ⟨d,.move x,ty,ps,af,gd⟩=false:=id rfl
theorem VJ(x:Operand):zI conv T σ ⟨d,.assign x,ty,ps,af,gd⟩=[]:=rfl
theorem afV(x:Operand):writer conv ⟨d,.assign x,ty,ps,af,gd⟩=false:=id rfl
theorem adC(c a b:Operand):zI conv T σ ⟨d,.pick c a b,ty,ps,af,gd⟩=[]:=rfl
theorem anf(c a b:Operand):writer conv ⟨d,.pick c a b,ty,ps,af,gd⟩=false:=id rfl
theorem OW(x:Operand):zI conv T σ ⟨d,.nilCheck x,ty,ps,af,gd⟩=[]:=rfl
theorem ZJ(x:Operand):writer conv ⟨d,.nilCheck x,ty,ps,af,gd⟩=false:=id rfl
theorem ZK(op:BinOp)(t:TypeId)(x y:Operand)(E:TypeId):zI conv T σ ⟨d,.binOp op t x y E,ty,ps,af,gd⟩=[]:=rfl
theorem ajG(op:BinOp)(t:TypeId)(x y:Operand)(E:TypeId):writer conv ⟨d,.binOp op t x y E,ty,ps,af,gd⟩=false:=id rfl
theorem adD(op:UnOp)(t:TypeId)(x:Operand):zI conv T σ ⟨d,.unOp op t x,ty,ps,af,gd⟩=[]:=rfl
theorem ang(op:UnOp)(t:TypeId)(x:Operand):writer conv ⟨d,.unOp op t x,ty,ps,af,gd⟩=false:=id rfl
theorem MI(t:TypeId)(x:Operand)(f:Nat):zI conv T σ ⟨d,.fieldAddr t x f,ty,ps,af,gd⟩=[]:=rfl
theorem VK(t:TypeId)(x:Operand)(f:Nat):writer conv ⟨d,.fieldAddr t x f,ty,ps,af,gd⟩=false:=id rfl
theorem Z4(t:TypeId)(x:Operand)(f:Nat):zI conv T σ ⟨d,.field t x f,ty,ps,af,gd⟩=[]:=rfl
theorem ajH(t:TypeId)(x:Operand)(f:Nat):writer conv ⟨d,.field t x f,ty,ps,af,gd⟩=false:=id rfl
theorem MJ(t:TypeId)(x i:Operand):zI conv T σ ⟨d,.indexAddr t x i,ty,ps,af,gd⟩=[]:=rfl
theorem VL(t:TypeId)(x i:Operand):writer conv ⟨d,.indexAddr t x i,ty,ps,af,gd⟩=false:=id rfl
theorem Z5(t:TypeId)(x i:Operand):zI conv T σ ⟨d,.index t x i,ty,ps,af,gd⟩=[]:=rfl
theorem ajI(t:TypeId)(x i:Operand):writer conv ⟨d,.index t x i,ty,ps,af,gd⟩=false:=id rfl
theorem RU(x:Operand)(i:Nat):zI conv T σ ⟨d,.extract x i,ty,ps,af,gd⟩=[]:=rfl
theorem adE(x:Operand)(i:Nat):writer conv ⟨d,.extract x i,ty,ps,af,gd⟩=false:=id rfl
theorem afW(x:Operand)(t:TypeId):zI conv T σ ⟨d,.call ⟨.builtin .len,#[x],#[t]⟩,ty,ps,af,gd⟩=[]:=rfl
theorem aqF(x:Operand)(t:TypeId):writer conv ⟨d,.call ⟨.builtin .len,#[x],#[t]⟩,ty,ps,af,gd⟩=false:=id rfl
theorem Z7(t:TypeId)(parts:Array (Nat×Operand)):zI conv T σ ⟨d,.build t parts,ty,ps,af,gd⟩=[]:=rfl
theorem ajJ(t:TypeId)(parts:Array (Nat×Operand)):writer conv ⟨d,.build t parts,ty,ps,af,gd⟩=false:=id rfl
theorem OX(f:FuncId)(cap:Array Operand):zI conv T σ ⟨d,.makeFunc (.func f) #[] cap,ty,ps,af,gd⟩=[]:=rfl
theorem Z8(f:FuncId)(cap:Array Operand):writer conv ⟨d,.makeFunc (.func f) #[] cap,ty,ps,af,gd⟩=false:=id rfl
theorem Z9(t:TypeId):zI conv T σ ⟨d,.alloc t,ty,ps,af,gd⟩=[]:=rfl
theorem ajK(t:TypeId):writer conv ⟨d,.alloc t,ty,ps,af,gd⟩=false:=id rfl
theorem afX(t:TypeId)(x:Operand):zI conv T σ ⟨d,.box t x,ty,ps,af,gd⟩=[]:=rfl
theorem aqG(t:TypeId)(x:Operand):writer conv ⟨d,.box t x,ty,ps,af,gd⟩=false:=id rfl
theorem anh{g:FuncId}(h:conv g= .KH)(args:Array Operand)(ts:Array TypeId):writer conv ⟨d,.call ⟨.value (.func g),args,ts⟩,ty,ps,af,gd⟩=false:=by unfold writer;simp only[h]
theorem lZ{g:FuncId}(h:conv g≠ .inl)(args:Array Operand)(ts:Array TypeId):Dc conv T σ ⟨d,.call ⟨.value (.func g),args,ts⟩,ty,ps,af,gd⟩=(stripL (strip σ depth) (args.toList.map (val T))).map (·.2):=by
 simp only[Dc,val,zC,PG];cases hc:conv g with
 |inl=>exact absurd hc h
 |own=>cases stripL (strip σ depth) (args.toList.map (val T))<;>rfl
 |KH=>cases stripL (strip σ depth) (args.toList.map (val T))<;>rfl
theorem adF{g:FuncId}(h:conv g= .KH)(args:Array Operand)(ts:Array TypeId):zI conv T σ ⟨d,.call ⟨.value (.func g),args,ts⟩,ty,ps,af,gd⟩=((stripL (strip σ depth) (args.toList.map (val T))).map (·.2)).getD []:=by
 unfold zI;rw[lZ d ty ps af gd T σ (by rw[h];exact fun e=>by cases e)]
end
def VN(P:Program)(conv:FuncId->Conv)(call:Call)(ops:Array Oper)(rest:List Oper)(T:Nat->V)(d:Option Tmp):JZ->Option St
 |some (v,σ,nx)=>CU P conv call ops rest ⟨CS T d v,σ,nx⟩
 |none=>none
def abL(P:Program)(conv:FuncId->Conv)(call:Call)(ops:Array Oper)(rest:List Oper)(o:Oper)(s:St):Option Bool->Option St
 |some true=>VN P conv call ops rest s.T o.dst (Ah P conv call o s.T s.σ s.nx)
 |some false=>CU P conv call ops rest ⟨CS s.T o.dst (.AB []),s.σ,s.nx⟩
 |none=>none
theorem Z_(ops:Array Oper)(s:St):CU P conv call ops [] s=some s:=rfl
theorem VO(ops:Array Oper)(d:Option Tmp)(op:Op)(ty:TypeId)(ps:String)(af:Array Edge)(rest:List Oper)(T:Nat->V)(σ:Store)(nx:Nat) :
  CU P conv call ops (⟨d,op,ty,ps,af,none⟩ :: rest) ⟨T,σ,nx⟩=VN P conv call ops rest T d (Ah P conv call ⟨d,op,ty,ps,af,none⟩ T σ nx):=by
 show(match Ah P conv call ⟨d,op,ty,ps,af,none⟩ T σ nx with|some (v,σ',nx')=>_|none=>none)=_;cases Ah P conv call ⟨d,op,ty,ps,af,none⟩ T σ nx<;>rfl
theorem RV(ops:Array Oper)(d:Option Tmp)(op:Op)(ty:TypeId)(ps:String)(af:Array Edge)(g:Nat×Bool)(rest:List Oper)(T:Nat->V)(σ:Store)(nx:Nat) :
  CU P conv call ops (⟨d,op,ty,ps,af,some g⟩ :: rest) ⟨T,σ,nx⟩=abL P conv call ops rest ⟨d,op,ty,ps,af,some g⟩ ⟨T,σ,nx⟩ (A_ ops T ⟨d,op,ty,ps,af,some g⟩):=by
 show(match A_ ops T ⟨d,op,ty,ps,af,some g⟩with|some true=>_|some false=>_|none=>none)=_;cases A_ ops T ⟨d,op,ty,ps,af,some g⟩with
 |none=>rfl
 |some b=>
  cases b with
  |false=>rfl
  |true=>
   simp only[abL];cases Ah P conv call ⟨d,op,ty,ps,af,some g⟩ T σ nx<;>rfl
theorem aac(ops:Array Oper)(rest:List Oper)(T:Nat->V)(d:Tmp)(v:V)(σ:Store)(nx:Nat):VN P conv call ops rest T (some d) (some (v,σ,nx))=CU P conv call ops rest ⟨upd T d v,σ,nx⟩:=rfl
theorem aad(ops:Array Oper)(rest:List Oper)(T:Nat->V)(v:V)(σ:Store)(nx:Nat):VN P conv call ops rest T none (some (v,σ,nx))=CU P conv call ops rest ⟨T,σ,nx⟩:=rfl
theorem aae(ops:Array Oper)(rest:List Oper)(d:Option Tmp)(op:Op)(ty:TypeId)(ps:String)(af:Array Edge)(g:Option (Nat×Bool))(T:Nat->V)(σ:Store)(nx:Nat) :
  abL P conv call ops rest ⟨d,op,ty,ps,af,g⟩ ⟨T,σ,nx⟩ (some true)=VN P conv call ops rest T d (Ah P conv call ⟨d,op,ty,ps,af,g⟩ T σ nx):=rfl
theorem VP(ops:Array Oper)(rest:List Oper)(d:Tmp)(op:Op)(ty:TypeId)(ps:String)(af:Array Edge)(g:Option (Nat×Bool))(T:Nat->V)(σ:Store)(nx:Nat) :
  abL P conv call ops rest ⟨some d,op,ty,ps,af,g⟩ ⟨T,σ,nx⟩ (some false)=CU P conv call ops rest ⟨upd T d (.AB []),σ,nx⟩:=rfl
theorem aaf{σ:Store}{nx:Nat}{cells:List V}{st:Nat}:Aa [] nx (nx+1) σ (Aq (restrict σ []) nx cells st)=Aq σ nx cells st:=by
 funext b;unfold Aa Aq upd restrict
 by_cases h:b=nx
 .subst h;simp
 .rw[sJ (by simp;omega),sJ h]
section
variable (d:Option Tmp) (ty:TypeId) (ps:String) (af:Array Edge) (gd:Option (Nat×Bool)) (T:Nat->V) (σ:Store) (nx:Nat)
omit d ty ps af gd T σ nx in
theorem Jp(T:Nat->V)(o:Oper)(v:V):keeps conv T o [] v=true:=by
 obtain⟨dst,op,type,pos,after,guard⟩:=o;cases op<;>simp only[keeps];rename_i c;obtain⟨callee,args,ts⟩:=c;cases callee with
 |value f=>
  cases E:val T f<;>simp only[E];rename_i g cs;cases hc:conv g<;>simp
 |builtin b=>rfl
 |invoke r m=>rfl
theorem nN{o:Oper}{F:List Nat}(E:Dc conv T σ o=some F)(G:∀v,keeps conv T o F v=true):Ah P conv call o T σ nx=if(F.all fun b=>decide (b<nx))=true then match Az P conv call o T (restrict σ F) nx with|some (v,σ1,nI)=>some (v,Aa F nx nI σ σ1,nI)|none=>none else none:=by
 unfold Ah;simp only[E,G,if_true];cases Az P conv call o T (restrict σ F) nx with
 |none=>rfl
 |some r=>rfl
theorem La{o:Oper}(E:Dc conv T σ o=some []){v:V}(h:∀σ,Az P conv call o T σ nx=some (v,σ,nx)):Ah P conv call o T σ nx=some (v,σ,nx):=by
 rw[nN T σ nx E (Jp T o)];simp only[uw,if_true,h];rw[iK]
theorem iY{o:Oper}(E:Dc conv T σ o=some []){m:Option V}(h:∀σ,Az P conv call o T σ nx=m.map (·,σ,nx)):Ah P conv call o T σ nx=m.map (·,σ,nx):=by
 cases m with
 |some v=>exact La T σ nx E h
 |none=>
  rw[nN T σ nx E (Jp T o)];simp only[uw,if_true,h,Option.map_none]
theorem Ie{o:Oper}(E:Dc conv T σ o=some []){m:Option (List V×Nat×V)}(h:∀σ,Az P conv call o T σ nx=m.map fun p=>(p.2.2,Aq σ nx p.1 p.2.1,nx+1)):Ah P conv call o T σ nx=m.map fun p=>(p.2.2,Aq σ nx p.1 p.2.1,nx+1):=by
 rw[nN T σ nx E (Jp T o)];simp only[uw,if_true,h];cases m with
 |none=>rfl
 |some p=>simp only[zG];rw[aaf]
theorem afY(x:Operand):Ah P conv call ⟨d,.move x,ty,ps,af,gd⟩ T σ nx=some (val T x,σ,nx):=La T σ nx rfl fun _=>rfl
theorem aag(x:Operand):Ah P conv call ⟨d,.assign x,ty,ps,af,gd⟩ T σ nx=some (val T x,σ,nx):=La T σ nx rfl fun _=>rfl
theorem afZ(c a b:Operand):Ah P conv call ⟨d,.pick c a b,ty,ps,af,gd⟩ T σ nx=(abI (val T a) (val T b) (val T c)).map (·,σ,nx):=iY T σ nx rfl fun σ=>abJ d ty ps af gd T σ nx c a b
theorem RX(x:Operand):Ah P conv call ⟨d,.nilCheck x,ty,ps,af,gd⟩ T σ nx=(afy (val T x)).map (·,σ,nx):=iY T σ nx rfl fun σ=>J9 d ty ps af gd T σ nx x
theorem adG(op:BinOp)(t:TypeId)(x y:Operand)(E:TypeId):Ah P conv call ⟨d,.binOp op t x y E,ty,ps,af,gd⟩ T σ nx=(Aw P op t x y (val T x) (val T y)).map (·,σ,nx):=iY T σ nx rfl fun _=>rfl
theorem af0(op:UnOp)(t:TypeId)(x:Operand):Ah P conv call ⟨d,.unOp op t x,ty,ps,af,gd⟩ T σ nx=(Yp P op (val T x)).map (·,σ,nx):=iY T σ nx rfl fun _=>rfl
theorem OY(t:TypeId)(x:Operand)(f:Nat):Ah P conv call ⟨d,.fieldAddr t x f,ty,ps,af,gd⟩ T σ nx=(Bv P t (val T x) f).map (·,σ,nx):=iY T σ nx rfl fun _=>rfl
theorem OZ(t:TypeId)(x i:Operand):Ah P conv call ⟨d,.indexAddr t x i,ty,ps,af,gd⟩ T σ nx=(B_ P t (val T x) (val T i)).map (·,σ,nx):=iY T σ nx rfl fun _=>rfl
theorem VQ(x:Operand)(i:Nat):Ah P conv call ⟨d,.extract x i,ty,ps,af,gd⟩ T σ nx=(ajq i (val T x)).map (·,σ,nx):=iY T σ nx rfl fun σ=>MF d ty ps af gd T σ nx x i
theorem ajL(x:Operand)(t:TypeId):Ah P conv call ⟨d,.call ⟨.builtin .len,#[x],#[t]⟩,ty,ps,af,gd⟩ T σ nx=(Dz P t (val T x)).map (·,σ,nx):=iY T σ nx rfl fun _=>rfl
theorem adH(t:TypeId)(parts:Array (Nat×Operand)):Ah P conv call ⟨d,.build t parts,ty,ps,af,gd⟩ T σ nx=(FV P t (parts.toList.map fun p=>(p.1,val T p.2))).map (·,σ,nx):=iY T σ nx rfl fun _=>rfl
theorem adI(t:TypeId)(h:(vI P t).ok=true)(E:decide ((vI P t).zero.length=(vI P t).size)=true)(G:decide (0<(vI P t).size)=true)(hb:isB (vI P t).zero=false):Ah P conv call ⟨d,.alloc t,ty,ps,af,gd⟩ T σ nx=some (.rp nx 0,Aq σ nx (vI P t).zero 0,nx+1) :=
 Ie (m:=some ((vI P t).zero,0,.rp nx 0)) T σ nx rfl fun σ=>Vo d ty ps af gd T σ nx t h E G hb
theorem ajM(t:TypeId)(x:Operand):Ah P conv call ⟨d,.box t x,ty,ps,af,gd⟩ T σ nx=(cellsOfV (val T x)).map fun cs=>(.rp nx 0,Aq σ nx cs 0,nx+1):=by
 have:=Ie (P:=P) (conv:=conv) (call:=call) (o:=⟨d,.box t x,ty,ps,af,gd⟩) (m:=(cellsOfV (val T x)).map fun cs=>(cs,0,V.rp nx 0)) T σ nx rfl fun σ=>by rw[afv];cases cellsOfV (val T x)<;>rfl
 rw[this];cases cellsOfV (val T x)<;>rfl
def MK(P:Program)(σ:Store)(nx:Nat)(t:TypeId):V->Option V
 | .rp b off=>if b<nx then AV P σ t (.rp b off)else none
 |v=>AV P σ t v
theorem af2(t:TypeId)(a:Operand):Ah P conv call ⟨d,.load t a,ty,ps,af,gd⟩ T σ nx=(MK P σ nx t (val T a)).map (·,σ,nx):=by
 have key:∀b off,AV P (restrict σ [b]) t (.rp b off)=AV P σ t (.rp b off):=fun b off=>by
  unfold AV Dk restrict;simp
 rw[nN (F:=wI (val T a)) T σ nx rfl (fun _=>rfl)];show(if((wI (val T a)).all fun b=>decide (b<nx))=true then match(AV P (restrict σ (wI (val T a))) t (val T a)).map (·,restrict σ (wI (val T a)),nx)with|some (v,σ1,nI)=>some (v,Aa (wI (val T a)) nx nI σ σ1,nI)|none=>none else none)=_;cases E:val T a with
 |rp b off=>
  simp only[wI,uH,uw,Bool.and_true,decide_eq_true_eq,MK,key]
  by_cases hb:b<nx
  .rw[sH hb,sH hb]
   cases AV P σ t (.rp b off)with
   |none=>rfl
   |some v=>simp only[zG,iL]
  .rw[sJ hb,sJ hb];rfl
 |tp row off=>
  simp only[wI,uw,if_true,MK];have:AV P (restrict σ []) t (.tp row off)=AV P σ t (.tp row off):=by unfold AV Dk;rfl
  rw[this];cases AV P σ t (.tp row off)with
  |none=>rfl
  |some v=>simp only[zG,iK]
 |rs b off len=>
  have e:∀σ,AV P σ t (.rs b off len)=none:=fun σ=>by unfold AV Dk;split<;>simp
  simp only[MK,e,Option.map_none]
  split<;>rfl
 |_=>
  simp only[wI,uw,if_true,MK];unfold AV Dk;cases P.info? t<;>cases P.underlying t<;>simp
theorem af4(σ:Store)(nx:Nat)(t:TypeId)(row:List V)(off:Nat):MK P σ nx t (.tp row off)=AV P σ t (.tp row off):=rfl
theorem af5(σ:Store)(nx:Nat)(t:TypeId)(b off:Nat):MK P σ nx t (.rp b off)=if b<nx then AV P σ t (.rp b off)else none:=rfl
def RY(P:Program)(σ:Store)(nx:Nat)(t:TypeId)(v:V):V->Option Store
 | .rp b off=>if b<nx then C_ P σ t (.rp b off) v else none
 |_=>none
theorem adJ(t:TypeId)(a x:Operand):Ah P conv call ⟨d,.store t a x,ty,ps,af,gd⟩ T σ nx=(RY P σ nx t (val T x) (val T a)).map (.AB [],·,nx):=by
 rw[nN (F:=wI (val T a)) T σ nx rfl (fun _=>rfl)];show(if((wI (val T a)).all fun b=>decide (b<nx))=true then match(C_ P (restrict σ (wI (val T a))) t (val T a) (val T x)).map (V.AB [],·,nx)with|some (v,σ1,nI)=>some (v,Aa (wI (val T a)) nx nI σ σ1,nI)|none=>none else none)=_;cases G:val T a with
 |rp b off=>
  simp only[wI,uH,uw,Bool.and_true,decide_eq_true_eq,RY]
  by_cases hb:b<nx
  .rw[sH hb,sH hb]
   unfold C_;have J:restrict σ [b] b=σ b:=by unfold restrict;simp
   cases P.info? t with
   |none=>rfl
   |some i=>
    cases cellsOfV (val T x)with
    |none=>rfl
    |some vs=>
     simp only[J];cases σ b with
     |none=>rfl
     |some B=>
      by_cases hc:B.wr=true/\vs.length=i.size/\off+vs.length<=B.cells.length/\vs.all qI=true
      .simp only[sH hc,zG]
       congr 2;congr 1;funext c;unfold Aa upd restrict
       by_cases E:c=b
       .subst E;simp
       .rw[sJ (by simp[E]),sJ E]
      .simp only[sJ hc,Option.map_none]
  .rw[sJ hb,sJ hb];rfl
 |_=>
  simp only[RY];have:C_ P (restrict σ (wI (val T a))) t (val T a) (val T x)=none:=by
   rw[G];unfold C_;cases P.info? t<;>cases cellsOfV (val T x)<;>rfl
  rw[G]at this;rw[this];simp
theorem adK(σ:Store)(nx:Nat)(t:TypeId)(v:V)(b off:Nat):RY P σ nx t v (.rp b off)=if b<nx then C_ P σ t (.rp b off) v else none:=rfl
end
end
end Go.TV
namespace Go.TV
set_option linter.unusedVariables false
set_option linter.unusedSimpArgs false
variable [Known]
noncomputable def fn(P:Program)(conv:FuncId->Conv)(ext:Ext)(f:FuncId)(ts:List V):Option V :=
 match ev P conv ext f ts lI 0 with
 |some (v,σ1,_)=>(strip σ1 depth v).map (·.1)
 |none=>none
section
variable {P:Program} {conv:FuncId->Conv} {ext:Ext}
def behind(σ:Store)(ids:List Nat)(t:V):Store:=if ids.isEmpty||flat depth t then σ else Dl σ ids
theorem VT{f:FuncId}(h:conv f= .KH)(args:List V)(σ:Store)(nx:Nat):BU conv (ev P conv ext) f args σ nx=
  (stripL (strip σ depth) args).bind fun p=>(fn P conv ext f p.1).map fun t=>(t,behind σ p.2 t,nx):=by
 unfold BU fn behind;rw[h];simp only;cases stripL (strip σ depth) args with
 |none=>rfl
 |some p=>
  obtain⟨ts,ids⟩:=p;simp only[zi];cases ev P conv ext f ts lI 0 with
  |none=>rfl
  |some q=>
   obtain⟨v,E,n⟩:=q;simp only;cases strip E depth v with
   |none=>rfl
   |some r=>
    obtain⟨t,j⟩:=r;simp only[zG]
    split<;>rfl
theorem aah(σ:Store)(t:V):behind σ [] t=σ:=rfl
theorem adL(σ:Store)(ids:List Nat)(v:Value):behind σ ids (.sc v)=σ:=by
 unfold behind depth flat;simp
theorem VU(σ:Store)(ids:List Nat)(v w:Value):behind σ ids (.AB [.sc v,.sc w])=σ:=by
 have:flat depth (.AB [.sc v,.sc w])=true:=rfl;unfold behind;rw[this];simp
theorem qB{call:Call}{f:FuncId}(h:conv f= .inl)(args:List V)(σ:Store)(nx:Nat):BU conv call f args σ nx=call f args σ nx:=by
 unfold BU;rw[h]
theorem VW{call:Call}{f:FuncId}(h:conv f= .own)(args:List V)(σ:Store)(nx:Nat):BU conv call f args σ nx=
  (stripL (strip σ depth) args).bind fun p=>(call f p.1 lI nx).bind fun q=>(gather q.2.1 depth q.1).map fun ids=>(q.1,CQ nx σ q.2.1 ids,q.2.2):=by
 unfold BU;rw[h];simp only;cases stripL (strip σ depth) args with
 |none=>rfl
 |some p=>
  simp only[zi];cases call f p.1 lI nx with
  |none=>rfl
  |some q=>
   simp only[zi];cases gather q.2.1 depth q.1<;>rfl
theorem aX(f:V->Option (V×List Nat)):stripL f []=some ([],[]):=rfl
theorem ah(f:V->Option (V×List Nat))(v:V)(vs:List V):stripL f (v :: vs)=(f v).bind fun p=>(stripL f vs).map fun q=>(p.1 :: q.1,p.2++q.2):=by
 show(match f v,stripL f vs with|some (t,i),some (ts,j)=>some (t :: ts,i++j)|_,_=>none)=_;cases f v<;>cases stripL f vs<;>rfl
theorem aP(σ:Store)(d:Nat)(v:Value):strip σ d (.sc v)=some (.sc v,[]):=by cases d<;>rfl
theorem aS(σ:Store)(d:Nat):strip σ d .nil=some (.ts [] 0,[]):=by cases d<;>rfl
theorem aN(σ:Store)(d:Nat)(row:List V)(off:Nat):strip σ d (.tp row off)=some (.tp row off,[]):=by cases d<;>rfl
theorem aK(σ:Store)(d:Nat)(row:List V)(len:Nat):strip σ d (.ts row len)=some (.ts row len,[]):=by cases d<;>rfl
theorem PS(σ:Store)(d:Nat)(vs:List V):strip σ (d+1) (.agg vs)=(stripL (strip σ d) vs).map fun p=>(.agg p.1,p.2):=by
 show(match stripL (strip σ d) vs with|some (ts,ids)=>some (V.agg ts,ids)|none=>none)=_;cases stripL (strip σ d) vs<;>rfl
theorem adM(σ:Store)(d:Nat)(vs:List V):strip σ (d+1) (.AB vs)=(stripL (strip σ d) vs).map fun p=>(.AB p.1,p.2):=by
 show(match stripL (strip σ d) vs with|some (ts,ids)=>some (V.AB ts,ids)|none=>none)=_;cases stripL (strip σ d) vs<;>rfl
theorem adN(σ:Store)(d:Nat)(f:FuncId)(vs:List V):strip σ (d+1) (.clo f vs)=(stripL (strip σ d) vs).map fun p=>(.clo f p.1,p.2):=by
 show(match stripL (strip σ d) vs with|some (ts,ids)=>some (V.clo f ts,ids)|none=>none)=_;cases stripL (strip σ d) vs<;>rfl
theorem ML(σ:Store)(d b off:Nat):strip σ (d+1) (.rp b off)=(σ b).bind fun B=>(stripL (strip σ d) B.cells).map fun p=>(.tp p.1 off,b :: p.2):=by
 show(match σ b with|some B=>(match stripL (strip σ d) B.cells with|some (ts,ids)=>some (V.tp ts off,b :: ids)|none=>none)|none=>none)=_;cases σ b with
 |none=>rfl
 |some B=>simp only[zi];cases stripL (strip σ d) B.cells<;>rfl
theorem aQ(σ:Store)(d b off len:Nat):strip σ (d+1) (.rs b off len)=(σ b).bind fun B=>if off+len*B.st<=B.cells.length then(stripL (strip σ d) ((B.cells.drop off).take (len*B.st))).map fun p=>(.ts p.1 len,b :: p.2)else none:=by
 show(match σ b with|some B=>(if off+len*B.st<=B.cells.length then(match stripL (strip σ d) ((B.cells.drop off).take (len*B.st))with|some (ts,ids)=>some (V.ts ts len,b :: ids)|none=>none)else none)|none=>none)=_;cases σ b with
 |none=>rfl
 |some B=>
  simp only[zi]
  split
  .cases stripL (strip σ d) ((B.cells.drop off).take (len*B.st))<;>rfl
  .rfl
def VX(ids:List Nat)(t:V)(σ:Store)(nx:Nat):JZ:=if(ids.isEmpty||flat depth t)=true then some (t,σ,nx)else none
theorem adO(t:V)(σ:Store)(nx:Nat):VX [] t σ nx=some (t,σ,nx):=rfl
theorem af6(ids:List Nat)(v:Value)(σ:Store)(nx:Nat):VX ids (.sc v) σ nx=some (.sc v,σ,nx):=by
 unfold VX depth flat;simp
theorem af7{d:Option Tmp}{ty:TypeId}{ps:String}{O:Array Edge}{S:Option (Nat×Bool)}{T:Nat->V}{σ:Store}{nx:Nat}{g:FuncId}(h:conv g= .KH)(args:Array Operand)(ts:Array TypeId) :
  Ah P conv (ev P conv ext) ⟨d,.call ⟨.value (.func g),args,ts⟩,ty,ps,O,S⟩ T σ nx=(stripL (strip σ depth) (args.toList.map (val T))).bind fun p=>if(p.2.all fun b=>decide (b<nx))=true then(fn P conv ext g p.1).bind fun t=>VX p.2 t σ nx else none:=by
 unfold Ah;rw[lZ d ty ps O S T σ (by rw[h];exact fun e=>by cases e)];cases Y:stripL (strip σ depth) (args.toList.map (val T))with
 |none=>rfl
 |some p=>
  obtain⟨us,ids⟩:=p;simp only[zG,zi]
  by_cases E:(ids.all fun b=>decide (b<nx))=true
  .rw[sH E,sH E]
   have e:=K_ (P:=P) (conv:=conv) (call:=ev P conv ext) d ty ps O S T (restrict σ ids) nx (.func g) args ts;rw[e];have G:stripL (strip (restrict σ ids) depth) (args.toList.map (val T))=some (us,ids) :=
    ak (fun v t i h hi=>aU _ v t i h fun b hb=>by unfold restrict;rw[sH (hi b hb)]) Y
   simp only[val,qC,zC,VT h,G,zi];cases fn P conv ext g us with
   |none=>rfl
   |some t=>
    simp only[zG,zi,keeps,val,h,VX,behind]
    by_cases J:(ids.isEmpty||flat depth t)=true
    .rw[sH J,sH J,sH J,iL]
    .rw[sJ J,sJ J]
  .rw[sJ E,sJ E]
end
abbrev I(n:Int):V:=.sc (.int .i64 n)
abbrev Bo(b:Bool):V:=.sc (.bool b)
abbrev Sg(s:ByteArray):V:=.sc (.string s)
abbrev L(xs:List Int):V:=.ts (xs.map I) xs.length
theorem jD(n:Nat):(0:Int)<=(n:Int):=by omega
theorem ZT{n:Int}(E:-9223372036854775808<=n:=by omega)(G:n<=9223372036854775807:=by omega):IntKind.i64.wrap n=n:=by
 rw[IntKind.wrap_i64];omega
end Go.TV
namespace Go.TV
variable [Known]
attribute [go_sem low] iW
attribute [go_sem] Y8 ajx adx Y9 Y_ VE RS ZA ZC ZE VF ajy afP ajz afQ afR ady adz ZF ZG VG VH VI ZH afS ajA ZI adA anc ajB ajC ajD ajE ajF afT afU adB ane VJ afV adC anf OW ZJ ZK ajG adD ang MI VK Z4 ajH MJ VL Z5 ajI RU adE afW aqF Z7 ajJ OX Z8 Z9 ajK afX aqG anh adF List.contains_cons List.contains_nil Bool.or_false Bool.false_or Bool.true_or Nat.reduceBEq adg YU Vl adh adi adk YV RH Vm RI ajh adl afs aji adn abJ YW Vo aqA aqB aqC am5 ajj ajk aft YX afu ajl am6 ug wS xC afv afw ajm afx J9 ajn ajo afz ajp YZ Vp Ib afA RJ afB RN afC MF afD K_ qC am7 PN ajr afF adb YR Y0 Vt Y1 Vu Y2 ado Y3 adq afH ajs afI afJ afK adr Y4 ads adt Vy adu adv Y5 RP Y6 Y7 adw aqD ajt am8 aju afN am9 am_ aqE am' ana ajv afO ajw anb Z_ VO RV aac aad aae VP afY aag afZ RX adG af0 OY OZ VQ ajL adH adI ajM af2 af4 af5 adJ adK af7 adO af6 xE Option.getD_none ac_ YJ ac' YK YL Vg YM YN YO YP ada ng YQ Vh Vj nT nU ade adf Vk YS YT amS amT amU amV amW amX amY amZ am0 am1 am2 am3 am4 VT aah adL VU aX ah aP aS aN aK PS adM adN ML aQ Zk Zl ne_eq wL t_ xE zG zi wM not_false_eq_true reduceCtorEq beq_self_eq_true if_true if_false yJ uo List.map_nil yO yT Nat.reduceEqDiff decide_true decide_false xC ug um vU Bool.and_true Bool.or_true wS bnd and_true true_and
end Go.TV
namespace Go.TV
variable [Known]
theorem jQ{body:St->Option (Ex×St)}{E:St}{x:Option (Ex×St)}(S:dI body E=x)(J:Nat->St->Prop)(post:Ex×St->Prop)
  (step:∀n st,J n st->(∃G,body st=some (.norm,G)/\∃m,m<n/\J m G)\/(∃r,body st=some r/\(∀s,r≠(.norm,s))/\post r)) (n:Nat) (Y:J n E):∃r,x=some r/\post r:=by
 subst S
 induction n using Nat.strongRecOn generalizing E with
 |_ n ih=>
  rcases step n E Y with ⟨G,O,m,hm,hJ⟩|⟨r,O,h2,h3⟩
  .obtain⟨r,hr,hp⟩:=ih m hm hJ
   exact⟨r,by rw[MB,O];exact hr,hp⟩
  .refine⟨r,?_,h3⟩
   rw[MB,O];obtain⟨e,s⟩:=r;cases e with
   |norm=>exact absurd rfl (h2 s)
   |exit i=>rfl
   |ret=>rfl
end Go.TV
namespace Go.TV
open Go.ChangeShapes Go.WideShapes Go.RowKit
set_option linter.unusedVariables false
variable [Known]
def start(W:World):Sit:=⟨fun k _=>k<W.heap.size,fun _=>none,W⟩
theorem adP(W:World)(E:Kn (start W)):Inv (start W) lI:=Inv.none _ (fun _ _ h=>h) E
structure OpensV {α:Type} (P:Program) (t:TypeId) (c:α->List V) (ok:α->Prop):Prop where
 out:∀ {H:Type} {enc:TypeId×Value->H} {W:World} {base:Nat} {spare:Nat->Bool} {held:Bool} {fuel:Nat} {cs:List Value} {y:DataW H×List MemPlace},
  DataW.trod enc P W base spare held fuel t cs=some y->(∀n∈DataW.weights P t y.1,n<=reachBytes)->∃x,VRs (start W) (c x) cs/\ok x
theorem Ig{s:Sit}{v:V}{x:Value}(h:VR s v x):VRs s [v] [x]:=by
 unfold VRs;exact⟨x,[],rfl,h,by unfold VRs;rfl⟩
theorem opensV_int{P:Program}{t:TypeId}{k:IntKind}(E:P.underlying t=some (.int k)):OpensV P t (fun n:Int=>[.sc (.int k n)]) (fun n=>(Lit.int k n).wf=true) :=
 ⟨fun h _=>by
  obtain⟨n,rfl,_,hw⟩:=DataW.trod_int E h;exact⟨n,Ig (rX rfl),hw⟩⟩
theorem opensV_bool{P:Program}{t:TypeId}(E:P.underlying t=some .bool):OpensV P t (fun b:Bool=>[.sc (.bool b)]) (fun _=>True) :=
 ⟨fun h _=>by
  obtain⟨b,rfl,_⟩:=DataW.trod_bool E h;exact⟨b,Ig (rX rfl),trivial⟩⟩
theorem opensV_string{P:Program}{t:TypeId}(E:P.underlying t=some .string):OpensV P t (fun s:ByteArray=>[.sc (.string s)]) (fun s=>s.size<=140737488351232) :=
 ⟨fun h hw=>by
  obtain⟨s,rfl,rfl,_⟩:=DataW.trod_string E h;refine⟨s,Ig (rX rfl),?_⟩;have:=hw s.data.toList.length (by simp[DataW.weights]);rw[yR]at this;exact this⟩
theorem ZV{H:Type}{P:Program}{e:TypeId}:∀ {l:List (DataW H)} {d:DataW H},d∈l->∀n∈d.weights P e,n∈DataW.weightsAll P e l
 |c :: l,d,E,n,hn=>by
  unfold DataW.weightsAll;rcases List.mem_cons.1 E with rfl|E
  .exact zD _ hn
  .exact yw _ (ZV E n hn)
theorem Ko{α:Type}{p:Nat->α->Prop}:∀n,(∀i,i<n->∃x,p i x)->∃l:List α,l.length=n/\∀i x,l[i]?=some x->p i x
 |0,_=>⟨[],rfl,fun i x h=>by simp at h⟩
 |n+1,h=>by
  obtain⟨l,J,hp⟩:=Ko n (fun i hi=>h i (by omega));obtain⟨x,O⟩:=h n (by omega);refine⟨l++[x],by simp[J],fun i y E=>?_⟩;rcases Nat.lt_or_ge i n with hi|hi
  .rw[zW (by omega)]at E
   exact hp i y E
  .rw[zN (by omega),J]at E
   have G:i-n=0:=by
    rcases Nat.eq_zero_or_pos (i-n)with G|G
    .exact G
    .rw[z_ (by simp;omega)]at E
     cases E
   rw[G]at E;have:x=y:=by simpa using E
   subst this;have:i=n:=by omega
   subst this;exact O
theorem Ih{s:Sit}{α:Type}{c:α->List V}{k size:Nat}(hc:∀x,(c x).length=size):∀(xs:List α) (o:Nat),(∀i x,xs[i]?=some x->DY s (c x) k (o+i*size))->DY s (xs.flatMap c) k o
 |[],o,_=>by rw[vg];unfold DY;trivial
 |x :: xs,o,h=>by
  rw[zK];have E:=h 0 x rfl;rw[uX,uN]at E;have G:=Ih hc xs (o+size) (fun i y J=>by
   have:=h (i+1) y (by simpa using J);rw[uz,Nat.one_mul]at this
   rwa [show o+size+i*size=o+(i*size+size) by omega])
  have app:∀(a b:List V) (o:Nat),DY s a k o->DY s b k (o+a.length)->DY s (a++b) k o:=by
   intro a
   induction a with
   |nil=>intro b o _ hb;simpa using hb
   |cons v a O=>
    intro b o ha hb;rw[yT];unfold DY at ha⊢;refine⟨ha.1,ha.2.1,O b (o+1) ha.2.2 ?_⟩
    rwa [show o+1+a.length=o+(v :: a).length by simp;omega]
  exact app _ _ o E (by rw[hc];exact G)
theorem opensV_slice{P:Program}{t e:TypeId}{α:Type}{c:α->List V}{ok:α->Prop}{B size:Nat}(ht:P.underlying t=some (.slice e))(hd:OpensV P e c ok)(E:∀x,(c x).length=size)(hc:P.cellsOf e=size)(hB:P.bytesOf e=B) :
  OpensV P t (fun xs:List α=>[.ts (xs.flatMap c) xs.length]) (fun xs=>(∀x∈xs,ok x)/\xs.length*B<=140737488351232/\xs.length<=maxLen) :=
 ⟨fun {H enc W base spare held fuel cs y} h hw=>by
  rcases Go.Deep.open_slice ht h with ⟨rfl,rfl⟩|⟨a,len,cap,m,n,D,Pl,rfl,_,hl,hm,b3,rfl,Y⟩
  .exact⟨[],Ig (by unfold VR;exact⟨none,0,rfl,zq _,.inl rfl⟩),fun x Y=>by simp at Y,by simp,vV _⟩
  .have c3:len<=m:=by rw[b3];split<;>omega
   simp only[DataW.weights,ht,zS,uF]at hw;obtain⟨xs,a1,G⟩:=Ko (p:=fun i x=>∃J:List Value,J.length=size/\VRs (start W) (c x) J/\ok x/\∀(j:Nat) (u:Value),J[j]?=some u->W.cell? (a.add (i*size+j))=some u) len (fun i hi=>by
    obtain⟨b4,a6,b5⟩:=Y i (by omega);obtain⟨x,hK,b6⟩:=hd.out b5 (fun k hk=>hw k (zY _ (zD _ (ZV (d:=D i) (List.mem_map.2 ⟨i,List.mem_range.2 hi,rfl⟩) k hk))));obtain⟨_,b7,b8⟩:=World.cells?_some a6;refine⟨x,b4,by rw[<- rJ hK,E],hK,b6,fun j u hu=>?_⟩;have hj:j<P.cellsOf e:=by rw[<- b7];exact(List.getElem?_eq_some_iff.1 hu).1
    have:=b8 j hj;rw[hc,Go.Deep.add_add]at this;rw[this,hu])
   have hlen:len<=9223372036854775807:=by
    unfold maxLen at hm;omega
   refine⟨xs,Ig ?_,fun x b9=>?_,?_,by omega⟩
   .unfold VR
    refine⟨some a,cap,by rw[a1],by omega,?_⟩
    by_cases O:xs.flatMap c=[]
    .exact .inl O
    .obtain⟨x0,c0⟩:∃x0,xs[0]?=some x0:=by
      cases xs with
      |nil=>exact absurd rfl O
      |cons x0 r=>exact⟨x0,rfl⟩
     have S:a.spot=none/\a.block<W.heap.size:=by
      obtain⟨J,k1,k2,k3,k4⟩:=G 0 x0 c0;have a7:J≠[]:=by
       rintro rfl;have:size=0:=by simpa using k1.symm
       apply O;rw[List.flatMap_eq_nil_iff];intro x _;exact zZ (by rw[E,this])
      cases J with
      |nil=>exact absurd rfl a7
      |cons u r=>
       have:=k4 0 u rfl;rw[uX,yX]at this;have c2:a.add 0=a:=by simp[Addr.add]
       rw[c2]at this;refine⟨?_,World.block_lt_of_cell? W a this⟩;unfold World.cell? at this
       split at this
       .split at this
        .cases this
        .rename_i hs;simpa using hs
       .cases this
     obtain⟨a8,b2⟩:=S;obtain⟨ab,ao,c4⟩:=a;simp only at a8 b2;subst a8;refine .inr ⟨ab,ao,rfl,Ih E xs ao fun i x Y=>Hz fun j v hv=>⟨b2,?_⟩⟩;obtain⟨J,k1,k2,k3,k4⟩:=G i x Y;obtain⟨u,hu,hr⟩:=rM k2 hv;refine⟨u,?_,hr⟩;have:=k4 j u hu;rw[Addr.add_lit]at this;rw[vZ];exact this
   .obtain⟨i,hi⟩:=List.mem_iff_getElem?.1 b9
    obtain⟨_,_,_,h3,_⟩:=G i x hi;exact h3
   .have:=hw _ zM
    rw[hB]at this;rw[a1];exact zU (zL _ (by omega)) this⟩
structure Lc {α:Type} (P:Program) (fs:List Field) (off sz:Nat) (c:α->List V) (ok:α->Prop):Prop where
 out:∀ {H:Type} {enc:TypeId×Value->H} {W:World} {base:Nat} {spare:Nat->Bool} {held:Bool} {n:Nat} {cs:List Value} {xs:List (DataW H×List MemPlace)},
  xs.length=fs.length->(∀(i:Nat) (f:Field),fs[i]?=some f->DataW.trod enc P W base spare held n f.type ((cs.drop f.offset).take (P.cellsOf f.type))=xs[i]?) ->
  (∀n∈DataW.weightsEach P (fs.map (·.type)) (xs.map (·.1)),n<=reachBytes)->∃x,VRs (start W) (c x) ((cs.drop off).take sz)/\ok x
theorem opensVF_one{P:Program}{f:Field}{off sz:Nat}{α:Type}{c:α->List V}{ok:α->Prop}{t:TypeId}(S:f.offset=off)(G:f.type=t)(h:OpensV P t c ok)(hc:P.cellsOf t=sz):Lc P [f] off sz c ok :=
 ⟨fun {H enc W base spare held n cs xs} Y hx hw=>by
  match xs,Y with
  |[y],_=>
   have J:=hx 0 f rfl;rw[G]at J;obtain⟨x,O,E⟩:=h.out (y:=y) (by simpa using J) (fun n hn=>hw n (by simp[DataW.weightsEach,G];exact hn));rw[S,hc]at O;exact⟨x,O,E⟩⟩
theorem opensVF_cons{P:Program}{f:Field}{fs:List Field}{off off' sz E:Nat}{α β:Type}{a:α->List V}{b:β->List V}{G:α->Prop}{J:β->Prop}{t:TypeId}(ho:f.offset=off)(hf:f.type=t)(h:OpensV P t a G)(hc:P.cellsOf t=sz)
  (hr:Lc P fs off' E b J) (O:off'=off+sz):Lc P (f :: fs) off (sz+E) (fun x:α×β=>a x.1++b x.2) (fun x=>G x.1/\J x.2) :=
 ⟨fun {H enc W base spare held n cs xs} S hx hw=>by
  match xs,S with
  |y :: ys,S=>
   have h0:=hx 0 f rfl;rw[hf]at h0;obtain⟨x,hK,Y⟩:=h.out (y:=y) (by simpa using h0) (fun n hn=>hw n (by simp only[uo,DataW.weightsEach,hf];exact zD _ hn));obtain⟨z,hZ,a1⟩:=hr.out (cs:=cs) (xs:=ys) (by simpa using S) (fun i g hg=>hx (i+1) g hg) (fun n hn=>hw n (by simp only[uo,DataW.weightsEach];exact yw _ hn));rw[ho,hc]at hK;rw[O,<- List.drop_drop]at hZ;refine⟨(x,z),?_,Y,a1⟩;rw[List.take_add];exact rP hK hZ⟩
theorem opensV_struct{P:Program}{t:TypeId}{fs:Array Field}{α:Type}{c:α->List V}{ok:α->Prop}{sz:Nat}(G:P.underlying t=some (.struct fs))(h:Lc P fs.toList 0 sz c ok)(hc:P.cellsOf t=sz):OpensV P t c ok :=
 ⟨fun {H enc W base spare held fuel cs y} O hw=>by
  obtain⟨xs,n,_,rfl,S,Y,hx⟩:=DataW.trod_struct G O;simp only[DataW.weights,G]at hw;obtain⟨x,J,E⟩:=h.out (cs:=cs) (xs:=xs) (by simpa using Y) (fun i f hf=>hx i f (by simpa using hf)) hw;rw[yY,zl (by omega)]at J;exact⟨x,J,E⟩⟩
theorem opensV_iso{P:Program}{t:TypeId}{α β:Type}{c:α->List V}{ok:α->Prop}(f:β->α)(g:α->β)(G:∀x,f (g x)=x)(h:OpensV P t c ok):OpensV P t (fun y=>c (f y)) (fun y=>ok (f y)) :=
 ⟨fun J hw=>by
  obtain⟨x,O,E⟩:=h.out J hw;exact⟨g x,by show VRs _ (c (f (g x))) _;rw[G];exact O,by show ok (f (g x));rw[G];exact E⟩⟩
theorem opensV_param{P:Program}{t:TypeId}{α:Type}{c:α->List V}{ok:α->Prop}(h:OpensV P t c ok){H:Type}{enc:TypeId×Value->H}{W:World}{base:Nat}{spare:Nat->Bool}{held:Bool}{v:Value}{y:DataW H}{p:List MemPlace}
  (S:DataW.Trod enc P W base spare held t v y p) {ts:List TypeId} {O:List (DataW H)} {j:Nat} (E:(DataW.weightsEach P ts O).all (·<=reachBytes)=true) (G:ts[j]?=some t) (J:O[j]?=some y) :
  ∃x,VRs (start W) (c x) v.cells.toList/\ok x:=by
 obtain⟨fuel,Y⟩:=S;exact h.out Y (fun n hn=>by
  have:=List.all_eq_true.1 E n (DataW.weights_mem_each G J n hn)
  simpa using this)
theorem VR_cell{s:Sit}{v:V}{x:Value}(hc:x.cells=#[x])(h:VRs s [v] x.cells.toList):VR s v x:=by
 rw[hc]at h;unfold VRs at h;obtain⟨y,G,e,E,_⟩:=h;simp only[List.cons.injEq]at e;rw[e.1];exact E
theorem VR_aggv{s:Sit}{vs:List V}{cs:Array Value}(h:VRs s vs (Value.agg cs).cells.toList):VR s (.agg vs) (.agg cs):=by
 unfold VR;exact⟨cs,rfl,h⟩
theorem calls_of_fn{P:Program}{conv:FuncId->Conv}{ext:Ext}(hm:P.follows .mixedOrders=true)(S:Ia P ext){f:FuncId}{args:List V}{E:List Value}{W:World}(Y:Kn (start W))(hv:VRs (start W) args E)(h:fn P conv ext f args=some (.sc (.bool true))) :
  Calls P f E.toArray W (fun e w'=>e= .returned (.bool true)/\Below W.heap.size W w'):=by
 unfold fn at h
 split at h
 .rename_i v G n J
  obtain⟨p,hp,e⟩:=AA h;obtain⟨_,_,Yu⟩:=mY hm S _ _ _ _ _ _ _ J;refine(Yu (start W) E (adP W Y) (fun _ _ _=>rfl) hv).mono ?_;rintro e' w' ⟨s',x,rfl,rfl,O⟩;refine⟨?_,O.Jc.below⟩;have:=aO O.inv depth v p.1 p.2 x _ hp O.vr (oW s' G p.2);rw[e]at this;unfold VR at this;rw[this.1]
 .cases h
end Go.TV
namespace Go.TV
variable [Known]
theorem nD{α β:Type}{P:Program}(m:Sem α)(f:α->Sem β):uI P (m>>=f)=(uI P m).bind fun a=>uI P (f a):=by
 show uI P (m.bind f)=_
 induction m with
 |pure a=>rfl
 |program k E=>exact E P
 |mark m k E=>exact E
 |_=>rfl
theorem Kq{α:Type}{P:Program}(a:α):uI P (pure a:Sem α)=some a:=rfl
theorem n_{P:Program}:uI P program=some P:=rfl
theorem MN{α:Type}{P:Program}(c:Prop)[Decidable c](a b:Sem α):uI P (if c then a else b)=if c then uI P a else uI P b:=by split<;>rfl
theorem o_{P:Program}{t:TypeId}{d:TypeDesc}(h:P.underlying t=some d):uI P (underlying t)=some d:=by
 unfold underlying;rw[nD,n_];simp only[zi,h];rfl
theorem o8{P:Program}(d:Nat)(t:TypeId)(k E:IntKind)(a b:Int)(h:P.underlying t=some (.int E)):uI P (Op.equalIn (d+1) t (.int k a) (.int k b))=some (a==b):=by
 unfold Op.equalIn;rw[nD,o_ h];simp only[zi,if_true];rfl
theorem Ii{P:Program}(d:Nat)(t:TypeId)(xs E:Array Value)(G:P.underlying t=some (.struct (P.fieldsOf t)))(hp:P.stoodInHeld t=false) :
  uI P (Op.equalIn (d+1) t (.agg xs) (.agg E))=uI P (Op.eqFields d xs E (P.fieldsOf t).toList):=by
 unfold Op.equalIn;rw[nD,o_ G];simp only[zi,nD,n_,hp,yJ,if_false,Kq];rw[<- Array.forIn_toList];generalize (P.fieldsOf t).toList=fs;clear G
 induction fs with
 |nil=>rfl
 |cons f fs J=>
  simp only[List.forIn_cons,Op.eqFields,nD,MN]
  split
  .cases uI P (part f.type xs f.offset)with
   |none=>rfl
   |some a=>
    cases uI P (part f.type E f.offset)with
    |none=>rfl
    |some b=>
     simp only[zi];cases uI P (Op.equalIn d f.type a b)with
     |none=>rfl
     |some r=>
      cases r
      .rfl
      .exact J
  .exact J
theorem o9 {P:Program} {d:Nat} {xs E:Array Value} {f:Field} {fs:List Field} {a b:Value} {r:Bool} (hn:f.name ≠ "_") (ha:uI P (part f.type xs f.offset) = some a) (hb:uI P (part f.type E f.offset) = some b) (G:uI P (Op.equalIn d f.type a b) = some r) :
  uI P (Op.eqFields d xs E (f :: fs))=if r=true then uI P (Op.eqFields d xs E fs)else some false:=by
 conv=>lhs;rw[Op.eqFields]
 rw[sH hn,nD,ha];simp only[zi,nD,hb,G,MN];cases r<;>rfl
theorem aai{P:Program}{t:TypeId}{x y:Operand}{cs G:List V}{us vs:List Value}{r:Bool}{fs:Array Field}(hm:P.eqGuardType P.depth t=false)(J:P.underlying t=some (.struct fs))(hp:P.stoodInHeld t=false)
  (hu:E5 cs=some us) (O:E5 G=some vs) (h:uI P (Op.eqFields 9999 us.toArray vs.toArray fs.toList)=some r):Aw P .eql t x y (.agg cs) (.agg G)=some (.sc (.bool r)):=by
 have E:P.fieldsOf t=fs:=by unfold Program.fieldsOf;rw[J]
 have S:uI P (eqGuard .eql t x y (.agg us.toArray) (.agg vs.toArray))=some ():=by
  unfold eqGuard;rw[sJ (by simp)];simp only[nD,n_,zi,hm,vU,if_true];rfl
 have Y:uI P (binOp .eql t (.agg us.toArray) (.agg vs.toArray))=some (Value.bool r):=by
  have h1:binOp .eql t (.agg us.toArray) (.agg vs.toArray)=(Op.equal t (.agg us.toArray) (.agg vs.toArray)>>=fun b=>pure (Value.bool b)):=by simp only[binOp]
  have h2:uI P (Op.equal t (.agg us.toArray) (.agg vs.toArray))=some r:=(Ii 9999 t _ _ (by rw[E];exact J) hp).trans (by rw[E];exact h);rw[h1,nD,h2];rfl
 simp only[Aw,toVal,hu,O,zG,nD,S,Y,zi];rfl
end Go.TV
namespace Go.TV
variable [Known]
open Go.RowKit
section
variable {P:Program} {conv:FuncId->Conv} {call:Call}
theorem RZ{t e:TypeId}{x y:Operand}{p:Option Addr}{len cap:Nat}(h:P.underlying t=some (.slice e))(w:World) :
  ((do eqGuard .eql t x y (.slice p len cap) (.slice none 0 0);binOp .eql t (.slice p len cap) (.slice none 0 0)):Sem Value).run P w= .ok (.bool p.isNone) w:=by
 refine dY _ ?_ w;rw[nD,eqGuard_at_slice];simp only[Kq,zi];have E:binOp .eql t (.slice p len cap) (.slice none 0 0)=(Op.equal t (.slice p len cap) (.slice none 0 0)>>=fun b=>pure (Value.bool b)):=by simp only[binOp]
 rw[E,nD];have G:uI P (Op.equal t (.slice p len cap) (.slice none 0 0))=some p.isNone:=by
  show uI P (Op.equalIn (9999+1) t _ _)=_;unfold Op.equalIn;rw[nD,o_ h];simp only[zi];cases p<;>rfl
 rw[G];rfl
theorem MO(hc:Dv P call)(hm:P.follows .mixedOrders=true){f:FuncId}{fn:Func}{A B C D:Code}{id t u:Nat}{o1:Oper}{ty yt E e:TypeId}{ps:String}{af:Array Edge}(hf:P.funcs[f]?=some fn)
  (hb:fn.body=some (.seq A (.seq (.seq (.region id #[o1,⟨some t,.binOp .eql ty (.tmp u) (.const (.slice none 0 0)) yt,E,ps,af,none⟩] false) (.cond (.tmp t) B C)) D)))
  (c6:P.underlying ty=some (.slice e)) {n:Nat} {args:List V}
  (b4:U3 fn (.seq A (.seq (.seq (.region id #[o1,⟨some t,.binOp .eql ty (.tmp u) (.const (.slice none 0 0)) yt,E,ps,af,none⟩] false) (.cond (.tmp t) B C)) D)) args.length=true)
  {σ σ':Store} {nx nx':Nat} {vs:List V} {st1:St} (hA:xI P conv call n A ⟨Dt args,σ,nx⟩=some (.norm,st1)) {T2:Nat->V}
  (hg:o1.guard=none) {v1:V} (h1:Az P conv call o1 st1.T st1.σ st1.nx=some (v1,st1.σ,st1.nx)) (c7:T2=CS st1.T o1.dst v1) {row:List V} {len:Nat} (hu:T2 u= .ts row len)
  (S:∀b:Bool,(b=true->row=[])->∃ex O,xI P conv call n (.seq (.cond (.tmp t) B C) D) ⟨upd T2 t (.sc (.bool b)),st1.σ,st1.nx⟩=some (ex,O)/\(ex= .norm\/ex= .ret)/\Ae P O.T O.σ fn.results.toList=some vs/\O.σ=σ'/\O.nx=nx') :
  Ee P f args σ nx (oneOf vs) σ' nx':=by
 unfold U3 at b4;simp only[zA,decide_eq_true_eq,vG]at b4;obtain⟨⟨b5,h7⟩,b3⟩:=b4;simp only[EJ,zA]at b3;obtain⟨c8,⟨c9,e0,e2⟩,e3⟩:=b3;have e4:=nY hc n A _ _ _ hA;obtain⟨h8,h9,e5,_,_,_,i0⟩:=S false (fun h=>by cases h);have i1:st1.nx<=nx':=by have:=nY hc n _ _ _ _ e5;simp only at this;omega
 have b8:∀o∈[o1,(⟨some t,.binOp .eql ty (.tmp u) (.const (.slice none 0 0)) yt,E,ps,af,none⟩:Oper)],∀d,o.dst=some d->d<fn.ntmps:=fun o ho d e6=>by
  have:=Array.all_eq_true'.1 c9 o (by simpa using ho);rw[e6]at this
  simpa using this
 refine⟨by simp only at e4;omega,⟨fn,hf,by rw[hb];rfl,b5⟩,fun s h6 hi e7 Y=>?_⟩;have hl:=rJ Y;refine calls_of_wp hf hb ?_;refine wp_seq (pF hc hm (nt:=fn.ntmps) (KI:=nx') (s0:=s) (Gt:=σ) (Gx:=nx) n A ⟨Dt args,σ,nx⟩ st1 .norm _ hA c8 (by omega) (fun s1 a1 b6=>?_) s _
  ⟨hi,abH Y _,by simp;omega,rfl,.refl s σ,.refl s nx nx,e7,zq _⟩)
 refine wp_seq (wp_seq (wp_region ?_));show wpOps P _ _ [0,1] a1 s1.w;have hw:∀(o:Oper) (tm:Array Value),o.guard=none->Region.wanted o (yielded #[o1,(⟨some t,.binOp .eql ty (.tmp u) (.const (.slice none 0 0)) yt,E,ps,af,none⟩:Oper)] tm)=true:=fun o tm h=>by unfold Region.wanted;rw[h]
 rw[wpOps_cons];unfold wpOp;rw[show(#[o1,(⟨some t,.binOp .eql ty (.tmp u) (.const (.slice none 0 0)) yt,E,ps,af,none⟩:Oper)])[0]?=some o1 from rfl];simp only[hw o1 _ hg,if_true];refine .inl (L9 hc h1 b6.inv b6.tr (fun i h1 h2=>absurd h2 (by omega)) fun s2 x2 e8=>?_);have a6:=b6.step e8 (zq _) (b8 o1 (by simp));rw[<- c7]at a6;generalize a1.put o1.dst x2=a2 at a6⊢;rw[wpOps_cons];unfold wpOp;rw[show(#[o1,(⟨some t,.binOp .eql ty (.tmp u) (.const (.slice none 0 0)) yt,E,ps,af,none⟩:Oper)])[1]?=some ⟨some t,.binOp .eql ty (.tmp u) (.const (.slice none 0 0)) yt,E,ps,af,none⟩from rfl];simp only[hw ⟨some t,.binOp .eql ty (.tmp u) (.const (.slice none 0 0)) yt,E,ps,af,none⟩ _ rfl,if_true];have hx:=a6.tr u;rw[hu]at hx;unfold VR at hx;obtain⟨p,cap,e9,_,b9⟩:=hx;refine .inl (ZU (w':=s2.w) (x:=.bool p.isNone) ?_ ?_)
 .have he:execOp a2.eval ⟨some t,.binOp .eql ty (.tmp u) (.const (.slice none 0 0)) yt,E,ps,af,none⟩=(do pure (.value (<- (do eqGuard .eql ty (.tmp u) (.const (.slice none 0 0)) (a2.tmps.getD u undef) (.slice none 0 0);binOp .eql ty (a2.tmps.getD u undef) (.slice none 0 0)))):Sem Next):=rfl
  rw[he,e9];simp only[Sem.run_bind,Sem.run_pure];have:=RZ (P:=P) (x:=.tmp u) (y:=.const (.slice none 0 0)) (p:=p) (len:=len) (cap:=cap) c6 s2.w;simp only[Sem.run_bind]at this;rw[this];rfl
 .obtain⟨ex,O,J,hex,c0,h0,b2⟩:=S p.isNone (fun hp=>by
   rcases b9 with h|⟨k,o,h,_⟩
   .exact h
   .rw[h]at hp;cases hp)
  have G:Yy fn.ntmps nx' s σ nx (upd T2 t (.sc (.bool p.isNone))) st1.σ st1.nx s2 (a2.put (some t) (.bool p.isNone)) :=
   a6.step (Out.same a6.inv (by unfold VR;exact⟨rfl,rfl⟩)) (zq _) (b8 ⟨some t,.binOp .eql ty (.tmp u) (.const (.slice none 0 0)) yt,E,ps,af,none⟩ (by simp))
  simp only[wpOps];show Code.wp P (Code.cond (.tmp t) B C) _ _ _;have fin:∀s3 a3,Yy fn.ntmps nx' s σ nx O.T O.σ O.nx s3 a3->bodyPost P fn (fun e w'=>∃s' x,s'.w=w'/\e= .returned x/\Out s σ nx s' (oneOf vs) x σ' nx') (Ru ex) a3 s3.w:=fun s3 a3 G=>by
   obtain⟨xs,g1,g2⟩:=fG G.inv G.tr fn.results.toList vs c0;have c2:(results fn a3.tmps).run P s3.w= .ok (if h:xs.toArray.size=1 then xs.toArray[0]else .tuple xs.toArray) s3.w:=by
    rw[Me];have e1:fn.results=fn.results.toList.toArray:=by simp
    rw[e1,List.mapM_toArray];simp only[Sem.run_bind,Sem.run_map,g1,Result.andThen_ok,Sem.run_pure]
   have a7:bodyPost P fn (fun e w'=>∃s' x,s'.w=w'/\e= .returned x/\Out s σ nx s' (oneOf vs) x σ' nx') .normal a3 s3.w:=by
    subst h0 b2;exact⟨G.defers,_,c2,s3,_,rfl,rfl,⟨Va g2,G.inv,G.Jc,G.dom⟩⟩
   rcases hex with rfl|rfl
   .exact a7
   .exact a7
  simp only[xI]at J;have c3:EJ fn.ntmps (Code.cond (.tmp t) B C)=true:=by simp only[EJ,zA];exact⟨e0,e2⟩
  have a8:∀st e c4,(match val (St.T st) (.tmp t)with| .sc (.bool true)=>xI P conv call n B st| .sc (.bool false)=>xI P conv call n C st|_=>none)=some (e,c4)->xI P conv call n (.cond (.tmp t) B C) st=some (e,c4):=fun _ _ _ h=>h
  split at J
  .rename_i c5 h3
   have h4:=nY hc n D _ _ _ J;refine pF hc hm (KI:=nx') n (.cond (.tmp t) B C) ⟨upd T2 t (.sc (.bool p.isNone)),st1.σ,st1.nx⟩ c5 .norm _ (a8 _ _ _ h3) c3 (zU h4 (Nat.le_of_eq b2)) (fun s3 a3 b7=>?_) s2 _ G;exact pF hc hm (KI:=nx') n D c5 O ex _ J e3 (Nat.le_of_eq b2) fin s3 a3 b7
  .rename_i r h5
   refine pF hc hm (KI:=nx') n (.cond (.tmp t) B C) ⟨upd T2 t (.sc (.bool p.isNone)),st1.σ,st1.nx⟩ O ex _ (a8 _ _ _ J) c3 (Nat.le_of_eq b2) (fun s3 a3 b7=>?_) s2 _ G;cases ex with
   |norm=>exact absurd J (h5 O)
   |exit id=>rcases hex with h|h<;>cases h
   |ret=>exact fin s3 a3 b7
end
instance (priority:=low) apY:Known:=⟨[]⟩
end Go.TV
/- strings.Join as the shelf's contract tells it. -/
namespace Go.TV
open Go.RowKit
set_option linter.unusedVariables false
variable [Known]
def strs:List V->Option (List ByteArray)
 |[]=>some []
 | .sc (.string x) :: r=>(strs r).map (x :: ·)
 |_ :: _=>none
def PU(xs:List ByteArray)(sep:ByteArray):ByteArray:=⟨(Lib.join (xs.map (·.data.toList)) sep.data.toList).toArray⟩
def af9:List V->Store->Nat->Option (V×Store×Nat)
 |[.ts row len,.sc (.string sep)],σ,nx=>match strs row with
  |some xs=>if xs.length=len/\len<=140737488355328/\(PU xs sep).size<=140737488355328 then some (.sc (.string (PU xs sep)),σ,nx)else none
  |none=>none
 |_,_,_=>none
theorem af_(xs:List ByteArray)(sep:ByteArray):(PU xs sep).size=(Lib.join (xs.map (·.data.toList)) sep.data.toList).length:=by
 show(List.toArray _).size=_;exact wE
theorem adQ{v:V}{r:List V}{xs:List ByteArray}(h:strs (v :: r)=some xs):∃x E,v= .sc (.string x)/\strs r=some E/\xs=x :: E:=by
 unfold strs at h
 split at h
 .rename_i e;cases e
 .rename_i x r' e
  cases e;cases G:strs r with
  |none=>rw[G]at h;cases h
  |some E=>rw[G]at h;cases h;exact⟨x,E,rfl,rfl,rfl⟩
 .cases h
theorem VY{s:Sit}{k:Nat}:∀ {row:List V} {xs:List ByteArray} {o:Nat},strs row=some xs->DY s row k o->∀(j:Nat) x,xs[j]?=some x->s.w.cell? ⟨k,o+j,none⟩=some (.string x)
 |[],xs,o,h,_,j,x,hj=>by cases h;simp at hj
 |v :: r,xs,o,h,hr,j,x,hj=>by
  obtain⟨y,O,rfl,G,rfl⟩:=adQ h;unfold DY at hr;obtain⟨_,⟨c,hc,E⟩,J⟩:=hr;unfold VR at E;cases j with
  |zero=>
   have:y=x:=by simpa using hj
   subst this;rw[uN,hc,E.1]
  |succ j=>
   have:=VY G J j x (by simpa using hj);rw[show o+(j+1)=o+1+j by omega];exact this
theorem aaj{P:Program}{ρ:Go.Shelf.Ren}(L:Go.Proofs.Lays.n156 P ρ)(X:Go.Proofs.Builder.Extra P ρ){f:FuncId}(hf:ρ.f 156=f)(G:callable P f)(args:List V)(σ:Store)(nx:Nat)(v:V)(σ':Store)(nx':Nat)(h:af9 args σ nx=some (v,σ',nx')):Ee P f args σ nx v σ' nx':=by
 subst hf;unfold af9 at h
 split at h
 .rename_i _ _ row len sep
  split at h
  .rename_i xs J
   split at h
   .rename_i hc
    obtain⟨hl,h1,h2⟩:=hc;subst hl;simp only[sO,sN]at h;obtain⟨rfl,rfl,rfl⟩:=h;refine⟨zq _,G,fun s a6 hi a7 ha=>?_⟩;unfold VRs at ha;obtain⟨x1,ys,rfl,O,ha⟩:=ha;unfold VRs at ha;obtain⟨x2,zs,rfl,S,hz⟩:=ha;unfold VRs at hz;subst hz;unfold VR at O S;obtain⟨a,cap,rfl,Y,E⟩:=O;obtain⟨rfl,-⟩:=S;have hv:∀s:Sit,VR s (.sc (.string (PU xs sep))) (.string (PU xs sep)):=fun s=>by unfold VR;exact⟨rfl,rfl⟩
    rcases E with rfl|⟨k,o,rfl,E⟩
    .cases J
     exact(Go.Proofs.Any.strings_Join_none L X a cap sep s.w).mono fun e w' ⟨he,hw⟩=>⟨s,_,hw.symm,he,Out.same hi (hv s)⟩
    .cases row with
     |nil=>
      cases J;exact(Go.Proofs.Any.strings_Join_none L X _ cap sep s.w).mono fun e w' ⟨he,hw⟩=>⟨s,_,hw.symm,he,Out.same hi (hv s)⟩
     |cons v0 r0=>
      have hk:k<s.w.heap.size:=by
       have h3:=E;unfold DY at h3;exact hi.zb k o h3.1
      have a1:(Lib.join (xs.map (·.data.toList)) sep.data.toList).length<=140737488355328:=by
       have:(PU xs sep).size=(Lib.join (xs.map (·.data.toList)) sep.data.toList).length:=af_ xs sep;omega
      refine(Go.Proofs.Any.strings_Join L X k o cap xs sep s.w (fun j x hj=>?_) hk h1 Y a1).mono fun e w' ⟨he,hb⟩=>?_
      .exact VY (s:=s.nb) J E j x hj
      .obtain⟨_,h5,h6⟩:=hi.grow hb
       exact⟨{ s with w:=w' },_,rfl,he,hv _,h5,h6,fun _ hd=> .inl hd⟩
   .cases h
  .cases h
 .cases h
end Go.TV
namespace Go.TV
structure Joint where
 name:ByteArray
 x:Int
 y:Int
 fixed:Bool
structure Member where
 a:Int
 b:Int
 kind:Int
structure Structure where
 joints:List Joint
 members:List Member
structure Stance where
 name:ByteArray
 st:Structure
 load:List Int
 limits:List Int
structure Move where
 fr:Int
 to:Int
structure Yard where
 stances:List Stance
 moves:List Move
 strict:Bool
abbrev cI(n:Int):List V:=[I n]
abbrev cJoint(j:Joint):List V:=[Sg j.name,I j.x,I j.y,Bo j.fixed]
abbrev cMember(m:Member):List V:=[I m.a,I m.b,I m.kind]
abbrev LL{α:Type}(c:α->List V)(xs:List α):V:=.ts (xs.flatMap c) xs.length
abbrev LI(xs:List Int):V:=.ts (xs.flatMap cI) xs.length
abbrev cStructure(s:Structure):List V:=[LL cJoint s.joints,LL cMember s.members]
abbrev cStance(t:Stance):List V:=[Sg t.name,LL cJoint t.st.joints,LL cMember t.st.members,LI t.load,LI t.limits]
abbrev cMove(m:Move):List V:=[I m.fr,I m.to]
abbrev cYard(y:Yard):List V:=[LL cStance y.stances,LL cMove y.moves,Bo y.strict]
def okI(n:Int):Prop:=(Lit.int .i64 n).wf=true
def okS(s:ByteArray):Prop:=s.size<=140737488351232
def okL{α:Type}(B:Nat)(ok:α->Prop)(xs:List α):Prop:=(∀x∈xs,ok x)/\xs.length*B<=140737488351232/\xs.length<=maxLen
def okJoint(j:Joint):Prop:=okS j.name/\okI j.x/\okI j.y/\True
def okMember(m:Member):Prop:=okI m.a/\okI m.b/\okI m.kind
def okStructure(s:Structure):Prop:=okL 40 okJoint s.joints/\okL 24 okMember s.members
def okStance(t:Stance):Prop:=okS t.name/\okStructure t.st/\okL 8 okI t.load/\okL 8 okI t.limits
def okMove(m:Move):Prop:=okI m.fr/\okI m.to
def okYard(y:Yard):Prop:=okL 112 okStance y.stances/\okL 16 okMove y.moves/\True
end Go.TV
namespace Go.TV
theorem m_{P:Program}{conv:FuncId->Conv}{ext:Ext}(f:FuncId)(ts:List V):fn P conv ext f ts=(ev P conv ext f ts lI 0).bind fun q=>(strip q.2.1 depth q.1).map (·.1):=by
 unfold fn;cases ev P conv ext f ts lI 0 with
 |none=>rfl
 |some q=>rfl
section
variable (v:Value) (row:List V) (a b c:Nat) (f:FuncId) (vs:List V)
theorem adR:qI (.sc v)=true:=id rfl
theorem aak:qI .nil=true:=id rfl
theorem adS:qI (.tp row a)=true:=id rfl
theorem adT:qI (.ts row a)=true:=id rfl
theorem adU:qI (.rp a b)=true:=id rfl
theorem adV:qI (.rs a b c)=true:=id rfl
theorem aal:qI (.clo f vs)=true:=id rfl
theorem adW:cellsOfV (.agg vs)=some vs:=id rfl
theorem af':cellsOfV (.sc v)=some [.sc v]:=id rfl
theorem adX:cellsOfV .nil=some [.nil]:=id rfl
theorem aga:cellsOfV (.tp row a)=some [.tp row a]:=id rfl
theorem agb:cellsOfV (.ts row a)=some [.ts row a]:=id rfl
theorem agc:cellsOfV (.rp a b)=some [.rp a b]:=id rfl
theorem agd:cellsOfV (.rs a b c)=some [.rs a b c]:=id rfl
theorem adY:cellsOfV (.clo f vs)=some [.clo f vs]:=id rfl
theorem MP(pl:Nat->Option (Nat×Nat))(cells:List V):CB pl cells []=some cells:=rfl
theorem Jq(pl:Nat->Option (Nat×Nat))(cells:List V)(i:Nat)(v:V)(rest:List (Nat×V)):CB pl cells ((i,v) :: rest)=(pl i).bind fun p=>(cellsOfV v).bind fun vs=>if vs.length=p.2/\p.1+vs.length<=cells.length then CB pl (patch cells p.1 vs) rest else none:=by
 show(match pl i,cellsOfV v with|some (off,size),some vs=>_|_,_=>none)=_;cases pl i<;>cases cellsOfV v<;>rfl
theorem iG(cells:List V)(off:Nat)(v:V):patch cells off [v]=cells.set off v:=rfl
theorem adZ(u:V)(cells:List V)(off:Nat):patch (u :: cells) off []=(u :: cells).take off++[]++(u :: cells).drop (off+0):=rfl
theorem Jr(u:V)(cells:List V)(off:Nat)(v w:V)(vs:List V):patch (u :: cells) off (v :: w :: vs)=(u :: cells).take off++(v :: w :: vs)++(u :: cells).drop (off+(v :: w :: vs).length):=rfl
end
attribute [go_sem] adR aak adS adT adU adV aal adW af' adX aga agb agc agd adY MP Jq iG adZ Jr
attribute [go_sem] depth zC zK vg Aq uf List.set_cons_succ zH wR xu Nat.reduceAdd Nat.reduceLT Nat.reduceLeDiff uH uw yX uN yY List.drop_succ_cons List.take_succ_cons List.take_zero Nat.reduceMul uX Nat.one_mul yQ BG
end Go.TV
namespace Go.TV
section
variable {α:Type} {c:α->List V} {s:Nat}
theorem bZ(hc:∀x,(c x).length=s)(xs:List α):(xs.flatMap c).length=xs.length*s:=by
 induction xs with
 |nil=>simp
 |cons x xs E=>rw[zK,zo,E,hc,zH,xk,wG]
theorem PV(hc:∀x,(c x).length=s)(xs:List α)(k:Nat):(xs.flatMap c).drop (k*s)=(xs.drop k).flatMap c:=by
 induction xs generalizing k with
 |nil=>simp
 |cons x xs E=>
  cases k with
  |zero=>simp
  |succ k=>
   rw[zK,xk,wG,<- List.drop_drop];rw[show s=(c x).length from(hc x).symm,List.drop_left,hc x,E,List.drop_succ_cons]
theorem d_(hc:∀x,(c x).length=s)(xs:List α)(k:Nat)(h:k<xs.length):((xs.flatMap c).drop (k*s)).take s=c xs[k]:=by
 rw[PV hc,yN h,zK,show s=(c xs[k]).length from(hc _).symm,List.take_left]
theorem cu(c:α->V)(xs:List α)(k:Nat)(h:k<xs.length):(xs.flatMap fun x=>[c x])[k]?=some (c xs[k]):=by
 induction xs generalizing k with
 |nil=>cases h
 |cons x xs E=>
  cases k with
  |zero=>rfl
  |succ k=>exact E k (by simpa using h)
theorem bg(hc:∀x,(c x).length=s)(hs:0<s)(xs:List α)(k:Nat)(h:k<xs.length):xs.flatMap c≠[]:=by
 intro e;have:=bZ hc xs;rw[e]at this;have E:0<xs.length*s:=Nat.mul_pos (by omega) hs;simp at this;omega
theorem fO(n:Nat)(z:List V):(rep n z).length=n*z.length:=by simp[rep]
theorem fM(n:Nat)(z:List V):rep (n+1) z=z++rep n z:=by simp[rep,xO]
theorem ay(f:V->Option (V×List Nat))(a b:List V)(ha:stripL f a=some (a,[]))(hb:stripL f b=some (b,[])):stripL f (a++b)=some (a++b,[]):=by
 induction a with
 |nil=>exact hb
 |cons v a ih=>
  rw[ah]at ha;rw[yT,ah];cases G:f v with
  |none=>rw[G]at ha;cases ha
  |some p=>
   rw[G]at ha;cases E:stripL f a with
   |none=>rw[E]at ha;cases ha
   |some q=>
    rw[E]at ha;simp only[zi,zG,sO,sN,List.cons.injEq,List.append_eq_nil_iff]at ha;obtain⟨⟨J,O⟩,S,Y⟩:=ha;obtain⟨p1,p2⟩:=p;obtain⟨q1,q2⟩:=q;simp only at J O S Y;subst J O S Y;rw[ih E];simp
theorem aW{f:V->Option (V×List Nat)}(h:∀x,stripL f (c x)=some (c x,[]))(xs:List α):stripL f (xs.flatMap c)=some (xs.flatMap c,[]):=by
 induction xs with
 |nil=>rfl
 |cons x xs E=>rw[zK];exact ay f _ _ (h x) E
end
section
variable {P:Program} {t:TypeId} {x y:Operand}
theorem ajN{a b:ByteArray}:Aw P .eql t x y (.sc (.string a)) (.sc (.string b))=some (.sc (.bool (a.toList==b.toList))):=by
 simp only[Aw,toVal,eqGuard_at_string,binOp_string_eql];rfl
theorem ajO{a b:ByteArray}:Aw P .neq t x y (.sc (.string a)) (.sc (.string b))=some (.sc (.bool !(a.toList==b.toList))):=by
 simp only[Aw,toVal,eqGuard_at_string,binOp_string_neq];rfl
theorem nC{a b:Bool}(h:P.underlying t=some .bool)(f:Bool->Value):uI P ((Op.equal t (.bool a) (.bool b)).bind fun r=>pure (f r))=some (f (a==b)):=by
 show uI P ((Op.equalIn (9999+1) t _ _).bind fun r=>pure (f r))=_;unfold Op.equalIn underlying;show uI P (.program fun p=>_)=_;simp only[uI];have pb:∀ {β E:Type} (a:β) (f:β->Sem E),(Sem.pure a).bind f=f a:=fun _ _=>rfl
 have G:∀ {β E:Type} (a:β) (f:β->Sem E),(pure a:Sem β).bind f=f a:=fun _ _=>rfl
 simp only[h,pb,G];rfl
theorem ajP{a b:Bool}(h:P.underlying t=some .bool):Aw P .eql t x y (.sc (.bool a)) (.sc (.bool b))=some (.sc (.bool (a==b))):=by
 simp only[Aw,toVal,eqGuard_at_bool,pure_bind,binOp];first|(erw[nC h (fun r=> .bool r)];rfl)|(erw[nC h (fun r=> .bool !r)];rfl)
theorem ajQ{a b:Bool}(h:P.underlying t=some .bool):Aw P .neq t x y (.sc (.bool a)) (.sc (.bool b))=some (.sc (.bool !(a==b))):=by
 simp only[Aw,toVal,eqGuard_at_bool,pure_bind,binOp];first|(erw[nC h (fun r=> .bool r)];rfl)|(erw[nC h (fun r=> .bool !r)];rfl)
end
attribute [go_sem] ajN ajO ajP ajQ bne_self_eq_false BEq.rfl
theorem oZ{body:St->Option (Ex×St)}{G:St}{x:Option (Ex×St)}(S:dI body G=x)(N:Nat)(J:Nat->St->Prop)(post:Ex×St->Prop)
  (step:∀k st,k<N->J k st->(∃E,body st=some (.norm,E)/\J (k+1) E)\/(∃r,body st=some r/\(∀s,r≠(.norm,s))/\post r))
  (last:∀st,J N st->∃r,body st=some r/\(∀s,r≠(.norm,s))/\post r) (h0:J 0 G):∃r,x=some r/\post r:=by
 refine jQ S (fun n st=>n<=N/\J (N-n) st) post ?_ N ⟨zq _,by rwa [yP]⟩;rintro n st ⟨hn,O⟩;cases n with
 |zero=>exact .inr (last st O)
 |succ n=>
  rcases step _ st (by omega) O with ⟨E,Y,h2⟩|h
  .exact .inl ⟨E,Y,n,by omega,by omega,by rwa [show N-n=N - (n+1)+1 by omega]⟩
  .exact .inr h
theorem Zj{α:Type}(σ:Nat->α)(b:Nat)(x y:α):upd (upd σ b x) b y=upd σ b y:=by
 funext i;unfold upd
 split<;>rfl
theorem ani:(false==true)=false:=id rfl
theorem anj:(true==false)=false:=id rfl
attribute [go_sem] ani anj Option.map_none Zj List.isEmpty_nil Int.cast_ofNat_Int zJ
theorem VZ{P:Program}{t:TypeId}{lo hi:Option V}{σ:Store}(h:(vI P t).slice=true)(E:(vI P t).Rz=true):AP P t .nil lo hi none σ=(bnd lo 0).bind fun l=>(bnd hi 0).bind fun h=>if l<=h/\h<=0 then some .nil else none:=by
 obtain⟨e,O,z,G,J,S,Y,h5,h6,h7⟩:=Zn h E;unfold AP;simp only[G,J];cases bnd lo 0<;>cases bnd hi 0<;>rfl
theorem ajR(σ:Store)(s:Nat):rowOf σ s .nil=some ([],0):=rfl
theorem ank(σ:Store)(s:Nat)(row:List V)(len:Nat):rowOf σ s (.ts row len)=if row.length=len*s then some (row,len)else none:=rfl
theorem anl(σ:Store)(s b off len:Nat):rowOf σ s (.rs b off len)=(σ b).bind fun B=>if off+len*s<=B.cells.length then some ((B.cells.drop off).take (len*s),len)else none:=by
 show(match σ b with|some B=>_|none=>none)=_;cases σ b<;>rfl
theorem qx(σ:Store)(nx size bytes:Nat)(row:List V)(m:Nat):Ag σ nx size bytes .nil row m=if m=0 then some (.nil,σ,nx)else if m<=maxLen/\m*bytes<=140737488355328 then some (.rs nx 0 m,Aq σ nx row size,nx+1)else none:=rfl
theorem rC{σ:Store}{nx bytes b len m:Nat}{B:FT}{row:List V}(hb:σ b=some B)(E:B.cells.length=len)(hs:B.st=1)(hm:m≠0)(G:len+m<=maxLen)(J:(len+m)*bytes<=140737488355328)(O:row.all qI=true) :
  Ag σ nx 1 bytes (.rs b 0 len) row m=some (.rs nx 0 (len+m),upd (upd σ b none) nx (some ⟨B.cells++row,1,B.wr⟩),nx+1):=by
 unfold Ag;simp only[hb,hm,if_false,E,hs,G,J,O];rw[sJ (by omega),sH (by simp)];simp
theorem R_:¬(1000000000:Int)=0:=by decide
attribute [go_sem] R_
theorem iV{P:Program}{conv:FuncId->Conv}{call:Call}(d:Option Tmp)(ty:TypeId)(ps:String)(E:Array Edge)(G:Option (Nat×Bool))(T:Nat->V)(σ:Store)(nx:Nat)(t:TypeId)(h:(vI P t).slice=true)(J:(vI P t).Rz=true):Az P conv call ⟨d,.buildSlice t 0 #[],ty,ps,E,G⟩ T σ nx=some (.nil,σ,nx):=by
 rw[iW d ty ps E G T σ nx t 0 #[] (by rfl)];have:=ng (P:=P) (t:=t) (len:=0) (parts:=([]:List (Nat×V))) (σ:=σ) (nx:=nx) h J
 simpa using this
theorem iU{P:Program}{conv:FuncId->Conv}{call:Call}(d:Option Tmp)(ty:TypeId)(ps:String)(G:Array Edge)(J:Option (Nat×Bool))(T:Nat->V)(σ:Store)(nx:Nat)(t:TypeId)(x:Operand)(h:(vI P t).slice=true)(S:(vI P t).Rz=true)(hs:(vI P t).GR=1)(Y:(vI P t).D_.length=1)(hc:qI (val T x)=true) :
  Az P conv call ⟨d,.buildSlice t 1 #[(0,x)],ty,ps,G,J⟩ T σ nx=some (.rs nx 0 1,upd σ nx (some ⟨[val T x],1,true⟩),nx+1):=by
 rw[iW d ty ps G J T σ nx t 1 _ (by rfl),ng h S,sJ (by decide),hs,sH (by decide)];have hv:cellsOfV (val T x)=some [val T x]:=by generalize val T x=v at *;cases v<;>simp_all [cellsOfV,qI]
 have O:(rep 1 (vI P t).D_).length=1:=by rw[fO,Y]
 have E:(rep 1 (vI P t).D_).set 0 (val T x)=[val T x]:=by
  generalize rep 1 (vI P t).D_=l at *
  match l,O with
  |[a],_=>rfl
 show(match CB (fun j=>some (j*1,1)) (rep 1 (vI P t).D_) [(0,val T x)]with|some cells=>some (V.rs nx 0 1,Aq σ nx cells 1,nx+1)|none=>none)=_;rw[Jq];simp only[zi,hv,yL,O,uX,yX,zq,and_self,if_true,iG,E,MP];rfl
attribute [go_sem] iV iU VZ ajR ank anl qx Nat.sub_zero List.isEmpty_cons
def Grow(T:Nat->V)(σ:Store)(nx t:Nat)(acc:List Int):Prop:=(T t= .nil/\acc=[])\/∃b,T t= .rs b 0 acc.length/\acc≠[]/\σ b=some ⟨acc.flatMap cI,1,true⟩/\b<nx
theorem ig:1<=maxLen:=by decide
attribute [go_sem] ig
theorem qL(xs:List Int):(xs.flatMap cI).length=xs.length:=by rw[bZ (c:=cI) (s:=1) (fun _=>rfl),yQ]
theorem kQ{T:Nat->V}{σ:Store}{nx t:Nat}{acc:List Int}(G:Grow T σ nx t acc)(x:Int)(S:acc.length<17592186044415) :
  ∃σ',Ag (upd σ nx (some ⟨[I x],1,true⟩)) (nx+1) 1 8 (T t) [I x] 1=some (.rs (nx+1) 0 (acc.length+1),σ',nx+1+1)/\σ' (nx+1)=some ⟨(acc++[x]).flatMap cI,1,true⟩:=by
 have hm:acc.length+1<=maxLen:=by unfold maxLen;omega
 rcases G with ⟨E,rfl⟩|⟨b,E,J,hb,O⟩
 .refine⟨_,by rw[E,qx,sJ (by decide),sH (by decide)];rfl,?_⟩
  simp[Aq,upd]
 .refine⟨_,by rw[E,rC (B:=⟨acc.flatMap cI,1,true⟩) (by rw[Zm];exact hb) (qL acc) rfl (by decide) hm (by omega) rfl],?_⟩
  simp[upd]
theorem kN{T:Nat->V}{σ':Store}{nx t:Nat}{acc:List Int}(h:σ' (nx+1)=some ⟨acc.flatMap cI,1,true⟩)(G:T t= .rs (nx+1) 0 acc.length)(E:acc≠[]):Grow T σ' (nx+1+1) t acc:=.inr ⟨nx+1,G,E,h,by omega⟩
theorem kP{T T':Nat->V}{σ:Store}{nx t E:Nat}{acc:List Int}(h:T' E=T t)(G:Grow T σ nx t acc):Grow T' σ nx E acc:=by
 unfold Grow at *;rw[h];exact G
theorem V3(f:V->Option (V×List Nat))(h:∀n,f (I n)=some (I n,[]))(xs:List Int):stripL f (xs.flatMap cI)=some (xs.flatMap cI,[]) :=
 aW (fun x=>by rw[ah,h,aX];rfl) xs
theorem kM{T:Nat->V}{σ:Store}{nx t:Nat}{acc:List Int}(G:Grow T σ nx t acc)(d:Nat):∃ids,strip σ (d+1) (T t)=some (LI acc,ids):=by
 rcases G with ⟨E,rfl⟩|⟨b,E,J,hb,O⟩
 .exact⟨[],by rw[E,aS];rfl⟩
 .refine⟨[b],?_⟩
  .rw[E,aQ,hb]
   simp only[zi,qL,yQ,yX,zq,if_true,yY];rw[zl (by rw[qL];exact zq _),V3 _ (fun n=>aP _ _ _)];rfl
theorem qH(xs:List Int):(xs.flatMap cI).take xs.length=xs.flatMap cI:=zl (by rw[qL];exact zq _)
theorem CZ(σ:Store)(d:Nat)(xs:List Int):stripL (strip σ d) (xs.flatMap cI)=some (xs.flatMap cI,[]):=V3 _ (fun n=>aP _ _ _) xs
theorem qM(xs:List Int):(xs.flatMap cI).all qI=true:=by
 induction xs with
 |nil=>rfl
 |cons x xs E=>rw[zK];simp[qI]
attribute [go_sem] xA qL qH CZ qM zq
theorem MQ{P:Program}{conv:FuncId->Conv}{call:Call}(d:Option Tmp)(ty:TypeId)(ps:String)(G:Array Edge)(J:Option (Nat×Bool))(T:Nat->V)(σ:Store)(nx:Nat)(t:TypeId)(x y z:Operand)(h:(vI P t).slice=true)(O:(vI P t).Rz=true)(hs:(vI P t).GR=1)(S:(vI P t).D_.length=1)(Y:qI (val T x)=true)(hy:qI (val T y)=true)(hw:qI (val T z)=true) :
  Az P conv call ⟨d,.buildSlice t 3 #[(0,x),(1,y),(2,z)],ty,ps,G,J⟩ T σ nx=some (.rs nx 0 3,upd σ nx (some ⟨[val T x,val T y,val T z],1,true⟩),nx+1):=by
 rw[iW d ty ps G J T σ nx t 3 _ (by rfl),ng h O,sJ (by decide),hs,sH (by decide)];have E:∀v,qI v=true->cellsOfV v=some [v]:=by intro v E;cases v<;>simp_all [cellsOfV,qI]
 have hr:(rep 3 (vI P t).D_).length=3:=by rw[fO,S]
 obtain⟨a,b,c,e⟩:∃a b c,rep 3 (vI P t).D_=[a,b,c]:=by
  generalize rep 3 (vI P t).D_=l at *
  match l,hr with
  |[a,b,c],_=>exact⟨a,b,c,rfl⟩
 show(match CB (fun j=>some (j*1,1)) (rep 3 (vI P t).D_) [(0,val T x),(1,val T y),(2,val T z)]with|some cells=>some (V.rs nx 0 3,Aq σ nx cells 1,nx+1)|none=>none)=_;rw[e];simp[Jq,MP,E _ Y,E _ hy,E _ hw,iG,Aq]
attribute [go_sem] MQ
theorem agf{P:Program}(T:Nat->V)(σ:Store)(t:Tmp)(r:ResultVar)(rs:List ResultVar):Ae P T σ (.tmp t :: r :: rs)=(Ae P T σ (r :: rs)).map fun vs=>T t :: vs:=by
 rw[Ae];cases Ae P T σ (r :: rs)<;>rfl
theorem ad1{P:Program}(T:Nat->V)(σ:Store)(a:Tmp)(t:TypeId)(r:ResultVar)(rs:List ResultVar):Ae P T σ (.cell a t :: r :: rs)=(AV P σ t (T a)).bind fun v=>(Ae P T σ (r :: rs)).map fun vs=>v :: vs:=by
 rw[Ae];cases AV P σ t (T a)<;>cases Ae P T σ (r :: rs)<;>rfl
attribute [go_sem] agf ad1
theorem Si{P:Program}{s e:TypeId}{G E k:IntKind}{n:Int}{σ:Store}(hs:P.underlying s=some (.int G))(J:P.underlying e=some (.int E)):BZ P s e (.sc (.int k n)) σ=some (.sc (.int E (E.wrap n))):=by
 have h:uI P (convert s e (.int k n))=some (.int E (E.wrap n)):=by
  unfold convert;rw[nD,o_ hs];simp only[zi];rw[nD,o_ J];rfl
 simp only[BZ,toVal,h,zi];rfl
theorem ZR{n:Int}(J:0<=n)(O:n<=18446744073709551615):IntKind.u64.wrap n=n:=by
 unfold IntKind.wrap;have E:IntKind.u64.signed=false:=by decide
 have G:IntKind.u64.bits=64:=by decide
 simp only[E,G,ug];rw[sJ (by simp)];omega
section
variable {P:Program} {t:TypeId} {x y:Operand}
theorem anm{k E:IntKind}{a n:Int}(h:¬n<0):Aw P .shr t x y (.sc (.int k a)) (.sc (.int E n))=some (.sc (.int k (a.fdiv (2^min n.toNat k.bits)))):=by
 have hs:Op.shift .shr k a E n=(pure (.int k (a.fdiv (2^min n.toNat k.bits))):Sem Value):=by
  unfold Op.shift;rw[sJ h]
 simp only[Aw,toVal,eqGuard_at_int,binOp_shr,hs];rfl
end
attribute [go_sem] anm
def ajS:V->Bool
 | .sc _=>true
 |_=>false
theorem ajT(v:Value):ajS (.sc v)=true:=id rfl
theorem V6{P:Program}{conv:FuncId->Conv}{call:Call}(d:Option Tmp)(ty:TypeId)(ps:String)(G:Array Edge)(J:Option (Nat×Bool))(T:Nat->V)(σ:Store)(nx:Nat)(s e:TypeId)(x:Operand)(E:ajS (val T x)=true) :
  Ah P conv call ⟨d,.convert s e x,ty,ps,G,J⟩ T σ nx=(BZ P s e (val T x) lI).map (·,σ,nx):=by
 obtain⟨u,hu⟩:∃u,val T x= .sc u:=by
  cases O:val T x<;>rw[O]at E<;>first|exact⟨_,rfl⟩|cases E
 refine iY T σ nx (by show some (wI (val T x))=some [];rw[hu];rfl) fun σ=>?_
 show(BZ P s e (val T x) σ).map _=_;rw[hu];rfl
attribute [go_sem] ajT V6
theorem bC{b:Option (Ex×St)}{J:St->Prop}{post:Ex×St->Prop}(h:∃x,b=some x/\((∃E,x=(.norm,E)/\J E)\/((∀s,x≠(.norm,s))/\post x))):(∃E,b=some (.norm,E)/\J E)\/(∃r,b=some r/\(∀s,r≠(.norm,s))/\post r):=by
 obtain⟨x,rfl,⟨E,rfl,h⟩|⟨G,O⟩⟩:=h
 .exact .inl ⟨E,rfl,h⟩
 .exact .inr ⟨x,rfl,G,O⟩
theorem ajU{P:Program}{conv:FuncId->Conv}{call:Call}{d:Option Tmp}{ty:TypeId}{ps:String}{E:Array Edge}{G:Option (Nat×Bool)}{T:Nat->V}{σ:Store}{nx:Nat}{g:FuncId}(h:conv g= .inl)(args:Array Operand)(ts:Array TypeId) :
  Ah P conv call ⟨d,.call ⟨.value (.func g),args,ts⟩,ty,ps,E,G⟩ T σ nx=if(((args.toList.map (val T)).flatMap D9).all fun b=>decide (b<nx))=true then
   (call g (args.toList.map (val T)) (restrict σ ((args.toList.map (val T)).flatMap D9)) nx).map fun r=>(r.1,Aa ((args.toList.map (val T)).flatMap D9) nx r.2.2 σ r.2.1,r.2.2)else none:=by
 have J:Dc conv T σ (⟨d,.call ⟨.value (.func g),args,ts⟩,ty,ps,E,G⟩:Oper)=some ((args.toList.map (val T)).flatMap D9):=by
  simp only[Dc,val,h,vg,zC]
 rw[nN T σ nx J (fun v=>by simp only[keeps,val,h])]
 split
 .have e:=K_ (P:=P) (conv:=conv) (call:=call) d ty ps E G T (restrict σ ((args.toList.map (val T)).flatMap D9)) nx (.func g) args ts
  rw[e];simp only[val,qC,zC,qB h];cases call g (args.toList.map (val T)) (restrict σ ((args.toList.map (val T)).flatMap D9)) nx<;>rfl
 .rfl
theorem aqI{conv:FuncId->Conv}{d:Option Tmp}{ty:TypeId}{ps:String}{E:Array Edge}{G:Option (Nat×Bool)}{g:FuncId}(h:conv g= .inl)(args:Array Operand)(ts:Array TypeId):writer conv ⟨d,.call ⟨.value (.func g),args,ts⟩,ty,ps,E,G⟩=true:=by unfold writer;simp only[h]
theorem agh{conv:FuncId->Conv}{d:Option Tmp}{ty:TypeId}{ps:String}{E:Array Edge}{G:Option (Nat×Bool)}{T:Nat->V}{σ:Store}{g:FuncId}(h:conv g= .inl)(args:Array Operand)(ts:Array TypeId):zI conv T σ ⟨d,.call ⟨.value (.func g),args,ts⟩,ty,ps,E,G⟩=(args.toList.map (val T)).flatMap D9:=by
 simp only[zI,Dc,val,h,vg,zC,xE]
theorem agi(v:Value):D9 (.sc v)=[]:=rfl
theorem agj(b off:Nat):D9 (.rp b off)=[b]:=rfl
theorem agk(b off len:Nat):D9 (.rs b off len)=[b]:=rfl
theorem agl(row:List V)(len:Nat):D9 (.ts row len)=[]:=rfl
theorem agm(row:List V)(off:Nat):D9 (.tp row off)=[]:=rfl
theorem ad2:D9 .nil=[]:=rfl
theorem ad3(vs:List V):D9 (.agg vs)=vs.flatMap wI:=rfl
theorem fJ(σ:Store)(b:Nat):restrict σ [b] b=σ b:=by unfold restrict;simp
attribute [go_sem] ajU aqI agh agi agj agk agl agm ad2 ad3 fJ
theorem iZ{P:Program}{conv:FuncId->Conv}{call:Call}{d:Option Tmp}{ty:TypeId}{ps:String}{E:Array Edge}{G:Option (Nat×Bool)}{T:Nat->V}{σ:Store}{nx:Nat}(a x:Operand)(t u:TypeId) :
  Ah P conv call ⟨d,.call ⟨.builtin .append,#[a,x],#[t,u]⟩,ty,ps,E,G⟩ T σ nx=if((wI (val T a)++wI (val T x)).all fun b=>decide (b<nx))=true then
   (Dx P #[t,u] (val T a) (val T x) (restrict σ (wI (val T a)++wI (val T x))) nx).map fun r=>(r.1,Aa (wI (val T a)++wI (val T x)) nx r.2.2 σ r.2.1,r.2.2)else none:=by
 have J:Dc conv T σ (⟨d,.call ⟨.builtin .append,#[a,x],#[t,u]⟩,ty,ps,E,G⟩:Oper)=some (wI (val T a)++wI (val T x)):=by
  simp[Dc]
 rw[nN T σ nx J (fun v=>rfl)]
 split
 .rw[PN]
  cases Dx P #[t,u] (val T a) (val T x) (restrict σ (wI (val T a)++wI (val T x))) nx<;>rfl
 .rfl
theorem MR{conv:FuncId->Conv}{d:Option Tmp}{ty:TypeId}{ps:String}{E:Array Edge}{G:Option (Nat×Bool)}(args:Array Operand)(ts:Array TypeId):writer conv ⟨d,.call ⟨.builtin .append,args,ts⟩,ty,ps,E,G⟩=true:=id rfl
theorem lg{conv:FuncId->Conv}{d:Option Tmp}{ty:TypeId}{ps:String}{E:Array Edge}{G:Option (Nat×Bool)}{T:Nat->V}{σ:Store}(a x:Operand)(ts:Array TypeId):zI conv T σ ⟨d,.call ⟨.builtin .append,#[a,x],ts⟩,ty,ps,E,G⟩=wI (val T a)++wI (val T x):=by
 simp[zI,Dc]
theorem KJ{P:Program}{conv:FuncId->Conv}{call:Call}(d:Option Tmp)(ty:TypeId)(ps:String)(E:Array Edge)(G:Option (Nat×Bool))(T:Nat->V)(σ:Store)(nx:Nat)(t:TypeId)(h:(vI P t).slice=true)(J:(vI P t).Rz=true):Ah P conv call ⟨d,.buildSlice t 0 #[],ty,ps,E,G⟩ T σ nx=some (.nil,σ,nx) :=
 La T σ nx rfl fun σ=>iV d ty ps E G T σ nx t h J
theorem Sj{conv:FuncId->Conv}{d:Option Tmp}{ty:TypeId}{ps:String}{E:Array Edge}{G:Option (Nat×Bool)}(t:TypeId)(n:Nat)(parts:Array (Nat×Operand)):writer conv ⟨d,.buildSlice t n parts,ty,ps,E,G⟩=false:=id rfl
theorem KL{conv:FuncId->Conv}{d:Option Tmp}{ty:TypeId}{ps:String}{E:Array Edge}{G:Option (Nat×Bool)}{T:Nat->V}{σ:Store}(t:TypeId)(n:Nat)(parts:Array (Nat×Operand)):zI conv T σ ⟨d,.buildSlice t n parts,ty,ps,E,G⟩=[]:=rfl
theorem ad4(σ:Store)(nx:Nat)(x:Option FT):Aa [] nx (nx+1) σ (upd (restrict σ []) nx x)=upd σ nx x:=by
 funext i;unfold Aa upd restrict
 by_cases h:i=nx
 .simp[h]
 .rw[sJ (by simp only[yc,false_or];omega),sJ h]
attribute [go_sem] iZ MR lg KJ Sj KL ad4 iK zC
theorem MS:∀(ids:List Nat) (σ:Store) (b:Nat),ids.contains b=false->Dl σ ids b=σ b
 |[],σ,b,_=>rfl
 |i :: ids,σ,b,h=>by
  rw[List.contains_cons,Bool.or_eq_false_iff]at h;have E:b≠i:=by simpa using h.1
  unfold Dl;rw[MS ids _ b h.2,Zl _ _ E]
theorem Js{σ:Store}{ids:List Nat}{t:V}{b:Nat}(h:ids.contains b=false):behind σ ids t b=σ b:=by
 unfold behind
 split
 .rfl
 .exact MS ids σ b h
attribute [go_sem] Js
end Go.TV
namespace Go.TV
theorem ad5:BQ []=some []:=rfl
theorem aam(n:Int)(vs:List V):BQ (.sc (.int .u8 n) :: vs)=if 0<=n/\n<256 then(BQ vs).map (UInt8.ofNat n.toNat :: ·)else none:=rfl
attribute [go_sem] ad5 aam
end Go.TV
namespace Go.Proofs.YtkpdoehbhmipcaaGreat
open Go Go.TV
instance known0:Known:=⟨[]⟩
theorem kn0(W:World):Kn (TV.start W):=fun p hp=>absurd hp yc
def conv:FuncId->Conv:=fun f=>if f∈([]:List Nat)then .own else if f∈([]:List Nat)then .inl else .KH
abbrev gI(n:Nat):Prop:=conv n= .KH
theorem aqJ:gI 3/\gI 7/\gI 8/\gI 9/\gI 10/\gI 11/\gI 12/\gI 13/\gI 14/\gI 15/\gI 16/\gI 17/\gI 18/\gI 19/\gI 45/\gI 46/\gI 47/\gI 48/\gI 49/\gI 50/\gI 51/\gI 52/\gI 53/\gI 54:=by and_intros<;>exact rfl
theorem aqK:gI 55/\gI 56/\gI 57/\gI 58/\gI 59/\gI 60/\gI 61/\gI 62/\gI 63/\gI 64/\gI 65/\gI 76/\gI 92/\gI 93/\gI 94/\gI 95/\gI 96/\gI 97/\gI 98/\gI 99/\gI 100/\gI 101/\gI 102/\gI 103:=by and_intros<;>exact rfl
theorem aqL:gI 104/\gI 105/\gI 106/\gI 107/\gI 108/\gI 109/\gI 110/\gI 111/\gI 112/\gI 113/\gI 114/\gI 115/\gI 116/\gI 117/\gI 118/\gI 119/\gI 120/\gI 128/\gI 129/\gI 130/\gI 131/\gI 132/\gI 133/\gI 137:=by and_intros<;>exact rfl
theorem aqM:gI 144/\gI 149/\gI 150/\gI 151/\gI 152/\gI 153/\gI 154/\gI 155/\gI 156/\gI 157/\gI 158/\gI 159/\gI 160/\gI 161/\gI 162/\gI 163/\gI 164/\gI 165/\gI 166/\gI 167/\gI 168/\gI 169/\gI 170/\gI 171:=by and_intros<;>exact rfl
theorem aqN:gI 172/\gI 173/\gI 174/\gI 175/\gI 176/\gI 177/\gI 178/\gI 179/\gI 180/\gI 184/\gI 185/\gI 186/\gI 187/\gI 188/\gI 189/\gI 190/\gI 191/\gI 192/\gI 193/\gI 194/\gI 195/\gI 196/\gI 197/\gI 198:=by and_intros<;>exact rfl
theorem aqO:gI 205/\gI 206/\gI 207/\gI 208/\gI 209/\gI 210/\gI 211/\gI 213/\gI 214/\gI 215/\gI 216/\gI 217/\gI 218/\gI 219/\gI 220/\gI 221/\gI 222/\gI 223/\gI 224/\gI 225/\gI 226/\gI 227/\gI 228/\gI 229:=by and_intros<;>exact rfl
theorem aqP:gI 230/\gI 231/\gI 232/\gI 233/\gI 234/\gI 235/\gI 236/\gI 239/\gI 240/\gI 241/\gI 242/\gI 243/\gI 244/\gI 245/\gI 246/\gI 247/\gI 248/\gI 249/\gI 250/\gI 255/\gI 256/\gI 257/\gI 258/\gI 259:=by and_intros<;>exact rfl
theorem aqQ:gI 260/\gI 261/\gI 262/\gI 263/\gI 264/\gI 265/\gI 266/\gI 267/\gI 268/\gI 269/\gI 270/\gI 271/\gI 272/\gI 273/\gI 274/\gI 275/\gI 276/\gI 277/\gI 278/\gI 279/\gI 280/\gI 281/\gI 282/\gI 283:=by and_intros<;>exact rfl
theorem aqR:gI 284/\gI 285/\gI 286/\gI 287/\gI 288/\gI 289/\gI 290/\gI 291/\gI 292/\gI 293/\gI 294:=by and_intros<;>exact rfl
attribute [go_sem] aqJ aqK aqL aqM aqN aqO aqP aqQ aqR
theorem ty2:vI ZL 2=⟨true,false,1,[.sc (.int .i64 0)],false,false,false,0,0,[],false,[],[],false,false⟩:=by kernel_rfl
theorem ty3:vI ZL 3=vI ZL 2:=by kernel_rfl
theorem ty4:vI ZL 4=⟨true,false,1,[.sc (.bool false)],false,false,false,0,0,[],false,[],[],false,false⟩:=by kernel_rfl
theorem ty5:vI ZL 5=⟨true,false,1,[.sc (.int .u8 0)],false,false,false,0,0,[],false,[],[],false,false⟩:=by kernel_rfl
theorem ty7:vI ZL 7=⟨true,true,4,[.sc (.int .i64 0),.sc (.int .i64 0),.sc (.bool false),.sc (.int .u8 0)],false,false,false,0,0,[],false,[(0,1,some false),(1,1,some false),(2,1,some false),(3,1,some false)],[(0,1),(1,1),(2,1),(3,1)],true,false⟩:=by kernel_rfl
theorem ty9:vI ZL 9=⟨true,false,1,[.sc (.string ByteArray.empty)],false,true,false,0,0,[],false,[],[],false,false⟩:=by kernel_rfl
theorem awV:vI ZL 12=⟨true,false,1,[.sc (.int .u64 0)],false,false,false,0,0,[],false,[],[],false,false⟩:=by kernel_rfl
theorem awW:vI ZL 13=⟨true,true,2,[.sc (.string ByteArray.empty),.sc (.int .u64 0)],false,false,false,0,0,[],false,[(0,1,some false),(1,1,some false)],[(0,1),(1,1)],true,false⟩:=by kernel_rfl
theorem awX:vI ZL 21=⟨true,false,1,[.sc (.int .i32 0)],false,false,false,0,0,[],false,[],[],false,false⟩:=by kernel_rfl
theorem awY:vI ZL 22=⟨true,false,1,[.nil],true,false,false,5,112,[.sc (.string ByteArray.empty),.nil,.nil,.nil,.nil],true,[],[],false,false⟩:=by kernel_rfl
theorem awZ:vI ZL 23=⟨true,false,1,[.nil],true,false,false,2,16,[.sc (.int .i64 0),.sc (.int .i64 0)],true,[],[],false,false⟩:=by kernel_rfl
theorem aw0:vI ZL 24=⟨true,true,3,[.nil,.nil,.sc (.bool false)],false,false,false,0,0,[],false,[(0,1,some false),(1,1,some false),(2,1,some false)],[(0,1),(1,1),(2,1)],true,false⟩:=by kernel_rfl
theorem aw1:vI ZL 25=vI ZL 24:=by kernel_rfl
theorem aw2:vI ZL 27=⟨true,false,1,[.nil],true,false,false,1,8,[.sc (.int .i64 0)],true,[],[],false,false⟩:=by kernel_rfl
theorem aw3:vI ZL 33=⟨true,false,1,[.nil],true,false,false,4,40,[.sc (.string ByteArray.empty),.sc (.int .i64 0),.sc (.int .i64 0),.sc (.bool false)],true,[],[],false,false⟩:=by kernel_rfl
theorem aw4:vI ZL 34=⟨true,false,1,[.nil],true,false,false,3,24,[.sc (.int .i64 0),.sc (.int .i64 0),.sc (.int .i64 0)],true,[],[],false,false⟩:=by kernel_rfl
theorem aw5:vI ZL 35=⟨true,true,2,[.nil,.nil],false,false,false,0,0,[],false,[(0,1,some false),(1,1,some false)],[(0,1),(1,1)],true,false⟩:=by kernel_rfl
theorem aw6:vI ZL 36=vI ZL 35:=by kernel_rfl
theorem aw7:vI ZL 37=⟨true,true,5,[.sc (.string ByteArray.empty),.nil,.nil,.nil,.nil],false,false,false,0,0,[],false,[(0,1,some false),(1,2,some true),(3,1,some false),(4,1,some false)],[(0,1),(1,2),(3,1),(4,1)],true,false⟩:=by kernel_rfl
theorem aw8:vI ZL 38=vI ZL 37:=by kernel_rfl
theorem aw9:vI ZL 39=⟨true,false,1,[.nil],true,false,false,3,56,[.sc (.bool false),.nil,.nil],true,[],[],false,false⟩:=by kernel_rfl
theorem aw_:vI ZL 47=vI ZL 22:=by kernel_rfl
theorem aw':vI ZL 48=vI ZL 23:=by kernel_rfl
theorem axa:vI ZL 49=vI ZL 24:=by kernel_rfl
theorem axb:vI ZL 50=vI ZL 24:=by kernel_rfl
theorem axc:vI ZL 58=vI ZL 33:=by kernel_rfl
theorem axd:vI ZL 59=vI ZL 34:=by kernel_rfl
theorem axe:vI ZL 60=vI ZL 35:=by kernel_rfl
theorem axf:vI ZL 61=vI ZL 35:=by kernel_rfl
theorem axg:vI ZL 62=vI ZL 37:=by kernel_rfl
theorem axh:vI ZL 63=vI ZL 37:=by kernel_rfl
theorem axi:vI ZL 71=⟨true,false,1,[.nil],true,false,false,3,32,[.sc (.string ByteArray.empty),.sc (.int .i64 0),.sc (.int .i64 0)],true,[],[],false,false⟩:=by kernel_rfl
theorem axj:vI ZL 73=⟨true,false,1,[.nil],true,false,false,1,24,[.nil],true,[],[],false,false⟩:=by kernel_rfl
theorem axk:vI ZL 76=vI ZL 71:=by kernel_rfl
theorem axl:vI ZL 86=⟨true,true,2,[.sc (.int .i64 0),.sc (.int .i64 0)],false,false,false,0,0,[],false,[(0,1,some false),(1,1,some false)],[(0,1),(1,1)],true,false⟩:=by kernel_rfl
theorem axn:vI ZL 87=vI ZL 86:=by kernel_rfl
theorem axo:vI ZL 91=⟨true,false,1,[.nil],true,false,false,1,1,[.sc (.bool false)],true,[],[],false,false⟩:=by kernel_rfl
theorem aqS:vI ZL 100=⟨true,false,1,[.sc (.pointer none)],false,false,true,0,0,[],false,[],[],false,false⟩:=by kernel_rfl
theorem aqT:vI ZL 102=⟨true,true,4,[.sc (.string ByteArray.empty),.sc (.int .i64 0),.sc (.int .i64 0),.sc (.bool false)],false,false,false,0,0,[],false,[(0,1,some false),(1,1,some false),(2,1,some false),(3,1,some false)],[(0,1),(1,1),(2,1),(3,1)],true,false⟩:=by kernel_rfl
theorem aqU:vI ZL 103=vI ZL 102:=by kernel_rfl
theorem aqV:vI ZL 104=⟨true,true,3,[.sc (.int .i64 0),.sc (.int .i64 0),.sc (.int .i64 0)],false,false,false,0,0,[],false,[(0,1,some false),(1,1,some false),(2,1,some false)],[(0,1),(1,1),(2,1)],true,false⟩:=by kernel_rfl
theorem aqW:vI ZL 105=vI ZL 104:=by kernel_rfl
theorem aqX:vI ZL 108=⟨true,false,1,[.nil],true,false,false,1,16,[.sc (.string ByteArray.empty)],true,[],[],false,false⟩:=by kernel_rfl
theorem aqY:vI ZL 122=⟨true,true,3,[.sc (.string ByteArray.empty),.sc (.int .i64 0),.sc (.int .i64 0)],false,false,false,0,0,[],false,[(0,1,some false),(1,1,some false),(2,1,some false)],[(0,1),(1,1),(2,1)],true,false⟩:=by kernel_rfl
theorem aqZ:vI ZL 123=vI ZL 122:=by kernel_rfl
theorem aq0:vI ZL 125=vI ZL 122:=by kernel_rfl
theorem aq1:vI ZL 135=vI ZL 100:=by kernel_rfl
theorem aq2:vI ZL 138=⟨true,false,1,[.nil],true,false,false,1,8,[.sc (.pointer none)],true,[],[],false,false⟩:=by kernel_rfl
theorem aq3:vI ZL 141=⟨true,true,5,[.sc (.int .i64 0),.sc (.int .i64 0),.nil,.nil,.nil],false,false,false,0,0,[],false,[(0,1,some false),(1,1,some false),(2,1,some false),(3,1,some false),(4,1,some false)],[(0,1),(1,1),(2,1),(3,1),(4,1)],true,false⟩:=by kernel_rfl
theorem aq4:vI ZL 142=vI ZL 141:=by kernel_rfl
theorem aq5:vI ZL 148=vI ZL 100:=by kernel_rfl
theorem aq6:vI ZL 158=⟨true,true,2,[.sc (.bool false),.nil],false,false,false,0,0,[],false,[(0,1,some false),(1,1,some false)],[(0,1),(1,1)],true,false⟩:=by kernel_rfl
theorem aq7:vI ZL 159=vI ZL 158:=by kernel_rfl
theorem aq8:vI ZL 160=⟨true,true,3,[.sc (.bool false),.nil,.nil],false,false,false,0,0,[],false,[(0,2,some true),(2,1,some false)],[(0,2),(2,1)],true,false⟩:=by kernel_rfl
theorem aq9:vI ZL 161=vI ZL 160:=by kernel_rfl
theorem aq_:vI ZL 164=vI ZL 86:=by kernel_rfl
theorem ara:vI ZL 165=vI ZL 100:=by kernel_rfl
theorem arb:vI ZL 166=⟨true,false,1,[.nil],true,false,false,1,1,[.sc (.int .u8 0)],true,[],[],false,true⟩:=by kernel_rfl
theorem ard:vI ZL 167=⟨true,true,2,[.sc (.pointer none),.nil],false,false,false,0,0,[],false,[(0,1,some false),(1,1,some false)],[(0,1),(1,1)],true,false⟩:=by kernel_rfl
theorem arf:vI ZL 168=vI ZL 167:=by kernel_rfl
theorem arh:vI ZL 178=⟨true,true,5,[.sc (.int .i64 0),.nil,.sc (.bool false),.nil,.nil],false,false,false,0,0,[],false,[(0,1,some false),(1,1,some false),(2,3,some true)],[(0,1),(1,1),(2,3)],true,false⟩:=by kernel_rfl
theorem ari:vI ZL 179=vI ZL 178:=by kernel_rfl
theorem arj:vI ZL 202=vI ZL 12:=by kernel_rfl
theorem ark:vI ZL 207=vI ZL 100:=by kernel_rfl
theorem arl:vI ZL 208=vI ZL 23:=by kernel_rfl
theorem arn:vI ZL 212=vI ZL 86:=by kernel_rfl
theorem aro:vI ZL 213=vI ZL 86:=by kernel_rfl
theorem arp:vI ZL 220=vI ZL 160:=by kernel_rfl
theorem arq:vI ZL 221=vI ZL 160:=by kernel_rfl
theorem ars:vI ZL 229=vI ZL 100:=by kernel_rfl
theorem aru:vI ZL 231=vI ZL 102:=by kernel_rfl
theorem arv:vI ZL 232=vI ZL 100:=by kernel_rfl
theorem arw:vI ZL 235=vI ZL 73:=by kernel_rfl
theorem arx:vI ZL 236=⟨true,true,4,[.sc (.int .i64 0),.nil,.nil,.nil],false,false,false,0,0,[],false,[(0,1,some false),(1,1,some false),(2,1,some false),(3,1,some false)],[(0,1),(1,1),(2,1),(3,1)],true,false⟩:=by kernel_rfl
theorem arz:vI ZL 237=vI ZL 236:=by kernel_rfl
theorem arA:vI ZL 251=vI ZL 104:=by kernel_rfl
theorem arB:vI ZL 259=⟨true,false,1,[.sc (.int .u32 0)],false,false,false,0,0,[],false,[],[],false,false⟩:=by kernel_rfl
theorem arC:vI ZL 262=vI ZL 12:=by kernel_rfl
theorem arD:vI ZL 266=vI ZL 100:=by kernel_rfl
theorem arE:vI ZL 269=vI ZL 73:=by kernel_rfl
theorem arF:vI ZL 270=⟨true,true,6,[.nil,.sc (.bool false),.nil,.nil,.sc (.int .i64 0),.nil],false,false,false,0,0,[],false,[(0,1,some false),(1,2,some true),(3,1,some false),(4,1,some false),(5,1,some false)],[(0,1),(1,2),(3,1),(4,1),(5,1)],true,false⟩:=by kernel_rfl
theorem arG:vI ZL 271=vI ZL 270:=by kernel_rfl
theorem arH:vI ZL 274=⟨true,false,1,[.nil],true,false,false,2,32,[.sc (.bool false),.nil],true,[],[],false,false⟩:=by kernel_rfl
theorem arI:vI ZL 308=⟨true,true,4,[.sc (.pointer none),.sc (.pointer none),.sc (.pointer none),.sc (.string ByteArray.empty)],false,false,false,0,0,[],false,[(0,1,some false),(1,1,some false),(2,1,some false),(3,1,some false)],[(0,1),(1,1),(2,1),(3,1)],true,false⟩:=by kernel_rfl
theorem arJ:vI ZL 310=⟨true,true,0,[],false,false,false,0,0,[],false,[],[],false,false⟩:=by kernel_rfl
theorem arK:vI ZL 311=⟨true,true,0,[],false,false,false,0,0,[],false,[(0,0,some true)],[(0,0)],true,false⟩:=by kernel_rfl
attribute [go_sem] ty2 ty3 ty4 ty5 ty7 ty9 awV awW awX awY awZ aw0 aw1 aw2 aw3 aw4 aw5 aw6 aw7 aw8 aw9 aw_ aw' axa axb axc axd axe axf axg axh axi axj axk axl axn axo aqS aqT aqU aqV aqW aqX aqY aqZ aq0 aq1 aq2 aq3 aq4 aq5 aq6 aq7 aq8 aq9 aq_ ara arb ard arf arh ari arj ark arl arn aro arp arq ars aru arv arw arx arz arA arB arC arD arE arF arG arH arI arJ arK
def V7:Go.Shelf.Ren:=⟨fun|156=>71|165=>122|166=>123|169=>124|240=>181|241=>182|276=>237|277=>238|n=>n,fun|0=>0|3=>3|4=>4|5=>5|9=>9|20=>20|31=>108|37=>166|70=>165|72=>168|75=>171|76=>172|80=>174|127=>229|164=>282|n=>n,fun n=>n⟩
theorem lays156:Lays.n156 ZL V7:={ mixed:=by kernel_rfl,f156:=by kernel_rfl,f165:=by kernel_rfl,f166:=by kernel_rfl,f169:=by kernel_rfl,f240:=by kernel_rfl,f241:=by kernel_rfl,f276:=by kernel_rfl,f277:=by kernel_rfl,t0:=Tryz.underlying0,a0:=Tryz.isAgg0,z0:=Tryz.sizeOf0,v0:=Tryz.zeroValue0,t3:=Tryz.underlying3,a3:=Tryz.isAgg3,z3:=Tryz.sizeOf3,v3:=Tryz.zeroValue3,t4:=Tryz.underlying4,a4:=Tryz.isAgg4,z4:=Tryz.sizeOf4,v4:=Tryz.zeroValue4,t9:=Tryz.underlying9,a9:=Tryz.isAgg9,z9:=Tryz.sizeOf9,v9:=Tryz.zeroValue9,t20:=Tryz.underlying20,a20:=Tryz.isAgg20,z20:=Tryz.sizeOf20,v20:=Tryz.zeroValue20,t31:=Tryz.underlying108,a31:=Tryz.isAgg108,z31:=Tryz.sizeOf108,v31:=Tryz.zeroValue108,t37:=Tryz.underlying166,a37:=Tryz.isAgg166,z37:=Tryz.sizeOf166,v37:=Tryz.zeroValue166,t70:=Tryz.underlying165,a70:=Tryz.isAgg165,z70:=Tryz.sizeOf165,v70:=Tryz.zeroValue165,t72:=Tryz.underlying168,a72:=Tryz.isAgg168,z72:=Tryz.sizeOf168,v72:=Tryz.zeroValue168,t75:=Tryz.underlying171,a75:=Tryz.isAgg171,z75:=Tryz.sizeOf171,v75:=Tryz.zeroValue171,t76:=Tryz.underlying172,a76:=Tryz.isAgg172,z76:=Tryz.sizeOf172,v76:=Tryz.zeroValue172,t127:=Tryz.underlying229,a127:=Tryz.isAgg229,z127:=Tryz.sizeOf229,v127:=Tryz.zeroValue229,t164:=Tryz.underlying282,a164:=Tryz.isAgg282,z164:=Tryz.sizeOf282,v164:=Tryz.zeroValue282 }
theorem ano:Builder.Extra ZL V7:={ sizeBuilder:=by kernel_rfl,liesBuilder:=by kernel_rfl,t5:=Tryz.underlying5,a5:=Tryz.isAgg5,z5:=Tryz.sizeOf5,v5:=Tryz.zeroValue5,infoByte:=by kernel_rfl,cellsByte:=by kernel_rfl,sizeByte:=by kernel_rfl,neB5:=by decide }
def anp:Ext:=fun f=>if f=71 then some af9 else none
theorem anq:Ia ZL anp:=fun f g h args σ nx v σ' nx' E=>by
 unfold anp at h
 split at h
 .rename_i G
  subst G;cases h;exact aaj lays156 ano rfl ⟨_,func71,by kernel_rfl,by kernel_rfl⟩ args σ nx v σ' nx' E
 .cases h
def Fq:List V->Store->Nat->Option (V×Store×Nat)
 |[.ts row len],σ,nx=>if row.length=len/\len<=17592186044000/\row.all qI=true then(if len=0 then some (.nil,σ,nx)else some (.rs nx 0 len,Aq σ nx row 1,nx+1))else none
 |_,_,_=>none
theorem pO(args:List V)(σ:Store)(nx:Nat)(v:V)(σ':Store)(nx':Nat)(h:Fq args σ nx=some (v,σ',nx')):Ee ZL 215 args σ nx v σ' nx':=by
 unfold Fq at h
 split at h
 .rename_i row len
  split at h
  .rename_i hc
   obtain⟨G,hs,J⟩:=hc;refine MO (call:=fun _ _ _ _=>none) (conv:=fun _=> .KH) (fun _ _ _ _ _ _ _ h=>by cases h) (by kernel_rfl) func215 rfl Tryz.underlying27 (n:=0) (by kernel_rfl) (st1:=⟨upd (Dt [.ts row len]) 2 .nil,σ,nx⟩) (T2:=upd (upd (Dt [.ts row len]) 2 .nil) 3 (.ts row len)) (v1:=.ts row len) (row:=row) (len:=len) (vs:=[v]) ?_ rfl ?_ rfl ?_ ?_
   .rfl
   .rfl
   .rfl
   .intro b hb
    cases b with
    |true=>
     have O:=hb rfl;subst O;have E:len=0:=by simpa using G.symm
     subst E;simp only[if_true,sO,sN]at h;obtain⟨rfl,rfl,rfl⟩:=h;exact⟨.ret,_,rfl,.inr rfl,rfl,rfl,rfl⟩
    |false=>
     by_cases E:len=0
     .subst E
      have O:row=[]:=zZ G;subst O;simp only[if_true,sO,sN]at h;obtain⟨rfl,rfl,rfl⟩:=h;refine⟨.ret,?_,?_,.inr rfl,?_,?_,?_⟩
      .exact⟨upd (upd (upd (upd (upd (upd (upd (upd (Dt [.ts [] 0]) 2 .nil) 3 (.ts [] 0)) 4 (.sc (.bool false))) 5 .nil) 6 (.ts [] 0)) 7 .nil) 2 .nil) 2 .nil,σ,nx⟩
      .simp only[xI,go_sem]
      .rfl
      .rfl
      .rfl
     .rw[sJ E]at h
      simp only[sO,sN]at h;obtain⟨rfl,rfl,rfl⟩:=h;have S:len<=maxLen/\len*8<=140737488355328:=by unfold maxLen;omega
      refine⟨.ret,?_,?_,.inr rfl,?_,?_,?_⟩
      .exact⟨upd (upd (upd (upd (upd (upd (upd (Dt [.ts row len]) 2 .nil) 3 (.ts row len)) 4 (.sc (.bool false))) 5 .nil) 6 (.ts row len)) 7 (.rs nx 0 len)) 2 (.rs nx 0 len),Aq σ nx row 1,nx+1⟩
      .simp only[xI,go_sem,G,E,S]
      .rfl
      .rfl
      .rfl
  .cases h
 .cases h
def ext:Ext:=fun f=>if f=215 then some Fq else anp f
theorem agn:Ia ZL ext:=fun f g h args σ nx v σ' nx' E=>by
 unfold ext at h
 split at h
 .rename_i G
  subst G;cases h;exact pO args σ nx v σ' nx' E
 .exact anq f g h args σ nx v σ' nx' E
theorem aan(xs:List Int)(h:xs.length<=17592186044000):fn ZL conv ext 215 [LI xs]=some (LI xs):=by
 have G:Fq [LI xs] lI 0=if xs.length=0 then some (.nil,lI,0)else some (.rs 0 0 xs.length,Aq lI 0 (xs.flatMap cI) 1,0+1):=by
  show(if(xs.flatMap cI).length=xs.length/\xs.length<=17592186044000/\(xs.flatMap cI).all qI=true then _ else none)=_;rw[sH ⟨qL xs,h,qM xs⟩]
 rw[m_,mZ (g:=Fq) rfl,G]
 by_cases E:xs.length=0
 .rw[sH E]
  have:xs=[]:=zZ E;subst this
  (simp only[go_sem])<;>rfl
 .rw[sJ E]
  simp only[go_sem]
theorem u4:ZL.underlying 4=some .bool:=Tryz.underlying4
attribute [go_sem] u4
def ix{α:Type}(p:α->Bool)(xs:List α):Int:=if xs.findIdx p<xs.length then xs.findIdx p else -1
theorem Ij{α:Type}{p:α->Bool}{xs:List α}{k:Nat}(E:k<xs.length)(G:∀i (h:i<xs.length),i<k->p xs[i]=false)(h:p xs[k]=true):ix p xs=k:=by
 have:xs.findIdx p=k:=(List.findIdx_eq E).mpr ⟨h,fun j J=>G j (by omega) J⟩;unfold ix;rw[this,sH E]
theorem jq{α:Type}{p:α->Bool}{xs:List α}(E:∀i (h:i<xs.length),p xs[i]=false):ix p xs= -1:=by
 have:xs.findIdx p=xs.length:=List.findIdx_eq_length.mpr fun x G=>by
  obtain⟨i,hi,rfl⟩:=yZ G;exact E i hi
 unfold ix;rw[this,sJ (Nat.lt_irrefl _)]
theorem jo{α:Type}{p:α->Bool}{xs:List α}{k:Nat}(O:k<xs.length)(J:∀i (h:i<xs.length),i<k->p xs[i]=false)(h:p xs[k]=false):∀i (h:i<xs.length),i<k+1->p xs[i]=false:=by
 intro i hi E;rcases xZ (xX E)with G|G
 .exact J i hi G
 .subst G;exact h
def aao:=d_ (c:=cStance) (s:=5) (fun _=>rfl)
def aap:=bg (c:=cStance) (s:=5) (fun _=>rfl) (by omega)
def MV:=bZ (c:=cStance) (s:=5) (fun _=>rfl)
theorem V8(xs:List Stance)(c:V)(g:FuncId)(p:Stance->Bool)(t:V)(h:xs.length<=maxLen)(hc:conv g= .KH)(ht:strip lI 7 t=some (t,[]))(hg:∀x∈xs,fn ZL conv ext g [.agg (cStance x),t]=some (Bo (p x))) :
  fn ZL conv ext 95 [LL cStance xs,.clo g [t]]=some (I (ix p xs)):=by
 have e2:(xs.length:Int)<=9223372036854775807:=by unfold maxLen at h;omega
 rw[m_,mg [.tmp 4] [] func95];simp only[go_sem];generalize hL:dI _ _=y;obtain⟨r,rfl,hr⟩:=oZ hL xs.length (fun k st=>st.nx=0/\st.σ=lI/\st.T 0=LL cStance xs/\st.T 1= .clo g [t]/\st.T 7=I xs.length/\st.T 8=I k/\∀i (h:i<xs.length),i<k->p xs[i]=false)
  (fun r=>(∃T,r=(.exit 0,⟨T,lI,0⟩)/\ix p xs= -1)\/(∃T,r=(.ret,⟨T,lI,0⟩)/\T 4=I (ix p xs))) (by
   clear hL;rintro k ⟨T,σ,nx⟩ E ⟨hn,G,S,J,O,Y,hi⟩;simp only at hn G S J O Y;subst hn G;have f1:(k:Int)<(xs.length:Int):=by omega
   have f2:=jD k;have f3:=ZT (n:=(k:Int)+1);have f4:=aao xs k E;have f5:=MV xs;have f6:k*5+5<=xs.length*5:=by omega
   have f9:=aap xs k E;have f10:=hg xs[k] (zu E);cases hp:p xs[k]with
   |true=>
    rw[hp]at f10;refine .inr ⟨_,by simp only[go_sem,S,J,O,Y,f1,f2,f4,f5,f6,f9,f10,hc,ht];rfl,by simp,.inr ⟨_,rfl,?_⟩⟩;simp only[go_sem];rw[Ij E hi hp]
   |false=>
    rw[hp]at f10;refine .inl ⟨_,by simp only[go_sem,S,J,O,Y,f1,f2,f3,f4,f5,f6,f9,f10,hc,ht];rfl,?_⟩;simp only[go_sem,S,J,O];exact⟨rfl,jo E hi hp⟩) (by
   clear hL;rintro ⟨T,σ,nx⟩ ⟨hn,G,S,J,O,Y,hi⟩;simp only at hn G S J O Y;subst hn G;exact⟨_,by simp only[go_sem,O,Y,zk];rfl,by simp,.inl ⟨_,rfl,jq fun i h=>hi i h h⟩⟩) (by
   simp only[go_sem];exact fun i _ h=>absurd h (zX _))
 rcases hr with ⟨T,rfl,J⟩|⟨T,rfl,J⟩
 .simp only[go_sem,J]
 .simp only[go_sem,J]
def KN:=d_ (c:=cJoint) (s:=4) (fun _=>rfl)
def O1:=bg (c:=cJoint) (s:=4) (fun _=>rfl) (by omega)
def Gf:=bZ (c:=cJoint) (s:=4) (fun _=>rfl)
theorem aaq(xs:List Joint)(c:V)(g:FuncId)(p:Joint->Bool)(t:V)(h:xs.length<=maxLen)(hc:conv g= .KH)(ht:strip lI 7 t=some (t,[]))(hg:∀x∈xs,fn ZL conv ext g [.agg (cJoint x),t]=some (Bo (p x))) :
  fn ZL conv ext 256 [LL cJoint xs,.clo g [t]]=some (I (ix p xs)):=by
 have e2:(xs.length:Int)<=9223372036854775807:=by unfold maxLen at h;omega
 rw[m_,mg [.tmp 4] [] func256];simp only[go_sem];generalize hL:dI _ _=y;obtain⟨r,rfl,hr⟩:=oZ hL xs.length (fun k st=>st.nx=0/\st.σ=lI/\st.T 0=LL cJoint xs/\st.T 1= .clo g [t]/\st.T 7=I xs.length/\st.T 8=I k/\∀i (h:i<xs.length),i<k->p xs[i]=false)
  (fun r=>(∃T,r=(.exit 0,⟨T,lI,0⟩)/\ix p xs= -1)\/(∃T,r=(.ret,⟨T,lI,0⟩)/\T 4=I (ix p xs))) (by
   clear hL;rintro k ⟨T,σ,nx⟩ E ⟨hn,G,S,J,O,Y,hi⟩;simp only at hn G S J O Y;subst hn G;have f1:(k:Int)<(xs.length:Int):=by omega
   have f2:=jD k;have f3:=ZT (n:=(k:Int)+1);have f4:=KN xs k E;have f5:=Gf xs;have f6:k*4+4<=xs.length*4:=by omega
   have f9:=O1 xs k E;have f10:=hg xs[k] (zu E);cases hp:p xs[k]with
   |true=>
    rw[hp]at f10;refine .inr ⟨_,by simp only[go_sem,S,J,O,Y,f1,f2,f4,f5,f6,f9,f10,hc,ht];rfl,by simp,.inr ⟨_,rfl,?_⟩⟩;simp only[go_sem];rw[Ij E hi hp]
   |false=>
    rw[hp]at f10;refine .inl ⟨_,by simp only[go_sem,S,J,O,Y,f1,f2,f3,f4,f5,f6,f9,f10,hc,ht];rfl,?_⟩;simp only[go_sem,S,J,O];exact⟨rfl,jo E hi hp⟩) (by
   clear hL;rintro ⟨T,σ,nx⟩ ⟨hn,G,S,J,O,Y,hi⟩;simp only at hn G S J O Y;subst hn G;exact⟨_,by simp only[go_sem,O,Y,zk];rfl,by simp,.inl ⟨_,rfl,jq fun i h=>hi i h h⟩⟩) (by
   simp only[go_sem];exact fun i _ h=>absurd h (zX _))
 rcases hr with ⟨T,rfl,J⟩|⟨T,rfl,J⟩
 .simp only[go_sem,J]
 .simp only[go_sem,J]
def Ik:=d_ (c:=cMember) (s:=3) (fun _=>rfl)
def Il:=bg (c:=cMember) (s:=3) (fun _=>rfl) (by omega)
def E_:=bZ (c:=cMember) (s:=3) (fun _=>rfl)
theorem V9(xs:List Member)(c:V)(g:FuncId)(p:Member->Bool)(t:V)(h:xs.length<=maxLen)(hc:conv g= .KH)(ht:strip lI 7 t=some (t,[]))(hg:∀x∈xs,fn ZL conv ext g [.agg (cMember x),t]=some (Bo (p x))) :
  fn ZL conv ext 258 [LL cMember xs,.clo g [t]]=some (I (ix p xs)):=by
 have e2:(xs.length:Int)<=9223372036854775807:=by unfold maxLen at h;omega
 rw[m_,mg [.tmp 4] [] func258];simp only[go_sem];generalize hL:dI _ _=y;obtain⟨r,rfl,hr⟩:=oZ hL xs.length (fun k st=>st.nx=0/\st.σ=lI/\st.T 0=LL cMember xs/\st.T 1= .clo g [t]/\st.T 7=I xs.length/\st.T 8=I k/\∀i (h:i<xs.length),i<k->p xs[i]=false)
  (fun r=>(∃T,r=(.exit 0,⟨T,lI,0⟩)/\ix p xs= -1)\/(∃T,r=(.ret,⟨T,lI,0⟩)/\T 4=I (ix p xs))) (by
   clear hL;rintro k ⟨T,σ,nx⟩ E ⟨hn,G,S,J,O,Y,hi⟩;simp only at hn G S J O Y;subst hn G;have f1:(k:Int)<(xs.length:Int):=by omega
   have f2:=jD k;have f3:=ZT (n:=(k:Int)+1);have f4:=Ik xs k E;have f5:=E_ xs;have f6:k*3+3<=xs.length*3:=by omega
   have f9:=Il xs k E;have f10:=hg xs[k] (zu E);cases hp:p xs[k]with
   |true=>
    rw[hp]at f10;refine .inr ⟨_,by simp only[go_sem,S,J,O,Y,f1,f2,f4,f5,f6,f9,f10,hc,ht];rfl,by simp,.inr ⟨_,rfl,?_⟩⟩;simp only[go_sem];rw[Ij E hi hp]
   |false=>
    rw[hp]at f10;refine .inl ⟨_,by simp only[go_sem,S,J,O,Y,f1,f2,f3,f4,f5,f6,f9,f10,hc,ht];rfl,?_⟩;simp only[go_sem,S,J,O];exact⟨rfl,jo E hi hp⟩) (by
   clear hL;rintro ⟨T,σ,nx⟩ ⟨hn,G,S,J,O,Y,hi⟩;simp only at hn G S J O Y;subst hn G;exact⟨_,by simp only[go_sem,O,Y,zk];rfl,by simp,.inl ⟨_,rfl,jq fun i h=>hi i h h⟩⟩) (by
   simp only[go_sem];exact fun i _ h=>absurd h (zX _))
 rcases hr with ⟨T,rfl,J⟩|⟨T,rfl,J⟩
 .simp only[go_sem,J]
 .simp only[go_sem,J]
def AU:=bg (c:=cI) (s:=1) (fun _=>rfl) (by omega)
theorem indexInt(xs:List Int)(c:V)(g:FuncId)(p:Int->Bool)(h:xs.length<=maxLen)(hc:conv g= .KH)(hg:∀x∈xs,fn ZL conv ext g [I x]=some (Bo (p x))) :
  fn ZL conv ext 137 [LI xs,.clo g []]=some (I (ix p xs)):=by
 have e2:(xs.length:Int)<=9223372036854775807:=by unfold maxLen at h;omega
 rw[m_,mg [.tmp 4] [] func137];simp only[go_sem];generalize hL:dI _ _=y;obtain⟨r,rfl,hr⟩:=oZ hL xs.length (fun k st=>st.nx=0/\st.σ=lI/\st.T 0=LI xs/\st.T 1= .clo g []/\st.T 7=I xs.length/\st.T 8=I k/\∀i (h:i<xs.length),i<k->p xs[i]=false)
  (fun r=>(∃T,r=(.exit 0,⟨T,lI,0⟩)/\ix p xs= -1)\/(∃T,r=(.ret,⟨T,lI,0⟩)/\T 4=I (ix p xs))) (by
   clear hL;rintro k ⟨T,σ,nx⟩ E ⟨hn,G,S,J,O,Y,hi⟩;simp only at hn G S J O Y;subst hn G;have f1:(k:Int)<(xs.length:Int):=by omega
   have f2:=jD k;have f3:=ZT (n:=(k:Int)+1);have f4:(xs.flatMap cI)[k]?=some (I xs[k]):=cu I xs k E;have f9:=AU xs k E;have f10:=hg xs[k] (zu E);cases hp:p xs[k]with
   |true=>
    rw[hp]at f10;refine .inr ⟨_,by simp only[go_sem,S,J,O,Y,f1,f2,f4,f9,f10,hc];rfl,by simp,.inr ⟨_,rfl,?_⟩⟩;simp only[go_sem];rw[Ij E hi hp]
   |false=>
    rw[hp]at f10;refine .inl ⟨_,by simp only[go_sem,S,J,O,Y,f1,f2,f3,f4,f9,f10,hc];rfl,?_⟩;simp only[go_sem,S,J,O];exact⟨rfl,jo E hi hp⟩) (by
   clear hL;rintro ⟨T,σ,nx⟩ ⟨hn,G,S,J,O,Y,hi⟩;simp only at hn G S J O Y;subst hn G;exact⟨_,by simp only[go_sem,O,Y,zk];rfl,by simp,.inl ⟨_,rfl,jq fun i h=>hi i h h⟩⟩) (by
   simp only[go_sem];exact fun i _ h=>absurd h (zX _))
 rcases hr with ⟨T,rfl,J⟩|⟨T,rfl,J⟩
 .simp only[go_sem,J]
 .simp only[go_sem,J]
theorem Kr{α:Type}(p:α->Bool)(xs:List α):ix p xs<0↔∀x∈xs,p x=false:=by
 unfold ix
 by_cases h:xs.findIdx p<xs.length
 .rw[sH h]
  refine⟨fun E=>absurd E (by omega),fun E=>?_⟩;have:=List.findIdx_eq_length.mpr E;omega
 .rw[sJ h]
  exact⟨fun _=>List.findIdx_eq_length.mp (Nat.le_antisymm (List.findIdx_le_length) (by omega)),fun _=>by omega⟩
theorem ad6(xs:List Member)(g:FuncId)(p:Member->Bool)(t:V)(h:xs.length<=maxLen)(hc:conv g= .KH)(G:strip lI 7 t=some (t,[]))(E:strip lI 6 t=some (t,[]))(J:∀x∈xs,fn ZL conv ext g [.agg (cMember x),t]=some (Bo (p x))) :
  fn ZL conv ext 207 [LL cMember xs,.clo g [t]]=some (Bo (decide (0<=ix p xs))):=by
 have O:=V9 xs (.clo g [t]) g p t h hc G J;rw[m_,mg [.tmp 4] [] func207];simp only[go_sem,O,G,E]
theorem aar(xs:List Int)(g:FuncId)(p:Int->Bool)(h:xs.length<=maxLen)(hc:conv g= .KH)(E:∀x∈xs,fn ZL conv ext g [I x]=some (Bo (p x))) :
  fn ZL conv ext 152 [LI xs,.clo g []]=some (Bo (decide (0<=ix p xs))):=by
 have G:=indexInt xs (.clo g []) g p h hc E;rw[m_,mg [.tmp 4] [] func152];simp only[go_sem,G]
noncomputable def pb(p:Prop):Bool:=@decide p (Classical.propDecidable p)
theorem iD{p:Prop}(h:p):pb p=true:=by unfold pb;exact(@decide_eq_true_iff p (Classical.propDecidable p)).mpr h
theorem iE{p:Prop}(h:¬p):pb p=false:=by unfold pb;exact(@decide_eq_false_iff_not p (Classical.propDecidable p)).mpr h
theorem PW{p:Prop}{b:Bool}(h:b=true↔p):b=pb p:=by
 cases b with
 |true=>exact(iD (h.mp rfl)).symm
 |false=>exact(iE (fun hp=>by cases h.mpr hp)).symm
theorem iw{p:Prop}(h:pb p=true):p:=by
 unfold pb at h;exact(@decide_eq_true_iff p (Classical.propDecidable p)).mp h
def inB(n a b:Int):Bool:=decide (a<=n) && decide (n<=b)
theorem ji(n a b:Int):fn ZL conv ext 50 [I n,I a,I b]=some (Bo (inB n a b)):=by
 unfold inB;rw[m_,mg [.tmp 6] [] func50]
 by_cases h:a<=n<;>simp only[go_sem,h]
theorem ajV(n:Int):fn ZL conv ext 167 [I n]=some (Bo (inB n (-100) 100)):=by
 unfold inB;rw[m_,mg [.tmp 2] [] func167]
 by_cases h:-100<=n<;>simp only[go_sem,h]
theorem ajW(n:Int):fn ZL conv ext 154 [I n]=some (Bo (inB n (0) 1000)):=by
 unfold inB;rw[m_,mg [.tmp 2] [] func154]
 by_cases h:0<=n<;>simp only[go_sem,h]
theorem abM(n:Int):fn ZL conv ext 255 [I n]=some (Bo (inB n (-50) 50)):=by
 unfold inB;rw[m_,mg [.tmp 2] [] func255]
 by_cases h:-50<=n<;>simp only[go_sem,h]
def Ef(b:UInt8):Bool:=decide (97<=(b.toNat:Int)) && decide ((b.toNat:Int)<=122)
def EK(b:UInt8):Bool:=decide (48<=(b.toNat:Int)) && decide ((b.toNat:Int)<=57)
theorem agp(b:UInt8):fn ZL conv ext 149 [.sc (.int .u8 b.toNat)]=some (Bo (Ef b)):=by
 unfold Ef;rw[m_,mg [.tmp 2] [] func149]
 by_cases h:97<=(b.toNat:Int)<;>simp only[go_sem,h]
theorem isDigit(b:UInt8):fn ZL conv ext 150 [.sc (.int .u8 b.toNat)]=some (Bo (EK b)):=by
 unfold EK;rw[m_,mg [.tmp 2] [] func150]
 by_cases h:48<=(b.toNat:Int)<;>simp only[go_sem,h]
def Es(k:Nat)(b:UInt8):Prop:=Ef b=true\/(k≠0/\EK b=true)
def Ec(s:ByteArray):Prop:=(∀k b,s[k]?=some b->Es k b)/\1<=s.size/\s.size<=8
theorem agq{s:ByteArray}{k:Nat}(h:k<s.size):∃b,s[k]?=some b:=⟨s[k],by simp[h]⟩
theorem abN{s:ByteArray}{k:Nat}{b:UInt8}(h:s[k]?=some b):k<s.size:=by
 by_cases E:k<s.size
 .exact E
 .simp[E]at h
theorem MW{s:ByteArray}(h:∀i b,s[i]?=some b->Es i b):pb (Ec s)=inB s.size 1 8:=by
 unfold inB
 by_cases E:(1:Int)<=s.size
 .by_cases G:(s.size:Int)<=8
  .rw[iD ⟨h,by omega,by omega⟩,sF E,sF G];rfl
  .rw[iE (fun hn=>G (by have:=hn.2.2;omega)),sF E,sD G];rfl
 .rw[iE (fun hn=>E (by have:=hn.2.1;omega)),sD E];rfl
theorem pU{s:ByteArray}{k:Nat}{b:UInt8}(hi:∀i b,i<k->s[i]?=some b->Es i b)(hb:s[k]?=some b)(h:Es k b):∀i b,i<k+1->s[i]?=some b->Es i b:=by
 intro i c E hc;rcases xZ (xX E)with G|G
 .exact hi i c G hc
 .subst G
  rw[hb]at hc;cases hc;exact h
theorem jA{k:Nat}{b:UInt8}(J:Ef b=false)(E:k=0\/EK b=false):¬Es k b:=by
 rintro (h|⟨h,G⟩)
 .rw[J]at h;cases h
 .rcases E with E|E
  .exact h E
  .rw[E]at G;cases G
theorem jc{b:UInt8}(h:¬(97<=(b.toNat:Int))):Ef b=false:=by unfold Ef;rw[sD h];rfl
theorem MX{b:UInt8}(h:¬((b.toNat:Int)<=122)):Ef b=false:=by unfold Ef;rw[sD h,wS]
theorem ad7{b:UInt8}(h:(b.toNat:Int)<48):EK b=false:=by unfold EK;rw[sD (by omega)];rfl
theorem PX{b:UInt8}(h:57<(b.toNat:Int)):EK b=false:=by unfold EK;rw[sD (p:=(b.toNat:Int)<=57) (by omega),wS]
theorem ad8{b:UInt8}(h:¬(b.toNat:Int)<48)(E:¬57<(b.toNat:Int)):EK b=true:=by unfold EK;rw[sF (by omega),sF (by omega)];rfl
theorem abO(s:ByteArray)(hs:okS s):fn ZL conv ext 97 [Sg s]=some (Bo (pb (Ec s))):=by
 have e2:(s.size:Int)<=9223372036854775807:=by unfold okS at hs;omega
 rw[m_,mg [.tmp 2] [] func97];simp only[go_sem];generalize Y:dI _ _=y;obtain⟨r,rfl,hr⟩:=oZ Y s.size (fun k st=>st.nx=0/\st.σ=lI/\st.T 0=Sg s/\st.T 3=I k/\∀i b,i<k->s[i]?=some b->Es i b)
  (fun r=>(∃T,r=(.exit 0,⟨T,lI,0⟩)/\T 0=Sg s/\∀i b,s[i]?=some b->Es i b)\/(∃T,r=(.ret,⟨T,lI,0⟩)/\T 2=Bo false/\¬Ec s)) (by
   clear Y;rintro k ⟨T,σ,nx⟩ a1 ⟨hn,G,E,J,hi⟩;simp only at hn G E J;subst hn G;have f1:(k:Int)<(s.size:Int):=by omega
   have f2:=jD k;have f3:=ZT (n:=(k:Int)+1);obtain⟨b,f4⟩:=agq a1;have no:¬Es k b->¬Ec s:=fun h hn=>h (hn.1 k b f4)
   by_cases c1:97<=(b.toNat:Int)
   .by_cases S:(b.toNat:Int)<=122
    .refine .inl ⟨_,by simp only[go_sem,E,J,f1,f2,f3,f4,c1,S];rfl,?_⟩
     simp only[go_sem,E];exact⟨rfl,pU hi f4 (.inl (by unfold Ef;rw[sF c1,sF S];rfl))⟩
    .have d1:¬(b.toNat:Int)<48:=by omega
     have d2:57<(b.toNat:Int):=by omega
     by_cases O:k=0
     .have f0:((k:Int)==0)=true:=by subst O;rfl
      exact .inr ⟨_,by simp only[go_sem,E,J,f1,f2,f4,c1,S,f0];rfl,by simp,.inr ⟨_,rfl,by simp only[go_sem],no (jA (MX S) (.inl O))⟩⟩
     .have f0:((k:Int)==0)=false:=by simpa using O
      exact .inr ⟨_,by simp only[go_sem,E,J,f1,f2,f4,c1,S,f0,d1,d2];rfl,by simp,.inr ⟨_,rfl,by simp only[go_sem],no (jA (MX S) (.inr (PX d2)))⟩⟩
   .by_cases O:k=0
    .have f0:((k:Int)==0)=true:=by subst O;rfl
     exact .inr ⟨_,by simp only[go_sem,E,J,f1,f2,f4,c1,f0];rfl,by simp,.inr ⟨_,rfl,by simp only[go_sem],no (jA (jc c1) (.inl O))⟩⟩
    .have f0:((k:Int)==0)=false:=by simpa using O
     by_cases d1:(b.toNat:Int)<48
     .exact .inr ⟨_,by simp only[go_sem,E,J,f1,f2,f4,c1,f0,d1];rfl,by simp,.inr ⟨_,rfl,by simp only[go_sem],no (jA (jc c1) (.inr (ad7 d1)))⟩⟩
     .by_cases d2:57<(b.toNat:Int)
      .exact .inr ⟨_,by simp only[go_sem,E,J,f1,f2,f4,c1,f0,d1,d2];rfl,by simp,.inr ⟨_,rfl,by simp only[go_sem],no (jA (jc c1) (.inr (PX d2)))⟩⟩
      .refine .inl ⟨_,by simp only[go_sem,E,J,f1,f2,f3,f4,c1,f0,d1,d2];rfl,?_⟩
       simp only[go_sem,E];exact⟨rfl,pU hi f4 (.inr ⟨O,ad8 d1 d2⟩)⟩) (by
   clear Y;rintro ⟨T,σ,nx⟩ ⟨hn,G,E,J,hi⟩;simp only at hn G E J;subst hn G;refine⟨_,by simp only[go_sem,E,J,zk];rfl,by simp,.inl ⟨_,rfl,?_,fun i b h=>hi i b (abN h) h⟩⟩;simp only[go_sem,E]) (by
   simp only[go_sem];exact fun i b h=>absurd h (zX _))
 rcases hr with ⟨T,rfl,E,h1⟩|⟨T,rfl,E,h1⟩
 .have:=ji s.size 1 8
  simp only[go_sem,E,MW h1,this]
 .simp only[go_sem,E,iE h1]
theorem toList_empty(s:ByteArray):(s.toList==({ data:=#[] }:ByteArray).toList)=decide (s.size=0):=by
 have e:(s.toList=[])=(s.size=0):=by
  rw[ByteArray.toList_eq];refine propext ⟨fun h=>?_,fun h=>zZ (by rw[yR];exact h)⟩;have:=congrArg List.length h;rw[yR]at this;exact this
 have E:({ data:=#[] }:ByteArray).toList=[]:=ByteArray.toList_mk [];rw[E]
 by_cases h:s.size=0
 .rw[e.mpr h,sF h];rfl
 .rw[sD h]
  cases G:s.toList with
  |nil=>exact absurd (e.mp G) h
  |cons a l=>rfl
theorem abP(s:ByteArray)(hs:okS s):fn ZL conv ext 92 [Sg s]=some (Bo (pb (Ec s))):=by
 have e2:(s.size:Int)<=9223372036854775807:=by unfold okS at hs;omega
 rw[m_,mg [.tmp 2] [] func92];simp only[go_sem];generalize hL:dI _ _=y;obtain⟨r,rfl,hr⟩:=oZ hL s.size (fun k st=>st.nx=0/\st.σ=lI/\st.T 0=Sg s/\st.T 5=I s.size/\st.T 6=I k/\∀i b,i<k->s[i]?=some b->Es i b)
  (fun r=>(∃T,r=(.exit 0,⟨T,lI,0⟩)/\T 0=Sg s/\∀i b,s[i]?=some b->Es i b)\/(∃T,r=(.ret,⟨T,lI,0⟩)/\T 2=Bo false/\¬Ec s)) (by
   clear hL;rintro k ⟨T,σ,nx⟩ a1 ⟨hn,G,E,J,O,hi⟩;simp only at hn G E J O;subst hn G;have f1:(k:Int)<(s.size:Int):=by omega
   have f2:=jD k;have f3:=ZT (n:=(k:Int)+1);obtain⟨b,f4⟩:=agq a1;have no:¬Es k b->¬Ec s:=fun h hn=>h (hn.1 k b f4)
   have g1:=agp b;have g2:=isDigit b;cases Y:Ef b with
   |true=>
    rw[Y]at g1;refine .inl ⟨_,by simp only[go_sem,E,O,J,f1,f2,f3,f4,g1];rfl,?_⟩;simp only[go_sem,E,J];exact⟨rfl,pU hi f4 (.inl Y)⟩
   |false=>
    rw[Y]at g1
    by_cases S:k=0
    .have f0:((k:Int)==0)=true:=by subst S;rfl
     exact .inr ⟨_,by simp only[go_sem,E,O,J,f1,f2,f4,g1,f0];rfl,by simp,.inr ⟨_,rfl,by simp only[go_sem],no (jA Y (.inl S))⟩⟩
    .have f0:((k:Int)==0)=false:=by simpa using S
     cases hd:EK b with
     |true=>
      rw[hd]at g2;refine .inl ⟨_,by simp only[go_sem,E,O,J,f1,f2,f3,f4,g1,g2,f0];rfl,?_⟩;simp only[go_sem,E,J];exact⟨rfl,pU hi f4 (.inr ⟨S,hd⟩)⟩
     |false=>
      rw[hd]at g2;exact .inr ⟨_,by simp only[go_sem,E,O,J,f1,f2,f4,g1,g2,f0];rfl,by simp,.inr ⟨_,rfl,by simp only[go_sem],no (jA Y (.inr hd))⟩⟩) (by
   clear hL;rintro ⟨T,σ,nx⟩ ⟨hn,G,E,J,O,hi⟩;simp only at hn G E J O;subst hn G;refine⟨_,by simp only[go_sem,E,O,J,zk];rfl,by simp,.inl ⟨_,rfl,?_,fun i b h=>hi i b (abN h) h⟩⟩;simp only[go_sem,E]) (by
   simp only[go_sem];exact fun i b h=>absurd h (zX _))
 rcases hr with ⟨T,rfl,E,h1⟩|⟨T,rfl,E,h1⟩
 .have he:=toList_empty s
  rw[MW h1];unfold inB
  by_cases S:s.size=0
  .have:¬(1:Int)<=s.size:=by omega
   rw[sF S]at he;simp only[go_sem,E,this,he]
  .have:(1:Int)<=s.size:=by omega
   rw[sD S]at he;simp only[go_sem,E,this,he]
 .simp only[go_sem,E,iE h1]
noncomputable def Et(j:Joint):Bool:=pb (Ec j.name) && (inB j.x (-50) 50 && inB j.y (-50) 50)
theorem agr(j:Joint)(h:okJoint j):fn ZL conv ext 210 [.agg (cJoint j)]=some (Bo (Et j)):=by
 have t1:=abO j.name h.1;have t2:=ji j.x (-50) 50;have t3:=ji j.y (-50) 50;unfold Et;generalize pb (Ec j.name)=b1 at *;generalize inB j.x (-50) 50=E at *;generalize inB j.y (-50) 50=G at *;rw[m_,mg [.tmp 2] [] func210];cases b1<;>cases E<;>simp only[go_sem,t1,t2,t3]
theorem ags(j:Joint)(h:okJoint j):fn ZL conv ext 205 [.agg (cJoint j)]=some (Bo (Et j)):=by
 have t1:=abP j.name h.1;have t2:=abM j.x;have t3:=abM j.y;unfold Et;generalize pb (Ec j.name)=b1 at *;generalize inB j.x (-50) 50=E at *;generalize inB j.y (-50) 50=G at *;rw[m_,mg [.tmp 2] [] func205];cases b1<;>cases E<;>simp only[go_sem,t1,t2,t3]
abbrev isNamed(name:ByteArray)(s:Stance):Bool:=s.name.toList==name.toList
abbrev BA(name:ByteArray)(s:Joint):Bool:=s.name.toList==name.toList
theorem Jt(name:ByteArray)(s:Stance):fn ZL conv ext 96 [.agg (cStance s),.tp [Sg name] 0]=some (Bo (isNamed name s)):=by
 rw[m_,mg [.tmp 3] [] func96];simp only[go_sem]
theorem Sl(y:Yard)(name:ByteArray)(h:y.stances.length<=maxLen):fn ZL conv ext 46 [.agg (cYard y),Sg name]=some (I (ix (isNamed name) y.stances)):=by
 have E:=V8 y.stances (.tp [Sg name] 0) 96 (isNamed name) (.tp [Sg name] 0) h (by rfl) (by rfl) (fun x _=>Jt name x);rw[m_,mg [.tmp 4] [] func46];simp only[go_sem,E]
theorem Sm(y:Yard)(name:ByteArray)(h:y.stances.length<=maxLen):fn ZL conv ext 49 [.agg (cYard y),Sg name]=some (I (ix (isNamed name) y.stances)):=by
 have e2:(y.stances.length:Int)<=9223372036854775807:=by unfold maxLen at h;omega
 rw[m_,mg [.tmp 4] [] func49];simp only[go_sem];generalize Y:dI _ _=z;generalize a1:y.stances=xs at *;obtain⟨r,rfl,hr⟩:=oZ Y xs.length (fun k st=>st.T 1=Sg name/\st.T 8=LL cStance xs/\st.T 9=I xs.length/\st.T 10=I k/\∀i (h:i<xs.length),i<k->isNamed name xs[i]=false)
  (fun r=>(∃st,r=(.exit 0,st)/\ix (isNamed name) xs= -1)\/(∃st,r=(.ret,st)/\st.T 4=I (ix (isNamed name) xs))) (by
   clear Y;rintro k ⟨T,σ,nx⟩ J ⟨G,S,O,E,hi⟩;simp only at G S O E;have f1:(k:Int)<(xs.length:Int):=by omega
   have f2:=jD k;have f3:=ZT (n:=(k:Int)+1);have f4:=aao xs k J;have f5:=MV xs;have f6:k*5+5<=xs.length*5:=by omega
   have f9:=aap xs k J;cases hp:isNamed name xs[k]with
   |true=>
    refine .inr ⟨_,by simp only[go_sem,G,S,O,E,f1,f2,f4,f5,f6,f9,hp];rfl,by simp,.inr ⟨_,rfl,?_⟩⟩;simp only[go_sem];rw[Ij J hi hp]
   |false=>
    refine .inl ⟨_,by simp only[go_sem,G,S,O,E,f1,f2,f3,f4,f5,f6,f9,hp];rfl,?_⟩;simp only[go_sem,G,S,O];exact⟨rfl,jo J hi hp⟩) (by
   clear Y;rintro ⟨T,σ,nx⟩ ⟨G,S,O,E,hi⟩;simp only at G S O E;exact⟨_,by simp only[go_sem,O,E,zk];rfl,by simp,.inl ⟨_,rfl,jq fun i h=>hi i h h⟩⟩) (by
   simp only[go_sem];exact fun i _ h=>absurd h (zX _))
 rcases hr with ⟨⟨T,σ,nx⟩,rfl,G⟩|⟨⟨T,σ,nx⟩,rfl,G⟩
 .simp only[go_sem,G]
 .simp only at G
  simp only[go_sem,G]
theorem KO(name:ByteArray)(s:Joint):fn ZL conv ext 257 [.agg (cJoint s),.tp [Sg name] 0]=some (Bo (BA name s)):=by
 rw[m_,mg [.tmp 3] [] func257];simp only[go_sem]
theorem V_(y:Structure)(name:ByteArray)(h:y.joints.length<=maxLen):fn ZL conv ext 206 [.agg (cStructure y),Sg name]=some (I (ix (BA name) y.joints)):=by
 have E:=aaq y.joints (.tp [Sg name] 0) 257 (BA name) (.tp [Sg name] 0) h (by rfl) (by rfl) (fun x _=>KO name x);rw[m_,mg [.tmp 4] [] func206];simp only[go_sem,E]
theorem Wh(y:Structure)(name:ByteArray)(h:y.joints.length<=maxLen):fn ZL conv ext 211 [.agg (cStructure y),Sg name]=some (I (ix (BA name) y.joints)):=by
 have e2:(y.joints.length:Int)<=9223372036854775807:=by unfold maxLen at h;omega
 rw[m_,mg [.tmp 4] [] func211];simp only[go_sem];generalize Y:dI _ _=z;generalize a1:y.joints=xs at *;obtain⟨r,rfl,hr⟩:=oZ Y xs.length (fun k st=>st.T 1=Sg name/\st.T 8=LL cJoint xs/\st.T 9=I xs.length/\st.T 10=I k/\∀i (h:i<xs.length),i<k->BA name xs[i]=false)
  (fun r=>(∃st,r=(.exit 0,st)/\ix (BA name) xs= -1)\/(∃st,r=(.ret,st)/\st.T 4=I (ix (BA name) xs))) (by
   clear Y;rintro k ⟨T,σ,nx⟩ J ⟨G,S,O,E,hi⟩;simp only at G S O E;have f1:(k:Int)<(xs.length:Int):=by omega
   have f2:=jD k;have f3:=ZT (n:=(k:Int)+1);have f4:=KN xs k J;have f5:=Gf xs;have f6:k*4+4<=xs.length*4:=by omega
   have f9:=O1 xs k J;cases hp:BA name xs[k]with
   |true=>
    refine .inr ⟨_,by simp only[go_sem,G,S,O,E,f1,f2,f4,f5,f6,f9,hp];rfl,by simp,.inr ⟨_,rfl,?_⟩⟩;simp only[go_sem];rw[Ij J hi hp]
   |false=>
    refine .inl ⟨_,by simp only[go_sem,G,S,O,E,f1,f2,f3,f4,f5,f6,f9,hp];rfl,?_⟩;simp only[go_sem,G,S,O];exact⟨rfl,jo J hi hp⟩) (by
   clear Y;rintro ⟨T,σ,nx⟩ ⟨G,S,O,E,hi⟩;simp only at G S O E;exact⟨_,by simp only[go_sem,O,E,zk];rfl,by simp,.inl ⟨_,rfl,jq fun i h=>hi i h h⟩⟩) (by
   simp only[go_sem];exact fun i _ h=>absurd h (zX _))
 rcases hr with ⟨⟨T,σ,nx⟩,rfl,G⟩|⟨⟨T,σ,nx⟩,rfl,G⟩
 .simp only[go_sem,G]
 .simp only at G
  simp only[go_sem,G]
def Wi(a b:Joint):Bool:=(!(a.x==b.x)|| !(a.y==b.y)) && !(a.fixed && b.fixed)
def Gy(n:Nat)(m:Member):Prop:=0<=m.a/\m.a<n/\0<=m.b/\m.b<n/\1<=m.kind/\m.kind<=3
noncomputable def O4(E:List Joint)(m:Member):Bool:=pb (Gy E.length m/\∀a b,E[m.a.toNat]?=some a->E[m.b.toNat]?=some b->Wi a b=true)
theorem jK{E:List Joint}{m:Member}(h:¬Gy E.length m):O4 E m=false:=iE fun hn=>h hn.1
theorem Ju{E:List Joint}{m:Member}(h:Gy E.length m){a b:Joint}(ha:E[m.a.toNat]?=some a)(hb:E[m.b.toNat]?=some b):O4 E m=Wi a b:=by
 refine(PW ⟨fun hp=>⟨h,fun c d hc G=>?_⟩,fun hn=>hn.2 a b ha hb⟩).symm;rw[ha]at hc;rw[hb]at G;cases hc;cases G;exact hp
set_option maxRecDepth 100000 in
theorem ad9(row:List V)(off:Nat)(E:List Joint)(m:Member)(G:row[off]?=some (LL cJoint E))(hl:E.length<=maxLen):fn ZL conv ext 209 [.tp row off,.agg (cMember m)]=some (Bo (O4 E m)):=by
 rw[m_,mg [.tmp 4] [4] func209]
 by_cases c1:m.a<0
 .rw[jK (fun h=>by have:=h.1;omega)]
  simp only[go_sem,G,c1]
 by_cases J:(E.length:Int)<=m.a
 .rw[jK (fun h=>by have:=h.2.1;omega)]
  simp only[go_sem,G,c1,J]
 by_cases O:m.b<0
 .rw[jK (fun h=>by have:=h.2.2.1;omega)]
  simp only[go_sem,G,c1,J,O]
 by_cases S:(E.length:Int)<=m.b
 .rw[jK (fun h=>by have:=h.2.2.2.1;omega)]
  simp only[go_sem,G,c1,J,O,S]
 by_cases Y:m.kind<1
 .rw[jK (fun h=>by have:=h.2.2.2.2.1;omega)]
  simp only[go_sem,G,c1,J,O,S,Y]
 by_cases c6:3<m.kind
 .rw[jK (fun h=>by have:=h.2.2.2.2.2;omega)]
  simp only[go_sem,G,c1,J,O,S,Y,c6]
 have a1:0<=m.a:=by omega
 have a2:m.a<E.length:=by omega
 have b1:0<=m.b:=by omega
 have b2:m.b<E.length:=by omega
 have a3:m.a.toNat<E.length:=by omega
 have b3:m.b.toNat<E.length:=by omega
 rw[Ju ⟨a1,a2,b1,b2,by omega,by omega⟩ (zy a3) (zy b3)];have f4:=KN E _ a3;have g4:=KN E _ b3;have f5:=Gf E;have f6:m.a.toNat *4+4<=E.length*4:=by omega
 have g6:m.b.toNat *4+4<=E.length*4:=by omega
 have f9:=O1 E _ a3;generalize E[m.a.toNat]=a at *;generalize E[m.b.toNat]=b at *;unfold Wi;cases hx:(a.x==b.x)<;>cases hy:(a.y==b.y)<;>cases ha:a.fixed<;>cases hb:b.fixed<;>
  (simp only[go_sem,G,c1,J,O,S,Y,c6,a1,a2,b1,b2,f4,g4,f5,f6,g6,f9,hx,hy,ha,hb,bne])<;>rfl
def Aj(s:Structure):Prop:=s.joints.length<=6/\s.members.length<=8/\(∀i (h:i<s.joints.length),Et s.joints[i]=true/\ix (BA s.joints[i].name) s.joints=i)/\∀m∈s.members,O4 s.joints m=true
theorem Jv(s:Structure)(m:Member)(E:s.joints.length<=maxLen):fn ZL conv ext 208 [.agg (cMember m),.tp (cStructure s) 0]=some (Bo (!O4 s.joints m)):=by
 have G:=ad9 (cStructure s) 0 s.joints m rfl E;rw[m_,mg [.tmp 3] [] func208];simp only[go_sem,G]
theorem Io(s:Structure)(h:okStructure s):fn ZL conv ext 151 [.agg (cStructure s)]=some (Bo (pb (Aj s))):=by
 have e2:(s.joints.length:Int)<=9223372036854775807:=by have:=h.1.2.1;omega
 have hm:=ad6 s.members 208 (fun m=> !O4 s.joints m) (.tp (cStructure s) 0) h.2.2.2 (by rfl) (by rfl) (by rfl) (fun x _=>Jv s x h.1.2.2);rw[m_,mg [.tmp 2] [] func151]
 by_cases c1:(6:Int)<s.joints.length
 .rw[iE (fun hn=>by have:=hn.1;omega)]
  simp only[go_sem,c1]
 by_cases c2:(8:Int)<s.members.length
 .rw[iE (fun hn=>by have:=hn.2.1;omega)]
  simp only[go_sem,c1,c2]
 simp only[go_sem,c1,c2];generalize hL:dI _ _=y;obtain⟨r,rfl,hr⟩:=oZ hL s.joints.length (fun k st=>0<st.nx/\st.σ 0=some ⟨cStructure s,0,true⟩/\st.T 1= .rp 0 0/\st.T 16=LL cJoint s.joints/\st.T 17=I s.joints.length/\st.T 18=I k/\∀i (h:i<s.joints.length),i<k->Et s.joints[i]=true/\ix (BA s.joints[i].name) s.joints=i)
  (fun r=>(∃T σ nx,r=(.exit 0,⟨T,σ,nx⟩)/\σ 0=some ⟨cStructure s,0,true⟩/\T 1= .rp 0 0/\∀i (h:i<s.joints.length),Et s.joints[i]=true/\ix (BA s.joints[i].name) s.joints=i)\/(∃T σ nx,r=(.ret,⟨T,σ,nx⟩)/\T 2=Bo false/\¬Aj s)) (by
   clear hL;rintro k ⟨T,σ,nx⟩ S ⟨hn,E,Y,J,G,O,hi⟩;simp only at hn E Y J G O;have f1:(k:Int)<(s.joints.length:Int):=by omega
   have f2:=jD k;have f3:=ZT (n:=(k:Int)+1);have f4:=KN s.joints k S;have f5:=Gf s.joints;have f6:k*4+4<=s.joints.length*4:=by omega
   have f9:=O1 s.joints k S;have t1:=ags s.joints[k] (h.1.1 _ (zu S));have t2:=V_ s s.joints[k].name h.1.2.2;have nz:¬0=nx:=by omega
   cases hj:Et s.joints[k]with
   |false=>
    rw[hj]at t1;refine .inr ⟨_,by simp only[go_sem,Y,J,G,O,f1,f2,f4,f5,f6,f9,t1,nz];rfl,by simp,.inr ⟨_,_,_,rfl,?_,fun hn=>?_⟩⟩
    .simp only[go_sem]
    .have:=(hn.2.2.1 k S).1
     rw[hj]at this;cases this
   |true=>
    rw[hj]at t1
    by_cases hk:ix (BA s.joints[k].name) s.joints=k
    .rw[hk]at t2
     refine .inl ⟨_,by simp only[go_sem,Y,J,G,O,E,f1,f2,f3,f4,f5,f6,f9,t1,t2,nz];rfl,?_⟩;simp only[go_sem,Y,J,G,E,nz];refine⟨by omega,rfl,fun i a1 a6=>?_⟩;rcases xZ (xX a6)with q|q
     .exact hi i a1 q
     .subst q;exact⟨hj,hk⟩
    .have a7:(ix (BA s.joints[k].name) s.joints !=(k:Int))=true:=by simpa using hk
     refine .inr ⟨_,by simp only[go_sem,Y,J,G,O,E,f1,f2,f4,f5,f6,f9,t1,t2,a7,nz];rfl,by simp,.inr ⟨_,_,_,rfl,?_,fun hn=>hk (hn.2.2.1 k S).2⟩⟩;simp only[go_sem]) (by
   clear hL;rintro ⟨T,σ,nx⟩ ⟨hn,E,Y,J,G,O,hi⟩;simp only at hn E Y J G O;exact⟨_,by simp only[go_sem,G,O,zk];rfl,by simp,.inl ⟨_,_,_,rfl,E,by simp only[go_sem,Y],fun i h=>hi i h h⟩⟩) (by
   simp only[go_sem];exact fun i _ h=>absurd h (zX _))
 rcases hr with ⟨T,σ,nx,rfl,E,Y,hj⟩|⟨T,σ,nx,rfl,h2,hn⟩
 .have:pb (Aj s)= !decide (0<=ix (fun m=> !O4 s.joints m) s.members):=by
   refine(PW ?_).symm;rw[vG,decide_eq_false_iff_not,Int.not_le,Kr];exact⟨fun hq=>⟨by omega,by omega,hj,fun m hm=>by simpa using hq m hm⟩,fun hq m hm=>by simp[hq.2.2.2 m hm]⟩
  rw[this];simp only[go_sem,E,Y,hm]
 .simp only[go_sem,h2,iE hn]
theorem kF{n a b:Int}(h:inB n a b=false):¬(a<=n/\n<=b):=by
 unfold inB at h;intro hn;rw[sF hn.1,sF hn.2]at h;cases h
theorem kE{n a b:Int}(h:inB n a b=true):a<=n/\n<=b:=by
 unfold inB at h;rw[zA,decide_eq_true_eq,decide_eq_true_eq]at h;exact h
theorem dK(s:Structure)(h:okStructure s):fn ZL conv ext 155 [.agg (cStructure s)]=some (Bo (pb (Aj s))):=by
 have e2:(s.joints.length:Int)<=9223372036854775807:=by have:=h.1.2.1;omega
 have e3:(s.members.length:Int)<=9223372036854775807:=by have:=h.2.2.1;omega
 rw[m_,mg [.tmp 2] [] func155]
 by_cases c1:(6:Int)<s.joints.length
 .rw[iE (fun hn=>by have:=hn.1;omega)]
  simp only[go_sem,c1]
 by_cases c2:(8:Int)<s.members.length
 .rw[iE (fun hn=>by have:=hn.2.1;omega)]
  simp only[go_sem,c1,c2]
 simp only[go_sem,c1,c2];generalize hL:dI _ _=y;obtain⟨r,rfl,hr⟩:=oZ hL s.joints.length (fun k st=>0<st.nx/\st.σ 0=some ⟨cStructure s,0,true⟩/\st.T 1= .rp 0 0/\st.T 21=LL cJoint s.joints/\st.T 22=I s.joints.length/\st.T 23=I k/\∀i (h:i<s.joints.length),i<k->Et s.joints[i]=true/\ix (BA s.joints[i].name) s.joints=i)
  (fun r=>(∃T σ nx,r=(.exit 0,⟨T,σ,nx⟩)/\0<nx/\σ 0=some ⟨cStructure s,0,true⟩/\T 1= .rp 0 0/\∀i (h:i<s.joints.length),Et s.joints[i]=true/\ix (BA s.joints[i].name) s.joints=i)\/(∃T σ nx,r=(.ret,⟨T,σ,nx⟩)/\T 2=Bo false/\¬Aj s)) (by
   clear hL;rintro k ⟨T,σ,nx⟩ O ⟨hn,E,G,a7,Y,a8,hi⟩;simp only at hn E G a7 Y a8;have f1:(k:Int)<(s.joints.length:Int):=by omega
   have f2:=jD k;have f3:=ZT (n:=(k:Int)+1);have f4:=KN s.joints k O;have f5:=Gf s.joints;have f6:k*4+4<=s.joints.length*4:=by omega
   have f9:=O1 s.joints k O;have t1:=agr s.joints[k] (h.1.1 _ (zu O));have t2:=Wh s s.joints[k].name h.1.2.2;have nz:¬0=nx:=by omega
   cases hj:Et s.joints[k]with
   |false=>
    rw[hj]at t1;refine .inr ⟨_,by simp only[go_sem,G,a7,Y,a8,f1,f2,f4,f5,f6,f9,t1,nz];rfl,by simp,.inr ⟨_,_,_,rfl,?_,fun hn=>?_⟩⟩
    .simp only[go_sem]
    .have:=(hn.2.2.1 k O).1
     rw[hj]at this;cases this
   |true=>
    rw[hj]at t1
    by_cases hk:ix (BA s.joints[k].name) s.joints=k
    .rw[hk]at t2
     refine .inl ⟨_,by simp only[go_sem,G,a7,Y,a8,E,f1,f2,f3,f4,f5,f6,f9,t1,t2,nz];rfl,?_⟩;simp only[go_sem,G,a7,Y,E,nz];refine⟨by omega,rfl,fun i b4 b5=>?_⟩;rcases xZ (xX b5)with q|q
     .exact hi i b4 q
     .subst q;exact⟨hj,hk⟩
    .have b9:(ix (BA s.joints[k].name) s.joints !=(k:Int))=true:=by simpa using hk
     refine .inr ⟨_,by simp only[go_sem,G,a7,Y,a8,E,f1,f2,f4,f5,f6,f9,t1,t2,b9,nz];rfl,by simp,.inr ⟨_,_,_,rfl,?_,fun hn=>hk (hn.2.2.1 k O).2⟩⟩;simp only[go_sem]) (by
   clear hL;rintro ⟨T,σ,nx⟩ ⟨hn,E,G,a7,Y,a8,hi⟩;simp only at hn E G a7 Y a8;exact⟨_,by simp only[go_sem,Y,a8,zk];rfl,by simp,.inl ⟨_,_,_,rfl,hn,E,by simp only[go_sem,G],fun i h=>hi i h h⟩⟩) (by
   simp only[go_sem];exact fun i _ h=>absurd h (zX _))
 rcases hr with ⟨T,σ,nx,rfl,c0,E,G,hj⟩|⟨T,σ,nx,rfl,h2,hn⟩
 .clear hL
  have e4:=ZT (n:=(s.joints.length:Int) - 1);simp only[go_sem,E,G,e4];generalize hL:dI _ _=y;obtain⟨r,rfl,hr⟩:=oZ hL s.members.length (fun k st=>0<st.nx/\st.σ 0=some ⟨cStructure s,0,true⟩/\st.T 1= .rp 0 0/\st.T 5=I ((s.joints.length:Int) - 1)/\st.T 45=LL cMember s.members/\st.T 46=I s.members.length/\st.T 47=I k/\∀i (h:i<s.members.length),i<k->O4 s.joints s.members[i]=true)
   (fun r=>(∃T σ nx,r=(.exit 2,⟨T,σ,nx⟩)/\∀i (h:i<s.members.length),O4 s.joints s.members[i]=true)\/(∃T σ nx,r=(.ret,⟨T,σ,nx⟩)/\T 2=Bo false/\¬Aj s)) (by
    clear hL;rintro k ⟨T,σ,nx⟩ O ⟨hn,E,G,h5,a6,J,S,hi⟩;simp only at hn E G h5 a6 J S;have f1:(k:Int)<(s.members.length:Int):=by omega
    have f2:=jD k;have f3:=ZT (n:=(k:Int)+1);have f4:=Ik s.members k O;have f5:=E_ s.members;have f6:k*3+3<=s.members.length*3:=by omega
    have f9:=Il s.members k O;have no:O4 s.joints s.members[k]=false->¬Aj s:=fun hb hn=>by
     rw[hn.2.2.2 _ (zu O)]at hb;cases hb
    obtain⟨m,b8⟩:∃m,m=s.members[k]:=⟨_,rfl⟩;rw[<- b8]at f4 no;have t1:=ji m.a 0 ((s.joints.length:Int) - 1);have t2:=ji m.b 0 ((s.joints.length:Int) - 1);have t3:=ji m.kind 1 3;have nz:¬0=nx:=by omega
    cases ha:inB m.a 0 ((s.joints.length:Int) - 1)with
    |false=>
     rw[ha]at t1;refine .inr ⟨_,by simp only[go_sem,G,h5,a6,J,S,E,f1,f2,f4,f5,f6,f9,t1,nz];rfl,by simp,.inr ⟨_,_,_,rfl,by simp only[go_sem],no (jK fun hm=>?_)⟩⟩;exact kF ha ⟨hm.1,by have:=hm.2.1;omega⟩
    |true=>
    rw[ha]at t1;cases hb:inB m.b 0 ((s.joints.length:Int) - 1)with
    |false=>
     rw[hb]at t2;refine .inr ⟨_,by simp only[go_sem,G,h5,a6,J,S,E,f1,f2,f4,f5,f6,f9,t1,t2,nz];rfl,by simp,.inr ⟨_,_,_,rfl,by simp only[go_sem],no (jK fun hm=>?_)⟩⟩;exact kF hb ⟨hm.2.2.1,by have:=hm.2.2.2.1;omega⟩
    |true=>
    rw[hb]at t2;cases hc:inB m.kind 1 3 with
    |false=>
     rw[hc]at t3;refine .inr ⟨_,by simp only[go_sem,G,h5,a6,J,S,E,f1,f2,f4,f5,f6,f9,t1,t2,t3,nz];rfl,by simp,.inr ⟨_,_,_,rfl,by simp only[go_sem],no (jK fun hm=>?_)⟩⟩;exact kF hc ⟨hm.2.2.2.2.1,hm.2.2.2.2.2⟩
    |true=>
    rw[hc]at t3;have qa:=kE ha;have qb:=kE hb;have qc:=kE hc;have a1:0<=m.a:=qa.1;have a2:m.a<s.joints.length:=by omega
    have b1:0<=m.b:=qb.1;have b2:m.b<s.joints.length:=by omega
    have a3:m.a.toNat<s.joints.length:=by omega
    have b3:m.b.toNat<s.joints.length:=by omega
    have hp:=Ju ⟨a1,a2,b1,b2,qc.1,qc.2⟩ (zy a3) (zy b3);have k4:=KN s.joints _ a3;have g4:=KN s.joints _ b3;have k5:=Gf s.joints;have k6:m.a.toNat *4+4<=s.joints.length*4:=by omega
    have g6:m.b.toNat *4+4<=s.joints.length*4:=by omega
    have k9:=O1 s.joints _ a3;generalize s.joints[m.a.toNat]=a at *;generalize s.joints[m.b.toNat]=b at *;unfold Wi at hp;have n1:¬nx=nx+1:=by omega
    have n2:¬nx=nx+1+1:=by omega
    have n3:¬nx+1=nx+1+1:=by omega
    have n4:¬0=nx+1:=by omega
    have n5:¬0=nx+1+1:=by omega
    cases hx:(a.x==b.x)<;>cases hy:(a.y==b.y)<;>cases b6:a.fixed<;>cases b7:b.fixed<;>simp only[hx,hy,b6,b7,um,vU,Bool.or_true,Bool.true_or,Bool.or_false,Bool.and_true,wS,xC,ug]at hp<;>
    first
    |(refine .inl ⟨_,by simp only[go_sem,G,h5,a6,J,S,E,f1,f2,f3,f4,f5,f6,f9,t1,t2,t3,nz,a1,a2,b1,b2,k4,g4,k5,k6,g6,k9,n1,n2,n3,n4,n5,hx,hy,b6,b7];rfl,?_⟩
      simp only[go_sem,G,h5,a6,J,E,nz,n4,n5];refine⟨by omega,rfl,fun i b4 b5=>?_⟩;rcases xZ (xX b5)with q|q
      .exact hi i b4 q
      .subst q;rw[<- b8];exact hp)
    |exact .inr ⟨_,by simp only[go_sem,G,h5,a6,J,S,E,f1,f2,f4,f5,f6,f9,t1,t2,t3,nz,a1,a2,b1,b2,k4,g4,k5,k6,g6,k9,n1,n2,n3,n4,n5,hx,hy,b6,b7];rfl,by simp,.inr ⟨_,_,_,rfl,by simp only[go_sem],no hp⟩⟩) (by
    clear hL;rintro ⟨T,σ,nx⟩ ⟨hn,E,G,h5,a6,J,S,hi⟩;simp only at hn E G J S;exact⟨_,by simp only[go_sem,J,S,zk];rfl,by simp,.inl ⟨_,_,_,rfl,fun i h=>hi i h h⟩⟩) (by
    simp only[go_sem,G,E];exact⟨c0,fun i _ h=>absurd h (zX _)⟩)
  rcases hr with ⟨T,σ,nx,rfl,hm⟩|⟨T,σ,nx,rfl,h2,hn⟩
  .have:Aj s:=⟨by omega,by omega,hj,fun m c3=>by obtain⟨i,hi,rfl⟩:=yZ c3;exact hm i hi⟩
   simp only[go_sem,iD this]
  .simp only[go_sem,h2,iE hn]
 .simp only[go_sem,h2,iE hn]
def Ai(n:Nat)(l:List Int):Prop:=l.length=2*n/\∀x∈l,inB x (-100) 100=true
def AZ(n:Nat)(l:List Int):Prop:=l.length=n/\∀x∈l,inB x 0 1000=true
theorem O5(x:Int):fn ZL conv ext 166 [I x]=some (Bo (!inB x (-100) 100)):=by
 have E:=ajV x;rw[m_,mg [.tmp 2] [] func166];simp only[go_sem,E]
theorem KP(x:Int):fn ZL conv ext 153 [I x]=some (Bo (!inB x 0 1000)):=by
 have E:=ajW x;rw[m_,mg [.tmp 2] [] func153];simp only[go_sem,E]
theorem PY(row:List V)(off:Nat)(E:List Joint)(l:List Int)(S:row[off]?=some (LL cJoint E))(hj:E.length<=140737488351232)(hl:l.length<=maxLen):fn ZL conv ext 107 [.tp row off,LI l]=some (Bo (pb (Ai E.length l))):=by
 have Y:=ZT (n:=2*(E.length:Int));have h1:=aar l 166 (fun x=> !inB x (-100) 100) hl (by rfl) (fun x _=>O5 x);rw[m_,mg [.tmp 4] [] func107]
 by_cases J:(l.length:Int)=2*(E.length:Int)
 .have G:((l.length:Int)==2*(E.length:Int))=true:=by simpa using J
  have:pb (Ai E.length l)= !decide (0<=ix (fun x=> !inB x (-100) 100) l):=by
   refine(PW ?_).symm;rw[vG,decide_eq_false_iff_not,Int.not_le,Kr];exact⟨fun O=>⟨by omega,fun m hm=>by simpa using O m hm⟩,fun O m hm=>by simp[O.2 m hm]⟩
  rw[this];simp only[go_sem,S,Y,h1,G]
 .have G:((l.length:Int)==2*(E.length:Int))=false:=by simpa using J
  rw[iE (fun hn=>J (by have:=hn.1;omega))];simp only[go_sem,S,Y,G]
theorem Kt(row:List V)(off:Nat)(G:List Member)(l:List Int)(S:row[off+1]?=some (LL cMember G))(Y:l.length<=maxLen):fn ZL conv ext 94 [.tp row off,LI l]=some (Bo (pb (AZ G.length l))):=by
 have h1:=aar l 153 (fun x=> !inB x 0 1000) Y (by rfl) (fun x _=>KP x);rw[m_,mg [.tmp 4] [] func94]
 by_cases J:(l.length:Int)=(G.length:Int)
 .have E:((l.length:Int)==(G.length:Int))=true:=by simpa using J
  have:pb (AZ G.length l)= !decide (0<=ix (fun x=> !inB x 0 1000) l):=by
   refine(PW ?_).symm;rw[vG,decide_eq_false_iff_not,Int.not_le,Kr];exact⟨fun O=>⟨by omega,fun m hm=>by simpa using O m hm⟩,fun O m hm=>by simp[O.2 m hm]⟩
  rw[this];simp only[go_sem,S,h1,E]
 .have E:((l.length:Int)==(G.length:Int))=false:=by simpa using J
  rw[iE (fun hn=>J (by have:=hn.1;omega))];simp only[go_sem,S,E]
theorem abQ(s:Structure)(l:List Int)(h:okStructure s)(E:l.length<=maxLen):fn ZL conv ext 93 [.agg (cStructure s),LI l]=some (Bo (pb (Aj s) && pb (Ai s.joints.length l))):=by
 have G:=Io s h;have J:=PY (cStructure s) 0 s.joints l rfl (by have:=h.1.2.1;omega) E;rw[m_,mg [.tmp 4] [] func93];generalize pb (Aj s)=b at *;cases b<;>simp only[go_sem,G,J]
theorem abR(s:Structure)(l:List Int)(h:okStructure s)(hl:l.length<=maxLen):fn ZL conv ext 98 [.agg (cStructure s),LI l]=some (Bo (pb (Aj s) && pb (Ai s.joints.length l))):=by
 have h1:=dK s h;have e2:(l.length:Int)<=9223372036854775807:=by unfold maxLen at hl;omega
 have e1:=ZT (n:=2*(s.joints.length:Int)) (by have:=h.1.2.1;have:=h.2.2.1;omega) (by have:=h.1.2.1;have:=h.2.2.1;omega);rw[m_,mg [.tmp 4] [] func98];generalize pb (Aj s)=b at *;cases b with
 |false=>simp only[go_sem,h1]
 |true=>
 by_cases h2:(l.length:Int)=2*(s.joints.length:Int)
 .have S:((l.length:Int) !=2*(s.joints.length:Int))=false:=by simpa using h2
  simp only[go_sem,h1,e1,S];generalize hL:dI _ _=y;obtain⟨r,rfl,hr⟩:=oZ hL l.length (fun k st=>st.T 19=LI l/\st.T 20=I l.length/\st.T 21=I k/\∀i (h:i<l.length),i<k->inB l[i] (-100) 100=true)
   (fun r=>(∃T σ nx,r=(.exit 0,⟨T,σ,nx⟩)/\Ai s.joints.length l)\/(∃T σ nx,r=(.ret,⟨T,σ,nx⟩)/\T 4=Bo false/\¬Ai s.joints.length l)) (by
    clear hL;rintro k ⟨T,σ,nx⟩ Y ⟨G,E,J,hi⟩;simp only at G E J;have f1:(k:Int)<(l.length:Int):=by omega
    have f2:=jD k;have f3:=ZT (n:=(k:Int)+1);have f4:(l.flatMap cI)[k]?=some (I l[k]):=cu I l k Y;have f9:=AU l k Y;have t1:=ji l[k] (-100) 100;cases hb:inB l[k] (-100) 100 with
    |true=>
     rw[hb]at t1;refine .inl ⟨_,by simp only[go_sem,G,E,J,f1,f2,f3,f4,f9,t1];rfl,?_⟩;simp only[go_sem,G,E];refine⟨rfl,fun i O a1=>?_⟩;rcases xZ (xX a1)with q|q
     .exact hi i O q
     .subst q;exact hb
    |false=>
     rw[hb]at t1;refine .inr ⟨_,by simp only[go_sem,G,E,J,f1,f2,f4,f9,t1];rfl,by simp,.inr ⟨_,_,_,rfl,by simp only[go_sem],fun hn=>?_⟩⟩;have:=hn.2 _ (zu Y);rw[hb]at this;cases this) (by
    clear hL;rintro ⟨T,σ,nx⟩ ⟨G,E,J,hi⟩;simp only at G E J;exact⟨_,by simp only[go_sem,E,J,zk];rfl,by simp,.inl ⟨_,_,_,rfl,by omega,fun x hx=>by obtain⟨i,O,rfl⟩:=yZ hx;exact hi i O O⟩⟩) (by
    simp only[go_sem];exact fun i _ h=>absurd h (zX _))
  rcases hr with ⟨T,σ,nx,rfl,hm⟩|⟨T,σ,nx,rfl,h2,hn⟩
  .simp only[go_sem,iD hm]
  .simp only[go_sem,h2,iE hn]
 .have S:((l.length:Int) !=2*(s.joints.length:Int))=true:=by simpa using h2
  rw[iE (p:=Ai s.joints.length l) (fun hn=>h2 (by have:=hn.1;omega))];simp only[go_sem,h1,e1,S]
theorem PZ(s:Structure)(l:List Int)(h:okStructure s)(hl:l.length<=maxLen):fn ZL conv ext 99 [.agg (cStructure s),LI l]=some (Bo (pb (Aj s) && pb (AZ s.members.length l))):=by
 have h1:=dK s h;have e2:(l.length:Int)<=9223372036854775807:=by unfold maxLen at hl;omega
 have e1:=ZT (n:=(s.members.length:Int)) (by have:=h.1.2.1;have:=h.2.2.1;omega) (by have:=h.1.2.1;have:=h.2.2.1;omega);rw[m_,mg [.tmp 4] [] func99];generalize pb (Aj s)=b at *;cases b with
 |false=>simp only[go_sem,h1]
 |true=>
 by_cases h2:(l.length:Int)=(s.members.length:Int)
 .have S:((l.length:Int) !=(s.members.length:Int))=false:=by simpa using h2
  simp only[go_sem,h1,e1,S];generalize hL:dI _ _=y;obtain⟨r,rfl,hr⟩:=oZ hL l.length (fun k st=>st.T 18=LI l/\st.T 19=I l.length/\st.T 20=I k/\∀i (h:i<l.length),i<k->inB l[i] 0 1000=true)
   (fun r=>(∃T σ nx,r=(.exit 0,⟨T,σ,nx⟩)/\AZ s.members.length l)\/(∃T σ nx,r=(.ret,⟨T,σ,nx⟩)/\T 4=Bo false/\¬AZ s.members.length l)) (by
    clear hL;rintro k ⟨T,σ,nx⟩ Y ⟨G,E,J,hi⟩;simp only at G E J;have f1:(k:Int)<(l.length:Int):=by omega
    have f2:=jD k;have f3:=ZT (n:=(k:Int)+1);have f4:(l.flatMap cI)[k]?=some (I l[k]):=cu I l k Y;have f9:=AU l k Y;have t1:=ji l[k] 0 1000;cases hb:inB l[k] 0 1000 with
    |true=>
     rw[hb]at t1;refine .inl ⟨_,by simp only[go_sem,G,E,J,f1,f2,f3,f4,f9,t1];rfl,?_⟩;simp only[go_sem,G,E];refine⟨rfl,fun i O a1=>?_⟩;rcases xZ (xX a1)with q|q
     .exact hi i O q
     .subst q;exact hb
    |false=>
     rw[hb]at t1;refine .inr ⟨_,by simp only[go_sem,G,E,J,f1,f2,f4,f9,t1];rfl,by simp,.inr ⟨_,_,_,rfl,by simp only[go_sem],fun hn=>?_⟩⟩;have:=hn.2 _ (zu Y);rw[hb]at this;cases this) (by
    clear hL;rintro ⟨T,σ,nx⟩ ⟨G,E,J,hi⟩;simp only at G E J;exact⟨_,by simp only[go_sem,E,J,zk];rfl,by simp,.inl ⟨_,_,_,rfl,by omega,fun x hx=>by obtain⟨i,O,rfl⟩:=yZ hx;exact hi i O O⟩⟩) (by
    simp only[go_sem];exact fun i _ h=>absurd h (zX _))
  rcases hr with ⟨T,σ,nx,rfl,hm⟩|⟨T,σ,nx,rfl,h2,hn⟩
  .simp only[go_sem,iD hm]
  .simp only[go_sem,h2,iE hn]
 .have S:((l.length:Int) !=(s.members.length:Int))=true:=by simpa using h2
  rw[iE (p:=AZ s.members.length l) (fun hn=>h2 (by have:=hn.1;omega))];simp only[go_sem,h1,e1,S]
noncomputable def Cj(t:Stance):Bool:=pb (Ec t.name) && ((pb (Aj t.st) && pb (Ai t.st.joints.length t.load)) && pb (AZ t.st.members.length t.limits))
theorem P5(t:Stance)(h:okStance t):fn ZL conv ext 45 [.agg (cStance t)]=some (Bo (Cj t)):=by
 have E:=abP t.name h.1;have G:=abQ t.st t.load h.2.1 h.2.2.1.2.2;have J:=Kt (cStance t) 1 t.st.members t.limits rfl h.2.2.2.2.2;unfold Cj;generalize pb (Ec t.name)=b1 at *;generalize (pb (Aj t.st) && pb (Ai t.st.joints.length t.load))=O at *;rw[m_,mg [.tmp 2] [] func45];cases b1<;>cases O<;>simp only[go_sem,E,G,J]
theorem P6(t:Stance)(h:okStance t):fn ZL conv ext 48 [.agg (cStance t)]=some (Bo (Cj t)):=by
 have E:=abO t.name h.1;have G:=abR t.st t.load h.2.1 h.2.2.1.2.2;have J:=PZ t.st t.limits h.2.1 h.2.2.2.2.2;unfold Cj;generalize pb (Ec t.name)=b1 at *;generalize pb (Aj t.st)=O at *;generalize pb (Ai t.st.joints.length t.load)=S at *;rw[m_,mg [.tmp 2] [] func48];cases b1<;>cases O<;>cases S<;>simp only[go_sem,E,G,J]
set_option maxRecDepth 100000 in
theorem ajX(x y:Operand)(a b c d:Int):Aw ZL .eql 87 x y (.agg [I a,I b]) (.agg [I c,I d])=some (Bo ((a==c) && (b==d))):=by
 refine aai (us:=[.int .i64 a,.int .i64 b]) (vs:=[.int .i64 c,.int .i64 d]) (by kernel_rfl) Tryz.underlying87 (by kernel_rfl) rfl rfl ?_;refine(o9 (a:=.int .i64 a) (b:=.int .i64 c) (r:=a==c) (by decide) (by kernel_rfl) (by kernel_rfl) (o8 _ _ _ _ _ _ Tryz.underlying3)).trans ?_;cases (a==c)
 .rfl
 .refine(o9 (a:=.int .i64 b) (b:=.int .i64 d) (r:=b==d) (by decide) (by kernel_rfl) (by kernel_rfl) (o8 _ _ _ _ _ _ Tryz.underlying3)).trans ?_
  cases (b==d)<;>rfl
attribute [go_sem] ajX
def BF(m o:TV.Move):Bool:=(m.fr==o.fr) && (m.to==o.to)
theorem MZ(m o:TV.Move):BF m o=BF o m:=by
 unfold BF;rw[Bool.beq_comm (a:=m.fr),Bool.beq_comm (a:=m.to)]
def aas:=d_ (c:=cMove) (s:=2) (fun _=>rfl)
def aat:=bg (c:=cMove) (s:=2) (fun _=>rfl) (by omega)
def Ku:=bZ (c:=cMove) (s:=2) (fun _=>rfl)
theorem P7(xs:List TV.Move)(m:TV.Move)(h:xs.length<=maxLen):fn ZL conv ext 47 [LL cMove xs,.agg (cMove m)]=some (I (ix (BF m) xs)):=by
 have e2:(xs.length:Int)<=9223372036854775807:=by unfold maxLen at h;omega
 rw[m_,mg [.tmp 4] [] func47];simp only[go_sem];generalize hL:dI _ _=y;obtain⟨r,rfl,hr⟩:=oZ hL xs.length (fun k st=>0<st.nx/\st.σ 0=some ⟨cMove m,0,true⟩/\st.T 0=LL cMove xs/\st.T 3= .rp 0 0/\st.T 7=I xs.length/\st.T 8=I k/\∀i (h:i<xs.length),i<k->BF m xs[i]=false)
  (fun r=>(∃T σ nx,r=(.exit 0,⟨T,σ,nx⟩)/\ix (BF m) xs= -1)\/(∃T σ nx,r=(.ret,⟨T,σ,nx⟩)/\T 4=I (ix (BF m) xs))) (by
   clear hL;rintro k ⟨T,σ,nx⟩ G ⟨hn,E,Y,J,O,S,hi⟩;simp only at hn E Y J O S;have f1:(k:Int)<(xs.length:Int):=by omega
   have f2:=jD k;have f3:=ZT (n:=(k:Int)+1);have f4:=aas xs k G;have f5:=Ku xs;have f6:k*2+2<=xs.length*2:=by omega
   have f9:=aat xs k G;cases hp:BF m xs[k]with
   |true=>
    refine .inr ⟨_,by unfold BF at hp;simp only[go_sem,Y,J,O,S,hn,E,f1,f2,f4,f5,f6,f9,hp];rfl,by simp,.inr ⟨_,_,_,rfl,?_⟩⟩;simp only[go_sem];rw[Ij G hi hp]
   |false=>
    refine .inl ⟨_,by unfold BF at hp;simp only[go_sem,Y,J,O,S,hn,E,f1,f2,f3,f4,f5,f6,f9,hp];rfl,?_⟩;simp only[go_sem,Y,J,O,E];exact⟨hn,rfl,jo G hi hp⟩) (by
   clear hL;rintro ⟨T,σ,nx⟩ ⟨hn,E,Y,J,O,S,hi⟩;simp only at O S;exact⟨_,by simp only[go_sem,O,S,zk];rfl,by simp,.inl ⟨_,_,_,rfl,jq fun i h=>hi i h h⟩⟩) (by
   simp only[go_sem];exact fun i _ h=>absurd h (zX _))
 rcases hr with ⟨T,σ,nx,rfl,J⟩|⟨T,σ,nx,rfl,J⟩
 .simp only[go_sem,J]
 .simp only[go_sem,J]
def CY(n:Nat)(m:TV.Move):Prop:=0<=m.fr/\m.fr<n/\0<=m.to/\m.to<n/\m.fr≠m.to
def Ak(y:Yard):Prop:=y.stances.length<=6/\y.moves.length<=12/\(∀i (h:i<y.stances.length),Cj y.stances[i]=true/\ix (isNamed y.stances[i].name) y.stances=i)/\∀i (h:i<y.moves.length),CY y.stances.length y.moves[i]/\ix (BF y.moves[i]) y.moves=i
theorem Lh(s:Yard)(h:okYard s):fn ZL conv ext 7 [.agg (cYard s)]=some (Bo (pb (Ak s))):=by
 have e2:(s.stances.length:Int)<=9223372036854775807:=by have:=h.1.2.1;omega
 have e3:(s.moves.length:Int)<=9223372036854775807:=by have:=h.2.1.2.1;omega
 rw[m_,mg [.tmp 2] [] func7]
 by_cases c1:(6:Int)<s.stances.length
 .rw[iE (fun hn=>by have:=hn.1;omega)]
  simp only[go_sem,c1]
 by_cases c2:(12:Int)<s.moves.length
 .rw[iE (fun hn=>by have:=hn.2.1;omega)]
  simp only[go_sem,c1,c2]
 simp only[go_sem,c1,c2];generalize hL:dI _ _=y;obtain⟨r,rfl,hr⟩:=oZ hL s.stances.length (fun k st=>0<st.nx/\st.σ 0=some ⟨cYard s,0,true⟩/\st.T 1= .rp 0 0/\st.T 20=LL cStance s.stances/\st.T 21=I s.stances.length/\st.T 22=I k/\st.T 3=I s.stances.length/\∀i (h:i<s.stances.length),i<k->Cj s.stances[i]=true/\ix (isNamed s.stances[i].name) s.stances=i)
  (fun r=>(∃T σ nx,r=(.exit 0,⟨T,σ,nx⟩)/\0<nx/\σ 0=some ⟨cYard s,0,true⟩/\T 1= .rp 0 0/\T 3=I s.stances.length/\∀i (h:i<s.stances.length),Cj s.stances[i]=true/\ix (isNamed s.stances[i].name) s.stances=i)\/(∃T σ nx,r=(.ret,⟨T,σ,nx⟩)/\T 2=Bo false/\¬Ak s)) (by
   clear hL;rintro k ⟨T,σ,nx⟩ S ⟨hn,E,J,a6,a1,a7,h3,hi⟩;simp only at hn E J a6 a1 a7 h3;have f1:(k:Int)<(s.stances.length:Int):=by omega
   have f2:=jD k;have f3:=ZT (n:=(k:Int)+1);have f4:=aao s.stances k S;have f5:=MV s.stances;have f6:k*5+5<=s.stances.length*5:=by omega
   have f9:=aap s.stances k S;have t1:=P5 s.stances[k] (h.1.1 _ (zu S));have t2:=Sl s s.stances[k].name h.1.2.2;have nz:¬0=nx:=by omega
   cases hj:Cj s.stances[k]with
   |false=>
    rw[hj]at t1;refine .inr ⟨_,by simp only[go_sem,J,a6,a1,a7,f1,f2,f4,f5,f6,f9,t1,nz];rfl,by simp,.inr ⟨_,_,_,rfl,?_,fun hn=>?_⟩⟩
    .simp only[go_sem]
    .have:=(hn.2.2.1 k S).1
     rw[hj]at this;cases this
   |true=>
    rw[hj]at t1
    by_cases hk:ix (isNamed s.stances[k].name) s.stances=k
    .rw[hk]at t2
     refine .inl ⟨_,by simp only[go_sem,J,a6,a1,a7,E,f1,f2,f3,f4,f5,f6,f9,t1,t2,nz];rfl,?_⟩;simp only[go_sem,J,a6,a1,E,nz,h3];refine⟨by omega,rfl,fun i b2 b3=>?_⟩;rcases xZ (xX b3)with q|q
     .exact hi i b2 q
     .subst q;exact⟨hj,hk⟩
    .have b6:(ix (isNamed s.stances[k].name) s.stances !=(k:Int))=true:=by simpa using hk
     refine .inr ⟨_,by simp only[go_sem,J,a6,a1,a7,E,f1,f2,f4,f5,f6,f9,t1,t2,b6,nz];rfl,by simp,.inr ⟨_,_,_,rfl,?_,fun hn=>hk (hn.2.2.1 k S).2⟩⟩;simp only[go_sem]) (by
   clear hL;rintro ⟨T,σ,nx⟩ ⟨hn,E,J,a6,a1,a7,h3,hi⟩;simp only at hn E J a6 a1 a7 h3;exact⟨_,by simp only[go_sem,a1,a7,zk];rfl,by simp,.inl ⟨_,_,_,rfl,hn,E,by simp only[go_sem,J],by simp only[go_sem,h3],fun i h=>hi i h h⟩⟩) (by
   simp only[go_sem];exact fun i _ h=>absurd h (zX _))
 rcases hr with ⟨T,σ,nx,rfl,b7,E,J,h3,hj⟩|⟨T,σ,nx,rfl,h2,hn⟩
 .clear hL
  simp only[go_sem,E,J];generalize hL:dI _ _=y;obtain⟨r,rfl,hr⟩:=oZ hL s.moves.length (fun k st=>0<st.nx/\st.σ 0=some ⟨cYard s,0,true⟩/\st.T 1= .rp 0 0/\st.T 3=I s.stances.length/\st.T 40=LL cMove s.moves/\st.T 41=I s.moves.length/\st.T 42=I k/\∀i (h:i<s.moves.length),i<k->CY s.stances.length s.moves[i]/\ix (BF s.moves[i]) s.moves=i)
   (fun r=>(∃T σ nx,r=(.exit 2,⟨T,σ,nx⟩)/\∀i (h:i<s.moves.length),CY s.stances.length s.moves[i]/\ix (BF s.moves[i]) s.moves=i)\/(∃T σ nx,r=(.ret,⟨T,σ,nx⟩)/\T 2=Bo false/\¬Ak s)) (by
    clear hL;rintro k ⟨T,σ,nx⟩ S ⟨hn,E,J,h5,Y,G,O,hi⟩;simp only at hn E J h5 Y G O;have f1:(k:Int)<(s.moves.length:Int):=by omega
    have f2:=jD k;have f3:=ZT (n:=(k:Int)+1);have f4:=aas s.moves k S;have f5:=Ku s.moves;have f6:k*2+2<=s.moves.length*2:=by omega
    have f9:=aat s.moves k S;have no:¬CY s.stances.length s.moves[k]->¬Ak s:=fun hb hn=>hb (hn.2.2.2 k S).1
    have b5:¬ix (BF s.moves[k]) s.moves=k->¬Ak s:=fun hb hn=>hb (hn.2.2.2 k S).2
    have done:CY s.stances.length s.moves[k]->ix (BF s.moves[k]) s.moves=k->∀i (h:i<s.moves.length),i<k+1->CY s.stances.length s.moves[i]/\ix (BF s.moves[i]) s.moves=i:=fun g1 g2 i b2 b3=>by
     rcases xZ (xX b3)with q|q
     .exact hi i b2 q
     .subst q;exact⟨g1,g2⟩
    have nz:¬0=nx:=by omega
    have t1:=P7 s.moves s.moves[k] h.2.1.2.2;generalize b9:ix (BF s.moves[k]) s.moves=ii at t1 b5 done;obtain⟨m,b8⟩:∃m,m=s.moves[k]:=⟨_,rfl⟩;rw[<- b8]at f4 no done t1
    by_cases c1:m.fr<0
    .refine .inr ⟨_,by simp only[go_sem,J,h5,Y,G,O,E,f1,f2,f4,f5,f6,f9,nz,c1];rfl,by simp,.inr ⟨_,_,_,rfl,by simp only[go_sem],no fun hm=>?_⟩⟩
     have:=hm.1;omega
    by_cases c2:(s.stances.length:Int)<=m.fr
    .refine .inr ⟨_,by simp only[go_sem,J,h5,Y,G,O,E,f1,f2,f4,f5,f6,f9,nz,c1,c2];rfl,by simp,.inr ⟨_,_,_,rfl,by simp only[go_sem],no fun hm=>?_⟩⟩
     have:=hm.2.1;omega
    by_cases c3:m.to<0
    .refine .inr ⟨_,by simp only[go_sem,J,h5,Y,G,O,E,f1,f2,f4,f5,f6,f9,nz,c1,c2,c3];rfl,by simp,.inr ⟨_,_,_,rfl,by simp only[go_sem],no fun hm=>?_⟩⟩
     have:=hm.2.2.1;omega
    by_cases c4:(s.stances.length:Int)<=m.to
    .refine .inr ⟨_,by simp only[go_sem,J,h5,Y,G,O,E,f1,f2,f4,f5,f6,f9,nz,c1,c2,c3,c4];rfl,by simp,.inr ⟨_,_,_,rfl,by simp only[go_sem],no fun hm=>?_⟩⟩
     have:=hm.2.2.2.1;omega
    by_cases c5:m.fr=m.to
    .have a8:(m.fr==m.to)=true:=by simpa using c5
     exact .inr ⟨_,by simp only[go_sem,J,h5,Y,G,O,E,f1,f2,f4,f5,f6,f9,nz,c1,c2,c3,c4,a8];rfl,by simp,.inr ⟨_,_,_,rfl,by simp only[go_sem],no fun hm=>hm.2.2.2.2 c5⟩⟩
    have a8:(m.fr==m.to)=false:=by simpa using c5
    by_cases c6:ii=k
    .have b4:(ii !=(k:Int))=false:=by simpa using c6
     refine .inl ⟨_,by simp only[go_sem,J,h5,Y,G,O,E,f1,f2,f3,f4,f5,f6,f9,nz,c1,c2,c3,c4,a8,b4,t1];rfl,?_⟩;simp only[go_sem,J,h5,Y,G,E,nz];exact⟨by omega,rfl,done ⟨by omega,by omega,by omega,by omega,c5⟩ c6⟩
    .have b4:(ii !=(k:Int))=true:=by simpa using c6
     exact .inr ⟨_,by simp only[go_sem,J,h5,Y,G,O,E,f1,f2,f4,f5,f6,f9,nz,c1,c2,c3,c4,a8,b4,t1];rfl,by simp,.inr ⟨_,_,_,rfl,by simp only[go_sem],b5 c6⟩⟩) (by
    clear hL;rintro ⟨T,σ,nx⟩ ⟨hn,E,J,h5,Y,G,O,hi⟩;simp only at hn E J G O;exact⟨_,by simp only[go_sem,G,O,zk];rfl,by simp,.inl ⟨_,_,_,rfl,fun i h=>hi i h h⟩⟩) (by
    simp only[go_sem,J,E,h3];exact⟨b7,fun i _ h=>absurd h (zX _)⟩)
  rcases hr with ⟨T,σ,nx,rfl,hm⟩|⟨T,σ,nx,rfl,h2,hn⟩
  .have:Ak s:=⟨by omega,by omega,hj,hm⟩
   simp only[go_sem,iD this]
  .simp only[go_sem,h2,iE hn]
 .simp only[go_sem,h2,iE hn]
theorem ad_{α:Type}{p:α->Bool}{xs:List α}{k:Nat}(h:ix p xs=k)(i:Nat)(hi:i<xs.length)(E:i<k):p xs[i]=false:=by
 unfold ix at h
 split at h
 .have:i<xs.findIdx p:=by omega
  simpa using List.not_of_lt_findIdx this
 .omega
theorem abS(s:Yard)(h:okYard s):fn ZL conv ext 8 [.agg (cYard s)]=some (Bo (pb (Ak s))):=by
 have e2:(s.stances.length:Int)<=9223372036854775807:=by have:=h.1.2.1;omega
 have e3:(s.moves.length:Int)<=9223372036854775807:=by have:=h.2.1.2.1;omega
 rw[m_,mg [.tmp 2] [] func8]
 by_cases c1:(6:Int)<s.stances.length
 .rw[iE (fun hn=>by have:=hn.1;omega)]
  simp only[go_sem,c1]
 by_cases c2:(12:Int)<s.moves.length
 .rw[iE (fun hn=>by have:=hn.2.1;omega)]
  simp only[go_sem,c1,c2]
 simp only[go_sem,c1,c2];generalize hL:dI _ _=y;obtain⟨r,rfl,hr⟩:=oZ hL s.stances.length (fun k st=>0<st.nx/\st.σ 0=some ⟨cYard s,0,true⟩/\st.T 1= .rp 0 0/\st.T 21=LL cStance s.stances/\st.T 22=I s.stances.length/\st.T 23=I k/\∀i (h:i<s.stances.length),i<k->Cj s.stances[i]=true/\ix (isNamed s.stances[i].name) s.stances=i)
  (fun r=>(∃T σ nx,r=(.exit 0,⟨T,σ,nx⟩)/\0<nx/\σ 0=some ⟨cYard s,0,true⟩/\T 1= .rp 0 0/\∀i (h:i<s.stances.length),Cj s.stances[i]=true/\ix (isNamed s.stances[i].name) s.stances=i)\/(∃T σ nx,r=(.ret,⟨T,σ,nx⟩)/\T 2=Bo false/\¬Ak s)) (by
   clear hL;rintro k ⟨T,σ,nx⟩ Y ⟨hn,E,S,a7,a6,a8,hi⟩;simp only at hn E S a7 a6 a8;have f1:(k:Int)<(s.stances.length:Int):=by omega
   have f2:=jD k;have f3:=ZT (n:=(k:Int)+1);have f4:=aao s.stances k Y;have f5:=MV s.stances;have f6:k*5+5<=s.stances.length*5:=by omega
   have f9:=aap s.stances k Y;have t1:=P6 s.stances[k] (h.1.1 _ (zu Y));have t2:=Sm s s.stances[k].name h.1.2.2;have nz:¬0=nx:=by omega
   cases hj:Cj s.stances[k]with
   |false=>
    rw[hj]at t1;refine .inr ⟨_,by simp only[go_sem,S,a7,a6,a8,f1,f2,f4,f5,f6,f9,t1,nz];rfl,by simp,.inr ⟨_,_,_,rfl,?_,fun hn=>?_⟩⟩
    .simp only[go_sem]
    .have:=(hn.2.2.1 k Y).1
     rw[hj]at this;cases this
   |true=>
    rw[hj]at t1
    by_cases hk:ix (isNamed s.stances[k].name) s.stances=k
    .rw[hk]at t2
     refine .inl ⟨_,by simp only[go_sem,S,a7,a6,a8,E,f1,f2,f3,f4,f5,f6,f9,t1,t2,nz];rfl,?_⟩;simp only[go_sem,S,a7,a6,E,nz];refine⟨by omega,rfl,fun i a1 b2=>?_⟩;rcases xZ (xX b2)with q|q
     .exact hi i a1 q
     .subst q;exact⟨hj,hk⟩
    .have c6:(ix (isNamed s.stances[k].name) s.stances !=(k:Int))=true:=by simpa using hk
     refine .inr ⟨_,by simp only[go_sem,S,a7,a6,a8,E,f1,f2,f4,f5,f6,f9,t1,t2,c6,nz];rfl,by simp,.inr ⟨_,_,_,rfl,?_,fun hn=>hk (hn.2.2.1 k Y).2⟩⟩;simp only[go_sem]) (by
   clear hL;rintro ⟨T,σ,nx⟩ ⟨hn,E,S,a7,a6,a8,hi⟩;simp only at hn E S a7 a6 a8;exact⟨_,by simp only[go_sem,a6,a8,zk];rfl,by simp,.inl ⟨_,_,_,rfl,hn,E,by simp only[go_sem,S],fun i h=>hi i h h⟩⟩) (by
   simp only[go_sem];exact fun i _ h=>absurd h (zX _))
 rcases hr with ⟨T,σ,nx,rfl,c7,E,S,hj⟩|⟨T,σ,nx,rfl,h2,hn⟩
 .clear hL
  have e4:=ZT (n:=(s.stances.length:Int) - 1);simp only[go_sem,E,S,e4];generalize hL:dI _ _=y;obtain⟨r,rfl,hr⟩:=oZ hL s.moves.length (fun k st=>0<st.nx/\st.σ 0=some ⟨cYard s,0,true⟩/\st.T 1= .rp 0 0/\st.T 5=I ((s.stances.length:Int) - 1)/\st.T 45=LL cMove s.moves/\st.T 46=I s.moves.length/\st.T 47=I k/\∀i (h:i<s.moves.length),i<k->CY s.stances.length s.moves[i]/\ix (BF s.moves[i]) s.moves=i)
   (fun r=>(∃T σ nx,r=(.exit 2,⟨T,σ,nx⟩)/\∀i (h:i<s.moves.length),CY s.stances.length s.moves[i]/\ix (BF s.moves[i]) s.moves=i)\/(∃T σ nx,r=(.ret,⟨T,σ,nx⟩)/\T 2=Bo false/\¬Ak s)) (by
    clear hL;rintro k ⟨T,σ,nx⟩ Y ⟨hn,E,S,h5,O,G,J,hi⟩;simp only at hn E S h5 O G J;have f1:(k:Int)<(s.moves.length:Int):=by omega
    have f2:=jD k;have f3:=ZT (n:=(k:Int)+1);have f4:=aas s.moves k Y;have f5:=Ku s.moves;have f6:k*2+2<=s.moves.length*2:=by omega
    have f9:=aat s.moves k Y;have no:¬CY s.stances.length s.moves[k]->¬Ak s:=fun hb hn=>hb (hn.2.2.2 k Y).1
    have c0:∀i (h:i<s.moves.length),i<k->BF s.moves[i] s.moves[k]=true->¬Ak s:=fun i a1 b2 hb hn=>by
     have:=ad_ (hn.2.2.2 k Y).2 i a1 b2;rw[MZ,hb]at this;cases this
    have done:CY s.stances.length s.moves[k]->(∀i (h:i<s.moves.length),i<k->BF s.moves[i] s.moves[k]=false)->∀i (h:i<s.moves.length),i<k+1->CY s.stances.length s.moves[i]/\ix (BF s.moves[i]) s.moves=i:=fun g1 g2 i a1 b2=>by
     rcases xZ (xX b2)with q|q
     .exact hi i a1 q
     .subst q
      exact⟨g1,Ij a1 (fun j hj c8=>by rw[MZ];exact g2 j hj c8) (by unfold BF;simp)⟩
    have nz:¬0=nx:=by omega
    obtain⟨m,c9⟩:∃m,m=s.moves[k]:=⟨_,rfl⟩;rw[<- c9]at f4 no c0 done;have t1:=ji m.fr 0 ((s.stances.length:Int) - 1);have t2:=ji m.to 0 ((s.stances.length:Int) - 1);cases ha:inB m.fr 0 ((s.stances.length:Int) - 1)with
    |false=>
     rw[ha]at t1;refine .inr ⟨_,by simp only[go_sem,S,h5,O,G,J,E,f1,f2,f4,f5,f6,f9,nz,t1];rfl,by simp,.inr ⟨_,_,_,rfl,by simp only[go_sem],no fun hm=>?_⟩⟩;exact kF ha ⟨hm.1,by have:=hm.2.1;omega⟩
    |true=>
    rw[ha]at t1;cases hb:inB m.to 0 ((s.stances.length:Int) - 1)with
    |false=>
     rw[hb]at t2;refine .inr ⟨_,by simp only[go_sem,S,h5,O,G,J,E,f1,f2,f4,f5,f6,f9,nz,t1,t2];rfl,by simp,.inr ⟨_,_,_,rfl,by simp only[go_sem],no fun hm=>?_⟩⟩;exact kF hb ⟨hm.2.2.1,by have:=hm.2.2.2.1;omega⟩
    |true=>
    rw[hb]at t2
    by_cases c5:m.fr=m.to
    .have b7:(m.fr==m.to)=true:=by simpa using c5
     exact .inr ⟨_,by simp only[go_sem,S,h5,O,G,J,E,f1,f2,f4,f5,f6,f9,nz,t1,t2,b7];rfl,by simp,.inr ⟨_,_,_,rfl,by simp only[go_sem],no fun hm=>hm.2.2.2.2 c5⟩⟩
    have b7:(m.fr==m.to)=false:=by simpa using c5
    have qa:=kE ha;have qb:=kE hb;have c3:CY s.stances.length m:=⟨by omega,by omega,by omega,by omega,c5⟩;have g12:k<=s.moves.length:=by omega
    have g11:(s.moves.flatMap cMove).take (k*2)=(s.moves.take k).flatMap cMove:=by
     have e:=congrArg (fun l=>l.take (k*2)) (congrArg (fun l:List TV.Move=>l.flatMap cMove) (wC k s.moves)).symm;simp only[zT]at e;rw[e,wu];rw[Ku,zh,xK g12]
    refine bC ?_
    conv=>
     enter [1,x,1,1]
     simp only[go_sem,S,h5,O,G,J,E,f1,f2,f4,f5,f6,f9,nz,t1,t2,b7,g11,g12,Nat.sub_zero,vV]
    generalize hL:dI _ _=z;obtain⟨r,rfl,hr⟩:=oZ hL k (fun j st=>nx<st.nx/\st.σ 0=some ⟨cYard s,0,true⟩/\st.σ nx=some ⟨cMove m,0,true⟩/\st.T 1= .rp 0 0/\st.T 5=I ((s.stances.length:Int) - 1)/\st.T 7= .rp nx 0/\st.T 45=LL cMove s.moves/\st.T 46=I s.moves.length/\st.T 47=I k/\st.T 74= .ts ((s.moves.take k).flatMap cMove) k/\st.T 75=I k/\st.T 76=I j/\∀i (h:i<s.moves.length),i<j->BF s.moves[i] m=false)
     (fun r=>(∃T' σ' nx',r=(.exit 4,⟨T',σ',nx'⟩)/\0<nx'/\σ' 0=some ⟨cYard s,0,true⟩/\T' 1= .rp 0 0/\T' 5=I ((s.stances.length:Int) - 1)/\T' 45=LL cMove s.moves/\T' 46=I s.moves.length/\T' 47=I k/\∀i (h:i<s.moves.length),i<k->BF s.moves[i] m=false)\/(∃T' σ' nx',r=(.ret,⟨T',σ',nx'⟩)/\T' 2=Bo false/\¬Ak s)) (by
      clear hL;rintro j ⟨T',σ',nx'⟩ e0 ⟨hn,E,b4,S,h5,h7,O,G,J,b5,b3,b6,b8⟩;simp only at hn E b4 S h5 h7 O G J b5 b3 b6;have hl:(s.moves.take k).length=k:=by rw[zh,xK g12]
      have f1:(j:Int)<(k:Int):=by omega
      have f2:=jD j;have f3:=ZT (n:=(j:Int)+1);have f4:=aas (s.moves.take k) j (by omega);rw[uG]at f4;have f5:=Ku (s.moves.take k);rw[hl]at f5;have f6:j*2+2<=k*2:=by omega
      have f9:=aat (s.moves.take k) j (by omega);have q1:¬nx=nx':=by omega
      have q2:¬0=nx':=by omega
      have e1:j<s.moves.length:=by omega
      cases hp:BF s.moves[j] m with
      |true=>
       have b9:=hp;unfold BF at hp;exact .inr ⟨_,by simp only[go_sem,S,h5,h7,O,G,J,b5,b3,b6,E,b4,f1,f2,f4,f5,f6,f9,q1,q2,hp];rfl,by simp,.inr ⟨_,_,_,rfl,by simp only[go_sem],c0 j e1 e0 b9⟩⟩
      |false=>
       have b9:=hp;unfold BF at hp;refine .inl ⟨_,by simp only[go_sem,S,h5,h7,O,G,J,b5,b3,b6,E,b4,f1,f2,f3,f4,f5,f6,f9,q1,q2,hp];rfl,?_⟩;simp only[go_sem,S,h5,h7,O,G,J,b5,b3,E,b4,q1,q2];refine⟨by omega,rfl,fun i a1 b2=>?_⟩;rcases xZ (xX b2)with q|q
       .exact b8 i a1 q
       .subst q;exact b9) (by
      clear hL;rintro ⟨T',σ',nx'⟩ ⟨hn,E,b4,S,h5,h7,O,G,J,b5,b3,b6,b8⟩;simp only at hn E b4 S h5 h7 O G J b5 b3 b6;refine⟨_,by simp only[go_sem,b3,b6,zk];rfl,by simp,.inl ⟨_,_,_,rfl,by omega,E,?_,?_,?_,?_,?_,b8⟩⟩<;>simp only[go_sem,S,h5,O,G,J]) (by
      simp only[go_sem,S,h5,O,G,J,E,nz];exact⟨by omega,fun i _ h=>absurd h (zX _)⟩)
    rcases hr with ⟨T',σ',nx',rfl,e5,Wj,e6,e7,e8,e9,c4,a1⟩|⟨T',σ',nx',rfl,h0,h3⟩
    .refine⟨_,by simp only[go_sem,c4,f3];rfl,.inl ⟨_,rfl,?_⟩⟩
     simp only[go_sem,e6,e7,e8,e9,Wj];exact⟨e5,rfl,done c3 a1⟩
    .exact⟨_,by simp only[go_sem];rfl,.inr ⟨by simp,.inr ⟨_,_,_,rfl,h0,h3⟩⟩⟩) (by
    clear hL;rintro ⟨T,σ,nx⟩ ⟨hn,E,S,h5,O,G,J,hi⟩;simp only at hn E S G J;exact⟨_,by simp only[go_sem,G,J,zk];rfl,by simp,.inl ⟨_,_,_,rfl,fun i h=>hi i h h⟩⟩) (by
    simp only[go_sem,S,E];exact⟨c7,fun i _ h=>absurd h (zX _)⟩)
  rcases hr with ⟨T,σ,nx,rfl,hm⟩|⟨T,σ,nx,rfl,h2,hn⟩
  .have:Ak s:=⟨by omega,by omega,hj,hm⟩
   simp only[go_sem,iD this]
  .simp only[go_sem,h2,iE hn]
 .simp only[go_sem,h2,iE hn]
def dg(n:Nat):List Int:=if n=0 then []else((n%1000000000:Nat):Int) :: dg (n / 1000000000)
termination_by n
decreasing_by exact su (by omega) (by decide)
theorem oJ:dg 0=[]:=by unfold dg;rfl
theorem oM{n:Nat}(h:n≠0):dg n=((n%1000000000:Nat):Int) :: dg (n / 1000000000):=by rw[dg,sJ h]
theorem abT{k m n:Nat}(h:1000000000^k*m<=n)(hm:1<=m)(hn:n<=18446744073709551615):k<=2:=by
 rcases Nat.lt_or_ge k 3 with E|E
 .omega
 .have:=Nat.pow_le_pow_right (n:=1000000000) (by decide) E
  have G:1000000000^k*1<=1000000000^k*m:=tJ _ hm;have J:(1000000000:Nat)^3=1000000000000000000000000000:=by decide
  omega
theorem M_(n:Nat)(hn:n<=9223372036854775807):fn ZL conv ext 250 [I n]=some (LI (dg n)):=by
 rw[m_,mg [.tmp 2] [] func250];simp only[go_sem];generalize hL:dI _ _=y;obtain⟨r,rfl,T',σ',nx',rfl,hr⟩:=jQ hL (fun m st=>st.T 0=I m/\∃acc,Grow st.T st.σ st.nx 3 acc/\dg n=acc++dg m/\1000000000^acc.length*m<=n)
  (fun r=>∃T σ nx,r=(.exit 0,⟨T,σ,nx⟩)/\Grow T σ nx 3 (dg n)) (by
   clear hL;rintro m ⟨T,σ,nx⟩ ⟨G,acc,E,J,hp⟩;simp only at G E
   by_cases hm:m=0
   .subst hm
    have f0:¬(0:Int)<0:=by omega
    refine .inr ⟨_,by simp only[go_sem,G,f0];rfl,by simp,_,_,_,rfl,?_⟩;rw[oJ,zC]at J;rw[J]
    simpa only[Grow,go_sem]using E
   .have f0:(0:Int)<(m:Int):=by omega
    have hk:=abT hp (by omega) (by omega);have a1:m<=n:=zU (sW _ (Nat.pow_pos (by decide))) hp;have f1:(m:Int).tmod 1000000000=((m%1000000000:Nat):Int):=by rw[wK (by omega)];omega
    have f2:IntKind.i64.wrap ((m:Int).tdiv 1000000000)=((m / 1000000000:Nat):Int):=by
     rw[yG (by omega)];rw[ZT];omega
    have O:dg n=(acc++[((m%1000000000:Nat):Int)])++dg (m / 1000000000):=by rw[J,oM hm];simp
    have S:1000000000^(acc++[((m%1000000000:Nat):Int)]).length*(m / 1000000000)<=n:=by
     rw[zo,yL,uV,uj];exact zU (tJ _ (Nat.mul_div_le _ _)) hp
    have Y:m / 1000000000<m:=su (by omega) (by decide);obtain⟨σ',ha,hs⟩:=kQ E ((m%1000000000:Nat):Int) (by omega);refine .inl ⟨_,by simp only[go_sem,G,f0,f1,f2,ha];rfl,_,Y,?_,_,?_,O,S⟩
    .simp only[go_sem]
    .exact kN hs (by simp[go_sem]) (by simp)) n ⟨by simp only[go_sem],[],.inl ⟨by simp only[go_sem],rfl⟩,rfl,by simp⟩
 obtain⟨ids,h1⟩:=kM hr 6;simp only[go_sem,h1]
def Short(xs:List Int):Prop:=xs.length<=17592186044000
theorem idx{xs:List Int}{k:Nat}(h:k<xs.length):(xs.flatMap cI)[k]?=some (I xs[k]):=cu I xs k h
theorem qJ(xs:List Int)(k:Nat):(xs.flatMap cI).take k=(xs.take k).flatMap cI:=by
 induction xs generalizing k with
 |nil=>simp
 |cons x xs E=>
  cases k with
  |zero=>rfl
  |succ k=>simp[E]
def Ba(a:List Int):List Int:=(a.reverse.dropWhile (·=0)).reverse
theorem Zq(a:List Int)(x:Int):Ba (a++[x])=if x=0 then Ba a else a++[x]:=by
 unfold Ba;simp only[List.reverse_append,List.reverse_cons,List.reverse_nil,yO,List.singleton_append,List.dropWhile_cons,decide_eq_true_eq]
 split<;>simp
theorem aG{a:List Int}{k:Nat}(h:k<a.length):a.take (k+1)=a.take k++[a[k]]:=by rw[yM,zy h];rfl
theorem b_(a:List Int)(ha:Short a):fn ZL conv ext 249 [LI a]=some (LI (Ba a)):=by
 unfold Short at ha;rw[m_,mg [.tmp 2] [] func249];simp only[go_sem];generalize hL:dI _ _=y;obtain⟨r,rfl,T',k,rfl,E,J,S,O⟩:=jQ hL (fun k st=>st.nx=0/\st.σ=lI/\st.T 0=LI a/\st.T 3=I k/\k<=a.length/\Ba a=Ba (a.take k))
  (fun r=>∃T k,r=(.exit 0,⟨T,lI,0⟩)/\T 0=LI a/\T 3=I (k:Nat)/\k<=a.length/\Ba a=a.take k) (by
   clear hL;rintro k ⟨T,σ,nx⟩ ⟨hn,Y,E,J,S,O⟩;simp only at hn Y E J;subst hn Y;cases k with
   |zero=>
    have f0:¬(0:Int)<0:=by omega
    refine .inr ⟨_,by simp only[go_sem,E,J,f0];rfl,by simp,_,0,rfl,by simp only[go_sem,E],by simp only[go_sem,J],S,?_⟩;rw[O];rfl
   |succ k=>
    have G:k<a.length:=by omega
    have f0:(0:Int)<((k+1:Nat):Int):=by omega
    have f1:=ZT (n:=((k+1:Nat):Int) - 1);have f2:((k+1:Nat):Int) - 1=(k:Int):=by omega
    have f3:(k:Int)<(a.length:Int):=by omega
    have f4:=jD k;have f5:=AU a k G;have f6:=idx G;rw[f2]at f1;rw[aG G,Zq]at O
    by_cases hx:a[k]=0
    .have fx:(a[k]==(0:Int))=true:=by simpa using hx
     rw[sH hx]at O;refine .inl ⟨_,by simp only[go_sem,E,J,f0,f1,f2,f3,f4,f5,f6,fx];rfl,k,by omega,?_⟩;simp only[go_sem,E];exact⟨by omega,O⟩
    .have fx:(a[k]==(0:Int))=false:=by simpa using hx
     rw[sJ hx]at O;refine .inr ⟨_,by simp only[go_sem,E,J,f0,f1,f2,f3,f4,f5,f6,fx];rfl,by simp,_,k+1,rfl,by simp only[go_sem,E],by simp only[go_sem,J],S,?_⟩;rw[O,aG G]) a.length ⟨rfl,rfl,by simp only[go_sem],by simp only[go_sem],zq _,by rw[yg]⟩
 have g1:=jD k;have g2:(a.take k).length=k:=by rw[zh,xK S]
 simp only[go_sem,E,J,g1,S,vV,qJ,O];show _=some (V.ts _ (List.take k a).length);rw[g2]
theorem scap(a:List Int)(ha:Short a)(h:(Ba a).length<=60):fn ZL conv ext 248 [LI a]=some (LI (Ba a)):=by
 have E:=b_ a ha;have G:¬(60:Int)<((Ba a).length:Int):=by omega
 rw[m_,mg [.tmp 2] [] func248];simp only[go_sem,E,G]
theorem ajY(a:List Int):(Ba a).length<=a.length:=by
 unfold Ba;rw[List.length_reverse];exact zU (List.dropWhile_suffix _).length_le (by rw[List.length_reverse];exact zq _)
theorem agt(neg:Bool)(a:List Int)(ha:Short a)(h:(Ba a).length<=60):fn ZL conv ext 196 [Bo neg,LI a]=some (.agg [Bo (neg && decide (0<(Ba a).length)),LI (Ba a)]):=by
 have E:=scap a ha h;rw[m_,mg [.cell 4 159] [] func196];generalize Ba a=m at *;cases m with
 |nil=>cases neg<;>simp only[go_sem,E]<;>rfl
 |cons x m=>
  have G:(m.length+1)<=maxLen/\(m.length+1)*8<=140737488355328:=by simp only[zH]at h;unfold maxLen;omega
  have J:¬(m.length+1=0):=by omega
  have hp:(0:Int)<((m.length+1:Nat):Int):=by omega
  have O:0<m.length+1:=by omega
  cases neg<;>simp only[go_sem,E,G,J,hp,O]<;>rfl
theorem Zv(d:Int)(xs:List Int):Ba (d :: xs)=if Ba xs=[]then(if d=0 then []else [d])else d :: Ba xs:=by
 unfold Ba;rw[List.reverse_cons,List.dropWhile_append]
 by_cases h:(xs.reverse.dropWhile fun x=>decide (x=0))=[]
 .rw[h]
  simp only[List.isEmpty_nil,if_true,List.reverse_nil,List.dropWhile_cons,List.dropWhile_nil,decide_eq_true_eq]
  split<;>simp_all
 .rw[sJ (by simpa using h),sJ (by simpa using h)]
  simp
theorem oO{n:Nat}(h:n≠0):dg n≠[]:=by rw[oM h];simp
theorem Zu(n:Nat):Ba (dg n)=dg n:=by
 induction n using Nat.strongRecOn with
 |_ n G=>
  by_cases h:n=0
  .subst h;rw[oJ];rfl
  .rw[oM h,Zv,G _ (su (by omega) (by decide))]
   by_cases E:n / 1000000000=0
   .rw[E,oJ,sH rfl,sJ (by omega)]
   .rw[sJ (oO E)]
theorem aau(k:Nat):∀n:Nat,n<1000000000^k->(dg n).length<=k:=by
 induction k with
 |zero=>intro n h;have:n=0:=by simpa using h
        subst this;rw[oJ];exact zq _
 |succ k G=>
  intro n h
  by_cases E:n=0
  .subst E;rw[oJ];exact vV _
  .rw[oM E,zH]
   have:n / 1000000000<1000000000^k:=Nat.div_lt_of_lt_mul (by rw[uV,wB]at h;exact h);have:=G _ this;omega
theorem oK{n:Nat}(h:n<=9223372036854775807):(dg n).length<=3:=aau 3 n (by omega)
theorem aav(n:Nat):∀x∈dg n,0<=x/\x<=999999999:=by
 induction n using Nat.strongRecOn with
 |_ n G=>
  intro x E
  by_cases h:n=0
  .subst h;rw[oJ]at E;cases E
  .rw[oM h]at E
   rcases List.mem_cons.mp E with rfl|E
   .omega
   .exact G _ (su (by omega) (by decide)) x E
def Cm(a:List Int):Prop:=(∀x∈a,inB x 0 999999999=true)/\a.length<=60/\Ba a=a
theorem aaw{n:Nat}(h:n<=9223372036854775807):Cm (dg n) :=
 ⟨fun x E=>by have:=aav n x E;unfold inB;rw[sF this.1,sF this.2];rfl,by have:=oK h;omega,Zu n⟩
theorem Jw{a:List Int}(h:a≠[]):Ba a=a↔a[a.length-1]'(by have:=List.length_pos_iff.mpr h;omega)≠0:=by
 rcases List.eq_nil_or_concat a with rfl|⟨b,x,e⟩
 .exact absurd rfl h
 .rw[List.concat_eq_append]at e
  subst e;rw[Zq];have:(b++[x])[(b++[x]).length-1]'(by simp)=x:=by simp
  rw[this]
  by_cases E:x=0
  .rw[sH E]
   refine⟨fun e=>?_,fun e=>absurd E e⟩;have:=congrArg List.length e;have G:=ajY b;rw[zo,yL]at this;omega
  .rw[sJ E];exact⟨fun _=>E,fun _=>rfl⟩
theorem Sr(a:List Int)(ha:Short a):fn ZL conv ext 233 [LI a]=some (Bo (pb (Cm a))):=by
 unfold Short at ha;rw[m_,mg [.tmp 2] [] func233];simp only[go_sem];generalize hL:dI _ _=y;obtain⟨r,rfl,hr⟩:=oZ hL a.length (fun k st=>st.nx=0/\st.σ=lI/\st.T 0=LI a/\st.T 5=LI a/\st.T 6=I a.length/\st.T 7=I k/\∀i (h:i<a.length),i<k->inB a[i] 0 999999999=true)
  (fun r=>(∃T,r=(.exit 0,⟨T,lI,0⟩)/\T 0=LI a/\∀x∈a,inB x 0 999999999=true)\/(∃T,r=(.ret,⟨T,lI,0⟩)/\T 2=Bo false/\¬Cm a)) (by
   clear hL;rintro k ⟨T,σ,nx⟩ a1 ⟨hn,O,S,G,E,J,hi⟩;simp only at hn O S G E J;subst hn O;have f1:(k:Int)<(a.length:Int):=by omega
   have f2:=jD k;have f3:=ZT (n:=(k:Int)+1);have f4:=idx a1;have f9:=AU a k a1;have t1:=ji a[k] 0 999999999;cases hb:inB a[k] 0 999999999 with
   |true=>
    rw[hb]at t1;refine .inl ⟨_,by simp only[go_sem,S,G,E,J,f1,f2,f3,f4,f9,t1];rfl,?_⟩;simp only[go_sem,S,G,E];refine⟨rfl,fun i Y a7=>?_⟩;rcases xZ (xX a7)with q|q
    .exact hi i Y q
    .subst q;exact hb
   |false=>
    rw[hb]at t1;refine .inr ⟨_,by simp only[go_sem,G,E,J,f1,f2,f4,f9,t1];rfl,by simp,.inr ⟨_,rfl,by simp only[go_sem],fun hn=>?_⟩⟩;have:=hn.1 _ (zu a1);rw[hb]at this;cases this) (by
   clear hL;rintro ⟨T,σ,nx⟩ ⟨hn,O,S,G,E,J,hi⟩;simp only at hn O S G E J;subst hn O;exact⟨_,by simp only[go_sem,E,J,zk];rfl,by simp,.inl ⟨_,rfl,by simp only[go_sem,S],fun x hx=>by obtain⟨i,Y,rfl⟩:=yZ hx;exact hi i Y Y⟩⟩) (by
   simp only[go_sem];exact fun i _ h=>absurd h (zX _))
 rcases hr with ⟨T,rfl,S,hm⟩|⟨T,rfl,h2,hn⟩
 .by_cases hl:(a.length:Int)<=60
  .by_cases hz:a=[]
   .subst hz
    have:Cm []:=⟨by simp,by simp,rfl⟩;have a8:(0:Int)<=60:=by decide
    simp only[go_sem,S,iD this,a8]
   .have b2:((a.length:Int)==0)=false:=by simpa using hz
    have a6:0<a.length:=List.length_pos_iff.mpr hz;have f1:=ZT (n:=(a.length:Int) - 1);have f2:(0:Int)<=(a.length:Int) - 1:=by omega
    have f3:(a.length:Int) - 1<(a.length:Int):=by omega
    have f4:((a.length:Int) - 1).toNat=a.length-1:=by omega
    have f5:=idx (xs:=a) (k:=a.length-1) (by omega);have f9:=AU a 0 a6;have hg:pb (Cm a)=(a[a.length-1] !=0):=by
     refine(PW ?_).symm;rw[bne_iff_ne,<- Jw hz];exact⟨fun h=>⟨hm,by omega,h⟩,fun h=>h.2.2⟩
    rw[hg];simp only[go_sem,S,hl,b2,f1,f2,f3,f4,f5,f9]
  .rw[iE (fun hn:Cm a=>hl (by have:=hn.2.1;omega))]
   simp only[go_sem,S,hl]
 .simp only[go_sem,h2,iE hn]
theorem P8(neg:Bool)(a:List Int)(ha:Short a):fn ZL conv ext 232 [.agg [Bo neg,LI a]]=some (Bo (pb (Cm a) && (!neg||decide (0<a.length)))):=by
 have G:=Sr a ha;rw[m_,mg [.tmp 2] [] func232];generalize pb (Cm a)=b at *;cases b<;>cases neg<;>simp only[go_sem,G]
 by_cases h:0<a.length
 .have E:(0:Int)<(a.length:Int):=by omega
  simp only[h,E]
 .have E:¬(0:Int)<(a.length:Int):=by omega
  simp only[h,E]
theorem arM(a:List Int)(ha:Short a):fn ZL conv ext 234 [LI a]=some (Bo (decide (a=[1]))):=by
 unfold Short at ha;have G:(0:Int)<1:=by decide
 have z2:(0:Int)<=0:=by decide
 have z3:(0:Int).toNat=0:=id rfl;rw[m_,mg [.tmp 2] [] func234]
 match a with
 |[]=>(simp only[go_sem])<;>rfl
 |[x]=>
  by_cases E:x=1
  .subst E;(simp only[go_sem,G,z2,z3])<;>rfl
  .have:(x==(1:Int))=false:=by simpa using E
   simp only[go_sem,this,G,z2,z3];simp[E]
 |x :: y :: l=>
  have:(((l.length+1+1:Nat):Int)==1)=false:=by rw[sG];omega
  simp only[go_sem,this];simp
theorem Sv(n j:Nat):(dg n).drop j=dg (n / 1000000000^j):=by
 induction j generalizing n with
 |zero=>simp
 |succ j E=>
  by_cases h:n=0
  .subst h;rw[Nat.zero_div,oJ];rfl
  .rw[oM h,List.drop_succ_cons,E,wW,uV,wB]
theorem oQ{n j:Nat}(h:j<(dg n).length):(dg n)[j]=((n / 1000000000^j%1000000000:Nat):Int):=by
 have E:=yN h;rw[Sv]at E;have G:n / 1000000000^j≠0:=fun e=>by rw[e,oJ]at E;cases E
 rw[oM G]at E;exact(List.cons.inj E).1.symm
theorem oS(n:Nat):n / 1000000000^(dg n).length=0:=by
 have h:=Sv n (dg n).length;rw[List.drop_length]at h;exact zf fun hn=>oO hn h.symm
theorem oL(n j:Nat):n / 1000000000^(j+1)*1000000000+n / 1000000000^j%1000000000=n / 1000000000^j:=by
 rw[uV,<- wW];omega
theorem Wn{n:Nat}(h:n<=9223372036854775807):Short (dg n):=by have:=oK h;unfold Short;omega
theorem ajZ(a b:List Int)(h:a.length<b.length)(hb:Short b):fn ZL conv ext 247 [LI a,LI b]=some (I (-1)):=by
 unfold Short at hb;have c1:((a.length:Int) !=(b.length:Int))=true:=by rw[bne_iff_ne];omega
 have E:(a.length:Int)<(b.length:Int):=by omega
 rw[m_,mg [.tmp 4] [] func247];simp only[go_sem,c1,E]
theorem P9(n:Nat)(hn:n<1000000000000000000):fn ZL conv ext 276 [LI (dg n)]=some (.AB [I n,Bo true]):=by
 have hs:=Wn (n:=n) (by omega);have Y:=Sr (dg n) hs;rw[iD (aaw (by omega))]at Y;have a1:(dg n).length<=2:=aau 2 n (by omega);have h2:fn ZL conv ext 247 [LI (dg n),.ts [I 854775807,I 223372036,I 9] 3]=some (I (-1)):=ajZ (dg n) [854775807,223372036,9] (by simp;omega) (by unfold Short;simp)
 have c0:¬(0:Int)< -1:=by decide
 have e1:=ZT (n:=((dg n).length:Int) - 1);rw[m_,mg [.tmp 2,.tmp 3] [] func276];simp only[go_sem,Y,h2,c0,e1];generalize hL:dI _ _=y;obtain⟨r,rfl,T',σ',nx',rfl,G⟩:=jQ hL (fun m st=>st.T 0=LI (dg n)/\st.T 5=I ((m:Int) - 1)/\st.T 4=I (n / 1000000000^m:Nat)/\m<=(dg n).length)
  (fun r=>∃T σ nx,r=(.exit 0,⟨T,σ,nx⟩)/\T 4=I n) (by
   clear hL;rintro m ⟨T,σ,nx⟩ ⟨J,O,G,hm⟩;simp only at J O G;cases m with
   |zero=>
    have f0:¬(0:Int)<=((0:Nat):Int) - 1:=by omega
    have S:¬(0:Int)<=0-1:=by omega
    rw[Nat.pow_zero,wV]at G;exact .inr ⟨_,by simp only[go_sem,J,O,f0,S];rfl,by simp,_,_,_,rfl,by simp only[go_sem,G]⟩
   |succ m=>
    have E:m<(dg n).length:=by omega
    have e5:((m+1:Nat):Int) - 1=(m:Int):=by omega
    rw[e5]at O;have f0:=jD m;have f3:(m:Int)<((dg n).length:Int):=by omega
    have f5:=AU (dg n) m E;have f6:=idx E;rw[oQ E]at f6;have hd:=oL n m;have hle:n / 1000000000^m<=n:=wo _ _;generalize n / 1000000000^(m+1)=u at *;generalize hw:n / 1000000000^m=w at *;have f7:=ZT (n:=(m:Int) - 1);have f8:=ZT (n:=(u:Int)*1000000000);have f9:=ZT (n:=(u:Int)*1000000000+((w%1000000000:Nat):Int));refine .inl ⟨_,by simp only[go_sem,J,O,G,f0,f3,f5,f6,f7,f8,f9];rfl,m,by omega,?_⟩;simp only[go_sem,J];refine⟨?_,by omega⟩;congr 3;omega) (dg n).length ⟨by simp only[go_sem],by simp only[go_sem],by simp only[go_sem,oS],zq _⟩
 simp only[go_sem,G]
theorem ant(x y:Nat)(hx:x<=9223372036854775807)(hy:y<=9223372036854775807):fn ZL conv ext 277 [I x,I y]=some (LI (dg (Nat.gcd x y))):=by
 rw[m_,mg [.tmp 4] [] func277];simp only[go_sem];generalize hL:dI _ _=w;obtain⟨r,rfl,T',rfl,E⟩:=jQ hL (fun b st=>st.nx=0/\st.σ=lI/\∃a:Nat,st.T 0=I a/\st.T 1=I b/\a<=9223372036854775807/\b<=9223372036854775807/\Nat.gcd a b=Nat.gcd x y)
  (fun r=>∃T,r=(.exit 0,⟨T,lI,0⟩)/\T 0=I (Nat.gcd x y:Nat)) (by
   clear hL;rintro b ⟨T,σ,nx⟩ ⟨hn,G,a,E,J,ha,hb,O⟩;simp only at hn G E J;subst hn G;cases b with
   |zero=>
    have f0:¬(0:Int)<0:=by omega
    refine .inr ⟨_,by simp only[go_sem,E,J,f0];rfl,by simp,_,rfl,?_⟩;rw[Nat.gcd_zero_right]at O;simp only[go_sem,E,O]
   |succ b=>
    have f0:(0:Int)<((b+1:Nat):Int):=by omega
    have f1:¬((b+1:Nat):Int)=0:=by omega
    have f2:(a:Int).tmod ((b+1:Nat):Int)=((a%(b+1):Nat):Int):=by rw[wK (by omega)];rfl
    have S:a%(b+1)<b+1:=vJ a (Nat.succ_pos b);refine .inl ⟨_,by simp only[go_sem,E,J,f0,f1,f2];rfl,a%(b+1),S,?_⟩;simp only[go_sem];refine⟨b+1,rfl,hb,by omega,?_⟩;rw[<- O,Nat.gcd_comm a (b+1),Nat.gcd_rec (b+1) a,Nat.gcd_comm]) y ⟨rfl,rfl,x,by simp only[go_sem],by simp only[go_sem],hx,hy,rfl⟩
 have Y:Nat.gcd x y<=9223372036854775807:=by
  rcases Nat.eq_zero_or_pos x with h|h
  .subst h;rw[Nat.gcd_zero_left];exact hy
  .exact zU (Nat.gcd_le_left _ h) hx
 have h3:=M_ (Nat.gcd x y) Y;simp only[go_sem,E,h3]
theorem qy{xs:List Int}(h:xs≠[]):¬xs.length=0:=fun e=>h (zZ e)
def pad(n k:Nat):List Int:=(List.range k).map fun j=>((n / 1000000000^j%1000000000:Nat):Int)
theorem iM(n k:Nat):(pad n k).length=k:=by simp[pad]
theorem aj1(n k j:Nat)(h:j<(pad n k).length):(pad n k)[j]=((n / 1000000000^j%1000000000:Nat):Int):=by simp[pad]
theorem agu(n k:Nat):pad n (k+1)=((n%1000000000:Nat):Int) :: pad (n / 1000000000) k:=by
 unfold pad;rw[List.range_succ_eq_map,uo,List.map_map];congr 1
 .rw[Nat.pow_zero,wV]
 .refine xG fun j _=>?_
  show(((n / 1000000000^(j+1)%1000000000:Nat)):Int)=_;rw[wW,uV,wB]
theorem Ip(k:Nat):∀n:Nat,n<1000000000^k->Ba (pad n k)=dg n:=by
 induction k with
 |zero=>
  intro n h;have:n=0:=by simpa using h
  subst this;rw[oJ];rfl
 |succ k J=>
  intro n h;have:n / 1000000000<1000000000^k:=Nat.div_lt_of_lt_mul (by rw[uV,wB]at h;exact h);rw[agu,Zv,J _ this]
  by_cases E:n=0
  .subst E
   rw[Nat.zero_div,oJ,sH rfl,sH (by decide)]
  .rw[oM E]
   by_cases G:n / 1000000000=0
   .rw[G,oJ,sH rfl,sJ (by omega)]
   .rw[sJ (oO G)]
theorem Lj(j:Nat)(z v:V)(r:List V):(rep (j+1) [z]++r).set j v=rep j [z]++v :: r:=by
 induction j with
 |zero=>rfl
 |succ j E=>
  have G:rep (j+1+1) [z]=z :: rep (j+1) [z]:=fM _ _;have J:rep (j+1) [z]=z :: rep j [z]:=fM _ _;rw[G];show z :: ((rep (j+1) [z]++r).set j v)=rep (j+1) [z]++v :: r;rw[E,J];rfl
theorem Wp{n k m:Nat}(h:m<k):(pad n k).drop m=((n / 1000000000^m%1000000000:Nat):Int) :: (pad n k).drop (m+1):=by
 rw[yN (by rw[iM];exact h),aj1]
theorem aj2(n d:Nat)(hl:(dg n).length<=1000000)(h0:d≠0)(hd:d<1000000000):fn ZL conv ext 292 [LI (dg n),I d]=some (.AB [LI (dg (n / d)),I (n%d:Nat)]):=by
 have e1:(8:Int)*((dg n).length:Int)<=281474976710656:=by omega
 have e2:((dg n).length:Int)<=9223372036854775807:=by omega
 have e3:(0:Int)<=((dg n).length:Int):=by omega
 have e4:=ZT (n:=((dg n).length:Int) - 1);have Y:=b_ (pad (n / d) (dg n).length) (by unfold Short;rw[iM];omega);rw[Ip]at Y;rw[m_,mg [.tmp 4,.tmp 5] [] func292];simp only[go_sem,e1,e2,e3,e4];generalize hL:dI _ _=y;obtain⟨r,rfl,T',σ',nx',rfl,h6,h7,E⟩:=jQ hL (fun m st=>st.T 0=LI (dg n)/\st.T 1=I d/\st.T 6= .rs 0 0 (dg n).length/\st.T 8=I ((m:Int) - 1)/\st.T 7=I (n / 1000000000^m%d:Nat)/\m<=(dg n).length/\st.σ 0=some ⟨rep m [I 0]++((pad (n / d) (dg n).length).drop m).flatMap cI,1,true⟩)
  (fun r=>∃T σ nx,r=(.exit 0,⟨T,σ,nx⟩)/\T 6= .rs 0 0 (dg n).length/\T 7=I (n%d:Nat)/\σ 0=some ⟨(pad (n / d) (dg n).length).flatMap cI,1,true⟩) (by
   clear hL;rintro m ⟨T,σ,nx⟩ ⟨t0,t1,t6,t8,t7,hm,E⟩;simp only at t0 t1 t6 t8 t7 E;cases m with
   |zero=>
    have a1:¬(0:Int)<=0-1:=by omega
    rw[Nat.pow_zero,wV]at t7;refine .inr ⟨_,by simp only[go_sem,t8,a1];rfl,by simp,_,_,_,rfl,by simp only[go_sem,t6],by simp only[go_sem,t7],?_⟩;rw[E,yY];rfl
   |succ m=>
    have G:m<(dg n).length:=by omega
    have e5:((m+1:Nat):Int) - 1=(m:Int):=by omega
    rw[e5]at t8;have f0:=jD m;have f3:(m:Int)<((dg n).length:Int):=by omega
    have f5:=AU (dg n) m G;have f6:=idx G;rw[oQ G]at f6;have a6:=oL n m;have J:=Wp (n:=n / d) (k:=(dg n).length) G;have hq:n / d / 1000000000^m=n / 1000000000^m / d:=by rw[wW,wW,wB]
    rw[hq]at J;have hle:n / 1000000000^m<=n:=wo _ _;obtain⟨u,hu⟩:∃u,n / 1000000000^(m+1)=u:=⟨_,rfl⟩;obtain⟨w,O⟩:∃w,n / 1000000000^m=w:=⟨_,rfl⟩;rw[hu]at t7;rw[hu,O]at a6;rw[O]at f6 J hle;have hw:w%1000000000<1000000000:=vJ _ (by decide);have hr:u%d<d:=vJ _ (by omega);have hx:u%d*1000000000+w%1000000000<d*1000000000:=by omega
    have S:w=d*1000000000*(u / d)+(u%d*1000000000+w%1000000000):=by
     have:=Nat.div_add_mod u d;have h3:d*(u / d)*1000000000=d*1000000000*(u / d):=by rw[Nat.mul_right_comm]
     omega
    obtain⟨x,a7⟩:∃x,u%d*1000000000+w%1000000000=x:=⟨_,rfl⟩;rw[a7]at S hx;have a8:w / d%1000000000=x / d:=by
     have h1:w / d=1000000000*(u / d)+x / d:=by
      rw[S,uj,wG,Nat.add_mul_div_left _ _ (by omega),wG]
     have h2:x / d<1000000000:=Nat.div_lt_of_lt_mul hx;rw[h1];generalize x / d=q at h2⊢;generalize u / d=p;omega
    have b2:w%d=x%d:=by
     rw[S,uj,wG,Nat.add_mul_mod_self_left]
    have f7:=ZT (n:=(m:Int) - 1);have f8:=ZT (n:=((u%d:Nat):Int)*1000000000);have g9:((u%d:Nat):Int)*1000000000+((w%1000000000:Nat):Int)=(x:Int):=by omega
    have f9:=ZT (n:=(x:Int));have c1:¬(d:Int)=0:=by omega
    have c2:(x:Int).tdiv (d:Int)=((x / d:Nat):Int):=by rw[yG (by omega)];rfl
    have c3:(x:Int).tmod (d:Int)=((x%d:Nat):Int):=by rw[wK (by omega)];rfl
    have b4:x / d<=x:=wo _ _;have c4:=ZT (n:=((x / d:Nat):Int));have c5:m<(rep (m+1) [I 0]++((pad (n / d) (dg n).length).drop (m+1)).flatMap cI).length:=by rw[zo,fO];simp;omega
    have c6:=Lj m (I 0) (I (x / d:Nat)) (((pad (n / d) (dg n).length).drop (m+1)).flatMap cI);refine .inl ⟨_,by simp only[go_sem,t0,t1,t6,t8,t7,E,f0,f3,f5,f6,f7,f8,f9,g9,c1,c2,c3,c4,c5,c6];rfl,m,by omega,?_⟩;simp only[go_sem,t0,t1,t6];refine⟨by rw[O,b2],by omega,?_⟩;rw[J,a8];rfl) (dg n).length ⟨by simp only[go_sem],by simp only[go_sem],by simp only[go_sem],by simp only[go_sem],by simp only[go_sem,oS,Nat.zero_mod],zq _,by simp only[go_sem];rw[xw (by rw[iM];exact zq _)];simp⟩
 .have b3:fn ZL conv ext 249 [.ts ((pad (n / d) (dg n).length).flatMap cI) (dg n).length]=some (LI (dg (n / d))):=by
   have hl:(pad (n / d) (dg n).length).length=(dg n).length:=iM _ _;unfold LI at Y;rw[hl]at Y;exact Y
  have pl:(pad (n / d) (dg n).length).length=(dg n).length:=iM _ _;have tk:List.take (dg n).length ((pad (n / d) (dg n).length).flatMap cI)=(pad (n / d) (dg n).length).flatMap cI:=by
   have:=qH (pad (n / d) (dg n).length)
   rwa [pl]at this
  simp only[go_sem,h6,h7,E,pl,tk,b3]
 .exact Nat.lt_of_le_of_lt (wo _ _) (by
   have:=oS n;exact(Nat.div_eq_zero_iff_lt (Nat.pow_pos (by decide))).mp this)
theorem oN{d:Nat}(E:d≠0)(h:d<1000000000):dg d=[(d:Int)]:=by
 rw[oM E,uh h,oJ,vw h]
theorem P_(n:Nat):(dg n=[1])↔n=1:=by
 constructor
 .intro h
  by_cases E:n=0
  .subst E;rw[oJ]at h;cases h
  .rw[oM E]at h
   obtain⟨J,G⟩:=List.cons.inj h;have:n / 1000000000=0:=zf fun hn=>oO hn G
   omega
 .rintro rfl;rw[oN (by decide) (by decide)];rfl
theorem abU(neg:Bool)(a:List Int):fn ZL conv ext 227 [Bo neg,LI a]=some (.agg [Bo (neg && decide (0<a.length)),LI a]):=by
 rw[m_,mg [.cell 4 159] [] func227]
 by_cases h:0<a.length
 .have E:(0:Int)<(a.length:Int):=by omega
  cases neg<;>simp only[go_sem,h,E]
 .have E:¬(0:Int)<(a.length:Int):=by omega
  cases neg<;>simp only[go_sem,h,E]
theorem u3:ZL.underlying 3=some (.int .i64):=Tryz.underlying3
theorem arN:ZL.underlying 262=some (.int .u64):=Tryz.underlying262
theorem axu(k:IntKind)(n:Int)(σ:Store):BZ ZL 3 262 (.sc (.int k n)) σ=some (.sc (.int .u64 (IntKind.u64.wrap n))):=Si u3 arN
theorem axv(k:IntKind)(n:Int)(σ:Store):BZ ZL 262 3 (.sc (.int k n)) σ=some (.sc (.int .i64 (IntKind.i64.wrap n))):=Si arN u3
attribute [go_sem] axu axv
theorem Sz(n:Nat)(hn:n<=18446744073709551615):fn ZL conv ext 228 [.sc (.int .u64 n)]=some (LI (dg n)):=by
 rw[m_,mg [.tmp 2] [] func228];simp only[go_sem];generalize hL:dI _ _=y;obtain⟨r,rfl,T',σ',nx',rfl,hr⟩:=jQ hL (fun m st=>st.T 0= .sc (.int .u64 m)/\∃acc,Grow st.T st.σ st.nx 3 acc/\dg n=acc++dg m/\1000000000^acc.length*m<=n)
  (fun r=>∃T σ nx,r=(.exit 0,⟨T,σ,nx⟩)/\Grow T σ nx 3 (dg n)) (by
   clear hL;rintro m ⟨T,σ,nx⟩ ⟨G,acc,E,J,hp⟩;simp only at G E
   by_cases hm:m=0
   .subst hm
    have f0:¬(0:Int)<0:=by omega
    refine .inr ⟨_,by simp only[go_sem,G,f0];rfl,by simp,_,_,_,rfl,?_⟩;rw[oJ,zC]at J;rw[J]
    simpa only[Grow,go_sem]using E
   .have f0:(0:Int)<(m:Int):=by omega
    have hk:=abT hp (by omega) (by omega);have a1:m<=n:=zU (sW _ (Nat.pow_pos (by decide))) hp;have f1:(m:Int).tmod 1000000000=((m%1000000000:Nat):Int):=by rw[wK (by omega)];omega
    have f2:IntKind.u64.wrap ((m:Int).tdiv 1000000000)=((m / 1000000000:Nat):Int):=by
     rw[yG (by omega)];rw[ZR (by omega) (by omega)];omega
    have f3:=ZT (n:=((m%1000000000:Nat):Int));have O:dg n=(acc++[((m%1000000000:Nat):Int)])++dg (m / 1000000000):=by rw[J,oM hm];simp
    have S:1000000000^(acc++[((m%1000000000:Nat):Int)]).length*(m / 1000000000)<=n:=by
     rw[zo,yL,uV,uj];exact zU (tJ _ (Nat.mul_div_le _ _)) hp
    have Y:m / 1000000000<m:=su (by omega) (by decide);obtain⟨σ',ha,hs⟩:=kQ E ((m%1000000000:Nat):Int) (by omega);refine .inl ⟨_,by simp only[go_sem,G,f0,f1,f2,f3,ha];rfl,_,Y,?_,_,?_,O,S⟩
    .simp only[go_sem]
    .exact kN hs (by simp[go_sem]) (by simp)) n ⟨by simp only[go_sem],[],.inl ⟨by simp only[go_sem],rfl⟩,rfl,by simp⟩
 obtain⟨ids,h1⟩:=kM hr 6;simp only[go_sem,h1]
theorem anw(n:Nat)(hn:n<=9223372036854775807):fn ZL conv ext 228 [.sc (.int .u64 n)]=some (LI (dg n)):=Sz n (by omega)
theorem aax(x:Int):fn ZL conv ext 294 [I x]=some (Bo (!inB x 0 999999999)):=by
 rw[m_,mg [.tmp 2] [] func294]
 by_cases h:x<0
 .have:inB x 0 999999999=false:=by unfold inB;rw[sD (by omega)];rfl
  rw[this];simp only[go_sem,h]
 .have:inB x 0 999999999=decide (x<=999999999):=by unfold inB;rw[sF (by omega),xC]
  rw[this]
  by_cases E:1000000000<=x
  .rw[sD (by omega)]
   simp only[go_sem,h,E]
  .rw[sF (by omega)]
   simp only[go_sem,h,E]
theorem agv(a:List Int)(ha:Short a):fn ZL conv ext 289 [LI a]=some (Bo (pb (Cm a))):=by
 unfold Short at ha;have hc:=aar a 294 (fun x=> !inB x 0 999999999) (by unfold maxLen;omega) (by rfl) (fun x _=>aax x);rw[m_,mg [.tmp 2] [] func289]
 by_cases S:(60:Int)<(a.length:Int)
 .rw[iE (fun hn:Cm a=>by have:=hn.2.1;omega)]
  simp only[go_sem,S]
 have hg:(Ba a=a)->pb (Cm a)= !decide (0<=ix (fun x=> !inB x 0 999999999) a):=fun Y=>by
  refine(PW ?_).symm;rw[vG,decide_eq_false_iff_not,Int.not_le,Kr];exact⟨fun hq=>⟨fun x hx=>by simpa using hq x hx,by omega,Y⟩,fun hq m hm=>by simp[hq.1 m hm]⟩
 by_cases G:a=[]
 .have Y:Ba a=a:=by rw[G];rfl
  rw[hg Y];subst G;have:¬(0:Int)<0:=by decide
  have a1:¬(60:Int)<0:=by decide
  have a6:fn ZL conv ext 152 [.ts [] 0,.clo 294 []]=some (Bo (decide (0<=ix (fun x=> !inB x 0 999999999) []))):=hc
  simp only[go_sem,this,a1,a6]
 .have J:0<a.length:=List.length_pos_iff.mpr G
  have c0:(0:Int)<(a.length:Int):=by omega
  have f1:=ZT (n:=(a.length:Int) - 1);have f2:(0:Int)<=(a.length:Int) - 1:=by omega
  have f3:(a.length:Int) - 1<(a.length:Int):=by omega
  have f4:((a.length:Int) - 1).toNat=a.length-1:=by omega
  have f5:=idx (xs:=a) (k:=a.length-1) (by omega);have f9:=AU a 0 J
  by_cases O:a[a.length-1]=0
  .have E:(a[a.length-1]==(0:Int))=true:=by simpa using O
   rw[iE (fun hn:Cm a=>(Jw G).mp hn.2.2 O)];simp only[go_sem,S,c0,f1,f2,f3,f4,f5,f9,E]
  .have E:(a[a.length-1]==(0:Int))=false:=by simpa using O
   rw[hg ((Jw G).mpr O)];simp only[go_sem,S,c0,f1,f2,f3,f4,f5,f9,E,hc]
theorem aea(neg:Bool)(a:List Int)(ha:Short a):fn ZL conv ext 288 [.agg [Bo neg,LI a]]=some (Bo (pb (Cm a) && !(neg && decide (a=[])))):=by
 have G:=agv a ha;rw[m_,mg [.tmp 2] [] func288];generalize pb (Cm a)=b at *
 by_cases h:a=[]
 .subst h
  have E:fn ZL conv ext 289 [.ts [] 0]=some (Bo b):=G
  cases b<;>cases neg<;>simp only[go_sem,E]<;>rfl
 .have J:((a.length:Int)==0)=false:=by simpa using h
  rw[sD h];cases b<;>cases neg<;>simp only[go_sem,G,J]<;>rfl
def AY(m n:Nat):Int:=if m<n then -1 else if m=n then 0 else 1
theorem agw{n:Nat}:n<1000000000^(dg n).length:=(Nat.div_eq_zero_iff_lt (Nat.pow_pos (by decide))).mp (oS n)
theorem arO{n k:Nat}(h:k<(dg n).length):1000000000^k<=n:=by
 have E:=Sv n k;rw[yN h]at E;have G:n / 1000000000^k≠0:=fun e=>by rw[e,oJ]at E;cases E
 exact zf fun hn=>G (uh (by omega))
theorem oP{m n:Nat}(h:(dg m).length<(dg n).length):m<n:=wz agw (arO h)
theorem jP{m n j:Nat}(E:m / 1000000000^(j+1)=n / 1000000000^(j+1))(G:m / 1000000000^j%1000000000<n / 1000000000^j%1000000000):m<n:=by
 have a:=oL m j;have b:=oL n j;rw[E]at a;have:m / 1000000000^j<n / 1000000000^j:=by omega
 exact zf fun hn=>by
  have:=Nat.div_le_div_right (c:=1000000000^j) (show n<=m by omega);omega
theorem kJ(m n:Nat)(l1:(dg m).length<=1000000)(l2:(dg n).length<=1000000):fn ZL conv ext 236 [LI (dg m),LI (dg n)]=some (I (AY m n)):=by
 rw[m_,mg [.tmp 4] [] func236]
 by_cases hl:(dg m).length=(dg n).length
 .have c1:(((dg m).length:Int) !=((dg n).length:Int))=false:=by rw[hl];simp
  have e1:=ZT (n:=((dg m).length:Int) - 1);simp only[go_sem,c1,e1];generalize hL:dI _ _=y;obtain⟨r,rfl,hr⟩:=jQ hL (fun k st=>st.nx=0/\st.σ=lI/\st.T 0=LI (dg m)/\st.T 1=LI (dg n)/\st.T 5=I ((k:Int) - 1)/\k<=(dg m).length/\m / 1000000000^k=n / 1000000000^k)
   (fun r=>(∃T,r=(.exit 0,⟨T,lI,0⟩)/\m=n)\/(∃T,r=(.ret,⟨T,lI,0⟩)/\T 4=I (AY m n))) (by
    clear hL;rintro k ⟨T,σ,nx⟩ ⟨a1,a6,h0,h1,h5,hk,he⟩;simp only at a1 a6 h0 h1 h5;subst a1 a6;cases k with
    |zero=>
     have a7:¬(0:Int)<=0-1:=by omega
     rw[Nat.pow_zero,wV,wV]at he;exact .inr ⟨_,by simp only[go_sem,h5,a7];rfl,by simp,.inl ⟨_,rfl,he⟩⟩
    |succ k=>
     have E:k<(dg m).length:=by omega
     have G:k<(dg n).length:=by omega
     have e5:((k+1:Nat):Int) - 1=(k:Int):=by omega
     rw[e5]at h5;have f0:=jD k;have f3:(k:Int)<((dg m).length:Int):=by omega
     have S:(k:Int)<((dg n).length:Int):=by omega
     have f5:=AU (dg m) k E;have Y:=AU (dg n) k G;have f6:=idx E;have O:=idx G;rw[oQ E]at f6;rw[oQ G]at O;have f7:=ZT (n:=(k:Int) - 1)
     by_cases q1:((m / 1000000000^k%1000000000:Nat):Int)<((n / 1000000000^k%1000000000:Nat):Int)
     .have J:m<n:=jP he (by omega)
      have hc:AY m n= -1:=by unfold AY;rw[sH J]
      exact .inr ⟨_,by simp only[go_sem,h0,h1,h5,f0,f3,S,f5,Y,f6,O,q1];rfl,by simp,.inr ⟨_,rfl,by simp only[go_sem,hc]⟩⟩
     .by_cases q2:((n / 1000000000^k%1000000000:Nat):Int)<((m / 1000000000^k%1000000000:Nat):Int)
      .have J:n<m:=jP he.symm (by omega)
       have hc:AY m n=1:=by unfold AY;rw[sJ (by omega),sJ (by omega)]
       exact .inr ⟨_,by simp only[go_sem,h0,h1,h5,f0,f3,S,f5,Y,f6,O,q1,q2];rfl,by simp,.inr ⟨_,rfl,by simp only[go_sem,hc]⟩⟩
      .have a8:m / 1000000000^k=n / 1000000000^k:=by
        have a:=oL m k;have b:=oL n k;rw[he]at a;omega
       refine .inl ⟨_,by simp only[go_sem,h0,h1,h5,f0,f3,S,f5,Y,f6,O,f7,q1,q2];rfl,k,by omega,?_⟩;simp only[go_sem,h0,h1];exact⟨by omega,a8⟩) (dg m).length ⟨rfl,rfl,by simp only[go_sem],by simp only[go_sem],by simp only[go_sem],zq _,by rw[oS,hl,oS]⟩
  rcases hr with ⟨T,rfl,h⟩|⟨T,rfl,h⟩
  .have hc:AY m n=0:=by unfold AY;rw[sJ (by omega),sH h]
   simp only[go_sem,hc]
  .simp only[go_sem,h]
 .have c1:(((dg m).length:Int) !=((dg n).length:Int))=true:=by rw[bne_iff_ne];omega
  by_cases E:((dg m).length:Int)<((dg n).length:Int)
  .have J:m<n:=oP (by omega)
   have hc:AY m n= -1:=by unfold AY;rw[sH J]
   simp only[go_sem,c1,E,hc]
  .have J:n<m:=oP (by omega)
   have hc:AY m n=1:=by unfold AY;rw[sJ (by omega),sJ (by omega)]
   simp only[go_sem,c1,E,hc]
theorem agx(m n:Nat)(hm:m<=9223372036854775807)(hn:n<=9223372036854775807):fn ZL conv ext 236 [LI (dg m),LI (dg n)]=some (I (AY m n)) :=
 kJ m n (by have:=oK hm;omega) (by have:=oK hn;omega)
theorem abV(a:List Int)(ha:Short a):fn ZL conv ext 272 [LI a]=some (LI (Ba a)):=by
 unfold Short at ha;rw[m_,mg [.tmp 2] [] func272];simp only[go_sem];generalize hL:dI _ _=y;obtain⟨r,rfl,T',rfl,S⟩:=jQ hL (fun k st=>∃T,st=⟨T,lI,0⟩/\T 0=LI (a.take k)/\k<=a.length/\Ba (a.take k)=Ba a) (fun r=>∃T,r=(.exit 0,⟨T,lI,0⟩)/\T 0=LI (Ba a)) (by
  clear hL;rintro k _ ⟨T,rfl,Y,hk,G⟩;have hl:(a.take k).length=k:=by rw[zh,xK hk]
  cases k with
  |zero=>
   have E:T 0= .ts [] 0:=Y;have f0:¬(0:Int)<0:=by decide
   refine .inr ⟨_,by simp only[go_sem,E,f0];rfl,by simp,_,rfl,?_⟩;simp only[go_sem,E];rw[<- G];rfl
  |succ k=>
   have J:k<a.length:=by omega
   have E:T 0= .ts ((a.take (k+1)).flatMap cI) (k+1):=by rw[Y];show V.ts _ (a.take (k+1)).length=_;rw[hl]
   have f0:(0:Int)<((k+1:Nat):Int):=by omega
   have e5:((k+1:Nat):Int) - 1=(k:Int):=by omega
   have e2:=ZT (n:=(k:Int));have f1:=jD k;have f2:(k:Int)<((k+1:Nat):Int):=by omega
   have f5:=AU (a.take (k+1)) k (by omega);have f6:=idx (xs:=a.take (k+1)) (k:=k) (by omega);rw[uG]at f6;have f7:k<=k+1:=by omega
   have a1:((a.take (k+1)).flatMap cI).take k=(a.take k).flatMap cI:=by rw[qJ,List.take_take,xK f7]
   rw[aG J,Zq]at G
   by_cases O:a[k]=0
   .have fx:(a[k]==(0:Int))=true:=by simpa using O
    rw[sH O]at G;refine .inl ⟨_,by simp only[go_sem,E,f0,e5,e2,f1,f2,f5,f6,f7,a1,fx,vV];rfl,k,by omega,_,rfl,?_,by omega,G⟩;simp only[go_sem];show _=V.ts _ (a.take k).length;rw[zh,xK (by omega)]
   .have fx:(a[k]==(0:Int))=false:=by simpa using O
    rw[sJ O]at G;refine .inr ⟨_,by simp only[go_sem,E,f0,e5,e2,f1,f2,f5,f6,f7,fx];rfl,by simp,_,rfl,?_⟩;simp only[go_sem];rw[Y,<- G,aG J]) a.length ⟨_,rfl,by simp only[go_sem];rw[yg],zq _,by rw[yg]⟩
 simp only[go_sem,S]
theorem aj6{n:Nat}:(AY n 1==0)=decide (n=1):=by
 unfold AY
 by_cases h:n<1
 .rw[sH h,sD (by omega)];rfl
 .rw[sJ h]
  by_cases E:n=1
  .rw[sH E,sF E];rfl
  .rw[sJ E,sD E];rfl
theorem arP(n:Nat)(hn:n<=9223372036854775807):fn ZL conv ext 236 [LI (dg n),.ts [I 1] 1]=some (I (AY n 1)):=by
 have:=agx n 1 hn (by decide);rw[oN (d:=1) (by decide) (by decide)]at this;exact this
def aeb(neg:Bool)(m n:Nat):List V:=[Bo (neg && decide (0<(dg (m / Nat.gcd m n)).length)),LI (dg (m / Nat.gcd m n)),LI (dg (n / Nat.gcd m n))]
theorem anz{P:Program}{t e:TypeId}{x y:Operand}{row:List V}{off:Nat}(h:P.underlying t=some (.pointer e)):Aw P .eql t x y (.tp row off) (.sc (.pointer none))=some (Bo false):=by
 simp only[Aw,toVal,h];rfl
theorem ptrEq(x y:Operand)(row:List V)(off:Nat):Aw ZL .eql 148 x y (.tp row off) (.sc (.pointer none))=some (Bo false):=anz Tryz.underlying148
attribute [go_sem] ptrEq
theorem anA(b:Bool)(xs:List Int)(E:xs.length<=60):fn ZL conv ext 223 [.agg [Bo b,LI xs]]=some (.agg [Bo b,LI xs]):=by
 have c1:¬(60:Int)<(xs.length:Int):=by omega
 have k:=aan xs (by omega);rw[m_,mg [.cell 2 159] [] func223];simp only[go_sem,c1,k]
theorem anB(b:Bool)(xs E:List Int)(O:xs.length<=24)(S:E.length<=24):fn ZL conv ext 164 [.tp [Bo b,LI xs,LI E] 0]=some (.agg [Bo b,LI xs,LI E]):=by
 have G:=anA b xs (by omega);have J:=aan E (by omega);rw[m_,mg [.cell 2 161] [] func164];simp only[go_sem,G,J]
def vl:List Int->Int
 |[]=>0
 |x :: xs=>x+1000000000*vl xs
def bp(n:Nat):Int:=1000000000^n
theorem SA:bp 0=1:=rfl
theorem qU(n:Nat):bp (n+1)=1000000000*bp n:=by unfold bp;rw[Int.pow_succ,Int.mul_comm]
theorem qV(n:Nat):0<bp n:=Int.pow_pos (by decide)
theorem SB(m n:Nat):bp (m+n)=bp m*bp n:=by unfold bp;rw[Int.pow_add]
theorem qW(n:Nat):bp n=((1000000000^n:Nat):Int):=by unfold bp;rw[Int.natCast_pow];rfl
def Dg(xs:List Int):Prop:=∀x∈xs,0<=x/\x<1000000000
theorem Dg.nil:Dg []:=fun x h=>by cases h
theorem Dg.cons{x:Int}{xs:List Int}(h:Dg (x :: xs)):(0<=x/\x<1000000000)/\Dg xs:=⟨h x zM,fun y E=>h y (zY _ E)⟩
theorem Dg.app{xs E:List Int}(h:Dg xs)(G:Dg E):Dg (xs++E):=fun x J=>(List.mem_append.mp J).elim (h x) (G x)
theorem Dg.snoc{xs:List Int}{y:Int}(h:Dg xs)(G:0<=y)(J:y<1000000000):Dg (xs++[y]):=h.app fun x E=>by
 rw[w_]at E;subst E;exact⟨G,J⟩
theorem Dg.take{xs:List Int}(h:Dg xs)(n:Nat):Dg (xs.take n):=fun x E=>h x (wH E)
theorem Dg.drop{xs:List Int}(h:Dg xs)(n:Nat):Dg (xs.drop n):=fun x E=>h x (List.mem_of_mem_drop E)
theorem Dg.get{xs:List Int}(h:Dg xs){k:Nat}(E:k<xs.length):0<=xs[k]/\xs[k]<1000000000:=h _ (zu E)
theorem oU(n:Nat):Dg (dg n):=fun x E=>by have:=aav n x E;omega
theorem Ze(n:Nat):vl (dg n)=n:=by
 induction n using Nat.strongRecOn with
 |_ n E=>
  by_cases h:n=0
  .subst h;rw[oJ];rfl
  .rw[oM h]
   show _+1000000000*vl _=_;rw[E _ (su (by omega) (by decide))];omega
theorem aay(xs E:List Int):vl (xs++E)=vl xs+bp xs.length*vl E:=by
 induction xs with
 |nil=>simp[vl,SA]
 |cons x xs G=>
  rw[yT,zH,qU];show _+1000000000*vl _=(_+1000000000*vl xs)+_;rw[G,xR,uT];omega
theorem Zb(xs:List Int)(y:Int):vl (xs++[y])=vl xs+bp xs.length*y:=by
 rw[aay];simp[vl]
theorem Zc{xs:List Int}(h:Dg xs):0<=vl xs:=by
 induction xs with
 |nil=>exact xA _
 |cons x xs E=>
  have:=h.cons;have:=E this.2;show 0<=x+1000000000*vl xs;omega
theorem Zd{xs:List Int}(h:Dg xs):vl xs<bp xs.length:=by
 induction xs with
 |nil=>exact qV 0
 |cons x xs E=>
  have:=h.cons;have:=E this.2;rw[zH,qU];show x+1000000000*vl xs<_;omega
theorem abW{xs:List Int}(h:Dg xs):Ba xs=dg (vl xs).toNat:=by
 induction xs with
 |nil=>show Ba []=dg 0;rw[oJ];rfl
 |cons x xs J=>
  have E:=h.cons;have h2:=Zc E.2;have O:vl (x :: xs)=x+1000000000*vl xs:=rfl;rw[Zv,J E.2,O]
  by_cases S:vl xs=0
  .rw[S,show(0:Int).toNat=0 from rfl,oJ,sH rfl]
   by_cases G:x=0
   .subst G;rw[sH rfl,vN,uM]
    show _=dg 0;rw[oJ]
   .rw[sJ G,vN,uM,oN (by omega) (by omega)]
    rw[uQ (by omega)]
  .rw[sJ (oO (by omega)),oM (n:=(x+1000000000*vl xs).toNat) (by omega)]
   have Y:(((x+1000000000*vl xs).toNat%1000000000:Nat):Int)=x:=by omega
   have e2:(x+1000000000*vl xs).toNat / 1000000000=(vl xs).toNat:=by omega
   rw[Y,e2]
theorem CG{xs:List Int}{n:Nat}(h:Dg xs)(E:vl xs=n):Ba xs=dg n:=by rw[abW h,E];rfl
theorem aaz(n:Nat):vl (List.replicate n 0)=0:=by
 induction n with
 |zero=>rfl
 |succ n E=>rw[xO];show 0+1000000000*vl _=0;rw[E];rfl
theorem ZY{xs:List Int}{k:Nat}(h:k<xs.length):vl (xs.take (k+1))=vl (xs.take k)+bp k*xs[k]:=by
 rw[aG h,Zb,zh,xK (by omega)]
theorem abX{xs:List Int}{k:Nat}(h:k<xs.length):vl (xs.drop k)=xs[k]+1000000000*vl (xs.drop (k+1)):=by
 rw[yN h];rfl
theorem Za(xs:List Int){k:Nat}(h:k<=xs.length):vl xs=vl (xs.take k)+bp k*vl (xs.drop k):=by
 have:=aay (xs.take k) (xs.drop k);rw[wC,zh,xK h]at this;exact this
def ln(n:Nat):Nat:=(dg n).length
theorem jS:ln 0=0:=by unfold ln;rw[oJ];rfl
theorem jZ{n k:Nat}:ln n<=k↔(n:Int)<bp k:=by
 constructor
 .intro h
  have E:=Zd (oU n);rw[Ze]at E;have G:bp (dg n).length<=bp k:=by
   rw[qW,qW];exact Int.ofNat_le.mpr (Nat.pow_le_pow_right (by decide) h)
  omega
 .intro h
  rw[qW]at h;exact aau k n (Int.ofNat_lt.mp h)
theorem jY{m n:Nat}(h:m<=n):ln m<=ln n:=by
 have:=(jZ (n:=n)).mp (zq _);exact jZ.mpr (by omega)
theorem jX(m n:Nat):ln (m*n)<=ln m+ln n:=by
 refine jZ.mpr ?_;rw[SB,yh];have E:=(jZ (n:=m)).mp (zq _);have G:=(jZ (n:=n)).mp (zq _);have J:(m:Int)*n<=(bp (ln m) - 1)*n:=zQ (by omega) (by omega);have O:=qV (ln m);have S:(bp (ln m) - 1)*n<=(bp (ln m) - 1)*(bp (ln n) - 1):=zB (by omega) (by omega);have Y:(bp (ln m) - 1)*(bp (ln n) - 1)=bp (ln m)*bp (ln n) - bp (ln m) - bp (ln n)+1:=by
  rw[tZ,uY];omega
 have h7:=qV (ln n);omega
theorem anC(m n:Nat):ln (m+n)<=max (ln m) (ln n)+1:=by
 refine jZ.mpr ?_;rw[qU];have E:=(jZ (n:=m) (k:=max (ln m) (ln n))).mp (vF _ _);have G:=(jZ (n:=n) (k:=max (ln m) (ln n))).mp (vk _ _);omega
theorem jU{n:Nat}(h:n≠0):0<ln n:=List.length_pos_iff.mpr (oO h)
theorem jT{n:Nat}(h:n<1000000000):ln n<=1:=jZ.mpr (by show(n:Int)<1000000000;omega)
theorem anD{n:Nat}(h:n<=9223372036854775807):ln n<=3:=oK h
theorem dA{n:Nat}(h:ln n<=1000000):Short (dg n):=by unfold ln at h;unfold Short;omega
def Fv(o:List Int)(k:Nat):List V:=o.flatMap cI++rep k [I 0]
theorem mW(o:List Int)(k:Nat):(Fv o k).length=o.length+k:=by unfold Fv;rw[zo,qL,fO];simp
theorem mX(o:List Int):Fv o 0=o.flatMap cI:=by simp[Fv,rep]
theorem mV(o:List Int)(k:Nat)(x:Int){i:Nat}(h:o.length=i):(Fv o (k+1)).set i (I x)=Fv (o++[x]) k:=by
 subst h;unfold Fv;rw[xH _ _ (by rw[qL];exact zq _),qL,yP,fM,zT];simp
theorem qA{P x q n v:Int}(h:x+1000000000*q=n):v+P*x+1000000000*P*q=v+P*n:=by subst h;grind
theorem aF{n:Int}(h:0<=n):n.tmod 1000000000=n%1000000000/\n.tdiv 1000000000=n / 1000000000 :=
 ⟨wK h,yG h⟩
theorem jO{k:Nat}(h:k<=3000000):(8:Int)*(k:Int)<=281474976710656/\(k:Int)<=9223372036854775807/\(0:Int)<=(k:Int):=by omega
theorem qR{xs:List Int}{k:Nat}(h:xs.length<=k):xs.take (k+1)=xs.take k:=by rw[zl (by omega),zl h]
theorem arQ(m n:Nat)(hm:ln m<=1000000)(hn:ln n<=1000000):fn ZL conv ext 270 [LI (dg m),LI (dg n)]=some (LI (dg (m+n))):=by
 unfold ln at hm hn;rw[m_,mg [.tmp 4] [] func270]
 by_cases hc:((dg m).length:Int)<((dg n).length:Int)
 .have b2:(dg m).length<=(dg n).length:=by omega
  obtain⟨e1,e2,e3⟩:=jO (k:=(dg n).length+1) (by omega);have e0:((dg n).length:Int)+1=(((dg n).length+1:Nat):Int):=by omega
  have e4:=ZT (n:=(((dg n).length+1:Nat):Int)) (by omega) (by omega);simp only[go_sem,hc,e0,e1,e2,e3,e4];generalize hL:dI _ _=y;obtain⟨r,rfl,T',σ',nx',c,o,rfl,h0,h5,h6,E,G,Y,hd,hv,a1,a7⟩:=oZ hL (dg n).length (fun k st=>st.T 0=LI (dg n)/\st.T 1=LI (dg m)/\st.T 5= .rs 0 0 ((dg n).length+1)/\st.T 20=LI (dg n)/\st.T 21=I (dg n).length/\st.T 22=I k/\0<st.nx/\∃c o,st.T 6=I c/\st.σ 0=some ⟨Fv o ((dg n).length+1-k),1,true⟩/\o.length=k/\Dg o/\vl o+bp k*c=vl ((dg n).take k)+vl ((dg m).take k)/\0<=c/\c<=1)
   (fun r=>∃T σ nx c o,r=(.exit 0,⟨T,σ,nx⟩)/\T 0=LI (dg n)/\T 5= .rs 0 0 ((dg n).length+1)/\T 6=I c/\0<nx/\σ 0=some ⟨Fv o 1,1,true⟩/\o.length=(dg n).length/\Dg o/\vl o+bp (dg n).length*c=(m+n:Nat)/\0<=c/\c<=1) (by
    clear hL;rintro k ⟨T,σ,nx⟩ a6 ⟨h0,h1,h5,O,J,S,E,c,o,h6,G,Y,hd,hv,a1,a7⟩;simp only at h0 h1 h5 O J S E h6 G;have f1:(k:Int)<((dg n).length:Int):=by omega
    have f2:=jD k;have f3:=ZT (n:=(k:Int)+1);have f5:=AU (dg n) k a6;have f6:=idx a6;have f7:(k:Int)<(((dg n).length+1:Nat):Int):=by omega
    obtain⟨x,hx⟩:∃x,x=(dg n)[k]:=⟨_,rfl⟩;have xr:=(oU n).get a6;rw[<- hx]at f6 xr;obtain⟨g,hg⟩:∃g,(dg n).length+1-k=g+1:=⟨(dg n).length-k,by omega⟩;have a8:(dg n).length+1 - (k+1)=g:=by omega
    rw[hg]at G;have c5:k<(Fv o (g+1)).length:=by rw[mW];omega
    have v1:=ZY a6;rw[<- hx]at v1
    by_cases hB:k<(dg m).length
    .have f8:(k:Int)<((dg m).length:Int):=by omega
     have f9:=AU (dg m) k hB;have f10:=idx hB;obtain⟨z,hz⟩:∃z,z=(dg m)[k]:=⟨_,rfl⟩;have zr:=(oU m).get hB;rw[<- hz]at f10 zr;have v2:=ZY hB;rw[<- hz]at v2;have w1:=ZT (n:=x+c);have w2:=ZT (n:=x+c+z);obtain⟨q1,q2⟩:=aF (n:=x+c+z) (by omega);have w3:=ZT (n:=(x+c+z) / 1000000000);have c6:=mV o g ((x+c+z)%1000000000) Y;refine .inl ⟨_,by simp only[go_sem,h0,h1,h5,h6,O,J,S,E,G,f1,f2,f3,f5,f6,f7,f8,f9,f10,w1,w2,w3,q1,q2,c5,c6];rfl,?_⟩;simp only[go_sem,h0,h1,h5,O,J,a8];refine⟨rfl,E,_,_,rfl,rfl,by simp[Y],hd.snoc (by omega) (by omega),?_,by omega,by omega⟩;rw[Zb,Y,qU,v1,v2,qA (n:=x+c+z) (by omega),xR,xR];omega
    .have f8:¬(k:Int)<((dg m).length:Int):=by omega
     have v2:=qR (xs:=dg m) (k:=k) (by omega);have w1:=ZT (n:=x+c);obtain⟨q1,q2⟩:=aF (n:=x+c) (by omega);have w3:=ZT (n:=(x+c) / 1000000000);have c6:=mV o g ((x+c)%1000000000) Y;refine .inl ⟨_,by simp only[go_sem,h0,h1,h5,h6,O,J,S,E,G,f1,f2,f3,f5,f6,f7,f8,w1,w3,q1,q2,c5,c6];rfl,?_⟩;simp only[go_sem,h0,h1,h5,O,J,a8];refine⟨rfl,E,_,_,rfl,rfl,by simp[Y],hd.snoc (by omega) (by omega),?_,by omega,by omega⟩;rw[Zb,Y,qU,v1,v2,qA (n:=x+c) (by omega),xR];omega) (by
    clear hL;rintro ⟨T,σ,nx⟩ ⟨h0,h1,h5,O,J,S,E,c,o,h6,G,Y,hd,hv,a1,a7⟩;simp only at h0 h1 h5 O J S E h6 G;refine⟨_,by simp only[go_sem,J,S,zk];rfl,by simp,_,_,_,c,o,rfl,by simp only[go_sem,h0],by simp only[go_sem,h5],by simp only[go_sem,h6],E,?_,Y,hd,?_,a1,a7⟩
    .rw[G,show(dg n).length+1 - (dg n).length=1 by omega]
    .rw[hv,yg,zl b2,Ze,Ze];omega) (by
    simp only[go_sem];exact⟨0,[],rfl,rfl,rfl,Dg.nil,by simp[vl],xA _,by decide⟩)
  have c5:(dg n).length<(Fv o (0+1)).length:=by rw[mW];omega
  have c6:=mV o 0 c Y;have f2:(0:Int)<=((dg n).length:Int):=by omega
  have f7:((dg n).length:Int)<(((dg n).length+1:Nat):Int):=by omega
  have hD:Dg (o++[c]):=hd.snoc a1 (by omega);have ht:=abV (o++[c]) (by unfold Short;simp;omega);rw[CG (n:=m+n) hD (by rw[Zb,Y,hv])]at ht;have hl:(o++[c]).length=(dg n).length+1:=by simp[Y]
  have b3:fn ZL conv ext 272 [.ts ((o++[c]).flatMap cI) ((dg n).length+1)]=some (LI (dg (m+n))):=by rw[<- hl];exact ht
  have tk:List.take ((dg n).length+1) ((o++[c]).flatMap cI)=(o++[c]).flatMap cI:=by rw[<- hl];exact qH _
  have b4:((o++[c]).flatMap cI).length=(dg n).length+1:=by rw[qL,hl]
  have Wj:σ' 0=some ⟨Fv o (0+1),1,true⟩:=G;simp only[go_sem,h0,h5,h6,E,Wj,f2,f7,c5,c6,mX,b4,tk,b3]
 .have b2:(dg n).length<=(dg m).length:=by omega
  obtain⟨e1,e2,e3⟩:=jO (k:=(dg m).length+1) (by omega);have e0:((dg m).length:Int)+1=(((dg m).length+1:Nat):Int):=by omega
  have e4:=ZT (n:=(((dg m).length+1:Nat):Int)) (by omega) (by omega);simp only[go_sem,hc,e0,e1,e2,e3,e4];generalize hL:dI _ _=y;obtain⟨r,rfl,T',σ',nx',c,o,rfl,h0,h5,h6,E,G,Y,hd,hv,a1,a7⟩:=oZ hL (dg m).length (fun k st=>st.T 0=LI (dg m)/\st.T 1=LI (dg n)/\st.T 5= .rs 0 0 ((dg m).length+1)/\st.T 20=LI (dg m)/\st.T 21=I (dg m).length/\st.T 22=I k/\0<st.nx/\∃c o,st.T 6=I c/\st.σ 0=some ⟨Fv o ((dg m).length+1-k),1,true⟩/\o.length=k/\Dg o/\vl o+bp k*c=vl ((dg m).take k)+vl ((dg n).take k)/\0<=c/\c<=1)
   (fun r=>∃T σ nx c o,r=(.exit 0,⟨T,σ,nx⟩)/\T 0=LI (dg m)/\T 5= .rs 0 0 ((dg m).length+1)/\T 6=I c/\0<nx/\σ 0=some ⟨Fv o 1,1,true⟩/\o.length=(dg m).length/\Dg o/\vl o+bp (dg m).length*c=(m+n:Nat)/\0<=c/\c<=1) (by
    clear hL;rintro k ⟨T,σ,nx⟩ a6 ⟨h0,h1,h5,O,J,S,E,c,o,h6,G,Y,hd,hv,a1,a7⟩;simp only at h0 h1 h5 O J S E h6 G;have f1:(k:Int)<((dg m).length:Int):=by omega
    have f2:=jD k;have f3:=ZT (n:=(k:Int)+1);have f5:=AU (dg m) k a6;have f6:=idx a6;have f7:(k:Int)<(((dg m).length+1:Nat):Int):=by omega
    obtain⟨x,hx⟩:∃x,x=(dg m)[k]:=⟨_,rfl⟩;have xr:=(oU m).get a6;rw[<- hx]at f6 xr;obtain⟨g,hg⟩:∃g,(dg m).length+1-k=g+1:=⟨(dg m).length-k,by omega⟩;have a8:(dg m).length+1 - (k+1)=g:=by omega
    rw[hg]at G;have c5:k<(Fv o (g+1)).length:=by rw[mW];omega
    have v1:=ZY a6;rw[<- hx]at v1
    by_cases hB:k<(dg n).length
    .have f8:(k:Int)<((dg n).length:Int):=by omega
     have f9:=AU (dg n) k hB;have f10:=idx hB;obtain⟨z,hz⟩:∃z,z=(dg n)[k]:=⟨_,rfl⟩;have zr:=(oU n).get hB;rw[<- hz]at f10 zr;have v2:=ZY hB;rw[<- hz]at v2;have w1:=ZT (n:=x+c);have w2:=ZT (n:=x+c+z);obtain⟨q1,q2⟩:=aF (n:=x+c+z) (by omega);have w3:=ZT (n:=(x+c+z) / 1000000000);have c6:=mV o g ((x+c+z)%1000000000) Y;refine .inl ⟨_,by simp only[go_sem,h0,h1,h5,h6,O,J,S,E,G,f1,f2,f3,f5,f6,f7,f8,f9,f10,w1,w2,w3,q1,q2,c5,c6];rfl,?_⟩;simp only[go_sem,h0,h1,h5,O,J,a8];refine⟨rfl,E,_,_,rfl,rfl,by simp[Y],hd.snoc (by omega) (by omega),?_,by omega,by omega⟩;rw[Zb,Y,qU,v1,v2,qA (n:=x+c+z) (by omega),xR,xR];omega
    .have f8:¬(k:Int)<((dg n).length:Int):=by omega
     have v2:=qR (xs:=dg n) (k:=k) (by omega);have w1:=ZT (n:=x+c);obtain⟨q1,q2⟩:=aF (n:=x+c) (by omega);have w3:=ZT (n:=(x+c) / 1000000000);have c6:=mV o g ((x+c)%1000000000) Y;refine .inl ⟨_,by simp only[go_sem,h0,h1,h5,h6,O,J,S,E,G,f1,f2,f3,f5,f6,f7,f8,w1,w3,q1,q2,c5,c6];rfl,?_⟩;simp only[go_sem,h0,h1,h5,O,J,a8];refine⟨rfl,E,_,_,rfl,rfl,by simp[Y],hd.snoc (by omega) (by omega),?_,by omega,by omega⟩;rw[Zb,Y,qU,v1,v2,qA (n:=x+c) (by omega),xR];omega) (by
    clear hL;rintro ⟨T,σ,nx⟩ ⟨h0,h1,h5,O,J,S,E,c,o,h6,G,Y,hd,hv,a1,a7⟩;simp only at h0 h1 h5 O J S E h6 G;refine⟨_,by simp only[go_sem,J,S,zk];rfl,by simp,_,_,_,c,o,rfl,by simp only[go_sem,h0],by simp only[go_sem,h5],by simp only[go_sem,h6],E,?_,Y,hd,?_,a1,a7⟩
    .rw[G,show(dg m).length+1 - (dg m).length=1 by omega]
    .rw[hv,yg,zl b2,Ze,Ze];omega) (by
    simp only[go_sem];exact⟨0,[],rfl,rfl,rfl,Dg.nil,by simp[vl],xA _,by decide⟩)
  have c5:(dg m).length<(Fv o (0+1)).length:=by rw[mW];omega
  have c6:=mV o 0 c Y;have f2:(0:Int)<=((dg m).length:Int):=by omega
  have f7:((dg m).length:Int)<(((dg m).length+1:Nat):Int):=by omega
  have hD:Dg (o++[c]):=hd.snoc a1 (by omega);have ht:=abV (o++[c]) (by unfold Short;simp;omega);rw[CG (n:=m+n) hD (by rw[Zb,Y,hv])]at ht;have hl:(o++[c]).length=(dg m).length+1:=by simp[Y]
  have b3:fn ZL conv ext 272 [.ts ((o++[c]).flatMap cI) ((dg m).length+1)]=some (LI (dg (m+n))):=by rw[<- hl];exact ht
  have tk:List.take ((dg m).length+1) ((o++[c]).flatMap cI)=(o++[c]).flatMap cI:=by rw[<- hl];exact qH _
  have b4:((o++[c]).flatMap cI).length=(dg m).length+1:=by rw[qL,hl]
  have Wj:σ' 0=some ⟨Fv o (0+1),1,true⟩:=G;simp only[go_sem,h0,h5,h6,E,Wj,f2,f7,c5,c6,mX,b4,tk,b3]
theorem qX{P x q n v:Int}(h:x=n+1000000000*q):v+P*x-1000000000*P*q=v+P*n:=by subst h;grind
theorem SC(m n:Nat)(hm:ln m<=1000000)(hle:n<=m):fn ZL conv ext 271 [LI (dg m),LI (dg n)]=some (LI (dg (m-n))):=by
 have a7:(dg n).length<=(dg m).length:=jY hle;unfold ln at hm;rw[m_,mg [.tmp 4] [] func271];obtain⟨e1,e2,e3⟩:=jO (k:=(dg m).length) (by omega);simp only[go_sem,e1,e2,e3];generalize hL:dI _ _=y;obtain⟨r,rfl,T',σ',nx',o,rfl,h5,E,G,S,hd,hv⟩:=oZ hL (dg m).length (fun k st=>st.T 0=LI (dg m)/\st.T 1=LI (dg n)/\st.T 5= .rs 0 0 (dg m).length/\st.T 12=LI (dg m)/\st.T 13=I (dg m).length/\st.T 14=I k/\0<st.nx/\∃c o,st.T 6=I c/\st.σ 0=some ⟨Fv o ((dg m).length-k),1,true⟩/\o.length=k/\Dg o/\vl o-bp k*c=vl ((dg m).take k) - vl ((dg n).take k)/\0<=c/\c<=1)
  (fun r=>∃T σ nx o,r=(.exit 0,⟨T,σ,nx⟩)/\T 5= .rs 0 0 (dg m).length/\0<nx/\σ 0=some ⟨o.flatMap cI,1,true⟩/\o.length=(dg m).length/\Dg o/\vl o=(m-n:Nat)) (by
   clear hL;rintro k ⟨T,σ,nx⟩ a1 ⟨h0,h1,h5,O,J,Fz,E,c,o,h6,G,S,hd,hv,a8,b2⟩;simp only at h0 h1 h5 O J Fz E h6 G;have f1:(k:Int)<((dg m).length:Int):=by omega
   have f2:=jD k;have f3:=ZT (n:=(k:Int)+1);have f5:=AU (dg m) k a1;have f6:=idx a1;obtain⟨x,hx⟩:∃x,x=(dg m)[k]:=⟨_,rfl⟩;have xr:=(oU m).get a1;rw[<- hx]at f6 xr;obtain⟨g,hg⟩:∃g,(dg m).length-k=g+1:=⟨(dg m).length-k-1,by omega⟩;have a6:(dg m).length - (k+1)=g:=by omega
   rw[hg]at G;have c5:k<(Fv o (g+1)).length:=by rw[mW];omega
   have v1:=ZY a1;rw[<- hx]at v1;have nf:¬(0:Int)<0:=by decide
   have w1:=ZT (n:=x-c)
   by_cases hB:k<(dg n).length
   .have f8:(k:Int)<((dg n).length:Int):=by omega
    have f9:=AU (dg n) k hB;have f10:=idx hB;obtain⟨z,hz⟩:∃z,z=(dg n)[k]:=⟨_,rfl⟩;have zr:=(oU n).get hB;rw[<- hz]at f10 zr;have v2:=ZY hB;rw[<- hz]at v2;have w2:=ZT (n:=x-c-z)
    by_cases Y:x-c-z<0
    .have w3:=ZT (n:=x-c-z+1000000000)
     have c6:=mV o g (x-c-z+1000000000) S;refine .inl ⟨_,by simp only[go_sem,h0,h1,h5,h6,O,J,Fz,E,G,f1,f2,f3,f5,f6,f8,f9,f10,w1,w2,w3,Y,c5,c6];rfl,?_⟩;simp only[go_sem,h0,h1,h5,O,J,a6];refine⟨rfl,E,_,_,rfl,rfl,by simp[S],hd.snoc (by omega) (by omega),?_,by omega,by omega⟩;rw[Zb,S,qU,v1,v2,qX (n:=x-c-z) (by omega),uY,uY];omega
    .have c6:=mV o g (x-c-z) S
     refine .inl ⟨_,by simp only[go_sem,h0,h1,h5,h6,O,J,Fz,E,G,f1,f2,f3,f5,f6,f8,f9,f10,w1,w2,Y,c5,c6];rfl,?_⟩;simp only[go_sem,h0,h1,h5,O,J,a6];refine⟨rfl,E,_,_,rfl,rfl,by simp[S],hd.snoc (by omega) (by omega),?_,by omega,by omega⟩;rw[Zb,S,qU,v1,v2,qX (n:=x-c-z) (by omega),uY,uY];omega
   .have f8:¬(k:Int)<((dg n).length:Int):=by omega
    have v2:=qR (xs:=dg n) (k:=k) (by omega)
    by_cases Y:x-c<0
    .have w3:=ZT (n:=x-c+1000000000)
     have c6:=mV o g (x-c+1000000000) S;refine .inl ⟨_,by simp only[go_sem,h0,h1,h5,h6,O,J,Fz,E,G,f1,f2,f3,f5,f6,f8,w1,w3,Y,c5,c6];rfl,?_⟩;simp only[go_sem,h0,h1,h5,O,J,a6];refine⟨rfl,E,_,_,rfl,rfl,by simp[S],hd.snoc (by omega) (by omega),?_,by omega,by omega⟩;rw[Zb,S,qU,v1,v2,qX (n:=x-c) (by omega),uY];omega
    .have c6:=mV o g (x-c) S
     refine .inl ⟨_,by simp only[go_sem,h0,h1,h5,h6,O,J,Fz,E,G,f1,f2,f3,f5,f6,f8,w1,Y,c5,c6];rfl,?_⟩;simp only[go_sem,h0,h1,h5,O,J,a6];refine⟨rfl,E,_,_,rfl,rfl,by simp[S],hd.snoc (by omega) (by omega),?_,by omega,by omega⟩;rw[Zb,S,qU,v1,v2,qX (n:=x-c) (by omega),uY];omega) (by
   clear hL;rintro ⟨T,σ,nx⟩ ⟨h0,h1,h5,O,J,Fz,E,c,o,h6,G,S,hd,hv,a8,b2⟩;simp only at h0 h1 h5 O J Fz E h6 G;rw[yP,mX]at G;refine⟨_,by simp only[go_sem,J,Fz,zk];rfl,by simp,_,_,_,o,rfl,by simp only[go_sem,h5],E,G,S,hd,?_⟩;rw[yg,zl a7,Ze,Ze,<- S]at hv;have h7:=Zd hd;have h8:=Zc hd;have h9:=qV o.length;have hc:c=0:=zf fun b5=>by
    have:c=1:=by omega
    subst this;rw[Int.mul_one]at hv;omega
   subst hc;rw[vN]at hv;omega) (by
   simp only[go_sem];exact⟨0,[],rfl,rfl,rfl,Dg.nil,by simp[vl],xA _,by decide⟩)
 have ht:=abV o (by unfold Short;omega);rw[CG hd hv]at ht;have b3:fn ZL conv ext 272 [.ts (o.flatMap cI) (dg m).length]=some (LI (dg (m-n))):=by rw[<- S];exact ht
 have tk:List.take (dg m).length (o.flatMap cI)=o.flatMap cI:=by rw[<- S];exact qH _
 have b4:(o.flatMap cI).length=(dg m).length:=by rw[qL,S]
 simp only[go_sem,h5,E,G,b4,tk,b3]
theorem aaA{xs:List Int}{k:Nat}(h:k<xs.length)(y:Int):vl (xs.set k y)=vl xs+bp k*(y-xs[k]):=by
 induction xs generalizing k with
 |nil=>cases h
 |cons x xs E=>
  cases k with
  |zero=>
   rw[uf,SA];show y+1000000000*vl xs=x+1000000000*vl xs+1*(y-x);omega
  |succ k=>
   have G:k<xs.length:=by simpa using h
   rw[List.set_cons_succ,qU];show x+1000000000*vl (xs.set k y)=x+1000000000*vl xs+1000000000*bp k*(y-xs[k]);rw[E G,xR,uT];omega
theorem Dg.set{xs:List Int}(h:Dg xs)(k:Nat){y:Int}(G:0<=y)(J:y<1000000000):Dg (xs.set k y):=fun x O=>by
 rcases u_ O with E|E
 .exact h x E
 .rw[E];exact⟨G,J⟩
theorem qK(xs:List Int)(k:Nat)(y:Int):(xs.flatMap cI).set k (I y)=(xs.set k y).flatMap cI:=by
 induction xs generalizing k with
 |nil=>rfl
 |cons x xs E=>
  cases k with
  |zero=>rfl
  |succ k=>
   show I x :: (xs.flatMap cI).set k (I y)=I x :: (xs.set k y).flatMap cI;rw[E]
theorem mQ{o:List Int}{k:Nat}(r:Nat)(y:Int)(h:k<o.length):(Fv o r).set k (I y)=Fv (o.set k y) r:=by
 unfold Fv;rw[List.set_append_left _ _ (by rw[qL];exact h),qK]
theorem SE{o:List Int}{k:Nat}(r:Nat)(h:k<o.length):(Fv o r)[k]?=some (I o[k]):=by
 unfold Fv;rw[zW (by rw[qL];exact h),idx h]
theorem SH{x y c w:Int}(G:0<=x/\x<1000000000)(E:0<=y/\y<1000000000)(hc:0<=c/\c<1000000000)(hw:0<=w/\w<1000000000):0<=x*y/\x*y<=999999998000000001/\(w+x*y+c) / 1000000000<1000000000:=by
 have J:=vH G.1 E.1;have O:x*y<=999999999*999999999:=Int.mul_le_mul (by omega) (by omega) E.1 (by omega);omega
theorem Jy{W bi E w x b c y q v0 t:Int}(G:y+1000000000*q=w+x*b+c)(J:W+E*c=v0+bi*(x*t))(hb:E*(x*b)=bi*(x*(E*b))\/True) :
  W+E*(y-w)+1000000000*E*q=v0+bi*(x*t)+E*(x*b):=by
 have:1000000000*E*q=E*(1000000000*q):=by grind
 rw[this];have e:E*(y-w)+E*(1000000000*q)=E*(x*b+c):=by rw[<- xR];congr 1;omega
 rw[xR]at e;omega
theorem Ll(m n:Nat)(hm:ln m<=1000000)(hn:ln n<=1000000):fn ZL conv ext 226 [LI (dg m),LI (dg n)]=some (LI (dg (m*n))):=by
 unfold ln at hm hn;rw[m_,mg [.tmp 4] [] func226]
 by_cases zm:m=0
 .subst zm
  rw[uX,oJ]
  (simp only[go_sem])<;>rfl
 have cm:((((dg m).length:Nat):Int)==0)=false:=by rw[sG];have:=qy (oO zm);omega
 by_cases zn:n=0
 .subst zn
  rw[Nat.mul_zero,oJ]
  (simp only[go_sem,cm])<;>rfl
 have cn:((((dg n).length:Nat):Int)==0)=false:=by rw[sG];have:=qy (oO zn);omega
 have pn:0<(dg n).length:=List.length_pos_iff.mpr (oO zn);obtain⟨e1,e2,e3⟩:=jO (k:=(dg m).length+(dg n).length) (by omega);have e0:((dg m).length:Int)+((dg n).length:Int)=(((dg m).length+(dg n).length:Nat):Int):=by omega
 have e4:=ZT (n:=(((dg m).length+(dg n).length:Nat):Int)) (by omega) (by omega);simp only[go_sem,cm,cn,e0,e1,e2,e3,e4];generalize hL:dI _ _=y;obtain⟨r,rfl,T',σ',nx',P,rfl,S,E,G,hP,hd,hv⟩:=oZ hL (dg m).length (fun k st=>st.T 1=LI (dg n)/\st.T 5= .rs 0 0 ((dg m).length+(dg n).length)/\st.T 26=LI (dg m)/\st.T 27=I (dg m).length/\st.T 28=I k/\0<st.nx/\∃P,st.σ 0=some ⟨Fv P ((dg m).length-k),1,true⟩/\P.length=k+(dg n).length/\Dg P/\vl P=vl ((dg m).take k)*n)
  (fun r=>∃T σ nx P,r=(.exit 0,⟨T,σ,nx⟩)/\T 5= .rs 0 0 ((dg m).length+(dg n).length)/\0<nx/\σ 0=some ⟨P.flatMap cI,1,true⟩/\P.length=(dg m).length+(dg n).length/\Dg P/\vl P=(m*n:Nat)) (by
   clear hL;rintro k ⟨T,σ,nx⟩ a8 ⟨Y,S,EL,J,O,E,P,G,hP,hd,hv⟩;simp only at Y S EL J O E G;have f1:(k:Int)<((dg m).length:Int):=by omega
   have f2:=jD k;have f3:=ZT (n:=(k:Int)+1);have f5:=AU (dg m) k a8;have f6:=idx a8;obtain⟨x,hx⟩:∃x,x=(dg m)[k]:=⟨_,rfl⟩;have xr:=(oU m).get a8;rw[<- hx]at f6 xr;have v1:=ZY a8;rw[<- hx]at v1;obtain⟨g,hg⟩:∃g,(dg m).length-k=g+1:=⟨(dg m).length-k-1,by omega⟩;have b2:(dg m).length - (k+1)=g:=by omega
   rw[hg]at G;refine bC ?_
   conv=>
    enter [1,r,1,1]
    simp only[go_sem,Y,S,EL,J,O,E,f1,f2,f5,f6]
   generalize hL:dI _ _=z;obtain⟨r,rfl,T',σ',nx',c,W,rfl,Y,S,h6,h8,EL,J,O,E,G,hW,hd,hv,a1,a6⟩:=oZ hL (dg n).length (fun j st=>st.T 1=LI (dg n)/\st.T 5= .rs 0 0 ((dg m).length+(dg n).length)/\st.T 6=I k/\st.T 7=I x/\st.T 26=LI (dg m)/\st.T 27=I (dg m).length/\st.T 28=I k/\st.T 33=LI (dg n)/\st.T 34=I (dg n).length/\st.T 35=I j/\0<st.nx/\∃c W,st.T 8=I c/\st.σ 0=some ⟨Fv W (g+1),1,true⟩/\W.length=k+(dg n).length/\Dg W/\vl W+bp (k+j)*c=vl ((dg m).take k)*n+bp k*(x*vl ((dg n).take j))/\0<=c/\c<1000000000)
    (fun r=>∃T σ nx c W,r=(.exit 2,⟨T,σ,nx⟩)/\T 1=LI (dg n)/\T 5= .rs 0 0 ((dg m).length+(dg n).length)/\T 6=I k/\T 8=I c/\T 26=LI (dg m)/\T 27=I (dg m).length/\T 28=I k/\0<nx/\σ 0=some ⟨Fv W (g+1),1,true⟩/\W.length=k+(dg n).length/\Dg W/\vl W+bp (k+(dg n).length)*c=vl ((dg m).take k)*n+bp k*(x*n)/\0<=c/\c<1000000000) (by
     clear hL;rintro j ⟨T,σ,nx⟩ hj ⟨Y,S,h6,h7,EL,J,O,Wq,Qa,a7,E,c,W,h8,G,hW,hd,hv,a1,a6⟩;simp only at Y S h6 h7 h8 EL J O Wq Qa a7 E G;have g1:(j:Int)<((dg n).length:Int):=by omega
     have g2:=jD j;have g3:=ZT (n:=(j:Int)+1);have g5:=AU (dg n) j hj;have g6:=idx hj;obtain⟨b,hb⟩:∃b,b=(dg n)[j]:=⟨_,rfl⟩;have br:=(oU n).get hj;rw[<- hb]at g6 br;have v2:=ZY hj;rw[<- hb]at v2;have p0:(k:Int)+(j:Int)=((k+j:Nat):Int):=by omega
     have p1:=ZT (n:=((k+j:Nat):Int));have p2:(0:Int)<=((k+j:Nat):Int):=by omega
     have p3:((k+j:Nat):Int)<(((dg m).length+(dg n).length:Nat):Int):=by omega
     have p4:k+j<W.length:=by omega
     have p5:=SE (o:=W) (g+1) p4;have p6:k+j<(Fv W (g+1)).length:=by rw[mW];omega
     obtain⟨w,hw⟩:∃w,w=W[k+j]:=⟨_,rfl⟩;have wr:=hd.get p4;rw[<- hw]at p5 wr;have mm:=SH (x:=x) (y:=b) (c:=c) (w:=w) xr br ⟨a1,a6⟩ wr;have w1:=ZT (n:=x*b);have w2:=ZT (n:=w+x*b);have w3:=ZT (n:=w+x*b+c);obtain⟨q1,q2⟩:=aF (n:=w+x*b+c) (by omega);have w4:=ZT (n:=(w+x*b+c) / 1000000000);have c6:=mQ (g+1) ((w+x*b+c)%1000000000) p4;have vs:=aaA p4 ((w+x*b+c)%1000000000);rw[<- hw]at vs;refine .inl ⟨_,by simp only[go_sem,Y,S,h6,h7,h8,EL,J,O,Wq,Qa,a7,E,G,g1,g2,g3,g5,g6,p0,p1,p2,p3,p5,p6,w1,w2,w3,w4,q1,q2,c6];rfl,?_⟩;simp only[go_sem,Y,S,h6,h7,EL,J,O,Wq,Qa];refine⟨rfl,E,_,_,rfl,rfl,by rw[xu];exact hW,hd.set _ (by omega) (by omega),?_,by omega,by omega⟩;rw[vs,show k+(j+1)=k+j+1 by omega,qU,Jy (c:=c) (x:=x) (b:=b) (by omega) hv (.inr trivial),v2,SB];grind) (by
     clear hL;rintro ⟨T,σ,nx⟩ ⟨Y,S,h6,h7,EL,J,O,Wq,Qa,a7,E,c,W,h8,G,hW,hd,hv,a1,a6⟩;simp only at Y S h6 h7 h8 EL J O Wq Qa a7 E G;rw[yg,Ze]at hv;refine⟨_,by simp only[go_sem,Qa,a7,zk];rfl,by simp,_,_,_,c,W,rfl,?_⟩;simp only[go_sem,Y,S,h6,h8,EL,J,O];exact⟨E,G,hW,hd,hv,a1,a6⟩) (by
     simp only[go_sem,Y,S,EL,J,O];exact⟨E,0,P,rfl,G,hP,hd,by rw[vN,hv];simp[vl],xA _,by decide⟩)
   have p0:(k:Int)+((dg n).length:Int)=((k+(dg n).length:Nat):Int):=by omega
   have p1:=ZT (n:=((k+(dg n).length:Nat):Int)) (by omega) (by omega);have p2:(0:Int)<=((k+(dg n).length:Nat):Int):=by omega
   have p3:((k+(dg n).length:Nat):Int)<(((dg m).length+(dg n).length:Nat):Int):=by omega
   have p6:k+(dg n).length<(Fv W (g+1)).length:=by rw[mW];omega
   have c6:=mV W g c hW;refine⟨_,by simp only[go_sem,Y,S,h6,h8,EL,J,O,E,G,f3,p0,p1,p2,p3,p6,c6];rfl,.inl ⟨_,rfl,?_⟩⟩;simp only[go_sem,Y,S,EL,J,b2];refine⟨rfl,E,_,rfl,by simp[hW];omega,hd.snoc a1 a6,?_⟩;rw[Zb,hW,hv,v1];grind) (by
   clear hL;rintro ⟨T,σ,nx⟩ ⟨Y,S,EL,J,O,E,P,G,hP,hd,hv⟩;simp only at Y S EL J O E G;rw[yP,mX]at G;refine⟨_,by simp only[go_sem,J,O,zk];rfl,by simp,_,_,_,P,rfl,by simp only[go_sem,S],E,G,hP,hd,?_⟩;rw[hv,yg,Ze,yh]) (by
   simp only[go_sem];refine⟨List.replicate (dg n).length 0,?_,by simp,fun x hx=>by rw[List.mem_replicate]at hx;omega,(aaz _).trans (by simp[vl])⟩;congr 2;unfold Fv;rw[show List.flatMap cI (List.replicate (dg n).length 0)=rep (dg n).length [I 0] by unfold rep;rw[List.flatMap_replicate]];unfold rep;rw[<- List.flatten_append,vY,wG])
 have ht:=abV P (by unfold Short;omega);rw[CG hd hv]at ht;have b3:fn ZL conv ext 272 [.ts (P.flatMap cI) ((dg m).length+(dg n).length)]=some (LI (dg (m*n))):=by rw[<- hP];exact ht
 have tk:List.take ((dg m).length+(dg n).length) (P.flatMap cI)=P.flatMap cI:=by rw[<- hP];exact qH _
 have b4:(P.flatMap cI).length=(dg m).length+(dg n).length:=by rw[qL,hP]
 simp only[go_sem,S,E,G,b4,tk,b3]
end Go.Proofs.YtkpdoehbhmipcaaGreat
