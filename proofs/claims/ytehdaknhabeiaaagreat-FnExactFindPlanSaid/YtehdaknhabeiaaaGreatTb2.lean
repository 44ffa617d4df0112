import Derived.Test.YtehdaknhabeiaaaGreatTb1
import Derived.SizedLaws
import Derived.ChangeArms
import Derived.Deep.Slices
import Derived.OpenShut
import Derived.ChangeOld
import Derived.Laws.StructEq
import Derived.Test.YtehdaknhabeiaaaGreatProg
import Derived.KernelRfl
set_option linter.unusedSimpArgs false
set_option linter.unusedVariables false
set_option linter.unusedSectionVars false
set_option linter.defProp false
set_option maxRecDepth 10000
set_option maxHeartbeats 4000000
open Go.Proofs.Tryz renaming prog->ZH
open Go.Proofs.Tryz
open Array renaming length_toList->yO,getElem?_toList->xW
open Bool renaming and_eq_true->zB,false_eq_true->yL,and_false->xu,not_false->wu,false_and->wE,not_eq_true'->vU,true_and->vJ,not_true->vH,or_eq_false_iff->uM
open Classical renaming byContradiction->zf
open Int renaming lt_irrefl->zl,mul_le_mul_of_nonneg_right->zS,toNat_natCast->zF,mul_le_mul_of_nonneg_left->zA,natCast_mul->yh,tdiv_eq_ediv_of_nonneg->yH,le_refl->yD,mul_add->xY,tmod_eq_emod_of_nonneg->xH,mul_zero->vZ,mul_sub->uw,mul_assoc->ug,toNat_of_nonneg->uY,add_zero->uS,sub_mul->uH
open List renaming getElem?_eq_getElem->zy,getElem_mem->zu,length_append->zo,take_of_length_le->zk,length_take->zh,eq_nil_of_length_eq_zero->zZ,mem_cons_of_mem->zY,getElem?_append_left->zV,flatMap_append->zU,flatMap_cons->zT,getElem?_append_right->zQ,length_map->zO,mem_cons_self->zM,append_nil->zK,length_cons->zJ,not_mem_nil->zH,mem_append_left->zD,append_assoc->z_,mem_append_right->yw,take_length->yg,getElem?_map->yc,getElem?_eq_none->yZ,drop_zero->yY,getElem_of_mem->yV,drop_eq_getElem_cons->yU,cons_append->yT,take_add_one->yN,length_singleton->yM,nil_append->yK,length_set->yJ,set_append_right->yC,drop_of_length_le->xk,replicate_succ->xR,map_congr_left->xO,take_left'->xM,mem_singleton->xC,length_nil->wZ,getElem?_toArray->wV,getElem?_cons_zero->wU,mem_of_mem_take->wS,flatMap_nil->wQ,take_append_drop->wM,size_toArray->wB,set_cons_zero->vg,all_nil->vN,map_cons->vK,getElem_take->uh,all_cons->uO,length_range->uN,set_eq_take_append_cons_drop->uJ,getElem?_cons_succ->tV,contains_cons->tN
open Nat renaming le_refl->zq,not_lt_zero->zW,le_trans->zL,mul_le_mul_right->zC,zero_add->yX,mul_one->yQ,sub_self->yP,min_eq_left->yA,lt_or_eq_of_le->xw,succ_mul->xq,le_of_lt_succ->xg,lt_of_lt_of_le->xP,div_le_self->xJ,div_div_eq_div_mul->xA,div_one->x9,add_comm->wR,mul_comm->wL,zero_le->wK,mod_eq_of_lt->wJ,le_max_right->wH,add_assoc->wG,mod_lt->vX,le_max_left->vT,add_mul->vO,mul_assoc->vG,div_eq_of_lt->vF,zero_mul->uq,pow_succ->um,add_zero->uG,mul_le_mul_left->tu,div_lt_self->tK,le_mul_of_pos_left->tH
open Option renaming bind_some->zi,map_some->zG,getD_some->xK
open Option.some renaming injEq->su
open Prod.mk renaming injEq->sZ
namespace Go.TV
open Go.RowKit
set_option linter.unusedVariables false
set_option linter.unusedSimpArgs false
variable [Known]
def CLe(c c':Call):Prop:=∀f args σ nx r,c f args σ nx=some r->c' f args σ nx=some r
section
variable {P:Program} {conv:FuncId->Conv}
theorem Js{c c':Call}(h:CLe c c'){f:FuncId}{args:List V}{σ:Store}{nx:Nat}{r:V×Store×Nat}(e:Cm conv c f args σ nx=some r):Cm conv c' f args σ nx=some r:=by
 unfold Cm at *
 split at e
 .exact h _ _ _ _ _ e
 .split at e
  .rename_i ts ids G
   try simp only[G]
   cases E:c f ts lI 0 with
   |none=>rw[E]at e;cases e
   |some q=>rw[E]at e;rw[h _ _ _ _ _ E];exact e
  .cases e
 .split at e
  .rename_i ts ids G
   try simp only[G]
   cases E:c f ts lI nx with
   |none=>rw[E]at e;cases e
   |some q=>rw[E]at e;rw[h _ _ _ _ _ E];exact e
  .cases e
theorem Sv{c c':Call}{o:Oper}{T:Nat->V}{σ:Store}{nx:Nat}{r:V×Store×Nat}(h:∀f args σ r,Cm conv c f args σ nx=some r->Cm conv c' f args σ nx=some r)(e:AB P conv c o T σ nx=some r):AB P conv c' o T σ nx=some r:=by
 obtain⟨dst,op,type,pos,after,guard⟩:=o;cases op<;>simp only[AB]at e⊢ <;>first|exact e|skip
 rename_i E;obtain⟨callee,args,ts⟩:=E;cases callee with
 |value f=>
  simp only at e⊢
  split at e
  .rename_i G
   try simp only[G]
   exact h _ _ _ _ e
  .cases e
 |builtin b=>exact e
 |invoke r m=>exact e
theorem Y2{c:Call}{o:Oper}{T:Nat->V}{σ:Store}{nx:Nat}{r:V×Store×Nat}(e:AB P conv c o T σ nx=some r) :
  (∀c',AB P conv c' o T σ nx=some r)\/∃f args,Cm conv c f args σ nx=some r/\∀c',Cm conv c' f args σ nx=some r->AB P conv c' o T σ nx=some r:=by
 obtain⟨dst,op,type,pos,after,guard⟩:=o;cases op<;>simp only[AB]at e⊢ <;>first|exact .inl fun _=>e|skip
 rename_i E;obtain⟨callee,args,ts⟩:=E;cases callee with
 |value f=>
  simp only at e⊢
  split at e
  .rename_i G
   try simp only[G]
   exact .inr ⟨_,_,e,fun c' h=>h⟩
  .cases e
 |builtin b=>exact .inl fun _=>e
 |invoke r m=>exact .inl fun _=>e
theorem VD{c c':Call}(h:CLe c c'){o:Oper}{T:Nat->V}{σ:Store}{nx:Nat}{r:V×Store×Nat}(e:Ag P conv c o T σ nx=some r):Ag P conv c' o T σ nx=some r:=by
 unfold Ag at *
 split at e
 .rename_i F G
  try simp only[G]
  split at e
  .rename_i J
   rw[sS J];cases E:AB P conv c o T (restrict σ F) nx with
   |none=>rw[E]at e;cases e
   |some q=>rw[E]at e;rw[Sv (fun f args σ r=>Js h) E];exact e
  .cases e
 .cases e
theorem nN{c c':Call}(h:CLe c c'){ops:Array Oper}:∀(l:List Oper) (s s':St),BZ P conv c ops l s=some s'->BZ P conv c' ops l s=some s'
 |[],s,s',e=>e
 |o :: l,s,s',e=>by
  unfold BZ at *
  split at e
  .rename_i E
   try simp only[E]
   cases G:AB P conv c o s.T s.σ s.nx with
   |none=>rw[G]at e;cases e
   |some q=>
    rw[G]at e;rw[Sv (fun f args σ r=>Js h) G];exact nN h l _ _ e
  .rename_i E
   try simp only[E]
   exact nN h l _ _ e
  .cases e
theorem nS{c c':Call}(h:CLe c c'){ops:Array Oper}:∀(l:List Oper) (s:St) (r:St×List (List Nat)),Bz P conv c ops l s=some r->Bz P conv c' ops l s=some r
 |[],s,r,e=>e
 |o :: l,s,r,e=>by
  unfold Bz at *
  split at e
  .rename_i G
   try simp only[G]
   cases J:Ag P conv c o s.T s.σ s.nx with
   |none=>rw[J]at e;cases e
   |some q=>
    rw[J]at e;rw[VD h J];simp only at e⊢;cases E:Bz P conv c ops l ⟨Df s.T o.dst q.1,q.2.1,q.2.2⟩with
    |none=>rw[E]at e;cases e
    |some O=>rw[E]at e;rw[nS h l _ _ E];exact e
  .rename_i G
   try simp only[G]
   cases E:Bz P conv c ops l ⟨Df s.T o.dst (.AP []),s.σ,s.nx⟩with
   |none=>rw[E]at e;cases e
   |some O=>rw[E]at e;rw[nS h l _ _ E];exact e
  .cases e
theorem Qj{c c':Call}(h:CLe c c'){ops:Array Oper}{s s':St}(e:CJ P conv c ops s=some s'):CJ P conv c' ops s=some s':=by
 unfold CJ at *
 split at e
 .rename_i G
  rw[sS G];cases E:Bz P conv c ops ops.toList s with
  |none=>rw[E]at e;cases e
  |some q=>rw[E]at e;rw[nS h _ _ _ E];exact e
 .cases e
noncomputable def dI(body:St->Option (Ex×St))(s:St):Option (Ex×St) :=
 open Classical in if h:∃r,∃n,BP body n s=some r then some h.choose else none
theorem Kz{body:St->Option (Ex×St)}:∀(n:Nat) (s:St) (r:Ex×St),BP body n s=some r->BP body (n+1) s=some r
 |0,s,r,h=>by cases h
 |n+1,s,r,h=>by
  unfold BP at h⊢
  split at h
  .exact Kz n _ r h
  .exact h
theorem EH{body:St->Option (Ex×St)}{n m:Nat}(E:n<=m){s:St}{r:Ex×St}(h:BP body n s=some r):BP body m s=some r:=by
 induction E with
 |refl=>exact h
 |step _ G=>exact Kz _ _ _ G
theorem nX{body:St->Option (Ex×St)}{s:St}{r:Ex×St}:dI body s=some r↔∃n,BP body n s=some r:=by
 unfold dI;constructor
 .intro h
  split at h
  .rename_i hex
   simp only[su]at h;subst h;exact hex.choose_spec
  .cases h
 .rintro ⟨n,hn⟩
  have hex:∃r,∃n,BP body n s=some r:=⟨r,n,hn⟩;rw[dif_pos hex];obtain⟨m,hm⟩:=hex.choose_spec;have G:=EH (vT n m) hn;have E:=EH (wH n m) hm;rw[G]at E;exact E.symm
theorem nY(body:St->Option (Ex×St))(s:St):dI body s=match body s with
  |some (.norm,s')=>dI body s'
  |r=>r:=by
 apply Option.ext;intro r;rw[nX];constructor
 .rintro ⟨n,hn⟩
  cases n with
  |zero=>cases hn
  |succ n=>
   unfold BP at hn;cases hb:body s with
   |none=>rw[hb]at hn;cases hn
   |some q=>
    rw[hb]at hn;obtain⟨ex,G⟩:=q;cases ex with
    |norm=>exact nX.2 ⟨n,hn⟩
    |exit id=>exact hn
    |ret=>exact hn
 .intro h
  split at h
  .rename_i s' hb
   obtain⟨n,hn⟩:=nX.1 h;exact⟨n+1,by unfold BP;simp only[hb];exact hn⟩
  .rename_i E
   refine⟨1,?_⟩;unfold BP
   split
   .rename_i s' hb;exact absurd hb (E s')
   .exact h
noncomputable def Am(P:Program)(conv:FuncId->Conv)(call:Call):Code->St->Option (Ex×St)
 | .skip,s=>some (.norm,s)
 | .region _ ops draw,s=>match(if draw then CJ P conv call ops s else BZ P conv call ops ops.toList s)with
  |some s'=>some (.norm,s')
  |none=>none
 | .seq a b,s=>match Am P conv call a s with
  |some (.norm,s')=>Am P conv call b s'
  |r=>r
 | .cond c a b,s=>match val s.T c with
  | .sc (.bool true)=>Am P conv call a s
  | .sc (.bool false)=>Am P conv call b s
  |_=>none
 | .block id c,s=>match Am P conv call c s with
  |some (.exit j,s')=>if j=id then some (.norm,s')else some (.exit j,s')
  |r=>r
 | .loop c,s=>dI (Am P conv call c) s
 | .exit id,s=>some (.exit id,s)
 | .ret,s=>some (.ret,s)
 |_,_=>none
theorem nV{b b':St->Option (Ex×St)}(h:∀s r,b s=some r->b' s=some r):∀(n:Nat) (s:St) (r:Ex×St),BP b n s=some r->BP b' n s=some r
 |0,s,r,e=>by cases e
 |n+1,s,r,e=>by
  unfold BP at *
  split at e
  .rename_i s' hb;simp only[h _ _ hb];exact nV h n s' r e
  .cases E:b s with
   |none=>rw[E]at e;cases e
   |some q=>
    rw[E]at e;rw[h _ _ E];obtain⟨ex,J⟩:=q;cases ex with
    |norm=>rename_i G;exact absurd E (G J)
    |exit id=>exact e
    |ret=>exact e
theorem o8{c c':Call}(h:CLe c c'){n m:Nat}(S:n<=m):∀(G:Code) (s:St) (r:Ex×St),xI P conv c n G s=some r->xI P conv c' m G s=some r:=by
 intro G
 induction G with
 |region id ops draw=>
  intro s r e;simp only[xI]at *;cases draw with
  |true=>
   simp only[if_true]at *;cases E:CJ P conv c ops s with
   |none=>rw[E]at e;cases e
   |some q=>rw[E]at e;rw[Qj h E];exact e
  |false=>
   simp only[yL,if_false]at *;cases E:BZ P conv c ops ops.toList s with
   |none=>rw[E]at e;cases e
   |some q=>rw[E]at e;rw[nN h _ _ _ E];exact e
 |seq a b J O=>
  intro s r e;simp only[xI]at *;cases E:xI P conv c n a s with
  |none=>rw[E]at e;cases e
  |some q=>
   rw[E]at e;rw[J _ _ E];obtain⟨ex,s1⟩:=q;cases ex<;>first|exact O _ _ e|exact e
 |cond v a b J O=>
  intro s r e;simp only[xI]at *
  split at e
  .exact J _ _ e
  .exact O _ _ e
  .cases e
 |block id G Y=>
  intro s r e;simp only[xI]at *;cases E:xI P conv c n G s with
  |none=>rw[E]at e;cases e
  |some q=>rw[E]at e;rw[Y _ _ E];exact e
 |loop G Y=>
  intro s r e;simp only[xI]at *;exact EH S (nV (fun s r=>Y s r) n s r e)
 |skip=>intro s r e;exact e
 |exit id=>intro s r e;exact e
 |ret=>intro s r e;exact e
 |_=>intro s r e;simp only[xI]at e;cases e
theorem Y3{c c':Call}(h:CLe c c'){n:Nat}:∀(G:Code) (s:St) (r:Ex×St),xI P conv c n G s=some r->Am P conv c' G s=some r:=by
 intro G
 induction G with
 |region id ops draw=>
  intro s r e;simp only[xI,Am]at *;cases draw with
  |true=>
   simp only[if_true]at *;cases E:CJ P conv c ops s with
   |none=>rw[E]at e;cases e
   |some q=>rw[E]at e;rw[Qj h E];exact e
  |false=>
   simp only[yL,if_false]at *;cases E:BZ P conv c ops ops.toList s with
   |none=>rw[E]at e;cases e
   |some q=>rw[E]at e;rw[nN h _ _ _ E];exact e
 |seq a b J O=>
  intro s r e;simp only[xI,Am]at *;cases E:xI P conv c n a s with
  |none=>rw[E]at e;cases e
  |some q=>
   rw[E]at e;rw[J _ _ E];obtain⟨ex,s1⟩:=q;cases ex<;>first|exact O _ _ e|exact e
 |cond v a b J O=>
  intro s r e;simp only[xI,Am]at *
  split at e
  .rename_i S;simp only[S];exact J _ _ e
  .rename_i S;simp only[S];exact O _ _ e
  .cases e
 |block id G Y=>
  intro s r e;simp only[xI,Am]at *;cases E:xI P conv c n G s with
  |none=>rw[E]at e;cases e
  |some q=>rw[E]at e;rw[Y _ _ E];exact e
 |loop G Y=>
  intro s r e;simp only[xI,Am]at *;exact nX.2 ⟨n,nV (fun s r=>Y s r) n s r e⟩
 |skip=>intro s r e;exact e
 |exit id=>intro s r e;exact e
 |ret=>intro s r e;exact e
 |_=>intro s r e;simp only[xI]at e;cases e
def Chain(C:Nat->Call):Prop:=∀k,CLe (C k) (C (k+1))
theorem Chain.le{C:Nat->Call}(h:Chain C){k m:Nat}(E:k<=m):CLe (C k) (C m):=by
 induction E with
 |refl=>exact fun _ _ _ _ _ e=>e
 |step _ G=>exact fun f args σ nx r e=>h _ f args σ nx r (G f args σ nx r e)
noncomputable def sup(C:Nat->Call):Call:=fun f args σ nx=>
 open Classical in if h:∃r,∃k,C k f args σ nx=some r then some h.choose else none
theorem aK{C:Nat->Call}(E:Chain C){f:FuncId}{args:List V}{σ:Store}{nx:Nat}{r:V×Store×Nat}:sup C f args σ nx=some r↔∃k,C k f args σ nx=some r:=by
 unfold sup;constructor
 .intro h
  split at h
  .rename_i hex
   simp only[su]at h;subst h;exact hex.choose_spec
  .cases h
 .rintro ⟨n,hn⟩
  have hex:∃r,∃k,C k f args σ nx=some r:=⟨r,n,hn⟩;rw[dif_pos hex];obtain⟨m,hm⟩:=hex.choose_spec;have J:=E.le (vT n m) _ _ _ _ _ hn;have G:=E.le (wH n m) _ _ _ _ _ hm;rw[J]at G;exact G.symm
theorem Y4{C:Nat->Call}(G:Chain C){f:FuncId}{args:List V}{σ:Store}{nx:Nat}{r:V×Store×Nat}(e:Cm conv (sup C) f args σ nx=some r):∃k,Cm conv (C k) f args σ nx=some r:=by
 unfold Cm at *
 split at e
 .exact(aK G).1 e
 .split at e
  .rename_i ts ids J
   try simp only[J]
   cases E:sup C f ts lI 0 with
   |none=>rw[E]at e;cases e
   |some q=>
    obtain⟨k,O⟩:=(aK G).1 E;rw[E]at e;exact⟨k,by rw[O];exact e⟩
  .cases e
 .split at e
  .rename_i ts ids J
   try simp only[J]
   cases E:sup C f ts lI nx with
   |none=>rw[E]at e;cases e
   |some q=>
    obtain⟨k,O⟩:=(aK G).1 E;rw[E]at e;exact⟨k,by rw[O];exact e⟩
  .cases e
theorem VE{C:Nat->Call}(E:Chain C){o:Oper}{T:Nat->V}{σ:Store}{nx:Nat}{r:V×Store×Nat}(e:AB P conv (sup C) o T σ nx=some r):∃k,AB P conv (C k) o T σ nx=some r:=by
 rcases Y2 e with h|⟨f,args,G,J⟩
 .exact⟨0,h _⟩
 .obtain⟨k,O⟩:=Y4 E G
  exact⟨k,J _ O⟩
theorem adC{C:Nat->Call}(G:Chain C){o:Oper}{T:Nat->V}{σ:Store}{nx:Nat}{r:V×Store×Nat}(e:Ag P conv (sup C) o T σ nx=some r):∃k,Ag P conv (C k) o T σ nx=some r:=by
 unfold Ag at *
 split at e
 .rename_i F J
  try simp only[J]
  split at e
  .rename_i O
   simp only[O,if_true];cases E:AB P conv (sup C) o T (restrict σ F) nx with
   |none=>rw[E]at e;cases e
   |some q=>
    obtain⟨k,S⟩:=VE G E;rw[E]at e;exact⟨k,by rw[S];exact e⟩
  .cases e
 .cases e
theorem Jt{C:Nat->Call}(E:Chain C){ops:Array Oper}:∀(l:List Oper) (s s':St),BZ P conv (sup C) ops l s=some s'->∃k,BZ P conv (C k) ops l s=some s'
 |[],s,s',e=>⟨0,e⟩
 |o :: l,s,s',e=>by
  unfold BZ at e
  split at e
  .rename_i G
   cases J:AB P conv (sup C) o s.T s.σ s.nx with
   |none=>rw[J]at e;cases e
   |some q=>
    rw[J]at e;obtain⟨k,O⟩:=VE E J;obtain⟨m,hm⟩:=Jt E l _ _ e;refine⟨max k m,?_⟩;unfold BZ;simp only[G,Sv (fun f args σ r=>Js (E.le (vT k m))) O];exact nN (E.le (wH k m)) _ _ _ hm
  .rename_i G
   obtain⟨m,hm⟩:=Jt E l _ _ e;exact⟨m,by unfold BZ;simp only[G];exact hm⟩
  .cases e
theorem nP{C:Nat->Call}(G:Chain C){ops:Array Oper}:∀(l:List Oper) (s:St) (r:St×List (List Nat)),Bz P conv (sup C) ops l s=some r->∃k,Bz P conv (C k) ops l s=some r
 |[],s,r,e=>⟨0,e⟩
 |o :: l,s,r,e=>by
  unfold Bz at e
  split at e
  .rename_i J
   cases O:Ag P conv (sup C) o s.T s.σ s.nx with
   |none=>rw[O]at e;cases e
   |some q=>
    rw[O]at e;simp only at e;cases E:Bz P conv (sup C) ops l ⟨Df s.T o.dst q.1,q.2.1,q.2.2⟩with
    |none=>rw[E]at e;cases e
    |some S=>
     rw[E]at e;obtain⟨k,Y⟩:=adC G O;obtain⟨m,hm⟩:=nP G l _ _ E;refine⟨max k m,?_⟩;unfold Bz;simp only[J,VD (G.le (vT k m)) Y,nS (G.le (wH k m)) _ _ _ hm];exact e
  .rename_i J
   cases E:Bz P conv (sup C) ops l ⟨Df s.T o.dst (.AP []),s.σ,s.nx⟩with
   |none=>rw[E]at e;cases e
   |some S=>
    rw[E]at e;obtain⟨m,hm⟩:=nP G l _ _ E;refine⟨m,?_⟩;unfold Bz;simp only[J,hm];exact e
  .cases e
theorem Y5{C:Nat->Call}(G:Chain C){ops:Array Oper}{s s':St}(e:CJ P conv (sup C) ops s=some s'):∃k,CJ P conv (C k) ops s=some s':=by
 unfold CJ at *
 split at e
 .rename_i J
  simp only[J,if_true];cases E:Bz P conv (sup C) ops ops.toList s with
  |none=>rw[E]at e;cases e
  |some q=>
   obtain⟨k,O⟩:=nP G _ _ _ E;rw[E]at e;exact⟨k,by rw[O];exact e⟩
 .cases e
theorem MV{B:Nat->St->Option (Ex×St)}{b:St->Option (Ex×St)}(E:∀k m,k<=m->∀s r,B k s=some r->B m s=some r)(h:∀s r,b s=some r->∃k,B k s=some r) :
  ∀(n:Nat) (s:St) (r:Ex×St),BP b n s=some r->∃k,BP (B k) n s=some r
 |0,s,r,e=>by cases e
 |n+1,s,r,e=>by
  unfold BP at e
  split at e
  .rename_i s' hb
   obtain⟨k,G⟩:=h _ _ hb;obtain⟨m,hm⟩:=MV E h n s' r e;refine⟨max k m,?_⟩;unfold BP;simp only[E k _ (vT k m) _ _ G];exact nV (E m _ (wH k m)) n s' r hm
  .rename_i J
   obtain⟨k,G⟩:=h _ _ e;refine⟨k,?_⟩;unfold BP;rw[G];obtain⟨ex,O⟩:=r;cases ex with
   |norm=>exact absurd e (J O)
   |exit id=>rfl
   |ret=>rfl
theorem VF{C:Nat->Call}(Y:Chain C):∀(J:Code) (s:St) (r:Ex×St),Am P conv (sup C) J s=some r->∃k,xI P conv (C k) k J s=some r:=by
 intro J
 induction J with
 |region id ops draw=>
  intro s r e;simp only[xI,Am]at *;cases draw with
  |true=>
   simp only[if_true]at *;cases E:CJ P conv (sup C) ops s with
   |none=>rw[E]at e;cases e
   |some q=>obtain⟨k,G⟩:=Y5 Y E;rw[E]at e;exact⟨k,by rw[G];exact e⟩
  |false=>
   simp only[yL,if_false]at *;cases E:BZ P conv (sup C) ops ops.toList s with
   |none=>rw[E]at e;cases e
   |some q=>obtain⟨k,G⟩:=Jt Y _ _ _ E;rw[E]at e;exact⟨k,by rw[G];exact e⟩
 |seq a b O S=>
  intro s r e;simp only[xI,Am]at *;cases E:Am P conv (sup C) a s with
  |none=>rw[E]at e;cases e
  |some q=>
   rw[E]at e;obtain⟨k,G⟩:=O _ _ E;obtain⟨ex,s1⟩:=q;cases ex with
   |norm=>
    obtain⟨m,hm⟩:=S _ _ e;exact⟨max k m,by rw[o8 (Y.le (vT k m)) (vT k m) _ _ _ G];exact o8 (Y.le (wH k m)) (wH k m) _ _ _ hm⟩
   |exit id=>exact⟨k,by rw[G];exact e⟩
   |ret=>exact⟨k,by rw[G];exact e⟩
 |cond v a b O S=>
  intro s r e;simp only[xI,Am]at *
  split at e
  .rename_i hv;simp only[hv];exact O _ _ e
  .rename_i hv;simp only[hv];exact S _ _ e
  .cases e
 |block id J ih=>
  intro s r e;simp only[xI,Am]at *;cases E:Am P conv (sup C) J s with
  |none=>rw[E]at e;cases e
  |some q=>obtain⟨k,G⟩:=ih _ _ E;rw[E]at e;exact⟨k,by rw[G];exact e⟩
 |loop J ih=>
  intro s r e;simp only[xI,Am]at *;obtain⟨n,hn⟩:=nX.1 e;obtain⟨k,G⟩:=MV (B:=fun k=>xI P conv (C k) k J) (fun k m a0 s r=>o8 (Y.le a0) a0 J s r) (fun s r h=>ih s r h) n s r hn;refine⟨max n k,?_⟩;exact EH (vT n k) (nV (fun s r=>o8 (Y.le (wH n k)) (wH n k) J s r) n s r G)
 |skip=>intro s r e;exact⟨0,e⟩
 |exit id=>intro s r e;exact⟨0,e⟩
 |ret=>intro s r e;exact⟨0,e⟩
 |_=>intro s r e;simp only[Am]at e;cases e
theorem adD{c c':Call}(h:CLe c c'){n m:Nat}(E:n<=m){fn:Func}{body:Code}{args:List V}{σ:Store}{nx:Nat}{r:V×Store×Nat}(e:Gv P conv c n fn body args σ nx=some r):Gv P conv c' m fn body args σ nx=some r:=by
 unfold Gv at *;cases G:xI P conv c n body ⟨C9 args,σ,nx⟩with
 |none=>rw[G]at e;cases e
 |some q=>rw[G]at e;rw[o8 h E _ _ _ G];exact e
theorem ny(ext:Ext):Chain (evF P conv ext):=by
 intro k
 induction k with
 |zero=>intro f args σ nx r e;cases e
 |succ k G=>
  intro f args σ nx r e;unfold evF at e⊢
  split at e
  .exact e
  .rename_i J
   split at e
   .rename_i fn O
    try simp only[J]
    split at e
    .rename_i body hb
     try simp only[hb]
     split at e
     .rename_i E
      rw[sS E];exact adD G (Nat.le_succ k) e
     .cases e
    .cases e
   .cases e
noncomputable def ev(P:Program)(conv:FuncId->Conv)(ext:Ext):Call:=sup (evF P conv ext)
theorem nC(hm:P.follows .mixedOrders=true){ext:Ext}(E:Ky P ext):DJ P (ev P conv ext):=fun f args σ nx v σ' nx' h=>by
 obtain⟨k,G⟩:=(aK (ny ext)).1 h;exact Qi hm E k f args σ nx v σ' nx' G
noncomputable def VG(P:Program)(conv:FuncId->Conv)(call:Call)(rs:List ResultVar)(body:Code)(s:St):Kq :=
 match Am P conv call body s with
 |some (.norm,st)=>match Ac P st.T st.σ rs with
  |some vs=>some (oneOf vs,st.σ,st.nx)
  |none=>none
 |some (.ret,st)=>match Ac P st.T st.σ rs with
  |some vs=>some (oneOf vs,st.σ,st.nx)
  |none=>none
 |_=>none
theorem nD{ext:Ext}{f:FuncId}{g:List V->Store->Nat->Kq}(G:ext f=some g)(args:List V)(σ:Store)(nx:Nat):ev P conv ext f args σ nx=g args σ nx:=by
 apply Option.ext;intro r;unfold ev;rw[aK (ny ext)];constructor
 .rintro ⟨k,E⟩
  cases k with
  |zero=>cases E
  |succ k=>unfold evF at E;simpa only[G]using E
 .intro h
  exact⟨1,by unfold evF;simpa only[G]using h⟩
theorem anf{ext:Ext}{f:FuncId}{fn:Func}{body:Code}{rs:List ResultVar}(O:ext f=none)(S:P.funcs[f]?=some fn)(hb:fn.body=some body)(Y:fn.results.toList=rs){args:List V}(J:Vt fn body args.length=true)(σ:Store)(nx:Nat) :
  ev P conv ext f args σ nx=VG P conv (ev P conv ext) rs body ⟨C9 args,σ,nx⟩:=by
 apply Option.ext;intro r;unfold ev;rw[aK (ny ext)];constructor
 .rintro ⟨k,E⟩
  cases k with
  |zero=>cases E
  |succ k=>
   unfold evF at E;simp only[O,S,hb,J,if_true]at E;unfold Gv at E;unfold VG;cases G:xI P conv (evF P conv ext k) k body ⟨C9 args,σ,nx⟩with
   |none=>rw[G]at E;cases E
   |some q=>
    rw[G]at E;rw[Y3 (c':=sup (evF P conv ext)) (fun f args σ nx r e=>(aK (ny ext)).2 ⟨k,e⟩) _ _ _ G,<- Y];exact E
 .intro h
  unfold VG at h;cases G:Am P conv (sup (evF P conv ext)) body ⟨C9 args,σ,nx⟩with
  |none=>rw[G]at h;cases h
  |some q=>
   rw[G]at h;obtain⟨k,E⟩:=VF (ny ext) _ _ _ G;refine⟨k+1,?_⟩;unfold evF;simp only[O,S,hb,J,if_true];unfold Gv;rw[E,Y];exact h
end
end Go.TV
namespace Go.TV
set_option linter.unusedVariables false
set_option linter.unusedSimpArgs false
variable [Known]
structure TyI where
 ok:Bool
 agg:Bool
 size:Nat
 zero:List V
 slice:Bool
 str:Bool
 ptr:Bool
 GY:Nat
 Sz:Nat
 Ed:List V
 Pj:Bool
 af8:List (Nat×Nat×Option Bool)
 plc:List (Nat×Nat)
 bok:Bool
 u8:Bool
def zeroV(i:TypeInfo):List V :=
 match i.zero with
 |some z=>if z.cells.size=i.size then z.cells.toList.map BN else []
 |none=>[]
def Ju(i:TypeInfo):Bool :=
 match i.zero with
 |some z=>z.cells.size=i.size
 |none=>false
def arL(P:Program)(t:TypeId):Option Bool:=(P.underlying t).map G_
def yI(P:Program)(t:TypeId):TyI :=
 match P.info? t,P.underlying t with
 |some i,some d=>
  let e:=match d with
   | .slice e=>P.info? e
   |_=>none
  {ok:=true,agg:=G_ d,size:=i.size,zero:=if Ju i then zeroV i else [],slice:=d matches .slice _,str:=d matches .string,ptr:=d matches .pointer _,
   GY:=(e.map (·.size)).getD 0,Sz:=(e.map (·.bytes)).getD 0,Ed:=(e.map zeroV).getD [],Pj:=(e.map Ju).getD false,
   af8:=match d with
    | .struct fs=>fs.toList.map fun f=>(f.offset,((P.info? f.type).map (·.size)).getD 0,(arL P f.type))
    |_=>[]
   plc:=match d with
    | .struct fs=>((uI P (fs.mapM fun f=>do pure (f.offset,<- sizeOf f.type))).map (·.toList)).getD []
    |_=>[]
   bok:=match d with
    | .struct fs=>(uI P (fs.mapM fun f=>do pure (f.offset,<- sizeOf f.type))).isSome && Ju i
    |_=>false
   u8:=match d with
    | .slice e=>(P.underlying e matches some (.int .u8)) && ((P.info? e).map (·.size))==some 1
    |_=>false }
 |_,_=>⟨false,false,0,[],false,false,false,0,0,[],false,[],[],false,false⟩
section
variable {P:Program} {conv:FuncId->Conv} {call:Call} {σ:Store} {nx:Nat}
theorem Zm{t:TypeId}(h:(yI P t).ok=true):∃i d,P.info? t=some i/\P.underlying t=some d/\(yI P t).agg=G_ d/\(yI P t).size=i.size:=by
 unfold yI at h⊢;cases hi:P.info? t with
 |none=>simp[hi]at h
 |some i=>
  cases E:P.underlying t with
  |none=>simp[hi,E]at h
  |some d=>exact⟨i,d,rfl,rfl,rfl,rfl⟩
theorem Zl{t:TypeId}(h:(yI P t).slice=true)(E:(yI P t).Pj=true):∃e i z,P.underlying t=some (.slice e)/\P.info? e=some i/\i.zero=some z/\z.cells.size=i.size/\(yI P t).GY=i.size/\(yI P t).Sz=i.bytes/\(yI P t).Ed=z.cells.toList.map BN:=by
 unfold yI at h E⊢;cases hi:P.info? t with
 |none=>simp[hi]at h
 |some i=>
  cases O:P.underlying t with
  |none=>simp[hi,O]at h
  |some d=>
   simp only[hi,O]at h E⊢;cases d<;>simp at h;rename_i e;simp only at E⊢;cases G:P.info? e with
   |none=>simp[G]at E
   |some S=>
    simp only[G,zG,xK]at E⊢;unfold Ju at E;cases J:S.zero with
    |none=>simp[J]at E
    |some z=>
     simp only[J,decide_eq_true_eq]at E;exact⟨e,S,z,rfl,G,J,E,rfl,rfl,by simp[zeroV,J,E]⟩
theorem adE{t:TypeId}{row:List V}{off:Nat}(h:(yI P t).ok=true)(ha:(yI P t).agg=false):AV P σ t (.tp row off)=row[off]?:=by
 obtain⟨i,d,J,O,E,S⟩:=Zm h;rw[ha]at E;unfold AV;simp only[J,O,<- E,yL,if_false,Dz]
 by_cases G:off<row.length
 .rw[sS (by omega),zy G]
  have:(row.drop off).take 1=[row[off]]:=by
   rw[yU G];rfl
  rw[this]
 .rw[sW (by omega),yZ (by omega)]
theorem Y6{t:TypeId}{row:List V}{off:Nat}(h:(yI P t).ok=true)(ha:(yI P t).agg=true):AV P σ t (.tp row off)=if off+(yI P t).size<=row.length then some (.agg ((row.drop off).take (yI P t).size))else none:=by
 obtain⟨i,d,G,J,E,O⟩:=Zm h;rw[ha]at E;unfold AV;simp only[G,J,<- E,if_true,Dz,O]
 split<;>rfl
theorem adF{t:TypeId}{b off:Nat}(h:(yI P t).ok=true)(ha:(yI P t).agg=false):AV P σ t (.rp b off)=(σ b).bind fun B=>B.cells[off]?:=by
 obtain⟨i,d,J,O,E,S⟩:=Zm h;rw[ha]at E;unfold AV;simp only[J,O,<- E,yL,if_false,Dz];cases σ b with
 |none=>rfl
 |some B=>
  simp only[zi]
  by_cases G:off<B.cells.length
  .rw[sS (by omega),zy G]
   have:(B.cells.drop off).take 1=[B.cells[off]]:=by
    rw[yU G];rfl
   rw[this]
  .rw[sW (by omega),yZ (by omega)]
theorem Y7{t:TypeId}{b off:Nat}(h:(yI P t).ok=true)(ha:(yI P t).agg=true):AV P σ t (.rp b off)=(σ b).bind fun B=>if off+(yI P t).size<=B.cells.length then some (.agg ((B.cells.drop off).take (yI P t).size))else none:=by
 obtain⟨i,d,G,J,E,O⟩:=Zm h;rw[ha]at E;unfold AV;simp only[G,J,<- E,if_true,Dz,O];cases σ b with
 |none=>rfl
 |some B=>simp only[zi];split<;>rfl
theorem Y8{t:TypeId}{b off:Nat}{v:V}(h:(yI P t).ok=true)(hc:pI v=true)(hs:(yI P t).size=1):Dw P σ t (.rp b off) v=(σ b).bind fun B=>if B.wr=true/\off<B.cells.length then some (upd σ b (some { B with cells:=B.cells.set off v }))else none:=by
 obtain⟨i,d,G,O,S,E⟩:=Zm h;rw[hs]at E;have J:cellsOfV v=some [v]:=by cases v<;>simp_all [cellsOfV,pI]
 unfold Dw;simp only[G,J,<- E,yM,uO,vN,hc,Bool.and_true,and_true,true_and,patch];cases σ b with
 |none=>rfl
 |some B=>simp only[zi];rfl
theorem VH{t:TypeId}{b off:Nat}{vs:List V}(h:(yI P t).ok=true):Dw P σ t (.rp b off) (.agg vs)=(σ b).bind fun B=>if B.wr=true/\vs.length=(yI P t).size/\off+vs.length<=B.cells.length/\vs.all pI=true then some (upd σ b (some { B with cells:=patch B.cells off vs }))else none:=by
 obtain⟨i,d,E,J,O,G⟩:=Zm h;unfold Dw;simp only[E,G,cellsOfV];cases σ b with
 |none=>rfl
 |some B=>simp only[zi]
theorem Qk{t:TypeId}{f:Nat}(h:(yI P t).ok=true) :
  (∃fields fd,P.underlying t=some (.struct fields)/\fields[f]?=some fd/\(yI P t).af8[f]?=some (fd.offset,((P.info? fd.type).map (·.size)).getD 0,arL P fd.type)) \/
  ((yI P t).af8[f]?=none/\∀fields,P.underlying t=some (.struct fields)->fields[f]?=none):=by
 obtain⟨i,d,G,J,O,S⟩:=Zm h;unfold yI;simp only[G,J];cases d<;>try (refine .inr ⟨rfl,fun fields e=>by cases e⟩)
 rename_i fs;simp only[yc,xW];cases E:fs[f]? with
 |none=>exact .inr ⟨rfl,fun fields e=>by cases e;exact E⟩
 |some fd=>exact .inl ⟨fs,fd,rfl,E,rfl⟩
theorem Y9{t:TypeId}{row:List V}{off f:Nat}(h:(yI P t).ok=true):BH P t (.tp row off) f=((yI P t).af8[f]?).bind fun p=>if p.2.1=0 then none else some (.tp row (off+p.1)):=by
 rcases Qk (f:=f) h with ⟨fields,fd,E,G,J⟩|⟨E,G⟩
 .unfold BH
  simp only[E,G,J,zi];cases P.info? fd.type<;>rfl
 .unfold BH
  rw[E];cases hu:P.underlying t with
  |none=>rfl
  |some d=>cases d<;>first|(simp;done)|(rename_i fs;simp[G fs hu])
theorem Y_{t:TypeId}{b off f:Nat}(h:(yI P t).ok=true):BH P t (.rp b off) f=((yI P t).af8[f]?).bind fun p=>if p.2.1=0 then none else some (.rp b (off+p.1)):=by
 rcases Qk (f:=f) h with ⟨fields,fd,E,G,J⟩|⟨E,G⟩
 .unfold BH
  simp only[E,G,J,zi];cases P.info? fd.type<;>rfl
 .unfold BH
  rw[E];cases hu:P.underlying t with
  |none=>rfl
  |some d=>cases d<;>first|(simp;done)|(rename_i fs;simp[G fs hu])
theorem ZA{t:TypeId}{row:List V}{len:Nat}{k:IntKind}{i:Int}(h:(yI P t).slice=true)(E:(yI P t).Pj=true):CG P t (.ts row len) (.sc (.int k i))=if 0<=i/\i<len/\row≠[]then some (.tp row (i.toNat *(yI P t).GY))else none:=by
 obtain⟨e,S,z,G,J,_,_,O,_,_⟩:=Zl h E;unfold CG;simp only[G,J,O]
theorem ZC{t:TypeId}{b off len:Nat}{k:IntKind}{i:Int}(h:(yI P t).slice=true)(E:(yI P t).Pj=true):CG P t (.rs b off len) (.sc (.int k i))=if 0<=i/\i<len then some (.rp b (off+i.toNat *(yI P t).GY))else none:=by
 obtain⟨e,S,z,G,J,_,_,O,_,_⟩:=Zl h E;unfold CG;simp only[G,J,O]
theorem adG{t:TypeId}{l c:Int}(h:(yI P t).slice=true)(J:(yI P t).Pj=true)(E:decide ((yI P t).GY<1000000)=true):EL P t (.sc (.int .i64 l)) (.sc (.int .i64 c)) σ nx=
  if 0<=l/\l<=c/\((yI P t).Sz:Int)*c<=281474976710656/\c<=9223372036854775807/\0<(yI P t).GY then some (.rs nx 0 l.toNat,Ai σ nx (rep l.toNat (yI P t).Ed) (yI P t).GY,nx+1)else none:=by
 obtain⟨e,ei,z,O,S,Y,h4,G,h6,h7⟩:=Zl h J;unfold EL;rw[decide_eq_true_eq]at E;simp only[G]at E;simp only[O,S,Y,G,h6,h7,h4,and_true,E]
theorem oC{t:TypeId}{len:Nat}{parts:List (Nat×V)}(h:(yI P t).slice=true)(G:(yI P t).Pj=true):BQ P t len parts σ nx=
  if len=0 then some (.nil,σ,nx)else if 0<(yI P t).GY/\len*(yI P t).GY<=1000 then
   match CS (fun j=>some (j*(yI P t).GY,(yI P t).GY)) (rep len (yI P t).Ed) parts with
   |some cells=>some (.rs nx 0 len,Ai σ nx cells (yI P t).GY,nx+1)
   |none=>none
  else none:=by
 obtain⟨e,E,z,J,O,S,Y,h5,h6,h7⟩:=Zl h G;unfold BQ;simp only[J,O,S,h5,h6,h7,Y,and_true];cases CS (fun j=>some (j*E.size,E.size)) (rep len (z.cells.toList.map BN)) parts<;>rfl
theorem ZE{t:TypeId}{parts:List (Nat×V)}(h:(yI P t).bok=true):FV P t parts=(CS (fun i=>(yI P t).plc[i]?) (yI P t).zero parts).map .agg:=by
 unfold yI at h⊢;cases hi:P.info? t with
 |none=>simp[hi]at h
 |some i=>
  cases G:P.underlying t with
  |none=>simp[hi,G]at h
  |some d=>
   simp only[hi,G]at h⊢;cases d<;>simp only[yL]at h;rename_i fs;rw[zB]at h;obtain⟨O,E⟩:=h;simp only[E,if_true];cases hm:uI P (fs.mapM fun f=>do pure (f.offset,<- sizeOf f.type))with
   |none=>rw[hm]at O;cases O
   |some a=>
    unfold Ju at E;cases J:i.zero with
    |none=>simp[J]at E
    |some z=>
     simp only[J,decide_eq_true_eq]at E;unfold FV places;simp only[hi,G,hm,zG,xK,J,zeroV,E,if_true,xW]
theorem VI{t:TypeId}{s x:V}(h:(yI P t).slice=true)(J:(yI P t).Pj=true)(hs:decide (0<(yI P t).GY)=true)(E:decide ((yI P t).GY<1000000)=true):DL P #[t,t] s x σ nx=
  (rowOf σ (yI P t).GY x).bind fun p=>Ad σ nx (yI P t).GY (yI P t).Sz s p.1 p.2:=by
 obtain⟨e,O,z,S,Y,h3,h4,G,h6,h7⟩:=Zl h J;rw[G]at hs E;simp only[decide_eq_true_eq]at hs E;unfold DL;simp only[wV,wU,tV,S,beq_self_eq_true,Y,h3,G,h6,h4,hs,E,and_self,if_true];cases rowOf σ O.size x<;>rfl
def Hq(σ:Store)(nx:Nat)(row:List V)(m:Nat):V->Kq
 | .rs b off len=>if min m len=0 then some (.sc (.int .i64 0),σ,nx)else(σ b).bind fun B=>
   if B.wr=true/\off+min m len<=B.cells.length/\(row.take (min m len)).all pI=true then
    some (.sc (.int .i64 (min m len:Nat)),upd σ b (some { B with cells:=patch B.cells off (row.take (min m len)) }),nx)else none
 | .nil=>some (.sc (.int .i64 0),σ,nx)
 |_=>none
def FX(σ:Store)(nx:Nat)(z:List V):V->Kq
 | .rs b off len=>if len=0 then some (.AP [],σ,nx)else(σ b).bind fun B=>
   if B.wr=true/\off+len<=B.cells.length/\(rep len z).all pI=true then
    some (.AP [],upd σ b (some { B with cells:=patch B.cells off (rep len z) }),nx)else none
 | .nil=>some (.AP [],σ,nx)
 | .ts _ len=>if len=0 then some (.AP [],σ,nx)else none
 |_=>none
theorem adH{t E:TypeId}{d x:V}(h:(yI P t).slice=true)(G:(yI P t).Pj=true)(hs:(yI P t).GY=1):Gu P #[t,E] d x σ nx=(rowOf σ 1 x).bind fun p=>Hq σ nx p.1 p.2 d:=by
 obtain⟨e,Y,z,J,O,h3,h4,S,h6,h7⟩:=Zl h G;rw[S]at hs;unfold Gu Hq;simp only[wV,wU,J,O];cases rowOf σ 1 x with
 |none=>rfl
 |some p=>
  obtain⟨row,m⟩:=p;simp only[hs,wB,zJ,wZ,zi];rw[sS ⟨trivial,trivial⟩];cases d<;>try rfl
  rename_i b off len;simp only
  split
  .rfl
  .cases σ b<;>rfl
theorem ZF{t:TypeId}{d:V}(h:(yI P t).slice=true)(E:(yI P t).Pj=true)(hs:(yI P t).GY=1):FW P #[t] d σ nx=FX σ nx (yI P t).Ed d:=by
 obtain⟨e,ei,z,G,J,O,S,Y,h6,h7⟩:=Zl h E;rw[Y]at hs;unfold FW FX;rw[h7];simp only[wV,wU,G,J,O,S,hs];rw[sS ⟨trivial,trivial⟩];cases d<;>try rfl
 rename_i b off len;simp only
 split
 .rfl
 .cases σ b<;>rfl
theorem VJ{t:TypeId}{row:List V}{len:Nat}(h:(yI P t).slice=true):DR P t (.ts row len)=some (.sc (.int .i64 len)):=by
 unfold yI at h;cases hi:P.info? t with
 |none=>simp[hi]at h
 |some i=>
  cases E:P.underlying t with
  |none=>simp[hi,E]at h
  |some d=>simp only[hi,E]at h;cases d<;>simp at h;simp[DR,E]
theorem nZ{t:TypeId}{b off len:Nat}(h:(yI P t).slice=true):DR P t (.rs b off len)=some (.sc (.int .i64 len)):=by
 unfold yI at h;cases hi:P.info? t with
 |none=>simp[hi]at h
 |some i=>
  cases E:P.underlying t with
  |none=>simp[hi,E]at h
  |some d=>simp only[hi,E]at h;cases d<;>simp at h;simp[DR,E]
theorem ng{t:TypeId}(h:(yI P t).slice=true):DR P t .nil=some (.sc (.int .i64 0)):=by
 unfold yI at h;cases hi:P.info? t with
 |none=>simp[hi]at h
 |some i=>
  cases E:P.underlying t with
  |none=>simp[hi,E]at h
  |some d=>simp only[hi,E]at h;cases d<;>simp at h;simp[DR,E]
theorem LJ{t:TypeId}(h:(yI P t).str=true):P.underlying t=some .string:=by
 unfold yI at h;cases hi:P.info? t with
 |none=>simp[hi]at h
 |some i=>
  cases E:P.underlying t with
  |none=>simp[hi,E]at h
  |some d=>simp only[hi,E]at h;cases d<;>simp at h;rfl
theorem adI{t:TypeId}{s:ByteArray}(h:(yI P t).str=true):DR P t (.sc (.string s))=some (.sc (.int .i64 s.size)):=by
 simp[DR,LJ h]
theorem adJ{t:TypeId}{s:ByteArray}{k:IntKind}{i:Int}(h:(yI P t).str=true):GX P t (.sc (.string s)) (.sc (.int k i))=(if 0<=i then s[i.toNat]? else none).map fun b=> .sc (.int .u8 b.toNat):=by
 unfold GX;simp only[LJ h]
 split<;>rename_i e<;>rw[e]<;>rfl
theorem VK{t:TypeId}{s:ByteArray}{lo hi:Option V}(h:(yI P t).str=true):AQ P t (.sc (.string s)) lo hi none σ=(bnd lo 0).bind fun l=>(bnd hi s.size).bind fun h=>if l<=h/\h<=s.size then some (.sc (.string (s.extract l h)))else none:=by
 unfold AQ;simp only[LJ h];cases bnd lo 0<;>cases bnd hi s.size<;>rfl
theorem ZG{t:TypeId}{row:List V}{len:Nat}{lo hi:Option V}(h:(yI P t).slice=true)(E:(yI P t).Pj=true):AQ P t (.ts row len) lo hi none σ=(bnd lo 0).bind fun l=>(bnd hi len).bind fun h=>if l<=h/\h<=len then some (.ts ((row.drop (l*(yI P t).GY)).take ((h-l)*(yI P t).GY)) (h-l))else none:=by
 obtain⟨e,S,z,G,J,Y,h4,O,h6,h7⟩:=Zl h E;unfold AQ;simp only[G,J,O];cases bnd lo 0<;>cases bnd hi len<;>rfl
theorem ZI{t:TypeId}{b off len:Nat}{lo hi:Option V}(h:(yI P t).slice=true)(E:(yI P t).Pj=true):AQ P t (.rs b off len) lo hi none σ=(bnd lo 0).bind fun l=>(bnd hi len).bind fun h=>(σ b).bind fun B=>
  if l<=h/\0<(yI P t).GY/\B.st=(yI P t).GY/\off+h*(yI P t).GY<=B.cells.length then
   if l=0 then some (.rs b off h)else if l=h then some (.ts [] 0)else some (.rs b (off+l*(yI P t).GY) (h-l))else none:=by
 obtain⟨e,S,z,G,J,Y,h4,O,h6,h7⟩:=Zl h E;unfold AQ;simp only[G,J,O];cases bnd lo 0<;>cases bnd hi len<;>cases σ b<;>rfl
theorem af9(v:Value):toVal (.sc v)=some v:=rfl
section
variable {t:TypeId} {x y:Operand} {k:IntKind} {a b:Int}
theorem anT:Aj P .add t x y (.sc (.int k a)) (.sc (.int k b))=some (.sc (.int k (k.wrap (a+b)))):=by
 simp only[Aj,toVal,eqGuard_add,binOp_add,Op.intArith];rfl
theorem anU:Aj P .sub t x y (.sc (.int k a)) (.sc (.int k b))=some (.sc (.int k (k.wrap (a-b)))):=by
 simp only[Aj,toVal,eqGuard_sub,binOp_sub,Op.intArith];rfl
theorem anV:Aj P .mul t x y (.sc (.int k a)) (.sc (.int k b))=some (.sc (.int k (k.wrap (a*b)))):=by
 simp only[Aj,toVal,eqGuard_mul,binOp_mul,Op.intArith];rfl
theorem anW(h:b≠0):Aj P .quo t x y (.sc (.int k a)) (.sc (.int k b))=some (.sc (.int k (k.wrap (a.tdiv b)))):=by
 simp only[Aj,toVal,eqGuard_quo,binOp_quo,Op.intDiv,sW h];rfl
theorem anX(h:b≠0):Aj P .rem t x y (.sc (.int k a)) (.sc (.int k b))=some (.sc (.int k (a.tmod b))):=by
 simp only[Aj,toVal,eqGuard_rem,binOp_rem,Op.intDiv,sW h];rfl
theorem anY:Aj P .eql t x y (.sc (.int k a)) (.sc (.int k b))=some (.sc (.bool (a==b))):=by
 simp only[Aj,toVal,eqGuard_at_int,binOp_eql];rfl
theorem anZ:Aj P .neq t x y (.sc (.int k a)) (.sc (.int k b))=some (.sc (.bool (a !=b))):=by
 simp only[Aj,toVal,eqGuard_at_int,binOp_neq];rfl
theorem an0:Aj P .lss t x y (.sc (.int k a)) (.sc (.int k b))=some (.sc (.bool (decide (a<b)))):=by
 simp only[Aj,toVal,eqGuard_lss,binOp_lss];rfl
theorem an1:Aj P .leq t x y (.sc (.int k a)) (.sc (.int k b))=some (.sc (.bool (decide (a<=b)))):=by
 simp only[Aj,toVal,eqGuard_leq,binOp_leq];rfl
theorem an2:Aj P .gtr t x y (.sc (.int k a)) (.sc (.int k b))=some (.sc (.bool (decide (b<a)))):=by
 simp only[Aj,toVal,eqGuard_gtr,binOp_gtr];rfl
theorem an3:Aj P .geq t x y (.sc (.int k a)) (.sc (.int k b))=some (.sc (.bool (decide (b<=a)))):=by
 simp only[Aj,toVal,eqGuard_geq,binOp_geq];rfl
theorem an4{p:Bool}:YM P .not (.sc (.bool p))=some (.sc (.bool !p)):=rfl
theorem an5:YM P .neg (.sc (.int k a))=some (.sc (.int k (k.wrap (0-a)))):=rfl
end
end
end Go.TV
namespace Go.TV
set_option linter.unusedVariables false
set_option linter.unusedSimpArgs false
variable [Known]
section
variable {P:Program} {conv:FuncId->Conv} {call:Call}
def af_(P:Program)(conv:FuncId->Conv)(call:Call)(ops:Array Oper)(rest:List Oper)(T:Nat->V)(d:Option Tmp):Kq->Option St
 |some (v,σ,nx)=>BZ P conv call ops rest ⟨Df T d v,σ,nx⟩
 |none=>none
def akc(P:Program)(conv:FuncId->Conv)(call:Call)(ops:Array Oper)(rest:List Oper)(o:Oper)(s:St):Option Bool->Option St
 |some true=>af_ P conv call ops rest s.T o.dst (AB P conv call o s.T s.σ s.nx)
 |some false=>BZ P conv call ops rest ⟨Df s.T o.dst (.AP []),s.σ,s.nx⟩
 |none=>none
theorem adK(ops:Array Oper)(s:St):BZ P conv call ops [] s=some s:=rfl
theorem Z4(ops:Array Oper)(d:Option Tmp)(op:Op)(ty:TypeId)(ps:String)(af:Array Edge)(rest:List Oper)(T:Nat->V)(σ:Store)(nx:Nat) :
  BZ P conv call ops (⟨d,op,ty,ps,af,none⟩ :: rest) ⟨T,σ,nx⟩=af_ P conv call ops rest T d (AB P conv call ⟨d,op,ty,ps,af,none⟩ T σ nx):=by
 show(match AB P conv call ⟨d,op,ty,ps,af,none⟩ T σ nx with|some (v,σ',nx')=>_|none=>none)=_;cases AB P conv call ⟨d,op,ty,ps,af,none⟩ T σ nx<;>rfl
theorem VL(ops:Array Oper)(d:Option Tmp)(op:Op)(ty:TypeId)(ps:String)(af:Array Edge)(g:Nat×Bool)(rest:List Oper)(T:Nat->V)(σ:Store)(nx:Nat) :
  BZ P conv call ops (⟨d,op,ty,ps,af,some g⟩ :: rest) ⟨T,σ,nx⟩=akc P conv call ops rest ⟨d,op,ty,ps,af,some g⟩ ⟨T,σ,nx⟩ (Bc ops T ⟨d,op,ty,ps,af,some g⟩):=by
 show(match Bc ops T ⟨d,op,ty,ps,af,some g⟩with|some true=>_|some false=>_|none=>none)=_;cases Bc ops T ⟨d,op,ty,ps,af,some g⟩with
 |none=>rfl
 |some b=>
  cases b with
  |false=>rfl
  |true=>
   simp only[akc];cases AB P conv call ⟨d,op,ty,ps,af,some g⟩ T σ nx<;>rfl
theorem adL(ops:Array Oper)(rest:List Oper)(T:Nat->V)(d:Tmp)(v:V)(σ:Store)(nx:Nat):af_ P conv call ops rest T (some d) (some (v,σ,nx))=BZ P conv call ops rest ⟨upd T d v,σ,nx⟩:=rfl
theorem adM(ops:Array Oper)(rest:List Oper)(T:Nat->V)(v:V)(σ:Store)(nx:Nat):af_ P conv call ops rest T none (some (v,σ,nx))=BZ P conv call ops rest ⟨T,σ,nx⟩:=rfl
theorem adN(ops:Array Oper)(rest:List Oper)(d:Option Tmp)(op:Op)(ty:TypeId)(ps:String)(af:Array Edge)(g:Option (Nat×Bool))(T:Nat->V)(σ:Store)(nx:Nat) :
  akc P conv call ops rest ⟨d,op,ty,ps,af,g⟩ ⟨T,σ,nx⟩ (some true)=af_ P conv call ops rest T d (AB P conv call ⟨d,op,ty,ps,af,g⟩ T σ nx):=rfl
theorem Z5(ops:Array Oper)(rest:List Oper)(d:Tmp)(op:Op)(ty:TypeId)(ps:String)(af:Array Edge)(g:Option (Nat×Bool))(T:Nat->V)(σ:Store)(nx:Nat) :
  akc P conv call ops rest ⟨some d,op,ty,ps,af,g⟩ ⟨T,σ,nx⟩ (some false)=BZ P conv call ops rest ⟨upd T d (.AP []),σ,nx⟩:=rfl
def SA(want:Bool):V->Option Bool
 | .sc (.bool b)=>some (b==want)
 | .AP []=>some false
 |_=>none
theorem SB(ops:Array Oper)(d:Option Tmp)(op:Op)(ty:TypeId)(ps:String)(af:Array Edge)(j:Nat)(want:Bool)(T:Nat->V) :
  Bc ops T ⟨d,op,ty,ps,af,some (j,want)⟩=match(ops[j]?).bind (·.dst)with|some d=>SA want (T d)|none=>some false:=by
 unfold Bc SA;rfl
theorem VN(want b:Bool):SA want (.sc (.bool b))=some (b==want):=rfl
theorem SC(want:Bool):SA want (.AP [])=some false:=rfl
theorem akd(T:Nat->V)(t:Tmp):val T (.tmp t)=T t:=rfl
theorem adO(T:Nat->V)(v:Value):val T (.const v)=G8 v:=rfl
theorem af'(T:Nat->V)(f:FuncId):val T (.func f)= .clo f []:=rfl
section
variable (d:Option Tmp) (ty:TypeId) (ps:String) (af:Array Edge) (gd:Option (Nat×Bool)) (T:Nat->V) (σ:Store) (nx:Nat)
theorem ake(x:Operand):AB P conv call ⟨d,.move x,ty,ps,af,gd⟩ T σ nx=some (val T x,σ,nx):=rfl
theorem adP(x:Operand):AB P conv call ⟨d,.assign x,ty,ps,af,gd⟩ T σ nx=some (val T x,σ,nx):=rfl
def ab5(a b:V):V->Option V
 | .sc (.bool t)=>some (if t then a else b)
 |_=>none
theorem ab6(c a b:Operand):AB P conv call ⟨d,.pick c a b,ty,ps,af,gd⟩ T σ nx=(ab5 (val T a) (val T b) (val T c)).map (·,σ,nx):=by
 simp only[AB];unfold ab5
 split<;>simp_all
theorem Z7(a b:V)(t:Bool):ab5 a b (.sc (.bool t))=some (if t then a else b):=rfl
theorem arM:isB []=false:=id rfl
theorem arN(v:V):isB [v]=false:=id rfl
theorem arO(u v w:V)(l:List V):isB (u :: v :: w :: l)=false:=id rfl
theorem an6(v w:V):isB [v,w]=(isP v && isN w):=id rfl
theorem akf:isP .nil=false:=id rfl
theorem akg(k:IntKind)(n:Int):isP (.sc (.int k n))=false:=id rfl
theorem aga(b:Bool):isP (.sc (.bool b))=false:=id rfl
theorem Z8(b:ByteArray):isP (.sc (.string b))=false:=id rfl
theorem agb:isP (.sc (.pointer none))=true:=id rfl
theorem akh:isN .nil=true:=id rfl
theorem an7(v:Value):isN (.sc v)=false:=id rfl
theorem VO(t:TypeId)(h:(yI P t).ok=true)(E:decide ((yI P t).zero.length=(yI P t).size)=true)(J:decide (0<(yI P t).size)=true)(hb:isB (yI P t).zero=false):AB P conv call ⟨d,.alloc t,ty,ps,af,gd⟩ T σ nx=some (.rp nx 0,Ai σ nx (yI P t).zero 0,nx+1):=by
 obtain⟨i,Y,O,S,h3,h4⟩:=Zm h;simp only[AB,O];unfold yI at E J hb⊢;simp only[O,S,decide_eq_true_eq]at E J hb⊢;unfold Ju zeroV at *;cases G:i.zero with
 |none=>simp[G]at E;omega
 |some z=>
  simp only[G]at E hb⊢
  by_cases hs:z.cells.size=i.size
  .simp only[hs,decide_true,if_true]at hb
   simp[hs,Qc,hb]
  .simp[hs]at E;omega
theorem agc(t:TypeId)(x:Operand):AB P conv call ⟨d,.box t x,ty,ps,af,gd⟩ T σ nx=(cellsOfV (val T x)).map fun cs=>(.rp nx 0,Ai σ nx cs 0,nx+1):=by
 simp only[AB];cases cellsOfV (val T x)<;>rfl
theorem agd(t:TypeId)(parts:Array (Nat×Operand)):AB P conv call ⟨d,.build t parts,ty,ps,af,gd⟩ T σ nx=(FV P t (parts.toList.map fun p=>(p.1,val T p.2))).map (·,σ,nx):=rfl
theorem iY(t:TypeId)(len:Nat)(parts:Array (Nat×Operand))(h:(decide (len=0) && !parts.isEmpty)=false):AB P conv call ⟨d,.buildSlice t len parts,ty,ps,af,gd⟩ T σ nx=BQ P t len (parts.toList.map fun p=>(p.1,val T p.2)) σ nx:=by
 simp only[AB,h,yL,if_false]
theorem aki(t:TypeId)(a:Operand):AB P conv call ⟨d,.load t a,ty,ps,af,gd⟩ T σ nx=(AV P σ t (val T a)).map (·,σ,nx):=rfl
theorem agf(t:TypeId)(a x:Operand):AB P conv call ⟨d,.store t a x,ty,ps,af,gd⟩ T σ nx=(Dw P σ t (val T a) (val T x)).map (.AP [],·,nx):=rfl
def agh:V->Option V
 | .tp row off=>some (.tp row off)
 | .rp b off=>some (.rp b off)
 |_=>none
theorem KA(x:Operand):AB P conv call ⟨d,.nilCheck x,ty,ps,af,gd⟩ T σ nx=(agh (val T x)).map (·,σ,nx):=by
 simp only[AB];unfold agh
 split<;>simp_all
theorem akj(row:List V)(off:Nat):agh (.tp row off)=some (.tp row off):=rfl
theorem akk(b off:Nat):agh (.rp b off)=some (.rp b off):=rfl
theorem agi(op:BinOp)(t:TypeId)(x y:Operand)(E:TypeId):AB P conv call ⟨d,.binOp op t x y E,ty,ps,af,gd⟩ T σ nx=(Aj P op t x y (val T x) (val T y)).map (·,σ,nx):=rfl
theorem akl(op:UnOp)(t:TypeId)(x:Operand):AB P conv call ⟨d,.unOp op t x,ty,ps,af,gd⟩ T σ nx=(YM P op (val T x)).map (·,σ,nx):=rfl
theorem Z9(s e:TypeId)(x:Operand):AB P conv call ⟨d,.convert s e x,ty,ps,af,gd⟩ T σ nx=(Bj P s e (val T x) σ).map (·,σ,nx):=rfl
theorem VP(f:FuncId)(cap:Array Operand):AB P conv call ⟨d,.makeFunc (.func f) #[] cap,ty,ps,af,gd⟩ T σ nx=some (.clo f (cap.toList.map (val T)),σ,nx):=rfl
theorem Ie(t:TypeId)(l c:Operand):AB P conv call ⟨d,.makeSlice t l c,ty,ps,af,gd⟩ T σ nx=EL P t (val T l) (val T c) σ nx:=rfl
theorem agj(t:TypeId)(x:Operand)(lo hi E:Option Operand):AB P conv call ⟨d,.slice t x lo hi E,ty,ps,af,gd⟩ T σ nx=(AQ P t (val T x) (lo.map (val T)) (hi.map (val T)) (E.map (val T)) σ).map (·,σ,nx):=rfl
theorem SE(t:TypeId)(x:Operand)(f:Nat):AB P conv call ⟨d,.fieldAddr t x f,ty,ps,af,gd⟩ T σ nx=(BH P t (val T x) f).map (·,σ,nx):=rfl
theorem agk(t:TypeId)(x:Operand)(f:Nat):AB P conv call ⟨d,.field t x f,ty,ps,af,gd⟩ T σ nx=(LH P t (val T x) f).map (·,σ,nx):=rfl
theorem SH(t:TypeId)(x i:Operand):AB P conv call ⟨d,.indexAddr t x i,ty,ps,af,gd⟩ T σ nx=(CG P t (val T x) (val T i)).map (·,σ,nx):=rfl
theorem agl(t:TypeId)(x i:Operand):AB P conv call ⟨d,.index t x i,ty,ps,af,gd⟩ T σ nx=(GX P t (val T x) (val T i)).map (·,σ,nx):=rfl
def akm(i:Nat):V->Option V
 | .AP vs=>vs[i]?
 |_=>none
theorem MW(x:Operand)(i:Nat):AB P conv call ⟨d,.extract x i,ty,ps,af,gd⟩ T σ nx=(akm i (val T x)).map (·,σ,nx):=by
 simp only[AB];unfold akm
 split<;>simp_all
theorem agm(i:Nat)(vs:List V):akm i (.AP vs)=vs[i]?:=rfl
def agn(conv:FuncId->Conv)(call:Call)(args:List V)(σ:Store)(nx:Nat):V->Kq
 | .clo g cs=>Cm conv call g (args++cs) σ nx
 |_=>none
theorem LK(f:Operand)(args:Array Operand)(ts:Array TypeId):AB P conv call ⟨d,.call ⟨.value f,args,ts⟩,ty,ps,af,gd⟩ T σ nx=agn conv call (args.toList.map (val T)) σ nx (val T f):=by
 simp only[AB];unfold agn;rfl
theorem qK(args:List V)(σ:Store)(nx:Nat)(g:FuncId)(cs:List V):agn conv call args σ nx (.clo g cs)=Cm conv call g (args++cs) σ nx:=rfl
theorem an8(x:Operand)(t:TypeId):AB P conv call ⟨d,.call ⟨.builtin .len,#[x],#[t]⟩,ty,ps,af,gd⟩ T σ nx=(DR P t (val T x)).map (·,σ,nx):=rfl
theorem akn(a x:Operand)(t u:TypeId):AB P conv call ⟨d,.call ⟨.builtin .copy,#[a,x],#[t,u]⟩,ty,ps,af,gd⟩ T σ nx=Gu P #[t,u] (val T a) (val T x) σ nx:=rfl
theorem agp(a:Operand)(t:TypeId):AB P conv call ⟨d,.call ⟨.builtin .clear,#[a],#[t]⟩,ty,ps,af,gd⟩ T σ nx=FW P #[t] (val T a) σ nx:=rfl
theorem Ql(a x:Operand)(t u:TypeId):AB P conv call ⟨d,.call ⟨.builtin .append,#[a,x],#[t,u]⟩,ty,ps,af,gd⟩ T σ nx=DL P #[t,u] (val T a) (val T x) σ nx:=rfl
end
def VQ:Option St->Option (Ex×St)
 |some s=>some (.norm,s)
 |none=>none
theorem Z_(s:St):VQ (some s)=some (.norm,s):=rfl
def Jv(id:Nat):Option (Ex×St)->Option (Ex×St)
 |some (.exit j,s)=>if j=id then some (.norm,s)else some (.exit j,s)
 |r=>r
theorem VT(id:Nat)(s:St):Jv id (some (.norm,s))=some (.norm,s):=rfl
theorem aac(id:Nat)(s:St):Jv id (some (.ret,s))=some (.ret,s):=rfl
theorem VU(id j:Nat)(s:St):Jv id (some (.exit j,s))=if j=id then some (.norm,s)else some (.exit j,s):=rfl
noncomputable def agq(body:St->Option (Ex×St)):Option (Ex×St)->Option (Ex×St)
 |some (.norm,s)=>dI body s
 |r=>r
theorem aad(body:St->Option (Ex×St))(s:St):agq body (some (.norm,s))=dI body s:=rfl
theorem adQ(body:St->Option (Ex×St))(s:St):agq body (some (.ret,s))=some (.ret,s):=rfl
theorem aae(body:St->Option (Ex×St))(i:Nat)(s:St):agq body (some (.exit i,s))=some (.exit i,s):=rfl
def adR(P:Program)(rs:List ResultVar):Option (Ex×St)->Kq
 |some (.norm,st)=>(Ac P st.T st.σ rs).map fun vs=>(oneOf vs,st.σ,st.nx)
 |some (.ret,st)=>(Ac P st.T st.σ rs).map fun vs=>(oneOf vs,st.σ,st.nx)
 |_=>none
theorem VW(rs:List ResultVar)(body:Code)(s:St):VG P conv call rs body s=adR P rs (Am P conv call body s):=by
 unfold VG adR;cases Am P conv call body s with
 |none=>rfl
 |some q=>
  obtain⟨e,st⟩:=q;cases e<;>simp only<;>cases Ac P st.T st.σ rs<;>rfl
theorem adS(rs:List ResultVar)(T:Nat->V)(σ:Store)(nx:Nat):adR P rs (some (.norm,⟨T,σ,nx⟩))=(Ac P T σ rs).map fun vs=>(oneOf vs,σ,nx):=rfl
theorem agr(rs:List ResultVar)(T:Nat->V)(σ:Store)(nx:Nat):adR P rs (some (.ret,⟨T,σ,nx⟩))=(Ac P T σ rs).map fun vs=>(oneOf vs,σ,nx):=rfl
theorem ags(T:Nat->V)(σ:Store)(t:Tmp):Ac P T σ [.tmp t]=some [T t]:=rfl
theorem ako(T:Nat->V)(σ:Store):Ac P T σ []=some []:=rfl
theorem agt(T:Nat->V)(σ:Store)(t u:Tmp):Ac P T σ [.tmp t,.tmp u]=some [T t,T u]:=rfl
theorem agu(T:Nat->V)(σ:Store)(t u v:Tmp):Ac P T σ [.tmp t,.tmp u,.tmp v]=some [T t,T u,T v]:=rfl
theorem adT(T:Nat->V)(σ:Store)(a:Tmp)(t:TypeId):Ac P T σ [.cell a t]=(AV P σ t (T a)).map fun v=>[v]:=by
 simp only[Ac];cases AV P σ t (T a)<;>rfl
theorem adU(v:V):oneOf [v]=v:=rfl
theorem adV(u v:V):oneOf [u,v]= .AP [u,v]:=rfl
theorem VX(u v w:V):oneOf [u,v,w]= .AP [u,v,w]:=rfl
theorem aaf:oneOf []= .AP []:=rfl
theorem adW(l:List V)(i:Nat):C9 l i=(l[i]?).getD (.AP []):=rfl
theorem adX(k:IntKind)(n:Int):G8 (.int k n)= .sc (.int k n):=rfl
theorem aag(b:Bool):G8 (.bool b)= .sc (.bool b):=rfl
theorem SI(s:ByteArray):G8 (.string s)= .sc (.string s):=rfl
theorem aah:G8 (.pointer none)= .sc (.pointer none):=rfl
theorem aai:G8 (.slice none 0 0)= .nil:=rfl
theorem adY(l:List Value):G8 (.agg l.toArray)= .agg (l.map BN):=rfl
end
end Go.TV
namespace Go.TV
set_option linter.unusedVariables false
set_option linter.unusedSimpArgs false
variable [Known]
section
variable {P:Program} {conv:FuncId->Conv} {call:Call}
def Dh(P:Program)(conv:FuncId->Conv)(call:Call)(ops:Array Oper):List Oper->St->Option St
 |[],s=>some s
 |o :: rest,s=>match Bc ops s.T o with
  |some true=>match Ag P conv call o s.T s.σ s.nx with
   |some (v,σ',nx')=>Dh P conv call ops rest ⟨Df s.T o.dst v,σ',nx'⟩
   |none=>none
  |some false=>Dh P conv call ops rest ⟨Df s.T o.dst (.AP []),s.σ,s.nx⟩
  |none=>none
theorem Jw(ops:Array Oper):∀(l:List Oper) (s:St),Dh P conv call ops l s=(Bz P conv call ops l s).map (·.1)
 |[],s=>rfl
 |o :: l,s=>by
  unfold Dh Bz;cases Bc ops s.T o with
  |none=>rfl
  |some b=>
   cases b with
   |true=>
    simp only;cases Ag P conv call o s.T s.σ s.nx with
    |none=>rfl
    |some q=>
     obtain⟨v,σ',nx'⟩:=q;simp only;rw[Jw ops l];cases Bz P conv call ops l ⟨Df s.T o.dst v,σ',nx'⟩<;>rfl
   |false=>
    simp only;rw[Jw ops l];cases Bz P conv call ops l ⟨Df s.T o.dst (.AP []),s.σ,s.nx⟩<;>rfl
def Jy(conv:FuncId->Conv)(ops:Array Oper):Bool:=Vs ops && (Ho conv ops.toList).isEmpty
theorem SK{ops:Array Oper}(h:Jy conv ops=true)(s:St):CJ P conv call ops s=Dh P conv call ops ops.toList s:=by
 unfold Jy at h;rw[zB]at h;have hw:Ho conv ops.toList=[]:=by simpa using h.2
 unfold CJ;rw[sS h.1,Jw,hw];cases Bz P conv call ops ops.toList s with
 |none=>rfl
 |some q=>obtain⟨s',fs⟩:=q;rfl
def Ig(af:Array Edge)(i:Nat):Bool:=af.any fun e=>Region.binds .any e && e.on==i
def okG(af:Array Edge)(w:Bool)(ids:List Nat):List (Nat×Bool×List Nat)->Bool
 |[]=>true
 |p :: acc=>(if(w||p.2.1)=true then(if Ig af p.1=true then true else p.2.2.all fun b=> !ids.contains b)else true) && okG af w ids acc
def okF(af:Array Edge)(acc:List (Nat×Bool×List Nat))(w:Bool):List Nat->Bool
 |[]=>true
 |b :: bs=>okG af w (b :: bs) acc
def VY(acc:List (Nat×Bool×List Nat))(k:Nat)(w:Bool):List Nat->List (Nat×Bool×List Nat)
 |[]=>acc
 |b :: bs=>acc++[(k,w,b :: bs)]
def Di(P:Program)(conv:FuncId->Conv)(call:Call)(ops:Array Oper):List Oper->Nat->List (Nat×Bool×List Nat)->St->Option St
 |[],_,_,s=>some s
 |o :: rest,k,acc,s=>match Bc ops s.T o with
  |some true=>if okF o.after acc (writer conv o) (Aa conv s.T s.σ o)=true then(match Ag P conv call o s.T s.σ s.nx with
   |some (v,σ',nx')=>Di P conv call ops rest (k+1) (VY acc k (writer conv o) (Aa conv s.T s.σ o)) ⟨Df s.T o.dst v,σ',nx'⟩
   |none=>none)else none
  |some false=>Di P conv call ops rest (k+1) acc ⟨Df s.T o.dst (.AP []),s.σ,s.nx⟩
  |none=>none
def Apart(l:List Oper)(E:List (Bool×List Nat)):Prop:=∀(i j:Nat) o p q,i<j->l[j]?=some o->E[i]?=some p->E[j]?=some q->(q.1||p.1)=true->Fq o i≠true->∀b∈p.2,b∉q.2
def Told(E:List (Bool×List Nat))(acc:List (Nat×Bool×List Nat)):Prop:=∀(i:Nat) p,E[i]?=some p->p.2≠[]->(i,p.1,p.2)∈acc
theorem VZ{af:Array Edge}{w:Bool}{ids:List Nat}:∀ {acc:List (Nat×Bool×List Nat)},okG af w ids acc=true->∀p∈acc,(w||p.2.1)=true->Ig af p.1≠true->∀b∈p.2.2,b∉ids
 |[],_,p,hp,_,_,_,_=>by cases hp
 |q :: acc,h,p,hp,hw,he,b,hb=>by
  unfold okG at h;rw[zB]at h;rcases List.mem_cons.mp hp with rfl|hp
  .have E:=h.1
   rw[sS hw,sW he]at E;have:=List.all_eq_true.mp E b hb
   simpa using this
  .exact VZ h.2 p hp hw he b hb
theorem MX{l:List Oper}{o:Oper}{O:List (Bool×List Nat)}{acc:List (Nat×Bool×List Nat)}{w:Bool}{ids:List Nat}(hl:l.length=O.length)(h:Apart l O)(ht:Told O acc)(ho:okF o.after acc w ids=true):Apart (l++[o]) (O++[(w,ids)]):=by
 intro i j o' p q S E hp G hw he b hb J;rcases Nat.lt_trichotomy j O.length with Y|Y|Y
 .rw[zV Y]at G
  rw[zV (by omega)]at hp;rw[zV (by omega)]at E;exact h i j o' p q S E hp G hw he b hb J
 .subst Y
  rw[zQ (zq _),yP]at G;simp only[wU,su]at G;subst G;rw[zV S]at hp;rw[zQ (by omega),hl,yP]at E;simp only[wU,su]at E;subst E;cases ids with
  |nil=>cases J
  |cons c cs=>exact VZ ho _ (ht i p hp (fun e=>by rw[e]at hb;cases hb)) hw he b hb J
 .rw[yZ (by simp;omega)]at G
  cases G
theorem Qm{E:List (Bool×List Nat)}{acc:List (Nat×Bool×List Nat)}(S:Told E acc)(w:Bool)(ids:List Nat):Told (E++[(w,ids)]) (VY acc E.length w ids):=by
 intro i p hp G;have J:∀x,x∈acc->x∈VY acc E.length w ids:=fun x O=>by cases ids with
  |nil=>exact O
  |cons c cs=>exact zD _ O
 rcases Nat.lt_trichotomy i E.length with hi|hi|hi
 .rw[zV hi]at hp
  exact J _ (S i p hp G)
 .subst hi
  rw[zQ (zq _),yP]at hp;simp only[wU,su]at hp;subst hp;cases ids with
  |nil=>exact absurd rfl G
  |cons c cs=>exact yw _ (by simp)
 .rw[yZ (by simp;omega)]at hp
  cases hp
theorem nO(ops:Array Oper):∀(l pre:List Oper) (k:Nat) (E:List (Bool×List Nat)) (acc:List (Nat×Bool×List Nat)) (s s':St),k=E.length->pre.length=E.length->Apart pre E->Told E acc->Di P conv call ops l k acc s=some s' ->
  ∃fs,Bz P conv call ops l s=some (s',fs)/\fs.length=l.length/\Apart (pre++l) (E++(l.zip fs).map fun p=>(writer conv p.1,p.2))
 |[],pre,k,E,acc,s,s',hk,hl,ha,ht,h=>by
  unfold Di at h;cases h;exact⟨[],rfl,rfl,by simpa using ha⟩
 |o :: l,pre,k,E,acc,s,s',hk,hl,ha,ht,h=>by
  unfold Di at h;unfold Bz;cases hw:Bc ops s.T o with
  |none=>rw[hw]at h;cases h
  |some b=>
   rw[hw]at h;cases b with
   |true=>
    simp only at h⊢
    by_cases G:okF o.after acc (writer conv o) (Aa conv s.T s.σ o)=true
    .rw[sS G]at h
     cases Y:Ag P conv call o s.T s.σ s.nx with
     |none=>rw[Y]at h;cases h
     |some q=>
      obtain⟨v,σ',nx'⟩:=q;rw[Y]at h;subst hk;obtain⟨fs,J,O,S⟩:=nO ops l (pre++[o]) _ (E++[(writer conv o,Aa conv s.T s.σ o)]) _ _ s' (by simp) (by simp[hl]) (MX hl ha ht G) (Qm ht _ _) h;refine⟨Aa conv s.T s.σ o :: fs,?_,by simp[O],by simpa using S⟩;simp only;rw[J]
    .rw[sW G]at h;cases h
   |false=>
    simp only at h⊢;subst hk;obtain⟨fs,J,O,S⟩:=nO ops l (pre++[o]) _ (E++[(writer conv o,[])]) _ _ s' (by simp) (by simp[hl]) (MX hl ha ht rfl) (Qm ht _ []) h;refine⟨[] :: fs,?_,by simp[O],by simpa using S⟩;rw[J]
theorem Pv{l:List Oper}{fs:List (List Nat)}(hl:fs.length=l.length)(h:Apart l ((l.zip fs).map fun p=>(writer conv p.1,p.2))):Sj fs (Ho conv l)=true:=by
 unfold Sj;refine List.all_eq_true.mpr ?_;rintro ⟨i,j⟩ hm;unfold Ho at hm;simp only[List.mem_flatMap,List.mem_filterMap]at hm;obtain⟨⟨o,j'⟩,hj,⟨p,i'⟩,hi,E⟩:=hm;simp only at E
 split at E
 .cases E
 .rename_i a0
  split at E
  .rename_i a1
   simp only[su,sZ]at E;obtain⟨rfl,rfl⟩:=E;have a2:=List.mem_zipIdx' hj;have a3:=List.mem_zipIdx' hi;obtain⟨G,J⟩:=a2;obtain⟨a4,O⟩:=a3;simp only[zh]at a4;refine List.all_eq_true.mpr fun b hb=>?_
   have S:i'<fs.length:=by omega
   have Y:j'<fs.length:=by omega
   rw[zy S,xK]at hb;rw[zy Y,xK];have hz:∀(k:Nat) (h1:k<l.length) (h2:k<fs.length),((l.zip fs).map fun p=>(writer conv p.1,p.2))[k]?=some (writer conv l[k],fs[k]):=by
    intro k h1 h2;rw[yc,zy (by simp;omega)];simp
   have:=h i' j' o _ _ (by omega) (by rw[zy G,J]) (hz i' (by omega) S) (hz j' G Y) (by
    rw[uh]at O;rw[<- J,<- O];exact a1) a0 b hb
   simpa using this
  .cases E
def MZ(P:Program)(conv:FuncId->Conv)(call:Call)(ops:Array Oper)(s0:St):Option St->Option St
 |some s=>some s
 |none=>CJ P conv call ops s0
theorem agv{ops:Array Oper}(E:Vs ops=true)(s:St):MZ P conv call ops s (Di P conv call ops ops.toList 0 [] s)=CJ P conv call ops s:=by
 cases h:Di P conv call ops ops.toList 0 [] s with
 |none=>rfl
 |some s'=>
  obtain⟨fs,G,J,O⟩:=nO ops ops.toList [] 0 [] [] s s' rfl rfl (by intro i j o p q _ _ hp;simp at hp) (by intro i p hp;simp at hp) h;unfold MZ CJ;rw[sS E,G];simp only;rw[sS (Pv J (by simpa using O))]
def BL(conv:FuncId->Conv)(ex:List Nat):Code->Bool
 | .region id ops draw=> !draw||(ex.contains id && Vs ops)||Jy conv ops
 | .seq a b=>BL conv ex a && BL conv ex b
 | .cond _ a b=>BL conv ex a && BL conv ex b
 | .block _ c=>BL conv ex c
 | .loop c=>BL conv ex c
 |_=>true
noncomputable def Gj(P:Program)(conv:FuncId->Conv)(call:Call)(ex:List Nat):Code->St->Option (Ex×St)
 | .skip,s=>some (.norm,s)
 | .region id ops draw,s=>VQ (if draw then(if id∈ex then MZ P conv call ops s (Di P conv call ops ops.toList 0 [] s)else Dh P conv call ops ops.toList s)else BZ P conv call ops ops.toList s)
 | .seq a b,s=>match Gj P conv call ex a s with
  |some (.norm,s')=>Gj P conv call ex b s'
  |r=>r
 | .cond c a b,s=>match val s.T c with
  | .sc (.bool true)=>Gj P conv call ex a s
  | .sc (.bool false)=>Gj P conv call ex b s
  |_=>none
 | .block id c,s=>Jv id (Gj P conv call ex c s)
 | .loop c,s=>dI (Gj P conv call ex c) s
 | .exit id,s=>some (.exit id,s)
 | .ret,s=>some (.ret,s)
 |_,_=>none
theorem agw{ex:List Nat}:∀(c:Code),BL conv ex c=true->∀s,Am P conv call c s=Gj P conv call ex c s:=by
 intro c
 induction c with
 |region id ops draw=>
  intro h s;simp only[BL,Gj,Am]at *;cases draw with
  |false=>simp only[yL,if_false];cases BZ P conv call ops ops.toList s<;>rfl
  |true=>
   simp only[if_true]
   by_cases hid:id∈ex
   .rw[sS hid]
    by_cases O:Vs ops=true
    .rw[agv O];cases CJ P conv call ops s<;>rfl
    .have J:Jy conv ops=true:=by simpa[O]using h
     unfold Jy at J;rw[zB]at J;exact absurd J.1 O
   .rw[sW hid]
    have J:Jy conv ops=true:=by simpa[hid]using h
    rw[SK J];cases Dh P conv call ops ops.toList s<;>rfl
 |seq a b E G=>
  intro h s;simp only[BL,zB]at h;simp only[Gj,Am];rw[E h.1];cases Gj P conv call ex a s with
  |none=>rfl
  |some q=>obtain⟨e,s'⟩:=q;cases e<;>first|exact G h.2 s'|rfl
 |cond v a b E G=>
  intro h s;simp only[BL,zB]at h;simp only[Gj,Am,E h.1,G h.2]
  all_goals rfl
 |block id c S=>
  intro h s;simp only[BL]at h;simp only[Gj,Am,Jv];rw[S h]
  all_goals rfl
 |loop c S=>
  intro h s;simp only[BL]at h;simp only[Gj,Am];rw[show Am P conv call c=Gj P conv call ex c from funext (S h)]
 |_=>intro h s;rfl
noncomputable def sK(P:Program)(conv:FuncId->Conv)(call:Call)(ex:List Nat)(b:Code):Option (Ex×St)->Option (Ex×St)
 |some (.norm,s)=>Gj P conv call ex b s
 |r=>r
variable {ex:List Nat}
theorem arP(a b:Code)(s:St):Gj P conv call ex (.seq a b) s=sK P conv call ex b (Gj P conv call ex a s):=by
 show(match Gj P conv call ex a s with|some (.norm,s')=>Gj P conv call ex b s'|r=>r)=_;unfold sK;rfl
theorem akp(b:Code)(s:St):sK P conv call ex b (some (.norm,s))=Gj P conv call ex b s:=rfl
theorem an9(b:Code)(s:St):sK P conv call ex b (some (.ret,s))=some (.ret,s):=rfl
theorem akq(b:Code)(i:Nat)(s:St):sK P conv call ex b (some (.exit i,s))=some (.exit i,s):=rfl
theorem agx(id:Nat)(l:List Oper)(s:St):Gj P conv call ex (.region id l.toArray false) s=VQ (BZ P conv call l.toArray l s):=rfl
theorem an_(id:Nat)(l:List Oper)(s:St):Gj P conv call [] (.region id l.toArray true) s=VQ (Dh P conv call l.toArray l s):=rfl
theorem an'(s:St):Gj P conv call ex .skip s=some (.norm,s):=rfl
theorem arQ(s:St):Gj P conv call ex .ret s=some (.ret,s):=rfl
theorem aoa(i:Nat)(s:St):Gj P conv call ex (.exit i) s=some (.exit i,s):=rfl
noncomputable def cK(P:Program)(conv:FuncId->Conv)(call:Call)(ex:List Nat)(a b:Code)(s:St):V->Option (Ex×St)
 | .sc (.bool true)=>Gj P conv call ex a s
 | .sc (.bool false)=>Gj P conv call ex b s
 |_=>none
theorem aob(c:Operand)(a b:Code)(T:Nat->V)(σ:Store)(nx:Nat):Gj P conv call ex (.cond c a b) ⟨T,σ,nx⟩=cK P conv call ex a b ⟨T,σ,nx⟩ (val T c):=by
 show(match val T c with| .sc (.bool true)=>_| .sc (.bool false)=>_|_=>none)=_;unfold cK;rfl
theorem akr(a b:Code)(s:St):cK P conv call ex a b s (.sc (.bool true))=Gj P conv call ex a s:=rfl
theorem agy(a b:Code)(s:St):cK P conv call ex a b s (.sc (.bool false))=Gj P conv call ex b s:=rfl
theorem aks(id:Nat)(c:Code)(s:St):Gj P conv call ex (.block id c) s=Jv id (Gj P conv call ex c s):=rfl
theorem aoc(c:Code)(s:St):Gj P conv call ex (.loop c) s=dI (Gj P conv call ex c) s:=rfl
theorem ax'{ext:Ext}{f:FuncId}{fn:Func}{body:Code}{rs:List ResultVar}(ex:List Nat)(G:ext f=none)(J:P.funcs[f]?=some fn)(hb:fn.body=some body)(O:fn.results.toList=rs){args:List V}(E:Vt fn body args.length=true)(S:BL conv ex body=true)(σ:Store)(nx:Nat) :
  ev P conv ext f args σ nx=adR P rs (Gj P conv (ev P conv ext) ex body ⟨C9 args,σ,nx⟩):=by
 rw[anf G J hb O E,VW,agw body S]
theorem nG{ext:Ext}{f:FuncId}{fn:Func}{body:Code}(rs:List ResultVar)(ex:List Nat)(G:P.funcs[f]?=some fn)(J:ext f=none:=by rfl)(hb:fn.body=some body:=by rfl)(O:fn.results.toList=rs:=by rfl){args:List V}(E:Vt fn body args.length=true:=by kernel_rfl)(S:BL conv ex body=true:=by kernel_rfl)(σ:Store)(nx:Nat) :
  ev P conv ext f args σ nx=adR P rs (Gj P conv (ev P conv ext) ex body ⟨C9 args,σ,nx⟩):=by
 rw[anf J G hb O E,VW,agw body S]
theorem aaj(ops:Array Oper)(s0 s:St):MZ P conv call ops s0 (some s)=some s:=rfl
def KC(P:Program)(conv:FuncId->Conv)(call:Call)(id:Nat)(l:List Oper)(s:St):List Nat->Option St
 |[]=>Dh P conv call l.toArray l s
 |i :: ex=>if id=i then MZ P conv call l.toArray s (Di P conv call l.toArray l 0 [] s)else KC P conv call id l s ex
theorem V3(id:Nat)(l:List Oper)(s:St):∀ex:List Nat,KC P conv call id l s ex=if id∈ex then MZ P conv call l.toArray s (Di P conv call l.toArray l 0 [] s)else Dh P conv call l.toArray l s
 |[]=>by simp[KC]
 |i :: ex=>by
  unfold KC;rw[V3 id l s ex]
  by_cases h:id=i
  .rw[sS h,sS (by simp[h])]
  .rw[sW h]
   by_cases E:id∈ex
   .rw[sS E,sS (by simp[E])]
   .rw[sW E,sW (by simp[h,E])]
theorem akt(i:Nat)(ex:List Nat)(id:Nat)(l:List Oper)(s:St):Gj P conv call (i :: ex) (.region id l.toArray true) s=VQ (KC P conv call id l s (i :: ex)):=by
 rw[V3];rfl
theorem adZ(id:Nat)(l:List Oper)(s:St):KC P conv call id l s []=Dh P conv call l.toArray l s:=rfl
theorem aak(id:Nat)(l:List Oper)(s:St)(i:Nat)(ex:List Nat):KC P conv call id l s (i :: ex)=if id=i then MZ P conv call l.toArray s (Di P conv call l.toArray l 0 [] s)else KC P conv call id l s ex:=rfl
def V6(P:Program)(conv:FuncId->Conv)(call:Call)(ops:Array Oper)(rest:List Oper)(k:Nat)(acc:List (Nat×Bool×List Nat))(T:Nat->V)(d:Option Tmp):Kq->Option St
 |some (v,σ,nx)=>Di P conv call ops rest k acc ⟨Df T d v,σ,nx⟩
 |none=>none
def ab7(P:Program)(conv:FuncId->Conv)(call:Call)(ops:Array Oper)(rest:List Oper)(k:Nat)(acc:List (Nat×Bool×List Nat))(o:Oper)(s:St):Option Bool->Option St
 |some true=>if okF o.after acc (writer conv o) (Aa conv s.T s.σ o)=true then V6 P conv call ops rest (k+1) (VY acc k (writer conv o) (Aa conv s.T s.σ o)) s.T o.dst (Ag P conv call o s.T s.σ s.nx)else none
 |some false=>Di P conv call ops rest (k+1) acc ⟨Df s.T o.dst (.AP []),s.σ,s.nx⟩
 |none=>none
theorem aal(ops:Array Oper)(k:Nat)(acc:List (Nat×Bool×List Nat))(s:St):Di P conv call ops [] k acc s=some s:=rfl
theorem V7(ops:Array Oper)(k:Nat)(acc:List (Nat×Bool×List Nat))(d:Option Tmp)(op:Op)(ty:TypeId)(ps:String)(af:Array Edge)(rest:List Oper)(T:Nat->V)(σ:Store)(nx:Nat) :
  Di P conv call ops (⟨d,op,ty,ps,af,none⟩ :: rest) k acc ⟨T,σ,nx⟩=if okF af acc (writer conv ⟨d,op,ty,ps,af,none⟩) (Aa conv T σ ⟨d,op,ty,ps,af,none⟩)=true then V6 P conv call ops rest (k+1) (VY acc k (writer conv ⟨d,op,ty,ps,af,none⟩) (Aa conv T σ ⟨d,op,ty,ps,af,none⟩)) T d (Ag P conv call ⟨d,op,ty,ps,af,none⟩ T σ nx)else none:=by
 show(if okF af acc (writer conv ⟨d,op,ty,ps,af,none⟩) (Aa conv T σ ⟨d,op,ty,ps,af,none⟩)=true then(match Ag P conv call ⟨d,op,ty,ps,af,none⟩ T σ nx with|some (v,σ',nx')=>_|none=>none)else none)=_;cases Ag P conv call ⟨d,op,ty,ps,af,none⟩ T σ nx<;>rfl
theorem SL(ops:Array Oper)(k:Nat)(acc:List (Nat×Bool×List Nat))(d:Option Tmp)(op:Op)(ty:TypeId)(ps:String)(af:Array Edge)(g:Nat×Bool)(rest:List Oper)(T:Nat->V)(σ:Store)(nx:Nat) :
  Di P conv call ops (⟨d,op,ty,ps,af,some g⟩ :: rest) k acc ⟨T,σ,nx⟩=ab7 P conv call ops rest k acc ⟨d,op,ty,ps,af,some g⟩ ⟨T,σ,nx⟩ (Bc ops T ⟨d,op,ty,ps,af,some g⟩):=by
 show(match Bc ops T ⟨d,op,ty,ps,af,some g⟩with|some true=>_|some false=>_|none=>none)=_;cases Bc ops T ⟨d,op,ty,ps,af,some g⟩with
 |none=>rfl
 |some b=>
  cases b with
  |false=>rfl
  |true=>
   simp only[ab7];cases Ag P conv call ⟨d,op,ty,ps,af,some g⟩ T σ nx<;>rfl
theorem aam(ops:Array Oper)(rest:List Oper)(k:Nat)(acc:List (Nat×Bool×List Nat))(T:Nat->V)(d:Tmp)(v:V)(σ:Store)(nx:Nat):V6 P conv call ops rest k acc T (some d) (some (v,σ,nx))=Di P conv call ops rest k acc ⟨upd T d v,σ,nx⟩:=rfl
theorem aan(ops:Array Oper)(rest:List Oper)(k:Nat)(acc:List (Nat×Bool×List Nat))(T:Nat->V)(v:V)(σ:Store)(nx:Nat):V6 P conv call ops rest k acc T none (some (v,σ,nx))=Di P conv call ops rest k acc ⟨T,σ,nx⟩:=rfl
theorem aao(ops:Array Oper)(rest:List Oper)(k:Nat)(acc:List (Nat×Bool×List Nat))(d:Option Tmp)(op:Op)(ty:TypeId)(ps:String)(af:Array Edge)(g:Option (Nat×Bool))(T:Nat->V)(σ:Store)(nx:Nat) :
  ab7 P conv call ops rest k acc ⟨d,op,ty,ps,af,g⟩ ⟨T,σ,nx⟩ (some true)=if okF af acc (writer conv ⟨d,op,ty,ps,af,g⟩) (Aa conv T σ ⟨d,op,ty,ps,af,g⟩)=true then V6 P conv call ops rest (k+1) (VY acc k (writer conv ⟨d,op,ty,ps,af,g⟩) (Aa conv T σ ⟨d,op,ty,ps,af,g⟩)) T d (Ag P conv call ⟨d,op,ty,ps,af,g⟩ T σ nx)else none:=rfl
theorem V8(ops:Array Oper)(rest:List Oper)(k:Nat)(acc:List (Nat×Bool×List Nat))(d:Tmp)(op:Op)(ty:TypeId)(ps:String)(af:Array Edge)(g:Option (Nat×Bool))(T:Nat->V)(σ:Store)(nx:Nat) :
  ab7 P conv call ops rest k acc ⟨some d,op,ty,ps,af,g⟩ ⟨T,σ,nx⟩ (some false)=Di P conv call ops rest (k+1) acc ⟨upd T d (.AP []),σ,nx⟩:=rfl
theorem aku(af:Array Edge)(acc:List (Nat×Bool×List Nat))(w:Bool):okF af acc w []=true:=id rfl
theorem agz(af:Array Edge)(acc:List (Nat×Bool×List Nat))(w:Bool)(b:Nat)(E:List Nat):okF af acc w (b :: E)=okG af w (b :: E) acc:=id rfl
theorem akv(af:Array Edge)(w:Bool)(ids:List Nat):okG af w ids []=true:=id rfl
theorem agA(af:Array Edge)(w:Bool)(ids:List Nat)(i:Nat)(v:Bool)(E:List Nat)(acc:List (Nat×Bool×List Nat)):okG af w ids ((i,v,E) :: acc)=((if(w||v)=true then(if Ig af i=true then true else E.all fun b=> !ids.contains b)else true) && okG af w ids acc):=id rfl
theorem agB(acc:List (Nat×Bool×List Nat))(k:Nat)(w:Bool):VY acc k w []=acc:=id rfl
theorem ad1(acc:List (Nat×Bool×List Nat))(k:Nat)(w:Bool)(b:Nat)(E:List Nat):VY acc k w (b :: E)=acc++[(k,w,b :: E)]:=id rfl
theorem ad2(i:Nat):Ig #[] i=false:=by simp[Ig]
theorem aap(e:Edge)(es:List Edge)(i:Nat):Ig (e :: es).toArray i=if(e.on==i)=true then(if Region.binds .any e=true then true else Ig es.toArray i)else Ig es.toArray i:=by
 unfold Ig;rw[List.any_toArray,List.any_toArray,List.any_cons];cases e.on==i<;>cases Region.binds .any e<;>simp
theorem aaq(i:Nat):Region.binds .any ⟨i,.data⟩=true:=id rfl
theorem V9(i:Nat):Region.binds .any ⟨i,.phase⟩=true:=id rfl
theorem V_(i:Nat):Region.binds .any ⟨i,.chain⟩=true:=id rfl
theorem Wh(i:Nat):Region.binds .any ⟨i,.guard⟩=true:=id rfl
theorem aar(i:Nat)(d:Departure):Region.binds .any ⟨i,.textOnly d⟩=false:=id rfl
theorem agC(i:Nat)(d:Departure):Region.binds .any ⟨i,.gcOnly d⟩=false:=id rfl
section
variable (d:Option Tmp) (ty:TypeId) (ps:String) (af:Array Edge) (gd:Option (Nat×Bool)) (T:Nat->V) (σ:Store)
theorem akw(t:TypeId)(a x:Operand):writer conv ⟨d,.store t a x,ty,ps,af,gd⟩=true:=id rfl
theorem aas(t:TypeId)(a x:Operand):Aa conv T σ ⟨d,.store t a x,ty,ps,af,gd⟩=vI (val T a):=rfl
theorem ad3(t:TypeId)(a:Operand):Aa conv T σ ⟨d,.load t a,ty,ps,af,gd⟩=vI (val T a):=rfl
theorem aod(t:TypeId)(a:Operand):writer conv ⟨d,.load t a,ty,ps,af,gd⟩=false:=id rfl
theorem akx(b off:Nat):vI (.rp b off)=[b]:=rfl
theorem aky(b off len:Nat):vI (.rs b off len)=[b]:=rfl
theorem akz(row:List V)(off:Nat):vI (.tp row off)=[]:=rfl
theorem akA(row:List V)(off:Nat):vI (.ts row off)=[]:=rfl
theorem akB(v:Value):vI (.sc v)=[]:=rfl
theorem agD:vI .nil=[]:=rfl
theorem agE(vs:List V):vI (.agg vs)=[]:=rfl
theorem ad4(x:Operand):Aa conv T σ ⟨d,.move x,ty,ps,af,gd⟩=[]:=rfl
theorem aoe(x:Operand):writer conv ⟨d,.move x,ty,ps,af,gd⟩=false:=id rfl
theorem Wi(x:Operand):Aa conv T σ ⟨d,.assign x,ty,ps,af,gd⟩=[]:=rfl
theorem agF(x:Operand):writer conv ⟨d,.assign x,ty,ps,af,gd⟩=false:=id rfl
theorem ad5(c a b:Operand):Aa conv T σ ⟨d,.pick c a b,ty,ps,af,gd⟩=[]:=rfl
theorem aof(c a b:Operand):writer conv ⟨d,.pick c a b,ty,ps,af,gd⟩=false:=id rfl
theorem Px(x:Operand):Aa conv T σ ⟨d,.nilCheck x,ty,ps,af,gd⟩=[]:=rfl
theorem aat(x:Operand):writer conv ⟨d,.nilCheck x,ty,ps,af,gd⟩=false:=id rfl
theorem aau(op:BinOp)(t:TypeId)(x y:Operand)(E:TypeId):Aa conv T σ ⟨d,.binOp op t x y E,ty,ps,af,gd⟩=[]:=rfl
theorem akC(op:BinOp)(t:TypeId)(x y:Operand)(E:TypeId):writer conv ⟨d,.binOp op t x y E,ty,ps,af,gd⟩=false:=id rfl
theorem ad6(op:UnOp)(t:TypeId)(x:Operand):Aa conv T σ ⟨d,.unOp op t x,ty,ps,af,gd⟩=[]:=rfl
theorem aog(op:UnOp)(t:TypeId)(x:Operand):writer conv ⟨d,.unOp op t x,ty,ps,af,gd⟩=false:=id rfl
theorem M_(t:TypeId)(x:Operand)(f:Nat):Aa conv T σ ⟨d,.fieldAddr t x f,ty,ps,af,gd⟩=[]:=rfl
theorem Wj(t:TypeId)(x:Operand)(f:Nat):writer conv ⟨d,.fieldAddr t x f,ty,ps,af,gd⟩=false:=id rfl
theorem aav(t:TypeId)(x:Operand)(f:Nat):Aa conv T σ ⟨d,.field t x f,ty,ps,af,gd⟩=[]:=rfl
theorem akD(t:TypeId)(x:Operand)(f:Nat):writer conv ⟨d,.field t x f,ty,ps,af,gd⟩=false:=id rfl
theorem Na(t:TypeId)(x i:Operand):Aa conv T σ ⟨d,.indexAddr t x i,ty,ps,af,gd⟩=[]:=rfl
theorem Wn(t:TypeId)(x i:Operand):writer conv ⟨d,.indexAddr t x i,ty,ps,af,gd⟩=false:=id rfl
theorem aaw(t:TypeId)(x i:Operand):Aa conv T σ ⟨d,.index t x i,ty,ps,af,gd⟩=[]:=rfl
theorem akE(t:TypeId)(x i:Operand):writer conv ⟨d,.index t x i,ty,ps,af,gd⟩=false:=id rfl
theorem SN(x:Operand)(i:Nat):Aa conv T σ ⟨d,.extract x i,ty,ps,af,gd⟩=[]:=rfl
theorem ad7(x:Operand)(i:Nat):writer conv ⟨d,.extract x i,ty,ps,af,gd⟩=false:=id rfl
theorem agG(x:Operand)(t:TypeId):Aa conv T σ ⟨d,.call ⟨.builtin .len,#[x],#[t]⟩,ty,ps,af,gd⟩=[]:=rfl
theorem arR(x:Operand)(t:TypeId):writer conv ⟨d,.call ⟨.builtin .len,#[x],#[t]⟩,ty,ps,af,gd⟩=false:=id rfl
theorem aax(t:TypeId)(parts:Array (Nat×Operand)):Aa conv T σ ⟨d,.build t parts,ty,ps,af,gd⟩=[]:=rfl
theorem akF(t:TypeId)(parts:Array (Nat×Operand)):writer conv ⟨d,.build t parts,ty,ps,af,gd⟩=false:=id rfl
theorem Py(f:FuncId)(cap:Array Operand):Aa conv T σ ⟨d,.makeFunc (.func f) #[] cap,ty,ps,af,gd⟩=[]:=rfl
theorem aay(f:FuncId)(cap:Array Operand):writer conv ⟨d,.makeFunc (.func f) #[] cap,ty,ps,af,gd⟩=false:=id rfl
theorem aaz(t:TypeId):Aa conv T σ ⟨d,.alloc t,ty,ps,af,gd⟩=[]:=rfl
theorem akG(t:TypeId):writer conv ⟨d,.alloc t,ty,ps,af,gd⟩=false:=id rfl
theorem agH(t:TypeId)(x:Operand):Aa conv T σ ⟨d,.box t x,ty,ps,af,gd⟩=[]:=rfl
theorem arS(t:TypeId)(x:Operand):writer conv ⟨d,.box t x,ty,ps,af,gd⟩=false:=id rfl
theorem aoh{g:FuncId}(h:conv g= .Jo)(args:Array Operand)(ts:Array TypeId):writer conv ⟨d,.call ⟨.value (.func g),args,ts⟩,ty,ps,af,gd⟩=false:=by unfold writer;simp only[h]
theorem mG{g:FuncId}(h:conv g≠ .inl)(args:Array Operand)(ts:Array TypeId):Dx conv T σ ⟨d,.call ⟨.value (.func g),args,ts⟩,ty,ps,af,gd⟩=(stripL (strip σ depth) (args.toList.map (val T))).map (·.2):=by
 simp only[Dx,val,zK,Qh];cases hc:conv g with
 |inl=>exact absurd hc h
 |own=>cases stripL (strip σ depth) (args.toList.map (val T))<;>rfl
 |Jo=>cases stripL (strip σ depth) (args.toList.map (val T))<;>rfl
theorem ad8{g:FuncId}(h:conv g= .Jo)(args:Array Operand)(ts:Array TypeId):Aa conv T σ ⟨d,.call ⟨.value (.func g),args,ts⟩,ty,ps,af,gd⟩=((stripL (strip σ depth) (args.toList.map (val T))).map (·.2)).getD []:=by
 unfold Aa;rw[mG d ty ps af gd T σ (by rw[h];exact fun e=>by cases e)]
end
def Wp(P:Program)(conv:FuncId->Conv)(call:Call)(ops:Array Oper)(rest:List Oper)(T:Nat->V)(d:Option Tmp):Kq->Option St
 |some (v,σ,nx)=>Dh P conv call ops rest ⟨Df T d v,σ,nx⟩
 |none=>none
def ab8(P:Program)(conv:FuncId->Conv)(call:Call)(ops:Array Oper)(rest:List Oper)(o:Oper)(s:St):Option Bool->Option St
 |some true=>Wp P conv call ops rest s.T o.dst (Ag P conv call o s.T s.σ s.nx)
 |some false=>Dh P conv call ops rest ⟨Df s.T o.dst (.AP []),s.σ,s.nx⟩
 |none=>none
theorem aaA(ops:Array Oper)(s:St):Dh P conv call ops [] s=some s:=rfl
theorem Wq(ops:Array Oper)(d:Option Tmp)(op:Op)(ty:TypeId)(ps:String)(af:Array Edge)(rest:List Oper)(T:Nat->V)(σ:Store)(nx:Nat) :
  Dh P conv call ops (⟨d,op,ty,ps,af,none⟩ :: rest) ⟨T,σ,nx⟩=Wp P conv call ops rest T d (Ag P conv call ⟨d,op,ty,ps,af,none⟩ T σ nx):=by
 show(match Ag P conv call ⟨d,op,ty,ps,af,none⟩ T σ nx with|some (v,σ',nx')=>_|none=>none)=_;cases Ag P conv call ⟨d,op,ty,ps,af,none⟩ T σ nx<;>rfl
theorem SQ(ops:Array Oper)(d:Option Tmp)(op:Op)(ty:TypeId)(ps:String)(af:Array Edge)(g:Nat×Bool)(rest:List Oper)(T:Nat->V)(σ:Store)(nx:Nat) :
  Dh P conv call ops (⟨d,op,ty,ps,af,some g⟩ :: rest) ⟨T,σ,nx⟩=ab8 P conv call ops rest ⟨d,op,ty,ps,af,some g⟩ ⟨T,σ,nx⟩ (Bc ops T ⟨d,op,ty,ps,af,some g⟩):=by
 show(match Bc ops T ⟨d,op,ty,ps,af,some g⟩with|some true=>_|some false=>_|none=>none)=_;cases Bc ops T ⟨d,op,ty,ps,af,some g⟩with
 |none=>rfl
 |some b=>
  cases b with
  |false=>rfl
  |true=>
   simp only[ab8];cases Ag P conv call ⟨d,op,ty,ps,af,some g⟩ T σ nx<;>rfl
theorem aaB(ops:Array Oper)(rest:List Oper)(T:Nat->V)(d:Tmp)(v:V)(σ:Store)(nx:Nat):Wp P conv call ops rest T (some d) (some (v,σ,nx))=Dh P conv call ops rest ⟨upd T d v,σ,nx⟩:=rfl
theorem aaC(ops:Array Oper)(rest:List Oper)(T:Nat->V)(v:V)(σ:Store)(nx:Nat):Wp P conv call ops rest T none (some (v,σ,nx))=Dh P conv call ops rest ⟨T,σ,nx⟩:=rfl
theorem aaD(ops:Array Oper)(rest:List Oper)(d:Option Tmp)(op:Op)(ty:TypeId)(ps:String)(af:Array Edge)(g:Option (Nat×Bool))(T:Nat->V)(σ:Store)(nx:Nat) :
  ab8 P conv call ops rest ⟨d,op,ty,ps,af,g⟩ ⟨T,σ,nx⟩ (some true)=Wp P conv call ops rest T d (Ag P conv call ⟨d,op,ty,ps,af,g⟩ T σ nx):=rfl
theorem Ws(ops:Array Oper)(rest:List Oper)(d:Tmp)(op:Op)(ty:TypeId)(ps:String)(af:Array Edge)(g:Option (Nat×Bool))(T:Nat->V)(σ:Store)(nx:Nat) :
  ab8 P conv call ops rest ⟨some d,op,ty,ps,af,g⟩ ⟨T,σ,nx⟩ (some false)=Dh P conv call ops rest ⟨upd T d (.AP []),σ,nx⟩:=rfl
theorem aaE{σ:Store}{nx:Nat}{cells:List V}{st:Nat}:wI [] nx (nx+1) σ (Ai (restrict σ []) nx cells st)=Ai σ nx cells st:=by
 funext b;unfold wI Ai upd restrict
 by_cases h:b=nx
 .subst h;simp
 .rw[sW (by simp;omega),sW h]
section
variable (d:Option Tmp) (ty:TypeId) (ps:String) (af:Array Edge) (gd:Option (Nat×Bool)) (T:Nat->V) (σ:Store) (nx:Nat)
omit d ty ps af gd T σ nx in
theorem Jz(T:Nat->V)(o:Oper)(v:V):keeps conv T o [] v=true:=by
 obtain⟨dst,op,type,pos,after,guard⟩:=o;cases op<;>simp only[keeps];rename_i c;obtain⟨callee,args,ts⟩:=c;cases callee with
 |value f=>
  cases E:val T f<;>simp only[E];rename_i g cs;cases hc:conv g<;>simp
 |builtin b=>rfl
 |invoke r m=>rfl
theorem nT{o:Oper}{F:List Nat}(E:Dx conv T σ o=some F)(G:∀v,keeps conv T o F v=true):Ag P conv call o T σ nx=if(F.all fun b=>decide (b<nx))=true then match AB P conv call o T (restrict σ F) nx with|some (v,σ1,nI)=>some (v,wI F nx nI σ σ1,nI)|none=>none else none:=by
 unfold Ag;simp only[E,G,if_true];cases AB P conv call o T (restrict σ F) nx with
 |none=>rfl
 |some r=>rfl
theorem LM{o:Oper}(E:Dx conv T σ o=some []){v:V}(h:∀σ,AB P conv call o T σ nx=some (v,σ,nx)):Ag P conv call o T σ nx=some (v,σ,nx):=by
 rw[nT T σ nx E (Jz T o)];simp only[vN,if_true,h];rw[iH]
theorem iZ{o:Oper}(E:Dx conv T σ o=some []){m:Option V}(h:∀σ,AB P conv call o T σ nx=m.map (·,σ,nx)):Ag P conv call o T σ nx=m.map (·,σ,nx):=by
 cases m with
 |some v=>exact LM T σ nx E h
 |none=>
  rw[nT T σ nx E (Jz T o)];simp only[vN,if_true,h,Option.map_none]
theorem Ih{o:Oper}(E:Dx conv T σ o=some []){m:Option (List V×Nat×V)}(h:∀σ,AB P conv call o T σ nx=m.map fun p=>(p.2.2,Ai σ nx p.1 p.2.1,nx+1)):Ag P conv call o T σ nx=m.map fun p=>(p.2.2,Ai σ nx p.1 p.2.1,nx+1):=by
 rw[nT T σ nx E (Jz T o)];simp only[vN,if_true,h];cases m with
 |none=>rfl
 |some p=>simp only[zG];rw[aaE]
theorem agI(x:Operand):Ag P conv call ⟨d,.move x,ty,ps,af,gd⟩ T σ nx=some (val T x,σ,nx):=LM T σ nx rfl fun _=>rfl
theorem aaF(x:Operand):Ag P conv call ⟨d,.assign x,ty,ps,af,gd⟩ T σ nx=some (val T x,σ,nx):=LM T σ nx rfl fun _=>rfl
theorem agJ(c a b:Operand):Ag P conv call ⟨d,.pick c a b,ty,ps,af,gd⟩ T σ nx=(ab5 (val T a) (val T b) (val T c)).map (·,σ,nx):=iZ T σ nx rfl fun σ=>ab6 d ty ps af gd T σ nx c a b
theorem SS(x:Operand):Ag P conv call ⟨d,.nilCheck x,ty,ps,af,gd⟩ T σ nx=(agh (val T x)).map (·,σ,nx):=iZ T σ nx rfl fun σ=>KA d ty ps af gd T σ nx x
theorem ad9(op:BinOp)(t:TypeId)(x y:Operand)(E:TypeId):Ag P conv call ⟨d,.binOp op t x y E,ty,ps,af,gd⟩ T σ nx=(Aj P op t x y (val T x) (val T y)).map (·,σ,nx):=iZ T σ nx rfl fun _=>rfl
theorem agK(op:UnOp)(t:TypeId)(x:Operand):Ag P conv call ⟨d,.unOp op t x,ty,ps,af,gd⟩ T σ nx=(YM P op (val T x)).map (·,σ,nx):=iZ T σ nx rfl fun _=>rfl
theorem Pz(t:TypeId)(x:Operand)(f:Nat):Ag P conv call ⟨d,.fieldAddr t x f,ty,ps,af,gd⟩ T σ nx=(BH P t (val T x) f).map (·,σ,nx):=iZ T σ nx rfl fun _=>rfl
theorem PD(t:TypeId)(x i:Operand):Ag P conv call ⟨d,.indexAddr t x i,ty,ps,af,gd⟩ T σ nx=(CG P t (val T x) (val T i)).map (·,σ,nx):=iZ T σ nx rfl fun _=>rfl
theorem Wu(x:Operand)(i:Nat):Ag P conv call ⟨d,.extract x i,ty,ps,af,gd⟩ T σ nx=(akm i (val T x)).map (·,σ,nx):=iZ T σ nx rfl fun σ=>MW d ty ps af gd T σ nx x i
theorem akH(x:Operand)(t:TypeId):Ag P conv call ⟨d,.call ⟨.builtin .len,#[x],#[t]⟩,ty,ps,af,gd⟩ T σ nx=(DR P t (val T x)).map (·,σ,nx):=iZ T σ nx rfl fun _=>rfl
theorem ad_(t:TypeId)(parts:Array (Nat×Operand)):Ag P conv call ⟨d,.build t parts,ty,ps,af,gd⟩ T σ nx=(FV P t (parts.toList.map fun p=>(p.1,val T p.2))).map (·,σ,nx):=iZ T σ nx rfl fun _=>rfl
theorem aea(t:TypeId)(h:(yI P t).ok=true)(E:decide ((yI P t).zero.length=(yI P t).size)=true)(G:decide (0<(yI P t).size)=true)(hb:isB (yI P t).zero=false):Ag P conv call ⟨d,.alloc t,ty,ps,af,gd⟩ T σ nx=some (.rp nx 0,Ai σ nx (yI P t).zero 0,nx+1) :=
 Ih (m:=some ((yI P t).zero,0,.rp nx 0)) T σ nx rfl fun σ=>VO d ty ps af gd T σ nx t h E G hb
theorem akI(t:TypeId)(x:Operand):Ag P conv call ⟨d,.box t x,ty,ps,af,gd⟩ T σ nx=(cellsOfV (val T x)).map fun cs=>(.rp nx 0,Ai σ nx cs 0,nx+1):=by
 have:=Ih (P:=P) (conv:=conv) (call:=call) (o:=⟨d,.box t x,ty,ps,af,gd⟩) (m:=(cellsOfV (val T x)).map fun cs=>(cs,0,V.rp nx 0)) T σ nx rfl fun σ=>by rw[agc];cases cellsOfV (val T x)<;>rfl
 rw[this];cases cellsOfV (val T x)<;>rfl
def Nb(P:Program)(σ:Store)(nx:Nat)(t:TypeId):V->Option V
 | .rp b off=>if b<nx then AV P σ t (.rp b off)else none
 |v=>AV P σ t v
theorem agL(t:TypeId)(a:Operand):Ag P conv call ⟨d,.load t a,ty,ps,af,gd⟩ T σ nx=(Nb P σ nx t (val T a)).map (·,σ,nx):=by
 have key:∀b off,AV P (restrict σ [b]) t (.rp b off)=AV P σ t (.rp b off):=fun b off=>by
  unfold AV Dz restrict;simp
 rw[nT (F:=vI (val T a)) T σ nx rfl (fun _=>rfl)];show(if((vI (val T a)).all fun b=>decide (b<nx))=true then match(AV P (restrict σ (vI (val T a))) t (val T a)).map (·,restrict σ (vI (val T a)),nx)with|some (v,σ1,nI)=>some (v,wI (vI (val T a)) nx nI σ σ1,nI)|none=>none else none)=_;cases E:val T a with
 |rp b off=>
  simp only[vI,uO,vN,Bool.and_true,decide_eq_true_eq,Nb,key]
  by_cases hb:b<nx
  .rw[sS hb,sS hb]
   cases AV P σ t (.rp b off)with
   |none=>rfl
   |some v=>simp only[zG,iJ]
  .rw[sW hb,sW hb];rfl
 |tp row off=>
  simp only[vI,vN,if_true,Nb];have:AV P (restrict σ []) t (.tp row off)=AV P σ t (.tp row off):=by unfold AV Dz;rfl
  rw[this];cases AV P σ t (.tp row off)with
  |none=>rfl
  |some v=>simp only[zG,iH]
 |rs b off len=>
  have e:∀σ,AV P σ t (.rs b off len)=none:=fun σ=>by unfold AV Dz;split<;>simp
  simp only[Nb,e,Option.map_none]
  split<;>rfl
 |_=>
  simp only[vI,vN,if_true,Nb];unfold AV Dz;cases P.info? t<;>cases P.underlying t<;>simp
theorem agM(σ:Store)(nx:Nat)(t:TypeId)(row:List V)(off:Nat):Nb P σ nx t (.tp row off)=AV P σ t (.tp row off):=rfl
theorem agN(σ:Store)(nx:Nat)(t:TypeId)(b off:Nat):Nb P σ nx t (.rp b off)=if b<nx then AV P σ t (.rp b off)else none:=rfl
def SV(P:Program)(σ:Store)(nx:Nat)(t:TypeId)(v:V):V->Option Store
 | .rp b off=>if b<nx then Dw P σ t (.rp b off) v else none
 |_=>none
theorem aeb(t:TypeId)(a x:Operand):Ag P conv call ⟨d,.store t a x,ty,ps,af,gd⟩ T σ nx=(SV P σ nx t (val T x) (val T a)).map (.AP [],·,nx):=by
 rw[nT (F:=vI (val T a)) T σ nx rfl (fun _=>rfl)];show(if((vI (val T a)).all fun b=>decide (b<nx))=true then match(Dw P (restrict σ (vI (val T a))) t (val T a) (val T x)).map (V.AP [],·,nx)with|some (v,σ1,nI)=>some (v,wI (vI (val T a)) nx nI σ σ1,nI)|none=>none else none)=_;cases G:val T a with
 |rp b off=>
  simp only[vI,uO,vN,Bool.and_true,decide_eq_true_eq,SV]
  by_cases hb:b<nx
  .rw[sS hb,sS hb]
   unfold Dw;have J:restrict σ [b] b=σ b:=by unfold restrict;simp
   cases P.info? t with
   |none=>rfl
   |some i=>
    cases cellsOfV (val T x)with
    |none=>rfl
    |some vs=>
     simp only[J];cases σ b with
     |none=>rfl
     |some B=>
      by_cases hc:B.wr=true/\vs.length=i.size/\off+vs.length<=B.cells.length/\vs.all pI=true
      .simp only[sS hc,zG]
       congr 2;congr 1;funext c;unfold wI upd restrict
       by_cases E:c=b
       .subst E;simp
       .rw[sW (by simp[E]),sW E]
      .simp only[sW hc,Option.map_none]
  .rw[sW hb,sW hb];rfl
 |_=>
  simp only[SV];have:Dw P (restrict σ (vI (val T a))) t (val T a) (val T x)=none:=by
   rw[G];unfold Dw;cases P.info? t<;>cases cellsOfV (val T x)<;>rfl
  rw[G]at this;rw[this];simp
theorem aec(σ:Store)(nx:Nat)(t:TypeId)(v:V)(b off:Nat):SV P σ nx t v (.rp b off)=if b<nx then Dw P σ t (.rp b off) v else none:=rfl
end
end
end Go.TV
namespace Go.TV
set_option linter.unusedVariables false
set_option linter.unusedSimpArgs false
variable [Known]
noncomputable def fn(P:Program)(conv:FuncId->Conv)(ext:Ext)(f:FuncId)(ts:List V):Option V :=
 match ev P conv ext f ts lI 0 with
 |some (v,σ1,_)=>(strip σ1 depth v).map (·.1)
 |none=>none
section
variable {P:Program} {conv:FuncId->Conv} {ext:Ext}
def behind(σ:Store)(ids:List Nat)(t:V):Store:=if ids.isEmpty||flat depth t then σ else Dc σ ids
theorem Wv{f:FuncId}(h:conv f= .Jo)(args:List V)(σ:Store)(nx:Nat):Cm conv (ev P conv ext) f args σ nx=
  (stripL (strip σ depth) args).bind fun p=>(fn P conv ext f p.1).map fun t=>(t,behind σ p.2 t,nx):=by
 unfold Cm fn behind;rw[h];simp only;cases stripL (strip σ depth) args with
 |none=>rfl
 |some p=>
  obtain⟨ts,ids⟩:=p;simp only[zi];cases ev P conv ext f ts lI 0 with
  |none=>rfl
  |some q=>
   obtain⟨v,E,n⟩:=q;simp only;cases strip E depth v with
   |none=>rfl
   |some r=>
    obtain⟨t,j⟩:=r;simp only[zG]
    split<;>rfl
theorem aaG(σ:Store)(t:V):behind σ [] t=σ:=rfl
theorem aed(σ:Store)(ids:List Nat)(v:Value):behind σ ids (.sc v)=σ:=by
 unfold behind depth flat;simp
theorem Wx(σ:Store)(ids:List Nat)(v w:Value):behind σ ids (.AP [.sc v,.sc w])=σ:=by
 have:flat depth (.AP [.sc v,.sc w])=true:=rfl;unfold behind;rw[this];simp
theorem qJ{call:Call}{f:FuncId}(h:conv f= .inl)(args:List V)(σ:Store)(nx:Nat):Cm conv call f args σ nx=call f args σ nx:=by
 unfold Cm;rw[h]
theorem Wy{call:Call}{f:FuncId}(h:conv f= .own)(args:List V)(σ:Store)(nx:Nat):Cm conv call f args σ nx=
  (stripL (strip σ depth) args).bind fun p=>(call f p.1 lI nx).bind fun q=>(gather q.2.1 depth q.1).map fun ids=>(q.1,Cb nx σ q.2.1 ids,q.2.2):=by
 unfold Cm;rw[h];simp only;cases stripL (strip σ depth) args with
 |none=>rfl
 |some p=>
  simp only[zi];cases call f p.1 lI nx with
  |none=>rfl
  |some q=>
   simp only[zi];cases gather q.2.1 depth q.1<;>rfl
theorem aZ(f:V->Option (V×List Nat)):stripL f []=some ([],[]):=rfl
theorem au(f:V->Option (V×List Nat))(v:V)(vs:List V):stripL f (v :: vs)=(f v).bind fun p=>(stripL f vs).map fun q=>(p.1 :: q.1,p.2++q.2):=by
 show(match f v,stripL f vs with|some (t,i),some (ts,j)=>some (t :: ts,i++j)|_,_=>none)=_;cases f v<;>cases stripL f vs<;>rfl
theorem aQ(σ:Store)(d:Nat)(v:Value):strip σ d (.sc v)=some (.sc v,[]):=by cases d<;>rfl
theorem aT(σ:Store)(d:Nat):strip σ d .nil=some (.ts [] 0,[]):=by cases d<;>rfl
theorem aO(σ:Store)(d:Nat)(row:List V)(off:Nat):strip σ d (.tp row off)=some (.tp row off,[]):=by cases d<;>rfl
theorem aN(σ:Store)(d:Nat)(row:List V)(len:Nat):strip σ d (.ts row len)=some (.ts row len,[]):=by cases d<;>rfl
theorem aW(σ:Store)(d:Nat)(vs:List V):strip σ (d+1) (.agg vs)=(stripL (strip σ d) vs).map fun p=>(.agg p.1,p.2):=by
 show(match stripL (strip σ d) vs with|some (ts,ids)=>some (V.agg ts,ids)|none=>none)=_;cases stripL (strip σ d) vs<;>rfl
theorem aee(σ:Store)(d:Nat)(vs:List V):strip σ (d+1) (.AP vs)=(stripL (strip σ d) vs).map fun p=>(.AP p.1,p.2):=by
 show(match stripL (strip σ d) vs with|some (ts,ids)=>some (V.AP ts,ids)|none=>none)=_;cases stripL (strip σ d) vs<;>rfl
theorem aef(σ:Store)(d:Nat)(f:FuncId)(vs:List V):strip σ (d+1) (.clo f vs)=(stripL (strip σ d) vs).map fun p=>(.clo f p.1,p.2):=by
 show(match stripL (strip σ d) vs with|some (ts,ids)=>some (V.clo f ts,ids)|none=>none)=_;cases stripL (strip σ d) vs<;>rfl
theorem Nc(σ:Store)(d b off:Nat):strip σ (d+1) (.rp b off)=(σ b).bind fun B=>(stripL (strip σ d) B.cells).map fun p=>(.tp p.1 off,b :: p.2):=by
 show(match σ b with|some B=>(match stripL (strip σ d) B.cells with|some (ts,ids)=>some (V.tp ts off,b :: ids)|none=>none)|none=>none)=_;cases σ b with
 |none=>rfl
 |some B=>simp only[zi];cases stripL (strip σ d) B.cells<;>rfl
theorem aS(σ:Store)(d b off len:Nat):strip σ (d+1) (.rs b off len)=(σ b).bind fun B=>if off+len*B.st<=B.cells.length then(stripL (strip σ d) ((B.cells.drop off).take (len*B.st))).map fun p=>(.ts p.1 len,b :: p.2)else none:=by
 show(match σ b with|some B=>(if off+len*B.st<=B.cells.length then(match stripL (strip σ d) ((B.cells.drop off).take (len*B.st))with|some (ts,ids)=>some (V.ts ts len,b :: ids)|none=>none)else none)|none=>none)=_;cases σ b with
 |none=>rfl
 |some B=>
  simp only[zi]
  split
  .cases stripL (strip σ d) ((B.cells.drop off).take (len*B.st))<;>rfl
  .rfl
def WA(ids:List Nat)(t:V)(σ:Store)(nx:Nat):Kq:=if(ids.isEmpty||flat depth t)=true then some (t,σ,nx)else none
theorem aeg(t:V)(σ:Store)(nx:Nat):WA [] t σ nx=some (t,σ,nx):=rfl
theorem agO(ids:List Nat)(v:Value)(σ:Store)(nx:Nat):WA ids (.sc v) σ nx=some (.sc v,σ,nx):=by
 unfold WA depth flat;simp
theorem agP{d:Option Tmp}{ty:TypeId}{ps:String}{O:Array Edge}{S:Option (Nat×Bool)}{T:Nat->V}{σ:Store}{nx:Nat}{g:FuncId}(h:conv g= .Jo)(args:Array Operand)(ts:Array TypeId) :
  Ag P conv (ev P conv ext) ⟨d,.call ⟨.value (.func g),args,ts⟩,ty,ps,O,S⟩ T σ nx=(stripL (strip σ depth) (args.toList.map (val T))).bind fun p=>if(p.2.all fun b=>decide (b<nx))=true then(fn P conv ext g p.1).bind fun t=>WA p.2 t σ nx else none:=by
 unfold Ag;rw[mG d ty ps O S T σ (by rw[h];exact fun e=>by cases e)];cases Y:stripL (strip σ depth) (args.toList.map (val T))with
 |none=>rfl
 |some p=>
  obtain⟨us,ids⟩:=p;simp only[zG,zi]
  by_cases E:(ids.all fun b=>decide (b<nx))=true
  .rw[sS E,sS E]
   have e:=LK (P:=P) (conv:=conv) (call:=ev P conv ext) d ty ps O S T (restrict σ ids) nx (.func g) args ts;rw[e];have G:stripL (strip (restrict σ ids) depth) (args.toList.map (val T))=some (us,ids) :=
    ay (fun v t i h hi=>aV _ v t i h fun b hb=>by unfold restrict;rw[sS (hi b hb)]) Y
   simp only[val,qK,zK,Wv h,G,zi];cases fn P conv ext g us with
   |none=>rfl
   |some t=>
    simp only[zG,zi,keeps,val,h,WA,behind]
    by_cases J:(ids.isEmpty||flat depth t)=true
    .rw[sS J,sS J,sS J,iJ]
    .rw[sW J,sW J]
  .rw[sW E,sW E]
end
abbrev I(n:Int):V:=.sc (.int .i64 n)
abbrev Bo(b:Bool):V:=.sc (.bool b)
abbrev Sg(s:ByteArray):V:=.sc (.string s)
abbrev L(xs:List Int):V:=.ts (xs.map I) xs.length
theorem jD(n:Nat):(0:Int)<=(n:Int):=by omega
theorem ZQ{n:Int}(E:-9223372036854775808<=n:=by omega)(G:n<=9223372036854775807:=by omega):IntKind.i64.wrap n=n:=by
 rw[IntKind.wrap_i64];omega
end Go.TV
namespace Go.TV
variable [Known]
attribute [go_sem low] iY
attribute [go_sem] aaj akt adZ aak aal V7 SL aam aan aao V8 aku agz akv agA agB ad1 ad2 aap aaq V9 V_ Wh aar agC akw aas ad3 aod akx aky akz akA akB agD agE ad4 aoe Wi agF ad5 aof Px aat aau akC ad6 aog M_ Wj aav akD Na Wn aaw akE SN ad7 agG arR aax akF Py aay aaz akG agH arS aoh ad8 tN List.contains_nil Bool.or_false Bool.false_or Bool.true_or Nat.reduceBEq adK Z4 VL adL adM adN Z5 SB VN SC akd adO af' ake adP ab6 Z7 VO arM arN arO an6 akf akg aga Z8 agb akh an7 wE xu vJ agc agd aki agf KA akj akk agi akl Z9 VP Ie agj SE agk SH agl MW agm LK qK an8 Ql akn agp adH ZF Z_ VT aac VU aad adQ aae adS agr ako ags agt agu adT aaf adU adV VX adW adX aag SI aah aai adY arP akp an9 akq agx an_ an' arQ aoa aob akr agy aks aoc aaA Wq SQ aaB aaC aaD Ws agI aaF agJ SS ad9 agK Pz PD Wu akH ad_ aea akI agL agM agN aeb aec agP aeg agO xK Option.getD_none adE Y6 adF Y7 Y8 VH Y9 Y_ ZA ZC adG oC ZE VI VJ nZ ng adI adJ VK ZG ZI anT anU anV anW anX anY anZ an0 an1 an2 an3 an4 an5 Wv aaG aed Wx aZ au aQ aT aO aN aW aee aef Nc aS Zi Zj ne_eq wU tV xK zG zi wV not_false_eq_true reduceCtorEq beq_self_eq_true if_true if_false yL vK List.map_nil yK yT Nat.reduceEqDiff decide_true decide_false vJ wE vH wu Bool.and_true Bool.or_true xu bnd and_true true_and
end Go.TV
namespace Go.TV
variable [Known]
theorem jV{body:St->Option (Ex×St)}{E:St}{x:Option (Ex×St)}(S:dI body E=x)(J:Nat->St->Prop)(post:Ex×St->Prop)
  (step:∀n st,J n st->(∃G,body st=some (.norm,G)/\∃m,m<n/\J m G)\/(∃r,body st=some r/\(∀s,r≠(.norm,s))/\post r)) (n:Nat) (Y:J n E):∃r,x=some r/\post r:=by
 subst S
 induction n using Nat.strongRecOn generalizing E with
 |_ n ih=>
  rcases step n E Y with ⟨G,O,m,hm,hJ⟩|⟨r,O,h2,h3⟩
  .obtain⟨r,hr,hp⟩:=ih m hm hJ
   exact⟨r,by rw[nY,O];exact hr,hp⟩
  .refine⟨r,?_,h3⟩
   rw[nY,O];obtain⟨e,s⟩:=r;cases e with
   |norm=>exact absurd rfl (h2 s)
   |exit i=>rfl
   |ret=>rfl
end Go.TV
namespace Go.TV
open Go.ChangeShapes Go.WideShapes Go.RowKit
set_option linter.unusedVariables false
variable [Known]
def start(W:World):Sit:=⟨fun k _=>k<W.heap.size,fun _=>none,W⟩
theorem aeh(W:World)(E:Kn (start W)):Inv (start W) lI:=Inv.none _ (fun _ _ h=>h) E
structure OpensV {α:Type} (P:Program) (t:TypeId) (c:α->List V) (ok:α->Prop):Prop where
 out:∀ {H:Type} {enc:TypeId×Value->H} {W:World} {base:Nat} {spare:Nat->Bool} {held:Bool} {fuel:Nat} {cs:List Value} {y:DataW H×List MemPlace},
  DataW.trod enc P W base spare held fuel t cs=some y->(∀n∈DataW.weights P t y.1,n<=reachBytes)->∃x,VRs (start W) (c x) cs/\ok x
theorem Ii{s:Sit}{v:V}{x:Value}(h:VR s v x):VRs s [v] [x]:=by
 unfold VRs;exact⟨x,[],rfl,h,by unfold VRs;rfl⟩
theorem opensV_int{P:Program}{t:TypeId}{k:IntKind}(E:P.underlying t=some (.int k)):OpensV P t (fun n:Int=>[.sc (.int k n)]) (fun n=>(Lit.int k n).wf=true) :=
 ⟨fun h _=>by
  obtain⟨n,rfl,_,hw⟩:=DataW.trod_int E h;exact⟨n,Ii (sF rfl),hw⟩⟩
theorem opensV_bool{P:Program}{t:TypeId}(E:P.underlying t=some .bool):OpensV P t (fun b:Bool=>[.sc (.bool b)]) (fun _=>True) :=
 ⟨fun h _=>by
  obtain⟨b,rfl,_⟩:=DataW.trod_bool E h;exact⟨b,Ii (sF rfl),trivial⟩⟩
theorem opensV_string{P:Program}{t:TypeId}(E:P.underlying t=some .string):OpensV P t (fun s:ByteArray=>[.sc (.string s)]) (fun s=>s.size<=140737488351232) :=
 ⟨fun h hw=>by
  obtain⟨s,rfl,rfl,_⟩:=DataW.trod_string E h;refine⟨s,Ii (sF rfl),?_⟩;have:=hw s.data.toList.length (by simp[DataW.weights]);rw[yO]at this;exact this⟩
theorem ZT{H:Type}{P:Program}{e:TypeId}:∀ {l:List (DataW H)} {d:DataW H},d∈l->∀n∈d.weights P e,n∈DataW.weightsAll P e l
 |c :: l,d,E,n,hn=>by
  unfold DataW.weightsAll;rcases List.mem_cons.1 E with rfl|E
  .exact zD _ hn
  .exact yw _ (ZT E n hn)
theorem KD{α:Type}{p:Nat->α->Prop}:∀n,(∀i,i<n->∃x,p i x)->∃l:List α,l.length=n/\∀i x,l[i]?=some x->p i x
 |0,_=>⟨[],rfl,fun i x h=>by simp at h⟩
 |n+1,h=>by
  obtain⟨l,J,hp⟩:=KD n (fun i hi=>h i (by omega));obtain⟨x,O⟩:=h n (by omega);refine⟨l++[x],by simp[J],fun i y E=>?_⟩;rcases Nat.lt_or_ge i n with hi|hi
  .rw[zV (by omega)]at E
   exact hp i y E
  .rw[zQ (by omega),J]at E
   have G:i-n=0:=by
    rcases Nat.eq_zero_or_pos (i-n)with G|G
    .exact G
    .rw[yZ (by simp;omega)]at E
     cases E
   rw[G]at E;have:x=y:=by simpa using E
   subst this;have:i=n:=by omega
   subst this;exact O
theorem Ij{s:Sit}{α:Type}{c:α->List V}{k size:Nat}(hc:∀x,(c x).length=size):∀(xs:List α) (o:Nat),(∀i x,xs[i]?=some x->Ew s (c x) k (o+i*size))->Ew s (xs.flatMap c) k o
 |[],o,_=>by rw[wQ];unfold Ew;trivial
 |x :: xs,o,h=>by
  rw[zT];have E:=h 0 x rfl;rw[uq,uG]at E;have G:=Ij hc xs (o+size) (fun i y J=>by
   have:=h (i+1) y (by simpa using J);rw[vO,Nat.one_mul]at this
   rwa [show o+size+i*size=o+(i*size+size) by omega])
  have app:∀(a b:List V) (o:Nat),Ew s a k o->Ew s b k (o+a.length)->Ew s (a++b) k o:=by
   intro a
   induction a with
   |nil=>intro b o _ hb;simpa using hb
   |cons v a O=>
    intro b o ha hb;rw[yT];unfold Ew at ha⊢;refine⟨ha.1,ha.2.1,O b (o+1) ha.2.2 ?_⟩
    rwa [show o+1+a.length=o+(v :: a).length by simp;omega]
  exact app _ _ o E (by rw[hc];exact G)
theorem opensV_slice{P:Program}{t e:TypeId}{α:Type}{c:α->List V}{ok:α->Prop}{B size:Nat}(ht:P.underlying t=some (.slice e))(hd:OpensV P e c ok)(E:∀x,(c x).length=size)(hc:P.cellsOf e=size)(hB:P.bytesOf e=B) :
  OpensV P t (fun xs:List α=>[.ts (xs.flatMap c) xs.length]) (fun xs=>(∀x∈xs,ok x)/\xs.length*B<=140737488351232/\xs.length<=maxLen) :=
 ⟨fun {H enc W base spare held fuel cs y} h hw=>by
  rcases Go.Deep.open_slice ht h with ⟨rfl,rfl⟩|⟨a,len,cap,m,n,D,Pl,rfl,_,hl,hm,a5,rfl,Y⟩
  .exact⟨[],Ii (by unfold VR;exact⟨none,0,rfl,zq _,.inl rfl⟩),fun x Y=>by simp at Y,by simp,wK _⟩
  .have b6:len<=m:=by rw[a5];split<;>omega
   simp only[DataW.weights,ht,zO,uN]at hw;obtain⟨xs,a0,G⟩:=KD (p:=fun i x=>∃J:List Value,J.length=size/\VRs (start W) (c x) J/\ok x/\∀(j:Nat) (u:Value),J[j]?=some u->W.cell? (a.add (i*size+j))=some u) len (fun i hi=>by
    obtain⟨a6,a1,a7⟩:=Y i (by omega);obtain⟨x,hK,a8⟩:=hd.out a7 (fun k hk=>hw k (zY _ (zD _ (ZT (d:=D i) (List.mem_map.2 ⟨i,List.mem_range.2 hi,rfl⟩) k hk))));obtain⟨_,a9,b2⟩:=World.cells?_some a1;refine⟨x,a6,by rw[<- rW hK,E],hK,a8,fun j u hu=>?_⟩;have hj:j<P.cellsOf e:=by rw[<- a9];exact(List.getElem?_eq_some_iff.1 hu).1
    have:=b2 j hj;rw[hc,Go.Deep.add_add]at this;rw[this,hu])
   have hlen:len<=9223372036854775807:=by
    unfold maxLen at hm;omega
   refine⟨xs,Ii ?_,fun x b3=>?_,?_,by omega⟩
   .unfold VR
    refine⟨some a,cap,by rw[a0],by omega,?_⟩
    by_cases O:xs.flatMap c=[]
    .exact .inl O
    .obtain⟨x0,b4⟩:∃x0,xs[0]?=some x0:=by
      cases xs with
      |nil=>exact absurd rfl O
      |cons x0 r=>exact⟨x0,rfl⟩
     have S:a.spot=none/\a.block<W.heap.size:=by
      obtain⟨J,k1,k2,k3,k4⟩:=G 0 x0 b4;have a2:J≠[]:=by
       rintro rfl;have:size=0:=by simpa using k1.symm
       apply O;rw[List.flatMap_eq_nil_iff];intro x _;exact zZ (by rw[E,this])
      cases J with
      |nil=>exact absurd rfl a2
      |cons u r=>
       have:=k4 0 u rfl;rw[uq,yX]at this;have b5:a.add 0=a:=by simp[Addr.add]
       rw[b5]at this;refine⟨?_,World.block_lt_of_cell? W a this⟩;unfold World.cell? at this
       split at this
       .split at this
        .cases this
        .rename_i hs;simpa using hs
       .cases this
     obtain⟨a3,a4⟩:=S;obtain⟨ab,ao,b7⟩:=a;simp only at a3 a4;subst a3;refine .inr ⟨ab,ao,rfl,Ij E xs ao fun i x Y=>H7 fun j v hv=>⟨a4,?_⟩⟩;obtain⟨J,k1,k2,k3,k4⟩:=G i x Y;obtain⟨u,hu,hr⟩:=rX k2 hv;refine⟨u,?_,hr⟩;have:=k4 j u hu;rw[Addr.add_lit]at this;rw[wG];exact this
   .obtain⟨i,hi⟩:=List.mem_iff_getElem?.1 b3
    obtain⟨_,_,_,h3,_⟩:=G i x hi;exact h3
   .have:=hw _ zM
    rw[hB]at this;rw[a0];exact zL (zC _ (by omega)) this⟩
structure LP {α:Type} (P:Program) (fs:List Field) (off sz:Nat) (c:α->List V) (ok:α->Prop):Prop where
 out:∀ {H:Type} {enc:TypeId×Value->H} {W:World} {base:Nat} {spare:Nat->Bool} {held:Bool} {n:Nat} {cs:List Value} {xs:List (DataW H×List MemPlace)},
  xs.length=fs.length->(∀(i:Nat) (f:Field),fs[i]?=some f->DataW.trod enc P W base spare held n f.type ((cs.drop f.offset).take (P.cellsOf f.type))=xs[i]?) ->
  (∀n∈DataW.weightsEach P (fs.map (·.type)) (xs.map (·.1)),n<=reachBytes)->∃x,VRs (start W) (c x) ((cs.drop off).take sz)/\ok x
theorem opensVF_one{P:Program}{f:Field}{off sz:Nat}{α:Type}{c:α->List V}{ok:α->Prop}{t:TypeId}(S:f.offset=off)(G:f.type=t)(h:OpensV P t c ok)(hc:P.cellsOf t=sz):LP P [f] off sz c ok :=
 ⟨fun {H enc W base spare held n cs xs} Y hx hw=>by
  match xs,Y with
  |[y],_=>
   have J:=hx 0 f rfl;rw[G]at J;obtain⟨x,O,E⟩:=h.out (y:=y) (by simpa using J) (fun n hn=>hw n (by simp[DataW.weightsEach,G];exact hn));rw[S,hc]at O;exact⟨x,O,E⟩⟩
theorem opensVF_cons{P:Program}{f:Field}{fs:List Field}{off off' sz E:Nat}{α β:Type}{a:α->List V}{b:β->List V}{G:α->Prop}{J:β->Prop}{t:TypeId}(ho:f.offset=off)(hf:f.type=t)(h:OpensV P t a G)(hc:P.cellsOf t=sz)
  (hr:LP P fs off' E b J) (O:off'=off+sz):LP P (f :: fs) off (sz+E) (fun x:α×β=>a x.1++b x.2) (fun x=>G x.1/\J x.2) :=
 ⟨fun {H enc W base spare held n cs xs} S hx hw=>by
  match xs,S with
  |y :: ys,S=>
   have h0:=hx 0 f rfl;rw[hf]at h0;obtain⟨x,hK,Y⟩:=h.out (y:=y) (by simpa using h0) (fun n hn=>hw n (by simp only[vK,DataW.weightsEach,hf];exact zD _ hn));obtain⟨z,hZ,a0⟩:=hr.out (cs:=cs) (xs:=ys) (by simpa using S) (fun i g hg=>hx (i+1) g hg) (fun n hn=>hw n (by simp only[vK,DataW.weightsEach];exact yw _ hn));rw[ho,hc]at hK;rw[O,<- List.drop_drop]at hZ;refine⟨(x,z),?_,Y,a0⟩;rw[List.take_add];exact rZ hK hZ⟩
theorem opensV_struct{P:Program}{t:TypeId}{fs:Array Field}{α:Type}{c:α->List V}{ok:α->Prop}{sz:Nat}(G:P.underlying t=some (.struct fs))(h:LP P fs.toList 0 sz c ok)(hc:P.cellsOf t=sz):OpensV P t c ok :=
 ⟨fun {H enc W base spare held fuel cs y} O hw=>by
  obtain⟨xs,n,_,rfl,S,Y,hx⟩:=DataW.trod_struct G O;simp only[DataW.weights,G]at hw;obtain⟨x,J,E⟩:=h.out (cs:=cs) (xs:=xs) (by simpa using Y) (fun i f hf=>hx i f (by simpa using hf)) hw;rw[yY,zk (by omega)]at J;exact⟨x,J,E⟩⟩
theorem opensV_iso{P:Program}{t:TypeId}{α β:Type}{c:α->List V}{ok:α->Prop}(f:β->α)(g:α->β)(G:∀x,f (g x)=x)(h:OpensV P t c ok):OpensV P t (fun y=>c (f y)) (fun y=>ok (f y)) :=
 ⟨fun J hw=>by
  obtain⟨x,O,E⟩:=h.out J hw;exact⟨g x,by show VRs _ (c (f (g x))) _;rw[G];exact O,by show ok (f (g x));rw[G];exact E⟩⟩
theorem opensV_param{P:Program}{t:TypeId}{α:Type}{c:α->List V}{ok:α->Prop}(h:OpensV P t c ok){H:Type}{enc:TypeId×Value->H}{W:World}{base:Nat}{spare:Nat->Bool}{held:Bool}{v:Value}{y:DataW H}{p:List MemPlace}
  (S:DataW.Trod enc P W base spare held t v y p) {ts:List TypeId} {O:List (DataW H)} {j:Nat} (E:(DataW.weightsEach P ts O).all (·<=reachBytes)=true) (G:ts[j]?=some t) (J:O[j]?=some y) :
  ∃x,VRs (start W) (c x) v.cells.toList/\ok x:=by
 obtain⟨fuel,Y⟩:=S;exact h.out Y (fun n hn=>by
  have:=List.all_eq_true.1 E n (DataW.weights_mem_each G J n hn)
  simpa using this)
theorem VR_cell{s:Sit}{v:V}{x:Value}(hc:x.cells=#[x])(h:VRs s [v] x.cells.toList):VR s v x:=by
 rw[hc]at h;unfold VRs at h;obtain⟨y,G,e,E,_⟩:=h;simp only[List.cons.injEq]at e;rw[e.1];exact E
theorem VR_aggv{s:Sit}{vs:List V}{cs:Array Value}(h:VRs s vs (Value.agg cs).cells.toList):VR s (.agg vs) (.agg cs):=by
 unfold VR;exact⟨cs,rfl,h⟩
theorem calls_of_fn{P:Program}{conv:FuncId->Conv}{ext:Ext}(hm:P.follows .mixedOrders=true)(S:Ky P ext){f:FuncId}{args:List V}{E:List Value}{W:World}(Y:Kn (start W))(hv:VRs (start W) args E)(h:fn P conv ext f args=some (.sc (.bool true))) :
  Calls P f E.toArray W (fun e w'=>e= .returned (.bool true)/\Below W.heap.size W w'):=by
 unfold fn at h
 split at h
 .rename_i v G n J
  obtain⟨p,hp,e⟩:=Au h;obtain⟨_,_,YQ⟩:=nC hm S _ _ _ _ _ _ _ J;refine(YQ (start W) E (aeh W Y) (fun _ _ _=>rfl) hv).mono ?_;rintro e' w' ⟨s',x,rfl,rfl,O⟩;refine⟨?_,O.Jk.below⟩;have:=aP O.inv depth v p.1 p.2 x _ hp O.vr (oz s' G p.2);rw[e]at this;unfold VR at this;rw[this.1]
 .cases h
end Go.TV
namespace Go.TV
variable [Known]
theorem nK{α β:Type}{P:Program}(m:Sem α)(f:α->Sem β):uI P (m>>=f)=(uI P m).bind fun a=>uI P (f a):=by
 show uI P (m.bind f)=_
 induction m with
 |pure a=>rfl
 |program k E=>exact E P
 |mark m k E=>exact E
 |_=>rfl
theorem KE{α:Type}{P:Program}(a:α):uI P (pure a:Sem α)=some a:=rfl
theorem nH{P:Program}:uI P program=some P:=rfl
theorem Nh{α:Type}{P:Program}(c:Prop)[Decidable c](a b:Sem α):uI P (if c then a else b)=if c then uI P a else uI P b:=by split<;>rfl
theorem oG{P:Program}{t:TypeId}{d:TypeDesc}(h:P.underlying t=some d):uI P (underlying t)=some d:=by
 unfold underlying;rw[nK,nH];simp only[zi,h];rfl
theorem oJ{P:Program}(d:Nat)(t:TypeId)(k E:IntKind)(a b:Int)(h:P.underlying t=some (.int E)):uI P (Op.equalIn (d+1) t (.int k a) (.int k b))=some (a==b):=by
 unfold Op.equalIn;rw[nK,oG h];simp only[zi,if_true];rfl
theorem Ik{P:Program}(d:Nat)(t:TypeId)(xs E:Array Value)(G:P.underlying t=some (.struct (P.fieldsOf t)))(hp:P.stoodInHeld t=false) :
  uI P (Op.equalIn (d+1) t (.agg xs) (.agg E))=uI P (Op.eqFields d xs E (P.fieldsOf t).toList):=by
 unfold Op.equalIn;rw[nK,oG G];simp only[zi,nK,nH,hp,yL,if_false,KE];rw[<- Array.forIn_toList];generalize (P.fieldsOf t).toList=fs;clear G
 induction fs with
 |nil=>rfl
 |cons f fs J=>
  simp only[List.forIn_cons,Op.eqFields,nK,Nh]
  split
  .cases uI P (part f.type xs f.offset)with
   |none=>rfl
   |some a=>
    cases uI P (part f.type E f.offset)with
    |none=>rfl
    |some b=>
     simp only[zi];cases uI P (Op.equalIn d f.type a b)with
     |none=>rfl
     |some r=>
      cases r
      .rfl
      .exact J
  .exact J
theorem oH {P:Program} {d:Nat} {xs E:Array Value} {f:Field} {fs:List Field} {a b:Value} {r:Bool} (hn:f.name ≠ "_") (ha:uI P (part f.type xs f.offset) = some a) (hb:uI P (part f.type E f.offset) = some b) (G:uI P (Op.equalIn d f.type a b) = some r) :
  uI P (Op.eqFields d xs E (f :: fs))=if r=true then uI P (Op.eqFields d xs E fs)else some false:=by
 conv=>lhs;rw[Op.eqFields]
 rw[sS hn,nK,ha];simp only[zi,nK,hb,G,Nh];cases r<;>rfl
theorem aaH{P:Program}{t:TypeId}{x y:Operand}{cs G:List V}{us vs:List Value}{r:Bool}{fs:Array Field}(hm:P.eqGuardType P.depth t=false)(J:P.underlying t=some (.struct fs))(hp:P.stoodInHeld t=false)
  (hu:Fa cs=some us) (O:Fa G=some vs) (h:uI P (Op.eqFields 9999 us.toArray vs.toArray fs.toList)=some r):Aj P .eql t x y (.agg cs) (.agg G)=some (.sc (.bool r)):=by
 have E:P.fieldsOf t=fs:=by unfold Program.fieldsOf;rw[J]
 have S:uI P (eqGuard .eql t x y (.agg us.toArray) (.agg vs.toArray))=some ():=by
  unfold eqGuard;rw[sW (by simp)];simp only[nK,nH,zi,hm,wu,if_true];rfl
 have Y:uI P (binOp .eql t (.agg us.toArray) (.agg vs.toArray))=some (Value.bool r):=by
  have h1:binOp .eql t (.agg us.toArray) (.agg vs.toArray)=(Op.equal t (.agg us.toArray) (.agg vs.toArray)>>=fun b=>pure (Value.bool b)):=by simp only[binOp]
  have h2:uI P (Op.equal t (.agg us.toArray) (.agg vs.toArray))=some r:=(Ik 9999 t _ _ (by rw[E];exact J) hp).trans (by rw[E];exact h);rw[h1,nK,h2];rfl
 simp only[Aj,toVal,hu,O,zG,nK,S,Y,zi];rfl
end Go.TV
namespace Go.TV
variable [Known]
open Go.RowKit
section
variable {P:Program} {conv:FuncId->Conv} {call:Call}
theorem SX{t e:TypeId}{x y:Operand}{p:Option Addr}{len cap:Nat}(h:P.underlying t=some (.slice e))(w:World) :
  ((do eqGuard .eql t x y (.slice p len cap) (.slice none 0 0);binOp .eql t (.slice p len cap) (.slice none 0 0)):Sem Value).run P w= .ok (.bool p.isNone) w:=by
 refine dY _ ?_ w;rw[nK,eqGuard_at_slice];simp only[KE,zi];have E:binOp .eql t (.slice p len cap) (.slice none 0 0)=(Op.equal t (.slice p len cap) (.slice none 0 0)>>=fun b=>pure (Value.bool b)):=by simp only[binOp]
 rw[E,nK];have G:uI P (Op.equal t (.slice p len cap) (.slice none 0 0))=some p.isNone:=by
  show uI P (Op.equalIn (9999+1) t _ _)=_;unfold Op.equalIn;rw[nK,oG h];simp only[zi];cases p<;>rfl
 rw[G];rfl
theorem mF(hc:DJ P call)(hm:P.follows .mixedOrders=true){f:FuncId}{fn:Func}{A B C D:Code}{id t u:Nat}{o1:Oper}{ty yt E e:TypeId}{ps:String}{af:Array Edge}(hf:P.funcs[f]?=some fn)
  (hb:fn.body=some (.seq A (.seq (.seq (.region id #[o1,⟨some t,.binOp .eql ty (.tmp u) (.const (.slice none 0 0)) yt,E,ps,af,none⟩] false) (.cond (.tmp t) B C)) D)))
  (c2:P.underlying ty=some (.slice e)) {n:Nat} {args:List V}
  (a8:Vt fn (.seq A (.seq (.seq (.region id #[o1,⟨some t,.binOp .eql ty (.tmp u) (.const (.slice none 0 0)) yt,E,ps,af,none⟩] false) (.cond (.tmp t) B C)) D)) args.length=true)
  {σ σ':Store} {nx nx':Nat} {vs:List V} {st1:St} (hA:xI P conv call n A ⟨C9 args,σ,nx⟩=some (.norm,st1)) {T2:Nat->V}
  (hg:o1.guard=none) {v1:V} (h1:AB P conv call o1 st1.T st1.σ st1.nx=some (v1,st1.σ,st1.nx)) (c3:T2=Df st1.T o1.dst v1) {row:List V} {len:Nat} (hu:T2 u= .ts row len)
  (S:∀b:Bool,(b=true->row=[])->∃ex O,xI P conv call n (.seq (.cond (.tmp t) B C) D) ⟨upd T2 t (.sc (.bool b)),st1.σ,st1.nx⟩=some (ex,O)/\(ex= .norm\/ex= .ret)/\Ac P O.T O.σ fn.results.toList=some vs/\O.σ=σ'/\O.nx=nx') :
  Ei P f args σ nx (oneOf vs) σ' nx':=by
 unfold Vt at a8;simp only[zB,decide_eq_true_eq,vU]at a8;obtain⟨⟨a9,e0⟩,a7⟩:=a8;simp only[EM,zB]at a7;obtain⟨c4,⟨c5,c6,c7⟩,c8⟩:=a7;have c9:=o_ hc n A _ _ _ hA;obtain⟨e2,e3,d0,_,_,_,e4⟩:=S false (fun h=>by cases h);have e5:st1.nx<=nx':=by have:=o_ hc n _ _ _ _ d0;simp only at this;omega
 have b4:∀o∈[o1,(⟨some t,.binOp .eql ty (.tmp u) (.const (.slice none 0 0)) yt,E,ps,af,none⟩:Oper)],∀d,o.dst=some d->d<fn.ntmps:=fun o ho d d1=>by
  have:=Array.all_eq_true'.1 c5 o (by simpa using ho);rw[d1]at this
  simpa using this
 refine⟨by simp only at c9;omega,⟨fn,hf,by rw[hb];rfl,a9⟩,fun s d9 hi d2 Y=>?_⟩;have hl:=rW Y;refine calls_of_wp hf hb ?_;refine wp_seq (pU hc hm (nt:=fn.ntmps) (KZ:=nx') (s0:=s) (BJ:=σ) (Gw:=nx) n A ⟨C9 args,σ,nx⟩ st1 .norm _ hA c4 (by omega) (fun s1 a1 b2=>?_) s _
  ⟨hi,ab4 Y _,by simp;omega,rfl,.refl s σ,.refl s nx nx,d2,zq _⟩)
 refine wp_seq (wp_seq (wp_region ?_));show wpOps P _ _ [0,1] a1 s1.w;have hw:∀(o:Oper) (tm:Array Value),o.guard=none->Region.wanted o (yielded #[o1,(⟨some t,.binOp .eql ty (.tmp u) (.const (.slice none 0 0)) yt,E,ps,af,none⟩:Oper)] tm)=true:=fun o tm h=>by unfold Region.wanted;rw[h]
 rw[wpOps_cons];unfold wpOp;rw[show(#[o1,(⟨some t,.binOp .eql ty (.tmp u) (.const (.slice none 0 0)) yt,E,ps,af,none⟩:Oper)])[0]?=some o1 from rfl];simp only[hw o1 _ hg,if_true];refine .inl (MO hc h1 b2.inv b2.tr (fun i h1 h2=>absurd h2 (by omega)) fun s2 x2 d3=>?_);have a0:=b2.step d3 (zq _) (b4 o1 (by simp));rw[<- c3]at a0;generalize a1.put o1.dst x2=a2 at a0⊢;rw[wpOps_cons];unfold wpOp;rw[show(#[o1,(⟨some t,.binOp .eql ty (.tmp u) (.const (.slice none 0 0)) yt,E,ps,af,none⟩:Oper)])[1]?=some ⟨some t,.binOp .eql ty (.tmp u) (.const (.slice none 0 0)) yt,E,ps,af,none⟩from rfl];simp only[hw ⟨some t,.binOp .eql ty (.tmp u) (.const (.slice none 0 0)) yt,E,ps,af,none⟩ _ rfl,if_true];have hx:=a0.tr u;rw[hu]at hx;unfold VR at hx;obtain⟨p,cap,d4,_,b5⟩:=hx;refine .inl (ZR (w':=s2.w) (x:=.bool p.isNone) ?_ ?_)
 .have he:execOp a2.eval ⟨some t,.binOp .eql ty (.tmp u) (.const (.slice none 0 0)) yt,E,ps,af,none⟩=(do pure (.value (<- (do eqGuard .eql ty (.tmp u) (.const (.slice none 0 0)) (a2.tmps.getD u undef) (.slice none 0 0);binOp .eql ty (a2.tmps.getD u undef) (.slice none 0 0)))):Sem Next):=rfl
  rw[he,d4];simp only[Sem.run_bind,Sem.run_pure];have:=SX (P:=P) (x:=.tmp u) (y:=.const (.slice none 0 0)) (p:=p) (len:=len) (cap:=cap) c2 s2.w;simp only[Sem.run_bind]at this;rw[this];rfl
 .obtain⟨ex,O,J,hex,b6,d5,a6⟩:=S p.isNone (fun hp=>by
   rcases b5 with h|⟨k,o,h,_⟩
   .exact h
   .rw[h]at hp;cases hp)
  have G:YU fn.ntmps nx' s σ nx (upd T2 t (.sc (.bool p.isNone))) st1.σ st1.nx s2 (a2.put (some t) (.bool p.isNone)) :=
   a0.step (Out.same a0.inv (by unfold VR;exact⟨rfl,rfl⟩)) (zq _) (b4 ⟨some t,.binOp .eql ty (.tmp u) (.const (.slice none 0 0)) yt,E,ps,af,none⟩ (by simp))
  simp only[wpOps];show Code.wp P (Code.cond (.tmp t) B C) _ _ _;have fin:∀s3 a3,YU fn.ntmps nx' s σ nx O.T O.σ O.nx s3 a3->bodyPost P fn (fun e w'=>∃s' x,s'.w=w'/\e= .returned x/\Out s σ nx s' (oneOf vs) x σ' nx') (Sr ex) a3 s3.w:=fun s3 a3 G=>by
   obtain⟨xs,g1,g2⟩:=fF G.inv G.tr fn.results.toList vs b6;have b7:(results fn a3.tmps).run P s3.w= .ok (if h:xs.toArray.size=1 then xs.toArray[0]else .tuple xs.toArray) s3.w:=by
    rw[MS];have e1:fn.results=fn.results.toList.toArray:=by simp
    rw[e1,List.mapM_toArray];simp only[Sem.run_bind,Sem.run_map,g1,Result.andThen_ok,Sem.run_pure]
   have a4:bodyPost P fn (fun e w'=>∃s' x,s'.w=w'/\e= .returned x/\Out s σ nx s' (oneOf vs) x σ' nx') .normal a3 s3.w:=by
    subst d5 a6;exact⟨G.defers,_,b7,s3,_,rfl,rfl,⟨VB g2,G.inv,G.Jk,G.dom⟩⟩
   rcases hex with rfl|rfl
   .exact a4
   .exact a4
  simp only[xI]at J;have b8:EM fn.ntmps (Code.cond (.tmp t) B C)=true:=by simp only[EM,zB];exact⟨c6,c7⟩
  have a5:∀st e b9,(match val (St.T st) (.tmp t)with| .sc (.bool true)=>xI P conv call n B st| .sc (.bool false)=>xI P conv call n C st|_=>none)=some (e,b9)->xI P conv call n (.cond (.tmp t) B C) st=some (e,b9):=fun _ _ _ h=>h
  split at J
  .rename_i c0 d6
   have d7:=o_ hc n D _ _ _ J;refine pU hc hm (KZ:=nx') n (.cond (.tmp t) B C) ⟨upd T2 t (.sc (.bool p.isNone)),st1.σ,st1.nx⟩ c0 .norm _ (a5 _ _ _ d6) b8 (zL d7 (Nat.le_of_eq a6)) (fun s3 a3 b3=>?_) s2 _ G;exact pU hc hm (KZ:=nx') n D c0 O ex _ J c8 (Nat.le_of_eq a6) fin s3 a3 b3
  .rename_i r d8
   refine pU hc hm (KZ:=nx') n (.cond (.tmp t) B C) ⟨upd T2 t (.sc (.bool p.isNone)),st1.σ,st1.nx⟩ O ex _ (a5 _ _ _ J) b8 (Nat.le_of_eq a6) (fun s3 a3 b3=>?_) s2 _ G;cases ex with
   |norm=>exact absurd J (d8 O)
   |exit id=>rcases hex with h|h<;>cases h
   |ret=>exact fin s3 a3 b3
end
instance (priority:=low) aq6:Known:=⟨[]⟩
end Go.TV
namespace Go.TV
structure Joint where
 name:ByteArray
 x:Int
 y:Int
 fixed:Bool
structure Member where
 a:Int
 b:Int
 kind:Int
structure Structure where
 joints:List Joint
 members:List Member
structure Stance where
 name:ByteArray
 st:Structure
 load:List Int
 limits:List Int
structure Move where
 fr:Int
 to:Int
structure Yard where
 stances:List Stance
 moves:List Move
 strict:Bool
abbrev cI(n:Int):List V:=[I n]
abbrev cJoint(j:Joint):List V:=[Sg j.name,I j.x,I j.y,Bo j.fixed]
abbrev cMember(m:Member):List V:=[I m.a,I m.b,I m.kind]
abbrev LL{α:Type}(c:α->List V)(xs:List α):V:=.ts (xs.flatMap c) xs.length
abbrev LI(xs:List Int):V:=.ts (xs.flatMap cI) xs.length
abbrev cStructure(s:Structure):List V:=[LL cJoint s.joints,LL cMember s.members]
abbrev cStance(t:Stance):List V:=[Sg t.name,LL cJoint t.st.joints,LL cMember t.st.members,LI t.load,LI t.limits]
abbrev cMove(m:Move):List V:=[I m.fr,I m.to]
abbrev cYard(y:Yard):List V:=[LL cStance y.stances,LL cMove y.moves,Bo y.strict]
def okI(n:Int):Prop:=(Lit.int .i64 n).wf=true
def okS(s:ByteArray):Prop:=s.size<=140737488351232
def okL{α:Type}(B:Nat)(ok:α->Prop)(xs:List α):Prop:=(∀x∈xs,ok x)/\xs.length*B<=140737488351232/\xs.length<=maxLen
def okJoint(j:Joint):Prop:=okS j.name/\okI j.x/\okI j.y/\True
def okMember(m:Member):Prop:=okI m.a/\okI m.b/\okI m.kind
def okStructure(s:Structure):Prop:=okL 40 okJoint s.joints/\okL 24 okMember s.members
def okStance(t:Stance):Prop:=okS t.name/\okStructure t.st/\okL 8 okI t.load/\okL 8 okI t.limits
def okMove(m:Move):Prop:=okI m.fr/\okI m.to
def okYard(y:Yard):Prop:=okL 112 okStance y.stances/\okL 16 okMove y.moves/\True
end Go.TV
namespace Go.TV
theorem mM{P:Program}{conv:FuncId->Conv}{ext:Ext}(f:FuncId)(ts:List V):fn P conv ext f ts=(ev P conv ext f ts lI 0).bind fun q=>(strip q.2.1 depth q.1).map (·.1):=by
 unfold fn;cases ev P conv ext f ts lI 0 with
 |none=>rfl
 |some q=>rfl
section
variable (v:Value) (row:List V) (a b c:Nat) (f:FuncId) (vs:List V)
theorem aei:pI (.sc v)=true:=id rfl
theorem aaI:pI .nil=true:=id rfl
theorem aej:pI (.tp row a)=true:=id rfl
theorem aek:pI (.ts row a)=true:=id rfl
theorem ael:pI (.rp a b)=true:=id rfl
theorem aem:pI (.rs a b c)=true:=id rfl
theorem aaJ:pI (.clo f vs)=true:=id rfl
theorem aen:cellsOfV (.agg vs)=some vs:=id rfl
theorem agR:cellsOfV (.sc v)=some [.sc v]:=id rfl
theorem aeo:cellsOfV .nil=some [.nil]:=id rfl
theorem agS:cellsOfV (.tp row a)=some [.tp row a]:=id rfl
theorem agT:cellsOfV (.ts row a)=some [.ts row a]:=id rfl
theorem agU:cellsOfV (.rp a b)=some [.rp a b]:=id rfl
theorem agV:cellsOfV (.rs a b c)=some [.rs a b c]:=id rfl
theorem aep:cellsOfV (.clo f vs)=some [.clo f vs]:=id rfl
theorem Nj(pl:Nat->Option (Nat×Nat))(cells:List V):CS pl cells []=some cells:=rfl
theorem JA(pl:Nat->Option (Nat×Nat))(cells:List V)(i:Nat)(v:V)(rest:List (Nat×V)):CS pl cells ((i,v) :: rest)=(pl i).bind fun p=>(cellsOfV v).bind fun vs=>if vs.length=p.2/\p.1+vs.length<=cells.length then CS pl (patch cells p.1 vs) rest else none:=by
 show(match pl i,cellsOfV v with|some (off,size),some vs=>_|_,_=>none)=_;cases pl i<;>cases cellsOfV v<;>rfl
theorem iE(cells:List V)(off:Nat)(v:V):patch cells off [v]=cells.set off v:=rfl
theorem aer(u:V)(cells:List V)(off:Nat):patch (u :: cells) off []=(u :: cells).take off++[]++(u :: cells).drop (off+0):=rfl
theorem JB(u:V)(cells:List V)(off:Nat)(v w:V)(vs:List V):patch (u :: cells) off (v :: w :: vs)=(u :: cells).take off++(v :: w :: vs)++(u :: cells).drop (off+(v :: w :: vs).length):=rfl
end
attribute [go_sem] aei aaI aej aek ael aem aaJ aen agR aeo agS agT agU agV aep Nj JA iE aer JB
attribute [go_sem] depth zK zT wQ Ai vg List.set_cons_succ zJ wZ yJ Nat.reduceAdd Nat.reduceLT Nat.reduceLeDiff uO vN yX uG yY List.drop_succ_cons List.take_succ_cons List.take_zero Nat.reduceMul uq Nat.one_mul yQ BN
end Go.TV
namespace Go.TV
section
variable {α:Type} {c:α->List V} {s:Nat}
theorem bZ(hc:∀x,(c x).length=s)(xs:List α):(xs.flatMap c).length=xs.length*s:=by
 induction xs with
 |nil=>simp
 |cons x xs E=>rw[zT,zo,E,hc,zJ,xq,wR]
theorem Qo(hc:∀x,(c x).length=s)(xs:List α)(k:Nat):(xs.flatMap c).drop (k*s)=(xs.drop k).flatMap c:=by
 induction xs generalizing k with
 |nil=>simp
 |cons x xs E=>
  cases k with
  |zero=>simp
  |succ k=>
   rw[zT,xq,wR,<- List.drop_drop];rw[show s=(c x).length from(hc x).symm,List.drop_left,hc x,E,List.drop_succ_cons]
theorem d_(hc:∀x,(c x).length=s)(xs:List α)(k:Nat)(h:k<xs.length):((xs.flatMap c).drop (k*s)).take s=c xs[k]:=by
 rw[Qo hc,yU h,zT,show s=(c xs[k]).length from(hc _).symm,List.take_left]
theorem cu(c:α->V)(xs:List α)(k:Nat)(h:k<xs.length):(xs.flatMap fun x=>[c x])[k]?=some (c xs[k]):=by
 induction xs generalizing k with
 |nil=>cases h
 |cons x xs E=>
  cases k with
  |zero=>rfl
  |succ k=>exact E k (by simpa using h)
theorem bg(hc:∀x,(c x).length=s)(hs:0<s)(xs:List α)(k:Nat)(h:k<xs.length):xs.flatMap c≠[]:=by
 intro e;have:=bZ hc xs;rw[e]at this;have E:0<xs.length*s:=Nat.mul_pos (by omega) hs;simp at this;omega
def mix(c:α->List V)(z:List V)(xs:List α)(n k:Nat):List V:=(xs.take k).flatMap c++rep (n-k) z
theorem fM(n:Nat)(z:List V):(rep n z).length=n*z.length:=by simp[rep]
theorem jF(c:α->List V)(z:List V)(xs:List α)(n:Nat):rep n z=mix c z xs n 0:=by simp[mix]
theorem jJ(c:α->List V)(z:List V)(xs:List α):mix c z xs xs.length xs.length=xs.flatMap c:=by simp[mix,rep]
theorem jH(hc:∀x,(c x).length=s){z:List V}(E:z.length=s)(xs:List α)(k:Nat)(h:k<=xs.length):(mix c z xs xs.length k).length=xs.length*s:=by
 unfold mix;rw[zo,bZ hc,fM,E,zh,yA h,<- vO];congr 1;omega
theorem fK(n:Nat)(z:List V):rep (n+1) z=z++rep n z:=by simp[rep,xR]
theorem aes(hc:∀x,(c x).length=s){z:List V}(G:z.length=s)(xs:List α)(k:Nat)(h:k<xs.length) :
  (mix c z xs xs.length k).take (k*s)++c xs[k]++(mix c z xs xs.length k).drop (k*s+s)=mix c z xs xs.length (k+1):=by
 have E:((xs.take k).flatMap c).length=k*s:=by rw[bZ hc,zh,yA (by omega)]
 have J:xs.length-k=(xs.length - (k+1))+1:=by omega
 unfold mix;rw[xM E,<- List.drop_drop,List.drop_left' E,J,fK,List.drop_left' G,yN,zy h];simp only[zU,Option.toList_some,zT,wQ,zK,z_]
theorem jG(hc:∀x,(c x).length=s){z:List V}(E:z.length=s)(xs:List α)(k:Nat)(h:k<xs.length) :
  patch (mix c z xs xs.length k) (k*s) (c xs[k])=mix c z xs xs.length (k+1):=by
 have J:=aes hc E xs k h;have O:∀(cells:List V) (off:Nat) (vs:List V),vs.length=s->(s=1->off<cells.length)->patch cells off vs=cells.take off++vs++cells.drop (off+s):=by
  intro cells off vs G hs;unfold patch
  split
  .rename_i v
   have:s=1:=by simpa using G.symm
   subst this;rw[uJ,sS (hs rfl)];simp
  .rw[G]
 rw[O _ _ _ (hc _) (fun e=>?_),J];rw[jH hc E xs k (by omega),e];omega
theorem akJ{c:α->V}{z:V}(xs:List α)(k:Nat)(h:k<xs.length) :
  (mix (fun x=>[c x]) [z] xs xs.length k).set k (c xs[k])=mix (fun x=>[c x]) [z] xs xs.length (k+1):=by
 have:=jG (c:=fun x=>[c x]) (s:=1) (fun _=>rfl) (z:=[z]) rfl xs k h
 rwa [yQ]at this
theorem bC(f:V->Option (V×List Nat))(a b:List V)(ha:stripL f a=some (a,[]))(hb:stripL f b=some (b,[])):stripL f (a++b)=some (a++b,[]):=by
 induction a with
 |nil=>exact hb
 |cons v a ih=>
  rw[au]at ha;rw[yT,au];cases G:f v with
  |none=>rw[G]at ha;cases ha
  |some p=>
   rw[G]at ha;cases E:stripL f a with
   |none=>rw[E]at ha;cases ha
   |some q=>
    rw[E]at ha;simp only[zi,zG,su,sZ,List.cons.injEq,List.append_eq_nil_iff]at ha;obtain⟨⟨J,O⟩,S,Y⟩:=ha;obtain⟨p1,p2⟩:=p;obtain⟨q1,q2⟩:=q;simp only at J O S Y;subst J O S Y;rw[ih E];simp
theorem aY{f:V->Option (V×List Nat)}(h:∀x,stripL f (c x)=some (c x,[]))(xs:List α):stripL f (xs.flatMap c)=some (xs.flatMap c,[]):=by
 induction xs with
 |nil=>rfl
 |cons x xs E=>rw[zT];exact bC f _ _ (h x) E
end
section
variable {P:Program} {t:TypeId} {x y:Operand}
theorem akK{a b:ByteArray}:Aj P .eql t x y (.sc (.string a)) (.sc (.string b))=some (.sc (.bool (a.toList==b.toList))):=by
 simp only[Aj,toVal,eqGuard_at_string,binOp_string_eql];rfl
theorem akL{a b:ByteArray}:Aj P .neq t x y (.sc (.string a)) (.sc (.string b))=some (.sc (.bool !(a.toList==b.toList))):=by
 simp only[Aj,toVal,eqGuard_at_string,binOp_string_neq];rfl
theorem nJ{a b:Bool}(h:P.underlying t=some .bool)(f:Bool->Value):uI P ((Op.equal t (.bool a) (.bool b)).bind fun r=>pure (f r))=some (f (a==b)):=by
 show uI P ((Op.equalIn (9999+1) t _ _).bind fun r=>pure (f r))=_;unfold Op.equalIn underlying;show uI P (.program fun p=>_)=_;simp only[uI];have pb:∀ {β E:Type} (a:β) (f:β->Sem E),(Sem.pure a).bind f=f a:=fun _ _=>rfl
 have G:∀ {β E:Type} (a:β) (f:β->Sem E),(pure a:Sem β).bind f=f a:=fun _ _=>rfl
 simp only[h,pb,G];rfl
theorem akM{a b:Bool}(h:P.underlying t=some .bool):Aj P .eql t x y (.sc (.bool a)) (.sc (.bool b))=some (.sc (.bool (a==b))):=by
 simp only[Aj,toVal,eqGuard_at_bool,pure_bind,binOp];first|(erw[nJ h (fun r=> .bool r)];rfl)|(erw[nJ h (fun r=> .bool !r)];rfl)
theorem akN{a b:Bool}(h:P.underlying t=some .bool):Aj P .neq t x y (.sc (.bool a)) (.sc (.bool b))=some (.sc (.bool !(a==b))):=by
 simp only[Aj,toVal,eqGuard_at_bool,pure_bind,binOp];first|(erw[nJ h (fun r=> .bool r)];rfl)|(erw[nJ h (fun r=> .bool !r)];rfl)
end
attribute [go_sem] akK akL akM akN bne_self_eq_false BEq.rfl
theorem pF{body:St->Option (Ex×St)}{G:St}{x:Option (Ex×St)}(S:dI body G=x)(N:Nat)(J:Nat->St->Prop)(post:Ex×St->Prop)
  (step:∀k st,k<N->J k st->(∃E,body st=some (.norm,E)/\J (k+1) E)\/(∃r,body st=some r/\(∀s,r≠(.norm,s))/\post r))
  (last:∀st,J N st->∃r,body st=some r/\(∀s,r≠(.norm,s))/\post r) (h0:J 0 G):∃r,x=some r/\post r:=by
 refine jV S (fun n st=>n<=N/\J (N-n) st) post ?_ N ⟨zq _,by rwa [yP]⟩;rintro n st ⟨hn,O⟩;cases n with
 |zero=>exact .inr (last st O)
 |succ n=>
  rcases step _ st (by omega) O with ⟨E,Y,h2⟩|h
  .exact .inl ⟨E,Y,n,by omega,by omega,by rwa [show N-n=N - (n+1)+1 by omega]⟩
  .exact .inr h
theorem Zh{α:Type}(σ:Nat->α)(b:Nat)(x y:α):upd (upd σ b x) b y=upd σ b y:=by
 funext i;unfold upd
 split<;>rfl
theorem aoi:(false==true)=false:=id rfl
theorem aoj:(true==false)=false:=id rfl
attribute [go_sem] aoi aoj Option.map_none Zh List.isEmpty_nil Int.cast_ofNat_Int zF
theorem WB{P:Program}{t:TypeId}{lo hi:Option V}{σ:Store}(h:(yI P t).slice=true)(E:(yI P t).Pj=true):AQ P t .nil lo hi none σ=(bnd lo 0).bind fun l=>(bnd hi 0).bind fun h=>if l<=h/\h<=0 then some .nil else none:=by
 obtain⟨e,O,z,G,J,S,Y,h5,h6,h7⟩:=Zl h E;unfold AQ;simp only[G,J];cases bnd lo 0<;>cases bnd hi 0<;>rfl
theorem akO(σ:Store)(s:Nat):rowOf σ s .nil=some ([],0):=rfl
theorem aok(σ:Store)(s:Nat)(row:List V)(len:Nat):rowOf σ s (.ts row len)=if row.length=len*s then some (row,len)else none:=rfl
theorem aol(σ:Store)(s b off len:Nat):rowOf σ s (.rs b off len)=(σ b).bind fun B=>if off+len*s<=B.cells.length then some ((B.cells.drop off).take (len*s),len)else none:=by
 show(match σ b with|some B=>_|none=>none)=_;cases σ b<;>rfl
theorem rE(σ:Store)(nx size bytes:Nat)(row:List V)(m:Nat):Ad σ nx size bytes .nil row m=if m=0 then some (.nil,σ,nx)else if m<=maxLen/\m*bytes<=140737488355328 then some (.rs nx 0 m,Ai σ nx row size,nx+1)else none:=rfl
theorem rH{σ:Store}{nx bytes b len m:Nat}{B:E_}{row:List V}(hb:σ b=some B)(E:B.cells.length=len)(hs:B.st=1)(hm:m≠0)(G:len+m<=maxLen)(J:(len+m)*bytes<=140737488355328)(O:row.all pI=true) :
  Ad σ nx 1 bytes (.rs b 0 len) row m=some (.rs nx 0 (len+m),upd (upd σ b none) nx (some ⟨B.cells++row,1,B.wr⟩),nx+1):=by
 unfold Ad;simp only[hb,hm,if_false,E,hs,G,J,O];rw[sW (by omega),sS (by simp)];simp
theorem S9:¬(1000000000:Int)=0:=by decide
attribute [go_sem] S9
theorem iW{P:Program}{conv:FuncId->Conv}{call:Call}(d:Option Tmp)(ty:TypeId)(ps:String)(E:Array Edge)(G:Option (Nat×Bool))(T:Nat->V)(σ:Store)(nx:Nat)(t:TypeId)(h:(yI P t).slice=true)(J:(yI P t).Pj=true):AB P conv call ⟨d,.buildSlice t 0 #[],ty,ps,E,G⟩ T σ nx=some (.nil,σ,nx):=by
 rw[iY d ty ps E G T σ nx t 0 #[] (by rfl)];have:=oC (P:=P) (t:=t) (len:=0) (parts:=([]:List (Nat×V))) (σ:=σ) (nx:=nx) h J
 simpa using this
theorem iV{P:Program}{conv:FuncId->Conv}{call:Call}(d:Option Tmp)(ty:TypeId)(ps:String)(G:Array Edge)(J:Option (Nat×Bool))(T:Nat->V)(σ:Store)(nx:Nat)(t:TypeId)(x:Operand)(h:(yI P t).slice=true)(S:(yI P t).Pj=true)(hs:(yI P t).GY=1)(Y:(yI P t).Ed.length=1)(hc:pI (val T x)=true) :
  AB P conv call ⟨d,.buildSlice t 1 #[(0,x)],ty,ps,G,J⟩ T σ nx=some (.rs nx 0 1,upd σ nx (some ⟨[val T x],1,true⟩),nx+1):=by
 rw[iY d ty ps G J T σ nx t 1 _ (by rfl),oC h S,sW (by decide),hs,sS (by decide)];have hv:cellsOfV (val T x)=some [val T x]:=by generalize val T x=v at *;cases v<;>simp_all [cellsOfV,pI]
 have O:(rep 1 (yI P t).Ed).length=1:=by rw[fM,Y]
 have E:(rep 1 (yI P t).Ed).set 0 (val T x)=[val T x]:=by
  generalize rep 1 (yI P t).Ed=l at *
  match l,O with
  |[a],_=>rfl
 show(match CS (fun j=>some (j*1,1)) (rep 1 (yI P t).Ed) [(0,val T x)]with|some cells=>some (V.rs nx 0 1,Ai σ nx cells 1,nx+1)|none=>none)=_;rw[JA];simp only[zi,hv,yM,O,uq,yX,zq,and_self,if_true,iE,E,Nj];rfl
attribute [go_sem] iW iV WB akO aok aol rE Nat.sub_zero List.isEmpty_cons
def Grow(T:Nat->V)(σ:Store)(nx t:Nat)(acc:List Int):Prop:=(T t= .nil/\acc=[])\/∃b,T t= .rs b 0 acc.length/\acc≠[]/\σ b=some ⟨acc.flatMap cI,1,true⟩/\b<nx
theorem iq:1<=maxLen:=by decide
attribute [go_sem] iq
theorem qR(xs:List Int):(xs.flatMap cI).length=xs.length:=by rw[bZ (c:=cI) (s:=1) (fun _=>rfl),yQ]
theorem kU{T:Nat->V}{σ:Store}{nx t:Nat}{acc:List Int}(G:Grow T σ nx t acc)(x:Int)(S:acc.length<17592186044415) :
  ∃σ',Ad (upd σ nx (some ⟨[I x],1,true⟩)) (nx+1) 1 8 (T t) [I x] 1=some (.rs (nx+1) 0 (acc.length+1),σ',nx+1+1)/\σ' (nx+1)=some ⟨(acc++[x]).flatMap cI,1,true⟩:=by
 have hm:acc.length+1<=maxLen:=by unfold maxLen;omega
 rcases G with ⟨E,rfl⟩|⟨b,E,J,hb,O⟩
 .refine⟨_,by rw[E,rE,sW (by decide),sS (by decide)];rfl,?_⟩
  simp[Ai,upd]
 .refine⟨_,by rw[E,rH (B:=⟨acc.flatMap cI,1,true⟩) (by rw[Zk];exact hb) (qR acc) rfl (by decide) hm (by omega) rfl],?_⟩
  simp[upd]
theorem kR{T:Nat->V}{σ':Store}{nx t:Nat}{acc:List Int}(h:σ' (nx+1)=some ⟨acc.flatMap cI,1,true⟩)(G:T t= .rs (nx+1) 0 acc.length)(E:acc≠[]):Grow T σ' (nx+1+1) t acc:=.inr ⟨nx+1,G,E,h,by omega⟩
theorem kS{T T':Nat->V}{σ:Store}{nx t E:Nat}{acc:List Int}(h:T' E=T t)(G:Grow T σ nx t acc):Grow T' σ nx E acc:=by
 unfold Grow at *;rw[h];exact G
theorem WC(f:V->Option (V×List Nat))(h:∀n,f (I n)=some (I n,[]))(xs:List Int):stripL f (xs.flatMap cI)=some (xs.flatMap cI,[]) :=
 aY (fun x=>by rw[au,h,aZ];rfl) xs
theorem kQ{T:Nat->V}{σ:Store}{nx t:Nat}{acc:List Int}(G:Grow T σ nx t acc)(d:Nat):∃ids,strip σ (d+1) (T t)=some (LI acc,ids):=by
 rcases G with ⟨E,rfl⟩|⟨b,E,J,hb,O⟩
 .exact⟨[],by rw[E,aT];rfl⟩
 .refine⟨[b],?_⟩
  .rw[E,aS,hb]
   simp only[zi,qR,yQ,yX,zq,if_true,yY];rw[zk (by rw[qR];exact zq _),WC _ (fun n=>aQ _ _ _)];rfl
theorem qO(xs:List Int):(xs.flatMap cI).take xs.length=xs.flatMap cI:=zk (by rw[qR];exact zq _)
theorem Dp(σ:Store)(d:Nat)(xs:List Int):stripL (strip σ d) (xs.flatMap cI)=some (xs.flatMap cI,[]):=WC _ (fun n=>aQ _ _ _) xs
theorem qU(xs:List Int):(xs.flatMap cI).all pI=true:=by
 induction xs with
 |nil=>rfl
 |cons x xs E=>rw[zT];simp[pI]
attribute [go_sem] yD qR qO Dp qU zq
theorem Nk{P:Program}{conv:FuncId->Conv}{call:Call}(d:Option Tmp)(ty:TypeId)(ps:String)(G:Array Edge)(J:Option (Nat×Bool))(T:Nat->V)(σ:Store)(nx:Nat)(t:TypeId)(x y z:Operand)(h:(yI P t).slice=true)(O:(yI P t).Pj=true)(hs:(yI P t).GY=1)(S:(yI P t).Ed.length=1)(Y:pI (val T x)=true)(hy:pI (val T y)=true)(hw:pI (val T z)=true) :
  AB P conv call ⟨d,.buildSlice t 3 #[(0,x),(1,y),(2,z)],ty,ps,G,J⟩ T σ nx=some (.rs nx 0 3,upd σ nx (some ⟨[val T x,val T y,val T z],1,true⟩),nx+1):=by
 rw[iY d ty ps G J T σ nx t 3 _ (by rfl),oC h O,sW (by decide),hs,sS (by decide)];have E:∀v,pI v=true->cellsOfV v=some [v]:=by intro v E;cases v<;>simp_all [cellsOfV,pI]
 have hr:(rep 3 (yI P t).Ed).length=3:=by rw[fM,S]
 obtain⟨a,b,c,e⟩:∃a b c,rep 3 (yI P t).Ed=[a,b,c]:=by
  generalize rep 3 (yI P t).Ed=l at *
  match l,hr with
  |[a,b,c],_=>exact⟨a,b,c,rfl⟩
 show(match CS (fun j=>some (j*1,1)) (rep 3 (yI P t).Ed) [(0,val T x),(1,val T y),(2,val T z)]with|some cells=>some (V.rs nx 0 3,Ai σ nx cells 1,nx+1)|none=>none)=_;rw[e];simp[JA,Nj,E _ Y,E _ hy,E _ hw,iE,Ai]
attribute [go_sem] Nk
theorem agW{P:Program}(T:Nat->V)(σ:Store)(t:Tmp)(r:ResultVar)(rs:List ResultVar):Ac P T σ (.tmp t :: r :: rs)=(Ac P T σ (r :: rs)).map fun vs=>T t :: vs:=by
 rw[Ac];cases Ac P T σ (r :: rs)<;>rfl
theorem aeu{P:Program}(T:Nat->V)(σ:Store)(a:Tmp)(t:TypeId)(r:ResultVar)(rs:List ResultVar):Ac P T σ (.cell a t :: r :: rs)=(AV P σ t (T a)).bind fun v=>(Ac P T σ (r :: rs)).map fun vs=>v :: vs:=by
 rw[Ac];cases AV P σ t (T a)<;>cases Ac P T σ (r :: rs)<;>rfl
attribute [go_sem] agW aeu
theorem JC{P:Program}{s e:TypeId}{G E k:IntKind}{n:Int}{σ:Store}(hs:P.underlying s=some (.int G))(J:P.underlying e=some (.int E)):Bj P s e (.sc (.int k n)) σ=some (.sc (.int E (E.wrap n))):=by
 have h:uI P (convert s e (.int k n))=some (.int E (E.wrap n)):=by
  unfold convert;rw[nK,oG hs];simp only[zi];rw[nK,oG J];rfl
 simp only[Bj,toVal,h,zi];rfl
theorem ZP{n:Int}(J:0<=n)(O:n<=18446744073709551615):IntKind.u64.wrap n=n:=by
 unfold IntKind.wrap;have E:IntKind.u64.signed=false:=by decide
 have G:IntKind.u64.bits=64:=by decide
 simp only[E,G,wE];rw[sW (by simp)];omega
def aev(a:Int):Int:=((BitVec.ofInt 64 a &&& BitVec.ofInt 64 255).toNat:Nat)
theorem Nl(a:Int):0<=aev a/\aev a<=255:=by
 unfold aev;rw[BitVec.toNat_and];have h:(BitVec.ofInt 64 255).toNat=255:=by decide
 rw[h];have:=Nat.and_le_right (n:=(BitVec.ofInt 64 a).toNat) (m:=255);omega
def ayb(a b:Int):Int:=IntKind.i64.wrap ((BitVec.ofInt 64 a^^^BitVec.ofInt 64 b).toNat:Nat)
section
variable {P:Program} {t:TypeId} {x y:Operand}
theorem aew{a:Int}:Aj P .and t x y (.sc (.int .i64 a)) (.sc (.int .i64 255))=some (.sc (.int .i64 (aev a))):=by
 have h:(Op.intBits .and .i64 a 255)=(pure (.int .i64 (aev a)):Sem Value):=by
  show(pure (.int .i64 (IntKind.i64.wrap (aev a))):Sem Value)=_;rw[ZQ (by have:=Nl a;omega) (by have:=Nl a;omega)]
 simp only[Aj,toVal,eqGuard_at_int,binOp_and,h];rfl
theorem aom{a b:Int}:Aj P .xor t x y (.sc (.int .i64 a)) (.sc (.int .i64 b))=some (.sc (.int .i64 (ayb a b))):=by
 simp only[Aj,toVal,eqGuard_at_int,binOp_xor];rfl
theorem aon{k E:IntKind}{a n:Int}(h:¬n<0):Aj P .shr t x y (.sc (.int k a)) (.sc (.int E n))=some (.sc (.int k (a.fdiv (2^min n.toNat k.bits)))):=by
 have hs:Op.shift .shr k a E n=(pure (.int k (a.fdiv (2^min n.toNat k.bits))):Sem Value):=by
  unfold Op.shift;rw[sW h]
 simp only[Aj,toVal,eqGuard_at_int,binOp_shr,hs];rfl
end
def ayc(a b:Int):Int:=IntKind.i64.wrap ((BitVec.ofInt 64 a &&& BitVec.ofInt 64 b).toNat:Nat)
theorem aoo{P:Program}{t:TypeId}{x y:Operand}{a b:Int}:Aj P .and t x y (.sc (.int .i64 a)) (.sc (.int .i64 b))=some (.sc (.int .i64 (ayc a b))):=by
 simp only[Aj,toVal,eqGuard_at_int,binOp_and];rfl
attribute [go_sem] aew aom aon
attribute [go_sem low] aoo
def agX:V->Bool
 | .sc _=>true
 |_=>false
theorem akP(v:Value):agX (.sc v)=true:=id rfl
theorem WE{P:Program}{conv:FuncId->Conv}{call:Call}(d:Option Tmp)(ty:TypeId)(ps:String)(G:Array Edge)(J:Option (Nat×Bool))(T:Nat->V)(σ:Store)(nx:Nat)(s e:TypeId)(x:Operand)(E:agX (val T x)=true) :
  Ag P conv call ⟨d,.convert s e x,ty,ps,G,J⟩ T σ nx=(Bj P s e (val T x) lI).map (·,σ,nx):=by
 obtain⟨u,hu⟩:∃u,val T x= .sc u:=by
  cases O:val T x<;>rw[O]at E<;>first|exact⟨_,rfl⟩|cases E
 refine iZ T σ nx (by show some (vI (val T x))=some [];rw[hu];rfl) fun σ=>?_
 show(Bj P s e (val T x) σ).map _=_;rw[hu];rfl
attribute [go_sem] akP WE
theorem bF{b:Option (Ex×St)}{J:St->Prop}{post:Ex×St->Prop}(h:∃x,b=some x/\((∃E,x=(.norm,E)/\J E)\/((∀s,x≠(.norm,s))/\post x))):(∃E,b=some (.norm,E)/\J E)\/(∃r,b=some r/\(∀s,r≠(.norm,s))/\post r):=by
 obtain⟨x,rfl,⟨E,rfl,h⟩|⟨G,O⟩⟩:=h
 .exact .inl ⟨E,rfl,h⟩
 .exact .inr ⟨x,rfl,G,O⟩
theorem akQ{P:Program}{conv:FuncId->Conv}{call:Call}{d:Option Tmp}{ty:TypeId}{ps:String}{E:Array Edge}{G:Option (Nat×Bool)}{T:Nat->V}{σ:Store}{nx:Nat}{g:FuncId}(h:conv g= .inl)(args:Array Operand)(ts:Array TypeId) :
  Ag P conv call ⟨d,.call ⟨.value (.func g),args,ts⟩,ty,ps,E,G⟩ T σ nx=if(((args.toList.map (val T)).flatMap Ec).all fun b=>decide (b<nx))=true then
   (call g (args.toList.map (val T)) (restrict σ ((args.toList.map (val T)).flatMap Ec)) nx).map fun r=>(r.1,wI ((args.toList.map (val T)).flatMap Ec) nx r.2.2 σ r.2.1,r.2.2)else none:=by
 have J:Dx conv T σ (⟨d,.call ⟨.value (.func g),args,ts⟩,ty,ps,E,G⟩:Oper)=some ((args.toList.map (val T)).flatMap Ec):=by
  simp only[Dx,val,h,wQ,zK]
 rw[nT T σ nx J (fun v=>by simp only[keeps,val,h])]
 split
 .have e:=LK (P:=P) (conv:=conv) (call:=call) d ty ps E G T (restrict σ ((args.toList.map (val T)).flatMap Ec)) nx (.func g) args ts
  rw[e];simp only[val,qK,zK,qJ h];cases call g (args.toList.map (val T)) (restrict σ ((args.toList.map (val T)).flatMap Ec)) nx<;>rfl
 .rfl
theorem arU{conv:FuncId->Conv}{d:Option Tmp}{ty:TypeId}{ps:String}{E:Array Edge}{G:Option (Nat×Bool)}{g:FuncId}(h:conv g= .inl)(args:Array Operand)(ts:Array TypeId):writer conv ⟨d,.call ⟨.value (.func g),args,ts⟩,ty,ps,E,G⟩=true:=by unfold writer;simp only[h]
theorem agY{conv:FuncId->Conv}{d:Option Tmp}{ty:TypeId}{ps:String}{E:Array Edge}{G:Option (Nat×Bool)}{T:Nat->V}{σ:Store}{g:FuncId}(h:conv g= .inl)(args:Array Operand)(ts:Array TypeId):Aa conv T σ ⟨d,.call ⟨.value (.func g),args,ts⟩,ty,ps,E,G⟩=(args.toList.map (val T)).flatMap Ec:=by
 simp only[Aa,Dx,val,h,wQ,zK,xK]
theorem agZ(v:Value):Ec (.sc v)=[]:=rfl
theorem ag0(b off:Nat):Ec (.rp b off)=[b]:=rfl
theorem ag1(b off len:Nat):Ec (.rs b off len)=[b]:=rfl
theorem ag2(row:List V)(len:Nat):Ec (.ts row len)=[]:=rfl
theorem ag3(row:List V)(off:Nat):Ec (.tp row off)=[]:=rfl
theorem aex:Ec .nil=[]:=rfl
theorem aey(vs:List V):Ec (.agg vs)=vs.flatMap vI:=rfl
theorem fH(σ:Store)(b:Nat):restrict σ [b] b=σ b:=by unfold restrict;simp
theorem PE(σ:Store)(b nx:Nat)(x:Option E_):wI [b] nx nx σ (upd (restrict σ [b]) b x)=upd σ b x:=by
 funext i;unfold wI upd restrict
 by_cases h:i=b
 .simp[h]
 .rw[sW (by simp only[xC,h,false_or];omega),sW h]
attribute [go_sem] akQ arU agY agZ ag0 ag1 ag2 ag3 aex aey fH PE
theorem ig{P:Program}{conv:FuncId->Conv}{call:Call}{d:Option Tmp}{ty:TypeId}{ps:String}{E:Array Edge}{G:Option (Nat×Bool)}{T:Nat->V}{σ:Store}{nx:Nat}(a x:Operand)(t u:TypeId) :
  Ag P conv call ⟨d,.call ⟨.builtin .append,#[a,x],#[t,u]⟩,ty,ps,E,G⟩ T σ nx=if((vI (val T a)++vI (val T x)).all fun b=>decide (b<nx))=true then
   (DL P #[t,u] (val T a) (val T x) (restrict σ (vI (val T a)++vI (val T x))) nx).map fun r=>(r.1,wI (vI (val T a)++vI (val T x)) nx r.2.2 σ r.2.1,r.2.2)else none:=by
 have J:Dx conv T σ (⟨d,.call ⟨.builtin .append,#[a,x],#[t,u]⟩,ty,ps,E,G⟩:Oper)=some (vI (val T a)++vI (val T x)):=by
  simp[Dx]
 rw[nT T σ nx J (fun v=>rfl)]
 split
 .rw[Ql]
  cases DL P #[t,u] (val T a) (val T x) (restrict σ (vI (val T a)++vI (val T x))) nx<;>rfl
 .rfl
theorem Np{conv:FuncId->Conv}{d:Option Tmp}{ty:TypeId}{ps:String}{E:Array Edge}{G:Option (Nat×Bool)}(args:Array Operand)(ts:Array TypeId):writer conv ⟨d,.call ⟨.builtin .append,args,ts⟩,ty,ps,E,G⟩=true:=id rfl
theorem mJ{conv:FuncId->Conv}{d:Option Tmp}{ty:TypeId}{ps:String}{E:Array Edge}{G:Option (Nat×Bool)}{T:Nat->V}{σ:Store}(a x:Operand)(ts:Array TypeId):Aa conv T σ ⟨d,.call ⟨.builtin .append,#[a,x],ts⟩,ty,ps,E,G⟩=vI (val T a)++vI (val T x):=by
 simp[Aa,Dx]
theorem K_{P:Program}{conv:FuncId->Conv}{call:Call}(d:Option Tmp)(ty:TypeId)(ps:String)(E:Array Edge)(G:Option (Nat×Bool))(T:Nat->V)(σ:Store)(nx:Nat)(t:TypeId)(h:(yI P t).slice=true)(J:(yI P t).Pj=true):Ag P conv call ⟨d,.buildSlice t 0 #[],ty,ps,E,G⟩ T σ nx=some (.nil,σ,nx) :=
 LM T σ nx rfl fun σ=>iW d ty ps E G T σ nx t h J
theorem S_{conv:FuncId->Conv}{d:Option Tmp}{ty:TypeId}{ps:String}{E:Array Edge}{G:Option (Nat×Bool)}(t:TypeId)(n:Nat)(parts:Array (Nat×Operand)):writer conv ⟨d,.buildSlice t n parts,ty,ps,E,G⟩=false:=id rfl
theorem La{conv:FuncId->Conv}{d:Option Tmp}{ty:TypeId}{ps:String}{E:Array Edge}{G:Option (Nat×Bool)}{T:Nat->V}{σ:Store}(t:TypeId)(n:Nat)(parts:Array (Nat×Operand)):Aa conv T σ ⟨d,.buildSlice t n parts,ty,ps,E,G⟩=[]:=rfl
theorem aez(σ:Store)(nx:Nat)(x:Option E_):wI [] nx (nx+1) σ (upd (restrict σ []) nx x)=upd σ nx x:=by
 funext i;unfold wI upd restrict
 by_cases h:i=nx
 .simp[h]
 .rw[sW (by simp only[zH,false_or];omega),sW h]
attribute [go_sem] ig Np mJ K_ S_ La aez iH zK
theorem Nq:∀(ids:List Nat) (σ:Store) (b:Nat),ids.contains b=false->Dc σ ids b=σ b
 |[],σ,b,_=>rfl
 |i :: ids,σ,b,h=>by
  rw[tN,uM]at h;have E:b≠i:=by simpa using h.1
  unfold Dc;rw[Nq ids _ b h.2,Zj _ _ E]
theorem qm{σ:Store}{ids:List Nat}{t:V}{b:Nat}(h:ids.contains b=false):behind σ ids t b=σ b:=by
 unfold behind
 split
 .rfl
 .exact Nq ids σ b h
attribute [go_sem] qm
end Go.TV
namespace Go.TV
theorem akR{P:Program}{t:TypeId}{x y:Operand}{a b:ByteArray}(h:a.size+b.size<=9223372036854775807):Aj P .add t x y (.sc (.string a)) (.sc (.string b))=some (.sc (.string (a++b))):=by
 have hm:IntKind.i64.max=9223372036854775807:=rfl;have:Op.stringOp .add a b=(pure (.string (a++b)):Sem Value):=by
  unfold Op.stringOp;rw[sW (by rw[hm];omega)]
 simp only[Aj,toVal,eqGuard_add];show(uI P (Op.stringOp .add a b)).bind _=_;rw[this];rfl
theorem aeA:BO []=some []:=rfl
theorem aaK(n:Int)(vs:List V):BO (.sc (.int .u8 n) :: vs)=if 0<=n/\n<256 then(BO vs).map (UInt8.ofNat n.toNat :: ·)else none:=rfl
theorem aop{P:Program}{t:TypeId}(h:(yI P t).u8=true):∃e i,P.underlying t=some (.slice e)/\P.underlying e=some (.int .u8)/\P.info? e=some i/\i.size=1:=by
 unfold yI at h;cases hi:P.info? t with
 |none=>simp[hi]at h
 |some i=>
  cases J:P.underlying t with
  |none=>simp[hi,J]at h
  |some d=>
   simp only[hi,J]at h;cases d<;>simp at h;rename_i e;obtain⟨O,E⟩:=h;have S:P.underlying e=some (.int .u8):=by
    revert O
    cases P.underlying e with
    |none=>simp
    |some d=>cases d<;>simp;rename_i k;cases k<;>simp
   cases G:P.info? e with
   |none=>simp[G]at E
   |some j=>simp[G]at E;exact⟨e,j,rfl,S,G,E⟩
theorem arV{P:Program}{s d:TypeId}(hs:(yI P s).u8=true)(E:(yI P d).str=true)(b off len:Nat)(σ:Store):Bj P s d (.rs b off len) σ=(rowOf σ 1 (.rs b off len)).bind fun p=>(BO p.1).map fun l=> .sc (.string ⟨l.toArray⟩):=by
 obtain⟨e,i,G,J,O,S⟩:=aop hs;unfold Bj;simp only[toVal,G,LJ E,J,O,S,if_true];cases rowOf σ 1 (.rs b off len)with
 |none=>rfl
 |some p=>obtain⟨r,n⟩:=p;rfl
attribute [go_sem] akR aeA aaK arV
def mTd(n:Nat)(acc:ByteArray):ByteArray:=if h:n=0 then acc else mTd (n / 10) (⟨#[UInt8.ofNat (48+n%10)]⟩++acc)
termination_by n
decreasing_by omega
def mT(n:Nat):ByteArray:=⟨#[109]⟩++mTd n ⟨#[]⟩
theorem WG(a b:ByteArray):(a++b).size=a.size+b.size:=ByteArray.size_append
theorem ag5(n:Nat)(acc:ByteArray):(mTd n acc).size<=acc.size+n:=by
 fun_induction mTd n acc with
 |case1=>omega
 |case2 n acc h E=>
  rw[WG]at E;have:(⟨#[UInt8.ofNat (48+n%10)]⟩:ByteArray).size=1:=rfl;omega
end Go.TV
namespace Go.Proofs.YtehdaknhabeiaaaGreat
open Go Go.TV
instance known0:Known:=⟨[]⟩
theorem kn0(W:World):Kn (TV.start W):=fun p hp=>absurd hp zH
def conv:FuncId->Conv:=fun f=>if f∈([]:List Nat)then .own else if f∈([]:List Nat)then .inl else .Jo
abbrev gI(n:Nat):Prop:=conv n= .Jo
theorem arW:gI 6/\gI 8/\gI 9/\gI 10/\gI 11/\gI 12/\gI 13/\gI 14/\gI 15/\gI 17/\gI 18/\gI 20/\gI 21/\gI 24/\gI 25/\gI 26/\gI 27/\gI 28/\gI 31/\gI 32/\gI 33/\gI 34/\gI 35/\gI 36:=by and_intros<;>exact rfl
theorem arX:gI 37/\gI 38/\gI 39/\gI 40/\gI 41/\gI 42/\gI 43/\gI 44/\gI 45/\gI 46/\gI 47/\gI 48/\gI 49/\gI 51/\gI 52/\gI 53/\gI 54/\gI 56/\gI 57/\gI 58/\gI 59/\gI 60/\gI 61/\gI 62:=by and_intros<;>exact rfl
theorem arY:gI 63/\gI 64/\gI 65/\gI 66/\gI 67/\gI 68/\gI 69/\gI 70/\gI 71/\gI 72/\gI 73/\gI 74/\gI 75/\gI 76/\gI 77/\gI 78/\gI 79/\gI 80/\gI 81/\gI 82/\gI 83/\gI 84/\gI 85/\gI 86:=by and_intros<;>exact rfl
theorem arZ:gI 87/\gI 88/\gI 89/\gI 90/\gI 91/\gI 92/\gI 93/\gI 94/\gI 95/\gI 96/\gI 97/\gI 98/\gI 99/\gI 100/\gI 101/\gI 102/\gI 103/\gI 104/\gI 105/\gI 106/\gI 107/\gI 108/\gI 109/\gI 110:=by and_intros<;>exact rfl
theorem ar0:gI 111/\gI 112/\gI 113/\gI 114/\gI 115/\gI 116/\gI 117/\gI 118/\gI 119/\gI 120/\gI 121/\gI 122/\gI 123/\gI 124/\gI 125/\gI 126/\gI 127/\gI 128/\gI 129/\gI 130/\gI 131/\gI 132/\gI 133/\gI 134:=by and_intros<;>exact rfl
theorem ar1:gI 135/\gI 136/\gI 138/\gI 139/\gI 140/\gI 141/\gI 142/\gI 143/\gI 144/\gI 145/\gI 146/\gI 147/\gI 148/\gI 149/\gI 150/\gI 151/\gI 152/\gI 153/\gI 154/\gI 155/\gI 156/\gI 157/\gI 158/\gI 159:=by and_intros<;>exact rfl
theorem ar2:gI 160/\gI 161/\gI 162/\gI 163/\gI 164/\gI 165/\gI 166/\gI 167/\gI 168/\gI 169/\gI 170/\gI 171/\gI 172/\gI 173/\gI 174/\gI 175/\gI 176/\gI 177/\gI 178/\gI 179/\gI 180/\gI 181/\gI 182/\gI 183:=by and_intros<;>exact rfl
theorem ar4:gI 184/\gI 185/\gI 186/\gI 187/\gI 188/\gI 189/\gI 190/\gI 191/\gI 192/\gI 193/\gI 194/\gI 195/\gI 196/\gI 197/\gI 198/\gI 199/\gI 200/\gI 201/\gI 202/\gI 203/\gI 204/\gI 205/\gI 206/\gI 207:=by and_intros<;>exact rfl
theorem ar5:gI 208/\gI 209/\gI 210/\gI 211/\gI 212/\gI 213/\gI 214/\gI 215/\gI 216/\gI 217/\gI 218/\gI 219/\gI 220/\gI 221/\gI 222/\gI 223/\gI 224/\gI 225/\gI 226/\gI 227/\gI 228/\gI 229/\gI 230/\gI 231:=by and_intros<;>exact rfl
theorem ar6:gI 232/\gI 233/\gI 234/\gI 235/\gI 236/\gI 237/\gI 238/\gI 239/\gI 240/\gI 241/\gI 242/\gI 243/\gI 244/\gI 245/\gI 246/\gI 247/\gI 248/\gI 249/\gI 250/\gI 251:=by and_intros<;>exact rfl
attribute [go_sem] arW arX arY arZ ar0 ar1 ar2 ar4 ar5 ar6
theorem ty2:yI ZH 2=⟨true,false,1,[.sc (.int .i64 0)],false,false,false,0,0,[],false,[],[],false,false⟩:=by kernel_rfl
theorem ty3:yI ZH 3=yI ZH 2:=by kernel_rfl
theorem ty4:yI ZH 4=⟨true,false,1,[.sc (.bool false)],false,false,false,0,0,[],false,[],[],false,false⟩:=by kernel_rfl
theorem ty5:yI ZH 5=⟨true,false,1,[.sc (.int .u8 0)],false,false,false,0,0,[],false,[],[],false,false⟩:=by kernel_rfl
theorem ty7:yI ZH 7=⟨true,true,4,[.sc (.int .i64 0),.sc (.int .i64 0),.sc (.bool false),.sc (.int .u8 0)],false,false,false,0,0,[],false,[(0,1,some false),(1,1,some false),(2,1,some false),(3,1,some false)],[(0,1),(1,1),(2,1),(3,1)],true,false⟩:=by kernel_rfl
theorem ty9:yI ZH 9=⟨true,false,1,[.sc (.string ByteArray.empty)],false,true,false,0,0,[],false,[],[],false,false⟩:=by kernel_rfl
theorem ayd:yI ZH 12=⟨true,false,1,[.sc (.int .u64 0)],false,false,false,0,0,[],false,[],[],false,false⟩:=by kernel_rfl
theorem aye:yI ZH 13=⟨true,true,2,[.sc (.string ByteArray.empty),.sc (.int .u64 0)],false,false,false,0,0,[],false,[(0,1,some false),(1,1,some false)],[(0,1),(1,1)],true,false⟩:=by kernel_rfl
theorem ayf:yI ZH 21=⟨true,false,1,[.sc (.int .i32 0)],false,false,false,0,0,[],false,[],[],false,false⟩:=by kernel_rfl
theorem ayg:yI ZH 22=⟨true,false,1,[.nil],true,false,false,4,40,[.sc (.string ByteArray.empty),.sc (.int .i64 0),.sc (.int .i64 0),.sc (.bool false)],true,[],[],false,false⟩:=by kernel_rfl
theorem ayh:yI ZH 23=⟨true,false,1,[.nil],true,false,false,3,24,[.sc (.int .i64 0),.sc (.int .i64 0),.sc (.int .i64 0)],true,[],[],false,false⟩:=by kernel_rfl
theorem ayi:yI ZH 24=⟨true,true,2,[.nil,.nil],false,false,false,0,0,[],false,[(0,1,some false),(1,1,some false)],[(0,1),(1,1)],true,false⟩:=by kernel_rfl
theorem ayj:yI ZH 25=yI ZH 24:=by kernel_rfl
theorem ayk:yI ZH 26=⟨true,false,1,[.nil],true,false,false,1,8,[.sc (.int .i64 0)],true,[],[],false,false⟩:=by kernel_rfl
theorem ayl:yI ZH 27=⟨true,true,5,[.sc (.string ByteArray.empty),.nil,.nil,.nil,.nil],false,false,false,0,0,[],false,[(0,1,some false),(1,2,some true),(3,1,some false),(4,1,some false)],[(0,1),(1,2),(3,1),(4,1)],true,false⟩:=by kernel_rfl
theorem aym:yI ZH 28=yI ZH 27:=by kernel_rfl
theorem ayn:yI ZH 31=yI ZH 22:=by kernel_rfl
theorem ayo:yI ZH 32=yI ZH 23:=by kernel_rfl
theorem ayp:yI ZH 33=yI ZH 24:=by kernel_rfl
theorem ayq:yI ZH 34=yI ZH 24:=by kernel_rfl
theorem ayr:yI ZH 35=yI ZH 27:=by kernel_rfl
theorem ays:yI ZH 36=yI ZH 27:=by kernel_rfl
theorem ayt:yI ZH 40=⟨true,false,1,[.nil],true,false,false,5,112,[.sc (.string ByteArray.empty),.nil,.nil,.nil,.nil],true,[],[],false,false⟩:=by kernel_rfl
theorem ayu:yI ZH 41=⟨true,false,1,[.nil],true,false,false,2,16,[.sc (.int .i64 0),.sc (.int .i64 0)],true,[],[],false,false⟩:=by kernel_rfl
theorem ayv:yI ZH 42=⟨true,true,3,[.nil,.nil,.sc (.bool false)],false,false,false,0,0,[],false,[(0,1,some false),(1,1,some false),(2,1,some false)],[(0,1),(1,1),(2,1)],true,false⟩:=by kernel_rfl
theorem ayw:yI ZH 43=yI ZH 42:=by kernel_rfl
theorem ayx:yI ZH 46=yI ZH 40:=by kernel_rfl
theorem ayy:yI ZH 47=yI ZH 41:=by kernel_rfl
theorem ayz:yI ZH 48=yI ZH 42:=by kernel_rfl
theorem ayA:yI ZH 49=yI ZH 42:=by kernel_rfl
theorem ayB:yI ZH 74=⟨true,false,1,[.nil],true,false,false,1,1,[.sc (.bool false)],true,[],[],false,false⟩:=by kernel_rfl
theorem ayC:yI ZH 82=⟨true,true,2,[.sc (.int .i64 0),.sc (.int .i64 0)],false,false,false,0,0,[],false,[(0,1,some false),(1,1,some false)],[(0,1),(1,1)],true,false⟩:=by kernel_rfl
theorem ayD:yI ZH 83=yI ZH 82:=by kernel_rfl
theorem ayE:yI ZH 98=⟨true,false,1,[.nil],true,false,false,3,56,[.sc (.bool false),.nil,.nil],true,[],[],false,false⟩:=by kernel_rfl
theorem ar7:yI ZH 104=⟨true,false,1,[.sc (.pointer none)],false,false,true,0,0,[],false,[],[],false,false⟩:=by kernel_rfl
theorem ar8:yI ZH 110=yI ZH 82:=by kernel_rfl
theorem ar9:yI ZH 112=yI ZH 104:=by kernel_rfl
theorem ar_:yI ZH 119=⟨true,true,4,[.sc (.string ByteArray.empty),.sc (.int .i64 0),.sc (.int .i64 0),.sc (.bool false)],false,false,false,0,0,[],false,[(0,1,some false),(1,1,some false),(2,1,some false),(3,1,some false)],[(0,1),(1,1),(2,1),(3,1)],true,false⟩:=by kernel_rfl
theorem ar':yI ZH 120=yI ZH 119:=by kernel_rfl
theorem asa:yI ZH 122=⟨true,true,3,[.sc (.int .i64 0),.sc (.int .i64 0),.sc (.int .i64 0)],false,false,false,0,0,[],false,[(0,1,some false),(1,1,some false),(2,1,some false)],[(0,1),(1,1),(2,1)],true,false⟩:=by kernel_rfl
theorem asb:yI ZH 123=yI ZH 122:=by kernel_rfl
theorem ase:yI ZH 127=yI ZH 119:=by kernel_rfl
theorem asf:yI ZH 130=yI ZH 122:=by kernel_rfl
theorem asg:yI ZH 138=⟨true,false,1,[.nil],true,false,false,1,1,[.sc (.int .u8 0)],true,[],[],false,true⟩:=by kernel_rfl
theorem ash:yI ZH 139=yI ZH 12:=by kernel_rfl
theorem asi:yI ZH 144=⟨true,true,2,[.sc (.bool false),.nil],false,false,false,0,0,[],false,[(0,1,some false),(1,1,some false)],[(0,1),(1,1)],true,false⟩:=by kernel_rfl
theorem asj:yI ZH 145=yI ZH 144:=by kernel_rfl
theorem asl:yI ZH 146=⟨true,true,3,[.sc (.bool false),.nil,.nil],false,false,false,0,0,[],false,[(0,2,some true),(2,1,some false)],[(0,2),(2,1)],true,false⟩:=by kernel_rfl
theorem asn:yI ZH 147=yI ZH 146:=by kernel_rfl
theorem aso:yI ZH 148=⟨true,true,5,[.sc (.int .i64 0),.nil,.sc (.bool false),.nil,.nil],false,false,false,0,0,[],false,[(0,1,some false),(1,1,some false),(2,3,some true)],[(0,1),(1,1),(2,3)],true,false⟩:=by kernel_rfl
theorem asq:yI ZH 149=yI ZH 148:=by kernel_rfl
theorem asr:yI ZH 151=⟨true,true,5,[.sc (.int .i64 0),.sc (.int .i64 0),.nil,.nil,.nil],false,false,false,0,0,[],false,[(0,1,some false),(1,1,some false),(2,1,some false),(3,1,some false),(4,1,some false)],[(0,1),(1,1),(2,1),(3,1),(4,1)],true,false⟩:=by kernel_rfl
theorem asu:yI ZH 152=yI ZH 151:=by kernel_rfl
theorem asv:yI ZH 159=⟨true,false,1,[.nil],true,false,false,1,8,[.sc (.pointer none)],true,[],[],false,false⟩:=by kernel_rfl
theorem asw:yI ZH 165=⟨true,false,1,[.sc (.int .u32 0)],false,false,false,0,0,[],false,[],[],false,false⟩:=by kernel_rfl
theorem asx:yI ZH 168=yI ZH 12:=by kernel_rfl
theorem asy:yI ZH 171=yI ZH 104:=by kernel_rfl
theorem asz:yI ZH 175=⟨true,false,1,[.nil],true,false,false,1,24,[.nil],true,[],[],false,false⟩:=by kernel_rfl
theorem asA:yI ZH 176=⟨true,true,4,[.sc (.int .i64 0),.nil,.nil,.nil],false,false,false,0,0,[],false,[(0,1,some false),(1,1,some false),(2,1,some false),(3,1,some false)],[(0,1),(1,1),(2,1),(3,1)],true,false⟩:=by kernel_rfl
theorem asB:yI ZH 177=yI ZH 176:=by kernel_rfl
theorem asC:yI ZH 194=yI ZH 104:=by kernel_rfl
theorem asD:yI ZH 197=yI ZH 104:=by kernel_rfl
theorem asE:yI ZH 198=yI ZH 41:=by kernel_rfl
theorem asF:yI ZH 201=yI ZH 175:=by kernel_rfl
theorem asG:yI ZH 203=yI ZH 82:=by kernel_rfl
theorem asH:yI ZH 204=yI ZH 82:=by kernel_rfl
theorem asI:yI ZH 225=yI ZH 104:=by kernel_rfl
theorem asJ:yI ZH 228=yI ZH 175:=by kernel_rfl
theorem asK:yI ZH 229=⟨true,true,6,[.nil,.sc (.bool false),.nil,.nil,.sc (.int .i64 0),.nil],false,false,false,0,0,[],false,[(0,1,some false),(1,2,some true),(3,1,some false),(4,1,some false),(5,1,some false)],[(0,1),(1,2),(3,1),(4,1),(5,1)],true,false⟩:=by kernel_rfl
theorem asL:yI ZH 230=yI ZH 229:=by kernel_rfl
theorem asM:yI ZH 233=⟨true,false,1,[.nil],true,false,false,2,32,[.sc (.bool false),.nil],true,[],[],false,false⟩:=by kernel_rfl
theorem asN:yI ZH 237=yI ZH 146:=by kernel_rfl
theorem asO:yI ZH 238=yI ZH 146:=by kernel_rfl
theorem asP:yI ZH 265=⟨true,true,4,[.sc (.pointer none),.sc (.pointer none),.sc (.pointer none),.sc (.string ByteArray.empty)],false,false,false,0,0,[],false,[(0,1,some false),(1,1,some false),(2,1,some false),(3,1,some false)],[(0,1),(1,1),(2,1),(3,1)],true,false⟩:=by kernel_rfl
theorem asQ:yI ZH 267=⟨true,true,0,[],false,false,false,0,0,[],false,[],[],false,false⟩:=by kernel_rfl
theorem asR:yI ZH 268=⟨true,true,0,[],false,false,false,0,0,[],false,[(0,0,some true)],[(0,0)],true,false⟩:=by kernel_rfl
theorem asT:yI ZH 273=yI ZH 104:=by kernel_rfl
attribute [go_sem] ty2 ty3 ty4 ty5 ty7 ty9 ayd aye ayf ayg ayh ayi ayj ayk ayl aym ayn ayo ayp ayq ayr ays ayt ayu ayv ayw ayx ayy ayz ayA ayB ayC ayD ayE ar7 ar8 ar9 ar_ ar' asa asb ase asf asg ash asi asj asl asn aso asq asr asu asv asw asx asy asz asA asB asC asD asE asF asG asH asI asJ asK asL asM asN asO asP asQ asR asT
def Fv:List V->Store->Nat->Option (V×Store×Nat)
 |[.ts row len],σ,nx=>if row.length=len/\len<=17592186044000/\row.all pI=true then(if len=0 then some (.nil,σ,nx)else some (.rs nx 0 len,Ai σ nx row 1,nx+1))else none
 |_,_,_=>none
theorem pY(args:List V)(σ:Store)(nx:Nat)(v:V)(σ':Store)(nx':Nat)(h:Fv args σ nx=some (v,σ',nx')):Ei ZH 81 args σ nx v σ' nx':=by
 unfold Fv at h
 split at h
 .rename_i row len
  split at h
  .rename_i hc
   obtain⟨G,hs,J⟩:=hc;refine mF (call:=fun _ _ _ _=>none) (conv:=fun _=> .Jo) (fun _ _ _ _ _ _ _ h=>by cases h) (by kernel_rfl) func81 rfl Tryz.underlying26 (n:=0) (by kernel_rfl) (st1:=⟨upd (C9 [.ts row len]) 2 .nil,σ,nx⟩) (T2:=upd (upd (C9 [.ts row len]) 2 .nil) 3 (.ts row len)) (v1:=.ts row len) (row:=row) (len:=len) (vs:=[v]) ?_ rfl ?_ rfl ?_ ?_
   .rfl
   .rfl
   .rfl
   .intro b hb
    cases b with
    |true=>
     have O:=hb rfl;subst O;have E:len=0:=by simpa using G.symm
     subst E;simp only[if_true,su,sZ]at h;obtain⟨rfl,rfl,rfl⟩:=h;exact⟨.ret,_,rfl,.inr rfl,rfl,rfl,rfl⟩
    |false=>
     by_cases E:len=0
     .subst E
      have O:row=[]:=zZ G;subst O;simp only[if_true,su,sZ]at h;obtain⟨rfl,rfl,rfl⟩:=h;refine⟨.ret,?_,?_,.inr rfl,?_,?_,?_⟩
      .exact⟨upd (upd (upd (upd (upd (upd (upd (upd (C9 [.ts [] 0]) 2 .nil) 3 (.ts [] 0)) 4 (.sc (.bool false))) 5 .nil) 6 (.ts [] 0)) 7 .nil) 2 .nil) 2 .nil,σ,nx⟩
      .simp only[xI,go_sem]
      .rfl
      .rfl
      .rfl
     .rw[sW E]at h
      simp only[su,sZ]at h;obtain⟨rfl,rfl,rfl⟩:=h;have S:len<=maxLen/\len*8<=140737488355328:=by unfold maxLen;omega
      refine⟨.ret,?_,?_,.inr rfl,?_,?_,?_⟩
      .exact⟨upd (upd (upd (upd (upd (upd (upd (C9 [.ts row len]) 2 .nil) 3 (.ts row len)) 4 (.sc (.bool false))) 5 .nil) 6 (.ts row len)) 7 (.rs nx 0 len)) 2 (.rs nx 0 len),Ai σ nx row 1,nx+1⟩
      .simp only[xI,go_sem,G,E,S]
      .rfl
      .rfl
      .rfl
  .cases h
 .cases h
def ext:Ext:=fun f=>if f=81 then some Fv else none
theorem ag6:Ky ZH ext:=fun f g h args σ nx v σ' nx' E=>by
 unfold ext at h
 split at h
 .rename_i G
  subst G;cases h;exact pY args σ nx v σ' nx' E
 .cases h
theorem aaL(xs:List Int)(h:xs.length<=17592186044000):fn ZH conv ext 81 [LI xs]=some (LI xs):=by
 have G:Fv [LI xs] lI 0=if xs.length=0 then some (.nil,lI,0)else some (.rs 0 0 xs.length,Ai lI 0 (xs.flatMap cI) 1,0+1):=by
  show(if(xs.flatMap cI).length=xs.length/\xs.length<=17592186044000/\(xs.flatMap cI).all pI=true then _ else none)=_;rw[sS ⟨qR xs,h,qU xs⟩]
 rw[mM,nD (g:=Fv) rfl,G]
 by_cases E:xs.length=0
 .rw[sS E]
  have:xs=[]:=zZ E;subst this
  (simp only[go_sem])<;>rfl
 .rw[sW E]
  simp only[go_sem]
theorem u4:ZH.underlying 4=some .bool:=Tryz.underlying4
attribute [go_sem] u4
theorem akS(j:Joint):fn ZH conv ext 99 [.agg (cJoint j)]=some (.agg (cJoint j)):=by
 rw[mM,nG [.cell 2 127] [] func99];simp only[go_sem]
theorem ag7(j:Member):fn ZH conv ext 100 [.agg (cMember j)]=some (.agg (cMember j)):=by
 rw[mM,nG [.cell 2 123] [] func100];simp only[go_sem]
theorem aoq(j:TV.Move):fn ZH conv ext 86 [.agg (cMove j)]=some (.agg (cMove j)):=by
 rw[mM,nG [.cell 2 83] [] func86];simp only[go_sem]
abbrev ag8:List V:=[I 0,I 0]
abbrev aaM:List V:=[Sg ByteArray.empty,I 0,I 0,Bo false]
abbrev Tc:List V:=[I 0,I 0,I 0]
abbrev FY:List V:=[Sg ByteArray.empty,.nil,.nil,.nil,.nil]
theorem akT(x:Joint):fn ZH conv ext 112 [.agg (cJoint x),.agg (cJoint x)]=some (Bo true):=by
 rw[mM,nG [.tmp 4] [] func112];simp only[go_sem]
theorem ag9(x:Member):fn ZH conv ext 113 [.agg (cMember x),.agg (cMember x)]=some (Bo true):=by
 rw[mM,nG [.tmp 4] [] func113];simp only[go_sem]
theorem aor(x:TV.Move):fn ZH conv ext 89 [.agg (cMove x),.agg (cMove x)]=some (Bo true):=by
 rw[mM,nG [.tmp 4] [] func89];simp only[go_sem]
def PG:=d_ (c:=cMove) (s:=2) (fun _=>rfl)
def PI:=bg (c:=cMove) (s:=2) (fun _=>rfl) (by omega)
def Gx:=bZ (c:=cMove) (s:=2) (fun _=>rfl)
theorem akU(xs:List TV.Move)(h:xs.length<=maxLen):fn ZH conv ext 57 [LL cMove xs,LL cMove xs]=some (Bo true):=by
 have e2:(xs.length:Int)<=9223372036854775807:=by unfold maxLen at h;omega
 rw[mM,nG [.tmp 4] [] func57];simp only[go_sem];generalize Y:dI _ _=y;obtain⟨r,rfl,T',rfl⟩:=pF Y xs.length (fun k st=>st.nx=0/\st.σ=lI/\st.T 0=LL cMove xs/\st.T 1=LL cMove xs/\st.T 5=I k)
  (fun r=>∃T,r=(.exit 0,⟨T,lI,0⟩)) (by
   clear Y;rintro k ⟨T,σ,nx⟩ J ⟨hn,E,G,O,S⟩;simp only at hn E G O S;subst hn E;have f1:(k:Int)<(xs.length:Int):=by omega
   have f2:=jD k;have f3:=ZQ (n:=(k:Int)+1);have f4:=PG xs k J;have f5:=Gx xs;have f6:k*2+2<=xs.length*2:=by omega
   have f9:=PI xs k J;refine .inl ⟨_,by simp only[go_sem,G,O,S,f1,f2,f3,f4,f5,f6,f9,aor];rfl,?_⟩;simp only[go_sem,G,O];rfl) (by
   clear Y;rintro ⟨T,σ,nx⟩ ⟨hn,E,G,O,S⟩;simp only at hn E G O S;subst hn E;exact⟨_,by simp only[go_sem,G,S,zl];rfl,by simp,_,rfl⟩) (by
   (simp only[go_sem])<;>trivial)
 simp only[go_sem]
def Hr:=d_ (c:=cJoint) (s:=4) (fun _=>rfl)
def JD:=bg (c:=cJoint) (s:=4) (fun _=>rfl) (by omega)
def EN:=bZ (c:=cJoint) (s:=4) (fun _=>rfl)
theorem ag_(xs:List Joint)(h:xs.length<=maxLen):fn ZH conv ext 83 [LL cJoint xs,LL cJoint xs]=some (Bo true):=by
 have e2:(xs.length:Int)<=9223372036854775807:=by unfold maxLen at h;omega
 rw[mM,nG [.tmp 4] [] func83];simp only[go_sem];generalize Y:dI _ _=y;obtain⟨r,rfl,T',rfl⟩:=pF Y xs.length (fun k st=>st.nx=0/\st.σ=lI/\st.T 0=LL cJoint xs/\st.T 1=LL cJoint xs/\st.T 5=I k)
  (fun r=>∃T,r=(.exit 0,⟨T,lI,0⟩)) (by
   clear Y;rintro k ⟨T,σ,nx⟩ J ⟨hn,E,G,O,S⟩;simp only at hn E G O S;subst hn E;have f1:(k:Int)<(xs.length:Int):=by omega
   have f2:=jD k;have f3:=ZQ (n:=(k:Int)+1);have f4:=Hr xs k J;have f5:=EN xs;have f6:k*4+4<=xs.length*4:=by omega
   have f9:=JD xs k J;refine .inl ⟨_,by simp only[go_sem,G,O,S,f1,f2,f3,f4,f5,f6,f9,akT];rfl,?_⟩;simp only[go_sem,G,O];rfl) (by
   clear Y;rintro ⟨T,σ,nx⟩ ⟨hn,E,G,O,S⟩;simp only at hn E G O S;subst hn E;exact⟨_,by simp only[go_sem,G,S,zl];rfl,by simp,_,rfl⟩) (by
   (simp only[go_sem])<;>trivial)
 simp only[go_sem]
def Lc:=d_ (c:=cMember) (s:=3) (fun _=>rfl)
def Lh:=bg (c:=cMember) (s:=3) (fun _=>rfl) (by omega)
def Gg:=bZ (c:=cMember) (s:=3) (fun _=>rfl)
theorem aeB(xs:List Member)(h:xs.length<=maxLen):fn ZH conv ext 84 [LL cMember xs,LL cMember xs]=some (Bo true):=by
 have e2:(xs.length:Int)<=9223372036854775807:=by unfold maxLen at h;omega
 rw[mM,nG [.tmp 4] [] func84];simp only[go_sem];generalize Y:dI _ _=y;obtain⟨r,rfl,T',rfl⟩:=pF Y xs.length (fun k st=>st.nx=0/\st.σ=lI/\st.T 0=LL cMember xs/\st.T 1=LL cMember xs/\st.T 5=I k)
  (fun r=>∃T,r=(.exit 0,⟨T,lI,0⟩)) (by
   clear Y;rintro k ⟨T,σ,nx⟩ J ⟨hn,E,G,O,S⟩;simp only at hn E G O S;subst hn E;have f1:(k:Int)<(xs.length:Int):=by omega
   have f2:=jD k;have f3:=ZQ (n:=(k:Int)+1);have f4:=Lc xs k J;have f5:=Gg xs;have f6:k*3+3<=xs.length*3:=by omega
   have f9:=Lh xs k J;refine .inl ⟨_,by simp only[go_sem,G,O,S,f1,f2,f3,f4,f5,f6,f9,ag9];rfl,?_⟩;simp only[go_sem,G,O];rfl) (by
   clear Y;rintro ⟨T,σ,nx⟩ ⟨hn,E,G,O,S⟩;simp only at hn E G O S;subst hn E;exact⟨_,by simp only[go_sem,G,S,zl];rfl,by simp,_,rfl⟩) (by
   (simp only[go_sem])<;>trivial)
 simp only[go_sem]
def AZ:=bg (c:=cI) (s:=1) (fun _=>rfl) (by omega)
theorem Nr(xs:List Int)(h:xs.length<=maxLen):fn ZH conv ext 21 [LI xs,LI xs]=some (Bo true):=by
 have e2:(xs.length:Int)<=9223372036854775807:=by unfold maxLen at h;omega
 rw[mM,nG [.tmp 4] [] func21];simp only[go_sem];generalize Y:dI _ _=y;obtain⟨r,rfl,T',rfl⟩:=pF Y xs.length (fun k st=>st.nx=0/\st.σ=lI/\st.T 0=LI xs/\st.T 1=LI xs/\st.T 5=I k)
  (fun r=>∃T,r=(.exit 0,⟨T,lI,0⟩)) (by
   clear Y;rintro k ⟨T,σ,nx⟩ J ⟨hn,E,G,O,S⟩;simp only at hn E G O S;subst hn E;have f1:(k:Int)<(xs.length:Int):=by omega
   have f2:=jD k;have f3:=ZQ (n:=(k:Int)+1);have f4:(xs.flatMap cI)[k]?=some (I xs[k]):=cu I xs k J;have f9:=AZ xs k J;refine .inl ⟨_,by simp only[go_sem,G,O,S,f1,f2,f3,f4,f9];rfl,?_⟩;simp only[go_sem,G,O];rfl) (by
   clear Y;rintro ⟨T,σ,nx⟩ ⟨hn,E,G,O,S⟩;simp only at hn E G O S;subst hn E;exact⟨_,by simp only[go_sem,G,S,zl];rfl,by simp,_,rfl⟩) (by
   (simp only[go_sem])<;>trivial)
 simp only[go_sem]
theorem WH(x:Structure)(h:okStructure x):fn ZH conv ext 44 [.agg (cStructure x),.agg (cStructure x)]=some (Bo true):=by
 have E:=ag_ _ h.1.2.2;have G:=aeB _ h.2.2.2;rw[mM,nG [.tmp 4] [] func44];simp only[go_sem,E,G]
theorem ag'(x:Stance)(h:okStance x):fn ZH conv ext 14 [.agg (cStance x),.agg (cStance x)]=some (Bo true):=by
 have E:=WH _ h.2.1;have G:=Nr _ h.2.2.1.2.2;have J:=Nr _ h.2.2.2.2.2;rw[mM,nG [.tmp 4] [] func14];simp only[go_sem,E,G,J]
def Td:=d_ (c:=cStance) (s:=5) (fun _=>rfl)
def Tf:=bg (c:=cStance) (s:=5) (fun _=>rfl) (by omega)
def Il:=bZ (c:=cStance) (s:=5) (fun _=>rfl)
theorem aeC(xs:List Stance)(h':okL 112 okStance xs):fn ZH conv ext 56 [LL cStance xs,LL cStance xs]=some (Bo true):=by
 have e2:(xs.length:Int)<=9223372036854775807:=by have h:=h'.2.2;unfold maxLen at h;omega
 rw[mM,nG [.tmp 4] [] func56];simp only[go_sem];generalize Y:dI _ _=y;obtain⟨r,rfl,T',rfl⟩:=pF Y xs.length (fun k st=>st.nx=0/\st.σ=lI/\st.T 0=LL cStance xs/\st.T 1=LL cStance xs/\st.T 5=I k)
  (fun r=>∃T,r=(.exit 0,⟨T,lI,0⟩)) (by
   clear Y;rintro k ⟨T,σ,nx⟩ G ⟨hn,E,J,O,S⟩;simp only at hn E J O S;subst hn E;have f1:(k:Int)<(xs.length:Int):=by omega
   have f2:=jD k;have f3:=ZQ (n:=(k:Int)+1);have f4:=Td xs k G;have f5:=Il xs;have f6:k*5+5<=xs.length*5:=by omega
   have f9:=Tf xs k G;have a0:=ag' xs[k] (h'.1 _ (zu G));refine .inl ⟨_,by simp only[go_sem,J,O,S,f1,f2,f3,f4,f5,f6,f9,a0];rfl,?_⟩;simp only[go_sem,J,O];rfl) (by
   clear Y;rintro ⟨T,σ,nx⟩ ⟨hn,E,J,O,S⟩;simp only at hn E J O S;subst hn E;exact⟨_,by simp only[go_sem,J,S,zl];rfl,by simp,_,rfl⟩) (by
   (simp only[go_sem])<;>trivial)
 simp only[go_sem]
theorem aaN(x:Yard)(h:okYard x):fn ZH conv ext 20 [.agg (cYard x),.agg (cYard x)]=some (Bo true):=by
 have E:=aeC _ h.1;have G:=akU _ h.2.1.2.2;rw[mM,nG [.tmp 4] [] func20];simp only[go_sem,E,G]
def Szd(r left n:Int):Prop:=r= -1\/(0<=r/\r+n<=left)
theorem ahb(xs:List Int)(left:Int)(h:okL 8 okI xs)(J:0<=left)(O:left<=1048576):∃r,fn ZH conv ext 36 [LI xs,I left]=some (I r)/\Szd r left xs.length:=by
 have S:((xs.length:Nat):Int)<=140737488351232:=by have:=h.2.1;omega
 have E:=ZQ (n:=left - (xs.length:Int))
 by_cases G:left - (xs.length:Int)<0
 .refine⟨-1,?_,.inl rfl⟩
  rw[mM,nG [.tmp 4] [] func36];simp only[go_sem,E,G]
 .refine⟨left-xs.length,?_,.inr ⟨by omega,by omega⟩⟩
  rw[mM,nG [.tmp 4] [] func36];simp only[go_sem,E,G]
theorem aeD(xs:List Member)(left:Int)(h:okL 24 okMember xs)(J:0<=left)(O:left<=1048576):∃r,fn ZH conv ext 68 [LL cMember xs,I left]=some (I r)/\Szd r left xs.length:=by
 have S:((xs.length:Nat):Int)<=140737488351232:=by have:=h.2.1;omega
 have E:=ZQ (n:=left - (xs.length:Int))
 by_cases G:left - (xs.length:Int)<0
 .refine⟨-1,?_,.inl rfl⟩
  rw[mM,nG [.tmp 4] [] func68];simp only[go_sem,E,G]
 .refine⟨left-xs.length,?_,.inr ⟨by omega,by omega⟩⟩
  rw[mM,nG [.tmp 4] [] func68];simp only[go_sem,E,G]
theorem akV(xs:List TV.Move)(left:Int)(h:okL 16 okMove xs)(J:0<=left)(O:left<=1048576):∃r,fn ZH conv ext 46 [LL cMove xs,I left]=some (I r)/\Szd r left xs.length:=by
 have S:((xs.length:Nat):Int)<=140737488351232:=by have:=h.2.1;omega
 have E:=ZQ (n:=left - (xs.length:Int))
 by_cases G:left - (xs.length:Int)<0
 .refine⟨-1,?_,.inl rfl⟩
  rw[mM,nG [.tmp 4] [] func46];simp only[go_sem,E,G]
 .refine⟨left-xs.length,?_,.inr ⟨by omega,by omega⟩⟩
  rw[mM,nG [.tmp 4] [] func46];simp only[go_sem,E,G]
theorem akW(x:Joint)(left:Int)(h:okJoint x)(J:0<=left)(O:left<=1048576):∃r,fn ZH conv ext 94 [.agg (cJoint x),I left]=some (I r)/\Szd r left x.name.size:=by
 have S:((x.name.size:Nat):Int)<=140737488351232:=by have:=h.1;unfold okS at this;omega
 have E:=ZQ (n:=left - (x.name.size:Int))
 by_cases G:left - (x.name.size:Int)<0
 .refine⟨-1,?_,.inl rfl⟩
  rw[mM,nG [.tmp 4] [] func94];simp only[go_sem,E,G]
 .refine⟨left-x.name.size,?_,.inr ⟨by omega,by omega⟩⟩
  rw[mM,nG [.tmp 4] [] func94];simp only[go_sem,E,G]
theorem ahc(xs:List Joint)(left:Int)(h:okL 40 okJoint xs)(g0:0<=left)(g1:left<=1048576):∃r,fn ZH conv ext 67 [LL cJoint xs,I left]=some (I r)/\Szd r left xs.length:=by
 have e1:((xs.length:Nat):Int)<=140737488351232:=by have:=h.2.1;omega
 have e2:=ZQ (n:=left - (xs.length:Int))
 by_cases hl:left - (xs.length:Int)<0
 .refine⟨-1,?_,.inl rfl⟩
  rw[mM,nG [.tmp 4] [] func67];simp only[go_sem,e2,hl]
 .suffices hz:∃r,fn ZH conv ext 67 [LL cJoint xs,I left]=some (I r)/\Szd r (left-xs.length) 0 by
   obtain⟨r,E,h2⟩:=hz;exact⟨r,E,h2.imp id fun h=>⟨h.1,by have:=h.2;omega⟩⟩
  rw[mM,nG [.tmp 4] [] func67];simp only[go_sem,e2,hl];generalize hL:dI _ _=y;obtain⟨r,rfl,hr⟩:=pF hL xs.length (fun k st=>st.nx=0/\st.σ=lI/\st.T 0=LL cJoint xs/\st.T 5=I k/\∃l,st.T 1=I l/\0<=l/\l<=left-xs.length)
   (fun r=>(∃T l,r=(.exit 0,⟨T,lI,0⟩)/\T 1=I l/\0<=l/\l<=left-xs.length)\/(∃T,r=(.ret,⟨T,lI,0⟩)/\T 4=I (-1))) (by
    clear hL;rintro k ⟨T,σ,nx⟩ J ⟨hn,G,O,Y,l,E,S,a0⟩;simp only at hn G O E Y;subst hn G;have f1:(k:Int)<(xs.length:Int):=by omega
    have f2:=jD k;have f3:=ZQ (n:=(k:Int)+1);have f4:=Hr xs k J;have f5:=EN xs;have f6:k*4+4<=xs.length*4:=by omega
    have f9:=JD xs k J;obtain⟨q,a1,a2⟩:=akW xs[k] l (h.1 _ (zu J)) S (by omega)
    by_cases hq:q<0
    .refine .inr ⟨_,by simp only[go_sem,O,E,Y,f1,f2,f3,f4,f5,f6,f9,a1,hq];rfl,by simp,.inr ⟨_,rfl,?_⟩⟩
     simp only[go_sem]
    .have a3:q<=l:=by rcases a2 with h|⟨_,h⟩<;>omega
     refine .inl ⟨_,by simp only[go_sem,O,E,Y,f1,f2,f3,f4,f5,f6,f9,a1,hq];rfl,?_⟩;simp only[go_sem,O];exact⟨rfl,q,rfl,by omega,by omega⟩) (by
    clear hL;rintro ⟨T,σ,nx⟩ ⟨hn,G,O,Y,l,E,S,a0⟩;simp only at hn G O E Y;subst hn G;refine⟨_,by simp only[go_sem,O,Y,zl];rfl,by simp,.inl ⟨_,l,rfl,?_,S,a0⟩⟩;simp only[go_sem,E]) (by
    simp only[go_sem];exact⟨_,rfl,by omega,by omega⟩)
  rcases hr with ⟨T,l,rfl,E,h2,h3⟩|⟨T,rfl,E⟩
  .refine⟨l,?_,.inr ⟨h2,by omega⟩⟩
   simp only[go_sem,E]
  .refine⟨-1,?_,.inl rfl⟩
   simp only[go_sem,E]
theorem WI(x:Structure)(left:Int)(h:okStructure x)(O:0<=left)(S:left<=1048576):∃r,fn ZH conv ext 35 [.agg (cStructure x),I left]=some (I r)/\Szd r left (x.joints.length+x.members.length):=by
 obtain⟨a,E,G⟩:=ahc x.joints left h.1 O S
 by_cases ha:a<0
 .refine⟨-1,?_,.inl rfl⟩
  rw[mM,nG [.tmp 4] [] func35];simp only[go_sem,E,ha]
 .rcases G with G|⟨_,G⟩
  .omega
  obtain⟨b,b1,J⟩:=aeD x.members a h.2 (by omega) (by omega)
  by_cases hb:b<0
  .refine⟨-1,?_,.inl rfl⟩
   rw[mM,nG [.tmp 4] [] func35];simp only[go_sem,E,ha,b1,hb]
  .rcases J with J|⟨_,J⟩
   .omega
   refine⟨b,?_,.inr ⟨by omega,by omega⟩⟩;rw[mM,nG [.tmp 4] [] func35];simp only[go_sem,E,ha,b1,hb]
theorem ahd(x:Stance)(left:Int)(h:okStance x)(h0:0<=left)(h1:left<=1048576):∃r,fn ZH conv ext 10 [.agg (cStance x),I left]=some (I r)/\Szd r left (x.name.size+x.st.joints.length+x.st.members.length+x.load.length+x.limits.length):=by
 have e1:((x.name.size:Nat):Int)<=140737488351232:=by have:=h.1;unfold okS at this;omega
 have E:=ZQ (n:=left - (x.name.size:Int))
 by_cases G:left - (x.name.size:Int)<0
 .refine⟨-1,?_,.inl rfl⟩
  rw[mM,nG [.tmp 4] [] func10];simp only[go_sem,E,G]
 obtain⟨a,J,O⟩:=WI x.st (left-x.name.size) h.2.1 (by omega) (by omega)
 by_cases ha:a<0
 .refine⟨-1,?_,.inl rfl⟩
  rw[mM,nG [.tmp 4] [] func10];simp only[go_sem,E,G,J,ha]
 rcases O with O|⟨_,O⟩
 .omega
 obtain⟨b,b1,S⟩:=ahb x.load a h.2.2.1 (by omega) (by omega)
 by_cases hb:b<0
 .refine⟨-1,?_,.inl rfl⟩
  rw[mM,nG [.tmp 4] [] func10];simp only[go_sem,E,G,J,ha,b1,hb]
 rcases S with S|⟨_,S⟩
 .omega
 obtain⟨d,d1,Y⟩:=ahb x.limits b h.2.2.2 (by omega) (by omega)
 by_cases hd:d<0
 .refine⟨-1,?_,.inl rfl⟩
  rw[mM,nG [.tmp 4] [] func10];simp only[go_sem,E,G,J,ha,b1,hb,d1,hd]
 rcases Y with Y|⟨_,Y⟩
 .omega
 refine⟨d,?_,.inr ⟨by omega,by omega⟩⟩;rw[mM,nG [.tmp 4] [] func10];simp only[go_sem,E,G,J,ha,b1,hb,d1,hd]
def FZ(s:Stance):Prop:=s.st.joints.length<=1048576/\s.st.members.length<=1048576/\s.load.length<=1048576/\s.limits.length<=1048576
theorem aeE(xs:List Stance)(left:Int)(h:okL 112 okStance xs)(g0:0<=left)(g1:left<=1048576):∃r,fn ZH conv ext 45 [LL cStance xs,I left]=some (I r)/\Szd r left xs.length/\(0<=r->∀i (h:i<xs.length),FZ xs[i]):=by
 have e1:((xs.length:Nat):Int)<=140737488351232:=by have:=h.2.1;omega
 have e2:=ZQ (n:=left - (xs.length:Int))
 by_cases hl:left - (xs.length:Int)<0
 .refine⟨-1,?_,.inl rfl,fun h=>absurd h (by decide)⟩
  rw[mM,nG [.tmp 4] [] func45];simp only[go_sem,e2,hl]
 .suffices hz:∃r,fn ZH conv ext 45 [LL cStance xs,I left]=some (I r)/\Szd r (left-xs.length) 0/\(0<=r->∀i (h:i<xs.length),FZ xs[i]) by
   obtain⟨r,E,h2,h3⟩:=hz;exact⟨r,E,h2.imp id fun h=>⟨h.1,by have:=h.2;omega⟩,h3⟩
  rw[mM,nG [.tmp 4] [] func45];simp only[go_sem,e2,hl];generalize hL:dI _ _=y;obtain⟨r,rfl,hr⟩:=pF hL xs.length (fun k st=>st.nx=0/\st.σ=lI/\st.T 0=LL cStance xs/\st.T 5=I k/\∃l,st.T 1=I l/\0<=l/\l<=left-xs.length/\∀i (h:i<xs.length),i<k->FZ xs[i])
   (fun r=>(∃T l,r=(.exit 0,⟨T,lI,0⟩)/\T 1=I l/\0<=l/\l<=left-xs.length/\∀i (h:i<xs.length),FZ xs[i])\/(∃T,r=(.ret,⟨T,lI,0⟩)/\T 4=I (-1))) (by
    clear hL;rintro k ⟨T,σ,nx⟩ O ⟨hn,G,S,J,l,E,Y,a1,a0⟩;simp only at hn G S E J;subst hn G;have f1:(k:Int)<(xs.length:Int):=by omega
    have f2:=jD k;have f3:=ZQ (n:=(k:Int)+1);have f4:=Td xs k O;have f5:=Il xs;have f6:k*5+5<=xs.length*5:=by omega
    have f9:=Tf xs k O;obtain⟨q,a2,a3⟩:=ahd xs[k] l (h.1 _ (zu O)) Y (by omega)
    by_cases hq:q<0
    .refine .inr ⟨_,by simp only[go_sem,S,E,J,f1,f2,f3,f4,f5,f6,f9,a2,hq];rfl,by simp,.inr ⟨_,rfl,?_⟩⟩
     simp only[go_sem]
    .have a4:q<=l:=by rcases a3 with h|⟨_,h⟩<;>omega
     refine .inl ⟨_,by simp only[go_sem,S,E,J,f1,f2,f3,f4,f5,f6,f9,a2,hq];rfl,?_⟩;simp only[go_sem,S];refine⟨rfl,q,rfl,by omega,by omega,fun i hi a5=>?_⟩
     by_cases hk:i<k
     .exact a0 i hi hk
     .have:i=k:=by omega
      subst this;rcases a3 with h|⟨_,h⟩
      .omega
      .refine⟨?_,?_,?_,?_⟩<;>omega) (by
    clear hL;rintro ⟨T,σ,nx⟩ ⟨hn,G,S,J,l,E,Y,a1,a0⟩;simp only at hn G S E J;subst hn G;refine⟨_,by simp only[go_sem,S,J,zl];rfl,by simp,.inl ⟨_,l,rfl,?_,Y,a1,fun i hi=>a0 i hi hi⟩⟩;simp only[go_sem,E]) (by
    simp only[go_sem];exact⟨_,rfl,by omega,by omega,fun i _ h=>absurd h (zW _)⟩)
  rcases hr with ⟨T,l,rfl,E,h2,h3,J⟩|⟨T,rfl,E⟩
  .refine⟨l,?_,.inr ⟨h2,by omega⟩,fun _=>J⟩
   simp only[go_sem,E]
  .refine⟨-1,?_,.inl rfl,fun h=>absurd h (by decide)⟩
   simp only[go_sem,E]
theorem aaO(x:Yard)(left:Int)(h:okYard x)(O:0<=left)(S:left<=1048576):∃r,fn ZH conv ext 15 [.agg (cYard x),I left]=some (I r)/\Szd r left (x.stances.length+x.moves.length)/\(0<=r->∀i (h:i<x.stances.length),FZ x.stances[i]):=by
 obtain⟨a,E,G,Y⟩:=aeE x.stances left h.1 O S
 by_cases ha:a<0
 .refine⟨-1,?_,.inl rfl,fun h=>absurd h (by decide)⟩
  rw[mM,nG [.tmp 4] [] func15];simp only[go_sem,E,ha]
 rcases G with G|⟨_,G⟩
 .omega
 obtain⟨b,b1,J⟩:=akV x.moves a h.2.1 (by omega) (by omega)
 by_cases hb:b<0
 .refine⟨-1,?_,.inl rfl,fun h=>absurd h (by decide)⟩
  rw[mM,nG [.tmp 4] [] func15];simp only[go_sem,E,ha,b1,hb]
 rcases J with J|⟨_,J⟩
 .omega
 refine⟨b,?_,.inr ⟨by omega,by omega⟩,fun _=>Y (by omega)⟩;rw[mM,nG [.tmp 4] [] func15];simp only[go_sem,E,ha,b1,hb]
def ix{α:Type}(p:α->Bool)(xs:List α):Int:=if xs.findIdx p<xs.length then xs.findIdx p else -1
theorem Io{α:Type}{p:α->Bool}{xs:List α}{k:Nat}(E:k<xs.length)(G:∀i (h:i<xs.length),i<k->p xs[i]=false)(h:p xs[k]=true):ix p xs=k:=by
 have:xs.findIdx p=k:=(List.findIdx_eq E).mpr ⟨h,fun j J=>G j (by omega) J⟩;unfold ix;rw[this,sS E]
theorem kD{α:Type}{p:α->Bool}{xs:List α}(E:∀i (h:i<xs.length),p xs[i]=false):ix p xs= -1:=by
 have:xs.findIdx p=xs.length:=List.findIdx_eq_length.mpr fun x G=>by
  obtain⟨i,hi,rfl⟩:=yV G;exact E i hi
 unfold ix;rw[this,sW (Nat.lt_irrefl _)]
theorem kC{α:Type}{p:α->Bool}{xs:List α}{k:Nat}(O:k<xs.length)(J:∀i (h:i<xs.length),i<k->p xs[i]=false)(h:p xs[k]=false):∀i (h:i<xs.length),i<k+1->p xs[i]=false:=by
 intro i hi E;rcases xw (xg E)with G|G
 .exact J i hi G
 .subst G;exact h
theorem WJ(xs:List Stance)(c:V)(g:FuncId)(p:Stance->Bool)(t:V)(h:xs.length<=maxLen)(hc:conv g= .Jo)(ht:strip lI 7 t=some (t,[]))(hg:∀x∈xs,fn ZH conv ext g [.agg (cStance x),t]=some (Bo (p x))) :
  fn ZH conv ext 114 [LL cStance xs,.clo g [t]]=some (I (ix p xs)):=by
 have e2:(xs.length:Int)<=9223372036854775807:=by unfold maxLen at h;omega
 rw[mM,nG [.tmp 4] [] func114];simp only[go_sem];generalize hL:dI _ _=y;obtain⟨r,rfl,hr⟩:=pF hL xs.length (fun k st=>st.nx=0/\st.σ=lI/\st.T 0=LL cStance xs/\st.T 1= .clo g [t]/\st.T 7=I xs.length/\st.T 8=I k/\∀i (h:i<xs.length),i<k->p xs[i]=false)
  (fun r=>(∃T,r=(.exit 0,⟨T,lI,0⟩)/\ix p xs= -1)\/(∃T,r=(.ret,⟨T,lI,0⟩)/\T 4=I (ix p xs))) (by
   clear hL;rintro k ⟨T,σ,nx⟩ E ⟨hn,G,Y,J,S,h8,hi⟩;simp only at hn G Y J S h8;subst hn G;have f1:(k:Int)<(xs.length:Int):=by omega
   have f2:=jD k;have f3:=ZQ (n:=(k:Int)+1);have f4:=Td xs k E;have f5:=Il xs;have f6:k*5+5<=xs.length*5:=by omega
   have f9:=Tf xs k E;have O:=hg xs[k] (zu E);cases hp:p xs[k]with
   |true=>
    rw[hp]at O;refine .inr ⟨_,by simp only[go_sem,Y,J,S,h8,f1,f2,f4,f5,f6,f9,O,hc,ht];rfl,by simp,.inr ⟨_,rfl,?_⟩⟩;simp only[go_sem];rw[Io E hi hp]
   |false=>
    rw[hp]at O;refine .inl ⟨_,by simp only[go_sem,Y,J,S,h8,f1,f2,f3,f4,f5,f6,f9,O,hc,ht];rfl,?_⟩;simp only[go_sem,Y,J,S];exact⟨rfl,kC E hi hp⟩) (by
   clear hL;rintro ⟨T,σ,nx⟩ ⟨hn,G,Y,J,S,h8,hi⟩;simp only at hn G Y J S h8;subst hn G;exact⟨_,by simp only[go_sem,S,h8,zl];rfl,by simp,.inl ⟨_,rfl,kD fun i h=>hi i h h⟩⟩) (by
   simp only[go_sem];exact fun i _ h=>absurd h (zW _))
 rcases hr with ⟨T,rfl,J⟩|⟨T,rfl,J⟩
 .simp only[go_sem,J]
 .simp only[go_sem,J]
theorem aaP(xs:List Joint)(c:V)(g:FuncId)(p:Joint->Bool)(t:V)(h:xs.length<=maxLen)(hc:conv g= .Jo)(ht:strip lI 7 t=some (t,[]))(hg:∀x∈xs,fn ZH conv ext g [.agg (cJoint x),t]=some (Bo (p x))) :
  fn ZH conv ext 158 [LL cJoint xs,.clo g [t]]=some (I (ix p xs)):=by
 have e2:(xs.length:Int)<=9223372036854775807:=by unfold maxLen at h;omega
 rw[mM,nG [.tmp 4] [] func158];simp only[go_sem];generalize hL:dI _ _=y;obtain⟨r,rfl,hr⟩:=pF hL xs.length (fun k st=>st.nx=0/\st.σ=lI/\st.T 0=LL cJoint xs/\st.T 1= .clo g [t]/\st.T 7=I xs.length/\st.T 8=I k/\∀i (h:i<xs.length),i<k->p xs[i]=false)
  (fun r=>(∃T,r=(.exit 0,⟨T,lI,0⟩)/\ix p xs= -1)\/(∃T,r=(.ret,⟨T,lI,0⟩)/\T 4=I (ix p xs))) (by
   clear hL;rintro k ⟨T,σ,nx⟩ E ⟨hn,G,Y,J,S,h8,hi⟩;simp only at hn G Y J S h8;subst hn G;have f1:(k:Int)<(xs.length:Int):=by omega
   have f2:=jD k;have f3:=ZQ (n:=(k:Int)+1);have f4:=Hr xs k E;have f5:=EN xs;have f6:k*4+4<=xs.length*4:=by omega
   have f9:=JD xs k E;have O:=hg xs[k] (zu E);cases hp:p xs[k]with
   |true=>
    rw[hp]at O;refine .inr ⟨_,by simp only[go_sem,Y,J,S,h8,f1,f2,f4,f5,f6,f9,O,hc,ht];rfl,by simp,.inr ⟨_,rfl,?_⟩⟩;simp only[go_sem];rw[Io E hi hp]
   |false=>
    rw[hp]at O;refine .inl ⟨_,by simp only[go_sem,Y,J,S,h8,f1,f2,f3,f4,f5,f6,f9,O,hc,ht];rfl,?_⟩;simp only[go_sem,Y,J,S];exact⟨rfl,kC E hi hp⟩) (by
   clear hL;rintro ⟨T,σ,nx⟩ ⟨hn,G,Y,J,S,h8,hi⟩;simp only at hn G Y J S h8;subst hn G;exact⟨_,by simp only[go_sem,S,h8,zl];rfl,by simp,.inl ⟨_,rfl,kD fun i h=>hi i h h⟩⟩) (by
   simp only[go_sem];exact fun i _ h=>absurd h (zW _))
 rcases hr with ⟨T,rfl,J⟩|⟨T,rfl,J⟩
 .simp only[go_sem,J]
 .simp only[go_sem,J]
theorem WL(xs:List Member)(c:V)(g:FuncId)(p:Member->Bool)(t:V)(h:xs.length<=maxLen)(hc:conv g= .Jo)(ht:strip lI 7 t=some (t,[]))(hg:∀x∈xs,fn ZH conv ext g [.agg (cMember x),t]=some (Bo (p x))) :
  fn ZH conv ext 160 [LL cMember xs,.clo g [t]]=some (I (ix p xs)):=by
 have e2:(xs.length:Int)<=9223372036854775807:=by unfold maxLen at h;omega
 rw[mM,nG [.tmp 4] [] func160];simp only[go_sem];generalize hL:dI _ _=y;obtain⟨r,rfl,hr⟩:=pF hL xs.length (fun k st=>st.nx=0/\st.σ=lI/\st.T 0=LL cMember xs/\st.T 1= .clo g [t]/\st.T 7=I xs.length/\st.T 8=I k/\∀i (h:i<xs.length),i<k->p xs[i]=false)
  (fun r=>(∃T,r=(.exit 0,⟨T,lI,0⟩)/\ix p xs= -1)\/(∃T,r=(.ret,⟨T,lI,0⟩)/\T 4=I (ix p xs))) (by
   clear hL;rintro k ⟨T,σ,nx⟩ E ⟨hn,G,Y,J,S,h8,hi⟩;simp only at hn G Y J S h8;subst hn G;have f1:(k:Int)<(xs.length:Int):=by omega
   have f2:=jD k;have f3:=ZQ (n:=(k:Int)+1);have f4:=Lc xs k E;have f5:=Gg xs;have f6:k*3+3<=xs.length*3:=by omega
   have f9:=Lh xs k E;have O:=hg xs[k] (zu E);cases hp:p xs[k]with
   |true=>
    rw[hp]at O;refine .inr ⟨_,by simp only[go_sem,Y,J,S,h8,f1,f2,f4,f5,f6,f9,O,hc,ht];rfl,by simp,.inr ⟨_,rfl,?_⟩⟩;simp only[go_sem];rw[Io E hi hp]
   |false=>
    rw[hp]at O;refine .inl ⟨_,by simp only[go_sem,Y,J,S,h8,f1,f2,f3,f4,f5,f6,f9,O,hc,ht];rfl,?_⟩;simp only[go_sem,Y,J,S];exact⟨rfl,kC E hi hp⟩) (by
   clear hL;rintro ⟨T,σ,nx⟩ ⟨hn,G,Y,J,S,h8,hi⟩;simp only at hn G Y J S h8;subst hn G;exact⟨_,by simp only[go_sem,S,h8,zl];rfl,by simp,.inl ⟨_,rfl,kD fun i h=>hi i h h⟩⟩) (by
   simp only[go_sem];exact fun i _ h=>absurd h (zW _))
 rcases hr with ⟨T,rfl,J⟩|⟨T,rfl,J⟩
 .simp only[go_sem,J]
 .simp only[go_sem,J]
theorem indexInt(xs:List Int)(c:V)(g:FuncId)(p:Int->Bool)(h:xs.length<=maxLen)(hc:conv g= .Jo)(hg:∀x∈xs,fn ZH conv ext g [I x]=some (Bo (p x))) :
  fn ZH conv ext 131 [LI xs,.clo g []]=some (I (ix p xs)):=by
 have e2:(xs.length:Int)<=9223372036854775807:=by unfold maxLen at h;omega
 rw[mM,nG [.tmp 4] [] func131];simp only[go_sem];generalize hL:dI _ _=y;obtain⟨r,rfl,hr⟩:=pF hL xs.length (fun k st=>st.nx=0/\st.σ=lI/\st.T 0=LI xs/\st.T 1= .clo g []/\st.T 7=I xs.length/\st.T 8=I k/\∀i (h:i<xs.length),i<k->p xs[i]=false)
  (fun r=>(∃T,r=(.exit 0,⟨T,lI,0⟩)/\ix p xs= -1)\/(∃T,r=(.ret,⟨T,lI,0⟩)/\T 4=I (ix p xs))) (by
   clear hL;rintro k ⟨T,σ,nx⟩ E ⟨hn,G,Y,J,S,h8,hi⟩;simp only at hn G Y J S h8;subst hn G;have f1:(k:Int)<(xs.length:Int):=by omega
   have f2:=jD k;have f3:=ZQ (n:=(k:Int)+1);have f4:(xs.flatMap cI)[k]?=some (I xs[k]):=cu I xs k E;have f9:=AZ xs k E;have O:=hg xs[k] (zu E);cases hp:p xs[k]with
   |true=>
    rw[hp]at O;refine .inr ⟨_,by simp only[go_sem,Y,J,S,h8,f1,f2,f4,f9,O,hc];rfl,by simp,.inr ⟨_,rfl,?_⟩⟩;simp only[go_sem];rw[Io E hi hp]
   |false=>
    rw[hp]at O;refine .inl ⟨_,by simp only[go_sem,Y,J,S,h8,f1,f2,f3,f4,f9,O,hc];rfl,?_⟩;simp only[go_sem,Y,J,S];exact⟨rfl,kC E hi hp⟩) (by
   clear hL;rintro ⟨T,σ,nx⟩ ⟨hn,G,Y,J,S,h8,hi⟩;simp only at hn G Y J S h8;subst hn G;exact⟨_,by simp only[go_sem,S,h8,zl];rfl,by simp,.inl ⟨_,rfl,kD fun i h=>hi i h h⟩⟩) (by
   simp only[go_sem];exact fun i _ h=>absurd h (zW _))
 rcases hr with ⟨T,rfl,J⟩|⟨T,rfl,J⟩
 .simp only[go_sem,J]
 .simp only[go_sem,J]
theorem Qq{α:Type}(p:α->Bool)(xs:List α):ix p xs<0↔∀x∈xs,p x=false:=by
 unfold ix
 by_cases h:xs.findIdx p<xs.length
 .rw[sS h]
  refine⟨fun E=>absurd E (by omega),fun E=>?_⟩;have:=List.findIdx_eq_length.mpr E;omega
 .rw[sW h]
  exact⟨fun _=>List.findIdx_eq_length.mp (Nat.le_antisymm (List.findIdx_le_length) (by omega)),fun _=>by omega⟩
theorem aeF(xs:List Member)(g:FuncId)(p:Member->Bool)(t:V)(h:xs.length<=maxLen)(hc:conv g= .Jo)(G:strip lI 7 t=some (t,[]))(E:strip lI 6 t=some (t,[]))(J:∀x∈xs,fn ZH conv ext g [.agg (cMember x),t]=some (Bo (p x))) :
  fn ZH conv ext 126 [LL cMember xs,.clo g [t]]=some (Bo (decide (0<=ix p xs))):=by
 have O:=WL xs (.clo g [t]) g p t h hc G J;rw[mM,nG [.tmp 4] [] func126];simp only[go_sem,O,G,E]
theorem aaQ(xs:List Int)(g:FuncId)(p:Int->Bool)(h:xs.length<=maxLen)(hc:conv g= .Jo)(E:∀x∈xs,fn ZH conv ext g [I x]=some (Bo (p x))) :
  fn ZH conv ext 105 [LI xs,.clo g []]=some (Bo (decide (0<=ix p xs))):=by
 have G:=indexInt xs (.clo g []) g p h hc E;rw[mM,nG [.tmp 4] [] func105];simp only[go_sem,G]
noncomputable def pb(p:Prop):Bool:=@decide p (Classical.propDecidable p)
theorem h_{p:Prop}(h:p):pb p=true:=by unfold pb;exact(@decide_eq_true_iff p (Classical.propDecidable p)).mpr h
theorem iC{p:Prop}(h:¬p):pb p=false:=by unfold pb;exact(@decide_eq_false_iff_not p (Classical.propDecidable p)).mpr h
theorem Qr{p:Prop}{b:Bool}(h:b=true↔p):b=pb p:=by
 cases b with
 |true=>exact(h_ (h.mp rfl)).symm
 |false=>exact(iC (fun hp=>by cases h.mpr hp)).symm
theorem Ip{p:Prop}(h:pb p=true):p:=by
 unfold pb at h;exact(@decide_eq_true_iff p (Classical.propDecidable p)).mp h
def inB(n a b:Int):Bool:=decide (a<=n) && decide (n<=b)
theorem jv(n a b:Int):fn ZH conv ext 49 [I n,I a,I b]=some (Bo (inB n a b)):=by
 unfold inB;rw[mM,nG [.tmp 6] [] func49]
 by_cases h:a<=n<;>simp only[go_sem,h]
theorem akX(n:Int):fn ZH conv ext 130 [I n]=some (Bo (inB n (-100) 100)):=by
 unfold inB;rw[mM,nG [.tmp 2] [] func130]
 by_cases h:-100<=n<;>simp only[go_sem,h]
theorem akY(n:Int):fn ZH conv ext 107 [I n]=some (Bo (inB n (0) 1000)):=by
 unfold inB;rw[mM,nG [.tmp 2] [] func107]
 by_cases h:0<=n<;>simp only[go_sem,h]
theorem ab9(n:Int):fn ZH conv ext 157 [I n]=some (Bo (inB n (-50) 50)):=by
 unfold inB;rw[mM,nG [.tmp 2] [] func157]
 by_cases h:-50<=n<;>simp only[go_sem,h]
def Ej(b:UInt8):Bool:=decide (97<=(b.toNat:Int)) && decide ((b.toNat:Int)<=122)
def EO(b:UInt8):Bool:=decide (48<=(b.toNat:Int)) && decide ((b.toNat:Int)<=57)
theorem ahe(b:UInt8):fn ZH conv ext 101 [.sc (.int .u8 b.toNat)]=some (Bo (Ej b)):=by
 unfold Ej;rw[mM,nG [.tmp 2] [] func101]
 by_cases h:97<=(b.toNat:Int)<;>simp only[go_sem,h]
theorem isDigit(b:UInt8):fn ZH conv ext 102 [.sc (.int .u8 b.toNat)]=some (Bo (EO b)):=by
 unfold EO;rw[mM,nG [.tmp 2] [] func102]
 by_cases h:48<=(b.toNat:Int)<;>simp only[go_sem,h]
def Ey(k:Nat)(b:UInt8):Prop:=Ej b=true\/(k≠0/\EO b=true)
def Eh(s:ByteArray):Prop:=(∀k b,s[k]?=some b->Ey k b)/\1<=s.size/\s.size<=8
theorem ahf{s:ByteArray}{k:Nat}(h:k<s.size):∃b,s[k]?=some b:=⟨s[k],by simp[h]⟩
theorem ab_{s:ByteArray}{k:Nat}{b:UInt8}(h:s[k]?=some b):k<s.size:=by
 by_cases E:k<s.size
 .exact E
 .simp[E]at h
theorem Ns{s:ByteArray}(h:∀i b,s[i]?=some b->Ey i b):pb (Eh s)=inB s.size 1 8:=by
 unfold inB
 by_cases E:(1:Int)<=s.size
 .by_cases G:(s.size:Int)<=8
  .rw[h_ ⟨h,by omega,by omega⟩,sO E,sO G];rfl
  .rw[iC (fun hn=>G (by have:=hn.2.2;omega)),sO E,sN G];rfl
 .rw[iC (fun hn=>E (by have:=hn.2.1;omega)),sN E];rfl
theorem pq{s:ByteArray}{k:Nat}{b:UInt8}(hi:∀i b,i<k->s[i]?=some b->Ey i b)(hb:s[k]?=some b)(h:Ey k b):∀i b,i<k+1->s[i]?=some b->Ey i b:=by
 intro i c E hc;rcases xw (xg E)with G|G
 .exact hi i c G hc
 .subst G
  rw[hb]at hc;cases hc;exact h
theorem jA{k:Nat}{b:UInt8}(J:Ej b=false)(E:k=0\/EO b=false):¬Ey k b:=by
 rintro (h|⟨h,G⟩)
 .rw[J]at h;cases h
 .rcases E with E|E
  .exact h E
  .rw[E]at G;cases G
theorem jh{b:UInt8}(h:¬(97<=(b.toNat:Int))):Ej b=false:=by unfold Ej;rw[sN h];rfl
theorem Nu{b:UInt8}(h:¬((b.toNat:Int)<=122)):Ej b=false:=by unfold Ej;rw[sN h,xu]
theorem aeG{b:UInt8}(h:(b.toNat:Int)<48):EO b=false:=by unfold EO;rw[sN (by omega)];rfl
theorem Qs{b:UInt8}(h:57<(b.toNat:Int)):EO b=false:=by unfold EO;rw[sN (p:=(b.toNat:Int)<=57) (by omega),xu]
theorem aeH{b:UInt8}(h:¬(b.toNat:Int)<48)(E:¬57<(b.toNat:Int)):EO b=true:=by unfold EO;rw[sO (by omega),sO (by omega)];rfl
theorem acd(s:ByteArray)(hs:okS s):fn ZH conv ext 69 [Sg s]=some (Bo (pb (Eh s))):=by
 have e2:(s.size:Int)<=9223372036854775807:=by unfold okS at hs;omega
 rw[mM,nG [.tmp 2] [] func69];simp only[go_sem];generalize hL:dI _ _=y;obtain⟨r,rfl,hr⟩:=pF hL s.size (fun k st=>st.nx=0/\st.σ=lI/\st.T 0=Sg s/\st.T 3=I k/\∀i b,i<k->s[i]?=some b->Ey i b)
  (fun r=>(∃T,r=(.exit 0,⟨T,lI,0⟩)/\T 0=Sg s/\∀i b,s[i]?=some b->Ey i b)\/(∃T,r=(.ret,⟨T,lI,0⟩)/\T 2=Bo false/\¬Eh s)) (by
   clear hL;rintro k ⟨T,σ,nx⟩ a0 ⟨hn,G,E,J,hi⟩;simp only at hn G E J;subst hn G;have f1:(k:Int)<(s.size:Int):=by omega
   have f2:=jD k;have f3:=ZQ (n:=(k:Int)+1);obtain⟨b,O⟩:=ahf a0;have no:¬Ey k b->¬Eh s:=fun h hn=>h (hn.1 k b O)
   by_cases c1:97<=(b.toNat:Int)
   .by_cases c2:(b.toNat:Int)<=122
    .refine .inl ⟨_,by simp only[go_sem,E,J,f1,f2,f3,O,c1,c2];rfl,?_⟩
     simp only[go_sem,E];exact⟨rfl,pq hi O (.inl (by unfold Ej;rw[sO c1,sO c2];rfl))⟩
    .have d1:¬(b.toNat:Int)<48:=by omega
     have d2:57<(b.toNat:Int):=by omega
     by_cases Y:k=0
     .have S:((k:Int)==0)=true:=by subst Y;rfl
      exact .inr ⟨_,by simp only[go_sem,E,J,f1,f2,O,c1,c2,S];rfl,by simp,.inr ⟨_,rfl,by simp only[go_sem],no (jA (Nu c2) (.inl Y))⟩⟩
     .have S:((k:Int)==0)=false:=by simpa using Y
      exact .inr ⟨_,by simp only[go_sem,E,J,f1,f2,O,c1,c2,S,d1,d2];rfl,by simp,.inr ⟨_,rfl,by simp only[go_sem],no (jA (Nu c2) (.inr (Qs d2)))⟩⟩
   .by_cases Y:k=0
    .have S:((k:Int)==0)=true:=by subst Y;rfl
     exact .inr ⟨_,by simp only[go_sem,E,J,f1,f2,O,c1,S];rfl,by simp,.inr ⟨_,rfl,by simp only[go_sem],no (jA (jh c1) (.inl Y))⟩⟩
    .have S:((k:Int)==0)=false:=by simpa using Y
     by_cases d1:(b.toNat:Int)<48
     .exact .inr ⟨_,by simp only[go_sem,E,J,f1,f2,O,c1,S,d1];rfl,by simp,.inr ⟨_,rfl,by simp only[go_sem],no (jA (jh c1) (.inr (aeG d1)))⟩⟩
     .by_cases d2:57<(b.toNat:Int)
      .exact .inr ⟨_,by simp only[go_sem,E,J,f1,f2,O,c1,S,d1,d2];rfl,by simp,.inr ⟨_,rfl,by simp only[go_sem],no (jA (jh c1) (.inr (Qs d2)))⟩⟩
      .refine .inl ⟨_,by simp only[go_sem,E,J,f1,f2,f3,O,c1,S,d1,d2];rfl,?_⟩
       simp only[go_sem,E];exact⟨rfl,pq hi O (.inr ⟨Y,aeH d1 d2⟩)⟩) (by
   clear hL;rintro ⟨T,σ,nx⟩ ⟨hn,G,E,J,hi⟩;simp only at hn G E J;subst hn G;refine⟨_,by simp only[go_sem,E,J,zl];rfl,by simp,.inl ⟨_,rfl,?_,fun i b h=>hi i b (ab_ h) h⟩⟩;simp only[go_sem,E]) (by
   simp only[go_sem];exact fun i b h=>absurd h (zW _))
 rcases hr with ⟨T,rfl,E,h1⟩|⟨T,rfl,E,h1⟩
 .have:=jv s.size 1 8
  simp only[go_sem,E,Ns h1,this]
 .simp only[go_sem,E,iC h1]
theorem toList_empty(s:ByteArray):(s.toList==({ data:=#[] }:ByteArray).toList)=decide (s.size=0):=by
 have e:(s.toList=[])=(s.size=0):=by
  rw[ByteArray.toList_eq];refine propext ⟨fun h=>?_,fun h=>zZ (by rw[yO];exact h)⟩;have:=congrArg List.length h;rw[yO]at this;exact this
 have E:({ data:=#[] }:ByteArray).toList=[]:=ByteArray.toList_mk [];rw[E]
 by_cases h:s.size=0
 .rw[e.mpr h,sO h];rfl
 .rw[sN h]
  cases G:s.toList with
  |nil=>exact absurd (e.mp G) h
  |cons a l=>rfl
theorem ace(s:ByteArray)(hs:okS s):fn ZH conv ext 76 [Sg s]=some (Bo (pb (Eh s))):=by
 have e2:(s.size:Int)<=9223372036854775807:=by unfold okS at hs;omega
 rw[mM,nG [.tmp 2] [] func76];simp only[go_sem];generalize hL:dI _ _=y;obtain⟨r,rfl,hr⟩:=pF hL s.size (fun k st=>st.nx=0/\st.σ=lI/\st.T 0=Sg s/\st.T 5=I s.size/\st.T 6=I k/\∀i b,i<k->s[i]?=some b->Ey i b)
  (fun r=>(∃T,r=(.exit 0,⟨T,lI,0⟩)/\T 0=Sg s/\∀i b,s[i]?=some b->Ey i b)\/(∃T,r=(.ret,⟨T,lI,0⟩)/\T 2=Bo false/\¬Eh s)) (by
   clear hL;rintro k ⟨T,σ,nx⟩ a0 ⟨hn,G,E,J,O,hi⟩;simp only at hn G E J O;subst hn G;have f1:(k:Int)<(s.size:Int):=by omega
   have f2:=jD k;have f3:=ZQ (n:=(k:Int)+1);obtain⟨b,S⟩:=ahf a0;have no:¬Ey k b->¬Eh s:=fun h hn=>h (hn.1 k b S)
   have g1:=ahe b;have g2:=isDigit b;cases hl:Ej b with
   |true=>
    rw[hl]at g1;refine .inl ⟨_,by simp only[go_sem,E,O,J,f1,f2,f3,S,g1];rfl,?_⟩;simp only[go_sem,E,J];exact⟨rfl,pq hi S (.inl hl)⟩
   |false=>
    rw[hl]at g1
    by_cases Y:k=0
    .have f0:((k:Int)==0)=true:=by subst Y;rfl
     exact .inr ⟨_,by simp only[go_sem,E,O,J,f1,f2,S,g1,f0];rfl,by simp,.inr ⟨_,rfl,by simp only[go_sem],no (jA hl (.inl Y))⟩⟩
    .have f0:((k:Int)==0)=false:=by simpa using Y
     cases hd:EO b with
     |true=>
      rw[hd]at g2;refine .inl ⟨_,by simp only[go_sem,E,O,J,f1,f2,f3,S,g1,g2,f0];rfl,?_⟩;simp only[go_sem,E,J];exact⟨rfl,pq hi S (.inr ⟨Y,hd⟩)⟩
     |false=>
      rw[hd]at g2;exact .inr ⟨_,by simp only[go_sem,E,O,J,f1,f2,S,g1,g2,f0];rfl,by simp,.inr ⟨_,rfl,by simp only[go_sem],no (jA hl (.inr hd))⟩⟩) (by
   clear hL;rintro ⟨T,σ,nx⟩ ⟨hn,G,E,J,O,hi⟩;simp only at hn G E J O;subst hn G;refine⟨_,by simp only[go_sem,E,O,J,zl];rfl,by simp,.inl ⟨_,rfl,?_,fun i b h=>hi i b (ab_ h) h⟩⟩;simp only[go_sem,E]) (by
   simp only[go_sem];exact fun i b h=>absurd h (zW _))
 rcases hr with ⟨T,rfl,E,h1⟩|⟨T,rfl,E,h1⟩
 .have he:=toList_empty s
  rw[Ns h1];unfold inB
  by_cases Y:s.size=0
  .have:¬(1:Int)<=s.size:=by omega
   rw[sO Y]at he;simp only[go_sem,E,this,he]
  .have:(1:Int)<=s.size:=by omega
   rw[sN Y]at he;simp only[go_sem,E,this,he]
 .simp only[go_sem,E,iC h1]
noncomputable def Ez(j:Joint):Bool:=pb (Eh j.name) && (inB j.x (-50) 50 && inB j.y (-50) 50)
theorem ahg(j:Joint)(h:okJoint j):fn ZH conv ext 117 [.agg (cJoint j)]=some (Bo (Ez j)):=by
 have E:=acd j.name h.1;have G:=jv j.x (-50) 50;have J:=jv j.y (-50) 50;unfold Ez;generalize pb (Eh j.name)=b1 at *;generalize inB j.x (-50) 50=O at *;generalize inB j.y (-50) 50=S at *;rw[mM,nG [.tmp 2] [] func117];cases b1<;>cases O<;>simp only[go_sem,E,G,J]
theorem ahh(j:Joint)(h:okJoint j):fn ZH conv ext 124 [.agg (cJoint j)]=some (Bo (Ez j)):=by
 have E:=ace j.name h.1;have G:=ab9 j.x;have J:=ab9 j.y;unfold Ez;generalize pb (Eh j.name)=b1 at *;generalize inB j.x (-50) 50=O at *;generalize inB j.y (-50) 50=S at *;rw[mM,nG [.tmp 2] [] func124];cases b1<;>cases O<;>simp only[go_sem,E,G,J]
abbrev isNamed(name:ByteArray)(s:Stance):Bool:=s.name.toList==name.toList
abbrev BK(name:ByteArray)(s:Joint):Bool:=s.name.toList==name.toList
theorem JE(name:ByteArray)(s:Stance):fn ZH conv ext 115 [.agg (cStance s),.tp [Sg name] 0]=some (Bo (isNamed name s)):=by
 rw[mM,nG [.tmp 3] [] func115];simp only[go_sem]
theorem Ti(y:Yard)(name:ByteArray)(h:y.stances.length<=maxLen):fn ZH conv ext 87 [.agg (cYard y),Sg name]=some (I (ix (isNamed name) y.stances)):=by
 have E:=WJ y.stances (.tp [Sg name] 0) 115 (isNamed name) (.tp [Sg name] 0) h (by rfl) (by rfl) (fun x _=>JE name x);rw[mM,nG [.tmp 4] [] func87];simp only[go_sem,E]
theorem Tj(y:Yard)(name:ByteArray)(h:y.stances.length<=maxLen):fn ZH conv ext 85 [.agg (cYard y),Sg name]=some (I (ix (isNamed name) y.stances)):=by
 have e2:(y.stances.length:Int)<=9223372036854775807:=by unfold maxLen at h;omega
 rw[mM,nG [.tmp 4] [] func85];simp only[go_sem];generalize Y:dI _ _=z;generalize a0:y.stances=xs at *;obtain⟨r,rfl,hr⟩:=pF Y xs.length (fun k st=>st.T 1=Sg name/\st.T 8=LL cStance xs/\st.T 9=I xs.length/\st.T 10=I k/\∀i (h:i<xs.length),i<k->isNamed name xs[i]=false)
  (fun r=>(∃st,r=(.exit 0,st)/\ix (isNamed name) xs= -1)\/(∃st,r=(.ret,st)/\st.T 4=I (ix (isNamed name) xs))) (by
   clear Y;rintro k ⟨T,σ,nx⟩ J ⟨G,S,O,E,hi⟩;simp only at G S O E;have f1:(k:Int)<(xs.length:Int):=by omega
   have f2:=jD k;have f3:=ZQ (n:=(k:Int)+1);have f4:=Td xs k J;have f5:=Il xs;have f6:k*5+5<=xs.length*5:=by omega
   have f9:=Tf xs k J;cases hp:isNamed name xs[k]with
   |true=>
    refine .inr ⟨_,by simp only[go_sem,G,S,O,E,f1,f2,f4,f5,f6,f9,hp];rfl,by simp,.inr ⟨_,rfl,?_⟩⟩;simp only[go_sem];rw[Io J hi hp]
   |false=>
    refine .inl ⟨_,by simp only[go_sem,G,S,O,E,f1,f2,f3,f4,f5,f6,f9,hp];rfl,?_⟩;simp only[go_sem,G,S,O];exact⟨rfl,kC J hi hp⟩) (by
   clear Y;rintro ⟨T,σ,nx⟩ ⟨G,S,O,E,hi⟩;simp only at G S O E;exact⟨_,by simp only[go_sem,O,E,zl];rfl,by simp,.inl ⟨_,rfl,kD fun i h=>hi i h h⟩⟩) (by
   simp only[go_sem];exact fun i _ h=>absurd h (zW _))
 rcases hr with ⟨⟨T,σ,nx⟩,rfl,G⟩|⟨⟨T,σ,nx⟩,rfl,G⟩
 .simp only[go_sem,G]
 .simp only at G
  simp only[go_sem,G]
theorem Lj(name:ByteArray)(s:Joint):fn ZH conv ext 159 [.agg (cJoint s),.tp [Sg name] 0]=some (Bo (BK name s)):=by
 rw[mM,nG [.tmp 3] [] func159];simp only[go_sem]
theorem WM(y:Structure)(name:ByteArray)(h:y.joints.length<=maxLen):fn ZH conv ext 125 [.agg (cStructure y),Sg name]=some (I (ix (BK name) y.joints)):=by
 have E:=aaP y.joints (.tp [Sg name] 0) 159 (BK name) (.tp [Sg name] 0) h (by rfl) (by rfl) (fun x _=>Lj name x);rw[mM,nG [.tmp 4] [] func125];simp only[go_sem,E]
theorem WO(y:Structure)(name:ByteArray)(h:y.joints.length<=maxLen):fn ZH conv ext 118 [.agg (cStructure y),Sg name]=some (I (ix (BK name) y.joints)):=by
 have e2:(y.joints.length:Int)<=9223372036854775807:=by unfold maxLen at h;omega
 rw[mM,nG [.tmp 4] [] func118];simp only[go_sem];generalize Y:dI _ _=z;generalize a0:y.joints=xs at *;obtain⟨r,rfl,hr⟩:=pF Y xs.length (fun k st=>st.T 1=Sg name/\st.T 8=LL cJoint xs/\st.T 9=I xs.length/\st.T 10=I k/\∀i (h:i<xs.length),i<k->BK name xs[i]=false)
  (fun r=>(∃st,r=(.exit 0,st)/\ix (BK name) xs= -1)\/(∃st,r=(.ret,st)/\st.T 4=I (ix (BK name) xs))) (by
   clear Y;rintro k ⟨T,σ,nx⟩ J ⟨G,S,O,E,hi⟩;simp only at G S O E;have f1:(k:Int)<(xs.length:Int):=by omega
   have f2:=jD k;have f3:=ZQ (n:=(k:Int)+1);have f4:=Hr xs k J;have f5:=EN xs;have f6:k*4+4<=xs.length*4:=by omega
   have f9:=JD xs k J;cases hp:BK name xs[k]with
   |true=>
    refine .inr ⟨_,by simp only[go_sem,G,S,O,E,f1,f2,f4,f5,f6,f9,hp];rfl,by simp,.inr ⟨_,rfl,?_⟩⟩;simp only[go_sem];rw[Io J hi hp]
   |false=>
    refine .inl ⟨_,by simp only[go_sem,G,S,O,E,f1,f2,f3,f4,f5,f6,f9,hp];rfl,?_⟩;simp only[go_sem,G,S,O];exact⟨rfl,kC J hi hp⟩) (by
   clear Y;rintro ⟨T,σ,nx⟩ ⟨G,S,O,E,hi⟩;simp only at G S O E;exact⟨_,by simp only[go_sem,O,E,zl];rfl,by simp,.inl ⟨_,rfl,kD fun i h=>hi i h h⟩⟩) (by
   simp only[go_sem];exact fun i _ h=>absurd h (zW _))
 rcases hr with ⟨⟨T,σ,nx⟩,rfl,G⟩|⟨⟨T,σ,nx⟩,rfl,G⟩
 .simp only[go_sem,G]
 .simp only at G
  simp only[go_sem,G]
def WQ(a b:Joint):Bool:=(!(a.x==b.x)|| !(a.y==b.y)) && !(a.fixed && b.fixed)
def Gy(n:Nat)(m:Member):Prop:=0<=m.a/\m.a<n/\0<=m.b/\m.b<n/\1<=m.kind/\m.kind<=3
noncomputable def PK(E:List Joint)(m:Member):Bool:=pb (Gy E.length m/\∀a b,E[m.a.toNat]?=some a->E[m.b.toNat]?=some b->WQ a b=true)
theorem jP{E:List Joint}{m:Member}(h:¬Gy E.length m):PK E m=false:=iC fun hn=>h hn.1
theorem JF{E:List Joint}{m:Member}(h:Gy E.length m){a b:Joint}(ha:E[m.a.toNat]?=some a)(hb:E[m.b.toNat]?=some b):PK E m=WQ a b:=by
 refine(Qr ⟨fun hp=>⟨h,fun c d hc G=>?_⟩,fun hn=>hn.2 a b ha hb⟩).symm;rw[ha]at hc;rw[hb]at G;cases hc;cases G;exact hp
set_option maxRecDepth 100000 in
theorem aeI(row:List V)(off:Nat)(E:List Joint)(m:Member)(G:row[off]?=some (LL cJoint E))(hl:E.length<=maxLen):fn ZH conv ext 128 [.tp row off,.agg (cMember m)]=some (Bo (PK E m)):=by
 rw[mM,nG [.tmp 4] [4] func128]
 by_cases c1:m.a<0
 .rw[jP (fun h=>by have:=h.1;omega)]
  simp only[go_sem,G,c1]
 by_cases J:(E.length:Int)<=m.a
 .rw[jP (fun h=>by have:=h.2.1;omega)]
  simp only[go_sem,G,c1,J]
 by_cases O:m.b<0
 .rw[jP (fun h=>by have:=h.2.2.1;omega)]
  simp only[go_sem,G,c1,J,O]
 by_cases S:(E.length:Int)<=m.b
 .rw[jP (fun h=>by have:=h.2.2.2.1;omega)]
  simp only[go_sem,G,c1,J,O,S]
 by_cases Y:m.kind<1
 .rw[jP (fun h=>by have:=h.2.2.2.2.1;omega)]
  simp only[go_sem,G,c1,J,O,S,Y]
 by_cases c6:3<m.kind
 .rw[jP (fun h=>by have:=h.2.2.2.2.2;omega)]
  simp only[go_sem,G,c1,J,O,S,Y,c6]
 have a1:0<=m.a:=by omega
 have a2:m.a<E.length:=by omega
 have b1:0<=m.b:=by omega
 have b2:m.b<E.length:=by omega
 have a3:m.a.toNat<E.length:=by omega
 have b3:m.b.toNat<E.length:=by omega
 rw[JF ⟨a1,a2,b1,b2,by omega,by omega⟩ (zy a3) (zy b3)];have f4:=Hr E _ a3;have g4:=Hr E _ b3;have f5:=EN E;have f6:m.a.toNat *4+4<=E.length*4:=by omega
 have g6:m.b.toNat *4+4<=E.length*4:=by omega
 have f9:=JD E _ a3;generalize E[m.a.toNat]=a at *;generalize E[m.b.toNat]=b at *;unfold WQ;cases hx:(a.x==b.x)<;>cases hy:(a.y==b.y)<;>cases ha:a.fixed<;>cases hb:b.fixed<;>
  (simp only[go_sem,G,c1,J,O,S,Y,c6,a1,a2,b1,b2,f4,g4,f5,f6,g6,f9,hx,hy,ha,hb,bne])<;>rfl
def Ar(s:Structure):Prop:=s.joints.length<=6/\s.members.length<=8/\(∀i (h:i<s.joints.length),Ez s.joints[i]=true/\ix (BK s.joints[i].name) s.joints=i)/\∀m∈s.members,PK s.joints m=true
theorem JG(s:Structure)(m:Member)(E:s.joints.length<=maxLen):fn ZH conv ext 127 [.agg (cMember m),.tp (cStructure s) 0]=some (Bo (!PK s.joints m)):=by
 have G:=aeI (cStructure s) 0 s.joints m rfl E;rw[mM,nG [.tmp 3] [] func127];simp only[go_sem,G]
theorem Iq(s:Structure)(h:okStructure s):fn ZH conv ext 103 [.agg (cStructure s)]=some (Bo (pb (Ar s))):=by
 have e2:(s.joints.length:Int)<=9223372036854775807:=by have:=h.1.2.1;omega
 have hm:=aeF s.members 127 (fun m=> !PK s.joints m) (.tp (cStructure s) 0) h.2.2.2 (by rfl) (by rfl) (by rfl) (fun x _=>JG s x h.1.2.2);rw[mM,nG [.tmp 2] [] func103]
 by_cases c1:(6:Int)<s.joints.length
 .rw[iC (fun hn=>by have:=hn.1;omega)]
  simp only[go_sem,c1]
 by_cases c2:(8:Int)<s.members.length
 .rw[iC (fun hn=>by have:=hn.2.1;omega)]
  simp only[go_sem,c1,c2]
 simp only[go_sem,c1,c2];generalize hL:dI _ _=y;obtain⟨r,rfl,hr⟩:=pF hL s.joints.length (fun k st=>0<st.nx/\st.σ 0=some ⟨cStructure s,0,true⟩/\st.T 1= .rp 0 0/\st.T 16=LL cJoint s.joints/\st.T 17=I s.joints.length/\st.T 18=I k/\∀i (h:i<s.joints.length),i<k->Ez s.joints[i]=true/\ix (BK s.joints[i].name) s.joints=i)
  (fun r=>(∃T σ nx,r=(.exit 0,⟨T,σ,nx⟩)/\σ 0=some ⟨cStructure s,0,true⟩/\T 1= .rp 0 0/\∀i (h:i<s.joints.length),Ez s.joints[i]=true/\ix (BK s.joints[i].name) s.joints=i)\/(∃T σ nx,r=(.ret,⟨T,σ,nx⟩)/\T 2=Bo false/\¬Ar s)) (by
   clear hL;rintro k ⟨T,σ,nx⟩ S ⟨hn,E,Y,J,G,O,hi⟩;simp only at hn E Y J G O;have f1:(k:Int)<(s.joints.length:Int):=by omega
   have f2:=jD k;have f3:=ZQ (n:=(k:Int)+1);have f4:=Hr s.joints k S;have f5:=EN s.joints;have f6:k*4+4<=s.joints.length*4:=by omega
   have f9:=JD s.joints k S;have t1:=ahh s.joints[k] (h.1.1 _ (zu S));have t2:=WM s s.joints[k].name h.1.2.2;have nz:¬0=nx:=by omega
   cases hj:Ez s.joints[k]with
   |false=>
    rw[hj]at t1;refine .inr ⟨_,by simp only[go_sem,Y,J,G,O,f1,f2,f4,f5,f6,f9,t1,nz];rfl,by simp,.inr ⟨_,_,_,rfl,?_,fun hn=>?_⟩⟩
    .simp only[go_sem]
    .have:=(hn.2.2.1 k S).1
     rw[hj]at this;cases this
   |true=>
    rw[hj]at t1
    by_cases hk:ix (BK s.joints[k].name) s.joints=k
    .rw[hk]at t2
     refine .inl ⟨_,by simp only[go_sem,Y,J,G,O,E,f1,f2,f3,f4,f5,f6,f9,t1,t2,nz];rfl,?_⟩;simp only[go_sem,Y,J,G,E,nz];refine⟨by omega,rfl,fun i a0 a1=>?_⟩;rcases xw (xg a1)with q|q
     .exact hi i a0 q
     .subst q;exact⟨hj,hk⟩
    .have a2:(ix (BK s.joints[k].name) s.joints !=(k:Int))=true:=by simpa using hk
     refine .inr ⟨_,by simp only[go_sem,Y,J,G,O,E,f1,f2,f4,f5,f6,f9,t1,t2,a2,nz];rfl,by simp,.inr ⟨_,_,_,rfl,?_,fun hn=>hk (hn.2.2.1 k S).2⟩⟩;simp only[go_sem]) (by
   clear hL;rintro ⟨T,σ,nx⟩ ⟨hn,E,Y,J,G,O,hi⟩;simp only at hn E Y J G O;exact⟨_,by simp only[go_sem,G,O,zl];rfl,by simp,.inl ⟨_,_,_,rfl,E,by simp only[go_sem,Y],fun i h=>hi i h h⟩⟩) (by
   simp only[go_sem];exact fun i _ h=>absurd h (zW _))
 rcases hr with ⟨T,σ,nx,rfl,E,Y,hj⟩|⟨T,σ,nx,rfl,h2,hn⟩
 .have:pb (Ar s)= !decide (0<=ix (fun m=> !PK s.joints m) s.members):=by
   refine(Qr ?_).symm;rw[vU,decide_eq_false_iff_not,Int.not_le,Qq];exact⟨fun hq=>⟨by omega,by omega,hj,fun m hm=>by simpa using hq m hm⟩,fun hq m hm=>by simp[hq.2.2.2 m hm]⟩
  rw[this];simp only[go_sem,E,Y,hm]
 .simp only[go_sem,h2,iC hn]
theorem kL{n a b:Int}(h:inB n a b=false):¬(a<=n/\n<=b):=by
 unfold inB at h;intro hn;rw[sO hn.1,sO hn.2]at h;cases h
theorem kK{n a b:Int}(h:inB n a b=true):a<=n/\n<=b:=by
 unfold inB at h;rw[zB,decide_eq_true_eq,decide_eq_true_eq]at h;exact h
theorem dL(s:Structure)(h:okStructure s):fn ZH conv ext 95 [.agg (cStructure s)]=some (Bo (pb (Ar s))):=by
 have e2:(s.joints.length:Int)<=9223372036854775807:=by have:=h.1.2.1;omega
 have e3:(s.members.length:Int)<=9223372036854775807:=by have:=h.2.2.1;omega
 rw[mM,nG [.tmp 2] [] func95]
 by_cases c1:(6:Int)<s.joints.length
 .rw[iC (fun hn=>by have:=hn.1;omega)]
  simp only[go_sem,c1]
 by_cases c2:(8:Int)<s.members.length
 .rw[iC (fun hn=>by have:=hn.2.1;omega)]
  simp only[go_sem,c1,c2]
 simp only[go_sem,c1,c2];generalize hL:dI _ _=y;obtain⟨r,rfl,hr⟩:=pF hL s.joints.length (fun k st=>0<st.nx/\st.σ 0=some ⟨cStructure s,0,true⟩/\st.T 1= .rp 0 0/\st.T 21=LL cJoint s.joints/\st.T 22=I s.joints.length/\st.T 23=I k/\∀i (h:i<s.joints.length),i<k->Ez s.joints[i]=true/\ix (BK s.joints[i].name) s.joints=i)
  (fun r=>(∃T σ nx,r=(.exit 0,⟨T,σ,nx⟩)/\0<nx/\σ 0=some ⟨cStructure s,0,true⟩/\T 1= .rp 0 0/\∀i (h:i<s.joints.length),Ez s.joints[i]=true/\ix (BK s.joints[i].name) s.joints=i)\/(∃T σ nx,r=(.ret,⟨T,σ,nx⟩)/\T 2=Bo false/\¬Ar s)) (by
   clear hL;rintro k ⟨T,σ,nx⟩ O ⟨hn,E,G,a4,Y,a5,hi⟩;simp only at hn E G a4 Y a5;have f1:(k:Int)<(s.joints.length:Int):=by omega
   have f2:=jD k;have f3:=ZQ (n:=(k:Int)+1);have f4:=Hr s.joints k O;have f5:=EN s.joints;have f6:k*4+4<=s.joints.length*4:=by omega
   have f9:=JD s.joints k O;have t1:=ahg s.joints[k] (h.1.1 _ (zu O));have t2:=WO s s.joints[k].name h.1.2.2;have nz:¬0=nx:=by omega
   cases hj:Ez s.joints[k]with
   |false=>
    rw[hj]at t1;refine .inr ⟨_,by simp only[go_sem,G,a4,Y,a5,f1,f2,f4,f5,f6,f9,t1,nz];rfl,by simp,.inr ⟨_,_,_,rfl,?_,fun hn=>?_⟩⟩
    .simp only[go_sem]
    .have:=(hn.2.2.1 k O).1
     rw[hj]at this;cases this
   |true=>
    rw[hj]at t1
    by_cases hk:ix (BK s.joints[k].name) s.joints=k
    .rw[hk]at t2
     refine .inl ⟨_,by simp only[go_sem,G,a4,Y,a5,E,f1,f2,f3,f4,f5,f6,f9,t1,t2,nz];rfl,?_⟩;simp only[go_sem,G,a4,Y,E,nz];refine⟨by omega,rfl,fun i a6 a7=>?_⟩;rcases xw (xg a7)with q|q
     .exact hi i a6 q
     .subst q;exact⟨hj,hk⟩
    .have b5:(ix (BK s.joints[k].name) s.joints !=(k:Int))=true:=by simpa using hk
     refine .inr ⟨_,by simp only[go_sem,G,a4,Y,a5,E,f1,f2,f4,f5,f6,f9,t1,t2,b5,nz];rfl,by simp,.inr ⟨_,_,_,rfl,?_,fun hn=>hk (hn.2.2.1 k O).2⟩⟩;simp only[go_sem]) (by
   clear hL;rintro ⟨T,σ,nx⟩ ⟨hn,E,G,a4,Y,a5,hi⟩;simp only at hn E G a4 Y a5;exact⟨_,by simp only[go_sem,Y,a5,zl];rfl,by simp,.inl ⟨_,_,_,rfl,hn,E,by simp only[go_sem,G],fun i h=>hi i h h⟩⟩) (by
   simp only[go_sem];exact fun i _ h=>absurd h (zW _))
 rcases hr with ⟨T,σ,nx,rfl,b6,E,G,hj⟩|⟨T,σ,nx,rfl,h2,hn⟩
 .clear hL
  have e4:=ZQ (n:=(s.joints.length:Int) - 1);simp only[go_sem,E,G,e4];generalize hL:dI _ _=y;obtain⟨r,rfl,hr⟩:=pF hL s.members.length (fun k st=>0<st.nx/\st.σ 0=some ⟨cStructure s,0,true⟩/\st.T 1= .rp 0 0/\st.T 5=I ((s.joints.length:Int) - 1)/\st.T 45=LL cMember s.members/\st.T 46=I s.members.length/\st.T 47=I k/\∀i (h:i<s.members.length),i<k->PK s.joints s.members[i]=true)
   (fun r=>(∃T σ nx,r=(.exit 2,⟨T,σ,nx⟩)/\∀i (h:i<s.members.length),PK s.joints s.members[i]=true)\/(∃T σ nx,r=(.ret,⟨T,σ,nx⟩)/\T 2=Bo false/\¬Ar s)) (by
    clear hL;rintro k ⟨T,σ,nx⟩ O ⟨hn,E,G,h5,a0,J,S,hi⟩;simp only at hn E G h5 a0 J S;have f1:(k:Int)<(s.members.length:Int):=by omega
    have f2:=jD k;have f3:=ZQ (n:=(k:Int)+1);have f4:=Lc s.members k O;have f5:=Gg s.members;have f6:k*3+3<=s.members.length*3:=by omega
    have f9:=Lh s.members k O;have no:PK s.joints s.members[k]=false->¬Ar s:=fun hb hn=>by
     rw[hn.2.2.2 _ (zu O)]at hb;cases hb
    obtain⟨m,b4⟩:∃m,m=s.members[k]:=⟨_,rfl⟩;rw[<- b4]at f4 no;have t1:=jv m.a 0 ((s.joints.length:Int) - 1);have t2:=jv m.b 0 ((s.joints.length:Int) - 1);have t3:=jv m.kind 1 3;have nz:¬0=nx:=by omega
    cases ha:inB m.a 0 ((s.joints.length:Int) - 1)with
    |false=>
     rw[ha]at t1;refine .inr ⟨_,by simp only[go_sem,G,h5,a0,J,S,E,f1,f2,f4,f5,f6,f9,t1,nz];rfl,by simp,.inr ⟨_,_,_,rfl,by simp only[go_sem],no (jP fun hm=>?_)⟩⟩;exact kL ha ⟨hm.1,by have:=hm.2.1;omega⟩
    |true=>
    rw[ha]at t1;cases hb:inB m.b 0 ((s.joints.length:Int) - 1)with
    |false=>
     rw[hb]at t2;refine .inr ⟨_,by simp only[go_sem,G,h5,a0,J,S,E,f1,f2,f4,f5,f6,f9,t1,t2,nz];rfl,by simp,.inr ⟨_,_,_,rfl,by simp only[go_sem],no (jP fun hm=>?_)⟩⟩;exact kL hb ⟨hm.2.2.1,by have:=hm.2.2.2.1;omega⟩
    |true=>
    rw[hb]at t2;cases hc:inB m.kind 1 3 with
    |false=>
     rw[hc]at t3;refine .inr ⟨_,by simp only[go_sem,G,h5,a0,J,S,E,f1,f2,f4,f5,f6,f9,t1,t2,t3,nz];rfl,by simp,.inr ⟨_,_,_,rfl,by simp only[go_sem],no (jP fun hm=>?_)⟩⟩;exact kL hc ⟨hm.2.2.2.2.1,hm.2.2.2.2.2⟩
    |true=>
    rw[hc]at t3;have qa:=kK ha;have qb:=kK hb;have qc:=kK hc;have a1:0<=m.a:=qa.1;have a2:m.a<s.joints.length:=by omega
    have b1:0<=m.b:=qb.1;have b2:m.b<s.joints.length:=by omega
    have a3:m.a.toNat<s.joints.length:=by omega
    have b3:m.b.toNat<s.joints.length:=by omega
    have hp:=JF ⟨a1,a2,b1,b2,qc.1,qc.2⟩ (zy a3) (zy b3);have k4:=Hr s.joints _ a3;have g4:=Hr s.joints _ b3;have k5:=EN s.joints;have k6:m.a.toNat *4+4<=s.joints.length*4:=by omega
    have g6:m.b.toNat *4+4<=s.joints.length*4:=by omega
    have k9:=JD s.joints _ a3;generalize s.joints[m.a.toNat]=a at *;generalize s.joints[m.b.toNat]=b at *;unfold WQ at hp;have n1:¬nx=nx+1:=by omega
    have n2:¬nx=nx+1+1:=by omega
    have n3:¬nx+1=nx+1+1:=by omega
    have n4:¬0=nx+1:=by omega
    have n5:¬0=nx+1+1:=by omega
    cases hx:(a.x==b.x)<;>cases hy:(a.y==b.y)<;>cases a8:a.fixed<;>cases a9:b.fixed<;>simp only[hx,hy,a8,a9,vH,wu,Bool.or_true,Bool.true_or,Bool.or_false,Bool.and_true,xu,vJ,wE]at hp<;>
    first
    |(refine .inl ⟨_,by simp only[go_sem,G,h5,a0,J,S,E,f1,f2,f3,f4,f5,f6,f9,t1,t2,t3,nz,a1,a2,b1,b2,k4,g4,k5,k6,g6,k9,n1,n2,n3,n4,n5,hx,hy,a8,a9];rfl,?_⟩
      simp only[go_sem,G,h5,a0,J,E,nz,n4,n5];refine⟨by omega,rfl,fun i a6 a7=>?_⟩;rcases xw (xg a7)with q|q
      .exact hi i a6 q
      .subst q;rw[<- b4];exact hp)
    |exact .inr ⟨_,by simp only[go_sem,G,h5,a0,J,S,E,f1,f2,f4,f5,f6,f9,t1,t2,t3,nz,a1,a2,b1,b2,k4,g4,k5,k6,g6,k9,n1,n2,n3,n4,n5,hx,hy,a8,a9];rfl,by simp,.inr ⟨_,_,_,rfl,by simp only[go_sem],no hp⟩⟩) (by
    clear hL;rintro ⟨T,σ,nx⟩ ⟨hn,E,G,h5,a0,J,S,hi⟩;simp only at hn E G J S;exact⟨_,by simp only[go_sem,J,S,zl];rfl,by simp,.inl ⟨_,_,_,rfl,fun i h=>hi i h h⟩⟩) (by
    simp only[go_sem,G,E];exact⟨b6,fun i _ h=>absurd h (zW _)⟩)
  rcases hr with ⟨T,σ,nx,rfl,hm⟩|⟨T,σ,nx,rfl,h2,hn⟩
  .have:Ar s:=⟨by omega,by omega,hj,fun m b7=>by obtain⟨i,hi,rfl⟩:=yV b7;exact hm i hi⟩
   simp only[go_sem,h_ this]
  .simp only[go_sem,h2,iC hn]
 .simp only[go_sem,h2,iC hn]
def Az(n:Nat)(l:List Int):Prop:=l.length=2*n/\∀x∈l,inB x (-100) 100=true
def BA(n:Nat)(l:List Int):Prop:=l.length=n/\∀x∈l,inB x 0 1000=true
theorem PL(x:Int):fn ZH conv ext 129 [I x]=some (Bo (!inB x (-100) 100)):=by
 have E:=akX x;rw[mM,nG [.tmp 2] [] func129];simp only[go_sem,E]
theorem Ll(x:Int):fn ZH conv ext 106 [I x]=some (Bo (!inB x 0 1000)):=by
 have E:=akY x;rw[mM,nG [.tmp 2] [] func106];simp only[go_sem,E]
theorem aeJ(row:List V)(off:Nat)(E:List Joint)(l:List Int)(S:row[off]?=some (LL cJoint E))(hj:E.length<=140737488351232)(hl:l.length<=maxLen):fn ZH conv ext 104 [.tp row off,LI l]=some (Bo (pb (Az E.length l))):=by
 have Y:=ZQ (n:=2*(E.length:Int));have h1:=aaQ l 129 (fun x=> !inB x (-100) 100) hl (by rfl) (fun x _=>PL x);rw[mM,nG [.tmp 4] [] func104]
 by_cases J:(l.length:Int)=2*(E.length:Int)
 .have G:((l.length:Int)==2*(E.length:Int))=true:=by simpa using J
  have:pb (Az E.length l)= !decide (0<=ix (fun x=> !inB x (-100) 100) l):=by
   refine(Qr ?_).symm;rw[vU,decide_eq_false_iff_not,Int.not_le,Qq];exact⟨fun O=>⟨by omega,fun m hm=>by simpa using O m hm⟩,fun O m hm=>by simp[O.2 m hm]⟩
  rw[this];simp only[go_sem,S,Y,h1,G]
 .have G:((l.length:Int)==2*(E.length:Int))=false:=by simpa using J
  rw[iC (fun hn=>J (by have:=hn.1;omega))];simp only[go_sem,S,Y,G]
theorem KF(row:List V)(off:Nat)(ms:List Member)(l:List Int)(O:row[off+1]?=some (LL cMember ms))(S:l.length<=maxLen):fn ZH conv ext 78 [.tp row off,LI l]=some (Bo (pb (BA ms.length l))):=by
 have Y:=aaQ l 106 (fun x=> !inB x 0 1000) S (by rfl) (fun x _=>Ll x);rw[mM,nG [.tmp 4] [] func78]
 by_cases G:(l.length:Int)=(ms.length:Int)
 .have E:((l.length:Int)==(ms.length:Int))=true:=by simpa using G
  have:pb (BA ms.length l)= !decide (0<=ix (fun x=> !inB x 0 1000) l):=by
   refine(Qr ?_).symm;rw[vU,decide_eq_false_iff_not,Int.not_le,Qq];exact⟨fun J=>⟨by omega,fun m hm=>by simpa using J m hm⟩,fun J m hm=>by simp[J.2 m hm]⟩
  rw[this];simp only[go_sem,O,Y,E]
 .have E:((l.length:Int)==(ms.length:Int))=false:=by simpa using G
  rw[iC (fun hn=>G (by have:=hn.1;omega))];simp only[go_sem,O,E]
theorem acf(s:Structure)(l:List Int)(h:okStructure s)(E:l.length<=maxLen):fn ZH conv ext 77 [.agg (cStructure s),LI l]=some (Bo (pb (Ar s) && pb (Az s.joints.length l))):=by
 have G:=Iq s h;have J:=aeJ (cStructure s) 0 s.joints l rfl (by have:=h.1.2.1;omega) E;rw[mM,nG [.tmp 4] [] func77];generalize pb (Ar s)=b at *;cases b<;>simp only[go_sem,G,J]
theorem acg(s:Structure)(l:List Int)(h:okStructure s)(hl:l.length<=maxLen):fn ZH conv ext 70 [.agg (cStructure s),LI l]=some (Bo (pb (Ar s) && pb (Az s.joints.length l))):=by
 have h1:=dL s h;have e2:(l.length:Int)<=9223372036854775807:=by unfold maxLen at hl;omega
 have e1:=ZQ (n:=2*(s.joints.length:Int)) (by have:=h.1.2.1;have:=h.2.2.1;omega) (by have:=h.1.2.1;have:=h.2.2.1;omega);rw[mM,nG [.tmp 4] [] func70];generalize pb (Ar s)=b at *;cases b with
 |false=>simp only[go_sem,h1]
 |true=>
 by_cases h2:(l.length:Int)=2*(s.joints.length:Int)
 .have S:((l.length:Int) !=2*(s.joints.length:Int))=false:=by simpa using h2
  simp only[go_sem,h1,e1,S];generalize hL:dI _ _=y;obtain⟨r,rfl,hr⟩:=pF hL l.length (fun k st=>st.T 19=LI l/\st.T 20=I l.length/\st.T 21=I k/\∀i (h:i<l.length),i<k->inB l[i] (-100) 100=true)
   (fun r=>(∃T σ nx,r=(.exit 0,⟨T,σ,nx⟩)/\Az s.joints.length l)\/(∃T σ nx,r=(.ret,⟨T,σ,nx⟩)/\T 4=Bo false/\¬Az s.joints.length l)) (by
    clear hL;rintro k ⟨T,σ,nx⟩ Y ⟨G,E,J,hi⟩;simp only at G E J;have f1:(k:Int)<(l.length:Int):=by omega
    have f2:=jD k;have f3:=ZQ (n:=(k:Int)+1);have f4:(l.flatMap cI)[k]?=some (I l[k]):=cu I l k Y;have f9:=AZ l k Y;have t1:=jv l[k] (-100) 100;cases hb:inB l[k] (-100) 100 with
    |true=>
     rw[hb]at t1;refine .inl ⟨_,by simp only[go_sem,G,E,J,f1,f2,f3,f4,f9,t1];rfl,?_⟩;simp only[go_sem,G,E];refine⟨rfl,fun i O a0=>?_⟩;rcases xw (xg a0)with q|q
     .exact hi i O q
     .subst q;exact hb
    |false=>
     rw[hb]at t1;refine .inr ⟨_,by simp only[go_sem,G,E,J,f1,f2,f4,f9,t1];rfl,by simp,.inr ⟨_,_,_,rfl,by simp only[go_sem],fun hn=>?_⟩⟩;have:=hn.2 _ (zu Y);rw[hb]at this;cases this) (by
    clear hL;rintro ⟨T,σ,nx⟩ ⟨G,E,J,hi⟩;simp only at G E J;exact⟨_,by simp only[go_sem,E,J,zl];rfl,by simp,.inl ⟨_,_,_,rfl,by omega,fun x hx=>by obtain⟨i,O,rfl⟩:=yV hx;exact hi i O O⟩⟩) (by
    simp only[go_sem];exact fun i _ h=>absurd h (zW _))
  rcases hr with ⟨T,σ,nx,rfl,hm⟩|⟨T,σ,nx,rfl,h2,hn⟩
  .simp only[go_sem,h_ hm]
  .simp only[go_sem,h2,iC hn]
 .have S:((l.length:Int) !=2*(s.joints.length:Int))=true:=by simpa using h2
  rw[iC (p:=Az s.joints.length l) (fun hn=>h2 (by have:=hn.1;omega))];simp only[go_sem,h1,e1,S]
theorem Qu(s:Structure)(l:List Int)(h:okStructure s)(hl:l.length<=maxLen):fn ZH conv ext 71 [.agg (cStructure s),LI l]=some (Bo (pb (Ar s) && pb (BA s.members.length l))):=by
 have h1:=dL s h;have e2:(l.length:Int)<=9223372036854775807:=by unfold maxLen at hl;omega
 have e1:=ZQ (n:=(s.members.length:Int)) (by have:=h.1.2.1;have:=h.2.2.1;omega) (by have:=h.1.2.1;have:=h.2.2.1;omega);rw[mM,nG [.tmp 4] [] func71];generalize pb (Ar s)=b at *;cases b with
 |false=>simp only[go_sem,h1]
 |true=>
 by_cases h2:(l.length:Int)=(s.members.length:Int)
 .have S:((l.length:Int) !=(s.members.length:Int))=false:=by simpa using h2
  simp only[go_sem,h1,e1,S];generalize hL:dI _ _=y;obtain⟨r,rfl,hr⟩:=pF hL l.length (fun k st=>st.T 18=LI l/\st.T 19=I l.length/\st.T 20=I k/\∀i (h:i<l.length),i<k->inB l[i] 0 1000=true)
   (fun r=>(∃T σ nx,r=(.exit 0,⟨T,σ,nx⟩)/\BA s.members.length l)\/(∃T σ nx,r=(.ret,⟨T,σ,nx⟩)/\T 4=Bo false/\¬BA s.members.length l)) (by
    clear hL;rintro k ⟨T,σ,nx⟩ Y ⟨G,E,J,hi⟩;simp only at G E J;have f1:(k:Int)<(l.length:Int):=by omega
    have f2:=jD k;have f3:=ZQ (n:=(k:Int)+1);have f4:(l.flatMap cI)[k]?=some (I l[k]):=cu I l k Y;have f9:=AZ l k Y;have t1:=jv l[k] 0 1000;cases hb:inB l[k] 0 1000 with
    |true=>
     rw[hb]at t1;refine .inl ⟨_,by simp only[go_sem,G,E,J,f1,f2,f3,f4,f9,t1];rfl,?_⟩;simp only[go_sem,G,E];refine⟨rfl,fun i O a0=>?_⟩;rcases xw (xg a0)with q|q
     .exact hi i O q
     .subst q;exact hb
    |false=>
     rw[hb]at t1;refine .inr ⟨_,by simp only[go_sem,G,E,J,f1,f2,f4,f9,t1];rfl,by simp,.inr ⟨_,_,_,rfl,by simp only[go_sem],fun hn=>?_⟩⟩;have:=hn.2 _ (zu Y);rw[hb]at this;cases this) (by
    clear hL;rintro ⟨T,σ,nx⟩ ⟨G,E,J,hi⟩;simp only at G E J;exact⟨_,by simp only[go_sem,E,J,zl];rfl,by simp,.inl ⟨_,_,_,rfl,by omega,fun x hx=>by obtain⟨i,O,rfl⟩:=yV hx;exact hi i O O⟩⟩) (by
    simp only[go_sem];exact fun i _ h=>absurd h (zW _))
  rcases hr with ⟨T,σ,nx,rfl,hm⟩|⟨T,σ,nx,rfl,h2,hn⟩
  .simp only[go_sem,h_ hm]
  .simp only[go_sem,h2,iC hn]
 .have S:((l.length:Int) !=(s.members.length:Int))=true:=by simpa using h2
  rw[iC (p:=BA s.members.length l) (fun hn=>h2 (by have:=hn.1;omega))];simp only[go_sem,h1,e1,S]
noncomputable def CO(t:Stance):Bool:=pb (Eh t.name) && ((pb (Ar t.st) && pb (Az t.st.joints.length t.load)) && pb (BA t.st.members.length t.limits))
theorem Qv(t:Stance)(h:okStance t):fn ZH conv ext 41 [.agg (cStance t)]=some (Bo (CO t)):=by
 have E:=ace t.name h.1;have G:=acf t.st t.load h.2.1 h.2.2.1.2.2;have J:=KF (cStance t) 1 t.st.members t.limits rfl h.2.2.2.2.2;unfold CO;generalize pb (Eh t.name)=b1 at *;generalize (pb (Ar t.st) && pb (Az t.st.joints.length t.load))=O at *;rw[mM,nG [.tmp 2] [] func41];cases b1<;>cases O<;>simp only[go_sem,E,G,J]
theorem Qw(t:Stance)(h:okStance t):fn ZH conv ext 37 [.agg (cStance t)]=some (Bo (CO t)):=by
 have E:=acd t.name h.1;have G:=acg t.st t.load h.2.1 h.2.2.1.2.2;have J:=Qu t.st t.limits h.2.1 h.2.2.2.2.2;unfold CO;generalize pb (Eh t.name)=b1 at *;generalize pb (Ar t.st)=O at *;generalize pb (Az t.st.joints.length t.load)=S at *;rw[mM,nG [.tmp 2] [] func37];cases b1<;>cases O<;>cases S<;>simp only[go_sem,E,G,J]
set_option maxRecDepth 100000 in
theorem akZ(x y:Operand)(a b c d:Int):Aj ZH .eql 83 x y (.agg [I a,I b]) (.agg [I c,I d])=some (Bo ((a==c) && (b==d))):=by
 refine aaH (us:=[.int .i64 a,.int .i64 b]) (vs:=[.int .i64 c,.int .i64 d]) (by kernel_rfl) Tryz.underlying83 (by kernel_rfl) rfl rfl ?_;refine(oH (a:=.int .i64 a) (b:=.int .i64 c) (r:=a==c) (by decide) (by kernel_rfl) (by kernel_rfl) (oJ _ _ _ _ _ _ Tryz.underlying3)).trans ?_;cases (a==c)
 .rfl
 .refine(oH (a:=.int .i64 b) (b:=.int .i64 d) (r:=b==d) (by decide) (by kernel_rfl) (by kernel_rfl) (oJ _ _ _ _ _ _ Tryz.underlying3)).trans ?_
  cases (b==d)<;>rfl
attribute [go_sem] akZ
def Cc(m o:TV.Move):Bool:=(m.fr==o.fr) && (m.to==o.to)
theorem Nv(m o:TV.Move):Cc m o=Cc o m:=by
 unfold Cc;rw[Bool.beq_comm (a:=m.fr),Bool.beq_comm (a:=m.to)]
theorem aeK(xs:List TV.Move)(m:TV.Move)(h:xs.length<=maxLen):fn ZH conv ext 88 [LL cMove xs,.agg (cMove m)]=some (I (ix (Cc m) xs)):=by
 have e2:(xs.length:Int)<=9223372036854775807:=by unfold maxLen at h;omega
 rw[mM,nG [.tmp 4] [] func88];simp only[go_sem];generalize hL:dI _ _=y;obtain⟨r,rfl,hr⟩:=pF hL xs.length (fun k st=>0<st.nx/\st.σ 0=some ⟨cMove m,0,true⟩/\st.T 0=LL cMove xs/\st.T 3= .rp 0 0/\st.T 7=I xs.length/\st.T 8=I k/\∀i (h:i<xs.length),i<k->Cc m xs[i]=false)
  (fun r=>(∃T σ nx,r=(.exit 0,⟨T,σ,nx⟩)/\ix (Cc m) xs= -1)\/(∃T σ nx,r=(.ret,⟨T,σ,nx⟩)/\T 4=I (ix (Cc m) xs))) (by
   clear hL;rintro k ⟨T,σ,nx⟩ G ⟨hn,E,Y,J,O,S,hi⟩;simp only at hn E Y J O S;have f1:(k:Int)<(xs.length:Int):=by omega
   have f2:=jD k;have f3:=ZQ (n:=(k:Int)+1);have f4:=PG xs k G;have f5:=Gx xs;have f6:k*2+2<=xs.length*2:=by omega
   have f9:=PI xs k G;cases hp:Cc m xs[k]with
   |true=>
    refine .inr ⟨_,by unfold Cc at hp;simp only[go_sem,Y,J,O,S,hn,E,f1,f2,f4,f5,f6,f9,hp];rfl,by simp,.inr ⟨_,_,_,rfl,?_⟩⟩;simp only[go_sem];rw[Io G hi hp]
   |false=>
    refine .inl ⟨_,by unfold Cc at hp;simp only[go_sem,Y,J,O,S,hn,E,f1,f2,f3,f4,f5,f6,f9,hp];rfl,?_⟩;simp only[go_sem,Y,J,O,E];exact⟨hn,rfl,kC G hi hp⟩) (by
   clear hL;rintro ⟨T,σ,nx⟩ ⟨hn,E,Y,J,O,S,hi⟩;simp only at O S;exact⟨_,by simp only[go_sem,O,S,zl];rfl,by simp,.inl ⟨_,_,_,rfl,kD fun i h=>hi i h h⟩⟩) (by
   simp only[go_sem];exact fun i _ h=>absurd h (zW _))
 rcases hr with ⟨T,σ,nx,rfl,J⟩|⟨T,σ,nx,rfl,J⟩
 .simp only[go_sem,J]
 .simp only[go_sem,J]
def CU(n:Nat)(m:TV.Move):Prop:=0<=m.fr/\m.fr<n/\0<=m.to/\m.to<n/\m.fr≠m.to
def AA(y:Yard):Prop:=y.stances.length<=6/\y.moves.length<=12/\(∀i (h:i<y.stances.length),CO y.stances[i]=true/\ix (isNamed y.stances[i].name) y.stances=i)/\∀i (h:i<y.moves.length),CU y.stances.length y.moves[i]/\ix (Cc y.moves[i]) y.moves=i
theorem ach(s:Yard)(h:okYard s):fn ZH conv ext 53 [.agg (cYard s)]=some (Bo (pb (AA s))):=by
 have e2:(s.stances.length:Int)<=9223372036854775807:=by have:=h.1.2.1;omega
 have e3:(s.moves.length:Int)<=9223372036854775807:=by have:=h.2.1.2.1;omega
 rw[mM,nG [.tmp 2] [] func53]
 by_cases c1:(6:Int)<s.stances.length
 .rw[iC (fun hn=>by have:=hn.1;omega)]
  simp only[go_sem,c1]
 by_cases c2:(12:Int)<s.moves.length
 .rw[iC (fun hn=>by have:=hn.2.1;omega)]
  simp only[go_sem,c1,c2]
 simp only[go_sem,c1,c2];generalize hL:dI _ _=y;obtain⟨r,rfl,hr⟩:=pF hL s.stances.length (fun k st=>0<st.nx/\st.σ 0=some ⟨cYard s,0,true⟩/\st.T 1= .rp 0 0/\st.T 20=LL cStance s.stances/\st.T 21=I s.stances.length/\st.T 22=I k/\st.T 3=I s.stances.length/\∀i (h:i<s.stances.length),i<k->CO s.stances[i]=true/\ix (isNamed s.stances[i].name) s.stances=i)
  (fun r=>(∃T σ nx,r=(.exit 0,⟨T,σ,nx⟩)/\0<nx/\σ 0=some ⟨cYard s,0,true⟩/\T 1= .rp 0 0/\T 3=I s.stances.length/\∀i (h:i<s.stances.length),CO s.stances[i]=true/\ix (isNamed s.stances[i].name) s.stances=i)\/(∃T σ nx,r=(.ret,⟨T,σ,nx⟩)/\T 2=Bo false/\¬AA s)) (by
   clear hL;rintro k ⟨T,σ,nx⟩ S ⟨hn,E,J,a1,a0,a2,h3,hi⟩;simp only at hn E J a1 a0 a2 h3;have f1:(k:Int)<(s.stances.length:Int):=by omega
   have f2:=jD k;have f3:=ZQ (n:=(k:Int)+1);have f4:=Td s.stances k S;have f5:=Il s.stances;have f6:k*5+5<=s.stances.length*5:=by omega
   have f9:=Tf s.stances k S;have t1:=Qv s.stances[k] (h.1.1 _ (zu S));have t2:=Ti s s.stances[k].name h.1.2.2;have nz:¬0=nx:=by omega
   cases hj:CO s.stances[k]with
   |false=>
    rw[hj]at t1;refine .inr ⟨_,by simp only[go_sem,J,a1,a0,a2,f1,f2,f4,f5,f6,f9,t1,nz];rfl,by simp,.inr ⟨_,_,_,rfl,?_,fun hn=>?_⟩⟩
    .simp only[go_sem]
    .have:=(hn.2.2.1 k S).1
     rw[hj]at this;cases this
   |true=>
    rw[hj]at t1
    by_cases hk:ix (isNamed s.stances[k].name) s.stances=k
    .rw[hk]at t2
     refine .inl ⟨_,by simp only[go_sem,J,a1,a0,a2,E,f1,f2,f3,f4,f5,f6,f9,t1,t2,nz];rfl,?_⟩;simp only[go_sem,J,a1,a0,E,nz,h3];refine⟨by omega,rfl,fun i a4 a5=>?_⟩;rcases xw (xg a5)with q|q
     .exact hi i a4 q
     .subst q;exact⟨hj,hk⟩
    .have a8:(ix (isNamed s.stances[k].name) s.stances !=(k:Int))=true:=by simpa using hk
     refine .inr ⟨_,by simp only[go_sem,J,a1,a0,a2,E,f1,f2,f4,f5,f6,f9,t1,t2,a8,nz];rfl,by simp,.inr ⟨_,_,_,rfl,?_,fun hn=>hk (hn.2.2.1 k S).2⟩⟩;simp only[go_sem]) (by
   clear hL;rintro ⟨T,σ,nx⟩ ⟨hn,E,J,a1,a0,a2,h3,hi⟩;simp only at hn E J a1 a0 a2 h3;exact⟨_,by simp only[go_sem,a0,a2,zl];rfl,by simp,.inl ⟨_,_,_,rfl,hn,E,by simp only[go_sem,J],by simp only[go_sem,h3],fun i h=>hi i h h⟩⟩) (by
   simp only[go_sem];exact fun i _ h=>absurd h (zW _))
 rcases hr with ⟨T,σ,nx,rfl,a9,E,J,h3,hj⟩|⟨T,σ,nx,rfl,h2,hn⟩
 .clear hL
  simp only[go_sem,E,J];generalize hL:dI _ _=y;obtain⟨r,rfl,hr⟩:=pF hL s.moves.length (fun k st=>0<st.nx/\st.σ 0=some ⟨cYard s,0,true⟩/\st.T 1= .rp 0 0/\st.T 3=I s.stances.length/\st.T 40=LL cMove s.moves/\st.T 41=I s.moves.length/\st.T 42=I k/\∀i (h:i<s.moves.length),i<k->CU s.stances.length s.moves[i]/\ix (Cc s.moves[i]) s.moves=i)
   (fun r=>(∃T σ nx,r=(.exit 2,⟨T,σ,nx⟩)/\∀i (h:i<s.moves.length),CU s.stances.length s.moves[i]/\ix (Cc s.moves[i]) s.moves=i)\/(∃T σ nx,r=(.ret,⟨T,σ,nx⟩)/\T 2=Bo false/\¬AA s)) (by
    clear hL;rintro k ⟨T,σ,nx⟩ S ⟨hn,E,J,h5,Y,G,O,hi⟩;simp only at hn E J h5 Y G O;have f1:(k:Int)<(s.moves.length:Int):=by omega
    have f2:=jD k;have f3:=ZQ (n:=(k:Int)+1);have f4:=PG s.moves k S;have f5:=Gx s.moves;have f6:k*2+2<=s.moves.length*2:=by omega
    have f9:=PI s.moves k S;have no:¬CU s.stances.length s.moves[k]->¬AA s:=fun hb hn=>hb (hn.2.2.2 k S).1
    have a7:¬ix (Cc s.moves[k]) s.moves=k->¬AA s:=fun hb hn=>hb (hn.2.2.2 k S).2
    have done:CU s.stances.length s.moves[k]->ix (Cc s.moves[k]) s.moves=k->∀i (h:i<s.moves.length),i<k+1->CU s.stances.length s.moves[i]/\ix (Cc s.moves[i]) s.moves=i:=fun g1 g2 i a4 a5=>by
     rcases xw (xg a5)with q|q
     .exact hi i a4 q
     .subst q;exact⟨g1,g2⟩
    have nz:¬0=nx:=by omega
    have t1:=aeK s.moves s.moves[k] h.2.1.2.2;generalize b3:ix (Cc s.moves[k]) s.moves=ii at t1 a7 done;obtain⟨m,b2⟩:∃m,m=s.moves[k]:=⟨_,rfl⟩;rw[<- b2]at f4 no done t1
    by_cases c1:m.fr<0
    .refine .inr ⟨_,by simp only[go_sem,J,h5,Y,G,O,E,f1,f2,f4,f5,f6,f9,nz,c1];rfl,by simp,.inr ⟨_,_,_,rfl,by simp only[go_sem],no fun hm=>?_⟩⟩
     have:=hm.1;omega
    by_cases c2:(s.stances.length:Int)<=m.fr
    .refine .inr ⟨_,by simp only[go_sem,J,h5,Y,G,O,E,f1,f2,f4,f5,f6,f9,nz,c1,c2];rfl,by simp,.inr ⟨_,_,_,rfl,by simp only[go_sem],no fun hm=>?_⟩⟩
     have:=hm.2.1;omega
    by_cases c3:m.to<0
    .refine .inr ⟨_,by simp only[go_sem,J,h5,Y,G,O,E,f1,f2,f4,f5,f6,f9,nz,c1,c2,c3];rfl,by simp,.inr ⟨_,_,_,rfl,by simp only[go_sem],no fun hm=>?_⟩⟩
     have:=hm.2.2.1;omega
    by_cases c4:(s.stances.length:Int)<=m.to
    .refine .inr ⟨_,by simp only[go_sem,J,h5,Y,G,O,E,f1,f2,f4,f5,f6,f9,nz,c1,c2,c3,c4];rfl,by simp,.inr ⟨_,_,_,rfl,by simp only[go_sem],no fun hm=>?_⟩⟩
     have:=hm.2.2.2.1;omega
    by_cases c5:m.fr=m.to
    .have a3:(m.fr==m.to)=true:=by simpa using c5
     exact .inr ⟨_,by simp only[go_sem,J,h5,Y,G,O,E,f1,f2,f4,f5,f6,f9,nz,c1,c2,c3,c4,a3];rfl,by simp,.inr ⟨_,_,_,rfl,by simp only[go_sem],no fun hm=>hm.2.2.2.2 c5⟩⟩
    have a3:(m.fr==m.to)=false:=by simpa using c5
    by_cases c6:ii=k
    .have a6:(ii !=(k:Int))=false:=by simpa using c6
     refine .inl ⟨_,by simp only[go_sem,J,h5,Y,G,O,E,f1,f2,f3,f4,f5,f6,f9,nz,c1,c2,c3,c4,a3,a6,t1];rfl,?_⟩;simp only[go_sem,J,h5,Y,G,E,nz];exact⟨by omega,rfl,done ⟨by omega,by omega,by omega,by omega,c5⟩ c6⟩
    .have a6:(ii !=(k:Int))=true:=by simpa using c6
     exact .inr ⟨_,by simp only[go_sem,J,h5,Y,G,O,E,f1,f2,f4,f5,f6,f9,nz,c1,c2,c3,c4,a3,a6,t1];rfl,by simp,.inr ⟨_,_,_,rfl,by simp only[go_sem],a7 c6⟩⟩) (by
    clear hL;rintro ⟨T,σ,nx⟩ ⟨hn,E,J,h5,Y,G,O,hi⟩;simp only at hn E J G O;exact⟨_,by simp only[go_sem,G,O,zl];rfl,by simp,.inl ⟨_,_,_,rfl,fun i h=>hi i h h⟩⟩) (by
    simp only[go_sem,J,E,h3];exact⟨a9,fun i _ h=>absurd h (zW _)⟩)
  rcases hr with ⟨T,σ,nx,rfl,hm⟩|⟨T,σ,nx,rfl,h2,hn⟩
  .have:AA s:=⟨by omega,by omega,hj,hm⟩
   simp only[go_sem,h_ this]
  .simp only[go_sem,h2,iC hn]
 .simp only[go_sem,h2,iC hn]
theorem Qx{α:Type}{p:α->Bool}{xs:List α}{k:Nat}(h:ix p xs=k)(i:Nat)(hi:i<xs.length)(E:i<k):p xs[i]=false:=by
 unfold ix at h
 split at h
 .have:i<xs.findIdx p:=by omega
  simpa using List.not_of_lt_findIdx this
 .omega
theorem ak0(s:Yard)(h:okYard s):fn ZH conv ext 47 [.agg (cYard s)]=some (Bo (pb (AA s))):=by
 have e2:(s.stances.length:Int)<=9223372036854775807:=by have:=h.1.2.1;omega
 have e3:(s.moves.length:Int)<=9223372036854775807:=by have:=h.2.1.2.1;omega
 rw[mM,nG [.tmp 2] [] func47]
 by_cases c1:(6:Int)<s.stances.length
 .rw[iC (fun hn=>by have:=hn.1;omega)]
  simp only[go_sem,c1]
 by_cases c2:(12:Int)<s.moves.length
 .rw[iC (fun hn=>by have:=hn.2.1;omega)]
  simp only[go_sem,c1,c2]
 simp only[go_sem,c1,c2];generalize hL:dI _ _=y;obtain⟨r,rfl,hr⟩:=pF hL s.stances.length (fun k st=>0<st.nx/\st.σ 0=some ⟨cYard s,0,true⟩/\st.T 1= .rp 0 0/\st.T 21=LL cStance s.stances/\st.T 22=I s.stances.length/\st.T 23=I k/\∀i (h:i<s.stances.length),i<k->CO s.stances[i]=true/\ix (isNamed s.stances[i].name) s.stances=i)
  (fun r=>(∃T σ nx,r=(.exit 0,⟨T,σ,nx⟩)/\0<nx/\σ 0=some ⟨cYard s,0,true⟩/\T 1= .rp 0 0/\∀i (h:i<s.stances.length),CO s.stances[i]=true/\ix (isNamed s.stances[i].name) s.stances=i)\/(∃T σ nx,r=(.ret,⟨T,σ,nx⟩)/\T 2=Bo false/\¬AA s)) (by
   clear hL;rintro k ⟨T,σ,nx⟩ Y ⟨hn,E,S,a2,a1,a3,hi⟩;simp only at hn E S a2 a1 a3;have f1:(k:Int)<(s.stances.length:Int):=by omega
   have f2:=jD k;have f3:=ZQ (n:=(k:Int)+1);have f4:=Td s.stances k Y;have f5:=Il s.stances;have f6:k*5+5<=s.stances.length*5:=by omega
   have f9:=Tf s.stances k Y;have t1:=Qw s.stances[k] (h.1.1 _ (zu Y));have t2:=Tj s s.stances[k].name h.1.2.2;have nz:¬0=nx:=by omega
   cases hj:CO s.stances[k]with
   |false=>
    rw[hj]at t1;refine .inr ⟨_,by simp only[go_sem,S,a2,a1,a3,f1,f2,f4,f5,f6,f9,t1,nz];rfl,by simp,.inr ⟨_,_,_,rfl,?_,fun hn=>?_⟩⟩
    .simp only[go_sem]
    .have:=(hn.2.2.1 k Y).1
     rw[hj]at this;cases this
   |true=>
    rw[hj]at t1
    by_cases hk:ix (isNamed s.stances[k].name) s.stances=k
    .rw[hk]at t2
     refine .inl ⟨_,by simp only[go_sem,S,a2,a1,a3,E,f1,f2,f3,f4,f5,f6,f9,t1,t2,nz];rfl,?_⟩;simp only[go_sem,S,a2,a1,E,nz];refine⟨by omega,rfl,fun i a0 a4=>?_⟩;rcases xw (xg a4)with q|q
     .exact hi i a0 q
     .subst q;exact⟨hj,hk⟩
    .have b7:(ix (isNamed s.stances[k].name) s.stances !=(k:Int))=true:=by simpa using hk
     refine .inr ⟨_,by simp only[go_sem,S,a2,a1,a3,E,f1,f2,f4,f5,f6,f9,t1,t2,b7,nz];rfl,by simp,.inr ⟨_,_,_,rfl,?_,fun hn=>hk (hn.2.2.1 k Y).2⟩⟩;simp only[go_sem]) (by
   clear hL;rintro ⟨T,σ,nx⟩ ⟨hn,E,S,a2,a1,a3,hi⟩;simp only at hn E S a2 a1 a3;exact⟨_,by simp only[go_sem,a1,a3,zl];rfl,by simp,.inl ⟨_,_,_,rfl,hn,E,by simp only[go_sem,S],fun i h=>hi i h h⟩⟩) (by
   simp only[go_sem];exact fun i _ h=>absurd h (zW _))
 rcases hr with ⟨T,σ,nx,rfl,b8,E,S,hj⟩|⟨T,σ,nx,rfl,h2,hn⟩
 .clear hL
  have e4:=ZQ (n:=(s.stances.length:Int) - 1);simp only[go_sem,E,S,e4];generalize hL:dI _ _=y;obtain⟨r,rfl,hr⟩:=pF hL s.moves.length (fun k st=>0<st.nx/\st.σ 0=some ⟨cYard s,0,true⟩/\st.T 1= .rp 0 0/\st.T 5=I ((s.stances.length:Int) - 1)/\st.T 45=LL cMove s.moves/\st.T 46=I s.moves.length/\st.T 47=I k/\∀i (h:i<s.moves.length),i<k->CU s.stances.length s.moves[i]/\ix (Cc s.moves[i]) s.moves=i)
   (fun r=>(∃T σ nx,r=(.exit 2,⟨T,σ,nx⟩)/\∀i (h:i<s.moves.length),CU s.stances.length s.moves[i]/\ix (Cc s.moves[i]) s.moves=i)\/(∃T σ nx,r=(.ret,⟨T,σ,nx⟩)/\T 2=Bo false/\¬AA s)) (by
    clear hL;rintro k ⟨T,σ,nx⟩ Y ⟨hn,E,S,h5,O,G,J,hi⟩;simp only at hn E S h5 O G J;have f1:(k:Int)<(s.moves.length:Int):=by omega
    have f2:=jD k;have f3:=ZQ (n:=(k:Int)+1);have f4:=PG s.moves k Y;have f5:=Gx s.moves;have f6:k*2+2<=s.moves.length*2:=by omega
    have f9:=PI s.moves k Y;have no:¬CU s.stances.length s.moves[k]->¬AA s:=fun hb hn=>hb (hn.2.2.2 k Y).1
    have b5:∀i (h:i<s.moves.length),i<k->Cc s.moves[i] s.moves[k]=true->¬AA s:=fun i a0 a4 hb hn=>by
     have:=Qx (hn.2.2.2 k Y).2 i a0 a4;rw[Nv,hb]at this;cases this
    have done:CU s.stances.length s.moves[k]->(∀i (h:i<s.moves.length),i<k->Cc s.moves[i] s.moves[k]=false)->∀i (h:i<s.moves.length),i<k+1->CU s.stances.length s.moves[i]/\ix (Cc s.moves[i]) s.moves=i:=fun g1 g2 i a0 a4=>by
     rcases xw (xg a4)with q|q
     .exact hi i a0 q
     .subst q
      exact⟨g1,Io a0 (fun j hj b9=>by rw[Nv];exact g2 j hj b9) (by unfold Cc;simp)⟩
    have nz:¬0=nx:=by omega
    obtain⟨m,c0⟩:∃m,m=s.moves[k]:=⟨_,rfl⟩;rw[<- c0]at f4 no b5 done;have t1:=jv m.fr 0 ((s.stances.length:Int) - 1);have t2:=jv m.to 0 ((s.stances.length:Int) - 1);cases ha:inB m.fr 0 ((s.stances.length:Int) - 1)with
    |false=>
     rw[ha]at t1;refine .inr ⟨_,by simp only[go_sem,S,h5,O,G,J,E,f1,f2,f4,f5,f6,f9,nz,t1];rfl,by simp,.inr ⟨_,_,_,rfl,by simp only[go_sem],no fun hm=>?_⟩⟩;exact kL ha ⟨hm.1,by have:=hm.2.1;omega⟩
    |true=>
    rw[ha]at t1;cases hb:inB m.to 0 ((s.stances.length:Int) - 1)with
    |false=>
     rw[hb]at t2;refine .inr ⟨_,by simp only[go_sem,S,h5,O,G,J,E,f1,f2,f4,f5,f6,f9,nz,t1,t2];rfl,by simp,.inr ⟨_,_,_,rfl,by simp only[go_sem],no fun hm=>?_⟩⟩;exact kL hb ⟨hm.2.2.1,by have:=hm.2.2.2.1;omega⟩
    |true=>
    rw[hb]at t2
    by_cases c5:m.fr=m.to
    .have a9:(m.fr==m.to)=true:=by simpa using c5
     exact .inr ⟨_,by simp only[go_sem,S,h5,O,G,J,E,f1,f2,f4,f5,f6,f9,nz,t1,t2,a9];rfl,by simp,.inr ⟨_,_,_,rfl,by simp only[go_sem],no fun hm=>hm.2.2.2.2 c5⟩⟩
    have a9:(m.fr==m.to)=false:=by simpa using c5
    have qa:=kK ha;have qb:=kK hb;have good:CU s.stances.length m:=⟨by omega,by omega,by omega,by omega,c5⟩;have b2:k<=s.moves.length:=by omega
    have c3:(s.moves.flatMap cMove).take (k*2)=(s.moves.take k).flatMap cMove:=by
     have e:=congrArg (fun l=>l.take (k*2)) (congrArg (fun l:List TV.Move=>l.flatMap cMove) (wM k s.moves)).symm;simp only[zU]at e;rw[e,xM];rw[Gx,zh,yA b2]
    refine bF ?_
    conv=>
     enter [1,x,1,1]
     simp only[go_sem,S,h5,O,G,J,E,f1,f2,f4,f5,f6,f9,nz,t1,t2,a9,c3,b2,Nat.sub_zero,wK]
    generalize hL:dI _ _=z;obtain⟨r,rfl,hr⟩:=pF hL k (fun j st=>nx<st.nx/\st.σ 0=some ⟨cYard s,0,true⟩/\st.σ nx=some ⟨cMove m,0,true⟩/\st.T 1= .rp 0 0/\st.T 5=I ((s.stances.length:Int) - 1)/\st.T 7= .rp nx 0/\st.T 45=LL cMove s.moves/\st.T 46=I s.moves.length/\st.T 47=I k/\st.T 74= .ts ((s.moves.take k).flatMap cMove) k/\st.T 75=I k/\st.T 76=I j/\∀i (h:i<s.moves.length),i<j->Cc s.moves[i] m=false)
     (fun r=>(∃T' σ' nx',r=(.exit 4,⟨T',σ',nx'⟩)/\0<nx'/\σ' 0=some ⟨cYard s,0,true⟩/\T' 1= .rp 0 0/\T' 5=I ((s.stances.length:Int) - 1)/\T' 45=LL cMove s.moves/\T' 46=I s.moves.length/\T' 47=I k/\∀i (h:i<s.moves.length),i<k->Cc s.moves[i] m=false)\/(∃T' σ' nx',r=(.ret,⟨T',σ',nx'⟩)/\T' 2=Bo false/\¬AA s)) (by
      clear hL;rintro j ⟨T',σ',nx'⟩ c4 ⟨hn,E,a6,S,h5,h7,O,G,J,a7,a5,a8,b3⟩;simp only at hn E a6 S h5 h7 O G J a7 a5 a8;have hl:(s.moves.take k).length=k:=by rw[zh,yA b2]
      have f1:(j:Int)<(k:Int):=by omega
      have f2:=jD j;have f3:=ZQ (n:=(j:Int)+1);have f4:=PG (s.moves.take k) j (by omega);rw[uh]at f4;have f5:=Gx (s.moves.take k);rw[hl]at f5;have f6:j*2+2<=k*2:=by omega
      have f9:=PI (s.moves.take k) j (by omega);have q1:¬nx=nx':=by omega
      have q2:¬0=nx':=by omega
      have c6:j<s.moves.length:=by omega
      cases hp:Cc s.moves[j] m with
      |true=>
       have b4:=hp;unfold Cc at hp;exact .inr ⟨_,by simp only[go_sem,S,h5,h7,O,G,J,a7,a5,a8,E,a6,f1,f2,f4,f5,f6,f9,q1,q2,hp];rfl,by simp,.inr ⟨_,_,_,rfl,by simp only[go_sem],b5 j c6 c4 b4⟩⟩
      |false=>
       have b4:=hp;unfold Cc at hp;refine .inl ⟨_,by simp only[go_sem,S,h5,h7,O,G,J,a7,a5,a8,E,a6,f1,f2,f3,f4,f5,f6,f9,q1,q2,hp];rfl,?_⟩;simp only[go_sem,S,h5,h7,O,G,J,a7,a5,E,a6,q1,q2];refine⟨by omega,rfl,fun i a0 a4=>?_⟩;rcases xw (xg a4)with q|q
       .exact b3 i a0 q
       .subst q;exact b4) (by
      clear hL;rintro ⟨T',σ',nx'⟩ ⟨hn,E,a6,S,h5,h7,O,G,J,a7,a5,a8,b3⟩;simp only at hn E a6 S h5 h7 O G J a7 a5 a8;refine⟨_,by simp only[go_sem,a5,a8,zl];rfl,by simp,.inl ⟨_,_,_,rfl,by omega,E,?_,?_,?_,?_,?_,b3⟩⟩<;>simp only[go_sem,S,h5,O,G,J]) (by
      simp only[go_sem,S,h5,O,G,J,E,nz];exact⟨by omega,fun i _ h=>absurd h (zW _)⟩)
    rcases hr with ⟨T',σ',nx',rfl,c7,PN,c8,c9,d0,d1,b6,a0⟩|⟨T',σ',nx',rfl,d2,d3⟩
    .refine⟨_,by simp only[go_sem,b6,f3];rfl,.inl ⟨_,rfl,?_⟩⟩
     simp only[go_sem,c8,c9,d0,d1,PN];exact⟨c7,rfl,done good a0⟩
    .exact⟨_,by simp only[go_sem];rfl,.inr ⟨by simp,.inr ⟨_,_,_,rfl,d2,d3⟩⟩⟩) (by
    clear hL;rintro ⟨T,σ,nx⟩ ⟨hn,E,S,h5,O,G,J,hi⟩;simp only at hn E S G J;exact⟨_,by simp only[go_sem,G,J,zl];rfl,by simp,.inl ⟨_,_,_,rfl,fun i h=>hi i h h⟩⟩) (by
    simp only[go_sem,S,E];exact⟨b8,fun i _ h=>absurd h (zW _)⟩)
  rcases hr with ⟨T,σ,nx,rfl,hm⟩|⟨T,σ,nx,rfl,h2,hn⟩
  .have:AA s:=⟨by omega,by omega,hj,hm⟩
   simp only[go_sem,h_ this]
  .simp only[go_sem,h2,iC hn]
 .simp only[go_sem,h2,iC hn]
def dg(n:Nat):List Int:=if n=0 then []else((n%1000000000:Nat):Int) :: dg (n / 1000000000)
termination_by n
decreasing_by exact tK (by omega) (by decide)
theorem oO:dg 0=[]:=by unfold dg;rfl
theorem oS{n:Nat}(h:n≠0):dg n=((n%1000000000:Nat):Int) :: dg (n / 1000000000):=by rw[dg,sW h]
theorem aci{k m n:Nat}(h:1000000000^k*m<=n)(hm:1<=m)(hn:n<=18446744073709551615):k<=2:=by
 rcases Nat.lt_or_ge k 3 with E|E
 .omega
 .have:=Nat.pow_le_pow_right (n:=1000000000) (by decide) E
  have G:1000000000^k*1<=1000000000^k*m:=tu _ hm;have J:(1000000000:Nat)^3=1000000000000000000000000000:=by decide
  omega
theorem Nw(n:Nat)(hn:n<=9223372036854775807):fn ZH conv ext 209 [I n]=some (LI (dg n)):=by
 rw[mM,nG [.tmp 2] [] func209];simp only[go_sem];generalize hL:dI _ _=y;obtain⟨r,rfl,T',σ',nx',rfl,hr⟩:=jV hL (fun m st=>st.T 0=I m/\∃acc,Grow st.T st.σ st.nx 3 acc/\dg n=acc++dg m/\1000000000^acc.length*m<=n)
  (fun r=>∃T σ nx,r=(.exit 0,⟨T,σ,nx⟩)/\Grow T σ nx 3 (dg n)) (by
   clear hL;rintro m ⟨T,σ,nx⟩ ⟨G,acc,E,J,hp⟩;simp only at G E
   by_cases hm:m=0
   .subst hm
    have O:¬(0:Int)<0:=by omega
    refine .inr ⟨_,by simp only[go_sem,G,O];rfl,by simp,_,_,_,rfl,?_⟩;rw[oO,zK]at J;rw[J]
    simpa only[Grow,go_sem]using E
   .have O:(0:Int)<(m:Int):=by omega
    have hk:=aci hp (by omega) (by omega);have a1:m<=n:=zL (tH _ (Nat.pow_pos (by decide))) hp;have f1:(m:Int).tmod 1000000000=((m%1000000000:Nat):Int):=by rw[xH (by omega)];omega
    have f2:IntKind.i64.wrap ((m:Int).tdiv 1000000000)=((m / 1000000000:Nat):Int):=by
     rw[yH (by omega)];rw[ZQ];omega
    have S:dg n=(acc++[((m%1000000000:Nat):Int)])++dg (m / 1000000000):=by rw[J,oS hm];simp
    have Y:1000000000^(acc++[((m%1000000000:Nat):Int)]).length*(m / 1000000000)<=n:=by
     rw[zo,yM,um,vG];exact zL (tu _ (Nat.mul_div_le _ _)) hp
    have a0:m / 1000000000<m:=tK (by omega) (by decide);obtain⟨σ',ha,hs⟩:=kU E ((m%1000000000:Nat):Int) (by omega);refine .inl ⟨_,by simp only[go_sem,G,O,f1,f2,ha];rfl,_,a0,?_,_,?_,S,Y⟩
    .simp only[go_sem]
    .exact kR hs (by simp[go_sem]) (by simp)) n ⟨by simp only[go_sem],[],.inl ⟨by simp only[go_sem],rfl⟩,rfl,by simp⟩
 obtain⟨ids,h1⟩:=kQ hr 6;simp only[go_sem,h1]
def Short(xs:List Int):Prop:=xs.length<=17592186044000
theorem idx{xs:List Int}{k:Nat}(h:k<xs.length):(xs.flatMap cI)[k]?=some (I xs[k]):=cu I xs k h
theorem qP(xs:List Int)(k:Nat):(xs.flatMap cI).take k=(xs.take k).flatMap cI:=by
 induction xs generalizing k with
 |nil=>simp
 |cons x xs E=>
  cases k with
  |zero=>rfl
  |succ k=>simp[E]
def Bf(a:List Int):List Int:=(a.reverse.dropWhile (·=0)).reverse
theorem Zq(a:List Int)(x:Int):Bf (a++[x])=if x=0 then Bf a else a++[x]:=by
 unfold Bf;simp only[List.reverse_append,List.reverse_cons,List.reverse_nil,yK,List.singleton_append,List.dropWhile_cons,decide_eq_true_eq]
 split<;>simp
theorem aH{a:List Int}{k:Nat}(h:k<a.length):a.take (k+1)=a.take k++[a[k]]:=by rw[yN,zy h];rfl
theorem bD(a:List Int)(ha:Short a):fn ZH conv ext 213 [LI a]=some (LI (Bf a)):=by
 unfold Short at ha;rw[mM,nG [.tmp 2] [] func213];simp only[go_sem];generalize hL:dI _ _=y;obtain⟨r,rfl,T',k,rfl,E,J,S,O⟩:=jV hL (fun k st=>st.nx=0/\st.σ=lI/\st.T 0=LI a/\st.T 3=I k/\k<=a.length/\Bf a=Bf (a.take k))
  (fun r=>∃T k,r=(.exit 0,⟨T,lI,0⟩)/\T 0=LI a/\T 3=I (k:Nat)/\k<=a.length/\Bf a=a.take k) (by
   clear hL;rintro k ⟨T,σ,nx⟩ ⟨hn,Y,E,J,S,O⟩;simp only at hn Y E J;subst hn Y;cases k with
   |zero=>
    have f0:¬(0:Int)<0:=by omega
    refine .inr ⟨_,by simp only[go_sem,E,J,f0];rfl,by simp,_,0,rfl,by simp only[go_sem,E],by simp only[go_sem,J],S,?_⟩;rw[O];rfl
   |succ k=>
    have G:k<a.length:=by omega
    have f0:(0:Int)<((k+1:Nat):Int):=by omega
    have f1:=ZQ (n:=((k+1:Nat):Int) - 1);have f2:((k+1:Nat):Int) - 1=(k:Int):=by omega
    have f3:(k:Int)<(a.length:Int):=by omega
    have f4:=jD k;have f5:=AZ a k G;have f6:=idx G;rw[f2]at f1;rw[aH G,Zq]at O
    by_cases hx:a[k]=0
    .have fx:(a[k]==(0:Int))=true:=by simpa using hx
     rw[sS hx]at O;refine .inl ⟨_,by simp only[go_sem,E,J,f0,f1,f2,f3,f4,f5,f6,fx];rfl,k,by omega,?_⟩;simp only[go_sem,E];exact⟨by omega,O⟩
    .have fx:(a[k]==(0:Int))=false:=by simpa using hx
     rw[sW hx]at O;refine .inr ⟨_,by simp only[go_sem,E,J,f0,f1,f2,f3,f4,f5,f6,fx];rfl,by simp,_,k+1,rfl,by simp only[go_sem,E],by simp only[go_sem,J],S,?_⟩;rw[O,aH G]) a.length ⟨rfl,rfl,by simp only[go_sem],by simp only[go_sem],zq _,by rw[yg]⟩
 have g1:=jD k;have g2:(a.take k).length=k:=by rw[zh,yA S]
 simp only[go_sem,E,J,g1,S,wK,qP,O];show _=some (V.ts _ (List.take k a).length);rw[g2]
theorem scap(a:List Int)(ha:Short a)(h:(Bf a).length<=60):fn ZH conv ext 208 [LI a]=some (LI (Bf a)):=by
 have E:=bD a ha;have G:¬(60:Int)<((Bf a).length:Int):=by omega
 rw[mM,nG [.tmp 2] [] func208];simp only[go_sem,E,G]
theorem ak1(a:List Int):(Bf a).length<=a.length:=by
 unfold Bf;rw[List.length_reverse];exact zL (List.dropWhile_suffix _).length_le (by rw[List.length_reverse];exact zq _)
theorem ahi(neg:Bool)(a:List Int)(ha:Short a)(h:(Bf a).length<=60):fn ZH conv ext 178 [Bo neg,LI a]=some (.agg [Bo (neg && decide (0<(Bf a).length)),LI (Bf a)]):=by
 have E:=scap a ha h;rw[mM,nG [.cell 4 145] [] func178];generalize Bf a=m at *;cases m with
 |nil=>cases neg<;>simp only[go_sem,E]<;>rfl
 |cons x m=>
  have G:(m.length+1)<=maxLen/\(m.length+1)*8<=140737488355328:=by simp only[zJ]at h;unfold maxLen;omega
  have J:¬(m.length+1=0):=by omega
  have hp:(0:Int)<((m.length+1:Nat):Int):=by omega
  have O:0<m.length+1:=by omega
  cases neg<;>simp only[go_sem,E,G,J,hp,O]<;>rfl
theorem Zv(d:Int)(xs:List Int):Bf (d :: xs)=if Bf xs=[]then(if d=0 then []else [d])else d :: Bf xs:=by
 unfold Bf;rw[List.reverse_cons,List.dropWhile_append]
 by_cases h:(xs.reverse.dropWhile fun x=>decide (x=0))=[]
 .rw[h]
  simp only[List.isEmpty_nil,if_true,List.reverse_nil,List.dropWhile_cons,List.dropWhile_nil,decide_eq_true_eq]
  split<;>simp_all
 .rw[sW (by simpa using h),sW (by simpa using h)]
  simp
theorem oV{n:Nat}(h:n≠0):dg n≠[]:=by rw[oS h];simp
theorem Zu(n:Nat):Bf (dg n)=dg n:=by
 induction n using Nat.strongRecOn with
 |_ n G=>
  by_cases h:n=0
  .subst h;rw[oO];rfl
  .rw[oS h,Zv,G _ (tK (by omega) (by decide))]
   by_cases E:n / 1000000000=0
   .rw[E,oO,sS rfl,sW (by omega)]
   .rw[sW (oV E)]
theorem aaR(k:Nat):∀n:Nat,n<1000000000^k->(dg n).length<=k:=by
 induction k with
 |zero=>intro n h;have:n=0:=by simpa using h
        subst this;rw[oO];exact zq _
 |succ k G=>
  intro n h
  by_cases E:n=0
  .subst E;rw[oO];exact wK _
  .rw[oS E,zJ]
   have:n / 1000000000<1000000000^k:=Nat.div_lt_of_lt_mul (by rw[um,wL]at h;exact h);have:=G _ this;omega
theorem oP{n:Nat}(h:n<=9223372036854775807):(dg n).length<=3:=aaR 3 n (by omega)
theorem aaS(n:Nat):∀x∈dg n,0<=x/\x<=999999999:=by
 induction n using Nat.strongRecOn with
 |_ n G=>
  intro x E
  by_cases h:n=0
  .subst h;rw[oO]at E;cases E
  .rw[oS h]at E
   rcases List.mem_cons.mp E with rfl|E
   .omega
   .exact G _ (tK (by omega) (by decide)) x E
def CP(a:List Int):Prop:=(∀x∈a,inB x 0 999999999=true)/\a.length<=60/\Bf a=a
theorem aaT{n:Nat}(h:n<=9223372036854775807):CP (dg n) :=
 ⟨fun x E=>by have:=aaS n x E;unfold inB;rw[sO this.1,sO this.2];rfl,by have:=oP h;omega,Zu n⟩
theorem JH{a:List Int}(h:a≠[]):Bf a=a↔a[a.length-1]'(by have:=List.length_pos_iff.mpr h;omega)≠0:=by
 rcases List.eq_nil_or_concat a with rfl|⟨b,x,e⟩
 .exact absurd rfl h
 .rw[List.concat_eq_append]at e
  subst e;rw[Zq];have:(b++[x])[(b++[x]).length-1]'(by simp)=x:=by simp
  rw[this]
  by_cases E:x=0
  .rw[sS E]
   refine⟨fun e=>?_,fun e=>absurd E e⟩;have:=congrArg List.length e;have G:=ak1 b;rw[zo,yM]at this;omega
  .rw[sW E];exact⟨fun _=>E,fun _=>rfl⟩
theorem Tm(a:List Int)(ha:Short a):fn ZH conv ext 205 [LI a]=some (Bo (pb (CP a))):=by
 unfold Short at ha;rw[mM,nG [.tmp 2] [] func205];simp only[go_sem];generalize hL:dI _ _=y;obtain⟨r,rfl,hr⟩:=pF hL a.length (fun k st=>st.nx=0/\st.σ=lI/\st.T 0=LI a/\st.T 5=LI a/\st.T 6=I a.length/\st.T 7=I k/\∀i (h:i<a.length),i<k->inB a[i] 0 999999999=true)
  (fun r=>(∃T,r=(.exit 0,⟨T,lI,0⟩)/\T 0=LI a/\∀x∈a,inB x 0 999999999=true)\/(∃T,r=(.ret,⟨T,lI,0⟩)/\T 2=Bo false/\¬CP a)) (by
   clear hL;rintro k ⟨T,σ,nx⟩ a0 ⟨hn,O,S,G,E,J,hi⟩;simp only at hn O S G E J;subst hn O;have f1:(k:Int)<(a.length:Int):=by omega
   have f2:=jD k;have f3:=ZQ (n:=(k:Int)+1);have f4:=idx a0;have f9:=AZ a k a0;have t1:=jv a[k] 0 999999999;cases hb:inB a[k] 0 999999999 with
   |true=>
    rw[hb]at t1;refine .inl ⟨_,by simp only[go_sem,S,G,E,J,f1,f2,f3,f4,f9,t1];rfl,?_⟩;simp only[go_sem,S,G,E];refine⟨rfl,fun i Y a2=>?_⟩;rcases xw (xg a2)with q|q
    .exact hi i Y q
    .subst q;exact hb
   |false=>
    rw[hb]at t1;refine .inr ⟨_,by simp only[go_sem,G,E,J,f1,f2,f4,f9,t1];rfl,by simp,.inr ⟨_,rfl,by simp only[go_sem],fun hn=>?_⟩⟩;have:=hn.1 _ (zu a0);rw[hb]at this;cases this) (by
   clear hL;rintro ⟨T,σ,nx⟩ ⟨hn,O,S,G,E,J,hi⟩;simp only at hn O S G E J;subst hn O;exact⟨_,by simp only[go_sem,E,J,zl];rfl,by simp,.inl ⟨_,rfl,by simp only[go_sem,S],fun x hx=>by obtain⟨i,Y,rfl⟩:=yV hx;exact hi i Y Y⟩⟩) (by
   simp only[go_sem];exact fun i _ h=>absurd h (zW _))
 rcases hr with ⟨T,rfl,S,hm⟩|⟨T,rfl,h2,hn⟩
 .by_cases hl:(a.length:Int)<=60
  .by_cases hz:a=[]
   .subst hz
    have:CP []:=⟨by simp,by simp,rfl⟩;have a3:(0:Int)<=60:=by decide
    simp only[go_sem,S,h_ this,a3]
   .have a4:((a.length:Int)==0)=false:=by simpa using hz
    have a1:0<a.length:=List.length_pos_iff.mpr hz;have f1:=ZQ (n:=(a.length:Int) - 1);have f2:(0:Int)<=(a.length:Int) - 1:=by omega
    have f3:(a.length:Int) - 1<(a.length:Int):=by omega
    have f4:((a.length:Int) - 1).toNat=a.length-1:=by omega
    have f5:=idx (xs:=a) (k:=a.length-1) (by omega);have f9:=AZ a 0 a1;have hg:pb (CP a)=(a[a.length-1] !=0):=by
     refine(Qr ?_).symm;rw[bne_iff_ne,<- JH hz];exact⟨fun h=>⟨hm,by omega,h⟩,fun h=>h.2.2⟩
    rw[hg];simp only[go_sem,S,hl,a4,f1,f2,f3,f4,f5,f9]
  .rw[iC (fun hn:CP a=>hl (by have:=hn.2.1;omega))]
   simp only[go_sem,S,hl]
 .simp only[go_sem,h2,iC hn]
theorem Qy(neg:Bool)(a:List Int)(ha:Short a):fn ZH conv ext 204 [.agg [Bo neg,LI a]]=some (Bo (pb (CP a) && (!neg||decide (0<a.length)))):=by
 have G:=Tm a ha;rw[mM,nG [.tmp 2] [] func204];generalize pb (CP a)=b at *;cases b<;>cases neg<;>simp only[go_sem,G]
 by_cases h:0<a.length
 .have E:(0:Int)<(a.length:Int):=by omega
  simp only[h,E]
 .have E:¬(0:Int)<(a.length:Int):=by omega
  simp only[h,E]
theorem asV(a:List Int)(ha:Short a):fn ZH conv ext 200 [LI a]=some (Bo (decide (a=[1]))):=by
 unfold Short at ha;have G:(0:Int)<1:=by decide
 have J:(0:Int)<=0:=by decide
 have O:(0:Int).toNat=0:=id rfl;rw[mM,nG [.tmp 2] [] func200]
 match a with
 |[]=>(simp only[go_sem])<;>rfl
 |[x]=>
  by_cases E:x=1
  .subst E;(simp only[go_sem,G,J,O])<;>rfl
  .have:(x==(1:Int))=false:=by simpa using E
   simp only[go_sem,this,G,J,O];simp[E]
 |x :: y :: l=>
  have:(((l.length+1+1:Nat):Int)==1)=false:=by rw[sQ];omega
  simp only[go_sem,this];simp
theorem Tn(n j:Nat):(dg n).drop j=dg (n / 1000000000^j):=by
 induction j generalizing n with
 |zero=>simp
 |succ j E=>
  by_cases h:n=0
  .subst h;rw[Nat.zero_div,oO];rfl
  .rw[oS h,List.drop_succ_cons,E,xA,um,wL]
theorem oZ{n j:Nat}(h:j<(dg n).length):(dg n)[j]=((n / 1000000000^j%1000000000:Nat):Int):=by
 have E:=yU h;rw[Tn]at E;have G:n / 1000000000^j≠0:=fun e=>by rw[e,oO]at E;cases E
 rw[oS G]at E;exact(List.cons.inj E).1.symm
theorem og(n:Nat):n / 1000000000^(dg n).length=0:=by
 have h:=Tn n (dg n).length;rw[List.drop_length]at h;exact zf fun hn=>oV hn h.symm
theorem oQ(n j:Nat):n / 1000000000^(j+1)*1000000000+n / 1000000000^j%1000000000=n / 1000000000^j:=by
 rw[um,<- xA];omega
theorem WR{n:Nat}(h:n<=9223372036854775807):Short (dg n):=by have:=oP h;unfold Short;omega
theorem ak2(a b:List Int)(h:a.length<b.length)(hb:Short b):fn ZH conv ext 212 [LI a,LI b]=some (I (-1)):=by
 unfold Short at hb;have c1:((a.length:Int) !=(b.length:Int))=true:=by rw[bne_iff_ne];omega
 have E:(a.length:Int)<(b.length:Int):=by omega
 rw[mM,nG [.tmp 4] [] func212];simp only[go_sem,c1,E]
theorem Qz(n:Nat)(hn:n<1000000000000000000):fn ZH conv ext 235 [LI (dg n)]=some (.AP [I n,Bo true]):=by
 have hs:=WR (n:=n) (by omega);have h1:=Tm (dg n) hs;rw[h_ (aaT (by omega))]at h1;have a0:(dg n).length<=2:=aaR 2 n (by omega);have h2:fn ZH conv ext 212 [LI (dg n),.ts [I 854775807,I 223372036,I 9] 3]=some (I (-1)):=ak2 (dg n) [854775807,223372036,9] (by simp;omega) (by unfold Short;simp)
 have c0:¬(0:Int)< -1:=by decide
 have e1:=ZQ (n:=((dg n).length:Int) - 1);rw[mM,nG [.tmp 2,.tmp 3] [] func235];simp only[go_sem,h1,h2,c0,e1];generalize hL:dI _ _=y;obtain⟨r,rfl,T',σ',nx',rfl,G⟩:=jV hL (fun m st=>st.T 0=LI (dg n)/\st.T 5=I ((m:Int) - 1)/\st.T 4=I (n / 1000000000^m:Nat)/\m<=(dg n).length)
  (fun r=>∃T σ nx,r=(.exit 0,⟨T,σ,nx⟩)/\T 4=I n) (by
   clear hL;rintro m ⟨T,σ,nx⟩ ⟨J,O,G,hm⟩;simp only at J O G;cases m with
   |zero=>
    have S:¬(0:Int)<=((0:Nat):Int) - 1:=by omega
    have Y:¬(0:Int)<=0-1:=by omega
    rw[Nat.pow_zero,x9]at G;exact .inr ⟨_,by simp only[go_sem,J,O,S,Y];rfl,by simp,_,_,_,rfl,by simp only[go_sem,G]⟩
   |succ m=>
    have E:m<(dg n).length:=by omega
    have e5:((m+1:Nat):Int) - 1=(m:Int):=by omega
    rw[e5]at O;have S:=jD m;have f3:(m:Int)<((dg n).length:Int):=by omega
    have f5:=AZ (dg n) m E;have f6:=idx E;rw[oZ E]at f6;have hd:=oQ n m;have hle:n / 1000000000^m<=n:=xJ _ _;generalize n / 1000000000^(m+1)=u at *;generalize hw:n / 1000000000^m=w at *;have f7:=ZQ (n:=(m:Int) - 1);have f8:=ZQ (n:=(u:Int)*1000000000);have f9:=ZQ (n:=(u:Int)*1000000000+((w%1000000000:Nat):Int));refine .inl ⟨_,by simp only[go_sem,J,O,G,S,f3,f5,f6,f7,f8,f9];rfl,m,by omega,?_⟩;simp only[go_sem,J];refine⟨?_,by omega⟩;congr 3;omega) (dg n).length ⟨by simp only[go_sem],by simp only[go_sem],by simp only[go_sem,og],zq _⟩
 simp only[go_sem,G]
theorem aot(x y:Nat)(hx:x<=9223372036854775807)(hy:y<=9223372036854775807):fn ZH conv ext 236 [I x,I y]=some (LI (dg (Nat.gcd x y))):=by
 rw[mM,nG [.tmp 4] [] func236];simp only[go_sem];generalize hL:dI _ _=w;obtain⟨r,rfl,T',rfl,E⟩:=jV hL (fun b st=>st.nx=0/\st.σ=lI/\∃a:Nat,st.T 0=I a/\st.T 1=I b/\a<=9223372036854775807/\b<=9223372036854775807/\Nat.gcd a b=Nat.gcd x y)
  (fun r=>∃T,r=(.exit 0,⟨T,lI,0⟩)/\T 0=I (Nat.gcd x y:Nat)) (by
   clear hL;rintro b ⟨T,σ,nx⟩ ⟨hn,G,a,E,J,ha,hb,O⟩;simp only at hn G E J;subst hn G;cases b with
   |zero=>
    have S:¬(0:Int)<0:=by omega
    refine .inr ⟨_,by simp only[go_sem,E,J,S];rfl,by simp,_,rfl,?_⟩;rw[Nat.gcd_zero_right]at O;simp only[go_sem,E,O]
   |succ b=>
    have S:(0:Int)<((b+1:Nat):Int):=by omega
    have f1:¬((b+1:Nat):Int)=0:=by omega
    have f2:(a:Int).tmod ((b+1:Nat):Int)=((a%(b+1):Nat):Int):=by rw[xH (by omega)];rfl
    have Y:a%(b+1)<b+1:=vX a (Nat.succ_pos b);refine .inl ⟨_,by simp only[go_sem,E,J,S,f1,f2];rfl,a%(b+1),Y,?_⟩;simp only[go_sem];refine⟨b+1,rfl,hb,by omega,?_⟩;rw[<- O,Nat.gcd_comm a (b+1),Nat.gcd_rec (b+1) a,Nat.gcd_comm]) y ⟨rfl,rfl,x,by simp only[go_sem],by simp only[go_sem],hx,hy,rfl⟩
 have a0:Nat.gcd x y<=9223372036854775807:=by
  rcases Nat.eq_zero_or_pos x with h|h
  .subst h;rw[Nat.gcd_zero_left];exact hy
  .exact zL (Nat.gcd_le_left _ h) hx
 have h3:=Nw (Nat.gcd x y) a0;simp only[go_sem,E,h3]
theorem rF{xs:List Int}(h:xs≠[]):¬xs.length=0:=fun e=>h (zZ e)
def pad(n k:Nat):List Int:=(List.range k).map fun j=>((n / 1000000000^j%1000000000:Nat):Int)
theorem iK(n k:Nat):(pad n k).length=k:=by simp[pad]
theorem ak4(n k j:Nat)(h:j<(pad n k).length):(pad n k)[j]=((n / 1000000000^j%1000000000:Nat):Int):=by simp[pad]
theorem ahj(n k:Nat):pad n (k+1)=((n%1000000000:Nat):Int) :: pad (n / 1000000000) k:=by
 unfold pad;rw[List.range_succ_eq_map,vK,List.map_map];congr 1
 .rw[Nat.pow_zero,x9]
 .refine xO fun j _=>?_
  show(((n / 1000000000^(j+1)%1000000000:Nat)):Int)=_;rw[xA,um,wL]
theorem Ir(k:Nat):∀n:Nat,n<1000000000^k->Bf (pad n k)=dg n:=by
 induction k with
 |zero=>
  intro n h;have:n=0:=by simpa using h
  subst this;rw[oO];rfl
 |succ k J=>
  intro n h;have:n / 1000000000<1000000000^k:=Nat.div_lt_of_lt_mul (by rw[um,wL]at h;exact h);rw[ahj,Zv,J _ this]
  by_cases E:n=0
  .subst E
   rw[Nat.zero_div,oO,sS rfl,sS (by decide)]
  .rw[oS E]
   by_cases G:n / 1000000000=0
   .rw[G,oO,sS rfl,sW (by omega)]
   .rw[sW (oV G)]
theorem LQ(j:Nat)(z v:V)(r:List V):(rep (j+1) [z]++r).set j v=rep j [z]++v :: r:=by
 induction j with
 |zero=>rfl
 |succ j E=>
  have G:rep (j+1+1) [z]=z :: rep (j+1) [z]:=fK _ _;have J:rep (j+1) [z]=z :: rep j [z]:=fK _ _;rw[G];show z :: ((rep (j+1) [z]++r).set j v)=rep (j+1) [z]++v :: r;rw[E,J];rfl
theorem WS{n k m:Nat}(h:m<k):(pad n k).drop m=((n / 1000000000^m%1000000000:Nat):Int) :: (pad n k).drop (m+1):=by
 rw[yU (by rw[iK];exact h),ak4]
theorem ak5(n d:Nat)(hl:(dg n).length<=1000000)(h0:d≠0)(hd:d<1000000000):fn ZH conv ext 246 [LI (dg n),I d]=some (.AP [LI (dg (n / d)),I (n%d:Nat)]):=by
 have e1:(8:Int)*((dg n).length:Int)<=281474976710656:=by omega
 have e2:((dg n).length:Int)<=9223372036854775807:=by omega
 have e3:(0:Int)<=((dg n).length:Int):=by omega
 have e4:=ZQ (n:=((dg n).length:Int) - 1);have ht:=bD (pad (n / d) (dg n).length) (by unfold Short;rw[iK];omega);rw[Ir]at ht;rw[mM,nG [.tmp 4,.tmp 5] [] func246];simp only[go_sem,e1,e2,e3,e4];generalize hL:dI _ _=y;obtain⟨r,rfl,T',σ',nx',rfl,h6,h7,E⟩:=jV hL (fun m st=>st.T 0=LI (dg n)/\st.T 1=I d/\st.T 6= .rs 0 0 (dg n).length/\st.T 8=I ((m:Int) - 1)/\st.T 7=I (n / 1000000000^m%d:Nat)/\m<=(dg n).length/\st.σ 0=some ⟨rep m [I 0]++((pad (n / d) (dg n).length).drop m).flatMap cI,1,true⟩)
  (fun r=>∃T σ nx,r=(.exit 0,⟨T,σ,nx⟩)/\T 6= .rs 0 0 (dg n).length/\T 7=I (n%d:Nat)/\σ 0=some ⟨(pad (n / d) (dg n).length).flatMap cI,1,true⟩) (by
   clear hL;rintro m ⟨T,σ,nx⟩ ⟨t0,t1,t6,t8,Y,hm,E⟩;simp only at t0 t1 t6 t8 Y E;cases m with
   |zero=>
    have a0:¬(0:Int)<=0-1:=by omega
    rw[Nat.pow_zero,x9]at Y;refine .inr ⟨_,by simp only[go_sem,t8,a0];rfl,by simp,_,_,_,rfl,by simp only[go_sem,t6],by simp only[go_sem,Y],?_⟩;rw[E,yY];rfl
   |succ m=>
    have G:m<(dg n).length:=by omega
    have e5:((m+1:Nat):Int) - 1=(m:Int):=by omega
    rw[e5]at t8;have f0:=jD m;have f3:(m:Int)<((dg n).length:Int):=by omega
    have f5:=AZ (dg n) m G;have f6:=idx G;rw[oZ G]at f6;have a1:=oQ n m;have J:=WS (n:=n / d) (k:=(dg n).length) G;have hq:n / d / 1000000000^m=n / 1000000000^m / d:=by rw[xA,xA,wL]
    rw[hq]at J;have hle:n / 1000000000^m<=n:=xJ _ _;obtain⟨u,hu⟩:∃u,n / 1000000000^(m+1)=u:=⟨_,rfl⟩;obtain⟨w,O⟩:∃w,n / 1000000000^m=w:=⟨_,rfl⟩;rw[hu]at Y;rw[hu,O]at a1;rw[O]at f6 J hle;have hw:w%1000000000<1000000000:=vX _ (by decide);have hr:u%d<d:=vX _ (by omega);have hx:u%d*1000000000+w%1000000000<d*1000000000:=by omega
    have S:w=d*1000000000*(u / d)+(u%d*1000000000+w%1000000000):=by
     have:=Nat.div_add_mod u d;have h3:d*(u / d)*1000000000=d*1000000000*(u / d):=by rw[Nat.mul_right_comm]
     omega
    obtain⟨x,a2⟩:∃x,u%d*1000000000+w%1000000000=x:=⟨_,rfl⟩;rw[a2]at S hx;have a3:w / d%1000000000=x / d:=by
     have h1:w / d=1000000000*(u / d)+x / d:=by
      rw[S,vG,wR,Nat.add_mul_div_left _ _ (by omega),wR]
     have h2:x / d<1000000000:=Nat.div_lt_of_lt_mul hx;rw[h1];generalize x / d=q at h2⊢;generalize u / d=p;omega
    have a4:w%d=x%d:=by
     rw[S,vG,wR,Nat.add_mul_mod_self_left]
    have f7:=ZQ (n:=(m:Int) - 1);have f8:=ZQ (n:=((u%d:Nat):Int)*1000000000);have g9:((u%d:Nat):Int)*1000000000+((w%1000000000:Nat):Int)=(x:Int):=by omega
    have f9:=ZQ (n:=(x:Int));have c1:¬(d:Int)=0:=by omega
    have c2:(x:Int).tdiv (d:Int)=((x / d:Nat):Int):=by rw[yH (by omega)];rfl
    have c3:(x:Int).tmod (d:Int)=((x%d:Nat):Int):=by rw[xH (by omega)];rfl
    have a6:x / d<=x:=xJ _ _;have c4:=ZQ (n:=((x / d:Nat):Int));have c5:m<(rep (m+1) [I 0]++((pad (n / d) (dg n).length).drop (m+1)).flatMap cI).length:=by rw[zo,fM];simp;omega
    have c6:=LQ m (I 0) (I (x / d:Nat)) (((pad (n / d) (dg n).length).drop (m+1)).flatMap cI);refine .inl ⟨_,by simp only[go_sem,t0,t1,t6,t8,Y,E,f0,f3,f5,f6,f7,f8,f9,g9,c1,c2,c3,c4,c5,c6];rfl,m,by omega,?_⟩;simp only[go_sem,t0,t1,t6];refine⟨by rw[O,a4],by omega,?_⟩;rw[J,a3];rfl) (dg n).length ⟨by simp only[go_sem],by simp only[go_sem],by simp only[go_sem],by simp only[go_sem],by simp only[go_sem,og,Nat.zero_mod],zq _,by simp only[go_sem];rw[xk (by rw[iK];exact zq _)];simp⟩
 .have a5:fn ZH conv ext 213 [.ts ((pad (n / d) (dg n).length).flatMap cI) (dg n).length]=some (LI (dg (n / d))):=by
   have hl:(pad (n / d) (dg n).length).length=(dg n).length:=iK _ _;unfold LI at ht;rw[hl]at ht;exact ht
  have pl:(pad (n / d) (dg n).length).length=(dg n).length:=iK _ _;have tk:List.take (dg n).length ((pad (n / d) (dg n).length).flatMap cI)=(pad (n / d) (dg n).length).flatMap cI:=by
   have:=qO (pad (n / d) (dg n).length)
   rwa [pl]at this
  simp only[go_sem,h6,h7,E,pl,tk,a5]
 .exact Nat.lt_of_le_of_lt (xJ _ _) (by
   have:=og n;exact(Nat.div_eq_zero_iff_lt (Nat.pow_pos (by decide))).mp this)
theorem oU{d:Nat}(E:d≠0)(h:d<1000000000):dg d=[(d:Int)]:=by
 rw[oS E,vF h,oO,wJ h]
theorem QD(n:Nat):(dg n=[1])↔n=1:=by
 constructor
 .intro h
  by_cases E:n=0
  .subst E;rw[oO]at h;cases h
  .rw[oS E]at h
   obtain⟨J,G⟩:=List.cons.inj h;have:n / 1000000000=0:=zf fun hn=>oV hn G
   omega
 .rintro rfl;rw[oU (by decide) (by decide)];rfl
theorem acj(neg:Bool)(a:List Int):fn ZH conv ext 223 [Bo neg,LI a]=some (.agg [Bo (neg && decide (0<a.length)),LI a]):=by
 rw[mM,nG [.cell 4 145] [] func223]
 by_cases h:0<a.length
 .have E:(0:Int)<(a.length:Int):=by omega
  cases neg<;>simp only[go_sem,h,E]
 .have E:¬(0:Int)<(a.length:Int):=by omega
  cases neg<;>simp only[go_sem,h,E]
theorem u3:ZH.underlying 3=some (.int .i64):=Tryz.underlying3
theorem asW:ZH.underlying 168=some (.int .u64):=Tryz.underlying168
theorem ayJ(k:IntKind)(n:Int)(σ:Store):Bj ZH 3 168 (.sc (.int k n)) σ=some (.sc (.int .u64 (IntKind.u64.wrap n))):=JC u3 asW
theorem ayK(k:IntKind)(n:Int)(σ:Store):Bj ZH 168 3 (.sc (.int k n)) σ=some (.sc (.int .i64 (IntKind.i64.wrap n))):=JC asW u3
attribute [go_sem] ayJ ayK
theorem Tq(n:Nat)(hn:n<=18446744073709551615):fn ZH conv ext 231 [.sc (.int .u64 n)]=some (LI (dg n)):=by
 rw[mM,nG [.tmp 2] [] func231];simp only[go_sem];generalize hL:dI _ _=y;obtain⟨r,rfl,T',σ',nx',rfl,hr⟩:=jV hL (fun m st=>st.T 0= .sc (.int .u64 m)/\∃acc,Grow st.T st.σ st.nx 3 acc/\dg n=acc++dg m/\1000000000^acc.length*m<=n)
  (fun r=>∃T σ nx,r=(.exit 0,⟨T,σ,nx⟩)/\Grow T σ nx 3 (dg n)) (by
   clear hL;rintro m ⟨T,σ,nx⟩ ⟨G,acc,E,J,hp⟩;simp only at G E
   by_cases hm:m=0
   .subst hm
    have O:¬(0:Int)<0:=by omega
    refine .inr ⟨_,by simp only[go_sem,G,O];rfl,by simp,_,_,_,rfl,?_⟩;rw[oO,zK]at J;rw[J]
    simpa only[Grow,go_sem]using E
   .have O:(0:Int)<(m:Int):=by omega
    have hk:=aci hp (by omega) (by omega);have a1:m<=n:=zL (tH _ (Nat.pow_pos (by decide))) hp;have f1:(m:Int).tmod 1000000000=((m%1000000000:Nat):Int):=by rw[xH (by omega)];omega
    have f2:IntKind.u64.wrap ((m:Int).tdiv 1000000000)=((m / 1000000000:Nat):Int):=by
     rw[yH (by omega)];rw[ZP (by omega) (by omega)];omega
    have f3:=ZQ (n:=((m%1000000000:Nat):Int));have S:dg n=(acc++[((m%1000000000:Nat):Int)])++dg (m / 1000000000):=by rw[J,oS hm];simp
    have Y:1000000000^(acc++[((m%1000000000:Nat):Int)]).length*(m / 1000000000)<=n:=by
     rw[zo,yM,um,vG];exact zL (tu _ (Nat.mul_div_le _ _)) hp
    have a0:m / 1000000000<m:=tK (by omega) (by decide);obtain⟨σ',ha,hs⟩:=kU E ((m%1000000000:Nat):Int) (by omega);refine .inl ⟨_,by simp only[go_sem,G,O,f1,f2,f3,ha];rfl,_,a0,?_,_,?_,S,Y⟩
    .simp only[go_sem]
    .exact kR hs (by simp[go_sem]) (by simp)) n ⟨by simp only[go_sem],[],.inl ⟨by simp only[go_sem],rfl⟩,rfl,by simp⟩
 obtain⟨ids,h1⟩:=kQ hr 6;simp only[go_sem,h1]
theorem aow(n:Nat)(hn:n<=9223372036854775807):fn ZH conv ext 231 [.sc (.int .u64 n)]=some (LI (dg n)):=Tq n (by omega)
theorem aaU(x:Int):fn ZH conv ext 251 [I x]=some (Bo (!inB x 0 999999999)):=by
 rw[mM,nG [.tmp 2] [] func251]
 by_cases h:x<0
 .have:inB x 0 999999999=false:=by unfold inB;rw[sN (by omega)];rfl
  rw[this];simp only[go_sem,h]
 .have:inB x 0 999999999=decide (x<=999999999):=by unfold inB;rw[sO (by omega),vJ]
  rw[this]
  by_cases E:1000000000<=x
  .rw[sN (by omega)]
   simp only[go_sem,h,E]
  .rw[sO (by omega)]
   simp only[go_sem,h,E]
theorem ahk(a:List Int)(ha:Short a):fn ZH conv ext 250 [LI a]=some (Bo (pb (CP a))):=by
 unfold Short at ha;have hc:=aaQ a 251 (fun x=> !inB x 0 999999999) (by unfold maxLen;omega) (by rfl) (fun x _=>aaU x);rw[mM,nG [.tmp 2] [] func250]
 by_cases S:(60:Int)<(a.length:Int)
 .rw[iC (fun hn:CP a=>by have:=hn.2.1;omega)]
  simp only[go_sem,S]
 have hg:(Bf a=a)->pb (CP a)= !decide (0<=ix (fun x=> !inB x 0 999999999) a):=fun Y=>by
  refine(Qr ?_).symm;rw[vU,decide_eq_false_iff_not,Int.not_le,Qq];exact⟨fun hq=>⟨fun x hx=>by simpa using hq x hx,by omega,Y⟩,fun hq m hm=>by simp[hq.1 m hm]⟩
 by_cases G:a=[]
 .have Y:Bf a=a:=by rw[G];rfl
  rw[hg Y];subst G;have:¬(0:Int)<0:=by decide
  have a0:¬(60:Int)<0:=by decide
  have a1:fn ZH conv ext 105 [.ts [] 0,.clo 251 []]=some (Bo (decide (0<=ix (fun x=> !inB x 0 999999999) []))):=hc
  simp only[go_sem,this,a0,a1]
 .have J:0<a.length:=List.length_pos_iff.mpr G
  have c0:(0:Int)<(a.length:Int):=by omega
  have f1:=ZQ (n:=(a.length:Int) - 1);have f2:(0:Int)<=(a.length:Int) - 1:=by omega
  have f3:(a.length:Int) - 1<(a.length:Int):=by omega
  have f4:((a.length:Int) - 1).toNat=a.length-1:=by omega
  have f5:=idx (xs:=a) (k:=a.length-1) (by omega);have f9:=AZ a 0 J
  by_cases O:a[a.length-1]=0
  .have E:(a[a.length-1]==(0:Int))=true:=by simpa using O
   rw[iC (fun hn:CP a=>(JH G).mp hn.2.2 O)];simp only[go_sem,S,c0,f1,f2,f3,f4,f5,f9,E]
  .have E:(a[a.length-1]==(0:Int))=false:=by simpa using O
   rw[hg ((JH G).mpr O)];simp only[go_sem,S,c0,f1,f2,f3,f4,f5,f9,E,hc]
theorem aeL(neg:Bool)(a:List Int)(ha:Short a):fn ZH conv ext 249 [.agg [Bo neg,LI a]]=some (Bo (pb (CP a) && !(neg && decide (a=[])))):=by
 have G:=ahk a ha;rw[mM,nG [.tmp 2] [] func249];generalize pb (CP a)=b at *
 by_cases h:a=[]
 .subst h
  have E:fn ZH conv ext 250 [.ts [] 0]=some (Bo b):=G
  cases b<;>cases neg<;>simp only[go_sem,E]<;>rfl
 .have J:((a.length:Int)==0)=false:=by simpa using h
  rw[sN h];cases b<;>cases neg<;>simp only[go_sem,G,J]<;>rfl
def A_(m n:Nat):Int:=if m<n then -1 else if m=n then 0 else 1
theorem ahl{n:Nat}:n<1000000000^(dg n).length:=(Nat.div_eq_zero_iff_lt (Nat.pow_pos (by decide))).mp (og n)
theorem asX{n k:Nat}(h:k<(dg n).length):1000000000^k<=n:=by
 have E:=Tn n k;rw[yU h]at E;have G:n / 1000000000^k≠0:=fun e=>by rw[e,oO]at E;cases E
 exact zf fun hn=>G (vF (by omega))
theorem oW{m n:Nat}(h:(dg m).length<(dg n).length):m<n:=xP ahl (asX h)
theorem jU{m n j:Nat}(E:m / 1000000000^(j+1)=n / 1000000000^(j+1))(G:m / 1000000000^j%1000000000<n / 1000000000^j%1000000000):m<n:=by
 have a:=oQ m j;have b:=oQ n j;rw[E]at a;have:m / 1000000000^j<n / 1000000000^j:=by omega
 exact zf fun hn=>by
  have:=Nat.div_le_div_right (c:=1000000000^j) (show n<=m by omega);omega
theorem kN(m n:Nat)(l1:(dg m).length<=1000000)(l2:(dg n).length<=1000000):fn ZH conv ext 221 [LI (dg m),LI (dg n)]=some (I (A_ m n)):=by
 rw[mM,nG [.tmp 4] [] func221]
 by_cases hl:(dg m).length=(dg n).length
 .have c1:(((dg m).length:Int) !=((dg n).length:Int))=false:=by rw[hl];simp
  have e1:=ZQ (n:=((dg m).length:Int) - 1);simp only[go_sem,c1,e1];generalize hL:dI _ _=y;obtain⟨r,rfl,hr⟩:=jV hL (fun k st=>st.nx=0/\st.σ=lI/\st.T 0=LI (dg m)/\st.T 1=LI (dg n)/\st.T 5=I ((k:Int) - 1)/\k<=(dg m).length/\m / 1000000000^k=n / 1000000000^k)
   (fun r=>(∃T,r=(.exit 0,⟨T,lI,0⟩)/\m=n)\/(∃T,r=(.ret,⟨T,lI,0⟩)/\T 4=I (A_ m n))) (by
    clear hL;rintro k ⟨T,σ,nx⟩ ⟨a0,a1,h0,h1,h5,hk,he⟩;simp only at a0 a1 h0 h1 h5;subst a0 a1;cases k with
    |zero=>
     have a2:¬(0:Int)<=0-1:=by omega
     rw[Nat.pow_zero,x9,x9]at he;exact .inr ⟨_,by simp only[go_sem,h5,a2];rfl,by simp,.inl ⟨_,rfl,he⟩⟩
    |succ k=>
     have E:k<(dg m).length:=by omega
     have G:k<(dg n).length:=by omega
     have e5:((k+1:Nat):Int) - 1=(k:Int):=by omega
     rw[e5]at h5;have f0:=jD k;have f3:(k:Int)<((dg m).length:Int):=by omega
     have S:(k:Int)<((dg n).length:Int):=by omega
     have f5:=AZ (dg m) k E;have Y:=AZ (dg n) k G;have f6:=idx E;have O:=idx G;rw[oZ E]at f6;rw[oZ G]at O;have f7:=ZQ (n:=(k:Int) - 1)
     by_cases q1:((m / 1000000000^k%1000000000:Nat):Int)<((n / 1000000000^k%1000000000:Nat):Int)
     .have J:m<n:=jU he (by omega)
      have hc:A_ m n= -1:=by unfold A_;rw[sS J]
      exact .inr ⟨_,by simp only[go_sem,h0,h1,h5,f0,f3,S,f5,Y,f6,O,q1];rfl,by simp,.inr ⟨_,rfl,by simp only[go_sem,hc]⟩⟩
     .by_cases q2:((n / 1000000000^k%1000000000:Nat):Int)<((m / 1000000000^k%1000000000:Nat):Int)
      .have J:n<m:=jU he.symm (by omega)
       have hc:A_ m n=1:=by unfold A_;rw[sW (by omega),sW (by omega)]
       exact .inr ⟨_,by simp only[go_sem,h0,h1,h5,f0,f3,S,f5,Y,f6,O,q1,q2];rfl,by simp,.inr ⟨_,rfl,by simp only[go_sem,hc]⟩⟩
      .have a3:m / 1000000000^k=n / 1000000000^k:=by
        have a:=oQ m k;have b:=oQ n k;rw[he]at a;omega
       refine .inl ⟨_,by simp only[go_sem,h0,h1,h5,f0,f3,S,f5,Y,f6,O,f7,q1,q2];rfl,k,by omega,?_⟩;simp only[go_sem,h0,h1];exact⟨by omega,a3⟩) (dg m).length ⟨rfl,rfl,by simp only[go_sem],by simp only[go_sem],by simp only[go_sem],zq _,by rw[og,hl,og]⟩
  rcases hr with ⟨T,rfl,h⟩|⟨T,rfl,h⟩
  .have hc:A_ m n=0:=by unfold A_;rw[sW (by omega),sS h]
   simp only[go_sem,hc]
  .simp only[go_sem,h]
 .have c1:(((dg m).length:Int) !=((dg n).length:Int))=true:=by rw[bne_iff_ne];omega
  by_cases E:((dg m).length:Int)<((dg n).length:Int)
  .have J:m<n:=oW (by omega)
   have hc:A_ m n= -1:=by unfold A_;rw[sS J]
   simp only[go_sem,c1,E,hc]
  .have J:n<m:=oW (by omega)
   have hc:A_ m n=1:=by unfold A_;rw[sW (by omega),sW (by omega)]
   simp only[go_sem,c1,E,hc]
theorem ahm(m n:Nat)(hm:m<=9223372036854775807)(hn:n<=9223372036854775807):fn ZH conv ext 221 [LI (dg m),LI (dg n)]=some (I (A_ m n)) :=
 kN m n (by have:=oP hm;omega) (by have:=oP hn;omega)
theorem acn(a:List Int)(ha:Short a):fn ZH conv ext 242 [LI a]=some (LI (Bf a)):=by
 unfold Short at ha;rw[mM,nG [.tmp 2] [] func242];simp only[go_sem];generalize hL:dI _ _=y;obtain⟨r,rfl,T',rfl,Y⟩:=jV hL (fun k st=>∃T,st=⟨T,lI,0⟩/\T 0=LI (a.take k)/\k<=a.length/\Bf (a.take k)=Bf a) (fun r=>∃T,r=(.exit 0,⟨T,lI,0⟩)/\T 0=LI (Bf a)) (by
  clear hL;rintro k _ ⟨T,rfl,h0,hk,G⟩;have hl:(a.take k).length=k:=by rw[zh,yA hk]
  cases k with
  |zero=>
   have E:T 0= .ts [] 0:=h0;have O:¬(0:Int)<0:=by decide
   refine .inr ⟨_,by simp only[go_sem,E,O];rfl,by simp,_,rfl,?_⟩;simp only[go_sem,E];rw[<- G];rfl
  |succ k=>
   have J:k<a.length:=by omega
   have E:T 0= .ts ((a.take (k+1)).flatMap cI) (k+1):=by rw[h0];show V.ts _ (a.take (k+1)).length=_;rw[hl]
   have O:(0:Int)<((k+1:Nat):Int):=by omega
   have e5:((k+1:Nat):Int) - 1=(k:Int):=by omega
   have e2:=ZQ (n:=(k:Int));have f1:=jD k;have f2:(k:Int)<((k+1:Nat):Int):=by omega
   have f5:=AZ (a.take (k+1)) k (by omega);have f6:=idx (xs:=a.take (k+1)) (k:=k) (by omega);rw[uh]at f6;have f7:k<=k+1:=by omega
   have a0:((a.take (k+1)).flatMap cI).take k=(a.take k).flatMap cI:=by rw[qP,List.take_take,yA f7]
   rw[aH J,Zq]at G
   by_cases S:a[k]=0
   .have fx:(a[k]==(0:Int))=true:=by simpa using S
    rw[sS S]at G;refine .inl ⟨_,by simp only[go_sem,E,O,e5,e2,f1,f2,f5,f6,f7,a0,fx,wK];rfl,k,by omega,_,rfl,?_,by omega,G⟩;simp only[go_sem];show _=V.ts _ (a.take k).length;rw[zh,yA (by omega)]
   .have fx:(a[k]==(0:Int))=false:=by simpa using S
    rw[sW S]at G;refine .inr ⟨_,by simp only[go_sem,E,O,e5,e2,f1,f2,f5,f6,f7,fx];rfl,by simp,_,rfl,?_⟩;simp only[go_sem];rw[h0,<- G,aH J]) a.length ⟨_,rfl,by simp only[go_sem];rw[yg],zq _,by rw[yg]⟩
 simp only[go_sem,Y]
theorem ak7{n:Nat}:(A_ n 1==0)=decide (n=1):=by
 unfold A_
 by_cases h:n<1
 .rw[sS h,sN (by omega)];rfl
 .rw[sW h]
  by_cases E:n=1
  .rw[sS E,sO E];rfl
  .rw[sW E,sN E];rfl
theorem asY(n:Nat)(hn:n<=9223372036854775807):fn ZH conv ext 221 [LI (dg n),.ts [I 1] 1]=some (I (A_ n 1)):=by
 have:=ahm n 1 hn (by decide);rw[oU (d:=1) (by decide) (by decide)]at this;exact this
def aeM(neg:Bool)(m n:Nat):List V:=[Bo (neg && decide (0<(dg (m / Nat.gcd m n)).length)),LI (dg (m / Nat.gcd m n)),LI (dg (n / Nat.gcd m n))]
theorem aoy{P:Program}{t e:TypeId}{x y:Operand}{row:List V}{off:Nat}(h:P.underlying t=some (.pointer e)):Aj P .eql t x y (.tp row off) (.sc (.pointer none))=some (Bo false):=by
 simp only[Aj,toVal,h];rfl
theorem ptrEq(x y:Operand)(row:List V)(off:Nat):Aj ZH .eql 194 x y (.tp row off) (.sc (.pointer none))=some (Bo false):=aoy Tryz.underlying194
attribute [go_sem] ptrEq
theorem aoz(b:Bool)(xs:List Int)(E:xs.length<=60):fn ZH conv ext 194 [.agg [Bo b,LI xs]]=some (.agg [Bo b,LI xs]):=by
 have c1:¬(60:Int)<(xs.length:Int):=by omega
 have k:=aaL xs (by omega);rw[mM,nG [.cell 2 145] [] func194];simp only[go_sem,c1,k]
theorem aoA(b:Bool)(xs E:List Int)(O:xs.length<=24)(S:E.length<=24):fn ZH conv ext 166 [.tp [Bo b,LI xs,LI E] 0]=some (.agg [Bo b,LI xs,LI E]):=by
 have G:=aoz b xs (by omega);have J:=aaL E (by omega);rw[mM,nG [.cell 2 147] [] func166];simp only[go_sem,G,J]
abbrev cB(n:Int):List V:=[.sc (.int .u8 n)]
theorem u8t:ZH.underlying 5=some (.int .u8):=Tryz.underlying5
theorem ayL(k:IntKind)(n:Int)(σ:Store):Bj ZH 5 3 (.sc (.int k n)) σ=some (.sc (.int .i64 (IntKind.i64.wrap n))):=JC u8t u3
attribute [go_sem] ayL
def Cur(xs:List Int)(i h:Int)(st:Nat):E_:=⟨[LL cB xs,I i,I h],st,true⟩
def vl:List Int->Int
 |[]=>0
 |x :: xs=>x+1000000000*vl xs
def bp(n:Nat):Int:=1000000000^n
theorem Tt:bp 0=1:=rfl
theorem qZ(n:Nat):bp (n+1)=1000000000*bp n:=by unfold bp;rw[Int.pow_succ,Int.mul_comm]
theorem qg(n:Nat):0<bp n:=Int.pow_pos (by decide)
theorem Tv(m n:Nat):bp (m+n)=bp m*bp n:=by unfold bp;rw[Int.pow_add]
theorem qh(n:Nat):bp n=((1000000000^n:Nat):Int):=by unfold bp;rw[Int.natCast_pow];rfl
def Dg(xs:List Int):Prop:=∀x∈xs,0<=x/\x<1000000000
theorem Dg.nil:Dg []:=fun x h=>by cases h
theorem Dg.cons{x:Int}{xs:List Int}(h:Dg (x :: xs)):(0<=x/\x<1000000000)/\Dg xs:=⟨h x zM,fun y E=>h y (zY _ E)⟩
theorem Dg.app{xs E:List Int}(h:Dg xs)(G:Dg E):Dg (xs++E):=fun x J=>(List.mem_append.mp J).elim (h x) (G x)
theorem Dg.snoc{xs:List Int}{y:Int}(h:Dg xs)(G:0<=y)(J:y<1000000000):Dg (xs++[y]):=h.app fun x E=>by
 rw[xC]at E;subst E;exact⟨G,J⟩
theorem Dg.take{xs:List Int}(h:Dg xs)(n:Nat):Dg (xs.take n):=fun x E=>h x (wS E)
theorem Dg.drop{xs:List Int}(h:Dg xs)(n:Nat):Dg (xs.drop n):=fun x E=>h x (List.mem_of_mem_drop E)
theorem Dg.get{xs:List Int}(h:Dg xs){k:Nat}(E:k<xs.length):0<=xs[k]/\xs[k]<1000000000:=h _ (zu E)
theorem oh(n:Nat):Dg (dg n):=fun x E=>by have:=aaS n x E;omega
theorem Zc(n:Nat):vl (dg n)=n:=by
 induction n using Nat.strongRecOn with
 |_ n E=>
  by_cases h:n=0
  .subst h;rw[oO];rfl
  .rw[oS h]
   show _+1000000000*vl _=_;rw[E _ (tK (by omega) (by decide))];omega
theorem aaV(xs E:List Int):vl (xs++E)=vl xs+bp xs.length*vl E:=by
 induction xs with
 |nil=>simp[vl,Tt]
 |cons x xs G=>
  rw[yT,zJ,qZ];show _+1000000000*vl _=(_+1000000000*vl xs)+_;rw[G,xY,ug];omega
theorem ZY(xs:List Int)(y:Int):vl (xs++[y])=vl xs+bp xs.length*y:=by
 rw[aaV];simp[vl]
theorem Za{xs:List Int}(h:Dg xs):0<=vl xs:=by
 induction xs with
 |nil=>exact yD _
 |cons x xs E=>
  have:=h.cons;have:=E this.2;show 0<=x+1000000000*vl xs;omega
theorem Zb{xs:List Int}(h:Dg xs):vl xs<bp xs.length:=by
 induction xs with
 |nil=>exact qg 0
 |cons x xs E=>
  have:=h.cons;have:=E this.2;rw[zJ,qZ];show x+1000000000*vl xs<_;omega
theorem aco{xs:List Int}(h:Dg xs):Bf xs=dg (vl xs).toNat:=by
 induction xs with
 |nil=>show Bf []=dg 0;rw[oO];rfl
 |cons x xs J=>
  have E:=h.cons;have h2:=Za E.2;have O:vl (x :: xs)=x+1000000000*vl xs:=rfl;rw[Zv,J E.2,O]
  by_cases S:vl xs=0
  .rw[S,show(0:Int).toNat=0 from rfl,oO,sS rfl]
   by_cases G:x=0
   .subst G;rw[sS rfl,vZ,uS]
    show _=dg 0;rw[oO]
   .rw[sW G,vZ,uS,oU (by omega) (by omega)]
    rw[uY (by omega)]
  .rw[sW (oV (by omega)),oS (n:=(x+1000000000*vl xs).toNat) (by omega)]
   have Y:(((x+1000000000*vl xs).toNat%1000000000:Nat):Int)=x:=by omega
   have e2:(x+1000000000*vl xs).toNat / 1000000000=(vl xs).toNat:=by omega
   rw[Y,e2]
theorem CV{xs:List Int}{n:Nat}(h:Dg xs)(E:vl xs=n):Bf xs=dg n:=by rw[aco h,E];rfl
theorem aaW(n:Nat):vl (List.replicate n 0)=0:=by
 induction n with
 |zero=>rfl
 |succ n E=>rw[xR];show 0+1000000000*vl _=0;rw[E];rfl
theorem ZW{xs:List Int}{k:Nat}(h:k<xs.length):vl (xs.take (k+1))=vl (xs.take k)+bp k*xs[k]:=by
 rw[aH h,ZY,zh,yA (by omega)]
theorem acp{xs:List Int}{k:Nat}(h:k<xs.length):vl (xs.drop k)=xs[k]+1000000000*vl (xs.drop (k+1)):=by
 rw[yU h];rfl
theorem ZX(xs:List Int){k:Nat}(h:k<=xs.length):vl xs=vl (xs.take k)+bp k*vl (xs.drop k):=by
 have:=aaV (xs.take k) (xs.drop k);rw[wM,zh,yA h]at this;exact this
def ln(n:Nat):Nat:=(dg n).length
theorem jX:ln 0=0:=by unfold ln;rw[oO];rfl
theorem jg{n k:Nat}:ln n<=k↔(n:Int)<bp k:=by
 constructor
 .intro h
  have E:=Zb (oh n);rw[Zc]at E;have G:bp (dg n).length<=bp k:=by
   rw[qh,qh];exact Int.ofNat_le.mpr (Nat.pow_le_pow_right (by decide) h)
  omega
 .intro h
  rw[qh]at h;exact aaR k n (Int.ofNat_lt.mp h)
theorem jf{m n:Nat}(h:m<=n):ln m<=ln n:=by
 have:=(jg (n:=n)).mp (zq _);exact jg.mpr (by omega)
theorem je(m n:Nat):ln (m*n)<=ln m+ln n:=by
 refine jg.mpr ?_;rw[Tv,yh];have E:=(jg (n:=m)).mp (zq _);have G:=(jg (n:=n)).mp (zq _);have J:(m:Int)*n<=(bp (ln m) - 1)*n:=zS (by omega) (by omega);have O:=qg (ln m);have S:(bp (ln m) - 1)*n<=(bp (ln m) - 1)*(bp (ln n) - 1):=zA (by omega) (by omega);have Y:(bp (ln m) - 1)*(bp (ln n) - 1)=bp (ln m)*bp (ln n) - bp (ln m) - bp (ln n)+1:=by
  rw[uH,uw];omega
 have h7:=qg (ln n);omega
theorem aoB(m n:Nat):ln (m+n)<=max (ln m) (ln n)+1:=by
 refine jg.mpr ?_;rw[qZ];have E:=(jg (n:=m) (k:=max (ln m) (ln n))).mp (vT _ _);have G:=(jg (n:=n) (k:=max (ln m) (ln n))).mp (wH _ _);omega
theorem jZ{n:Nat}(h:n≠0):0<ln n:=List.length_pos_iff.mpr (oV h)
theorem jY{n:Nat}(h:n<1000000000):ln n<=1:=jg.mpr (by show(n:Int)<1000000000;omega)
theorem aoC{n:Nat}(h:n<=9223372036854775807):ln n<=3:=oP h
theorem dA{n:Nat}(h:ln n<=1000000):Short (dg n):=by unfold ln at h;unfold Short;omega
def FD(o:List Int)(k:Nat):List V:=o.flatMap cI++rep k [I 0]
theorem mg(o:List Int)(k:Nat):(FD o k).length=o.length+k:=by unfold FD;rw[zo,qR,fM];simp
theorem n_(o:List Int):FD o 0=o.flatMap cI:=by simp[FD,rep]
theorem mZ(o:List Int)(k:Nat)(x:Int){i:Nat}(h:o.length=i):(FD o (k+1)).set i (I x)=FD (o++[x]) k:=by
 subst h;unfold FD;rw[yC _ _ (by rw[qR];exact zq _),qR,yP,fK,zU];simp
theorem qH{P x q n v:Int}(h:x+1000000000*q=n):v+P*x+1000000000*P*q=v+P*n:=by subst h;grind
theorem aG{n:Int}(h:0<=n):n.tmod 1000000000=n%1000000000/\n.tdiv 1000000000=n / 1000000000 :=
 ⟨xH h,yH h⟩
theorem jT{k:Nat}(h:k<=3000000):(8:Int)*(k:Int)<=281474976710656/\(k:Int)<=9223372036854775807/\(0:Int)<=(k:Int):=by omega
theorem qY{xs:List Int}{k:Nat}(h:xs.length<=k):xs.take (k+1)=xs.take k:=by rw[zk (by omega),zk h]
theorem asZ(m n:Nat)(hm:ln m<=1000000)(hn:ln n<=1000000):fn ZH conv ext 243 [LI (dg m),LI (dg n)]=some (LI (dg (m+n))):=by
 unfold ln at hm hn;rw[mM,nG [.tmp 4] [] func243]
 by_cases hc:((dg m).length:Int)<((dg n).length:Int)
 .have a5:(dg m).length<=(dg n).length:=by omega
  obtain⟨e1,e2,e3⟩:=jT (k:=(dg n).length+1) (by omega);have e0:((dg n).length:Int)+1=(((dg n).length+1:Nat):Int):=by omega
  have e4:=ZQ (n:=(((dg n).length+1:Nat):Int)) (by omega) (by omega);simp only[go_sem,hc,e0,e1,e2,e3,e4];generalize hL:dI _ _=y;obtain⟨r,rfl,T',σ',nx',c,o,rfl,h0,h5,h6,E,G,Y,hd,hv,a0,a2⟩:=pF hL (dg n).length (fun k st=>st.T 0=LI (dg n)/\st.T 1=LI (dg m)/\st.T 5= .rs 0 0 ((dg n).length+1)/\st.T 20=LI (dg n)/\st.T 21=I (dg n).length/\st.T 22=I k/\0<st.nx/\∃c o,st.T 6=I c/\st.σ 0=some ⟨FD o ((dg n).length+1-k),1,true⟩/\o.length=k/\Dg o/\vl o+bp k*c=vl ((dg n).take k)+vl ((dg m).take k)/\0<=c/\c<=1)
   (fun r=>∃T σ nx c o,r=(.exit 0,⟨T,σ,nx⟩)/\T 0=LI (dg n)/\T 5= .rs 0 0 ((dg n).length+1)/\T 6=I c/\0<nx/\σ 0=some ⟨FD o 1,1,true⟩/\o.length=(dg n).length/\Dg o/\vl o+bp (dg n).length*c=(m+n:Nat)/\0<=c/\c<=1) (by
    clear hL;rintro k ⟨T,σ,nx⟩ a1 ⟨h0,h1,h5,O,J,S,E,c,o,h6,G,Y,hd,hv,a0,a2⟩;simp only at h0 h1 h5 O J S E h6 G;have f1:(k:Int)<((dg n).length:Int):=by omega
    have f2:=jD k;have f3:=ZQ (n:=(k:Int)+1);have f5:=AZ (dg n) k a1;have f6:=idx a1;have f7:(k:Int)<(((dg n).length+1:Nat):Int):=by omega
    obtain⟨x,hx⟩:∃x,x=(dg n)[k]:=⟨_,rfl⟩;have xr:=(oh n).get a1;rw[<- hx]at f6 xr;obtain⟨g,hg⟩:∃g,(dg n).length+1-k=g+1:=⟨(dg n).length-k,by omega⟩;have a3:(dg n).length+1 - (k+1)=g:=by omega
    rw[hg]at G;have c5:k<(FD o (g+1)).length:=by rw[mg];omega
    have v1:=ZW a1;rw[<- hx]at v1
    by_cases hB:k<(dg m).length
    .have f8:(k:Int)<((dg m).length:Int):=by omega
     have f9:=AZ (dg m) k hB;have a4:=idx hB;obtain⟨z,hz⟩:∃z,z=(dg m)[k]:=⟨_,rfl⟩;have zr:=(oh m).get hB;rw[<- hz]at a4 zr;have v2:=ZW hB;rw[<- hz]at v2;have w1:=ZQ (n:=x+c);have w2:=ZQ (n:=x+c+z);obtain⟨q1,q2⟩:=aG (n:=x+c+z) (by omega);have w3:=ZQ (n:=(x+c+z) / 1000000000);have c6:=mZ o g ((x+c+z)%1000000000) Y;refine .inl ⟨_,by simp only[go_sem,h0,h1,h5,h6,O,J,S,E,G,f1,f2,f3,f5,f6,f7,f8,f9,a4,w1,w2,w3,q1,q2,c5,c6];rfl,?_⟩;simp only[go_sem,h0,h1,h5,O,J,a3];refine⟨rfl,E,_,_,rfl,rfl,by simp[Y],hd.snoc (by omega) (by omega),?_,by omega,by omega⟩;rw[ZY,Y,qZ,v1,v2,qH (n:=x+c+z) (by omega),xY,xY];omega
    .have f8:¬(k:Int)<((dg m).length:Int):=by omega
     have v2:=qY (xs:=dg m) (k:=k) (by omega);have w1:=ZQ (n:=x+c);obtain⟨q1,q2⟩:=aG (n:=x+c) (by omega);have w3:=ZQ (n:=(x+c) / 1000000000);have c6:=mZ o g ((x+c)%1000000000) Y;refine .inl ⟨_,by simp only[go_sem,h0,h1,h5,h6,O,J,S,E,G,f1,f2,f3,f5,f6,f7,f8,w1,w3,q1,q2,c5,c6];rfl,?_⟩;simp only[go_sem,h0,h1,h5,O,J,a3];refine⟨rfl,E,_,_,rfl,rfl,by simp[Y],hd.snoc (by omega) (by omega),?_,by omega,by omega⟩;rw[ZY,Y,qZ,v1,v2,qH (n:=x+c) (by omega),xY];omega) (by
    clear hL;rintro ⟨T,σ,nx⟩ ⟨h0,h1,h5,O,J,S,E,c,o,h6,G,Y,hd,hv,a0,a2⟩;simp only at h0 h1 h5 O J S E h6 G;refine⟨_,by simp only[go_sem,J,S,zl];rfl,by simp,_,_,_,c,o,rfl,by simp only[go_sem,h0],by simp only[go_sem,h5],by simp only[go_sem,h6],E,?_,Y,hd,?_,a0,a2⟩
    .rw[G,show(dg n).length+1 - (dg n).length=1 by omega]
    .rw[hv,yg,zk a5,Zc,Zc];omega) (by
    simp only[go_sem];exact⟨0,[],rfl,rfl,rfl,Dg.nil,by simp[vl],yD _,by decide⟩)
  have c5:(dg n).length<(FD o (0+1)).length:=by rw[mg];omega
  have c6:=mZ o 0 c Y;have f2:(0:Int)<=((dg n).length:Int):=by omega
  have f7:((dg n).length:Int)<(((dg n).length+1:Nat):Int):=by omega
  have hD:Dg (o++[c]):=hd.snoc a0 (by omega);have ht:=acn (o++[c]) (by unfold Short;simp;omega);rw[CV (n:=m+n) hD (by rw[ZY,Y,hv])]at ht;have hl:(o++[c]).length=(dg n).length+1:=by simp[Y]
  have a6:fn ZH conv ext 242 [.ts ((o++[c]).flatMap cI) ((dg n).length+1)]=some (LI (dg (m+n))):=by rw[<- hl];exact ht
  have tk:List.take ((dg n).length+1) ((o++[c]).flatMap cI)=(o++[c]).flatMap cI:=by rw[<- hl];exact qO _
  have a7:((o++[c]).flatMap cI).length=(dg n).length+1:=by rw[qR,hl]
  have PN:σ' 0=some ⟨FD o (0+1),1,true⟩:=G;simp only[go_sem,h0,h5,h6,E,PN,f2,f7,c5,c6,n_,a7,tk,a6]
 .have a5:(dg n).length<=(dg m).length:=by omega
  obtain⟨e1,e2,e3⟩:=jT (k:=(dg m).length+1) (by omega);have e0:((dg m).length:Int)+1=(((dg m).length+1:Nat):Int):=by omega
  have e4:=ZQ (n:=(((dg m).length+1:Nat):Int)) (by omega) (by omega);simp only[go_sem,hc,e0,e1,e2,e3,e4];generalize hL:dI _ _=y;obtain⟨r,rfl,T',σ',nx',c,o,rfl,h0,h5,h6,E,G,Y,hd,hv,a0,a2⟩:=pF hL (dg m).length (fun k st=>st.T 0=LI (dg m)/\st.T 1=LI (dg n)/\st.T 5= .rs 0 0 ((dg m).length+1)/\st.T 20=LI (dg m)/\st.T 21=I (dg m).length/\st.T 22=I k/\0<st.nx/\∃c o,st.T 6=I c/\st.σ 0=some ⟨FD o ((dg m).length+1-k),1,true⟩/\o.length=k/\Dg o/\vl o+bp k*c=vl ((dg m).take k)+vl ((dg n).take k)/\0<=c/\c<=1)
   (fun r=>∃T σ nx c o,r=(.exit 0,⟨T,σ,nx⟩)/\T 0=LI (dg m)/\T 5= .rs 0 0 ((dg m).length+1)/\T 6=I c/\0<nx/\σ 0=some ⟨FD o 1,1,true⟩/\o.length=(dg m).length/\Dg o/\vl o+bp (dg m).length*c=(m+n:Nat)/\0<=c/\c<=1) (by
    clear hL;rintro k ⟨T,σ,nx⟩ a1 ⟨h0,h1,h5,O,J,S,E,c,o,h6,G,Y,hd,hv,a0,a2⟩;simp only at h0 h1 h5 O J S E h6 G;have f1:(k:Int)<((dg m).length:Int):=by omega
    have f2:=jD k;have f3:=ZQ (n:=(k:Int)+1);have f5:=AZ (dg m) k a1;have f6:=idx a1;have f7:(k:Int)<(((dg m).length+1:Nat):Int):=by omega
    obtain⟨x,hx⟩:∃x,x=(dg m)[k]:=⟨_,rfl⟩;have xr:=(oh m).get a1;rw[<- hx]at f6 xr;obtain⟨g,hg⟩:∃g,(dg m).length+1-k=g+1:=⟨(dg m).length-k,by omega⟩;have a3:(dg m).length+1 - (k+1)=g:=by omega
    rw[hg]at G;have c5:k<(FD o (g+1)).length:=by rw[mg];omega
    have v1:=ZW a1;rw[<- hx]at v1
    by_cases hB:k<(dg n).length
    .have f8:(k:Int)<((dg n).length:Int):=by omega
     have f9:=AZ (dg n) k hB;have a4:=idx hB;obtain⟨z,hz⟩:∃z,z=(dg n)[k]:=⟨_,rfl⟩;have zr:=(oh n).get hB;rw[<- hz]at a4 zr;have v2:=ZW hB;rw[<- hz]at v2;have w1:=ZQ (n:=x+c);have w2:=ZQ (n:=x+c+z);obtain⟨q1,q2⟩:=aG (n:=x+c+z) (by omega);have w3:=ZQ (n:=(x+c+z) / 1000000000);have c6:=mZ o g ((x+c+z)%1000000000) Y;refine .inl ⟨_,by simp only[go_sem,h0,h1,h5,h6,O,J,S,E,G,f1,f2,f3,f5,f6,f7,f8,f9,a4,w1,w2,w3,q1,q2,c5,c6];rfl,?_⟩;simp only[go_sem,h0,h1,h5,O,J,a3];refine⟨rfl,E,_,_,rfl,rfl,by simp[Y],hd.snoc (by omega) (by omega),?_,by omega,by omega⟩;rw[ZY,Y,qZ,v1,v2,qH (n:=x+c+z) (by omega),xY,xY];omega
    .have f8:¬(k:Int)<((dg n).length:Int):=by omega
     have v2:=qY (xs:=dg n) (k:=k) (by omega);have w1:=ZQ (n:=x+c);obtain⟨q1,q2⟩:=aG (n:=x+c) (by omega);have w3:=ZQ (n:=(x+c) / 1000000000);have c6:=mZ o g ((x+c)%1000000000) Y;refine .inl ⟨_,by simp only[go_sem,h0,h1,h5,h6,O,J,S,E,G,f1,f2,f3,f5,f6,f7,f8,w1,w3,q1,q2,c5,c6];rfl,?_⟩;simp only[go_sem,h0,h1,h5,O,J,a3];refine⟨rfl,E,_,_,rfl,rfl,by simp[Y],hd.snoc (by omega) (by omega),?_,by omega,by omega⟩;rw[ZY,Y,qZ,v1,v2,qH (n:=x+c) (by omega),xY];omega) (by
    clear hL;rintro ⟨T,σ,nx⟩ ⟨h0,h1,h5,O,J,S,E,c,o,h6,G,Y,hd,hv,a0,a2⟩;simp only at h0 h1 h5 O J S E h6 G;refine⟨_,by simp only[go_sem,J,S,zl];rfl,by simp,_,_,_,c,o,rfl,by simp only[go_sem,h0],by simp only[go_sem,h5],by simp only[go_sem,h6],E,?_,Y,hd,?_,a0,a2⟩
    .rw[G,show(dg m).length+1 - (dg m).length=1 by omega]
    .rw[hv,yg,zk a5,Zc,Zc];omega) (by
    simp only[go_sem];exact⟨0,[],rfl,rfl,rfl,Dg.nil,by simp[vl],yD _,by decide⟩)
  have c5:(dg m).length<(FD o (0+1)).length:=by rw[mg];omega
  have c6:=mZ o 0 c Y;have f2:(0:Int)<=((dg m).length:Int):=by omega
  have f7:((dg m).length:Int)<(((dg m).length+1:Nat):Int):=by omega
  have hD:Dg (o++[c]):=hd.snoc a0 (by omega);have ht:=acn (o++[c]) (by unfold Short;simp;omega);rw[CV (n:=m+n) hD (by rw[ZY,Y,hv])]at ht;have hl:(o++[c]).length=(dg m).length+1:=by simp[Y]
  have a6:fn ZH conv ext 242 [.ts ((o++[c]).flatMap cI) ((dg m).length+1)]=some (LI (dg (m+n))):=by rw[<- hl];exact ht
  have tk:List.take ((dg m).length+1) ((o++[c]).flatMap cI)=(o++[c]).flatMap cI:=by rw[<- hl];exact qO _
  have a7:((o++[c]).flatMap cI).length=(dg m).length+1:=by rw[qR,hl]
  have PN:σ' 0=some ⟨FD o (0+1),1,true⟩:=G;simp only[go_sem,h0,h5,h6,E,PN,f2,f7,c5,c6,n_,a7,tk,a6]
end Go.Proofs.YtehdaknhabeiaaaGreat
