import Derived.Test.YtehdaknhabeiaaaGreatTb1
import Derived.SizedLaws
import Derived.ChangeArms
import Derived.Deep.Slices
import Derived.OpenShut
import Derived.ChangeOld
import Derived.Laws.StructEq
import Derived.Test.YtehdaknhabeiaaaGreatProg
import Derived.KernelRfl
set_option linter.unusedSimpArgs false
set_option linter.unusedVariables false
set_option linter.unusedSectionVars false
set_option linter.defProp false
set_option maxRecDepth 10000
set_option maxHeartbeats 4000000
open Array renaming length_toList->yP,getElem?_toList->xX
open Bool renaming and_eq_true->yh,false_eq_true->yM,and_false->xR,not_false->xJ
open Classical renaming byContradiction->zf
open Int renaming lt_irrefl->zl,mul_le_mul_of_nonneg_right->zS,mul_le_mul_of_nonneg_left->zC,toNat_natCast->yw,natCast_mul->yj,tdiv_eq_ediv_of_nonneg->yJ,le_refl->yE,mul_add->xZ,tmod_eq_emod_of_nonneg->xG
open List renaming getElem?_eq_getElem->zy,getElem_mem->zu,length_append->zo,take_of_length_le->zk,length_take->zh,eq_nil_of_length_eq_zero->zZ,mem_cons_of_mem->zY,getElem?_append_left->zV,flatMap_cons->zU,flatMap_append->zT,getElem?_append_right->zQ,length_map->zO,mem_cons_self->zN,append_nil->zM,not_mem_nil->zK,mem_append_left->zF,length_cons->zD,append_assoc->zB,mem_append_right->zA,take_length->yg,getElem?_eq_none->yc,drop_zero->yZ,getElem?_map->yX,getElem_of_mem->yV,drop_eq_getElem_cons->yU,cons_append->yT,take_add_one->yO,length_singleton->yL,nil_append->yK,length_set->yG,drop_of_length_le->xw,replicate_succ->xW,map_congr_left->xP,take_left'->xO,length_nil->wu,getElem?_toArray->wX,getElem?_cons_zero->wW,mem_of_mem_take->wV,flatMap_nil->wR,take_append_drop->wP,mem_singleton->wM,size_toArray->wF
open Nat renaming le_refl->zq,not_lt_zero->zW,le_trans->zL,mul_le_mul_right->zG,zero_add->yY,sub_self->yQ,mul_one->yN,min_eq_left->yC,lt_or_eq_of_le->yB,succ_mul->yA,le_of_lt_succ->xk,lt_of_lt_of_le->xK,div_le_self->xH,div_div_eq_div_mul->xA,div_one->x9,add_comm->wU,mul_comm->wO,mod_eq_of_lt->wL,le_max_right->wK
open Option renaming bind_some->zi,map_some->zJ,getD_some->xM
open Option.some renaming injEq->wC
open Prod.mk renaming injEq->wB
namespace Go.TV
open Go.RowKit
set_option linter.unusedVariables false
set_option linter.unusedSimpArgs false
variable [Known]
def CLe(c c':Call):Prop:=∀f args σ nx r,c f args σ nx=some r->c' f args σ nx=some r
section
variable {P:Program} {conv:FuncId->Conv}
theorem Io {c c':Call}(h:CLe c c') {f:FuncId} {args:List V} {σ:Store} {nx:Nat} {r:V×Store×Nat}(e:jc conv c f args σ nx=some r):jc conv c' f args σ nx=some r:=by
 unfold jc at *
 split at e
 .exact h _ _ _ _ _ e
 .split at e
  .rename_i ts ids G
   try simp only[G]
   cases E:c f ts aK 0 with
   |none=>rw[E]at e;cases e
   |some q=>rw[E]at e;rw[h _ _ _ _ _ E];exact e
  .cases e
 .split at e
  .rename_i ts ids G
   try simp only[G]
   cases E:c f ts aK nx with
   |none=>rw[E]at e;cases e
   |some q=>rw[E]at e;rw[h _ _ _ _ _ E];exact e
  .cases e
theorem Qu {c c':Call} {o:Oper} {T:Nat->V} {σ:Store} {nx:Nat} {r:V×Store×Nat}(h:∀f args σ r,jc conv c f args σ nx=some r->jc conv c' f args σ nx=some r)(e:dL P conv c o T σ nx=some r):dL P conv c' o T σ nx=some r:=by
 obtain⟨dst,op,type,pos,after,guard⟩:=o;cases op<;>simp only[dL]at e⊢ <;>first|exact e|skip
 rename_i E;obtain⟨callee,args,ts⟩:=E;cases callee with
 |value f=>
  simp only at e⊢
  split at e
  .rename_i G
   try simp only[G]
   exact h _ _ _ _ e
  .cases e
 |builtin b=>exact e
 |invoke r m=>exact e
theorem XZ {c:Call} {o:Oper} {T:Nat->V} {σ:Store} {nx:Nat} {r:V×Store×Nat}(e:dL P conv c o T σ nx=some r) :
  (∀c',dL P conv c' o T σ nx=some r)\/∃f args,jc conv c f args σ nx=some r/\∀c',jc conv c' f args σ nx=some r->dL P conv c' o T σ nx=some r:=by
 obtain⟨dst,op,type,pos,after,guard⟩:=o;cases op<;>simp only[dL]at e⊢ <;>first|exact .inl fun _=>e|skip
 rename_i E;obtain⟨callee,args,ts⟩:=E;cases callee with
 |value f=>
  simp only at e⊢
  split at e
  .rename_i G
   try simp only[G]
   exact .inr ⟨_,_,e,fun c' h=>h⟩
  .cases e
 |builtin b=>exact .inl fun _=>e
 |invoke r m=>exact .inl fun _=>e
theorem Uf {c c':Call}(h:CLe c c') {o:Oper} {T:Nat->V} {σ:Store} {nx:Nat} {r:V×Store×Nat}(e:bY P conv c o T σ nx=some r):bY P conv c' o T σ nx=some r:=by
 unfold bY at *
 split at e
 .rename_i F G
  try simp only[G]
  split at e
  .rename_i J
   rw[if_pos J];cases E:dL P conv c o T (restrict σ F) nx with
   |none=>rw[E]at e;cases e
   |some q=>rw[E]at e;rw[Qu (fun f args σ r=>Io h) E];exact e
  .cases e
 .cases e
theorem Cj {c c':Call}(h:CLe c c') {ops:Array Oper}:∀(l:List Oper) (s s':St),iL P conv c ops l s=some s'->iL P conv c' ops l s=some s'
 |[],s,s',e=>e
 |o :: l,s,s',e=>by
  unfold iL at *
  split at e
  .rename_i E
   try simp only[E]
   cases G:dL P conv c o s.T s.σ s.nx with
   |none=>rw[G]at e;cases e
   |some q=>
    rw[G]at e;rw[Qu (fun f args σ r=>Io h) G];exact Cj h l _ _ e
  .rename_i E
   try simp only[E]
   exact Cj h l _ _ e
  .cases e
theorem DT {c c':Call}(h:CLe c c') {ops:Array Oper}:∀(l:List Oper) (s:St) (r:St×List (List Nat)),gu P conv c ops l s=some r->gu P conv c' ops l s=some r
 |[],s,r,e=>e
 |o :: l,s,r,e=>by
  unfold gu at *
  split at e
  .rename_i G
   try simp only[G]
   cases J:bY P conv c o s.T s.σ s.nx with
   |none=>rw[J]at e;cases e
   |some q=>
    rw[J]at e;rw[Uf h J];simp only at e⊢;cases E:gu P conv c ops l ⟨jQ s.T o.dst q.1,q.2.1,q.2.2⟩with
    |none=>rw[E]at e;cases e
    |some O=>rw[E]at e;rw[DT h l _ _ E];exact e
  .rename_i G
   try simp only[G]
   cases E:gu P conv c ops l ⟨jQ s.T o.dst (.dS []),s.σ,s.nx⟩with
   |none=>rw[E]at e;cases e
   |some O=>rw[E]at e;rw[DT h l _ _ E];exact e
  .cases e
theorem OI {c c':Call}(h:CLe c c') {ops:Array Oper} {s s':St}(e:jq P conv c ops s=some s'):jq P conv c' ops s=some s':=by
 unfold jq at *
 split at e
 .rename_i G
  rw[if_pos G];cases E:gu P conv c ops ops.toList s with
  |none=>rw[E]at e;cases e
  |some q=>rw[E]at e;rw[DT h _ _ _ E];exact e
 .cases e
noncomputable def aF(body:St->Option (Ex×St))(s:St):Option (Ex×St) :=
 open Classical in if h:∃r,∃n,iF body n s=some r then some h.choose else none
theorem Jo {body:St->Option (Ex×St)}:∀(n:Nat) (s:St) (r:Ex×St),iF body n s=some r->iF body (n+1) s=some r
 |0,s,r,h=>by cases h
 |n+1,s,r,h=>by
  unfold iF at h⊢
  split at h
  .exact Jo n _ r h
  .exact h
theorem qY {body:St->Option (Ex×St)} {n m:Nat}(E:n<=m) {s:St} {r:Ex×St}(h:iF body n s=some r):iF body m s=some r:=by
 induction E with
 |refl=>exact h
 |step _ G=>exact Jo _ _ _ G
theorem nI {body:St->Option (Ex×St)} {s:St} {r:Ex×St}:aF body s=some r↔∃n,iF body n s=some r:=by
 unfold aF;constructor
 .intro h
  split at h
  .rename_i hex
   simp only[wC]at h;subst h;exact hex.choose_spec
  .cases h
 .rintro ⟨n,hn⟩
  have hex:∃r,∃n,iF body n s=some r:=⟨r,n,hn⟩;rw[dif_pos hex];obtain⟨m,hm⟩:=hex.choose_spec;have G:=qY (Nat.le_max_left n m) hn;have E:=qY (wK n m) hm;rw[G]at E;exact E.symm
theorem Fh(body:St->Option (Ex×St))(s:St):aF body s=match body s with
  |some (.norm,s')=>aF body s'
  |r=>r:=by
 apply Option.ext;intro r;rw[nI];constructor
 .rintro ⟨n,hn⟩
  cases n with
  |zero=>cases hn
  |succ n=>
   unfold iF at hn;cases hb:body s with
   |none=>rw[hb]at hn;cases hn
   |some q=>
    rw[hb]at hn;obtain⟨ex,G⟩:=q;cases ex with
    |norm=>exact nI.2 ⟨n,hn⟩
    |exit id=>exact hn
    |ret=>exact hn
 .intro h
  split at h
  .rename_i s' hb
   obtain⟨n,hn⟩:=nI.1 h;exact⟨n+1,by unfold iF;simp only[hb];exact hn⟩
  .rename_i E
   refine⟨1,?_⟩;unfold iF
   split
   .rename_i s' hb;exact absurd hb (E s')
   .exact h
noncomputable def dD(P:Program)(conv:FuncId->Conv)(call:Call):Code->St->Option (Ex×St)
 | .skip,s=>some (.norm,s)
 | .region _ ops draw,s=>match(if draw then jq P conv call ops s else iL P conv call ops ops.toList s)with
  |some s'=>some (.norm,s')
  |none=>none
 | .seq a b,s=>match dD P conv call a s with
  |some (.norm,s')=>dD P conv call b s'
  |r=>r
 | .cond c a b,s=>match val s.T c with
  | .sc (.bool true)=>dD P conv call a s
  | .sc (.bool false)=>dD P conv call b s
  |_=>none
 | .block id c,s=>match dD P conv call c s with
  |some (.exit j,s')=>if j=id then some (.norm,s')else some (.exit j,s')
  |r=>r
 | .loop c,s=>aF (dD P conv call c) s
 | .exit id,s=>some (.exit id,s)
 | .ret,s=>some (.ret,s)
 |_,_=>none
theorem vS {b b':St->Option (Ex×St)}(h:∀s r,b s=some r->b' s=some r):∀(n:Nat) (s:St) (r:Ex×St),iF b n s=some r->iF b' n s=some r
 |0,s,r,e=>by cases e
 |n+1,s,r,e=>by
  unfold iF at *
  split at e
  .rename_i s' hb;simp only[h _ _ hb];exact vS h n s' r e
  .cases E:b s with
   |none=>rw[E]at e;cases e
   |some q=>
    rw[E]at e;rw[h _ _ E];obtain⟨ex,J⟩:=q;cases ex with
    |norm=>rename_i G;exact absurd E (G J)
    |exit id=>exact e
    |ret=>exact e
theorem vT {c c':Call}(h:CLe c c') {n m:Nat}(S:n<=m):∀(G:Code) (s:St) (r:Ex×St),aX P conv c n G s=some r->aX P conv c' m G s=some r:=by
 intro G
 induction G with
 |region id ops draw=>
  intro s r e;simp only[aX]at *;cases draw with
  |true=>
   simp only[if_true]at *;cases E:jq P conv c ops s with
   |none=>rw[E]at e;cases e
   |some q=>rw[E]at e;rw[OI h E];exact e
  |false=>
   simp only[yM,if_false]at *;cases E:iL P conv c ops ops.toList s with
   |none=>rw[E]at e;cases e
   |some q=>rw[E]at e;rw[Cj h _ _ _ E];exact e
 |seq a b J O=>
  intro s r e;simp only[aX]at *;cases E:aX P conv c n a s with
  |none=>rw[E]at e;cases e
  |some q=>
   rw[E]at e;rw[J _ _ E];obtain⟨ex,s1⟩:=q;cases ex<;>first|exact O _ _ e|exact e
 |cond v a b J O=>
  intro s r e;simp only[aX]at *
  split at e
  .exact J _ _ e
  .exact O _ _ e
  .cases e
 |block id G Y=>
  intro s r e;simp only[aX]at *;cases E:aX P conv c n G s with
  |none=>rw[E]at e;cases e
  |some q=>rw[E]at e;rw[Y _ _ E];exact e
 |loop G Y=>
  intro s r e;simp only[aX]at *;exact qY S (vS (fun s r=>Y s r) n s r e)
 |skip=>intro s r e;exact e
 |exit id=>intro s r e;exact e
 |ret=>intro s r e;exact e
 |_=>intro s r e;simp only[aX]at e;cases e
theorem X3 {c c':Call}(h:CLe c c') {n:Nat}:∀(G:Code) (s:St) (r:Ex×St),aX P conv c n G s=some r->dD P conv c' G s=some r:=by
 intro G
 induction G with
 |region id ops draw=>
  intro s r e;simp only[aX,dD]at *;cases draw with
  |true=>
   simp only[if_true]at *;cases E:jq P conv c ops s with
   |none=>rw[E]at e;cases e
   |some q=>rw[E]at e;rw[OI h E];exact e
  |false=>
   simp only[yM,if_false]at *;cases E:iL P conv c ops ops.toList s with
   |none=>rw[E]at e;cases e
   |some q=>rw[E]at e;rw[Cj h _ _ _ E];exact e
 |seq a b J O=>
  intro s r e;simp only[aX,dD]at *;cases E:aX P conv c n a s with
  |none=>rw[E]at e;cases e
  |some q=>
   rw[E]at e;rw[J _ _ E];obtain⟨ex,s1⟩:=q;cases ex<;>first|exact O _ _ e|exact e
 |cond v a b J O=>
  intro s r e;simp only[aX,dD]at *
  split at e
  .rename_i S;simp only[S];exact J _ _ e
  .rename_i S;simp only[S];exact O _ _ e
  .cases e
 |block id G Y=>
  intro s r e;simp only[aX,dD]at *;cases E:aX P conv c n G s with
  |none=>rw[E]at e;cases e
  |some q=>rw[E]at e;rw[Y _ _ E];exact e
 |loop G Y=>
  intro s r e;simp only[aX,dD]at *;exact nI.2 ⟨n,vS (fun s r=>Y s r) n s r e⟩
 |skip=>intro s r e;exact e
 |exit id=>intro s r e;exact e
 |ret=>intro s r e;exact e
 |_=>intro s r e;simp only[aX]at e;cases e
def Chain(C:Nat->Call):Prop:=∀k,CLe (C k) (C (k+1))
theorem Chain.le {C:Nat->Call}(h:Chain C) {k m:Nat}(E:k<=m):CLe (C k) (C m):=by
 induction E with
 |refl=>exact fun _ _ _ _ _ e=>e
 |step _ G=>exact fun f args σ nx r e=>h _ f args σ nx r (G f args σ nx r e)
noncomputable def sup(C:Nat->Call):Call:=fun f args σ nx=>
 open Classical in if h:∃r,∃k,C k f args σ nx=some r then some h.choose else none
theorem sD {C:Nat->Call}(E:Chain C) {f:FuncId} {args:List V} {σ:Store} {nx:Nat} {r:V×Store×Nat}:sup C f args σ nx=some r↔∃k,C k f args σ nx=some r:=by
 unfold sup;constructor
 .intro h
  split at h
  .rename_i hex
   simp only[wC]at h;subst h;exact hex.choose_spec
  .cases h
 .rintro ⟨n,hn⟩
  have hex:∃r,∃k,C k f args σ nx=some r:=⟨r,n,hn⟩;rw[dif_pos hex];obtain⟨m,hm⟩:=hex.choose_spec;have J:=E.le (Nat.le_max_left n m) _ _ _ _ _ hn;have G:=E.le (wK n m) _ _ _ _ _ hm;rw[J]at G;exact G.symm
theorem X4 {C:Nat->Call}(G:Chain C) {f:FuncId} {args:List V} {σ:Store} {nx:Nat} {r:V×Store×Nat}(e:jc conv (sup C) f args σ nx=some r):∃k,jc conv (C k) f args σ nx=some r:=by
 unfold jc at *
 split at e
 .exact(sD G).1 e
 .split at e
  .rename_i ts ids J
   try simp only[J]
   cases E:sup C f ts aK 0 with
   |none=>rw[E]at e;cases e
   |some q=>
    obtain⟨k,O⟩:=(sD G).1 E;rw[E]at e;exact⟨k,by rw[O];exact e⟩
  .cases e
 .split at e
  .rename_i ts ids J
   try simp only[J]
   cases E:sup C f ts aK nx with
   |none=>rw[E]at e;cases e
   |some q=>
    obtain⟨k,O⟩:=(sD G).1 E;rw[E]at e;exact⟨k,by rw[O];exact e⟩
  .cases e
theorem Ug {C:Nat->Call}(E:Chain C) {o:Oper} {T:Nat->V} {σ:Store} {nx:Nat} {r:V×Store×Nat}(e:dL P conv (sup C) o T σ nx=some r):∃k,dL P conv (C k) o T σ nx=some r:=by
 rcases XZ e with h|⟨f,args,G,J⟩
 .exact⟨0,h _⟩
 .obtain⟨k,O⟩:=X4 E G
  exact⟨k,J _ O⟩
theorem abI {C:Nat->Call}(G:Chain C) {o:Oper} {T:Nat->V} {σ:Store} {nx:Nat} {r:V×Store×Nat}(e:bY P conv (sup C) o T σ nx=some r):∃k,bY P conv (C k) o T σ nx=some r:=by
 unfold bY at *
 split at e
 .rename_i F J
  try simp only[J]
  split at e
  .rename_i O
   simp only[O,if_true];cases E:dL P conv (sup C) o T (restrict σ F) nx with
   |none=>rw[E]at e;cases e
   |some q=>
    obtain⟨k,S⟩:=Ug G E;rw[E]at e;exact⟨k,by rw[S];exact e⟩
  .cases e
 .cases e
theorem Ip {C:Nat->Call}(E:Chain C) {ops:Array Oper}:∀(l:List Oper) (s s':St),iL P conv (sup C) ops l s=some s'->∃k,iL P conv (C k) ops l s=some s'
 |[],s,s',e=>⟨0,e⟩
 |o :: l,s,s',e=>by
  unfold iL at e
  split at e
  .rename_i G
   cases J:dL P conv (sup C) o s.T s.σ s.nx with
   |none=>rw[J]at e;cases e
   |some q=>
    rw[J]at e;obtain⟨k,O⟩:=Ug E J;obtain⟨m,hm⟩:=Ip E l _ _ e;refine⟨max k m,?_⟩;unfold iL;simp only[G,Qu (fun f args σ r=>Io (E.le (Nat.le_max_left k m))) O];exact Cj (E.le (wK k m)) _ _ _ hm
  .rename_i G
   obtain⟨m,hm⟩:=Ip E l _ _ e;exact⟨m,by unfold iL;simp only[G];exact hm⟩
  .cases e
theorem Fj {C:Nat->Call}(G:Chain C) {ops:Array Oper}:∀(l:List Oper) (s:St) (r:St×List (List Nat)),gu P conv (sup C) ops l s=some r->∃k,gu P conv (C k) ops l s=some r
 |[],s,r,e=>⟨0,e⟩
 |o :: l,s,r,e=>by
  unfold gu at e
  split at e
  .rename_i J
   cases O:bY P conv (sup C) o s.T s.σ s.nx with
   |none=>rw[O]at e;cases e
   |some q=>
    rw[O]at e;simp only at e;cases E:gu P conv (sup C) ops l ⟨jQ s.T o.dst q.1,q.2.1,q.2.2⟩with
    |none=>rw[E]at e;cases e
    |some S=>
     rw[E]at e;obtain⟨k,Y⟩:=abI G O;obtain⟨m,hm⟩:=Fj G l _ _ E;refine⟨max k m,?_⟩;unfold gu;simp only[J,Uf (G.le (Nat.le_max_left k m)) Y,DT (G.le (wK k m)) _ _ _ hm];exact e
  .rename_i J
   cases E:gu P conv (sup C) ops l ⟨jQ s.T o.dst (.dS []),s.σ,s.nx⟩with
   |none=>rw[E]at e;cases e
   |some S=>
    rw[E]at e;obtain⟨m,hm⟩:=Fj G l _ _ E;refine⟨m,?_⟩;unfold gu;simp only[J,hm];exact e
  .cases e
theorem X5 {C:Nat->Call}(G:Chain C) {ops:Array Oper} {s s':St}(e:jq P conv (sup C) ops s=some s'):∃k,jq P conv (C k) ops s=some s':=by
 unfold jq at *
 split at e
 .rename_i J
  simp only[J,if_true];cases E:gu P conv (sup C) ops ops.toList s with
  |none=>rw[E]at e;cases e
  |some q=>
   obtain⟨k,O⟩:=Fj G _ _ _ E;rw[E]at e;exact⟨k,by rw[O];exact e⟩
 .cases e
theorem KU {B:Nat->St->Option (Ex×St)} {b:St->Option (Ex×St)}(E:∀k m,k<=m->∀s r,B k s=some r->B m s=some r)(h:∀s r,b s=some r->∃k,B k s=some r) :
  ∀(n:Nat) (s:St) (r:Ex×St),iF b n s=some r->∃k,iF (B k) n s=some r
 |0,s,r,e=>by cases e
 |n+1,s,r,e=>by
  unfold iF at e
  split at e
  .rename_i s' hb
   obtain⟨k,G⟩:=h _ _ hb;obtain⟨m,hm⟩:=KU E h n s' r e;refine⟨max k m,?_⟩;unfold iF;simp only[E k _ (Nat.le_max_left k m) _ _ G];exact vS (E m _ (wK k m)) n s' r hm
  .rename_i J
   obtain⟨k,G⟩:=h _ _ e;refine⟨k,?_⟩;unfold iF;rw[G];obtain⟨ex,O⟩:=r;cases ex with
   |norm=>exact absurd e (J O)
   |exit id=>rfl
   |ret=>rfl
theorem Uh {C:Nat->Call}(Y:Chain C):∀(J:Code) (s:St) (r:Ex×St),dD P conv (sup C) J s=some r->∃k,aX P conv (C k) k J s=some r:=by
 intro J
 induction J with
 |region id ops draw=>
  intro s r e;simp only[aX,dD]at *;cases draw with
  |true=>
   simp only[if_true]at *;cases E:jq P conv (sup C) ops s with
   |none=>rw[E]at e;cases e
   |some q=>obtain⟨k,G⟩:=X5 Y E;rw[E]at e;exact⟨k,by rw[G];exact e⟩
  |false=>
   simp only[yM,if_false]at *;cases E:iL P conv (sup C) ops ops.toList s with
   |none=>rw[E]at e;cases e
   |some q=>obtain⟨k,G⟩:=Ip Y _ _ _ E;rw[E]at e;exact⟨k,by rw[G];exact e⟩
 |seq a b O S=>
  intro s r e;simp only[aX,dD]at *;cases E:dD P conv (sup C) a s with
  |none=>rw[E]at e;cases e
  |some q=>
   rw[E]at e;obtain⟨k,G⟩:=O _ _ E;obtain⟨ex,s1⟩:=q;cases ex with
   |norm=>
    obtain⟨m,hm⟩:=S _ _ e;exact⟨max k m,by rw[vT (Y.le (Nat.le_max_left k m)) (Nat.le_max_left k m) _ _ _ G];exact vT (Y.le (wK k m)) (wK k m) _ _ _ hm⟩
   |exit id=>exact⟨k,by rw[G];exact e⟩
   |ret=>exact⟨k,by rw[G];exact e⟩
 |cond v a b O S=>
  intro s r e;simp only[aX,dD]at *
  split at e
  .rename_i hv;simp only[hv];exact O _ _ e
  .rename_i hv;simp only[hv];exact S _ _ e
  .cases e
 |block id J ih=>
  intro s r e;simp only[aX,dD]at *;cases E:dD P conv (sup C) J s with
  |none=>rw[E]at e;cases e
  |some q=>obtain⟨k,G⟩:=ih _ _ E;rw[E]at e;exact⟨k,by rw[G];exact e⟩
 |loop J ih=>
  intro s r e;simp only[aX,dD]at *;obtain⟨n,hn⟩:=nI.1 e;obtain⟨k,G⟩:=KU (B:=fun k=>aX P conv (C k) k J) (fun k m a0 s r=>vT (Y.le a0) a0 J s r) (fun s r h=>ih s r h) n s r hn;refine⟨max n k,?_⟩;exact qY (Nat.le_max_left n k) (vS (fun s r=>vT (Y.le (wK n k)) (wK n k) J s r) n s r G)
 |skip=>intro s r e;exact⟨0,e⟩
 |exit id=>intro s r e;exact⟨0,e⟩
 |ret=>intro s r e;exact⟨0,e⟩
 |_=>intro s r e;simp only[dD]at e;cases e
theorem abJ {c c':Call}(h:CLe c c') {n m:Nat}(E:n<=m) {fn:Func} {body:Code} {args:List V} {σ:Store} {nx:Nat} {r:V×Store×Nat}(e:Cc P conv c n fn body args σ nx=some r):Cc P conv c' m fn body args σ nx=some r:=by
 unfold Cc at *;cases G:aX P conv c n body ⟨jM args,σ,nx⟩with
 |none=>rw[G]at e;cases e
 |some q=>rw[G]at e;rw[vT h E _ _ _ G];exact e
theorem vU(ext:Ext):Chain (evF P conv ext):=by
 intro k
 induction k with
 |zero=>intro f args σ nx r e;cases e
 |succ k G=>
  intro f args σ nx r e;unfold evF at e⊢
  split at e
  .exact e
  .rename_i J
   split at e
   .rename_i fn O
    try simp only[J]
    split at e
    .rename_i body hb
     try simp only[hb]
     split at e
     .rename_i E
      rw[if_pos E];exact abJ G (Nat.le_succ k) e
     .cases e
    .cases e
   .cases e
noncomputable def ev(P:Program)(conv:FuncId->Conv)(ext:Ext):Call:=sup (evF P conv ext)
theorem sF(hm:P.follows .mixedOrders=true) {ext:Ext}(E:Jm P ext):lI P (ev P conv ext):=fun f args σ nx v σ' nx' h=>by
 obtain⟨k,G⟩:=(sD (vU ext)).1 h;exact OH hm E k f args σ nx v σ' nx' G
noncomputable def Ui(P:Program)(conv:FuncId->Conv)(call:Call)(rs:List ResultVar)(body:Code)(s:St):Jg :=
 match dD P conv call body s with
 |some (.norm,st)=>match bI P st.T st.σ rs with
  |some vs=>some (oneOf vs,st.σ,st.nx)
  |none=>none
 |some (.ret,st)=>match bI P st.T st.σ rs with
  |some vs=>some (oneOf vs,st.σ,st.nx)
  |none=>none
 |_=>none
theorem iG {ext:Ext} {f:FuncId} {g:List V->Store->Nat->Jg}(G:ext f=some g)(args:List V)(σ:Store)(nx:Nat):ev P conv ext f args σ nx=g args σ nx:=by
 apply Option.ext;intro r;unfold ev;rw[sD (vU ext)];constructor
 .rintro ⟨k,E⟩
  cases k with
  |zero=>cases E
  |succ k=>unfold evF at E;simpa only[G]using E
 .intro h
  exact⟨1,by unfold evF;simpa only[G]using h⟩
theorem alc {ext:Ext} {f:FuncId} {fn:Func} {body:Code} {rs:List ResultVar}(O:ext f=none)(S:P.funcs[f]?=some fn)(hb:fn.body=some body)(Y:fn.results.toList=rs) {args:List V}(J:TY fn body args.length=true)(σ:Store)(nx:Nat) :
  ev P conv ext f args σ nx=Ui P conv (ev P conv ext) rs body ⟨jM args,σ,nx⟩:=by
 apply Option.ext;intro r;unfold ev;rw[sD (vU ext)];constructor
 .rintro ⟨k,E⟩
  cases k with
  |zero=>cases E
  |succ k=>
   unfold evF at E;simp only[O,S,hb,J,if_true]at E;unfold Cc at E;unfold Ui;cases G:aX P conv (evF P conv ext k) k body ⟨jM args,σ,nx⟩with
   |none=>rw[G]at E;cases E
   |some q=>
    rw[G]at E;rw[X3 (c':=sup (evF P conv ext)) (fun f args σ nx r e=>(sD (vU ext)).2 ⟨k,e⟩) _ _ _ G,<- Y];exact E
 .intro h
  unfold Ui at h;cases G:dD P conv (sup (evF P conv ext)) body ⟨jM args,σ,nx⟩with
  |none=>rw[G]at h;cases h
  |some q=>
   rw[G]at h;obtain⟨k,E⟩:=Uh (vU ext) _ _ _ G;refine⟨k+1,?_⟩;unfold evF;simp only[O,S,hb,J,if_true];unfold Cc;rw[E,Y];exact h
end
end Go.TV
namespace Go.TV
set_option linter.unusedVariables false
set_option linter.unusedSimpArgs false
variable [Known]
structure TyI where
 ok:Bool
 agg:Bool
 size:Nat
 zero:List V
 slice:Bool
 str:Bool
 ptr:Bool
 DU:Nat
 Qv:Nat
 oI:List V
 Qw:Bool
 aei:List (Nat×Nat×Option Bool)
 plc:List (Nat×Nat)
 bok:Bool
 u8:Bool
def zeroV(i:TypeInfo):List V :=
 match i.zero with
 |some z=>if z.cells.size=i.size then z.cells.toList.map iD else []
 |none=>[]
def Iq(i:TypeInfo):Bool :=
 match i.zero with
 |some z=>z.cells.size=i.size
 |none=>false
def apS(P:Program)(t:TypeId):Option Bool:=(P.underlying t).map EY
def bF(P:Program)(t:TypeId):TyI :=
 match P.info? t,P.underlying t with
 |some i,some d=>
  let e:=match d with
   | .slice e=>P.info? e
   |_=>none
  {ok:=true,agg:=EY d,size:=i.size,zero:=if Iq i then zeroV i else [],slice:=d matches .slice _,str:=d matches .string,ptr:=d matches .pointer _,
   DU:=(e.map (·.size)).getD 0,Qv:=(e.map (·.bytes)).getD 0,oI:=(e.map zeroV).getD [],Qw:=(e.map Iq).getD false,
   aei:=match d with
    | .struct fs=>fs.toList.map fun f=>(f.offset,((P.info? f.type).map (·.size)).getD 0,(apS P f.type))
    |_=>[]
   plc:=match d with
    | .struct fs=>((aV P (fs.mapM fun f=>do pure (f.offset,<- sizeOf f.type))).map (·.toList)).getD []
    |_=>[]
   bok:=match d with
    | .struct fs=>(aV P (fs.mapM fun f=>do pure (f.offset,<- sizeOf f.type))).isSome && Iq i
    |_=>false
   u8:=match d with
    | .slice e=>(P.underlying e matches some (.int .u8)) && ((P.info? e).map (·.size))==some 1
    |_=>false }
 |_,_=>⟨false,false,0,[],false,false,false,0,0,[],false,[],[],false,false⟩
section
variable {P:Program} {conv:FuncId->Conv} {call:Call} {σ:Store} {nx:Nat}
theorem Cm {t:TypeId}(h:(bF P t).ok=true):∃i d,P.info? t=some i/\P.underlying t=some d/\(bF P t).agg=EY d/\(bF P t).size=i.size:=by
 unfold bF at h⊢;cases hi:P.info? t with
 |none=>simp[hi]at h
 |some i=>
  cases E:P.underlying t with
  |none=>simp[hi,E]at h
  |some d=>exact⟨i,d,rfl,rfl,rfl,rfl⟩
theorem jC {t:TypeId}(h:(bF P t).slice=true)(E:(bF P t).Qw=true):∃e i z,P.underlying t=some (.slice e)/\P.info? e=some i/\i.zero=some z/\z.cells.size=i.size/\(bF P t).DU=i.size/\(bF P t).Qv=i.bytes/\(bF P t).oI=z.cells.toList.map iD:=by
 unfold bF at h E⊢;cases hi:P.info? t with
 |none=>simp[hi]at h
 |some i=>
  cases O:P.underlying t with
  |none=>simp[hi,O]at h
  |some d=>
   simp only[hi,O]at h E⊢;cases d<;>simp at h;rename_i e;simp only at E⊢;cases G:P.info? e with
   |none=>simp[G]at E
   |some S=>
    simp only[G,zJ,xM]at E⊢;unfold Iq at E;cases J:S.zero with
    |none=>simp[J]at E
    |some z=>
     simp only[J,decide_eq_true_eq]at E;exact⟨e,S,z,rfl,G,J,E,rfl,rfl,by simp[zeroV,J,E]⟩
theorem abK {t:TypeId} {row:List V} {off:Nat}(h:(bF P t).ok=true)(ha:(bF P t).agg=false):eU P σ t (.tp row off)=row[off]?:=by
 obtain⟨i,d,J,O,E,S⟩:=Cm h;rw[ha]at E;unfold eU;simp only[J,O,<- E,yM,if_false,kX]
 by_cases G:off<row.length
 .rw[if_pos (by omega),zy G]
  have:(row.drop off).take 1=[row[off]]:=by
   rw[yU G];rfl
  rw[this]
 .rw[if_neg (by omega),yc (by omega)]
theorem X6 {t:TypeId} {row:List V} {off:Nat}(h:(bF P t).ok=true)(ha:(bF P t).agg=true):eU P σ t (.tp row off)=if off+(bF P t).size<=row.length then some (.agg ((row.drop off).take (bF P t).size))else none:=by
 obtain⟨i,d,G,J,E,O⟩:=Cm h;rw[ha]at E;unfold eU;simp only[G,J,<- E,if_true,kX,O]
 split<;>rfl
theorem abL {t:TypeId} {b off:Nat}(h:(bF P t).ok=true)(ha:(bF P t).agg=false):eU P σ t (.rp b off)=(σ b).bind fun B=>B.cells[off]?:=by
 obtain⟨i,d,J,O,E,S⟩:=Cm h;rw[ha]at E;unfold eU;simp only[J,O,<- E,yM,if_false,kX];cases σ b with
 |none=>rfl
 |some B=>
  simp only[zi]
  by_cases G:off<B.cells.length
  .rw[if_pos (by omega),zy G]
   have:(B.cells.drop off).take 1=[B.cells[off]]:=by
    rw[yU G];rfl
   rw[this]
  .rw[if_neg (by omega),yc (by omega)]
theorem X7 {t:TypeId} {b off:Nat}(h:(bF P t).ok=true)(ha:(bF P t).agg=true):eU P σ t (.rp b off)=(σ b).bind fun B=>if off+(bF P t).size<=B.cells.length then some (.agg ((B.cells.drop off).take (bF P t).size))else none:=by
 obtain⟨i,d,G,J,E,O⟩:=Cm h;rw[ha]at E;unfold eU;simp only[G,J,<- E,if_true,kX,O];cases σ b with
 |none=>rfl
 |some B=>simp only[zi];split<;>rfl
theorem X8 {t:TypeId} {b off:Nat} {v:V}(h:(bF P t).ok=true)(hc:aT v=true)(hs:(bF P t).size=1):kL P σ t (.rp b off) v=(σ b).bind fun B=>if B.wr=true/\off<B.cells.length then some (upd σ b (some { B with cells:=B.cells.set off v }))else none:=by
 obtain⟨i,d,G,O,S,E⟩:=Cm h;rw[hs]at E;have J:cellsOfV v=some [v]:=by cases v<;>simp_all [cellsOfV,aT]
 unfold kL;simp only[G,J,<- E,yL,List.all_cons,List.all_nil,hc,Bool.and_true,and_true,true_and,patch];cases σ b with
 |none=>rfl
 |some B=>simp only[zi];rfl
theorem Uj {t:TypeId} {b off:Nat} {vs:List V}(h:(bF P t).ok=true):kL P σ t (.rp b off) (.agg vs)=(σ b).bind fun B=>if B.wr=true/\vs.length=(bF P t).size/\off+vs.length<=B.cells.length/\vs.all aT=true then some (upd σ b (some { B with cells:=patch B.cells off vs }))else none:=by
 obtain⟨i,d,E,J,O,G⟩:=Cm h;unfold kL;simp only[E,G,cellsOfV];cases σ b with
 |none=>rfl
 |some B=>simp only[zi]
theorem OJ {t:TypeId} {f:Nat}(h:(bF P t).ok=true) :
  (∃fields fd,P.underlying t=some (.struct fields)/\fields[f]?=some fd/\(bF P t).aei[f]?=some (fd.offset,((P.info? fd.type).map (·.size)).getD 0,apS P fd.type)) \/
  ((bF P t).aei[f]?=none/\∀fields,P.underlying t=some (.struct fields)->fields[f]?=none):=by
 obtain⟨i,d,G,J,O,S⟩:=Cm h;unfold bF;simp only[G,J];cases d<;>try (refine .inr ⟨rfl,fun fields e=>by cases e⟩)
 rename_i fs;simp only[yX,xX];cases E:fs[f]? with
 |none=>exact .inr ⟨rfl,fun fields e=>by cases e;exact E⟩
 |some fd=>exact .inl ⟨fs,fd,rfl,E,rfl⟩
theorem X9 {t:TypeId} {row:List V} {off f:Nat}(h:(bF P t).ok=true):gZ P t (.tp row off) f=((bF P t).aei[f]?).bind fun p=>if p.2.1=0 then none else some (.tp row (off+p.1)):=by
 rcases OJ (f:=f) h with ⟨fields,fd,E,G,J⟩|⟨E,G⟩
 .unfold gZ
  simp only[E,G,J,zi];cases P.info? fd.type<;>rfl
 .unfold gZ
  rw[E];cases hu:P.underlying t with
  |none=>rfl
  |some d=>cases d<;>first|(simp;done)|(rename_i fs;simp[G fs hu])
theorem X_ {t:TypeId} {b off f:Nat}(h:(bF P t).ok=true):gZ P t (.rp b off) f=((bF P t).aei[f]?).bind fun p=>if p.2.1=0 then none else some (.rp b (off+p.1)):=by
 rcases OJ (f:=f) h with ⟨fields,fd,E,G,J⟩|⟨E,G⟩
 .unfold gZ
  simp only[E,G,J,zi];cases P.info? fd.type<;>rfl
 .unfold gZ
  rw[E];cases hu:P.underlying t with
  |none=>rfl
  |some d=>cases d<;>first|(simp;done)|(rename_i fs;simp[G fs hu])
theorem Ya {t:TypeId} {row:List V} {len:Nat} {k:IntKind} {i:Int}(h:(bF P t).slice=true)(E:(bF P t).Qw=true):je P t (.ts row len) (.sc (.int k i))=if 0<=i/\i<len/\row≠[]then some (.tp row (i.toNat *(bF P t).DU))else none:=by
 obtain⟨e,S,z,G,J,_,_,O,_,_⟩:=jC h E;unfold je;simp only[G,J,O]
theorem Yb {t:TypeId} {b off len:Nat} {k:IntKind} {i:Int}(h:(bF P t).slice=true)(E:(bF P t).Qw=true):je P t (.rs b off len) (.sc (.int k i))=if 0<=i/\i<len then some (.rp b (off+i.toNat *(bF P t).DU))else none:=by
 obtain⟨e,S,z,G,J,_,_,O,_,_⟩:=jC h E;unfold je;simp only[G,J,O]
theorem abM {t:TypeId} {l c:Int}(h:(bF P t).slice=true)(J:(bF P t).Qw=true)(E:decide ((bF P t).DU<1000000)=true):rQ P t (.sc (.int .i64 l)) (.sc (.int .i64 c)) σ nx=
  if 0<=l/\l<=c/\((bF P t).Qv:Int)*c<=281474976710656/\c<=9223372036854775807/\0<(bF P t).DU then some (.rs nx 0 l.toNat,dA σ nx (rep l.toNat (bF P t).oI) (bF P t).DU,nx+1)else none:=by
 obtain⟨e,ei,z,O,S,Y,h4,G,h6,h7⟩:=jC h J;unfold rQ;rw[decide_eq_true_eq]at E;simp only[G]at E;simp only[O,S,Y,G,h6,h7,h4,and_true,E]
theorem kC {t:TypeId} {len:Nat} {parts:List (Nat×V)}(h:(bF P t).slice=true)(G:(bF P t).Qw=true):iI P t len parts σ nx=
  if len=0 then some (.nil,σ,nx)else if 0<(bF P t).DU/\len*(bF P t).DU<=1000 then
   match jA (fun j=>some (j*(bF P t).DU,(bF P t).DU)) (rep len (bF P t).oI) parts with
   |some cells=>some (.rs nx 0 len,dA σ nx cells (bF P t).DU,nx+1)
   |none=>none
  else none:=by
 obtain⟨e,E,z,J,O,S,Y,h5,h6,h7⟩:=jC h G;unfold iI;simp only[J,O,S,h5,h6,h7,Y,and_true];cases jA (fun j=>some (j*E.size,E.size)) (rep len (z.cells.toList.map iD)) parts<;>rfl
theorem Yc {t:TypeId} {parts:List (Nat×V)}(h:(bF P t).bok=true):Az P t parts=(jA (fun i=>(bF P t).plc[i]?) (bF P t).zero parts).map .agg:=by
 unfold bF at h⊢;cases hi:P.info? t with
 |none=>simp[hi]at h
 |some i=>
  cases G:P.underlying t with
  |none=>simp[hi,G]at h
  |some d=>
   simp only[hi,G]at h⊢;cases d<;>simp only[yM]at h;rename_i fs;rw[yh]at h;obtain⟨O,E⟩:=h;simp only[E,if_true];cases hm:aV P (fs.mapM fun f=>do pure (f.offset,<- sizeOf f.type))with
   |none=>rw[hm]at O;cases O
   |some a=>
    unfold Iq at E;cases J:i.zero with
    |none=>simp[J]at E
    |some z=>
     simp only[J,decide_eq_true_eq]at E;unfold Az places;simp only[hi,G,hm,zJ,xM,J,zeroV,E,if_true,xX]
theorem Uk {t:TypeId} {s x:V}(h:(bF P t).slice=true)(J:(bF P t).Qw=true)(hs:decide (0<(bF P t).DU)=true)(E:decide ((bF P t).DU<1000000)=true):lJ P #[t,t] s x σ nx=
  (rowOf σ (bF P t).DU x).bind fun p=>bT σ nx (bF P t).DU (bF P t).Qv s p.1 p.2:=by
 obtain⟨e,O,z,S,Y,h3,h4,G,h6,h7⟩:=jC h J;rw[G]at hs E;simp only[decide_eq_true_eq]at hs E;unfold lJ;simp only[wX,wW,List.getElem?_cons_succ,S,beq_self_eq_true,Y,h3,G,h6,h4,hs,E,and_self,if_true];cases rowOf σ O.size x<;>rfl
def Fp(σ:Store)(nx:Nat)(row:List V)(m:Nat):V->Jg
 | .rs b off len=>if min m len=0 then some (.sc (.int .i64 0),σ,nx)else(σ b).bind fun B=>
   if B.wr=true/\off+min m len<=B.cells.length/\(row.take (min m len)).all aT=true then
    some (.sc (.int .i64 (min m len:Nat)),upd σ b (some { B with cells:=patch B.cells off (row.take (min m len)) }),nx)else none
 | .nil=>some (.sc (.int .i64 0),σ,nx)
 |_=>none
def AQ(σ:Store)(nx:Nat)(z:List V):V->Jg
 | .rs b off len=>if len=0 then some (.dS [],σ,nx)else(σ b).bind fun B=>
   if B.wr=true/\off+len<=B.cells.length/\(rep len z).all aT=true then
    some (.dS [],upd σ b (some { B with cells:=patch B.cells off (rep len z) }),nx)else none
 | .nil=>some (.dS [],σ,nx)
 | .ts _ len=>if len=0 then some (.dS [],σ,nx)else none
 |_=>none
theorem abN {t E:TypeId} {d x:V}(h:(bF P t).slice=true)(G:(bF P t).Qw=true)(hs:(bF P t).DU=1):Cb P #[t,E] d x σ nx=(rowOf σ 1 x).bind fun p=>Fp σ nx p.1 p.2 d:=by
 obtain⟨e,Y,z,J,O,h3,h4,S,h6,h7⟩:=jC h G;rw[S]at hs;unfold Cb Fp;simp only[wX,wW,J,O];cases rowOf σ 1 x with
 |none=>rfl
 |some p=>
  obtain⟨row,m⟩:=p;simp only[hs,wF,zD,wu,zi];rw[if_pos ⟨trivial,trivial⟩];cases d<;>try rfl
  rename_i b off len;simp only
  split
  .rfl
  .cases σ b<;>rfl
theorem Yd {t:TypeId} {d:V}(h:(bF P t).slice=true)(E:(bF P t).Qw=true)(hs:(bF P t).DU=1):AB P #[t] d σ nx=AQ σ nx (bF P t).oI d:=by
 obtain⟨e,ei,z,G,J,O,S,Y,h6,h7⟩:=jC h E;rw[Y]at hs;unfold AB AQ;rw[h7];simp only[wX,wW,G,J,O,S,hs];rw[if_pos ⟨trivial,trivial⟩];cases d<;>try rfl
 rename_i b off len;simp only
 split
 .rfl
 .cases σ b<;>rfl
theorem Ul {t:TypeId} {row:List V} {len:Nat}(h:(bF P t).slice=true):mP P t (.ts row len)=some (.sc (.int .i64 len)):=by
 unfold bF at h;cases hi:P.info? t with
 |none=>simp[hi]at h
 |some i=>
  cases E:P.underlying t with
  |none=>simp[hi,E]at h
  |some d=>simp only[hi,E]at h;cases d<;>simp at h;simp[mP,E]
theorem sG {t:TypeId} {b off len:Nat}(h:(bF P t).slice=true):mP P t (.rs b off len)=some (.sc (.int .i64 len)):=by
 unfold bF at h;cases hi:P.info? t with
 |none=>simp[hi]at h
 |some i=>
  cases E:P.underlying t with
  |none=>simp[hi,E]at h
  |some d=>simp only[hi,E]at h;cases d<;>simp at h;simp[mP,E]
theorem oN {t:TypeId}(h:(bF P t).slice=true):mP P t .nil=some (.sc (.int .i64 0)):=by
 unfold bF at h;cases hi:P.info? t with
 |none=>simp[hi]at h
 |some i=>
  cases E:P.underlying t with
  |none=>simp[hi,E]at h
  |some d=>simp only[hi,E]at h;cases d<;>simp at h;simp[mP,E]
theorem J5 {t:TypeId}(h:(bF P t).str=true):P.underlying t=some .string:=by
 unfold bF at h;cases hi:P.info? t with
 |none=>simp[hi]at h
 |some i=>
  cases E:P.underlying t with
  |none=>simp[hi,E]at h
  |some d=>simp only[hi,E]at h;cases d<;>simp at h;rfl
theorem abO {t:TypeId} {s:ByteArray}(h:(bF P t).str=true):mP P t (.sc (.string s))=some (.sc (.int .i64 s.size)):=by
 simp[mP,J5 h]
theorem abP {t:TypeId} {s:ByteArray} {k:IntKind} {i:Int}(h:(bF P t).str=true):DL P t (.sc (.string s)) (.sc (.int k i))=(if 0<=i then s[i.toNat]? else none).map fun b=> .sc (.int .u8 b.toNat):=by
 unfold DL;simp only[J5 h]
 split<;>rename_i e<;>rw[e]<;>rfl
theorem Um {t:TypeId} {s:ByteArray} {lo hi:Option V}(h:(bF P t).str=true):dX P t (.sc (.string s)) lo hi none σ=(bnd lo 0).bind fun l=>(bnd hi s.size).bind fun h=>if l<=h/\h<=s.size then some (.sc (.string (s.extract l h)))else none:=by
 unfold dX;simp only[J5 h];cases bnd lo 0<;>cases bnd hi s.size<;>rfl
theorem Ye {t:TypeId} {row:List V} {len:Nat} {lo hi:Option V}(h:(bF P t).slice=true)(E:(bF P t).Qw=true):dX P t (.ts row len) lo hi none σ=(bnd lo 0).bind fun l=>(bnd hi len).bind fun h=>if l<=h/\h<=len then some (.ts ((row.drop (l*(bF P t).DU)).take ((h-l)*(bF P t).DU)) (h-l))else none:=by
 obtain⟨e,S,z,G,J,Y,h4,O,h6,h7⟩:=jC h E;unfold dX;simp only[G,J,O];cases bnd lo 0<;>cases bnd hi len<;>rfl
theorem Yf {t:TypeId} {b off len:Nat} {lo hi:Option V}(h:(bF P t).slice=true)(E:(bF P t).Qw=true):dX P t (.rs b off len) lo hi none σ=(bnd lo 0).bind fun l=>(bnd hi len).bind fun h=>(σ b).bind fun B=>
  if l<=h/\0<(bF P t).DU/\B.st=(bF P t).DU/\off+h*(bF P t).DU<=B.cells.length then
   if l=0 then some (.rs b off h)else if l=h then some (.ts [] 0)else some (.rs b (off+l*(bF P t).DU) (h-l))else none:=by
 obtain⟨e,S,z,G,J,Y,h4,O,h6,h7⟩:=jC h E;unfold dX;simp only[G,J,O];cases bnd lo 0<;>cases bnd hi len<;>cases σ b<;>rfl
theorem aej(v:Value):toVal (.sc v)=some v:=rfl
section
variable {t:TypeId} {x y:Operand} {k:IntKind} {a b:Int}
theorem alR:dK P .add t x y (.sc (.int k a)) (.sc (.int k b))=some (.sc (.int k (k.wrap (a+b)))):=by
 simp only[dK,toVal,eqGuard_add,binOp_add,Op.intArith];rfl
theorem alS:dK P .sub t x y (.sc (.int k a)) (.sc (.int k b))=some (.sc (.int k (k.wrap (a-b)))):=by
 simp only[dK,toVal,eqGuard_sub,binOp_sub,Op.intArith];rfl
theorem alT:dK P .mul t x y (.sc (.int k a)) (.sc (.int k b))=some (.sc (.int k (k.wrap (a*b)))):=by
 simp only[dK,toVal,eqGuard_mul,binOp_mul,Op.intArith];rfl
theorem alU(h:b≠0):dK P .quo t x y (.sc (.int k a)) (.sc (.int k b))=some (.sc (.int k (k.wrap (a.tdiv b)))):=by
 simp only[dK,toVal,eqGuard_quo,binOp_quo,Op.intDiv,if_neg h];rfl
theorem alV(h:b≠0):dK P .rem t x y (.sc (.int k a)) (.sc (.int k b))=some (.sc (.int k (a.tmod b))):=by
 simp only[dK,toVal,eqGuard_rem,binOp_rem,Op.intDiv,if_neg h];rfl
theorem alX:dK P .eql t x y (.sc (.int k a)) (.sc (.int k b))=some (.sc (.bool (a==b))):=by
 simp only[dK,toVal,eqGuard_at_int,binOp_eql];rfl
theorem alY:dK P .neq t x y (.sc (.int k a)) (.sc (.int k b))=some (.sc (.bool (a !=b))):=by
 simp only[dK,toVal,eqGuard_at_int,binOp_neq];rfl
theorem alZ:dK P .lss t x y (.sc (.int k a)) (.sc (.int k b))=some (.sc (.bool (decide (a<b)))):=by
 simp only[dK,toVal,eqGuard_lss,binOp_lss];rfl
theorem al0:dK P .leq t x y (.sc (.int k a)) (.sc (.int k b))=some (.sc (.bool (decide (a<=b)))):=by
 simp only[dK,toVal,eqGuard_leq,binOp_leq];rfl
theorem al1:dK P .gtr t x y (.sc (.int k a)) (.sc (.int k b))=some (.sc (.bool (decide (b<a)))):=by
 simp only[dK,toVal,eqGuard_gtr,binOp_gtr];rfl
theorem al2:dK P .geq t x y (.sc (.int k a)) (.sc (.int k b))=some (.sc (.bool (decide (b<=a)))):=by
 simp only[dK,toVal,eqGuard_geq,binOp_geq];rfl
theorem al3 {p:Bool}:XH P .not (.sc (.bool p))=some (.sc (.bool !p)):=rfl
theorem al4:XH P .neg (.sc (.int k a))=some (.sc (.int k (k.wrap (0-a)))):=rfl
end
end
end Go.TV
namespace Go.TV
set_option linter.unusedVariables false
set_option linter.unusedSimpArgs false
variable [Known]
section
variable {P:Program} {conv:FuncId->Conv} {call:Call}
def aek(P:Program)(conv:FuncId->Conv)(call:Call)(ops:Array Oper)(rest:List Oper)(T:Nat->V)(d:Option Tmp):Jg->Option St
 |some (v,σ,nx)=>iL P conv call ops rest ⟨jQ T d v,σ,nx⟩
 |none=>none
def aia(P:Program)(conv:FuncId->Conv)(call:Call)(ops:Array Oper)(rest:List Oper)(o:Oper)(s:St):Option Bool->Option St
 |some true=>aek P conv call ops rest s.T o.dst (dL P conv call o s.T s.σ s.nx)
 |some false=>iL P conv call ops rest ⟨jQ s.T o.dst (.dS []),s.σ,s.nx⟩
 |none=>none
theorem abQ(ops:Array Oper)(s:St):iL P conv call ops [] s=some s:=rfl
theorem Yg(ops:Array Oper)(d:Option Tmp)(op:Op)(ty:TypeId)(ps:String)(af:Array Edge)(rest:List Oper)(T:Nat->V)(σ:Store)(nx:Nat) :
  iL P conv call ops (⟨d,op,ty,ps,af,none⟩ :: rest) ⟨T,σ,nx⟩=aek P conv call ops rest T d (dL P conv call ⟨d,op,ty,ps,af,none⟩ T σ nx):=by
 show(match dL P conv call ⟨d,op,ty,ps,af,none⟩ T σ nx with|some (v,σ',nx')=>_|none=>none)=_;cases dL P conv call ⟨d,op,ty,ps,af,none⟩ T σ nx<;>rfl
theorem Un(ops:Array Oper)(d:Option Tmp)(op:Op)(ty:TypeId)(ps:String)(af:Array Edge)(g:Nat×Bool)(rest:List Oper)(T:Nat->V)(σ:Store)(nx:Nat) :
  iL P conv call ops (⟨d,op,ty,ps,af,some g⟩ :: rest) ⟨T,σ,nx⟩=aia P conv call ops rest ⟨d,op,ty,ps,af,some g⟩ ⟨T,σ,nx⟩ (fO ops T ⟨d,op,ty,ps,af,some g⟩):=by
 show(match fO ops T ⟨d,op,ty,ps,af,some g⟩with|some true=>_|some false=>_|none=>none)=_;cases fO ops T ⟨d,op,ty,ps,af,some g⟩with
 |none=>rfl
 |some b=>
  cases b with
  |false=>rfl
  |true=>
   simp only[aia];cases dL P conv call ⟨d,op,ty,ps,af,some g⟩ T σ nx<;>rfl
theorem abR(ops:Array Oper)(rest:List Oper)(T:Nat->V)(d:Tmp)(v:V)(σ:Store)(nx:Nat):aek P conv call ops rest T (some d) (some (v,σ,nx))=iL P conv call ops rest ⟨upd T d v,σ,nx⟩:=rfl
theorem abS(ops:Array Oper)(rest:List Oper)(T:Nat->V)(v:V)(σ:Store)(nx:Nat):aek P conv call ops rest T none (some (v,σ,nx))=iL P conv call ops rest ⟨T,σ,nx⟩:=rfl
theorem abT(ops:Array Oper)(rest:List Oper)(d:Option Tmp)(op:Op)(ty:TypeId)(ps:String)(af:Array Edge)(g:Option (Nat×Bool))(T:Nat->V)(σ:Store)(nx:Nat) :
  aia P conv call ops rest ⟨d,op,ty,ps,af,g⟩ ⟨T,σ,nx⟩ (some true)=aek P conv call ops rest T d (dL P conv call ⟨d,op,ty,ps,af,g⟩ T σ nx):=rfl
theorem Yh(ops:Array Oper)(rest:List Oper)(d:Tmp)(op:Op)(ty:TypeId)(ps:String)(af:Array Edge)(g:Option (Nat×Bool))(T:Nat->V)(σ:Store)(nx:Nat) :
  aia P conv call ops rest ⟨some d,op,ty,ps,af,g⟩ ⟨T,σ,nx⟩ (some false)=iL P conv call ops rest ⟨upd T d (.dS []),σ,nx⟩:=rfl
def Qx(want:Bool):V->Option Bool
 | .sc (.bool b)=>some (b==want)
 | .dS []=>some false
 |_=>none
theorem Qy(ops:Array Oper)(d:Option Tmp)(op:Op)(ty:TypeId)(ps:String)(af:Array Edge)(j:Nat)(want:Bool)(T:Nat->V) :
  fO ops T ⟨d,op,ty,ps,af,some (j,want)⟩=match(ops[j]?).bind (·.dst)with|some d=>Qx want (T d)|none=>some false:=by
 unfold fO Qx;rfl
theorem Uo(want b:Bool):Qx want (.sc (.bool b))=some (b==want):=rfl
theorem Qz(want:Bool):Qx want (.dS [])=some false:=rfl
theorem aib(T:Nat->V)(t:Tmp):val T (.tmp t)=T t:=rfl
theorem abU(T:Nat->V)(v:Value):val T (.const v)=EG v:=rfl
theorem ael(T:Nat->V)(f:FuncId):val T (.func f)= .clo f []:=rfl
section
variable (d:Option Tmp) (ty:TypeId) (ps:String) (af:Array Edge) (gd:Option (Nat×Bool)) (T:Nat->V) (σ:Store) (nx:Nat)
theorem aic(x:Operand):dL P conv call ⟨d,.move x,ty,ps,af,gd⟩ T σ nx=some (val T x,σ,nx):=rfl
theorem abV(x:Operand):dL P conv call ⟨d,.assign x,ty,ps,af,gd⟩ T σ nx=some (val T x,σ,nx):=rfl
def aan(a b:V):V->Option V
 | .sc (.bool t)=>some (if t then a else b)
 |_=>none
theorem aao(c a b:Operand):dL P conv call ⟨d,.pick c a b,ty,ps,af,gd⟩ T σ nx=(aan (val T a) (val T b) (val T c)).map (·,σ,nx):=by
 simp only[dL];unfold aan
 split<;>simp_all
theorem Yi(a b:V)(t:Bool):aan a b (.sc (.bool t))=some (if t then a else b):=rfl
theorem apT:isB []=false:=id rfl
theorem apU(v:V):isB [v]=false:=id rfl
theorem apV(u v w:V)(l:List V):isB (u :: v :: w :: l)=false:=id rfl
theorem al5(v w:V):isB [v,w]=(isP v && isN w):=id rfl
theorem aie:isP .nil=false:=id rfl
theorem aif(k:IntKind)(n:Int):isP (.sc (.int k n))=false:=id rfl
theorem aem(b:Bool):isP (.sc (.bool b))=false:=id rfl
theorem Yj(b:ByteArray):isP (.sc (.string b))=false:=id rfl
theorem aen:isP (.sc (.pointer none))=true:=id rfl
theorem aii:isN .nil=true:=id rfl
theorem al6(v:Value):isN (.sc v)=false:=id rfl
theorem Us(t:TypeId)(h:(bF P t).ok=true)(E:decide ((bF P t).zero.length=(bF P t).size)=true)(J:decide (0<(bF P t).size)=true)(hb:isB (bF P t).zero=false):dL P conv call ⟨d,.alloc t,ty,ps,af,gd⟩ T σ nx=some (.rp nx 0,dA σ nx (bF P t).zero 0,nx+1):=by
 obtain⟨i,Y,O,S,h3,h4⟩:=Cm h;simp only[dL,O];unfold bF at E J hb⊢;simp only[O,S,decide_eq_true_eq]at E J hb⊢;unfold Iq zeroV at *;cases G:i.zero with
 |none=>simp[G]at E;omega
 |some z=>
  simp only[G]at E hb⊢
  by_cases hs:z.cells.size=i.size
  .simp only[hs,decide_true,if_true]at hb
   simp[hs,OB,hb]
  .simp[hs]at E;omega
theorem aeo(t:TypeId)(x:Operand):dL P conv call ⟨d,.box t x,ty,ps,af,gd⟩ T σ nx=(cellsOfV (val T x)).map fun cs=>(.rp nx 0,dA σ nx cs 0,nx+1):=by
 simp only[dL];cases cellsOfV (val T x)<;>rfl
theorem aep(t:TypeId)(parts:Array (Nat×Operand)):dL P conv call ⟨d,.build t parts,ty,ps,af,gd⟩ T σ nx=(Az P t (parts.toList.map fun p=>(p.1,val T p.2))).map (·,σ,nx):=rfl
theorem lK(t:TypeId)(len:Nat)(parts:Array (Nat×Operand))(h:(decide (len=0) && !parts.isEmpty)=false):dL P conv call ⟨d,.buildSlice t len parts,ty,ps,af,gd⟩ T σ nx=iI P t len (parts.toList.map fun p=>(p.1,val T p.2)) σ nx:=by
 simp only[dL,h,yM,if_false]
theorem aij(t:TypeId)(a:Operand):dL P conv call ⟨d,.load t a,ty,ps,af,gd⟩ T σ nx=(eU P σ t (val T a)).map (·,σ,nx):=rfl
theorem aer(t:TypeId)(a x:Operand):dL P conv call ⟨d,.store t a x,ty,ps,af,gd⟩ T σ nx=(kL P σ t (val T a) (val T x)).map (.dS [],·,nx):=rfl
def aes:V->Option V
 | .tp row off=>some (.tp row off)
 | .rp b off=>some (.rp b off)
 |_=>none
theorem Jp(x:Operand):dL P conv call ⟨d,.nilCheck x,ty,ps,af,gd⟩ T σ nx=(aes (val T x)).map (·,σ,nx):=by
 simp only[dL];unfold aes
 split<;>simp_all
theorem aik(row:List V)(off:Nat):aes (.tp row off)=some (.tp row off):=rfl
theorem ail(b off:Nat):aes (.rp b off)=some (.rp b off):=rfl
theorem aeu(op:BinOp)(t:TypeId)(x y:Operand)(E:TypeId):dL P conv call ⟨d,.binOp op t x y E,ty,ps,af,gd⟩ T σ nx=(dK P op t x y (val T x) (val T y)).map (·,σ,nx):=rfl
theorem ain(op:UnOp)(t:TypeId)(x:Operand):dL P conv call ⟨d,.unOp op t x,ty,ps,af,gd⟩ T σ nx=(XH P op (val T x)).map (·,σ,nx):=rfl
theorem Yk(s e:TypeId)(x:Operand):dL P conv call ⟨d,.convert s e x,ty,ps,af,gd⟩ T σ nx=(gK P s e (val T x) σ).map (·,σ,nx):=rfl
theorem Ut(f:FuncId)(cap:Array Operand):dL P conv call ⟨d,.makeFunc (.func f) #[] cap,ty,ps,af,gd⟩ T σ nx=some (.clo f (cap.toList.map (val T)),σ,nx):=rfl
theorem Gs(t:TypeId)(l c:Operand):dL P conv call ⟨d,.makeSlice t l c,ty,ps,af,gd⟩ T σ nx=rQ P t (val T l) (val T c) σ nx:=rfl
theorem aev(t:TypeId)(x:Operand)(lo hi E:Option Operand):dL P conv call ⟨d,.slice t x lo hi E,ty,ps,af,gd⟩ T σ nx=(dX P t (val T x) (lo.map (val T)) (hi.map (val T)) (E.map (val T)) σ).map (·,σ,nx):=rfl
theorem QD(t:TypeId)(x:Operand)(f:Nat):dL P conv call ⟨d,.fieldAddr t x f,ty,ps,af,gd⟩ T σ nx=(gZ P t (val T x) f).map (·,σ,nx):=rfl
theorem aew(t:TypeId)(x:Operand)(f:Nat):dL P conv call ⟨d,.field t x f,ty,ps,af,gd⟩ T σ nx=(J4 P t (val T x) f).map (·,σ,nx):=rfl
theorem QE(t:TypeId)(x i:Operand):dL P conv call ⟨d,.indexAddr t x i,ty,ps,af,gd⟩ T σ nx=(je P t (val T x) (val T i)).map (·,σ,nx):=rfl
theorem aex(t:TypeId)(x i:Operand):dL P conv call ⟨d,.index t x i,ty,ps,af,gd⟩ T σ nx=(DL P t (val T x) (val T i)).map (·,σ,nx):=rfl
def aio(i:Nat):V->Option V
 | .dS vs=>vs[i]?
 |_=>none
theorem KW(x:Operand)(i:Nat):dL P conv call ⟨d,.extract x i,ty,ps,af,gd⟩ T σ nx=(aio i (val T x)).map (·,σ,nx):=by
 simp only[dL];unfold aio
 split<;>simp_all
theorem aey(i:Nat)(vs:List V):aio i (.dS vs)=vs[i]?:=rfl
def aez(conv:FuncId->Conv)(call:Call)(args:List V)(σ:Store)(nx:Nat):V->Jg
 | .clo g cs=>jc conv call g (args++cs) σ nx
 |_=>none
theorem J6(f:Operand)(args:Array Operand)(ts:Array TypeId):dL P conv call ⟨d,.call ⟨.value f,args,ts⟩,ty,ps,af,gd⟩ T σ nx=aez conv call (args.toList.map (val T)) σ nx (val T f):=by
 simp only[dL];unfold aez;rfl
theorem DV(args:List V)(σ:Store)(nx:Nat)(g:FuncId)(cs:List V):aez conv call args σ nx (.clo g cs)=jc conv call g (args++cs) σ nx:=rfl
theorem al7(x:Operand)(t:TypeId):dL P conv call ⟨d,.call ⟨.builtin .len,#[x],#[t]⟩,ty,ps,af,gd⟩ T σ nx=(mP P t (val T x)).map (·,σ,nx):=rfl
theorem aip(a x:Operand)(t u:TypeId):dL P conv call ⟨d,.call ⟨.builtin .copy,#[a,x],#[t,u]⟩,ty,ps,af,gd⟩ T σ nx=Cb P #[t,u] (val T a) (val T x) σ nx:=rfl
theorem aeA(a:Operand)(t:TypeId):dL P conv call ⟨d,.call ⟨.builtin .clear,#[a],#[t]⟩,ty,ps,af,gd⟩ T σ nx=AB P #[t] (val T a) σ nx:=rfl
theorem OL(a x:Operand)(t u:TypeId):dL P conv call ⟨d,.call ⟨.builtin .append,#[a,x],#[t,u]⟩,ty,ps,af,gd⟩ T σ nx=lJ P #[t,u] (val T a) (val T x) σ nx:=rfl
end
def Uu:Option St->Option (Ex×St)
 |some s=>some (.norm,s)
 |none=>none
theorem Yl(s:St):Uu (some s)=some (.norm,s):=rfl
def Ir(id:Nat):Option (Ex×St)->Option (Ex×St)
 |some (.exit j,s)=>if j=id then some (.norm,s)else some (.exit j,s)
 |r=>r
theorem Uw(id:Nat)(s:St):Ir id (some (.norm,s))=some (.norm,s):=rfl
theorem Ym(id:Nat)(s:St):Ir id (some (.ret,s))=some (.ret,s):=rfl
theorem Ux(id j:Nat)(s:St):Ir id (some (.exit j,s))=if j=id then some (.norm,s)else some (.exit j,s):=rfl
noncomputable def aeB(body:St->Option (Ex×St)):Option (Ex×St)->Option (Ex×St)
 |some (.norm,s)=>aF body s
 |r=>r
theorem Yn(body:St->Option (Ex×St))(s:St):aeB body (some (.norm,s))=aF body s:=rfl
theorem abW(body:St->Option (Ex×St))(s:St):aeB body (some (.ret,s))=some (.ret,s):=rfl
theorem Yo(body:St->Option (Ex×St))(i:Nat)(s:St):aeB body (some (.exit i,s))=some (.exit i,s):=rfl
def abX(P:Program)(rs:List ResultVar):Option (Ex×St)->Jg
 |some (.norm,st)=>(bI P st.T st.σ rs).map fun vs=>(oneOf vs,st.σ,st.nx)
 |some (.ret,st)=>(bI P st.T st.σ rs).map fun vs=>(oneOf vs,st.σ,st.nx)
 |_=>none
theorem Uy(rs:List ResultVar)(body:Code)(s:St):Ui P conv call rs body s=abX P rs (dD P conv call body s):=by
 unfold Ui abX;cases dD P conv call body s with
 |none=>rfl
 |some q=>
  obtain⟨e,st⟩:=q;cases e<;>simp only<;>cases bI P st.T st.σ rs<;>rfl
theorem abY(rs:List ResultVar)(T:Nat->V)(σ:Store)(nx:Nat):abX P rs (some (.norm,⟨T,σ,nx⟩))=(bI P T σ rs).map fun vs=>(oneOf vs,σ,nx):=rfl
theorem aeC(rs:List ResultVar)(T:Nat->V)(σ:Store)(nx:Nat):abX P rs (some (.ret,⟨T,σ,nx⟩))=(bI P T σ rs).map fun vs=>(oneOf vs,σ,nx):=rfl
theorem aeD(T:Nat->V)(σ:Store)(t:Tmp):bI P T σ [.tmp t]=some [T t]:=rfl
theorem aiq(T:Nat->V)(σ:Store):bI P T σ []=some []:=rfl
theorem aeE(T:Nat->V)(σ:Store)(t u:Tmp):bI P T σ [.tmp t,.tmp u]=some [T t,T u]:=rfl
theorem aeF(T:Nat->V)(σ:Store)(t u v:Tmp):bI P T σ [.tmp t,.tmp u,.tmp v]=some [T t,T u,T v]:=rfl
theorem abZ(T:Nat->V)(σ:Store)(a:Tmp)(t:TypeId):bI P T σ [.cell a t]=(eU P σ t (T a)).map fun v=>[v]:=by
 simp only[bI];cases eU P σ t (T a)<;>rfl
theorem ab1(v:V):oneOf [v]=v:=rfl
theorem ab2(u v:V):oneOf [u,v]= .dS [u,v]:=rfl
theorem Uz(u v w:V):oneOf [u,v,w]= .dS [u,v,w]:=rfl
theorem Yp:oneOf []= .dS []:=rfl
theorem ab3(l:List V)(i:Nat):jM l i=(l[i]?).getD (.dS []):=rfl
theorem ab4(k:IntKind)(n:Int):EG (.int k n)= .sc (.int k n):=rfl
theorem Yq(b:Bool):EG (.bool b)= .sc (.bool b):=rfl
theorem QF(s:ByteArray):EG (.string s)= .sc (.string s):=rfl
theorem Yr:EG (.pointer none)= .sc (.pointer none):=rfl
theorem Yt:EG (.slice none 0 0)= .nil:=rfl
theorem ab5(l:List Value):EG (.agg l.toArray)= .agg (l.map iD):=rfl
end
end Go.TV
namespace Go.TV
set_option linter.unusedVariables false
set_option linter.unusedSimpArgs false
variable [Known]
section
variable {P:Program} {conv:FuncId->Conv} {call:Call}
def jS(P:Program)(conv:FuncId->Conv)(call:Call)(ops:Array Oper):List Oper->St->Option St
 |[],s=>some s
 |o :: rest,s=>match fO ops s.T o with
  |some true=>match bY P conv call o s.T s.σ s.nx with
   |some (v,σ',nx')=>jS P conv call ops rest ⟨jQ s.T o.dst v,σ',nx'⟩
   |none=>none
  |some false=>jS P conv call ops rest ⟨jQ s.T o.dst (.dS []),s.σ,s.nx⟩
  |none=>none
theorem Iu(ops:Array Oper):∀(l:List Oper) (s:St),jS P conv call ops l s=(gu P conv call ops l s).map (·.1)
 |[],s=>rfl
 |o :: l,s=>by
  unfold jS gu;cases fO ops s.T o with
  |none=>rfl
  |some b=>
   cases b with
   |true=>
    simp only;cases bY P conv call o s.T s.σ s.nx with
    |none=>rfl
    |some q=>
     obtain⟨v,σ',nx'⟩:=q;simp only;rw[Iu ops l];cases gu P conv call ops l ⟨jQ s.T o.dst v,σ',nx'⟩<;>rfl
   |false=>
    simp only;rw[Iu ops l];cases gu P conv call ops l ⟨jQ s.T o.dst (.dS []),s.σ,s.nx⟩<;>rfl
def Iw(conv:FuncId->Conv)(ops:Array Oper):Bool:=TX ops && (Fg conv ops.toList).isEmpty
theorem QG {ops:Array Oper}(h:Iw conv ops=true)(s:St):jq P conv call ops s=jS P conv call ops ops.toList s:=by
 unfold Iw at h;rw[yh]at h;have hw:Fg conv ops.toList=[]:=by simpa using h.2
 unfold jq;rw[if_pos h.1,Iu,hw];cases gu P conv call ops ops.toList s with
 |none=>rfl
 |some q=>obtain⟨s',fs⟩:=q;rfl
def Gt(af:Array Edge)(i:Nat):Bool:=af.any fun e=>Region.binds .any e && e.on==i
def okG(af:Array Edge)(w:Bool)(ids:List Nat):List (Nat×Bool×List Nat)->Bool
 |[]=>true
 |p :: acc=>(if(w||p.2.1)=true then(if Gt af p.1=true then true else p.2.2.all fun b=> !ids.contains b)else true) && okG af w ids acc
def okF(af:Array Edge)(acc:List (Nat×Bool×List Nat))(w:Bool):List Nat->Bool
 |[]=>true
 |b :: bs=>okG af w (b :: bs) acc
def UA(acc:List (Nat×Bool×List Nat))(k:Nat)(w:Bool):List Nat->List (Nat×Bool×List Nat)
 |[]=>acc
 |b :: bs=>acc++[(k,w,b :: bs)]
def jT(P:Program)(conv:FuncId->Conv)(call:Call)(ops:Array Oper):List Oper->Nat->List (Nat×Bool×List Nat)->St->Option St
 |[],_,_,s=>some s
 |o :: rest,k,acc,s=>match fO ops s.T o with
  |some true=>if okF o.after acc (writer conv o) (bC conv s.T s.σ o)=true then(match bY P conv call o s.T s.σ s.nx with
   |some (v,σ',nx')=>jT P conv call ops rest (k+1) (UA acc k (writer conv o) (bC conv s.T s.σ o)) ⟨jQ s.T o.dst v,σ',nx'⟩
   |none=>none)else none
  |some false=>jT P conv call ops rest (k+1) acc ⟨jQ s.T o.dst (.dS []),s.σ,s.nx⟩
  |none=>none
def Apart(l:List Oper)(E:List (Bool×List Nat)):Prop:=∀(i j:Nat) o p q,i<j->l[j]?=some o->E[i]?=some p->E[j]?=some q->(q.1||p.1)=true->uY o i≠true->∀b∈p.2,b∉q.2
def Told(E:List (Bool×List Nat))(acc:List (Nat×Bool×List Nat)):Prop:=∀(i:Nat) p,E[i]?=some p->p.2≠[]->(i,p.1,p.2)∈acc
theorem UC {af:Array Edge} {w:Bool} {ids:List Nat}:∀ {acc:List (Nat×Bool×List Nat)},okG af w ids acc=true->∀p∈acc,(w||p.2.1)=true->Gt af p.1≠true->∀b∈p.2.2,b∉ids
 |[],_,p,hp,_,_,_,_=>by cases hp
 |q :: acc,h,p,hp,hw,he,b,hb=>by
  unfold okG at h;rw[yh]at h;rcases List.mem_cons.mp hp with rfl|hp
  .have E:=h.1
   rw[if_pos hw,if_neg he]at E;have:=List.all_eq_true.mp E b hb
   simpa using this
  .exact UC h.2 p hp hw he b hb
theorem KX {l:List Oper} {o:Oper} {O:List (Bool×List Nat)} {acc:List (Nat×Bool×List Nat)} {w:Bool} {ids:List Nat}(hl:l.length=O.length)(h:Apart l O)(ht:Told O acc)(ho:okF o.after acc w ids=true):Apart (l++[o]) (O++[(w,ids)]):=by
 intro i j o' p q S E hp G hw he b hb J;rcases Nat.lt_trichotomy j O.length with Y|Y|Y
 .rw[zV Y]at G
  rw[zV (by omega)]at hp;rw[zV (by omega)]at E;exact h i j o' p q S E hp G hw he b hb J
 .subst Y
  rw[zQ (zq _),yQ]at G;simp only[wW,wC]at G;subst G;rw[zV S]at hp;rw[zQ (by omega),hl,yQ]at E;simp only[wW,wC]at E;subst E;cases ids with
  |nil=>cases J
  |cons c cs=>exact UC ho _ (ht i p hp (fun e=>by rw[e]at hb;cases hb)) hw he b hb J
 .rw[yc (by simp;omega)]at G
  cases G
theorem OM {E:List (Bool×List Nat)} {acc:List (Nat×Bool×List Nat)}(S:Told E acc)(w:Bool)(ids:List Nat):Told (E++[(w,ids)]) (UA acc E.length w ids):=by
 intro i p hp G;have J:∀x,x∈acc->x∈UA acc E.length w ids:=fun x O=>by cases ids with
  |nil=>exact O
  |cons c cs=>exact zF _ O
 rcases Nat.lt_trichotomy i E.length with hi|hi|hi
 .rw[zV hi]at hp
  exact J _ (S i p hp G)
 .subst hi
  rw[zQ (zq _),yQ]at hp;simp only[wW,wC]at hp;subst hp;cases ids with
  |nil=>exact absurd rfl G
  |cons c cs=>exact zA _ (by simp)
 .rw[yc (by simp;omega)]at hp
  cases hp
theorem CB(ops:Array Oper):∀(l pre:List Oper) (k:Nat) (E:List (Bool×List Nat)) (acc:List (Nat×Bool×List Nat)) (s s':St),k=E.length->pre.length=E.length->Apart pre E->Told E acc->jT P conv call ops l k acc s=some s' ->
  ∃fs,gu P conv call ops l s=some (s',fs)/\fs.length=l.length/\Apart (pre++l) (E++(l.zip fs).map fun p=>(writer conv p.1,p.2))
 |[],pre,k,E,acc,s,s',hk,hl,ha,ht,h=>by
  unfold jT at h;cases h;exact⟨[],rfl,rfl,by simpa using ha⟩
 |o :: l,pre,k,E,acc,s,s',hk,hl,ha,ht,h=>by
  unfold jT at h;unfold gu;cases hw:fO ops s.T o with
  |none=>rw[hw]at h;cases h
  |some b=>
   rw[hw]at h;cases b with
   |true=>
    simp only at h⊢
    by_cases G:okF o.after acc (writer conv o) (bC conv s.T s.σ o)=true
    .rw[if_pos G]at h
     cases Y:bY P conv call o s.T s.σ s.nx with
     |none=>rw[Y]at h;cases h
     |some q=>
      obtain⟨v,σ',nx'⟩:=q;rw[Y]at h;subst hk;obtain⟨fs,J,O,S⟩:=CB ops l (pre++[o]) _ (E++[(writer conv o,bC conv s.T s.σ o)]) _ _ s' (by simp) (by simp[hl]) (KX hl ha ht G) (OM ht _ _) h;refine⟨bC conv s.T s.σ o :: fs,?_,by simp[O],by simpa using S⟩;simp only;rw[J]
    .rw[if_neg G]at h;cases h
   |false=>
    simp only at h⊢;subst hk;obtain⟨fs,J,O,S⟩:=CB ops l (pre++[o]) _ (E++[(writer conv o,[])]) _ _ s' (by simp) (by simp[hl]) (KX hl ha ht rfl) (OM ht _ []) h;refine⟨[] :: fs,?_,by simp[O],by simpa using S⟩;rw[J]
theorem NZ {l:List Oper} {fs:List (List Nat)}(hl:fs.length=l.length)(h:Apart l ((l.zip fs).map fun p=>(writer conv p.1,p.2))):Qq fs (Fg conv l)=true:=by
 unfold Qq;refine List.all_eq_true.mpr ?_;rintro ⟨i,j⟩ hm;unfold Fg at hm;simp only[List.mem_flatMap,List.mem_filterMap]at hm;obtain⟨⟨o,j'⟩,hj,⟨p,i'⟩,hi,E⟩:=hm;simp only at E
 split at E
 .cases E
 .rename_i a0
  split at E
  .rename_i a1
   simp only[wC,wB]at E;obtain⟨rfl,rfl⟩:=E;have a2:=List.mem_zipIdx' hj;have a3:=List.mem_zipIdx' hi;obtain⟨G,J⟩:=a2;obtain⟨a4,O⟩:=a3;simp only[zh]at a4;refine List.all_eq_true.mpr fun b hb=>?_
   have S:i'<fs.length:=by omega
   have Y:j'<fs.length:=by omega
   rw[zy S,xM]at hb;rw[zy Y,xM];have hz:∀(k:Nat) (h1:k<l.length) (h2:k<fs.length),((l.zip fs).map fun p=>(writer conv p.1,p.2))[k]?=some (writer conv l[k],fs[k]):=by
    intro k h1 h2;rw[yX,zy (by simp;omega)];simp
   have:=h i' j' o _ _ (by omega) (by rw[zy G,J]) (hz i' (by omega) S) (hz j' G Y) (by
    rw[List.getElem_take]at O;rw[<- J,<- O];exact a1) a0 b hb
   simpa using this
  .cases E
def KY(P:Program)(conv:FuncId->Conv)(call:Call)(ops:Array Oper)(s0:St):Option St->Option St
 |some s=>some s
 |none=>jq P conv call ops s0
theorem aeG {ops:Array Oper}(E:TX ops=true)(s:St):KY P conv call ops s (jT P conv call ops ops.toList 0 [] s)=jq P conv call ops s:=by
 cases h:jT P conv call ops ops.toList 0 [] s with
 |none=>rfl
 |some s'=>
  obtain⟨fs,G,J,O⟩:=CB ops ops.toList [] 0 [] [] s s' rfl rfl (by intro i j o p q _ _ hp;simp at hp) (by intro i p hp;simp at hp) h;unfold KY jq;rw[if_pos E,G];simp only;rw[if_pos (NZ J (by simpa using O))]
def iw(conv:FuncId->Conv)(ex:List Nat):Code->Bool
 | .region id ops draw=> !draw||(ex.contains id && TX ops)||Iw conv ops
 | .seq a b=>iw conv ex a && iw conv ex b
 | .cond _ a b=>iw conv ex a && iw conv ex b
 | .block _ c=>iw conv ex c
 | .loop c=>iw conv ex c
 |_=>true
noncomputable def BK(P:Program)(conv:FuncId->Conv)(call:Call)(ex:List Nat):Code->St->Option (Ex×St)
 | .skip,s=>some (.norm,s)
 | .region id ops draw,s=>Uu (if draw then(if id∈ex then KY P conv call ops s (jT P conv call ops ops.toList 0 [] s)else jS P conv call ops ops.toList s)else iL P conv call ops ops.toList s)
 | .seq a b,s=>match BK P conv call ex a s with
  |some (.norm,s')=>BK P conv call ex b s'
  |r=>r
 | .cond c a b,s=>match val s.T c with
  | .sc (.bool true)=>BK P conv call ex a s
  | .sc (.bool false)=>BK P conv call ex b s
  |_=>none
 | .block id c,s=>Ir id (BK P conv call ex c s)
 | .loop c,s=>aF (BK P conv call ex c) s
 | .exit id,s=>some (.exit id,s)
 | .ret,s=>some (.ret,s)
 |_,_=>none
theorem aeH {ex:List Nat}:∀(c:Code),iw conv ex c=true->∀s,dD P conv call c s=BK P conv call ex c s:=by
 intro c
 induction c with
 |region id ops draw=>
  intro h s;simp only[iw,BK,dD]at *;cases draw with
  |false=>simp only[yM,if_false];cases iL P conv call ops ops.toList s<;>rfl
  |true=>
   simp only[if_true]
   by_cases hid:id∈ex
   .rw[if_pos hid]
    by_cases O:TX ops=true
    .rw[aeG O];cases jq P conv call ops s<;>rfl
    .have J:Iw conv ops=true:=by simpa[O]using h
     unfold Iw at J;rw[yh]at J;exact absurd J.1 O
   .rw[if_neg hid]
    have J:Iw conv ops=true:=by simpa[hid]using h
    rw[QG J];cases jS P conv call ops ops.toList s<;>rfl
 |seq a b E G=>
  intro h s;simp only[iw,yh]at h;simp only[BK,dD];rw[E h.1];cases BK P conv call ex a s with
  |none=>rfl
  |some q=>obtain⟨e,s'⟩:=q;cases e<;>first|exact G h.2 s'|rfl
 |cond v a b E G=>
  intro h s;simp only[iw,yh]at h;simp only[BK,dD,E h.1,G h.2]
  all_goals rfl
 |block id c S=>
  intro h s;simp only[iw]at h;simp only[BK,dD,Ir];rw[S h]
  all_goals rfl
 |loop c S=>
  intro h s;simp only[iw]at h;simp only[BK,dD];rw[show dD P conv call c=BK P conv call ex c from funext (S h)]
 |_=>intro h s;rfl
noncomputable def sK(P:Program)(conv:FuncId->Conv)(call:Call)(ex:List Nat)(b:Code):Option (Ex×St)->Option (Ex×St)
 |some (.norm,s)=>BK P conv call ex b s
 |r=>r
variable {ex:List Nat}
theorem apW(a b:Code)(s:St):BK P conv call ex (.seq a b) s=sK P conv call ex b (BK P conv call ex a s):=by
 show(match BK P conv call ex a s with|some (.norm,s')=>BK P conv call ex b s'|r=>r)=_;unfold sK;rfl
theorem air(b:Code)(s:St):sK P conv call ex b (some (.norm,s))=BK P conv call ex b s:=rfl
theorem al8(b:Code)(s:St):sK P conv call ex b (some (.ret,s))=some (.ret,s):=rfl
theorem ais(b:Code)(i:Nat)(s:St):sK P conv call ex b (some (.exit i,s))=some (.exit i,s):=rfl
theorem aeI(id:Nat)(l:List Oper)(s:St):BK P conv call ex (.region id l.toArray false) s=Uu (iL P conv call l.toArray l s):=rfl
theorem al9(id:Nat)(l:List Oper)(s:St):BK P conv call [] (.region id l.toArray true) s=Uu (jS P conv call l.toArray l s):=rfl
theorem al_(s:St):BK P conv call ex .skip s=some (.norm,s):=rfl
theorem apX(s:St):BK P conv call ex .ret s=some (.ret,s):=rfl
theorem ama(i:Nat)(s:St):BK P conv call ex (.exit i) s=some (.exit i,s):=rfl
noncomputable def cK(P:Program)(conv:FuncId->Conv)(call:Call)(ex:List Nat)(a b:Code)(s:St):V->Option (Ex×St)
 | .sc (.bool true)=>BK P conv call ex a s
 | .sc (.bool false)=>BK P conv call ex b s
 |_=>none
theorem amb(c:Operand)(a b:Code)(T:Nat->V)(σ:Store)(nx:Nat):BK P conv call ex (.cond c a b) ⟨T,σ,nx⟩=cK P conv call ex a b ⟨T,σ,nx⟩ (val T c):=by
 show(match val T c with| .sc (.bool true)=>_| .sc (.bool false)=>_|_=>none)=_;unfold cK;rfl
theorem ait(a b:Code)(s:St):cK P conv call ex a b s (.sc (.bool true))=BK P conv call ex a s:=rfl
theorem aeJ(a b:Code)(s:St):cK P conv call ex a b s (.sc (.bool false))=BK P conv call ex b s:=rfl
theorem aiu(id:Nat)(c:Code)(s:St):BK P conv call ex (.block id c) s=Ir id (BK P conv call ex c s):=rfl
theorem amc(c:Code)(s:St):BK P conv call ex (.loop c) s=aF (BK P conv call ex c) s:=rfl
theorem awe {ext:Ext} {f:FuncId} {fn:Func} {body:Code} {rs:List ResultVar}(ex:List Nat)(G:ext f=none)(J:P.funcs[f]?=some fn)(hb:fn.body=some body)(O:fn.results.toList=rs) {args:List V}(E:TY fn body args.length=true)(S:iw conv ex body=true)(σ:Store)(nx:Nat) :
  ev P conv ext f args σ nx=abX P rs (BK P conv (ev P conv ext) ex body ⟨jM args,σ,nx⟩):=by
 rw[alc G J hb O E,Uy,aeH body S]
theorem ak {ext:Ext} {f:FuncId} {fn:Func} {body:Code}(rs:List ResultVar)(ex:List Nat)(G:P.funcs[f]?=some fn)(J:ext f=none:=by rfl)(hb:fn.body=some body:=by rfl)(O:fn.results.toList=rs:=by rfl) {args:List V}(E:TY fn body args.length=true:=by kernel_rfl)(S:iw conv ex body=true:=by kernel_rfl)(σ:Store)(nx:Nat) :
  ev P conv ext f args σ nx=abX P rs (BK P conv (ev P conv ext) ex body ⟨jM args,σ,nx⟩):=by
 rw[alc J G hb O E,Uy,aeH body S]
theorem Yu(ops:Array Oper)(s0 s:St):KY P conv call ops s0 (some s)=some s:=rfl
def Jq(P:Program)(conv:FuncId->Conv)(call:Call)(id:Nat)(l:List Oper)(s:St):List Nat->Option St
 |[]=>jS P conv call l.toArray l s
 |i :: ex=>if id=i then KY P conv call l.toArray s (jT P conv call l.toArray l 0 [] s)else Jq P conv call id l s ex
theorem UD(id:Nat)(l:List Oper)(s:St):∀ex:List Nat,Jq P conv call id l s ex=if id∈ex then KY P conv call l.toArray s (jT P conv call l.toArray l 0 [] s)else jS P conv call l.toArray l s
 |[]=>by simp[Jq]
 |i :: ex=>by
  unfold Jq;rw[UD id l s ex]
  by_cases h:id=i
  .rw[if_pos h,if_pos (by simp[h])]
  .rw[if_neg h]
   by_cases E:id∈ex
   .rw[if_pos E,if_pos (by simp[E])]
   .rw[if_neg E,if_neg (by simp[h,E])]
theorem aiv(i:Nat)(ex:List Nat)(id:Nat)(l:List Oper)(s:St):BK P conv call (i :: ex) (.region id l.toArray true) s=Uu (Jq P conv call id l s (i :: ex)):=by
 rw[UD];rfl
theorem ab6(id:Nat)(l:List Oper)(s:St):Jq P conv call id l s []=jS P conv call l.toArray l s:=rfl
theorem Yv(id:Nat)(l:List Oper)(s:St)(i:Nat)(ex:List Nat):Jq P conv call id l s (i :: ex)=if id=i then KY P conv call l.toArray s (jT P conv call l.toArray l 0 [] s)else Jq P conv call id l s ex:=rfl
def UE(P:Program)(conv:FuncId->Conv)(call:Call)(ops:Array Oper)(rest:List Oper)(k:Nat)(acc:List (Nat×Bool×List Nat))(T:Nat->V)(d:Option Tmp):Jg->Option St
 |some (v,σ,nx)=>jT P conv call ops rest k acc ⟨jQ T d v,σ,nx⟩
 |none=>none
def aap(P:Program)(conv:FuncId->Conv)(call:Call)(ops:Array Oper)(rest:List Oper)(k:Nat)(acc:List (Nat×Bool×List Nat))(o:Oper)(s:St):Option Bool->Option St
 |some true=>if okF o.after acc (writer conv o) (bC conv s.T s.σ o)=true then UE P conv call ops rest (k+1) (UA acc k (writer conv o) (bC conv s.T s.σ o)) s.T o.dst (bY P conv call o s.T s.σ s.nx)else none
 |some false=>jT P conv call ops rest (k+1) acc ⟨jQ s.T o.dst (.dS []),s.σ,s.nx⟩
 |none=>none
theorem Yw(ops:Array Oper)(k:Nat)(acc:List (Nat×Bool×List Nat))(s:St):jT P conv call ops [] k acc s=some s:=rfl
theorem UF(ops:Array Oper)(k:Nat)(acc:List (Nat×Bool×List Nat))(d:Option Tmp)(op:Op)(ty:TypeId)(ps:String)(af:Array Edge)(rest:List Oper)(T:Nat->V)(σ:Store)(nx:Nat) :
  jT P conv call ops (⟨d,op,ty,ps,af,none⟩ :: rest) k acc ⟨T,σ,nx⟩=if okF af acc (writer conv ⟨d,op,ty,ps,af,none⟩) (bC conv T σ ⟨d,op,ty,ps,af,none⟩)=true then UE P conv call ops rest (k+1) (UA acc k (writer conv ⟨d,op,ty,ps,af,none⟩) (bC conv T σ ⟨d,op,ty,ps,af,none⟩)) T d (bY P conv call ⟨d,op,ty,ps,af,none⟩ T σ nx)else none:=by
 show(if okF af acc (writer conv ⟨d,op,ty,ps,af,none⟩) (bC conv T σ ⟨d,op,ty,ps,af,none⟩)=true then(match bY P conv call ⟨d,op,ty,ps,af,none⟩ T σ nx with|some (v,σ',nx')=>_|none=>none)else none)=_;cases bY P conv call ⟨d,op,ty,ps,af,none⟩ T σ nx<;>rfl
theorem QH(ops:Array Oper)(k:Nat)(acc:List (Nat×Bool×List Nat))(d:Option Tmp)(op:Op)(ty:TypeId)(ps:String)(af:Array Edge)(g:Nat×Bool)(rest:List Oper)(T:Nat->V)(σ:Store)(nx:Nat) :
  jT P conv call ops (⟨d,op,ty,ps,af,some g⟩ :: rest) k acc ⟨T,σ,nx⟩=aap P conv call ops rest k acc ⟨d,op,ty,ps,af,some g⟩ ⟨T,σ,nx⟩ (fO ops T ⟨d,op,ty,ps,af,some g⟩):=by
 show(match fO ops T ⟨d,op,ty,ps,af,some g⟩with|some true=>_|some false=>_|none=>none)=_;cases fO ops T ⟨d,op,ty,ps,af,some g⟩with
 |none=>rfl
 |some b=>
  cases b with
  |false=>rfl
  |true=>
   simp only[aap];cases bY P conv call ⟨d,op,ty,ps,af,some g⟩ T σ nx<;>rfl
theorem Yx(ops:Array Oper)(rest:List Oper)(k:Nat)(acc:List (Nat×Bool×List Nat))(T:Nat->V)(d:Tmp)(v:V)(σ:Store)(nx:Nat):UE P conv call ops rest k acc T (some d) (some (v,σ,nx))=jT P conv call ops rest k acc ⟨upd T d v,σ,nx⟩:=rfl
theorem Yy(ops:Array Oper)(rest:List Oper)(k:Nat)(acc:List (Nat×Bool×List Nat))(T:Nat->V)(v:V)(σ:Store)(nx:Nat):UE P conv call ops rest k acc T none (some (v,σ,nx))=jT P conv call ops rest k acc ⟨T,σ,nx⟩:=rfl
theorem Yz(ops:Array Oper)(rest:List Oper)(k:Nat)(acc:List (Nat×Bool×List Nat))(d:Option Tmp)(op:Op)(ty:TypeId)(ps:String)(af:Array Edge)(g:Option (Nat×Bool))(T:Nat->V)(σ:Store)(nx:Nat) :
  aap P conv call ops rest k acc ⟨d,op,ty,ps,af,g⟩ ⟨T,σ,nx⟩ (some true)=if okF af acc (writer conv ⟨d,op,ty,ps,af,g⟩) (bC conv T σ ⟨d,op,ty,ps,af,g⟩)=true then UE P conv call ops rest (k+1) (UA acc k (writer conv ⟨d,op,ty,ps,af,g⟩) (bC conv T σ ⟨d,op,ty,ps,af,g⟩)) T d (bY P conv call ⟨d,op,ty,ps,af,g⟩ T σ nx)else none:=rfl
theorem UG(ops:Array Oper)(rest:List Oper)(k:Nat)(acc:List (Nat×Bool×List Nat))(d:Tmp)(op:Op)(ty:TypeId)(ps:String)(af:Array Edge)(g:Option (Nat×Bool))(T:Nat->V)(σ:Store)(nx:Nat) :
  aap P conv call ops rest k acc ⟨some d,op,ty,ps,af,g⟩ ⟨T,σ,nx⟩ (some false)=jT P conv call ops rest (k+1) acc ⟨upd T d (.dS []),σ,nx⟩:=rfl
theorem aiw(af:Array Edge)(acc:List (Nat×Bool×List Nat))(w:Bool):okF af acc w []=true:=id rfl
theorem aeK(af:Array Edge)(acc:List (Nat×Bool×List Nat))(w:Bool)(b:Nat)(E:List Nat):okF af acc w (b :: E)=okG af w (b :: E) acc:=id rfl
theorem aix(af:Array Edge)(w:Bool)(ids:List Nat):okG af w ids []=true:=id rfl
theorem aeL(af:Array Edge)(w:Bool)(ids:List Nat)(i:Nat)(v:Bool)(E:List Nat)(acc:List (Nat×Bool×List Nat)):okG af w ids ((i,v,E) :: acc)=((if(w||v)=true then(if Gt af i=true then true else E.all fun b=> !ids.contains b)else true) && okG af w ids acc):=id rfl
theorem aeM(acc:List (Nat×Bool×List Nat))(k:Nat)(w:Bool):UA acc k w []=acc:=id rfl
theorem ab7(acc:List (Nat×Bool×List Nat))(k:Nat)(w:Bool)(b:Nat)(E:List Nat):UA acc k w (b :: E)=acc++[(k,w,b :: E)]:=id rfl
theorem ab8(i:Nat):Gt #[] i=false:=by simp[Gt]
theorem YA(e:Edge)(es:List Edge)(i:Nat):Gt (e :: es).toArray i=if(e.on==i)=true then(if Region.binds .any e=true then true else Gt es.toArray i)else Gt es.toArray i:=by
 unfold Gt;rw[List.any_toArray,List.any_toArray,List.any_cons];cases e.on==i<;>cases Region.binds .any e<;>simp
theorem YB(i:Nat):Region.binds .any ⟨i,.data⟩=true:=id rfl
theorem UH(i:Nat):Region.binds .any ⟨i,.phase⟩=true:=id rfl
theorem UJ(i:Nat):Region.binds .any ⟨i,.chain⟩=true:=id rfl
theorem UK(i:Nat):Region.binds .any ⟨i,.guard⟩=true:=id rfl
theorem YC(i:Nat)(d:Departure):Region.binds .any ⟨i,.textOnly d⟩=false:=id rfl
theorem aeN(i:Nat)(d:Departure):Region.binds .any ⟨i,.gcOnly d⟩=false:=id rfl
section
variable (d:Option Tmp) (ty:TypeId) (ps:String) (af:Array Edge) (gd:Option (Nat×Bool)) (T:Nat->V) (σ:Store)
theorem aiy(t:TypeId)(a x:Operand):writer conv ⟨d,.store t a x,ty,ps,af,gd⟩=true:=id rfl
theorem YD(t:TypeId)(a x:Operand):bC conv T σ ⟨d,.store t a x,ty,ps,af,gd⟩=aW (val T a):=rfl
theorem ab9(t:TypeId)(a:Operand):bC conv T σ ⟨d,.load t a,ty,ps,af,gd⟩=aW (val T a):=rfl
theorem amd(t:TypeId)(a:Operand):writer conv ⟨d,.load t a,ty,ps,af,gd⟩=false:=id rfl
theorem aiz(b off:Nat):aW (.rp b off)=[b]:=rfl
theorem aiA(b off len:Nat):aW (.rs b off len)=[b]:=rfl
theorem aiB(row:List V)(off:Nat):aW (.tp row off)=[]:=rfl
theorem aiC(row:List V)(off:Nat):aW (.ts row off)=[]:=rfl
theorem aiD(v:Value):aW (.sc v)=[]:=rfl
theorem aeO:aW .nil=[]:=rfl
theorem aeP(vs:List V):aW (.agg vs)=[]:=rfl
theorem ab_(x:Operand):bC conv T σ ⟨d,.move x,ty,ps,af,gd⟩=[]:=rfl
theorem ame(x:Operand):writer conv ⟨d,.move x,ty,ps,af,gd⟩=false:=id rfl
theorem UL(x:Operand):bC conv T σ ⟨d,.assign x,ty,ps,af,gd⟩=[]:=rfl
theorem aeQ(x:Operand):writer conv ⟨d,.assign x,ty,ps,af,gd⟩=false:=id rfl
theorem acd(c a b:Operand):bC conv T σ ⟨d,.pick c a b,ty,ps,af,gd⟩=[]:=rfl
theorem amf(c a b:Operand):writer conv ⟨d,.pick c a b,ty,ps,af,gd⟩=false:=id rfl
theorem N7(x:Operand):bC conv T σ ⟨d,.nilCheck x,ty,ps,af,gd⟩=[]:=rfl
theorem YE(x:Operand):writer conv ⟨d,.nilCheck x,ty,ps,af,gd⟩=false:=id rfl
theorem YF(op:BinOp)(t:TypeId)(x y:Operand)(E:TypeId):bC conv T σ ⟨d,.binOp op t x y E,ty,ps,af,gd⟩=[]:=rfl
theorem aiE(op:BinOp)(t:TypeId)(x y:Operand)(E:TypeId):writer conv ⟨d,.binOp op t x y E,ty,ps,af,gd⟩=false:=id rfl
theorem ace(op:UnOp)(t:TypeId)(x:Operand):bC conv T σ ⟨d,.unOp op t x,ty,ps,af,gd⟩=[]:=rfl
theorem amg(op:UnOp)(t:TypeId)(x:Operand):writer conv ⟨d,.unOp op t x,ty,ps,af,gd⟩=false:=id rfl
theorem KZ(t:TypeId)(x:Operand)(f:Nat):bC conv T σ ⟨d,.fieldAddr t x f,ty,ps,af,gd⟩=[]:=rfl
theorem UM(t:TypeId)(x:Operand)(f:Nat):writer conv ⟨d,.fieldAddr t x f,ty,ps,af,gd⟩=false:=id rfl
theorem YG(t:TypeId)(x:Operand)(f:Nat):bC conv T σ ⟨d,.field t x f,ty,ps,af,gd⟩=[]:=rfl
theorem aiF(t:TypeId)(x:Operand)(f:Nat):writer conv ⟨d,.field t x f,ty,ps,af,gd⟩=false:=id rfl
theorem K_(t:TypeId)(x i:Operand):bC conv T σ ⟨d,.indexAddr t x i,ty,ps,af,gd⟩=[]:=rfl
theorem UN(t:TypeId)(x i:Operand):writer conv ⟨d,.indexAddr t x i,ty,ps,af,gd⟩=false:=id rfl
theorem YH(t:TypeId)(x i:Operand):bC conv T σ ⟨d,.index t x i,ty,ps,af,gd⟩=[]:=rfl
theorem aiG(t:TypeId)(x i:Operand):writer conv ⟨d,.index t x i,ty,ps,af,gd⟩=false:=id rfl
theorem QI(x:Operand)(i:Nat):bC conv T σ ⟨d,.extract x i,ty,ps,af,gd⟩=[]:=rfl
theorem acf(x:Operand)(i:Nat):writer conv ⟨d,.extract x i,ty,ps,af,gd⟩=false:=id rfl
theorem aeR(x:Operand)(t:TypeId):bC conv T σ ⟨d,.call ⟨.builtin .len,#[x],#[t]⟩,ty,ps,af,gd⟩=[]:=rfl
theorem apY(x:Operand)(t:TypeId):writer conv ⟨d,.call ⟨.builtin .len,#[x],#[t]⟩,ty,ps,af,gd⟩=false:=id rfl
theorem YI(t:TypeId)(parts:Array (Nat×Operand)):bC conv T σ ⟨d,.build t parts,ty,ps,af,gd⟩=[]:=rfl
theorem aiH(t:TypeId)(parts:Array (Nat×Operand)):writer conv ⟨d,.build t parts,ty,ps,af,gd⟩=false:=id rfl
theorem N8(f:FuncId)(cap:Array Operand):bC conv T σ ⟨d,.makeFunc (.func f) #[] cap,ty,ps,af,gd⟩=[]:=rfl
theorem YJ(f:FuncId)(cap:Array Operand):writer conv ⟨d,.makeFunc (.func f) #[] cap,ty,ps,af,gd⟩=false:=id rfl
theorem YK(t:TypeId):bC conv T σ ⟨d,.alloc t,ty,ps,af,gd⟩=[]:=rfl
theorem aiI(t:TypeId):writer conv ⟨d,.alloc t,ty,ps,af,gd⟩=false:=id rfl
theorem aeS(t:TypeId)(x:Operand):bC conv T σ ⟨d,.box t x,ty,ps,af,gd⟩=[]:=rfl
theorem apZ(t:TypeId)(x:Operand):writer conv ⟨d,.box t x,ty,ps,af,gd⟩=false:=id rfl
theorem amh {g:FuncId}(h:conv g= .Ii)(args:Array Operand)(ts:Array TypeId):writer conv ⟨d,.call ⟨.value (.func g),args,ts⟩,ty,ps,af,gd⟩=false:=by unfold writer;simp only[h]
theorem DW {g:FuncId}(h:conv g≠ .inl)(args:Array Operand)(ts:Array TypeId):kM conv T σ ⟨d,.call ⟨.value (.func g),args,ts⟩,ty,ps,af,gd⟩=(stripL (strip σ depth) (args.toList.map (val T))).map (·.2):=by
 simp only[kM,val,zM,OG];cases hc:conv g with
 |inl=>exact absurd hc h
 |own=>cases stripL (strip σ depth) (args.toList.map (val T))<;>rfl
 |Ii=>cases stripL (strip σ depth) (args.toList.map (val T))<;>rfl
theorem acg {g:FuncId}(h:conv g= .Ii)(args:Array Operand)(ts:Array TypeId):bC conv T σ ⟨d,.call ⟨.value (.func g),args,ts⟩,ty,ps,af,gd⟩=((stripL (strip σ depth) (args.toList.map (val T))).map (·.2)).getD []:=by
 unfold bC;rw[DW d ty ps af gd T σ (by rw[h];exact fun e=>by cases e)]
end
def UO(P:Program)(conv:FuncId->Conv)(call:Call)(ops:Array Oper)(rest:List Oper)(T:Nat->V)(d:Option Tmp):Jg->Option St
 |some (v,σ,nx)=>jS P conv call ops rest ⟨jQ T d v,σ,nx⟩
 |none=>none
def aaq(P:Program)(conv:FuncId->Conv)(call:Call)(ops:Array Oper)(rest:List Oper)(o:Oper)(s:St):Option Bool->Option St
 |some true=>UO P conv call ops rest s.T o.dst (bY P conv call o s.T s.σ s.nx)
 |some false=>jS P conv call ops rest ⟨jQ s.T o.dst (.dS []),s.σ,s.nx⟩
 |none=>none
theorem YL(ops:Array Oper)(s:St):jS P conv call ops [] s=some s:=rfl
theorem UQ(ops:Array Oper)(d:Option Tmp)(op:Op)(ty:TypeId)(ps:String)(af:Array Edge)(rest:List Oper)(T:Nat->V)(σ:Store)(nx:Nat) :
  jS P conv call ops (⟨d,op,ty,ps,af,none⟩ :: rest) ⟨T,σ,nx⟩=UO P conv call ops rest T d (bY P conv call ⟨d,op,ty,ps,af,none⟩ T σ nx):=by
 show(match bY P conv call ⟨d,op,ty,ps,af,none⟩ T σ nx with|some (v,σ',nx')=>_|none=>none)=_;cases bY P conv call ⟨d,op,ty,ps,af,none⟩ T σ nx<;>rfl
theorem QJ(ops:Array Oper)(d:Option Tmp)(op:Op)(ty:TypeId)(ps:String)(af:Array Edge)(g:Nat×Bool)(rest:List Oper)(T:Nat->V)(σ:Store)(nx:Nat) :
  jS P conv call ops (⟨d,op,ty,ps,af,some g⟩ :: rest) ⟨T,σ,nx⟩=aaq P conv call ops rest ⟨d,op,ty,ps,af,some g⟩ ⟨T,σ,nx⟩ (fO ops T ⟨d,op,ty,ps,af,some g⟩):=by
 show(match fO ops T ⟨d,op,ty,ps,af,some g⟩with|some true=>_|some false=>_|none=>none)=_;cases fO ops T ⟨d,op,ty,ps,af,some g⟩with
 |none=>rfl
 |some b=>
  cases b with
  |false=>rfl
  |true=>
   simp only[aaq];cases bY P conv call ⟨d,op,ty,ps,af,some g⟩ T σ nx<;>rfl
theorem YM(ops:Array Oper)(rest:List Oper)(T:Nat->V)(d:Tmp)(v:V)(σ:Store)(nx:Nat):UO P conv call ops rest T (some d) (some (v,σ,nx))=jS P conv call ops rest ⟨upd T d v,σ,nx⟩:=rfl
theorem YN(ops:Array Oper)(rest:List Oper)(T:Nat->V)(v:V)(σ:Store)(nx:Nat):UO P conv call ops rest T none (some (v,σ,nx))=jS P conv call ops rest ⟨T,σ,nx⟩:=rfl
theorem YO(ops:Array Oper)(rest:List Oper)(d:Option Tmp)(op:Op)(ty:TypeId)(ps:String)(af:Array Edge)(g:Option (Nat×Bool))(T:Nat->V)(σ:Store)(nx:Nat) :
  aaq P conv call ops rest ⟨d,op,ty,ps,af,g⟩ ⟨T,σ,nx⟩ (some true)=UO P conv call ops rest T d (bY P conv call ⟨d,op,ty,ps,af,g⟩ T σ nx):=rfl
theorem UR(ops:Array Oper)(rest:List Oper)(d:Tmp)(op:Op)(ty:TypeId)(ps:String)(af:Array Edge)(g:Option (Nat×Bool))(T:Nat->V)(σ:Store)(nx:Nat) :
  aaq P conv call ops rest ⟨some d,op,ty,ps,af,g⟩ ⟨T,σ,nx⟩ (some false)=jS P conv call ops rest ⟨upd T d (.dS []),σ,nx⟩:=rfl
theorem YP {σ:Store} {nx:Nat} {cells:List V} {st:Nat}:aY [] nx (nx+1) σ (dA (restrict σ []) nx cells st)=dA σ nx cells st:=by
 funext b;unfold aY dA upd restrict
 by_cases h:b=nx
 .subst h;simp
 .rw[if_neg (by simp;omega),if_neg h]
section
variable (d:Option Tmp) (ty:TypeId) (ps:String) (af:Array Edge) (gd:Option (Nat×Bool)) (T:Nat->V) (σ:Store) (nx:Nat)
omit d ty ps af gd T σ nx in
theorem Iy(T:Nat->V)(o:Oper)(v:V):keeps conv T o [] v=true:=by
 obtain⟨dst,op,type,pos,after,guard⟩:=o;cases op<;>simp only[keeps];rename_i c;obtain⟨callee,args,ts⟩:=c;cases callee with
 |value f=>
  cases E:val T f<;>simp only[E];rename_i g cs;cases hc:conv g<;>simp
 |builtin b=>rfl
 |invoke r m=>rfl
theorem lM {o:Oper} {F:List Nat}(E:kM conv T σ o=some F)(G:∀v,keeps conv T o F v=true):bY P conv call o T σ nx=if(F.all fun b=>decide (b<nx))=true then match dL P conv call o T (restrict σ F) nx with|some (v,σ1,aP)=>some (v,aY F nx aP σ σ1,aP)|none=>none else none:=by
 unfold bY;simp only[E,G,if_true];cases dL P conv call o T (restrict σ F) nx with
 |none=>rfl
 |some r=>rfl
theorem J7 {o:Oper}(E:kM conv T σ o=some []) {v:V}(h:∀σ,dL P conv call o T σ nx=some (v,σ,nx)):bY P conv call o T σ nx=some (v,σ,nx):=by
 rw[lM T σ nx E (Iy T o)];simp only[List.all_nil,if_true,h];rw[r_]
theorem pF {o:Oper}(E:kM conv T σ o=some []) {m:Option V}(h:∀σ,dL P conv call o T σ nx=m.map (·,σ,nx)):bY P conv call o T σ nx=m.map (·,σ,nx):=by
 cases m with
 |some v=>exact J7 T σ nx E h
 |none=>
  rw[lM T σ nx E (Iy T o)];simp only[List.all_nil,if_true,h,Option.map_none]
theorem Gu {o:Oper}(E:kM conv T σ o=some []) {m:Option (List V×Nat×V)}(h:∀σ,dL P conv call o T σ nx=m.map fun p=>(p.2.2,dA σ nx p.1 p.2.1,nx+1)):bY P conv call o T σ nx=m.map fun p=>(p.2.2,dA σ nx p.1 p.2.1,nx+1):=by
 rw[lM T σ nx E (Iy T o)];simp only[List.all_nil,if_true,h];cases m with
 |none=>rfl
 |some p=>simp only[zJ];rw[YP]
theorem aeT(x:Operand):bY P conv call ⟨d,.move x,ty,ps,af,gd⟩ T σ nx=some (val T x,σ,nx):=J7 T σ nx rfl fun _=>rfl
theorem YQ(x:Operand):bY P conv call ⟨d,.assign x,ty,ps,af,gd⟩ T σ nx=some (val T x,σ,nx):=J7 T σ nx rfl fun _=>rfl
theorem aeU(c a b:Operand):bY P conv call ⟨d,.pick c a b,ty,ps,af,gd⟩ T σ nx=(aan (val T a) (val T b) (val T c)).map (·,σ,nx):=pF T σ nx rfl fun σ=>aao d ty ps af gd T σ nx c a b
theorem QK(x:Operand):bY P conv call ⟨d,.nilCheck x,ty,ps,af,gd⟩ T σ nx=(aes (val T x)).map (·,σ,nx):=pF T σ nx rfl fun σ=>Jp d ty ps af gd T σ nx x
theorem ach(op:BinOp)(t:TypeId)(x y:Operand)(E:TypeId):bY P conv call ⟨d,.binOp op t x y E,ty,ps,af,gd⟩ T σ nx=(dK P op t x y (val T x) (val T y)).map (·,σ,nx):=pF T σ nx rfl fun _=>rfl
theorem aeV(op:UnOp)(t:TypeId)(x:Operand):bY P conv call ⟨d,.unOp op t x,ty,ps,af,gd⟩ T σ nx=(XH P op (val T x)).map (·,σ,nx):=pF T σ nx rfl fun _=>rfl
theorem N9(t:TypeId)(x:Operand)(f:Nat):bY P conv call ⟨d,.fieldAddr t x f,ty,ps,af,gd⟩ T σ nx=(gZ P t (val T x) f).map (·,σ,nx):=pF T σ nx rfl fun _=>rfl
theorem N_(t:TypeId)(x i:Operand):bY P conv call ⟨d,.indexAddr t x i,ty,ps,af,gd⟩ T σ nx=(je P t (val T x) (val T i)).map (·,σ,nx):=pF T σ nx rfl fun _=>rfl
theorem UU(x:Operand)(i:Nat):bY P conv call ⟨d,.extract x i,ty,ps,af,gd⟩ T σ nx=(aio i (val T x)).map (·,σ,nx):=pF T σ nx rfl fun σ=>KW d ty ps af gd T σ nx x i
theorem aiJ(x:Operand)(t:TypeId):bY P conv call ⟨d,.call ⟨.builtin .len,#[x],#[t]⟩,ty,ps,af,gd⟩ T σ nx=(mP P t (val T x)).map (·,σ,nx):=pF T σ nx rfl fun _=>rfl
theorem aci(t:TypeId)(parts:Array (Nat×Operand)):bY P conv call ⟨d,.build t parts,ty,ps,af,gd⟩ T σ nx=(Az P t (parts.toList.map fun p=>(p.1,val T p.2))).map (·,σ,nx):=pF T σ nx rfl fun _=>rfl
theorem acj(t:TypeId)(h:(bF P t).ok=true)(E:decide ((bF P t).zero.length=(bF P t).size)=true)(G:decide (0<(bF P t).size)=true)(hb:isB (bF P t).zero=false):bY P conv call ⟨d,.alloc t,ty,ps,af,gd⟩ T σ nx=some (.rp nx 0,dA σ nx (bF P t).zero 0,nx+1) :=
 Gu (m:=some ((bF P t).zero,0,.rp nx 0)) T σ nx rfl fun σ=>Us d ty ps af gd T σ nx t h E G hb
theorem aiK(t:TypeId)(x:Operand):bY P conv call ⟨d,.box t x,ty,ps,af,gd⟩ T σ nx=(cellsOfV (val T x)).map fun cs=>(.rp nx 0,dA σ nx cs 0,nx+1):=by
 have:=Gu (P:=P) (conv:=conv) (call:=call) (o:=⟨d,.box t x,ty,ps,af,gd⟩) (m:=(cellsOfV (val T x)).map fun cs=>(cs,0,V.rp nx 0)) T σ nx rfl fun σ=>by rw[aeo];cases cellsOfV (val T x)<;>rfl
 rw[this];cases cellsOfV (val T x)<;>rfl
def La(P:Program)(σ:Store)(nx:Nat)(t:TypeId):V->Option V
 | .rp b off=>if b<nx then eU P σ t (.rp b off)else none
 |v=>eU P σ t v
theorem aeW(t:TypeId)(a:Operand):bY P conv call ⟨d,.load t a,ty,ps,af,gd⟩ T σ nx=(La P σ nx t (val T a)).map (·,σ,nx):=by
 have key:∀b off,eU P (restrict σ [b]) t (.rp b off)=eU P σ t (.rp b off):=fun b off=>by
  unfold eU kX restrict;simp
 rw[lM (F:=aW (val T a)) T σ nx rfl (fun _=>rfl)];show(if((aW (val T a)).all fun b=>decide (b<nx))=true then match(eU P (restrict σ (aW (val T a))) t (val T a)).map (·,restrict σ (aW (val T a)),nx)with|some (v,σ1,aP)=>some (v,aY (aW (val T a)) nx aP σ σ1,aP)|none=>none else none)=_;cases E:val T a with
 |rp b off=>
  simp only[aW,List.all_cons,List.all_nil,Bool.and_true,decide_eq_true_eq,La,key]
  by_cases hb:b<nx
  .rw[if_pos hb,if_pos hb]
   cases eU P σ t (.rp b off)with
   |none=>rfl
   |some v=>simp only[zJ,rZ]
  .rw[if_neg hb,if_neg hb];rfl
 |tp row off=>
  simp only[aW,List.all_nil,if_true,La];have:eU P (restrict σ []) t (.tp row off)=eU P σ t (.tp row off):=by unfold eU kX;rfl
  rw[this];cases eU P σ t (.tp row off)with
  |none=>rfl
  |some v=>simp only[zJ,r_]
 |rs b off len=>
  have e:∀σ,eU P σ t (.rs b off len)=none:=fun σ=>by unfold eU kX;split<;>simp
  simp only[La,e,Option.map_none]
  split<;>rfl
 |_=>
  simp only[aW,List.all_nil,if_true,La];unfold eU kX;cases P.info? t<;>cases P.underlying t<;>simp
theorem aeX(σ:Store)(nx:Nat)(t:TypeId)(row:List V)(off:Nat):La P σ nx t (.tp row off)=eU P σ t (.tp row off):=rfl
theorem aeY(σ:Store)(nx:Nat)(t:TypeId)(b off:Nat):La P σ nx t (.rp b off)=if b<nx then eU P σ t (.rp b off)else none:=rfl
def QL(P:Program)(σ:Store)(nx:Nat)(t:TypeId)(v:V):V->Option Store
 | .rp b off=>if b<nx then kL P σ t (.rp b off) v else none
 |_=>none
theorem acn(t:TypeId)(a x:Operand):bY P conv call ⟨d,.store t a x,ty,ps,af,gd⟩ T σ nx=(QL P σ nx t (val T x) (val T a)).map (.dS [],·,nx):=by
 rw[lM (F:=aW (val T a)) T σ nx rfl (fun _=>rfl)];show(if((aW (val T a)).all fun b=>decide (b<nx))=true then match(kL P (restrict σ (aW (val T a))) t (val T a) (val T x)).map (V.dS [],·,nx)with|some (v,σ1,aP)=>some (v,aY (aW (val T a)) nx aP σ σ1,aP)|none=>none else none)=_;cases G:val T a with
 |rp b off=>
  simp only[aW,List.all_cons,List.all_nil,Bool.and_true,decide_eq_true_eq,QL]
  by_cases hb:b<nx
  .rw[if_pos hb,if_pos hb]
   unfold kL;have J:restrict σ [b] b=σ b:=by unfold restrict;simp
   cases P.info? t with
   |none=>rfl
   |some i=>
    cases cellsOfV (val T x)with
    |none=>rfl
    |some vs=>
     simp only[J];cases σ b with
     |none=>rfl
     |some B=>
      by_cases hc:B.wr=true/\vs.length=i.size/\off+vs.length<=B.cells.length/\vs.all aT=true
      .simp only[if_pos hc,zJ]
       congr 2;congr 1;funext c;unfold aY upd restrict
       by_cases E:c=b
       .subst E;simp
       .rw[if_neg (by simp[E]),if_neg E]
      .simp only[if_neg hc,Option.map_none]
  .rw[if_neg hb,if_neg hb];rfl
 |_=>
  simp only[QL];have:kL P (restrict σ (aW (val T a))) t (val T a) (val T x)=none:=by
   rw[G];unfold kL;cases P.info? t<;>cases cellsOfV (val T x)<;>rfl
  rw[G]at this;rw[this];simp
theorem aco(σ:Store)(nx:Nat)(t:TypeId)(v:V)(b off:Nat):QL P σ nx t v (.rp b off)=if b<nx then kL P σ t (.rp b off) v else none:=rfl
end
end
end Go.TV
namespace Go.TV
set_option linter.unusedVariables false
set_option linter.unusedSimpArgs false
variable [Known]
noncomputable def fn(P:Program)(conv:FuncId->Conv)(ext:Ext)(f:FuncId)(ts:List V):Option V :=
 match ev P conv ext f ts aK 0 with
 |some (v,σ1,_)=>(strip σ1 depth v).map (·.1)
 |none=>none
section
variable {P:Program} {conv:FuncId->Conv} {ext:Ext}
def behind(σ:Store)(ids:List Nat)(t:V):Store:=if ids.isEmpty||flat depth t then σ else kZ σ ids
theorem UW {f:FuncId}(h:conv f= .Ii)(args:List V)(σ:Store)(nx:Nat):jc conv (ev P conv ext) f args σ nx=
  (stripL (strip σ depth) args).bind fun p=>(fn P conv ext f p.1).map fun t=>(t,behind σ p.2 t,nx):=by
 unfold jc fn behind;rw[h];simp only;cases stripL (strip σ depth) args with
 |none=>rfl
 |some p=>
  obtain⟨ts,ids⟩:=p;simp only[zi];cases ev P conv ext f ts aK 0 with
  |none=>rfl
  |some q=>
   obtain⟨v,E,n⟩:=q;simp only;cases strip E depth v with
   |none=>rfl
   |some r=>
    obtain⟨t,j⟩:=r;simp only[zJ]
    split<;>rfl
theorem YR(σ:Store)(t:V):behind σ [] t=σ:=rfl
theorem acp(σ:Store)(ids:List Nat)(v:Value):behind σ ids (.sc v)=σ:=by
 unfold behind depth flat;simp
theorem UY(σ:Store)(ids:List Nat)(v w:Value):behind σ ids (.dS [.sc v,.sc w])=σ:=by
 have:flat depth (.dS [.sc v,.sc w])=true:=rfl;unfold behind;rw[this];simp
theorem bM {call:Call} {f:FuncId}(h:conv f= .inl)(args:List V)(σ:Store)(nx:Nat):jc conv call f args σ nx=call f args σ nx:=by
 unfold jc;rw[h]
theorem UZ {call:Call} {f:FuncId}(h:conv f= .own)(args:List V)(σ:Store)(nx:Nat):jc conv call f args σ nx=
  (stripL (strip σ depth) args).bind fun p=>(call f p.1 aK nx).bind fun q=>(gather q.2.1 depth q.1).map fun ids=>(q.1,jZ nx σ q.2.1 ids,q.2.2):=by
 unfold jc;rw[h];simp only;cases stripL (strip σ depth) args with
 |none=>rfl
 |some p=>
  simp only[zi];cases call f p.1 aK nx with
  |none=>rfl
  |some q=>
   simp only[zi];cases gather q.2.1 depth q.1<;>rfl
theorem bQ(f:V->Option (V×List Nat)):stripL f []=some ([],[]):=rfl
theorem aO(f:V->Option (V×List Nat))(v:V)(vs:List V):stripL f (v :: vs)=(f v).bind fun p=>(stripL f vs).map fun q=>(p.1 :: q.1,p.2++q.2):=by
 show(match f v,stripL f vs with|some (t,i),some (ts,j)=>some (t :: ts,i++j)|_,_=>none)=_;cases f v<;>cases stripL f vs<;>rfl
theorem cO(σ:Store)(d:Nat)(v:Value):strip σ d (.sc v)=some (.sc v,[]):=by cases d<;>rfl
theorem strip_nil(σ:Store)(d:Nat):strip σ d .nil=some (.ts [] 0,[]):=by cases d<;>rfl
theorem CG(σ:Store)(d:Nat)(row:List V)(off:Nat):strip σ d (.tp row off)=some (.tp row off,[]):=by cases d<;>rfl
theorem qh(σ:Store)(d:Nat)(row:List V)(len:Nat):strip σ d (.ts row len)=some (.ts row len,[]):=by cases d<;>rfl
theorem DX(σ:Store)(d:Nat)(vs:List V):strip σ (d+1) (.agg vs)=(stripL (strip σ d) vs).map fun p=>(.agg p.1,p.2):=by
 show(match stripL (strip σ d) vs with|some (ts,ids)=>some (V.agg ts,ids)|none=>none)=_;cases stripL (strip σ d) vs<;>rfl
theorem acr(σ:Store)(d:Nat)(vs:List V):strip σ (d+1) (.dS vs)=(stripL (strip σ d) vs).map fun p=>(.dS p.1,p.2):=by
 show(match stripL (strip σ d) vs with|some (ts,ids)=>some (V.dS ts,ids)|none=>none)=_;cases stripL (strip σ d) vs<;>rfl
theorem acs(σ:Store)(d:Nat)(f:FuncId)(vs:List V):strip σ (d+1) (.clo f vs)=(stripL (strip σ d) vs).map fun p=>(.clo f p.1,p.2):=by
 show(match stripL (strip σ d) vs with|some (ts,ids)=>some (V.clo f ts,ids)|none=>none)=_;cases stripL (strip σ d) vs<;>rfl
theorem Lc(σ:Store)(d b off:Nat):strip σ (d+1) (.rp b off)=(σ b).bind fun B=>(stripL (strip σ d) B.cells).map fun p=>(.tp p.1 off,b :: p.2):=by
 show(match σ b with|some B=>(match stripL (strip σ d) B.cells with|some (ts,ids)=>some (V.tp ts off,b :: ids)|none=>none)|none=>none)=_;cases σ b with
 |none=>rfl
 |some B=>simp only[zi];cases stripL (strip σ d) B.cells<;>rfl
theorem d_(σ:Store)(d b off len:Nat):strip σ (d+1) (.rs b off len)=(σ b).bind fun B=>if off+len*B.st<=B.cells.length then(stripL (strip σ d) ((B.cells.drop off).take (len*B.st))).map fun p=>(.ts p.1 len,b :: p.2)else none:=by
 show(match σ b with|some B=>(if off+len*B.st<=B.cells.length then(match stripL (strip σ d) ((B.cells.drop off).take (len*B.st))with|some (ts,ids)=>some (V.ts ts len,b :: ids)|none=>none)else none)|none=>none)=_;cases σ b with
 |none=>rfl
 |some B=>
  simp only[zi]
  split
  .cases stripL (strip σ d) ((B.cells.drop off).take (len*B.st))<;>rfl
  .rfl
def U0(ids:List Nat)(t:V)(σ:Store)(nx:Nat):Jg:=if(ids.isEmpty||flat depth t)=true then some (t,σ,nx)else none
theorem acu(t:V)(σ:Store)(nx:Nat):U0 [] t σ nx=some (t,σ,nx):=rfl
theorem aeZ(ids:List Nat)(v:Value)(σ:Store)(nx:Nat):U0 ids (.sc v) σ nx=some (.sc v,σ,nx):=by
 unfold U0 depth flat;simp
theorem ae0 {d:Option Tmp} {ty:TypeId} {ps:String} {O:Array Edge} {S:Option (Nat×Bool)} {T:Nat->V} {σ:Store} {nx:Nat} {g:FuncId}(h:conv g= .Ii)(args:Array Operand)(ts:Array TypeId) :
  bY P conv (ev P conv ext) ⟨d,.call ⟨.value (.func g),args,ts⟩,ty,ps,O,S⟩ T σ nx=(stripL (strip σ depth) (args.toList.map (val T))).bind fun p=>if(p.2.all fun b=>decide (b<nx))=true then(fn P conv ext g p.1).bind fun t=>U0 p.2 t σ nx else none:=by
 unfold bY;rw[DW d ty ps O S T σ (by rw[h];exact fun e=>by cases e)];cases Y:stripL (strip σ depth) (args.toList.map (val T))with
 |none=>rfl
 |some p=>
  obtain⟨us,ids⟩:=p;simp only[zJ,zi]
  by_cases E:(ids.all fun b=>decide (b<nx))=true
  .rw[if_pos E,if_pos E]
   have e:=J6 (P:=P) (conv:=conv) (call:=ev P conv ext) d ty ps O S T (restrict σ ids) nx (.func g) args ts;rw[e];have G:stripL (strip (restrict σ ids) depth) (args.toList.map (val T))=some (us,ids) :=
    jR (fun v t i h hi=>mV _ v t i h fun b hb=>by unfold restrict;rw[if_pos (hi b hb)]) Y
   simp only[val,DV,zM,UW h,G,zi];cases fn P conv ext g us with
   |none=>rfl
   |some t=>
    simp only[zJ,zi,keeps,val,h,U0,behind]
    by_cases J:(ids.isEmpty||flat depth t)=true
    .rw[if_pos J,if_pos J,if_pos J,rZ]
    .rw[if_neg J,if_neg J]
  .rw[if_neg E,if_neg E]
end
abbrev I(n:Int):V:=.sc (.int .i64 n)
abbrev Bo(b:Bool):V:=.sc (.bool b)
abbrev Sg(s:ByteArray):V:=.sc (.string s)
abbrev L(xs:List Int):V:=.ts (xs.map I) xs.length
theorem aI(n:Nat):(0:Int)<=(n:Int):=by omega
theorem ah {n:Int}(E:-9223372036854775808<=n:=by omega)(G:n<=9223372036854775807:=by omega):IntKind.i64.wrap n=n:=by
 rw[IntKind.wrap_i64];omega
end Go.TV
namespace Go.TV
variable [Known]
attribute [go_sem low] lK
attribute [go_sem] Yu aiv ab6 Yv Yw UF QH Yx Yy Yz UG aiw aeK aix aeL aeM ab7 ab8 YA YB UH UJ UK YC aeN aiy YD ab9 amd aiz aiA aiB aiC aiD aeO aeP ab_ ame UL aeQ acd amf N7 YE YF aiE ace amg KZ UM YG aiF K_ UN YH aiG QI acf aeR apY YI aiH N8 YJ YK aiI aeS apZ amh acg List.contains_cons List.contains_nil Bool.or_false Bool.false_or Bool.true_or Nat.reduceBEq abQ Yg Un abR abS abT Yh Qy Uo Qz aib abU ael aic abV aao Yi Us apT apU apV al5 aie aif aem Yj aen aii al6 Bool.false_and xR Bool.true_and aeo aep aij aer Jp aik ail aeu ain Yk Ut Gs aev QD aew QE aex KW aey J6 DV al7 OL aip aeA abN Yd Yl Uw Ym Ux Yn abW Yo abY aeC aiq aeD aeE aeF abZ Yp ab1 ab2 Uz ab3 ab4 Yq QF Yr Yt ab5 apW air al8 ais aeI al9 al_ apX ama amb ait aeJ aiu amc YL UQ QJ YM YN YO UR aeT YQ aeU QK ach aeV N9 N_ UU aiJ aci acj aiK aeW aeX aeY acn aco ae0 acu aeZ xM Option.getD_none abK X6 abL X7 X8 Uj X9 X_ Ya Yb abM kC Yc Uk Ul sG oN abO abP Um Ye Yf alR alS alT alU alV alX alY alZ al0 al1 al2 al3 al4 UW YR acp UY bQ aO cO strip_nil CG qh DX acr acs Lc d_ upd_same upd_ne ne_eq wW List.getElem?_cons_succ xM zJ zi wX not_false_eq_true reduceCtorEq beq_self_eq_true if_true if_false yM List.map_cons List.map_nil yK yT Nat.reduceEqDiff decide_true decide_false Bool.true_and Bool.false_and Bool.not_true xJ Bool.and_true Bool.or_true xR bnd and_true true_and
end Go.TV
namespace Go.TV
variable [Known]
theorem bJ {body:St->Option (Ex×St)} {E:St} {x:Option (Ex×St)}(S:aF body E=x)(J:Nat->St->Prop)(post:Ex×St->Prop)
  (step:∀n st,J n st->(∃G,body st=some (.norm,G)/\∃m,m<n/\J m G)\/(∃r,body st=some r/\(∀s,r≠(.norm,s))/\post r)) (n:Nat) (Y:J n E):∃r,x=some r/\post r:=by
 subst S
 induction n using Nat.strongRecOn generalizing E with
 |_ n ih=>
  rcases step n E Y with ⟨G,O,m,hm,hJ⟩|⟨r,O,h2,h3⟩
  .obtain⟨r,hr,hp⟩:=ih m hm hJ
   exact⟨r,by rw[Fh,O];exact hr,hp⟩
  .refine⟨r,?_,h3⟩
   rw[Fh,O];obtain⟨e,s⟩:=r;cases e with
   |norm=>exact absurd rfl (h2 s)
   |exit i=>rfl
   |ret=>rfl
end Go.TV
namespace Go.TV
open Go.ChangeShapes Go.WideShapes Go.RowKit
set_option linter.unusedVariables false
variable [Known]
def start(W:World):Sit:=⟨fun k _=>k<W.heap.size,fun _=>none,W⟩
theorem acv(W:World)(E:Kn (start W)):Inv (start W) aK:=Inv.none _ (fun _ _ h=>h) E
structure OpensV {α:Type} (P:Program) (t:TypeId) (c:α->List V) (ok:α->Prop):Prop where
 out:∀ {H:Type} {enc:TypeId×Value->H} {W:World} {base:Nat} {spare:Nat->Bool} {held:Bool} {fuel:Nat} {cs:List Value} {y:DataW H×List MemPlace},
  DataW.trod enc P W base spare held fuel t cs=some y->(∀n∈DataW.weights P t y.1,n<=reachBytes)->∃x,VRs (start W) (c x) cs/\ok x
theorem Gv {s:Sit} {v:V} {x:Value}(h:VR s v x):VRs s [v] [x]:=by
 unfold VRs;exact⟨x,[],rfl,h,by unfold VRs;rfl⟩
theorem opensV_int {P:Program} {t:TypeId} {k:IntKind}(E:P.underlying t=some (.int k)):OpensV P t (fun n:Int=>[.sc (.int k n)]) (fun n=>(Lit.int k n).wf=true) :=
 ⟨fun h _=>by
  obtain⟨n,rfl,_,hw⟩:=DataW.trod_int E h;exact⟨n,Gv (lG rfl),hw⟩⟩
theorem opensV_bool {P:Program} {t:TypeId}(E:P.underlying t=some .bool):OpensV P t (fun b:Bool=>[.sc (.bool b)]) (fun _=>True) :=
 ⟨fun h _=>by
  obtain⟨b,rfl,_⟩:=DataW.trod_bool E h;exact⟨b,Gv (lG rfl),trivial⟩⟩
theorem opensV_string {P:Program} {t:TypeId}(E:P.underlying t=some .string):OpensV P t (fun s:ByteArray=>[.sc (.string s)]) (fun s=>s.size<=140737488351232) :=
 ⟨fun h hw=>by
  obtain⟨s,rfl,rfl,_⟩:=DataW.trod_string E h;refine⟨s,Gv (lG rfl),?_⟩;have:=hw s.data.toList.length (by simp[DataW.weights]);rw[yP]at this;exact this⟩
theorem CJ {H:Type} {P:Program} {e:TypeId}:∀ {l:List (DataW H)} {d:DataW H},d∈l->∀n∈d.weights P e,n∈DataW.weightsAll P e l
 |c :: l,d,E,n,hn=>by
  unfold DataW.weightsAll;rcases List.mem_cons.1 E with rfl|E
  .exact zF _ hn
  .exact zA _ (CJ E n hn)
theorem Jr {α:Type} {p:Nat->α->Prop}:∀n,(∀i,i<n->∃x,p i x)->∃l:List α,l.length=n/\∀i x,l[i]?=some x->p i x
 |0,_=>⟨[],rfl,fun i x h=>by simp at h⟩
 |n+1,h=>by
  obtain⟨l,J,hp⟩:=Jr n (fun i hi=>h i (by omega));obtain⟨x,O⟩:=h n (by omega);refine⟨l++[x],by simp[J],fun i y E=>?_⟩;rcases Nat.lt_or_ge i n with hi|hi
  .rw[zV (by omega)]at E
   exact hp i y E
  .rw[zQ (by omega),J]at E
   have G:i-n=0:=by
    rcases Nat.eq_zero_or_pos (i-n)with G|G
    .exact G
    .rw[yc (by simp;omega)]at E
     cases E
   rw[G]at E;have:x=y:=by simpa using E
   subst this;have:i=n:=by omega
   subst this;exact O
theorem Gw {s:Sit} {α:Type} {c:α->List V} {k size:Nat}(hc:∀x,(c x).length=size):∀(xs:List α) (o:Nat),(∀i x,xs[i]?=some x->qH s (c x) k (o+i*size))->qH s (xs.flatMap c) k o
 |[],o,_=>by rw[wR];unfold qH;trivial
 |x :: xs,o,h=>by
  rw[zU];have E:=h 0 x rfl;rw[Nat.zero_mul,Nat.add_zero]at E;have G:=Gw hc xs (o+size) (fun i y J=>by
   have:=h (i+1) y (by simpa using J);rw[Nat.add_mul,Nat.one_mul]at this
   rwa [show o+size+i*size=o+(i*size+size) by omega])
  have app:∀(a b:List V) (o:Nat),qH s a k o->qH s b k (o+a.length)->qH s (a++b) k o:=by
   intro a
   induction a with
   |nil=>intro b o _ hb;simpa using hb
   |cons v a O=>
    intro b o ha hb;rw[yT];unfold qH at ha⊢;refine⟨ha.1,ha.2.1,O b (o+1) ha.2.2 ?_⟩
    rwa [show o+1+a.length=o+(v :: a).length by simp;omega]
  exact app _ _ o E (by rw[hc];exact G)
theorem opensV_slice {P:Program} {t e:TypeId} {α:Type} {c:α->List V} {ok:α->Prop} {B size:Nat}(ht:P.underlying t=some (.slice e))(hd:OpensV P e c ok)(E:∀x,(c x).length=size)(hc:P.cellsOf e=size)(hB:P.bytesOf e=B) :
  OpensV P t (fun xs:List α=>[.ts (xs.flatMap c) xs.length]) (fun xs=>(∀x∈xs,ok x)/\xs.length*B<=140737488351232/\xs.length<=maxLen) :=
 ⟨fun {H enc W base spare held fuel cs y} h hw=>by
  rcases Go.Deep.open_slice ht h with ⟨rfl,rfl⟩|⟨a,len,cap,m,n,D,Pl,rfl,_,hl,hm,a5,rfl,Y⟩
  .exact⟨[],Gv (by unfold VR;exact⟨none,0,rfl,zq _,.inl rfl⟩),fun x Y=>by simp at Y,by simp,Nat.zero_le _⟩
  .have b6:len<=m:=by rw[a5];split<;>omega
   simp only[DataW.weights,ht,zO,List.length_range]at hw;obtain⟨xs,a0,G⟩:=Jr (p:=fun i x=>∃J:List Value,J.length=size/\VRs (start W) (c x) J/\ok x/\∀(j:Nat) (u:Value),J[j]?=some u->W.cell? (a.add (i*size+j))=some u) len (fun i hi=>by
    obtain⟨a6,a1,a7⟩:=Y i (by omega);obtain⟨x,hK,a8⟩:=hd.out a7 (fun k hk=>hw k (zY _ (zF _ (CJ (d:=D i) (List.mem_map.2 ⟨i,List.mem_range.2 hi,rfl⟩) k hk))));obtain⟨_,a9,b2⟩:=World.cells?_some a1;refine⟨x,a6,by rw[<- bZ hK,E],hK,a8,fun j u hu=>?_⟩;have hj:j<P.cellsOf e:=by rw[<- a9];exact(List.getElem?_eq_some_iff.1 hu).1
    have:=b2 j hj;rw[hc,Go.Deep.add_add]at this;rw[this,hu])
   have hlen:len<=9223372036854775807:=by
    unfold maxLen at hm;omega
   refine⟨xs,Gv ?_,fun x b3=>?_,?_,by omega⟩
   .unfold VR
    refine⟨some a,cap,by rw[a0],by omega,?_⟩
    by_cases O:xs.flatMap c=[]
    .exact .inl O
    .obtain⟨x0,b4⟩:∃x0,xs[0]?=some x0:=by
      cases xs with
      |nil=>exact absurd rfl O
      |cons x0 r=>exact⟨x0,rfl⟩
     have S:a.spot=none/\a.block<W.heap.size:=by
      obtain⟨J,k1,k2,k3,k4⟩:=G 0 x0 b4;have a2:J≠[]:=by
       rintro rfl;have:size=0:=by simpa using k1.symm
       apply O;rw[List.flatMap_eq_nil_iff];intro x _;exact zZ (by rw[E,this])
      cases J with
      |nil=>exact absurd rfl a2
      |cons u r=>
       have:=k4 0 u rfl;rw[Nat.zero_mul,yY]at this;have b5:a.add 0=a:=by simp[Addr.add]
       rw[b5]at this;refine⟨?_,World.block_lt_of_cell? W a this⟩;unfold World.cell? at this
       split at this
       .split at this
        .cases this
        .rename_i hs;simpa using hs
       .cases this
     obtain⟨a3,a4⟩:=S;obtain⟨ab,ao,b7⟩:=a;simp only at a3 a4;subst a3;refine .inr ⟨ab,ao,rfl,Gw E xs ao fun i x Y=>Gi fun j v hv=>⟨a4,?_⟩⟩;obtain⟨J,k1,k2,k3,k4⟩:=G i x Y;obtain⟨u,hu,hr⟩:=iY k2 hv;refine⟨u,?_,hr⟩;have:=k4 j u hu;rw[Addr.add_lit]at this;rw[Nat.add_assoc];exact this
   .obtain⟨i,hi⟩:=List.mem_iff_getElem?.1 b3
    obtain⟨_,_,_,h3,_⟩:=G i x hi;exact h3
   .have:=hw _ zN
    rw[hB]at this;rw[a0];exact zL (zG _ (by omega)) this⟩
structure J8 {α:Type} (P:Program) (fs:List Field) (off sz:Nat) (c:α->List V) (ok:α->Prop):Prop where
 out:∀ {H:Type} {enc:TypeId×Value->H} {W:World} {base:Nat} {spare:Nat->Bool} {held:Bool} {n:Nat} {cs:List Value} {xs:List (DataW H×List MemPlace)},
  xs.length=fs.length->(∀(i:Nat) (f:Field),fs[i]?=some f->DataW.trod enc P W base spare held n f.type ((cs.drop f.offset).take (P.cellsOf f.type))=xs[i]?) ->
  (∀n∈DataW.weightsEach P (fs.map (·.type)) (xs.map (·.1)),n<=reachBytes)->∃x,VRs (start W) (c x) ((cs.drop off).take sz)/\ok x
theorem opensVF_one {P:Program} {f:Field} {off sz:Nat} {α:Type} {c:α->List V} {ok:α->Prop} {t:TypeId}(S:f.offset=off)(G:f.type=t)(h:OpensV P t c ok)(hc:P.cellsOf t=sz):J8 P [f] off sz c ok :=
 ⟨fun {H enc W base spare held n cs xs} Y hx hw=>by
  match xs,Y with
  |[y],_=>
   have J:=hx 0 f rfl;rw[G]at J;obtain⟨x,O,E⟩:=h.out (y:=y) (by simpa using J) (fun n hn=>hw n (by simp[DataW.weightsEach,G];exact hn));rw[S,hc]at O;exact⟨x,O,E⟩⟩
theorem opensVF_cons {P:Program} {f:Field} {fs:List Field} {off off' sz E:Nat} {α β:Type} {a:α->List V} {b:β->List V} {G:α->Prop} {J:β->Prop} {t:TypeId}(ho:f.offset=off)(hf:f.type=t)(h:OpensV P t a G)(hc:P.cellsOf t=sz)
  (hr:J8 P fs off' E b J) (O:off'=off+sz):J8 P (f :: fs) off (sz+E) (fun x:α×β=>a x.1++b x.2) (fun x=>G x.1/\J x.2) :=
 ⟨fun {H enc W base spare held n cs xs} S hx hw=>by
  match xs,S with
  |y :: ys,S=>
   have h0:=hx 0 f rfl;rw[hf]at h0;obtain⟨x,hK,Y⟩:=h.out (y:=y) (by simpa using h0) (fun n hn=>hw n (by simp only[List.map_cons,DataW.weightsEach,hf];exact zF _ hn));obtain⟨z,hZ,a0⟩:=hr.out (cs:=cs) (xs:=ys) (by simpa using S) (fun i g hg=>hx (i+1) g hg) (fun n hn=>hw n (by simp only[List.map_cons,DataW.weightsEach];exact zA _ hn));rw[ho,hc]at hK;rw[O,<- List.drop_drop]at hZ;refine⟨(x,z),?_,Y,a0⟩;rw[List.take_add];exact oM hK hZ⟩
theorem opensV_struct {P:Program} {t:TypeId} {fs:Array Field} {α:Type} {c:α->List V} {ok:α->Prop} {sz:Nat}(G:P.underlying t=some (.struct fs))(h:J8 P fs.toList 0 sz c ok)(hc:P.cellsOf t=sz):OpensV P t c ok :=
 ⟨fun {H enc W base spare held fuel cs y} O hw=>by
  obtain⟨xs,n,_,rfl,S,Y,hx⟩:=DataW.trod_struct G O;simp only[DataW.weights,G]at hw;obtain⟨x,J,E⟩:=h.out (cs:=cs) (xs:=xs) (by simpa using Y) (fun i f hf=>hx i f (by simpa using hf)) hw;rw[yZ,zk (by omega)]at J;exact⟨x,J,E⟩⟩
theorem opensV_iso {P:Program} {t:TypeId} {α β:Type} {c:α->List V} {ok:α->Prop}(f:β->α)(g:α->β)(G:∀x,f (g x)=x)(h:OpensV P t c ok):OpensV P t (fun y=>c (f y)) (fun y=>ok (f y)) :=
 ⟨fun J hw=>by
  obtain⟨x,O,E⟩:=h.out J hw;exact⟨g x,by show VRs _ (c (f (g x))) _;rw[G];exact O,by show ok (f (g x));rw[G];exact E⟩⟩
theorem opensV_param {P:Program} {t:TypeId} {α:Type} {c:α->List V} {ok:α->Prop}(h:OpensV P t c ok) {H:Type} {enc:TypeId×Value->H} {W:World} {base:Nat} {spare:Nat->Bool} {held:Bool} {v:Value} {y:DataW H} {p:List MemPlace}
  (S:DataW.Trod enc P W base spare held t v y p) {ts:List TypeId} {O:List (DataW H)} {j:Nat} (E:(DataW.weightsEach P ts O).all (·<=reachBytes)=true) (G:ts[j]?=some t) (J:O[j]?=some y) :
  ∃x,VRs (start W) (c x) v.cells.toList/\ok x:=by
 obtain⟨fuel,Y⟩:=S;exact h.out Y (fun n hn=>by
  have:=List.all_eq_true.1 E n (DataW.weights_mem_each G J n hn)
  simpa using this)
theorem VR_cell {s:Sit} {v:V} {x:Value}(hc:x.cells=#[x])(h:VRs s [v] x.cells.toList):VR s v x:=by
 rw[hc]at h;unfold VRs at h;obtain⟨y,G,e,E,_⟩:=h;simp only[List.cons.injEq]at e;rw[e.1];exact E
theorem VR_aggv {s:Sit} {vs:List V} {cs:Array Value}(h:VRs s vs (Value.agg cs).cells.toList):VR s (.agg vs) (.agg cs):=by
 unfold VR;exact⟨cs,rfl,h⟩
theorem calls_of_fn {P:Program} {conv:FuncId->Conv} {ext:Ext}(hm:P.follows .mixedOrders=true)(S:Jm P ext) {f:FuncId} {args:List V} {E:List Value} {W:World}(Y:Kn (start W))(hv:VRs (start W) args E)(h:fn P conv ext f args=some (.sc (.bool true))) :
  Calls P f E.toArray W (fun e w'=>e= .returned (.bool true)/\Below W.heap.size W w'):=by
 unfold fn at h
 split at h
 .rename_i v G n J
  obtain⟨p,hp,e⟩:=dG h;obtain⟨_,_,XL⟩:=sF hm S _ _ _ _ _ _ _ J;refine(XL (start W) E (acv W Y) (fun _ _ _=>rfl) hv).mono ?_;rintro e' w' ⟨s',x,rfl,rfl,O⟩;refine⟨?_,O.Ie.below⟩;have:=B_ O.inv depth v p.1 p.2 x _ hp O.vr (rX s' G p.2);rw[e]at this;unfold VR at this;rw[this.1]
 .cases h
end Go.TV
namespace Go.TV
variable [Known]
theorem dN {α β:Type} {P:Program}(m:Sem α)(f:α->Sem β):aV P (m>>=f)=(aV P m).bind fun a=>aV P (f a):=by
 show aV P (m.bind f)=_
 induction m with
 |pure a=>rfl
 |program k E=>exact E P
 |mark m k E=>exact E
 |_=>rfl
theorem Js {α:Type} {P:Program}(a:α):aV P (pure a:Sem α)=some a:=rfl
theorem sH {P:Program}:aV P program=some P:=rfl
theorem Lh {α:Type} {P:Program}(c:Prop)[Decidable c](a b:Sem α):aV P (if c then a else b)=if c then aV P a else aV P b:=by split<;>rfl
theorem lN {P:Program} {t:TypeId} {d:TypeDesc}(h:P.underlying t=some d):aV P (underlying t)=some d:=by
 unfold underlying;rw[dN,sH];simp only[zi,h];rfl
theorem CO {P:Program}(d:Nat)(t:TypeId)(k E:IntKind)(a b:Int)(h:P.underlying t=some (.int E)):aV P (Op.equalIn (d+1) t (.int k a) (.int k b))=some (a==b):=by
 unfold Op.equalIn;rw[dN,lN h];simp only[zi,if_true];rfl
theorem Gx {P:Program}(d:Nat)(t:TypeId)(xs E:Array Value)(G:P.underlying t=some (.struct (P.fieldsOf t)))(hp:P.stoodInHeld t=false) :
  aV P (Op.equalIn (d+1) t (.agg xs) (.agg E))=aV P (Op.eqFields d xs E (P.fieldsOf t).toList):=by
 unfold Op.equalIn;rw[dN,lN G];simp only[zi,dN,sH,hp,yM,if_false,Js];rw[<- Array.forIn_toList];generalize (P.fieldsOf t).toList=fs;clear G
 induction fs with
 |nil=>rfl
 |cons f fs J=>
  simp only[List.forIn_cons,Op.eqFields,dN,Lh]
  split
  .cases aV P (part f.type xs f.offset)with
   |none=>rfl
   |some a=>
    cases aV P (part f.type E f.offset)with
    |none=>rfl
    |some b=>
     simp only[zi];cases aV P (Op.equalIn d f.type a b)with
     |none=>rfl
     |some r=>
      cases r
      .rfl
      .exact J
  .exact J
theorem CP {P:Program} {d:Nat} {xs E:Array Value} {f:Field} {fs:List Field} {a b:Value} {r:Bool} (hn:f.name ≠ "_") (ha:aV P (part f.type xs f.offset) = some a) (hb:aV P (part f.type E f.offset) = some b) (G:aV P (Op.equalIn d f.type a b) = some r) :
  aV P (Op.eqFields d xs E (f :: fs))=if r=true then aV P (Op.eqFields d xs E fs)else some false:=by
 conv=>lhs;rw[Op.eqFields]
 rw[if_pos hn,dN,ha];simp only[zi,dN,hb,G,Lh];cases r<;>rfl
theorem YS {P:Program} {t:TypeId} {x y:Operand} {cs G:List V} {us vs:List Value} {r:Bool} {fs:Array Field}(hm:P.eqGuardType P.depth t=false)(J:P.underlying t=some (.struct fs))(hp:P.stoodInHeld t=false)
  (hu:uj cs=some us) (O:uj G=some vs) (h:aV P (Op.eqFields 9999 us.toArray vs.toArray fs.toList)=some r):dK P .eql t x y (.agg cs) (.agg G)=some (.sc (.bool r)):=by
 have E:P.fieldsOf t=fs:=by unfold Program.fieldsOf;rw[J]
 have S:aV P (eqGuard .eql t x y (.agg us.toArray) (.agg vs.toArray))=some ():=by
  unfold eqGuard;rw[if_neg (by simp)];simp only[dN,sH,zi,hm,xJ,if_true];rfl
 have Y:aV P (binOp .eql t (.agg us.toArray) (.agg vs.toArray))=some (Value.bool r):=by
  have h1:binOp .eql t (.agg us.toArray) (.agg vs.toArray)=(Op.equal t (.agg us.toArray) (.agg vs.toArray)>>=fun b=>pure (Value.bool b)):=by simp only[binOp]
  have h2:aV P (Op.equal t (.agg us.toArray) (.agg vs.toArray))=some r:=(Gx 9999 t _ _ (by rw[E];exact J) hp).trans (by rw[E];exact h);rw[h1,dN,h2];rfl
 simp only[dK,toVal,hu,O,zJ,dN,S,Y,zi];rfl
end Go.TV
namespace Go.TV
variable [Known]
open Go.RowKit
section
variable {P:Program} {conv:FuncId->Conv} {call:Call}
theorem QM {t e:TypeId} {x y:Operand} {p:Option Addr} {len cap:Nat}(h:P.underlying t=some (.slice e))(w:World) :
  ((do eqGuard .eql t x y (.slice p len cap) (.slice none 0 0);binOp .eql t (.slice p len cap) (.slice none 0 0)):Sem Value).run P w= .ok (.bool p.isNone) w:=by
 refine gW _ ?_ w;rw[dN,eqGuard_at_slice];simp only[Js,zi];have E:binOp .eql t (.slice p len cap) (.slice none 0 0)=(Op.equal t (.slice p len cap) (.slice none 0 0)>>=fun b=>pure (Value.bool b)):=by simp only[binOp]
 rw[E,dN];have G:aV P (Op.equal t (.slice p len cap) (.slice none 0 0))=some p.isNone:=by
  show aV P (Op.equalIn (9999+1) t _ _)=_;unfold Op.equalIn;rw[dN,lN h];simp only[zi];cases p<;>rfl
 rw[G];rfl
theorem Fq(hc:lI P call)(hm:P.follows .mixedOrders=true) {f:FuncId} {fn:Func} {A B C D:Code} {id t u:Nat} {o1:Oper} {ty yt E e:TypeId} {ps:String} {af:Array Edge}(hf:P.funcs[f]?=some fn)
  (hb:fn.body=some (.seq A (.seq (.seq (.region id #[o1,⟨some t,.binOp .eql ty (.tmp u) (.const (.slice none 0 0)) yt,E,ps,af,none⟩] false) (.cond (.tmp t) B C)) D)))
  (c2:P.underlying ty=some (.slice e)) {n:Nat} {args:List V}
  (a8:TY fn (.seq A (.seq (.seq (.region id #[o1,⟨some t,.binOp .eql ty (.tmp u) (.const (.slice none 0 0)) yt,E,ps,af,none⟩] false) (.cond (.tmp t) B C)) D)) args.length=true)
  {σ σ':Store} {nx nx':Nat} {vs:List V} {st1:St} (hA:aX P conv call n A ⟨jM args,σ,nx⟩=some (.norm,st1)) {T2:Nat->V}
  (hg:o1.guard=none) {v1:V} (h1:dL P conv call o1 st1.T st1.σ st1.nx=some (v1,st1.σ,st1.nx)) (c3:T2=jQ st1.T o1.dst v1) {row:List V} {len:Nat} (hu:T2 u= .ts row len)
  (S:∀b:Bool,(b=true->row=[])->∃ex O,aX P conv call n (.seq (.cond (.tmp t) B C) D) ⟨upd T2 t (.sc (.bool b)),st1.σ,st1.nx⟩=some (ex,O)/\(ex= .norm\/ex= .ret)/\bI P O.T O.σ fn.results.toList=some vs/\O.σ=σ'/\O.nx=nx') :
  o8 P f args σ nx (oneOf vs) σ' nx':=by
 unfold TY at a8;simp only[yh,decide_eq_true_eq,Bool.not_eq_true']at a8;obtain⟨⟨a9,e0⟩,a7⟩:=a8;simp only[rY,yh]at a7;obtain⟨c4,⟨c5,c6,c7⟩,c8⟩:=a7;have c9:=mW hc n A _ _ _ hA;obtain⟨e2,e3,d0,_,_,_,e4⟩:=S false (fun h=>by cases h);have e5:st1.nx<=nx':=by have:=mW hc n _ _ _ _ d0;simp only at this;omega
 have b4:∀o∈[o1,(⟨some t,.binOp .eql ty (.tmp u) (.const (.slice none 0 0)) yt,E,ps,af,none⟩:Oper)],∀d,o.dst=some d->d<fn.ntmps:=fun o ho d d1=>by
  have:=Array.all_eq_true'.1 c5 o (by simpa using ho);rw[d1]at this
  simpa using this
 refine⟨by simp only at c9;omega,⟨fn,hf,by rw[hb];rfl,a9⟩,fun s d9 hi d2 Y=>?_⟩;have hl:=bZ Y;refine calls_of_wp hf hb ?_;refine wp_seq (su hc hm (nt:=fn.ntmps) (JK:=nx') (s0:=s) (gI:=σ) (Ce:=nx) n A ⟨jM args,σ,nx⟩ st1 .norm _ hA c4 (by omega) (fun s1 a1 b2=>?_) s _
  ⟨hi,aam Y _,by simp;omega,rfl,.refl s σ,.refl s nx nx,d2,zq _⟩)
 refine wp_seq (wp_seq (wp_region ?_));show wpOps P _ _ [0,1] a1 s1.w;have hw:∀(o:Oper) (tm:Array Value),o.guard=none->Region.wanted o (yielded #[o1,(⟨some t,.binOp .eql ty (.tmp u) (.const (.slice none 0 0)) yt,E,ps,af,none⟩:Oper)] tm)=true:=fun o tm h=>by unfold Region.wanted;rw[h]
 rw[wpOps_cons];unfold wpOp;rw[show(#[o1,(⟨some t,.binOp .eql ty (.tmp u) (.const (.slice none 0 0)) yt,E,ps,af,none⟩:Oper)])[0]?=some o1 from rfl];simp only[hw o1 _ hg,if_true];refine .inl (KO hc h1 b2.inv b2.tr (fun i h1 h2=>absurd h2 (by omega)) fun s2 x2 d3=>?_);have a0:=b2.step d3 (zq _) (b4 o1 (by simp));rw[<- c3]at a0;generalize a1.put o1.dst x2=a2 at a0⊢;rw[wpOps_cons];unfold wpOp;rw[show(#[o1,(⟨some t,.binOp .eql ty (.tmp u) (.const (.slice none 0 0)) yt,E,ps,af,none⟩:Oper)])[1]?=some ⟨some t,.binOp .eql ty (.tmp u) (.const (.slice none 0 0)) yt,E,ps,af,none⟩from rfl];simp only[hw ⟨some t,.binOp .eql ty (.tmp u) (.const (.slice none 0 0)) yt,E,ps,af,none⟩ _ rfl,if_true];have hx:=a0.tr u;rw[hu]at hx;unfold VR at hx;obtain⟨p,cap,d4,_,b5⟩:=hx;refine .inl (j_ (w':=s2.w) (x:=.bool p.isNone) ?_ ?_)
 .have he:execOp a2.eval ⟨some t,.binOp .eql ty (.tmp u) (.const (.slice none 0 0)) yt,E,ps,af,none⟩=(do pure (.value (<- (do eqGuard .eql ty (.tmp u) (.const (.slice none 0 0)) (a2.tmps.getD u undef) (.slice none 0 0);binOp .eql ty (a2.tmps.getD u undef) (.slice none 0 0)))):Sem Next):=rfl
  rw[he,d4];simp only[Sem.run_bind,Sem.run_pure];have:=QM (P:=P) (x:=.tmp u) (y:=.const (.slice none 0 0)) (p:=p) (len:=len) (cap:=cap) c2 s2.w;simp only[Sem.run_bind]at this;rw[this];rfl
 .obtain⟨ex,O,J,hex,b6,d5,a6⟩:=S p.isNone (fun hp=>by
   rcases b5 with h|⟨k,o,h,_⟩
   .exact h
   .rw[h]at hp;cases hp)
  have G:XQ fn.ntmps nx' s σ nx (upd T2 t (.sc (.bool p.isNone))) st1.σ st1.nx s2 (a2.put (some t) (.bool p.isNone)) :=
   a0.step (Out.same a0.inv (by unfold VR;exact⟨rfl,rfl⟩)) (zq _) (b4 ⟨some t,.binOp .eql ty (.tmp u) (.const (.slice none 0 0)) yt,E,ps,af,none⟩ (by simp))
  simp only[wpOps];show Code.wp P (Code.cond (.tmp t) B C) _ _ _;have fin:∀s3 a3,XQ fn.ntmps nx' s σ nx O.T O.σ O.nx s3 a3->bodyPost P fn (fun e w'=>∃s' x,s'.w=w'/\e= .returned x/\Out s σ nx s' (oneOf vs) x σ' nx') (Qs ex) a3 s3.w:=fun s3 a3 G=>by
   obtain⟨xs,g1,g2⟩:=pq G.inv G.tr fn.results.toList vs b6;have b7:(results fn a3.tmps).run P s3.w= .ok (if h:xs.toArray.size=1 then xs.toArray[0]else .tuple xs.toArray) s3.w:=by
    rw[KT];have e1:fn.results=fn.results.toList.toArray:=by simp
    rw[e1,List.mapM_toArray];simp only[Sem.run_bind,Sem.run_map,g1,Result.andThen_ok,Sem.run_pure]
   have a4:bodyPost P fn (fun e w'=>∃s' x,s'.w=w'/\e= .returned x/\Out s σ nx s' (oneOf vs) x σ' nx') .normal a3 s3.w:=by
    subst d5 a6;exact⟨G.defers,_,b7,s3,_,rfl,rfl,⟨Ue g2,G.inv,G.Ie,G.dom⟩⟩
   rcases hex with rfl|rfl
   .exact a4
   .exact a4
  simp only[aX]at J;have b8:rY fn.ntmps (Code.cond (.tmp t) B C)=true:=by simp only[rY,yh];exact⟨c6,c7⟩
  have a5:∀st e b9,(match val (St.T st) (.tmp t)with| .sc (.bool true)=>aX P conv call n B st| .sc (.bool false)=>aX P conv call n C st|_=>none)=some (e,b9)->aX P conv call n (.cond (.tmp t) B C) st=some (e,b9):=fun _ _ _ h=>h
  split at J
  .rename_i c0 d6
   have d7:=mW hc n D _ _ _ J;refine su hc hm (JK:=nx') n (.cond (.tmp t) B C) ⟨upd T2 t (.sc (.bool p.isNone)),st1.σ,st1.nx⟩ c0 .norm _ (a5 _ _ _ d6) b8 (zL d7 (Nat.le_of_eq a6)) (fun s3 a3 b3=>?_) s2 _ G;exact su hc hm (JK:=nx') n D c0 O ex _ J c8 (Nat.le_of_eq a6) fin s3 a3 b3
  .rename_i r d8
   refine su hc hm (JK:=nx') n (.cond (.tmp t) B C) ⟨upd T2 t (.sc (.bool p.isNone)),st1.σ,st1.nx⟩ O ex _ (a5 _ _ _ J) b8 (Nat.le_of_eq a6) (fun s3 a3 b3=>?_) s2 _ G;cases ex with
   |norm=>exact absurd J (d8 O)
   |exit id=>rcases hex with h|h<;>cases h
   |ret=>exact fin s3 a3 b3
end
instance (priority:=low) aph:Known:=⟨[]⟩
end Go.TV
namespace Go.TV
structure Joint where
 name:ByteArray
 x:Int
 y:Int
 fixed:Bool
structure Member where
 a:Int
 b:Int
 kind:Int
structure Structure where
 joints:List Joint
 members:List Member
structure Stance where
 name:ByteArray
 st:Structure
 load:List Int
 limits:List Int
structure Move where
 fr:Int
 to:Int
structure Yard where
 stances:List Stance
 moves:List Move
 strict:Bool
abbrev cI(n:Int):List V:=[I n]
abbrev cJoint(j:Joint):List V:=[Sg j.name,I j.x,I j.y,Bo j.fixed]
abbrev cMember(m:Member):List V:=[I m.a,I m.b,I m.kind]
abbrev LL {α:Type}(c:α->List V)(xs:List α):V:=.ts (xs.flatMap c) xs.length
abbrev LI(xs:List Int):V:=.ts (xs.flatMap cI) xs.length
abbrev cStructure(s:Structure):List V:=[LL cJoint s.joints,LL cMember s.members]
abbrev cStance(t:Stance):List V:=[Sg t.name,LL cJoint t.st.joints,LL cMember t.st.members,LI t.load,LI t.limits]
abbrev cMove(m:Move):List V:=[I m.fr,I m.to]
abbrev cYard(y:Yard):List V:=[LL cStance y.stances,LL cMove y.moves,Bo y.strict]
def okI(n:Int):Prop:=(Lit.int .i64 n).wf=true
def okS(s:ByteArray):Prop:=s.size<=140737488351232
def okL {α:Type}(B:Nat)(ok:α->Prop)(xs:List α):Prop:=(∀x∈xs,ok x)/\xs.length*B<=140737488351232/\xs.length<=maxLen
def okJoint(j:Joint):Prop:=okS j.name/\okI j.x/\okI j.y/\True
def okMember(m:Member):Prop:=okI m.a/\okI m.b/\okI m.kind
def okStructure(s:Structure):Prop:=okL 40 okJoint s.joints/\okL 24 okMember s.members
def okStance(t:Stance):Prop:=okS t.name/\okStructure t.st/\okL 8 okI t.load/\okL 8 okI t.limits
def okMove(m:Move):Prop:=okI m.fr/\okI m.to
def okYard(y:Yard):Prop:=okL 112 okStance y.stances/\okL 16 okMove y.moves/\True
end Go.TV
namespace Go.TV
theorem aH {P:Program} {conv:FuncId->Conv} {ext:Ext}(f:FuncId)(ts:List V):fn P conv ext f ts=(ev P conv ext f ts aK 0).bind fun q=>(strip q.2.1 depth q.1).map (·.1):=by
 unfold fn;cases ev P conv ext f ts aK 0 with
 |none=>rfl
 |some q=>rfl
section
variable (v:Value) (row:List V) (a b c:Nat) (f:FuncId) (vs:List V)
theorem acw:aT (.sc v)=true:=id rfl
theorem YT:aT .nil=true:=id rfl
theorem acy:aT (.tp row a)=true:=id rfl
theorem acz:aT (.ts row a)=true:=id rfl
theorem acA:aT (.rp a b)=true:=id rfl
theorem acB:aT (.rs a b c)=true:=id rfl
theorem YU:aT (.clo f vs)=true:=id rfl
theorem acC:cellsOfV (.agg vs)=some vs:=id rfl
theorem ae2:cellsOfV (.sc v)=some [.sc v]:=id rfl
theorem acD:cellsOfV .nil=some [.nil]:=id rfl
theorem ae3:cellsOfV (.tp row a)=some [.tp row a]:=id rfl
theorem ae4:cellsOfV (.ts row a)=some [.ts row a]:=id rfl
theorem ae5:cellsOfV (.rp a b)=some [.rp a b]:=id rfl
theorem ae6:cellsOfV (.rs a b c)=some [.rs a b c]:=id rfl
theorem acE:cellsOfV (.clo f vs)=some [.clo f vs]:=id rfl
theorem Lj(pl:Nat->Option (Nat×Nat))(cells:List V):jA pl cells []=some cells:=rfl
theorem Iz(pl:Nat->Option (Nat×Nat))(cells:List V)(i:Nat)(v:V)(rest:List (Nat×V)):jA pl cells ((i,v) :: rest)=(pl i).bind fun p=>(cellsOfV v).bind fun vs=>if vs.length=p.2/\p.1+vs.length<=cells.length then jA pl (patch cells p.1 vs) rest else none:=by
 show(match pl i,cellsOfV v with|some (off,size),some vs=>_|_,_=>none)=_;cases pl i<;>cases cellsOfV v<;>rfl
theorem DY(cells:List V)(off:Nat)(v:V):patch cells off [v]=cells.set off v:=rfl
theorem acF(u:V)(cells:List V)(off:Nat):patch (u :: cells) off []=(u :: cells).take off++[]++(u :: cells).drop (off+0):=rfl
theorem IB(u:V)(cells:List V)(off:Nat)(v w:V)(vs:List V):patch (u :: cells) off (v :: w :: vs)=(u :: cells).take off++(v :: w :: vs)++(u :: cells).drop (off+(v :: w :: vs).length):=rfl
end
attribute [go_sem] acw YT acy acz acA acB YU acC ae2 acD ae3 ae4 ae5 ae6 acE Lj Iz DY acF IB
attribute [go_sem] depth zM zU wR dA List.set_cons_zero List.set_cons_succ zD wu yG Nat.reduceAdd Nat.reduceLT Nat.reduceLeDiff List.all_cons List.all_nil yY Nat.add_zero yZ List.drop_succ_cons List.take_succ_cons List.take_zero Nat.reduceMul Nat.zero_mul Nat.one_mul yN iD
end Go.TV
namespace Go.TV
section
variable {α:Type} {c:α->List V} {s:Nat}
theorem aN(hc:∀x,(c x).length=s)(xs:List α):(xs.flatMap c).length=xs.length*s:=by
 induction xs with
 |nil=>simp
 |cons x xs E=>rw[zU,zo,E,hc,zD,yA,wU]
theorem OO(hc:∀x,(c x).length=s)(xs:List α)(k:Nat):(xs.flatMap c).drop (k*s)=(xs.drop k).flatMap c:=by
 induction xs generalizing k with
 |nil=>simp
 |cons x xs E=>
  cases k with
  |zero=>simp
  |succ k=>
   rw[zU,yA,wU,<- List.drop_drop];rw[show s=(c x).length from(hc x).symm,List.drop_left,hc x,E,List.drop_succ_cons]
theorem slot(hc:∀x,(c x).length=s)(xs:List α)(k:Nat)(h:k<xs.length):((xs.flatMap c).drop (k*s)).take s=c xs[k]:=by
 rw[OO hc,yU h,zU,show s=(c xs[k]).length from(hc _).symm,List.take_left]
theorem mX(c:α->V)(xs:List α)(k:Nat)(h:k<xs.length):(xs.flatMap fun x=>[c x])[k]?=some (c xs[k]):=by
 induction xs generalizing k with
 |nil=>cases h
 |cons x xs E=>
  cases k with
  |zero=>rfl
  |succ k=>exact E k (by simpa using h)
theorem slot_ne(hc:∀x,(c x).length=s)(hs:0<s)(xs:List α)(k:Nat)(h:k<xs.length):xs.flatMap c≠[]:=by
 intro e;have:=aN hc xs;rw[e]at this;have E:0<xs.length*s:=Nat.mul_pos (by omega) hs;simp at this;omega
def mix(c:α->List V)(z:List V)(xs:List α)(n k:Nat):List V:=(xs.take k).flatMap c++rep (n-k) z
theorem jv(n:Nat)(z:List V):(rep n z).length=n*z.length:=by simp[rep]
theorem CQ(c:α->List V)(z:List V)(xs:List α)(n:Nat):rep n z=mix c z xs n 0:=by simp[mix]
theorem CS(c:α->List V)(z:List V)(xs:List α):mix c z xs xs.length xs.length=xs.flatMap c:=by simp[mix,rep]
theorem DZ(hc:∀x,(c x).length=s) {z:List V}(E:z.length=s)(xs:List α)(k:Nat)(h:k<=xs.length):(mix c z xs xs.length k).length=xs.length*s:=by
 unfold mix;rw[zo,aN hc,jv,E,zh,yC h,<- Nat.add_mul];congr 1;omega
theorem rep_succ(n:Nat)(z:List V):rep (n+1) z=z++rep n z:=by simp[rep,xW]
theorem acG(hc:∀x,(c x).length=s) {z:List V}(G:z.length=s)(xs:List α)(k:Nat)(h:k<xs.length) :
  (mix c z xs xs.length k).take (k*s)++c xs[k]++(mix c z xs xs.length k).drop (k*s+s)=mix c z xs xs.length (k+1):=by
 have E:((xs.take k).flatMap c).length=k*s:=by rw[aN hc,zh,yC (by omega)]
 have J:xs.length-k=(xs.length - (k+1))+1:=by omega
 unfold mix;rw[xO E,<- List.drop_drop,List.drop_left' E,J,rep_succ,List.drop_left' G,yO,zy h];simp only[zT,Option.toList_some,zU,wR,zM,zB]
theorem vV(hc:∀x,(c x).length=s) {z:List V}(E:z.length=s)(xs:List α)(k:Nat)(h:k<xs.length) :
  patch (mix c z xs xs.length k) (k*s) (c xs[k])=mix c z xs xs.length (k+1):=by
 have J:=acG hc E xs k h;have O:∀(cells:List V) (off:Nat) (vs:List V),vs.length=s->(s=1->off<cells.length)->patch cells off vs=cells.take off++vs++cells.drop (off+s):=by
  intro cells off vs G hs;unfold patch
  split
  .rename_i v
   have:s=1:=by simpa using G.symm
   subst this;rw[List.set_eq_take_append_cons_drop,if_pos (hs rfl)];simp
  .rw[G]
 rw[O _ _ _ (hc _) (fun e=>?_),J];rw[DZ hc E xs k (by omega),e];omega
theorem aiL {c:α->V} {z:V}(xs:List α)(k:Nat)(h:k<xs.length) :
  (mix (fun x=>[c x]) [z] xs xs.length k).set k (c xs[k])=mix (fun x=>[c x]) [z] xs xs.length (k+1):=by
 have:=vV (c:=fun x=>[c x]) (s:=1) (fun _=>rfl) (z:=[z]) rfl xs k h
 rwa [yN]at this
theorem Fv(f:V->Option (V×List Nat))(a b:List V)(ha:stripL f a=some (a,[]))(hb:stripL f b=some (b,[])):stripL f (a++b)=some (a++b,[]):=by
 induction a with
 |nil=>exact hb
 |cons v a ih=>
  rw[aO]at ha;rw[yT,aO];cases G:f v with
  |none=>rw[G]at ha;cases ha
  |some p=>
   rw[G]at ha;cases E:stripL f a with
   |none=>rw[E]at ha;cases ha
   |some q=>
    rw[E]at ha;simp only[zi,zJ,wC,wB,List.cons.injEq,List.append_eq_nil_iff]at ha;obtain⟨⟨J,O⟩,S,Y⟩:=ha;obtain⟨p1,p2⟩:=p;obtain⟨q1,q2⟩:=q;simp only at J O S Y;subst J O S Y;rw[ih E];simp
theorem iJ {f:V->Option (V×List Nat)}(h:∀x,stripL f (c x)=some (c x,[]))(xs:List α):stripL f (xs.flatMap c)=some (xs.flatMap c,[]):=by
 induction xs with
 |nil=>rfl
 |cons x xs E=>rw[zU];exact Fv f _ _ (h x) E
end
section
variable {P:Program} {t:TypeId} {x y:Operand}
theorem aiM {a b:ByteArray}:dK P .eql t x y (.sc (.string a)) (.sc (.string b))=some (.sc (.bool (a.toList==b.toList))):=by
 simp only[dK,toVal,eqGuard_at_string,binOp_string_eql];rfl
theorem aiN {a b:ByteArray}:dK P .neq t x y (.sc (.string a)) (.sc (.string b))=some (.sc (.bool !(a.toList==b.toList))):=by
 simp only[dK,toVal,eqGuard_at_string,binOp_string_neq];rfl
theorem qZ {a b:Bool}(h:P.underlying t=some .bool)(f:Bool->Value):aV P ((Op.equal t (.bool a) (.bool b)).bind fun r=>pure (f r))=some (f (a==b)):=by
 show aV P ((Op.equalIn (9999+1) t _ _).bind fun r=>pure (f r))=_;unfold Op.equalIn underlying;show aV P (.program fun p=>_)=_;simp only[aV];have pb:∀ {β E:Type} (a:β) (f:β->Sem E),(Sem.pure a).bind f=f a:=fun _ _=>rfl
 have G:∀ {β E:Type} (a:β) (f:β->Sem E),(pure a:Sem β).bind f=f a:=fun _ _=>rfl
 simp only[h,pb,G];rfl
theorem aiO {a b:Bool}(h:P.underlying t=some .bool):dK P .eql t x y (.sc (.bool a)) (.sc (.bool b))=some (.sc (.bool (a==b))):=by
 simp only[dK,toVal,eqGuard_at_bool,pure_bind,binOp];first|(erw[qZ h (fun r=> .bool r)];rfl)|(erw[qZ h (fun r=> .bool !r)];rfl)
theorem aiP {a b:Bool}(h:P.underlying t=some .bool):dK P .neq t x y (.sc (.bool a)) (.sc (.bool b))=some (.sc (.bool !(a==b))):=by
 simp only[dK,toVal,eqGuard_at_bool,pure_bind,binOp];first|(erw[qZ h (fun r=> .bool r)];rfl)|(erw[qZ h (fun r=> .bool !r)];rfl)
end
attribute [go_sem] aiM aiN aiO aiP bne_self_eq_false BEq.rfl
theorem aB {body:St->Option (Ex×St)} {G:St} {x:Option (Ex×St)}(S:aF body G=x)(N:Nat)(J:Nat->St->Prop)(post:Ex×St->Prop)
  (step:∀k st,k<N->J k st->(∃E,body st=some (.norm,E)/\J (k+1) E)\/(∃r,body st=some r/\(∀s,r≠(.norm,s))/\post r))
  (last:∀st,J N st->∃r,body st=some r/\(∀s,r≠(.norm,s))/\post r) (h0:J 0 G):∃r,x=some r/\post r:=by
 refine bJ S (fun n st=>n<=N/\J (N-n) st) post ?_ N ⟨zq _,by rwa [yQ]⟩;rintro n st ⟨hn,O⟩;cases n with
 |zero=>exact .inr (last st O)
 |succ n=>
  rcases step _ st (by omega) O with ⟨E,Y,h2⟩|h
  .exact .inl ⟨E,Y,n,by omega,by omega,by rwa [show N-n=N - (n+1)+1 by omega]⟩
  .exact .inr h
theorem jf {α:Type}(σ:Nat->α)(b:Nat)(x y:α):upd (upd σ b x) b y=upd σ b y:=by
 funext i;unfold upd
 split<;>rfl
theorem ami:(false==true)=false:=id rfl
theorem amj:(true==false)=false:=id rfl
attribute [go_sem] ami amj Option.map_none jf List.isEmpty_nil Int.cast_ofNat_Int yw
theorem U2 {P:Program} {t:TypeId} {lo hi:Option V} {σ:Store}(h:(bF P t).slice=true)(E:(bF P t).Qw=true):dX P t .nil lo hi none σ=(bnd lo 0).bind fun l=>(bnd hi 0).bind fun h=>if l<=h/\h<=0 then some .nil else none:=by
 obtain⟨e,O,z,G,J,S,Y,h5,h6,h7⟩:=jC h E;unfold dX;simp only[G,J];cases bnd lo 0<;>cases bnd hi 0<;>rfl
theorem aiQ(σ:Store)(s:Nat):rowOf σ s .nil=some ([],0):=rfl
theorem amk(σ:Store)(s:Nat)(row:List V)(len:Nat):rowOf σ s (.ts row len)=if row.length=len*s then some (row,len)else none:=rfl
theorem aml(σ:Store)(s b off len:Nat):rowOf σ s (.rs b off len)=(σ b).bind fun B=>if off+len*s<=B.cells.length then some ((B.cells.drop off).take (len*s),len)else none:=by
 show(match σ b with|some B=>_|none=>none)=_;cases σ b<;>rfl
theorem D7(σ:Store)(nx size bytes:Nat)(row:List V)(m:Nat):bT σ nx size bytes .nil row m=if m=0 then some (.nil,σ,nx)else if m<=maxLen/\m*bytes<=140737488355328 then some (.rs nx 0 m,dA σ nx row size,nx+1)else none:=rfl
theorem kQ {σ:Store} {nx bytes b len m:Nat} {B:Aw} {row:List V}(hb:σ b=some B)(E:B.cells.length=len)(hs:B.st=1)(hm:m≠0)(G:len+m<=maxLen)(J:(len+m)*bytes<=140737488355328)(O:row.all aT=true) :
  bT σ nx 1 bytes (.rs b 0 len) row m=some (.rs nx 0 (len+m),upd (upd σ b none) nx (some ⟨B.cells++row,1,B.wr⟩),nx+1):=by
 unfold bT;simp only[hb,hm,if_false,E,hs,G,J,O];rw[if_neg (by omega),if_pos (by simp)];simp
theorem QN:¬(1000000000:Int)=0:=by decide
attribute [go_sem] QN
theorem CU {P:Program} {conv:FuncId->Conv} {call:Call}(d:Option Tmp)(ty:TypeId)(ps:String)(E:Array Edge)(G:Option (Nat×Bool))(T:Nat->V)(σ:Store)(nx:Nat)(t:TypeId)(h:(bF P t).slice=true)(J:(bF P t).Qw=true):dL P conv call ⟨d,.buildSlice t 0 #[],ty,ps,E,G⟩ T σ nx=some (.nil,σ,nx):=by
 rw[lK d ty ps E G T σ nx t 0 #[] (by rfl)];have:=kC (P:=P) (t:=t) (len:=0) (parts:=([]:List (Nat×V))) (σ:=σ) (nx:=nx) h J
 simpa using this
theorem CV {P:Program} {conv:FuncId->Conv} {call:Call}(d:Option Tmp)(ty:TypeId)(ps:String)(G:Array Edge)(J:Option (Nat×Bool))(T:Nat->V)(σ:Store)(nx:Nat)(t:TypeId)(x:Operand)(h:(bF P t).slice=true)(S:(bF P t).Qw=true)(hs:(bF P t).DU=1)(Y:(bF P t).oI.length=1)(hc:aT (val T x)=true) :
  dL P conv call ⟨d,.buildSlice t 1 #[(0,x)],ty,ps,G,J⟩ T σ nx=some (.rs nx 0 1,upd σ nx (some ⟨[val T x],1,true⟩),nx+1):=by
 rw[lK d ty ps G J T σ nx t 1 _ (by rfl),kC h S,if_neg (by decide),hs,if_pos (by decide)];have hv:cellsOfV (val T x)=some [val T x]:=by generalize val T x=v at *;cases v<;>simp_all [cellsOfV,aT]
 have O:(rep 1 (bF P t).oI).length=1:=by rw[jv,Y]
 have E:(rep 1 (bF P t).oI).set 0 (val T x)=[val T x]:=by
  generalize rep 1 (bF P t).oI=l at *
  match l,O with
  |[a],_=>rfl
 show(match jA (fun j=>some (j*1,1)) (rep 1 (bF P t).oI) [(0,val T x)]with|some cells=>some (V.rs nx 0 1,dA σ nx cells 1,nx+1)|none=>none)=_;rw[Iz];simp only[zi,hv,yL,O,Nat.zero_mul,yY,zq,and_self,if_true,DY,E,Lj];rfl
attribute [go_sem] CU CV U2 aiQ amk aml D7 Nat.sub_zero List.isEmpty_cons
def Grow(T:Nat->V)(σ:Store)(nx t:Nat)(acc:List Int):Prop:=(T t= .nil/\acc=[])\/∃b,T t= .rs b 0 acc.length/\acc≠[]/\σ b=some ⟨acc.flatMap cI,1,true⟩/\b<nx
theorem uZ:1<=maxLen:=by decide
attribute [go_sem] uZ
theorem aS(xs:List Int):(xs.flatMap cI).length=xs.length:=by rw[aN (c:=cI) (s:=1) (fun _=>rfl),yN]
theorem fG {T:Nat->V} {σ:Store} {nx t:Nat} {acc:List Int}(G:Grow T σ nx t acc)(x:Int)(S:acc.length<17592186044415) :
  ∃σ',bT (upd σ nx (some ⟨[I x],1,true⟩)) (nx+1) 1 8 (T t) [I x] 1=some (.rs (nx+1) 0 (acc.length+1),σ',nx+1+1)/\σ' (nx+1)=some ⟨(acc++[x]).flatMap cI,1,true⟩:=by
 have hm:acc.length+1<=maxLen:=by unfold maxLen;omega
 rcases G with ⟨E,rfl⟩|⟨b,E,J,hb,O⟩
 .refine⟨_,by rw[E,D7,if_neg (by decide),if_pos (by decide)];rfl,?_⟩
  simp[dA,upd]
 .refine⟨_,by rw[E,kQ (B:=⟨acc.flatMap cI,1,true⟩) (by rw[ay];exact hb) (aS acc) rfl (by decide) hm (by omega) rfl],?_⟩
  simp[upd]
theorem fH {T:Nat->V} {σ':Store} {nx t:Nat} {acc:List Int}(h:σ' (nx+1)=some ⟨acc.flatMap cI,1,true⟩)(G:T t= .rs (nx+1) 0 acc.length)(E:acc≠[]):Grow T σ' (nx+1+1) t acc:=.inr ⟨nx+1,G,E,h,by omega⟩
theorem dM {T T':Nat->V} {σ:Store} {nx t E:Nat} {acc:List Int}(h:T' E=T t)(G:Grow T σ nx t acc):Grow T' σ nx E acc:=by
 unfold Grow at *;rw[h];exact G
theorem U3(f:V->Option (V×List Nat))(h:∀n,f (I n)=some (I n,[]))(xs:List Int):stripL f (xs.flatMap cI)=some (xs.flatMap cI,[]) :=
 iJ (fun x=>by rw[aO,h,bQ];rfl) xs
theorem iP {T:Nat->V} {σ:Store} {nx t:Nat} {acc:List Int}(G:Grow T σ nx t acc)(d:Nat):∃ids,strip σ (d+1) (T t)=some (LI acc,ids):=by
 rcases G with ⟨E,rfl⟩|⟨b,E,J,hb,O⟩
 .exact⟨[],by rw[E,strip_nil];rfl⟩
 .refine⟨[b],?_⟩
  .rw[E,d_,hb]
   simp only[zi,aS,yN,yY,zq,if_true,yZ];rw[zk (by rw[aS];exact zq _),U3 _ (fun n=>cO _ _ _)];rfl
theorem mG(xs:List Int):(xs.flatMap cI).take xs.length=xs.flatMap cI:=zk (by rw[aS];exact zq _)
theorem kG(σ:Store)(d:Nat)(xs:List Int):stripL (strip σ d) (xs.flatMap cI)=some (xs.flatMap cI,[]):=U3 _ (fun n=>cO _ _ _) xs
theorem qj(xs:List Int):(xs.flatMap cI).all aT=true:=by
 induction xs with
 |nil=>rfl
 |cons x xs E=>rw[zU];simp[aT]
attribute [go_sem] yE aS mG kG qj zq
theorem Ll {P:Program} {conv:FuncId->Conv} {call:Call}(d:Option Tmp)(ty:TypeId)(ps:String)(G:Array Edge)(J:Option (Nat×Bool))(T:Nat->V)(σ:Store)(nx:Nat)(t:TypeId)(x y z:Operand)(h:(bF P t).slice=true)(O:(bF P t).Qw=true)(hs:(bF P t).DU=1)(S:(bF P t).oI.length=1)(Y:aT (val T x)=true)(hy:aT (val T y)=true)(hw:aT (val T z)=true) :
  dL P conv call ⟨d,.buildSlice t 3 #[(0,x),(1,y),(2,z)],ty,ps,G,J⟩ T σ nx=some (.rs nx 0 3,upd σ nx (some ⟨[val T x,val T y,val T z],1,true⟩),nx+1):=by
 rw[lK d ty ps G J T σ nx t 3 _ (by rfl),kC h O,if_neg (by decide),hs,if_pos (by decide)];have E:∀v,aT v=true->cellsOfV v=some [v]:=by intro v E;cases v<;>simp_all [cellsOfV,aT]
 have hr:(rep 3 (bF P t).oI).length=3:=by rw[jv,S]
 obtain⟨a,b,c,e⟩:∃a b c,rep 3 (bF P t).oI=[a,b,c]:=by
  generalize rep 3 (bF P t).oI=l at *
  match l,hr with
  |[a,b,c],_=>exact⟨a,b,c,rfl⟩
 show(match jA (fun j=>some (j*1,1)) (rep 3 (bF P t).oI) [(0,val T x),(1,val T y),(2,val T z)]with|some cells=>some (V.rs nx 0 3,dA σ nx cells 1,nx+1)|none=>none)=_;rw[e];simp[Iz,Lj,E _ Y,E _ hy,E _ hw,DY,dA]
attribute [go_sem] Ll
theorem ae7 {P:Program}(T:Nat->V)(σ:Store)(t:Tmp)(r:ResultVar)(rs:List ResultVar):bI P T σ (.tmp t :: r :: rs)=(bI P T σ (r :: rs)).map fun vs=>T t :: vs:=by
 rw[bI];cases bI P T σ (r :: rs)<;>rfl
theorem acH {P:Program}(T:Nat->V)(σ:Store)(a:Tmp)(t:TypeId)(r:ResultVar)(rs:List ResultVar):bI P T σ (.cell a t :: r :: rs)=(eU P σ t (T a)).bind fun v=>(bI P T σ (r :: rs)).map fun vs=>v :: vs:=by
 rw[bI];cases eU P σ t (T a)<;>cases bI P T σ (r :: rs)<;>rfl
attribute [go_sem] ae7 acH
theorem Lm {P:Program} {s e:TypeId} {G E k:IntKind} {n:Int} {σ:Store}(hs:P.underlying s=some (.int G))(J:P.underlying e=some (.int E)):gK P s e (.sc (.int k n)) σ=some (.sc (.int E (E.wrap n))):=by
 have h:aV P (convert s e (.int k n))=some (.int E (E.wrap n)):=by
  unfold convert;rw[dN,lN hs];simp only[zi];rw[dN,lN J];rfl
 simp only[gK,toVal,h,zi];rfl
theorem wrap_u64 {n:Int}(J:0<=n)(O:n<=18446744073709551615):IntKind.u64.wrap n=n:=by
 unfold IntKind.wrap;have E:IntKind.u64.signed=false:=by decide
 have G:IntKind.u64.bits=64:=by decide
 simp only[E,G,Bool.false_and];rw[if_neg (by simp)];omega
section
variable {P:Program} {t:TypeId} {x y:Operand}
theorem amm {k E:IntKind} {a n:Int}(h:¬n<0):dK P .shr t x y (.sc (.int k a)) (.sc (.int E n))=some (.sc (.int k (a.fdiv (2^min n.toNat k.bits)))):=by
 have hs:Op.shift .shr k a E n=(pure (.int k (a.fdiv (2^min n.toNat k.bits))):Sem Value):=by
  unfold Op.shift;rw[if_neg h]
 simp only[dK,toVal,eqGuard_at_int,binOp_shr,hs];rfl
end
attribute [go_sem] amm
def aiR:V->Bool
 | .sc _=>true
 |_=>false
theorem aiS(v:Value):aiR (.sc v)=true:=id rfl
theorem U5 {P:Program} {conv:FuncId->Conv} {call:Call}(d:Option Tmp)(ty:TypeId)(ps:String)(G:Array Edge)(J:Option (Nat×Bool))(T:Nat->V)(σ:Store)(nx:Nat)(s e:TypeId)(x:Operand)(E:aiR (val T x)=true) :
  bY P conv call ⟨d,.convert s e x,ty,ps,G,J⟩ T σ nx=(gK P s e (val T x) aK).map (·,σ,nx):=by
 obtain⟨u,hu⟩:∃u,val T x= .sc u:=by
  cases O:val T x<;>rw[O]at E<;>first|exact⟨_,rfl⟩|cases E
 refine pF T σ nx (by show some (aW (val T x))=some [];rw[hu];rfl) fun σ=>?_
 show(gK P s e (val T x) σ).map _=_;rw[hu];rfl
attribute [go_sem] aiS U5
theorem fD {b:Option (Ex×St)} {J:St->Prop} {post:Ex×St->Prop}(h:∃x,b=some x/\((∃E,x=(.norm,E)/\J E)\/((∀s,x≠(.norm,s))/\post x))):(∃E,b=some (.norm,E)/\J E)\/(∃r,b=some r/\(∀s,r≠(.norm,s))/\post r):=by
 obtain⟨x,rfl,⟨E,rfl,h⟩|⟨G,O⟩⟩:=h
 .exact .inl ⟨E,rfl,h⟩
 .exact .inr ⟨x,rfl,G,O⟩
theorem aiT {P:Program} {conv:FuncId->Conv} {call:Call} {d:Option Tmp} {ty:TypeId} {ps:String} {E:Array Edge} {G:Option (Nat×Bool)} {T:Nat->V} {σ:Store} {nx:Nat} {g:FuncId}(h:conv g= .inl)(args:Array Operand)(ts:Array TypeId) :
  bY P conv call ⟨d,.call ⟨.value (.func g),args,ts⟩,ty,ps,E,G⟩ T σ nx=if(((args.toList.map (val T)).flatMap oH).all fun b=>decide (b<nx))=true then
   (call g (args.toList.map (val T)) (restrict σ ((args.toList.map (val T)).flatMap oH)) nx).map fun r=>(r.1,aY ((args.toList.map (val T)).flatMap oH) nx r.2.2 σ r.2.1,r.2.2)else none:=by
 have J:kM conv T σ (⟨d,.call ⟨.value (.func g),args,ts⟩,ty,ps,E,G⟩:Oper)=some ((args.toList.map (val T)).flatMap oH):=by
  simp only[kM,val,h,wR,zM]
 rw[lM T σ nx J (fun v=>by simp only[keeps,val,h])]
 split
 .have e:=J6 (P:=P) (conv:=conv) (call:=call) d ty ps E G T (restrict σ ((args.toList.map (val T)).flatMap oH)) nx (.func g) args ts
  rw[e];simp only[val,DV,zM,bM h];cases call g (args.toList.map (val T)) (restrict σ ((args.toList.map (val T)).flatMap oH)) nx<;>rfl
 .rfl
theorem ap1 {conv:FuncId->Conv} {d:Option Tmp} {ty:TypeId} {ps:String} {E:Array Edge} {G:Option (Nat×Bool)} {g:FuncId}(h:conv g= .inl)(args:Array Operand)(ts:Array TypeId):writer conv ⟨d,.call ⟨.value (.func g),args,ts⟩,ty,ps,E,G⟩=true:=by unfold writer;simp only[h]
theorem ae8 {conv:FuncId->Conv} {d:Option Tmp} {ty:TypeId} {ps:String} {E:Array Edge} {G:Option (Nat×Bool)} {T:Nat->V} {σ:Store} {g:FuncId}(h:conv g= .inl)(args:Array Operand)(ts:Array TypeId):bC conv T σ ⟨d,.call ⟨.value (.func g),args,ts⟩,ty,ps,E,G⟩=(args.toList.map (val T)).flatMap oH:=by
 simp only[bC,kM,val,h,wR,zM,xM]
theorem ae9(v:Value):oH (.sc v)=[]:=rfl
theorem ae_(b off:Nat):oH (.rp b off)=[b]:=rfl
theorem ae'(b off len:Nat):oH (.rs b off len)=[b]:=rfl
theorem afa(row:List V)(len:Nat):oH (.ts row len)=[]:=rfl
theorem afb(row:List V)(off:Nat):oH (.tp row off)=[]:=rfl
theorem acI:oH .nil=[]:=rfl
theorem acJ(vs:List V):oH (.agg vs)=vs.flatMap aW:=rfl
theorem jU(σ:Store)(b:Nat):restrict σ [b] b=σ b:=by unfold restrict;simp
attribute [go_sem] aiT ap1 ae8 ae9 ae_ ae' afa afb acI acJ jU
theorem Fz {P:Program} {conv:FuncId->Conv} {call:Call} {d:Option Tmp} {ty:TypeId} {ps:String} {E:Array Edge} {G:Option (Nat×Bool)} {T:Nat->V} {σ:Store} {nx:Nat}(a x:Operand)(t u:TypeId) :
  bY P conv call ⟨d,.call ⟨.builtin .append,#[a,x],#[t,u]⟩,ty,ps,E,G⟩ T σ nx=if((aW (val T a)++aW (val T x)).all fun b=>decide (b<nx))=true then
   (lJ P #[t,u] (val T a) (val T x) (restrict σ (aW (val T a)++aW (val T x))) nx).map fun r=>(r.1,aY (aW (val T a)++aW (val T x)) nx r.2.2 σ r.2.1,r.2.2)else none:=by
 have J:kM conv T σ (⟨d,.call ⟨.builtin .append,#[a,x],#[t,u]⟩,ty,ps,E,G⟩:Oper)=some (aW (val T a)++aW (val T x)):=by
  simp[kM]
 rw[lM T σ nx J (fun v=>rfl)]
 split
 .rw[OL]
  cases lJ P #[t,u] (val T a) (val T x) (restrict σ (aW (val T a)++aW (val T x))) nx<;>rfl
 .rfl
theorem Ls {conv:FuncId->Conv} {d:Option Tmp} {ty:TypeId} {ps:String} {E:Array Edge} {G:Option (Nat×Bool)}(args:Array Operand)(ts:Array TypeId):writer conv ⟨d,.call ⟨.builtin .append,args,ts⟩,ty,ps,E,G⟩=true:=id rfl
theorem CW {conv:FuncId->Conv} {d:Option Tmp} {ty:TypeId} {ps:String} {E:Array Edge} {G:Option (Nat×Bool)} {T:Nat->V} {σ:Store}(a x:Operand)(ts:Array TypeId):bC conv T σ ⟨d,.call ⟨.builtin .append,#[a,x],ts⟩,ty,ps,E,G⟩=aW (val T a)++aW (val T x):=by
 simp[bC,kM]
theorem JL {P:Program} {conv:FuncId->Conv} {call:Call}(d:Option Tmp)(ty:TypeId)(ps:String)(E:Array Edge)(G:Option (Nat×Bool))(T:Nat->V)(σ:Store)(nx:Nat)(t:TypeId)(h:(bF P t).slice=true)(J:(bF P t).Qw=true):bY P conv call ⟨d,.buildSlice t 0 #[],ty,ps,E,G⟩ T σ nx=some (.nil,σ,nx) :=
 J7 T σ nx rfl fun σ=>CU d ty ps E G T σ nx t h J
theorem QO {conv:FuncId->Conv} {d:Option Tmp} {ty:TypeId} {ps:String} {E:Array Edge} {G:Option (Nat×Bool)}(t:TypeId)(n:Nat)(parts:Array (Nat×Operand)):writer conv ⟨d,.buildSlice t n parts,ty,ps,E,G⟩=false:=id rfl
theorem JM {conv:FuncId->Conv} {d:Option Tmp} {ty:TypeId} {ps:String} {E:Array Edge} {G:Option (Nat×Bool)} {T:Nat->V} {σ:Store}(t:TypeId)(n:Nat)(parts:Array (Nat×Operand)):bC conv T σ ⟨d,.buildSlice t n parts,ty,ps,E,G⟩=[]:=rfl
theorem acK(σ:Store)(nx:Nat)(x:Option Aw):aY [] nx (nx+1) σ (upd (restrict σ []) nx x)=upd σ nx x:=by
 funext i;unfold aY upd restrict
 by_cases h:i=nx
 .simp[h]
 .rw[if_neg (by simp only[zK,false_or];omega),if_neg h]
attribute [go_sem] Fz Ls CW JL QO JM acK r_ zM
theorem Lu:∀(ids:List Nat) (σ:Store) (b:Nat),ids.contains b=false->kZ σ ids b=σ b
 |[],σ,b,_=>rfl
 |i :: ids,σ,b,h=>by
  rw[List.contains_cons,Bool.or_eq_false_iff]at h;have E:b≠i:=by simpa using h.1
  unfold kZ;rw[Lu ids _ b h.2,upd_ne _ _ E]
theorem D8 {σ:Store} {ids:List Nat} {t:V} {b:Nat}(h:ids.contains b=false):behind σ ids t b=σ b:=by
 unfold behind
 split
 .rfl
 .exact Lu ids σ b h
attribute [go_sem] D8
end Go.TV
namespace Go.TV
theorem aiU {P:Program} {t:TypeId} {x y:Operand} {a b:ByteArray}(h:a.size+b.size<=9223372036854775807):dK P .add t x y (.sc (.string a)) (.sc (.string b))=some (.sc (.string (a++b))):=by
 have hm:IntKind.i64.max=9223372036854775807:=rfl;have:Op.stringOp .add a b=(pure (.string (a++b)):Sem Value):=by
  unfold Op.stringOp;rw[if_neg (by rw[hm];omega)]
 simp only[dK,toVal,eqGuard_add];show(aV P (Op.stringOp .add a b)).bind _=_;rw[this];rfl
theorem acL:iE []=some []:=rfl
theorem YV(n:Int)(vs:List V):iE (.sc (.int .u8 n) :: vs)=if 0<=n/\n<256 then(iE vs).map (UInt8.ofNat n.toNat :: ·)else none:=rfl
theorem amn {P:Program} {t:TypeId}(h:(bF P t).u8=true):∃e i,P.underlying t=some (.slice e)/\P.underlying e=some (.int .u8)/\P.info? e=some i/\i.size=1:=by
 unfold bF at h;cases hi:P.info? t with
 |none=>simp[hi]at h
 |some i=>
  cases J:P.underlying t with
  |none=>simp[hi,J]at h
  |some d=>
   simp only[hi,J]at h;cases d<;>simp at h;rename_i e;obtain⟨O,E⟩:=h;have S:P.underlying e=some (.int .u8):=by
    revert O
    cases P.underlying e with
    |none=>simp
    |some d=>cases d<;>simp;rename_i k;cases k<;>simp
   cases G:P.info? e with
   |none=>simp[G]at E
   |some j=>simp[G]at E;exact⟨e,j,rfl,S,G,E⟩
theorem ap2 {P:Program} {s d:TypeId}(hs:(bF P s).u8=true)(E:(bF P d).str=true)(b off len:Nat)(σ:Store):gK P s d (.rs b off len) σ=(rowOf σ 1 (.rs b off len)).bind fun p=>(iE p.1).map fun l=> .sc (.string ⟨l.toArray⟩):=by
 obtain⟨e,i,G,J,O,S⟩:=amn hs;unfold gK;simp only[toVal,G,J5 E,J,O,S,if_true];cases rowOf σ 1 (.rs b off len)with
 |none=>rfl
 |some p=>obtain⟨r,n⟩:=p;rfl
attribute [go_sem] aiU acL YV ap2
def mTd(n:Nat)(acc:ByteArray):ByteArray:=if h:n=0 then acc else mTd (n / 10) (⟨#[UInt8.ofNat (48+n%10)]⟩++acc)
termination_by n
decreasing_by omega
def mT(n:Nat):ByteArray:=⟨#[109]⟩++mTd n ⟨#[]⟩
theorem U7(a b:ByteArray):(a++b).size=a.size+b.size:=ByteArray.size_append
theorem afd(n:Nat)(acc:ByteArray):(mTd n acc).size<=acc.size+n:=by
 fun_induction mTd n acc with
 |case1=>omega
 |case2 n acc h E=>
  rw[U7]at E;have:(⟨#[UInt8.ofNat (48+n%10)]⟩:ByteArray).size=1:=rfl;omega
end Go.TV
namespace Go.Proofs.YtehdaknhabeiaaaGreat
open Go Go.TV
instance known0:Known:=⟨[]⟩
theorem kn0(W:World):Kn (TV.start W):=fun p hp=>absurd hp zK
def conv:FuncId->Conv:=fun f=>if f∈([]:List Nat)then .own else if f∈([]:List Nat)then .inl else .Ii
abbrev aC(n:Nat):Prop:=conv n= .Ii
theorem ap3:aC 3/\aC 4/\aC 5/\aC 7/\aC 10/\aC 11/\aC 12/\aC 13/\aC 14/\aC 15/\aC 16/\aC 17/\aC 18/\aC 19/\aC 20/\aC 21/\aC 22/\aC 23/\aC 24/\aC 25/\aC 26/\aC 29/\aC 30/\aC 31:=by and_intros<;>exact rfl
theorem ap4:aC 32/\aC 35/\aC 36/\aC 37/\aC 38/\aC 39/\aC 40/\aC 41/\aC 42/\aC 43/\aC 44/\aC 45/\aC 46/\aC 47/\aC 48/\aC 49/\aC 50/\aC 51/\aC 52/\aC 53/\aC 54/\aC 55/\aC 56/\aC 57:=by and_intros<;>exact rfl
theorem ap5:aC 58/\aC 59/\aC 60/\aC 61/\aC 62/\aC 63/\aC 64/\aC 65/\aC 66/\aC 67/\aC 68/\aC 69/\aC 70/\aC 71/\aC 72/\aC 73/\aC 74/\aC 75/\aC 76/\aC 77/\aC 78/\aC 79/\aC 80/\aC 81:=by and_intros<;>exact rfl
theorem ap6:aC 82/\aC 83/\aC 84/\aC 85/\aC 86/\aC 87/\aC 88/\aC 89/\aC 90/\aC 91/\aC 92/\aC 93/\aC 94/\aC 95/\aC 96/\aC 97/\aC 98/\aC 99/\aC 100/\aC 101/\aC 102/\aC 103/\aC 104/\aC 105:=by and_intros<;>exact rfl
theorem ap7:aC 106/\aC 107/\aC 108/\aC 109/\aC 110/\aC 111/\aC 112/\aC 113/\aC 114/\aC 115/\aC 116/\aC 117/\aC 118/\aC 119/\aC 120/\aC 121/\aC 122/\aC 123/\aC 124/\aC 125/\aC 126/\aC 127/\aC 128/\aC 129:=by and_intros<;>exact rfl
theorem ap8:aC 130/\aC 131/\aC 132/\aC 133/\aC 134/\aC 135/\aC 136/\aC 138/\aC 139/\aC 140/\aC 141/\aC 142/\aC 143/\aC 144/\aC 145/\aC 146/\aC 147/\aC 148/\aC 149/\aC 150/\aC 151/\aC 152/\aC 153/\aC 154:=by and_intros<;>exact rfl
theorem ap9:aC 155/\aC 156/\aC 157/\aC 158/\aC 159/\aC 160/\aC 161/\aC 162/\aC 163/\aC 164/\aC 165/\aC 166/\aC 167/\aC 168/\aC 169/\aC 170/\aC 171/\aC 172/\aC 173/\aC 174/\aC 175/\aC 176/\aC 177/\aC 178:=by and_intros<;>exact rfl
theorem ap_:aC 179/\aC 180/\aC 181/\aC 182/\aC 183/\aC 184/\aC 185/\aC 186/\aC 187/\aC 188/\aC 189/\aC 190/\aC 191/\aC 192/\aC 193/\aC 194/\aC 195/\aC 196/\aC 197/\aC 198/\aC 199/\aC 200/\aC 201/\aC 202:=by and_intros<;>exact rfl
theorem ap':aC 203/\aC 204/\aC 205/\aC 206/\aC 207/\aC 208/\aC 209/\aC 210/\aC 211/\aC 212/\aC 213/\aC 214/\aC 215/\aC 216/\aC 217/\aC 218/\aC 219/\aC 220/\aC 221/\aC 222/\aC 223/\aC 224/\aC 225/\aC 226:=by and_intros<;>exact rfl
theorem aqa:aC 227/\aC 228/\aC 229/\aC 230/\aC 231/\aC 232/\aC 233/\aC 234/\aC 235/\aC 236/\aC 237/\aC 238/\aC 239/\aC 240/\aC 241/\aC 242/\aC 243/\aC 244/\aC 245/\aC 246/\aC 247/\aC 248/\aC 249/\aC 250:=by and_intros<;>exact rfl
theorem aqb:aC 251:=id rfl
attribute [go_sem] ap3 ap4 ap5 ap6 ap7 ap8 ap9 ap_ ap' aqa aqb
theorem ty2:bF Tryz.prog 2=⟨true,false,1,[.sc (.int .i64 0)],false,false,false,0,0,[],false,[],[],false,false⟩:=by kernel_rfl
theorem ty3:bF Tryz.prog 3=⟨true,false,1,[.sc (.int .i64 0)],false,false,false,0,0,[],false,[],[],false,false⟩:=by kernel_rfl
theorem ty4:bF Tryz.prog 4=⟨true,false,1,[.sc (.bool false)],false,false,false,0,0,[],false,[],[],false,false⟩:=by kernel_rfl
theorem ty5:bF Tryz.prog 5=⟨true,false,1,[.sc (.int .u8 0)],false,false,false,0,0,[],false,[],[],false,false⟩:=by kernel_rfl
theorem ty7:bF Tryz.prog 7=⟨true,true,4,[.sc (.int .i64 0),.sc (.int .i64 0),.sc (.bool false),.sc (.int .u8 0)],false,false,false,0,0,[],false,[(0,1,some false),(1,1,some false),(2,1,some false),(3,1,some false)],[(0,1),(1,1),(2,1),(3,1)],true,false⟩:=by kernel_rfl
theorem ty9:bF Tryz.prog 9=⟨true,false,1,[.sc (.string ByteArray.empty)],false,true,false,0,0,[],false,[],[],false,false⟩:=by kernel_rfl
theorem awg:bF Tryz.prog 12=⟨true,false,1,[.sc (.int .u64 0)],false,false,false,0,0,[],false,[],[],false,false⟩:=by kernel_rfl
theorem awh:bF Tryz.prog 13=⟨true,true,2,[.sc (.string ByteArray.empty),.sc (.int .u64 0)],false,false,false,0,0,[],false,[(0,1,some false),(1,1,some false)],[(0,1),(1,1)],true,false⟩:=by kernel_rfl
theorem awi:bF Tryz.prog 21=⟨true,false,1,[.sc (.int .i32 0)],false,false,false,0,0,[],false,[],[],false,false⟩:=by kernel_rfl
theorem awj:bF Tryz.prog 22=⟨true,false,1,[.nil],true,false,false,4,40,[.sc (.string ByteArray.empty),.sc (.int .i64 0),.sc (.int .i64 0),.sc (.bool false)],true,[],[],false,false⟩:=by kernel_rfl
theorem awk:bF Tryz.prog 23=⟨true,false,1,[.nil],true,false,false,3,24,[.sc (.int .i64 0),.sc (.int .i64 0),.sc (.int .i64 0)],true,[],[],false,false⟩:=by kernel_rfl
theorem awl:bF Tryz.prog 24=⟨true,true,2,[.nil,.nil],false,false,false,0,0,[],false,[(0,1,some false),(1,1,some false)],[(0,1),(1,1)],true,false⟩:=by kernel_rfl
theorem awm:bF Tryz.prog 25=⟨true,true,2,[.nil,.nil],false,false,false,0,0,[],false,[(0,1,some false),(1,1,some false)],[(0,1),(1,1)],true,false⟩:=by kernel_rfl
theorem awn:bF Tryz.prog 26=⟨true,false,1,[.nil],true,false,false,1,8,[.sc (.int .i64 0)],true,[],[],false,false⟩:=by kernel_rfl
theorem awo:bF Tryz.prog 27=⟨true,true,5,[.sc (.string ByteArray.empty),.nil,.nil,.nil,.nil],false,false,false,0,0,[],false,[(0,1,some false),(1,2,some true),(3,1,some false),(4,1,some false)],[(0,1),(1,2),(3,1),(4,1)],true,false⟩:=by kernel_rfl
theorem awp:bF Tryz.prog 28=⟨true,true,5,[.sc (.string ByteArray.empty),.nil,.nil,.nil,.nil],false,false,false,0,0,[],false,[(0,1,some false),(1,2,some true),(3,1,some false),(4,1,some false)],[(0,1),(1,2),(3,1),(4,1)],true,false⟩:=by kernel_rfl
theorem awq:bF Tryz.prog 31=⟨true,false,1,[.nil],true,false,false,4,40,[.sc (.string ByteArray.empty),.sc (.int .i64 0),.sc (.int .i64 0),.sc (.bool false)],true,[],[],false,false⟩:=by kernel_rfl
theorem awr:bF Tryz.prog 32=⟨true,false,1,[.nil],true,false,false,3,24,[.sc (.int .i64 0),.sc (.int .i64 0),.sc (.int .i64 0)],true,[],[],false,false⟩:=by kernel_rfl
theorem awt:bF Tryz.prog 33=⟨true,true,2,[.nil,.nil],false,false,false,0,0,[],false,[(0,1,some false),(1,1,some false)],[(0,1),(1,1)],true,false⟩:=by kernel_rfl
theorem awu:bF Tryz.prog 34=⟨true,true,2,[.nil,.nil],false,false,false,0,0,[],false,[(0,1,some false),(1,1,some false)],[(0,1),(1,1)],true,false⟩:=by kernel_rfl
theorem awv:bF Tryz.prog 35=⟨true,true,5,[.sc (.string ByteArray.empty),.nil,.nil,.nil,.nil],false,false,false,0,0,[],false,[(0,1,some false),(1,2,some true),(3,1,some false),(4,1,some false)],[(0,1),(1,2),(3,1),(4,1)],true,false⟩:=by kernel_rfl
theorem aww:bF Tryz.prog 36=⟨true,true,5,[.sc (.string ByteArray.empty),.nil,.nil,.nil,.nil],false,false,false,0,0,[],false,[(0,1,some false),(1,2,some true),(3,1,some false),(4,1,some false)],[(0,1),(1,2),(3,1),(4,1)],true,false⟩:=by kernel_rfl
theorem awx:bF Tryz.prog 40=⟨true,false,1,[.nil],true,false,false,5,112,[.sc (.string ByteArray.empty),.nil,.nil,.nil,.nil],true,[],[],false,false⟩:=by kernel_rfl
theorem awy:bF Tryz.prog 41=⟨true,false,1,[.nil],true,false,false,2,16,[.sc (.int .i64 0),.sc (.int .i64 0)],true,[],[],false,false⟩:=by kernel_rfl
theorem awz:bF Tryz.prog 42=⟨true,true,3,[.nil,.nil,.sc (.bool false)],false,false,false,0,0,[],false,[(0,1,some false),(1,1,some false),(2,1,some false)],[(0,1),(1,1),(2,1)],true,false⟩:=by kernel_rfl
theorem awC:bF Tryz.prog 43=⟨true,true,3,[.nil,.nil,.sc (.bool false)],false,false,false,0,0,[],false,[(0,1,some false),(1,1,some false),(2,1,some false)],[(0,1),(1,1),(2,1)],true,false⟩:=by kernel_rfl
theorem awD:bF Tryz.prog 46=⟨true,false,1,[.nil],true,false,false,5,112,[.sc (.string ByteArray.empty),.nil,.nil,.nil,.nil],true,[],[],false,false⟩:=by kernel_rfl
theorem awE:bF Tryz.prog 47=⟨true,false,1,[.nil],true,false,false,2,16,[.sc (.int .i64 0),.sc (.int .i64 0)],true,[],[],false,false⟩:=by kernel_rfl
theorem awF:bF Tryz.prog 48=⟨true,true,3,[.nil,.nil,.sc (.bool false)],false,false,false,0,0,[],false,[(0,1,some false),(1,1,some false),(2,1,some false)],[(0,1),(1,1),(2,1)],true,false⟩:=by kernel_rfl
theorem awG:bF Tryz.prog 49=⟨true,true,3,[.nil,.nil,.sc (.bool false)],false,false,false,0,0,[],false,[(0,1,some false),(1,1,some false),(2,1,some false)],[(0,1),(1,1),(2,1)],true,false⟩:=by kernel_rfl
theorem awH:bF Tryz.prog 74=⟨true,false,1,[.nil],true,false,false,1,1,[.sc (.bool false)],true,[],[],false,false⟩:=by kernel_rfl
theorem awI:bF Tryz.prog 82=⟨true,true,2,[.sc (.int .i64 0),.sc (.int .i64 0)],false,false,false,0,0,[],false,[(0,1,some false),(1,1,some false)],[(0,1),(1,1)],true,false⟩:=by kernel_rfl
theorem awJ:bF Tryz.prog 83=⟨true,true,2,[.sc (.int .i64 0),.sc (.int .i64 0)],false,false,false,0,0,[],false,[(0,1,some false),(1,1,some false)],[(0,1),(1,1)],true,false⟩:=by kernel_rfl
theorem awK:bF Tryz.prog 98=⟨true,false,1,[.nil],true,false,false,3,56,[.sc (.bool false),.nil,.nil],true,[],[],false,false⟩:=by kernel_rfl
theorem aqc:bF Tryz.prog 104=⟨true,false,1,[.sc (.pointer none)],false,false,true,0,0,[],false,[],[],false,false⟩:=by kernel_rfl
theorem aqd:bF Tryz.prog 110=⟨true,true,2,[.sc (.int .i64 0),.sc (.int .i64 0)],false,false,false,0,0,[],false,[(0,1,some false),(1,1,some false)],[(0,1),(1,1)],true,false⟩:=by kernel_rfl
theorem aqe:bF Tryz.prog 112=⟨true,false,1,[.sc (.pointer none)],false,false,true,0,0,[],false,[],[],false,false⟩:=by kernel_rfl
theorem aqf:bF Tryz.prog 119=⟨true,true,4,[.sc (.string ByteArray.empty),.sc (.int .i64 0),.sc (.int .i64 0),.sc (.bool false)],false,false,false,0,0,[],false,[(0,1,some false),(1,1,some false),(2,1,some false),(3,1,some false)],[(0,1),(1,1),(2,1),(3,1)],true,false⟩:=by kernel_rfl
theorem aqg:bF Tryz.prog 120=⟨true,true,4,[.sc (.string ByteArray.empty),.sc (.int .i64 0),.sc (.int .i64 0),.sc (.bool false)],false,false,false,0,0,[],false,[(0,1,some false),(1,1,some false),(2,1,some false),(3,1,some false)],[(0,1),(1,1),(2,1),(3,1)],true,false⟩:=by kernel_rfl
theorem aqh:bF Tryz.prog 122=⟨true,true,3,[.sc (.int .i64 0),.sc (.int .i64 0),.sc (.int .i64 0)],false,false,false,0,0,[],false,[(0,1,some false),(1,1,some false),(2,1,some false)],[(0,1),(1,1),(2,1)],true,false⟩:=by kernel_rfl
theorem aqi:bF Tryz.prog 123=⟨true,true,3,[.sc (.int .i64 0),.sc (.int .i64 0),.sc (.int .i64 0)],false,false,false,0,0,[],false,[(0,1,some false),(1,1,some false),(2,1,some false)],[(0,1),(1,1),(2,1)],true,false⟩:=by kernel_rfl
theorem aqj:bF Tryz.prog 127=⟨true,true,4,[.sc (.string ByteArray.empty),.sc (.int .i64 0),.sc (.int .i64 0),.sc (.bool false)],false,false,false,0,0,[],false,[(0,1,some false),(1,1,some false),(2,1,some false),(3,1,some false)],[(0,1),(1,1),(2,1),(3,1)],true,false⟩:=by kernel_rfl
theorem aqk:bF Tryz.prog 130=⟨true,true,3,[.sc (.int .i64 0),.sc (.int .i64 0),.sc (.int .i64 0)],false,false,false,0,0,[],false,[(0,1,some false),(1,1,some false),(2,1,some false)],[(0,1),(1,1),(2,1)],true,false⟩:=by kernel_rfl
theorem aql:bF Tryz.prog 138=⟨true,false,1,[.nil],true,false,false,1,1,[.sc (.int .u8 0)],true,[],[],false,true⟩:=by kernel_rfl
theorem aqm:bF Tryz.prog 139=⟨true,false,1,[.sc (.int .u64 0)],false,false,false,0,0,[],false,[],[],false,false⟩:=by kernel_rfl
theorem aqn:bF Tryz.prog 144=⟨true,true,2,[.sc (.bool false),.nil],false,false,false,0,0,[],false,[(0,1,some false),(1,1,some false)],[(0,1),(1,1)],true,false⟩:=by kernel_rfl
theorem aqo:bF Tryz.prog 145=⟨true,true,2,[.sc (.bool false),.nil],false,false,false,0,0,[],false,[(0,1,some false),(1,1,some false)],[(0,1),(1,1)],true,false⟩:=by kernel_rfl
theorem aqp:bF Tryz.prog 146=⟨true,true,3,[.sc (.bool false),.nil,.nil],false,false,false,0,0,[],false,[(0,2,some true),(2,1,some false)],[(0,2),(2,1)],true,false⟩:=by kernel_rfl
theorem aqr:bF Tryz.prog 147=⟨true,true,3,[.sc (.bool false),.nil,.nil],false,false,false,0,0,[],false,[(0,2,some true),(2,1,some false)],[(0,2),(2,1)],true,false⟩:=by kernel_rfl
theorem aqs:bF Tryz.prog 148=⟨true,true,5,[.sc (.int .i64 0),.nil,.sc (.bool false),.nil,.nil],false,false,false,0,0,[],false,[(0,1,some false),(1,1,some false),(2,3,some true)],[(0,1),(1,1),(2,3)],true,false⟩:=by kernel_rfl
theorem aqt:bF Tryz.prog 149=⟨true,true,5,[.sc (.int .i64 0),.nil,.sc (.bool false),.nil,.nil],false,false,false,0,0,[],false,[(0,1,some false),(1,1,some false),(2,3,some true)],[(0,1),(1,1),(2,3)],true,false⟩:=by kernel_rfl
theorem aqu:bF Tryz.prog 151=⟨true,true,5,[.sc (.int .i64 0),.sc (.int .i64 0),.nil,.nil,.nil],false,false,false,0,0,[],false,[(0,1,some false),(1,1,some false),(2,1,some false),(3,1,some false),(4,1,some false)],[(0,1),(1,1),(2,1),(3,1),(4,1)],true,false⟩:=by kernel_rfl
theorem aqv:bF Tryz.prog 152=⟨true,true,5,[.sc (.int .i64 0),.sc (.int .i64 0),.nil,.nil,.nil],false,false,false,0,0,[],false,[(0,1,some false),(1,1,some false),(2,1,some false),(3,1,some false),(4,1,some false)],[(0,1),(1,1),(2,1),(3,1),(4,1)],true,false⟩:=by kernel_rfl
theorem aqw:bF Tryz.prog 159=⟨true,false,1,[.nil],true,false,false,1,8,[.sc (.pointer none)],true,[],[],false,false⟩:=by kernel_rfl
theorem aqx:bF Tryz.prog 165=⟨true,false,1,[.sc (.int .u32 0)],false,false,false,0,0,[],false,[],[],false,false⟩:=by kernel_rfl
theorem aqy:bF Tryz.prog 168=⟨true,false,1,[.sc (.int .u64 0)],false,false,false,0,0,[],false,[],[],false,false⟩:=by kernel_rfl
theorem aqz:bF Tryz.prog 171=⟨true,false,1,[.sc (.pointer none)],false,false,true,0,0,[],false,[],[],false,false⟩:=by kernel_rfl
theorem aqA:bF Tryz.prog 175=⟨true,false,1,[.nil],true,false,false,1,24,[.nil],true,[],[],false,false⟩:=by kernel_rfl
theorem aqB:bF Tryz.prog 176=⟨true,true,4,[.sc (.int .i64 0),.nil,.nil,.nil],false,false,false,0,0,[],false,[(0,1,some false),(1,1,some false),(2,1,some false),(3,1,some false)],[(0,1),(1,1),(2,1),(3,1)],true,false⟩:=by kernel_rfl
theorem aqC:bF Tryz.prog 177=⟨true,true,4,[.sc (.int .i64 0),.nil,.nil,.nil],false,false,false,0,0,[],false,[(0,1,some false),(1,1,some false),(2,1,some false),(3,1,some false)],[(0,1),(1,1),(2,1),(3,1)],true,false⟩:=by kernel_rfl
theorem aqD:bF Tryz.prog 194=⟨true,false,1,[.sc (.pointer none)],false,false,true,0,0,[],false,[],[],false,false⟩:=by kernel_rfl
theorem aqE:bF Tryz.prog 197=⟨true,false,1,[.sc (.pointer none)],false,false,true,0,0,[],false,[],[],false,false⟩:=by kernel_rfl
theorem aqF:bF Tryz.prog 198=⟨true,false,1,[.nil],true,false,false,2,16,[.sc (.int .i64 0),.sc (.int .i64 0)],true,[],[],false,false⟩:=by kernel_rfl
theorem aqG:bF Tryz.prog 201=⟨true,false,1,[.nil],true,false,false,1,24,[.nil],true,[],[],false,false⟩:=by kernel_rfl
theorem aqH:bF Tryz.prog 203=⟨true,true,2,[.sc (.int .i64 0),.sc (.int .i64 0)],false,false,false,0,0,[],false,[(0,1,some false),(1,1,some false)],[(0,1),(1,1)],true,false⟩:=by kernel_rfl
theorem aqI:bF Tryz.prog 204=⟨true,true,2,[.sc (.int .i64 0),.sc (.int .i64 0)],false,false,false,0,0,[],false,[(0,1,some false),(1,1,some false)],[(0,1),(1,1)],true,false⟩:=by kernel_rfl
theorem aqJ:bF Tryz.prog 225=⟨true,false,1,[.sc (.pointer none)],false,false,true,0,0,[],false,[],[],false,false⟩:=by kernel_rfl
theorem aqK:bF Tryz.prog 228=⟨true,false,1,[.nil],true,false,false,1,24,[.nil],true,[],[],false,false⟩:=by kernel_rfl
theorem aqL:bF Tryz.prog 229=⟨true,true,6,[.nil,.sc (.bool false),.nil,.nil,.sc (.int .i64 0),.nil],false,false,false,0,0,[],false,[(0,1,some false),(1,2,some true),(3,1,some false),(4,1,some false),(5,1,some false)],[(0,1),(1,2),(3,1),(4,1),(5,1)],true,false⟩:=by kernel_rfl
theorem aqM:bF Tryz.prog 230=⟨true,true,6,[.nil,.sc (.bool false),.nil,.nil,.sc (.int .i64 0),.nil],false,false,false,0,0,[],false,[(0,1,some false),(1,2,some true),(3,1,some false),(4,1,some false),(5,1,some false)],[(0,1),(1,2),(3,1),(4,1),(5,1)],true,false⟩:=by kernel_rfl
theorem aqN:bF Tryz.prog 233=⟨true,false,1,[.nil],true,false,false,2,32,[.sc (.bool false),.nil],true,[],[],false,false⟩:=by kernel_rfl
theorem aqO:bF Tryz.prog 237=⟨true,true,3,[.sc (.bool false),.nil,.nil],false,false,false,0,0,[],false,[(0,2,some true),(2,1,some false)],[(0,2),(2,1)],true,false⟩:=by kernel_rfl
theorem aqP:bF Tryz.prog 238=⟨true,true,3,[.sc (.bool false),.nil,.nil],false,false,false,0,0,[],false,[(0,2,some true),(2,1,some false)],[(0,2),(2,1)],true,false⟩:=by kernel_rfl
theorem aqQ:bF Tryz.prog 265=⟨true,true,4,[.sc (.pointer none),.sc (.pointer none),.sc (.pointer none),.sc (.string ByteArray.empty)],false,false,false,0,0,[],false,[(0,1,some false),(1,1,some false),(2,1,some false),(3,1,some false)],[(0,1),(1,1),(2,1),(3,1)],true,false⟩:=by kernel_rfl
theorem aqR:bF Tryz.prog 267=⟨true,true,0,[],false,false,false,0,0,[],false,[],[],false,false⟩:=by kernel_rfl
theorem aqS:bF Tryz.prog 268=⟨true,true,0,[],false,false,false,0,0,[],false,[(0,0,some true)],[(0,0)],true,false⟩:=by kernel_rfl
theorem aqT:bF Tryz.prog 273=⟨true,false,1,[.sc (.pointer none)],false,false,true,0,0,[],false,[],[],false,false⟩:=by kernel_rfl
attribute [go_sem] ty2 ty3 ty4 ty5 ty7 ty9 awg awh awi awj awk awl awm awn awo awp awq awr awt awu awv aww awx awy awz awC awD awE awF awG awH awI awJ awK aqc aqd aqe aqf aqg aqh aqi aqj aqk aql aqm aqn aqo aqp aqr aqs aqt aqu aqv aqw aqx aqy aqz aqA aqB aqC aqD aqE aqF aqG aqH aqI aqJ aqK aqL aqM aqN aqO aqP aqQ aqR aqS aqT
def u_:List V->Store->Nat->Option (V×Store×Nat)
 |[.ts row len],σ,nx=>if row.length=len/\len<=17592186044000/\row.all aT=true then(if len=0 then some (.nil,σ,nx)else some (.rs nx 0 len,dA σ nx row 1,nx+1))else none
 |_,_,_=>none
theorem CX(args:List V)(σ:Store)(nx:Nat)(v:V)(σ':Store)(nx':Nat)(h:u_ args σ nx=some (v,σ',nx')):o8 Tryz.prog 81 args σ nx v σ' nx':=by
 unfold u_ at h
 split at h
 .rename_i row len
  split at h
  .rename_i hc
   obtain⟨G,hs,J⟩:=hc;refine Fq (call:=fun _ _ _ _=>none) (conv:=fun _=> .Ii) (fun _ _ _ _ _ _ _ h=>by cases h) (by kernel_rfl) Tryz.func81 rfl Tryz.underlying26 (n:=0) (by kernel_rfl) (st1:=⟨upd (jM [.ts row len]) 2 .nil,σ,nx⟩) (T2:=upd (upd (jM [.ts row len]) 2 .nil) 3 (.ts row len)) (v1:=.ts row len) (row:=row) (len:=len) (vs:=[v]) ?_ rfl ?_ rfl ?_ ?_
   .rfl
   .rfl
   .rfl
   .intro b hb
    cases b with
    |true=>
     have O:=hb rfl;subst O;have E:len=0:=by simpa using G.symm
     subst E;simp only[if_true,wC,wB]at h;obtain⟨rfl,rfl,rfl⟩:=h;exact⟨.ret,_,rfl,.inr rfl,rfl,rfl,rfl⟩
    |false=>
     by_cases E:len=0
     .subst E
      have O:row=[]:=zZ G;subst O;simp only[if_true,wC,wB]at h;obtain⟨rfl,rfl,rfl⟩:=h;refine⟨.ret,?_,?_,.inr rfl,?_,?_,?_⟩
      .exact⟨upd (upd (upd (upd (upd (upd (upd (upd (jM [.ts [] 0]) 2 .nil) 3 (.ts [] 0)) 4 (.sc (.bool false))) 5 .nil) 6 (.ts [] 0)) 7 .nil) 2 .nil) 2 .nil,σ,nx⟩
      .simp only[aX,go_sem]
      .rfl
      .rfl
      .rfl
     .rw[if_neg E]at h
      simp only[wC,wB]at h;obtain⟨rfl,rfl,rfl⟩:=h;have S:len<=maxLen/\len*8<=140737488355328:=by unfold maxLen;omega
      refine⟨.ret,?_,?_,.inr rfl,?_,?_,?_⟩
      .exact⟨upd (upd (upd (upd (upd (upd (upd (jM [.ts row len]) 2 .nil) 3 (.ts row len)) 4 (.sc (.bool false))) 5 .nil) 6 (.ts row len)) 7 (.rs nx 0 len)) 2 (.rs nx 0 len),dA σ nx row 1,nx+1⟩
      .simp only[aX,go_sem,G,E,S]
      .rfl
      .rfl
      .rfl
  .cases h
 .cases h
def ext:Ext:=fun f=>if f=81 then some u_ else none
theorem afe:Jm Tryz.prog ext:=fun f g h args σ nx v σ' nx' E=>by
 unfold ext at h
 split at h
 .rename_i G
  subst G;cases h;exact CX args σ nx v σ' nx' E
 .cases h
theorem YW(xs:List Int)(h:xs.length<=17592186044000):fn Tryz.prog conv ext 81 [LI xs]=some (LI xs):=by
 have G:u_ [LI xs] aK 0=if xs.length=0 then some (.nil,aK,0)else some (.rs 0 0 xs.length,dA aK 0 (xs.flatMap cI) 1,0+1):=by
  show(if(xs.flatMap cI).length=xs.length/\xs.length<=17592186044000/\(xs.flatMap cI).all aT=true then _ else none)=_;rw[if_pos ⟨aS xs,h,qj xs⟩]
 rw[aH,iG (g:=u_) rfl,G]
 by_cases E:xs.length=0
 .rw[if_pos E]
  have:xs=[]:=zZ E;subst this
  (simp only[go_sem])<;>rfl
 .rw[if_neg E]
  simp only[go_sem]
theorem u4:Tryz.prog.underlying 4=some .bool:=Tryz.underlying4
attribute [go_sem] u4
theorem aiV(j:Joint):fn Tryz.prog conv ext 99 [.agg (cJoint j)]=some (.agg (cJoint j)):=by
 rw[aH,ak [.cell 2 127] [] Tryz.func99];simp only[go_sem]
theorem aff(j:Member):fn Tryz.prog conv ext 100 [.agg (cMember j)]=some (.agg (cMember j)):=by
 rw[aH,ak [.cell 2 123] [] Tryz.func100];simp only[go_sem]
theorem amo(j:TV.Move):fn Tryz.prog conv ext 86 [.agg (cMove j)]=some (.agg (cMove j)):=by
 rw[aH,ak [.cell 2 83] [] Tryz.func86];simp only[go_sem]
abbrev afg:List V:=[I 0,I 0]
abbrev YX:List V:=[Sg ByteArray.empty,I 0,I 0,Bo false]
abbrev QS:List V:=[I 0,I 0,I 0]
abbrev uw:List V:=[Sg ByteArray.empty,.nil,.nil,.nil,.nil]
theorem aiW(x:Joint):fn Tryz.prog conv ext 112 [.agg (cJoint x),.agg (cJoint x)]=some (Bo true):=by
 rw[aH,ak [.tmp 4] [] Tryz.func112];simp only[go_sem]
theorem afh(x:Member):fn Tryz.prog conv ext 113 [.agg (cMember x),.agg (cMember x)]=some (Bo true):=by
 rw[aH,ak [.tmp 4] [] Tryz.func113];simp only[go_sem]
theorem amq(x:TV.Move):fn Tryz.prog conv ext 89 [.agg (cMove x),.agg (cMove x)]=some (Bo true):=by
 rw[aH,ak [.tmp 4] [] Tryz.func89];simp only[go_sem]
def LC:=slot (c:=cMove) (s:=2) (fun _=>rfl)
def LD:=slot_ne (c:=cMove) (s:=2) (fun _=>rfl) (by omega)
def BF:=aN (c:=cMove) (s:=2) (fun _=>rfl)
theorem aiX(xs:List TV.Move)(h:xs.length<=maxLen):fn Tryz.prog conv ext 57 [LL cMove xs,LL cMove xs]=some (Bo true):=by
 have e2:(xs.length:Int)<=9223372036854775807:=by unfold maxLen at h;omega
 rw[aH,ak [.tmp 4] [] Tryz.func57];simp only[go_sem];generalize Y:aF _ _=y;obtain⟨r,rfl,T',rfl⟩:=aB Y xs.length (fun k st=>st.nx=0/\st.σ=aK/\st.T 0=LL cMove xs/\st.T 1=LL cMove xs/\st.T 5=I k)
  (fun r=>∃T,r=(.exit 0,⟨T,aK,0⟩)) (by
   clear Y;rintro k ⟨T,σ,nx⟩ J ⟨hn,E,G,O,S⟩;simp only at hn E G O S;subst hn E;have f1:(k:Int)<(xs.length:Int):=by omega
   have f2:=aI k;have f3:=ah (n:=(k:Int)+1);have f4:=LC xs k J;have f5:=BF xs;have f6:k*2+2<=xs.length*2:=by omega
   have f9:=LD xs k J;refine .inl ⟨_,by simp only[go_sem,G,O,S,f1,f2,f3,f4,f5,f6,f9,amq];rfl,?_⟩;simp only[go_sem,G,O];rfl) (by
   clear Y;rintro ⟨T,σ,nx⟩ ⟨hn,E,G,O,S⟩;simp only at hn E G O S;subst hn E;exact⟨_,by simp only[go_sem,G,S,zl];rfl,by simp,_,rfl⟩) (by
   (simp only[go_sem])<;>trivial)
 simp only[go_sem]
def FC:=slot (c:=cJoint) (s:=4) (fun _=>rfl)
def IC:=slot_ne (c:=cJoint) (s:=4) (fun _=>rfl) (by omega)
def sJ:=aN (c:=cJoint) (s:=4) (fun _=>rfl)
theorem afi(xs:List Joint)(h:xs.length<=maxLen):fn Tryz.prog conv ext 83 [LL cJoint xs,LL cJoint xs]=some (Bo true):=by
 have e2:(xs.length:Int)<=9223372036854775807:=by unfold maxLen at h;omega
 rw[aH,ak [.tmp 4] [] Tryz.func83];simp only[go_sem];generalize Y:aF _ _=y;obtain⟨r,rfl,T',rfl⟩:=aB Y xs.length (fun k st=>st.nx=0/\st.σ=aK/\st.T 0=LL cJoint xs/\st.T 1=LL cJoint xs/\st.T 5=I k)
  (fun r=>∃T,r=(.exit 0,⟨T,aK,0⟩)) (by
   clear Y;rintro k ⟨T,σ,nx⟩ J ⟨hn,E,G,O,S⟩;simp only at hn E G O S;subst hn E;have f1:(k:Int)<(xs.length:Int):=by omega
   have f2:=aI k;have f3:=ah (n:=(k:Int)+1);have f4:=FC xs k J;have f5:=sJ xs;have f6:k*4+4<=xs.length*4:=by omega
   have f9:=IC xs k J;refine .inl ⟨_,by simp only[go_sem,G,O,S,f1,f2,f3,f4,f5,f6,f9,aiW];rfl,?_⟩;simp only[go_sem,G,O];rfl) (by
   clear Y;rintro ⟨T,σ,nx⟩ ⟨hn,E,G,O,S⟩;simp only at hn E G O S;subst hn E;exact⟨_,by simp only[go_sem,G,S,zl];rfl,by simp,_,rfl⟩) (by
   (simp only[go_sem])<;>trivial)
 simp only[go_sem]
def JO:=slot (c:=cMember) (s:=3) (fun _=>rfl)
def JQ:=slot_ne (c:=cMember) (s:=3) (fun _=>rfl) (by omega)
def BG:=aN (c:=cMember) (s:=3) (fun _=>rfl)
theorem acM(xs:List Member)(h:xs.length<=maxLen):fn Tryz.prog conv ext 84 [LL cMember xs,LL cMember xs]=some (Bo true):=by
 have e2:(xs.length:Int)<=9223372036854775807:=by unfold maxLen at h;omega
 rw[aH,ak [.tmp 4] [] Tryz.func84];simp only[go_sem];generalize Y:aF _ _=y;obtain⟨r,rfl,T',rfl⟩:=aB Y xs.length (fun k st=>st.nx=0/\st.σ=aK/\st.T 0=LL cMember xs/\st.T 1=LL cMember xs/\st.T 5=I k)
  (fun r=>∃T,r=(.exit 0,⟨T,aK,0⟩)) (by
   clear Y;rintro k ⟨T,σ,nx⟩ J ⟨hn,E,G,O,S⟩;simp only at hn E G O S;subst hn E;have f1:(k:Int)<(xs.length:Int):=by omega
   have f2:=aI k;have f3:=ah (n:=(k:Int)+1);have f4:=JO xs k J;have f5:=BG xs;have f6:k*3+3<=xs.length*3:=by omega
   have f9:=JQ xs k J;refine .inl ⟨_,by simp only[go_sem,G,O,S,f1,f2,f3,f4,f5,f6,f9,afh];rfl,?_⟩;simp only[go_sem,G,O];rfl) (by
   clear Y;rintro ⟨T,σ,nx⟩ ⟨hn,E,G,O,S⟩;simp only at hn E G O S;subst hn E;exact⟨_,by simp only[go_sem,G,S,zl];rfl,by simp,_,rfl⟩) (by
   (simp only[go_sem])<;>trivial)
 simp only[go_sem]
def fB:=slot_ne (c:=cI) (s:=1) (fun _=>rfl) (by omega)
theorem QT(xs:List Int)(h:xs.length<=maxLen):fn Tryz.prog conv ext 21 [LI xs,LI xs]=some (Bo true):=by
 have e2:(xs.length:Int)<=9223372036854775807:=by unfold maxLen at h;omega
 rw[aH,ak [.tmp 4] [] Tryz.func21];simp only[go_sem];generalize Y:aF _ _=y;obtain⟨r,rfl,T',rfl⟩:=aB Y xs.length (fun k st=>st.nx=0/\st.σ=aK/\st.T 0=LI xs/\st.T 1=LI xs/\st.T 5=I k)
  (fun r=>∃T,r=(.exit 0,⟨T,aK,0⟩)) (by
   clear Y;rintro k ⟨T,σ,nx⟩ J ⟨hn,E,G,O,S⟩;simp only at hn E G O S;subst hn E;have f1:(k:Int)<(xs.length:Int):=by omega
   have f2:=aI k;have f3:=ah (n:=(k:Int)+1);have f4:(xs.flatMap cI)[k]?=some (I xs[k]):=mX I xs k J;have f9:=fB xs k J;refine .inl ⟨_,by simp only[go_sem,G,O,S,f1,f2,f3,f4,f9];rfl,?_⟩;simp only[go_sem,G,O];rfl) (by
   clear Y;rintro ⟨T,σ,nx⟩ ⟨hn,E,G,O,S⟩;simp only at hn E G O S;subst hn E;exact⟨_,by simp only[go_sem,G,S,zl];rfl,by simp,_,rfl⟩) (by
   (simp only[go_sem])<;>trivial)
 simp only[go_sem]
theorem U8(x:Structure)(h:okStructure x):fn Tryz.prog conv ext 44 [.agg (cStructure x),.agg (cStructure x)]=some (Bo true):=by
 have E:=afi _ h.1.2.2;have G:=acM _ h.2.2.2;rw[aH,ak [.tmp 4] [] Tryz.func44];simp only[go_sem,E,G]
theorem U9(x:Stance)(h:okStance x):fn Tryz.prog conv ext 14 [.agg (cStance x),.agg (cStance x)]=some (Bo true):=by
 have E:=U8 _ h.2.1;have G:=QT _ h.2.2.1.2.2;have J:=QT _ h.2.2.2.2.2;rw[aH,ak [.tmp 4] [] Tryz.func14];simp only[go_sem,E,G,J]
def Oa:=slot (c:=cStance) (s:=5) (fun _=>rfl)
def Ob:=slot_ne (c:=cStance) (s:=5) (fun _=>rfl) (by omega)
def EO:=aN (c:=cStance) (s:=5) (fun _=>rfl)
theorem acN(xs:List Stance)(h':okL 112 okStance xs):fn Tryz.prog conv ext 56 [LL cStance xs,LL cStance xs]=some (Bo true):=by
 have e2:(xs.length:Int)<=9223372036854775807:=by have h:=h'.2.2;unfold maxLen at h;omega
 rw[aH,ak [.tmp 4] [] Tryz.func56];simp only[go_sem];generalize Y:aF _ _=y;obtain⟨r,rfl,T',rfl⟩:=aB Y xs.length (fun k st=>st.nx=0/\st.σ=aK/\st.T 0=LL cStance xs/\st.T 1=LL cStance xs/\st.T 5=I k)
  (fun r=>∃T,r=(.exit 0,⟨T,aK,0⟩)) (by
   clear Y;rintro k ⟨T,σ,nx⟩ G ⟨hn,E,J,O,S⟩;simp only at hn E J O S;subst hn E;have f1:(k:Int)<(xs.length:Int):=by omega
   have f2:=aI k;have f3:=ah (n:=(k:Int)+1);have f4:=Oa xs k G;have f5:=EO xs;have f6:k*5+5<=xs.length*5:=by omega
   have f9:=Ob xs k G;have a0:=U9 xs[k] (h'.1 _ (zu G));refine .inl ⟨_,by simp only[go_sem,J,O,S,f1,f2,f3,f4,f5,f6,f9,a0];rfl,?_⟩;simp only[go_sem,J,O];rfl) (by
   clear Y;rintro ⟨T,σ,nx⟩ ⟨hn,E,J,O,S⟩;simp only at hn E J O S;subst hn E;exact⟨_,by simp only[go_sem,J,S,zl];rfl,by simp,_,rfl⟩) (by
   (simp only[go_sem])<;>trivial)
 simp only[go_sem]
theorem YZ(x:Yard)(h:okYard x):fn Tryz.prog conv ext 20 [.agg (cYard x),.agg (cYard x)]=some (Bo true):=by
 have E:=acN _ h.1;have G:=aiX _ h.2.1.2.2;rw[aH,ak [.tmp 4] [] Tryz.func20];simp only[go_sem,E,G]
def Szd(r left n:Int):Prop:=r= -1\/(0<=r/\r+n<=left)
theorem afk(xs:List Int)(left:Int)(h:okL 8 okI xs)(J:0<=left)(O:left<=1048576):∃r,fn Tryz.prog conv ext 36 [LI xs,I left]=some (I r)/\Szd r left xs.length:=by
 have S:((xs.length:Nat):Int)<=140737488351232:=by have:=h.2.1;omega
 have E:=ah (n:=left - (xs.length:Int))
 by_cases G:left - (xs.length:Int)<0
 .refine⟨-1,?_,.inl rfl⟩
  rw[aH,ak [.tmp 4] [] Tryz.func36];simp only[go_sem,E,G]
 .refine⟨left-xs.length,?_,.inr ⟨by omega,by omega⟩⟩
  rw[aH,ak [.tmp 4] [] Tryz.func36];simp only[go_sem,E,G]
theorem acO(xs:List Member)(left:Int)(h:okL 24 okMember xs)(J:0<=left)(O:left<=1048576):∃r,fn Tryz.prog conv ext 68 [LL cMember xs,I left]=some (I r)/\Szd r left xs.length:=by
 have S:((xs.length:Nat):Int)<=140737488351232:=by have:=h.2.1;omega
 have E:=ah (n:=left - (xs.length:Int))
 by_cases G:left - (xs.length:Int)<0
 .refine⟨-1,?_,.inl rfl⟩
  rw[aH,ak [.tmp 4] [] Tryz.func68];simp only[go_sem,E,G]
 .refine⟨left-xs.length,?_,.inr ⟨by omega,by omega⟩⟩
  rw[aH,ak [.tmp 4] [] Tryz.func68];simp only[go_sem,E,G]
theorem aiY(xs:List TV.Move)(left:Int)(h:okL 16 okMove xs)(J:0<=left)(O:left<=1048576):∃r,fn Tryz.prog conv ext 46 [LL cMove xs,I left]=some (I r)/\Szd r left xs.length:=by
 have S:((xs.length:Nat):Int)<=140737488351232:=by have:=h.2.1;omega
 have E:=ah (n:=left - (xs.length:Int))
 by_cases G:left - (xs.length:Int)<0
 .refine⟨-1,?_,.inl rfl⟩
  rw[aH,ak [.tmp 4] [] Tryz.func46];simp only[go_sem,E,G]
 .refine⟨left-xs.length,?_,.inr ⟨by omega,by omega⟩⟩
  rw[aH,ak [.tmp 4] [] Tryz.func46];simp only[go_sem,E,G]
theorem aiZ(x:Joint)(left:Int)(h:okJoint x)(J:0<=left)(O:left<=1048576):∃r,fn Tryz.prog conv ext 94 [.agg (cJoint x),I left]=some (I r)/\Szd r left x.name.size:=by
 have S:((x.name.size:Nat):Int)<=140737488351232:=by have:=h.1;unfold okS at this;omega
 have E:=ah (n:=left - (x.name.size:Int))
 by_cases G:left - (x.name.size:Int)<0
 .refine⟨-1,?_,.inl rfl⟩
  rw[aH,ak [.tmp 4] [] Tryz.func94];simp only[go_sem,E,G]
 .refine⟨left-x.name.size,?_,.inr ⟨by omega,by omega⟩⟩
  rw[aH,ak [.tmp 4] [] Tryz.func94];simp only[go_sem,E,G]
theorem afl(xs:List Joint)(left:Int)(h:okL 40 okJoint xs)(g0:0<=left)(g1:left<=1048576):∃r,fn Tryz.prog conv ext 67 [LL cJoint xs,I left]=some (I r)/\Szd r left xs.length:=by
 have e1:((xs.length:Nat):Int)<=140737488351232:=by have:=h.2.1;omega
 have e2:=ah (n:=left - (xs.length:Int))
 by_cases hl:left - (xs.length:Int)<0
 .refine⟨-1,?_,.inl rfl⟩
  rw[aH,ak [.tmp 4] [] Tryz.func67];simp only[go_sem,e2,hl]
 .suffices hz:∃r,fn Tryz.prog conv ext 67 [LL cJoint xs,I left]=some (I r)/\Szd r (left-xs.length) 0 by
   obtain⟨r,E,h2⟩:=hz;exact⟨r,E,h2.imp id fun h=>⟨h.1,by have:=h.2;omega⟩⟩
  rw[aH,ak [.tmp 4] [] Tryz.func67];simp only[go_sem,e2,hl];generalize hL:aF _ _=y;obtain⟨r,rfl,hr⟩:=aB hL xs.length (fun k st=>st.nx=0/\st.σ=aK/\st.T 0=LL cJoint xs/\st.T 5=I k/\∃l,st.T 1=I l/\0<=l/\l<=left-xs.length)
   (fun r=>(∃T l,r=(.exit 0,⟨T,aK,0⟩)/\T 1=I l/\0<=l/\l<=left-xs.length)\/(∃T,r=(.ret,⟨T,aK,0⟩)/\T 4=I (-1))) (by
    clear hL;rintro k ⟨T,σ,nx⟩ J ⟨hn,G,O,Y,l,E,S,a0⟩;simp only at hn G O E Y;subst hn G;have f1:(k:Int)<(xs.length:Int):=by omega
    have f2:=aI k;have f3:=ah (n:=(k:Int)+1);have f4:=FC xs k J;have f5:=sJ xs;have f6:k*4+4<=xs.length*4:=by omega
    have f9:=IC xs k J;obtain⟨q,a1,a2⟩:=aiZ xs[k] l (h.1 _ (zu J)) S (by omega)
    by_cases hq:q<0
    .refine .inr ⟨_,by simp only[go_sem,O,E,Y,f1,f2,f3,f4,f5,f6,f9,a1,hq];rfl,by simp,.inr ⟨_,rfl,?_⟩⟩
     simp only[go_sem]
    .have a3:q<=l:=by rcases a2 with h|⟨_,h⟩<;>omega
     refine .inl ⟨_,by simp only[go_sem,O,E,Y,f1,f2,f3,f4,f5,f6,f9,a1,hq];rfl,?_⟩;simp only[go_sem,O];exact⟨rfl,q,rfl,by omega,by omega⟩) (by
    clear hL;rintro ⟨T,σ,nx⟩ ⟨hn,G,O,Y,l,E,S,a0⟩;simp only at hn G O E Y;subst hn G;refine⟨_,by simp only[go_sem,O,Y,zl];rfl,by simp,.inl ⟨_,l,rfl,?_,S,a0⟩⟩;simp only[go_sem,E]) (by
    simp only[go_sem];exact⟨_,rfl,by omega,by omega⟩)
  rcases hr with ⟨T,l,rfl,E,h2,h3⟩|⟨T,rfl,E⟩
  .refine⟨l,?_,.inr ⟨h2,by omega⟩⟩
   simp only[go_sem,E]
  .refine⟨-1,?_,.inl rfl⟩
   simp only[go_sem,E]
theorem U_(x:Structure)(left:Int)(h:okStructure x)(O:0<=left)(S:left<=1048576):∃r,fn Tryz.prog conv ext 35 [.agg (cStructure x),I left]=some (I r)/\Szd r left (x.joints.length+x.members.length):=by
 obtain⟨a,E,G⟩:=afl x.joints left h.1 O S
 by_cases ha:a<0
 .refine⟨-1,?_,.inl rfl⟩
  rw[aH,ak [.tmp 4] [] Tryz.func35];simp only[go_sem,E,ha]
 .rcases G with G|⟨_,G⟩
  .omega
  obtain⟨b,b1,J⟩:=acO x.members a h.2 (by omega) (by omega)
  by_cases hb:b<0
  .refine⟨-1,?_,.inl rfl⟩
   rw[aH,ak [.tmp 4] [] Tryz.func35];simp only[go_sem,E,ha,b1,hb]
  .rcases J with J|⟨_,J⟩
   .omega
   refine⟨b,?_,.inr ⟨by omega,by omega⟩⟩;rw[aH,ak [.tmp 4] [] Tryz.func35];simp only[go_sem,E,ha,b1,hb]
theorem Va(x:Stance)(left:Int)(h:okStance x)(h0:0<=left)(h1:left<=1048576):∃r,fn Tryz.prog conv ext 10 [.agg (cStance x),I left]=some (I r)/\Szd r left (x.name.size+x.st.joints.length+x.st.members.length+x.load.length+x.limits.length):=by
 have e1:((x.name.size:Nat):Int)<=140737488351232:=by have:=h.1;unfold okS at this;omega
 have E:=ah (n:=left - (x.name.size:Int))
 by_cases G:left - (x.name.size:Int)<0
 .refine⟨-1,?_,.inl rfl⟩
  rw[aH,ak [.tmp 4] [] Tryz.func10];simp only[go_sem,E,G]
 obtain⟨a,J,O⟩:=U_ x.st (left-x.name.size) h.2.1 (by omega) (by omega)
 by_cases ha:a<0
 .refine⟨-1,?_,.inl rfl⟩
  rw[aH,ak [.tmp 4] [] Tryz.func10];simp only[go_sem,E,G,J,ha]
 rcases O with O|⟨_,O⟩
 .omega
 obtain⟨b,b1,S⟩:=afk x.load a h.2.2.1 (by omega) (by omega)
 by_cases hb:b<0
 .refine⟨-1,?_,.inl rfl⟩
  rw[aH,ak [.tmp 4] [] Tryz.func10];simp only[go_sem,E,G,J,ha,b1,hb]
 rcases S with S|⟨_,S⟩
 .omega
 obtain⟨d,d1,Y⟩:=afk x.limits b h.2.2.2 (by omega) (by omega)
 by_cases hd:d<0
 .refine⟨-1,?_,.inl rfl⟩
  rw[aH,ak [.tmp 4] [] Tryz.func10];simp only[go_sem,E,G,J,ha,b1,hb,d1,hd]
 rcases Y with Y|⟨_,Y⟩
 .omega
 refine⟨d,?_,.inr ⟨by omega,by omega⟩⟩;rw[aH,ak [.tmp 4] [] Tryz.func10];simp only[go_sem,E,G,J,ha,b1,hb,d1,hd]
def AU(s:Stance):Prop:=s.st.joints.length<=1048576/\s.st.members.length<=1048576/\s.load.length<=1048576/\s.limits.length<=1048576
theorem acP(xs:List Stance)(left:Int)(h:okL 112 okStance xs)(g0:0<=left)(g1:left<=1048576):∃r,fn Tryz.prog conv ext 45 [LL cStance xs,I left]=some (I r)/\Szd r left xs.length/\(0<=r->∀i (h:i<xs.length),AU xs[i]):=by
 have e1:((xs.length:Nat):Int)<=140737488351232:=by have:=h.2.1;omega
 have e2:=ah (n:=left - (xs.length:Int))
 by_cases hl:left - (xs.length:Int)<0
 .refine⟨-1,?_,.inl rfl,fun h=>absurd h (by decide)⟩
  rw[aH,ak [.tmp 4] [] Tryz.func45];simp only[go_sem,e2,hl]
 .suffices hz:∃r,fn Tryz.prog conv ext 45 [LL cStance xs,I left]=some (I r)/\Szd r (left-xs.length) 0/\(0<=r->∀i (h:i<xs.length),AU xs[i]) by
   obtain⟨r,E,h2,h3⟩:=hz;exact⟨r,E,h2.imp id fun h=>⟨h.1,by have:=h.2;omega⟩,h3⟩
  rw[aH,ak [.tmp 4] [] Tryz.func45];simp only[go_sem,e2,hl];generalize hL:aF _ _=y;obtain⟨r,rfl,hr⟩:=aB hL xs.length (fun k st=>st.nx=0/\st.σ=aK/\st.T 0=LL cStance xs/\st.T 5=I k/\∃l,st.T 1=I l/\0<=l/\l<=left-xs.length/\∀i (h:i<xs.length),i<k->AU xs[i])
   (fun r=>(∃T l,r=(.exit 0,⟨T,aK,0⟩)/\T 1=I l/\0<=l/\l<=left-xs.length/\∀i (h:i<xs.length),AU xs[i])\/(∃T,r=(.ret,⟨T,aK,0⟩)/\T 4=I (-1))) (by
    clear hL;rintro k ⟨T,σ,nx⟩ O ⟨hn,G,S,J,l,E,Y,a1,a0⟩;simp only at hn G S E J;subst hn G;have f1:(k:Int)<(xs.length:Int):=by omega
    have f2:=aI k;have f3:=ah (n:=(k:Int)+1);have f4:=Oa xs k O;have f5:=EO xs;have f6:k*5+5<=xs.length*5:=by omega
    have f9:=Ob xs k O;obtain⟨q,a2,a3⟩:=Va xs[k] l (h.1 _ (zu O)) Y (by omega)
    by_cases hq:q<0
    .refine .inr ⟨_,by simp only[go_sem,S,E,J,f1,f2,f3,f4,f5,f6,f9,a2,hq];rfl,by simp,.inr ⟨_,rfl,?_⟩⟩
     simp only[go_sem]
    .have a4:q<=l:=by rcases a3 with h|⟨_,h⟩<;>omega
     refine .inl ⟨_,by simp only[go_sem,S,E,J,f1,f2,f3,f4,f5,f6,f9,a2,hq];rfl,?_⟩;simp only[go_sem,S];refine⟨rfl,q,rfl,by omega,by omega,fun i hi a5=>?_⟩
     by_cases hk:i<k
     .exact a0 i hi hk
     .have:i=k:=by omega
      subst this;rcases a3 with h|⟨_,h⟩
      .omega
      .refine⟨?_,?_,?_,?_⟩<;>omega) (by
    clear hL;rintro ⟨T,σ,nx⟩ ⟨hn,G,S,J,l,E,Y,a1,a0⟩;simp only at hn G S E J;subst hn G;refine⟨_,by simp only[go_sem,S,J,zl];rfl,by simp,.inl ⟨_,l,rfl,?_,Y,a1,fun i hi=>a0 i hi hi⟩⟩;simp only[go_sem,E]) (by
    simp only[go_sem];exact⟨_,rfl,by omega,by omega,fun i _ h=>absurd h (zW _)⟩)
  rcases hr with ⟨T,l,rfl,E,h2,h3,J⟩|⟨T,rfl,E⟩
  .refine⟨l,?_,.inr ⟨h2,by omega⟩,fun _=>J⟩
   simp only[go_sem,E]
  .refine⟨-1,?_,.inl rfl,fun h=>absurd h (by decide)⟩
   simp only[go_sem,E]
theorem Y0(x:Yard)(left:Int)(h:okYard x)(O:0<=left)(S:left<=1048576):∃r,fn Tryz.prog conv ext 15 [.agg (cYard x),I left]=some (I r)/\Szd r left (x.stances.length+x.moves.length)/\(0<=r->∀i (h:i<x.stances.length),AU x.stances[i]):=by
 obtain⟨a,E,G,Y⟩:=acP x.stances left h.1 O S
 by_cases ha:a<0
 .refine⟨-1,?_,.inl rfl,fun h=>absurd h (by decide)⟩
  rw[aH,ak [.tmp 4] [] Tryz.func15];simp only[go_sem,E,ha]
 rcases G with G|⟨_,G⟩
 .omega
 obtain⟨b,b1,J⟩:=aiY x.moves a h.2.1 (by omega) (by omega)
 by_cases hb:b<0
 .refine⟨-1,?_,.inl rfl,fun h=>absurd h (by decide)⟩
  rw[aH,ak [.tmp 4] [] Tryz.func15];simp only[go_sem,E,ha,b1,hb]
 rcases J with J|⟨_,J⟩
 .omega
 refine⟨b,?_,.inr ⟨by omega,by omega⟩,fun _=>Y (by omega)⟩;rw[aH,ak [.tmp 4] [] Tryz.func15];simp only[go_sem,E,ha,b1,hb]
def ix {α:Type}(p:α->Bool)(xs:List α):Int:=if xs.findIdx p<xs.length then xs.findIdx p else -1
theorem Gy {α:Type} {p:α->Bool} {xs:List α} {k:Nat}(E:k<xs.length)(G:∀i (h:i<xs.length),i<k->p xs[i]=false)(h:p xs[k]=true):ix p xs=k:=by
 have:xs.findIdx p=k:=(List.findIdx_eq E).mpr ⟨h,fun j J=>G j (by omega) J⟩;unfold ix;rw[this,if_pos E]
theorem uz {α:Type} {p:α->Bool} {xs:List α}(E:∀i (h:i<xs.length),p xs[i]=false):ix p xs= -1:=by
 have:xs.findIdx p=xs.length:=List.findIdx_eq_length.mpr fun x G=>by
  obtain⟨i,hi,rfl⟩:=yV G;exact E i hi
 unfold ix;rw[this,if_neg (Nat.lt_irrefl _)]
theorem uD {α:Type} {p:α->Bool} {xs:List α} {k:Nat}(O:k<xs.length)(J:∀i (h:i<xs.length),i<k->p xs[i]=false)(h:p xs[k]=false):∀i (h:i<xs.length),i<k+1->p xs[i]=false:=by
 intro i hi E;rcases yB (xk E)with G|G
 .exact J i hi G
 .subst G;exact h
theorem Vb(xs:List Stance)(c:V)(g:FuncId)(p:Stance->Bool)(t:V)(h:xs.length<=maxLen)(hc:conv g= .Ii)(ht:strip aK 7 t=some (t,[]))(hg:∀x∈xs,fn Tryz.prog conv ext g [.agg (cStance x),t]=some (Bo (p x))) :
  fn Tryz.prog conv ext 114 [LL cStance xs,.clo g [t]]=some (I (ix p xs)):=by
 have e2:(xs.length:Int)<=9223372036854775807:=by unfold maxLen at h;omega
 rw[aH,ak [.tmp 4] [] Tryz.func114];simp only[go_sem];generalize hL:aF _ _=y;obtain⟨r,rfl,hr⟩:=aB hL xs.length (fun k st=>st.nx=0/\st.σ=aK/\st.T 0=LL cStance xs/\st.T 1= .clo g [t]/\st.T 7=I xs.length/\st.T 8=I k/\∀i (h:i<xs.length),i<k->p xs[i]=false)
  (fun r=>(∃T,r=(.exit 0,⟨T,aK,0⟩)/\ix p xs= -1)\/(∃T,r=(.ret,⟨T,aK,0⟩)/\T 4=I (ix p xs))) (by
   clear hL;rintro k ⟨T,σ,nx⟩ E ⟨hn,G,Y,J,S,h8,hi⟩;simp only at hn G Y J S h8;subst hn G;have f1:(k:Int)<(xs.length:Int):=by omega
   have f2:=aI k;have f3:=ah (n:=(k:Int)+1);have f4:=Oa xs k E;have f5:=EO xs;have f6:k*5+5<=xs.length*5:=by omega
   have f9:=Ob xs k E;have O:=hg xs[k] (zu E);cases hp:p xs[k]with
   |true=>
    rw[hp]at O;refine .inr ⟨_,by simp only[go_sem,Y,J,S,h8,f1,f2,f4,f5,f6,f9,O,hc,ht];rfl,by simp,.inr ⟨_,rfl,?_⟩⟩;simp only[go_sem];rw[Gy E hi hp]
   |false=>
    rw[hp]at O;refine .inl ⟨_,by simp only[go_sem,Y,J,S,h8,f1,f2,f3,f4,f5,f6,f9,O,hc,ht];rfl,?_⟩;simp only[go_sem,Y,J,S];exact⟨rfl,uD E hi hp⟩) (by
   clear hL;rintro ⟨T,σ,nx⟩ ⟨hn,G,Y,J,S,h8,hi⟩;simp only at hn G Y J S h8;subst hn G;exact⟨_,by simp only[go_sem,S,h8,zl];rfl,by simp,.inl ⟨_,rfl,uz fun i h=>hi i h h⟩⟩) (by
   simp only[go_sem];exact fun i _ h=>absurd h (zW _))
 rcases hr with ⟨T,rfl,J⟩|⟨T,rfl,J⟩
 .simp only[go_sem,J]
 .simp only[go_sem,J]
theorem Y1(xs:List Joint)(c:V)(g:FuncId)(p:Joint->Bool)(t:V)(h:xs.length<=maxLen)(hc:conv g= .Ii)(ht:strip aK 7 t=some (t,[]))(hg:∀x∈xs,fn Tryz.prog conv ext g [.agg (cJoint x),t]=some (Bo (p x))) :
  fn Tryz.prog conv ext 158 [LL cJoint xs,.clo g [t]]=some (I (ix p xs)):=by
 have e2:(xs.length:Int)<=9223372036854775807:=by unfold maxLen at h;omega
 rw[aH,ak [.tmp 4] [] Tryz.func158];simp only[go_sem];generalize hL:aF _ _=y;obtain⟨r,rfl,hr⟩:=aB hL xs.length (fun k st=>st.nx=0/\st.σ=aK/\st.T 0=LL cJoint xs/\st.T 1= .clo g [t]/\st.T 7=I xs.length/\st.T 8=I k/\∀i (h:i<xs.length),i<k->p xs[i]=false)
  (fun r=>(∃T,r=(.exit 0,⟨T,aK,0⟩)/\ix p xs= -1)\/(∃T,r=(.ret,⟨T,aK,0⟩)/\T 4=I (ix p xs))) (by
   clear hL;rintro k ⟨T,σ,nx⟩ E ⟨hn,G,Y,J,S,h8,hi⟩;simp only at hn G Y J S h8;subst hn G;have f1:(k:Int)<(xs.length:Int):=by omega
   have f2:=aI k;have f3:=ah (n:=(k:Int)+1);have f4:=FC xs k E;have f5:=sJ xs;have f6:k*4+4<=xs.length*4:=by omega
   have f9:=IC xs k E;have O:=hg xs[k] (zu E);cases hp:p xs[k]with
   |true=>
    rw[hp]at O;refine .inr ⟨_,by simp only[go_sem,Y,J,S,h8,f1,f2,f4,f5,f6,f9,O,hc,ht];rfl,by simp,.inr ⟨_,rfl,?_⟩⟩;simp only[go_sem];rw[Gy E hi hp]
   |false=>
    rw[hp]at O;refine .inl ⟨_,by simp only[go_sem,Y,J,S,h8,f1,f2,f3,f4,f5,f6,f9,O,hc,ht];rfl,?_⟩;simp only[go_sem,Y,J,S];exact⟨rfl,uD E hi hp⟩) (by
   clear hL;rintro ⟨T,σ,nx⟩ ⟨hn,G,Y,J,S,h8,hi⟩;simp only at hn G Y J S h8;subst hn G;exact⟨_,by simp only[go_sem,S,h8,zl];rfl,by simp,.inl ⟨_,rfl,uz fun i h=>hi i h h⟩⟩) (by
   simp only[go_sem];exact fun i _ h=>absurd h (zW _))
 rcases hr with ⟨T,rfl,J⟩|⟨T,rfl,J⟩
 .simp only[go_sem,J]
 .simp only[go_sem,J]
theorem Vd(xs:List Member)(c:V)(g:FuncId)(p:Member->Bool)(t:V)(h:xs.length<=maxLen)(hc:conv g= .Ii)(ht:strip aK 7 t=some (t,[]))(hg:∀x∈xs,fn Tryz.prog conv ext g [.agg (cMember x),t]=some (Bo (p x))) :
  fn Tryz.prog conv ext 160 [LL cMember xs,.clo g [t]]=some (I (ix p xs)):=by
 have e2:(xs.length:Int)<=9223372036854775807:=by unfold maxLen at h;omega
 rw[aH,ak [.tmp 4] [] Tryz.func160];simp only[go_sem];generalize hL:aF _ _=y;obtain⟨r,rfl,hr⟩:=aB hL xs.length (fun k st=>st.nx=0/\st.σ=aK/\st.T 0=LL cMember xs/\st.T 1= .clo g [t]/\st.T 7=I xs.length/\st.T 8=I k/\∀i (h:i<xs.length),i<k->p xs[i]=false)
  (fun r=>(∃T,r=(.exit 0,⟨T,aK,0⟩)/\ix p xs= -1)\/(∃T,r=(.ret,⟨T,aK,0⟩)/\T 4=I (ix p xs))) (by
   clear hL;rintro k ⟨T,σ,nx⟩ E ⟨hn,G,Y,J,S,h8,hi⟩;simp only at hn G Y J S h8;subst hn G;have f1:(k:Int)<(xs.length:Int):=by omega
   have f2:=aI k;have f3:=ah (n:=(k:Int)+1);have f4:=JO xs k E;have f5:=BG xs;have f6:k*3+3<=xs.length*3:=by omega
   have f9:=JQ xs k E;have O:=hg xs[k] (zu E);cases hp:p xs[k]with
   |true=>
    rw[hp]at O;refine .inr ⟨_,by simp only[go_sem,Y,J,S,h8,f1,f2,f4,f5,f6,f9,O,hc,ht];rfl,by simp,.inr ⟨_,rfl,?_⟩⟩;simp only[go_sem];rw[Gy E hi hp]
   |false=>
    rw[hp]at O;refine .inl ⟨_,by simp only[go_sem,Y,J,S,h8,f1,f2,f3,f4,f5,f6,f9,O,hc,ht];rfl,?_⟩;simp only[go_sem,Y,J,S];exact⟨rfl,uD E hi hp⟩) (by
   clear hL;rintro ⟨T,σ,nx⟩ ⟨hn,G,Y,J,S,h8,hi⟩;simp only at hn G Y J S h8;subst hn G;exact⟨_,by simp only[go_sem,S,h8,zl];rfl,by simp,.inl ⟨_,rfl,uz fun i h=>hi i h h⟩⟩) (by
   simp only[go_sem];exact fun i _ h=>absurd h (zW _))
 rcases hr with ⟨T,rfl,J⟩|⟨T,rfl,J⟩
 .simp only[go_sem,J]
 .simp only[go_sem,J]
theorem indexInt(xs:List Int)(c:V)(g:FuncId)(p:Int->Bool)(h:xs.length<=maxLen)(hc:conv g= .Ii)(hg:∀x∈xs,fn Tryz.prog conv ext g [I x]=some (Bo (p x))) :
  fn Tryz.prog conv ext 131 [LI xs,.clo g []]=some (I (ix p xs)):=by
 have e2:(xs.length:Int)<=9223372036854775807:=by unfold maxLen at h;omega
 rw[aH,ak [.tmp 4] [] Tryz.func131];simp only[go_sem];generalize hL:aF _ _=y;obtain⟨r,rfl,hr⟩:=aB hL xs.length (fun k st=>st.nx=0/\st.σ=aK/\st.T 0=LI xs/\st.T 1= .clo g []/\st.T 7=I xs.length/\st.T 8=I k/\∀i (h:i<xs.length),i<k->p xs[i]=false)
  (fun r=>(∃T,r=(.exit 0,⟨T,aK,0⟩)/\ix p xs= -1)\/(∃T,r=(.ret,⟨T,aK,0⟩)/\T 4=I (ix p xs))) (by
   clear hL;rintro k ⟨T,σ,nx⟩ E ⟨hn,G,Y,J,S,h8,hi⟩;simp only at hn G Y J S h8;subst hn G;have f1:(k:Int)<(xs.length:Int):=by omega
   have f2:=aI k;have f3:=ah (n:=(k:Int)+1);have f4:(xs.flatMap cI)[k]?=some (I xs[k]):=mX I xs k E;have f9:=fB xs k E;have O:=hg xs[k] (zu E);cases hp:p xs[k]with
   |true=>
    rw[hp]at O;refine .inr ⟨_,by simp only[go_sem,Y,J,S,h8,f1,f2,f4,f9,O,hc];rfl,by simp,.inr ⟨_,rfl,?_⟩⟩;simp only[go_sem];rw[Gy E hi hp]
   |false=>
    rw[hp]at O;refine .inl ⟨_,by simp only[go_sem,Y,J,S,h8,f1,f2,f3,f4,f9,O,hc];rfl,?_⟩;simp only[go_sem,Y,J,S];exact⟨rfl,uD E hi hp⟩) (by
   clear hL;rintro ⟨T,σ,nx⟩ ⟨hn,G,Y,J,S,h8,hi⟩;simp only at hn G Y J S h8;subst hn G;exact⟨_,by simp only[go_sem,S,h8,zl];rfl,by simp,.inl ⟨_,rfl,uz fun i h=>hi i h h⟩⟩) (by
   simp only[go_sem];exact fun i _ h=>absurd h (zW _))
 rcases hr with ⟨T,rfl,J⟩|⟨T,rfl,J⟩
 .simp only[go_sem,J]
 .simp only[go_sem,J]
theorem Jt {α:Type}(p:α->Bool)(xs:List α):ix p xs<0↔∀x∈xs,p x=false:=by
 unfold ix
 by_cases h:xs.findIdx p<xs.length
 .rw[if_pos h]
  refine⟨fun E=>absurd E (by omega),fun E=>?_⟩;have:=List.findIdx_eq_length.mpr E;omega
 .rw[if_neg h]
  exact⟨fun _=>List.findIdx_eq_length.mp (Nat.le_antisymm (List.findIdx_le_length) (by omega)),fun _=>by omega⟩
theorem acQ(xs:List Member)(g:FuncId)(p:Member->Bool)(t:V)(h:xs.length<=maxLen)(hc:conv g= .Ii)(G:strip aK 7 t=some (t,[]))(E:strip aK 6 t=some (t,[]))(J:∀x∈xs,fn Tryz.prog conv ext g [.agg (cMember x),t]=some (Bo (p x))) :
  fn Tryz.prog conv ext 126 [LL cMember xs,.clo g [t]]=some (Bo (decide (0<=ix p xs))):=by
 have O:=Vd xs (.clo g [t]) g p t h hc G J;rw[aH,ak [.tmp 4] [] Tryz.func126];simp only[go_sem,O,G,E]
theorem Y2(xs:List Int)(g:FuncId)(p:Int->Bool)(h:xs.length<=maxLen)(hc:conv g= .Ii)(E:∀x∈xs,fn Tryz.prog conv ext g [I x]=some (Bo (p x))) :
  fn Tryz.prog conv ext 105 [LI xs,.clo g []]=some (Bo (decide (0<=ix p xs))):=by
 have G:=indexInt xs (.clo g []) g p h hc E;rw[aH,ak [.tmp 4] [] Tryz.func105];simp only[go_sem,G]
noncomputable def pb(p:Prop):Bool:=@decide p (Classical.propDecidable p)
theorem dZ {p:Prop}(h:p):pb p=true:=by unfold pb;exact(@decide_eq_true_iff p (Classical.propDecidable p)).mpr h
theorem bP {p:Prop}(h:¬p):pb p=false:=by unfold pb;exact(@decide_eq_false_iff_not p (Classical.propDecidable p)).mpr h
theorem OQ {p:Prop} {b:Bool}(h:b=true↔p):b=pb p:=by
 cases b with
 |true=>exact(dZ (h.mp rfl)).symm
 |false=>exact(bP (fun hp=>by cases h.mpr hp)).symm
theorem EP {p:Prop}(h:pb p=true):p:=by
 unfold pb at h;exact(@decide_eq_true_iff p (Classical.propDecidable p)).mp h
def inB(n a b:Int):Bool:=decide (a<=n) && decide (n<=b)
theorem ql(n a b:Int):fn Tryz.prog conv ext 49 [I n,I a,I b]=some (Bo (inB n a b)):=by
 unfold inB;rw[aH,ak [.tmp 6] [] Tryz.func49]
 by_cases h:a<=n<;>simp only[go_sem,h]
theorem ai0(n:Int):fn Tryz.prog conv ext 130 [I n]=some (Bo (inB n (-100) 100)):=by
 unfold inB;rw[aH,ak [.tmp 2] [] Tryz.func130]
 by_cases h:-100<=n<;>simp only[go_sem,h]
theorem ai1(n:Int):fn Tryz.prog conv ext 107 [I n]=some (Bo (inB n (0) 1000)):=by
 unfold inB;rw[aH,ak [.tmp 2] [] Tryz.func107]
 by_cases h:0<=n<;>simp only[go_sem,h]
theorem aar(n:Int):fn Tryz.prog conv ext 157 [I n]=some (Bo (inB n (-50) 50)):=by
 unfold inB;rw[aH,ak [.tmp 2] [] Tryz.func157]
 by_cases h:-50<=n<;>simp only[go_sem,h]
def pG(b:UInt8):Bool:=decide (97<=(b.toNat:Int)) && decide ((b.toNat:Int)<=122)
def sN(b:UInt8):Bool:=decide (48<=(b.toNat:Int)) && decide ((b.toNat:Int)<=57)
theorem afm(b:UInt8):fn Tryz.prog conv ext 101 [.sc (.int .u8 b.toNat)]=some (Bo (pG b)):=by
 unfold pG;rw[aH,ak [.tmp 2] [] Tryz.func101]
 by_cases h:97<=(b.toNat:Int)<;>simp only[go_sem,h]
theorem isDigit(b:UInt8):fn Tryz.prog conv ext 102 [.sc (.int .u8 b.toNat)]=some (Bo (sN b)):=by
 unfold sN;rw[aH,ak [.tmp 2] [] Tryz.func102]
 by_cases h:48<=(b.toNat:Int)<;>simp only[go_sem,h]
def qJ(k:Nat)(b:UInt8):Prop:=pG b=true\/(k≠0/\sN b=true)
def oO(s:ByteArray):Prop:=(∀k b,s[k]?=some b->qJ k b)/\1<=s.size/\s.size<=8
theorem afn {s:ByteArray} {k:Nat}(h:k<s.size):∃b,s[k]?=some b:=⟨s[k],by simp[h]⟩
theorem aas {s:ByteArray} {k:Nat} {b:UInt8}(h:s[k]?=some b):k<s.size:=by
 by_cases E:k<s.size
 .exact E
 .simp[E]at h
theorem LG {s:ByteArray}(h:∀i b,s[i]?=some b->qJ i b):pb (oO s)=inB s.size 1 8:=by
 unfold inB
 by_cases E:(1:Int)<=s.size
 .by_cases G:(s.size:Int)<=8
  .rw[dZ ⟨h,by omega,by omega⟩,vw E,vw G];rfl
  .rw[bP (fun hn=>G (by have:=hn.2.2;omega)),vw E,vk G];rfl
 .rw[bP (fun hn=>E (by have:=hn.2.1;omega)),vk E];rfl
theorem uF {s:ByteArray} {k:Nat} {b:UInt8}(hi:∀i b,i<k->s[i]?=some b->qJ i b)(hb:s[k]?=some b)(h:qJ k b):∀i b,i<k+1->s[i]?=some b->qJ i b:=by
 intro i c E hc;rcases yB (xk E)with G|G
 .exact hi i c G hc
 .subst G
  rw[hb]at hc;cases hc;exact h
theorem mJ {k:Nat} {b:UInt8}(J:pG b=false)(E:k=0\/sN b=false):¬qJ k b:=by
 rintro (h|⟨h,G⟩)
 .rw[J]at h;cases h
 .rcases E with E|E
  .exact h E
  .rw[E]at G;cases G
theorem FD {b:UInt8}(h:¬(97<=(b.toNat:Int))):pG b=false:=by unfold pG;rw[vk h];rfl
theorem LH {b:UInt8}(h:¬((b.toNat:Int)<=122)):pG b=false:=by unfold pG;rw[vk h,xR]
theorem acR {b:UInt8}(h:(b.toNat:Int)<48):sN b=false:=by unfold sN;rw[vk (by omega)];rfl
theorem OT {b:UInt8}(h:57<(b.toNat:Int)):sN b=false:=by unfold sN;rw[vk (p:=(b.toNat:Int)<=57) (by omega),xR]
theorem acS {b:UInt8}(h:¬(b.toNat:Int)<48)(E:¬57<(b.toNat:Int)):sN b=true:=by unfold sN;rw[vw (by omega),vw (by omega)];rfl
theorem aat(s:ByteArray)(hs:okS s):fn Tryz.prog conv ext 69 [Sg s]=some (Bo (pb (oO s))):=by
 have e2:(s.size:Int)<=9223372036854775807:=by unfold okS at hs;omega
 rw[aH,ak [.tmp 2] [] Tryz.func69];simp only[go_sem];generalize hL:aF _ _=y;obtain⟨r,rfl,hr⟩:=aB hL s.size (fun k st=>st.nx=0/\st.σ=aK/\st.T 0=Sg s/\st.T 3=I k/\∀i b,i<k->s[i]?=some b->qJ i b)
  (fun r=>(∃T,r=(.exit 0,⟨T,aK,0⟩)/\T 0=Sg s/\∀i b,s[i]?=some b->qJ i b)\/(∃T,r=(.ret,⟨T,aK,0⟩)/\T 2=Bo false/\¬oO s)) (by
   clear hL;rintro k ⟨T,σ,nx⟩ a0 ⟨hn,G,E,J,hi⟩;simp only at hn G E J;subst hn G;have f1:(k:Int)<(s.size:Int):=by omega
   have f2:=aI k;have f3:=ah (n:=(k:Int)+1);obtain⟨b,O⟩:=afn a0;have no:¬qJ k b->¬oO s:=fun h hn=>h (hn.1 k b O)
   by_cases c1:97<=(b.toNat:Int)
   .by_cases c2:(b.toNat:Int)<=122
    .refine .inl ⟨_,by simp only[go_sem,E,J,f1,f2,f3,O,c1,c2];rfl,?_⟩
     simp only[go_sem,E];exact⟨rfl,uF hi O (.inl (by unfold pG;rw[vw c1,vw c2];rfl))⟩
    .have d1:¬(b.toNat:Int)<48:=by omega
     have d2:57<(b.toNat:Int):=by omega
     by_cases Y:k=0
     .have S:((k:Int)==0)=true:=by subst Y;rfl
      exact .inr ⟨_,by simp only[go_sem,E,J,f1,f2,O,c1,c2,S];rfl,by simp,.inr ⟨_,rfl,by simp only[go_sem],no (mJ (LH c2) (.inl Y))⟩⟩
     .have S:((k:Int)==0)=false:=by simpa using Y
      exact .inr ⟨_,by simp only[go_sem,E,J,f1,f2,O,c1,c2,S,d1,d2];rfl,by simp,.inr ⟨_,rfl,by simp only[go_sem],no (mJ (LH c2) (.inr (OT d2)))⟩⟩
   .by_cases Y:k=0
    .have S:((k:Int)==0)=true:=by subst Y;rfl
     exact .inr ⟨_,by simp only[go_sem,E,J,f1,f2,O,c1,S];rfl,by simp,.inr ⟨_,rfl,by simp only[go_sem],no (mJ (FD c1) (.inl Y))⟩⟩
    .have S:((k:Int)==0)=false:=by simpa using Y
     by_cases d1:(b.toNat:Int)<48
     .exact .inr ⟨_,by simp only[go_sem,E,J,f1,f2,O,c1,S,d1];rfl,by simp,.inr ⟨_,rfl,by simp only[go_sem],no (mJ (FD c1) (.inr (acR d1)))⟩⟩
     .by_cases d2:57<(b.toNat:Int)
      .exact .inr ⟨_,by simp only[go_sem,E,J,f1,f2,O,c1,S,d1,d2];rfl,by simp,.inr ⟨_,rfl,by simp only[go_sem],no (mJ (FD c1) (.inr (OT d2)))⟩⟩
      .refine .inl ⟨_,by simp only[go_sem,E,J,f1,f2,f3,O,c1,S,d1,d2];rfl,?_⟩
       simp only[go_sem,E];exact⟨rfl,uF hi O (.inr ⟨Y,acS d1 d2⟩)⟩) (by
   clear hL;rintro ⟨T,σ,nx⟩ ⟨hn,G,E,J,hi⟩;simp only at hn G E J;subst hn G;refine⟨_,by simp only[go_sem,E,J,zl];rfl,by simp,.inl ⟨_,rfl,?_,fun i b h=>hi i b (aas h) h⟩⟩;simp only[go_sem,E]) (by
   simp only[go_sem];exact fun i b h=>absurd h (zW _))
 rcases hr with ⟨T,rfl,E,h1⟩|⟨T,rfl,E,h1⟩
 .have:=ql s.size 1 8
  simp only[go_sem,E,LG h1,this]
 .simp only[go_sem,E,bP h1]
theorem toList_empty(s:ByteArray):(s.toList==({ data:=#[] }:ByteArray).toList)=decide (s.size=0):=by
 have e:(s.toList=[])=(s.size=0):=by
  rw[ByteArray.toList_eq];refine propext ⟨fun h=>?_,fun h=>zZ (by rw[yP];exact h)⟩;have:=congrArg List.length h;rw[yP]at this;exact this
 have E:({ data:=#[] }:ByteArray).toList=[]:=ByteArray.toList_mk [];rw[E]
 by_cases h:s.size=0
 .rw[e.mpr h,vw h];rfl
 .rw[vk h]
  cases G:s.toList with
  |nil=>exact absurd (e.mp G) h
  |cons a l=>rfl
theorem aau(s:ByteArray)(hs:okS s):fn Tryz.prog conv ext 76 [Sg s]=some (Bo (pb (oO s))):=by
 have e2:(s.size:Int)<=9223372036854775807:=by unfold okS at hs;omega
 rw[aH,ak [.tmp 2] [] Tryz.func76];simp only[go_sem];generalize hL:aF _ _=y;obtain⟨r,rfl,hr⟩:=aB hL s.size (fun k st=>st.nx=0/\st.σ=aK/\st.T 0=Sg s/\st.T 5=I s.size/\st.T 6=I k/\∀i b,i<k->s[i]?=some b->qJ i b)
  (fun r=>(∃T,r=(.exit 0,⟨T,aK,0⟩)/\T 0=Sg s/\∀i b,s[i]?=some b->qJ i b)\/(∃T,r=(.ret,⟨T,aK,0⟩)/\T 2=Bo false/\¬oO s)) (by
   clear hL;rintro k ⟨T,σ,nx⟩ a0 ⟨hn,G,E,J,O,hi⟩;simp only at hn G E J O;subst hn G;have f1:(k:Int)<(s.size:Int):=by omega
   have f2:=aI k;have f3:=ah (n:=(k:Int)+1);obtain⟨b,S⟩:=afn a0;have no:¬qJ k b->¬oO s:=fun h hn=>h (hn.1 k b S)
   have g1:=afm b;have g2:=isDigit b;cases hl:pG b with
   |true=>
    rw[hl]at g1;refine .inl ⟨_,by simp only[go_sem,E,O,J,f1,f2,f3,S,g1];rfl,?_⟩;simp only[go_sem,E,J];exact⟨rfl,uF hi S (.inl hl)⟩
   |false=>
    rw[hl]at g1
    by_cases Y:k=0
    .have f0:((k:Int)==0)=true:=by subst Y;rfl
     exact .inr ⟨_,by simp only[go_sem,E,O,J,f1,f2,S,g1,f0];rfl,by simp,.inr ⟨_,rfl,by simp only[go_sem],no (mJ hl (.inl Y))⟩⟩
    .have f0:((k:Int)==0)=false:=by simpa using Y
     cases hd:sN b with
     |true=>
      rw[hd]at g2;refine .inl ⟨_,by simp only[go_sem,E,O,J,f1,f2,f3,S,g1,g2,f0];rfl,?_⟩;simp only[go_sem,E,J];exact⟨rfl,uF hi S (.inr ⟨Y,hd⟩)⟩
     |false=>
      rw[hd]at g2;exact .inr ⟨_,by simp only[go_sem,E,O,J,f1,f2,S,g1,g2,f0];rfl,by simp,.inr ⟨_,rfl,by simp only[go_sem],no (mJ hl (.inr hd))⟩⟩) (by
   clear hL;rintro ⟨T,σ,nx⟩ ⟨hn,G,E,J,O,hi⟩;simp only at hn G E J O;subst hn G;refine⟨_,by simp only[go_sem,E,O,J,zl];rfl,by simp,.inl ⟨_,rfl,?_,fun i b h=>hi i b (aas h) h⟩⟩;simp only[go_sem,E]) (by
   simp only[go_sem];exact fun i b h=>absurd h (zW _))
 rcases hr with ⟨T,rfl,E,h1⟩|⟨T,rfl,E,h1⟩
 .have he:=toList_empty s
  rw[LG h1];unfold inB
  by_cases Y:s.size=0
  .have:¬(1:Int)<=s.size:=by omega
   rw[vw Y]at he;simp only[go_sem,E,this,he]
  .have:(1:Int)<=s.size:=by omega
   rw[vk Y]at he;simp only[go_sem,E,this,he]
 .simp only[go_sem,E,bP h1]
noncomputable def qK(j:Joint):Bool:=pb (oO j.name) && (inB j.x (-50) 50 && inB j.y (-50) 50)
theorem afo(j:Joint)(h:okJoint j):fn Tryz.prog conv ext 117 [.agg (cJoint j)]=some (Bo (qK j)):=by
 have E:=aat j.name h.1;have G:=ql j.x (-50) 50;have J:=ql j.y (-50) 50;unfold qK;generalize pb (oO j.name)=b1 at *;generalize inB j.x (-50) 50=O at *;generalize inB j.y (-50) 50=S at *;rw[aH,ak [.tmp 2] [] Tryz.func117];cases b1<;>cases O<;>simp only[go_sem,E,G,J]
theorem afp(j:Joint)(h:okJoint j):fn Tryz.prog conv ext 124 [.agg (cJoint j)]=some (Bo (qK j)):=by
 have E:=aau j.name h.1;have G:=aar j.x;have J:=aar j.y;unfold qK;generalize pb (oO j.name)=b1 at *;generalize inB j.x (-50) 50=O at *;generalize inB j.y (-50) 50=S at *;rw[aH,ak [.tmp 2] [] Tryz.func124];cases b1<;>cases O<;>simp only[go_sem,E,G,J]
abbrev isNamed(name:ByteArray)(s:Stance):Bool:=s.name.toList==name.toList
abbrev h_(name:ByteArray)(s:Joint):Bool:=s.name.toList==name.toList
theorem IE(name:ByteArray)(s:Stance):fn Tryz.prog conv ext 115 [.agg (cStance s),.tp [Sg name] 0]=some (Bo (isNamed name s)):=by
 rw[aH,ak [.tmp 3] [] Tryz.func115];simp only[go_sem]
theorem QU(y:Yard)(name:ByteArray)(h:y.stances.length<=maxLen):fn Tryz.prog conv ext 87 [.agg (cYard y),Sg name]=some (I (ix (isNamed name) y.stances)):=by
 have E:=Vb y.stances (.tp [Sg name] 0) 115 (isNamed name) (.tp [Sg name] 0) h (by rfl) (by rfl) (fun x _=>IE name x);rw[aH,ak [.tmp 4] [] Tryz.func87];simp only[go_sem,E]
theorem QV(y:Yard)(name:ByteArray)(h:y.stances.length<=maxLen):fn Tryz.prog conv ext 85 [.agg (cYard y),Sg name]=some (I (ix (isNamed name) y.stances)):=by
 have e2:(y.stances.length:Int)<=9223372036854775807:=by unfold maxLen at h;omega
 rw[aH,ak [.tmp 4] [] Tryz.func85];simp only[go_sem];generalize Y:aF _ _=z;generalize a0:y.stances=xs at *;obtain⟨r,rfl,hr⟩:=aB Y xs.length (fun k st=>st.T 1=Sg name/\st.T 8=LL cStance xs/\st.T 9=I xs.length/\st.T 10=I k/\∀i (h:i<xs.length),i<k->isNamed name xs[i]=false)
  (fun r=>(∃st,r=(.exit 0,st)/\ix (isNamed name) xs= -1)\/(∃st,r=(.ret,st)/\st.T 4=I (ix (isNamed name) xs))) (by
   clear Y;rintro k ⟨T,σ,nx⟩ J ⟨G,S,O,E,hi⟩;simp only at G S O E;have f1:(k:Int)<(xs.length:Int):=by omega
   have f2:=aI k;have f3:=ah (n:=(k:Int)+1);have f4:=Oa xs k J;have f5:=EO xs;have f6:k*5+5<=xs.length*5:=by omega
   have f9:=Ob xs k J;cases hp:isNamed name xs[k]with
   |true=>
    refine .inr ⟨_,by simp only[go_sem,G,S,O,E,f1,f2,f4,f5,f6,f9,hp];rfl,by simp,.inr ⟨_,rfl,?_⟩⟩;simp only[go_sem];rw[Gy J hi hp]
   |false=>
    refine .inl ⟨_,by simp only[go_sem,G,S,O,E,f1,f2,f3,f4,f5,f6,f9,hp];rfl,?_⟩;simp only[go_sem,G,S,O];exact⟨rfl,uD J hi hp⟩) (by
   clear Y;rintro ⟨T,σ,nx⟩ ⟨G,S,O,E,hi⟩;simp only at G S O E;exact⟨_,by simp only[go_sem,O,E,zl];rfl,by simp,.inl ⟨_,rfl,uz fun i h=>hi i h h⟩⟩) (by
   simp only[go_sem];exact fun i _ h=>absurd h (zW _))
 rcases hr with ⟨⟨T,σ,nx⟩,rfl,G⟩|⟨⟨T,σ,nx⟩,rfl,G⟩
 .simp only[go_sem,G]
 .simp only at G
  simp only[go_sem,G]
theorem JR(name:ByteArray)(s:Joint):fn Tryz.prog conv ext 159 [.agg (cJoint s),.tp [Sg name] 0]=some (Bo (h_ name s)):=by
 rw[aH,ak [.tmp 3] [] Tryz.func159];simp only[go_sem]
theorem Ve(y:Structure)(name:ByteArray)(h:y.joints.length<=maxLen):fn Tryz.prog conv ext 125 [.agg (cStructure y),Sg name]=some (I (ix (h_ name) y.joints)):=by
 have E:=Y1 y.joints (.tp [Sg name] 0) 159 (h_ name) (.tp [Sg name] 0) h (by rfl) (by rfl) (fun x _=>JR name x);rw[aH,ak [.tmp 4] [] Tryz.func125];simp only[go_sem,E]
theorem Vf(y:Structure)(name:ByteArray)(h:y.joints.length<=maxLen):fn Tryz.prog conv ext 118 [.agg (cStructure y),Sg name]=some (I (ix (h_ name) y.joints)):=by
 have e2:(y.joints.length:Int)<=9223372036854775807:=by unfold maxLen at h;omega
 rw[aH,ak [.tmp 4] [] Tryz.func118];simp only[go_sem];generalize Y:aF _ _=z;generalize a0:y.joints=xs at *;obtain⟨r,rfl,hr⟩:=aB Y xs.length (fun k st=>st.T 1=Sg name/\st.T 8=LL cJoint xs/\st.T 9=I xs.length/\st.T 10=I k/\∀i (h:i<xs.length),i<k->h_ name xs[i]=false)
  (fun r=>(∃st,r=(.exit 0,st)/\ix (h_ name) xs= -1)\/(∃st,r=(.ret,st)/\st.T 4=I (ix (h_ name) xs))) (by
   clear Y;rintro k ⟨T,σ,nx⟩ J ⟨G,S,O,E,hi⟩;simp only at G S O E;have f1:(k:Int)<(xs.length:Int):=by omega
   have f2:=aI k;have f3:=ah (n:=(k:Int)+1);have f4:=FC xs k J;have f5:=sJ xs;have f6:k*4+4<=xs.length*4:=by omega
   have f9:=IC xs k J;cases hp:h_ name xs[k]with
   |true=>
    refine .inr ⟨_,by simp only[go_sem,G,S,O,E,f1,f2,f4,f5,f6,f9,hp];rfl,by simp,.inr ⟨_,rfl,?_⟩⟩;simp only[go_sem];rw[Gy J hi hp]
   |false=>
    refine .inl ⟨_,by simp only[go_sem,G,S,O,E,f1,f2,f3,f4,f5,f6,f9,hp];rfl,?_⟩;simp only[go_sem,G,S,O];exact⟨rfl,uD J hi hp⟩) (by
   clear Y;rintro ⟨T,σ,nx⟩ ⟨G,S,O,E,hi⟩;simp only at G S O E;exact⟨_,by simp only[go_sem,O,E,zl];rfl,by simp,.inl ⟨_,rfl,uz fun i h=>hi i h h⟩⟩) (by
   simp only[go_sem];exact fun i _ h=>absurd h (zW _))
 rcases hr with ⟨⟨T,σ,nx⟩,rfl,G⟩|⟨⟨T,σ,nx⟩,rfl,G⟩
 .simp only[go_sem,G]
 .simp only at G
  simp only[go_sem,G]
def Vg(a b:Joint):Bool:=(!(a.x==b.x)|| !(a.y==b.y)) && !(a.fixed && b.fixed)
def CY(n:Nat)(m:Member):Prop:=0<=m.a/\m.a<n/\0<=m.b/\m.b<n/\1<=m.kind/\m.kind<=3
noncomputable def Oc(E:List Joint)(m:Member):Bool:=pb (CY E.length m/\∀a b,E[m.a.toNat]?=some a->E[m.b.toNat]?=some b->Vg a b=true)
theorem nJ {E:List Joint} {m:Member}(h:¬CY E.length m):Oc E m=false:=bP fun hn=>h hn.1
theorem IG {E:List Joint} {m:Member}(h:CY E.length m) {a b:Joint}(ha:E[m.a.toNat]?=some a)(hb:E[m.b.toNat]?=some b):Oc E m=Vg a b:=by
 refine(OQ ⟨fun hp=>⟨h,fun c d hc G=>?_⟩,fun hn=>hn.2 a b ha hb⟩).symm;rw[ha]at hc;rw[hb]at G;cases hc;cases G;exact hp
set_option maxRecDepth 100000 in
theorem acT(row:List V)(off:Nat)(E:List Joint)(m:Member)(G:row[off]?=some (LL cJoint E))(hl:E.length<=maxLen):fn Tryz.prog conv ext 128 [.tp row off,.agg (cMember m)]=some (Bo (Oc E m)):=by
 rw[aH,ak [.tmp 4] [4] Tryz.func128]
 by_cases c1:m.a<0
 .rw[nJ (fun h=>by have:=h.1;omega)]
  simp only[go_sem,G,c1]
 by_cases J:(E.length:Int)<=m.a
 .rw[nJ (fun h=>by have:=h.2.1;omega)]
  simp only[go_sem,G,c1,J]
 by_cases O:m.b<0
 .rw[nJ (fun h=>by have:=h.2.2.1;omega)]
  simp only[go_sem,G,c1,J,O]
 by_cases S:(E.length:Int)<=m.b
 .rw[nJ (fun h=>by have:=h.2.2.2.1;omega)]
  simp only[go_sem,G,c1,J,O,S]
 by_cases Y:m.kind<1
 .rw[nJ (fun h=>by have:=h.2.2.2.2.1;omega)]
  simp only[go_sem,G,c1,J,O,S,Y]
 by_cases c6:3<m.kind
 .rw[nJ (fun h=>by have:=h.2.2.2.2.2;omega)]
  simp only[go_sem,G,c1,J,O,S,Y,c6]
 have a1:0<=m.a:=by omega
 have a2:m.a<E.length:=by omega
 have b1:0<=m.b:=by omega
 have b2:m.b<E.length:=by omega
 have a3:m.a.toNat<E.length:=by omega
 have b3:m.b.toNat<E.length:=by omega
 rw[IG ⟨a1,a2,b1,b2,by omega,by omega⟩ (zy a3) (zy b3)];have f4:=FC E _ a3;have g4:=FC E _ b3;have f5:=sJ E;have f6:m.a.toNat *4+4<=E.length*4:=by omega
 have g6:m.b.toNat *4+4<=E.length*4:=by omega
 have f9:=IC E _ a3;generalize E[m.a.toNat]=a at *;generalize E[m.b.toNat]=b at *;unfold Vg;cases hx:(a.x==b.x)<;>cases hy:(a.y==b.y)<;>cases ha:a.fixed<;>cases hb:b.fixed<;>
  (simp only[go_sem,G,c1,J,O,S,Y,c6,a1,a2,b1,b2,f4,g4,f5,f6,g6,f9,hx,hy,ha,hb,bne])<;>rfl
def dF(s:Structure):Prop:=s.joints.length<=6/\s.members.length<=8/\(∀i (h:i<s.joints.length),qK s.joints[i]=true/\ix (h_ s.joints[i].name) s.joints=i)/\∀m∈s.members,Oc s.joints m=true
theorem II(s:Structure)(m:Member)(E:s.joints.length<=maxLen):fn Tryz.prog conv ext 127 [.agg (cMember m),.tp (cStructure s) 0]=some (Bo (!Oc s.joints m)):=by
 have G:=acT (cStructure s) 0 s.joints m rfl E;rw[aH,ak [.tmp 3] [] Tryz.func127];simp only[go_sem,G]
theorem Gz(s:Structure)(h:okStructure s):fn Tryz.prog conv ext 103 [.agg (cStructure s)]=some (Bo (pb (dF s))):=by
 have e2:(s.joints.length:Int)<=9223372036854775807:=by have:=h.1.2.1;omega
 have hm:=acQ s.members 127 (fun m=> !Oc s.joints m) (.tp (cStructure s) 0) h.2.2.2 (by rfl) (by rfl) (by rfl) (fun x _=>II s x h.1.2.2);rw[aH,ak [.tmp 2] [] Tryz.func103]
 by_cases c1:(6:Int)<s.joints.length
 .rw[bP (fun hn=>by have:=hn.1;omega)]
  simp only[go_sem,c1]
 by_cases c2:(8:Int)<s.members.length
 .rw[bP (fun hn=>by have:=hn.2.1;omega)]
  simp only[go_sem,c1,c2]
 simp only[go_sem,c1,c2];generalize hL:aF _ _=y;obtain⟨r,rfl,hr⟩:=aB hL s.joints.length (fun k st=>0<st.nx/\st.σ 0=some ⟨cStructure s,0,true⟩/\st.T 1= .rp 0 0/\st.T 16=LL cJoint s.joints/\st.T 17=I s.joints.length/\st.T 18=I k/\∀i (h:i<s.joints.length),i<k->qK s.joints[i]=true/\ix (h_ s.joints[i].name) s.joints=i)
  (fun r=>(∃T σ nx,r=(.exit 0,⟨T,σ,nx⟩)/\σ 0=some ⟨cStructure s,0,true⟩/\T 1= .rp 0 0/\∀i (h:i<s.joints.length),qK s.joints[i]=true/\ix (h_ s.joints[i].name) s.joints=i)\/(∃T σ nx,r=(.ret,⟨T,σ,nx⟩)/\T 2=Bo false/\¬dF s)) (by
   clear hL;rintro k ⟨T,σ,nx⟩ S ⟨hn,E,Y,J,G,O,hi⟩;simp only at hn E Y J G O;have f1:(k:Int)<(s.joints.length:Int):=by omega
   have f2:=aI k;have f3:=ah (n:=(k:Int)+1);have f4:=FC s.joints k S;have f5:=sJ s.joints;have f6:k*4+4<=s.joints.length*4:=by omega
   have f9:=IC s.joints k S;have t1:=afp s.joints[k] (h.1.1 _ (zu S));have t2:=Ve s s.joints[k].name h.1.2.2;have nz:¬0=nx:=by omega
   cases hj:qK s.joints[k]with
   |false=>
    rw[hj]at t1;refine .inr ⟨_,by simp only[go_sem,Y,J,G,O,f1,f2,f4,f5,f6,f9,t1,nz];rfl,by simp,.inr ⟨_,_,_,rfl,?_,fun hn=>?_⟩⟩
    .simp only[go_sem]
    .have:=(hn.2.2.1 k S).1
     rw[hj]at this;cases this
   |true=>
    rw[hj]at t1
    by_cases hk:ix (h_ s.joints[k].name) s.joints=k
    .rw[hk]at t2
     refine .inl ⟨_,by simp only[go_sem,Y,J,G,O,E,f1,f2,f3,f4,f5,f6,f9,t1,t2,nz];rfl,?_⟩;simp only[go_sem,Y,J,G,E,nz];refine⟨by omega,rfl,fun i a0 a1=>?_⟩;rcases yB (xk a1)with q|q
     .exact hi i a0 q
     .subst q;exact⟨hj,hk⟩
    .have a2:(ix (h_ s.joints[k].name) s.joints !=(k:Int))=true:=by simpa using hk
     refine .inr ⟨_,by simp only[go_sem,Y,J,G,O,E,f1,f2,f4,f5,f6,f9,t1,t2,a2,nz];rfl,by simp,.inr ⟨_,_,_,rfl,?_,fun hn=>hk (hn.2.2.1 k S).2⟩⟩;simp only[go_sem]) (by
   clear hL;rintro ⟨T,σ,nx⟩ ⟨hn,E,Y,J,G,O,hi⟩;simp only at hn E Y J G O;exact⟨_,by simp only[go_sem,G,O,zl];rfl,by simp,.inl ⟨_,_,_,rfl,E,by simp only[go_sem,Y],fun i h=>hi i h h⟩⟩) (by
   simp only[go_sem];exact fun i _ h=>absurd h (zW _))
 rcases hr with ⟨T,σ,nx,rfl,E,Y,hj⟩|⟨T,σ,nx,rfl,h2,hn⟩
 .have:pb (dF s)= !decide (0<=ix (fun m=> !Oc s.joints m) s.members):=by
   refine(OQ ?_).symm;rw[Bool.not_eq_true',decide_eq_false_iff_not,Int.not_le,Jt];exact⟨fun hq=>⟨by omega,by omega,hj,fun m hm=>by simpa using hq m hm⟩,fun hq m hm=>by simp[hq.2.2.2 m hm]⟩
  rw[this];simp only[go_sem,E,Y,hm]
 .simp only[go_sem,h2,bP hn]
theorem qm {n a b:Int}(h:inB n a b=false):¬(a<=n/\n<=b):=by
 unfold inB at h;intro hn;rw[vw hn.1,vw hn.2]at h;cases h
theorem jg {n a b:Int}(h:inB n a b=true):a<=n/\n<=b:=by
 unfold inB at h;rw[yh,decide_eq_true_eq,decide_eq_true_eq]at h;exact h
theorem nK(s:Structure)(h:okStructure s):fn Tryz.prog conv ext 95 [.agg (cStructure s)]=some (Bo (pb (dF s))):=by
 have e2:(s.joints.length:Int)<=9223372036854775807:=by have:=h.1.2.1;omega
 have e3:(s.members.length:Int)<=9223372036854775807:=by have:=h.2.2.1;omega
 rw[aH,ak [.tmp 2] [] Tryz.func95]
 by_cases c1:(6:Int)<s.joints.length
 .rw[bP (fun hn=>by have:=hn.1;omega)]
  simp only[go_sem,c1]
 by_cases c2:(8:Int)<s.members.length
 .rw[bP (fun hn=>by have:=hn.2.1;omega)]
  simp only[go_sem,c1,c2]
 simp only[go_sem,c1,c2];generalize hL:aF _ _=y;obtain⟨r,rfl,hr⟩:=aB hL s.joints.length (fun k st=>0<st.nx/\st.σ 0=some ⟨cStructure s,0,true⟩/\st.T 1= .rp 0 0/\st.T 21=LL cJoint s.joints/\st.T 22=I s.joints.length/\st.T 23=I k/\∀i (h:i<s.joints.length),i<k->qK s.joints[i]=true/\ix (h_ s.joints[i].name) s.joints=i)
  (fun r=>(∃T σ nx,r=(.exit 0,⟨T,σ,nx⟩)/\0<nx/\σ 0=some ⟨cStructure s,0,true⟩/\T 1= .rp 0 0/\∀i (h:i<s.joints.length),qK s.joints[i]=true/\ix (h_ s.joints[i].name) s.joints=i)\/(∃T σ nx,r=(.ret,⟨T,σ,nx⟩)/\T 2=Bo false/\¬dF s)) (by
   clear hL;rintro k ⟨T,σ,nx⟩ O ⟨hn,E,G,a4,Y,a5,hi⟩;simp only at hn E G a4 Y a5;have f1:(k:Int)<(s.joints.length:Int):=by omega
   have f2:=aI k;have f3:=ah (n:=(k:Int)+1);have f4:=FC s.joints k O;have f5:=sJ s.joints;have f6:k*4+4<=s.joints.length*4:=by omega
   have f9:=IC s.joints k O;have t1:=afo s.joints[k] (h.1.1 _ (zu O));have t2:=Vf s s.joints[k].name h.1.2.2;have nz:¬0=nx:=by omega
   cases hj:qK s.joints[k]with
   |false=>
    rw[hj]at t1;refine .inr ⟨_,by simp only[go_sem,G,a4,Y,a5,f1,f2,f4,f5,f6,f9,t1,nz];rfl,by simp,.inr ⟨_,_,_,rfl,?_,fun hn=>?_⟩⟩
    .simp only[go_sem]
    .have:=(hn.2.2.1 k O).1
     rw[hj]at this;cases this
   |true=>
    rw[hj]at t1
    by_cases hk:ix (h_ s.joints[k].name) s.joints=k
    .rw[hk]at t2
     refine .inl ⟨_,by simp only[go_sem,G,a4,Y,a5,E,f1,f2,f3,f4,f5,f6,f9,t1,t2,nz];rfl,?_⟩;simp only[go_sem,G,a4,Y,E,nz];refine⟨by omega,rfl,fun i a6 a7=>?_⟩;rcases yB (xk a7)with q|q
     .exact hi i a6 q
     .subst q;exact⟨hj,hk⟩
    .have b5:(ix (h_ s.joints[k].name) s.joints !=(k:Int))=true:=by simpa using hk
     refine .inr ⟨_,by simp only[go_sem,G,a4,Y,a5,E,f1,f2,f4,f5,f6,f9,t1,t2,b5,nz];rfl,by simp,.inr ⟨_,_,_,rfl,?_,fun hn=>hk (hn.2.2.1 k O).2⟩⟩;simp only[go_sem]) (by
   clear hL;rintro ⟨T,σ,nx⟩ ⟨hn,E,G,a4,Y,a5,hi⟩;simp only at hn E G a4 Y a5;exact⟨_,by simp only[go_sem,Y,a5,zl];rfl,by simp,.inl ⟨_,_,_,rfl,hn,E,by simp only[go_sem,G],fun i h=>hi i h h⟩⟩) (by
   simp only[go_sem];exact fun i _ h=>absurd h (zW _))
 rcases hr with ⟨T,σ,nx,rfl,b6,E,G,hj⟩|⟨T,σ,nx,rfl,h2,hn⟩
 .clear hL
  have e4:=ah (n:=(s.joints.length:Int) - 1);simp only[go_sem,E,G,e4];generalize hL:aF _ _=y;obtain⟨r,rfl,hr⟩:=aB hL s.members.length (fun k st=>0<st.nx/\st.σ 0=some ⟨cStructure s,0,true⟩/\st.T 1= .rp 0 0/\st.T 5=I ((s.joints.length:Int) - 1)/\st.T 45=LL cMember s.members/\st.T 46=I s.members.length/\st.T 47=I k/\∀i (h:i<s.members.length),i<k->Oc s.joints s.members[i]=true)
   (fun r=>(∃T σ nx,r=(.exit 2,⟨T,σ,nx⟩)/\∀i (h:i<s.members.length),Oc s.joints s.members[i]=true)\/(∃T σ nx,r=(.ret,⟨T,σ,nx⟩)/\T 2=Bo false/\¬dF s)) (by
    clear hL;rintro k ⟨T,σ,nx⟩ O ⟨hn,E,G,h5,a0,J,S,hi⟩;simp only at hn E G h5 a0 J S;have f1:(k:Int)<(s.members.length:Int):=by omega
    have f2:=aI k;have f3:=ah (n:=(k:Int)+1);have f4:=JO s.members k O;have f5:=BG s.members;have f6:k*3+3<=s.members.length*3:=by omega
    have f9:=JQ s.members k O;have no:Oc s.joints s.members[k]=false->¬dF s:=fun hb hn=>by
     rw[hn.2.2.2 _ (zu O)]at hb;cases hb
    obtain⟨m,b4⟩:∃m,m=s.members[k]:=⟨_,rfl⟩;rw[<- b4]at f4 no;have t1:=ql m.a 0 ((s.joints.length:Int) - 1);have t2:=ql m.b 0 ((s.joints.length:Int) - 1);have t3:=ql m.kind 1 3;have nz:¬0=nx:=by omega
    cases ha:inB m.a 0 ((s.joints.length:Int) - 1)with
    |false=>
     rw[ha]at t1;refine .inr ⟨_,by simp only[go_sem,G,h5,a0,J,S,E,f1,f2,f4,f5,f6,f9,t1,nz];rfl,by simp,.inr ⟨_,_,_,rfl,by simp only[go_sem],no (nJ fun hm=>?_)⟩⟩;exact qm ha ⟨hm.1,by have:=hm.2.1;omega⟩
    |true=>
    rw[ha]at t1;cases hb:inB m.b 0 ((s.joints.length:Int) - 1)with
    |false=>
     rw[hb]at t2;refine .inr ⟨_,by simp only[go_sem,G,h5,a0,J,S,E,f1,f2,f4,f5,f6,f9,t1,t2,nz];rfl,by simp,.inr ⟨_,_,_,rfl,by simp only[go_sem],no (nJ fun hm=>?_)⟩⟩;exact qm hb ⟨hm.2.2.1,by have:=hm.2.2.2.1;omega⟩
    |true=>
    rw[hb]at t2;cases hc:inB m.kind 1 3 with
    |false=>
     rw[hc]at t3;refine .inr ⟨_,by simp only[go_sem,G,h5,a0,J,S,E,f1,f2,f4,f5,f6,f9,t1,t2,t3,nz];rfl,by simp,.inr ⟨_,_,_,rfl,by simp only[go_sem],no (nJ fun hm=>?_)⟩⟩;exact qm hc ⟨hm.2.2.2.2.1,hm.2.2.2.2.2⟩
    |true=>
    rw[hc]at t3;have qa:=jg ha;have qb:=jg hb;have qc:=jg hc;have a1:0<=m.a:=qa.1;have a2:m.a<s.joints.length:=by omega
    have b1:0<=m.b:=qb.1;have b2:m.b<s.joints.length:=by omega
    have a3:m.a.toNat<s.joints.length:=by omega
    have b3:m.b.toNat<s.joints.length:=by omega
    have hp:=IG ⟨a1,a2,b1,b2,qc.1,qc.2⟩ (zy a3) (zy b3);have k4:=FC s.joints _ a3;have g4:=FC s.joints _ b3;have k5:=sJ s.joints;have k6:m.a.toNat *4+4<=s.joints.length*4:=by omega
    have g6:m.b.toNat *4+4<=s.joints.length*4:=by omega
    have k9:=IC s.joints _ a3;generalize s.joints[m.a.toNat]=a at *;generalize s.joints[m.b.toNat]=b at *;unfold Vg at hp;have n1:¬nx=nx+1:=by omega
    have n2:¬nx=nx+1+1:=by omega
    have n3:¬nx+1=nx+1+1:=by omega
    have n4:¬0=nx+1:=by omega
    have n5:¬0=nx+1+1:=by omega
    cases hx:(a.x==b.x)<;>cases hy:(a.y==b.y)<;>cases a8:a.fixed<;>cases a9:b.fixed<;>simp only[hx,hy,a8,a9,Bool.not_true,xJ,Bool.or_true,Bool.true_or,Bool.or_false,Bool.and_true,xR,Bool.true_and,Bool.false_and]at hp<;>
    first
    |(refine .inl ⟨_,by simp only[go_sem,G,h5,a0,J,S,E,f1,f2,f3,f4,f5,f6,f9,t1,t2,t3,nz,a1,a2,b1,b2,k4,g4,k5,k6,g6,k9,n1,n2,n3,n4,n5,hx,hy,a8,a9];rfl,?_⟩
      simp only[go_sem,G,h5,a0,J,E,nz,n4,n5];refine⟨by omega,rfl,fun i a6 a7=>?_⟩;rcases yB (xk a7)with q|q
      .exact hi i a6 q
      .subst q;rw[<- b4];exact hp)
    |exact .inr ⟨_,by simp only[go_sem,G,h5,a0,J,S,E,f1,f2,f4,f5,f6,f9,t1,t2,t3,nz,a1,a2,b1,b2,k4,g4,k5,k6,g6,k9,n1,n2,n3,n4,n5,hx,hy,a8,a9];rfl,by simp,.inr ⟨_,_,_,rfl,by simp only[go_sem],no hp⟩⟩) (by
    clear hL;rintro ⟨T,σ,nx⟩ ⟨hn,E,G,h5,a0,J,S,hi⟩;simp only at hn E G J S;exact⟨_,by simp only[go_sem,J,S,zl];rfl,by simp,.inl ⟨_,_,_,rfl,fun i h=>hi i h h⟩⟩) (by
    simp only[go_sem,G,E];exact⟨b6,fun i _ h=>absurd h (zW _)⟩)
  rcases hr with ⟨T,σ,nx,rfl,hm⟩|⟨T,σ,nx,rfl,h2,hn⟩
  .have:dF s:=⟨by omega,by omega,hj,fun m b7=>by obtain⟨i,hi,rfl⟩:=yV b7;exact hm i hi⟩
   simp only[go_sem,dZ this]
  .simp only[go_sem,h2,bP hn]
 .simp only[go_sem,h2,bP hn]
def dJ(n:Nat)(l:List Int):Prop:=l.length=2*n/\∀x∈l,inB x (-100) 100=true
def gy(n:Nat)(l:List Int):Prop:=l.length=n/\∀x∈l,inB x 0 1000=true
theorem Oe(x:Int):fn Tryz.prog conv ext 129 [I x]=some (Bo (!inB x (-100) 100)):=by
 have E:=ai0 x;rw[aH,ak [.tmp 2] [] Tryz.func129];simp only[go_sem,E]
theorem JU(x:Int):fn Tryz.prog conv ext 106 [I x]=some (Bo (!inB x 0 1000)):=by
 have E:=ai1 x;rw[aH,ak [.tmp 2] [] Tryz.func106];simp only[go_sem,E]
theorem acU(row:List V)(off:Nat)(E:List Joint)(l:List Int)(S:row[off]?=some (LL cJoint E))(hj:E.length<=140737488351232)(hl:l.length<=maxLen):fn Tryz.prog conv ext 104 [.tp row off,LI l]=some (Bo (pb (dJ E.length l))):=by
 have Y:=ah (n:=2*(E.length:Int));have h1:=Y2 l 129 (fun x=> !inB x (-100) 100) hl (by rfl) (fun x _=>Oe x);rw[aH,ak [.tmp 4] [] Tryz.func104]
 by_cases J:(l.length:Int)=2*(E.length:Int)
 .have G:((l.length:Int)==2*(E.length:Int))=true:=by simpa using J
  have:pb (dJ E.length l)= !decide (0<=ix (fun x=> !inB x (-100) 100) l):=by
   refine(OQ ?_).symm;rw[Bool.not_eq_true',decide_eq_false_iff_not,Int.not_le,Jt];exact⟨fun O=>⟨by omega,fun m hm=>by simpa using O m hm⟩,fun O m hm=>by simp[O.2 m hm]⟩
  rw[this];simp only[go_sem,S,Y,h1,G]
 .have G:((l.length:Int)==2*(E.length:Int))=false:=by simpa using J
  rw[bP (fun hn=>J (by have:=hn.1;omega))];simp only[go_sem,S,Y,G]
theorem Ju(row:List V)(off:Nat)(G:List Member)(l:List Int)(S:row[off+1]?=some (LL cMember G))(Y:l.length<=maxLen):fn Tryz.prog conv ext 78 [.tp row off,LI l]=some (Bo (pb (gy G.length l))):=by
 have h1:=Y2 l 106 (fun x=> !inB x 0 1000) Y (by rfl) (fun x _=>JU x);rw[aH,ak [.tmp 4] [] Tryz.func78]
 by_cases J:(l.length:Int)=(G.length:Int)
 .have E:((l.length:Int)==(G.length:Int))=true:=by simpa using J
  have:pb (gy G.length l)= !decide (0<=ix (fun x=> !inB x 0 1000) l):=by
   refine(OQ ?_).symm;rw[Bool.not_eq_true',decide_eq_false_iff_not,Int.not_le,Jt];exact⟨fun O=>⟨by omega,fun m hm=>by simpa using O m hm⟩,fun O m hm=>by simp[O.2 m hm]⟩
  rw[this];simp only[go_sem,S,h1,E]
 .have E:((l.length:Int)==(G.length:Int))=false:=by simpa using J
  rw[bP (fun hn=>J (by have:=hn.1;omega))];simp only[go_sem,S,E]
theorem aav(s:Structure)(l:List Int)(h:okStructure s)(E:l.length<=maxLen):fn Tryz.prog conv ext 77 [.agg (cStructure s),LI l]=some (Bo (pb (dF s) && pb (dJ s.joints.length l))):=by
 have G:=Gz s h;have J:=acU (cStructure s) 0 s.joints l rfl (by have:=h.1.2.1;omega) E;rw[aH,ak [.tmp 4] [] Tryz.func77];generalize pb (dF s)=b at *;cases b<;>simp only[go_sem,G,J]
theorem aaw(s:Structure)(l:List Int)(h:okStructure s)(hl:l.length<=maxLen):fn Tryz.prog conv ext 70 [.agg (cStructure s),LI l]=some (Bo (pb (dF s) && pb (dJ s.joints.length l))):=by
 have h1:=nK s h;have e2:(l.length:Int)<=9223372036854775807:=by unfold maxLen at hl;omega
 have e1:=ah (n:=2*(s.joints.length:Int)) (by have:=h.1.2.1;have:=h.2.2.1;omega) (by have:=h.1.2.1;have:=h.2.2.1;omega);rw[aH,ak [.tmp 4] [] Tryz.func70];generalize pb (dF s)=b at *;cases b with
 |false=>simp only[go_sem,h1]
 |true=>
 by_cases h2:(l.length:Int)=2*(s.joints.length:Int)
 .have S:((l.length:Int) !=2*(s.joints.length:Int))=false:=by simpa using h2
  simp only[go_sem,h1,e1,S];generalize hL:aF _ _=y;obtain⟨r,rfl,hr⟩:=aB hL l.length (fun k st=>st.T 19=LI l/\st.T 20=I l.length/\st.T 21=I k/\∀i (h:i<l.length),i<k->inB l[i] (-100) 100=true)
   (fun r=>(∃T σ nx,r=(.exit 0,⟨T,σ,nx⟩)/\dJ s.joints.length l)\/(∃T σ nx,r=(.ret,⟨T,σ,nx⟩)/\T 4=Bo false/\¬dJ s.joints.length l)) (by
    clear hL;rintro k ⟨T,σ,nx⟩ Y ⟨G,E,J,hi⟩;simp only at G E J;have f1:(k:Int)<(l.length:Int):=by omega
    have f2:=aI k;have f3:=ah (n:=(k:Int)+1);have f4:(l.flatMap cI)[k]?=some (I l[k]):=mX I l k Y;have f9:=fB l k Y;have t1:=ql l[k] (-100) 100;cases hb:inB l[k] (-100) 100 with
    |true=>
     rw[hb]at t1;refine .inl ⟨_,by simp only[go_sem,G,E,J,f1,f2,f3,f4,f9,t1];rfl,?_⟩;simp only[go_sem,G,E];refine⟨rfl,fun i O a0=>?_⟩;rcases yB (xk a0)with q|q
     .exact hi i O q
     .subst q;exact hb
    |false=>
     rw[hb]at t1;refine .inr ⟨_,by simp only[go_sem,G,E,J,f1,f2,f4,f9,t1];rfl,by simp,.inr ⟨_,_,_,rfl,by simp only[go_sem],fun hn=>?_⟩⟩;have:=hn.2 _ (zu Y);rw[hb]at this;cases this) (by
    clear hL;rintro ⟨T,σ,nx⟩ ⟨G,E,J,hi⟩;simp only at G E J;exact⟨_,by simp only[go_sem,E,J,zl];rfl,by simp,.inl ⟨_,_,_,rfl,by omega,fun x hx=>by obtain⟨i,O,rfl⟩:=yV hx;exact hi i O O⟩⟩) (by
    simp only[go_sem];exact fun i _ h=>absurd h (zW _))
  rcases hr with ⟨T,σ,nx,rfl,hm⟩|⟨T,σ,nx,rfl,h2,hn⟩
  .simp only[go_sem,dZ hm]
  .simp only[go_sem,h2,bP hn]
 .have S:((l.length:Int) !=2*(s.joints.length:Int))=true:=by simpa using h2
  rw[bP (p:=dJ s.joints.length l) (fun hn=>h2 (by have:=hn.1;omega))];simp only[go_sem,h1,e1,S]
theorem OU(s:Structure)(l:List Int)(h:okStructure s)(hl:l.length<=maxLen):fn Tryz.prog conv ext 71 [.agg (cStructure s),LI l]=some (Bo (pb (dF s) && pb (gy s.members.length l))):=by
 have h1:=nK s h;have e2:(l.length:Int)<=9223372036854775807:=by unfold maxLen at hl;omega
 have e1:=ah (n:=(s.members.length:Int)) (by have:=h.1.2.1;have:=h.2.2.1;omega) (by have:=h.1.2.1;have:=h.2.2.1;omega);rw[aH,ak [.tmp 4] [] Tryz.func71];generalize pb (dF s)=b at *;cases b with
 |false=>simp only[go_sem,h1]
 |true=>
 by_cases h2:(l.length:Int)=(s.members.length:Int)
 .have S:((l.length:Int) !=(s.members.length:Int))=false:=by simpa using h2
  simp only[go_sem,h1,e1,S];generalize hL:aF _ _=y;obtain⟨r,rfl,hr⟩:=aB hL l.length (fun k st=>st.T 18=LI l/\st.T 19=I l.length/\st.T 20=I k/\∀i (h:i<l.length),i<k->inB l[i] 0 1000=true)
   (fun r=>(∃T σ nx,r=(.exit 0,⟨T,σ,nx⟩)/\gy s.members.length l)\/(∃T σ nx,r=(.ret,⟨T,σ,nx⟩)/\T 4=Bo false/\¬gy s.members.length l)) (by
    clear hL;rintro k ⟨T,σ,nx⟩ Y ⟨G,E,J,hi⟩;simp only at G E J;have f1:(k:Int)<(l.length:Int):=by omega
    have f2:=aI k;have f3:=ah (n:=(k:Int)+1);have f4:(l.flatMap cI)[k]?=some (I l[k]):=mX I l k Y;have f9:=fB l k Y;have t1:=ql l[k] 0 1000;cases hb:inB l[k] 0 1000 with
    |true=>
     rw[hb]at t1;refine .inl ⟨_,by simp only[go_sem,G,E,J,f1,f2,f3,f4,f9,t1];rfl,?_⟩;simp only[go_sem,G,E];refine⟨rfl,fun i O a0=>?_⟩;rcases yB (xk a0)with q|q
     .exact hi i O q
     .subst q;exact hb
    |false=>
     rw[hb]at t1;refine .inr ⟨_,by simp only[go_sem,G,E,J,f1,f2,f4,f9,t1];rfl,by simp,.inr ⟨_,_,_,rfl,by simp only[go_sem],fun hn=>?_⟩⟩;have:=hn.2 _ (zu Y);rw[hb]at this;cases this) (by
    clear hL;rintro ⟨T,σ,nx⟩ ⟨G,E,J,hi⟩;simp only at G E J;exact⟨_,by simp only[go_sem,E,J,zl];rfl,by simp,.inl ⟨_,_,_,rfl,by omega,fun x hx=>by obtain⟨i,O,rfl⟩:=yV hx;exact hi i O O⟩⟩) (by
    simp only[go_sem];exact fun i _ h=>absurd h (zW _))
  rcases hr with ⟨T,σ,nx,rfl,hm⟩|⟨T,σ,nx,rfl,h2,hn⟩
  .simp only[go_sem,dZ hm]
  .simp only[go_sem,h2,bP hn]
 .have S:((l.length:Int) !=(s.members.length:Int))=true:=by simpa using h2
  rw[bP (p:=gy s.members.length l) (fun hn=>h2 (by have:=hn.1;omega))];simp only[go_sem,h1,e1,S]
noncomputable def jw(t:Stance):Bool:=pb (oO t.name) && ((pb (dF t.st) && pb (dJ t.st.joints.length t.load)) && pb (gy t.st.members.length t.limits))
theorem OV(t:Stance)(h:okStance t):fn Tryz.prog conv ext 41 [.agg (cStance t)]=some (Bo (jw t)):=by
 have E:=aau t.name h.1;have G:=aav t.st t.load h.2.1 h.2.2.1.2.2;have J:=Ju (cStance t) 1 t.st.members t.limits rfl h.2.2.2.2.2;unfold jw;generalize pb (oO t.name)=b1 at *;generalize (pb (dF t.st) && pb (dJ t.st.joints.length t.load))=O at *;rw[aH,ak [.tmp 2] [] Tryz.func41];cases b1<;>cases O<;>simp only[go_sem,E,G,J]
theorem OW(t:Stance)(h:okStance t):fn Tryz.prog conv ext 37 [.agg (cStance t)]=some (Bo (jw t)):=by
 have E:=aat t.name h.1;have G:=aaw t.st t.load h.2.1 h.2.2.1.2.2;have J:=OU t.st t.limits h.2.1 h.2.2.2.2.2;unfold jw;generalize pb (oO t.name)=b1 at *;generalize pb (dF t.st)=O at *;generalize pb (dJ t.st.joints.length t.load)=S at *;rw[aH,ak [.tmp 2] [] Tryz.func37];cases b1<;>cases O<;>cases S<;>simp only[go_sem,E,G,J]
set_option maxRecDepth 100000 in
theorem ai2(x y:Operand)(a b c d:Int):dK Tryz.prog .eql 83 x y (.agg [I a,I b]) (.agg [I c,I d])=some (Bo ((a==c) && (b==d))):=by
 refine YS (us:=[.int .i64 a,.int .i64 b]) (vs:=[.int .i64 c,.int .i64 d]) (by kernel_rfl) Tryz.underlying83 (by kernel_rfl) rfl rfl ?_;refine(CP (a:=.int .i64 a) (b:=.int .i64 c) (r:=a==c) (by decide) (by kernel_rfl) (by kernel_rfl) (CO _ _ _ _ _ _ Tryz.underlying3)).trans ?_;cases (a==c)
 .rfl
 .refine(CP (a:=.int .i64 b) (b:=.int .i64 d) (r:=b==d) (by decide) (by kernel_rfl) (by kernel_rfl) (CO _ _ _ _ _ _ Tryz.underlying3)).trans ?_
  cases (b==d)<;>rfl
attribute [go_sem] ai2
def ig(m o:TV.Move):Bool:=(m.fr==o.fr) && (m.to==o.to)
theorem LJ(m o:TV.Move):ig m o=ig o m:=by
 unfold ig;rw[Bool.beq_comm (a:=m.fr),Bool.beq_comm (a:=m.to)]
theorem OX(xs:List TV.Move)(m:TV.Move)(h:xs.length<=maxLen):fn Tryz.prog conv ext 88 [LL cMove xs,.agg (cMove m)]=some (I (ix (ig m) xs)):=by
 have e2:(xs.length:Int)<=9223372036854775807:=by unfold maxLen at h;omega
 rw[aH,ak [.tmp 4] [] Tryz.func88];simp only[go_sem];generalize hL:aF _ _=y;obtain⟨r,rfl,hr⟩:=aB hL xs.length (fun k st=>0<st.nx/\st.σ 0=some ⟨cMove m,0,true⟩/\st.T 0=LL cMove xs/\st.T 3= .rp 0 0/\st.T 7=I xs.length/\st.T 8=I k/\∀i (h:i<xs.length),i<k->ig m xs[i]=false)
  (fun r=>(∃T σ nx,r=(.exit 0,⟨T,σ,nx⟩)/\ix (ig m) xs= -1)\/(∃T σ nx,r=(.ret,⟨T,σ,nx⟩)/\T 4=I (ix (ig m) xs))) (by
   clear hL;rintro k ⟨T,σ,nx⟩ G ⟨hn,E,Y,J,O,S,hi⟩;simp only at hn E Y J O S;have f1:(k:Int)<(xs.length:Int):=by omega
   have f2:=aI k;have f3:=ah (n:=(k:Int)+1);have f4:=LC xs k G;have f5:=BF xs;have f6:k*2+2<=xs.length*2:=by omega
   have f9:=LD xs k G;cases hp:ig m xs[k]with
   |true=>
    refine .inr ⟨_,by unfold ig at hp;simp only[go_sem,Y,J,O,S,hn,E,f1,f2,f4,f5,f6,f9,hp];rfl,by simp,.inr ⟨_,_,_,rfl,?_⟩⟩;simp only[go_sem];rw[Gy G hi hp]
   |false=>
    refine .inl ⟨_,by unfold ig at hp;simp only[go_sem,Y,J,O,S,hn,E,f1,f2,f3,f4,f5,f6,f9,hp];rfl,?_⟩;simp only[go_sem,Y,J,O,E];exact⟨hn,rfl,uD G hi hp⟩) (by
   clear hL;rintro ⟨T,σ,nx⟩ ⟨hn,E,Y,J,O,S,hi⟩;simp only at O S;exact⟨_,by simp only[go_sem,O,S,zl];rfl,by simp,.inl ⟨_,_,_,rfl,uz fun i h=>hi i h h⟩⟩) (by
   simp only[go_sem];exact fun i _ h=>absurd h (zW _))
 rcases hr with ⟨T,σ,nx,rfl,J⟩|⟨T,σ,nx,rfl,J⟩
 .simp only[go_sem,J]
 .simp only[go_sem,J]
def kD(n:Nat)(m:TV.Move):Prop:=0<=m.fr/\m.fr<n/\0<=m.to/\m.to<n/\m.fr≠m.to
def dw(y:Yard):Prop:=y.stances.length<=6/\y.moves.length<=12/\(∀i (h:i<y.stances.length),jw y.stances[i]=true/\ix (isNamed y.stances[i].name) y.stances=i)/\∀i (h:i<y.moves.length),kD y.stances.length y.moves[i]/\ix (ig y.moves[i]) y.moves=i
theorem QW(s:Yard)(h:okYard s):fn Tryz.prog conv ext 53 [.agg (cYard s)]=some (Bo (pb (dw s))):=by
 have e2:(s.stances.length:Int)<=9223372036854775807:=by have:=h.1.2.1;omega
 have e3:(s.moves.length:Int)<=9223372036854775807:=by have:=h.2.1.2.1;omega
 rw[aH,ak [.tmp 2] [] Tryz.func53]
 by_cases c1:(6:Int)<s.stances.length
 .rw[bP (fun hn=>by have:=hn.1;omega)]
  simp only[go_sem,c1]
 by_cases c2:(12:Int)<s.moves.length
 .rw[bP (fun hn=>by have:=hn.2.1;omega)]
  simp only[go_sem,c1,c2]
 simp only[go_sem,c1,c2];generalize hL:aF _ _=y;obtain⟨r,rfl,hr⟩:=aB hL s.stances.length (fun k st=>0<st.nx/\st.σ 0=some ⟨cYard s,0,true⟩/\st.T 1= .rp 0 0/\st.T 20=LL cStance s.stances/\st.T 21=I s.stances.length/\st.T 22=I k/\st.T 3=I s.stances.length/\∀i (h:i<s.stances.length),i<k->jw s.stances[i]=true/\ix (isNamed s.stances[i].name) s.stances=i)
  (fun r=>(∃T σ nx,r=(.exit 0,⟨T,σ,nx⟩)/\0<nx/\σ 0=some ⟨cYard s,0,true⟩/\T 1= .rp 0 0/\T 3=I s.stances.length/\∀i (h:i<s.stances.length),jw s.stances[i]=true/\ix (isNamed s.stances[i].name) s.stances=i)\/(∃T σ nx,r=(.ret,⟨T,σ,nx⟩)/\T 2=Bo false/\¬dw s)) (by
   clear hL;rintro k ⟨T,σ,nx⟩ S ⟨hn,E,J,a1,a0,a2,h3,hi⟩;simp only at hn E J a1 a0 a2 h3;have f1:(k:Int)<(s.stances.length:Int):=by omega
   have f2:=aI k;have f3:=ah (n:=(k:Int)+1);have f4:=Oa s.stances k S;have f5:=EO s.stances;have f6:k*5+5<=s.stances.length*5:=by omega
   have f9:=Ob s.stances k S;have t1:=OV s.stances[k] (h.1.1 _ (zu S));have t2:=QU s s.stances[k].name h.1.2.2;have nz:¬0=nx:=by omega
   cases hj:jw s.stances[k]with
   |false=>
    rw[hj]at t1;refine .inr ⟨_,by simp only[go_sem,J,a1,a0,a2,f1,f2,f4,f5,f6,f9,t1,nz];rfl,by simp,.inr ⟨_,_,_,rfl,?_,fun hn=>?_⟩⟩
    .simp only[go_sem]
    .have:=(hn.2.2.1 k S).1
     rw[hj]at this;cases this
   |true=>
    rw[hj]at t1
    by_cases hk:ix (isNamed s.stances[k].name) s.stances=k
    .rw[hk]at t2
     refine .inl ⟨_,by simp only[go_sem,J,a1,a0,a2,E,f1,f2,f3,f4,f5,f6,f9,t1,t2,nz];rfl,?_⟩;simp only[go_sem,J,a1,a0,E,nz,h3];refine⟨by omega,rfl,fun i a4 a5=>?_⟩;rcases yB (xk a5)with q|q
     .exact hi i a4 q
     .subst q;exact⟨hj,hk⟩
    .have a8:(ix (isNamed s.stances[k].name) s.stances !=(k:Int))=true:=by simpa using hk
     refine .inr ⟨_,by simp only[go_sem,J,a1,a0,a2,E,f1,f2,f4,f5,f6,f9,t1,t2,a8,nz];rfl,by simp,.inr ⟨_,_,_,rfl,?_,fun hn=>hk (hn.2.2.1 k S).2⟩⟩;simp only[go_sem]) (by
   clear hL;rintro ⟨T,σ,nx⟩ ⟨hn,E,J,a1,a0,a2,h3,hi⟩;simp only at hn E J a1 a0 a2 h3;exact⟨_,by simp only[go_sem,a0,a2,zl];rfl,by simp,.inl ⟨_,_,_,rfl,hn,E,by simp only[go_sem,J],by simp only[go_sem,h3],fun i h=>hi i h h⟩⟩) (by
   simp only[go_sem];exact fun i _ h=>absurd h (zW _))
 rcases hr with ⟨T,σ,nx,rfl,a9,E,J,h3,hj⟩|⟨T,σ,nx,rfl,h2,hn⟩
 .clear hL
  simp only[go_sem,E,J];generalize hL:aF _ _=y;obtain⟨r,rfl,hr⟩:=aB hL s.moves.length (fun k st=>0<st.nx/\st.σ 0=some ⟨cYard s,0,true⟩/\st.T 1= .rp 0 0/\st.T 3=I s.stances.length/\st.T 40=LL cMove s.moves/\st.T 41=I s.moves.length/\st.T 42=I k/\∀i (h:i<s.moves.length),i<k->kD s.stances.length s.moves[i]/\ix (ig s.moves[i]) s.moves=i)
   (fun r=>(∃T σ nx,r=(.exit 2,⟨T,σ,nx⟩)/\∀i (h:i<s.moves.length),kD s.stances.length s.moves[i]/\ix (ig s.moves[i]) s.moves=i)\/(∃T σ nx,r=(.ret,⟨T,σ,nx⟩)/\T 2=Bo false/\¬dw s)) (by
    clear hL;rintro k ⟨T,σ,nx⟩ S ⟨hn,E,J,h5,Y,G,O,hi⟩;simp only at hn E J h5 Y G O;have f1:(k:Int)<(s.moves.length:Int):=by omega
    have f2:=aI k;have f3:=ah (n:=(k:Int)+1);have f4:=LC s.moves k S;have f5:=BF s.moves;have f6:k*2+2<=s.moves.length*2:=by omega
    have f9:=LD s.moves k S;have no:¬kD s.stances.length s.moves[k]->¬dw s:=fun hb hn=>hb (hn.2.2.2 k S).1
    have a7:¬ix (ig s.moves[k]) s.moves=k->¬dw s:=fun hb hn=>hb (hn.2.2.2 k S).2
    have done:kD s.stances.length s.moves[k]->ix (ig s.moves[k]) s.moves=k->∀i (h:i<s.moves.length),i<k+1->kD s.stances.length s.moves[i]/\ix (ig s.moves[i]) s.moves=i:=fun g1 g2 i a4 a5=>by
     rcases yB (xk a5)with q|q
     .exact hi i a4 q
     .subst q;exact⟨g1,g2⟩
    have nz:¬0=nx:=by omega
    have t1:=OX s.moves s.moves[k] h.2.1.2.2;generalize b3:ix (ig s.moves[k]) s.moves=ii at t1 a7 done;obtain⟨m,b2⟩:∃m,m=s.moves[k]:=⟨_,rfl⟩;rw[<- b2]at f4 no done t1
    by_cases c1:m.fr<0
    .refine .inr ⟨_,by simp only[go_sem,J,h5,Y,G,O,E,f1,f2,f4,f5,f6,f9,nz,c1];rfl,by simp,.inr ⟨_,_,_,rfl,by simp only[go_sem],no fun hm=>?_⟩⟩
     have:=hm.1;omega
    by_cases c2:(s.stances.length:Int)<=m.fr
    .refine .inr ⟨_,by simp only[go_sem,J,h5,Y,G,O,E,f1,f2,f4,f5,f6,f9,nz,c1,c2];rfl,by simp,.inr ⟨_,_,_,rfl,by simp only[go_sem],no fun hm=>?_⟩⟩
     have:=hm.2.1;omega
    by_cases c3:m.to<0
    .refine .inr ⟨_,by simp only[go_sem,J,h5,Y,G,O,E,f1,f2,f4,f5,f6,f9,nz,c1,c2,c3];rfl,by simp,.inr ⟨_,_,_,rfl,by simp only[go_sem],no fun hm=>?_⟩⟩
     have:=hm.2.2.1;omega
    by_cases c4:(s.stances.length:Int)<=m.to
    .refine .inr ⟨_,by simp only[go_sem,J,h5,Y,G,O,E,f1,f2,f4,f5,f6,f9,nz,c1,c2,c3,c4];rfl,by simp,.inr ⟨_,_,_,rfl,by simp only[go_sem],no fun hm=>?_⟩⟩
     have:=hm.2.2.2.1;omega
    by_cases c5:m.fr=m.to
    .have a3:(m.fr==m.to)=true:=by simpa using c5
     exact .inr ⟨_,by simp only[go_sem,J,h5,Y,G,O,E,f1,f2,f4,f5,f6,f9,nz,c1,c2,c3,c4,a3];rfl,by simp,.inr ⟨_,_,_,rfl,by simp only[go_sem],no fun hm=>hm.2.2.2.2 c5⟩⟩
    have a3:(m.fr==m.to)=false:=by simpa using c5
    by_cases c6:ii=k
    .have a6:(ii !=(k:Int))=false:=by simpa using c6
     refine .inl ⟨_,by simp only[go_sem,J,h5,Y,G,O,E,f1,f2,f3,f4,f5,f6,f9,nz,c1,c2,c3,c4,a3,a6,t1];rfl,?_⟩;simp only[go_sem,J,h5,Y,G,E,nz];exact⟨by omega,rfl,done ⟨by omega,by omega,by omega,by omega,c5⟩ c6⟩
    .have a6:(ii !=(k:Int))=true:=by simpa using c6
     exact .inr ⟨_,by simp only[go_sem,J,h5,Y,G,O,E,f1,f2,f4,f5,f6,f9,nz,c1,c2,c3,c4,a3,a6,t1];rfl,by simp,.inr ⟨_,_,_,rfl,by simp only[go_sem],a7 c6⟩⟩) (by
    clear hL;rintro ⟨T,σ,nx⟩ ⟨hn,E,J,h5,Y,G,O,hi⟩;simp only at hn E J G O;exact⟨_,by simp only[go_sem,G,O,zl];rfl,by simp,.inl ⟨_,_,_,rfl,fun i h=>hi i h h⟩⟩) (by
    simp only[go_sem,J,E,h3];exact⟨a9,fun i _ h=>absurd h (zW _)⟩)
  rcases hr with ⟨T,σ,nx,rfl,hm⟩|⟨T,σ,nx,rfl,h2,hn⟩
  .have:dw s:=⟨by omega,by omega,hj,hm⟩
   simp only[go_sem,dZ this]
  .simp only[go_sem,h2,bP hn]
 .simp only[go_sem,h2,bP hn]
theorem OY {α:Type} {p:α->Bool} {xs:List α} {k:Nat}(h:ix p xs=k)(i:Nat)(hi:i<xs.length)(E:i<k):p xs[i]=false:=by
 unfold ix at h
 split at h
 .have:i<xs.findIdx p:=by omega
  simpa using List.not_of_lt_findIdx this
 .omega
theorem QX(s:Yard)(h:okYard s):fn Tryz.prog conv ext 47 [.agg (cYard s)]=some (Bo (pb (dw s))):=by
 have e2:(s.stances.length:Int)<=9223372036854775807:=by have:=h.1.2.1;omega
 have e3:(s.moves.length:Int)<=9223372036854775807:=by have:=h.2.1.2.1;omega
 rw[aH,ak [.tmp 2] [] Tryz.func47]
 by_cases c1:(6:Int)<s.stances.length
 .rw[bP (fun hn=>by have:=hn.1;omega)]
  simp only[go_sem,c1]
 by_cases c2:(12:Int)<s.moves.length
 .rw[bP (fun hn=>by have:=hn.2.1;omega)]
  simp only[go_sem,c1,c2]
 simp only[go_sem,c1,c2];generalize hL:aF _ _=y;obtain⟨r,rfl,hr⟩:=aB hL s.stances.length (fun k st=>0<st.nx/\st.σ 0=some ⟨cYard s,0,true⟩/\st.T 1= .rp 0 0/\st.T 21=LL cStance s.stances/\st.T 22=I s.stances.length/\st.T 23=I k/\∀i (h:i<s.stances.length),i<k->jw s.stances[i]=true/\ix (isNamed s.stances[i].name) s.stances=i)
  (fun r=>(∃T σ nx,r=(.exit 0,⟨T,σ,nx⟩)/\0<nx/\σ 0=some ⟨cYard s,0,true⟩/\T 1= .rp 0 0/\∀i (h:i<s.stances.length),jw s.stances[i]=true/\ix (isNamed s.stances[i].name) s.stances=i)\/(∃T σ nx,r=(.ret,⟨T,σ,nx⟩)/\T 2=Bo false/\¬dw s)) (by
   clear hL;rintro k ⟨T,σ,nx⟩ Y ⟨hn,E,S,a2,a1,a3,hi⟩;simp only at hn E S a2 a1 a3;have f1:(k:Int)<(s.stances.length:Int):=by omega
   have f2:=aI k;have f3:=ah (n:=(k:Int)+1);have f4:=Oa s.stances k Y;have f5:=EO s.stances;have f6:k*5+5<=s.stances.length*5:=by omega
   have f9:=Ob s.stances k Y;have t1:=OW s.stances[k] (h.1.1 _ (zu Y));have t2:=QV s s.stances[k].name h.1.2.2;have nz:¬0=nx:=by omega
   cases hj:jw s.stances[k]with
   |false=>
    rw[hj]at t1;refine .inr ⟨_,by simp only[go_sem,S,a2,a1,a3,f1,f2,f4,f5,f6,f9,t1,nz];rfl,by simp,.inr ⟨_,_,_,rfl,?_,fun hn=>?_⟩⟩
    .simp only[go_sem]
    .have:=(hn.2.2.1 k Y).1
     rw[hj]at this;cases this
   |true=>
    rw[hj]at t1
    by_cases hk:ix (isNamed s.stances[k].name) s.stances=k
    .rw[hk]at t2
     refine .inl ⟨_,by simp only[go_sem,S,a2,a1,a3,E,f1,f2,f3,f4,f5,f6,f9,t1,t2,nz];rfl,?_⟩;simp only[go_sem,S,a2,a1,E,nz];refine⟨by omega,rfl,fun i a0 a4=>?_⟩;rcases yB (xk a4)with q|q
     .exact hi i a0 q
     .subst q;exact⟨hj,hk⟩
    .have b8:(ix (isNamed s.stances[k].name) s.stances !=(k:Int))=true:=by simpa using hk
     refine .inr ⟨_,by simp only[go_sem,S,a2,a1,a3,E,f1,f2,f4,f5,f6,f9,t1,t2,b8,nz];rfl,by simp,.inr ⟨_,_,_,rfl,?_,fun hn=>hk (hn.2.2.1 k Y).2⟩⟩;simp only[go_sem]) (by
   clear hL;rintro ⟨T,σ,nx⟩ ⟨hn,E,S,a2,a1,a3,hi⟩;simp only at hn E S a2 a1 a3;exact⟨_,by simp only[go_sem,a1,a3,zl];rfl,by simp,.inl ⟨_,_,_,rfl,hn,E,by simp only[go_sem,S],fun i h=>hi i h h⟩⟩) (by
   simp only[go_sem];exact fun i _ h=>absurd h (zW _))
 rcases hr with ⟨T,σ,nx,rfl,b9,E,S,hj⟩|⟨T,σ,nx,rfl,h2,hn⟩
 .clear hL
  have e4:=ah (n:=(s.stances.length:Int) - 1);simp only[go_sem,E,S,e4];generalize hL:aF _ _=y;obtain⟨r,rfl,hr⟩:=aB hL s.moves.length (fun k st=>0<st.nx/\st.σ 0=some ⟨cYard s,0,true⟩/\st.T 1= .rp 0 0/\st.T 5=I ((s.stances.length:Int) - 1)/\st.T 45=LL cMove s.moves/\st.T 46=I s.moves.length/\st.T 47=I k/\∀i (h:i<s.moves.length),i<k->kD s.stances.length s.moves[i]/\ix (ig s.moves[i]) s.moves=i)
   (fun r=>(∃T σ nx,r=(.exit 2,⟨T,σ,nx⟩)/\∀i (h:i<s.moves.length),kD s.stances.length s.moves[i]/\ix (ig s.moves[i]) s.moves=i)\/(∃T σ nx,r=(.ret,⟨T,σ,nx⟩)/\T 2=Bo false/\¬dw s)) (by
    clear hL;rintro k ⟨T,σ,nx⟩ Y ⟨hn,E,S,h5,O,G,J,hi⟩;simp only at hn E S h5 O G J;have f1:(k:Int)<(s.moves.length:Int):=by omega
    have f2:=aI k;have f3:=ah (n:=(k:Int)+1);have f4:=LC s.moves k Y;have f5:=BF s.moves;have f6:k*2+2<=s.moves.length*2:=by omega
    have f9:=LD s.moves k Y;have no:¬kD s.stances.length s.moves[k]->¬dw s:=fun hb hn=>hb (hn.2.2.2 k Y).1
    have b5:∀i (h:i<s.moves.length),i<k->ig s.moves[i] s.moves[k]=true->¬dw s:=fun i a0 a4 hb hn=>by
     have:=OY (hn.2.2.2 k Y).2 i a0 a4;rw[LJ,hb]at this;cases this
    have done:kD s.stances.length s.moves[k]->(∀i (h:i<s.moves.length),i<k->ig s.moves[i] s.moves[k]=false)->∀i (h:i<s.moves.length),i<k+1->kD s.stances.length s.moves[i]/\ix (ig s.moves[i]) s.moves=i:=fun g1 g2 i a0 a4=>by
     rcases yB (xk a4)with q|q
     .exact hi i a0 q
     .subst q
      exact⟨g1,Gy a0 (fun j hj c0=>by rw[LJ];exact g2 j hj c0) (by unfold ig;simp)⟩
    have nz:¬0=nx:=by omega
    obtain⟨m,c3⟩:∃m,m=s.moves[k]:=⟨_,rfl⟩;rw[<- c3]at f4 no b5 done;have t1:=ql m.fr 0 ((s.stances.length:Int) - 1);have t2:=ql m.to 0 ((s.stances.length:Int) - 1);cases ha:inB m.fr 0 ((s.stances.length:Int) - 1)with
    |false=>
     rw[ha]at t1;refine .inr ⟨_,by simp only[go_sem,S,h5,O,G,J,E,f1,f2,f4,f5,f6,f9,nz,t1];rfl,by simp,.inr ⟨_,_,_,rfl,by simp only[go_sem],no fun hm=>?_⟩⟩;exact qm ha ⟨hm.1,by have:=hm.2.1;omega⟩
    |true=>
    rw[ha]at t1;cases hb:inB m.to 0 ((s.stances.length:Int) - 1)with
    |false=>
     rw[hb]at t2;refine .inr ⟨_,by simp only[go_sem,S,h5,O,G,J,E,f1,f2,f4,f5,f6,f9,nz,t1,t2];rfl,by simp,.inr ⟨_,_,_,rfl,by simp only[go_sem],no fun hm=>?_⟩⟩;exact qm hb ⟨hm.2.2.1,by have:=hm.2.2.2.1;omega⟩
    |true=>
    rw[hb]at t2
    by_cases c5:m.fr=m.to
    .have a9:(m.fr==m.to)=true:=by simpa using c5
     exact .inr ⟨_,by simp only[go_sem,S,h5,O,G,J,E,f1,f2,f4,f5,f6,f9,nz,t1,t2,a9];rfl,by simp,.inr ⟨_,_,_,rfl,by simp only[go_sem],no fun hm=>hm.2.2.2.2 c5⟩⟩
    have a9:(m.fr==m.to)=false:=by simpa using c5
    have qa:=jg ha;have qb:=jg hb;have b6:kD s.stances.length m:=⟨by omega,by omega,by omega,by omega,c5⟩;have b2:k<=s.moves.length:=by omega
    have c4:(s.moves.flatMap cMove).take (k*2)=(s.moves.take k).flatMap cMove:=by
     have e:=congrArg (fun l=>l.take (k*2)) (congrArg (fun l:List TV.Move=>l.flatMap cMove) (wP k s.moves)).symm;simp only[zT]at e;rw[e,xO];rw[BF,zh,yC b2]
    refine fD ?_
    conv=>
     enter [1,x,1,1]
     simp only[go_sem,S,h5,O,G,J,E,f1,f2,f4,f5,f6,f9,nz,t1,t2,a9,c4,b2,Nat.sub_zero,Nat.zero_le]
    generalize hL:aF _ _=z;obtain⟨r,rfl,hr⟩:=aB hL k (fun j st=>nx<st.nx/\st.σ 0=some ⟨cYard s,0,true⟩/\st.σ nx=some ⟨cMove m,0,true⟩/\st.T 1= .rp 0 0/\st.T 5=I ((s.stances.length:Int) - 1)/\st.T 7= .rp nx 0/\st.T 45=LL cMove s.moves/\st.T 46=I s.moves.length/\st.T 47=I k/\st.T 74= .ts ((s.moves.take k).flatMap cMove) k/\st.T 75=I k/\st.T 76=I j/\∀i (h:i<s.moves.length),i<j->ig s.moves[i] m=false)
     (fun r=>(∃T' σ' nx',r=(.exit 4,⟨T',σ',nx'⟩)/\0<nx'/\σ' 0=some ⟨cYard s,0,true⟩/\T' 1= .rp 0 0/\T' 5=I ((s.stances.length:Int) - 1)/\T' 45=LL cMove s.moves/\T' 46=I s.moves.length/\T' 47=I k/\∀i (h:i<s.moves.length),i<k->ig s.moves[i] m=false)\/(∃T' σ' nx',r=(.ret,⟨T',σ',nx'⟩)/\T' 2=Bo false/\¬dw s)) (by
      clear hL;rintro j ⟨T',σ',nx'⟩ c6 ⟨hn,E,a6,S,h5,h7,O,G,J,a7,a5,a8,b3⟩;simp only at hn E a6 S h5 h7 O G J a7 a5 a8;have hl:(s.moves.take k).length=k:=by rw[zh,yC b2]
      have f1:(j:Int)<(k:Int):=by omega
      have f2:=aI j;have f3:=ah (n:=(j:Int)+1);have f4:=LC (s.moves.take k) j (by omega);rw[List.getElem_take]at f4;have f5:=BF (s.moves.take k);rw[hl]at f5;have f6:j*2+2<=k*2:=by omega
      have f9:=LD (s.moves.take k) j (by omega);have q1:¬nx=nx':=by omega
      have q2:¬0=nx':=by omega
      have c7:j<s.moves.length:=by omega
      cases hp:ig s.moves[j] m with
      |true=>
       have b4:=hp;unfold ig at hp;exact .inr ⟨_,by simp only[go_sem,S,h5,h7,O,G,J,a7,a5,a8,E,a6,f1,f2,f4,f5,f6,f9,q1,q2,hp];rfl,by simp,.inr ⟨_,_,_,rfl,by simp only[go_sem],b5 j c7 c6 b4⟩⟩
      |false=>
       have b4:=hp;unfold ig at hp;refine .inl ⟨_,by simp only[go_sem,S,h5,h7,O,G,J,a7,a5,a8,E,a6,f1,f2,f3,f4,f5,f6,f9,q1,q2,hp];rfl,?_⟩;simp only[go_sem,S,h5,h7,O,G,J,a7,a5,E,a6,q1,q2];refine⟨by omega,rfl,fun i a0 a4=>?_⟩;rcases yB (xk a4)with q|q
       .exact b3 i a0 q
       .subst q;exact b4) (by
      clear hL;rintro ⟨T',σ',nx'⟩ ⟨hn,E,a6,S,h5,h7,O,G,J,a7,a5,a8,b3⟩;simp only at hn E a6 S h5 h7 O G J a7 a5 a8;refine⟨_,by simp only[go_sem,a5,a8,zl];rfl,by simp,.inl ⟨_,_,_,rfl,by omega,E,?_,?_,?_,?_,?_,b3⟩⟩<;>simp only[go_sem,S,h5,O,G,J]) (by
      simp only[go_sem,S,h5,O,G,J,E,nz];exact⟨by omega,fun i _ h=>absurd h (zW _)⟩)
    rcases hr with ⟨T',σ',nx',rfl,c8,Y3,c9,d0,d1,d2,b7,a0⟩|⟨T',σ',nx',rfl,d3,d4⟩
    .refine⟨_,by simp only[go_sem,b7,f3];rfl,.inl ⟨_,rfl,?_⟩⟩
     simp only[go_sem,c9,d0,d1,d2,Y3];exact⟨c8,rfl,done b6 a0⟩
    .exact⟨_,by simp only[go_sem];rfl,.inr ⟨by simp,.inr ⟨_,_,_,rfl,d3,d4⟩⟩⟩) (by
    clear hL;rintro ⟨T,σ,nx⟩ ⟨hn,E,S,h5,O,G,J,hi⟩;simp only at hn E S G J;exact⟨_,by simp only[go_sem,G,J,zl];rfl,by simp,.inl ⟨_,_,_,rfl,fun i h=>hi i h h⟩⟩) (by
    simp only[go_sem,S,E];exact⟨b9,fun i _ h=>absurd h (zW _)⟩)
  rcases hr with ⟨T,σ,nx,rfl,hm⟩|⟨T,σ,nx,rfl,h2,hn⟩
  .have:dw s:=⟨by omega,by omega,hj,hm⟩
   simp only[go_sem,dZ this]
  .simp only[go_sem,h2,bP hn]
 .simp only[go_sem,h2,bP hn]
def dg(n:Nat):List Int:=if n=0 then []else((n%1000000000:Nat):Int) :: dg (n / 1000000000)
termination_by n
decreasing_by exact Nat.div_lt_self (by omega) (by decide)
theorem bH:dg 0=[]:=by unfold dg;rfl
theorem nM {n:Nat}(h:n≠0):dg n=((n%1000000000:Nat):Int) :: dg (n / 1000000000):=by rw[dg,if_neg h]
theorem aax {k m n:Nat}(h:1000000000^k*m<=n)(hm:1<=m)(hn:n<=18446744073709551615):k<=2:=by
 rcases Nat.lt_or_ge k 3 with E|E
 .omega
 .have:=Nat.pow_le_pow_right (n:=1000000000) (by decide) E
  have G:1000000000^k*1<=1000000000^k*m:=Nat.mul_le_mul_left _ hm;have J:(1000000000:Nat)^3=1000000000000000000000000000:=by decide
  omega
theorem LK(n:Nat)(hn:n<=9223372036854775807):fn Tryz.prog conv ext 209 [I n]=some (LI (dg n)):=by
 rw[aH,ak [.tmp 2] [] Tryz.func209];simp only[go_sem];generalize hL:aF _ _=y;obtain⟨r,rfl,T',σ',nx',rfl,hr⟩:=bJ hL (fun m st=>st.T 0=I m/\∃acc,Grow st.T st.σ st.nx 3 acc/\dg n=acc++dg m/\1000000000^acc.length*m<=n)
  (fun r=>∃T σ nx,r=(.exit 0,⟨T,σ,nx⟩)/\Grow T σ nx 3 (dg n)) (by
   clear hL;rintro m ⟨T,σ,nx⟩ ⟨G,acc,E,J,hp⟩;simp only at G E
   by_cases hm:m=0
   .subst hm
    have O:¬(0:Int)<0:=by omega
    refine .inr ⟨_,by simp only[go_sem,G,O];rfl,by simp,_,_,_,rfl,?_⟩;rw[bH,zM]at J;rw[J]
    simpa only[Grow,go_sem]using E
   .have O:(0:Int)<(m:Int):=by omega
    have hk:=aax hp (by omega) (by omega);have a1:m<=n:=zL (Nat.le_mul_of_pos_left _ (Nat.pow_pos (by decide))) hp;have f1:(m:Int).tmod 1000000000=((m%1000000000:Nat):Int):=by rw[xG (by omega)];omega
    have f2:IntKind.i64.wrap ((m:Int).tdiv 1000000000)=((m / 1000000000:Nat):Int):=by
     rw[yJ (by omega)];rw[ah];omega
    have S:dg n=(acc++[((m%1000000000:Nat):Int)])++dg (m / 1000000000):=by rw[J,nM hm];simp
    have Y:1000000000^(acc++[((m%1000000000:Nat):Int)]).length*(m / 1000000000)<=n:=by
     rw[zo,yL,Nat.pow_succ,Nat.mul_assoc];exact zL (Nat.mul_le_mul_left _ (Nat.mul_div_le _ _)) hp
    have a0:m / 1000000000<m:=Nat.div_lt_self (by omega) (by decide);obtain⟨σ',ha,hs⟩:=fG E ((m%1000000000:Nat):Int) (by omega);refine .inl ⟨_,by simp only[go_sem,G,O,f1,f2,ha];rfl,_,a0,?_,_,?_,S,Y⟩
    .simp only[go_sem]
    .exact fH hs (by simp[go_sem]) (by simp)) n ⟨by simp only[go_sem],[],.inl ⟨by simp only[go_sem],rfl⟩,rfl,by simp⟩
 obtain⟨ids,h1⟩:=iP hr 6;simp only[go_sem,h1]
def Short(xs:List Int):Prop:=xs.length<=17592186044000
theorem idx {xs:List Int} {k:Nat}(h:k<xs.length):(xs.flatMap cI)[k]?=some (I xs[k]):=mX I xs k h
theorem pI(xs:List Int)(k:Nat):(xs.flatMap cI).take k=(xs.take k).flatMap cI:=by
 induction xs generalizing k with
 |nil=>simp
 |cons x xs E=>
  cases k with
  |zero=>rfl
  |succ k=>simp[E]
def fP(a:List Int):List Int:=(a.reverse.dropWhile (·=0)).reverse
theorem D9(a:List Int)(x:Int):fP (a++[x])=if x=0 then fP a else a++[x]:=by
 unfold fP;simp only[List.reverse_append,List.reverse_cons,List.reverse_nil,yK,List.singleton_append,List.dropWhile_cons,decide_eq_true_eq]
 split<;>simp
theorem kH {a:List Int} {k:Nat}(h:k<a.length):a.take (k+1)=a.take k++[a[k]]:=by rw[yO,zy h];rfl
theorem ER(a:List Int)(ha:Short a):fn Tryz.prog conv ext 213 [LI a]=some (LI (fP a)):=by
 unfold Short at ha;rw[aH,ak [.tmp 2] [] Tryz.func213];simp only[go_sem];generalize hL:aF _ _=y;obtain⟨r,rfl,T',k,rfl,E,J,S,O⟩:=bJ hL (fun k st=>st.nx=0/\st.σ=aK/\st.T 0=LI a/\st.T 3=I k/\k<=a.length/\fP a=fP (a.take k))
  (fun r=>∃T k,r=(.exit 0,⟨T,aK,0⟩)/\T 0=LI a/\T 3=I (k:Nat)/\k<=a.length/\fP a=a.take k) (by
   clear hL;rintro k ⟨T,σ,nx⟩ ⟨hn,Y,E,J,S,O⟩;simp only at hn Y E J;subst hn Y;cases k with
   |zero=>
    have f0:¬(0:Int)<0:=by omega
    refine .inr ⟨_,by simp only[go_sem,E,J,f0];rfl,by simp,_,0,rfl,by simp only[go_sem,E],by simp only[go_sem,J],S,?_⟩;rw[O];rfl
   |succ k=>
    have G:k<a.length:=by omega
    have f0:(0:Int)<((k+1:Nat):Int):=by omega
    have f1:=ah (n:=((k+1:Nat):Int) - 1);have f2:((k+1:Nat):Int) - 1=(k:Int):=by omega
    have f3:(k:Int)<(a.length:Int):=by omega
    have f4:=aI k;have f5:=fB a k G;have f6:=idx G;rw[f2]at f1;rw[kH G,D9]at O
    by_cases hx:a[k]=0
    .have fx:(a[k]==(0:Int))=true:=by simpa using hx
     rw[if_pos hx]at O;refine .inl ⟨_,by simp only[go_sem,E,J,f0,f1,f2,f3,f4,f5,f6,fx];rfl,k,by omega,?_⟩;simp only[go_sem,E];exact⟨by omega,O⟩
    .have fx:(a[k]==(0:Int))=false:=by simpa using hx
     rw[if_neg hx]at O;refine .inr ⟨_,by simp only[go_sem,E,J,f0,f1,f2,f3,f4,f5,f6,fx];rfl,by simp,_,k+1,rfl,by simp only[go_sem,E],by simp only[go_sem,J],S,?_⟩;rw[O,kH G]) a.length ⟨rfl,rfl,by simp only[go_sem],by simp only[go_sem],zq _,by rw[yg]⟩
 have g1:=aI k;have g2:(a.take k).length=k:=by rw[zh,yC S]
 simp only[go_sem,E,J,g1,S,Nat.zero_le,pI,O];show _=some (V.ts _ (List.take k a).length);rw[g2]
theorem scap(a:List Int)(ha:Short a)(h:(fP a).length<=60):fn Tryz.prog conv ext 208 [LI a]=some (LI (fP a)):=by
 have E:=ER a ha;have G:¬(60:Int)<((fP a).length:Int):=by omega
 rw[aH,ak [.tmp 2] [] Tryz.func208];simp only[go_sem,E,G]
theorem ai3(a:List Int):(fP a).length<=a.length:=by
 unfold fP;rw[List.length_reverse];exact zL (List.dropWhile_suffix _).length_le (by rw[List.length_reverse];exact zq _)
theorem afq(neg:Bool)(a:List Int)(ha:Short a)(h:(fP a).length<=60):fn Tryz.prog conv ext 178 [Bo neg,LI a]=some (.agg [Bo (neg && decide (0<(fP a).length)),LI (fP a)]):=by
 have E:=scap a ha h;rw[aH,ak [.cell 4 145] [] Tryz.func178];generalize fP a=m at *;cases m with
 |nil=>cases neg<;>simp only[go_sem,E]<;>rfl
 |cons x m=>
  have G:(m.length+1)<=maxLen/\(m.length+1)*8<=140737488355328:=by simp only[zD]at h;unfold maxLen;omega
  have J:¬(m.length+1=0):=by omega
  have hp:(0:Int)<((m.length+1:Nat):Int):=by omega
  have O:0<m.length+1:=by omega
  cases neg<;>simp only[go_sem,E,G,J,hp,O]<;>rfl
theorem D_(d:Int)(xs:List Int):fP (d :: xs)=if fP xs=[]then(if d=0 then []else [d])else d :: fP xs:=by
 unfold fP;rw[List.reverse_cons,List.dropWhile_append]
 by_cases h:(xs.reverse.dropWhile fun x=>decide (x=0))=[]
 .rw[h]
  simp only[List.isEmpty_nil,if_true,List.reverse_nil,List.dropWhile_cons,List.dropWhile_nil,decide_eq_true_eq]
  split<;>simp_all
 .rw[if_neg (by simpa using h),if_neg (by simpa using h)]
  simp
theorem iH {n:Nat}(h:n≠0):dg n≠[]:=by rw[nM h];simp
theorem pJ(n:Nat):fP (dg n)=dg n:=by
 induction n using Nat.strongRecOn with
 |_ n G=>
  by_cases h:n=0
  .subst h;rw[bH];rfl
  .rw[nM h,D_,G _ (Nat.div_lt_self (by omega) (by decide))]
   by_cases E:n / 1000000000=0
   .rw[E,bH,if_pos rfl,if_neg (by omega)]
   .rw[if_neg (iH E)]
theorem Y4(k:Nat):∀n:Nat,n<1000000000^k->(dg n).length<=k:=by
 induction k with
 |zero=>intro n h;have:n=0:=by simpa using h
        subst this;rw[bH];exact zq _
 |succ k G=>
  intro n h
  by_cases E:n=0
  .subst E;rw[bH];exact Nat.zero_le _
  .rw[nM E,zD]
   have:n / 1000000000<1000000000^k:=Nat.div_lt_of_lt_mul (by rw[Nat.pow_succ,wO]at h;exact h);have:=G _ this;omega
theorem CZ {n:Nat}(h:n<=9223372036854775807):(dg n).length<=3:=Y4 3 n (by omega)
theorem Y5(n:Nat):∀x∈dg n,0<=x/\x<=999999999:=by
 induction n using Nat.strongRecOn with
 |_ n G=>
  intro x E
  by_cases h:n=0
  .subst h;rw[bH]at E;cases E
  .rw[nM h]at E
   rcases List.mem_cons.mp E with rfl|E
   .omega
   .exact G _ (Nat.div_lt_self (by omega) (by decide)) x E
def jy(a:List Int):Prop:=(∀x∈a,inB x 0 999999999=true)/\a.length<=60/\fP a=a
theorem Y6 {n:Nat}(h:n<=9223372036854775807):jy (dg n) :=
 ⟨fun x E=>by have:=Y5 n x E;unfold inB;rw[vw this.1,vw this.2];rfl,by have:=CZ h;omega,pJ n⟩
theorem IJ {a:List Int}(h:a≠[]):fP a=a↔a[a.length-1]'(by have:=List.length_pos_iff.mpr h;omega)≠0:=by
 rcases List.eq_nil_or_concat a with rfl|⟨b,x,e⟩
 .exact absurd rfl h
 .rw[List.concat_eq_append]at e
  subst e;rw[D9];have:(b++[x])[(b++[x]).length-1]'(by simp)=x:=by simp
  rw[this]
  by_cases E:x=0
  .rw[if_pos E]
   refine⟨fun e=>?_,fun e=>absurd E e⟩;have:=congrArg List.length e;have G:=ai3 b;rw[zo,yL]at this;omega
  .rw[if_neg E];exact⟨fun _=>E,fun _=>rfl⟩
theorem QY(a:List Int)(ha:Short a):fn Tryz.prog conv ext 205 [LI a]=some (Bo (pb (jy a))):=by
 unfold Short at ha;rw[aH,ak [.tmp 2] [] Tryz.func205];simp only[go_sem];generalize hL:aF _ _=y;obtain⟨r,rfl,hr⟩:=aB hL a.length (fun k st=>st.nx=0/\st.σ=aK/\st.T 0=LI a/\st.T 5=LI a/\st.T 6=I a.length/\st.T 7=I k/\∀i (h:i<a.length),i<k->inB a[i] 0 999999999=true)
  (fun r=>(∃T,r=(.exit 0,⟨T,aK,0⟩)/\T 0=LI a/\∀x∈a,inB x 0 999999999=true)\/(∃T,r=(.ret,⟨T,aK,0⟩)/\T 2=Bo false/\¬jy a)) (by
   clear hL;rintro k ⟨T,σ,nx⟩ a0 ⟨hn,O,S,G,E,J,hi⟩;simp only at hn O S G E J;subst hn O;have f1:(k:Int)<(a.length:Int):=by omega
   have f2:=aI k;have f3:=ah (n:=(k:Int)+1);have f4:=idx a0;have f9:=fB a k a0;have t1:=ql a[k] 0 999999999;cases hb:inB a[k] 0 999999999 with
   |true=>
    rw[hb]at t1;refine .inl ⟨_,by simp only[go_sem,S,G,E,J,f1,f2,f3,f4,f9,t1];rfl,?_⟩;simp only[go_sem,S,G,E];refine⟨rfl,fun i Y a2=>?_⟩;rcases yB (xk a2)with q|q
    .exact hi i Y q
    .subst q;exact hb
   |false=>
    rw[hb]at t1;refine .inr ⟨_,by simp only[go_sem,G,E,J,f1,f2,f4,f9,t1];rfl,by simp,.inr ⟨_,rfl,by simp only[go_sem],fun hn=>?_⟩⟩;have:=hn.1 _ (zu a0);rw[hb]at this;cases this) (by
   clear hL;rintro ⟨T,σ,nx⟩ ⟨hn,O,S,G,E,J,hi⟩;simp only at hn O S G E J;subst hn O;exact⟨_,by simp only[go_sem,E,J,zl];rfl,by simp,.inl ⟨_,rfl,by simp only[go_sem,S],fun x hx=>by obtain⟨i,Y,rfl⟩:=yV hx;exact hi i Y Y⟩⟩) (by
   simp only[go_sem];exact fun i _ h=>absurd h (zW _))
 rcases hr with ⟨T,rfl,S,hm⟩|⟨T,rfl,h2,hn⟩
 .by_cases hl:(a.length:Int)<=60
  .by_cases hz:a=[]
   .subst hz
    have:jy []:=⟨by simp,by simp,rfl⟩;have a3:(0:Int)<=60:=by decide
    simp only[go_sem,S,dZ this,a3]
   .have a4:((a.length:Int)==0)=false:=by simpa using hz
    have a1:0<a.length:=List.length_pos_iff.mpr hz;have f1:=ah (n:=(a.length:Int) - 1);have f2:(0:Int)<=(a.length:Int) - 1:=by omega
    have f3:(a.length:Int) - 1<(a.length:Int):=by omega
    have f4:((a.length:Int) - 1).toNat=a.length-1:=by omega
    have f5:=idx (xs:=a) (k:=a.length-1) (by omega);have f9:=fB a 0 a1;have hg:pb (jy a)=(a[a.length-1] !=0):=by
     refine(OQ ?_).symm;rw[bne_iff_ne,<- IJ hz];exact⟨fun h=>⟨hm,by omega,h⟩,fun h=>h.2.2⟩
    rw[hg];simp only[go_sem,S,hl,a4,f1,f2,f3,f4,f5,f9]
  .rw[bP (fun hn:jy a=>hl (by have:=hn.2.1;omega))]
   simp only[go_sem,S,hl]
 .simp only[go_sem,h2,bP hn]
theorem OZ(neg:Bool)(a:List Int)(ha:Short a):fn Tryz.prog conv ext 204 [.agg [Bo neg,LI a]]=some (Bo (pb (jy a) && (!neg||decide (0<a.length)))):=by
 have G:=QY a ha;rw[aH,ak [.tmp 2] [] Tryz.func204];generalize pb (jy a)=b at *;cases b<;>cases neg<;>simp only[go_sem,G]
 by_cases h:0<a.length
 .have E:(0:Int)<(a.length:Int):=by omega
  simp only[h,E]
 .have E:¬(0:Int)<(a.length:Int):=by omega
  simp only[h,E]
theorem aqV(a:List Int)(ha:Short a):fn Tryz.prog conv ext 200 [LI a]=some (Bo (decide (a=[1]))):=by
 unfold Short at ha;have G:(0:Int)<1:=by decide
 have J:(0:Int)<=0:=by decide
 have O:(0:Int).toNat=0:=id rfl;rw[aH,ak [.tmp 2] [] Tryz.func200]
 match a with
 |[]=>(simp only[go_sem])<;>rfl
 |[x]=>
  by_cases E:x=1
  .subst E;(simp only[go_sem,G,J,O])<;>rfl
  .have:(x==(1:Int))=false:=by simpa using E
   simp only[go_sem,this,G,J,O];simp[E]
 |x :: y :: l=>
  have:(((l.length+1+1:Nat):Int)==1)=false:=by rw[w_];omega
  simp only[go_sem,this];simp
theorem QZ(n j:Nat):(dg n).drop j=dg (n / 1000000000^j):=by
 induction j generalizing n with
 |zero=>simp
 |succ j E=>
  by_cases h:n=0
  .subst h;rw[Nat.zero_div,bH];rfl
  .rw[nM h,List.drop_succ_cons,E,xA,Nat.pow_succ,wO]
theorem vg {n j:Nat}(h:j<(dg n).length):(dg n)[j]=((n / 1000000000^j%1000000000:Nat):Int):=by
 have E:=yU h;rw[QZ]at E;have G:n / 1000000000^j≠0:=fun e=>by rw[e,bH]at E;cases E
 rw[nM G]at E;exact(List.cons.inj E).1.symm
theorem vB(n:Nat):n / 1000000000^(dg n).length=0:=by
 have h:=QZ n (dg n).length;rw[List.drop_length]at h;exact zf fun hn=>iH hn h.symm
theorem kR(n j:Nat):n / 1000000000^(j+1)*1000000000+n / 1000000000^j%1000000000=n / 1000000000^j:=by
 rw[Nat.pow_succ,<- xA];omega
theorem Vh {n:Nat}(h:n<=9223372036854775807):Short (dg n):=by have:=CZ h;unfold Short;omega
theorem ai4(a b:List Int)(h:a.length<b.length)(hb:Short b):fn Tryz.prog conv ext 212 [LI a,LI b]=some (I (-1)):=by
 unfold Short at hb;have c1:((a.length:Int) !=(b.length:Int))=true:=by rw[bne_iff_ne];omega
 have E:(a.length:Int)<(b.length:Int):=by omega
 rw[aH,ak [.tmp 4] [] Tryz.func212];simp only[go_sem,c1,E]
theorem O1(n:Nat)(hn:n<1000000000000000000):fn Tryz.prog conv ext 235 [LI (dg n)]=some (.dS [I n,Bo true]):=by
 have hs:=Vh (n:=n) (by omega);have h1:=QY (dg n) hs;rw[dZ (Y6 (by omega))]at h1;have a0:(dg n).length<=2:=Y4 2 n (by omega);have h2:fn Tryz.prog conv ext 212 [LI (dg n),.ts [I 854775807,I 223372036,I 9] 3]=some (I (-1)):=ai4 (dg n) [854775807,223372036,9] (by simp;omega) (by unfold Short;simp)
 have c0:¬(0:Int)< -1:=by decide
 have e1:=ah (n:=((dg n).length:Int) - 1);rw[aH,ak [.tmp 2,.tmp 3] [] Tryz.func235];simp only[go_sem,h1,h2,c0,e1];generalize hL:aF _ _=y;obtain⟨r,rfl,T',σ',nx',rfl,G⟩:=bJ hL (fun m st=>st.T 0=LI (dg n)/\st.T 5=I ((m:Int) - 1)/\st.T 4=I (n / 1000000000^m:Nat)/\m<=(dg n).length)
  (fun r=>∃T σ nx,r=(.exit 0,⟨T,σ,nx⟩)/\T 4=I n) (by
   clear hL;rintro m ⟨T,σ,nx⟩ ⟨J,O,G,hm⟩;simp only at J O G;cases m with
   |zero=>
    have S:¬(0:Int)<=((0:Nat):Int) - 1:=by omega
    have Y:¬(0:Int)<=0-1:=by omega
    rw[Nat.pow_zero,x9]at G;exact .inr ⟨_,by simp only[go_sem,J,O,S,Y];rfl,by simp,_,_,_,rfl,by simp only[go_sem,G]⟩
   |succ m=>
    have E:m<(dg n).length:=by omega
    have e5:((m+1:Nat):Int) - 1=(m:Int):=by omega
    rw[e5]at O;have S:=aI m;have f3:(m:Int)<((dg n).length:Int):=by omega
    have f5:=fB (dg n) m E;have f6:=idx E;rw[vg E]at f6;have hd:=kR n m;have hle:n / 1000000000^m<=n:=xH _ _;generalize n / 1000000000^(m+1)=u at *;generalize hw:n / 1000000000^m=w at *;have f7:=ah (n:=(m:Int) - 1);have f8:=ah (n:=(u:Int)*1000000000);have f9:=ah (n:=(u:Int)*1000000000+((w%1000000000:Nat):Int));refine .inl ⟨_,by simp only[go_sem,J,O,G,S,f3,f5,f6,f7,f8,f9];rfl,m,by omega,?_⟩;simp only[go_sem,J];refine⟨?_,by omega⟩;congr 3;omega) (dg n).length ⟨by simp only[go_sem],by simp only[go_sem],by simp only[go_sem,vB],zq _⟩
 simp only[go_sem,G]
theorem ams(x y:Nat)(hx:x<=9223372036854775807)(hy:y<=9223372036854775807):fn Tryz.prog conv ext 236 [I x,I y]=some (LI (dg (Nat.gcd x y))):=by
 rw[aH,ak [.tmp 4] [] Tryz.func236];simp only[go_sem];generalize hL:aF _ _=w;obtain⟨r,rfl,T',rfl,E⟩:=bJ hL (fun b st=>st.nx=0/\st.σ=aK/\∃a:Nat,st.T 0=I a/\st.T 1=I b/\a<=9223372036854775807/\b<=9223372036854775807/\Nat.gcd a b=Nat.gcd x y)
  (fun r=>∃T,r=(.exit 0,⟨T,aK,0⟩)/\T 0=I (Nat.gcd x y:Nat)) (by
   clear hL;rintro b ⟨T,σ,nx⟩ ⟨hn,G,a,E,J,ha,hb,O⟩;simp only at hn G E J;subst hn G;cases b with
   |zero=>
    have S:¬(0:Int)<0:=by omega
    refine .inr ⟨_,by simp only[go_sem,E,J,S];rfl,by simp,_,rfl,?_⟩;rw[Nat.gcd_zero_right]at O;simp only[go_sem,E,O]
   |succ b=>
    have S:(0:Int)<((b+1:Nat):Int):=by omega
    have f1:¬((b+1:Nat):Int)=0:=by omega
    have f2:(a:Int).tmod ((b+1:Nat):Int)=((a%(b+1):Nat):Int):=by rw[xG (by omega)];rfl
    have Y:a%(b+1)<b+1:=Nat.mod_lt a (Nat.succ_pos b);refine .inl ⟨_,by simp only[go_sem,E,J,S,f1,f2];rfl,a%(b+1),Y,?_⟩;simp only[go_sem];refine⟨b+1,rfl,hb,by omega,?_⟩;rw[<- O,Nat.gcd_comm a (b+1),Nat.gcd_rec (b+1) a,Nat.gcd_comm]) y ⟨rfl,rfl,x,by simp only[go_sem],by simp only[go_sem],hx,hy,rfl⟩
 have a0:Nat.gcd x y<=9223372036854775807:=by
  rcases Nat.eq_zero_or_pos x with h|h
  .subst h;rw[Nat.gcd_zero_left];exact hy
  .exact zL (Nat.gcd_le_left _ h) hx
 have h3:=LK (Nat.gcd x y) a0;simp only[go_sem,E,h3]
theorem jh {xs:List Int}(h:xs≠[]):¬xs.length=0:=fun e=>h (zZ e)
def pad(n k:Nat):List Int:=(List.range k).map fun j=>((n / 1000000000^j%1000000000:Nat):Int)
theorem uG(n k:Nat):(pad n k).length=k:=by simp[pad]
theorem ai6(n k j:Nat)(h:j<(pad n k).length):(pad n k)[j]=((n / 1000000000^j%1000000000:Nat):Int):=by simp[pad]
theorem afr(n k:Nat):pad n (k+1)=((n%1000000000:Nat):Int) :: pad (n / 1000000000) k:=by
 unfold pad;rw[List.range_succ_eq_map,List.map_cons,List.map_map];congr 1
 .rw[Nat.pow_zero,x9]
 .refine xP fun j _=>?_
  show(((n / 1000000000^(j+1)%1000000000:Nat)):Int)=_;rw[xA,Nat.pow_succ,wO]
theorem GH(k:Nat):∀n:Nat,n<1000000000^k->fP (pad n k)=dg n:=by
 induction k with
 |zero=>
  intro n h;have:n=0:=by simpa using h
  subst this;rw[bH];rfl
 |succ k J=>
  intro n h;have:n / 1000000000<1000000000^k:=Nat.div_lt_of_lt_mul (by rw[Nat.pow_succ,wO]at h;exact h);rw[afr,D_,J _ this]
  by_cases E:n=0
  .subst E
   rw[Nat.zero_div,bH,if_pos rfl,if_pos (by decide)]
  .rw[nM E]
   by_cases G:n / 1000000000=0
   .rw[G,bH,if_pos rfl,if_neg (by omega)]
   .rw[if_neg (iH G)]
theorem J9(j:Nat)(z v:V)(r:List V):(rep (j+1) [z]++r).set j v=rep j [z]++v :: r:=by
 induction j with
 |zero=>rfl
 |succ j E=>
  have G:rep (j+1+1) [z]=z :: rep (j+1) [z]:=rep_succ _ _;have J:rep (j+1) [z]=z :: rep j [z]:=rep_succ _ _;rw[G];show z :: ((rep (j+1) [z]++r).set j v)=rep (j+1) [z]++v :: r;rw[E,J];rfl
theorem Vj {n k m:Nat}(h:m<k):(pad n k).drop m=((n / 1000000000^m%1000000000:Nat):Int) :: (pad n k).drop (m+1):=by
 rw[yU (by rw[uG];exact h),ai6]
theorem ai7(n d:Nat)(hl:(dg n).length<=1000000)(h0:d≠0)(hd:d<1000000000):fn Tryz.prog conv ext 246 [LI (dg n),I d]=some (.dS [LI (dg (n / d)),I (n%d:Nat)]):=by
 have e1:(8:Int)*((dg n).length:Int)<=281474976710656:=by omega
 have e2:((dg n).length:Int)<=9223372036854775807:=by omega
 have e3:(0:Int)<=((dg n).length:Int):=by omega
 have e4:=ah (n:=((dg n).length:Int) - 1);have ht:=ER (pad (n / d) (dg n).length) (by unfold Short;rw[uG];omega);rw[GH]at ht;rw[aH,ak [.tmp 4,.tmp 5] [] Tryz.func246];simp only[go_sem,e1,e2,e3,e4];generalize hL:aF _ _=y;obtain⟨r,rfl,T',σ',nx',rfl,h6,h7,E⟩:=bJ hL (fun m st=>st.T 0=LI (dg n)/\st.T 1=I d/\st.T 6= .rs 0 0 (dg n).length/\st.T 8=I ((m:Int) - 1)/\st.T 7=I (n / 1000000000^m%d:Nat)/\m<=(dg n).length/\st.σ 0=some ⟨rep m [I 0]++((pad (n / d) (dg n).length).drop m).flatMap cI,1,true⟩)
  (fun r=>∃T σ nx,r=(.exit 0,⟨T,σ,nx⟩)/\T 6= .rs 0 0 (dg n).length/\T 7=I (n%d:Nat)/\σ 0=some ⟨(pad (n / d) (dg n).length).flatMap cI,1,true⟩) (by
   clear hL;rintro m ⟨T,σ,nx⟩ ⟨t0,t1,t6,t8,Y,hm,E⟩;simp only at t0 t1 t6 t8 Y E;cases m with
   |zero=>
    have a0:¬(0:Int)<=0-1:=by omega
    rw[Nat.pow_zero,x9]at Y;refine .inr ⟨_,by simp only[go_sem,t8,a0];rfl,by simp,_,_,_,rfl,by simp only[go_sem,t6],by simp only[go_sem,Y],?_⟩;rw[E,yZ];rfl
   |succ m=>
    have G:m<(dg n).length:=by omega
    have e5:((m+1:Nat):Int) - 1=(m:Int):=by omega
    rw[e5]at t8;have f0:=aI m;have f3:(m:Int)<((dg n).length:Int):=by omega
    have f5:=fB (dg n) m G;have f6:=idx G;rw[vg G]at f6;have a1:=kR n m;have J:=Vj (n:=n / d) (k:=(dg n).length) G;have hq:n / d / 1000000000^m=n / 1000000000^m / d:=by rw[xA,xA,wO]
    rw[hq]at J;have hle:n / 1000000000^m<=n:=xH _ _;obtain⟨u,hu⟩:∃u,n / 1000000000^(m+1)=u:=⟨_,rfl⟩;obtain⟨w,O⟩:∃w,n / 1000000000^m=w:=⟨_,rfl⟩;rw[hu]at Y;rw[hu,O]at a1;rw[O]at f6 J hle;have hw:w%1000000000<1000000000:=Nat.mod_lt _ (by decide);have hr:u%d<d:=Nat.mod_lt _ (by omega);have hx:u%d*1000000000+w%1000000000<d*1000000000:=by omega
    have S:w=d*1000000000*(u / d)+(u%d*1000000000+w%1000000000):=by
     have:=Nat.div_add_mod u d;have h3:d*(u / d)*1000000000=d*1000000000*(u / d):=by rw[Nat.mul_right_comm]
     omega
    obtain⟨x,a2⟩:∃x,u%d*1000000000+w%1000000000=x:=⟨_,rfl⟩;rw[a2]at S hx;have a3:w / d%1000000000=x / d:=by
     have h1:w / d=1000000000*(u / d)+x / d:=by
      rw[S,Nat.mul_assoc,wU,Nat.add_mul_div_left _ _ (by omega),wU]
     have h2:x / d<1000000000:=Nat.div_lt_of_lt_mul hx;rw[h1];generalize x / d=q at h2⊢;generalize u / d=p;omega
    have a4:w%d=x%d:=by
     rw[S,Nat.mul_assoc,wU,Nat.add_mul_mod_self_left]
    have f7:=ah (n:=(m:Int) - 1);have f8:=ah (n:=((u%d:Nat):Int)*1000000000);have g9:((u%d:Nat):Int)*1000000000+((w%1000000000:Nat):Int)=(x:Int):=by omega
    have f9:=ah (n:=(x:Int));have c1:¬(d:Int)=0:=by omega
    have c2:(x:Int).tdiv (d:Int)=((x / d:Nat):Int):=by rw[yJ (by omega)];rfl
    have c3:(x:Int).tmod (d:Int)=((x%d:Nat):Int):=by rw[xG (by omega)];rfl
    have a6:x / d<=x:=xH _ _;have c4:=ah (n:=((x / d:Nat):Int));have c5:m<(rep (m+1) [I 0]++((pad (n / d) (dg n).length).drop (m+1)).flatMap cI).length:=by rw[zo,jv];simp;omega
    have c6:=J9 m (I 0) (I (x / d:Nat)) (((pad (n / d) (dg n).length).drop (m+1)).flatMap cI);refine .inl ⟨_,by simp only[go_sem,t0,t1,t6,t8,Y,E,f0,f3,f5,f6,f7,f8,f9,g9,c1,c2,c3,c4,c5,c6];rfl,m,by omega,?_⟩;simp only[go_sem,t0,t1,t6];refine⟨by rw[O,a4],by omega,?_⟩;rw[J,a3];rfl) (dg n).length ⟨by simp only[go_sem],by simp only[go_sem],by simp only[go_sem],by simp only[go_sem],by simp only[go_sem,vB,Nat.zero_mod],zq _,by simp only[go_sem];rw[xw (by rw[uG];exact zq _)];simp⟩
 .have a5:fn Tryz.prog conv ext 213 [.ts ((pad (n / d) (dg n).length).flatMap cI) (dg n).length]=some (LI (dg (n / d))):=by
   have hl:(pad (n / d) (dg n).length).length=(dg n).length:=uG _ _;unfold LI at ht;rw[hl]at ht;exact ht
  have pl:(pad (n / d) (dg n).length).length=(dg n).length:=uG _ _;have tk:List.take (dg n).length ((pad (n / d) (dg n).length).flatMap cI)=(pad (n / d) (dg n).length).flatMap cI:=by
   have:=mG (pad (n / d) (dg n).length)
   rwa [pl]at this
  simp only[go_sem,h6,h7,E,pl,tk,a5]
 .exact Nat.lt_of_le_of_lt (xH _ _) (by
   have:=vB n;exact(Nat.div_eq_zero_iff_lt (Nat.pow_pos (by decide))).mp this)
theorem oP {d:Nat}(E:d≠0)(h:d<1000000000):dg d=[(d:Int)]:=by
 rw[nM E,Nat.div_eq_of_lt h,bH,wL h]
theorem O4(n:Nat):(dg n=[1])↔n=1:=by
 constructor
 .intro h
  by_cases E:n=0
  .subst E;rw[bH]at h;cases h
  .rw[nM E]at h
   obtain⟨J,G⟩:=List.cons.inj h;have:n / 1000000000=0:=zf fun hn=>iH hn G
   omega
 .rintro rfl;rw[oP (by decide) (by decide)];rfl
theorem aay(neg:Bool)(a:List Int):fn Tryz.prog conv ext 223 [Bo neg,LI a]=some (.agg [Bo (neg && decide (0<a.length)),LI a]):=by
 rw[aH,ak [.cell 4 145] [] Tryz.func223]
 by_cases h:0<a.length
 .have E:(0:Int)<(a.length:Int):=by omega
  cases neg<;>simp only[go_sem,h,E]
 .have E:¬(0:Int)<(a.length:Int):=by omega
  cases neg<;>simp only[go_sem,h,E]
theorem u3:Tryz.prog.underlying 3=some (.int .i64):=Tryz.underlying3
theorem aqW:Tryz.prog.underlying 168=some (.int .u64):=Tryz.underlying168
theorem awP(k:IntKind)(n:Int)(σ:Store):gK Tryz.prog 3 168 (.sc (.int k n)) σ=some (.sc (.int .u64 (IntKind.u64.wrap n))):=Lm u3 aqW
theorem awQ(k:IntKind)(n:Int)(σ:Store):gK Tryz.prog 168 3 (.sc (.int k n)) σ=some (.sc (.int .i64 (IntKind.i64.wrap n))):=Lm aqW u3
attribute [go_sem] awP awQ
theorem Q5(n:Nat)(hn:n<=18446744073709551615):fn Tryz.prog conv ext 231 [.sc (.int .u64 n)]=some (LI (dg n)):=by
 rw[aH,ak [.tmp 2] [] Tryz.func231];simp only[go_sem];generalize hL:aF _ _=y;obtain⟨r,rfl,T',σ',nx',rfl,hr⟩:=bJ hL (fun m st=>st.T 0= .sc (.int .u64 m)/\∃acc,Grow st.T st.σ st.nx 3 acc/\dg n=acc++dg m/\1000000000^acc.length*m<=n)
  (fun r=>∃T σ nx,r=(.exit 0,⟨T,σ,nx⟩)/\Grow T σ nx 3 (dg n)) (by
   clear hL;rintro m ⟨T,σ,nx⟩ ⟨G,acc,E,J,hp⟩;simp only at G E
   by_cases hm:m=0
   .subst hm
    have O:¬(0:Int)<0:=by omega
    refine .inr ⟨_,by simp only[go_sem,G,O];rfl,by simp,_,_,_,rfl,?_⟩;rw[bH,zM]at J;rw[J]
    simpa only[Grow,go_sem]using E
   .have O:(0:Int)<(m:Int):=by omega
    have hk:=aax hp (by omega) (by omega);have a1:m<=n:=zL (Nat.le_mul_of_pos_left _ (Nat.pow_pos (by decide))) hp;have f1:(m:Int).tmod 1000000000=((m%1000000000:Nat):Int):=by rw[xG (by omega)];omega
    have f2:IntKind.u64.wrap ((m:Int).tdiv 1000000000)=((m / 1000000000:Nat):Int):=by
     rw[yJ (by omega)];rw[wrap_u64 (by omega) (by omega)];omega
    have f3:=ah (n:=((m%1000000000:Nat):Int));have S:dg n=(acc++[((m%1000000000:Nat):Int)])++dg (m / 1000000000):=by rw[J,nM hm];simp
    have Y:1000000000^(acc++[((m%1000000000:Nat):Int)]).length*(m / 1000000000)<=n:=by
     rw[zo,yL,Nat.pow_succ,Nat.mul_assoc];exact zL (Nat.mul_le_mul_left _ (Nat.mul_div_le _ _)) hp
    have a0:m / 1000000000<m:=Nat.div_lt_self (by omega) (by decide);obtain⟨σ',ha,hs⟩:=fG E ((m%1000000000:Nat):Int) (by omega);refine .inl ⟨_,by simp only[go_sem,G,O,f1,f2,f3,ha];rfl,_,a0,?_,_,?_,S,Y⟩
    .simp only[go_sem]
    .exact fH hs (by simp[go_sem]) (by simp)) n ⟨by simp only[go_sem],[],.inl ⟨by simp only[go_sem],rfl⟩,rfl,by simp⟩
 obtain⟨ids,h1⟩:=iP hr 6;simp only[go_sem,h1]
theorem amw(n:Nat)(hn:n<=9223372036854775807):fn Tryz.prog conv ext 231 [.sc (.int .u64 n)]=some (LI (dg n)):=Q5 n (by omega)
theorem Y7(x:Int):fn Tryz.prog conv ext 251 [I x]=some (Bo (!inB x 0 999999999)):=by
 rw[aH,ak [.tmp 2] [] Tryz.func251]
 by_cases h:x<0
 .have:inB x 0 999999999=false:=by unfold inB;rw[vk (by omega)];rfl
  rw[this];simp only[go_sem,h]
 .have:inB x 0 999999999=decide (x<=999999999):=by unfold inB;rw[vw (by omega),Bool.true_and]
  rw[this]
  by_cases E:1000000000<=x
  .rw[vk (by omega)]
   simp only[go_sem,h,E]
  .rw[vw (by omega)]
   simp only[go_sem,h,E]
theorem afs(a:List Int)(ha:Short a):fn Tryz.prog conv ext 250 [LI a]=some (Bo (pb (jy a))):=by
 unfold Short at ha;have hc:=Y2 a 251 (fun x=> !inB x 0 999999999) (by unfold maxLen;omega) (by rfl) (fun x _=>Y7 x);rw[aH,ak [.tmp 2] [] Tryz.func250]
 by_cases S:(60:Int)<(a.length:Int)
 .rw[bP (fun hn:jy a=>by have:=hn.2.1;omega)]
  simp only[go_sem,S]
 have hg:(fP a=a)->pb (jy a)= !decide (0<=ix (fun x=> !inB x 0 999999999) a):=fun Y=>by
  refine(OQ ?_).symm;rw[Bool.not_eq_true',decide_eq_false_iff_not,Int.not_le,Jt];exact⟨fun hq=>⟨fun x hx=>by simpa using hq x hx,by omega,Y⟩,fun hq m hm=>by simp[hq.1 m hm]⟩
 by_cases G:a=[]
 .have Y:fP a=a:=by rw[G];rfl
  rw[hg Y];subst G;have:¬(0:Int)<0:=by decide
  have a0:¬(60:Int)<0:=by decide
  have a1:fn Tryz.prog conv ext 105 [.ts [] 0,.clo 251 []]=some (Bo (decide (0<=ix (fun x=> !inB x 0 999999999) []))):=hc
  simp only[go_sem,this,a0,a1]
 .have J:0<a.length:=List.length_pos_iff.mpr G
  have c0:(0:Int)<(a.length:Int):=by omega
  have f1:=ah (n:=(a.length:Int) - 1);have f2:(0:Int)<=(a.length:Int) - 1:=by omega
  have f3:(a.length:Int) - 1<(a.length:Int):=by omega
  have f4:((a.length:Int) - 1).toNat=a.length-1:=by omega
  have f5:=idx (xs:=a) (k:=a.length-1) (by omega);have f9:=fB a 0 J
  by_cases O:a[a.length-1]=0
  .have E:(a[a.length-1]==(0:Int))=true:=by simpa using O
   rw[bP (fun hn:jy a=>(IJ G).mp hn.2.2 O)];simp only[go_sem,S,c0,f1,f2,f3,f4,f5,f9,E]
  .have E:(a[a.length-1]==(0:Int))=false:=by simpa using O
   rw[hg ((IJ G).mpr O)];simp only[go_sem,S,c0,f1,f2,f3,f4,f5,f9,E,hc]
theorem acV(neg:Bool)(a:List Int)(ha:Short a):fn Tryz.prog conv ext 249 [.agg [Bo neg,LI a]]=some (Bo (pb (jy a) && !(neg && decide (a=[])))):=by
 have G:=afs a ha;rw[aH,ak [.tmp 2] [] Tryz.func249];generalize pb (jy a)=b at *
 by_cases h:a=[]
 .subst h
  have E:fn Tryz.prog conv ext 250 [.ts [] 0]=some (Bo b):=G
  cases b<;>cases neg<;>simp only[go_sem,E]<;>rfl
 .have J:((a.length:Int)==0)=false:=by simpa using h
  rw[vk h];cases b<;>cases neg<;>simp only[go_sem,G,J]<;>rfl
def fJ(m n:Nat):Int:=if m<n then -1 else if m=n then 0 else 1
theorem aft {n:Nat}:n<1000000000^(dg n).length:=(Nat.div_eq_zero_iff_lt (Nat.pow_pos (by decide))).mp (vB n)
theorem aqX {n k:Nat}(h:k<(dg n).length):1000000000^k<=n:=by
 have E:=QZ n k;rw[yU h]at E;have G:n / 1000000000^k≠0:=fun e=>by rw[e,bH]at E;cases E
 exact zf fun hn=>G (Nat.div_eq_of_lt (by omega))
theorem Ea {m n:Nat}(h:(dg m).length<(dg n).length):m<n:=xK aft (aqX h)
theorem Eb {m n j:Nat}(E:m / 1000000000^(j+1)=n / 1000000000^(j+1))(G:m / 1000000000^j%1000000000<n / 1000000000^j%1000000000):m<n:=by
 have a:=kR m j;have b:=kR n j;rw[E]at a;have:m / 1000000000^j<n / 1000000000^j:=by omega
 exact zf fun hn=>by
  have:=Nat.div_le_div_right (c:=1000000000^j) (show n<=m by omega);omega
theorem mY(m n:Nat)(l1:(dg m).length<=1000000)(l2:(dg n).length<=1000000):fn Tryz.prog conv ext 221 [LI (dg m),LI (dg n)]=some (I (fJ m n)):=by
 rw[aH,ak [.tmp 4] [] Tryz.func221]
 by_cases hl:(dg m).length=(dg n).length
 .have c1:(((dg m).length:Int) !=((dg n).length:Int))=false:=by rw[hl];simp
  have e1:=ah (n:=((dg m).length:Int) - 1);simp only[go_sem,c1,e1];generalize hL:aF _ _=y;obtain⟨r,rfl,hr⟩:=bJ hL (fun k st=>st.nx=0/\st.σ=aK/\st.T 0=LI (dg m)/\st.T 1=LI (dg n)/\st.T 5=I ((k:Int) - 1)/\k<=(dg m).length/\m / 1000000000^k=n / 1000000000^k)
   (fun r=>(∃T,r=(.exit 0,⟨T,aK,0⟩)/\m=n)\/(∃T,r=(.ret,⟨T,aK,0⟩)/\T 4=I (fJ m n))) (by
    clear hL;rintro k ⟨T,σ,nx⟩ ⟨a0,a1,h0,h1,h5,hk,he⟩;simp only at a0 a1 h0 h1 h5;subst a0 a1;cases k with
    |zero=>
     have a2:¬(0:Int)<=0-1:=by omega
     rw[Nat.pow_zero,x9,x9]at he;exact .inr ⟨_,by simp only[go_sem,h5,a2];rfl,by simp,.inl ⟨_,rfl,he⟩⟩
    |succ k=>
     have E:k<(dg m).length:=by omega
     have G:k<(dg n).length:=by omega
     have e5:((k+1:Nat):Int) - 1=(k:Int):=by omega
     rw[e5]at h5;have f0:=aI k;have f3:(k:Int)<((dg m).length:Int):=by omega
     have S:(k:Int)<((dg n).length:Int):=by omega
     have f5:=fB (dg m) k E;have Y:=fB (dg n) k G;have f6:=idx E;have O:=idx G;rw[vg E]at f6;rw[vg G]at O;have f7:=ah (n:=(k:Int) - 1)
     by_cases q1:((m / 1000000000^k%1000000000:Nat):Int)<((n / 1000000000^k%1000000000:Nat):Int)
     .have J:m<n:=Eb he (by omega)
      have hc:fJ m n= -1:=by unfold fJ;rw[if_pos J]
      exact .inr ⟨_,by simp only[go_sem,h0,h1,h5,f0,f3,S,f5,Y,f6,O,q1];rfl,by simp,.inr ⟨_,rfl,by simp only[go_sem,hc]⟩⟩
     .by_cases q2:((n / 1000000000^k%1000000000:Nat):Int)<((m / 1000000000^k%1000000000:Nat):Int)
      .have J:n<m:=Eb he.symm (by omega)
       have hc:fJ m n=1:=by unfold fJ;rw[if_neg (by omega),if_neg (by omega)]
       exact .inr ⟨_,by simp only[go_sem,h0,h1,h5,f0,f3,S,f5,Y,f6,O,q1,q2];rfl,by simp,.inr ⟨_,rfl,by simp only[go_sem,hc]⟩⟩
      .have a3:m / 1000000000^k=n / 1000000000^k:=by
        have a:=kR m k;have b:=kR n k;rw[he]at a;omega
       refine .inl ⟨_,by simp only[go_sem,h0,h1,h5,f0,f3,S,f5,Y,f6,O,f7,q1,q2];rfl,k,by omega,?_⟩;simp only[go_sem,h0,h1];exact⟨by omega,a3⟩) (dg m).length ⟨rfl,rfl,by simp only[go_sem],by simp only[go_sem],by simp only[go_sem],zq _,by rw[vB,hl,vB]⟩
  rcases hr with ⟨T,rfl,h⟩|⟨T,rfl,h⟩
  .have hc:fJ m n=0:=by unfold fJ;rw[if_neg (by omega),if_pos h]
   simp only[go_sem,hc]
  .simp only[go_sem,h]
 .have c1:(((dg m).length:Int) !=((dg n).length:Int))=true:=by rw[bne_iff_ne];omega
  by_cases E:((dg m).length:Int)<((dg n).length:Int)
  .have J:m<n:=Ea (by omega)
   have hc:fJ m n= -1:=by unfold fJ;rw[if_pos J]
   simp only[go_sem,c1,E,hc]
  .have J:n<m:=Ea (by omega)
   have hc:fJ m n=1:=by unfold fJ;rw[if_neg (by omega),if_neg (by omega)]
   simp only[go_sem,c1,E,hc]
theorem afu(m n:Nat)(hm:m<=9223372036854775807)(hn:n<=9223372036854775807):fn Tryz.prog conv ext 221 [LI (dg m),LI (dg n)]=some (I (fJ m n)) :=
 mY m n (by have:=CZ hm;omega) (by have:=CZ hn;omega)
theorem aaz(a:List Int)(ha:Short a):fn Tryz.prog conv ext 242 [LI a]=some (LI (fP a)):=by
 unfold Short at ha;rw[aH,ak [.tmp 2] [] Tryz.func242];simp only[go_sem];generalize hL:aF _ _=y;obtain⟨r,rfl,T',rfl,Y⟩:=bJ hL (fun k st=>∃T,st=⟨T,aK,0⟩/\T 0=LI (a.take k)/\k<=a.length/\fP (a.take k)=fP a) (fun r=>∃T,r=(.exit 0,⟨T,aK,0⟩)/\T 0=LI (fP a)) (by
  clear hL;rintro k _ ⟨T,rfl,h0,hk,G⟩;have hl:(a.take k).length=k:=by rw[zh,yC hk]
  cases k with
  |zero=>
   have E:T 0= .ts [] 0:=h0;have O:¬(0:Int)<0:=by decide
   refine .inr ⟨_,by simp only[go_sem,E,O];rfl,by simp,_,rfl,?_⟩;simp only[go_sem,E];rw[<- G];rfl
  |succ k=>
   have J:k<a.length:=by omega
   have E:T 0= .ts ((a.take (k+1)).flatMap cI) (k+1):=by rw[h0];show V.ts _ (a.take (k+1)).length=_;rw[hl]
   have O:(0:Int)<((k+1:Nat):Int):=by omega
   have e5:((k+1:Nat):Int) - 1=(k:Int):=by omega
   have e2:=ah (n:=(k:Int));have f1:=aI k;have f2:(k:Int)<((k+1:Nat):Int):=by omega
   have f5:=fB (a.take (k+1)) k (by omega);have f6:=idx (xs:=a.take (k+1)) (k:=k) (by omega);rw[List.getElem_take]at f6;have f7:k<=k+1:=by omega
   have a0:((a.take (k+1)).flatMap cI).take k=(a.take k).flatMap cI:=by rw[pI,List.take_take,yC f7]
   rw[kH J,D9]at G
   by_cases S:a[k]=0
   .have fx:(a[k]==(0:Int))=true:=by simpa using S
    rw[if_pos S]at G;refine .inl ⟨_,by simp only[go_sem,E,O,e5,e2,f1,f2,f5,f6,f7,a0,fx,Nat.zero_le];rfl,k,by omega,_,rfl,?_,by omega,G⟩;simp only[go_sem];show _=V.ts _ (a.take k).length;rw[zh,yC (by omega)]
   .have fx:(a[k]==(0:Int))=false:=by simpa using S
    rw[if_neg S]at G;refine .inr ⟨_,by simp only[go_sem,E,O,e5,e2,f1,f2,f5,f6,f7,fx];rfl,by simp,_,rfl,?_⟩;simp only[go_sem];rw[h0,<- G,kH J]) a.length ⟨_,rfl,by simp only[go_sem];rw[yg],zq _,by rw[yg]⟩
 simp only[go_sem,Y]
theorem ai9 {n:Nat}:(fJ n 1==0)=decide (n=1):=by
 unfold fJ
 by_cases h:n<1
 .rw[if_pos h,vk (by omega)];rfl
 .rw[if_neg h]
  by_cases E:n=1
  .rw[if_pos E,vw E];rfl
  .rw[if_neg E,vk E];rfl
theorem aqY(n:Nat)(hn:n<=9223372036854775807):fn Tryz.prog conv ext 221 [LI (dg n),.ts [I 1] 1]=some (I (fJ n 1)):=by
 have:=afu n 1 hn (by decide);rw[oP (d:=1) (by decide) (by decide)]at this;exact this
def acW(neg:Bool)(m n:Nat):List V:=[Bo (neg && decide (0<(dg (m / Nat.gcd m n)).length)),LI (dg (m / Nat.gcd m n)),LI (dg (n / Nat.gcd m n))]
theorem amy {P:Program} {t e:TypeId} {x y:Operand} {row:List V} {off:Nat}(h:P.underlying t=some (.pointer e)):dK P .eql t x y (.tp row off) (.sc (.pointer none))=some (Bo false):=by
 simp only[dK,toVal,h];rfl
theorem ptrEq(x y:Operand)(row:List V)(off:Nat):dK Tryz.prog .eql 194 x y (.tp row off) (.sc (.pointer none))=some (Bo false):=amy Tryz.underlying194
attribute [go_sem] ptrEq
theorem amA(b:Bool)(xs:List Int)(E:xs.length<=60):fn Tryz.prog conv ext 194 [.agg [Bo b,LI xs]]=some (.agg [Bo b,LI xs]):=by
 have c1:¬(60:Int)<(xs.length:Int):=by omega
 have k:=YW xs (by omega);rw[aH,ak [.cell 2 145] [] Tryz.func194];simp only[go_sem,c1,k]
theorem amB(b:Bool)(xs E:List Int)(O:xs.length<=24)(S:E.length<=24):fn Tryz.prog conv ext 166 [.tp [Bo b,LI xs,LI E] 0]=some (.agg [Bo b,LI xs,LI E]):=by
 have G:=amA b xs (by omega);have J:=YW E (by omega);rw[aH,ak [.cell 2 147] [] Tryz.func166];simp only[go_sem,G,J]
theorem u8t:Tryz.prog.underlying 5=some (.int .u8):=Tryz.underlying5
def vl:List Int->Int
 |[]=>0
 |x :: xs=>x+1000000000*vl xs
def bp(n:Nat):Int:=1000000000^n
theorem Q7:bp 0=1:=rfl
theorem fE(n:Nat):bp (n+1)=1000000000*bp n:=by unfold bp;rw[Int.pow_succ,Int.mul_comm]
theorem nN(n:Nat):0<bp n:=Int.pow_pos (by decide)
theorem Q8(m n:Nat):bp (m+n)=bp m*bp n:=by unfold bp;rw[Int.pow_add]
theorem vC(n:Nat):bp n=((1000000000^n:Nat):Int):=by unfold bp;rw[Int.natCast_pow];rfl
def Dg(xs:List Int):Prop:=∀x∈xs,0<=x/\x<1000000000
theorem Dg.nil:Dg []:=fun x h=>by cases h
theorem Dg.cons {x:Int} {xs:List Int}(h:Dg (x :: xs)):(0<=x/\x<1000000000)/\Dg xs:=⟨h x zN,fun y E=>h y (zY _ E)⟩
theorem Dg.app {xs E:List Int}(h:Dg xs)(G:Dg E):Dg (xs++E):=fun x J=>(List.mem_append.mp J).elim (h x) (G x)
theorem Dg.snoc {xs:List Int} {y:Int}(h:Dg xs)(G:0<=y)(J:y<1000000000):Dg (xs++[y]):=h.app fun x E=>by
 rw[wM]at E;subst E;exact⟨G,J⟩
theorem Dg.take {xs:List Int}(h:Dg xs)(n:Nat):Dg (xs.take n):=fun x E=>h x (wV E)
theorem Dg.drop {xs:List Int}(h:Dg xs)(n:Nat):Dg (xs.drop n):=fun x E=>h x (List.mem_of_mem_drop E)
theorem Dg.get {xs:List Int}(h:Dg xs) {k:Nat}(E:k<xs.length):0<=xs[k]/\xs[k]<1000000000:=h _ (zu E)
theorem kE(n:Nat):Dg (dg n):=fun x E=>by have:=Y5 n x E;omega
theorem kF(n:Nat):vl (dg n)=n:=by
 induction n using Nat.strongRecOn with
 |_ n E=>
  by_cases h:n=0
  .subst h;rw[bH];rfl
  .rw[nM h]
   show _+1000000000*vl _=_;rw[E _ (Nat.div_lt_self (by omega) (by decide))];omega
theorem Y8(xs E:List Int):vl (xs++E)=vl xs+bp xs.length*vl E:=by
 induction xs with
 |nil=>simp[vl,Q7]
 |cons x xs G=>
  rw[yT,zD,fE];show _+1000000000*vl _=(_+1000000000*vl xs)+_;rw[G,xZ,Int.mul_assoc];omega
theorem gG(xs:List Int)(y:Int):vl (xs++[y])=vl xs+bp xs.length*y:=by
 rw[Y8];simp[vl]
theorem gQ {xs:List Int}(h:Dg xs):0<=vl xs:=by
 induction xs with
 |nil=>exact yE _
 |cons x xs E=>
  have:=h.cons;have:=E this.2;show 0<=x+1000000000*vl xs;omega
theorem BH {xs:List Int}(h:Dg xs):vl xs<bp xs.length:=by
 induction xs with
 |nil=>exact nN 0
 |cons x xs E=>
  have:=h.cons;have:=E this.2;rw[zD,fE];show x+1000000000*vl xs<_;omega
theorem aaA {xs:List Int}(h:Dg xs):fP xs=dg (vl xs).toNat:=by
 induction xs with
 |nil=>show fP []=dg 0;rw[bH];rfl
 |cons x xs J=>
  have E:=h.cons;have h2:=gQ E.2;have O:vl (x :: xs)=x+1000000000*vl xs:=rfl;rw[D_,J E.2,O]
  by_cases S:vl xs=0
  .rw[S,show(0:Int).toNat=0 from rfl,bH,if_pos rfl]
   by_cases G:x=0
   .subst G;rw[if_pos rfl,Int.mul_zero,Int.add_zero]
    show _=dg 0;rw[bH]
   .rw[if_neg G,Int.mul_zero,Int.add_zero,oP (by omega) (by omega)]
    rw[Int.toNat_of_nonneg (by omega)]
  .rw[if_neg (iH (by omega)),nM (n:=(x+1000000000*vl xs).toNat) (by omega)]
   have Y:(((x+1000000000*vl xs).toNat%1000000000:Nat):Int)=x:=by omega
   have e2:(x+1000000000*vl xs).toNat / 1000000000=(vl xs).toNat:=by omega
   rw[Y,e2]
theorem jD {xs:List Int} {n:Nat}(h:Dg xs)(E:vl xs=n):fP xs=dg n:=by rw[aaA h,E];rfl
theorem Y9(n:Nat):vl (List.replicate n 0)=0:=by
 induction n with
 |zero=>rfl
 |succ n E=>rw[xW];show 0+1000000000*vl _=0;rw[E];rfl
theorem bg {xs:List Int} {k:Nat}(h:k<xs.length):vl (xs.take (k+1))=vl (xs.take k)+bp k*xs[k]:=by
 rw[kH h,gG,zh,yC (by omega)]
theorem aaB {xs:List Int} {k:Nat}(h:k<xs.length):vl (xs.drop k)=xs[k]+1000000000*vl (xs.drop (k+1)):=by
 rw[yU h];rfl
theorem AV(xs:List Int) {k:Nat}(h:k<=xs.length):vl xs=vl (xs.take k)+bp k*vl (xs.drop k):=by
 have:=Y8 (xs.take k) (xs.drop k);rw[wP,zh,yC h]at this;exact this
def ln(n:Nat):Nat:=(dg n).length
theorem Ec:ln 0=0:=by unfold ln;rw[bH];rfl
theorem cu {n k:Nat}:ln n<=k↔(n:Int)<bp k:=by
 constructor
 .intro h
  have E:=BH (kE n);rw[kF]at E;have G:bp (dg n).length<=bp k:=by
   rw[vC,vC];exact Int.ofNat_le.mpr (Nat.pow_le_pow_right (by decide) h)
  omega
 .intro h
  rw[vC]at h;exact Y4 k n (Int.ofNat_lt.mp h)
theorem fQ {m n:Nat}(h:m<=n):ln m<=ln n:=by
 have:=(cu (n:=n)).mp (zq _);exact cu.mpr (by omega)
theorem qL(m n:Nat):ln (m*n)<=ln m+ln n:=by
 refine cu.mpr ?_;rw[Q8,yj];have E:=(cu (n:=m)).mp (zq _);have G:=(cu (n:=n)).mp (zq _);have J:(m:Int)*n<=(bp (ln m) - 1)*n:=zS (by omega) (by omega);have O:=nN (ln m);have S:(bp (ln m) - 1)*n<=(bp (ln m) - 1)*(bp (ln n) - 1):=zC (by omega) (by omega);have Y:(bp (ln m) - 1)*(bp (ln n) - 1)=bp (ln m)*bp (ln n) - bp (ln m) - bp (ln n)+1:=by
  rw[Int.sub_mul,Int.mul_sub];omega
 have h7:=nN (ln n);omega
theorem amC(m n:Nat):ln (m+n)<=max (ln m) (ln n)+1:=by
 refine cu.mpr ?_;rw[fE];have E:=(cu (n:=m) (k:=max (ln m) (ln n))).mp (Nat.le_max_left _ _);have G:=(cu (n:=n) (k:=max (ln m) (ln n))).mp (wK _ _);omega
theorem C9 {n:Nat}(h:n≠0):0<ln n:=List.length_pos_iff.mpr (iH h)
theorem lS {n:Nat}(h:n<1000000000):ln n<=1:=cu.mpr (by show(n:Int)<1000000000;omega)
theorem amD {n:Nat}(h:n<=9223372036854775807):ln n<=3:=CZ h
theorem qp {n:Nat}(h:ln n<=1000000):Short (dg n):=by unfold ln at h;unfold Short;omega
end Go.Proofs.YtehdaknhabeiaaaGreat
